/- That which degrees are right, what any pair lacks, and which edges are a factor, is told right of any graph, and that what is handed in stays, is proved for every input of the given size. -/
import Derived.Test.YtepjcfbigcfkfaaTd3
import Derived.Test.YtepjcfbigcfkfaaGeooimb5
import Derived.WalkKit
import Derived.ProofKit
import Derived.OpenShut
import Derived.JoinedCond
set_option linter.all false
set_option maxRecDepth 100000
set_option maxHeartbeats 2000000
namespace Go.Proofs.Ytepjcfbigcfkfaa
open Go Go.Ga Go.Ga.Gl
theorem risesI_ok (l : List Int) (hb : l.length ≤ 1000000000) : ACalls Try.prog [] n_garlandhelp_Rises [.imm 1 (ints l)] [] fun r h' => r = .sc (.bool (decide (l.Pairwise (· < ·)))) ∧ h' = [] := by
  refine go_garlandhelp_Rises rfl ?_
  unfold c_garlandhelp_Rises v_garlandhelp_Rises
  refine wlk_sreg fun KY hKY => ?_
  simp only [go_sem, reduceIte, Nat.reduceEqDiff, reduceCtorEq, c_garlandhelp_Rises_r0]
  refine hKY _ ?_
  refine wlk_seq fun X1 hn1 he1 hr1 => ?_
  refine wlk_sreg fun KY hKY => ?_
  simp only [go_sem, reduceIte, Nat.reduceEqDiff, reduceCtorEq, c_garlandhelp_Rises_r1]
  refine hKY _ ?_
  refine wlk_blk fun X2 hn2 he2 hf2 hr2 => ?_
  try simp only [go_sem, reduceIte, Nat.reduceEqDiff, reduceCtorEq]
  refine wlk_lp (α := Nat) [7, 19] (fun k => [(3, .sc (.int .i64 ((k + 1 : Nat) : Int)))]) (fun k => []) (fun k q => q = l.length - k ∧ (∀ i a b, i < k → l[i]? = some a → l[i + 1]? = some b → a < b)) (0) (l.length) rfl (by first | (simp only [go_sem, reduceIte, Nat.reduceEqDiff, reduceCtorEq, updAll_cons, updAll_nil]; done) | with_reducible rfl | rfl) (⟨rfl, fun i a b h => by omega⟩) ?_
  rintro k q ⟨rfl, hz⟩ X3 hn3 he3 hr3
  simp only [go_sem, reduceIte, Nat.reduceEqDiff, reduceCtorEq, updAll_cons, updAll_nil]
  refine wlk_seq fun X4 hn4 he4 hr4 => ?_
  by_cases hk2 : k + 1 < l.length
  · refine wlk_sreg fun KY hKY => ?_
    simp only [go_sem, reduceIte, Nat.reduceEqDiff, reduceCtorEq, c_garlandhelp_Rises_r2, ints_len]
    refine hKY _ ?_
    refine wlk_cond1 (by first | rfl | (simp only [go_sem, reduceIte, Nat.reduceEqDiff, reduceCtorEq]; try simp (disch := omega) only [decide_eq_true])) ?_
    refine wlk_skip ?_
    repeat (first | refine hn4 _ ?_ | refine he4 _ _ ?_ | refine he3 _ _ ?_ | refine hn2 _ ?_ | refine he2 _ ?_ | refine hf2 _ _ (by decide) ?_ | refine hn1 _ ?_ | refine he1 _ _ ?_)
    refine wlk_seq fun X5 hn5 he5 hr5 => ?_
    refine wlk_blk fun X6 hn6 he6 hf6 hr6 => ?_
    have hk3 : k < l.length := by omega
    have hx : l[k + 1]? = some (l.getD (k + 1) 0) := by rw [List.getD_eq_getElem?_getD, List.getElem?_eq_getElem hk2]; rfl
    have hy : l[k]? = some (l.getD k 0) := by rw [List.getD_eq_getElem?_getD, List.getElem?_eq_getElem hk3]; rfl
    by_cases hle : l.getD (k + 1) 0 ≤ l.getD k 0
    · refine wlk_sdraw fun KY hKY => ?_
      simp only [go_sem, reduceIte, Nat.reduceEqDiff, reduceCtorEq, c_garlandhelp_Rises_r3, ints_len]
      repeat (simp (disch := omega) only [if_pos, if_neg, decide_eq_true]; try simp only [go_sem, reduceIte, Nat.reduceEqDiff, reduceCtorEq, ints_get hk2, ints_get hk3, ints_len, decS (show k < 4611686018427387904 by omega), hle])
      refine hKY _ ?_
      refine wlk_cond1 rfl ?_
      refine wlk_sreg fun KY hKY => ?_
      simp only [go_sem, reduceIte, Nat.reduceEqDiff, reduceCtorEq, c_garlandhelp_Rises_r4]
      refine hKY _ ?_
      refine wlk_ret ?_
      repeat (first | refine hr6 _ ?_ | refine hr5 _ ?_ | refine hr4 _ ?_ | refine hr3 _ ?_ | refine hr2 _ ?_ | refine hr1 _ ?_)
      simp only [go_sem, reduceIte, Nat.reduceEqDiff, reduceCtorEq]
      rw [decide_eq_false]
      intro hp
      have := List.pairwise_iff_getElem.1 hp k (k + 1) hk3 hk2 (by omega)
      rw [List.getElem?_eq_getElem hk2, Option.some.injEq] at hx
      rw [List.getElem?_eq_getElem hk3, Option.some.injEq] at hy
      omega
    · refine wlk_sdraw fun KY hKY => ?_
      simp only [go_sem, reduceIte, Nat.reduceEqDiff, reduceCtorEq, c_garlandhelp_Rises_r3, ints_len]
      repeat (simp (disch := omega) only [if_pos, if_neg, decide_eq_true]; try simp only [go_sem, reduceIte, Nat.reduceEqDiff, reduceCtorEq, ints_get hk2, ints_get hk3, ints_len, decS (show k < 4611686018427387904 by omega), hle])
      refine hKY _ ?_
      refine wlk_cond0 rfl ?_
      refine wlk_skip ?_
      repeat (first | refine hn6 _ ?_ | refine he6 _ ?_ | refine hf6 _ _ (by decide) ?_ | refine hn5 _ ?_ | refine he5 _ _ ?_ | refine hn4 _ ?_ | refine he4 _ _ ?_ | refine he3 _ _ ?_ | refine hn2 _ ?_ | refine he2 _ ?_ | refine hf2 _ _ (by decide) ?_ | refine hn1 _ ?_ | refine he1 _ _ ?_)
      refine wlk_reg fun KY hKY => ?_
      simp only [go_sem, reduceIte, Nat.reduceEqDiff, reduceCtorEq, c_garlandhelp_Rises_r5, inc (k + 1) (by omega)]
      refine hKY _ ?_
      repeat (first | refine hn6 _ ?_ | refine he6 _ ?_ | refine hf6 _ _ (by decide) ?_ | refine hn5 _ ?_ | refine he5 _ _ ?_ | refine hn4 _ ?_ | refine he4 _ _ ?_)
      refine hn3 _ (k + 1) (l.length - (k + 1)) (by omega) (by first | (simp only [go_sem, reduceIte, Nat.reduceEqDiff, reduceCtorEq, updAll_cons, updAll_nil]; done) | with_reducible rfl) ?_
      refine ⟨rfl, fun i a b hi ha hb => ?_⟩
      rcases Nat.lt_or_ge i k with h | h
      · exact hz i a b h ha hb
      · obtain rfl : i = k := by omega
        rw [hy] at ha; rw [hx] at hb
        cases ha; cases hb; omega
  · refine wlk_sreg fun KY hKY => ?_
    simp only [go_sem, reduceIte, Nat.reduceEqDiff, reduceCtorEq, c_garlandhelp_Rises_r2, ints_len]
    refine hKY _ ?_
    refine wlk_cond0 (by first | rfl | (simp only [go_sem, reduceIte, Nat.reduceEqDiff, reduceCtorEq]; try simp (disch := omega) only [decide_eq_false])) ?_
    refine wlk_exit ?_
    repeat (first | refine hn4 _ ?_ | refine he4 _ _ ?_ | refine he3 _ _ ?_ | refine hn2 _ ?_ | refine he2 _ ?_ | refine hf2 _ _ (by decide) ?_ | refine hn1 _ ?_ | refine he1 _ _ ?_)
    refine wlk_sreg fun KY hKY => ?_
    simp only [go_sem, reduceIte, Nat.reduceEqDiff, reduceCtorEq, c_garlandhelp_Rises_r6]
    refine hKY _ ?_
    refine wlk_ret ?_
    repeat (first | refine hr4 _ ?_ | refine hr3 _ ?_ | refine hr2 _ ?_ | refine hr1 _ ?_)
    simp only [go_sem, reduceIte, Nat.reduceEqDiff, reduceCtorEq]
    rw [decide_eq_true]
    refine pairwise_of_next (fun a b c h1 h2 => by omega) fun i a b ha hb => ?_
    have := (List.getElem?_eq_some_iff.1 hb).1
    exact hz i a b (by omega) ha hb
theorem vertices_ok (N : Nat) (es : List (Int × Int)) (l : List Int) (hb : l.length ≤ 1000000000) : ACalls Try.prog [] n_garlandref23_vertices [.agg [.sc (.int .i64 (N : Int)), .imm 2 (twos es)], .imm 1 (ints l)] [] fun r h' => r = .sc (.bool (upB N l)) ∧ h' = [] := by
  refine ACalls.trim ?_
  refine go_garlandref23_vertices rfl ?_
  unfold c_garlandref23_vertices v_garlandref23_vertices
  refine wlk_sreg fun KY hKY => ?_
  simp only [go_sem, reduceIte, Nat.reduceEqDiff, reduceCtorEq, c_garlandref23_vertices_r0]
  refine hKY _ ?_
  refine wlk_seq fun X1 hn1 he1 hr1 => ?_
  refine wlk_sreg fun KY hKY => ?_
  simp only [go_sem, reduceIte, Nat.reduceEqDiff, reduceCtorEq, c_garlandref23_vertices_r1]
  refine hKY _ ?_
  refine wlk_blk fun X2 hn2 he2 hf2 hr2 => ?_
  try simp only [go_sem, reduceIte, Nat.reduceEqDiff, reduceCtorEq]
  refine wlk_lp (α := Nat) [9, 18] (fun k => [(5, .sc (.int .i64 (k : Int)))]) (fun k => []) (fun k q => k ≤ l.length ∧ q = l.length - k ∧ (∀ i, i < k → 0 ≤ l.getD i 0 ∧ l.getD i 0 < N)) (0) (l.length) rfl (by first | (simp only [go_sem, reduceIte, Nat.reduceEqDiff, reduceCtorEq, updAll_cons, updAll_nil]; done) | with_reducible rfl | rfl) (⟨by omega, rfl, fun i h => by omega⟩) ?_
  rintro k q ⟨hk, rfl, hz⟩ X3 hn3 he3 hr3
  simp only [go_sem, reduceIte, Nat.reduceEqDiff, reduceCtorEq, updAll_cons, updAll_nil]
  refine wlk_seq fun X4 hn4 he4 hr4 => ?_
  by_cases hk2 : k < l.length
  · refine wlk_sreg fun KY hKY => ?_
    simp only [go_sem, reduceIte, Nat.reduceEqDiff, reduceCtorEq, c_garlandref23_vertices_r2, ints_len]
    refine hKY _ ?_
    refine wlk_cond1 (by first | rfl | (simp only [go_sem, reduceIte, Nat.reduceEqDiff, reduceCtorEq]; try simp (disch := omega) only [decide_eq_true])) ?_
    refine wlk_skip ?_
    repeat (first | refine hn4 _ ?_ | refine he4 _ _ ?_ | refine he3 _ _ ?_ | refine hn2 _ ?_ | refine he2 _ ?_ | refine hf2 _ _ (by decide) ?_ | refine hn1 _ ?_ | refine he1 _ _ ?_)
    refine wlk_seq fun X5 hn5 he5 hr5 => ?_
    refine wlk_blk fun X6 hn6 he6 hf6 hr6 => ?_
    by_cases hv : 0 ≤ l.getD k 0 ∧ l.getD k 0 < N
    · have hd : (decide (0 ≤ l.getD k 0) && decide (l.getD k 0 < N)) = true := by rw [decide_eq_true hv.1, decide_eq_true hv.2]; rfl
      refine wlk_sdraw fun KY hKY => ?_
      simp only [go_sem, reduceIte, Nat.reduceEqDiff, Nat.reduceBEq, reduceCtorEq, Nat.reduceLT, Nat.reduceAdd, c_garlandref23_vertices_r3, ints_len]
      repeat (simp (disch := omega) only [if_pos, decide_eq_true]; try simp only [go_sem, reduceIte, ints_get hk2])
      refine call_view rfl (by simp only [go_sem, reduceIte, Nat.reduceEqDiff, reduceCtorEq] <;> rfl) ((is_ok N (l.getD k 0) es).mono ?_)
      rintro rr hh ⟨rfl, rfl⟩
      refine ⟨rfl, rfl, rfl, ?_⟩
      simp only [go_sem, reduceIte, Nat.reduceEqDiff, reduceCtorEq, hd]
      refine hKY _ ?_
      refine wlk_cond0 rfl ?_
      refine wlk_skip ?_
      repeat (first | refine hn6 _ ?_ | refine he6 _ ?_ | refine hf6 _ _ (by decide) ?_ | refine hn5 _ ?_ | refine he5 _ _ ?_ | refine hn4 _ ?_ | refine he4 _ _ ?_ | refine he3 _ _ ?_ | refine hn2 _ ?_ | refine he2 _ ?_ | refine hf2 _ _ (by decide) ?_ | refine hn1 _ ?_ | refine he1 _ _ ?_)
      refine wlk_reg fun KY hKY => ?_
      simp only [go_sem, reduceIte, Nat.reduceEqDiff, reduceCtorEq, c_garlandref23_vertices_r5, inc k (by omega)]
      refine hKY _ ?_
      repeat (first | refine hn6 _ ?_ | refine he6 _ ?_ | refine hf6 _ _ (by decide) ?_ | refine hn5 _ ?_ | refine he5 _ _ ?_ | refine hn4 _ ?_ | refine he4 _ _ ?_)
      refine hn3 _ (k + 1) (l.length - (k + 1)) (by omega) (by first | (simp only [go_sem, reduceIte, Nat.reduceEqDiff, reduceCtorEq, updAll_cons, updAll_nil]; done) | with_reducible rfl) ?_
      refine ⟨hk2, rfl, fun i hi => ?_⟩
      rcases Nat.lt_or_ge i k with h | h
      · exact hz i h
      · obtain rfl : i = k := by omega
        exact hv
    · have hd : (decide (0 ≤ l.getD k 0) && decide (l.getD k 0 < N)) = false := by
        rw [Bool.eq_false_iff]; intro h; rw [Bool.and_eq_true, decide_eq_true_iff, decide_eq_true_iff] at h; exact hv h
      refine wlk_sdraw fun KY hKY => ?_
      simp only [go_sem, reduceIte, Nat.reduceEqDiff, Nat.reduceBEq, reduceCtorEq, Nat.reduceLT, Nat.reduceAdd, c_garlandref23_vertices_r3, ints_len]
      repeat (simp (disch := omega) only [if_pos, decide_eq_true]; try simp only [go_sem, reduceIte, ints_get hk2])
      refine call_view rfl (by simp only [go_sem, reduceIte, Nat.reduceEqDiff, reduceCtorEq] <;> rfl) ((is_ok N (l.getD k 0) es).mono ?_)
      rintro rr hh ⟨rfl, rfl⟩
      refine ⟨rfl, rfl, rfl, ?_⟩
      simp only [go_sem, reduceIte, Nat.reduceEqDiff, reduceCtorEq, hd]
      refine hKY _ ?_
      refine wlk_cond1 rfl ?_
      refine wlk_sreg fun KY hKY => ?_
      simp only [go_sem, reduceIte, Nat.reduceEqDiff, reduceCtorEq, c_garlandref23_vertices_r4]
      refine hKY _ ?_
      refine wlk_ret ?_
      repeat (first | refine hr6 _ ?_ | refine hr5 _ ?_ | refine hr4 _ ?_ | refine hr3 _ ?_ | refine hr2 _ ?_ | refine hr1 _ ?_)
      simp only [go_sem, reduceIte, Nat.reduceEqDiff, reduceCtorEq]
      unfold upB
      rw [show (l.all fun v => decide (0 ≤ v) && decide (v < N)) = false from ?_]; rfl
      rw [Bool.eq_false_iff]; intro h
      rw [List.all_eq_true] at h
      have := h (l.getD k 0) (by rw [List.getD_eq_getElem?_getD, List.getElem?_eq_getElem hk2]; exact List.getElem_mem hk2)
      rw [hd] at this; cases this
  · refine wlk_sreg fun KY hKY => ?_
    simp only [go_sem, reduceIte, Nat.reduceEqDiff, reduceCtorEq, c_garlandref23_vertices_r2, ints_len]
    refine hKY _ ?_
    refine wlk_cond0 (by first | rfl | (simp only [go_sem, reduceIte, Nat.reduceEqDiff, reduceCtorEq]; try simp (disch := omega) only [decide_eq_false])) ?_
    refine wlk_exit ?_
    repeat (first | refine hn4 _ ?_ | refine he4 _ _ ?_ | refine he3 _ _ ?_ | refine hn2 _ ?_ | refine he2 _ ?_ | refine hf2 _ _ (by decide) ?_ | refine hn1 _ ?_ | refine he1 _ _ ?_)
    have hall : (l.all fun v => decide (0 ≤ v) && decide (v < N)) = true := by
      rw [List.all_eq_true]
      intro x hx
      obtain ⟨i, hi, rfl⟩ := List.mem_iff_getElem.1 hx
      have := hz i (by omega)
      rw [List.getD_eq_getElem?_getD, List.getElem?_eq_getElem hi] at this
      rw [Bool.and_eq_true, decide_eq_true_iff, decide_eq_true_iff]; exact this
    refine wlk_sreg fun KY hKY => ?_
    simp only [go_sem, reduceIte, Nat.reduceEqDiff, reduceCtorEq, c_garlandref23_vertices_r6]
    refine call_view rfl (by simp only [go_sem, reduceIte, Nat.reduceEqDiff, reduceCtorEq] <;> rfl) ((risesI_ok l hb).mono ?_)
    rintro rr hh ⟨rfl, rfl⟩
    refine ⟨rfl, rfl, rfl, ?_⟩
    simp only [go_sem, reduceIte, Nat.reduceEqDiff, reduceCtorEq]
    refine hKY _ ?_
    refine wlk_ret ?_
    repeat (first | refine hr4 _ ?_ | refine hr3 _ ?_ | refine hr2 _ ?_ | refine hr1 _ ?_)
    simp only [go_sem, reduceIte, Nat.reduceEqDiff, reduceCtorEq]
    unfold upB
    rw [hall]; rfl
theorem low_snoc {es : Es} {k a b : Nat} (h : es[k]? = some (a, b)) (v : Nat) : lowOf (es.take (k + 1)) v = lowOf (es.take k) v ++ if b = v then [a] else [] := by
  unfold lowOf
  rw [List.take_add_one, h, List.filter_append, List.map_append]
  congr 1
  by_cases hb : b = v
  · simp [hb]
  · simp [hb]
theorem high_snoc {es : Es} {k a b : Nat} (h : es[k]? = some (a, b)) (v : Nat) : highOf (es.take (k + 1)) v = highOf (es.take k) v ++ if a = v then [b] else [] := by
  unfold highOf
  rw [List.take_add_one, h, List.filter_append, List.map_append]
  congr 1
  by_cases hb : a = v
  · simp [hb]
  · simp [hb]
theorem near_ok {N : Nat} {es : Es} (g : GR N es) (v : Nat) : ACalls Try.prog [] n_garlandref02_Near [.agg [.sc (.int .i64 (N : Int)), .imm 2 (twos (castE es))], .sc (.int .i64 (v : Int))] [] fun r h' => r = .own (some 1) (nats (nearOf es v)) ∧ h' = [] := by
  refine ACalls.trim ?_
  have hem := g.hm
  have hr := rright_ok N (castE es)
  rw [rightB_GR g] at hr
  refine go_garlandref02_Near rfl ?_
  unfold c_garlandref02_Near v_garlandref02_Near
  refine wlk_sreg fun KY hKY => ?_
  simp only [go_sem, reduceIte, Nat.reduceEqDiff, reduceCtorEq, c_garlandref02_Near_r0]
  refine hKY _ ?_
  refine wlk_seq fun X1 hn1 he1 hr1 => ?_
  refine wlk_sreg fun KY hKY => ?_
  simp only [go_sem, reduceIte, Nat.reduceEqDiff, reduceCtorEq, Nat.reduceLT, Nat.reduceAdd, c_garlandref02_Near_r1]
  refine call_view rfl (by simp only [go_sem, reduceIte, Nat.reduceEqDiff, reduceCtorEq] <;> rfl) ((hr).mono ?_)
  rintro rr hh ⟨rfl, rfl⟩
  refine ⟨rfl, rfl, rfl, ?_⟩
  simp only [go_sem, reduceIte, Nat.reduceEqDiff, reduceCtorEq]
  refine hKY _ ?_
  refine wlk_cond0 rfl ?_
  refine wlk_skip ?_
  repeat (first | refine hn1 _ ?_ | refine he1 _ _ ?_)
  refine wlk_sreg fun KY hKY => ?_
  simp only [go_sem, reduceIte, Nat.reduceEqDiff, reduceCtorEq, c_garlandref02_Near_r3]
  refine hKY _ ?_
  refine sem_nil [0, 5] 1 (by simp only [go_sem, reduceIte, Nat.reduceEqDiff, reduceCtorEq]) ?_
  simp only [go_sem, reduceIte, Nat.reduceEqDiff, reduceCtorEq]
  refine sem_nil [0, 6] 1 (by simp only [go_sem, reduceIte, Nat.reduceEqDiff, reduceCtorEq]) ?_
  simp only [go_sem, reduceIte, Nat.reduceEqDiff, reduceCtorEq]
  refine wlk_seq fun X2 hn2 he2 hr2 => ?_
  refine wlk_sreg fun KY hKY => ?_
  simp only [go_sem, reduceIte, Nat.reduceEqDiff, reduceCtorEq, c_garlandref02_Near_r4]
  refine hKY _ ?_
  refine wlk_blk fun X3 hn3 he3 hf3 hr3 => ?_
  try simp only [go_sem, reduceIte, Nat.reduceEqDiff, reduceCtorEq]
  refine wlk_lp (α := Nat) [15, 25, 42] (fun k => [(5, .own (some 1) (nats (lowOf (es.take k) v))), (6, .own (some 1) (nats (highOf (es.take k) v))), (7, .sc (.int .i64 (k : Int)))]) (fun k => []) (fun k q => k ≤ es.length ∧ q = es.length - k) (0) (es.length) rfl (by first | (simp only [go_sem, reduceIte, Nat.reduceEqDiff, reduceCtorEq, updAll_cons, updAll_nil]; done) | with_reducible rfl | rfl) (⟨by omega, rfl⟩) ?_
  rintro k q ⟨hk, rfl⟩ X4 hn4 he4 hr4
  simp only [go_sem, reduceIte, Nat.reduceEqDiff, reduceCtorEq, updAll_cons, updAll_nil]
  refine wlk_seq fun X5 hn5 he5 hr5 => ?_
  by_cases hk2 : k < es.length
  · refine wlk_sreg fun KY hKY => ?_
    simp only [go_sem, reduceIte, Nat.reduceEqDiff, reduceCtorEq, c_garlandref02_Near_r5, twos_len, mul2, castE_len]
    refine hKY _ ?_
    refine wlk_cond1 (by first | rfl | (simp only [go_sem, reduceIte, Nat.reduceEqDiff, reduceCtorEq]; try simp (disch := omega) only [decide_eq_true])) ?_
    refine wlk_skip ?_
    repeat (first | refine hn5 _ ?_ | refine he5 _ _ ?_ | refine he4 _ _ ?_ | refine hn3 _ ?_ | refine he3 _ ?_ | refine hf3 _ _ (by decide) ?_ | refine hn2 _ ?_ | refine he2 _ _ ?_ | refine hn1 _ ?_ | refine he1 _ _ ?_)
    refine wlk_seq fun X6 hn6 he6 hr6 => ?_
    refine wlk_blk fun X7 hn7 he7 hf7 hr7 => ?_
    have hx : es[k]? = some es[k] := List.getElem?_eq_getElem hk2
    generalize es[k] = x at hx
    obtain ⟨a, b⟩ := x
    have hxc := castE_get hx
    have hls := low_snoc hx v
    have hhs := high_snoc hx v
    have hll : (lowOf (es.take k) v).length ≤ 65536 := by
      unfold lowOf; rw [List.length_map]
      exact Nat.le_trans (List.length_filter_le _ _) (by rw [List.length_take]; omega)
    have hhl : (highOf (es.take k) v).length ≤ 65536 := by
      unfold highOf; rw [List.length_map]
      exact Nat.le_trans (List.length_filter_le _ _) (by rw [List.length_take]; omega)
    have hb1 : ((lowOf (es.take k) v).length + 1) * 8 ≤ 140737488355328 := by omega
    have hb2 : ((highOf (es.take k) v).length + 1) * 8 ≤ 140737488355328 := by omega
    have h2 : k * 2 + 1 < es.length * 2 := by omega
    refine wlk_seq fun X8 hn8 he8 hr8 => ?_
    by_cases hbv : b = v
    · have d1 : decide ((b : Int) = (v : Int)) = true := decide_eq_true (by omega)
      rw [if_pos hbv] at hls
      refine wlk_sreg fun KY hKY => ?_
      simp only [go_sem, reduceIte, Nat.reduceEqDiff, reduceCtorEq, c_garlandref02_Near_r6, h2, two_get1 hxc, twos_len, castE_len, d1]
      refine hKY _ ?_
      refine wlk_cond1 rfl ?_
      refine wlk_reg fun KY hKY => ?_
      simp only [go_sem, reduceIte, Nat.reduceEqDiff, Nat.reduceBEq, reduceCtorEq, Nat.reduceLT, c_garlandref02_Near_r7, h2, two_get0 hxc, twos_len, castE_len, nats_snoc, hb1, ← hls]
      refine hKY _ ?_
      repeat (first | refine hn8 _ ?_ | refine he8 _ _ ?_ | refine hn7 _ ?_ | refine he7 _ ?_ | refine hf7 _ _ (by decide) ?_ | refine hn6 _ ?_ | refine he6 _ _ ?_ | refine hn5 _ ?_ | refine he5 _ _ ?_ | refine he4 _ _ ?_ | refine hn3 _ ?_ | refine he3 _ ?_ | refine hf3 _ _ (by decide) ?_ | refine hn2 _ ?_ | refine he2 _ _ ?_ | refine hn1 _ ?_ | refine he1 _ _ ?_)
      by_cases hav : a = v
      · have d2 : decide ((a : Int) = (v : Int)) = true := decide_eq_true (by omega)
        rw [if_pos hav] at hhs
        refine wlk_sreg fun KY hKY => ?_
        simp only [go_sem, reduceIte, Nat.reduceEqDiff, reduceCtorEq, c_garlandref02_Near_r8, h2, two_get0 hxc, twos_len, castE_len, d2]
        refine hKY _ ?_
        refine wlk_cond1 rfl ?_
        refine wlk_reg fun KY hKY => ?_
        simp only [go_sem, reduceIte, Nat.reduceEqDiff, Nat.reduceBEq, reduceCtorEq, Nat.reduceLT, c_garlandref02_Near_r9, h2, two_get1 hxc, twos_len, castE_len, nats_snoc, hb2, ← hhs]
        refine hKY _ ?_
        repeat (first | refine hn8 _ ?_ | refine he8 _ _ ?_ | refine hn7 _ ?_ | refine he7 _ ?_ | refine hf7 _ _ (by decide) ?_ | refine hn6 _ ?_ | refine he6 _ _ ?_ | refine hn5 _ ?_ | refine he5 _ _ ?_ | refine he4 _ _ ?_ | refine hn3 _ ?_ | refine he3 _ ?_ | refine hf3 _ _ (by decide) ?_ | refine hn2 _ ?_ | refine he2 _ _ ?_ | refine hn1 _ ?_ | refine he1 _ _ ?_)
        refine wlk_reg fun KY hKY => ?_
        simp only [go_sem, reduceIte, Nat.reduceEqDiff, reduceCtorEq, c_garlandref02_Near_r10, inc k (by omega)]
        refine hKY _ ?_
        repeat (first | refine hn8 _ ?_ | refine he8 _ _ ?_ | refine hn7 _ ?_ | refine he7 _ ?_ | refine hf7 _ _ (by decide) ?_ | refine hn6 _ ?_ | refine he6 _ _ ?_ | refine hn5 _ ?_ | refine he5 _ _ ?_)
        refine hn4 _ (k + 1) (es.length - (k + 1)) (by omega) (by first | (simp only [go_sem, reduceIte, Nat.reduceEqDiff, reduceCtorEq, updAll_cons, updAll_nil]; done) | with_reducible rfl) ?_
        exact ⟨hk2, rfl⟩
      · have d2 : decide ((a : Int) = (v : Int)) = false := decide_eq_false (by omega)
        rw [if_neg hav, List.append_nil] at hhs
        refine wlk_sreg fun KY hKY => ?_
        simp only [go_sem, reduceIte, Nat.reduceEqDiff, reduceCtorEq, c_garlandref02_Near_r8, h2, two_get0 hxc, twos_len, castE_len, d2]
        refine hKY _ ?_
        refine wlk_cond0 rfl ?_
        refine wlk_skip ?_
        repeat (first | refine hn8 _ ?_ | refine he8 _ _ ?_ | refine hn7 _ ?_ | refine he7 _ ?_ | refine hf7 _ _ (by decide) ?_ | refine hn6 _ ?_ | refine he6 _ _ ?_ | refine hn5 _ ?_ | refine he5 _ _ ?_ | refine he4 _ _ ?_ | refine hn3 _ ?_ | refine he3 _ ?_ | refine hf3 _ _ (by decide) ?_ | refine hn2 _ ?_ | refine he2 _ _ ?_ | refine hn1 _ ?_ | refine he1 _ _ ?_)
        refine wlk_reg fun KY hKY => ?_
        simp only [go_sem, reduceIte, Nat.reduceEqDiff, reduceCtorEq, c_garlandref02_Near_r10, inc k (by omega), ← hhs]
        refine hKY _ ?_
        repeat (first | refine hn8 _ ?_ | refine he8 _ _ ?_ | refine hn7 _ ?_ | refine he7 _ ?_ | refine hf7 _ _ (by decide) ?_ | refine hn6 _ ?_ | refine he6 _ _ ?_ | refine hn5 _ ?_ | refine he5 _ _ ?_)
        refine hn4 _ (k + 1) (es.length - (k + 1)) (by omega) (by first | (simp only [go_sem, reduceIte, Nat.reduceEqDiff, reduceCtorEq, updAll_cons, updAll_nil]; done) | with_reducible rfl) ?_
        exact ⟨hk2, rfl⟩
    · have d1 : decide ((b : Int) = (v : Int)) = false := decide_eq_false (by omega)
      rw [if_neg hbv, List.append_nil] at hls
      refine wlk_sreg fun KY hKY => ?_
      simp only [go_sem, reduceIte, Nat.reduceEqDiff, reduceCtorEq, c_garlandref02_Near_r6, h2, two_get1 hxc, twos_len, castE_len, d1]
      refine hKY _ ?_
      refine wlk_cond0 rfl ?_
      refine wlk_skip ?_
      repeat (first | refine hn8 _ ?_ | refine he8 _ _ ?_ | refine hn7 _ ?_ | refine he7 _ ?_ | refine hf7 _ _ (by decide) ?_ | refine hn6 _ ?_ | refine he6 _ _ ?_ | refine hn5 _ ?_ | refine he5 _ _ ?_ | refine he4 _ _ ?_ | refine hn3 _ ?_ | refine he3 _ ?_ | refine hf3 _ _ (by decide) ?_ | refine hn2 _ ?_ | refine he2 _ _ ?_ | refine hn1 _ ?_ | refine he1 _ _ ?_)
      by_cases hav : a = v
      · have d2 : decide ((a : Int) = (v : Int)) = true := decide_eq_true (by omega)
        rw [if_pos hav] at hhs
        refine wlk_sreg fun KY hKY => ?_
        simp only [go_sem, reduceIte, Nat.reduceEqDiff, reduceCtorEq, c_garlandref02_Near_r8, h2, two_get0 hxc, twos_len, castE_len, d2]
        refine hKY _ ?_
        refine wlk_cond1 rfl ?_
        refine wlk_reg fun KY hKY => ?_
        simp only [go_sem, reduceIte, Nat.reduceEqDiff, Nat.reduceBEq, reduceCtorEq, Nat.reduceLT, c_garlandref02_Near_r9, h2, two_get1 hxc, twos_len, castE_len, nats_snoc, hb2, ← hhs]
        refine hKY _ ?_
        repeat (first | refine hn8 _ ?_ | refine he8 _ _ ?_ | refine hn7 _ ?_ | refine he7 _ ?_ | refine hf7 _ _ (by decide) ?_ | refine hn6 _ ?_ | refine he6 _ _ ?_ | refine hn5 _ ?_ | refine he5 _ _ ?_ | refine he4 _ _ ?_ | refine hn3 _ ?_ | refine he3 _ ?_ | refine hf3 _ _ (by decide) ?_ | refine hn2 _ ?_ | refine he2 _ _ ?_ | refine hn1 _ ?_ | refine he1 _ _ ?_)
        refine wlk_reg fun KY hKY => ?_
        simp only [go_sem, reduceIte, Nat.reduceEqDiff, reduceCtorEq, c_garlandref02_Near_r10, inc k (by omega), ← hls]
        refine hKY _ ?_
        repeat (first | refine hn8 _ ?_ | refine he8 _ _ ?_ | refine hn7 _ ?_ | refine he7 _ ?_ | refine hf7 _ _ (by decide) ?_ | refine hn6 _ ?_ | refine he6 _ _ ?_ | refine hn5 _ ?_ | refine he5 _ _ ?_)
        refine hn4 _ (k + 1) (es.length - (k + 1)) (by omega) (by first | (simp only [go_sem, reduceIte, Nat.reduceEqDiff, reduceCtorEq, updAll_cons, updAll_nil]; done) | with_reducible rfl) ?_
        exact ⟨hk2, rfl⟩
      · have d2 : decide ((a : Int) = (v : Int)) = false := decide_eq_false (by omega)
        rw [if_neg hav, List.append_nil] at hhs
        refine wlk_sreg fun KY hKY => ?_
        simp only [go_sem, reduceIte, Nat.reduceEqDiff, reduceCtorEq, c_garlandref02_Near_r8, h2, two_get0 hxc, twos_len, castE_len, d2]
        refine hKY _ ?_
        refine wlk_cond0 rfl ?_
        refine wlk_skip ?_
        repeat (first | refine hn8 _ ?_ | refine he8 _ _ ?_ | refine hn7 _ ?_ | refine he7 _ ?_ | refine hf7 _ _ (by decide) ?_ | refine hn6 _ ?_ | refine he6 _ _ ?_ | refine hn5 _ ?_ | refine he5 _ _ ?_ | refine he4 _ _ ?_ | refine hn3 _ ?_ | refine he3 _ ?_ | refine hf3 _ _ (by decide) ?_ | refine hn2 _ ?_ | refine he2 _ _ ?_ | refine hn1 _ ?_ | refine he1 _ _ ?_)
        refine wlk_reg fun KY hKY => ?_
        simp only [go_sem, reduceIte, Nat.reduceEqDiff, reduceCtorEq, c_garlandref02_Near_r10, inc k (by omega), ← hls, ← hhs]
        refine hKY _ ?_
        repeat (first | refine hn8 _ ?_ | refine he8 _ _ ?_ | refine hn7 _ ?_ | refine he7 _ ?_ | refine hf7 _ _ (by decide) ?_ | refine hn6 _ ?_ | refine he6 _ _ ?_ | refine hn5 _ ?_ | refine he5 _ _ ?_)
        refine hn4 _ (k + 1) (es.length - (k + 1)) (by omega) (by first | (simp only [go_sem, reduceIte, Nat.reduceEqDiff, reduceCtorEq, updAll_cons, updAll_nil]; done) | with_reducible rfl) ?_
        exact ⟨hk2, rfl⟩
  · refine wlk_sreg fun KY hKY => ?_
    simp only [go_sem, reduceIte, Nat.reduceEqDiff, reduceCtorEq, c_garlandref02_Near_r5, twos_len, mul2, castE_len]
    refine hKY _ ?_
    refine wlk_cond0 (by first | rfl | (simp only [go_sem, reduceIte, Nat.reduceEqDiff, reduceCtorEq]; try simp (disch := omega) only [decide_eq_false])) ?_
    refine wlk_exit ?_
    repeat (first | refine hn5 _ ?_ | refine he5 _ _ ?_ | refine he4 _ _ ?_ | refine hn3 _ ?_ | refine he3 _ ?_ | refine hf3 _ _ (by decide) ?_ | refine hn2 _ ?_ | refine he2 _ _ ?_ | refine hn1 _ ?_ | refine he1 _ _ ?_)
    have hke : k = es.length := by omega
    subst hke
    rw [List.take_length]
    have hby : ((lowOf es v).length + (highOf es v).length) * 8 ≤ 140737488355328 := by
      have h1 : (lowOf es v).length ≤ es.length := by unfold lowOf; rw [List.length_map]; exact List.length_filter_le _ _
      have h2 : (highOf es v).length ≤ es.length := by unfold highOf; rw [List.length_map]; exact List.length_filter_le _ _
      omega
    have hna : nats (lowOf es v) ++ nats (highOf es v) = nats (nearOf es v) := by simp [nats, nearOf]
    refine wlk_sreg fun KY hKY => ?_
    simp only [go_sem, reduceIte, Nat.reduceEqDiff, Nat.reduceBEq, reduceCtorEq, c_garlandref02_Near_r11, hby, hna]
    refine hKY _ ?_
    refine wlk_ret ?_
    repeat (first | refine hr5 _ ?_ | refine hr4 _ ?_ | refine hr3 _ ?_ | refine hr2 _ ?_ | refine hr1 _ ?_)
    simp only [go_sem, reduceIte, Nat.reduceEqDiff, reduceCtorEq]
end Go.Proofs.Ytepjcfbigcfkfaa
set_option maxRecDepth 100000
set_option maxHeartbeats 4000000
namespace Go.Proofs.Ytepjcfbigcfkfaa
open Go Go.Ga Go.Ga.Gl
theorem rlackE_ok (n : Int) (es : List (Int × Int)) (fs S T : List Int) (hf : fs.length ≤ 1000000) (h : tErr n es fs ≠ 0) : ACalls Try.prog [] n_garlandref23_Lack [.agg [.sc (.int .i64 n), .imm 2 (twos es)], .imm 1 (ints fs), .agg [.imm 1 (ints S), .imm 1 (ints T)]] [] fun r h' => r = .tup [.sc (.int .i64 0), .sc (.int .i64 (tErr n es fs))] ∧ h' = [] := by
  refine ACalls.trim ?_
  have hd : decide (tErr n es fs ≠ 0) = true := decide_eq_true h
  refine go_garlandref23_Lack rfl ?_
  unfold c_garlandref23_Lack v_garlandref23_Lack
  refine wlk_sreg fun KY hKY => ?_
  simp only [go_sem, reduceIte, Nat.reduceEqDiff, reduceCtorEq, c_garlandref23_Lack_r0]
  refine hKY _ ?_
  refine wlk_sreg fun KY hKY => ?_
  simp only [go_sem, reduceIte, Nat.reduceEqDiff, reduceCtorEq, Nat.reduceLT, Nat.reduceAdd, c_garlandref23_Lack_r1]
  refine call_view rfl (by simp only [go_sem, reduceIte, Nat.reduceEqDiff, reduceCtorEq] <;> rfl) ((rtright_ok n es fs (by omega)).mono ?_)
  rintro rr hh ⟨rfl, rfl⟩
  refine ⟨rfl, rfl, rfl, ?_⟩
  simp only [go_sem, reduceIte, Nat.reduceEqDiff, reduceCtorEq]
  refine hKY _ ?_
  refine wlk_seq fun X1 hn1 he1 hr1 => ?_
  refine wlk_sreg fun KY hKY => ?_
  simp only [go_sem, reduceIte, Nat.reduceEqDiff, reduceCtorEq, c_garlandref23_Lack_r2, hd]
  refine hKY _ ?_
  refine wlk_cond1 rfl ?_
  refine wlk_sreg fun KY hKY => ?_
  simp only [go_sem, reduceIte, Nat.reduceEqDiff, reduceCtorEq, c_garlandref23_Lack_r3]
  refine hKY _ ?_
  refine wlk_ret ?_
  repeat (first | refine hr1 _ ?_)
  simp only [go_sem, reduceIte, Nat.reduceEqDiff, reduceCtorEq]
def allO (S T : List Int) (k : Nat) : Bool := (S.take k).all fun v => decide (v ∉ T)
theorem allO_step {S : List Int} (T : List Int) {k : Nat} (h : k < S.length) : allO S T (k + 1) = (allO S T k && !decide (S.getD k 0 ∈ T)) := by
  unfold allO
  rw [List.take_add_one, List.getElem?_eq_getElem h, List.all_append, List.getD_eq_getElem?_getD, List.getElem?_eq_getElem h]
  simp
theorem rlackP_ok (N : Nat) (es : List (Int × Int)) (fs S T : List Int) (hN : N ≤ 4096) (hf : fs.length ≤ 1000000) (hSl : S.length ≤ 1000000) (hTl : T.length ≤ 1000000) (h : tErr N es fs = 0) (hp : okPB N S T = false) : ACalls Try.prog [] n_garlandref23_Lack [.agg [.sc (.int .i64 (N : Int)), .imm 2 (twos es)], .imm 1 (ints fs), .agg [.imm 1 (ints S), .imm 1 (ints T)]] [] fun r h' => r = .tup [.sc (.int .i64 0), .sc (.int .i64 1)] ∧ h' = [] := by
  refine ACalls.trim ?_
  have htr := rtright_ok (N : Int) es fs (by omega)
  rw [h] at htr
  refine go_garlandref23_Lack rfl ?_
  unfold c_garlandref23_Lack v_garlandref23_Lack
  refine wlk_sreg fun KY hKY => ?_
  simp only [go_sem, reduceIte, Nat.reduceEqDiff, reduceCtorEq, c_garlandref23_Lack_r0]
  refine hKY _ ?_
  refine wlk_sreg fun KY hKY => ?_
  simp only [go_sem, reduceIte, Nat.reduceEqDiff, reduceCtorEq, Nat.reduceLT, Nat.reduceAdd, c_garlandref23_Lack_r1]
  refine call_view rfl (by simp only [go_sem, reduceIte, Nat.reduceEqDiff, reduceCtorEq] <;> rfl) ((htr).mono ?_)
  rintro rr hh ⟨rfl, rfl⟩
  refine ⟨rfl, rfl, rfl, ?_⟩
  simp only [go_sem, reduceIte, Nat.reduceEqDiff, reduceCtorEq]
  refine hKY _ ?_
  refine wlk_seq fun X1 hn1 he1 hr1 => ?_
  refine wlk_sreg fun KY hKY => ?_
  simp only [go_sem, reduceIte, Nat.reduceEqDiff, reduceCtorEq, c_garlandref23_Lack_r2]
  refine hKY _ ?_
  refine wlk_cond0 rfl ?_
  refine wlk_skip ?_
  repeat (first | refine hn1 _ ?_ | refine he1 _ _ ?_)
  cases hS : upB N S with
  | false =>
    refine wlk_sreg fun KY hKY => ?_
    simp only [go_sem, reduceIte, Nat.reduceEqDiff, reduceCtorEq, Nat.reduceLT, Nat.reduceAdd, c_garlandref23_Lack_r4]
    refine call_view rfl (by simp only [go_sem, reduceIte, Nat.reduceEqDiff, reduceCtorEq] <;> rfl) ((vertices_ok N es S (by omega)).mono ?_)
    rintro rr hh ⟨rfl, rfl⟩
    refine ⟨rfl, rfl, rfl, ?_⟩
    simp only [go_sem, reduceIte, Nat.reduceEqDiff, Nat.reduceBEq, reduceCtorEq, hS]
    refine hKY _ ?_
    refine wlk_seq fun X2 hn2 he2 hr2 => ?_
    refine wlk_sreg fun KY hKY => ?_
    simp only [go_sem, reduceIte, Nat.reduceEqDiff, reduceCtorEq, c_garlandref23_Lack_r5]
    refine hKY _ ?_
    refine wlk_blk fun X3 hn3 he3 hf3 hr3 => ?_
    try simp only [go_sem, reduceIte, Nat.reduceEqDiff, reduceCtorEq]
    refine wlk_lp (α := Nat) [43] (fun k => [(10, .sc (.int .i64 (k : Int)))]) (fun k => []) (fun k q => k ≤ S.length ∧ q = S.length - k) (0) (S.length) rfl (by first | (simp only [go_sem, reduceIte, Nat.reduceEqDiff, reduceCtorEq, updAll_cons, updAll_nil]; done) | with_reducible rfl | rfl) (⟨by omega, rfl⟩) ?_
    rintro k q ⟨hk, rfl⟩ X4 hn4 he4 hr4
    simp only [go_sem, reduceIte, Nat.reduceEqDiff, reduceCtorEq, updAll_cons, updAll_nil]
    refine wlk_seq fun X5 hn5 he5 hr5 => ?_
    rcases Nat.lt_or_ge k S.length with hk2 | hk2
    · refine wlk_sreg fun KY hKY => ?_
      simp only [go_sem, reduceIte, Nat.reduceEqDiff, reduceCtorEq, c_garlandref23_Lack_r6, ints_len]
      refine hKY _ ?_
      refine wlk_cond1 (by first | rfl | (simp only [go_sem, reduceIte, Nat.reduceEqDiff, reduceCtorEq]; try simp (disch := omega) only [decide_eq_true])) ?_
      refine wlk_skip ?_
      repeat (first | refine hn5 _ ?_ | refine he5 _ _ ?_ | refine he4 _ _ ?_ | refine hn3 _ ?_ | refine he3 _ ?_ | refine hf3 _ _ (by decide) ?_ | refine hn2 _ ?_ | refine he2 _ _ ?_ | refine hn1 _ ?_ | refine he1 _ _ ?_)
      refine wlk_seq fun X6 hn6 he6 hr6 => ?_
      refine wlk_blk fun X7 hn7 he7 hf7 hr7 => ?_
      refine wlk_draw fun KY hKY => ?_
      simp only [go_sem, reduceIte, Nat.reduceEqDiff, Nat.reduceBEq, reduceCtorEq, c_garlandref23_Lack_r7]
      refine hKY _ ?_
      repeat (first | refine hn7 _ ?_ | refine he7 _ ?_ | refine hf7 _ _ (by decide) ?_ | refine hn6 _ ?_ | refine he6 _ _ ?_ | refine hn5 _ ?_ | refine he5 _ _ ?_ | refine he4 _ _ ?_ | refine hn3 _ ?_ | refine he3 _ ?_ | refine hf3 _ _ (by decide) ?_ | refine hn2 _ ?_ | refine he2 _ _ ?_ | refine hn1 _ ?_ | refine he1 _ _ ?_)
      refine wlk_reg fun KY hKY => ?_
      simp only [go_sem, reduceIte, Nat.reduceEqDiff, reduceCtorEq, c_garlandref23_Lack_r8, incS (show k < 4611686018427387904 by omega)]
      refine hKY _ ?_
      repeat (first | refine hn7 _ ?_ | refine he7 _ ?_ | refine hf7 _ _ (by decide) ?_ | refine hn6 _ ?_ | refine he6 _ _ ?_ | refine hn5 _ ?_ | refine he5 _ _ ?_)
      refine hn4 _ (k + 1) (S.length - (k + 1)) (by omega) (by first | (simp only [go_sem, reduceIte, Nat.reduceEqDiff, reduceCtorEq, updAll_cons, updAll_nil]; done) | with_reducible rfl) ?_
      exact ⟨hk2, rfl⟩
    refine wlk_sreg fun KY hKY => ?_
    simp only [go_sem, reduceIte, Nat.reduceEqDiff, reduceCtorEq, c_garlandref23_Lack_r6, ints_len]
    refine hKY _ ?_
    refine wlk_cond0 (by first | rfl | (simp only [go_sem, reduceIte, Nat.reduceEqDiff, reduceCtorEq]; try simp (disch := omega) only [decide_eq_false])) ?_
    refine wlk_exit ?_
    repeat (first | refine hn5 _ ?_ | refine he5 _ _ ?_ | refine he4 _ _ ?_ | refine hn3 _ ?_ | refine he3 _ ?_ | refine hf3 _ _ (by decide) ?_ | refine hn2 _ ?_ | refine he2 _ _ ?_ | refine hn1 _ ?_ | refine he1 _ _ ?_)
    refine wlk_seq fun X8 hn8 he8 hr8 => ?_
    refine wlk_sreg fun KY hKY => ?_
    simp only [go_sem, reduceIte, Nat.reduceEqDiff, reduceCtorEq, c_garlandref23_Lack_r9]
    refine hKY _ ?_
    refine wlk_cond1 rfl ?_
    refine wlk_sreg fun KY hKY => ?_
    simp only [go_sem, reduceIte, Nat.reduceEqDiff, reduceCtorEq, c_garlandref23_Lack_r10]
    refine hKY _ ?_
    refine wlk_ret ?_
    repeat (first | refine hr8 _ ?_ | refine hr5 _ ?_ | refine hr4 _ ?_ | refine hr3 _ ?_ | refine hr2 _ ?_ | refine hr1 _ ?_)
    simp only [go_sem, reduceIte, Nat.reduceEqDiff, reduceCtorEq]
  | true =>
    cases hT : upB N T with
    | false =>
      refine wlk_sreg fun KY hKY => ?_
      simp only [go_sem, reduceIte, Nat.reduceEqDiff, reduceCtorEq, Nat.reduceLT, Nat.reduceAdd, c_garlandref23_Lack_r4]
      refine call_view rfl (by simp only [go_sem, reduceIte, Nat.reduceEqDiff, reduceCtorEq] <;> rfl) ((vertices_ok N es S (by omega)).mono ?_)
      rintro rr hh ⟨rfl, rfl⟩
      refine ⟨rfl, rfl, rfl, ?_⟩
      simp only [go_sem, reduceIte, Nat.reduceEqDiff, reduceCtorEq, Nat.reduceLT, Nat.reduceAdd, hS]
      refine call_view rfl (by simp only [go_sem, reduceIte, Nat.reduceEqDiff, reduceCtorEq] <;> rfl) ((vertices_ok N es T (by omega)).mono ?_)
      rintro rr hh ⟨rfl, rfl⟩
      refine ⟨rfl, rfl, rfl, ?_⟩
      simp only [go_sem, reduceIte, Nat.reduceEqDiff, Nat.reduceBEq, reduceCtorEq, hT]
      refine hKY _ ?_
      refine wlk_seq fun X9 hn9 he9 hr9 => ?_
      refine wlk_sreg fun KY hKY => ?_
      simp only [go_sem, reduceIte, Nat.reduceEqDiff, reduceCtorEq, c_garlandref23_Lack_r5]
      refine hKY _ ?_
      refine wlk_blk fun X10 hn10 he10 hf10 hr10 => ?_
      try simp only [go_sem, reduceIte, Nat.reduceEqDiff, reduceCtorEq]
      refine wlk_lp (α := Nat) [43] (fun k => [(10, .sc (.int .i64 (k : Int)))]) (fun k => []) (fun k q => k ≤ S.length ∧ q = S.length - k) (0) (S.length) rfl (by first | (simp only [go_sem, reduceIte, Nat.reduceEqDiff, reduceCtorEq, updAll_cons, updAll_nil]; done) | with_reducible rfl | rfl) (⟨by omega, rfl⟩) ?_
      rintro k q ⟨hk, rfl⟩ X11 hn11 he11 hr11
      simp only [go_sem, reduceIte, Nat.reduceEqDiff, reduceCtorEq, updAll_cons, updAll_nil]
      refine wlk_seq fun X12 hn12 he12 hr12 => ?_
      rcases Nat.lt_or_ge k S.length with hk2 | hk2
      · refine wlk_sreg fun KY hKY => ?_
        simp only [go_sem, reduceIte, Nat.reduceEqDiff, reduceCtorEq, c_garlandref23_Lack_r6, ints_len]
        refine hKY _ ?_
        refine wlk_cond1 (by first | rfl | (simp only [go_sem, reduceIte, Nat.reduceEqDiff, reduceCtorEq]; try simp (disch := omega) only [decide_eq_true])) ?_
        refine wlk_skip ?_
        repeat (first | refine hn12 _ ?_ | refine he12 _ _ ?_ | refine he11 _ _ ?_ | refine hn10 _ ?_ | refine he10 _ ?_ | refine hf10 _ _ (by decide) ?_ | refine hn9 _ ?_ | refine he9 _ _ ?_ | refine hn1 _ ?_ | refine he1 _ _ ?_)
        refine wlk_seq fun X13 hn13 he13 hr13 => ?_
        refine wlk_blk fun X14 hn14 he14 hf14 hr14 => ?_
        refine wlk_draw fun KY hKY => ?_
        simp only [go_sem, reduceIte, Nat.reduceEqDiff, Nat.reduceBEq, reduceCtorEq, c_garlandref23_Lack_r7]
        refine hKY _ ?_
        repeat (first | refine hn14 _ ?_ | refine he14 _ ?_ | refine hf14 _ _ (by decide) ?_ | refine hn13 _ ?_ | refine he13 _ _ ?_ | refine hn12 _ ?_ | refine he12 _ _ ?_ | refine he11 _ _ ?_ | refine hn10 _ ?_ | refine he10 _ ?_ | refine hf10 _ _ (by decide) ?_ | refine hn9 _ ?_ | refine he9 _ _ ?_ | refine hn1 _ ?_ | refine he1 _ _ ?_)
        refine wlk_reg fun KY hKY => ?_
        simp only [go_sem, reduceIte, Nat.reduceEqDiff, reduceCtorEq, c_garlandref23_Lack_r8, incS (show k < 4611686018427387904 by omega)]
        refine hKY _ ?_
        repeat (first | refine hn14 _ ?_ | refine he14 _ ?_ | refine hf14 _ _ (by decide) ?_ | refine hn13 _ ?_ | refine he13 _ _ ?_ | refine hn12 _ ?_ | refine he12 _ _ ?_)
        refine hn11 _ (k + 1) (S.length - (k + 1)) (by omega) (by first | (simp only [go_sem, reduceIte, Nat.reduceEqDiff, reduceCtorEq, updAll_cons, updAll_nil]; done) | with_reducible rfl) ?_
        exact ⟨hk2, rfl⟩
      refine wlk_sreg fun KY hKY => ?_
      simp only [go_sem, reduceIte, Nat.reduceEqDiff, reduceCtorEq, c_garlandref23_Lack_r6, ints_len]
      refine hKY _ ?_
      refine wlk_cond0 (by first | rfl | (simp only [go_sem, reduceIte, Nat.reduceEqDiff, reduceCtorEq]; try simp (disch := omega) only [decide_eq_false])) ?_
      refine wlk_exit ?_
      repeat (first | refine hn12 _ ?_ | refine he12 _ _ ?_ | refine he11 _ _ ?_ | refine hn10 _ ?_ | refine he10 _ ?_ | refine hf10 _ _ (by decide) ?_ | refine hn9 _ ?_ | refine he9 _ _ ?_ | refine hn1 _ ?_ | refine he1 _ _ ?_)
      refine wlk_seq fun X15 hn15 he15 hr15 => ?_
      refine wlk_sreg fun KY hKY => ?_
      simp only [go_sem, reduceIte, Nat.reduceEqDiff, reduceCtorEq, c_garlandref23_Lack_r9]
      refine hKY _ ?_
      refine wlk_cond1 rfl ?_
      refine wlk_sreg fun KY hKY => ?_
      simp only [go_sem, reduceIte, Nat.reduceEqDiff, reduceCtorEq, c_garlandref23_Lack_r10]
      refine hKY _ ?_
      refine wlk_ret ?_
      repeat (first | refine hr15 _ ?_ | refine hr12 _ ?_ | refine hr11 _ ?_ | refine hr10 _ ?_ | refine hr9 _ ?_ | refine hr1 _ ?_)
      simp only [go_sem, reduceIte, Nat.reduceEqDiff, reduceCtorEq]
    | true =>
      refine wlk_sreg fun KY hKY => ?_
      simp only [go_sem, reduceIte, Nat.reduceEqDiff, reduceCtorEq, Nat.reduceLT, Nat.reduceAdd, c_garlandref23_Lack_r4]
      refine call_view rfl (by simp only [go_sem, reduceIte, Nat.reduceEqDiff, reduceCtorEq] <;> rfl) ((vertices_ok N (es) S (by omega)).mono ?_)
      rintro rr hh ⟨rfl, rfl⟩
      refine ⟨rfl, rfl, rfl, ?_⟩
      simp only [go_sem, reduceIte, Nat.reduceEqDiff, reduceCtorEq, Nat.reduceLT, Nat.reduceAdd, hS]
      refine call_view rfl (by simp only [go_sem, reduceIte, Nat.reduceEqDiff, reduceCtorEq] <;> rfl) ((vertices_ok N (es) T (by omega)).mono ?_)
      rintro rr hh ⟨rfl, rfl⟩
      refine ⟨rfl, rfl, rfl, ?_⟩
      simp only [go_sem, reduceIte, Nat.reduceEqDiff, Nat.reduceBEq, reduceCtorEq, hT]
      refine hKY _ ?_
      refine wlk_seq fun X16 hn16 he16 hr16 => ?_
      refine wlk_sreg fun KY hKY => ?_
      simp only [go_sem, reduceIte, Nat.reduceEqDiff, reduceCtorEq, c_garlandref23_Lack_r5]
      refine hKY _ ?_
      refine wlk_blk fun X17 hn17 he17 hf17 hr17 => ?_
      try simp only [go_sem, reduceIte, Nat.reduceEqDiff, reduceCtorEq]
      refine wlk_lp (α := Nat) [43] (fun k => [(9, .sc (.bool (allO S T k))), (10, .sc (.int .i64 (k : Int)))]) (fun k => []) (fun k q => k ≤ S.length ∧ q = S.length - k) (0) (S.length) rfl (by first | (simp only [go_sem, reduceIte, Nat.reduceEqDiff, reduceCtorEq, updAll_cons, updAll_nil]; done) | with_reducible rfl | rfl) (⟨by omega, rfl⟩) ?_
      rintro k q ⟨hk, rfl⟩ X18 hn18 he18 hr18
      simp only [go_sem, reduceIte, Nat.reduceEqDiff, reduceCtorEq, updAll_cons, updAll_nil]
      refine wlk_seq fun X19 hn19 he19 hr19 => ?_
      rcases Nat.lt_or_ge k S.length with hk2 | hk2
      · refine wlk_sreg fun KY hKY => ?_
        simp only [go_sem, reduceIte, Nat.reduceEqDiff, reduceCtorEq, c_garlandref23_Lack_r6, ints_len]
        refine hKY _ ?_
        refine wlk_cond1 (by first | rfl | (simp only [go_sem, reduceIte, Nat.reduceEqDiff, reduceCtorEq]; try simp (disch := omega) only [decide_eq_true])) ?_
        refine wlk_skip ?_
        repeat (first | refine hn19 _ ?_ | refine he19 _ _ ?_ | refine he18 _ _ ?_ | refine hn17 _ ?_ | refine he17 _ ?_ | refine hf17 _ _ (by decide) ?_ | refine hn16 _ ?_ | refine he16 _ _ ?_ | refine hn1 _ ?_ | refine he1 _ _ ?_)
        refine wlk_seq fun X20 hn20 he20 hr20 => ?_
        refine wlk_blk fun X21 hn21 he21 hf21 hr21 => ?_
        have hst := allO_step T hk2
        cases hc : allO S T k with
        | false =>
          rw [hc, Bool.false_and] at hst
          refine wlk_draw fun KY hKY => ?_
          simp only [go_sem, reduceIte, Nat.reduceEqDiff, Nat.reduceBEq, reduceCtorEq, c_garlandref23_Lack_r7]
          refine hKY _ ?_
          repeat (first | refine hn21 _ ?_ | refine he21 _ ?_ | refine hf21 _ _ (by decide) ?_ | refine hn20 _ ?_ | refine he20 _ _ ?_ | refine hn19 _ ?_ | refine he19 _ _ ?_ | refine he18 _ _ ?_ | refine hn17 _ ?_ | refine he17 _ ?_ | refine hf17 _ _ (by decide) ?_ | refine hn16 _ ?_ | refine he16 _ _ ?_ | refine hn1 _ ?_ | refine he1 _ _ ?_)
          refine wlk_reg fun KY hKY => ?_
          simp only [go_sem, reduceIte, Nat.reduceEqDiff, reduceCtorEq, c_garlandref23_Lack_r8, incS (show k < 4611686018427387904 by omega)]
          refine hKY _ ?_
          repeat (first | refine hn21 _ ?_ | refine he21 _ ?_ | refine hf21 _ _ (by decide) ?_ | refine hn20 _ ?_ | refine he20 _ _ ?_ | refine hn19 _ ?_ | refine he19 _ _ ?_)
          refine hn18 _ (k + 1) (S.length - (k + 1)) (by omega) (by first | (simp only [go_sem, reduceIte, Nat.reduceEqDiff, reduceCtorEq, updAll_cons, updAll_nil, hst]; done) | with_reducible rfl) ?_
          exact ⟨hk2, rfl⟩
        | true =>
          rw [hc, Bool.true_and] at hst
          refine wlk_draw fun KY hKY => ?_
          simp only [go_sem, reduceIte, Nat.reduceEqDiff, Nat.reduceBEq, reduceCtorEq, c_garlandref23_Lack_r7, ints_get hk2, hk2, ints_len]
          repeat (simp (disch := omega) only [decide_eq_true]; try simp only [go_sem, reduceIte, Nat.reduceEqDiff, Nat.reduceBEq, reduceCtorEq, Nat.reduceLT, Nat.reduceLeDiff, Nat.reduceAdd, Nat.reduceSub, Nat.reduceMul, Nat.reduceDiv, Int.reduceAdd, Int.reduceNeg, Int.reduceEq, Int.reduceLT, Int.reduceLE, hc, ints_get hk2, hk2, ints_len])
          refine call_view rfl (by simp only [go_sem, reduceIte, Nat.reduceEqDiff, reduceCtorEq] <;> rfl) ((in_ok T (S.getD k 0) (by omega)).mono ?_)
          rintro rr hh ⟨rfl, rfl⟩
          refine ⟨rfl, rfl, rfl, ?_⟩
          simp only [go_sem, reduceIte, Nat.reduceEqDiff, Nat.reduceBEq, reduceCtorEq, ← hst]
          refine hKY _ ?_
          repeat (first | refine hn21 _ ?_ | refine he21 _ ?_ | refine hf21 _ _ (by decide) ?_ | refine hn20 _ ?_ | refine he20 _ _ ?_ | refine hn19 _ ?_ | refine he19 _ _ ?_ | refine he18 _ _ ?_ | refine hn17 _ ?_ | refine he17 _ ?_ | refine hf17 _ _ (by decide) ?_ | refine hn16 _ ?_ | refine he16 _ _ ?_ | refine hn1 _ ?_ | refine he1 _ _ ?_)
          refine wlk_reg fun KY hKY => ?_
          simp only [go_sem, reduceIte, Nat.reduceEqDiff, reduceCtorEq, c_garlandref23_Lack_r8, incS (show k < 4611686018427387904 by omega)]
          refine hKY _ ?_
          repeat (first | refine hn21 _ ?_ | refine he21 _ ?_ | refine hf21 _ _ (by decide) ?_ | refine hn20 _ ?_ | refine he20 _ _ ?_ | refine hn19 _ ?_ | refine he19 _ _ ?_)
          refine hn18 _ (k + 1) (S.length - (k + 1)) (by omega) (by first | (simp only [go_sem, reduceIte, Nat.reduceEqDiff, reduceCtorEq, updAll_cons, updAll_nil]; done) | with_reducible rfl) ?_
          exact ⟨hk2, rfl⟩
      have hdx : decide ((k : Int) < (S.length : Int)) = false := decide_eq_false (by omega)
      refine wlk_sreg fun KY hKY => ?_
      simp only [go_sem, reduceIte, Nat.reduceEqDiff, reduceCtorEq, c_garlandref23_Lack_r6, ints_len, hdx]
      refine hKY _ ?_
      refine wlk_cond0 rfl ?_
      refine wlk_exit ?_
      repeat (first | refine hn19 _ ?_ | refine he19 _ _ ?_ | refine he18 _ _ ?_ | refine hn17 _ ?_ | refine he17 _ ?_ | refine hf17 _ _ (by decide) ?_ | refine hn16 _ ?_ | refine he16 _ _ ?_ | refine hn1 _ ?_ | refine he1 _ _ ?_)
      obtain rfl : k = S.length := by omega
      have hall : allO S T S.length = S.all fun v => decide (v ∉ T) := by unfold allO; rw [List.take_length]
      have hf9 : allO S T S.length = false := by
        rw [hall]
        unfold okPB at hp
        rwa [hS, hT, Bool.true_and, Bool.true_and] at hp
      refine wlk_seq fun X22 hn22 he22 hr22 => ?_
      refine wlk_sreg fun KY hKY => ?_
      simp only [go_sem, reduceIte, Nat.reduceEqDiff, reduceCtorEq, c_garlandref23_Lack_r9, hf9]
      refine hKY _ ?_
      refine wlk_cond1 rfl ?_
      refine wlk_sreg fun KY hKY => ?_
      simp only [go_sem, reduceIte, Nat.reduceEqDiff, reduceCtorEq, c_garlandref23_Lack_r10]
      refine hKY _ ?_
      refine wlk_ret ?_
      repeat (first | refine hr22 _ ?_ | refine hr19 _ ?_ | refine hr18 _ ?_ | refine hr17 _ ?_ | refine hr16 _ ?_ | refine hr1 _ ?_)
      simp only [go_sem, reduceIte, Nat.reduceEqDiff, reduceCtorEq]
def rA (fs : List Int) (S Tp P : List Nat) : Int := sumAt fs Tp - ((P.filter fun w => decide (w ∉ S)).length : Nat)
theorem rA_in (fs : List Int) {S Tp P : List Nat} {w : Nat} (h : w ∈ S) : rA fs S Tp (P ++ [w]) = rA fs S Tp P := by simp [rA, h]
theorem rA_out (fs : List Int) {S Tp P : List Nat} {w : Nat} (h : w ∉ S) : rA fs S Tp (P ++ [w]) = rA fs S Tp P - 1 := by simp [rA, h]; omega
def pA (es : Es) (fs : List Int) (T p : List Nat) : Int := s1 (fun v => fs.getD v 0 + (((nearOf es v).filter fun w => decide (w ∈ T)).length : Nat)) p
theorem pA_eq {N : Nat} {es : Es} (g : GR N es) (fs : List Int) {T p : List Nat} (hT : T.Nodup) (hp : ∀ v ∈ p, v < N) : pA es fs T p = sumAt fs p + sumAt (toI N (allNear es T)) p := by
  have e : ∀ v, v < N → ((((nearOf es v).filter fun w => decide (w ∈ T)).length : Nat) : Int) = (toI N (allNear es T)).getD v 0 := fun v hv => by
    rw [← s1_count _ hT, toI_get _ hv]
    clear hT
    induction T with
    | nil => simp [allNear, s1_nil]
    | cons t T ih =>
      have ha : allNear es (t :: T) = nearOf es t ++ allNear es T := rfl
      rw [s1_cons, ih, ha, List.count_append]
      have := xE_symm g v t
      unfold xE at this; omega
  unfold pA
  rw [s1_add]
  have e2 : s1 (fun v => ((((nearOf es v).filter fun w => decide (w ∈ T)).length : Nat) : Int)) p = sumAt (toI N (allNear es T)) p := s1_congr fun v hv => e v (hp v hv)
  rw [e2]; rfl
theorem pA_snoc (es : Es) (fs : List Int) (T : List Nat) {p : List Nat} {k v : Nat} (h : p[k]? = some v) : pA es fs T (p.take (k + 1)) = pA es fs T (p.take k) + fs.getD v 0 + ((((nearOf es v).filter fun w => decide (w ∈ T)).length : Nat) : Int) := by
  unfold pA
  rw [List.take_add_one, h, Option.toList_some, s1_append, s1_cons, s1_nil]; omega
theorem rlack_ok {N : Nat} {es : Es} (g : GR N es) (fs : List Int) (S' T' : List Nat) (hfl : fs.length = N) (hfs : ∀ x ∈ fs, 0 ≤ x ∧ x ≤ 4096) (hSv : ∀ v ∈ S', v < N) (hTv : ∀ v ∈ T', v < N) (hSl : S'.length ≤ N) (hTl : T'.length ≤ N) (hTn : T'.Nodup) (htr : tErr N (castE es) fs = 0) (hp : okPB N (S'.map fun v : Nat => (v : Int)) (T'.map fun v : Nat => (v : Int)) = true) :
    ACalls Try.prog [] n_garlandref23_Lack [.agg [.sc (.int .i64 (N : Int)), .imm 2 (twos (castE es))], .imm 1 (ints fs), .agg [.imm 1 (nats S'), .imm 1 (nats T')]] [] fun r h' => (∃ ps, IsPieces N es (fun v => (v : Int) ∈ (S' ++ T').map fun v : Nat => (v : Int)) ps ∧ r = .tup [.sc (.int .i64 (lackW N es fs S' T' ps)), .sc (.int .i64 0)]) ∧ h' = [] := by
  have hN := g.hn
  have htr := rtright_ok (N : Int) (castE es) fs (by omega)
  rw [‹tErr N (castE es) fs = 0›] at htr
  refine ACalls.trim ?_
  rw [nats_ints, nats_ints]
  obtain ⟨S, hSd⟩ : ∃ S : List Int, S = S'.map fun v : Nat => (v : Int) := ⟨_, rfl⟩
  obtain ⟨T, hTd⟩ : ∃ T : List Int, T = T'.map fun v : Nat => (v : Int) := ⟨_, rfl⟩
  rw [← hSd, ← hTd] at hp ⊢
  have hSlen : S.length = S'.length := by rw [hSd, List.length_map]
  have hTlen : T.length = T'.length := by rw [hTd, List.length_map]
  have hS := okP_S hp
  have hT := okP_T hp
  refine go_garlandref23_Lack rfl ?_
  unfold c_garlandref23_Lack v_garlandref23_Lack
  refine wlk_sreg fun KY hKY => ?_
  simp only [go_sem, reduceIte, Nat.reduceEqDiff, reduceCtorEq, c_garlandref23_Lack_r0]
  refine hKY _ ?_
  refine wlk_sreg fun KY hKY => ?_
  simp only [go_sem, reduceIte, Nat.reduceEqDiff, reduceCtorEq, Nat.reduceLT, Nat.reduceAdd, c_garlandref23_Lack_r1]
  refine call_view rfl (by simp only [go_sem, reduceIte, Nat.reduceEqDiff, reduceCtorEq] <;> rfl) ((htr).mono ?_)
  rintro rr hh ⟨rfl, rfl⟩
  refine ⟨rfl, rfl, rfl, ?_⟩
  simp only [go_sem, reduceIte, Nat.reduceEqDiff, reduceCtorEq]
  refine hKY _ ?_
  refine wlk_seq fun X1 hn1 he1 hr1 => ?_
  refine wlk_sreg fun KY hKY => ?_
  simp only [go_sem, reduceIte, Nat.reduceEqDiff, reduceCtorEq, c_garlandref23_Lack_r2]
  refine hKY _ ?_
  refine wlk_cond0 rfl ?_
  refine wlk_skip ?_
  repeat (first | refine hn1 _ ?_ | refine he1 _ _ ?_)
  refine wlk_sreg fun KY hKY => ?_
  simp only [go_sem, reduceIte, Nat.reduceEqDiff, reduceCtorEq, Nat.reduceLT, Nat.reduceAdd, c_garlandref23_Lack_r4]
  refine call_view rfl (by simp only [go_sem, reduceIte, Nat.reduceEqDiff, reduceCtorEq] <;> rfl) ((vertices_ok N (castE es) S (by omega)).mono ?_)
  rintro rr hh ⟨rfl, rfl⟩
  refine ⟨rfl, rfl, rfl, ?_⟩
  simp only [go_sem, reduceIte, Nat.reduceEqDiff, reduceCtorEq, Nat.reduceLT, Nat.reduceAdd, hS]
  refine call_view rfl (by simp only [go_sem, reduceIte, Nat.reduceEqDiff, reduceCtorEq] <;> rfl) ((vertices_ok N (castE es) T (by omega)).mono ?_)
  rintro rr hh ⟨rfl, rfl⟩
  refine ⟨rfl, rfl, rfl, ?_⟩
  simp only [go_sem, reduceIte, Nat.reduceEqDiff, Nat.reduceBEq, reduceCtorEq, hT]
  refine hKY _ ?_
  refine wlk_seq fun X2 hn2 he2 hr2 => ?_
  refine wlk_sreg fun KY hKY => ?_
  simp only [go_sem, reduceIte, Nat.reduceEqDiff, reduceCtorEq, c_garlandref23_Lack_r5]
  refine hKY _ ?_
  refine wlk_blk fun X3 hn3 he3 hf3 hr3 => ?_
  try simp only [go_sem, reduceIte, Nat.reduceEqDiff, reduceCtorEq]
  refine wlk_lp (α := Nat) [43] (fun k => [(9, .sc (.bool (allO S T k))), (10, .sc (.int .i64 (k : Int)))]) (fun k => []) (fun k q => k ≤ S.length ∧ q = S.length - k) (0) (S.length) rfl (by first | (simp only [go_sem, reduceIte, Nat.reduceEqDiff, reduceCtorEq, updAll_cons, updAll_nil]; done) | with_reducible rfl | rfl) (⟨by omega, rfl⟩) ?_
  rintro k q ⟨hk, rfl⟩ X4 hn4 he4 hr4
  simp only [go_sem, reduceIte, Nat.reduceEqDiff, reduceCtorEq, updAll_cons, updAll_nil]
  refine wlk_seq fun X5 hn5 he5 hr5 => ?_
  rcases Nat.lt_or_ge k S.length with hk2 | hk2
  · refine wlk_sreg fun KY hKY => ?_
    simp only [go_sem, reduceIte, Nat.reduceEqDiff, reduceCtorEq, c_garlandref23_Lack_r6, ints_len]
    refine hKY _ ?_
    refine wlk_cond1 (by first | rfl | (simp only [go_sem, reduceIte, Nat.reduceEqDiff, reduceCtorEq]; try simp (disch := omega) only [decide_eq_true])) ?_
    refine wlk_skip ?_
    repeat (first | refine hn5 _ ?_ | refine he5 _ _ ?_ | refine he4 _ _ ?_ | refine hn3 _ ?_ | refine he3 _ ?_ | refine hf3 _ _ (by decide) ?_ | refine hn2 _ ?_ | refine he2 _ _ ?_ | refine hn1 _ ?_ | refine he1 _ _ ?_)
    refine wlk_seq fun X6 hn6 he6 hr6 => ?_
    refine wlk_blk fun X7 hn7 he7 hf7 hr7 => ?_
    have hst := allO_step T hk2
    cases hc : allO S T k with
    | false =>
      rw [hc, Bool.false_and] at hst
      refine wlk_draw fun KY hKY => ?_
      simp only [go_sem, reduceIte, Nat.reduceEqDiff, Nat.reduceBEq, reduceCtorEq, c_garlandref23_Lack_r7]
      refine hKY _ ?_
      repeat (first | refine hn7 _ ?_ | refine he7 _ ?_ | refine hf7 _ _ (by decide) ?_ | refine hn6 _ ?_ | refine he6 _ _ ?_ | refine hn5 _ ?_ | refine he5 _ _ ?_ | refine he4 _ _ ?_ | refine hn3 _ ?_ | refine he3 _ ?_ | refine hf3 _ _ (by decide) ?_ | refine hn2 _ ?_ | refine he2 _ _ ?_ | refine hn1 _ ?_ | refine he1 _ _ ?_)
      refine wlk_reg fun KY hKY => ?_
      simp only [go_sem, reduceIte, Nat.reduceEqDiff, reduceCtorEq, c_garlandref23_Lack_r8, incS (show k < 4611686018427387904 by omega)]
      refine hKY _ ?_
      repeat (first | refine hn7 _ ?_ | refine he7 _ ?_ | refine hf7 _ _ (by decide) ?_ | refine hn6 _ ?_ | refine he6 _ _ ?_ | refine hn5 _ ?_ | refine he5 _ _ ?_)
      refine hn4 _ (k + 1) (S.length - (k + 1)) (by omega) (by first | (simp only [go_sem, reduceIte, Nat.reduceEqDiff, reduceCtorEq, updAll_cons, updAll_nil, hst]; done) | with_reducible rfl) ?_
      exact ⟨hk2, rfl⟩
    | true =>
      rw [hc, Bool.true_and] at hst
      refine wlk_draw fun KY hKY => ?_
      simp only [go_sem, reduceIte, Nat.reduceEqDiff, Nat.reduceBEq, reduceCtorEq, c_garlandref23_Lack_r7, ints_get hk2, hk2, ints_len]
      repeat (simp (disch := omega) only [decide_eq_true]; try simp only [go_sem, reduceIte, Nat.reduceEqDiff, Nat.reduceBEq, reduceCtorEq, Nat.reduceLT, Nat.reduceLeDiff, Nat.reduceAdd, Nat.reduceSub, Nat.reduceMul, Nat.reduceDiv, Int.reduceAdd, Int.reduceNeg, Int.reduceEq, Int.reduceLT, Int.reduceLE, hc, ints_get hk2, hk2, ints_len])
      refine call_view rfl (by simp only [go_sem, reduceIte, Nat.reduceEqDiff, reduceCtorEq] <;> rfl) ((in_ok T (S.getD k 0) (by omega)).mono ?_)
      rintro rr hh ⟨rfl, rfl⟩
      refine ⟨rfl, rfl, rfl, ?_⟩
      simp only [go_sem, reduceIte, Nat.reduceEqDiff, Nat.reduceBEq, reduceCtorEq, ← hst]
      refine hKY _ ?_
      repeat (first | refine hn7 _ ?_ | refine he7 _ ?_ | refine hf7 _ _ (by decide) ?_ | refine hn6 _ ?_ | refine he6 _ _ ?_ | refine hn5 _ ?_ | refine he5 _ _ ?_ | refine he4 _ _ ?_ | refine hn3 _ ?_ | refine he3 _ ?_ | refine hf3 _ _ (by decide) ?_ | refine hn2 _ ?_ | refine he2 _ _ ?_ | refine hn1 _ ?_ | refine he1 _ _ ?_)
      refine wlk_reg fun KY hKY => ?_
      simp only [go_sem, reduceIte, Nat.reduceEqDiff, reduceCtorEq, c_garlandref23_Lack_r8, incS (show k < 4611686018427387904 by omega)]
      refine hKY _ ?_
      repeat (first | refine hn7 _ ?_ | refine he7 _ ?_ | refine hf7 _ _ (by decide) ?_ | refine hn6 _ ?_ | refine he6 _ _ ?_ | refine hn5 _ ?_ | refine he5 _ _ ?_)
      refine hn4 _ (k + 1) (S.length - (k + 1)) (by omega) (by first | (simp only [go_sem, reduceIte, Nat.reduceEqDiff, reduceCtorEq, updAll_cons, updAll_nil]; done) | with_reducible rfl) ?_
      exact ⟨hk2, rfl⟩
  have hdx : decide ((k : Int) < (S.length : Int)) = false := decide_eq_false (by omega)
  refine wlk_sreg fun KY hKY => ?_
  simp only [go_sem, reduceIte, Nat.reduceEqDiff, reduceCtorEq, c_garlandref23_Lack_r6, ints_len, hdx]
  refine hKY _ ?_
  refine wlk_cond0 rfl ?_
  refine wlk_exit ?_
  repeat (first | refine hn5 _ ?_ | refine he5 _ _ ?_ | refine he4 _ _ ?_ | refine hn3 _ ?_ | refine he3 _ ?_ | refine hf3 _ _ (by decide) ?_ | refine hn2 _ ?_ | refine he2 _ _ ?_ | refine hn1 _ ?_ | refine he1 _ _ ?_)
  obtain rfl : k = S.length := by omega
  have hall : allO S T S.length = S.all fun v => decide (v ∉ T) := by unfold allO; rw [List.take_length]
  have hf9 : allO S T S.length = true := by
    rw [hall]
    unfold okPB at hp
    rwa [hS, hT, Bool.true_and, Bool.true_and] at hp
  refine wlk_seq fun X8 hn8 he8 hr8 => ?_
  refine wlk_sreg fun KY hKY => ?_
  simp only [go_sem, reduceIte, Nat.reduceEqDiff, reduceCtorEq, c_garlandref23_Lack_r9, hf9]
  refine hKY _ ?_
  refine wlk_cond0 rfl ?_
  refine wlk_skip ?_
  repeat (first | refine hn8 _ ?_ | refine he8 _ _ ?_ | refine hn5 _ ?_ | refine he5 _ _ ?_ | refine he4 _ _ ?_ | refine hn3 _ ?_ | refine he3 _ ?_ | refine hf3 _ _ (by decide) ?_ | refine hn2 _ ?_ | refine he2 _ _ ?_ | refine hn1 _ ?_ | refine he1 _ _ ?_)
  subst hSd hTd
  simp only [← nats_ints]
  have hem := g.hm
  have hPb : ∀ k, (allNear es (T'.take k)).length ≤ 536870912 := by
    intro k
    have h1 := allNear_len g (T'.take k)
    have h2 : (T'.take k).length ≤ T'.length := List.length_take_le' _ _
    omega
  have hsb : ∀ l : List Nat, l.length ≤ 100000 → 0 ≤ sumAt fs l ∧ sumAt fs l ≤ 409600000 := fun l hl => by
    have := sumAt_bound hfs l; omega
  have hrb : ∀ A P : List Nat, A.length ≤ 100000 → P.length ≤ 1000000000000 → -2000000000000 ≤ rA fs S' A P ∧ rA fs S' A P ≤ 2000000000000 := by
    intro A P hA hP
    have h1 := hsb A hA
    have h3 := List.length_filter_le (fun w => decide (w ∉ S')) P
    unfold rA
    omega
  have hfv : ∀ v, v < N → 0 ≤ fs.getD v 0 ∧ fs.getD v 0 ≤ 4096 := fun v hv => by
    rw [List.getD_eq_getElem?_getD, List.getElem?_eq_getElem (by omega : v < fs.length)]
    exact hfs _ (List.getElem_mem _)
  refine wlk_sreg fun KY hKY => ?_
  simp only [go_sem, reduceIte, Nat.reduceEqDiff, reduceCtorEq, c_garlandref23_Lack_r11]
  refine hKY _ ?_
  refine wlk_seq fun X9 hn9 he9 hr9 => ?_
  refine wlk_sreg fun KY hKY => ?_
  simp only [go_sem, reduceIte, Nat.reduceEqDiff, reduceCtorEq, c_garlandref23_Lack_r12]
  refine hKY _ ?_
  refine wlk_blk fun X10 hn10 he10 hf10 hr10 => ?_
  try simp only [go_sem, reduceIte, Nat.reduceEqDiff, reduceCtorEq]
  refine wlk_lp (α := Nat) [64, 87, 97, 13, 14] (fun i => [(11, .sc (.int .i64 (rA fs S' (T'.take i) (allNear es (T'.take i))))), (12, .sc (.int .i64 (i : Int)))]) (fun i => []) (fun i q => i ≤ T'.length ∧ q = T'.length - i) (0) (T'.length) rfl (by first | (simp only [go_sem, reduceIte, Nat.reduceEqDiff, reduceCtorEq, updAll_cons, updAll_nil]; done) | with_reducible rfl | rfl) (⟨by omega, rfl⟩) ?_
  rintro i q ⟨hi, rfl⟩ X11 hn11 he11 hr11
  simp only [go_sem, reduceIte, Nat.reduceEqDiff, reduceCtorEq, updAll_cons, updAll_nil]
  refine wlk_seq fun X12 hn12 he12 hr12 => ?_
  rcases Nat.lt_or_ge i T'.length with hk2 | hk2
  · refine wlk_sreg fun KY hKY => ?_
    simp only [go_sem, reduceIte, Nat.reduceEqDiff, reduceCtorEq, c_garlandref23_Lack_r13, nats_len]
    refine hKY _ ?_
    refine wlk_cond1 (by first | rfl | (simp only [go_sem, reduceIte, Nat.reduceEqDiff, reduceCtorEq]; try simp (disch := omega) only [decide_eq_true])) ?_
    refine wlk_skip ?_
    repeat (first | refine hn12 _ ?_ | refine he12 _ _ ?_ | refine he11 _ _ ?_ | refine hn10 _ ?_ | refine he10 _ ?_ | refine hf10 _ _ (by decide) ?_ | refine hn9 _ ?_ | refine he9 _ _ ?_ | refine hn8 _ ?_ | refine he8 _ _ ?_ | refine hn5 _ ?_ | refine he5 _ _ ?_)
    refine wlk_seq fun X13 hn13 he13 hr13 => ?_
    refine wlk_blk fun X14 hn14 he14 hf14 hr14 => ?_
    have hx : T'[i]? = some T'[i] := List.getElem?_eq_getElem hk2
    have hm : T'[i] ∈ T' := List.getElem_mem hk2
    generalize T'[i] = v at hx hm
    have hvN := hTv v hm
    have hfvv := hfv v hvN
    have hnl := nearOf_len g v
    have hPk := hPb i
    have hsn := allNear_snoc es hx
    have hti : (T'.take (i + 1)).length ≤ 100000 := by rw [List.length_take]; omega
    have hti' : (T'.take i).length ≤ 100000 := by rw [List.length_take]; omega
    have hss := sumAt_snoc fs hx
    have hr1 := hrb (T'.take i) (allNear es (T'.take i)) hti' (by omega)
    have hw0 : IntKind.i64.wrap (rA fs S' (T'.take i) (allNear es (T'.take i)) + fs.getD v 0) = rA fs S' (T'.take (i + 1)) (allNear es (T'.take i)) := by
      rw [IntWalk.i64_in _ (by omega)]; unfold rA; rw [hss]; omega
    refine wlk_sreg fun KY hKY => ?_
    simp only [go_sem, reduceIte, Nat.reduceEqDiff, Nat.reduceBEq, reduceCtorEq, c_garlandref23_Lack_r14, nats_at hx, hk2, nats_len, ints_get (show v < fs.length by omega), hvN, ints_len, hfl, hw0]
    refine hKY _ ?_
    generalize allNear es (T'.take i) = P at hPk hsn
    refine wlk_sdraw fun KY hKY => ?_
    simp only [go_sem, reduceIte, Nat.reduceEqDiff, Nat.reduceBEq, reduceCtorEq, Nat.reduceLT, Nat.reduceAdd, c_garlandref23_Lack_r15, nats_len]
    repeat (simp (disch := omega) only [if_pos, decide_eq_true]; try simp only [go_sem, reduceIte, nats_at hx])
    refine call_view rfl (by simp only [go_sem, reduceIte, Nat.reduceEqDiff, reduceCtorEq] <;> rfl) ((near_ok g v).mono ?_)
    rintro rr hh ⟨rfl, rfl⟩
    refine ⟨?_, ?_, ?_, ?_⟩
    iterate 3 (first | rfl | simp only [go_sem])
    simp only [go_sem, reduceIte, Nat.reduceEqDiff, Nat.reduceBEq, reduceCtorEq]
    refine hKY _ ?_
    generalize hL : nearOf es v = L at hnl hsn
    have hLN : ∀ w ∈ L, w < N := fun w hw => (g.adj_lt _ _ (nearOf_mem.1 (hL ▸ hw))).2
    rw [show P = P ++ L.take 0 by simp]
    refine wlk_sreg fun KY hKY => ?_
    simp only [go_sem, reduceIte, Nat.reduceEqDiff, reduceCtorEq, c_garlandref23_Lack_r16]
    refine hKY _ ?_
    refine wlk_blk fun X15 hn15 he15 hf15 hr15 => ?_
    try simp only [go_sem, reduceIte, Nat.reduceEqDiff, reduceCtorEq]
    refine wlk_lp (α := Nat) [87, 97] (fun j => [(11, .sc (.int .i64 (rA fs S' (T'.take (i + 1)) (P ++ L.take j)))), (14, .sc (.int .i64 (j : Int)))]) (fun j => []) (fun j q => j ≤ L.length ∧ q = L.length - j) (0) (L.length) rfl (by first | (simp only [go_sem, reduceIte, Nat.reduceEqDiff, reduceCtorEq, updAll_cons, updAll_nil]; done) | with_reducible rfl | rfl) (⟨by omega, rfl⟩) ?_
    rintro j q ⟨hj, rfl⟩ X16 hn16 he16 hr16
    simp only [go_sem, reduceIte, Nat.reduceEqDiff, reduceCtorEq, updAll_cons, updAll_nil]
    refine wlk_seq fun X17 hn17 he17 hr17 => ?_
    rcases Nat.lt_or_ge j L.length with hj2 | hj2
    · refine wlk_sreg fun KY hKY => ?_
      simp only [go_sem, reduceIte, Nat.reduceEqDiff, reduceCtorEq, c_garlandref23_Lack_r17, nats_len]
      refine hKY _ ?_
      refine wlk_cond1 (by first | rfl | (simp only [go_sem, reduceIte, Nat.reduceEqDiff, reduceCtorEq]; try simp (disch := omega) only [decide_eq_true])) ?_
      refine wlk_skip ?_
      repeat (first | refine hn17 _ ?_ | refine he17 _ _ ?_ | refine he16 _ _ ?_ | refine hn15 _ ?_ | refine he15 _ ?_ | refine hf15 _ _ (by decide) ?_ | refine hn14 _ ?_ | refine he14 _ ?_ | refine hf14 _ _ (by decide) ?_ | refine hn13 _ ?_ | refine he13 _ _ ?_ | refine hn12 _ ?_ | refine he12 _ _ ?_)
      refine wlk_seq fun X18 hn18 he18 hr18 => ?_
      refine wlk_blk fun X19 hn19 he19 hf19 hr19 => ?_
      have hy : L[j]? = some L[j] := List.getElem?_eq_getElem hj2
      have hmw : L[j] ∈ L := List.getElem_mem hj2
      generalize L[j] = w at hy hmw
      have hPj : (P ++ L.take j).length ≤ 600000000 := by
        have : (L.take j).length ≤ L.length := List.length_take_le' _ _
        rw [List.length_append]; omega
      have hPs : P ++ L.take (j + 1) = (P ++ L.take j) ++ [w] := by simp [List.take_add_one, hy]
      generalize P ++ L.take j = M at hPj hPs
      have hr2 := hrb (T'.take (i + 1)) M hti (by omega)
      by_cases hwS : w ∈ S'
      · have hin := hasI_nat.2 hwS
        have hlin := rA_in fs (Tp := T'.take (i + 1)) (P := M) hwS
        rw [← hPs] at hlin
        refine wlk_sdraw fun KY hKY => ?_
        simp only [go_sem, reduceIte, Nat.reduceEqDiff, Nat.reduceBEq, reduceCtorEq, c_garlandref23_Lack_r18, nats_len]
        repeat (simp (disch := omega) only [if_pos, decide_eq_true]; try simp only [go_sem, reduceIte, Nat.reduceEqDiff, reduceCtorEq, nats_at hy])
        refine call_view rfl (by simp only [go_sem, reduceIte, Nat.reduceEqDiff, reduceCtorEq] <;> rfl) ((inN_ok S' w (by omega)).mono ?_)
        rintro rr hh ⟨rfl, rfl⟩
        refine ⟨rfl, rfl, rfl, ?_⟩
        simp only [go_sem, reduceIte, Nat.reduceEqDiff, reduceCtorEq, hin]
        refine hKY _ ?_
        refine wlk_cond0 rfl ?_
        refine wlk_skip ?_
        repeat (first | refine hn19 _ ?_ | refine he19 _ ?_ | refine hf19 _ _ (by decide) ?_ | refine hn18 _ ?_ | refine he18 _ _ ?_ | refine hn17 _ ?_ | refine he17 _ _ ?_ | refine he16 _ _ ?_ | refine hn15 _ ?_ | refine he15 _ ?_ | refine hf15 _ _ (by decide) ?_ | refine hn14 _ ?_ | refine he14 _ ?_ | refine hf14 _ _ (by decide) ?_ | refine hn13 _ ?_ | refine he13 _ _ ?_ | refine hn12 _ ?_ | refine he12 _ _ ?_)
        refine wlk_reg fun KY hKY => ?_
        simp only [go_sem, reduceIte, Nat.reduceEqDiff, reduceCtorEq, c_garlandref23_Lack_r20, incS (show j < 4611686018427387904 by omega)]
        refine hKY _ ?_
        repeat (first | refine hn19 _ ?_ | refine he19 _ ?_ | refine hf19 _ _ (by decide) ?_ | refine hn18 _ ?_ | refine he18 _ _ ?_ | refine hn17 _ ?_ | refine he17 _ _ ?_)
        refine hn16 _ (j + 1) (L.length - (j + 1)) (by omega) (by first | (simp only [go_sem, reduceIte, Nat.reduceEqDiff, reduceCtorEq, updAll_cons, updAll_nil, hlin]; done) | with_reducible rfl) ?_
        exact ⟨hj2, rfl⟩
      · have hin : hasI S' (w : Int) = false := by rw [Bool.eq_false_iff]; intro h; exact hwS (hasI_nat.1 h)
        have hlin := rA_out fs (Tp := T'.take (i + 1)) (P := M) hwS
        rw [← hPs] at hlin
        have hw1 : IntKind.i64.wrap (rA fs S' (T'.take (i + 1)) M - 1) = rA fs S' (T'.take (i + 1)) (P ++ L.take (j + 1)) := by rw [hlin, IntWalk.i64_in _ (by omega)]
        refine wlk_sdraw fun KY hKY => ?_
        simp only [go_sem, reduceIte, Nat.reduceEqDiff, Nat.reduceBEq, reduceCtorEq, c_garlandref23_Lack_r18, nats_len]
        repeat (simp (disch := omega) only [if_pos, decide_eq_true]; try simp only [go_sem, reduceIte, Nat.reduceEqDiff, reduceCtorEq, nats_at hy])
        refine call_view rfl (by simp only [go_sem, reduceIte, Nat.reduceEqDiff, reduceCtorEq] <;> rfl) ((inN_ok S' w (by omega)).mono ?_)
        rintro rr hh ⟨rfl, rfl⟩
        refine ⟨rfl, rfl, rfl, ?_⟩
        simp only [go_sem, reduceIte, Nat.reduceEqDiff, reduceCtorEq, hin]
        refine hKY _ ?_
        refine wlk_cond1 rfl ?_
        refine wlk_reg fun KY hKY => ?_
        simp only [go_sem, reduceIte, Nat.reduceEqDiff, reduceCtorEq, c_garlandref23_Lack_r19, hw1]
        refine hKY _ ?_
        repeat (first | refine hn19 _ ?_ | refine he19 _ ?_ | refine hf19 _ _ (by decide) ?_ | refine hn18 _ ?_ | refine he18 _ _ ?_ | refine hn17 _ ?_ | refine he17 _ _ ?_ | refine he16 _ _ ?_ | refine hn15 _ ?_ | refine he15 _ ?_ | refine hf15 _ _ (by decide) ?_ | refine hn14 _ ?_ | refine he14 _ ?_ | refine hf14 _ _ (by decide) ?_ | refine hn13 _ ?_ | refine he13 _ _ ?_ | refine hn12 _ ?_ | refine he12 _ _ ?_)
        refine wlk_reg fun KY hKY => ?_
        simp only [go_sem, reduceIte, Nat.reduceEqDiff, reduceCtorEq, c_garlandref23_Lack_r20, incS (show j < 4611686018427387904 by omega)]
        refine hKY _ ?_
        repeat (first | refine hn19 _ ?_ | refine he19 _ ?_ | refine hf19 _ _ (by decide) ?_ | refine hn18 _ ?_ | refine he18 _ _ ?_ | refine hn17 _ ?_ | refine he17 _ _ ?_)
        refine hn16 _ (j + 1) (L.length - (j + 1)) (by omega) (by first | (simp only [go_sem, reduceIte, Nat.reduceEqDiff, reduceCtorEq, updAll_cons, updAll_nil]; done) | with_reducible rfl) ?_
        exact ⟨hj2, rfl⟩
    refine wlk_sreg fun KY hKY => ?_
    simp only [go_sem, reduceIte, Nat.reduceEqDiff, reduceCtorEq, c_garlandref23_Lack_r17, nats_len]
    refine hKY _ ?_
    refine wlk_cond0 (by first | rfl | (simp only [go_sem, reduceIte, Nat.reduceEqDiff, reduceCtorEq]; try simp (disch := omega) only [decide_eq_false])) ?_
    refine wlk_exit ?_
    repeat (first | refine hn17 _ ?_ | refine he17 _ _ ?_ | refine he16 _ _ ?_ | refine hn15 _ ?_ | refine he15 _ ?_ | refine hf15 _ _ (by decide) ?_ | refine hn14 _ ?_ | refine he14 _ ?_ | refine hf14 _ _ (by decide) ?_ | refine hn13 _ ?_ | refine he13 _ _ ?_ | refine hn12 _ ?_ | refine he12 _ _ ?_ | refine he11 _ _ ?_ | refine hn10 _ ?_ | refine he10 _ ?_ | refine hf10 _ _ (by decide) ?_ | refine hn9 _ ?_ | refine he9 _ _ ?_ | refine hn8 _ ?_ | refine he8 _ _ ?_ | refine hn5 _ ?_ | refine he5 _ _ ?_ | refine he4 _ _ ?_ | refine hn3 _ ?_ | refine he3 _ ?_ | refine hf3 _ _ (by decide) ?_ | refine hn2 _ ?_ | refine he2 _ _ ?_ | refine hn1 _ ?_ | refine he1 _ _ ?_)
    obtain rfl : j = L.length := by omega
    rw [List.take_length, ← hsn]
    refine wlk_reg fun KY hKY => ?_
    simp only [go_sem, reduceIte, Nat.reduceEqDiff, reduceCtorEq, c_garlandref23_Lack_r21, incS (show i < 4611686018427387904 by omega)]
    refine hKY _ ?_
    repeat (first | refine hn17 _ ?_ | refine he17 _ _ ?_ | refine he16 _ _ ?_ | refine hn15 _ ?_ | refine he15 _ ?_ | refine hf15 _ _ (by decide) ?_ | refine hn14 _ ?_ | refine he14 _ ?_ | refine hf14 _ _ (by decide) ?_ | refine hn13 _ ?_ | refine he13 _ _ ?_ | refine hn12 _ ?_ | refine he12 _ _ ?_)
    refine hn11 _ (i + 1) (T'.length - (i + 1)) (by omega) (by first | (simp only [go_sem, reduceIte, Nat.reduceEqDiff, reduceCtorEq, updAll_cons, updAll_nil]; done) | with_reducible rfl) ?_
    exact ⟨hk2, rfl⟩
  have hdx : decide ((i : Int) < (T'.length : Int)) = false := decide_eq_false (by omega)
  refine wlk_sreg fun KY hKY => ?_
  simp only [go_sem, reduceIte, Nat.reduceEqDiff, reduceCtorEq, c_garlandref23_Lack_r13, nats_len, hdx]
  refine hKY _ ?_
  refine wlk_cond0 rfl ?_
  refine wlk_exit ?_
  repeat (first | refine hn12 _ ?_ | refine he12 _ _ ?_ | refine he11 _ _ ?_ | refine hn10 _ ?_ | refine he10 _ ?_ | refine hf10 _ _ (by decide) ?_ | refine hn9 _ ?_ | refine he9 _ _ ?_ | refine hn8 _ ?_ | refine he8 _ _ ?_ | refine hn5 _ ?_ | refine he5 _ _ ?_ | refine he4 _ _ ?_ | refine hn3 _ ?_ | refine he3 _ ?_ | refine hf3 _ _ (by decide) ?_ | refine hn2 _ ?_ | refine he2 _ _ ?_ | refine hn1 _ ?_ | refine he1 _ _ ?_)
  obtain rfl : i = T'.length := by omega
  rw [List.take_length]
  have hMb : (allNear es T').length ≤ 600000000 := by have := hPb T'.length; rw [List.take_length] at this; omega
  generalize hM : allNear es T' = M at hMb
  have hrM := hrb T' M (by omega) (by omega)
  have hsz : rA fs S' T' M = rA fs S' T' M - sumAt fs (S'.take 0) := by simp [sumAt]
  rw [hsz]
  refine wlk_seq fun X20 hn20 he20 hr20 => ?_
  refine wlk_sreg fun KY hKY => ?_
  simp only [go_sem, reduceIte, Nat.reduceEqDiff, reduceCtorEq, c_garlandref23_Lack_r22]
  refine hKY _ ?_
  refine wlk_blk fun X21 hn21 he21 hf21 hr21 => ?_
  try simp only [go_sem, reduceIte, Nat.reduceEqDiff, reduceCtorEq]
  refine wlk_lp (α := Nat) [104] (fun i => [(11, .sc (.int .i64 (rA fs S' T' M - sumAt fs (S'.take i)))), (15, .sc (.int .i64 (i : Int)))]) (fun i => []) (fun i q => i ≤ S'.length ∧ q = S'.length - i) (0) (S'.length) rfl (by first | (simp only [go_sem, reduceIte, Nat.reduceEqDiff, reduceCtorEq, updAll_cons, updAll_nil]; done) | with_reducible rfl | rfl) (⟨by omega, rfl⟩) ?_
  rintro i q ⟨hi, rfl⟩ X22 hn22 he22 hr22
  simp only [go_sem, reduceIte, Nat.reduceEqDiff, reduceCtorEq, updAll_cons, updAll_nil]
  refine wlk_seq fun X23 hn23 he23 hr23 => ?_
  rcases Nat.lt_or_ge i S'.length with hk2 | hk2
  · refine wlk_sreg fun KY hKY => ?_
    simp only [go_sem, reduceIte, Nat.reduceEqDiff, reduceCtorEq, c_garlandref23_Lack_r23, nats_len]
    refine hKY _ ?_
    refine wlk_cond1 (by first | rfl | (simp only [go_sem, reduceIte, Nat.reduceEqDiff, reduceCtorEq]; try simp (disch := omega) only [decide_eq_true])) ?_
    refine wlk_skip ?_
    repeat (first | refine hn23 _ ?_ | refine he23 _ _ ?_ | refine he22 _ _ ?_ | refine hn21 _ ?_ | refine he21 _ ?_ | refine hf21 _ _ (by decide) ?_ | refine hn20 _ ?_ | refine he20 _ _ ?_ | refine hn12 _ ?_ | refine he12 _ _ ?_)
    refine wlk_seq fun X24 hn24 he24 hr24 => ?_
    refine wlk_blk fun X25 hn25 he25 hf25 hr25 => ?_
    have hx : S'[i]? = some S'[i] := List.getElem?_eq_getElem hk2
    have hm : S'[i] ∈ S' := List.getElem_mem hk2
    generalize S'[i] = v at hx hm
    have hvN := hSv v hm
    have hfvv := hfv v hvN
    have hss := sumAt_snoc fs hx
    have hb := hsb (S'.take i) (by rw [List.length_take]; omega)
    have hw0 : IntKind.i64.wrap (rA fs S' T' M - sumAt fs (S'.take i) - fs.getD v 0) = rA fs S' T' M - sumAt fs (S'.take (i + 1)) := by
      rw [IntWalk.i64_in _ (by omega), hss]; omega
    refine wlk_reg fun KY hKY => ?_
    simp only [go_sem, reduceIte, Nat.reduceEqDiff, Nat.reduceBEq, reduceCtorEq, c_garlandref23_Lack_r24, nats_at hx, hk2, nats_len, ints_get (show v < fs.length by omega), hvN, ints_len, hfl, hw0]
    refine hKY _ ?_
    repeat (first | refine hn25 _ ?_ | refine he25 _ ?_ | refine hf25 _ _ (by decide) ?_ | refine hn24 _ ?_ | refine he24 _ _ ?_ | refine hn23 _ ?_ | refine he23 _ _ ?_ | refine he22 _ _ ?_ | refine hn21 _ ?_ | refine he21 _ ?_ | refine hf21 _ _ (by decide) ?_ | refine hn20 _ ?_ | refine he20 _ _ ?_ | refine hn12 _ ?_ | refine he12 _ _ ?_)
    refine wlk_reg fun KY hKY => ?_
    simp only [go_sem, reduceIte, Nat.reduceEqDiff, reduceCtorEq, c_garlandref23_Lack_r25, incS (show i < 4611686018427387904 by omega)]
    refine hKY _ ?_
    repeat (first | refine hn25 _ ?_ | refine he25 _ ?_ | refine hf25 _ _ (by decide) ?_ | refine hn24 _ ?_ | refine he24 _ _ ?_ | refine hn23 _ ?_ | refine he23 _ _ ?_)
    refine hn22 _ (i + 1) (S'.length - (i + 1)) (by omega) (by first | (simp only [go_sem, reduceIte, Nat.reduceEqDiff, reduceCtorEq, updAll_cons, updAll_nil]; done) | with_reducible rfl) ?_
    exact ⟨hk2, rfl⟩
  have hdx : decide ((i : Int) < (S'.length : Int)) = false := decide_eq_false (by omega)
  refine wlk_sreg fun KY hKY => ?_
  simp only [go_sem, reduceIte, Nat.reduceEqDiff, reduceCtorEq, c_garlandref23_Lack_r23, nats_len, hdx]
  refine hKY _ ?_
  refine wlk_cond0 rfl ?_
  refine wlk_exit ?_
  repeat (first | refine hn23 _ ?_ | refine he23 _ _ ?_ | refine he22 _ _ ?_ | refine hn21 _ ?_ | refine he21 _ ?_ | refine hf21 _ _ (by decide) ?_ | refine hn20 _ ?_ | refine he20 _ _ ?_ | refine hn12 _ ?_ | refine he12 _ _ ?_ | refine he11 _ _ ?_ | refine hn10 _ ?_ | refine he10 _ ?_ | refine hf10 _ _ (by decide) ?_ | refine hn9 _ ?_ | refine he9 _ _ ?_ | refine hn8 _ ?_ | refine he8 _ _ ?_ | refine hn5 _ ?_ | refine he5 _ _ ?_ | refine he4 _ _ ?_ | refine hn3 _ ?_ | refine he3 _ ?_ | refine hf3 _ _ (by decide) ?_ | refine hn2 _ ?_ | refine he2 _ _ ?_ | refine hn1 _ ?_ | refine he1 _ _ ?_)
  obtain rfl : i = S'.length := by omega
  rw [List.take_length]
  have hrw := rwithout_ok g ((S' ++ T').map fun v : Nat => (v : Int)) (by simp; omega)
  rw [← nats_ints] at hrw
  have hb1 : S'.length * 8 ≤ 140737488355328 := by omega
  have hb2 : (S'.length + T'.length) * 8 ≤ 140737488355328 := by omega
  have hna : nats S' ++ nats T' = nats (S' ++ T') := by simp [nats]
  refine wlk_sdraw fun KY hKY => ?_
  simp only [go_sem, reduceIte, Nat.reduceEqDiff, Nat.reduceBEq, reduceCtorEq, Nat.reduceLT, Nat.reduceAdd, c_garlandref23_Lack_r26, nats_len, hb1, hb2, hna]
  refine call_view rfl (by simp only [go_sem, reduceIte, Nat.reduceEqDiff, reduceCtorEq] <;> rfl) ((hrw).mono ?_)
  rintro rr hh ⟨⟨ps, hps, rfl⟩, rfl⟩
  refine ⟨?_, ?_, ?_, ?_⟩
  iterate 3 (first | rfl | simp only [go_sem])
  simp only [go_sem, reduceIte, Nat.reduceEqDiff, Nat.reduceBEq, reduceCtorEq]
  refine hKY _ ?_
  refine sem_freeze [0, 16] (by simp only [go_sem, reduceIte, Nat.reduceEqDiff, reduceCtorEq]; rfl) ?_
  simp only [go_sem, reduceIte, Nat.reduceEqDiff, reduceCtorEq]
  have hpl2 := pieces_len hps
  have hpe := fun p hp => piece_len hps (p := p) hp
  have hpv : ∀ p ∈ ps, ∀ v ∈ p, v < N := fun p hp v hv => ((hps.mem v).1 ⟨p, hp, hv⟩).1
  have hgb : ∀ p : List Nat, 0 ≤ pA es fs T' p % 2 ∧ pA es fs T' p % 2 ≤ 1 := fun p => by omega
  have hspb : ∀ l : List (List Nat), 0 ≤ sp (fun p => pA es fs T' p % 2) l ∧ sp (fun p => pA es fs T' p % 2) l ≤ l.length := by
    intro l
    induction l with
    | nil => simp [sp]
    | cons p l ih => have := hgb p; rw [sp_cons, List.length_cons]; omega
  have hfl2 : ∀ v, ((nearOf es v).filter fun w => decide (w ∈ T')).length ≤ 131072 := fun v => Nat.le_trans (List.length_filter_le _ _) (Nat.le_trans (nearOf_len g v) (by omega))
  have hpAb : ∀ p : List Nat, (∀ v ∈ p, v < N) → 0 ≤ pA es fs T' p ∧ pA es fs T' p ≤ p.length * 200000 := by
    intro p hp
    induction p with
    | nil => simp [pA, s1_nil]
    | cons v p ih =>
      have h1 := ih fun w hw => hp w (List.mem_cons_of_mem _ hw)
      have h2 := hfv v (hp v (List.mem_cons_self ..))
      have h3 := hfl2 v
      unfold pA at h1 ⊢
      rw [s1_cons, List.length_cons]; omega
  obtain ⟨B, hB⟩ : ∃ B, B = rA fs S' T' M - sumAt fs S' := ⟨_, rfl⟩
  have hBb : -3000000000000 ≤ B ∧ B ≤ 3000000000000 := by have := hsb S' (by omega); omega
  rw [← hB]
  have hsp0 : B = B + sp (fun p => pA es fs T' p % 2) (ps.take 0) := by simp [sp]
  rw [hsp0]
  refine wlk_seq fun X26 hn26 he26 hr26 => ?_
  refine wlk_sreg fun KY hKY => ?_
  simp only [go_sem, reduceIte, Nat.reduceEqDiff, reduceCtorEq, c_garlandref23_Lack_r27]
  refine hKY _ ?_
  refine wlk_blk fun X27 hn27 he27 hf27 hr27 => ?_
  try simp only [go_sem, reduceIte, Nat.reduceEqDiff, reduceCtorEq]
  refine wlk_lp (α := Nat) [128, 137, 159, 168, 18, 19, 20, 21, 22] (fun i => [(11, .sc (.int .i64 (B + sp (fun p => pA es fs T' p % 2) (ps.take i)))), (17, .sc (.int .i64 (i : Int)))]) (fun i => []) (fun i q => i ≤ ps.length ∧ q = ps.length - i) (0) (ps.length) rfl (by first | (simp only [go_sem, reduceIte, Nat.reduceEqDiff, reduceCtorEq, updAll_cons, updAll_nil]; done) | with_reducible rfl | rfl) (⟨by omega, rfl⟩) ?_
  rintro i q ⟨hi, rfl⟩ X28 hn28 he28 hr28
  simp only [go_sem, reduceIte, Nat.reduceEqDiff, reduceCtorEq, updAll_cons, updAll_nil]
  refine wlk_seq fun X29 hn29 he29 hr29 => ?_
  rcases Nat.lt_or_ge i ps.length with hk2 | hk2
  · have hdy : decide ((i : Int) < (ps.length : Int)) = true := decide_eq_true (by omega)
    refine wlk_sreg fun KY hKY => ?_
    simp only [go_sem, reduceIte, Nat.reduceEqDiff, reduceCtorEq, c_garlandref23_Lack_r28, rowsI_len, hdy]
    refine hKY _ ?_
    refine wlk_cond1 rfl ?_
    refine wlk_skip ?_
    repeat (first | refine hn29 _ ?_ | refine he29 _ _ ?_ | refine he28 _ _ ?_ | refine hn27 _ ?_ | refine he27 _ ?_ | refine hf27 _ _ (by decide) ?_ | refine hn26 _ ?_ | refine he26 _ _ ?_ | refine hn23 _ ?_ | refine he23 _ _ ?_)
    refine wlk_seq fun X30 hn30 he30 hr30 => ?_
    refine wlk_blk fun X31 hn31 he31 hf31 hr31 => ?_
    have hx : ps[i]? = some ps[i] := List.getElem?_eq_getElem hk2
    have hmem : ps[i] ∈ ps := List.getElem_mem hk2
    generalize ps[i] = p at hx hmem
    have hpN : p.length ≤ 4096 := Nat.le_trans (hpe p hmem) hN
    have hrg := rowsI_get hx
    refine wlk_sreg fun KY hKY => ?_
    simp only [go_sem, reduceIte, Nat.reduceEqDiff, reduceCtorEq, c_garlandref23_Lack_r29]
    refine hKY _ ?_
    refine wlk_seq fun X32 hn32 he32 hr32 => ?_
    refine wlk_sreg fun KY hKY => ?_
    simp only [go_sem, reduceIte, Nat.reduceEqDiff, reduceCtorEq, c_garlandref23_Lack_r30]
    refine hKY _ ?_
    refine wlk_blk fun X33 hn33 he33 hf33 hr33 => ?_
    have hp0 : (0 : Int) = pA es fs T' (p.take 0) := rfl
    try simp only [go_sem, reduceIte, Nat.reduceEqDiff, reduceCtorEq]
    refine wlk_lp (α := Nat) [137, 159, 168, 20, 21, 22] (fun j => [(18, .sc (.int .i64 (pA es fs T' (p.take j)))), (19, .sc (.int .i64 (j : Int)))]) (fun j => []) (fun j q => j ≤ p.length ∧ q = p.length - j) (0) (p.length) rfl (by first | (simp only [go_sem, reduceIte, Nat.reduceEqDiff, reduceCtorEq, updAll_cons, updAll_nil]; done) | with_reducible rfl | rfl) (⟨by omega, rfl⟩) ?_
    rintro j q ⟨hj, rfl⟩ X34 hn34 he34 hr34
    simp only [go_sem, reduceIte, Nat.reduceEqDiff, reduceCtorEq, updAll_cons, updAll_nil]
    refine wlk_seq fun X35 hn35 he35 hr35 => ?_
    rcases Nat.lt_or_ge j p.length with hj2 | hj2
    · have hdy : decide ((j : Int) < (p.length : Int)) = true := decide_eq_true (by omega)
      refine wlk_sreg fun KY hKY => ?_
      simp only [go_sem, reduceIte, Nat.reduceEqDiff, reduceCtorEq, c_garlandref23_Lack_r31, hrg, hk2, rowsI_len, nats_len, hdy]
      refine hKY _ ?_
      refine wlk_cond1 rfl ?_
      refine wlk_skip ?_
      repeat (first | refine hn35 _ ?_ | refine he35 _ _ ?_ | refine he34 _ _ ?_ | refine hn33 _ ?_ | refine he33 _ ?_ | refine hf33 _ _ (by decide) ?_ | refine hn32 _ ?_ | refine he32 _ _ ?_ | refine hn31 _ ?_ | refine he31 _ ?_ | refine hf31 _ _ (by decide) ?_ | refine hn30 _ ?_ | refine he30 _ _ ?_ | refine hn29 _ ?_ | refine he29 _ _ ?_)
      refine wlk_seq fun X36 hn36 he36 hr36 => ?_
      refine wlk_blk fun X37 hn37 he37 hf37 hr37 => ?_
      have hy : p[j]? = some p[j] := List.getElem?_eq_getElem hj2
      have hmy : p[j] ∈ p := List.getElem_mem hj2
      generalize p[j] = v at hy hmy
      have hvN := hpv p hmem v hmy
      have hfvv := hfv v hvN
      have hsn := pA_snoc es fs T' hy
      have hpb := hpAb (p.take j) fun w hw => hpv p hmem w (List.mem_of_mem_take hw)
      have hpt : (p.take j).length ≤ 4096 := by rw [List.length_take]; omega
      have hnl := nearOf_len g v
      have hf2 := hfl2 v
      refine wlk_sreg fun KY hKY => ?_
      simp only [go_sem, reduceIte, Nat.reduceEqDiff, reduceCtorEq, c_garlandref23_Lack_r32, hrg, hk2, rowsI_len, nats_len, nats_at hy, hj2]
      refine hKY _ ?_
      have hw1 : IntKind.i64.wrap (pA es fs T' (p.take j) + fs.getD v 0) = pA es fs T' (p.take j) + fs.getD v 0 := by rw [IntWalk.i64_in _ (by omega)]
      refine wlk_sreg fun KY hKY => ?_
      simp only [go_sem, reduceIte, Nat.reduceEqDiff, reduceCtorEq, c_garlandref23_Lack_r33, ints_get (show v < fs.length by omega), hvN, ints_len, hfl, hw1]
      refine hKY _ ?_
      refine wlk_sreg fun KY hKY => ?_
      simp only [go_sem, reduceIte, Nat.reduceEqDiff, reduceCtorEq, Nat.reduceLT, Nat.reduceAdd, c_garlandref23_Lack_r34]
      refine call_view rfl (by simp only [go_sem, reduceIte, Nat.reduceEqDiff, reduceCtorEq] <;> rfl) ((near_ok g v).mono ?_)
      rintro rr hh ⟨rfl, rfl⟩
      refine ⟨?_, ?_, ?_, ?_⟩
      iterate 3 (first | rfl | simp only [go_sem])
      simp only [go_sem, reduceIte, Nat.reduceEqDiff, reduceCtorEq]
      refine hKY _ ?_
      generalize hL : nearOf es v = L at hnl hsn hf2
      obtain ⟨A, hA⟩ : ∃ A, A = pA es fs T' (p.take j) + fs.getD v 0 := ⟨_, rfl⟩
      rw [← hA] at hsn
      have hAb : 0 ≤ A ∧ A ≤ 1000000000000 := by omega
      have hflt : ∀ m, (((L.take m).filter fun w => decide (w ∈ T')).length : Nat) ≤ 262144 := fun m => Nat.le_trans (List.length_filter_le _ _) (Nat.le_trans (List.length_take_le' _ _) (by omega))
      rw [← hA]
      have hA0 : A = A + ((((L.take 0).filter fun w => decide (w ∈ T')).length : Nat) : Int) := by simp
      rw [hA0]
      refine wlk_sreg fun KY hKY => ?_
      simp only [go_sem, reduceIte, Nat.reduceEqDiff, reduceCtorEq, c_garlandref23_Lack_r35]
      refine hKY _ ?_
      refine wlk_blk fun X38 hn38 he38 hf38 hr38 => ?_
      try simp only [go_sem, reduceIte, Nat.reduceEqDiff, reduceCtorEq]
      refine wlk_lp (α := Nat) [159, 168] (fun m => [(18, .sc (.int .i64 (A + ((((L.take m).filter fun w => decide (w ∈ T')).length : Nat) : Int)))), (22, .sc (.int .i64 (m : Int)))]) (fun m => []) (fun m q => m ≤ L.length ∧ q = L.length - m) (0) (L.length) rfl (by first | (simp only [go_sem, reduceIte, Nat.reduceEqDiff, reduceCtorEq, updAll_cons, updAll_nil]; done) | with_reducible rfl | rfl) (⟨by omega, rfl⟩) ?_
      rintro m q ⟨hm, rfl⟩ X39 hn39 he39 hr39
      simp only [go_sem, reduceIte, Nat.reduceEqDiff, reduceCtorEq, updAll_cons, updAll_nil]
      refine wlk_seq fun X40 hn40 he40 hr40 => ?_
      rcases Nat.lt_or_ge m L.length with hm2 | hm2
      · refine wlk_sreg fun KY hKY => ?_
        simp only [go_sem, reduceIte, Nat.reduceEqDiff, reduceCtorEq, c_garlandref23_Lack_r36, nats_len]
        refine hKY _ ?_
        refine wlk_cond1 (by first | rfl | (simp only [go_sem, reduceIte, Nat.reduceEqDiff, reduceCtorEq]; try simp (disch := omega) only [decide_eq_true])) ?_
        refine wlk_skip ?_
        repeat (first | refine hn40 _ ?_ | refine he40 _ _ ?_ | refine he39 _ _ ?_ | refine hn38 _ ?_ | refine he38 _ ?_ | refine hf38 _ _ (by decide) ?_ | refine hn37 _ ?_ | refine he37 _ ?_ | refine hf37 _ _ (by decide) ?_ | refine hn36 _ ?_ | refine he36 _ _ ?_ | refine hn35 _ ?_ | refine he35 _ _ ?_)
        refine wlk_seq fun X41 hn41 he41 hr41 => ?_
        refine wlk_blk fun X42 hn42 he42 hf42 hr42 => ?_
        have hz : L[m]? = some L[m] := List.getElem?_eq_getElem hm2
        generalize L[m] = w at hz
        have hfm := hflt m
        by_cases hwT : w ∈ T'
        · have hin := hasI_nat.2 hwT
          have hst : ((((L.take (m + 1)).filter fun w => decide (w ∈ T')).length : Nat) : Int) = ((((L.take m).filter fun w => decide (w ∈ T')).length : Nat) : Int) + 1 := by rw [List.take_add_one, hz, List.filter_append]; simp [hwT]
          have hw2 : IntKind.i64.wrap (A + ((((L.take m).filter fun w => decide (w ∈ T')).length : Nat) : Int) + 1) = A + ((((L.take (m + 1)).filter fun w => decide (w ∈ T')).length : Nat) : Int) := by rw [IntWalk.i64_in _ (by omega), hst]; omega
          refine wlk_sdraw fun KY hKY => ?_
          simp only [go_sem, reduceIte, Nat.reduceEqDiff, Nat.reduceBEq, reduceCtorEq, c_garlandref23_Lack_r37, nats_len]
          repeat (simp (disch := omega) only [if_pos, decide_eq_true]; try simp only [go_sem, reduceIte, Nat.reduceEqDiff, reduceCtorEq, nats_at hz])
          refine call_view rfl (by simp only [go_sem, reduceIte, Nat.reduceEqDiff, reduceCtorEq] <;> rfl) ((inN_ok T' w (by omega)).mono ?_)
          rintro rr hh ⟨rfl, rfl⟩
          refine ⟨rfl, rfl, rfl, ?_⟩
          simp only [go_sem, hin]
          refine hKY _ ?_
          refine wlk_cond1 rfl ?_
          refine wlk_reg fun KY hKY => ?_
          simp only [go_sem, reduceIte, Nat.reduceEqDiff, reduceCtorEq, c_garlandref23_Lack_r38, hw2]
          refine hKY _ ?_
          repeat (first | refine hn42 _ ?_ | refine he42 _ ?_ | refine hf42 _ _ (by decide) ?_ | refine hn41 _ ?_ | refine he41 _ _ ?_ | refine hn40 _ ?_ | refine he40 _ _ ?_ | refine he39 _ _ ?_ | refine hn38 _ ?_ | refine he38 _ ?_ | refine hf38 _ _ (by decide) ?_ | refine hn37 _ ?_ | refine he37 _ ?_ | refine hf37 _ _ (by decide) ?_ | refine hn36 _ ?_ | refine he36 _ _ ?_ | refine hn35 _ ?_ | refine he35 _ _ ?_)
          refine wlk_reg fun KY hKY => ?_
          simp only [go_sem, reduceIte, Nat.reduceEqDiff, reduceCtorEq, c_garlandref23_Lack_r39, incS (show m < 4611686018427387904 by omega)]
          refine hKY _ ?_
          repeat (first | refine hn42 _ ?_ | refine he42 _ ?_ | refine hf42 _ _ (by decide) ?_ | refine hn41 _ ?_ | refine he41 _ _ ?_ | refine hn40 _ ?_ | refine he40 _ _ ?_)
          refine hn39 _ (m + 1) (L.length - (m + 1)) (by omega) (by first | (simp only [go_sem, reduceIte, Nat.reduceEqDiff, reduceCtorEq, updAll_cons, updAll_nil]; done) | with_reducible rfl) ?_
          exact ⟨hm2, rfl⟩
        · have hin : hasI T' (w : Int) = false := by rw [Bool.eq_false_iff]; intro h; exact hwT (hasI_nat.1 h)
          have hst : ((((L.take (m + 1)).filter fun w => decide (w ∈ T')).length : Nat) : Int) = ((((L.take m).filter fun w => decide (w ∈ T')).length : Nat) : Int) := by rw [List.take_add_one, hz, List.filter_append]; simp [hwT]
          refine wlk_sdraw fun KY hKY => ?_
          simp only [go_sem, reduceIte, Nat.reduceEqDiff, Nat.reduceBEq, reduceCtorEq, c_garlandref23_Lack_r37, nats_len]
          repeat (simp (disch := omega) only [if_pos, decide_eq_true]; try simp only [go_sem, reduceIte, Nat.reduceEqDiff, reduceCtorEq, nats_at hz])
          refine call_view rfl (by simp only [go_sem, reduceIte, Nat.reduceEqDiff, reduceCtorEq] <;> rfl) ((inN_ok T' w (by omega)).mono ?_)
          rintro rr hh ⟨rfl, rfl⟩
          refine ⟨rfl, rfl, rfl, ?_⟩
          simp only [go_sem, hin]
          refine hKY _ ?_
          refine wlk_cond0 rfl ?_
          refine wlk_skip ?_
          repeat (first | refine hn42 _ ?_ | refine he42 _ ?_ | refine hf42 _ _ (by decide) ?_ | refine hn41 _ ?_ | refine he41 _ _ ?_ | refine hn40 _ ?_ | refine he40 _ _ ?_ | refine he39 _ _ ?_ | refine hn38 _ ?_ | refine he38 _ ?_ | refine hf38 _ _ (by decide) ?_ | refine hn37 _ ?_ | refine he37 _ ?_ | refine hf37 _ _ (by decide) ?_ | refine hn36 _ ?_ | refine he36 _ _ ?_ | refine hn35 _ ?_ | refine he35 _ _ ?_)
          refine wlk_reg fun KY hKY => ?_
          simp only [go_sem, reduceIte, Nat.reduceEqDiff, reduceCtorEq, c_garlandref23_Lack_r39, incS (show m < 4611686018427387904 by omega)]
          refine hKY _ ?_
          repeat (first | refine hn42 _ ?_ | refine he42 _ ?_ | refine hf42 _ _ (by decide) ?_ | refine hn41 _ ?_ | refine he41 _ _ ?_ | refine hn40 _ ?_ | refine he40 _ _ ?_)
          refine hn39 _ (m + 1) (L.length - (m + 1)) (by omega) (by first | (simp only [go_sem, reduceIte, Nat.reduceEqDiff, reduceCtorEq, updAll_cons, updAll_nil, hst]; done) | with_reducible rfl) ?_
          exact ⟨hm2, rfl⟩
      refine wlk_sreg fun KY hKY => ?_
      simp only [go_sem, reduceIte, Nat.reduceEqDiff, reduceCtorEq, c_garlandref23_Lack_r36, nats_len]
      refine hKY _ ?_
      refine wlk_cond0 (by first | rfl | (simp only [go_sem, reduceIte, Nat.reduceEqDiff, reduceCtorEq]; try simp (disch := omega) only [decide_eq_false])) ?_
      refine wlk_exit ?_
      repeat (first | refine hn40 _ ?_ | refine he40 _ _ ?_ | refine he39 _ _ ?_ | refine hn38 _ ?_ | refine he38 _ ?_ | refine hf38 _ _ (by decide) ?_ | refine hn37 _ ?_ | refine he37 _ ?_ | refine hf37 _ _ (by decide) ?_ | refine hn36 _ ?_ | refine he36 _ _ ?_ | refine hn35 _ ?_ | refine he35 _ _ ?_ | refine he34 _ _ ?_ | refine hn33 _ ?_ | refine he33 _ ?_ | refine hf33 _ _ (by decide) ?_ | refine hn32 _ ?_ | refine he32 _ _ ?_ | refine hn31 _ ?_ | refine he31 _ ?_ | refine hf31 _ _ (by decide) ?_ | refine hn30 _ ?_ | refine he30 _ _ ?_ | refine hn29 _ ?_ | refine he29 _ _ ?_ | refine he28 _ _ ?_ | refine hn27 _ ?_ | refine he27 _ ?_ | refine hf27 _ _ (by decide) ?_ | refine hn26 _ ?_ | refine he26 _ _ ?_ | refine hn23 _ ?_ | refine he23 _ _ ?_)
      obtain rfl : m = L.length := by omega
      rw [List.take_length, ← hsn]
      refine wlk_reg fun KY hKY => ?_
      simp only [go_sem, reduceIte, Nat.reduceEqDiff, reduceCtorEq, c_garlandref23_Lack_r40, incS (show j < 4611686018427387904 by omega)]
      refine hKY _ ?_
      repeat (first | refine hn40 _ ?_ | refine he40 _ _ ?_ | refine he39 _ _ ?_ | refine hn38 _ ?_ | refine he38 _ ?_ | refine hf38 _ _ (by decide) ?_ | refine hn37 _ ?_ | refine he37 _ ?_ | refine hf37 _ _ (by decide) ?_ | refine hn36 _ ?_ | refine he36 _ _ ?_ | refine hn35 _ ?_ | refine he35 _ _ ?_)
      refine hn34 _ (j + 1) (p.length - (j + 1)) (by omega) (by first | (simp only [go_sem, reduceIte, Nat.reduceEqDiff, reduceCtorEq, updAll_cons, updAll_nil]; done) | with_reducible rfl) ?_
      exact ⟨hj2, rfl⟩
    have hdx : decide ((j : Int) < (p.length : Int)) = false := decide_eq_false (by omega)
    refine wlk_sreg fun KY hKY => ?_
    simp only [go_sem, reduceIte, Nat.reduceEqDiff, reduceCtorEq, c_garlandref23_Lack_r31, hrg, hk2, rowsI_len, nats_len, hdx]
    refine hKY _ ?_
    refine wlk_cond0 rfl ?_
    refine wlk_exit ?_
    repeat (first | refine hn35 _ ?_ | refine he35 _ _ ?_ | refine he34 _ _ ?_ | refine hn33 _ ?_ | refine he33 _ ?_ | refine hf33 _ _ (by decide) ?_ | refine hn32 _ ?_ | refine he32 _ _ ?_ | refine hn31 _ ?_ | refine he31 _ ?_ | refine hf31 _ _ (by decide) ?_ | refine hn30 _ ?_ | refine he30 _ _ ?_ | refine hn29 _ ?_ | refine he29 _ _ ?_ | refine he28 _ _ ?_ | refine hn27 _ ?_ | refine he27 _ ?_ | refine hf27 _ _ (by decide) ?_ | refine hn26 _ ?_ | refine he26 _ _ ?_ | refine hn23 _ ?_ | refine he23 _ _ ?_ | refine he22 _ _ ?_ | refine hn21 _ ?_ | refine he21 _ ?_ | refine hf21 _ _ (by decide) ?_ | refine hn20 _ ?_ | refine he20 _ _ ?_ | refine hn12 _ ?_ | refine he12 _ _ ?_)
    obtain rfl : j = p.length := by omega
    rw [List.take_length]
    have hsn : sp (fun p => pA es fs T' p % 2) (ps.take (i + 1)) = sp (fun p => pA es fs T' p % 2) (ps.take i) + pA es fs T' p % 2 := by simp [sp, List.take_add_one, hx]
    have hbi := hspb (ps.take i)
    have hli : (ps.take i).length ≤ ps.length := List.length_take_le' _ _
    have hpb := hpAb p fun w hw => hpv p hmem w hw
    have hgp := hgb p
    have hw2 : (pA es fs T' p).tmod 2 = pA es fs T' p % 2 := Int.tmod_eq_emod_of_nonneg (by omega)
    have hw3 : IntKind.i64.wrap (B + sp (fun p => pA es fs T' p % 2) (ps.take i) + pA es fs T' p % 2) = B + sp (fun p => pA es fs T' p % 2) (ps.take (i + 1)) := by rw [hsn, IntWalk.i64_in _ (by omega)]; omega
    refine wlk_reg fun KY hKY => ?_
    simp only [go_sem, reduceIte, Nat.reduceEqDiff, reduceCtorEq, Int.reduceEq, c_garlandref23_Lack_r41, hw2, hw3]
    refine hKY _ ?_
    repeat (first | refine hn35 _ ?_ | refine he35 _ _ ?_ | refine he34 _ _ ?_ | refine hn33 _ ?_ | refine he33 _ ?_ | refine hf33 _ _ (by decide) ?_ | refine hn32 _ ?_ | refine he32 _ _ ?_ | refine hn31 _ ?_ | refine he31 _ ?_ | refine hf31 _ _ (by decide) ?_ | refine hn30 _ ?_ | refine he30 _ _ ?_ | refine hn29 _ ?_ | refine he29 _ _ ?_)
    refine wlk_reg fun KY hKY => ?_
    simp only [go_sem, reduceIte, Nat.reduceEqDiff, reduceCtorEq, c_garlandref23_Lack_r42, incS (show i < 4611686018427387904 by omega)]
    refine hKY _ ?_
    repeat (first | refine hn35 _ ?_ | refine he35 _ _ ?_ | refine he34 _ _ ?_ | refine hn33 _ ?_ | refine he33 _ ?_ | refine hf33 _ _ (by decide) ?_ | refine hn32 _ ?_ | refine he32 _ _ ?_ | refine hn31 _ ?_ | refine he31 _ ?_ | refine hf31 _ _ (by decide) ?_ | refine hn30 _ ?_ | refine he30 _ _ ?_ | refine hn29 _ ?_ | refine he29 _ _ ?_)
    refine hn28 _ (i + 1) (ps.length - (i + 1)) (by omega) (by first | (simp only [go_sem, reduceIte, Nat.reduceEqDiff, reduceCtorEq, updAll_cons, updAll_nil]; done) | with_reducible rfl) ?_
    exact ⟨hk2, rfl⟩
  refine wlk_sreg fun KY hKY => ?_
  simp only [go_sem, reduceIte, Nat.reduceEqDiff, reduceCtorEq, c_garlandref23_Lack_r28, rowsI_len]
  refine hKY _ ?_
  refine wlk_cond0 (by first | rfl | (simp only [go_sem, reduceIte, Nat.reduceEqDiff, reduceCtorEq]; try simp (disch := omega) only [decide_eq_false])) ?_
  refine wlk_exit ?_
  repeat (first | refine hn29 _ ?_ | refine he29 _ _ ?_ | refine he28 _ _ ?_ | refine hn27 _ ?_ | refine he27 _ ?_ | refine hf27 _ _ (by decide) ?_ | refine hn26 _ ?_ | refine he26 _ _ ?_ | refine hn23 _ ?_ | refine he23 _ _ ?_ | refine he22 _ _ ?_ | refine hn21 _ ?_ | refine he21 _ ?_ | refine hf21 _ _ (by decide) ?_ | refine hn20 _ ?_ | refine he20 _ _ ?_ | refine hn12 _ ?_ | refine he12 _ _ ?_ | refine he11 _ _ ?_ | refine hn10 _ ?_ | refine he10 _ ?_ | refine hf10 _ _ (by decide) ?_ | refine hn9 _ ?_ | refine he9 _ _ ?_ | refine hn8 _ ?_ | refine he8 _ _ ?_ | refine hn5 _ ?_ | refine he5 _ _ ?_)
  obtain rfl : i = ps.length := by omega
  rw [List.take_length]
  refine wlk_sreg fun KY hKY => ?_
  simp only [go_sem, reduceIte, Nat.reduceEqDiff, reduceCtorEq, c_garlandref23_Lack_r43]
  refine hKY _ ?_
  refine wlk_ret ?_
  repeat (first | refine hr29 _ ?_ | refine hr28 _ ?_ | refine hr27 _ ?_ | refine hr26 _ ?_ | refine hr23 _ ?_ | refine hr22 _ ?_ | refine hr21 _ ?_ | refine hr20 _ ?_ | refine hr12 _ ?_ | refine hr11 _ ?_ | refine hr10 _ ?_ | refine hr9 _ ?_ | refine hr8 _ ?_ | refine hr5 _ ?_ | refine hr4 _ ?_ | refine hr3 _ ?_ | refine hr2 _ ?_ | refine hr1 _ ?_)
  simp only [go_sem, reduceIte, Nat.reduceEqDiff, reduceCtorEq]
  refine ⟨ps, hps, ?_⟩
  have hlast : B + sp (fun p => pA es fs T' p % 2) ps = lackW N es fs S' T' ps := by
    have he : sp (fun p => pA es fs T' p % 2) ps = sp (fun p => (sumAt fs p + sumAt (toI N (allNear es T')) p) % 2) ps := by
      unfold sp
      refine congrArg List.sum (List.map_congr_left fun p hp => ?_)
      rw [pA_eq g fs hTn (hpv p hp)]
    rw [he, hB]; unfold lackW rA; rw [hM]; omega
  rw [hlast]
end Go.Proofs.Ytepjcfbigcfkfaa
set_option maxRecDepth 100000
set_option maxHeartbeats 2000000
namespace Go.Proofs.Ytepjcfbigcfkfaa
open Go Go.Ga Go.Ga.Gl
theorem eqE_ok (x y : Int × Int) : ACalls Try.prog [] n_garlandhelp_Plain_api_Edge__1 [.agg [.sc (.int .i64 x.1), .sc (.int .i64 x.2)], .agg [.sc (.int .i64 y.1), .sc (.int .i64 y.2)]] [] fun r h' => r = .sc (.bool (decide (x = y))) ∧ h' = [] := by
  obtain ⟨a, b⟩ := x
  obtain ⟨c, d⟩ := y
  refine ACalls.trim ?_
  refine go_garlandhelp_Plain_api_Edge__1 rfl ?_
  unfold c_garlandhelp_Plain_api_Edge__1 v_garlandhelp_Plain_api_Edge__1
  refine wlk_sreg fun KY hKY => ?_
  simp only [go_sem, reduceIte, Nat.reduceEqDiff, reduceCtorEq, c_garlandhelp_Plain_api_Edge__1_r0]
  refine hKY _ ?_
  refine wlk_sreg fun KY hKY => ?_
  simp only [go_sem, reduceIte, Nat.reduceEqDiff, reduceCtorEq, Nat.reduceLT, Nat.reduceAdd, Nat.reduceSub, c_garlandhelp_Plain_api_Edge__1_r1]
  refine hKY _ ?_
  refine wlk_ret ?_
  simp only [go_sem, reduceIte, Nat.reduceEqDiff, reduceCtorEq]
theorem sameE_ok (xs ys : List (Int × Int)) (hb : xs.length ≤ 1000000000) : ACalls Try.prog [] n_garlandhelp_Same_api_Edge_ [.imm 2 (twos xs), .imm 2 (twos ys), .fn (.func n_garlandhelp_Plain_api_Edge__1) [] []] [] fun r h' => r = .sc (.bool (decide (xs = ys))) ∧ h' = [] := by
  refine go_garlandhelp_Same_api_Edge_ rfl ?_
  unfold c_garlandhelp_Same_api_Edge_ v_garlandhelp_Same_api_Edge_
  refine wlk_sreg fun KY hKY => ?_
  simp only [go_sem, reduceIte, Nat.reduceEqDiff, reduceCtorEq, c_garlandhelp_Same_api_Edge__r0]
  refine hKY _ ?_
  refine wlk_seq fun X1 hn1 he1 hr1 => ?_
  by_cases hl : xs.length = ys.length
  · have d1 : decide ((xs.length : Int) ≠ (ys.length : Int)) = false := decide_eq_false (by omega)
    refine wlk_sreg fun KY hKY => ?_
    simp only [go_sem, reduceIte, Nat.reduceEqDiff, reduceCtorEq, c_garlandhelp_Same_api_Edge__r1, twos_len, mul2, d1]
    refine hKY _ ?_
    refine wlk_cond0 rfl ?_
    refine wlk_skip ?_
    repeat (first | refine hn1 _ ?_ | refine he1 _ _ ?_)
    refine wlk_seq fun X2 hn2 he2 hr2 => ?_
    refine wlk_sreg fun KY hKY => ?_
    simp only [go_sem, reduceIte, Nat.reduceEqDiff, reduceCtorEq, c_garlandhelp_Same_api_Edge__r3]
    refine hKY _ ?_
    refine wlk_blk fun X3 hn3 he3 hf3 hr3 => ?_
    try simp only [go_sem, reduceIte, Nat.reduceEqDiff, reduceCtorEq]
    refine wlk_lp (α := Nat) [16, 29] (fun k => [(7, .sc (.int .i64 (k : Int)))]) (fun k => []) (fun k q => k ≤ xs.length ∧ q = xs.length - k ∧ xs.take k = ys.take k) (0) (xs.length) rfl (by first | (simp only [go_sem, reduceIte, Nat.reduceEqDiff, reduceCtorEq, updAll_cons, updAll_nil]; done) | with_reducible rfl | rfl) (⟨by omega, rfl, rfl⟩) ?_
    rintro k q ⟨hk, rfl, hpre⟩ X4 hn4 he4 hr4
    simp only [go_sem, reduceIte, Nat.reduceEqDiff, reduceCtorEq, updAll_cons, updAll_nil]
    refine wlk_seq fun X5 hn5 he5 hr5 => ?_
    rcases Nat.lt_or_ge k xs.length with hk2 | hk2
    · refine wlk_sreg fun KY hKY => ?_
      simp only [go_sem, reduceIte, Nat.reduceEqDiff, reduceCtorEq, c_garlandhelp_Same_api_Edge__r4, twos_len, mul2]
      refine hKY _ ?_
      refine wlk_cond1 (by first | rfl | (simp only [go_sem, reduceIte, Nat.reduceEqDiff, reduceCtorEq]; try simp (disch := omega) only [decide_eq_true])) ?_
      refine wlk_skip ?_
      repeat (first | refine hn5 _ ?_ | refine he5 _ _ ?_ | refine he4 _ _ ?_ | refine hn3 _ ?_ | refine he3 _ ?_ | refine hf3 _ _ (by decide) ?_ | refine hn2 _ ?_ | refine he2 _ _ ?_ | refine hn1 _ ?_ | refine he1 _ _ ?_)
      refine wlk_seq fun X6 hn6 he6 hr6 => ?_
      refine wlk_blk fun X7 hn7 he7 hf7 hr7 => ?_
      have hk3 : k < ys.length := by omega
      have hx : xs[k]? = some xs[k] := List.getElem?_eq_getElem hk2
      have hy : ys[k]? = some ys[k] := List.getElem?_eq_getElem hk3
      have st := alike_snoc hx hy hpre
      generalize xs[k] = x at hx st
      generalize ys[k] = y at hy st
      by_cases e : x = y
      · have hd := decide_eq_true e
        refine wlk_sdraw fun KY hKY => ?_
        simp only [go_sem, reduceIte, Nat.reduceEqDiff, Nat.reduceBEq, reduceCtorEq, c_garlandhelp_Same_api_Edge__r5, twos_len]
        repeat (simp (disch := omega) only [if_pos, if_neg, decide_eq_true]; try simp only [go_sem, reduceIte, Nat.reduceEqDiff, two_cells hx, two_cells hy, List.length_drop, twos_len])
        refine call_view rfl (by simp only [go_sem, reduceIte, Nat.reduceEqDiff, reduceCtorEq] <;> rfl) ((eqE_ok x y).mono ?_)
        rintro rr hh ⟨rfl, rfl⟩
        refine ⟨rfl, rfl, rfl, ?_⟩
        simp only [go_sem, reduceIte, Nat.reduceEqDiff, reduceCtorEq, hd]
        refine hKY _ ?_
        refine wlk_cond0 rfl ?_
        refine wlk_skip ?_
        repeat (first | refine hn7 _ ?_ | refine he7 _ ?_ | refine hf7 _ _ (by decide) ?_ | refine hn6 _ ?_ | refine he6 _ _ ?_ | refine hn5 _ ?_ | refine he5 _ _ ?_ | refine he4 _ _ ?_ | refine hn3 _ ?_ | refine he3 _ ?_ | refine hf3 _ _ (by decide) ?_ | refine hn2 _ ?_ | refine he2 _ _ ?_ | refine hn1 _ ?_ | refine he1 _ _ ?_)
        refine wlk_reg fun KY hKY => ?_
        simp only [go_sem, reduceIte, Nat.reduceEqDiff, reduceCtorEq, c_garlandhelp_Same_api_Edge__r7, incS (show k < 4611686018427387904 by omega)]
        refine hKY _ ?_
        repeat (first | refine hn7 _ ?_ | refine he7 _ ?_ | refine hf7 _ _ (by decide) ?_ | refine hn6 _ ?_ | refine he6 _ _ ?_ | refine hn5 _ ?_ | refine he5 _ _ ?_)
        refine hn4 _ (k + 1) (xs.length - (k + 1)) (by omega) (by first | (simp only [go_sem, reduceIte, Nat.reduceEqDiff, reduceCtorEq, updAll_cons, updAll_nil]; done) | with_reducible rfl) ?_
        exact ⟨hk2, rfl, st.2 e⟩
      · have hd := decide_eq_false e
        refine wlk_sdraw fun KY hKY => ?_
        simp only [go_sem, reduceIte, Nat.reduceEqDiff, Nat.reduceBEq, reduceCtorEq, c_garlandhelp_Same_api_Edge__r5, twos_len]
        repeat (simp (disch := omega) only [if_pos, if_neg, decide_eq_true]; try simp only [go_sem, reduceIte, Nat.reduceEqDiff, two_cells hx, two_cells hy, List.length_drop, twos_len])
        refine call_view rfl (by simp only [go_sem, reduceIte, Nat.reduceEqDiff, reduceCtorEq] <;> rfl) ((eqE_ok x y).mono ?_)
        rintro rr hh ⟨rfl, rfl⟩
        refine ⟨rfl, rfl, rfl, ?_⟩
        simp only [go_sem, reduceIte, Nat.reduceEqDiff, reduceCtorEq, hd]
        refine hKY _ ?_
        refine wlk_cond1 rfl ?_
        refine wlk_sreg fun KY hKY => ?_
        simp only [go_sem, reduceIte, Nat.reduceEqDiff, reduceCtorEq, c_garlandhelp_Same_api_Edge__r6]
        refine hKY _ ?_
        refine wlk_ret ?_
        repeat (first | refine hr7 _ ?_ | refine hr6 _ ?_ | refine hr5 _ ?_ | refine hr4 _ ?_ | refine hr3 _ ?_ | refine hr2 _ ?_ | refine hr1 _ ?_)
        simp only [go_sem, reduceIte, Nat.reduceEqDiff, reduceCtorEq]
        rw [decide_eq_false (fun e' : xs = ys => e (by subst e'; rw [hx] at hy; exact Option.some.inj hy))]
    refine wlk_sreg fun KY hKY => ?_
    simp only [go_sem, reduceIte, Nat.reduceEqDiff, reduceCtorEq, c_garlandhelp_Same_api_Edge__r4, twos_len, mul2]
    refine hKY _ ?_
    refine wlk_cond0 (by first | rfl | (simp only [go_sem, reduceIte, Nat.reduceEqDiff, reduceCtorEq]; try simp (disch := omega) only [decide_eq_false])) ?_
    refine wlk_exit ?_
    repeat (first | refine hn5 _ ?_ | refine he5 _ _ ?_ | refine he4 _ _ ?_ | refine hn3 _ ?_ | refine he3 _ ?_ | refine hf3 _ _ (by decide) ?_ | refine hn2 _ ?_ | refine he2 _ _ ?_ | refine hn1 _ ?_ | refine he1 _ _ ?_)
    have hkn : k = xs.length := by omega
    refine wlk_sreg fun KY hKY => ?_
    simp only [go_sem, reduceIte, Nat.reduceEqDiff, reduceCtorEq, c_garlandhelp_Same_api_Edge__r8]
    refine hKY _ ?_
    refine wlk_ret ?_
    repeat (first | refine hr5 _ ?_ | refine hr4 _ ?_ | refine hr3 _ ?_ | refine hr2 _ ?_ | refine hr1 _ ?_)
    simp only [go_sem, reduceIte, Nat.reduceEqDiff, reduceCtorEq]
    rw [hkn, List.take_length, hl, List.take_length] at hpre
    rw [decide_eq_true hpre]
  · have d1 : decide ((xs.length : Int) ≠ (ys.length : Int)) = true := decide_eq_true (by omega)
    refine wlk_sreg fun KY hKY => ?_
    simp only [go_sem, reduceIte, Nat.reduceEqDiff, reduceCtorEq, c_garlandhelp_Same_api_Edge__r1, twos_len, mul2, d1]
    refine hKY _ ?_
    refine wlk_cond1 rfl ?_
    refine wlk_sreg fun KY hKY => ?_
    simp only [go_sem, reduceIte, Nat.reduceEqDiff, reduceCtorEq, c_garlandhelp_Same_api_Edge__r2]
    refine hKY _ ?_
    refine wlk_ret ?_
    repeat (first | refine hr1 _ ?_)
    simp only [go_sem, reduceIte, Nat.reduceEqDiff, reduceCtorEq]
    rw [decide_eq_false (fun e : xs = ys => hl (by rw [e]))]
theorem plainE_ok (xs ys : List (Int × Int)) (hb : xs.length ≤ 1000000000) : ACalls Try.prog [] n_garlandhelp_Plain_api_Edge_ [.imm 2 (twos xs), .imm 2 (twos ys)] [] fun r h' => r = .sc (.bool (decide (xs = ys))) ∧ h' = [] := by
  refine go_garlandhelp_Plain_api_Edge_ rfl ?_
  unfold c_garlandhelp_Plain_api_Edge_ v_garlandhelp_Plain_api_Edge_
  refine wlk_sreg fun KY hKY => ?_
  simp only [go_sem, reduceIte, Nat.reduceEqDiff, reduceCtorEq, c_garlandhelp_Plain_api_Edge__r0]
  refine hKY _ ?_
  refine wlk_sreg fun KY hKY => ?_
  simp only [go_sem, reduceIte, Nat.reduceEqDiff, reduceCtorEq, c_garlandhelp_Plain_api_Edge__r1]
  refine call_view rfl (by simp only [go_sem, reduceIte, Nat.reduceEqDiff, reduceCtorEq] <;> rfl) ((sameE_ok xs ys hb).mono ?_)
  rintro rr hh ⟨rfl, rfl⟩
  refine ⟨rfl, rfl, rfl, ?_⟩
  simp only [go_sem, reduceIte, Nat.reduceEqDiff, reduceCtorEq]
  refine hKY _ ?_
  refine wlk_ret ?_
  simp only [go_sem, reduceIte, Nat.reduceEqDiff, reduceCtorEq]
def roomE (l : List (Int × Int)) (x : Int × Int) (k : Nat) : List (Int × Int) := l ++ (List.replicate k x ++ List.replicate (3 - k) (0, 0))
theorem roomE_len (l : List (Int × Int)) (x : Int × Int) (k : Nat) (h : k ≤ 3) : (roomE l x k).length = l.length + 3 := by
  simp [roomE]; omega
theorem roomE_set (l : List (Int × Int)) (x : Int × Int) (k : Nat) (h : k < 3) : (roomE l x k).set (l.length + k) x = roomE l x (k + 1) := by
  unfold roomE
  rw [List.set_append_right _ _ (by omega)]
  congr 1
  obtain rfl | rfl | rfl : k = 0 ∨ k = 1 ∨ k = 2 := by omega
  all_goals simp [List.replicate]
theorem twos_zero (n : Nat) : zeroCellsA [.int .i64 0, .int .i64 0] n = twos (List.replicate n (0, 0)) := by
  induction n with
  | zero => rfl
  | succ n ih =>
    simp only [zeroCellsA, List.replicate_succ, List.flatten_cons, twos, packs] at ih ⊢
    rw [ih]; rfl
theorem roomE_start (l : List (Int × Int)) (x : Int × Int) : setCells (zeroCellsA [.int .i64 0, .int .i64 0] (l.length + 3)) 0 (twos l) = twos (roomE l x 0) := by
  rw [twos_zero, setCells_eq _ _ _ (by rw [twos_len, twos_len, List.length_replicate]; omega), List.take_zero, List.nil_append, Nat.zero_add, twos_len]
  have h : (twos (List.replicate (l.length + 3) ((0 : Int), (0 : Int)))).drop (l.length * 2) = twos ((List.replicate (l.length + 3) ((0 : Int), (0 : Int))).drop l.length) := packs_drop two_len _ _
  rw [h, ← twos_append, List.drop_replicate]
  unfold roomE
  rw [show l.length + 3 - l.length = 3 by omega]; rfl
theorem roomE_put (l : List (Int × Int)) (x : Int × Int) (k : Nat) (h : k < 3) : setCells (twos (roomE l x k)) ((l.length + k) * 2) [.sc (.int .i64 x.1), .sc (.int .i64 x.2)] = twos (roomE l x (k + 1)) := by
  rw [two_set (by rw [roomE_len _ _ _ (by omega)]; omega), roomE_set l x k h]
theorem ownE_ok (l : List (Int × Int)) (x : Int × Int) (hl : l.length ≤ 1000000) : ACalls Try.prog [] n_garlandhelp_Own_api_Edge_ [.imm 2 (twos l), .agg [.sc (.int .i64 x.1), .sc (.int .i64 x.2)]] [] fun r h' => r = .sl 0 0 l.length 2 ∧ h' = [some (twos (roomE l x 3))] := by
  have w0 : IntKind.i64.wrap ((l.length : Int) + 3) = ((l.length + 3 : Nat) : Int) := by rw [IntWalk.i64_in _ (by omega)]; omega
  refine go_garlandhelp_Own_api_Edge_ rfl ?_
  unfold c_garlandhelp_Own_api_Edge_ v_garlandhelp_Own_api_Edge_
  refine wlk_sreg fun KY hKY => ?_
  simp only [go_sem, reduceIte, Nat.reduceEqDiff, reduceCtorEq, c_garlandhelp_Own_api_Edge__r0]
  refine hKY _ ?_
  refine wlk_sreg fun KY hKY => ?_
  simp only [go_sem, reduceIte, Nat.reduceEqDiff, reduceCtorEq, Int.reduceLE, c_garlandhelp_Own_api_Edge__r1, twos_len, mul2, w0, (show 16 * (l.length + 3) ≤ 140737488355328 by omega), (show ((l.length + 3 : Nat) : Int) ≤ 9223372036854775807 by omega)]
  refine hKY _ ?_
  refine wlk_sreg fun KY hKY => ?_
  simp only [go_sem, reduceIte, Nat.reduceEqDiff, reduceCtorEq, Nat.reduceMul, c_garlandhelp_Own_api_Edge__r2, twos_len, mul2, roomE_start l x, (show l.length * 2 ≤ (zeroCellsA [Value.int IntKind.i64 0, Value.int IntKind.i64 0] (l.length + 3)).length by rw [twos_zero, twos_len, List.length_replicate]; omega)]
  refine hKY _ ?_
  refine wlk_sreg fun KY hKY => ?_
  simp only [go_sem, reduceIte, Nat.reduceEqDiff, reduceCtorEq, Nat.reduceMul, c_garlandhelp_Own_api_Edge__r3, twos_len, mul2, w0, roomE_len l x 0 (by omega), (show (l.length + 3) * 2 ≤ (l.length + 3) * 2 from Nat.le_refl _), or_true, Nat.sub_zero]
  refine hKY _ ?_
  refine wlk_seq fun X1 hn1 he1 hr1 => ?_
  refine wlk_sreg fun KY hKY => ?_
  simp only [go_sem, reduceIte, Nat.reduceEqDiff, reduceCtorEq, c_garlandhelp_Own_api_Edge__r4, twos_len, mul2]
  refine hKY _ ?_
  refine wlk_blk fun X2 hn2 he2 hf2 hr2 => ?_
  try simp only [go_sem, reduceIte, Nat.reduceEqDiff, reduceCtorEq]
  refine wlk_lp (α := Nat) [25] (fun k => [(7, .sc (.int .i64 ((l.length + k : Nat) : Int)))]) (fun k => [some (twos (roomE l x k))]) (fun k q => k ≤ 3 ∧ q = 3 - k) (0) (3) rfl (by first | (simp only [go_sem, reduceIte, Nat.reduceEqDiff, reduceCtorEq, updAll_cons, updAll_nil]; done) | with_reducible rfl | rfl) (⟨by omega, rfl⟩) ?_
  rintro k q ⟨hk, rfl⟩ X3 hn3 he3 hr3
  simp only [go_sem, reduceIte, Nat.reduceEqDiff, reduceCtorEq, updAll_cons, updAll_nil]
  refine wlk_seq fun X4 hn4 he4 hr4 => ?_
  rcases Nat.lt_or_ge k 3 with hk2 | hk2
  · refine wlk_sreg fun KY hKY => ?_
    simp only [go_sem, reduceIte, Nat.reduceEqDiff, reduceCtorEq, c_garlandhelp_Own_api_Edge__r5]
    refine hKY _ ?_
    refine wlk_cond1 (by first | rfl | (simp only [go_sem, reduceIte, Nat.reduceEqDiff, reduceCtorEq]; try simp (disch := omega) only [decide_eq_true])) ?_
    refine wlk_skip ?_
    repeat (first | refine hn4 _ ?_ | refine he4 _ _ ?_ | refine he3 _ _ ?_ | refine hn2 _ ?_ | refine he2 _ ?_ | refine hf2 _ _ (by decide) ?_ | refine hn1 _ ?_ | refine he1 _ _ ?_)
    refine wlk_seq fun X5 hn5 he5 hr5 => ?_
    refine wlk_blk fun X6 hn6 he6 hf6 hr6 => ?_
    refine wlk_reg fun KY hKY => ?_
    simp only [go_sem, reduceIte, Nat.reduceEqDiff, reduceCtorEq, Nat.reduceLT, Nat.reduceAdd, c_garlandhelp_Own_api_Edge__r6, (show l.length + k < l.length + 3 by omega), (show (l.length + k) * 2 + 1 < (l.length + 3) * 2 by omega), twos_len, roomE_len l x k hk, roomE_put l x k hk2]
    refine hKY _ ?_
    repeat (first | refine hn6 _ ?_ | refine he6 _ ?_ | refine hf6 _ _ (by decide) ?_ | refine hn5 _ ?_ | refine he5 _ _ ?_ | refine hn4 _ ?_ | refine he4 _ _ ?_ | refine he3 _ _ ?_ | refine hn2 _ ?_ | refine he2 _ ?_ | refine hf2 _ _ (by decide) ?_ | refine hn1 _ ?_ | refine he1 _ _ ?_)
    refine wlk_reg fun KY hKY => ?_
    simp only [go_sem, reduceIte, Nat.reduceEqDiff, reduceCtorEq, c_garlandhelp_Own_api_Edge__r7, incS (show l.length + k < 4611686018427387904 by omega)]
    refine hKY _ ?_
    repeat (first | refine hn6 _ ?_ | refine he6 _ ?_ | refine hf6 _ _ (by decide) ?_ | refine hn5 _ ?_ | refine he5 _ _ ?_ | refine hn4 _ ?_ | refine he4 _ _ ?_)
    refine hn3 _ (k + 1) (3 - (k + 1)) (by omega) (by first | (simp only [go_sem, reduceIte, Nat.reduceEqDiff, reduceCtorEq, updAll_cons, updAll_nil, ← Nat.add_assoc]; done) | with_reducible rfl) ?_
    exact ⟨hk2, rfl⟩
  refine wlk_sreg fun KY hKY => ?_
  simp only [go_sem, reduceIte, Nat.reduceEqDiff, reduceCtorEq, c_garlandhelp_Own_api_Edge__r5]
  refine hKY _ ?_
  refine wlk_cond0 (by first | rfl | (simp only [go_sem, reduceIte, Nat.reduceEqDiff, reduceCtorEq]; try simp (disch := omega) only [decide_eq_false])) ?_
  refine wlk_exit ?_
  repeat (first | refine hn4 _ ?_ | refine he4 _ _ ?_ | refine he3 _ _ ?_ | refine hn2 _ ?_ | refine he2 _ ?_ | refine hf2 _ _ (by decide) ?_ | refine hn1 _ ?_ | refine he1 _ _ ?_)
  obtain rfl : k = 3 := by omega
  refine wlk_sreg fun KY hKY => ?_
  simp only [go_sem, reduceIte, Nat.reduceEqDiff, reduceCtorEq, c_garlandhelp_Own_api_Edge__r8]
  refine hKY _ ?_
  refine wlk_ret ?_
  repeat (first | refine hr4 _ ?_ | refine hr3 _ ?_ | refine hr2 _ ?_ | refine hr1 _ ?_)
  simp only [go_sem, reduceIte, Nat.reduceEqDiff, reduceCtorEq]
theorem roomE_cut (l : List (Int × Int)) (x : Int × Int) (k : Nat) : (twos (roomE l x k)).take (l.length * 2) = twos l := by
  unfold roomE
  rw [twos_append, List.take_append_of_le_length (by rw [twos_len]; omega), List.take_of_length_le (by rw [twos_len]; omega)]
theorem roomE_get (l : List (Int × Int)) (x : Int × Int) (k : Nat) (h : k < 3) : (roomE l x 3)[l.length + k]? = some x := by
  unfold roomE
  rw [List.getElem?_append_right (by omega)]
  obtain rfl | rfl | rfl : k = 0 ∨ k = 1 ∨ k = 2 := by omega
  all_goals simp [List.replicate]
theorem keptE_ok (l : List (Int × Int)) (x : Int × Int) (hl : l.length ≤ 1000000) : ACalls Try.prog [] n_garlandhelp_Kept_api_Edge_ [.sl 0 0 l.length 2, .imm 2 (twos l), .agg [.sc (.int .i64 x.1), .sc (.int .i64 x.2)]] [some (twos (roomE l x 3))] fun r h' => r = .sc (.bool true) ∧ h' = [some (twos (roomE l x 3))] := by
  have w0 : IntKind.i64.wrap ((l.length : Int) + 3) = ((l.length + 3 : Nat) : Int) := by rw [IntWalk.i64_in _ (by omega)]; omega
  have hlen := roomE_len l x 3 (Nat.le_refl _)
  have hcut := roomE_cut l x 3
  have hget := roomE_get l x
  generalize hR : roomE l x 3 = R at hlen hcut hget
  refine ACalls.trim ?_
  refine go_garlandhelp_Kept_api_Edge_ rfl ?_
  unfold c_garlandhelp_Kept_api_Edge_ v_garlandhelp_Kept_api_Edge_
  refine wlk_sreg fun KY hKY => ?_
  simp only [go_sem, reduceIte, Nat.reduceEqDiff, reduceCtorEq, c_garlandhelp_Kept_api_Edge__r0]
  refine hKY _ ?_
  refine wlk_seq fun X1 hn1 he1 hr1 => ?_
  refine wlk_sreg fun KY hKY => ?_
  simp only [go_sem, reduceIte, Nat.reduceEqDiff, reduceCtorEq, c_garlandhelp_Kept_api_Edge__r1]
  have hle : l.length * 2 ≤ R.length * 2 := by omega
  refine call_view rfl (by simp only [go_sem, reduceIte, Nat.reduceEqDiff, reduceCtorEq, Nat.reduceLT, hcut, twos_len, hle] <;> rfl) ((plainE_ok l l (by omega)).mono ?_)
  rintro rr hh ⟨rfl, rfl⟩
  refine ⟨rfl, rfl, rfl, ?_⟩
  simp only [go_sem, reduceIte, Nat.reduceEqDiff, reduceCtorEq, w0, hlen, twos_len, mul2]
  intro n hp1 hp2 hp3
  have hd : decide ((n : Int) < ((l.length + 3 : Nat) : Int)) = false := decide_eq_false (by omega)
  simp only [go_sem, hd]
  refine hKY _ ?_
  refine wlk_cond0 rfl ?_
  refine wlk_skip ?_
  repeat (first | refine hn1 _ ?_ | refine he1 _ _ ?_)
  refine wlk_sreg fun KY hKY => ?_
  simp only [go_sem, reduceIte, Nat.reduceEqDiff, reduceCtorEq, Nat.reduceMul, c_garlandhelp_Kept_api_Edge__r3, w0, twos_len, mul2, hlen, (show (l.length + 3) * 2 ≤ (l.length + 3) * 2 from Nat.le_refl _), or_true, Nat.sub_zero]
  refine hKY _ ?_
  refine wlk_seq fun X2 hn2 he2 hr2 => ?_
  refine wlk_sreg fun KY hKY => ?_
  simp only [go_sem, reduceIte, Nat.reduceEqDiff, reduceCtorEq, c_garlandhelp_Kept_api_Edge__r4, twos_len, mul2]
  refine hKY _ ?_
  refine wlk_blk fun X3 hn3 he3 hf3 hr3 => ?_
  try simp only [go_sem, reduceIte, Nat.reduceEqDiff, reduceCtorEq]
  refine wlk_lp (α := Nat) [31, 39] (fun k => [(8, .sc (.int .i64 ((l.length + k : Nat) : Int)))]) (fun k => [some (twos R)]) (fun k q => k ≤ 3 ∧ q = 3 - k) (0) (3) rfl (by first | (simp only [go_sem, reduceIte, Nat.reduceEqDiff, reduceCtorEq, updAll_cons, updAll_nil]; done) | with_reducible rfl | rfl) (⟨by omega, rfl⟩) ?_
  rintro k q ⟨hk, rfl⟩ X4 hn4 he4 hr4
  simp only [go_sem, reduceIte, Nat.reduceEqDiff, reduceCtorEq, updAll_cons, updAll_nil]
  refine wlk_seq fun X5 hn5 he5 hr5 => ?_
  rcases Nat.lt_or_ge k 3 with hk2 | hk2
  · refine wlk_sreg fun KY hKY => ?_
    simp only [go_sem, reduceIte, Nat.reduceEqDiff, reduceCtorEq, c_garlandhelp_Kept_api_Edge__r5]
    refine hKY _ ?_
    refine wlk_cond1 (by first | rfl | (simp only [go_sem, reduceIte, Nat.reduceEqDiff, reduceCtorEq]; try simp (disch := omega) only [decide_eq_true])) ?_
    refine wlk_skip ?_
    repeat (first | refine hn5 _ ?_ | refine he5 _ _ ?_ | refine he4 _ _ ?_ | refine hn3 _ ?_ | refine he3 _ ?_ | refine hf3 _ _ (by decide) ?_ | refine hn2 _ ?_ | refine he2 _ _ ?_ | refine hn1 _ ?_ | refine he1 _ _ ?_)
    refine wlk_seq fun X6 hn6 he6 hr6 => ?_
    refine wlk_blk fun X7 hn7 he7 hf7 hr7 => ?_
    have hg := two_cells (hget k hk2)
    refine wlk_sdraw fun KY hKY => ?_
    simp only [go_sem, reduceIte, Nat.reduceEqDiff, reduceCtorEq, Nat.reduceLT, Nat.reduceAdd, Nat.reduceSub, c_garlandhelp_Kept_api_Edge__r6, (show l.length + k < l.length + 3 by omega), (show (l.length + k) * 2 + 1 < (l.length + 3) * 2 by omega), hg, twos_len, hlen, decide_true, Bool.and_self, Bool.not_true]
    refine hKY _ ?_
    refine wlk_cond0 rfl ?_
    refine wlk_skip ?_
    repeat (first | refine hn7 _ ?_ | refine he7 _ ?_ | refine hf7 _ _ (by decide) ?_ | refine hn6 _ ?_ | refine he6 _ _ ?_ | refine hn5 _ ?_ | refine he5 _ _ ?_ | refine he4 _ _ ?_ | refine hn3 _ ?_ | refine he3 _ ?_ | refine hf3 _ _ (by decide) ?_ | refine hn2 _ ?_ | refine he2 _ _ ?_ | refine hn1 _ ?_ | refine he1 _ _ ?_)
    refine wlk_reg fun KY hKY => ?_
    simp only [go_sem, reduceIte, Nat.reduceEqDiff, reduceCtorEq, c_garlandhelp_Kept_api_Edge__r8, incS (show l.length + k < 4611686018427387904 by omega)]
    refine hKY _ ?_
    repeat (first | refine hn7 _ ?_ | refine he7 _ ?_ | refine hf7 _ _ (by decide) ?_ | refine hn6 _ ?_ | refine he6 _ _ ?_ | refine hn5 _ ?_ | refine he5 _ _ ?_)
    refine hn4 _ (k + 1) (3 - (k + 1)) (by omega) (by first | (simp only [go_sem, reduceIte, Nat.reduceEqDiff, reduceCtorEq, updAll_cons, updAll_nil, ← Nat.add_assoc]; done) | with_reducible rfl) ?_
    exact ⟨hk2, rfl⟩
  refine wlk_sreg fun KY hKY => ?_
  simp only [go_sem, reduceIte, Nat.reduceEqDiff, reduceCtorEq, c_garlandhelp_Kept_api_Edge__r5]
  refine hKY _ ?_
  refine wlk_cond0 (by first | rfl | (simp only [go_sem, reduceIte, Nat.reduceEqDiff, reduceCtorEq]; try simp (disch := omega) only [decide_eq_false])) ?_
  refine wlk_exit ?_
  repeat (first | refine hn5 _ ?_ | refine he5 _ _ ?_ | refine he4 _ _ ?_ | refine hn3 _ ?_ | refine he3 _ ?_ | refine hf3 _ _ (by decide) ?_ | refine hn2 _ ?_ | refine he2 _ _ ?_ | refine hn1 _ ?_ | refine he1 _ _ ?_)
  obtain rfl : k = 3 := by omega
  refine wlk_sreg fun KY hKY => ?_
  simp only [go_sem, reduceIte, Nat.reduceEqDiff, reduceCtorEq, c_garlandhelp_Kept_api_Edge__r9]
  refine hKY _ ?_
  refine wlk_ret ?_
  repeat (first | refine hr5 _ ?_ | refine hr4 _ ?_ | refine hr3 _ ?_ | refine hr2 _ ?_ | refine hr1 _ ?_)
  simp only [go_sem, reduceIte, Nat.reduceEqDiff, reduceCtorEq, Nat.reduceLT]
end Go.Proofs.Ytepjcfbigcfkfaa
set_option maxRecDepth 100000
set_option maxHeartbeats 4000000
namespace Go.Proofs.Ytepjcfbigcfkfaa
open Go Go.Ga Go.Ga.Gl
def LackP (n : Int) (es : List (Int × Int)) (fs S T : List Int) (x e : Int) : Prop :=
  (tErr n es fs ≠ 0 ∧ x = 0 ∧ e = tErr n es fs) ∨
  (tErr n es fs = 0 ∧ (∀ N : Nat, n = N → okPB N S T = false) ∧ x = 0 ∧ e = 1) ∨
  (tErr n es fs = 0 ∧ ∃ (N : Nat) (es' : Es) (S' T' : List Nat) (ps : List (List Nat)), n = N ∧ es = castE es' ∧ GR N es' ∧ S = S'.map (fun v : Nat => (v : Int)) ∧ T = T'.map (fun v : Nat => (v : Int)) ∧ okPB N S T = true ∧ IsPieces N es' (fun v => (v : Int) ∈ (S' ++ T').map fun v : Nat => (v : Int)) ps ∧ x = lackW N es' fs S' T' ps ∧ e = 0)
theorem cast_inj : ∀ {l m : List Nat}, l.map (fun v : Nat => (v : Int)) = m.map (fun v : Nat => (v : Int)) → l = m
  | [], [], _ => rfl
  | [], _ :: _, h => by simp at h
  | _ :: _, [], h => by simp at h
  | a :: l, b :: m, h => by
    simp only [List.map_cons, List.cons.injEq] at h
    rw [cast_inj h.2, show a = b by omega]
theorem LackP.unique {n : Int} {es : List (Int × Int)} {fs S T : List Int} {x e y f : Int} (h : LackP n es fs S T x e) (h' : LackP n es fs S T y f) : x = y ∧ e = f := by
  rcases h with ⟨h1, rfl, rfl⟩ | ⟨h1, h2, rfl, rfl⟩ | ⟨h1, N, es1, S1, T1, ps, rfl, rfl, g, rfl, rfl, hp, hps, rfl, rfl⟩
  · rcases h' with ⟨_, rfl, rfl⟩ | ⟨h3, _⟩ | ⟨h3, _⟩
    · exact ⟨rfl, rfl⟩
    · exact absurd h3 h1
    · exact absurd h3 h1
  · rcases h' with ⟨h3, _⟩ | ⟨_, _, rfl, rfl⟩ | ⟨_, N, _, _, _, _, hN, _, _, _, _, hp, _⟩
    · exact absurd h1 h3
    · exact ⟨rfl, rfl⟩
    · rw [h2 N hN] at hp; cases hp
  · rcases h' with ⟨h3, _⟩ | ⟨_, h2, _⟩ | ⟨_, N', es2, S2, T2, ps2, hN, hes, g2, hS, hT, _, hps2, rfl, rfl⟩
    · exact absurd h1 h3
    · rw [h2 N rfl] at hp; cases hp
    · obtain rfl : N = N' := by omega
      obtain rfl := castE_inj hes
      obtain rfl := cast_inj hS
      obtain rfl := cast_inj hT
      obtain rfl := hps.unique g.adj_lt hps2
      exact ⟨rfl, rfl⟩
theorem lack_all {f : Nat} {fs S T : List Int} {n : Int} {es : List (Int × Int)}
    (hE : tErr n es fs ≠ 0 → ACalls Try.prog [] f [.agg [.sc (.int .i64 n), .imm 2 (twos es)], .imm 1 (ints fs), .agg [.imm 1 (ints S), .imm 1 (ints T)]] [] fun r h' => r = .tup [.sc (.int .i64 0), .sc (.int .i64 (tErr n es fs))] ∧ h' = [])
    (hP : ∀ N : Nat, n = N → N ≤ 4096 → tErr n es fs = 0 → okPB N S T = false → ACalls Try.prog [] f [.agg [.sc (.int .i64 (N : Int)), .imm 2 (twos es)], .imm 1 (ints fs), .agg [.imm 1 (ints S), .imm 1 (ints T)]] [] fun r h' => r = .tup [.sc (.int .i64 0), .sc (.int .i64 1)] ∧ h' = [])
    (hL : ∀ (N : Nat) (es' : Es) (S' T' : List Nat), GR N es' → n = N → es = castE es' → S = S'.map (fun v : Nat => (v : Int)) → T = T'.map (fun v : Nat => (v : Int)) → fs.length = N → (∀ x ∈ fs, 0 ≤ x ∧ x ≤ 4096) → (∀ v ∈ S', v < N) → (∀ v ∈ T', v < N) → S'.length ≤ N → T'.length ≤ N → T'.Nodup → tErr N (castE es') fs = 0 → okPB N (S'.map fun v : Nat => (v : Int)) (T'.map fun v : Nat => (v : Int)) = true →
      ACalls Try.prog [] f [.agg [.sc (.int .i64 (N : Int)), .imm 2 (twos (castE es'))], .imm 1 (ints fs), .agg [.imm 1 (nats S'), .imm 1 (nats T')]] [] fun r h' => (∃ ps, IsPieces N es' (fun v => (v : Int) ∈ (S' ++ T').map fun v : Nat => (v : Int)) ps ∧ r = .tup [.sc (.int .i64 (lackW N es' fs S' T' ps)), .sc (.int .i64 0)]) ∧ h' = []) :
    ACalls Try.prog [] f [.agg [.sc (.int .i64 n), .imm 2 (twos es)], .imm 1 (ints fs), .agg [.imm 1 (ints S), .imm 1 (ints T)]] [] fun r h' => (∃ x e, LackP n es fs S T x e ∧ r = .tup [.sc (.int .i64 x), .sc (.int .i64 e)]) ∧ h' = [] := by
  by_cases h : tErr n es fs = 0
  · obtain ⟨hr, hdB⟩ := tErr_zero h
    obtain ⟨hfl, hfs⟩ := degs_of hdB
    obtain ⟨N, es', rfl, rfl, g⟩ := right_nat hr
    cases hp : okPB N S T with
    | false => exact (hP N rfl g.hn h hp).mono fun r h' hr => ⟨⟨0, 1, .inr (.inl ⟨h, fun M hM => (show N = M by omega) ▸ hp, rfl, rfl⟩), hr.1⟩, hr.2⟩
    | true =>
      obtain ⟨S', rfl, hS1, hS2⟩ := upB_nat (okP_S hp)
      obtain ⟨T', rfl, hT1, hT2⟩ := upB_nat (okP_T hp)
      rw [← nats_ints, ← nats_ints]
      refine (hL N es' S' T' g rfl rfl rfl rfl (by omega) hfs hS1 hT1 (up_len hS1 hS2) (up_len hT1 hT2) (hT2.imp fun h => by omega) h hp).mono ?_
      rintro r h' ⟨⟨ps, hps, hr⟩, hh⟩
      exact ⟨⟨_, _, .inr (.inr ⟨h, N, es', S', T', ps, rfl, rfl, g, rfl, rfl, hp, hps, rfl, rfl⟩), hr⟩, hh⟩
  · exact (hE h).mono fun r h' hr => ⟨⟨0, _, .inl ⟨h, rfl, rfl⟩, hr.1⟩, hr.2⟩
theorem lackG_ok (n : Int) (es : List (Int × Int)) (fs S T : List Int) (hf : fs.length ≤ 1000000) (hS : S.length ≤ 1000000) (hT : T.length ≤ 1000000) : ACalls Try.prog [] n_tutte_Lack [.agg [.sc (.int .i64 n), .imm 2 (twos es)], .imm 1 (ints fs), .agg [.imm 1 (ints S), .imm 1 (ints T)]] [] fun r h' => (∃ x e, LackP n es fs S T x e ∧ r = .tup [.sc (.int .i64 x), .sc (.int .i64 e)]) ∧ h' = [] :=
  lack_all (fun h => lackE_ok n es fs S T hf hS hT h) (fun N e hN h hp => by subst e; exact lackP_ok N es fs S T hN hf hS hT h hp) fun N es' S' T' g e1 e2 _ _ hfl hfs hSv hTv hSl hTl _ h hp => lack_ok g fs S' T' hfl hfs hSv hTv hSl hTl h hp
theorem rlackG_ok (n : Int) (es : List (Int × Int)) (fs S T : List Int) (hf : fs.length ≤ 1000000) (hS : S.length ≤ 1000000) (hT : T.length ≤ 1000000) : ACalls Try.prog [] n_garlandref23_Lack [.agg [.sc (.int .i64 n), .imm 2 (twos es)], .imm 1 (ints fs), .agg [.imm 1 (ints S), .imm 1 (ints T)]] [] fun r h' => (∃ x e, LackP n es fs S T x e ∧ r = .tup [.sc (.int .i64 x), .sc (.int .i64 e)]) ∧ h' = [] :=
  lack_all (fun h => rlackE_ok n es fs S T hf h) (fun N e hN h hp => by subst e; exact rlackP_ok N es fs S T hN hf hS hT h hp) fun N es' S' T' g e1 e2 _ _ hfl hfs hSv hTv hSl hTl hTn h hp => rlack_ok g fs S' T' hfl hfs hSv hTv hSl hTl hTn h hp
def facG (n : Int) (es : List (Int × Int)) (fs : List Int) (l : List (Int × Int)) : Bool := decide (tErr n es fs = 0) && facB n.toNat es fs l
theorem isfacG_ok (n : Int) (es l : List (Int × Int)) (fs : List Int) (hf : fs.length ≤ 1000000) (hl : l.length ≤ 1000000) : ACalls Try.prog [] n_tutte_IsFactor [.agg [.sc (.int .i64 n), .imm 2 (twos es)], .imm 1 (ints fs), .imm 2 (twos l)] [] fun r h' => r = .sc (.bool (facG n es fs l)) ∧ h' = [] := by
  unfold facG
  by_cases h : tErr n es fs = 0
  · obtain ⟨N, es', rfl, rfl, g⟩ := right_nat (tErr_zero h).1
    rw [decide_eq_true h, Bool.true_and]
    exact isfac_ok g l fs hl h
  · rw [decide_eq_false h, Bool.false_and]
    exact isfacE_ok n es l fs (by omega) h
theorem risfacG_ok (n : Int) (es l : List (Int × Int)) (fs : List Int) (hf : fs.length ≤ 1000000) : ACalls Try.prog [] n_garlandref23_IsFactor [.agg [.sc (.int .i64 n), .imm 2 (twos es)], .imm 1 (ints fs), .imm 2 (twos l)] [] fun r h' => r = .sc (.bool (facG n es fs l)) ∧ h' = [] := by
  unfold facG
  by_cases h : tErr n es fs = 0
  · obtain ⟨N, es', rfl, rfl, g⟩ := right_nat (tErr_zero h).1
    rw [decide_eq_true h, Bool.true_and]
    exact risfac_ok g l fs h
  · rw [decide_eq_false h, Bool.false_and]
    exact risfacE_ok n es l fs (by omega) h
end Go.Proofs.Ytepjcfbigcfkfaa
set_option maxRecDepth 100000
set_option maxHeartbeats 4000000
namespace Go.Proofs.Ytepjcfbigcfkfaa
open Go Go.Ga Go.Ga.Gl
theorem ttells_ok (n : Int) (es : List (Int × Int)) (fs S T : List Int) (l : List (Int × Int)) (he : es.length ≤ 1000000000) (hf : fs.length ≤ 1000000000) (hS : S.length ≤ 1000000000) (hT : T.length ≤ 1000000000) (hl : l.length ≤ 1000000000) : ACalls Try.prog [] n_garlandlaw23_TutteTells [.agg [.sc (.int .i64 n), .imm 2 (twos es)], .imm 1 (ints fs), .agg [.imm 1 (ints S), .imm 1 (ints T)], .imm 2 (twos l)] [] fun r h' => r = .sc (.bool true) ∧ h' = [] := by
  refine ACalls.trim ?_
  refine go_garlandlaw23_TutteTells rfl ?_
  unfold c_garlandlaw23_TutteTells v_garlandlaw23_TutteTells
  refine wlk_sreg fun KY hKY => ?_
  simp only [go_sem, reduceIte, Nat.reduceEqDiff, reduceCtorEq, c_garlandlaw23_TutteTells_r0]
  refine hKY _ ?_
  refine wlk_seq fun X1 hn1 he1 hr1 => ?_
  refine wlk_sreg fun KY hKY => ?_
  simp only [go_sem, reduceIte, Nat.reduceEqDiff, reduceCtorEq, c_garlandlaw23_TutteTells_r1, twos_len, mul2]
  cases h1 : decide ((40 : Int) < (es.length : Int)) with
  | true =>
    simp only [go_sem, reduceIte, Nat.reduceEqDiff, reduceCtorEq]
    refine hKY _ ?_
    refine wlk_cond1 rfl ?_
    refine wlk_sreg fun KY hKY => ?_
    simp only [go_sem, reduceIte, Nat.reduceEqDiff, reduceCtorEq, c_garlandlaw23_TutteTells_r2]
    refine call_view rfl (by simp only [go_sem] <;> rfl) ((awake23_ok).mono ?_)
    rintro rr hh ⟨rfl, rfl⟩
    refine ⟨rfl, rfl, rfl, ?_⟩
    simp only [go_sem, reduceIte, Nat.reduceEqDiff, reduceCtorEq]
    refine hKY _ ?_
    refine wlk_ret ?_
    repeat (first | refine hr1 _ ?_)
    simp only [go_sem, reduceIte, Nat.reduceEqDiff, reduceCtorEq]
  | false =>
  simp only [go_sem, reduceIte, Nat.reduceEqDiff, reduceCtorEq]
  cases h2 : decide ((60 : Int) < n) with
  | true =>
    simp only [go_sem, reduceIte, Nat.reduceEqDiff, reduceCtorEq]
    refine hKY _ ?_
    refine wlk_cond1 rfl ?_
    refine wlk_sreg fun KY hKY => ?_
    simp only [go_sem, reduceIte, Nat.reduceEqDiff, reduceCtorEq, c_garlandlaw23_TutteTells_r2]
    refine call_view rfl (by simp only [go_sem] <;> rfl) ((awake23_ok).mono ?_)
    rintro rr hh ⟨rfl, rfl⟩
    refine ⟨rfl, rfl, rfl, ?_⟩
    simp only [go_sem, reduceIte, Nat.reduceEqDiff, reduceCtorEq]
    refine hKY _ ?_
    refine wlk_ret ?_
    repeat (first | refine hr1 _ ?_)
    simp only [go_sem, reduceIte, Nat.reduceEqDiff, reduceCtorEq]
  | false =>
  simp only [go_sem, reduceIte, Nat.reduceEqDiff, reduceCtorEq]
  cases h3 : decide ((60 : Int) < (fs.length : Int)) with
  | true =>
    simp only [go_sem, reduceIte, Nat.reduceEqDiff, reduceCtorEq]
    refine hKY _ ?_
    refine wlk_cond1 rfl ?_
    refine wlk_sreg fun KY hKY => ?_
    simp only [go_sem, reduceIte, Nat.reduceEqDiff, reduceCtorEq, c_garlandlaw23_TutteTells_r2]
    refine call_view rfl (by simp only [go_sem] <;> rfl) ((awake23_ok).mono ?_)
    rintro rr hh ⟨rfl, rfl⟩
    refine ⟨rfl, rfl, rfl, ?_⟩
    simp only [go_sem, reduceIte, Nat.reduceEqDiff, reduceCtorEq]
    refine hKY _ ?_
    refine wlk_ret ?_
    repeat (first | refine hr1 _ ?_)
    simp only [go_sem, reduceIte, Nat.reduceEqDiff, reduceCtorEq]
  | false =>
  simp only [go_sem, reduceIte, Nat.reduceEqDiff, reduceCtorEq]
  cases h4 : decide ((60 : Int) < (S.length : Int)) with
  | true =>
    simp only [go_sem, reduceIte, Nat.reduceEqDiff, reduceCtorEq]
    refine hKY _ ?_
    refine wlk_cond1 rfl ?_
    refine wlk_sreg fun KY hKY => ?_
    simp only [go_sem, reduceIte, Nat.reduceEqDiff, reduceCtorEq, c_garlandlaw23_TutteTells_r2]
    refine call_view rfl (by simp only [go_sem] <;> rfl) ((awake23_ok).mono ?_)
    rintro rr hh ⟨rfl, rfl⟩
    refine ⟨rfl, rfl, rfl, ?_⟩
    simp only [go_sem, reduceIte, Nat.reduceEqDiff, reduceCtorEq]
    refine hKY _ ?_
    refine wlk_ret ?_
    repeat (first | refine hr1 _ ?_)
    simp only [go_sem, reduceIte, Nat.reduceEqDiff, reduceCtorEq]
  | false =>
  simp only [go_sem, reduceIte, Nat.reduceEqDiff, reduceCtorEq]
  cases h5 : decide ((60 : Int) < (T.length : Int)) with
  | true =>
    simp only [go_sem, reduceIte, Nat.reduceEqDiff, reduceCtorEq]
    refine hKY _ ?_
    refine wlk_cond1 rfl ?_
    refine wlk_sreg fun KY hKY => ?_
    simp only [go_sem, reduceIte, Nat.reduceEqDiff, reduceCtorEq, c_garlandlaw23_TutteTells_r2]
    refine call_view rfl (by simp only [go_sem] <;> rfl) ((awake23_ok).mono ?_)
    rintro rr hh ⟨rfl, rfl⟩
    refine ⟨rfl, rfl, rfl, ?_⟩
    simp only [go_sem, reduceIte, Nat.reduceEqDiff, reduceCtorEq]
    refine hKY _ ?_
    refine wlk_ret ?_
    repeat (first | refine hr1 _ ?_)
    simp only [go_sem, reduceIte, Nat.reduceEqDiff, reduceCtorEq]
  | false =>
  simp only [go_sem, reduceIte, Nat.reduceEqDiff, reduceCtorEq]
  cases h6 : decide ((60 : Int) < (l.length : Int)) with
  | true =>
    refine hKY _ ?_
    refine wlk_cond1 rfl ?_
    refine wlk_sreg fun KY hKY => ?_
    simp only [go_sem, reduceIte, Nat.reduceEqDiff, reduceCtorEq, c_garlandlaw23_TutteTells_r2]
    refine call_view rfl (by simp only [go_sem] <;> rfl) ((awake23_ok).mono ?_)
    rintro rr hh ⟨rfl, rfl⟩
    refine ⟨rfl, rfl, rfl, ?_⟩
    simp only [go_sem, reduceIte, Nat.reduceEqDiff, reduceCtorEq]
    refine hKY _ ?_
    refine wlk_ret ?_
    repeat (first | refine hr1 _ ?_)
    simp only [go_sem, reduceIte, Nat.reduceEqDiff, reduceCtorEq]
  | false =>
  refine hKY _ ?_
  refine wlk_cond0 rfl ?_
  refine wlk_skip ?_
  repeat (first | refine hn1 _ ?_ | refine he1 _ _ ?_)
  have hf60 : fs.length ≤ 60 := by have := of_decide_eq_false h3; omega
  have hS60 : S.length ≤ 60 := by have := of_decide_eq_false h4; omega
  have hT60 : T.length ≤ 60 := by have := of_decide_eq_false h5; omega
  have hl60 : l.length ≤ 60 := by have := of_decide_eq_false h6; omega
  have hlenf := roomI_len fs 71 3 (Nat.le_refl _)
  have hcutf := room_cut fs 71 3
  have hownf := own_ok fs 71 (by omega)
  have hkeptf := kept_ok fs 71 (by omega)
  have hlef : fs.length ≤ (roomI fs 71 3).length := by omega
  have hlenS := roomI_len S 71 3 (Nat.le_refl _)
  have hcutS := room_cut S 71 3
  have hownS := own_ok S 71 (by omega)
  have hkeptS := kept_ok S 71 (by omega)
  have hleS : S.length ≤ (roomI S 71 3).length := by omega
  have hlenT := roomI_len T 71 3 (Nat.le_refl _)
  have hcutT := room_cut T 71 3
  have hownT := own_ok T 71 (by omega)
  have hkeptT := kept_ok T 71 (by omega)
  have hleT : T.length ≤ (roomI T 71 3).length := by omega
  have hlenl := roomE_len l (71, 0) 3 (Nat.le_refl _)
  have hcutl := roomE_cut l (71, 0) 3
  have hownl := ownE_ok l (71, 0) (by omega)
  have hkeptl := keptE_ok l (71, 0) (by omega)
  have hlel : l.length * 2 ≤ (roomE l (71, 0) 3).length * 2 := by omega
  generalize roomI fs 71 3 = Rf at hlenf hcutf hlef hownf hkeptf
  generalize roomI S 71 3 = RS at hlenS hcutS hleS hownS hkeptS
  generalize roomI T 71 3 = RT at hlenT hcutT hleT hownT hkeptT
  generalize roomE l (71, 0) 3 = Rl at hlenl hcutl hlel hownl hkeptl
  have hlack := lackG_ok n es fs S T (by omega) (by omega) (by omega)
  have hrlack := rlackG_ok n es fs S T (by omega) (by omega) (by omega)
  have hfac := isfacG_ok n es l fs (by omega) (by omega)
  have hrfac := risfacG_ok n es l fs (by omega)
  have htr := tright_ok n es fs (by omega)
  have hrtr := rtright_ok n es fs (by omega)
  refine wlk_sreg fun KY hKY => ?_
  simp only [go_sem, reduceIte, Nat.reduceEqDiff, reduceCtorEq, c_garlandlaw23_TutteTells_r3]
  apply call_gen [] [] false none rfl
  iterate 8 (first | (simp only [go_sem, reduceIte, Nat.reduceEqDiff, reduceCtorEq, watchIn] <;> rfl) | rfl)
  refine (hownf).mono ?_
  rintro _ _ ⟨rfl, rfl⟩
  refine ⟨Nat.le_of_ble_eq_true rfl, (fun hh => by cases hh), ?_⟩
  simp only [go_sem, reduceIte, Nat.reduceEqDiff, reduceCtorEq, Nat.reduceLT, Nat.reduceAdd, Nat.reduceSub, callOut, AState.after]
  apply call_gen [] [] false none rfl
  iterate 8 (first | (simp only [go_sem, reduceIte, Nat.reduceEqDiff, reduceCtorEq, watchIn] <;> rfl) | rfl)
  refine (hownl).mono ?_
  rintro _ _ ⟨rfl, rfl⟩
  refine ⟨Nat.le_of_ble_eq_true rfl, (fun hh => by cases hh), ?_⟩
  simp only [go_sem, reduceIte, Nat.reduceEqDiff, reduceCtorEq, Nat.reduceLT, Nat.reduceSub, callOut, AState.after]
  refine hKY _ ?_
  refine wlk_sdraw fun KY hKY => ?_
  apply meet
  · intro H
    simp only [go_sem, reduceIte, Nat.reduceEqDiff, Nat.reduceBEq, reduceCtorEq, c_garlandlaw23_TutteTells_r4]
    refine ⟨?_, ?_⟩
    · apply call_gen [] [] false none rfl
      iterate 8 (first | (simp only [go_sem, reduceIte, Nat.reduceEqDiff, reduceCtorEq, Nat.reduceAdd, watchIn] <;> rfl) | rfl)
      refine (hownS).mono ?_
      rintro _ _ ⟨rfl, rfl⟩
      refine ⟨Nat.le_of_ble_eq_true rfl, (fun hh => by cases hh), ?_⟩
      simp only [go_sem, reduceIte, Nat.reduceBEq, reduceCtorEq, Nat.reduceLT, Nat.reduceAdd, Nat.reduceSub, callOut, AState.after]
      refine ⟨?_, ?_⟩
      · apply call_gen [] [] false none rfl
        iterate 8 (first | (simp only [go_sem, reduceIte, Nat.reduceEqDiff, reduceCtorEq, Nat.reduceAdd, watchIn] <;> rfl) | rfl)
        refine (hownT).mono ?_
        rintro _ _ ⟨rfl, rfl⟩
        refine ⟨Nat.le_of_ble_eq_true rfl, (fun hh => by cases hh), ?_⟩
        simp only [go_sem, reduceIte, Nat.reduceEqDiff, Nat.reduceBEq, reduceCtorEq, Nat.reduceLT, Nat.reduceAdd, Nat.reduceSub, callOut, AState.after]
        refine ⟨?_, ?_⟩
        · refine hKY _ ?_
          repeat (first | refine hn1 _ ?_ | refine he1 _ _ ?_ | refine hr1 _ ?_)
          simp only [go_sem, reduceIte, Nat.reduceEqDiff, reduceCtorEq]
          exact H
        · refine hKY _ ?_
          repeat (first | refine hn1 _ ?_ | refine he1 _ _ ?_ | refine hr1 _ ?_)
          simp only [go_sem, reduceIte, Nat.reduceEqDiff, reduceCtorEq]
          exact H
      · apply call_gen [] [] false none rfl
        iterate 8 (first | (simp only [go_sem, reduceIte, Nat.reduceEqDiff, reduceCtorEq, Nat.reduceAdd, watchIn] <;> rfl) | rfl)
        refine (hownT).mono ?_
        rintro _ _ ⟨rfl, rfl⟩
        refine ⟨Nat.le_of_ble_eq_true rfl, (fun hh => by cases hh), ?_⟩
        simp only [go_sem, reduceIte, Nat.reduceEqDiff, Nat.reduceBEq, reduceCtorEq, Nat.reduceLT, Nat.reduceAdd, Nat.reduceSub, callOut, AState.after]
        refine hKY _ ?_
        repeat (first | refine hn1 _ ?_ | refine he1 _ _ ?_ | refine hr1 _ ?_)
        simp only [go_sem, reduceIte, Nat.reduceEqDiff, reduceCtorEq]
        exact H
    · apply call_gen [] [] false none rfl
      iterate 8 (first | (simp only [go_sem, reduceIte, Nat.reduceEqDiff, reduceCtorEq, Nat.reduceAdd, watchIn] <;> rfl) | rfl)
      refine (hownS).mono ?_
      rintro _ _ ⟨rfl, rfl⟩
      refine ⟨Nat.le_of_ble_eq_true rfl, (fun hh => by cases hh), ?_⟩
      simp only [go_sem, reduceIte, Nat.reduceBEq, reduceCtorEq, Nat.reduceLT, Nat.reduceAdd, Nat.reduceSub, callOut, AState.after]
      apply call_gen [] [] false none rfl
      iterate 8 (first | (simp only [go_sem, reduceIte, Nat.reduceEqDiff, reduceCtorEq, Nat.reduceAdd, watchIn] <;> rfl) | rfl)
      refine (hownT).mono ?_
      rintro _ _ ⟨rfl, rfl⟩
      refine ⟨Nat.le_of_ble_eq_true rfl, (fun hh => by cases hh), ?_⟩
      simp only [go_sem, reduceIte, Nat.reduceEqDiff, Nat.reduceBEq, reduceCtorEq, Nat.reduceLT, Nat.reduceAdd, Nat.reduceSub, callOut, AState.after]
      refine hKY _ ?_
      repeat (first | refine hn1 _ ?_ | refine he1 _ _ ?_ | refine hr1 _ ?_)
      simp only [go_sem, reduceIte, Nat.reduceEqDiff, reduceCtorEq]
      exact H
  refine wlk_sreg fun KY hKY => ?_
  simp only [go_sem, reduceIte, Nat.reduceEqDiff, reduceCtorEq, Nat.reduceLT, Nat.reduceAdd, c_garlandlaw23_TutteTells_r5]
  refine call_view rfl (by simp only [go_sem, reduceIte, Nat.reduceEqDiff, reduceCtorEq, Nat.reduceLT, hcutf, ints_len, hlef, hcutS, hleS, hcutT, hleT] <;> rfl) ((hlack).mono ?_)
  rintro rr hh ⟨⟨x, e, hxe, rfl⟩, rfl⟩
  refine ⟨?_, ?_, ?_, ?_⟩
  iterate 3 (first | rfl | simp only [go_sem, reduceIte, Nat.reduceEqDiff, Nat.reduceBEq, reduceCtorEq, Nat.reduceLT, Nat.reduceLeDiff, Nat.reduceAdd, Nat.reduceSub, Nat.reduceMul, Nat.reduceDiv, Int.reduceAdd, Int.reduceNeg, Int.reduceEq, Int.reduceLT, Int.reduceLE])
  simp only [go_sem, reduceIte, Nat.reduceEqDiff, reduceCtorEq]
  refine hKY _ ?_
  refine wlk_sreg fun KY hKY => ?_
  simp only [go_sem, reduceIte, Nat.reduceEqDiff, reduceCtorEq, Nat.reduceLT, Nat.reduceAdd, c_garlandlaw23_TutteTells_r6]
  refine call_view rfl (by simp only [go_sem, reduceIte, Nat.reduceEqDiff, reduceCtorEq] <;> rfl) ((hrlack).mono ?_)
  rintro rr hh ⟨⟨y, f, hyf, rfl⟩, rfl⟩
  refine ⟨?_, ?_, ?_, ?_⟩
  iterate 3 (first | rfl | simp only [go_sem, reduceIte, Nat.reduceEqDiff, Nat.reduceBEq, reduceCtorEq, Nat.reduceLT, Nat.reduceLeDiff, Nat.reduceAdd, Nat.reduceSub, Nat.reduceMul, Nat.reduceDiv, Int.reduceAdd, Int.reduceNeg, Int.reduceEq, Int.reduceLT, Int.reduceLE])
  obtain ⟨rfl, rfl⟩ := hxe.unique hyf
  simp only [go_sem, reduceIte, Nat.reduceEqDiff, reduceCtorEq]
  refine hKY _ ?_
  refine wlk_sdraw fun KY hKY => ?_
  simp only [go_sem, reduceIte, Nat.reduceEqDiff, Nat.reduceBEq, reduceCtorEq, Nat.reduceLT, Nat.reduceAdd, c_garlandlaw23_TutteTells_r7]
  refine call_view rfl (by simp only [go_sem, reduceIte, Nat.reduceEqDiff, reduceCtorEq, Nat.reduceLT, hcutf, ints_len, hlef] <;> rfl) ((htr).mono ?_)
  rintro rr hh ⟨rfl, rfl⟩
  refine ⟨rfl, rfl, rfl, ?_⟩
  simp only [go_sem, reduceIte, Nat.reduceBEq, reduceCtorEq]
  refine call_view rfl (by simp only [go_sem, reduceIte, Nat.reduceEqDiff, reduceCtorEq] <;> rfl) ((hrtr).mono ?_)
  rintro rr hh ⟨rfl, rfl⟩
  refine ⟨rfl, rfl, rfl, ?_⟩
  simp only [go_sem, reduceIte, Nat.reduceEqDiff, Nat.reduceBEq, reduceCtorEq, Nat.reduceLT, Nat.reduceAdd, eq_self, decide_true]
  refine call_view rfl (by simp only [go_sem, reduceIte, Nat.reduceEqDiff, reduceCtorEq, Nat.reduceLT, hcutf, ints_len, hlef, hcutl, twos_len, hlel] <;> rfl) ((hfac).mono ?_)
  rintro rr hh ⟨rfl, rfl⟩
  refine ⟨rfl, rfl, rfl, ?_⟩
  simp only [go_sem, reduceIte, Nat.reduceEqDiff, Nat.reduceBEq, reduceCtorEq]
  refine call_view rfl (by simp only [go_sem, reduceIte, Nat.reduceEqDiff, reduceCtorEq] <;> rfl) ((hrfac).mono ?_)
  rintro rr hh ⟨rfl, rfl⟩
  refine ⟨rfl, rfl, rfl, ?_⟩
  simp only [go_sem, reduceIte, Nat.reduceEqDiff, Nat.reduceBEq, reduceCtorEq, eq_self]
  refine hKY _ ?_
  refine wlk_sreg fun KY hKY => ?_
  simp only [go_sem, reduceIte, Nat.reduceEqDiff, reduceCtorEq, c_garlandlaw23_TutteTells_r8]
  refine call_view rfl (by simp only [go_sem] <;> rfl) ((awake23_ok).mono ?_)
  rintro rr hh ⟨rfl, rfl⟩
  refine ⟨rfl, rfl, rfl, ?_⟩
  simp only [go_sem, reduceIte, Nat.reduceEqDiff, reduceCtorEq]
  apply call_gen [] [0] false none rfl
  iterate 8 (first | (simp only [go_sem, reduceIte, Nat.reduceEqDiff, reduceCtorEq, Nat.reduceLT, Nat.reduceAdd, watchIn] <;> rfl) | rfl)
  refine (hkeptf).mono ?_
  rintro _ _ ⟨rfl, rfl⟩
  refine ⟨Nat.le_of_ble_eq_true rfl, (fun _ => by simp only [go_sem, flatH, and_self]), ?_⟩
  simp only [go_sem, reduceIte, Nat.reduceEqDiff, reduceCtorEq, Nat.reduceLT, Nat.reduceAdd, callOut, AState.after]
  apply call_gen [] [1] false none rfl
  iterate 8 (first | (simp only [go_sem, reduceIte, Nat.reduceEqDiff, reduceCtorEq, Nat.reduceLT, Nat.reduceAdd, watchIn] <;> rfl) | rfl)
  refine (hkeptl).mono ?_
  rintro _ _ ⟨rfl, rfl⟩
  refine ⟨Nat.le_of_ble_eq_true rfl, (fun _ => by simp only [go_sem, flatH, and_self]), ?_⟩
  simp only [go_sem, reduceIte, Nat.reduceEqDiff, reduceCtorEq, Nat.reduceAdd, callOut, AState.after]
  apply call_gen [] [2] false none rfl
  iterate 8 (first | (simp only [go_sem, reduceIte, Nat.reduceEqDiff, reduceCtorEq, Nat.reduceLT, Nat.reduceAdd, watchIn] <;> rfl) | rfl)
  refine (hkeptS).mono ?_
  rintro _ _ ⟨rfl, rfl⟩
  refine ⟨Nat.le_of_ble_eq_true rfl, (fun _ => by simp only [go_sem, flatH, and_self]), ?_⟩
  simp only [go_sem, reduceIte, Nat.reduceEqDiff, reduceCtorEq, Nat.reduceAdd, callOut, AState.after]
  apply call_gen [] [3] false none rfl
  iterate 8 (first | (simp only [go_sem, reduceIte, Nat.reduceEqDiff, reduceCtorEq, Nat.reduceLT, Nat.reduceAdd, watchIn] <;> rfl) | rfl)
  refine (hkeptT).mono ?_
  rintro _ _ ⟨rfl, rfl⟩
  refine ⟨Nat.le_of_ble_eq_true rfl, (fun _ => by simp only [go_sem, flatH, and_self]), ?_⟩
  simp only [go_sem, reduceIte, Nat.reduceEqDiff, Nat.reduceBEq, reduceCtorEq, Nat.reduceAdd, callOut, AState.after]
  refine hKY _ ?_
  refine wlk_ret ?_
  repeat (first | refine hr1 _ ?_)
  simp only [go_sem, reduceIte, Nat.reduceEqDiff, reduceCtorEq]
end Go.Proofs.Ytepjcfbigcfkfaa
namespace Go.Proofs.Ytepjcfbigcfkfaa
open Go Go.Ga Go.Ga.Gl
theorem tutteTells_all (As : List AVal) (b : Nat) (h : SAs Try.prog Try.f5.params.toList As b) (hb : b ≤ 1048576) : ACalls Try.prog [] 5 As [] fun r _ => r = .sc (.bool true) := by
  rw [Try.params5] at h
  obtain ⟨A1, As1, c1, d1, rfl, rfl, h1, h⟩ := sas_cons h
  obtain ⟨A2, As2, c2, d2, rfl, rfl, h2, h⟩ := sas_cons h
  obtain ⟨A3, As3, c3, d3, rfl, rfl, h3, h⟩ := sas_cons h
  obtain ⟨A4, As4, c4, d4, rfl, rfl, h4, h⟩ := sas_cons h
  obtain rfl := sas_nil h
  obtain ⟨n1, x1, rfl, y1, w1, e1⟩ := sa_graph Try.underlying25 rfl Try.underlying3 Try.underlying23 Try.underlying40 rfl Try.underlying3 Try.underlying3 (by kernel_rfl) h1
  obtain ⟨x2, rfl, w2, e2⟩ := sa_ints Try.underlying22 Try.underlying3 (by kernel_rfl) h2
  obtain ⟨x3, y3, rfl, e3, f3⟩ := sa_pair Try.underlying29 rfl Try.underlying22 Try.underlying3 (by kernel_rfl) h3
  obtain ⟨x4, rfl, w4, e4⟩ := sa_twos Try.underlying23 Try.underlying40 rfl Try.underlying3 Try.underlying3 (by kernel_rfl) h4
  exact (ttells_ok n1 x1 x2 x3 y3 x4 (by omega) (by omega) (by omega) (by omega) (by omega)).mono fun _ _ h => h.1
end Go.Proofs.Ytepjcfbigcfkfaa
namespace Go.Proofs.Ytepjcfbigcfkfaa.tutteTellsend
open Go Go.Ga Go.ChangeShapes Go.WideShapes Go.ChangeAt Go.RowKit
theorem own : ownKnob Try.prog.godebug = none := by kernel_rfl
mutual
theorem bulk_at {H : Type} : ∀ d : DataW H, Rows.uptoBulk d = bulk d
  | .lit l => by cases l <;> simp [Rows.uptoBulk, bulk]
  | .nil => by simp [Rows.uptoBulk, bulk]
  | .ptr d => by simp [Rows.uptoBulk, bulk, bulk_at d]
  | .slice e s => by simp [Rows.uptoBulk, bulk, bulk_eq e, bulk_eq s]
  | .agg p => by simp [Rows.uptoBulk, bulk, bulk_eq p]
  | .iface _ d => by simp [Rows.uptoBulk, bulk, bulk_at d]
  | .map e => by simp [Rows.uptoBulk, bulk, bulk_es e]
  | .held _ => by simp [Rows.uptoBulk, bulk]
theorem bulk_eq {H : Type} : ∀ l : List (DataW H), Rows.uptoBulkAll l = bulkL l
  | [] => by simp [Rows.uptoBulkAll, bulkL]
  | d :: r => by simp [Rows.uptoBulkAll, bulkL, bulk_at d, bulk_eq r]
theorem bulk_es {H : Type} : ∀ l : List (Lit × DataW H), Rows.uptoBulkEntries l = bulkE l
  | [] => by simp [Rows.uptoBulkEntries, bulkE]
  | d :: r => by simp [Rows.uptoBulkEntries, bulkE, bulk_e d, bulk_es r]
theorem bulk_e {H : Type} : ∀ d : Lit × DataW H, Rows.uptoBulkEntry d = bulk1 d
  | (l, d) => by cases l <;> simp [Rows.uptoBulkEntry, bulk1, bulk_at d]
end
set_option maxRecDepth 100000 in
theorem plain : Plain Try.prog [3, 22, 23, 25, 29, 40] := plain_of (by kernel_rfl)
set_option maxRecDepth 100000 in
theorem contract (H : Type) (enc : TypeId × Value → H) (W : World) (base : Nat) (args : Array Value) (ds gs : List (DataW H)) (before : List MemPlace)
    (hval : ∀ (j : Nat) t v, Try.f5.params[j]? = some t → args[j]? = some v → Value.okWide Try.prog W .any base t v)
    (hW : DataW.Whole enc Try.prog Try.f5.params.toList Rows.tutteTellsSpec.vars false W args.toList ds gs before) (hk : Rows.uptoSmall H (ds ++ gs) = true) :
    Calls Try.prog 5 args W fun e W' => ∃ v, e = .returned v ∧ Rows.tutteTellsSpec.post enc Try.prog Try.f5 false true false false W args v W' := by
  have hW' := hW
  obtain ⟨p, q, hA, hV, rfl, hfz, hnd⟩ := hW
  obtain ⟨rfl, rfl⟩ := Go.Ga.trodVars_nil hV
  have hb : bulkL (ds ++ []) ≤ 1048576 := by rw [← bulk_eq]; exact of_decide_eq_true hk
  have r0 : DataW.TrodAll enc Try.prog W 0 (fun _ => true) true Try.f5.params.toList args.toList ds p := hA
  rw [Try.params5] at r0
  obtain ⟨v0, vs0, d0, ds0, p0, q0, hv0, rfl, rfl, h0, r1⟩ := trodAll_cons r0
  obtain ⟨v1, vs1, d1, ds1, p1, q1, hv1, rfl, rfl, h1, r2⟩ := trodAll_cons r1
  obtain ⟨v2, vs2, d2, ds2, p2, q2, hv2, rfl, rfl, h2, r3⟩ := trodAll_cons r2
  obtain ⟨v3, vs3, d3, ds3, p3, q3, hv3, rfl, rfl, h3, r4⟩ := trodAll_cons r3
  obtain ⟨rfl, rfl, rfl⟩ := trodAll_nil r4
  exact contract_true plain hval (by rw [Try.params5]; decide) hW' rfl rfl rfl rfl (tb := 4) (by kernel_rfl) Try.underlying4 hb tutteTells_all
set_option maxRecDepth 100000 in
theorem lifted (os : Os) (started : os.Started) (H : Type) (enc : TypeId × Value → H) (F : Stop.Interp) :
    ReturnsInHanded {} Try.checked os 5 .any ((Rows.OpenSpec.upto Rows.tutteTellsSpec).pre6 enc Try.prog Try.f5 Rows.tutteTellsUptoRow.domain false) (((Rows.OpenSpec.upto Rows.tutteTellsSpec).at F).post enc Try.prog Try.f5 false true false false) := by
  refine returnsInHanded_of_cond (C := Try.checked) (s := Rows.OpenSpec.upto Rows.tutteTellsSpec) (k := Rows.uptoSmall) rfl own started (by kernel_rfl) Try.func5
    (OpenSpec.witness (enc := enc) (C := Try.checked) (s := Rows.OpenSpec.upto Rows.tutteTellsSpec) (k := Rows.uptoSmall) rfl false ⟨#[], #[.agg #[.int .i64 0, .slice none 0 0], .slice none 0 0, .agg #[.slice none 0 0, .slice none 0 0], .slice none 0 0], []⟩ 8 (by kernel_rfl) (by kernel_rfl) (by kernel_rfl)
      (x := ([.agg [.lit (.int .i64 0), .nil], .nil, .agg [.nil, .nil], .nil], [], [])) (by kernel_rfl) rfl (by kernel_rfl)) ?_
  intro W base args ds gs before hval hW _ hk _
  exact contract H enc W base args ds gs before hval hW hk
theorem holds : Rows.TutteTellsUptoSaid :=
  OpenClaim.holds_of_cond 5 Try.f5 rfl rfl rfl rfl rfl rfl rfl ⟨rfl, rfl, rfl, rfl, rfl⟩ rfl rfl rfl rfl rfl (by kernel_rfl) Try.func5 (by kernel_rfl)
    (of_decide_eq_true (by kernel_rfl)) (by unfold Func.isWrapper; first | (rw [if_pos (by decide +kernel)]; kernel_rfl) | (rw [if_neg (by decide +kernel)]; exact ⟨rfl, rfl⟩))
    (fun os started H enc _ F => lifted os started H enc F)
end Go.Proofs.Ytepjcfbigcfkfaa.tutteTellsend
