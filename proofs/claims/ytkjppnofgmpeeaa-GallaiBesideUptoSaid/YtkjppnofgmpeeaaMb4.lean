/- Side by side the parts are both's. -/
import Derived.Test.YtkjppnofgmpeeaaMb3
import Derived.Test.YtkjppnofgmpeeaaMb2
import Derived.Test.YtkjppnofgmpeeaaGkokefe5
import Derived.WalkKit
import Derived.ProofKit
import Derived.OpenShut
import Derived.JoinedCond
set_option linter.all false
set_option maxRecDepth 100000
set_option maxHeartbeats 4000000
namespace Go.Proofs.Ytkjppnofgmpeeaa
open Go Go.Ga Go.Ga.Gl
theorem sfree_ok {n : Nat} (m : List Int) (hml : m.length = n) {v : Nat} (hv : v < n) :
    ACalls Try.prog [] n_greedy_search_free [.agg [.sl 0 0 n 1], .sc (.int .i64 (v : Int))] [some (ints m)] fun r h' => r = .sc (.bool (decide (m.getD v 0 < 0))) ∧ h' = [some (ints m)] := by
  have hg : (ints m)[v]? = some (.sc (.int .i64 (m.getD v 0))) := ints_get (by omega)
  refine go_greedy_search_free rfl ?_
  unfold c_greedy_search_free v_greedy_search_free
  refine wlk_sreg fun KY hKY => ?_
  simp only [go_sem, c_greedy_search_free_r0]
  refine hKY _ ?_
  refine wlk_sreg fun KY hKY => ?_
  simp only [go_sem, c_greedy_search_free_r1, hg, ints_len, hml, hv, Nat.zero_add]
  refine hKY _ ?_
  refine wlk_ret ?_
  simp only [go_sem]
theorem idxfree_ok {n : Nat} (m : List Int) (hml : m.length = n) (row : List Nat) (hr : ∀ x ∈ row, x < n) (hrl : row.length ≤ 1000000000) :
    ACalls Try.prog [] n_slices_IndexFunc___int_int_ [.imm 1 (nats row), .fn (.func n_greedy_search_free) [.agg [.sl 0 0 n 1]] []] [some (ints m)] fun r h' => (∃ z : Int, r = .sc (.int .i64 z) ∧ (z = -1 ∨ ∃ (i x : Nat), z = (i : Int) ∧ row[i]? = some x ∧ m.getD x 0 < 0)) ∧ h' = [some (ints m)] := by
  refine go_slices_IndexFunc___int_int_ rfl ?_
  unfold c_slices_IndexFunc___int_int_ v_slices_IndexFunc___int_int_
  refine wlk_sreg fun KY hKY => ?_
  simp only [go_sem, c_slices_IndexFunc___int_int__r0]
  refine hKY _ ?_
  refine wlk_seq fun X1 hn1 he1 hr1 => ?_
  refine wlk_sreg fun KY hKY => ?_
  simp only [go_sem, c_slices_IndexFunc___int_int__r1, nats_len]
  refine hKY _ ?_
  refine wlk_blk fun X2 hn2 he2 hf2 hr2 => ?_
  try simp only [go_sem]
  refine wlk_lp (α := Nat) [5, 9, 16] (fun k => [(8, .sc (.int .i64 (k : Int)))]) (fun k => [some (ints m)]) (fun k q => k ≤ row.length ∧ q = row.length - k) (0) (row.length) rfl (by first | (simp only [go_sem, updAll_cons, updAll_nil]; done) | with_reducible rfl | rfl) (⟨Nat.zero_le _, rfl⟩) ?_
  rintro k q ⟨hk, rfl⟩ X3 hn3 he3 hr3
  simp only [go_sem, updAll_cons, updAll_nil]
  rcases Nat.lt_or_ge k row.length with hk2 | hk2
  · have hdx : decide ((k : Int) < (row.length : Int)) = true := decide_eq_true (by omega)
    have hx : row[k]? = some (row[k]) := List.getElem?_eq_getElem hk2
    have hxg : (nats row)[k]? = some (.sc (.int .i64 ((row[k] : Nat) : Int))) := by simp [nats, hx]
    have hxn := hr _ (List.getElem_mem hk2)
    generalize row[k] = x at hx hxg hxn
    have hf := sfree_ok m hml hxn
    refine wlk_sreg fun KY hKY => ?_
    simp only [go_sem, c_slices_IndexFunc___int_int__r2, hdx]
    refine hKY _ ?_
    refine wlk_seq fun X4 hn4 he4 hr4 => ?_
    refine wlk_cond1 (by first | rfl | (simp only [go_sem]; try simp (disch := omega) only [decide_eq_true, decide_eq_false])) ?_
    refine wlk_skip ?_
    repeat (first | refine hn4 _ ?_ | refine he4 _ _ ?_ | refine he3 _ _ ?_ | refine hn2 _ ?_ | refine he2 _ ?_ | refine hf2 _ _ (by decide) ?_ | refine hn1 _ ?_ | refine he1 _ _ ?_)
    refine wlk_seq fun X5 hn5 he5 hr5 => ?_
    refine wlk_blk fun X6 hn6 he6 hf6 hr6 => ?_
    refine wlk_sreg fun KY hKY => ?_
    simp only [go_sem, c_slices_IndexFunc___int_int__r3]
    refine hKY _ ?_
    refine wlk_sreg fun KY hKY => ?_
    simp only [go_sem, c_slices_IndexFunc___int_int__r4, hxg, nats_len, hk2]
    apply call_gen [] [0] false none rfl
    iterate 8 (first | (simp only [go_sem, watchIn] <;> rfl) | rfl)
    refine (hf).mono ?_
    rintro _ _ ⟨rfl, rfl⟩
    refine ⟨Nat.le_of_ble_eq_true rfl, (fun hh => by cases hh), ?_⟩
    simp only [go_sem, callOut, AState.after]
    refine hKY _ ?_
    by_cases hm : m.getD x 0 < 0
    · have hdm : decide (m.getD x 0 < 0) = true := decide_eq_true hm
      simp only [go_sem, hdm]
      refine wlk_cond1 (by first | rfl | (simp only [go_sem]; try simp (disch := omega) only [decide_eq_true, decide_eq_false])) ?_
      refine wlk_sreg fun KY hKY => ?_
      simp only [go_sem, c_slices_IndexFunc___int_int__r5]
      refine hKY _ ?_
      refine wlk_ret ?_
      repeat (first | refine hr6 _ ?_ | refine hr5 _ ?_ | refine hr4 _ ?_ | refine hr3 _ ?_ | refine hr2 _ ?_ | refine hr1 _ ?_)
      simp only [go_sem]
      exact ⟨_, rfl, .inr ⟨k, x, rfl, hx, hm⟩⟩
    · have hdm : decide (m.getD x 0 < 0) = false := decide_eq_false hm
      simp only [go_sem, hdm]
      refine wlk_cond0 (by first | rfl | (simp only [go_sem]; try simp (disch := omega) only [decide_eq_true, decide_eq_false])) ?_
      refine wlk_skip ?_
      repeat (first | refine hn6 _ ?_ | refine he6 _ ?_ | refine hf6 _ _ (by decide) ?_ | refine hn5 _ ?_ | refine he5 _ _ ?_ | refine hn4 _ ?_ | refine he4 _ _ ?_ | refine he3 _ _ ?_ | refine hn2 _ ?_ | refine he2 _ ?_ | refine hf2 _ _ (by decide) ?_ | refine hn1 _ ?_ | refine he1 _ _ ?_)
      refine wlk_reg fun KY hKY => ?_
      simp only [go_sem, c_slices_IndexFunc___int_int__r6, incS (show k < 4611686018427387904 by omega)]
      refine hKY _ ?_
      repeat (first | refine hn6 _ ?_ | refine he6 _ ?_ | refine hf6 _ _ (by decide) ?_ | refine hn5 _ ?_ | refine he5 _ _ ?_ | refine hn4 _ ?_ | refine he4 _ _ ?_)
      refine hn3 _ (k + 1) (row.length - (k + 1)) (by omega) (by first | (simp only [go_sem, updAll_cons, updAll_nil]; done) | with_reducible rfl) ?_
      exact ⟨hk2, rfl⟩
  have hdx : decide ((k : Int) < (row.length : Int)) = false := decide_eq_false (by omega)
  refine wlk_sreg fun KY hKY => ?_
  simp only [go_sem, c_slices_IndexFunc___int_int__r2, hdx]
  refine hKY _ ?_
  refine wlk_seq fun X7 hn7 he7 hr7 => ?_
  refine wlk_cond0 (by first | rfl | (simp only [go_sem]; try simp (disch := omega) only [decide_eq_true, decide_eq_false])) ?_
  refine wlk_exit ?_
  repeat (first | refine hn7 _ ?_ | refine he7 _ _ ?_ | refine he3 _ _ ?_ | refine hn2 _ ?_ | refine he2 _ ?_ | refine hf2 _ _ (by decide) ?_ | refine hn1 _ ?_ | refine he1 _ _ ?_)
  refine wlk_sreg fun KY hKY => ?_
  simp only [go_sem, c_slices_IndexFunc___int_int__r7]
  refine hKY _ ?_
  refine wlk_ret ?_
  repeat (first | refine hr7 _ ?_ | refine hr3 _ ?_ | refine hr2 _ ?_ | refine hr1 _ ?_)
  simp only [go_sem]
  exact ⟨_, rfl, .inl rfl⟩
theorem none_ok {N : Nat} {es : Es} (g : GR N es) : ACalls Try.prog [] n_mates_None [.agg [.sc (.int .i64 (N : Int)), .imm 2 (twos (castE es))]] [] fun r h' => (N = 0 ∧ r = .own (some 1) [] ∧ h' = []) ∨ (0 < N ∧ r = .sl 0 0 N 1 ∧ h' = [some (ints (List.replicate N (-1)))]) := by
  have hN := g.hn
  have hr := rightB_GR g
  have hR := repeat_ok (-1) N hN
  rw [show ints [(-1 : Int)] = [.sc (.int .i64 (-1))] from rfl] at hR
  refine go_mates_None rfl ?_
  unfold c_mates_None v_mates_None
  refine wlk_sreg fun KY hKY => ?_
  simp only [go_sem, c_mates_None_r0]
  refine hKY _ ?_
  refine wlk_seq fun X1 hn1 he1 hr1 => ?_
  refine wlk_sreg fun KY hKY => ?_
  simp only [go_sem, c_mates_None_r1]
  refine call_view rfl (by simp only [go_sem] <;> rfl) ((right_ok N (castE es)).mono ?_)
  rintro rr hh ⟨rfl, rfl⟩
  refine ⟨rfl, rfl, rfl, ?_⟩
  simp only [go_sem, hr]
  refine hKY _ ?_
  refine wlk_cond0 (by first | rfl | (simp only [go_sem]; try simp (disch := omega) only [decide_eq_true, decide_eq_false])) ?_
  refine wlk_skip ?_
  repeat (first | refine hn1 _ ?_ | refine he1 _ _ ?_)
  refine wlk_sreg fun KY hKY => ?_
  simp only [go_sem, c_mates_None_r3]
  apply call_gen [.mv] [] false none rfl
  iterate 8 (first | (simp only [go_sem, watchIn] <;> rfl) | rfl)
  refine (hR).mono ?_
  rintro _ _ (⟨h0, rfl, rfl⟩ | ⟨h0, rfl, rfl⟩)
  · refine ⟨Nat.le_of_ble_eq_true rfl, (fun hh => by cases hh), ?_⟩
    simp only [go_sem, callOut, AState.after]
    refine hKY _ ?_
    refine wlk_ret ?_
    repeat (first | refine hr1 _ ?_)
    simp only [go_sem]
    exact .inl h0
  · refine ⟨Nat.le_of_ble_eq_true rfl, (fun hh => by cases hh), ?_⟩
    simp only [go_sem, callOut, AState.after]
    refine hKY _ ?_
    refine wlk_ret ?_
    repeat (first | refine hr1 _ ?_)
    simp only [go_sem]
    exact .inr h0
theorem mf_set {m : List Int} {v : Nat} (hv : v < m.length) (x : Int) (u : Nat) : mf (m.set v x) u = if u = v then x else mf m u := by
  unfold mf
  by_cases e : u = v
  · subst e; simp [hv]
  · simp [List.getElem?_set, Ne.symm e, e]
theorem mf_rep {N : Nat} (v : Nat) : mf (List.replicate N (-1)) v = -1 := by
  unfold mf
  by_cases h : v < N
  · simp [h]
  · simp [List.getElem?_eq_none (show (List.replicate N (-1 : Int)).length ≤ v by simp; omega)]
theorem gfirst_ok {N : Nat} {es : Es} (g : GR N es) : ACalls Try.prog [] n_greedy_First [.agg [.sc (.int .i64 (N : Int)), .imm 2 (twos (castE es))]] [] fun r h' => (N = 0 ∧ r = .sc (.slice none 0 0) ∧ h' = []) ∨ (0 < N ∧ ∃ m : List Int, m.length = N ∧ Mf N (adj es) (mf m) ∧ r = .sl 0 0 N 1 ∧ h' = [some (ints m)]) := by
  have hN := g.hn
  have hem := g.hm
  refine go_greedy_First rfl ?_
  unfold c_greedy_First v_greedy_First
  refine wlk_sreg fun KY hKY => ?_
  simp only [go_sem, c_greedy_First_r0]
  refine hKY _ ?_
  refine wlk_sreg fun KY hKY => ?_
  simp only [go_sem, c_greedy_First_r1]
  apply call_gen [] [] false none rfl
  iterate 8 (first | (simp only [go_sem, watchIn] <;> rfl) | rfl)
  refine (none_ok g).mono ?_
  rintro _ _ (⟨h0, rfl, rfl⟩ | ⟨h0, rfl, rfl⟩)
  · refine ⟨Nat.le_of_ble_eq_true rfl, (fun hh => by cases hh), ?_⟩
    simp only [go_sem, callOut, AState.after]
    refine hKY _ ?_
    refine wlk_seq fun X1 hn1 he1 hr1 => ?_
    refine wlk_sreg fun KY hKY => ?_
    simp only [go_sem, c_greedy_First_r2]
    refine hKY _ ?_
    refine wlk_cond1 (by first | rfl | (simp only [go_sem]; try simp (disch := omega) only [decide_eq_true, decide_eq_false])) ?_
    refine wlk_sreg fun KY hKY => ?_
    simp only [go_sem, c_greedy_First_r3]
    refine hKY _ ?_
    refine wlk_ret ?_
    repeat (first | refine hr1 _ ?_)
    simp only [go_sem]
    exact .inl h0
  · refine ⟨Nat.le_of_ble_eq_true rfl, (fun hh => by cases hh), ?_⟩
    simp only [go_sem, callOut, AState.after]
    refine hKY _ ?_
    have hd0 : decide ((N : Int) = 0) = false := decide_eq_false (by omega)
    refine wlk_seq fun X2 hn2 he2 hr2 => ?_
    refine wlk_sreg fun KY hKY => ?_
    simp only [go_sem, c_greedy_First_r2, hd0]
    refine hKY _ ?_
    refine wlk_cond0 (by first | rfl | (simp only [go_sem]; try simp (disch := omega) only [decide_eq_true, decide_eq_false])) ?_
    refine wlk_skip ?_
    repeat (first | refine hn2 _ ?_ | refine he2 _ _ ?_)
    refine wlk_sreg fun KY hKY => ?_
    simp only [go_sem, c_greedy_First_r4]
    apply call_gen [] [] true none rfl
    iterate 8 (first | (simp only [go_sem, watchIn] <;> rfl) | rfl)
    refine (lists_ok g).mono ?_
    rintro _ _ ⟨rfl, rfl⟩
    refine ⟨Nat.le_of_ble_eq_true rfl, (fun _ => by simp only [go_sem, flatH, and_self]), ?_⟩
    simp only [go_sem, callOut, AState.after]
    refine hKY _ ?_
    refine sem_freeze [0, 4] (by simp only [go_sem]; rfl) ?_
    simp only [go_sem, rowsO_freeze]
    refine wlk_seq fun X3 hn3 he3 hr3 => ?_
    refine wlk_sreg fun KY hKY => ?_
    simp only [go_sem, c_greedy_First_r5, ints_len, List.length_replicate]
    refine hKY _ ?_
    refine wlk_blk fun X4 hn4 he4 hf4 hr4 => ?_
    try simp only [go_sem]
    refine wlk_lp (α := Nat × List Int) [5, 6, 7, 24, 29, 38] (fun (k, m) => [(23, .sc (.int .i64 (k : Int)))]) (fun (k, m) => [some (ints m)]) (fun (k, m) q => m.length = N ∧ Mf N (adj es) (mf m) ∧ k ≤ N ∧ q = N - k) ((0, List.replicate N (-1))) (N) rfl (by first | (simp only [go_sem, updAll_cons, updAll_nil]; done) | with_reducible rfl | rfl) (⟨by simp, g.none mf_rep, Nat.zero_le _, rfl⟩) ?_
    rintro ⟨k, m⟩ q ⟨hml, M, hk, rfl⟩ X5 hn5 he5 hr5
    simp only [go_sem, updAll_cons, updAll_nil]
    rcases Nat.lt_or_ge k N with hk2 | hk2
    · have hdx : decide ((k : Int) < (N : Int)) = true := decide_eq_true (by omega)
      have hfr := sfree_ok m hml hk2
      refine wlk_sreg fun KY hKY => ?_
      simp only [go_sem, c_greedy_First_r6, hdx]
      refine hKY _ ?_
      refine wlk_seq fun X6 hn6 he6 hr6 => ?_
      refine wlk_cond1 (by first | rfl | (simp only [go_sem]; try simp (disch := omega) only [decide_eq_true, decide_eq_false])) ?_
      refine wlk_skip ?_
      repeat (first | refine hn6 _ ?_ | refine he6 _ _ ?_ | refine he5 _ _ ?_ | refine hn4 _ ?_ | refine he4 _ ?_ | refine hf4 _ _ (by decide) ?_ | refine hn3 _ ?_ | refine he3 _ _ ?_ | refine hn2 _ ?_ | refine he2 _ _ ?_)
      refine wlk_seq fun X7 hn7 he7 hr7 => ?_
      refine wlk_blk fun X8 hn8 he8 hf8 hr8 => ?_
      refine wlk_sreg fun KY hKY => ?_
      simp only [go_sem, c_greedy_First_r7]
      refine hKY _ ?_
      by_cases hmk : m.getD k 0 < 0
      · have hd1 : decide (m.getD k 0 < 0) = true := decide_eq_true hmk
        refine wlk_seq fun X9 hn9 he9 hr9 => ?_
        refine wlk_sreg fun KY hKY => ?_
        simp only [go_sem, c_greedy_First_r8]
        apply call_gen [] [0] false none rfl
        iterate 8 (first | (simp only [go_sem, watchIn] <;> rfl) | rfl)
        refine (hfr).mono ?_
        rintro _ _ ⟨rfl, rfl⟩
        refine ⟨Nat.le_of_ble_eq_true rfl, (fun hh => by cases hh), ?_⟩
        simp only [go_sem, callOut, AState.after, hd1]
        refine hKY _ ?_
        refine wlk_cond0 (by first | rfl | (simp only [go_sem]; try simp (disch := omega) only [decide_eq_true, decide_eq_false])) ?_
        refine wlk_skip ?_
        repeat (first | refine hn9 _ ?_ | refine he9 _ _ ?_ | refine hn8 _ ?_ | refine he8 _ ?_ | refine hf8 _ _ (by decide) ?_ | refine hn7 _ ?_ | refine he7 _ _ ?_ | refine hn6 _ ?_ | refine he6 _ _ ?_ | refine he5 _ _ ?_ | refine hn4 _ ?_ | refine he4 _ ?_ | refine hf4 _ _ (by decide) ?_ | refine hn3 _ ?_ | refine he3 _ _ ?_ | refine hn2 _ ?_ | refine he2 _ _ ?_)
        have hnr := rowsI_get (near_get (es := es) hk2)
        have hidx := idxfree_ok m hml (nearOf es k) (fun x hx => (g.mf.2 _ _ (nearOf_mem.1 hx)).2.1) (Nat.le_trans (nearOf_len g k) (by decide))
        refine wlk_sdraw fun KY hKY => ?_
        simp only [go_sem, c_greedy_First_r9, hnr, near_len, hk2, rowsI_len]
        apply call_gen [] [0] false none rfl
        iterate 8 (first | (simp only [go_sem, watchIn] <;> rfl) | rfl)
        refine (hidx).mono ?_
        rintro _ _ ⟨⟨z, rfl, hz⟩, rfl⟩
        refine ⟨Nat.le_of_ble_eq_true rfl, (fun hh => by cases hh), ?_⟩
        simp only [go_sem, callOut, AState.after]
        refine hKY _ ?_
        have hmk1 : mf m k = -1 := by
          rw [mf_get (by omega)] at hmk
          rcases M.at_ k hk2 with h | ⟨w, h, _⟩
          · exact h
          · omega
        rcases hz with rfl | ⟨i, x, rfl, hix, hmx⟩
        · have hd2 : decide ((0 : Int) ≤ -1) = false := rfl
          refine wlk_sreg fun KY hKY => ?_
          simp only [go_sem, c_greedy_First_r10, hd2]
          refine hKY _ ?_
          refine wlk_cond0 (by first | rfl | (simp only [go_sem]; try simp (disch := omega) only [decide_eq_true, decide_eq_false])) ?_
          refine wlk_skip ?_
          repeat (first | refine hn9 _ ?_ | refine he9 _ _ ?_ | refine hn8 _ ?_ | refine he8 _ ?_ | refine hf8 _ _ (by decide) ?_ | refine hn7 _ ?_ | refine he7 _ _ ?_ | refine hn6 _ ?_ | refine he6 _ _ ?_ | refine he5 _ _ ?_ | refine hn4 _ ?_ | refine he4 _ ?_ | refine hf4 _ _ (by decide) ?_ | refine hn3 _ ?_ | refine he3 _ _ ?_ | refine hn2 _ ?_ | refine he2 _ _ ?_)
          refine wlk_reg fun KY hKY => ?_
          simp only [go_sem, c_greedy_First_r13, incS (show k < 4611686018427387904 by omega)]
          refine hKY _ ?_
          repeat (first | refine hn9 _ ?_ | refine he9 _ _ ?_ | refine hn8 _ ?_ | refine he8 _ ?_ | refine hf8 _ _ (by decide) ?_ | refine hn7 _ ?_ | refine he7 _ _ ?_ | refine hn6 _ ?_ | refine he6 _ _ ?_)
          refine hn5 _ ((k + 1, m)) (N - (k + 1)) (by omega) (by first | (simp only [go_sem, updAll_cons, updAll_nil]; done) | with_reducible rfl) ?_
          exact ⟨hml, M, hk2, rfl⟩
        · have hd2 : decide ((0 : Int) ≤ (i : Int)) = true := decide_eq_true (by omega)
          have hil := (List.getElem?_eq_some_iff.1 hix).1
          have hadj : adj es k x := nearOf_mem.1 (List.mem_iff_getElem?.2 ⟨i, hix⟩)
          have hxN := (g.mf.2 _ _ hadj).2.1
          have hxk := (g.mf.2 _ _ hadj).2.2
          have hgx : (nats (nearOf es k))[i]? = some (.sc (.int .i64 (x : Int))) := by simp [nats, hix]
          have hmx1 : mf m x = -1 := by
            rw [mf_get (by omega)] at hmx
            rcases M.at_ x hxN with h | ⟨w, h, _⟩
            · exact h
            · omega
          have hls : ((m.set k (x : Int)).set x (k : Int)).length = N := by simp [hml]
          have M2 : Mf N (adj es) (mf ((m.set k (x : Int)).set x (k : Int))) := by
            refine M.add hmk1 hmx1 hadj ?_ ?_ fun u h1 h2 => ?_
            · rw [mf_set (by simp; omega), if_neg hxk, mf_set (by omega), if_pos rfl]
            · rw [mf_set (by simp; omega), if_pos rfl]
            · rw [mf_set (by simp; omega), if_neg h2, mf_set (by omega), if_neg h1]
          refine wlk_sreg fun KY hKY => ?_
          simp only [go_sem, c_greedy_First_r10, hd2]
          refine hKY _ ?_
          refine wlk_cond1 (by first | rfl | (simp only [go_sem]; try simp (disch := omega) only [decide_eq_true, decide_eq_false])) ?_
          refine wlk_sreg fun KY hKY => ?_
          simp only [go_sem, c_greedy_First_r11, hnr, near_len, hk2, rowsI_len, hgx, nats_len, hil]
          refine hKY _ ?_
          refine wlk_draw fun KY hKY => ?_
          simp only [go_sem, c_greedy_First_r12, ints_len, ints_set, hml, hk2, hxN, List.length_set, Nat.zero_add, (show ([1, 0] == [0, 3]) = false from rfl), Bool.not_false]
          refine hKY _ ?_
          repeat (first | refine hn9 _ ?_ | refine he9 _ _ ?_ | refine hn8 _ ?_ | refine he8 _ ?_ | refine hf8 _ _ (by decide) ?_ | refine hn7 _ ?_ | refine he7 _ _ ?_ | refine hn6 _ ?_ | refine he6 _ _ ?_ | refine he5 _ _ ?_ | refine hn4 _ ?_ | refine he4 _ ?_ | refine hf4 _ _ (by decide) ?_ | refine hn3 _ ?_ | refine he3 _ _ ?_ | refine hn2 _ ?_ | refine he2 _ _ ?_)
          refine wlk_reg fun KY hKY => ?_
          simp only [go_sem, c_greedy_First_r13, incS (show k < 4611686018427387904 by omega)]
          refine hKY _ ?_
          repeat (first | refine hn9 _ ?_ | refine he9 _ _ ?_ | refine hn8 _ ?_ | refine he8 _ ?_ | refine hf8 _ _ (by decide) ?_ | refine hn7 _ ?_ | refine he7 _ _ ?_ | refine hn6 _ ?_ | refine he6 _ _ ?_)
          refine hn5 _ ((k + 1, (m.set k (x : Int)).set x (k : Int))) (N - (k + 1)) (by omega) (by first | (simp only [go_sem, updAll_cons, updAll_nil]; done) | with_reducible rfl) ?_
          exact ⟨hls, M2, hk2, rfl⟩
      · have hd1 : decide (m.getD k 0 < 0) = false := decide_eq_false hmk
        refine wlk_seq fun X10 hn10 he10 hr10 => ?_
        refine wlk_sreg fun KY hKY => ?_
        simp only [go_sem, c_greedy_First_r8]
        apply call_gen [] [0] false none rfl
        iterate 8 (first | (simp only [go_sem, watchIn] <;> rfl) | rfl)
        refine (hfr).mono ?_
        rintro _ _ ⟨rfl, rfl⟩
        refine ⟨Nat.le_of_ble_eq_true rfl, (fun hh => by cases hh), ?_⟩
        simp only [go_sem, callOut, AState.after, hd1]
        refine hKY _ ?_
        refine wlk_cond1 (by first | rfl | (simp only [go_sem]; try simp (disch := omega) only [decide_eq_true, decide_eq_false])) ?_
        refine wlk_exit ?_
        repeat (first | refine hn10 _ ?_ | refine he10 _ _ ?_ | refine hn8 _ ?_ | refine he8 _ ?_ | refine hf8 _ _ (by decide) ?_ | refine hn7 _ ?_ | refine he7 _ _ ?_ | refine hn6 _ ?_ | refine he6 _ _ ?_ | refine he5 _ _ ?_ | refine hn4 _ ?_ | refine he4 _ ?_ | refine hf4 _ _ (by decide) ?_ | refine hn3 _ ?_ | refine he3 _ _ ?_ | refine hn2 _ ?_ | refine he2 _ _ ?_)
        refine wlk_reg fun KY hKY => ?_
        simp only [go_sem, c_greedy_First_r13, incS (show k < 4611686018427387904 by omega)]
        refine hKY _ ?_
        repeat (first | refine hn10 _ ?_ | refine he10 _ _ ?_ | refine hn8 _ ?_ | refine he8 _ ?_ | refine hf8 _ _ (by decide) ?_ | refine hn7 _ ?_ | refine he7 _ _ ?_ | refine hn6 _ ?_ | refine he6 _ _ ?_)
        refine hn5 _ ((k + 1, m)) (N - (k + 1)) (by omega) (by first | (simp only [go_sem, updAll_cons, updAll_nil]; done) | with_reducible rfl) ?_
        exact ⟨hml, M, hk2, rfl⟩
    have hdx : decide ((k : Int) < (N : Int)) = false := decide_eq_false (by omega)
    refine wlk_sreg fun KY hKY => ?_
    simp only [go_sem, c_greedy_First_r6, hdx]
    refine hKY _ ?_
    refine wlk_seq fun X11 hn11 he11 hr11 => ?_
    refine wlk_cond0 (by first | rfl | (simp only [go_sem]; try simp (disch := omega) only [decide_eq_true, decide_eq_false])) ?_
    refine wlk_exit ?_
    repeat (first | refine hn11 _ ?_ | refine he11 _ _ ?_ | refine he5 _ _ ?_ | refine hn4 _ ?_ | refine he4 _ ?_ | refine hf4 _ _ (by decide) ?_ | refine hn3 _ ?_ | refine he3 _ _ ?_ | refine hn2 _ ?_ | refine he2 _ _ ?_)
    refine wlk_sreg fun KY hKY => ?_
    simp only [go_sem, c_greedy_First_r14]
    refine hKY _ ?_
    refine wlk_ret ?_
    repeat (first | refine hr11 _ ?_ | refine hr5 _ ?_ | refine hr4 _ ?_ | refine hr3 _ ?_ | refine hr2 _ ?_)
    simp only [go_sem]
    exact .inr ⟨h0, m, hml, M, rfl⟩
end Go.Proofs.Ytkjppnofgmpeeaa
set_option maxRecDepth 100000
set_option maxHeartbeats 4000000
namespace Go.Proofs.Ytkjppnofgmpeeaa
open Go Go.Ga Go.Ga.Gl
theorem inc (k : Nat) (h : k ≤ 1000000000) : IntKind.i64.wrap ((k : Int) + 1) = ((k + 1 : Nat) : Int) := by rw [IntWalk.i64_in _ (by omega)]; omega
theorem nats_ints (xs : List Nat) : nats xs = ints (xs.map fun (n : Nat) => (n : Int)) := by simp [nats, ints]
theorem ints_at {xs : List Int} {k : Nat} {x : Int} (h : xs[k]? = some x) : (ints xs)[k]? = some (.sc (.int .i64 x)) := by simp [ints, h]
theorem eqi_ok (x y : Int) : ACalls Try.prog [] n_garlandhelp_Plain_int__1 [.sc (.int .i64 x), .sc (.int .i64 y)] [] fun r h' => r = .sc (.bool (decide (x = y))) ∧ h' = [] := by
  refine go_garlandhelp_Plain_int__1 rfl ?_
  unfold c_garlandhelp_Plain_int__1 v_garlandhelp_Plain_int__1
  refine wlk_sreg fun KY hKY => ?_
  simp only [go_sem, c_garlandhelp_Plain_int__1_r0]
  refine hKY _ ?_
  refine wlk_sreg fun KY hKY => ?_
  simp only [go_sem, c_garlandhelp_Plain_int__1_r1]
  refine hKY _ ?_
  refine wlk_ret ?_
  simp only [go_sem]
theorem alike_snoc {α : Type} [DecidableEq α] {xs ys : List α} {k : Nat} {x y : α} (hx : xs[k]? = some x) (hy : ys[k]? = some y) (h : xs.take k = ys.take k) : xs.take (k + 1) = ys.take (k + 1) ↔ x = y := by
  rw [List.take_add_one, List.take_add_one, hx, hy, h]
  simp
theorem samei_ok (xs ys : List Int) (hb : xs.length ≤ 1000000000) : ACalls Try.prog [] n_garlandhelp_Same_int_ [.imm 1 (ints xs), .imm 1 (ints ys), .fn (.func n_garlandhelp_Plain_int__1) [] []] [] fun r h' => r = .sc (.bool (decide (xs = ys))) ∧ h' = [] := by
  refine go_garlandhelp_Same_int_ rfl ?_
  unfold c_garlandhelp_Same_int_ v_garlandhelp_Same_int_
  refine wlk_sreg fun KY hKY => ?_
  simp only [go_sem, c_garlandhelp_Same_int__r0]
  refine hKY _ ?_
  refine wlk_seq fun X1 hn1 he1 hr1 => ?_
  refine wlk_sreg fun KY hKY => ?_
  simp only [go_sem, c_garlandhelp_Same_int__r1, Nat.div_one, ints_len]
  refine hKY _ ?_
  simp only [go_sem]
  by_cases hl : xs.length = ys.length
  case neg =>
    have hl' : decide (((xs.length : Nat) : Int) ≠ ((ys.length : Nat) : Int)) = true := decide_eq_true (by omega)
    refine wlk_cond1 (by simp only [go_sem, hl']) ?_
    refine wlk_sreg fun KY hKY => ?_
    simp only [go_sem, c_garlandhelp_Same_int__r2]
    refine hKY _ ?_
    refine wlk_ret (hr1 _ ?_)
    simp only [go_sem]
    rw [decide_eq_false (fun e : xs = ys => hl (by rw [e]))]
  have hl' : decide (((xs.length : Nat) : Int) ≠ ((ys.length : Nat) : Int)) = false := decide_eq_false (by omega)
  refine wlk_cond0 (by simp only [go_sem, hl']) (wlk_skip (hn1 _ ?_))
  refine wlk_seq fun X2 hn2 he2 hr2 => ?_
  refine wlk_sreg fun KY hKY => ?_
  simp only [go_sem, c_garlandhelp_Same_int__r3]
  refine hKY _ ?_
  refine wlk_blk fun X3 hn3 he3 hf3 hr3 => ?_
  refine wlk_loop (fun m s => ∃ (k : Nat) (A16 A29 : AVal), k ≤ xs.length ∧ m = xs.length - k ∧ xs.take k = ys.take k ∧ s = { vs := [(0, .imm 1 (ints xs)), (1, .imm 1 (ints ys)), (2, .fn (.func n_garlandhelp_Plain_int__1) [] []), (6, .sc (.bool false)), (7, .sc (.int .i64 (k : Int))), (12, .sc (.bool (decide (((xs.length : Nat) : Int) ≠ ((ys.length : Nat) : Int))))), (16, A16), (29, A29)], ts := [], h := [] }) xs.length ⟨0, .dead, .dead, Nat.zero_le _, rfl, rfl, ?_⟩ ?_
  · rfl
  rintro m _ ⟨k, A16, A29, hk, rfl, hpre, rfl⟩ X4 hn4 he4 hr4
  refine sem_forget [16, 29] rfl ?_
  simp only [go_sem]
  refine wlk_seq fun X5 hn5 he5 hr5 => ?_
  refine wlk_seq fun X6 hn6 he6 hr6 => ?_
  refine wlk_reg fun KY hKY => ?_
  simp only [go_sem, c_garlandhelp_Same_int__r4, Nat.div_one, ints_len]
  refine hKY _ (hn6 _ ?_)
  simp only [go_sem]
  refine wlk_cond (v := decide ((k : Int) < (xs.length : Int))) rfl (fun h => wlk_skip (hn5 _ ?_)) fun h => wlk_exit (he5 _ _ (he4 _ _ (he3 _ (hn2 _ ?_))))
  · have hlt : k < xs.length := by have := of_decide_eq_true h; omega
    have hlt2 : k < ys.length := by omega
    have hx : xs[k]? = some xs[k] := List.getElem?_eq_getElem hlt
    have hy : ys[k]? = some ys[k] := List.getElem?_eq_getElem hlt2
    have st := alike_snoc hx hy hpre
    refine wlk_seq fun X7 hn7 he7 hr7 => ?_
    refine wlk_blk fun X8 hn8 he8 hf8 hr8 => ?_
    refine wlk_sdraw fun KY hKY => ?_
    simp only [go_sem, c_garlandhelp_Same_int__r5, ints_len, ints_at hx, ints_at hy, hlt, hlt2]
    refine call_view rfl (by simp only [go_sem] <;> rfl) ((eqi_ok xs[k] ys[k]).mono ?_)
    rintro rr hh ⟨rfl, rfl⟩
    refine ⟨rfl, rfl, rfl, ?_⟩
    simp only [go_sem]
    refine hKY _ ?_
    simp only [go_sem]
    by_cases e : xs[k] = ys[k]
    · refine wlk_cond0 (by simp only [go_sem, decide_eq_true e]) (wlk_skip (hn8 _ (hn7 _ ?_)))
      refine wlk_reg fun KY hKY => ?_
      simp only [go_sem, c_garlandhelp_Same_int__r7, inc k (by omega)]
      refine hKY _ (hn4 (xs.length - (k + 1)) _ (by omega) ?_)
      simp only [go_sem]
      exact ⟨k + 1, _, _, hlt, rfl, st.2 e, rfl⟩
    · refine wlk_cond1 (by simp only [go_sem, decide_eq_false e]) ?_
      refine wlk_sreg fun KY hKY => ?_
      simp only [go_sem, c_garlandhelp_Same_int__r6]
      refine hKY _ ?_
      refine wlk_ret (hr8 _ (hr7 _ (hr4 _ (hr3 _ (hr2 _ ?_)))))
      simp only [go_sem]
      rw [decide_eq_false (fun e' : xs = ys => e (by subst e'; rfl))]
  · have hkn : k = xs.length := by have := of_decide_eq_false h; omega
    refine wlk_sreg fun KY hKY => ?_
    simp only [go_sem, c_garlandhelp_Same_int__r8]
    refine hKY _ ?_
    refine wlk_ret ?_
    simp only [go_sem]
    rw [hkn, List.take_length, hl, List.take_length] at hpre
    rw [decide_eq_true hpre]
theorem plaini_ok (xs ys : List Int) (hb : xs.length ≤ 1000000000) : ACalls Try.prog [] n_garlandhelp_Plain_int_ [.imm 1 (ints xs), .imm 1 (ints ys)] [] fun r h' => r = .sc (.bool (decide (xs = ys))) ∧ h' = [] := by
  refine go_garlandhelp_Plain_int_ rfl ?_
  unfold c_garlandhelp_Plain_int_ v_garlandhelp_Plain_int_
  refine wlk_sreg fun KY hKY => ?_
  simp only [go_sem, c_garlandhelp_Plain_int__r0]
  refine hKY _ ?_
  refine wlk_sreg fun KY hKY => ?_
  simp only [go_sem, c_garlandhelp_Plain_int__r1]
  refine call_view rfl (by simp only [go_sem] <;> rfl) ((samei_ok xs ys hb).mono ?_)
  rintro rr hh ⟨rfl, rfl⟩
  refine ⟨rfl, rfl, rfl, ?_⟩
  simp only [go_sem]
  refine hKY _ ?_
  refine wlk_ret ?_
  simp only [go_sem]
theorem plainn_ok (xs ys : List Nat) (hb : xs.length ≤ 1000000000) : ACalls Try.prog [] n_garlandhelp_Plain_int_ [.imm 1 (nats xs), .imm 1 (nats ys)] [] fun r h' => r = .sc (.bool (decide (xs = ys))) ∧ h' = [] := by
  rw [nats_ints, nats_ints]
  refine (plaini_ok _ _ (by simpa using hb)).mono fun r h' ⟨h1, h2⟩ => ⟨?_, h2⟩
  rw [h1]
  congr 2
  rw [decide_eq_decide]
  refine ⟨fun h => ?_, fun h => by rw [h]⟩
  exact List.map_inj_right (fun a b hab => by omega) |>.1 h
end Go.Proofs.Ytkjppnofgmpeeaa
set_option maxRecDepth 100000
set_option maxHeartbeats 4000000
namespace Go.Proofs.Ytkjppnofgmpeeaa
open Go Go.Ga Go.Ga.Gl
def turnL : List Int → List Int → List Int
  | m, a :: b :: l => turnL ((m.set a.toNat b).set b.toNat a) l
  | m, _ => m
theorem turnL_len : ∀ (l m : List Int), (turnL m l).length = m.length
  | [], m => rfl
  | [_], m => rfl
  | a :: b :: l, m => by unfold turnL; rw [turnL_len l]; simp
theorem turn_step {l : List Int} {k : Nat} {a b : Int} (ha : l[2 * k]? = some a) (hb : l[2 * k + 1]? = some b) : ∀ m0, turnL m0 (l.take (2 * (k + 1))) = ((turnL m0 (l.take (2 * k))).set a.toNat b).set b.toNat a := by
  induction k generalizing l with
  | zero =>
    intro m0
    match l, ha, hb with
    | x :: y :: l, ha, hb =>
      simp at ha hb
      subst ha; subst hb
      simp [turnL]
  | succ k ih =>
    intro m0
    match l, ha, hb with
    | [], ha, _ => simp at ha
    | [x], ha, _ => simp at ha
    | x :: y :: l, ha, hb =>
      have ha' : l[2 * k]? = some a := by rw [show 2 * (k + 1) = 2 * k + 1 + 1 by omega] at ha; simpa using ha
      have hb' : l[2 * k + 1]? = some b := by rw [show 2 * (k + 1) + 1 = (2 * k + 1) + 1 + 1 by omega] at hb; simpa using hb
      rw [show 2 * (k + 1 + 1) = 2 * (k + 1) + 1 + 1 by omega, show 2 * (k + 1) = 2 * k + 1 + 1 by omega]
      simp only [List.take_succ_cons, turnL]
      exact ih ha' hb' _
theorem turn_end : ∀ (k : Nat) (l m : List Int), l.length ≤ 2 * k + 1 → turnL m (l.take (2 * k)) = turnL m l
  | 0, [], m, _ => rfl
  | 0, [x], m, _ => rfl
  | 0, _ :: _ :: _, m, h => by simp at h
  | k + 1, [], m, _ => by simp
  | k + 1, [x], m, _ => by rw [show 2 * (k + 1) = 2 * k + 1 + 1 by omega]; simp
  | k + 1, x :: y :: l, m, h => by
    rw [show 2 * (k + 1) = 2 * k + 1 + 1 by omega]
    simp only [List.take_succ_cons, turnL]
    exact turn_end k l _ (by simp at h; omega)
theorem turn_ok (m l : List Int) (hl : l.length ≤ 1000000) (hm : m.length ≤ 1000000) (hin : ∀ i, i < l.length → ∃ a : Nat, l.getD i 0 = a ∧ a < m.length) : ACalls Try.prog [] n_walk_Turn [.sl 0 0 m.length 1, .imm 1 (ints l)] [some (ints m)] fun r h' => r = .tup [] ∧ h' = [some (ints (turnL m l))] := by
  refine go_walk_Turn rfl ?_
  unfold c_walk_Turn v_walk_Turn
  refine wlk_sreg fun KY hKY => ?_
  simp only [go_sem, c_walk_Turn_r0]
  refine hKY _ ?_
  refine wlk_blk fun X1 hn1 he1 hf1 hr1 => ?_
  have h0 : m = turnL m (l.take (2 * 0)) := by simp [turnL]
  try simp only [go_sem]
  refine wlk_lp (α := Nat) [8] (fun k => [(4, .sc (.int .i64 ((2 * k + 1 : Nat) : Int)))]) (fun k => [some (ints (turnL m (l.take (2 * k))))]) (fun k q => 2 * k ≤ l.length + 1 ∧ q = l.length - k) (0) (l.length) rfl (by first | (simp only [go_sem, updAll_cons, updAll_nil]; done) | with_reducible rfl | rfl) (⟨by omega, rfl⟩) ?_
  rintro k q ⟨hk, rfl⟩ X2 hn2 he2 hr2
  simp only [go_sem, updAll_cons, updAll_nil]
  refine wlk_seq fun X3 hn3 he3 hr3 => ?_
  rcases Nat.lt_or_ge (2 * k + 1) l.length with hk2 | hk2
  · have hdy : decide (((2 * k + 1 : Nat) : Int) < (l.length : Int)) = true := decide_eq_true (by omega)
    refine wlk_sreg fun KY hKY => ?_
    simp only [go_sem, c_walk_Turn_r1, ints_len, hdy]
    refine hKY _ ?_
    refine wlk_cond1 (by first | rfl | (simp only [go_sem]; try simp (disch := omega) only [decide_eq_true, decide_eq_false])) ?_
    refine wlk_skip ?_
    repeat (first | refine hn3 _ ?_ | refine he3 _ _ ?_ | refine he2 _ _ ?_ | refine hn1 _ ?_ | refine he1 _ ?_ | refine hf1 _ _ (by decide) ?_)
    refine wlk_seq fun X4 hn4 he4 hr4 => ?_
    refine wlk_blk fun X5 hn5 he5 hf5 hr5 => ?_
    have hk0 : 2 * k < l.length := by omega
    obtain ⟨a, ha, haN⟩ := hin (2 * k) hk0
    obtain ⟨b, hb, hbN⟩ := hin (2 * k + 1) hk2
    have hd1 : IntKind.i64.wrap (((2 * k + 1 : Nat) : Int) - 1) = ((2 * k : Nat) : Int) := by rw [IntWalk.i64_in _ (by omega)]; omega
    have hga : (ints l)[2 * k]? = some (.sc (.int .i64 (a : Int))) := by rw [ints_get hk0, ha]
    have hgb : (ints l)[2 * k + 1]? = some (.sc (.int .i64 (b : Int))) := by rw [ints_get hk2, hb]
    have hla : l[2 * k]? = some (a : Int) := by rw [← ha, List.getD_eq_getElem?_getD, List.getElem?_eq_getElem hk0]; rfl
    have hlb : l[2 * k + 1]? = some (b : Int) := by rw [← hb, List.getD_eq_getElem?_getD, List.getElem?_eq_getElem hk2]; rfl
    have hst := turn_step hla hlb m
    rw [Int.toNat_natCast, Int.toNat_natCast] at hst
    have hlen := turnL_len (l.take (2 * k)) m
    generalize hM : turnL m (l.take (2 * k)) = M at hst hlen
    refine wlk_draw fun KY hKY => ?_
    simp only [go_sem, c_walk_Turn_r2, hd1, hga, hgb, hk0, hk2, ints_len, haN, hbN, hlen, List.length_set, ← hst]
    refine hKY _ ?_
    repeat (first | refine hn5 _ ?_ | refine he5 _ ?_ | refine hf5 _ _ (by decide) ?_ | refine hn4 _ ?_ | refine he4 _ _ ?_ | refine hn3 _ ?_ | refine he3 _ _ ?_ | refine he2 _ _ ?_ | refine hn1 _ ?_ | refine he1 _ ?_ | refine hf1 _ _ (by decide) ?_)
    have hi2 : IntKind.i64.wrap (((2 * k + 1 : Nat) : Int) + 2) = ((2 * (k + 1) + 1 : Nat) : Int) := by rw [IntWalk.i64_in _ (by omega)]; omega
    refine wlk_reg fun KY hKY => ?_
    simp only [go_sem, c_walk_Turn_r3, hi2]
    refine hKY _ ?_
    repeat (first | refine hn5 _ ?_ | refine he5 _ ?_ | refine hf5 _ _ (by decide) ?_ | refine hn4 _ ?_ | refine he4 _ _ ?_ | refine hn3 _ ?_ | refine he3 _ _ ?_)
    refine hn2 _ (k + 1) (l.length - (k + 1)) (by omega) (by first | (simp only [go_sem, updAll_cons, updAll_nil]; done) | with_reducible rfl) ?_
    exact ⟨by omega, rfl⟩
  have hdx : decide (((2 * k + 1 : Nat) : Int) < (l.length : Int)) = false := decide_eq_false (by omega)
  refine wlk_sreg fun KY hKY => ?_
  simp only [go_sem, c_walk_Turn_r1, ints_len, hdx]
  refine hKY _ ?_
  refine wlk_cond0 (by first | rfl | (simp only [go_sem]; try simp (disch := omega) only [decide_eq_true, decide_eq_false])) ?_
  refine wlk_exit ?_
  repeat (first | refine hn3 _ ?_ | refine he3 _ _ ?_ | refine he2 _ _ ?_ | refine hn1 _ ?_ | refine he1 _ ?_ | refine hf1 _ _ (by decide) ?_)
  rw [turn_end k l m (by omega)]
  simp only [go_sem]
theorem turnL_mf {E : Nat → Nat → Prop} : ∀ (l : List Nat) (m : List Int), EP E l → l.Nodup → (∀ y ∈ l, y < m.length) → ∀ u, mf (turnL m (l.map fun x : Nat => (x : Int))) u = if u ∈ l then (par l u : Int) else mf m u
  | [], m, _, _, _, u => by simp [turnL]
  | [_], m, h, _, _, u => h.elim
  | a :: b :: l, m, h, hn, hl, u => by
    simp only [List.nodup_cons, List.mem_cons, not_or] at hn
    obtain ⟨⟨hab, hal⟩, hbl, hnl⟩ := hn
    have ha := hl a (by simp)
    have hb := hl b (by simp)
    have ih := turnL_mf l ((m.set a (b : Int)).set b (a : Int)) h.2 hnl (fun y hy => by simp; exact hl y (by simp [hy])) u
    simp only [List.map_cons, turnL, Int.toNat_natCast]
    rw [ih]
    have e2 : mf ((m.set a (b : Int)).set b (a : Int)) u = if u = b then (a : Int) else if u = a then (b : Int) else mf m u := by
      rw [mf_set (by simp; omega), mf_set ha]
    have ep : par (a :: b :: l) u = if u = a then b else if u = b then a else par l u := rfl
    rw [ep]
    by_cases h1 : u = a
    · subst h1
      rw [if_neg hal, e2, if_neg hab, if_pos rfl, if_pos (by simp), if_pos rfl]
    · by_cases h2 : u = b
      · subst h2
        rw [if_neg hbl, e2, if_pos rfl, if_pos (by simp), if_neg h1, if_pos rfl]
      · by_cases h3 : u ∈ l
        · rw [if_pos h3, if_pos (by simp [h3]), if_neg h1, if_neg h2]
        · rw [if_neg h3, e2, if_neg h2, if_neg h1, if_neg (by simp [h1, h2, h3])]
theorem enlarge_ok (nr : List (List Nat)) {n : Nat} {E : Nat → Nat → Prop} {m : List Int} (h0 : 0 < n) (hnr : nr.length = n) (hml : m.length = n) (hn : n ≤ 4096) (hrow : ∀ v, v < n → (nr.getD v []).length ≤ 1000000) (M : Mf n E (mf m)) (hE : ∀ v w, v < n → (w ∈ nr.getD v [] ↔ E v w)) :
    ACalls Try.prog [] n_single_Enlarge [.imm 1 (rowsI nr), .sl 0 0 n 1] [some (ints m)] fun r h' => ∃ (m' : List Int) (S : FS) (a b : Int), m'.length = n ∧ Mf n E (mf m') ∧ Inv n E (mf m') S ∧ Lk E S [] ∧ r = .tup [.own (some 1) (ints (labs n S)), .agg [.sc (.int .i64 a), .sc (.int .i64 b)]] ∧ h' = [some (ints m')] := by
  refine go_single_Enlarge rfl ?_
  unfold c_single_Enlarge v_single_Enlarge
  refine wlk_sreg fun KY hKY => ?_
  simp only [go_sem, c_single_Enlarge_r0]
  refine hKY _ ?_
  refine wlk_sreg fun KY hKY => ?_
  simp only [go_sem, c_single_Enlarge_r1]
  refine hKY _ ?_
  refine wlk_blk fun X1 hn1 he1 hf1 hr1 => ?_
  try simp only [go_sem]
  refine wlk_lp (α := List Int × Int × Int) [7, 8, 9, 26] (fun (m, a, b) => [(6, .own none [.sc (.int .i64 a), .sc (.int .i64 b)])]) (fun (m, a, b) => [some (ints m)]) (fun (m, a, b) q => m.length = n ∧ Mf n E (mf m) ∧ q = fre n (mf m)) ((m, 0, 0)) (fre n (mf m)) rfl (by first | (simp only [go_sem, updAll_cons, updAll_nil]; done) | with_reducible rfl | rfl) (⟨hml, M, rfl⟩) ?_
  rintro ⟨m, a, b⟩ q ⟨hml, M, rfl⟩ X2 hn2 he2 hr2
  simp only [go_sem, updAll_cons, updAll_nil]
  have hS := search_ok nr hnr hml hn hrow M hE
  refine wlk_blk fun X3 hn3 he3 hf3 hr3 => ?_
  refine wlk_sreg fun KY hKY => ?_
  simp only [go_sem, c_single_Enlarge_r2]
  have htk : List.take n (ints m) = ints m := List.take_of_length_le (by rw [ints_len]; omega)
  refine call_view rfl (by simp only [go_sem, hml, Nat.le_refl, htk] <;> rfl) (hS.mono ?_)
  rintro rr hh ⟨rfl, lk, ⟨l, hA, rfl⟩ | ⟨S, hI, hL, rfl⟩⟩
  · refine ⟨?_, ?_, ?_, ?_⟩
    iterate 3 (first | rfl | simp only [go_sem])
    have hT := turn_ok m (l.map fun x : Nat => (x : Int)) (by
      have := nodup_le (m := List.range n) hA.nd fun x hx => List.mem_range.2 (hA.lt x hx)
      simp at this ⊢; omega) (by omega) (fun i hi => by
        rw [List.length_map] at hi
        exact ⟨l[i], by simp [hi], by rw [hml]; exact hA.lt _ (List.getElem_mem hi)⟩)
    rw [← nats_ints, hml] at hT
    have hmf := turnL_mf l m hA.ep hA.nd (fun y hy => by rw [hml]; exact hA.lt y hy)
    obtain ⟨M2, hfr, r, hrn, hr1, hr2⟩ := turn_mf M hA (mt' := mf (turnL m (l.map fun x : Nat => (x : Int)))) (fun u hu => by rw [hmf u, if_pos hu]) (fun u hu => by rw [hmf u, if_neg hu])
    have hless := fre_less hrn hr1 hr2 hfr
    have hlen2 : (turnL m (l.map fun x : Nat => (x : Int))).length = n := by rw [turnL_len, hml]
    cases l with
    | nil => obtain ⟨z, hz, _⟩ := hA.fr; simp at hz
    | cons c l =>
      have hnn : nats (c :: l) = .sc (.int .i64 (c : Int)) :: nats l := rfl
      simp only [go_sem]
      refine hKY _ ?_
      refine wlk_sreg fun KY hKY => ?_
      simp only [go_sem, c_single_Enlarge_r3]
      refine hKY _ ?_
      refine wlk_seq fun X4 hn4 he4 hr4 => ?_
      refine wlk_sreg fun KY hKY => ?_
      simp only [go_sem, c_single_Enlarge_r4, hnn]
      refine hKY _ ?_
      refine wlk_cond0 (by first | rfl | (simp only [go_sem]; try simp (disch := omega) only [decide_eq_true, decide_eq_false])) ?_
      refine wlk_skip ?_
      repeat (first | refine hn4 _ ?_ | refine he4 _ _ ?_ | refine hn3 _ ?_ | refine he3 _ ?_ | refine hf3 _ _ (by decide) ?_ | refine he2 _ _ ?_ | refine hn1 _ ?_ | refine he1 _ ?_ | refine hf1 _ _ (by decide) ?_)
      simp only [go_sem]
      rw [← hnn]
      refine wlk_reg fun KY hKY => ?_
      simp only [go_sem, c_single_Enlarge_r6]
      apply call_gen [] [0] true none rfl
      iterate 8 (first | (simp only [go_sem, watchIn] <;> rfl) | rfl)
      refine (hT).mono ?_
      rintro _ _ ⟨rfl, rfl⟩
      refine ⟨Nat.le_of_ble_eq_true rfl, (fun _ => by simp only [go_sem, flatH, and_self]), ?_⟩
      simp only [go_sem, callOut, AState.after]
      have hq2 : fre n (mf (turnL m ((c :: l).map fun x : Nat => (x : Int)))) < fre n (mf m) := hless
      refine hKY _ ?_
      repeat (first | refine hn4 _ ?_ | refine he4 _ _ ?_ | refine hn3 _ ?_ | refine he3 _ ?_ | refine hf3 _ _ (by decide) ?_)
      refine hn2 _ ((turnL m ((c :: l).map fun x : Nat => (x : Int)), IntKind.i64.wrap (a + 1), max b lk)) (fre n (mf (turnL m ((c :: l).map fun x : Nat => (x : Int))))) (by omega) (by first | (simp only [go_sem, updAll_cons, updAll_nil]; done) | with_reducible rfl) ?_
      exact ⟨hlen2, M2, rfl⟩
  · refine ⟨?_, ?_, ?_, ?_⟩
    iterate 3 (first | rfl | simp only [go_sem])
    simp only [go_sem]
    refine hKY _ ?_
    refine wlk_sreg fun KY hKY => ?_
    simp only [go_sem, c_single_Enlarge_r3]
    refine hKY _ ?_
    refine wlk_seq fun X5 hn5 he5 hr5 => ?_
    refine wlk_sreg fun KY hKY => ?_
    simp only [go_sem, c_single_Enlarge_r4]
    refine hKY _ ?_
    refine wlk_cond1 (by first | rfl | (simp only [go_sem]; try simp (disch := omega) only [decide_eq_true, decide_eq_false])) ?_
    refine wlk_sdraw fun KY hKY => ?_
    simp only [go_sem, c_single_Enlarge_r5]
    refine hKY _ ?_
    refine wlk_ret ?_
    repeat (first | refine hr5 _ ?_ | refine hr3 _ ?_ | refine hr2 _ ?_ | refine hr1 _ ?_)
    simp only [go_sem]
    exact ⟨m, S, _, _, hml, M, hI, hL, rfl, rfl⟩
end Go.Proofs.Ytkjppnofgmpeeaa
set_option maxRecDepth 100000
set_option maxHeartbeats 4000000
namespace Go.Proofs.Ytkjppnofgmpeeaa
open Go Go.Ga Go.Ga.Gl
theorem enlarge0_ok {E : Nat → Nat → Prop} (M : Mf 0 E (mf [])) :
    ACalls Try.prog [] n_single_Enlarge [.imm 1 (rowsI []), .imm 1 (ints [])] [] fun r h' => ∃ (S : FS) (a b : Int), Inv 0 E (mf []) S ∧ Lk E S [] ∧ r = .tup [.own (some 1) (ints (labs 0 S)), .agg [.sc (.int .i64 a), .sc (.int .i64 b)]] ∧ h' = [] := by
  have hS := search_ok [] (n := 0) (E := E) (m := []) rfl rfl (by omega) (fun v hv => by omega) M (fun v w hv => by omega)
  refine go_single_Enlarge rfl ?_
  unfold c_single_Enlarge v_single_Enlarge
  refine wlk_sreg fun KY hKY => ?_
  simp only [go_sem, c_single_Enlarge_r0]
  refine hKY _ ?_
  refine wlk_sreg fun KY hKY => ?_
  simp only [go_sem, c_single_Enlarge_r1]
  refine hKY _ ?_
  refine wlk_blk fun X1 hn1 he1 hf1 hr1 => ?_
  try simp only [go_sem]
  refine wlk_lp (α := Int × Int) [7, 8, 9, 26] (fun (a, b) => [(6, .own none [.sc (.int .i64 a), .sc (.int .i64 b)])]) (fun (a, b) => []) (fun (a, b) q => q = 0) ((0, 0)) (0) rfl (by first | (simp only [go_sem, updAll_cons, updAll_nil]; done) | with_reducible rfl | rfl) (rfl) ?_
  rintro ⟨a, b⟩ q rfl X2 hn2 he2 hr2
  simp only [go_sem, updAll_cons, updAll_nil]
  refine wlk_blk fun X3 hn3 he3 hf3 hr3 => ?_
  refine wlk_sreg fun KY hKY => ?_
  simp only [go_sem, c_single_Enlarge_r2]
  refine call_view rfl (by simp only [go_sem] <;> rfl) (hS.mono ?_)
  rintro rr hh ⟨rfl, lk, ⟨l, hA, rfl⟩ | ⟨S, hI, hL, rfl⟩⟩
  · exfalso
    obtain ⟨z, hz, _⟩ := hA.fr
    have := hA.lt z hz
    omega
  · refine ⟨?_, ?_, ?_, ?_⟩
    iterate 3 (first | rfl | simp only [go_sem])
    simp only [go_sem]
    refine hKY _ ?_
    refine wlk_sreg fun KY hKY => ?_
    simp only [go_sem, c_single_Enlarge_r3]
    refine hKY _ ?_
    refine wlk_seq fun X4 hn4 he4 hr4 => ?_
    refine wlk_sreg fun KY hKY => ?_
    simp only [go_sem, c_single_Enlarge_r4]
    refine hKY _ ?_
    refine wlk_cond1 (by first | rfl | (simp only [go_sem]; try simp (disch := omega) only [decide_eq_true, decide_eq_false])) ?_
    refine wlk_sdraw fun KY hKY => ?_
    simp only [go_sem, c_single_Enlarge_r5]
    refine hKY _ ?_
    refine wlk_ret ?_
    repeat (first | refine hr4 _ ?_ | refine hr3 _ ?_ | refine hr2 _ ?_ | refine hr1 _ ?_)
    simp only [go_sem]
    exact ⟨S, _, _, hI, hL, rfl⟩
theorem near_row {N : Nat} (es : Es) {v : Nat} (hv : v < N) : (near N es).getD v [] = nearOf es v := by
  rw [List.getD_eq_getElem?_getD, near_get hv]; rfl
theorem near_e {N : Nat} (es : Es) : ∀ v w, v < N → (w ∈ (near N es).getD v [] ↔ adj es v w) := fun v w hv => by
  rw [near_row es hv]; exact nearOf_mem
theorem near_r {N : Nat} {es : Es} (g : GR N es) : ∀ v, v < N → ((near N es).getD v []).length ≤ 1000000 := fun v hv => by
  rw [near_row es hv]; exact Nat.le_trans (nearOf_len g v) (by decide)
theorem largest_ok {N : Nat} {es : Es} (g : GR N es) : ACalls Try.prog [] n_single_Largest [.agg [.sc (.int .i64 (N : Int)), .imm 2 (twos (castE es))]] [] fun r h' => ∃ (m : List Int) (S : FS) (a b : Int), m.length = N ∧ Mf N (adj es) (mf m) ∧ Inv N (adj es) (mf m) S ∧ Lk (adj es) S [] ∧ ((N = 0 ∧ r = .tup [.own (some 1) [], .agg [.sc (.int .i64 a), .sc (.int .i64 b)], .sc (.int .i64 0)] ∧ h' = []) ∨ (0 < N ∧ r = .tup [.sl 0 0 N 1, .agg [.sc (.int .i64 a), .sc (.int .i64 b)], .sc (.int .i64 0)] ∧ h' = [some (ints m)])) := by
  have hN := g.hn
  have hr := rightB_GR g
  refine go_single_Largest rfl ?_
  unfold c_single_Largest v_single_Largest
  refine wlk_sreg fun KY hKY => ?_
  simp only [go_sem, c_single_Largest_r0]
  refine hKY _ ?_
  refine wlk_seq fun X1 hn1 he1 hr1 => ?_
  refine wlk_sreg fun KY hKY => ?_
  simp only [go_sem, c_single_Largest_r1]
  refine call_view rfl (by simp only [go_sem] <;> rfl) ((right_ok N (castE es)).mono ?_)
  rintro rr hh ⟨rfl, rfl⟩
  refine ⟨rfl, rfl, rfl, ?_⟩
  simp only [go_sem, hr]
  refine hKY _ ?_
  refine wlk_cond0 (by first | rfl | (simp only [go_sem]; try simp (disch := omega) only [decide_eq_true, decide_eq_false])) ?_
  refine wlk_skip ?_
  repeat (first | refine hn1 _ ?_ | refine he1 _ _ ?_)
  refine wlk_sreg fun KY hKY => ?_
  simp only [go_sem, c_single_Largest_r3]
  apply call_gen [] [] false none rfl
  iterate 8 (first | (simp only [go_sem, watchIn] <;> rfl) | rfl)
  refine (gfirst_ok g).mono ?_
  rintro _ _ (⟨h0, rfl, rfl⟩ | ⟨h0, m, hml, M, rfl, rfl⟩)
  · subst h0
    refine ⟨Nat.le_of_ble_eq_true rfl, (fun hh => by cases hh), ?_⟩
    simp only [go_sem, callOut, AState.after]
    refine hKY _ ?_
    refine sem_nil [0, 5] 1 (by simp only [go_sem]) ?_
    simp only [go_sem]
    have M0 : Mf 0 (adj es) (mf []) := g.none fun v => by simp [mf]
    have hE0 := enlarge0_ok M0
    have hnr : near 0 es = [] := rfl
    refine wlk_sreg fun KY hKY => ?_
    simp only [go_sem, c_single_Largest_r4]
    apply call_gen [] [] true none rfl
    iterate 8 (first | (simp only [go_sem, watchIn] <;> rfl) | rfl)
    refine (lists_ok g).mono ?_
    rintro _ _ ⟨rfl, rfl⟩
    refine ⟨Nat.le_of_ble_eq_true rfl, (fun _ => by simp only [go_sem, flatH, and_self, hnr]), ?_⟩
    simp only [go_sem, callOut, AState.after, hnr]
    rw [show AVal.own (some 1) (rowsO []) = .own (some 1) (rowsO []) from rfl]
    apply call_gen [] [] true none rfl
    iterate 8 (first | (simp only [go_sem, watchIn] <;> rfl) | rfl)
    refine (hE0).mono ?_
    rintro _ _ ⟨S, a, b, hI, hL, rfl, rfl⟩
    refine ⟨Nat.le_of_ble_eq_true rfl, (fun _ => by simp only [go_sem, flatH, and_self]), ?_⟩
    simp only [go_sem, callOut, AState.after]
    refine hKY _ ?_
    refine wlk_sdraw fun KY hKY => ?_
    simp only [go_sem, c_single_Largest_r5]
    refine hKY _ ?_
    refine wlk_ret ?_
    repeat (first | refine hr1 _ ?_)
    simp only [go_sem]
    exact ⟨[], S, _, _, rfl, M0, hI, hL, .inl rfl⟩
  · refine ⟨Nat.le_of_ble_eq_true rfl, (fun hh => by cases hh), ?_⟩
    simp only [go_sem, callOut, AState.after]
    refine hKY _ ?_
    have hE1 := enlarge_ok (near N es) h0 (near_len N es) hml hN (near_r g) M (near_e es)
    refine wlk_sreg fun KY hKY => ?_
    simp only [go_sem, c_single_Largest_r4]
    apply call_gen [] [] true none rfl
    iterate 8 (first | (simp only [go_sem, watchIn] <;> rfl) | rfl)
    refine (lists_ok g).mono ?_
    rintro _ _ ⟨rfl, rfl⟩
    refine ⟨Nat.le_of_ble_eq_true rfl, (fun _ => by simp only [go_sem, flatH, and_self]), ?_⟩
    simp only [go_sem, callOut, AState.after]
    apply call_gen [] [0] true none rfl
    iterate 8 (first | (simp only [go_sem, watchIn] <;> rfl) | rfl)
    refine (hE1).mono ?_
    rintro _ _ ⟨m', S, a, b, hml', M', hI, hL, rfl, rfl⟩
    refine ⟨Nat.le_of_ble_eq_true rfl, (fun _ => by simp only [go_sem, flatH, and_self]), ?_⟩
    simp only [go_sem, callOut, AState.after]
    refine hKY _ ?_
    refine wlk_sdraw fun KY hKY => ?_
    simp only [go_sem, c_single_Largest_r5]
    refine hKY _ ?_
    refine wlk_ret ?_
    repeat (first | refine hr1 _ ?_)
    simp only [go_sem]
    exact ⟨m', S, _, _, hml', M', hI, hL, .inr ⟨h0, rfl, rfl⟩⟩
end Go.Proofs.Ytkjppnofgmpeeaa
set_option maxRecDepth 100000
set_option maxHeartbeats 4000000
namespace Go.Proofs.Ytkjppnofgmpeeaa
open Go Go.Ga Go.Ga.Gl
end Go.Proofs.Ytkjppnofgmpeeaa
set_option maxRecDepth 100000
set_option maxHeartbeats 4000000
namespace Go.Proofs.Ytkjppnofgmpeeaa
open Go Go.Ga Go.Ga.Gl
end Go.Proofs.Ytkjppnofgmpeeaa
set_option maxRecDepth 100000
set_option maxHeartbeats 4000000
namespace Go.Proofs.Ytkjppnofgmpeeaa
open Go Go.Ga Go.Ga.Gl
end Go.Proofs.Ytkjppnofgmpeeaa
set_option maxRecDepth 100000
set_option maxHeartbeats 2000000
namespace Go.Proofs.Ytkjppnofgmpeeaa
open Go Go.Ga Go.Ga.Gl
end Go.Proofs.Ytkjppnofgmpeeaa
set_option maxRecDepth 100000
set_option maxHeartbeats 2000000
namespace Go.Proofs.Ytkjppnofgmpeeaa
open Go Go.Ga Go.Ga.Gl
def PsOf (n : Int) (es : List (Int × Int)) (out : List Int) (ps : List (List Nat)) : Prop :=
  (rightB n es = true ∧ ∃ (N : Nat) (es' : Es), n = N ∧ es = castE es' ∧ GR N es' ∧ IsPieces N es' (fun v => (v : Int) ∈ out) ps) ∨ (rightB n es = false ∧ ps = [])
theorem PsOf.len {n : Int} {es : List (Int × Int)} {out : List Int} {ps : List (List Nat)} (h : PsOf n es out ps) : ps.length ≤ 4096 ∧ ∀ p ∈ ps, p.length ≤ 4096 := by
  rcases h with ⟨_, N, es', _, _, g, P⟩ | ⟨_, rfl⟩
  · have := g.hn
    exact ⟨Nat.le_trans (pieces_len P) this, fun p hp => Nat.le_trans (piece_len P hp) this⟩
  · exact ⟨by simp, fun p hp => by simp at hp⟩
theorem PsOf.disj {n : Int} {es : List (Int × Int)} {out : List Int} {ps : List (List Nat)} (h : PsOf n es out ps) : ps.Pairwise fun p q => ∀ v ∈ p, v ∉ q := by
  rcases h with ⟨_, N, es', _, _, g, P⟩ | ⟨_, rfl⟩
  · exact P.disj
  · exact .nil
end Go.Proofs.Ytkjppnofgmpeeaa
set_option maxRecDepth 100000
set_option maxHeartbeats 2000000
namespace Go.Proofs.Ytkjppnofgmpeeaa
open Go Go.Ga Go.Ga.Gl
end Go.Proofs.Ytkjppnofgmpeeaa
set_option maxRecDepth 100000
set_option maxHeartbeats 4000000
namespace Go.Proofs.Ytkjppnofgmpeeaa
open Go Go.Ga Go.Ga.Gl
def mOk (es : Es) (m : List Int) (v : Nat) : Bool := decide (m.getD v 0 = -1) || (decide (turnI (v : Int) (m.getD v 0) ∈ castE es) && decide (m.getD (m.getD v 0).toNat 0 = (v : Int)))
theorem turn_mem {N : Nat} {es : Es} (g : GR N es) {v : Nat} {w : Int} (h : turnI (v : Int) w ∈ castE es) : ∃ u : Nat, w = u ∧ u < N ∧ v < N ∧ u ≠ v := by
  obtain ⟨⟨a, b⟩, hm, e⟩ := List.mem_map.1 h
  have hok := g.ok _ hm
  simp only at hok
  unfold turnI at e
  split at e
  · simp only [Prod.mk.injEq] at e
    exact ⟨a, by omega, by omega, by omega, by omega⟩
  · simp only [Prod.mk.injEq] at e
    exact ⟨b, by omega, by omega, by omega, by omega⟩
theorem all_no {N k : Nat} {φ : Nat → Bool} (h : k < N) (hf : φ k = false) : ((List.range N).all fun v => φ v) = false := by
  rw [Bool.eq_false_iff]; intro h'
  rw [List.all_eq_true] at h'
  rw [h' k (List.mem_range.2 h)] at hf; cases hf
end Go.Proofs.Ytkjppnofgmpeeaa
set_option maxRecDepth 100000
set_option maxHeartbeats 4000000
namespace Go.Proofs.Ytkjppnofgmpeeaa
open Go Go.Ga Go.Ga.Gl
def jAt (m : List Int) (l : Es) (v : Nat) : Bool := l.any fun e => (decide (e.1 = v) || decide (e.2 = v)) && (decide (m.getD e.1 0 = (e.2 : Int)) && decide (m.getD e.2 0 = (e.1 : Int)))
theorem jAt_ok {N : Nat} {es : Es} (g : GR N es) (m : List Int) {v : Nat} (hw : m.getD v 0 ≠ -1) : jAt m es v = mOk es m v := by
  rw [Bool.eq_iff_iff]
  unfold jAt mOk
  rw [List.any_eq_true, decide_eq_false hw, Bool.false_or, Bool.and_eq_true, decide_eq_true_iff, decide_eq_true_iff]
  constructor
  · rintro ⟨⟨a, b⟩, he, h⟩
    have hok := g.ok _ he
    simp only [Bool.and_eq_true, Bool.or_eq_true, decide_eq_true_eq] at h hok
    obtain ⟨rfl | rfl, h1, h2⟩ := h
    · rw [h1]
      refine ⟨?_, by rw [Int.toNat_natCast]; exact h2⟩
      unfold turnI; rw [if_neg (by omega)]; exact castE_mem.2 he
    · rw [h2]
      refine ⟨?_, by rw [Int.toNat_natCast]; exact h1⟩
      unfold turnI; rw [if_pos (by omega)]; exact castE_mem.2 he
  · rintro ⟨h1, h2⟩
    obtain ⟨u, hu, _, _, hne⟩ := turn_mem g h1
    rw [hu] at h1 h2
    rw [Int.toNat_natCast] at h2
    unfold turnI at h1
    split at h1
    · exact ⟨(u, v), castE_mem.1 h1, by simp only [hu, h2, decide_true, Bool.or_true, Bool.true_or, Bool.and_self]⟩
    · exact ⟨(v, u), castE_mem.1 h1, by simp only [hu, h2, decide_true, Bool.or_true, Bool.true_or, Bool.and_self]⟩
def jL (N : Nat) (m : List Int) (l : Es) : List Bool := (List.range N).map (jAt m l)
theorem jL_len (N : Nat) (m : List Int) (l : Es) : (jL N m l).length = N := by simp [jL]
theorem jL_get {N : Nat} (m : List Int) (l : Es) {v : Nat} (h : v < N) : (jL N m l).getD v false = jAt m l v := by simp [jL, h]
theorem jL_no {N : Nat} (m : List Int) (l : Es) {a b : Nat} (h : ¬ (m.getD a 0 = (b : Int) ∧ m.getD b 0 = (a : Int))) : jL N m (l ++ [(a, b)]) = jL N m l := by
  refine List.map_congr_left fun v _ => ?_
  unfold jAt
  rw [List.any_append]
  have : (decide (m.getD a 0 = (b : Int)) && decide (m.getD b 0 = (a : Int))) = false := by
    rw [Bool.eq_false_iff]; intro h'; rw [Bool.and_eq_true, decide_eq_true_iff, decide_eq_true_iff] at h'; exact h h'
  simp only [List.any_cons, List.any_nil, this, Bool.and_false, Bool.or_false]
theorem jL_yes {N : Nat} (m : List Int) (l : Es) {a b : Nat} (h : m.getD a 0 = (b : Int) ∧ m.getD b 0 = (a : Int)) : ((jL N m l).set a true).set b true = jL N m (l ++ [(a, b)]) := by
  apply List.ext_getElem
  · simp [jL]
  · intro i h1 h2
    have hi : i < N := by rw [jL_len] at h2; exact h2
    have e : jAt m (l ++ [(a, b)]) i = (jAt m l i || (decide (a = i) || decide (b = i))) := by
      unfold jAt
      rw [List.any_append]
      simp only [List.any_cons, List.any_nil, h.1, h.2, decide_true, Bool.and_true, Bool.or_false]
    simp only [jL, List.getElem_set, List.getElem_map, List.getElem_range, e]
    by_cases hb : b = i
    · simp [hb]
    · by_cases ha : a = i
      · simp [ha, hb]
      · simp [ha, hb]
theorem mright_yes {N : Nat} {es : Es} (g : GR N es) (m : List Int) (hl : m.length = N) : ACalls Try.prog [] n_mates_Right [.agg [.sc (.int .i64 (N : Int)), .imm 2 (twos (castE es))], .imm 1 (ints m)] [] fun r h' => r = .sc (.bool ((List.range N).all fun v => mOk es m v)) ∧ h' = [] := by
  refine ACalls.trim ?_
  have hN := g.hn
  have hem := g.hm
  have hr := rightB_GR g
  have hd : decide ((m.length : Int) ≠ (N : Int)) = false := decide_eq_false (by omega)
  have h0 : List.replicate N false = jL N m (es.take 0) := by
    apply List.ext_getElem
    · simp [jL]
    · intro i h1 h2; simp [jL, jAt]
  refine go_mates_Right rfl ?_
  unfold c_mates_Right v_mates_Right
  refine wlk_sreg fun KY hKY => ?_
  simp only [go_sem, c_mates_Right_r0]
  refine hKY _ ?_
  refine wlk_seq fun X1 hn1 he1 hr1 => ?_
  refine wlk_sreg fun KY hKY => ?_
  simp only [go_sem, c_mates_Right_r1]
  refine call_view rfl (by simp only [go_sem] <;> rfl) ((right_ok N (castE es)).mono ?_)
  rintro rr hh ⟨rfl, rfl⟩
  refine ⟨rfl, rfl, rfl, ?_⟩
  simp only [go_sem, hr, ints_len, hd]
  refine hKY _ ?_
  refine wlk_cond0 (by first | rfl | (simp only [go_sem]; try simp (disch := omega) only [decide_eq_true, decide_eq_false])) ?_
  refine wlk_skip ?_
  repeat (first | refine hn1 _ ?_ | refine he1 _ _ ?_)
  refine wlk_sreg fun KY hKY => ?_
  simp only [go_sem, c_mates_Right_r3, (show N ≤ 140737488355328 by omega), (show 1 * N ≤ 140737488355328 by omega), (show (N : Int) ≤ (N : Int) from Int.le_refl _), (show (N : Int) ≤ 9223372036854775807 by omega), h0]
  refine hKY _ ?_
  refine wlk_seq fun X2 hn2 he2 hr2 => ?_
  refine wlk_sreg fun KY hKY => ?_
  simp only [go_sem, c_mates_Right_r4, twos_len, mul2, castE_len]
  refine hKY _ ?_
  refine wlk_blk fun X3 hn3 he3 hf3 hr3 => ?_
  try simp only [go_sem]
  refine wlk_lp (α := Nat) [7, 27, 47] (fun k => [(5, .own (some 1) (bools (jL N m (es.take k)))), (26, .sc (.int .i64 (k : Int)))]) (fun k => []) (fun k q => k ≤ es.length ∧ q = es.length - k) (0) (es.length) rfl (by first | (simp only [go_sem, updAll_cons, updAll_nil]; done) | with_reducible rfl | rfl) (⟨by omega, rfl⟩) ?_
  rintro k q ⟨hk, rfl⟩ X4 hn4 he4 hr4
  simp only [go_sem, updAll_cons, updAll_nil]
  rcases Nat.lt_or_ge k es.length with hk2 | hk2
  · have hdy : decide ((k : Int) < (es.length : Int)) = true := decide_eq_true (by omega)
    refine wlk_sreg fun KY hKY => ?_
    simp only [go_sem, c_mates_Right_r5, hdy]
    refine hKY _ ?_
    refine wlk_seq fun X5 hn5 he5 hr5 => ?_
    refine wlk_cond1 (by first | rfl | (simp only [go_sem]; try simp (disch := omega) only [decide_eq_true, decide_eq_false])) ?_
    refine wlk_skip ?_
    repeat (first | refine hn5 _ ?_ | refine he5 _ _ ?_ | refine he4 _ _ ?_ | refine hn3 _ ?_ | refine he3 _ ?_ | refine hf3 _ _ (by decide) ?_ | refine hn2 _ ?_ | refine he2 _ _ ?_ | refine hn1 _ ?_ | refine he1 _ _ ?_)
    refine wlk_seq fun X6 hn6 he6 hr6 => ?_
    refine wlk_blk fun X7 hn7 he7 hf7 hr7 => ?_
    have hx : es[k]? = some es[k] := List.getElem?_eq_getElem hk2
    have hxm : es[k] ∈ es := List.getElem_mem hk2
    generalize es[k] = x at hx hxm
    obtain ⟨a, b⟩ := x
    have hxc := castE_get hx
    have hok := g.ok (a, b) hxm
    simp only at hok
    have htk : es.take (k + 1) = es.take k ++ [(a, b)] := by rw [List.take_add_one, hx]; rfl
    have haN : a < N := by omega
    have hbN : b < N := hok.2
    refine wlk_sreg fun KY hKY => ?_
    simp only [go_sem, c_mates_Right_r6, (show k * 2 + 1 < es.length * 2 by omega), (show 1 < es.length * 2 - k * 2 by omega), two_cells hxc, List.length_drop, twos_len, castE_len]
    refine hKY _ ?_
    by_cases h1 : m.getD a 0 = (b : Int)
    · have d1 : decide (m.getD a 0 = (b : Int)) = true := decide_eq_true h1
      by_cases h2 : m.getD b 0 = (a : Int)
      · have d2 : decide (m.getD b 0 = (a : Int)) = true := decide_eq_true h2
        have hst := jL_yes (N := N) m (es.take k) ⟨h1, h2⟩
        rw [← htk] at hst
        refine wlk_sdraw fun KY hKY => ?_
        simp only [go_sem, c_mates_Right_r7, ints_get (show a < m.length by omega), ints_get (show b < m.length by omega), ints_len, hl, haN, hbN, d1, d2]
        refine hKY _ ?_
        refine wlk_cond1 (by first | rfl | (simp only [go_sem]; try simp (disch := omega) only [decide_eq_true, decide_eq_false])) ?_
        refine wlk_draw fun KY hKY => ?_
        simp only [go_sem, c_mates_Right_r8, bools_len, jL_len, haN, hbN, List.length_set, hst, (show ([0, 5] == [0, 7]) = false from rfl), Bool.not_false]
        refine hKY _ ?_
        repeat (first | refine hn7 _ ?_ | refine he7 _ ?_ | refine hf7 _ _ (by decide) ?_ | refine hn6 _ ?_ | refine he6 _ _ ?_ | refine hn5 _ ?_ | refine he5 _ _ ?_ | refine he4 _ _ ?_ | refine hn3 _ ?_ | refine he3 _ ?_ | refine hf3 _ _ (by decide) ?_ | refine hn2 _ ?_ | refine he2 _ _ ?_ | refine hn1 _ ?_ | refine he1 _ _ ?_)
        refine wlk_reg fun KY hKY => ?_
        simp only [go_sem, c_mates_Right_r9, incS (show k < 4611686018427387904 by omega)]
        refine hKY _ ?_
        repeat (first | refine hn7 _ ?_ | refine he7 _ ?_ | refine hf7 _ _ (by decide) ?_ | refine hn6 _ ?_ | refine he6 _ _ ?_ | refine hn5 _ ?_ | refine he5 _ _ ?_)
        refine hn4 _ (k + 1) (es.length - (k + 1)) (by omega) (by first | (simp only [go_sem, updAll_cons, updAll_nil]; done) | with_reducible rfl | rfl) ?_
        exact ⟨hk2, rfl⟩
      · have d2 : decide (m.getD b 0 = (a : Int)) = false := decide_eq_false h2
        have hst := jL_no (N := N) m (es.take k) (a := a) (b := b) fun h => h2 h.2
        rw [← htk] at hst
        refine wlk_sdraw fun KY hKY => ?_
        simp only [go_sem, c_mates_Right_r7, ints_get (show a < m.length by omega), ints_get (show b < m.length by omega), ints_len, hl, haN, hbN, d1, d2]
        refine hKY _ ?_
        refine wlk_cond0 (by first | rfl | (simp only [go_sem]; try simp (disch := omega) only [decide_eq_true, decide_eq_false])) ?_
        refine wlk_skip ?_
        repeat (first | refine hn7 _ ?_ | refine he7 _ ?_ | refine hf7 _ _ (by decide) ?_ | refine hn6 _ ?_ | refine he6 _ _ ?_ | refine hn5 _ ?_ | refine he5 _ _ ?_ | refine he4 _ _ ?_ | refine hn3 _ ?_ | refine he3 _ ?_ | refine hf3 _ _ (by decide) ?_ | refine hn2 _ ?_ | refine he2 _ _ ?_ | refine hn1 _ ?_ | refine he1 _ _ ?_)
        refine wlk_reg fun KY hKY => ?_
        simp only [go_sem, c_mates_Right_r9, incS (show k < 4611686018427387904 by omega)]
        refine hKY _ ?_
        repeat (first | refine hn7 _ ?_ | refine he7 _ ?_ | refine hf7 _ _ (by decide) ?_ | refine hn6 _ ?_ | refine he6 _ _ ?_ | refine hn5 _ ?_ | refine he5 _ _ ?_)
        refine hn4 _ (k + 1) (es.length - (k + 1)) (by omega) (by first | (simp only [go_sem, updAll_cons, updAll_nil, hst]; done) | with_reducible rfl | rfl) ?_
        exact ⟨hk2, rfl⟩
    · have d1 : decide (m.getD a 0 = (b : Int)) = false := decide_eq_false h1
      have hst := jL_no (N := N) m (es.take k) (a := a) (b := b) fun h => h1 h.1
      rw [← htk] at hst
      refine wlk_sdraw fun KY hKY => ?_
      simp only [go_sem, c_mates_Right_r7, ints_get (show a < m.length by omega), ints_len, hl, haN, hbN, d1]
      refine hKY _ ?_
      refine wlk_cond0 (by first | rfl | (simp only [go_sem]; try simp (disch := omega) only [decide_eq_true, decide_eq_false])) ?_
      refine wlk_skip ?_
      repeat (first | refine hn7 _ ?_ | refine he7 _ ?_ | refine hf7 _ _ (by decide) ?_ | refine hn6 _ ?_ | refine he6 _ _ ?_ | refine hn5 _ ?_ | refine he5 _ _ ?_ | refine he4 _ _ ?_ | refine hn3 _ ?_ | refine he3 _ ?_ | refine hf3 _ _ (by decide) ?_ | refine hn2 _ ?_ | refine he2 _ _ ?_ | refine hn1 _ ?_ | refine he1 _ _ ?_)
      refine wlk_reg fun KY hKY => ?_
      simp only [go_sem, c_mates_Right_r9, incS (show k < 4611686018427387904 by omega)]
      refine hKY _ ?_
      repeat (first | refine hn7 _ ?_ | refine he7 _ ?_ | refine hf7 _ _ (by decide) ?_ | refine hn6 _ ?_ | refine he6 _ _ ?_ | refine hn5 _ ?_ | refine he5 _ _ ?_)
      refine hn4 _ (k + 1) (es.length - (k + 1)) (by omega) (by first | (simp only [go_sem, updAll_cons, updAll_nil, hst]; done) | with_reducible rfl | rfl) ?_
      exact ⟨hk2, rfl⟩
  have hdx : decide ((k : Int) < (es.length : Int)) = false := decide_eq_false (by omega)
  refine wlk_sreg fun KY hKY => ?_
  simp only [go_sem, c_mates_Right_r5, hdx]
  refine hKY _ ?_
  refine wlk_seq fun X8 hn8 he8 hr8 => ?_
  refine wlk_cond0 (by first | rfl | (simp only [go_sem]; try simp (disch := omega) only [decide_eq_true, decide_eq_false])) ?_
  refine wlk_exit ?_
  repeat (first | refine hn8 _ ?_ | refine he8 _ _ ?_ | refine he4 _ _ ?_ | refine hn3 _ ?_ | refine he3 _ ?_ | refine hf3 _ _ (by decide) ?_ | refine hn2 _ ?_ | refine he2 _ _ ?_ | refine hn1 _ ?_ | refine he1 _ _ ?_)
  obtain rfl : k = es.length := by omega
  rw [List.take_length]
  refine wlk_seq fun X9 hn9 he9 hr9 => ?_
  refine wlk_sreg fun KY hKY => ?_
  simp only [go_sem, c_mates_Right_r10, ints_len, hl]
  refine hKY _ ?_
  refine wlk_blk fun X10 hn10 he10 hf10 hr10 => ?_
  try simp only [go_sem]
  refine wlk_lp (α := Nat) [8, 9, 60, 72] (fun v => [(59, .sc (.int .i64 (v : Int)))]) (fun v => []) (fun v q => v ≤ N ∧ q = N - v ∧ (∀ u, u < v → mOk es m u = true)) (0) (N) rfl (by first | (simp only [go_sem, updAll_cons, updAll_nil]; done) | with_reducible rfl | rfl) (⟨by omega, rfl, fun v h => by omega⟩) ?_
  rintro v q ⟨hv, rfl, hz⟩ X11 hn11 he11 hr11
  simp only [go_sem, updAll_cons, updAll_nil]
  rcases Nat.lt_or_ge v N with hv2 | hv2
  · have hdy : decide ((v : Int) < (N : Int)) = true := decide_eq_true (by omega)
    refine wlk_sreg fun KY hKY => ?_
    simp only [go_sem, c_mates_Right_r11, hdy]
    refine hKY _ ?_
    refine wlk_seq fun X12 hn12 he12 hr12 => ?_
    refine wlk_cond1 (by first | rfl | (simp only [go_sem]; try simp (disch := omega) only [decide_eq_true, decide_eq_false])) ?_
    refine wlk_skip ?_
    repeat (first | refine hn12 _ ?_ | refine he12 _ _ ?_ | refine he11 _ _ ?_ | refine hn10 _ ?_ | refine he10 _ ?_ | refine hf10 _ _ (by decide) ?_ | refine hn9 _ ?_ | refine he9 _ _ ?_ | refine hn8 _ ?_ | refine he8 _ _ ?_)
    refine wlk_seq fun X13 hn13 he13 hr13 => ?_
    refine wlk_blk fun X14 hn14 he14 hf14 hr14 => ?_
    refine wlk_sreg fun KY hKY => ?_
    simp only [go_sem, c_mates_Right_r12, ints_get (show v < m.length by omega), ints_len, hl, hv2]
    refine hKY _ ?_
    by_cases hw : m.getD v 0 = -1
    · have d1 : decide (m.getD v 0 ≠ -1) = false := decide_eq_false fun h => h hw
      have hok : mOk es m v = true := by unfold mOk; rw [decide_eq_true hw]; rfl
      refine wlk_sreg fun KY hKY => ?_
      simp only [go_sem, c_mates_Right_r13, d1]
      refine hKY _ ?_
      refine wlk_cond0 (by first | rfl | (simp only [go_sem]; try simp (disch := omega) only [decide_eq_true, decide_eq_false])) ?_
      refine wlk_skip ?_
      repeat (first | refine hn14 _ ?_ | refine he14 _ ?_ | refine hf14 _ _ (by decide) ?_ | refine hn13 _ ?_ | refine he13 _ _ ?_ | refine hn12 _ ?_ | refine he12 _ _ ?_ | refine he11 _ _ ?_ | refine hn10 _ ?_ | refine he10 _ ?_ | refine hf10 _ _ (by decide) ?_ | refine hn9 _ ?_ | refine he9 _ _ ?_ | refine hn8 _ ?_ | refine he8 _ _ ?_)
      refine wlk_reg fun KY hKY => ?_
      simp only [go_sem, c_mates_Right_r15, incS (show v < 4611686018427387904 by omega)]
      refine hKY _ ?_
      repeat (first | refine hn14 _ ?_ | refine he14 _ ?_ | refine hf14 _ _ (by decide) ?_ | refine hn13 _ ?_ | refine he13 _ _ ?_ | refine hn12 _ ?_ | refine he12 _ _ ?_)
      refine hn11 _ (v + 1) (N - (v + 1)) (by omega) (by first | (simp only [go_sem, updAll_cons, updAll_nil]; done) | with_reducible rfl | rfl) ?_
      refine ⟨hv2, rfl, fun u hu => ?_⟩
      rcases Nat.lt_or_ge u v with h3 | h3
      · exact hz u h3
      · obtain rfl : u = v := by omega
        exact hok
    · have d1 : decide (m.getD v 0 ≠ -1) = true := decide_eq_true hw
      have hj := jAt_ok g m hw
      have hjl := jL_len N m es
      have hg := bools_get (show v < (jL N m es).length by omega)
      rw [jL_get m es hv2, hj] at hg
      cases hok : mOk es m v with
      | true =>
        rw [hok] at hg
        refine wlk_sreg fun KY hKY => ?_
        simp only [go_sem, c_mates_Right_r13, d1, hg, bools_len, hjl, hv2]
        refine hKY _ ?_
        refine wlk_cond0 (by first | rfl | (simp only [go_sem]; try simp (disch := omega) only [decide_eq_true, decide_eq_false])) ?_
        refine wlk_skip ?_
        repeat (first | refine hn14 _ ?_ | refine he14 _ ?_ | refine hf14 _ _ (by decide) ?_ | refine hn13 _ ?_ | refine he13 _ _ ?_ | refine hn12 _ ?_ | refine he12 _ _ ?_ | refine he11 _ _ ?_ | refine hn10 _ ?_ | refine he10 _ ?_ | refine hf10 _ _ (by decide) ?_ | refine hn9 _ ?_ | refine he9 _ _ ?_ | refine hn8 _ ?_ | refine he8 _ _ ?_)
        refine wlk_reg fun KY hKY => ?_
        simp only [go_sem, c_mates_Right_r15, incS (show v < 4611686018427387904 by omega)]
        refine hKY _ ?_
        repeat (first | refine hn14 _ ?_ | refine he14 _ ?_ | refine hf14 _ _ (by decide) ?_ | refine hn13 _ ?_ | refine he13 _ _ ?_ | refine hn12 _ ?_ | refine he12 _ _ ?_)
        refine hn11 _ (v + 1) (N - (v + 1)) (by omega) (by first | (simp only [go_sem, updAll_cons, updAll_nil]; done) | with_reducible rfl | rfl) ?_
        refine ⟨hv2, rfl, fun u hu => ?_⟩
        rcases Nat.lt_or_ge u v with h3 | h3
        · exact hz u h3
        · obtain rfl : u = v := by omega
          exact hok
      | false =>
        rw [hok] at hg
        refine wlk_sreg fun KY hKY => ?_
        simp only [go_sem, c_mates_Right_r13, d1, hg, bools_len, hjl, hv2]
        refine hKY _ ?_
        refine wlk_cond1 (by first | rfl | (simp only [go_sem]; try simp (disch := omega) only [decide_eq_true, decide_eq_false])) ?_
        refine wlk_sreg fun KY hKY => ?_
        simp only [go_sem, c_mates_Right_r14]
        refine hKY _ ?_
        refine wlk_ret ?_
        repeat (first | refine hr14 _ ?_ | refine hr13 _ ?_ | refine hr12 _ ?_ | refine hr11 _ ?_ | refine hr10 _ ?_ | refine hr9 _ ?_ | refine hr8 _ ?_ | refine hr4 _ ?_ | refine hr3 _ ?_ | refine hr2 _ ?_ | refine hr1 _ ?_)
        simp only [go_sem]
        rw [all_no hv2 hok]
  have hdz : decide ((v : Int) < (N : Int)) = false := decide_eq_false (by omega)
  refine wlk_sreg fun KY hKY => ?_
  simp only [go_sem, c_mates_Right_r11, hdz]
  refine hKY _ ?_
  refine wlk_seq fun X15 hn15 he15 hr15 => ?_
  refine wlk_cond0 (by first | rfl | (simp only [go_sem]; try simp (disch := omega) only [decide_eq_true, decide_eq_false])) ?_
  refine wlk_exit ?_
  repeat (first | refine hn15 _ ?_ | refine he15 _ _ ?_ | refine he11 _ _ ?_ | refine hn10 _ ?_ | refine he10 _ ?_ | refine hf10 _ _ (by decide) ?_ | refine hn9 _ ?_ | refine he9 _ _ ?_ | refine hn8 _ ?_ | refine he8 _ _ ?_ | refine he4 _ _ ?_ | refine hn3 _ ?_ | refine he3 _ ?_ | refine hf3 _ _ (by decide) ?_ | refine hn2 _ ?_ | refine he2 _ _ ?_ | refine hn1 _ ?_ | refine he1 _ _ ?_)
  obtain rfl : v = N := by omega
  refine wlk_sreg fun KY hKY => ?_
  simp only [go_sem, c_mates_Right_r16]
  refine hKY _ ?_
  refine wlk_ret ?_
  repeat (first | refine hr15 _ ?_ | refine hr11 _ ?_ | refine hr10 _ ?_ | refine hr9 _ ?_ | refine hr8 _ ?_ | refine hr4 _ ?_ | refine hr3 _ ?_ | refine hr2 _ ?_ | refine hr1 _ ?_)
  simp only [go_sem]
  rw [show ((List.range v).all fun v => mOk es m v) = true from List.all_eq_true.2 fun u hu => hz u (List.mem_range.1 hu)]
end Go.Proofs.Ytkjppnofgmpeeaa

namespace Go.Ga.Gl
open Go Go.Ga
structure Fc (n : Nat) (E : Nat → Nat → Prop) (mt : Nat → Int) (D A : Nat → Bool) (bs : Nat → Nat) : Prop where
  m : Mf n E mt
  c : Cert n E mt D A bs
  d : ∀ v, D v = true → ∃ mt', Mf n E mt' ∧ fre n mt' ≤ fre n mt ∧ mt' v = -1
  a : ∀ v, A v = true → ∃ w, D w = true ∧ E v w
theorem done_fc {n : Nat} {E : Nat → Nat → Prop} {mt : Nat → Int} {S : FS} (M : Mf n E mt) (I : Inv n E mt S) (L : Lk E S []) : Fc n E mt S.out (odd2 S) S.bs where
  m := M
  c := I.cert M L
  d := fun v hv => miss M I hv
  a := fun v hv => by
    obtain ⟨h1, h2⟩ := odd2_iff.1 hv
    obtain ⟨_, x, k1, k2, k3, k4, k5, k6⟩ := I.od v h1
    exact ⟨S.pr v, k4, k5⟩
theorem Fc.dm {n : Nat} {E : Nat → Nat → Prop} {mt : Nat → Int} {D A : Nat → Bool} {bs : Nat → Nat} (F : Fc n E mt D A bs) (v : Nat) : D v = true ↔ Dm n E v := F.c.dm_iff F.m F.d v
theorem Fc.lab {n : Nat} {E : Nat → Nat → Prop} {mt : Nat → Int} {D A : Nat → Bool} {bs : Nat → Nat} (F : Fc n E mt D A bs) (v : Nat) : glab n E v = if D v = true then 1 else if A v = true then 2 else 0 := by
  unfold glab
  by_cases h : D v = true
  · rw [if_pos h, if_pos ((F.dm v).1 h)]
  · rw [if_neg h, if_neg (fun e => h ((F.dm v).2 e))]
    by_cases h2 : A v = true
    · obtain ⟨w, h3, h4⟩ := F.a v h2
      rw [if_pos h2, if_pos ⟨w, (F.dm w).1 h3, h4⟩]
    · rw [if_neg h2, if_neg]
      rintro ⟨w, h3, h4⟩
      rcases F.c.ed w v ((F.dm w).2 h3) (F.m.es _ _ h4) with h5 | ⟨h5, _⟩
      · exact h2 h5
      · exact h h5
theorem Mf.mono {n : Nat} {E E' : Nat → Nat → Prop} {mt : Nat → Int} (M : Mf n E mt) (h : ∀ v w, E v w → E' v w) (hs : ∀ v w, E' v w → E' w v) (hl : ∀ v w, E' v w → v < n ∧ w < n ∧ v ≠ w) : Mf n E' mt :=
  ⟨M.at_, M.big, M.sy, fun v w e => ⟨(M.ne v w e).1, h _ _ (M.ne v w e).2⟩, hs, hl⟩
theorem Fc.more {n : Nat} {E E' : Nat → Nat → Prop} {mt : Nat → Int} {D A : Nat → Bool} {bs : Nat → Nat} (F : Fc n E mt D A bs) (h : ∀ v w, E v w → E' v w) (hs : ∀ v w, E' v w → E' w v) (hl : ∀ v w, E' v w → v < n ∧ w < n ∧ v ≠ w) (he : ∀ v w, D v = true → E' v w → A w = true ∨ (D w = true ∧ bs w = bs v)) : Fc n E' mt D A bs where
  m := F.m.mono h hs hl
  c := ⟨F.c.dn, F.c.an, he, F.c.db, F.c.fr, F.c.am, F.c.dm, F.c.bb⟩
  d := fun v hv => by
    obtain ⟨mt', h1, h2, h3⟩ := F.d v hv
    exact ⟨mt', h1.mono h hs hl, h2, h3⟩
  a := fun v hv => by
    obtain ⟨w, h1, h2⟩ := F.a v hv
    exact ⟨w, h1, h _ _ h2⟩
def bsd (N : Nat) (a b : Nat → Int) (v : Nat) : Int := if v < N then a v else if 0 ≤ b (v - N) then b (v - N) + N else -1
theorem bsd_lo {N : Nat} {a b : Nat → Int} {v : Nat} (h : v < N) : bsd N a b v = a v := if_pos h
theorem bsd_hi {N : Nat} {a b : Nat → Int} {v : Nat} (h : ¬ v < N) : bsd N a b v = if 0 ≤ b (v - N) then b (v - N) + N else -1 := if_neg h
theorem bsd_at {N : Nat} {a b : Nat → Int} {v w : Nat} (h : ¬ v < N) : bsd N a b v = (w : Int) ↔ N ≤ w ∧ b (v - N) = ((w - N : Nat) : Int) := by
  rw [bsd_hi h]
  split
  · omega
  · omega
theorem num_add (N M : Nat) (p : Nat → Bool) : num (N + M) p = num N p + num M fun v => p (v + N) := by
  induction M with
  | zero => simp [num]
  | succ M ih =>
    unfold num at *
    rw [← Nat.add_assoc, List.range_succ, List.filter_append, List.length_append, ih, List.range_succ, List.filter_append, List.length_append, Nat.add_assoc]
    congr 2
    rw [Nat.add_comm N M]
    cases h : p (M + N) <;> simp [h]
structure Bsd (N M : Nat) (E1 E2 E : Nat → Nat → Prop) : Prop where
  lo : ∀ v w, v < N → (E v w ↔ E1 v w)
  hi : ∀ v w, ¬ v < N → (E v w ↔ N ≤ w ∧ E2 (v - N) (w - N))
theorem Mf.beside {N M : Nat} {E1 E2 E : Nat → Nat → Prop} (B : Bsd N M E1 E2 E) {a b : Nat → Int} (X : Mf N E1 a) (Y : Mf M E2 b) : Mf (N + M) E (bsd N a b) := by
  have lt1 : ∀ v w, E1 v w → w < N := fun v w h => (X.el v w h).2.1
  refine ⟨fun v hv => ?_, fun v hv w h => ?_, fun v w h => ?_, fun v w h => ?_, fun v w h => ?_, fun v w h => ?_⟩
  · by_cases h : v < N
    · rw [bsd_lo h]
      rcases X.at_ v h with h1 | ⟨w, h1, h2⟩
      · exact .inl h1
      · exact .inr ⟨w, h1, by omega⟩
    · rw [bsd_hi h]
      rcases Y.at_ (v - N) (by omega) with h1 | ⟨w, h1, h2⟩
      · rw [h1, if_neg (by omega)]; exact .inl rfl
      · rw [h1, if_pos (by omega)]; exact .inr ⟨w + N, by omega, by omega⟩
  · have hN : ¬ v < N := by omega
    obtain ⟨h1, h2⟩ := (bsd_at hN).1 h
    exact Y.big (v - N) (by omega) _ h2
  · by_cases hN : v < N
    · rw [bsd_lo hN] at h
      have hw := lt1 _ _ (X.ne v w h).2
      rw [bsd_lo hw]; exact X.sy v w h
    · obtain ⟨h1, h2⟩ := (bsd_at hN).1 h
      have := Y.sy _ _ h2
      exact (bsd_at (by omega)).2 ⟨by omega, this⟩
  · by_cases hN : v < N
    · rw [bsd_lo hN] at h
      exact ⟨(X.ne v w h).1, (B.lo v w hN).2 (X.ne v w h).2⟩
    · obtain ⟨h1, h2⟩ := (bsd_at hN).1 h
      obtain ⟨h3, h4⟩ := Y.ne _ _ h2
      exact ⟨by omega, (B.hi v w hN).2 ⟨h1, h4⟩⟩
  · by_cases hN : v < N
    · have h1 := (B.lo v w hN).1 h
      exact (B.lo w v (lt1 _ _ h1)).2 (X.es _ _ h1)
    · obtain ⟨h1, h2⟩ := (B.hi v w hN).1 h
      exact (B.hi w v (by omega)).2 ⟨by omega, Y.es _ _ h2⟩
  · by_cases hN : v < N
    · obtain ⟨k1, k2, k3⟩ := X.el _ _ ((B.lo v w hN).1 h)
      exact ⟨by omega, by omega, k3⟩
    · obtain ⟨h1, h2⟩ := (B.hi v w hN).1 h
      obtain ⟨k1, k2, k3⟩ := Y.el _ _ h2
      exact ⟨by omega, by omega, fun e => k3 (by omega)⟩
theorem fre_beside {N M : Nat} {E2 : Nat → Nat → Prop} {a b : Nat → Int} (Y : Mf M E2 b) : fre (N + M) (bsd N a b) = fre N a + fre M b := by
  unfold fre
  rw [num_add]
  congr 1
  · exact num_congr fun v hv => by unfold isFr; rw [bsd_lo hv]
  · refine num_congr fun v hv => ?_
    unfold isFr
    rw [bsd_hi (by omega), Nat.add_sub_cancel]
    rcases Y.at_ v hv with h | ⟨w, h, _⟩
    · rw [h]; rfl
    · rw [h, if_pos (by omega)]
      exact decide_eq_decide.2 ⟨fun e => by omega, fun e => by omega⟩
def bsB (N : Nat) (a b : Nat → Bool) (v : Nat) : Bool := if v < N then a v else b (v - N)
theorem bsB_lo {N : Nat} {a b : Nat → Bool} {v : Nat} (h : v < N) : bsB N a b v = a v := if_pos h
theorem bsB_hi {N : Nat} {a b : Nat → Bool} {v : Nat} (h : ¬ v < N) : bsB N a b v = b (v - N) := if_neg h
def bsN (N : Nat) (a b : Nat → Nat) (v : Nat) : Nat := if v < N then a v else b (v - N) + N
theorem bsN_lo {N : Nat} {a b : Nat → Nat} {v : Nat} (h : v < N) : bsN N a b v = a v := if_pos h
theorem bsN_hi {N : Nat} {a b : Nat → Nat} {v : Nat} (h : ¬ v < N) : bsN N a b v = b (v - N) + N := if_neg h
theorem Fc.beside {N M : Nat} {E1 E2 E : Nat → Nat → Prop} (B : Bsd N M E1 E2 E) {a b : Nat → Int} {D1 A1 D2 A2 : Nat → Bool} {b1 b2 : Nat → Nat} (X : Fc N E1 a D1 A1 b1) (Y : Fc M E2 b D2 A2 b2) : Fc (N + M) E (bsd N a b) (bsB N D1 D2) (bsB N A1 A2) (bsN N b1 b2) where
  m := X.m.beside B Y.m
  c := {
    dn := fun v h => by
      by_cases hN : v < N
      · omega
      · rw [bsB_hi hN] at h; have := Y.c.dn _ h; omega
    an := fun v h => by
      by_cases hN : v < N
      · rw [bsB_lo hN] at h ⊢; exact ⟨by omega, (X.c.an v h).2⟩
      · rw [bsB_hi hN] at h ⊢; have := Y.c.an _ h; exact ⟨by omega, this.2⟩
    ed := fun v w h hE => by
      by_cases hN : v < N
      · rw [bsB_lo hN] at h
        have h1 := (B.lo v w hN).1 hE
        have hw := (X.m.el _ _ h1).2.1
        rw [bsB_lo hw, bsB_lo hw, bsN_lo hw, bsN_lo hN]
        exact X.c.ed v w h h1
      · rw [bsB_hi hN] at h
        obtain ⟨h1, h2⟩ := (B.hi v w hN).1 hE
        rw [bsB_hi (by omega), bsB_hi (by omega), bsN_hi (by omega), bsN_hi hN]
        rcases Y.c.ed _ _ h h2 with h3 | ⟨h3, h4⟩
        · exact .inl h3
        · exact .inr ⟨h3, by omega⟩
    db := fun v h => by
      by_cases hN : v < N
      · rw [bsB_lo hN] at h
        obtain ⟨h1, h2⟩ := X.c.db v h
        have hb := X.c.dn _ h1
        rw [bsN_lo hN, bsB_lo hb, bsN_lo hb]
        exact ⟨h1, h2⟩
      · rw [bsB_hi hN] at h
        obtain ⟨h1, h2⟩ := Y.c.db _ h
        rw [bsN_hi hN, bsB_hi (by omega), bsN_hi (by omega), Nat.add_sub_cancel, h2]
        exact ⟨h1, rfl⟩
    fr := fun v hv h => by
      by_cases hN : v < N
      · rw [bsd_lo hN] at h
        rw [bsB_lo hN, bsN_lo hN]
        exact X.c.fr v hN h
      · rw [bsd_hi hN] at h
        rcases Y.m.at_ (v - N) (by omega) with k | ⟨w, k, _⟩
        · obtain ⟨h1, h2⟩ := Y.c.fr _ (by omega) k
          rw [bsB_hi hN, bsN_hi hN]
          exact ⟨h1, by omega⟩
        · rw [k, if_pos (by omega)] at h; omega
    am := fun v h => by
      by_cases hN : v < N
      · rw [bsB_lo hN] at h
        obtain ⟨x, h1, h2, h3⟩ := X.c.am v h
        have hx := X.c.dn _ h2
        exact ⟨x, by rw [bsd_lo hN]; exact h1, by rw [bsB_lo hx]; exact h2, by rw [bsN_lo hx]; exact h3⟩
      · rw [bsB_hi hN] at h
        obtain ⟨x, h1, h2, h3⟩ := Y.c.am _ h
        exact ⟨x + N, (bsd_at hN).2 ⟨by omega, by rw [Nat.add_sub_cancel]; exact h1⟩, by rw [bsB_hi (by omega), Nat.add_sub_cancel]; exact h2, by rw [bsN_hi (by omega), Nat.add_sub_cancel, h3]⟩
    dm := fun v h hb => by
      by_cases hN : v < N
      · rw [bsB_lo hN] at h
        rw [bsN_lo hN] at hb
        obtain ⟨w, h1, h2, h3⟩ := X.c.dm v h hb
        have hw := X.c.dn _ h2
        exact ⟨w, by rw [bsd_lo hN]; exact h1, by rw [bsB_lo hw]; exact h2, by rw [bsN_lo hw, bsN_lo hN]; exact h3⟩
      · rw [bsB_hi hN] at h
        rw [bsN_hi hN] at hb
        obtain ⟨w, h1, h2, h3⟩ := Y.c.dm _ h (by omega)
        exact ⟨w + N, (bsd_at hN).2 ⟨by omega, by rw [Nat.add_sub_cancel]; exact h1⟩, by rw [bsB_hi (by omega), Nat.add_sub_cancel]; exact h2, by rw [bsN_hi (by omega), bsN_hi hN, Nat.add_sub_cancel, h3]⟩
    bb := fun v w h hb hm => by
      by_cases hN : v < N
      · rw [bsB_lo hN] at h
        rw [bsN_lo hN] at hb
        rw [bsd_lo hN] at hm
        have h1 := X.c.bb v w h hb hm
        rw [bsB_lo (X.c.an w h1).1]; exact h1
      · rw [bsB_hi hN] at h
        rw [bsN_hi hN] at hb
        obtain ⟨h1, h2⟩ := (bsd_at hN).1 hm
        rw [bsB_hi (by omega)]
        exact Y.c.bb _ _ h (by omega) h2 }
  d := fun v h => by
    have e0 := fre_beside (N := N) (a := a) Y.m
    by_cases hN : v < N
    · rw [bsB_lo hN] at h
      obtain ⟨mt', h1, h2, h3⟩ := X.d v h
      have e1 := fre_beside (N := N) (a := mt') Y.m
      exact ⟨bsd N mt' b, h1.beside B Y.m, by omega, by rw [bsd_lo hN]; exact h3⟩
    · rw [bsB_hi hN] at h
      obtain ⟨mt', h1, h2, h3⟩ := Y.d _ h
      have e1 := fre_beside (N := N) (a := a) h1
      exact ⟨bsd N a mt', X.m.beside B h1, by omega, by rw [bsd_hi hN, h3]; rfl⟩
  a := fun v h => by
    by_cases hN : v < N
    · rw [bsB_lo hN] at h
      obtain ⟨w, h1, h2⟩ := X.a v h
      have hw := (X.m.el _ _ h2).2.1
      exact ⟨w, by rw [bsB_lo hw]; exact h1, (B.lo v w hN).2 h2⟩
    · rw [bsB_hi hN] at h
      obtain ⟨w, h1, h2⟩ := Y.a _ h
      exact ⟨w + N, by rw [bsB_hi (by omega), Nat.add_sub_cancel]; exact h1, (B.hi _ _ hN).2 ⟨by omega, by rw [Nat.add_sub_cancel]; exact h2⟩⟩
end Go.Ga.Gl

namespace Go.Ga.Gl
open Go Go.Ga
noncomputable def prt (n : Nat) (E : Nat → Nat → Prop) (x : Nat) : List Nat := (List.range n).filter fun v => decide (glab n E v = x)
theorem prt_mem {n : Nat} {E : Nat → Nat → Prop} {x v : Nat} : v ∈ prt n E x ↔ v < n ∧ glab n E v = x := by
  unfold prt; rw [List.mem_filter, List.mem_range, decide_eq_true_iff]
theorem filter_add (N M : Nat) (p : Nat → Bool) : (List.range (N + M)).filter p = (List.range N).filter p ++ ((List.range M).filter fun v => p (v + N)).map (· + N) := by
  induction M with
  | zero => simp
  | succ M ih =>
    rw [← Nat.add_assoc, List.range_succ, List.filter_append, ih, List.range_succ, List.filter_append, List.map_append, List.append_assoc]
    congr 2
    rw [Nat.add_comm N M]
    cases h : p (M + N) <;> simp [h]
theorem prt_beside {N M : Nat} {E1 E2 E : Nat → Nat → Prop} (B : Bsd N M E1 E2 E) {a b : Nat → Int} {D1 A1 D2 A2 : Nat → Bool} {b1 b2 : Nat → Nat} (X : Fc N E1 a D1 A1 b1) (Y : Fc M E2 b D2 A2 b2) (x : Nat) : prt (N + M) E x = prt N E1 x ++ (prt M E2 x).map (· + N) := by
  have Z := X.beside B Y
  unfold prt
  rw [filter_add]
  congr 1
  · refine List.filter_congr fun v hv => ?_
    have hv := List.mem_range.1 hv
    rw [Z.lab v, X.lab v, bsB_lo hv, bsB_lo hv]
  · congr 1
    refine List.filter_congr fun v hv => ?_
    rw [Z.lab (v + N), Y.lab v, bsB_hi (by omega), bsB_hi (by omega), Nat.add_sub_cancel]
theorem bsd_adj {N M : Nat} {es hs : Es} (g : GR N es) : Bsd N M (adj es) (adj hs) (adj (besideE N es hs)) where
  lo := fun v w hv => by
    rw [adj_beside]
    constructor
    · rintro (h | h)
      · exact h
      · obtain ⟨c, d, e1, e2, _⟩ := adj_shift.1 h
        omega
    · exact .inl
  hi := fun v w hv => by
    rw [adj_beside]
    constructor
    · rintro (h | h)
      · have := (g.mf.2 _ _ h).1; omega
      · obtain ⟨c, d, rfl, rfl, h2⟩ := adj_shift.1 h
        exact ⟨by omega, by rw [Nat.add_sub_cancel, Nat.add_sub_cancel]; exact h2⟩
    · rintro ⟨h1, h2⟩
      exact .inr (adj_shift.2 ⟨v - N, w - N, by omega, by omega, h2⟩)
end Go.Ga.Gl
set_option maxRecDepth 100000
set_option maxHeartbeats 4000000
namespace Go.Proofs.Ytkjppnofgmpeeaa
open Go Go.Ga Go.Ga.Gl
noncomputable def glabs (N : Nat) (es : Es) : List Int := (List.range N).map fun v => (glab N (adj es) v : Int)
theorem labs_glabs {N : Nat} {es : Es} {m : List Int} {S : FS} (M : Mf N (adj es) (mf m)) (I : Inv N (adj es) (mf m) S) (L : Lk (adj es) S []) : labs N S = glabs N es := by
  apply List.map_congr_left
  intro v _
  have := done_lab M I L v
  unfold fLb
  rw [← this]
  split <;> rfl
theorem glabs_sel (N : Nat) (es : Es) (x : Nat) : ((List.range (glabs N es).length).filter fun v => decide ((glabs N es).getD v 0 = (x : Int))) = prt N (adj es) x := by
  have hl : (glabs N es).length = N := by simp [glabs]
  rw [hl]
  refine List.filter_congr fun v hv => ?_
  have hv := List.mem_range.1 hv
  have : (glabs N es).getD v 0 = (glab N (adj es) v : Int) := by simp [glabs, hv]
  rw [this]
  exact decide_eq_decide.2 ⟨fun h => by omega, fun h => by omega⟩
theorem mOk_mf {N : Nat} {es : Es} (g : GR N es) {m : List Int} (M : Mf N (adj es) (mf m)) (hml : m.length = N) : ((List.range N).all fun v => mOk es m v) = true := by
  rw [List.all_eq_true]
  intro v hv
  have hv := List.mem_range.1 hv
  unfold mOk
  rw [mf_get (by omega)]
  rcases M.at_ v hv with h | ⟨w, h, hw⟩
  · rw [h]; rfl
  · have hs := M.sy v w h
    have hadj := (M.ne v w h).2
    obtain ⟨_, _, hne⟩ := M.el v w hadj
    rw [h, Int.toNat_natCast, mf_get (by omega), hs, decide_eq_true (rfl : (v : Int) = v), Bool.and_true]
    have hmem : turnI (v : Int) (w : Int) ∈ castE es := by
      unfold turnI
      have lt : ∀ a b : Nat, (a, b) ∈ es → a < b := fun a b h => by
        exact (g.ok _ h).1
      rcases hadj with h | h
      · have := lt _ _ h
        rw [if_neg (by omega)]
        exact List.mem_map.2 ⟨(v, w), h, rfl⟩
      · have := lt _ _ h
        rw [if_pos (by omega)]
        exact List.mem_map.2 ⟨(w, v), h, rfl⟩
    rw [decide_eq_true hmem, Bool.or_true]
theorem Lg.no {N : Nat} {E : Nat → Nat → Prop} {mt : Nat → Int} (L : Lg N E mt) {l : List Nat} (A : Aug N E mt l) : False := by
  obtain ⟨M2, hfr, r, hrn, hr1, hr2⟩ := turn_mf L.1 A (mt' := fun u => if u ∈ l then (par l u : Int) else mt u) (fun u hu => if_pos hu) (fun u hu => if_neg hu)
  have h1 := fre_less hrn hr1 hr2 hfr
  have h2 := L.2 _ M2
  omega
theorem path_ok {N : Nat} {es : Es} (g : GR N es) (m : List Int) (hml : m.length = N) (hL : Lg N (adj es) (mf m)) : ACalls Try.prog [] n_single_Path [.agg [.sc (.int .i64 (N : Int)), .imm 2 (twos (castE es))], .imm 1 (ints m)] [] fun r h' => r = .tup [.sc (.slice none 0 0), .own (some 1) (ints (glabs N es)), .sc (.int .i64 0)] ∧ h' = [] := by
  have hN := g.hn
  have hr := rightB_GR g
  have M := hL.1
  have hm := mOk_mf g M hml
  have hS : ACalls Try.prog [] n_single_Search [.imm 1 (rowsI (near N es)), .imm 1 (ints m)] [] fun r h' => h' = [] ∧ ∃ lk : Int, r = .tup [.sc (.slice none 0 0), .own (some 1) (ints (glabs N es)), .sc (.int .i64 lk)] := by
    refine (search_ok (near N es) (near_len N es) hml hN (near_r g) M (near_e es)).mono ?_
    rintro r h' ⟨rfl, lk, ⟨l, hA, rfl⟩ | ⟨S, hI, hLk, rfl⟩⟩
    · exact (Lg.no hL hA).elim
    · exact ⟨rfl, lk, by rw [labs_glabs M hI hLk]⟩
  refine go_single_Path rfl ?_
  unfold c_single_Path v_single_Path
  refine wlk_sreg fun KY hKY => ?_
  simp only [go_sem, c_single_Path_r0]
  refine hKY _ ?_
  refine wlk_seq fun X1 hn1 he1 hr1 => ?_
  refine wlk_blk fun X2 hn2 he2 hf2 hr2 => ?_
  refine wlk_sreg fun KY hKY => ?_
  simp only [go_sem, c_single_Path_r1]
  refine call_view rfl (by simp only [go_sem] <;> rfl) ((right_ok N (castE es)).mono ?_)
  rintro rr hh ⟨rfl, rfl⟩
  refine ⟨rfl, rfl, rfl, ?_⟩
  simp only [go_sem, hr]
  refine hKY _ ?_
  refine wlk_cond0 (by first | rfl | (simp only [go_sem]; try simp (disch := omega) only [decide_eq_true, decide_eq_false])) ?_
  refine wlk_sreg fun KY hKY => ?_
  simp only [go_sem, c_single_Path_r3]
  refine call_view rfl (by simp only [go_sem] <;> rfl) ((mright_yes g m hml).mono ?_)
  rintro rr hh ⟨rfl, rfl⟩
  refine ⟨rfl, rfl, rfl, ?_⟩
  simp only [go_sem, hm]
  refine hKY _ ?_
  refine wlk_cond0 (by first | rfl | (simp only [go_sem]; try simp (disch := omega) only [decide_eq_true, decide_eq_false])) ?_
  refine wlk_skip ?_
  repeat (first | refine hn2 _ ?_ | refine he2 _ ?_ | refine hf2 _ _ (by decide) ?_ | refine hn1 _ ?_ | refine he1 _ _ ?_)
  refine wlk_sreg fun KY hKY => ?_
  simp only [go_sem, c_single_Path_r5]
  apply call_gen [] [] true none rfl
  iterate 8 (first | (simp only [go_sem, watchIn] <;> rfl) | rfl)
  refine (lists_ok g).mono ?_
  rintro _ _ ⟨rfl, rfl⟩
  refine ⟨Nat.le_of_ble_eq_true rfl, (fun _ => by simp only [go_sem, flatH, and_self]), ?_⟩
  simp only [go_sem, callOut, AState.after]
  apply call_gen [] [] true none rfl
  iterate 8 (first | (simp only [go_sem, watchIn] <;> rfl) | rfl)
  refine (hS).mono ?_
  rintro _ _ ⟨rfl, lk, rfl⟩
  refine ⟨Nat.le_of_ble_eq_true rfl, (fun _ => by simp only [go_sem, flatH, and_self]), ?_⟩
  simp only [go_sem, callOut, AState.after]
  refine hKY _ ?_
  refine wlk_sreg fun KY hKY => ?_
  simp only [go_sem, c_single_Path_r6]
  refine hKY _ ?_
  refine wlk_ret ?_
  repeat (first | refine hr2 _ ?_ | refine hr1 _ ?_)
  simp only [go_sem]
end Go.Proofs.Ytkjppnofgmpeeaa
set_option maxRecDepth 100000
set_option maxHeartbeats 4000000
namespace Go.Proofs.Ytkjppnofgmpeeaa
open Go Go.Ga Go.Ga.Gl
def sel (φ : Nat → Bool) (k : Nat) : List Nat := (List.range k).filter φ
theorem sel_len (φ : Nat → Bool) (k : Nat) : (sel φ k).length ≤ k := Nat.le_trans (List.length_filter_le _ _) (by simp)
theorem sel_step (φ : Nat → Bool) (k : Nat) : sel φ (k + 1) = sel φ k ++ if φ k = true then [k] else [] := by
  unfold sel
  rw [List.range_succ, List.filter_append]; congr 1; simp [List.filter_cons]
end Go.Proofs.Ytkjppnofgmpeeaa
set_option maxRecDepth 100000
set_option maxHeartbeats 4000000
namespace Go.Proofs.Ytkjppnofgmpeeaa
open Go Go.Ga Go.Ga.Gl
theorem blabels_ok {N : Nat} {es : Es} (g : GR N es) : ACalls Try.prog [] n_barrier_Labels [.agg [.sc (.int .i64 (N : Int)), .imm 2 (twos (castE es))]] [] fun r h' => ∃ (m : List Int), m.length = N ∧ (∃ D A bs, Fc N (adj es) (mf m) D A bs) ∧ ((N = 0 ∧ r = .tup [.own (some 1) (ints (glabs N es)), .own (some 1) [], .sc (.int .i64 0)] ∧ h' = []) ∨ (0 < N ∧ r = .tup [.own (some 1) (ints (glabs N es)), .sl 0 0 N 1, .sc (.int .i64 0)] ∧ h' = [some (ints m)])) := by
  have hP := fun m hml hL => path_ok g m hml hL
  refine go_barrier_Labels rfl ?_
  unfold c_barrier_Labels v_barrier_Labels
  refine wlk_sreg fun KY hKY => ?_
  simp only [go_sem, c_barrier_Labels_r0]
  refine hKY _ ?_
  refine wlk_sreg fun KY hKY => ?_
  simp only [go_sem, c_barrier_Labels_r1]
  apply call_gen [] [] false none rfl
  iterate 8 (first | (simp only [go_sem, watchIn] <;> rfl) | rfl)
  refine (largest_ok g).mono ?_
  rintro _ _ ⟨m, S, a, b, hml, M, I, L, ⟨h0, rfl, rfl⟩ | ⟨h0, rfl, rfl⟩⟩
  · have hLg := done_lg M I L
    have hm0 : ints m = [] := by
      rw [List.length_eq_zero_iff.1 (hml.trans h0)]; rfl
    have hP1 := hP m hml hLg
    rw [hm0] at hP1
    refine ⟨Nat.le_of_ble_eq_true rfl, (fun hh => by cases hh), ?_⟩
    simp only [go_sem, callOut, AState.after]
    refine hKY _ ?_
    refine wlk_seq fun X1 hn1 he1 hr1 => ?_
    refine wlk_sreg fun KY hKY => ?_
    simp only [go_sem, c_barrier_Labels_r2]
    refine hKY _ ?_
    refine wlk_cond0 (by first | rfl | (simp only [go_sem]; try simp (disch := omega) only [decide_eq_true, decide_eq_false])) ?_
    refine wlk_skip ?_
    repeat (first | refine hn1 _ ?_ | refine he1 _ _ ?_)
    refine wlk_sreg fun KY hKY => ?_
    simp only [go_sem, c_barrier_Labels_r4]
    apply call_gen [] [] true none rfl
    iterate 8 (first | (simp only [go_sem, watchIn] <;> rfl) | rfl)
    refine (hP1).mono ?_
    rintro _ _ ⟨rfl, rfl⟩
    refine ⟨Nat.le_of_ble_eq_true rfl, (fun _ => by simp only [go_sem, flatH, and_self]), ?_⟩
    simp only [go_sem, callOut, AState.after]
    refine hKY _ ?_
    refine wlk_sreg fun KY hKY => ?_
    simp only [go_sem, c_barrier_Labels_r5]
    refine hKY _ ?_
    refine wlk_ret ?_
    repeat (first | refine hr1 _ ?_)
    simp only [go_sem]
    exact ⟨m, hml, ⟨_, _, _, done_fc M I L⟩, .inl h0⟩
  · have hLg := done_lg M I L
    have hP1 := hP m hml hLg
    have htk : List.take N (ints m) = ints m := List.take_of_length_le (by rw [ints_len]; omega)
    refine ⟨Nat.le_of_ble_eq_true rfl, (fun hh => by cases hh), ?_⟩
    simp only [go_sem, callOut, AState.after]
    refine hKY _ ?_
    refine wlk_seq fun X2 hn2 he2 hr2 => ?_
    refine wlk_sreg fun KY hKY => ?_
    simp only [go_sem, c_barrier_Labels_r2]
    refine hKY _ ?_
    refine wlk_cond0 (by first | rfl | (simp only [go_sem]; try simp (disch := omega) only [decide_eq_true, decide_eq_false])) ?_
    refine wlk_skip ?_
    repeat (first | refine hn2 _ ?_ | refine he2 _ _ ?_)
    refine wlk_sreg fun KY hKY => ?_
    simp only [go_sem, c_barrier_Labels_r4]
    refine call_view rfl (by simp only [go_sem, hml, Nat.le_refl, htk] <;> rfl) ((hP1).mono ?_)
    rintro rr hh ⟨rfl, rfl⟩
    refine ⟨?_, ?_, ?_, ?_⟩
    iterate 3 (first | rfl | simp only [go_sem])
    simp only [go_sem]
    refine hKY _ ?_
    refine wlk_sreg fun KY hKY => ?_
    simp only [go_sem, c_barrier_Labels_r5]
    refine hKY _ ?_
    refine wlk_ret ?_
    repeat (first | refine hr2 _ ?_)
    simp only [go_sem]
    exact ⟨m, hml, ⟨_, _, _, done_fc M I L⟩, .inr ⟨h0, rfl⟩⟩
def selZ (l : List Int) (x : Int) : List Nat := sel (fun v => decide (l.getD v 0 = x)) l.length
theorem bsuch_ok (l : List Int) (x : Int) (hl : l.length ≤ 100000) : ACalls Try.prog [] n_barrier_Such [.imm 1 (ints l), .sc (.int .i64 x)] [] fun r h' => r = .own (some 1) (nats (selZ l x)) ∧ h' = [] := by
  refine go_barrier_Such rfl ?_
  unfold c_barrier_Such v_barrier_Such
  refine wlk_sreg fun KY hKY => ?_
  simp only [go_sem, c_barrier_Such_r0]
  refine hKY _ ?_
  refine wlk_sreg fun KY hKY => ?_
  simp only [go_sem, c_barrier_Such_r1]
  refine hKY _ ?_
  refine sem_nil [0, 5] 1 (by simp only [go_sem]) ?_
  simp only [go_sem]
  rw [show AVal.own (some 1) [] = .own (some 1) (nats (sel (fun v => decide (l.getD v 0 = x)) 0)) from rfl]
  refine wlk_seq fun X1 hn1 he1 hr1 => ?_
  refine wlk_sreg fun KY hKY => ?_
  simp only [go_sem, c_barrier_Such_r2, ints_len]
  refine hKY _ ?_
  refine wlk_blk fun X2 hn2 he2 hf2 hr2 => ?_
  try simp only [go_sem]
  refine wlk_lp (α := Nat) [6, 7, 11, 17] (fun k => [(5, .own (some 1) (nats (sel (fun v => decide (l.getD v 0 = x)) k))), (10, .sc (.int .i64 (k : Int)))]) (fun k => []) (fun k q => k ≤ l.length ∧ q = l.length - k) (0) (l.length) rfl (by first | (simp only [go_sem, updAll_cons, updAll_nil]; done) | with_reducible rfl | rfl) (⟨Nat.zero_le _, rfl⟩) ?_
  rintro k q ⟨hk, rfl⟩ X3 hn3 he3 hr3
  simp only [go_sem, updAll_cons, updAll_nil]
  have hsl := sel_len (fun v => decide (l.getD v 0 = x)) k
  have hst := sel_step (fun v => decide (l.getD v 0 = x)) k
  rcases Nat.lt_or_ge k l.length with hk2 | hk2
  · have hdx : decide ((k : Int) < (l.length : Int)) = true := decide_eq_true (by omega)
    have hg : (ints l)[k]? = some (.sc (.int .i64 (l.getD k 0))) := ints_get hk2
    refine wlk_sreg fun KY hKY => ?_
    simp only [go_sem, c_barrier_Such_r3, hdx]
    refine hKY _ ?_
    refine wlk_seq fun X4 hn4 he4 hr4 => ?_
    refine wlk_cond1 (by first | rfl | (simp only [go_sem]; try simp (disch := omega) only [decide_eq_true, decide_eq_false])) ?_
    refine wlk_skip ?_
    repeat (first | refine hn4 _ ?_ | refine he4 _ _ ?_ | refine he3 _ _ ?_ | refine hn2 _ ?_ | refine he2 _ ?_ | refine hf2 _ _ (by decide) ?_ | refine hn1 _ ?_ | refine he1 _ _ ?_)
    refine wlk_seq fun X5 hn5 he5 hr5 => ?_
    refine wlk_blk fun X6 hn6 he6 hf6 hr6 => ?_
    refine wlk_sreg fun KY hKY => ?_
    simp only [go_sem, c_barrier_Such_r4, hg, ints_len, hk2]
    refine hKY _ ?_
    by_cases hx : l.getD k 0 = x
    · have hd : decide (l.getD k 0 = x) = true := decide_eq_true hx
      rw [hd, if_pos rfl] at hst
      refine wlk_sreg fun KY hKY => ?_
      simp only [go_sem, c_barrier_Such_r5, hd]
      refine hKY _ ?_
      refine wlk_cond1 (by first | rfl | (simp only [go_sem]; try simp (disch := omega) only [decide_eq_true, decide_eq_false])) ?_
      refine wlk_reg fun KY hKY => ?_
      simp only [go_sem, c_barrier_Such_r6, nats_snoc, nats_len, ← hst, (show ((sel (fun v => decide (l.getD v 0 = x)) k).length + 1) * 8 ≤ 140737488355328 by omega)]
      refine hKY _ ?_
      repeat (first | refine hn6 _ ?_ | refine he6 _ ?_ | refine hf6 _ _ (by decide) ?_ | refine hn5 _ ?_ | refine he5 _ _ ?_ | refine hn4 _ ?_ | refine he4 _ _ ?_ | refine he3 _ _ ?_ | refine hn2 _ ?_ | refine he2 _ ?_ | refine hf2 _ _ (by decide) ?_ | refine hn1 _ ?_ | refine he1 _ _ ?_)
      refine wlk_reg fun KY hKY => ?_
      simp only [go_sem, c_barrier_Such_r7, incS (show k < 4611686018427387904 by omega)]
      refine hKY _ ?_
      repeat (first | refine hn6 _ ?_ | refine he6 _ ?_ | refine hf6 _ _ (by decide) ?_ | refine hn5 _ ?_ | refine he5 _ _ ?_ | refine hn4 _ ?_ | refine he4 _ _ ?_)
      refine hn3 _ (k + 1) (l.length - (k + 1)) (by omega) (by first | (simp only [go_sem, updAll_cons, updAll_nil]; done) | with_reducible rfl) ?_
      exact ⟨hk2, rfl⟩
    · have hd : decide (l.getD k 0 = x) = false := decide_eq_false hx
      rw [hd, if_neg (by simp), List.append_nil] at hst
      refine wlk_sreg fun KY hKY => ?_
      simp only [go_sem, c_barrier_Such_r5, hd]
      refine hKY _ ?_
      refine wlk_cond0 (by first | rfl | (simp only [go_sem]; try simp (disch := omega) only [decide_eq_true, decide_eq_false])) ?_
      refine wlk_skip ?_
      repeat (first | refine hn6 _ ?_ | refine he6 _ ?_ | refine hf6 _ _ (by decide) ?_ | refine hn5 _ ?_ | refine he5 _ _ ?_ | refine hn4 _ ?_ | refine he4 _ _ ?_ | refine he3 _ _ ?_ | refine hn2 _ ?_ | refine he2 _ ?_ | refine hf2 _ _ (by decide) ?_ | refine hn1 _ ?_ | refine he1 _ _ ?_)
      refine wlk_reg fun KY hKY => ?_
      simp only [go_sem, c_barrier_Such_r7, incS (show k < 4611686018427387904 by omega)]
      refine hKY _ ?_
      repeat (first | refine hn6 _ ?_ | refine he6 _ ?_ | refine hf6 _ _ (by decide) ?_ | refine hn5 _ ?_ | refine he5 _ _ ?_ | refine hn4 _ ?_ | refine he4 _ _ ?_)
      refine hn3 _ (k + 1) (l.length - (k + 1)) (by omega) (by first | (simp only [go_sem, updAll_cons, updAll_nil, hst]; done) | with_reducible rfl) ?_
      exact ⟨hk2, rfl⟩
  have hdx : decide ((k : Int) < (l.length : Int)) = false := decide_eq_false (by omega)
  obtain rfl : k = l.length := by omega
  refine wlk_sreg fun KY hKY => ?_
  simp only [go_sem, c_barrier_Such_r3, hdx]
  refine hKY _ ?_
  refine wlk_seq fun X7 hn7 he7 hr7 => ?_
  refine wlk_cond0 (by first | rfl | (simp only [go_sem]; try simp (disch := omega) only [decide_eq_true, decide_eq_false])) ?_
  refine wlk_exit ?_
  repeat (first | refine hn7 _ ?_ | refine he7 _ _ ?_ | refine he3 _ _ ?_ | refine hn2 _ ?_ | refine he2 _ ?_ | refine hf2 _ _ (by decide) ?_ | refine hn1 _ ?_ | refine he1 _ _ ?_)
  refine wlk_sreg fun KY hKY => ?_
  simp only [go_sem, c_barrier_Such_r8]
  refine hKY _ ?_
  refine wlk_ret ?_
  repeat (first | refine hr7 _ ?_ | refine hr3 _ ?_ | refine hr2 _ ?_ | refine hr1 _ ?_)
  simp only [go_sem]
  rfl
theorem lsuch_ok (l : List Int) (x : Int) (hl : l.length ≤ 100000) : ACalls Try.prog [] n_gallai_labels_such [.imm 1 (ints l), .sc (.int .i64 x)] [] fun r h' => r = .own (some 1) (nats (selZ l x)) ∧ h' = [] := by
  refine go_gallai_labels_such rfl ?_
  unfold c_gallai_labels_such v_gallai_labels_such
  refine wlk_sreg fun KY hKY => ?_
  simp only [go_sem, c_gallai_labels_such_r0]
  refine hKY _ ?_
  refine wlk_sreg fun KY hKY => ?_
  simp only [go_sem, c_gallai_labels_such_r1]
  apply call_gen [] [] false none rfl
  iterate 8 (first | (simp only [go_sem, watchIn] <;> rfl) | rfl)
  refine (bsuch_ok l x hl).mono ?_
  rintro _ _ ⟨rfl, rfl⟩
  refine ⟨Nat.le_of_ble_eq_true rfl, (fun hh => by cases hh), ?_⟩
  simp only [go_sem, callOut, AState.after]
  refine hKY _ ?_
  refine wlk_ret ?_
  simp only [go_sem]
theorem gof_ok {N : Nat} {es : Es} (g : GR N es) : ACalls Try.prog [] n_gallai_Of [.agg [.sc (.int .i64 (N : Int)), .imm 2 (twos (castE es))]] [] fun r h' => r = .tup [.agg [.imm 1 (nats (prt N (adj es) 1)), .imm 1 (nats (prt N (adj es) 2)), .imm 1 (nats (prt N (adj es) 0))], .sc (.int .i64 0)] ∧ (∃ mt D A bs, Fc N (adj es) mt D A bs) ∧ h' = [] := by
  refine ACalls.trim ?_
  have hN := g.hn
  have hl : (glabs N es).length ≤ 100000 := by simp [glabs]; omega
  have h1 := lsuch_ok (glabs N es) (1 : Nat) hl
  have h2 := lsuch_ok (glabs N es) (2 : Nat) hl
  have hC := lsuch_ok (glabs N es) (0 : Nat) hl
  rw [show selZ (glabs N es) (1 : Nat) = prt N (adj es) 1 from glabs_sel N es 1] at h1
  rw [show selZ (glabs N es) (2 : Nat) = prt N (adj es) 2 from glabs_sel N es 2] at h2
  rw [show selZ (glabs N es) (0 : Nat) = prt N (adj es) 0 from glabs_sel N es 0] at hC
  refine go_gallai_Of rfl ?_
  unfold c_gallai_Of v_gallai_Of
  refine wlk_sreg fun KY hKY => ?_
  simp only [go_sem, c_gallai_Of_r0]
  refine hKY _ ?_
  refine wlk_sreg fun KY hKY => ?_
  simp only [go_sem, c_gallai_Of_r1]
  apply call_gen [] [] false none rfl
  iterate 8 (first | (simp only [go_sem, watchIn] <;> rfl) | rfl)
  refine (blabels_ok g).mono ?_
  rintro _ _ ⟨m, hml, ⟨D, A, bs, hF⟩, ⟨h0, rfl, rfl⟩ | ⟨h0, rfl, rfl⟩⟩
  · refine ⟨Nat.le_of_ble_eq_true rfl, (fun hh => by cases hh), ?_⟩
    simp only [go_sem, callOut, AState.after]
    refine hKY _ ?_
    refine wlk_seq fun X1 hn1 he1 hr1 => ?_
    refine wlk_sreg fun KY hKY => ?_
    simp only [go_sem, c_gallai_Of_r2]
    refine hKY _ ?_
    refine wlk_cond0 (by first | rfl | (simp only [go_sem]; try simp (disch := omega) only [decide_eq_true, decide_eq_false])) ?_
    refine wlk_skip ?_
    repeat (first | refine hn1 _ ?_ | refine he1 _ _ ?_)
    refine sem_freeze [0, 4] (by simp only [go_sem]; rfl) ?_
    simp only [go_sem]
    refine wlk_sreg fun KY hKY => ?_
    simp only [go_sem, c_gallai_Of_r4]
    refine hKY _ ?_
    refine wlk_sreg fun KY hKY => ?_
    simp only [go_sem, c_gallai_Of_r5]
    apply call_gen [] [] false none rfl
    iterate 8 (first | (simp only [go_sem, watchIn] <;> rfl) | rfl)
    refine (h1).mono ?_
    rintro _ _ ⟨rfl, rfl⟩
    refine ⟨Nat.le_of_ble_eq_true rfl, (fun hh => by cases hh), ?_⟩
    simp only [go_sem, callOut, AState.after]
    apply call_gen [] [] false none rfl
    iterate 8 (first | (simp only [go_sem, watchIn] <;> rfl) | rfl)
    refine (h2).mono ?_
    rintro _ _ ⟨rfl, rfl⟩
    refine ⟨Nat.le_of_ble_eq_true rfl, (fun hh => by cases hh), ?_⟩
    simp only [go_sem, callOut, AState.after]
    apply call_gen [] [] false none rfl
    iterate 8 (first | (simp only [go_sem, watchIn] <;> rfl) | rfl)
    refine (hC).mono ?_
    rintro _ _ ⟨rfl, rfl⟩
    refine ⟨Nat.le_of_ble_eq_true rfl, (fun hh => by cases hh), ?_⟩
    simp only [go_sem, callOut, AState.after]
    refine hKY _ ?_
    refine sem_freeze [0, 2, 0] (by simp only [go_sem]; rfl) ?_
    simp only [go_sem]
    refine sem_freeze [0, 2, 1] (by simp only [go_sem]; rfl) ?_
    simp only [go_sem]
    refine sem_freeze [0, 2, 2] (by simp only [go_sem]; rfl) ?_
    simp only [go_sem]
    refine wlk_ret ?_
    repeat (first | refine hr1 _ ?_)
    simp only [go_sem]
    exact ⟨_, _, _, _, hF⟩
  · refine ⟨Nat.le_of_ble_eq_true rfl, (fun hh => by cases hh), ?_⟩
    simp only [go_sem, callOut, AState.after]
    refine hKY _ ?_
    refine wlk_seq fun X2 hn2 he2 hr2 => ?_
    refine wlk_sreg fun KY hKY => ?_
    simp only [go_sem, c_gallai_Of_r2]
    refine hKY _ ?_
    refine wlk_cond0 (by first | rfl | (simp only [go_sem]; try simp (disch := omega) only [decide_eq_true, decide_eq_false])) ?_
    refine wlk_skip ?_
    repeat (first | refine hn2 _ ?_ | refine he2 _ _ ?_)
    refine sem_freeze [0, 4] (by simp only [go_sem]; rfl) ?_
    simp only [go_sem]
    refine wlk_sreg fun KY hKY => ?_
    simp only [go_sem, c_gallai_Of_r4]
    refine hKY _ ?_
    refine wlk_sreg fun KY hKY => ?_
    simp only [go_sem, c_gallai_Of_r5]
    apply call_gen [] [] false none rfl
    iterate 8 (first | (simp only [go_sem, watchIn] <;> rfl) | rfl)
    refine (h1).mono ?_
    rintro _ _ ⟨rfl, rfl⟩
    refine ⟨Nat.le_of_ble_eq_true rfl, (fun hh => by cases hh), ?_⟩
    simp only [go_sem, callOut, AState.after]
    apply call_gen [] [] false none rfl
    iterate 8 (first | (simp only [go_sem, watchIn] <;> rfl) | rfl)
    refine (h2).mono ?_
    rintro _ _ ⟨rfl, rfl⟩
    refine ⟨Nat.le_of_ble_eq_true rfl, (fun hh => by cases hh), ?_⟩
    simp only [go_sem, callOut, AState.after]
    apply call_gen [] [] false none rfl
    iterate 8 (first | (simp only [go_sem, watchIn] <;> rfl) | rfl)
    refine (hC).mono ?_
    rintro _ _ ⟨rfl, rfl⟩
    refine ⟨Nat.le_of_ble_eq_true rfl, (fun hh => by cases hh), ?_⟩
    simp only [go_sem, callOut, AState.after]
    refine hKY _ ?_
    refine sem_freeze [0, 2, 0] (by simp only [go_sem]; rfl) ?_
    simp only [go_sem]
    refine sem_freeze [0, 2, 1] (by simp only [go_sem]; rfl) ?_
    simp only [go_sem]
    refine sem_freeze [0, 2, 2] (by simp only [go_sem]; rfl) ?_
    simp only [go_sem]
    refine wlk_ret ?_
    repeat (first | refine hr2 _ ?_)
    simp only [go_sem]
    exact ⟨_, _, _, _, hF⟩
end Go.Proofs.Ytkjppnofgmpeeaa
set_option maxRecDepth 100000
set_option maxHeartbeats 8000000
namespace Go.Proofs.Ytkjppnofgmpeeaa
open Go Go.Ga Go.Ga.Gl
theorem shift_snoc {N : Nat} {hs : Es} {k a b : Nat} (h : hs[k]? = some (a, b)) : shiftE N (hs.take (k + 1)) = shiftE N (hs.take k) ++ [(a + N, b + N)] := by
  rw [List.take_add_one, h]; simp [shiftE]
theorem beside_ok {N M : Nat} {es hs : Es} (g : GR N es) (h : GR M hs) : ACalls Try.prog [] n_garlandplay_Beside [.agg [.sc (.int .i64 (N : Int)), .imm 2 (twos (castE es))], .agg [.sc (.int .i64 (M : Int)), .imm 2 (twos (castE hs))]] [] fun r h' => r = .agg [.sc (.int .i64 ((N + M : Nat) : Int)), .imm 2 (twos (castE (besideE N es hs)))] ∧ h' = [] := by
  have g1 := g.hn
  have g2 := g.hm
  have h1 := h.hn
  have h2 := h.hm
  have w0 : IntKind.i64.wrap ((N : Int) + (M : Int)) = ((N + M : Nat) : Int) := by rw [IntWalk.i64_in _ (by omega)]; omega
  have b1 : es.length * 2 * 16 ≤ 140737488355328 := by omega
  refine go_garlandplay_Beside rfl ?_
  unfold c_garlandplay_Beside v_garlandplay_Beside
  refine wlk_sreg fun KY hKY => ?_
  simp only [go_sem, c_garlandplay_Beside_r0]
  refine hKY _ ?_
  refine wlk_sdraw fun KY hKY => ?_
  simp only [go_sem, c_garlandplay_Beside_r1, w0, b1, castE_len, twos_cellOk]
  refine (fun H => by refine ⟨⟨hKY _ ?_, hKY _ ?_⟩, hKY _ ?_⟩ <;> (simp only [go_sem]; exact H)) ?_
  refine wlk_seq fun X1 hn1 he1 hr1 => ?_
  refine wlk_sreg fun KY hKY => ?_
  simp only [go_sem, c_garlandplay_Beside_r2]
  refine hKY _ ?_
  simp only [go_sem]
  rw [show castE es = castE (es ++ shiftE N (hs.take 0)) by simp [shiftE]]
  refine wlk_blk fun X2 hn2 he2 hf2 hr2 => ?_
  try simp only [go_sem]
  refine wlk_lp (α := Nat) [20] (fun k => [(5, .own none [.sc (.int .i64 ((N + M : Nat) : Int)), .own (some 2) (twos (castE (es ++ shiftE N (hs.take k))))]), (6, .sc (.int .i64 (k : Int)))]) (fun k => []) (fun k q => k ≤ hs.length ∧ q = hs.length - k) (0) (hs.length) rfl (by first | (simp only [go_sem, updAll_cons, updAll_nil]; done) | with_reducible rfl | rfl) (⟨by omega, rfl⟩) ?_
  rintro k q ⟨hk, rfl⟩ X3 hn3 he3 hr3
  simp only [go_sem, updAll_cons, updAll_nil]
  refine wlk_seq fun X4 hn4 he4 hr4 => ?_
  refine wlk_sreg fun KY hKY => ?_
  simp only [go_sem, c_garlandplay_Beside_r3, castE_len]
  refine hKY _ ?_
  by_cases hk2 : k < hs.length
  · refine wlk_cond1 (by first | rfl | (simp only [go_sem]; try simp (disch := omega) only [decide_eq_true, decide_eq_false])) ?_
    refine wlk_skip ?_
    repeat (first | refine hn4 _ ?_ | refine he4 _ _ ?_ | refine he3 _ _ ?_ | refine hn2 _ ?_ | refine he2 _ ?_ | refine hf2 _ _ (by decide) ?_ | refine hn1 _ ?_ | refine he1 _ _ ?_)
    refine wlk_seq fun X5 hn5 he5 hr5 => ?_
    refine wlk_blk fun X6 hn6 he6 hf6 hr6 => ?_
    have hx : hs[k]? = some hs[k] := List.getElem?_eq_getElem hk2
    have hy := h.ok hs[k] (List.getElem_mem hk2)
    generalize hs[k] = x at hx hy
    obtain ⟨a, b⟩ := x
    simp only at hy
    have hx' := castE_get hx
    have k1 : k * 2 + 1 < hs.length * 2 := by omega
    have k2 : k * 2 < hs.length * 2 := by omega
    have wa : IntKind.i64.wrap ((a : Int) + (N : Int)) = ((a + N : Nat) : Int) := by rw [IntWalk.i64_in _ (by omega)]; omega
    have wb : IntKind.i64.wrap ((b : Int) + (N : Int)) = ((b + N : Nat) : Int) := by rw [IntWalk.i64_in _ (by omega)]; omega
    have hsn : twos (castE (es ++ shiftE N (hs.take k))) ++ [.sc (.int .i64 ((a + N : Nat) : Int)), .sc (.int .i64 ((b + N : Nat) : Int))] = twos (castE (es ++ shiftE N (hs.take (k + 1)))) := by
      rw [shift_snoc hx, ← List.append_assoc, castE_append (es ++ shiftE N (hs.take k)), twos_append]; rfl
    have hl : ((es ++ shiftE N (hs.take k)).length * 2 + 2) * 16 ≤ 140737488355328 := by simp [shiftE]; omega
    refine wlk_draw fun KY hKY => ?_
    simp only [go_sem, c_garlandplay_Beside_r4, castE_len, hk2, two_get0 hx', two_get1 hx', wa, wb, k1, k2, hsn, hl]
    refine hKY _ ?_
    repeat (first | refine hn6 _ ?_ | refine he6 _ ?_ | refine hf6 _ _ (by decide) ?_ | refine hn5 _ ?_ | refine he5 _ _ ?_ | refine hn4 _ ?_ | refine he4 _ _ ?_ | refine he3 _ _ ?_ | refine hn2 _ ?_ | refine he2 _ ?_ | refine hf2 _ _ (by decide) ?_ | refine hn1 _ ?_ | refine he1 _ _ ?_)
    refine wlk_reg fun KY hKY => ?_
    simp only [go_sem, c_garlandplay_Beside_r5, inc k (by omega)]
    refine hKY _ ?_
    repeat (first | refine hn6 _ ?_ | refine he6 _ ?_ | refine hf6 _ _ (by decide) ?_ | refine hn5 _ ?_ | refine he5 _ _ ?_ | refine hn4 _ ?_ | refine he4 _ _ ?_)
    refine hn3 _ (k + 1) (hs.length - (k + 1)) (by omega) (by first | (simp only [go_sem, updAll_cons, updAll_nil]; done) | with_reducible rfl | rfl) ?_
    exact ⟨hk2, rfl⟩
  · refine wlk_cond0 (by first | rfl | (simp only [go_sem]; try simp (disch := omega) only [decide_eq_true, decide_eq_false])) ?_
    refine wlk_exit ?_
    repeat (first | refine hn4 _ ?_ | refine he4 _ _ ?_ | refine he3 _ _ ?_ | refine hn2 _ ?_ | refine he2 _ ?_ | refine hf2 _ _ (by decide) ?_ | refine hn1 _ ?_ | refine he1 _ _ ?_)
    obtain rfl : k = hs.length := by omega
    rw [List.take_length]
    refine sem_freeze [0, 5, 1] (by simp only [go_sem]; rfl) ?_
    simp only [go_sem]
    refine wlk_sreg fun KY hKY => ?_
    simp only [go_sem, c_garlandplay_Beside_r6]
    refine hKY _ ?_
    refine wlk_ret ?_
    repeat (first | refine hr4 _ ?_ | refine hr3 _ ?_ | refine hr2 _ ?_ | refine hr1 _ ?_)
    simp only [go_sem]
    rfl
theorem shift_ok (l : List Nat) (N : Nat) (hN : N ≤ 4096) (hb : l.length ≤ 1000000) (hl : ∀ v ∈ l, v ≤ 1000000) : ACalls Try.prog [] n_garlandplay_Shift [.imm 1 (nats l), .sc (.int .i64 (N : Int))] [] fun r h' => r = .own (some 1) (nats (l.map (· + N))) ∧ h' = [] := by
  refine go_garlandplay_Shift rfl ?_
  unfold c_garlandplay_Shift v_garlandplay_Shift
  refine wlk_sreg fun KY hKY => ?_
  simp only [go_sem, c_garlandplay_Shift_r0]
  refine hKY _ ?_
  refine wlk_sreg fun KY hKY => ?_
  simp only [go_sem, c_garlandplay_Shift_r1]
  refine hKY _ ?_
  simp only [go_sem]
  refine sem_nil [0, 5] 1 (by simp only [go_sem]) ?_
  refine wlk_seq fun X1 hn1 he1 hr1 => ?_
  refine wlk_sreg fun KY hKY => ?_
  simp only [go_sem, c_garlandplay_Shift_r2]
  refine hKY _ ?_
  refine wlk_blk fun X2 hn2 he2 hf2 hr2 => ?_
  try simp only [go_sem]
  refine wlk_lp (α := Nat) [10] (fun k => [(5, .own (some 1) (nats ((l.take k).map (· + N)))), (6, .sc (.int .i64 (k : Int)))]) (fun k => []) (fun k q => k ≤ l.length ∧ q = l.length - k) (0) (l.length) rfl (by first | (simp only [go_sem, updAll_cons, updAll_nil]; done) | with_reducible rfl | rfl) (⟨by omega, rfl⟩) ?_
  rintro k q ⟨hk, rfl⟩ X3 hn3 he3 hr3
  simp only [go_sem, updAll_cons, updAll_nil]
  refine wlk_seq fun X4 hn4 he4 hr4 => ?_
  refine wlk_sreg fun KY hKY => ?_
  simp only [go_sem, c_garlandplay_Shift_r3]
  refine hKY _ ?_
  by_cases hk2 : k < l.length
  · refine wlk_cond1 (by first | rfl | (simp only [go_sem]; try simp (disch := omega) only [decide_eq_true, decide_eq_false])) ?_
    refine wlk_skip ?_
    repeat (first | refine hn4 _ ?_ | refine he4 _ _ ?_ | refine he3 _ _ ?_ | refine hn2 _ ?_ | refine he2 _ ?_ | refine hf2 _ _ (by decide) ?_ | refine hn1 _ ?_ | refine he1 _ _ ?_)
    refine wlk_seq fun X5 hn5 he5 hr5 => ?_
    refine wlk_blk fun X6 hn6 he6 hf6 hr6 => ?_
    have hx : l[k]? = some l[k] := List.getElem?_eq_getElem hk2
    have hv := hl l[k] (List.getElem_mem hk2)
    generalize l[k] = v at hx hv
    have hxn : (nats l)[k]? = some (.sc (.int .i64 (v : Int))) := by simp [nats, hx]
    have w : IntKind.i64.wrap ((v : Int) + (N : Int)) = ((v + N : Nat) : Int) := by rw [IntWalk.i64_in _ (by omega)]; omega
    have hsn : (l.take k).map (· + N) ++ [v + N] = (l.take (k + 1)).map (· + N) := by rw [List.take_add_one, hx]; simp
    have hby : ((l.take k).length + 1) * 8 ≤ 140737488355328 := by simp; omega
    refine wlk_reg fun KY hKY => ?_
    simp only [go_sem, c_garlandplay_Shift_r4, hxn, hk2, w, nats_snoc, hsn, hby]
    refine hKY _ ?_
    repeat (first | refine hn6 _ ?_ | refine he6 _ ?_ | refine hf6 _ _ (by decide) ?_ | refine hn5 _ ?_ | refine he5 _ _ ?_ | refine hn4 _ ?_ | refine he4 _ _ ?_ | refine he3 _ _ ?_ | refine hn2 _ ?_ | refine he2 _ ?_ | refine hf2 _ _ (by decide) ?_ | refine hn1 _ ?_ | refine he1 _ _ ?_)
    refine wlk_reg fun KY hKY => ?_
    simp only [go_sem, c_garlandplay_Shift_r5, inc k (by omega)]
    refine hKY _ ?_
    repeat (first | refine hn6 _ ?_ | refine he6 _ ?_ | refine hf6 _ _ (by decide) ?_ | refine hn5 _ ?_ | refine he5 _ _ ?_ | refine hn4 _ ?_ | refine he4 _ _ ?_)
    refine hn3 _ (k + 1) (l.length - (k + 1)) (by omega) (by first | (simp only [go_sem, updAll_cons, updAll_nil]; done) | with_reducible rfl | rfl) ?_
    exact ⟨hk2, rfl⟩
  · refine wlk_cond0 (by first | rfl | (simp only [go_sem]; try simp (disch := omega) only [decide_eq_true, decide_eq_false])) ?_
    refine wlk_exit ?_
    repeat (first | refine hn4 _ ?_ | refine he4 _ _ ?_ | refine he3 _ _ ?_ | refine hn2 _ ?_ | refine he2 _ ?_ | refine hf2 _ _ (by decide) ?_ | refine hn1 _ ?_ | refine he1 _ _ ?_)
    obtain rfl : k = l.length := by omega
    rw [List.take_length]
    refine wlk_sreg fun KY hKY => ?_
    simp only [go_sem, c_garlandplay_Shift_r6]
    refine hKY _ ?_
    refine wlk_ret ?_
    repeat (first | refine hr4 _ ?_ | refine hr3 _ ?_ | refine hr2 _ ?_ | refine hr1 _ ?_)
    simp only [go_sem]
end Go.Proofs.Ytkjppnofgmpeeaa
set_option maxRecDepth 100000
set_option maxHeartbeats 4000000
namespace Go.Proofs.Ytkjppnofgmpeeaa
open Go Go.Ga Go.Ga.Gl
theorem htriple_ok (d1 a1 c1 d2 a2 c2 : List Nat) (h1 : d1.length ≤ 1000000000) (h2 : a1.length ≤ 1000000000) (h3 : c1.length ≤ 1000000000) :
    ACalls Try.prog [] n_garlandhelp_Triple [.agg [.imm 1 (nats d1), .imm 1 (nats a1), .imm 1 (nats c1)], .agg [.imm 1 (nats d2), .imm 1 (nats a2), .imm 1 (nats c2)]] [] fun r h' => r = .sc (.bool (decide (d1 = d2) && decide (a1 = a2) && decide (c1 = c2))) ∧ h' = [] := by
  have p1 := plainn_ok d1 d2 h1
  have p2 := plainn_ok a1 a2 h2
  have p3 := plainn_ok c1 c2 h3
  generalize decide (d1 = d2) = x at p1 ⊢
  generalize decide (a1 = a2) = y at p2 ⊢
  generalize decide (c1 = c2) = z at p3 ⊢
  refine go_garlandhelp_Triple rfl ?_
  unfold c_garlandhelp_Triple v_garlandhelp_Triple
  refine wlk_sreg fun KY hKY => ?_
  simp only [go_sem, c_garlandhelp_Triple_r0]
  refine hKY _ ?_
  refine wlk_sreg fun KY hKY => ?_
  simp only [go_sem, c_garlandhelp_Triple_r1]
  refine call_view rfl (by simp only [go_sem] <;> rfl) ((p1).mono ?_)
  rintro rr hh ⟨rfl, rfl⟩
  refine ⟨rfl, rfl, rfl, ?_⟩
  simp only [go_sem]
  cases x with
  | false =>
    simp only [go_sem]
    refine hKY _ ?_
    refine wlk_ret ?_
    simp only [go_sem]
  | true =>
    simp only [go_sem]
    refine call_view rfl (by simp only [go_sem] <;> rfl) ((p2).mono ?_)
    rintro rr hh ⟨rfl, rfl⟩
    refine ⟨rfl, rfl, rfl, ?_⟩
    simp only [go_sem]
    cases y with
    | false =>
      simp only [go_sem]
      refine hKY _ ?_
      refine wlk_ret ?_
      simp only [go_sem]
    | true =>
      simp only [go_sem]
      refine call_view rfl (by simp only [go_sem] <;> rfl) ((p3).mono ?_)
      rintro rr hh ⟨rfl, rfl⟩
      refine ⟨rfl, rfl, rfl, ?_⟩
      simp only [go_sem]
      refine hKY _ ?_
      refine wlk_ret ?_
      simp only [go_sem]
def starE : Es := [(0, 1), (0, 2)]
theorem star_gr : GR 3 starE := GR_rightB (by decide)
def starM (x : Nat) (u : Nat) : Int := if u = 0 then (x : Int) else if u = x then 0 else -1
theorem star_m {x : Nat} (hx : x = 1 ∨ x = 2) : Mf 3 (adj starE) (starM x) := by
  have M0 : Mf 3 (adj starE) (fun _ => -1) := star_gr.none fun _ => rfl
  refine M0.add (v := 0) (w := x) rfl rfl ?_ (if_pos rfl) ?_ fun u h1 h2 => ?_
  · rcases hx with rfl | rfl <;> simp [adj, starE]
  · show (if x = 0 then (x : Int) else if x = x then 0 else -1) = ((0 : Nat) : Int)
    rw [if_neg (by omega), if_pos rfl]; rfl
  · show (if u = 0 then (x : Int) else if u = x then 0 else -1) = -1
    rw [if_neg h1, if_neg h2]
theorem star_fc : Fc 3 (adj starE) (starM 1) (fun v => decide (v = 1 ∨ v = 2)) (fun v => decide (v = 0)) (fun v => v) where
  m := star_m (.inl rfl)
  c := {
    dn := fun v h => by have := of_decide_eq_true h; omega
    an := fun v h => by
      have := of_decide_eq_true h
      subst this
      exact ⟨by omega, by decide⟩
    ed := fun v w h hE => by
      have hv := of_decide_eq_true h
      refine .inl (decide_eq_true ?_)
      simp [adj, starE] at hE
      omega
    db := fun v h => ⟨h, rfl⟩
    fr := fun v hv h => by
      refine ⟨decide_eq_true ?_, rfl⟩
      unfold starM at h
      by_cases h0 : v = 0
      · rw [if_pos h0] at h; omega
      · omega
    am := fun a h => by
      have := of_decide_eq_true h
      subst this
      exact ⟨1, rfl, by decide, rfl⟩
    dm := fun v h hb => absurd rfl hb
    bb := fun b m h hb hm => by
      have hv := of_decide_eq_true h
      refine decide_eq_true ?_
      unfold starM at hm
      rcases hv with rfl | rfl
      · simp at hm; omega
      · simp at hm }
  d := fun v h => by
    have hv := of_decide_eq_true h
    rcases hv with rfl | rfl
    · exact ⟨starM 2, star_m (.inr rfl), by decide, rfl⟩
    · exact ⟨starM 1, star_m (.inl rfl), by decide, rfl⟩
  a := fun v h => by
    have := of_decide_eq_true h
    subst this
    exact ⟨1, by decide, by simp [adj, starE]⟩
theorem star_prt (k : Nat) : prt 3 (adj starE) k = (List.range 3).filter fun v => decide ((if decide (v = 1 ∨ v = 2) = true then 1 else if decide (v = 0) = true then 2 else 0) = k) :=
  List.filter_congr fun v _ => by rw [star_fc.lab v]
theorem awake14_ok : ACalls Try.prog [] n_garlandlaw14_awake [] [] fun r h' => r = .sc (.bool true) ∧ h' = [] := by
  have hG := gof_ok star_gr
  rw [star_prt 1, star_prt 2, star_prt 0, show ((List.range 3).filter fun v => decide ((if decide (v = 1 ∨ v = 2) = true then 1 else if decide (v = 0) = true then 2 else 0) = 1)) = [1, 2] by decide, show ((List.range 3).filter fun v => decide ((if decide (v = 1 ∨ v = 2) = true then 1 else if decide (v = 0) = true then 2 else 0) = 2)) = [0] by decide, show ((List.range 3).filter fun v => decide ((if decide (v = 1 ∨ v = 2) = true then 1 else if decide (v = 0) = true then 2 else 0) = 0)) = [] by decide] at hG
  have hT := (htriple_ok [1, 2] [0] [] [1, 2] [0] [] (by simp) (by simp) (by simp)).sees (.cons (.refl _) (.cons ((SeesL.cons (.refl _) (.cons (.refl _) (.cons (.imm 1) .nil))).agg) .nil))
  rw [show ((3 : Nat) : Int) = 3 from rfl, show twos (castE starE) = [.sc (.int .i64 0), .sc (.int .i64 1), .sc (.int .i64 0), .sc (.int .i64 2)] from rfl] at hG
  rw [show nats [1, 2] = [.sc (.int .i64 1), .sc (.int .i64 2)] from rfl, show nats [0] = [.sc (.int .i64 0)] from rfl] at hG hT
  refine go_garlandlaw14_awake rfl ?_
  unfold c_garlandlaw14_awake v_garlandlaw14_awake
  refine wlk_sreg fun KY hKY => ?_
  simp only [go_sem, c_garlandlaw14_awake_r0]
  refine hKY _ ?_
  refine wlk_sreg fun KY hKY => ?_
  simp only [go_sem, c_garlandlaw14_awake_r1]
  have hG2 : ACalls Try.prog [] n_gallai_Of [.agg [.sc (.int .i64 3), .own (some 2) [.sc (.int .i64 0), .sc (.int .i64 1), .sc (.int .i64 0), .sc (.int .i64 2)]]] [] _ := ACalls.fzArgs hG
  apply call_gen [.mv] [] false none rfl
  iterate 8 (first | (simp only [go_sem, watchIn] <;> rfl) | rfl)
  refine (hG2).mono ?_
  rintro _ _ ⟨rfl, _, rfl⟩
  refine ⟨Nat.le_of_ble_eq_true rfl, (fun hh => by cases hh), ?_⟩
  simp only [go_sem, callOut, AState.after]
  refine hKY _ ?_
  refine wlk_sreg fun KY hKY => ?_
  simp only [go_sem, c_garlandlaw14_awake_r2]
  refine call_view rfl (by simp only [go_sem] <;> rfl) ((hT).mono ?_)
  rintro rr hh ⟨rfl, rfl⟩
  refine ⟨rfl, rfl, rfl, ?_⟩
  simp only [go_sem, (show decide (([1, 2] : List Nat) = [1, 2]) = true from rfl), (show decide (([0] : List Nat) = [0]) = true from rfl), (show decide (([] : List Nat) = []) = true from rfl)]
  refine hKY _ ?_
  refine wlk_ret ?_
  simp only [go_sem]
end Go.Proofs.Ytkjppnofgmpeeaa
set_option maxRecDepth 100000
set_option maxHeartbeats 4000000
namespace Go.Proofs.Ytkjppnofgmpeeaa
open Go Go.Ga Go.Ga.Gl
theorem prt_len (N : Nat) (E : Nat → Nat → Prop) (k : Nat) : (prt N E k).length ≤ N := by
  unfold prt
  exact Nat.le_trans (List.length_filter_le _ _) (by simp)
end Go.Proofs.Ytkjppnofgmpeeaa
set_option maxRecDepth 100000
set_option maxHeartbeats 4000000
namespace Go.Proofs.Ytkjppnofgmpeeaa
open Go Go.Ga Go.Ga.Gl
theorem gbeside_ok (n m : Int) (ends more : List Int) (he : ends.length ≤ 1000000000) (hmo : more.length ≤ 1000000000) : ACalls Try.prog [] n_garlandlaw14_GallaiBeside [.sc (.int .i64 n), .sc (.int .i64 m), .imm 1 (ints ends), .imm 1 (ints more)] [] fun r h' => r = .sc (.bool true) ∧ h' = [] := by
  refine go_garlandlaw14_GallaiBeside rfl ?_
  unfold c_garlandlaw14_GallaiBeside v_garlandlaw14_GallaiBeside
  refine wlk_sreg fun KY hKY => ?_
  simp only [go_sem, c_garlandlaw14_GallaiBeside_r0]
  refine hKY _ ?_
  refine wlk_sreg fun KY hKY => ?_
  simp only [go_sem, c_garlandlaw14_GallaiBeside_r1]
  apply call_gen [] [] false none rfl
  iterate 8 (first | (simp only [go_sem, watchIn] <;> rfl) | rfl)
  refine (small_ok n ends 24 40 (by omega) (by omega) (by omega)).mono ?_
  rintro _ _ ⟨⟨N, es, g, hN, hm, rfl⟩, rfl⟩
  refine ⟨Nat.le_of_ble_eq_true rfl, (fun hh => by cases hh), ?_⟩
  simp only [go_sem, callOut, AState.after]
  apply call_gen [] [] false none rfl
  iterate 8 (first | (simp only [go_sem, watchIn] <;> rfl) | rfl)
  refine (small_ok m more 24 40 (by omega) (by omega) (by omega)).mono ?_
  rintro _ _ ⟨⟨M, hs, h, hM, hm2, rfl⟩, rfl⟩
  refine ⟨Nat.le_of_ble_eq_true rfl, (fun hh => by cases hh), ?_⟩
  simp only [go_sem, callOut, AState.after]
  refine hKY _ ?_
  refine wlk_sreg fun KY hKY => ?_
  simp only [go_sem, c_garlandlaw14_GallaiBeside_r2]
  apply call_gen [] [] false none rfl
  iterate 8 (first | (simp only [go_sem, watchIn] <;> rfl) | rfl)
  refine (gof_ok g).mono ?_
  rintro _ _ ⟨rfl, ⟨mt1, D1, A1, bs1, F1⟩, rfl⟩
  refine ⟨Nat.le_of_ble_eq_true rfl, (fun hh => by cases hh), ?_⟩
  simp only [go_sem, callOut, AState.after]
  refine hKY _ ?_
  refine wlk_sreg fun KY hKY => ?_
  simp only [go_sem, c_garlandlaw14_GallaiBeside_r3]
  apply call_gen [] [] false none rfl
  iterate 8 (first | (simp only [go_sem, watchIn] <;> rfl) | rfl)
  refine (gof_ok h).mono ?_
  rintro _ _ ⟨rfl, ⟨mt2, D2, A2, bs2, F2⟩, rfl⟩
  refine ⟨Nat.le_of_ble_eq_true rfl, (fun hh => by cases hh), ?_⟩
  simp only [go_sem, callOut, AState.after]
  refine hKY _ ?_
  have gb := GR.beside g h (by omega) (by omega)
  have hG := gof_ok gb
  have B := bsd_adj (M := M) (hs := hs) g
  rw [prt_beside B F1 F2 1, prt_beside B F1 F2 2, prt_beside B F1 F2 0] at hG
  refine wlk_sreg fun KY hKY => ?_
  simp only [go_sem, c_garlandlaw14_GallaiBeside_r4]
  apply call_gen [] [] false none rfl
  iterate 8 (first | (simp only [go_sem, watchIn] <;> rfl) | rfl)
  refine (beside_ok g h).mono ?_
  rintro _ _ ⟨rfl, rfl⟩
  refine ⟨Nat.le_of_ble_eq_true rfl, (fun hh => by cases hh), ?_⟩
  simp only [go_sem, callOut, AState.after]
  apply call_gen [] [] false none rfl
  iterate 8 (first | (simp only [go_sem, watchIn] <;> rfl) | rfl)
  refine (hG).mono ?_
  rintro _ _ ⟨rfl, _, rfl⟩
  refine ⟨Nat.le_of_ble_eq_true rfl, (fun hh => by cases hh), ?_⟩
  simp only [go_sem, callOut, AState.after]
  refine hKY _ ?_
  have l11 := prt_len N (adj es) 1
  have l12 := prt_len N (adj es) 2
  have l10 := prt_len N (adj es) 0
  have l21 := prt_len M (adj hs) 1
  have l22 := prt_len M (adj hs) 2
  have l20 := prt_len M (adj hs) 0
  have sh := fun k => shift_ok (prt M (adj hs) k) N (by omega) (by have := prt_len M (adj hs) k; omega) (fun v hv => by have := (prt_mem.1 hv).1; omega)
  have s1 := sh 1
  have s2 := sh 2
  have s0 := sh 0
  have n1 : (prt N (adj es) 1).length * 8 ≤ 140737488355328 := by omega
  have n2 : (prt N (adj es) 2).length * 8 ≤ 140737488355328 := by omega
  have n0 : (prt N (adj es) 0).length * 8 ≤ 140737488355328 := by omega
  have m1 : ((prt N (adj es) 1).length + (prt M (adj hs) 1).length) * 8 ≤ 140737488355328 := by omega
  have m2 : ((prt N (adj es) 2).length + (prt M (adj hs) 2).length) * 8 ≤ 140737488355328 := by omega
  have m0 : ((prt N (adj es) 0).length + (prt M (adj hs) 0).length) * 8 ≤ 140737488355328 := by omega
  have hT := htriple_ok (prt N (adj es) 1 ++ (prt M (adj hs) 1).map (· + N)) (prt N (adj es) 2 ++ (prt M (adj hs) 2).map (· + N)) (prt N (adj es) 0 ++ (prt M (adj hs) 0).map (· + N)) (prt N (adj es) 1 ++ (prt M (adj hs) 1).map (· + N)) (prt N (adj es) 2 ++ (prt M (adj hs) 2).map (· + N)) (prt N (adj es) 0 ++ (prt M (adj hs) 0).map (· + N)) (by simp; omega) (by simp; omega) (by simp; omega)
  rw [decide_eq_true rfl, decide_eq_true rfl, decide_eq_true rfl] at hT
  generalize prt N (adj es) 1 = d1 at *
  generalize prt N (adj es) 2 = a1 at *
  generalize prt N (adj es) 0 = c1 at *
  generalize prt M (adj hs) 1 = d2 at *
  generalize prt M (adj hs) 2 = a2 at *
  generalize prt M (adj hs) 0 = c2 at *
  refine wlk_sdraw fun KY hKY => ?_
  apply meet
  · intro H
    simp only [go_sem, c_garlandlaw14_GallaiBeside_r5, nats_len, n1, n2, n0]
    refine ⟨?_, ?_⟩
    · refine ⟨?_, ?_⟩
      · refine call_view rfl (by simp only [go_sem] <;> rfl) ((s1).mono ?_)
        rintro rr hh ⟨rfl, rfl⟩
        refine ⟨?_, ?_, ?_, ?_⟩
        iterate 3 (first | rfl | simp only [go_sem])
        simp only [go_sem, nats_app, nats_len, List.length_map, m1, n1, n2, n0, m2, m0]
        refine ⟨?_, ?_⟩
        · refine ⟨?_, ?_⟩
          · refine ⟨?_, ?_⟩
            · refine call_view rfl (by simp only [go_sem] <;> rfl) ((s2).mono ?_)
              rintro rr hh ⟨rfl, rfl⟩
              refine ⟨?_, ?_, ?_, ?_⟩
              iterate 3 (first | rfl | simp only [go_sem])
              simp only [go_sem, nats_app, nats_len, List.length_map, m1, n1, n2, n0, m2, m0]
              refine ⟨?_, ?_⟩
              · refine ⟨?_, ?_⟩
                · refine ⟨?_, ?_⟩
                  · refine call_view rfl (by simp only [go_sem] <;> rfl) ((s0).mono ?_)
                    rintro rr hh ⟨rfl, rfl⟩
                    refine ⟨?_, ?_, ?_, ?_⟩
                    iterate 3 (first | rfl | simp only [go_sem])
                    simp only [go_sem, nats_app, nats_len, List.length_map, m1, n1, n2, n0, m2, m0]
                    refine ⟨?_, ?_⟩
                    · refine ⟨?_, ?_⟩
                      · refine hKY _ ?_
                        simp only [go_sem]
                        exact H
                      · refine hKY _ ?_
                        simp only [go_sem]
                        exact H
                    · refine hKY _ ?_
                      simp only [go_sem]
                      exact H
                  · refine call_view rfl (by simp only [go_sem] <;> rfl) ((s0).mono ?_)
                    rintro rr hh ⟨rfl, rfl⟩
                    refine ⟨?_, ?_, ?_, ?_⟩
                    iterate 3 (first | rfl | simp only [go_sem])
                    simp only [go_sem, nats_app, nats_len, List.length_map, m1, n1, n2, n0, m2, m0]
                    refine hKY _ ?_
                    simp only [go_sem]
                    exact H
                · refine call_view rfl (by simp only [go_sem] <;> rfl) ((s0).mono ?_)
                  rintro rr hh ⟨rfl, rfl⟩
                  refine ⟨?_, ?_, ?_, ?_⟩
                  iterate 3 (first | rfl | simp only [go_sem])
                  simp only [go_sem, nats_app, nats_len, List.length_map, m1, n1, n2, n0, m2, m0]
                  refine hKY _ ?_
                  simp only [go_sem]
                  exact H
              · refine call_view rfl (by simp only [go_sem] <;> rfl) ((s0).mono ?_)
                rintro rr hh ⟨rfl, rfl⟩
                refine ⟨?_, ?_, ?_, ?_⟩
                iterate 3 (first | rfl | simp only [go_sem])
                simp only [go_sem, nats_app, nats_len, List.length_map, m1, n1, n2, n0, m2, m0]
                refine hKY _ ?_
                simp only [go_sem]
                exact H
            · refine call_view rfl (by simp only [go_sem] <;> rfl) ((s2).mono ?_)
              rintro rr hh ⟨rfl, rfl⟩
              refine ⟨?_, ?_, ?_, ?_⟩
              iterate 3 (first | rfl | simp only [go_sem])
              simp only [go_sem, nats_app, nats_len, List.length_map, m1, n1, n2, n0, m2, m0]
              refine call_view rfl (by simp only [go_sem] <;> rfl) ((s0).mono ?_)
              rintro rr hh ⟨rfl, rfl⟩
              refine ⟨?_, ?_, ?_, ?_⟩
              iterate 3 (first | rfl | simp only [go_sem])
              simp only [go_sem, nats_app, nats_len, List.length_map, m1, n1, n2, n0, m2, m0]
              refine hKY _ ?_
              simp only [go_sem]
              exact H
          · refine call_view rfl (by simp only [go_sem] <;> rfl) ((s2).mono ?_)
            rintro rr hh ⟨rfl, rfl⟩
            refine ⟨?_, ?_, ?_, ?_⟩
            iterate 3 (first | rfl | simp only [go_sem])
            simp only [go_sem, nats_app, nats_len, List.length_map, m1, n1, n2, n0, m2, m0]
            refine call_view rfl (by simp only [go_sem] <;> rfl) ((s0).mono ?_)
            rintro rr hh ⟨rfl, rfl⟩
            refine ⟨?_, ?_, ?_, ?_⟩
            iterate 3 (first | rfl | simp only [go_sem])
            simp only [go_sem, nats_app, nats_len, List.length_map, m1, n1, n2, n0, m2, m0]
            refine hKY _ ?_
            simp only [go_sem]
            exact H
        · refine call_view rfl (by simp only [go_sem] <;> rfl) ((s2).mono ?_)
          rintro rr hh ⟨rfl, rfl⟩
          refine ⟨?_, ?_, ?_, ?_⟩
          iterate 3 (first | rfl | simp only [go_sem])
          simp only [go_sem, nats_app, nats_len, List.length_map, m1, n1, n2, n0, m2, m0]
          refine call_view rfl (by simp only [go_sem] <;> rfl) ((s0).mono ?_)
          rintro rr hh ⟨rfl, rfl⟩
          refine ⟨?_, ?_, ?_, ?_⟩
          iterate 3 (first | rfl | simp only [go_sem])
          simp only [go_sem, nats_app, nats_len, List.length_map, m1, n1, n2, n0, m2, m0]
          refine hKY _ ?_
          simp only [go_sem]
          exact H
      · refine call_view rfl (by simp only [go_sem] <;> rfl) ((s1).mono ?_)
        rintro rr hh ⟨rfl, rfl⟩
        refine ⟨?_, ?_, ?_, ?_⟩
        iterate 3 (first | rfl | simp only [go_sem])
        simp only [go_sem, nats_app, nats_len, List.length_map, m1, n1, n2, n0, m2, m0]
        refine call_view rfl (by simp only [go_sem] <;> rfl) ((s2).mono ?_)
        rintro rr hh ⟨rfl, rfl⟩
        refine ⟨?_, ?_, ?_, ?_⟩
        iterate 3 (first | rfl | simp only [go_sem])
        simp only [go_sem, nats_app, nats_len, List.length_map, m1, n1, n2, n0, m2, m0]
        refine call_view rfl (by simp only [go_sem] <;> rfl) ((s0).mono ?_)
        rintro rr hh ⟨rfl, rfl⟩
        refine ⟨?_, ?_, ?_, ?_⟩
        iterate 3 (first | rfl | simp only [go_sem])
        simp only [go_sem, nats_app, nats_len, List.length_map, m1, n1, n2, n0, m2, m0]
        refine hKY _ ?_
        simp only [go_sem]
        exact H
    · refine call_view rfl (by simp only [go_sem] <;> rfl) ((s1).mono ?_)
      rintro rr hh ⟨rfl, rfl⟩
      refine ⟨?_, ?_, ?_, ?_⟩
      iterate 3 (first | rfl | simp only [go_sem])
      simp only [go_sem, nats_app, nats_len, List.length_map, m1, n1, n2, n0, m2, m0]
      refine call_view rfl (by simp only [go_sem] <;> rfl) ((s2).mono ?_)
      rintro rr hh ⟨rfl, rfl⟩
      refine ⟨?_, ?_, ?_, ?_⟩
      iterate 3 (first | rfl | simp only [go_sem])
      simp only [go_sem, nats_app, nats_len, List.length_map, m1, n1, n2, n0, m2, m0]
      refine call_view rfl (by simp only [go_sem] <;> rfl) ((s0).mono ?_)
      rintro rr hh ⟨rfl, rfl⟩
      refine ⟨?_, ?_, ?_, ?_⟩
      iterate 3 (first | rfl | simp only [go_sem])
      simp only [go_sem, nats_app, nats_len, List.length_map, m1, n1, n2, n0, m2, m0]
      refine hKY _ ?_
      simp only [go_sem]
      exact H
  refine sem_freeze [0, 17, 0] (by simp only [go_sem]; rfl) ?_
  simp only [go_sem]
  refine sem_freeze [0, 17, 1] (by simp only [go_sem]; rfl) ?_
  simp only [go_sem]
  refine sem_freeze [0, 17, 2] (by simp only [go_sem]; rfl) ?_
  simp only [go_sem]
  refine wlk_sreg fun KY hKY => ?_
  simp only [go_sem, c_garlandlaw14_GallaiBeside_r6]
  refine call_view rfl (by simp only [go_sem] <;> rfl) ((awake14_ok).mono ?_)
  rintro rr hh ⟨rfl, rfl⟩
  refine ⟨rfl, rfl, rfl, ?_⟩
  simp only [go_sem]
  refine call_view rfl (by simp only [go_sem] <;> rfl) ((hT).mono ?_)
  rintro rr hh ⟨rfl, rfl⟩
  refine ⟨rfl, rfl, rfl, ?_⟩
  simp only [go_sem]
  refine hKY _ ?_
  refine wlk_ret ?_
  simp only [go_sem]
end Go.Proofs.Ytkjppnofgmpeeaa
namespace Go.Proofs.Ytkjppnofgmpeeaa
open Go Go.Ga Go.Ga.Gl
theorem gallaiBeside_all (As : List AVal) (b : Nat) (h : SAs Try.prog Try.f4.params.toList As b) (hb : b ≤ 1048576) : ACalls Try.prog [] 4 As [] fun r _ => r = .sc (.bool true) := by
  rw [Try.params4] at h
  obtain ⟨A1, As1, c1, d1, rfl, rfl, h1, h⟩ := sas_cons h
  obtain ⟨A2, As2, c2, d2, rfl, rfl, h2, h⟩ := sas_cons h
  obtain ⟨A3, As3, c3, d3, rfl, rfl, h3, h⟩ := sas_cons h
  obtain ⟨A4, As4, c4, d4, rfl, rfl, h4, h⟩ := sas_cons h
  obtain rfl := sas_nil h
  obtain ⟨x1, rfl, w1⟩ := sa_int Try.underlying3 h1
  obtain ⟨x2, rfl, w2⟩ := sa_int Try.underlying3 h2
  obtain ⟨x3, rfl, w3, e3⟩ := sa_ints Try.underlying22 Try.underlying3 (by kernel_rfl) h3
  obtain ⟨x4, rfl, w4, e4⟩ := sa_ints Try.underlying22 Try.underlying3 (by kernel_rfl) h4
  exact (gbeside_ok x1 x2 x3 x4 (by omega) (by omega)).mono fun _ _ h => h.1
end Go.Proofs.Ytkjppnofgmpeeaa
namespace Go.Proofs.Ytkjppnofgmpeeaa.gallaiBesideend
open Go Go.Ga Go.ChangeShapes Go.WideShapes Go.ChangeAt Go.RowKit
theorem own : ownKnob Try.prog.godebug = none := by kernel_rfl
mutual
theorem bulk_at {H : Type} : ∀ d : DataW H, Rows.uptoBulk d = bulk d
  | .lit l => by cases l <;> simp [Rows.uptoBulk, bulk]
  | .nil => by simp [Rows.uptoBulk, bulk]
  | .ptr d => by simp [Rows.uptoBulk, bulk, bulk_at d]
  | .slice e s => by simp [Rows.uptoBulk, bulk, bulk_eq e, bulk_eq s]
  | .agg p => by simp [Rows.uptoBulk, bulk, bulk_eq p]
  | .iface _ d => by simp [Rows.uptoBulk, bulk, bulk_at d]
  | .map e => by simp [Rows.uptoBulk, bulk, bulk_es e]
  | .held _ => by simp [Rows.uptoBulk, bulk]
theorem bulk_eq {H : Type} : ∀ l : List (DataW H), Rows.uptoBulkAll l = bulkL l
  | [] => by simp [Rows.uptoBulkAll, bulkL]
  | d :: r => by simp [Rows.uptoBulkAll, bulkL, bulk_at d, bulk_eq r]
theorem bulk_es {H : Type} : ∀ l : List (Lit × DataW H), Rows.uptoBulkEntries l = bulkE l
  | [] => by simp [Rows.uptoBulkEntries, bulkE]
  | d :: r => by simp [Rows.uptoBulkEntries, bulkE, bulk_e d, bulk_es r]
theorem bulk_e {H : Type} : ∀ d : Lit × DataW H, Rows.uptoBulkEntry d = bulk1 d
  | (l, d) => by cases l <;> simp [Rows.uptoBulkEntry, bulk1, bulk_at d]
end
set_option maxRecDepth 100000 in
theorem plain : Plain Try.prog [3, 22] := plain_of (by kernel_rfl)
set_option maxRecDepth 100000 in
theorem contract (H : Type) (enc : TypeId × Value → H) (W : World) (base : Nat) (args : Array Value) (ds gs : List (DataW H)) (before : List MemPlace)
    (hval : ∀ (j : Nat) t v, Try.f4.params[j]? = some t → args[j]? = some v → Value.okWide Try.prog W .any base t v)
    (hW : DataW.Whole enc Try.prog Try.f4.params.toList Rows.gallaiBesideSpec.vars false W args.toList ds gs before) (hk : Rows.uptoSmall H (ds ++ gs) = true) :
    Calls Try.prog 4 args W fun e W' => ∃ v, e = .returned v ∧ Rows.gallaiBesideSpec.post enc Try.prog Try.f4 false true false false W args v W' := by
  have hW' := hW
  obtain ⟨p, q, hA, hV, rfl, hfz, hnd⟩ := hW
  obtain ⟨rfl, rfl⟩ := Go.Ga.trodVars_nil hV
  have hb : bulkL (ds ++ []) ≤ 1048576 := by rw [← bulk_eq]; exact of_decide_eq_true hk
  have r0 : DataW.TrodAll enc Try.prog W 0 (fun _ => true) true Try.f4.params.toList args.toList ds p := hA
  rw [Try.params4] at r0
  obtain ⟨v0, vs0, d0, ds0, p0, q0, hv0, rfl, rfl, h0, r1⟩ := trodAll_cons r0
  obtain ⟨v1, vs1, d1, ds1, p1, q1, hv1, rfl, rfl, h1, r2⟩ := trodAll_cons r1
  obtain ⟨v2, vs2, d2, ds2, p2, q2, hv2, rfl, rfl, h2, r3⟩ := trodAll_cons r2
  obtain ⟨v3, vs3, d3, ds3, p3, q3, hv3, rfl, rfl, h3, r4⟩ := trodAll_cons r3
  obtain ⟨rfl, rfl, rfl⟩ := trodAll_nil r4
  exact contract_true plain hval (by rw [Try.params4]; decide) hW' rfl rfl rfl rfl (tb := 4) (by kernel_rfl) Try.underlying4 hb gallaiBeside_all
set_option maxRecDepth 100000 in
theorem lifted (os : Os) (started : os.Started) (H : Type) (enc : TypeId × Value → H) (F : Stop.Interp) :
    ReturnsInHanded {} Try.checked os 4 .any ((Rows.OpenSpec.upto Rows.gallaiBesideSpec).pre6 enc Try.prog Try.f4 Rows.gallaiBesideUptoRow.domain false) (((Rows.OpenSpec.upto Rows.gallaiBesideSpec).at F).post enc Try.prog Try.f4 false true false false) := by
  refine returnsInHanded_of_cond (C := Try.checked) (s := Rows.OpenSpec.upto Rows.gallaiBesideSpec) (k := Rows.uptoSmall) rfl own started (by kernel_rfl) Try.func4
    (OpenSpec.witness (enc := enc) (C := Try.checked) (s := Rows.OpenSpec.upto Rows.gallaiBesideSpec) (k := Rows.uptoSmall) rfl false ⟨#[], #[.int .i64 0, .int .i64 0, .slice none 0 0, .slice none 0 0], []⟩ 8 (by kernel_rfl) (by kernel_rfl) (by kernel_rfl)
      (x := ([.lit (.int .i64 0), .lit (.int .i64 0), .nil, .nil], [], [])) (by kernel_rfl) rfl (by kernel_rfl)) ?_
  intro W base args ds gs before hval hW _ hk _
  exact contract H enc W base args ds gs before hval hW hk
theorem holds : Rows.GallaiBesideUptoSaid :=
  OpenClaim.holds_of_cond 4 Try.f4 rfl rfl rfl rfl rfl rfl rfl ⟨rfl, rfl, rfl, rfl, rfl⟩ rfl rfl rfl rfl rfl (by kernel_rfl) Try.func4 (by kernel_rfl)
    (of_decide_eq_true (by kernel_rfl)) (by unfold Func.isWrapper; first | (rw [if_pos (by decide +kernel)]; kernel_rfl) | (rw [if_neg (by decide +kernel)]; exact ⟨rfl, rfl⟩))
    (fun os started H enc _ F => lifted os started H enc F)
end Go.Proofs.Ytkjppnofgmpeeaa.gallaiBesideend
