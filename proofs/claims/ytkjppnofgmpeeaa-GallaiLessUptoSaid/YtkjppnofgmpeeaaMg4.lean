/- A vertex more or less that is taken out: of D a largest matching has as many edges as before, of A and C one less; of A taken out what is in D stays in D. -/
import Derived.Test.YtkjppnofgmpeeaaMg3
import Derived.Test.YtkjppnofgmpeeaaMg2
import Derived.Test.YtkjppnofgmpeeaaGdjacgo5
import Derived.WalkKit
import Derived.ProofKit
import Derived.OpenShut
import Derived.JoinedCond
set_option linter.all false
set_option maxRecDepth 100000
set_option maxHeartbeats 4000000
namespace Go.Proofs.Ytkjppnofgmpeeaa
open Go Go.Ga Go.Ga.Gl
theorem sfree_ok {n : Nat} (m : List Int) (hml : m.length = n) {v : Nat} (hv : v < n) :
    ACalls Try.prog [] n_f55 [.agg [.sl 0 0 n 1], .sc (.int .i64 (v : Int))] [some (ints m)] fun r h' => r = .sc (.bool (decide (m.getD v 0 < 0))) ∧ h' = [some (ints m)] := by
  have hg : (ints m)[v]? = some (.sc (.int .i64 (m.getD v 0))) := ints_get (by omega)
  refine go_f55 rfl ?_
  unfold c_f55 v_f55
  refine wlk_sreg fun KY hKY => ?_
  simp only [go_sem, c_f55_r0]
  refine hKY _ ?_
  refine wlk_sreg fun KY hKY => ?_
  simp only [go_sem, c_f55_r1, hg, ints_len, hml, hv, Nat.zero_add]
  refine hKY _ ?_
  refine wlk_ret ?_
  simp only [go_sem]
theorem idxfree_ok {n : Nat} (m : List Int) (hml : m.length = n) (row : List Nat) (hr : ∀ x ∈ row, x < n) (hrl : row.length ≤ 1000000000) :
    ACalls Try.prog [] n_f56 [.imm 1 (nats row), .fn (.func n_f55) [.agg [.sl 0 0 n 1]] []] [some (ints m)] fun r h' => (∃ z : Int, r = .sc (.int .i64 z) ∧ (z = -1 ∨ ∃ (i x : Nat), z = (i : Int) ∧ row[i]? = some x ∧ m.getD x 0 < 0)) ∧ h' = [some (ints m)] := by
  refine go_f56 rfl ?_
  unfold c_f56 v_f56
  refine wlk_sreg fun KY hKY => ?_
  simp only [go_sem, c_f56_r0]
  refine hKY _ ?_
  refine wlk_seq fun X1 hn1 he1 hr1 => ?_
  refine wlk_sreg fun KY hKY => ?_
  simp only [go_sem, c_f56_r1, nats_len]
  refine hKY _ ?_
  refine wlk_blk fun X2 hn2 he2 hf2 hr2 => ?_
  try simp only [go_sem]
  refine wlk_lp (α := Nat) [5, 9, 16] (fun k => [(8, .sc (.int .i64 (k : Int)))]) (fun k => [some (ints m)]) (fun k q => k ≤ row.length ∧ q = row.length - k) (0) (row.length) rfl (by first | (simp only [go_sem, updAll_cons, updAll_nil]; done) | with_reducible rfl | rfl) (⟨Nat.zero_le _, rfl⟩) ?_
  rintro k q ⟨hk, rfl⟩ X3 hn3 he3 hr3
  simp only [go_sem, updAll_cons, updAll_nil]
  rcases Nat.lt_or_ge k row.length with hk2 | hk2
  · have hdx : decide ((k : Int) < (row.length : Int)) = true := decide_eq_true (by omega)
    have hx : row[k]? = some (row[k]) := List.getElem?_eq_getElem hk2
    have hxg : (nats row)[k]? = some (.sc (.int .i64 ((row[k] : Nat) : Int))) := by simp [nats, hx]
    have hxn := hr _ (List.getElem_mem hk2)
    generalize row[k] = x at hx hxg hxn
    have hf := sfree_ok m hml hxn
    refine wlk_sreg fun KY hKY => ?_
    simp only [go_sem, c_f56_r2, hdx]
    refine hKY _ ?_
    refine wlk_seq fun X4 hn4 he4 hr4 => ?_
    refine wlk_cond1 (by first | rfl | (simp only [go_sem]; try simp (disch := omega) only [decide_eq_true, decide_eq_false])) ?_
    refine wlk_skip ?_
    repeat (first | refine hn4 _ ?_ | refine he4 _ _ ?_ | refine he3 _ _ ?_ | refine hn2 _ ?_ | refine he2 _ ?_ | refine hf2 _ _ (by decide) ?_ | refine hn1 _ ?_ | refine he1 _ _ ?_)
    refine wlk_seq fun X5 hn5 he5 hr5 => ?_
    refine wlk_blk fun X6 hn6 he6 hf6 hr6 => ?_
    refine wlk_sreg fun KY hKY => ?_
    simp only [go_sem, c_f56_r3]
    refine hKY _ ?_
    refine wlk_sreg fun KY hKY => ?_
    simp only [go_sem, c_f56_r4, hxg, nats_len, hk2]
    apply call_gen [] [0] false none rfl
    iterate 8 (first | (simp only [go_sem, watchIn] <;> rfl) | rfl)
    refine (hf).mono ?_
    rintro _ _ ⟨rfl, rfl⟩
    refine ⟨Nat.le_of_ble_eq_true rfl, (fun hh => by cases hh), ?_⟩
    simp only [go_sem, callOut, AState.after]
    refine hKY _ ?_
    by_cases hm : m.getD x 0 < 0
    · have hdm : decide (m.getD x 0 < 0) = true := decide_eq_true hm
      simp only [go_sem, hdm]
      refine wlk_cond1 (by first | rfl | (simp only [go_sem]; try simp (disch := omega) only [decide_eq_true, decide_eq_false])) ?_
      refine wlk_sreg fun KY hKY => ?_
      simp only [go_sem, c_f56_r5]
      refine hKY _ ?_
      refine wlk_ret ?_
      repeat (first | refine hr6 _ ?_ | refine hr5 _ ?_ | refine hr4 _ ?_ | refine hr3 _ ?_ | refine hr2 _ ?_ | refine hr1 _ ?_)
      simp only [go_sem]
      exact ⟨_, rfl, .inr ⟨k, x, rfl, hx, hm⟩⟩
    · have hdm : decide (m.getD x 0 < 0) = false := decide_eq_false hm
      simp only [go_sem, hdm]
      refine wlk_cond0 (by first | rfl | (simp only [go_sem]; try simp (disch := omega) only [decide_eq_true, decide_eq_false])) ?_
      refine wlk_skip ?_
      repeat (first | refine hn6 _ ?_ | refine he6 _ ?_ | refine hf6 _ _ (by decide) ?_ | refine hn5 _ ?_ | refine he5 _ _ ?_ | refine hn4 _ ?_ | refine he4 _ _ ?_ | refine he3 _ _ ?_ | refine hn2 _ ?_ | refine he2 _ ?_ | refine hf2 _ _ (by decide) ?_ | refine hn1 _ ?_ | refine he1 _ _ ?_)
      refine wlk_reg fun KY hKY => ?_
      simp only [go_sem, c_f56_r6, incS (show k < 4611686018427387904 by omega)]
      refine hKY _ ?_
      repeat (first | refine hn6 _ ?_ | refine he6 _ ?_ | refine hf6 _ _ (by decide) ?_ | refine hn5 _ ?_ | refine he5 _ _ ?_ | refine hn4 _ ?_ | refine he4 _ _ ?_)
      refine hn3 _ (k + 1) (row.length - (k + 1)) (by omega) (by first | (simp only [go_sem, updAll_cons, updAll_nil]; done) | with_reducible rfl) ?_
      exact ⟨hk2, rfl⟩
  have hdx : decide ((k : Int) < (row.length : Int)) = false := decide_eq_false (by omega)
  refine wlk_sreg fun KY hKY => ?_
  simp only [go_sem, c_f56_r2, hdx]
  refine hKY _ ?_
  refine wlk_seq fun X7 hn7 he7 hr7 => ?_
  refine wlk_cond0 (by first | rfl | (simp only [go_sem]; try simp (disch := omega) only [decide_eq_true, decide_eq_false])) ?_
  refine wlk_exit ?_
  repeat (first | refine hn7 _ ?_ | refine he7 _ _ ?_ | refine he3 _ _ ?_ | refine hn2 _ ?_ | refine he2 _ ?_ | refine hf2 _ _ (by decide) ?_ | refine hn1 _ ?_ | refine he1 _ _ ?_)
  refine wlk_sreg fun KY hKY => ?_
  simp only [go_sem, c_f56_r7]
  refine hKY _ ?_
  refine wlk_ret ?_
  repeat (first | refine hr7 _ ?_ | refine hr3 _ ?_ | refine hr2 _ ?_ | refine hr1 _ ?_)
  simp only [go_sem]
  exact ⟨_, rfl, .inl rfl⟩
theorem none_ok {N : Nat} {es : Es} (g : GR N es) : ACalls Try.prog [] n_f54 [.agg [.sc (.int .i64 (N : Int)), .imm 2 (twos (castE es))]] [] fun r h' => (N = 0 ∧ r = .own (some 1) [] ∧ h' = []) ∨ (0 < N ∧ r = .sl 0 0 N 1 ∧ h' = [some (ints (List.replicate N (-1)))]) := by
 have hN := g.hn
 have hr := rightB_GR g
 have hR := repeat_ok (-1) N hN
 rw [show ints [(-1 : Int)] = [.sc (.int .i64 (-1))] from rfl] at hR
 refine go_f54 rfl ?_
 unfold c_f54 v_f54
 refine wlk_sreg fun KY hKY => ?_
 simp only [go_sem, c_f54_r0]
 refine hKY _ ?_
 refine wlk_seq fun X1 hn1 he1 hr1 => ?_
 refine wlk_sreg fun KY hKY => ?_
 simp only [go_sem, c_f54_r1]
 refine call_view rfl (by simp only [go_sem] <;> rfl) ((right_ok N (castE es)).mono ?_)
 rintro rr hh ⟨rfl, rfl⟩
 refine ⟨rfl, rfl, rfl, ?_⟩
 simp only [go_sem, hr]
 refine hKY _ ?_
 refine wlk_cond0 (by first | rfl | (simp only [go_sem]; try simp (disch := omega) only [decide_eq_true, decide_eq_false])) ?_
 refine wlk_skip ?_
 repeat (first | refine hn1 _ ?_ | refine he1 _ _ ?_)
 refine wlk_sreg fun KY hKY => ?_
 simp only [go_sem, c_f54_r3]
 apply call_gen [.mv] [] false none rfl
 iterate 8 (first | (simp only [go_sem, watchIn] <;> rfl) | rfl)
 refine (hR).mono ?_
 rintro _ _ (⟨h0, rfl, rfl⟩ | ⟨h0, rfl, rfl⟩)
 · refine ⟨Nat.le_of_ble_eq_true rfl, (fun hh => by cases hh), ?_⟩
   simp only [go_sem, callOut, AState.after]
   refine hKY _ ?_
   refine wlk_ret ?_
   repeat (first | refine hr1 _ ?_)
   simp only [go_sem]
   exact .inl h0
 · refine ⟨Nat.le_of_ble_eq_true rfl, (fun hh => by cases hh), ?_⟩
   simp only [go_sem, callOut, AState.after]
   refine hKY _ ?_
   refine wlk_ret ?_
   repeat (first | refine hr1 _ ?_)
   simp only [go_sem]
   exact .inr h0
theorem mf_set {m : List Int} {v : Nat} (hv : v < m.length) (x : Int) (u : Nat) : mf (m.set v x) u = if u = v then x else mf m u := by
 unfold mf
 by_cases e : u = v
 · subst e; simp [hv]
 · simp [List.getElem?_set, Ne.symm e, e]
theorem mf_rep {N : Nat} (v : Nat) : mf (List.replicate N (-1)) v = -1 := by
 unfold mf
 by_cases h : v < N
 · simp [h]
 · simp [List.getElem?_eq_none (show (List.replicate N (-1 : Int)).length ≤ v by simp; omega)]
theorem gfirst_ok {N : Nat} {es : Es} (g : GR N es) : ACalls Try.prog [] n_f39 [.agg [.sc (.int .i64 (N : Int)), .imm 2 (twos (castE es))]] [] fun r h' => (N = 0 ∧ r = .sc (.slice none 0 0) ∧ h' = []) ∨ (0 < N ∧ ∃ m : List Int, m.length = N ∧ Mf N (adj es) (mf m) ∧ r = .sl 0 0 N 1 ∧ h' = [some (ints m)]) := by
 have hN := g.hn
 have hem := g.hm
 refine go_f39 rfl ?_
 unfold c_f39 v_f39
 refine wlk_sreg fun KY hKY => ?_
 simp only [go_sem, c_f39_r0]
 refine hKY _ ?_
 refine wlk_sreg fun KY hKY => ?_
 simp only [go_sem, c_f39_r1]
 apply call_gen [] [] false none rfl
 iterate 8 (first | (simp only [go_sem, watchIn] <;> rfl) | rfl)
 refine (none_ok g).mono ?_
 rintro _ _ (⟨h0, rfl, rfl⟩ | ⟨h0, rfl, rfl⟩)
 · refine ⟨Nat.le_of_ble_eq_true rfl, (fun hh => by cases hh), ?_⟩
   simp only [go_sem, callOut, AState.after]
   refine hKY _ ?_
   refine wlk_seq fun X1 hn1 he1 hr1 => ?_
   refine wlk_sreg fun KY hKY => ?_
   simp only [go_sem, c_f39_r2]
   refine hKY _ ?_
   refine wlk_cond1 (by first | rfl | (simp only [go_sem]; try simp (disch := omega) only [decide_eq_true, decide_eq_false])) ?_
   refine wlk_sreg fun KY hKY => ?_
   simp only [go_sem, c_f39_r3]
   refine hKY _ ?_
   refine wlk_ret ?_
   repeat (first | refine hr1 _ ?_)
   simp only [go_sem]
   exact .inl h0
 · refine ⟨Nat.le_of_ble_eq_true rfl, (fun hh => by cases hh), ?_⟩
   simp only [go_sem, callOut, AState.after]
   refine hKY _ ?_
   have hd0 : decide ((N : Int) = 0) = false := decide_eq_false (by omega)
   refine wlk_seq fun X2 hn2 he2 hr2 => ?_
   refine wlk_sreg fun KY hKY => ?_
   simp only [go_sem, c_f39_r2, hd0]
   refine hKY _ ?_
   refine wlk_cond0 (by first | rfl | (simp only [go_sem]; try simp (disch := omega) only [decide_eq_true, decide_eq_false])) ?_
   refine wlk_skip ?_
   repeat (first | refine hn2 _ ?_ | refine he2 _ _ ?_)
   refine wlk_sreg fun KY hKY => ?_
   simp only [go_sem, c_f39_r4]
   apply call_gen [] [] true none rfl
   iterate 8 (first | (simp only [go_sem, watchIn] <;> rfl) | rfl)
   refine (lists_ok g).mono ?_
   rintro _ _ ⟨rfl, rfl⟩
   refine ⟨Nat.le_of_ble_eq_true rfl, (fun _ => by simp only [go_sem, flatH, and_self]), ?_⟩
   simp only [go_sem, callOut, AState.after]
   refine hKY _ ?_
   refine sem_freeze [0, 4] (by simp only [go_sem]; rfl) ?_
   simp only [go_sem, rowsO_freeze]
   refine wlk_seq fun X3 hn3 he3 hr3 => ?_
   refine wlk_sreg fun KY hKY => ?_
   simp only [go_sem, c_f39_r5, ints_len, List.length_replicate]
   refine hKY _ ?_
   refine wlk_blk fun X4 hn4 he4 hf4 hr4 => ?_
   try simp only [go_sem]
   refine wlk_lp (α := Nat × List Int) [5, 6, 7, 24, 29, 38] (fun (k, m) => [(23, .sc (.int .i64 (k : Int)))]) (fun (k, m) => [some (ints m)]) (fun (k, m) q => m.length = N ∧ Mf N (adj es) (mf m) ∧ k ≤ N ∧ q = N - k) ((0, List.replicate N (-1))) (N) rfl (by first | (simp only [go_sem, updAll_cons, updAll_nil]; done) | with_reducible rfl | rfl) (⟨by simp, g.none mf_rep, Nat.zero_le _, rfl⟩) ?_
   rintro ⟨k, m⟩ q ⟨hml, M, hk, rfl⟩ X5 hn5 he5 hr5
   simp only [go_sem, updAll_cons, updAll_nil]
   rcases Nat.lt_or_ge k N with hk2 | hk2
   · have hdx : decide ((k : Int) < (N : Int)) = true := decide_eq_true (by omega)
     have hfr := sfree_ok m hml hk2
     refine wlk_sreg fun KY hKY => ?_
     simp only [go_sem, c_f39_r6, hdx]
     refine hKY _ ?_
     refine wlk_seq fun X6 hn6 he6 hr6 => ?_
     refine wlk_cond1 (by first | rfl | (simp only [go_sem]; try simp (disch := omega) only [decide_eq_true, decide_eq_false])) ?_
     refine wlk_skip ?_
     repeat (first | refine hn6 _ ?_ | refine he6 _ _ ?_ | refine he5 _ _ ?_ | refine hn4 _ ?_ | refine he4 _ ?_ | refine hf4 _ _ (by decide) ?_ | refine hn3 _ ?_ | refine he3 _ _ ?_ | refine hn2 _ ?_ | refine he2 _ _ ?_)
     refine wlk_seq fun X7 hn7 he7 hr7 => ?_
     refine wlk_blk fun X8 hn8 he8 hf8 hr8 => ?_
     refine wlk_sreg fun KY hKY => ?_
     simp only [go_sem, c_f39_r7]
     refine hKY _ ?_
     by_cases hmk : m.getD k 0 < 0
     · have hd1 : decide (m.getD k 0 < 0) = true := decide_eq_true hmk
       refine wlk_seq fun X9 hn9 he9 hr9 => ?_
       refine wlk_sreg fun KY hKY => ?_
       simp only [go_sem, c_f39_r8]
       apply call_gen [] [0] false none rfl
       iterate 8 (first | (simp only [go_sem, watchIn] <;> rfl) | rfl)
       refine (hfr).mono ?_
       rintro _ _ ⟨rfl, rfl⟩
       refine ⟨Nat.le_of_ble_eq_true rfl, (fun hh => by cases hh), ?_⟩
       simp only [go_sem, callOut, AState.after, hd1]
       refine hKY _ ?_
       refine wlk_cond0 (by first | rfl | (simp only [go_sem]; try simp (disch := omega) only [decide_eq_true, decide_eq_false])) ?_
       refine wlk_skip ?_
       repeat (first | refine hn9 _ ?_ | refine he9 _ _ ?_ | refine hn8 _ ?_ | refine he8 _ ?_ | refine hf8 _ _ (by decide) ?_ | refine hn7 _ ?_ | refine he7 _ _ ?_ | refine hn6 _ ?_ | refine he6 _ _ ?_ | refine he5 _ _ ?_ | refine hn4 _ ?_ | refine he4 _ ?_ | refine hf4 _ _ (by decide) ?_ | refine hn3 _ ?_ | refine he3 _ _ ?_ | refine hn2 _ ?_ | refine he2 _ _ ?_)
       have hnr := rowsI_get (near_get (es := es) hk2)
       have hidx := idxfree_ok m hml (nearOf es k) (fun x hx => (g.mf.2 _ _ (nearOf_mem.1 hx)).2.1) (Nat.le_trans (nearOf_len g k) (by decide))
       refine wlk_sdraw fun KY hKY => ?_
       simp only [go_sem, c_f39_r9, hnr, near_len, hk2, rowsI_len]
       apply call_gen [] [0] false none rfl
       iterate 8 (first | (simp only [go_sem, watchIn] <;> rfl) | rfl)
       refine (hidx).mono ?_
       rintro _ _ ⟨⟨z, rfl, hz⟩, rfl⟩
       refine ⟨Nat.le_of_ble_eq_true rfl, (fun hh => by cases hh), ?_⟩
       simp only [go_sem, callOut, AState.after]
       refine hKY _ ?_
       have hmk1 : mf m k = -1 := by
        rw [mf_get (by omega)] at hmk
        rcases M.at_ k hk2 with h | ⟨w, h, _⟩
        · exact h
        · omega
       rcases hz with rfl | ⟨i, x, rfl, hix, hmx⟩
       · have hd2 : decide ((0 : Int) ≤ -1) = false := rfl
         refine wlk_sreg fun KY hKY => ?_
         simp only [go_sem, c_f39_r10, hd2]
         refine hKY _ ?_
         refine wlk_cond0 (by first | rfl | (simp only [go_sem]; try simp (disch := omega) only [decide_eq_true, decide_eq_false])) ?_
         refine wlk_skip ?_
         repeat (first | refine hn9 _ ?_ | refine he9 _ _ ?_ | refine hn8 _ ?_ | refine he8 _ ?_ | refine hf8 _ _ (by decide) ?_ | refine hn7 _ ?_ | refine he7 _ _ ?_ | refine hn6 _ ?_ | refine he6 _ _ ?_ | refine he5 _ _ ?_ | refine hn4 _ ?_ | refine he4 _ ?_ | refine hf4 _ _ (by decide) ?_ | refine hn3 _ ?_ | refine he3 _ _ ?_ | refine hn2 _ ?_ | refine he2 _ _ ?_)
         refine wlk_reg fun KY hKY => ?_
         simp only [go_sem, c_f39_r13, incS (show k < 4611686018427387904 by omega)]
         refine hKY _ ?_
         repeat (first | refine hn9 _ ?_ | refine he9 _ _ ?_ | refine hn8 _ ?_ | refine he8 _ ?_ | refine hf8 _ _ (by decide) ?_ | refine hn7 _ ?_ | refine he7 _ _ ?_ | refine hn6 _ ?_ | refine he6 _ _ ?_)
         refine hn5 _ ((k + 1, m)) (N - (k + 1)) (by omega) (by first | (simp only [go_sem, updAll_cons, updAll_nil]; done) | with_reducible rfl) ?_
         exact ⟨hml, M, hk2, rfl⟩
       · have hd2 : decide ((0 : Int) ≤ (i : Int)) = true := decide_eq_true (by omega)
         have hil := (List.getElem?_eq_some_iff.1 hix).1
         have hadj : adj es k x := nearOf_mem.1 (List.mem_iff_getElem?.2 ⟨i, hix⟩)
         have hxN := (g.mf.2 _ _ hadj).2.1
         have hxk := (g.mf.2 _ _ hadj).2.2
         have hgx : (nats (nearOf es k))[i]? = some (.sc (.int .i64 (x : Int))) := by simp [nats, hix]
         have hmx1 : mf m x = -1 := by
          rw [mf_get (by omega)] at hmx
          rcases M.at_ x hxN with h | ⟨w, h, _⟩
          · exact h
          · omega
         have hls : ((m.set k (x : Int)).set x (k : Int)).length = N := by simp [hml]
         have M2 : Mf N (adj es) (mf ((m.set k (x : Int)).set x (k : Int))) := by
          refine M.add hmk1 hmx1 hadj ?_ ?_ fun u h1 h2 => ?_
          · rw [mf_set (by simp; omega), if_neg hxk, mf_set (by omega), if_pos rfl]
          · rw [mf_set (by simp; omega), if_pos rfl]
          · rw [mf_set (by simp; omega), if_neg h2, mf_set (by omega), if_neg h1]
         refine wlk_sreg fun KY hKY => ?_
         simp only [go_sem, c_f39_r10, hd2]
         refine hKY _ ?_
         refine wlk_cond1 (by first | rfl | (simp only [go_sem]; try simp (disch := omega) only [decide_eq_true, decide_eq_false])) ?_
         refine wlk_sreg fun KY hKY => ?_
         simp only [go_sem, c_f39_r11, hnr, near_len, hk2, rowsI_len, hgx, nats_len, hil]
         refine hKY _ ?_
         refine wlk_draw fun KY hKY => ?_
         simp only [go_sem, c_f39_r12, ints_len, ints_set, hml, hk2, hxN, List.length_set, Nat.zero_add, (show ([1, 0] == [0, 3]) = false from rfl), Bool.not_false]
         refine hKY _ ?_
         repeat (first | refine hn9 _ ?_ | refine he9 _ _ ?_ | refine hn8 _ ?_ | refine he8 _ ?_ | refine hf8 _ _ (by decide) ?_ | refine hn7 _ ?_ | refine he7 _ _ ?_ | refine hn6 _ ?_ | refine he6 _ _ ?_ | refine he5 _ _ ?_ | refine hn4 _ ?_ | refine he4 _ ?_ | refine hf4 _ _ (by decide) ?_ | refine hn3 _ ?_ | refine he3 _ _ ?_ | refine hn2 _ ?_ | refine he2 _ _ ?_)
         refine wlk_reg fun KY hKY => ?_
         simp only [go_sem, c_f39_r13, incS (show k < 4611686018427387904 by omega)]
         refine hKY _ ?_
         repeat (first | refine hn9 _ ?_ | refine he9 _ _ ?_ | refine hn8 _ ?_ | refine he8 _ ?_ | refine hf8 _ _ (by decide) ?_ | refine hn7 _ ?_ | refine he7 _ _ ?_ | refine hn6 _ ?_ | refine he6 _ _ ?_)
         refine hn5 _ ((k + 1, (m.set k (x : Int)).set x (k : Int))) (N - (k + 1)) (by omega) (by first | (simp only [go_sem, updAll_cons, updAll_nil]; done) | with_reducible rfl) ?_
         exact ⟨hls, M2, hk2, rfl⟩
     · have hd1 : decide (m.getD k 0 < 0) = false := decide_eq_false hmk
       refine wlk_seq fun X10 hn10 he10 hr10 => ?_
       refine wlk_sreg fun KY hKY => ?_
       simp only [go_sem, c_f39_r8]
       apply call_gen [] [0] false none rfl
       iterate 8 (first | (simp only [go_sem, watchIn] <;> rfl) | rfl)
       refine (hfr).mono ?_
       rintro _ _ ⟨rfl, rfl⟩
       refine ⟨Nat.le_of_ble_eq_true rfl, (fun hh => by cases hh), ?_⟩
       simp only [go_sem, callOut, AState.after, hd1]
       refine hKY _ ?_
       refine wlk_cond1 (by first | rfl | (simp only [go_sem]; try simp (disch := omega) only [decide_eq_true, decide_eq_false])) ?_
       refine wlk_exit ?_
       repeat (first | refine hn10 _ ?_ | refine he10 _ _ ?_ | refine hn8 _ ?_ | refine he8 _ ?_ | refine hf8 _ _ (by decide) ?_ | refine hn7 _ ?_ | refine he7 _ _ ?_ | refine hn6 _ ?_ | refine he6 _ _ ?_ | refine he5 _ _ ?_ | refine hn4 _ ?_ | refine he4 _ ?_ | refine hf4 _ _ (by decide) ?_ | refine hn3 _ ?_ | refine he3 _ _ ?_ | refine hn2 _ ?_ | refine he2 _ _ ?_)
       refine wlk_reg fun KY hKY => ?_
       simp only [go_sem, c_f39_r13, incS (show k < 4611686018427387904 by omega)]
       refine hKY _ ?_
       repeat (first | refine hn10 _ ?_ | refine he10 _ _ ?_ | refine hn8 _ ?_ | refine he8 _ ?_ | refine hf8 _ _ (by decide) ?_ | refine hn7 _ ?_ | refine he7 _ _ ?_ | refine hn6 _ ?_ | refine he6 _ _ ?_)
       refine hn5 _ ((k + 1, m)) (N - (k + 1)) (by omega) (by first | (simp only [go_sem, updAll_cons, updAll_nil]; done) | with_reducible rfl) ?_
       exact ⟨hml, M, hk2, rfl⟩
   have hdx : decide ((k : Int) < (N : Int)) = false := decide_eq_false (by omega)
   refine wlk_sreg fun KY hKY => ?_
   simp only [go_sem, c_f39_r6, hdx]
   refine hKY _ ?_
   refine wlk_seq fun X11 hn11 he11 hr11 => ?_
   refine wlk_cond0 (by first | rfl | (simp only [go_sem]; try simp (disch := omega) only [decide_eq_true, decide_eq_false])) ?_
   refine wlk_exit ?_
   repeat (first | refine hn11 _ ?_ | refine he11 _ _ ?_ | refine he5 _ _ ?_ | refine hn4 _ ?_ | refine he4 _ ?_ | refine hf4 _ _ (by decide) ?_ | refine hn3 _ ?_ | refine he3 _ _ ?_ | refine hn2 _ ?_ | refine he2 _ _ ?_)
   refine wlk_sreg fun KY hKY => ?_
   simp only [go_sem, c_f39_r14]
   refine hKY _ ?_
   refine wlk_ret ?_
   repeat (first | refine hr11 _ ?_ | refine hr5 _ ?_ | refine hr4 _ ?_ | refine hr3 _ ?_ | refine hr2 _ ?_)
   simp only [go_sem]
   exact .inr ⟨h0, m, hml, M, rfl⟩
end Go.Proofs.Ytkjppnofgmpeeaa
set_option maxRecDepth 100000
set_option maxHeartbeats 4000000
namespace Go.Proofs.Ytkjppnofgmpeeaa
open Go Go.Ga Go.Ga.Gl
def turnL : List Int → List Int → List Int
 | m, a :: b :: l => turnL ((m.set a.toNat b).set b.toNat a) l
 | m, _ => m
theorem turnL_len : ∀ (l m : List Int), (turnL m l).length = m.length
 | [], m => rfl
 | [_], m => rfl
 | a :: b :: l, m => by unfold turnL; rw [turnL_len l]; simp
theorem turn_step {l : List Int} {k : Nat} {a b : Int} (ha : l[2 * k]? = some a) (hb : l[2 * k + 1]? = some b) : ∀ m0, turnL m0 (l.take (2 * (k + 1))) = ((turnL m0 (l.take (2 * k))).set a.toNat b).set b.toNat a := by
 induction k generalizing l with
 | zero =>
   intro m0
   match l, ha, hb with
   | x :: y :: l, ha, hb =>
     simp at ha hb
     subst ha; subst hb
     simp [turnL]
 | succ k ih =>
   intro m0
   match l, ha, hb with
   | [], ha, _ => simp at ha
   | [x], ha, _ => simp at ha
   | x :: y :: l, ha, hb =>
     have ha' : l[2 * k]? = some a := by rw [show 2 * (k + 1) = 2 * k + 1 + 1 by omega] at ha; simpa using ha
     have hb' : l[2 * k + 1]? = some b := by rw [show 2 * (k + 1) + 1 = (2 * k + 1) + 1 + 1 by omega] at hb; simpa using hb
     rw [show 2 * (k + 1 + 1) = 2 * (k + 1) + 1 + 1 by omega, show 2 * (k + 1) = 2 * k + 1 + 1 by omega]
     simp only [List.take_succ_cons, turnL]
     exact ih ha' hb' _
theorem turn_end : ∀ (k : Nat) (l m : List Int), l.length ≤ 2 * k + 1 → turnL m (l.take (2 * k)) = turnL m l
 | 0, [], m, _ => rfl
 | 0, [x], m, _ => rfl
 | 0, _ :: _ :: _, m, h => by simp at h
 | k + 1, [], m, _ => by simp
 | k + 1, [x], m, _ => by rw [show 2 * (k + 1) = 2 * k + 1 + 1 by omega]; simp
 | k + 1, x :: y :: l, m, h => by
   rw [show 2 * (k + 1) = 2 * k + 1 + 1 by omega]
   simp only [List.take_succ_cons, turnL]
   exact turn_end k l _ (by simp at h; omega)
theorem turn_ok (m l : List Int) (hl : l.length ≤ 1000000) (hm : m.length ≤ 1000000) (hin : ∀ i, i < l.length → ∃ a : Nat, l.getD i 0 = a ∧ a < m.length) : ACalls Try.prog [] n_f58 [.sl 0 0 m.length 1, .imm 1 (ints l)] [some (ints m)] fun r h' => r = .tup [] ∧ h' = [some (ints (turnL m l))] := by
 refine go_f58 rfl ?_
 unfold c_f58 v_f58
 refine wlk_sreg fun KY hKY => ?_
 simp only [go_sem, c_f58_r0]
 refine hKY _ ?_
 refine wlk_blk fun X1 hn1 he1 hf1 hr1 => ?_
 have h0 : m = turnL m (l.take (2 * 0)) := by simp [turnL]
 try simp only [go_sem]
 refine wlk_lp (α := Nat) [8] (fun k => [(4, .sc (.int .i64 ((2 * k + 1 : Nat) : Int)))]) (fun k => [some (ints (turnL m (l.take (2 * k))))]) (fun k q => 2 * k ≤ l.length + 1 ∧ q = l.length - k) (0) (l.length) rfl (by first | (simp only [go_sem, updAll_cons, updAll_nil]; done) | with_reducible rfl | rfl) (⟨by omega, rfl⟩) ?_
 rintro k q ⟨hk, rfl⟩ X2 hn2 he2 hr2
 simp only [go_sem, updAll_cons, updAll_nil]
 refine wlk_seq fun X3 hn3 he3 hr3 => ?_
 rcases Nat.lt_or_ge (2 * k + 1) l.length with hk2 | hk2
 · have hdy : decide (((2 * k + 1 : Nat) : Int) < (l.length : Int)) = true := decide_eq_true (by omega)
   refine wlk_sreg fun KY hKY => ?_
   simp only [go_sem, c_f58_r1, ints_len, hdy]
   refine hKY _ ?_
   refine wlk_cond1 (by first | rfl | (simp only [go_sem]; try simp (disch := omega) only [decide_eq_true, decide_eq_false])) ?_
   refine wlk_skip ?_
   repeat (first | refine hn3 _ ?_ | refine he3 _ _ ?_ | refine he2 _ _ ?_ | refine hn1 _ ?_ | refine he1 _ ?_ | refine hf1 _ _ (by decide) ?_)
   refine wlk_seq fun X4 hn4 he4 hr4 => ?_
   refine wlk_blk fun X5 hn5 he5 hf5 hr5 => ?_
   have hk0 : 2 * k < l.length := by omega
   obtain ⟨a, ha, haN⟩ := hin (2 * k) hk0
   obtain ⟨b, hb, hbN⟩ := hin (2 * k + 1) hk2
   have hd1 : IntKind.i64.wrap (((2 * k + 1 : Nat) : Int) - 1) = ((2 * k : Nat) : Int) := by rw [IntWalk.i64_in _ (by omega)]; omega
   have hga : (ints l)[2 * k]? = some (.sc (.int .i64 (a : Int))) := by rw [ints_get hk0, ha]
   have hgb : (ints l)[2 * k + 1]? = some (.sc (.int .i64 (b : Int))) := by rw [ints_get hk2, hb]
   have hla : l[2 * k]? = some (a : Int) := by rw [← ha, List.getD_eq_getElem?_getD, List.getElem?_eq_getElem hk0]; rfl
   have hlb : l[2 * k + 1]? = some (b : Int) := by rw [← hb, List.getD_eq_getElem?_getD, List.getElem?_eq_getElem hk2]; rfl
   have hst := turn_step hla hlb m
   rw [Int.toNat_natCast, Int.toNat_natCast] at hst
   have hlen := turnL_len (l.take (2 * k)) m
   generalize hM : turnL m (l.take (2 * k)) = M at hst hlen
   refine wlk_draw fun KY hKY => ?_
   simp only [go_sem, c_f58_r2, hd1, hga, hgb, hk0, hk2, ints_len, haN, hbN, hlen, List.length_set, ← hst]
   refine hKY _ ?_
   repeat (first | refine hn5 _ ?_ | refine he5 _ ?_ | refine hf5 _ _ (by decide) ?_ | refine hn4 _ ?_ | refine he4 _ _ ?_ | refine hn3 _ ?_ | refine he3 _ _ ?_ | refine he2 _ _ ?_ | refine hn1 _ ?_ | refine he1 _ ?_ | refine hf1 _ _ (by decide) ?_)
   have hi2 : IntKind.i64.wrap (((2 * k + 1 : Nat) : Int) + 2) = ((2 * (k + 1) + 1 : Nat) : Int) := by rw [IntWalk.i64_in _ (by omega)]; omega
   refine wlk_reg fun KY hKY => ?_
   simp only [go_sem, c_f58_r3, hi2]
   refine hKY _ ?_
   repeat (first | refine hn5 _ ?_ | refine he5 _ ?_ | refine hf5 _ _ (by decide) ?_ | refine hn4 _ ?_ | refine he4 _ _ ?_ | refine hn3 _ ?_ | refine he3 _ _ ?_)
   refine hn2 _ (k + 1) (l.length - (k + 1)) (by omega) (by first | (simp only [go_sem, updAll_cons, updAll_nil]; done) | with_reducible rfl) ?_
   exact ⟨by omega, rfl⟩
 have hdx : decide (((2 * k + 1 : Nat) : Int) < (l.length : Int)) = false := decide_eq_false (by omega)
 refine wlk_sreg fun KY hKY => ?_
 simp only [go_sem, c_f58_r1, ints_len, hdx]
 refine hKY _ ?_
 refine wlk_cond0 (by first | rfl | (simp only [go_sem]; try simp (disch := omega) only [decide_eq_true, decide_eq_false])) ?_
 refine wlk_exit ?_
 repeat (first | refine hn3 _ ?_ | refine he3 _ _ ?_ | refine he2 _ _ ?_ | refine hn1 _ ?_ | refine he1 _ ?_ | refine hf1 _ _ (by decide) ?_)
 rw [turn_end k l m (by omega)]
 simp only [go_sem]
theorem turnL_mf {E : Nat → Nat → Prop} : ∀ (l : List Nat) (m : List Int), EP E l → l.Nodup → (∀ y ∈ l, y < m.length) → ∀ u, mf (turnL m (l.map fun x : Nat => (x : Int))) u = if u ∈ l then (par l u : Int) else mf m u
 | [], m, _, _, _, u => by simp [turnL]
 | [_], m, h, _, _, u => h.elim
 | a :: b :: l, m, h, hn, hl, u => by
   simp only [List.nodup_cons, List.mem_cons, not_or] at hn
   obtain ⟨⟨hab, hal⟩, hbl, hnl⟩ := hn
   have ha := hl a (by simp)
   have hb := hl b (by simp)
   have ih := turnL_mf l ((m.set a (b : Int)).set b (a : Int)) h.2 hnl (fun y hy => by simp; exact hl y (by simp [hy])) u
   simp only [List.map_cons, turnL, Int.toNat_natCast]
   rw [ih]
   have e2 : mf ((m.set a (b : Int)).set b (a : Int)) u = if u = b then (a : Int) else if u = a then (b : Int) else mf m u := by
    rw [mf_set (by simp; omega), mf_set ha]
   have ep : par (a :: b :: l) u = if u = a then b else if u = b then a else par l u := rfl
   rw [ep]
   by_cases h1 : u = a
   · subst h1
     rw [if_neg hal, e2, if_neg hab, if_pos rfl, if_pos (by simp), if_pos rfl]
   · by_cases h2 : u = b
     · subst h2
       rw [if_neg hbl, e2, if_pos rfl, if_pos (by simp), if_neg h1, if_pos rfl]
     · by_cases h3 : u ∈ l
       · rw [if_pos h3, if_pos (by simp [h3]), if_neg h1, if_neg h2]
       · rw [if_neg h3, e2, if_neg h2, if_neg h1, if_neg (by simp [h1, h2, h3])]
theorem enlarge_ok (nr : List (List Nat)) {n : Nat} {E : Nat → Nat → Prop} {m : List Int} (h0 : 0 < n) (hnr : nr.length = n) (hml : m.length = n) (hn : n ≤ 4096) (hrow : ∀ v, v < n → (nr.getD v []).length ≤ 1000000) (M : Mf n E (mf m)) (hE : ∀ v w, v < n → (w ∈ nr.getD v [] ↔ E v w)) :
    ACalls Try.prog [] n_f40 [.imm 1 (rowsI nr), .sl 0 0 n 1] [some (ints m)] fun r h' => ∃ (m' : List Int) (S : FS) (a b : Int), m'.length = n ∧ Mf n E (mf m') ∧ Inv n E (mf m') S ∧ Lk E S [] ∧ r = .tup [.own (some 1) (ints (labs n S)), .agg [.sc (.int .i64 a), .sc (.int .i64 b)]] ∧ h' = [some (ints m')] := by
  refine go_f40 rfl ?_
  unfold c_f40 v_f40
  refine wlk_sreg fun KY hKY => ?_
  simp only [go_sem, c_f40_r0]
  refine hKY _ ?_
  refine wlk_sreg fun KY hKY => ?_
  simp only [go_sem, c_f40_r1]
  refine hKY _ ?_
  refine wlk_blk fun X1 hn1 he1 hf1 hr1 => ?_
  try simp only [go_sem]
  refine wlk_lp (α := List Int × Int × Int) [7, 8, 9, 26] (fun (m, a, b) => [(6, .own none [.sc (.int .i64 a), .sc (.int .i64 b)])]) (fun (m, a, b) => [some (ints m)]) (fun (m, a, b) q => m.length = n ∧ Mf n E (mf m) ∧ q = fre n (mf m)) ((m, 0, 0)) (fre n (mf m)) rfl (by first | (simp only [go_sem, updAll_cons, updAll_nil]; done) | with_reducible rfl | rfl) (⟨hml, M, rfl⟩) ?_
  rintro ⟨m, a, b⟩ q ⟨hml, M, rfl⟩ X2 hn2 he2 hr2
  simp only [go_sem, updAll_cons, updAll_nil]
  have hS := search_ok nr hnr hml hn hrow M hE
  refine wlk_blk fun X3 hn3 he3 hf3 hr3 => ?_
  refine wlk_sreg fun KY hKY => ?_
  simp only [go_sem, c_f40_r2]
  have htk : List.take n (ints m) = ints m := List.take_of_length_le (by rw [ints_len]; omega)
  refine call_view rfl (by simp only [go_sem, hml, Nat.le_refl, htk] <;> rfl) (hS.mono ?_)
  rintro rr hh ⟨rfl, lk, ⟨l, hA, rfl⟩ | ⟨S, hI, hL, rfl⟩⟩
  · refine ⟨?_, ?_, ?_, ?_⟩
    iterate 3 (first | rfl | simp only [go_sem])
    have hT := turn_ok m (l.map fun x : Nat => (x : Int)) (by
      have := nodup_le (m := List.range n) hA.nd fun x hx => List.mem_range.2 (hA.lt x hx)
      simp at this ⊢; omega) (by omega) (fun i hi => by
        rw [List.length_map] at hi
        exact ⟨l[i], by simp [hi], by rw [hml]; exact hA.lt _ (List.getElem_mem hi)⟩)
    rw [← nats_ints, hml] at hT
    have hmf := turnL_mf l m hA.ep hA.nd (fun y hy => by rw [hml]; exact hA.lt y hy)
    obtain ⟨M2, hfr, r, hrn, hr1, hr2⟩ := turn_mf M hA (mt' := mf (turnL m (l.map fun x : Nat => (x : Int)))) (fun u hu => by rw [hmf u, if_pos hu]) (fun u hu => by rw [hmf u, if_neg hu])
    have hless := fre_less hrn hr1 hr2 hfr
    have hlen2 : (turnL m (l.map fun x : Nat => (x : Int))).length = n := by rw [turnL_len, hml]
    cases l with
    | nil => obtain ⟨z, hz, _⟩ := hA.fr; simp at hz
    | cons c l =>
      have hnn : nats (c :: l) = .sc (.int .i64 (c : Int)) :: nats l := rfl
      simp only [go_sem]
      refine hKY _ ?_
      refine wlk_sreg fun KY hKY => ?_
      simp only [go_sem, c_f40_r3]
      refine hKY _ ?_
      refine wlk_seq fun X4 hn4 he4 hr4 => ?_
      refine wlk_sreg fun KY hKY => ?_
      simp only [go_sem, c_f40_r4, hnn]
      refine hKY _ ?_
      refine wlk_cond0 (by first | rfl | (simp only [go_sem]; try simp (disch := omega) only [decide_eq_true, decide_eq_false])) ?_
      refine wlk_skip ?_
      repeat (first | refine hn4 _ ?_ | refine he4 _ _ ?_ | refine hn3 _ ?_ | refine he3 _ ?_ | refine hf3 _ _ (by decide) ?_ | refine he2 _ _ ?_ | refine hn1 _ ?_ | refine he1 _ ?_ | refine hf1 _ _ (by decide) ?_)
      simp only [go_sem]
      rw [← hnn]
      refine wlk_reg fun KY hKY => ?_
      simp only [go_sem, c_f40_r6]
      apply call_gen [] [0] true none rfl
      iterate 8 (first | (simp only [go_sem, watchIn] <;> rfl) | rfl)
      refine (hT).mono ?_
      rintro _ _ ⟨rfl, rfl⟩
      refine ⟨Nat.le_of_ble_eq_true rfl, (fun _ => by simp only [go_sem, flatH, and_self]), ?_⟩
      simp only [go_sem, callOut, AState.after]
      have hq2 : fre n (mf (turnL m ((c :: l).map fun x : Nat => (x : Int)))) < fre n (mf m) := hless
      refine hKY _ ?_
      repeat (first | refine hn4 _ ?_ | refine he4 _ _ ?_ | refine hn3 _ ?_ | refine he3 _ ?_ | refine hf3 _ _ (by decide) ?_)
      refine hn2 _ ((turnL m ((c :: l).map fun x : Nat => (x : Int)), IntKind.i64.wrap (a + 1), max b lk)) (fre n (mf (turnL m ((c :: l).map fun x : Nat => (x : Int))))) (by omega) (by first | (simp only [go_sem, updAll_cons, updAll_nil]; done) | with_reducible rfl) ?_
      exact ⟨hlen2, M2, rfl⟩
  · refine ⟨?_, ?_, ?_, ?_⟩
    iterate 3 (first | rfl | simp only [go_sem])
    simp only [go_sem]
    refine hKY _ ?_
    refine wlk_sreg fun KY hKY => ?_
    simp only [go_sem, c_f40_r3]
    refine hKY _ ?_
    refine wlk_seq fun X5 hn5 he5 hr5 => ?_
    refine wlk_sreg fun KY hKY => ?_
    simp only [go_sem, c_f40_r4]
    refine hKY _ ?_
    refine wlk_cond1 (by first | rfl | (simp only [go_sem]; try simp (disch := omega) only [decide_eq_true, decide_eq_false])) ?_
    refine wlk_sdraw fun KY hKY => ?_
    simp only [go_sem, c_f40_r5]
    refine hKY _ ?_
    refine wlk_ret ?_
    repeat (first | refine hr5 _ ?_ | refine hr3 _ ?_ | refine hr2 _ ?_ | refine hr1 _ ?_)
    simp only [go_sem]
    exact ⟨m, S, _, _, hml, M, hI, hL, rfl, rfl⟩
end Go.Proofs.Ytkjppnofgmpeeaa
set_option maxRecDepth 100000
set_option maxHeartbeats 4000000
namespace Go.Proofs.Ytkjppnofgmpeeaa
open Go Go.Ga Go.Ga.Gl
theorem enlarge0_ok {E : Nat → Nat → Prop} (M : Mf 0 E (mf [])) :
    ACalls Try.prog [] n_f40 [.imm 1 (rowsI []), .imm 1 (ints [])] [] fun r h' => ∃ (S : FS) (a b : Int), Inv 0 E (mf []) S ∧ Lk E S [] ∧ r = .tup [.own (some 1) (ints (labs 0 S)), .agg [.sc (.int .i64 a), .sc (.int .i64 b)]] ∧ h' = [] := by
  have hS := search_ok [] (n := 0) (E := E) (m := []) rfl rfl (by omega) (fun v hv => by omega) M (fun v w hv => by omega)
  refine go_f40 rfl ?_
  unfold c_f40 v_f40
  refine wlk_sreg fun KY hKY => ?_
  simp only [go_sem, c_f40_r0]
  refine hKY _ ?_
  refine wlk_sreg fun KY hKY => ?_
  simp only [go_sem, c_f40_r1]
  refine hKY _ ?_
  refine wlk_blk fun X1 hn1 he1 hf1 hr1 => ?_
  try simp only [go_sem]
  refine wlk_lp (α := Int × Int) [7, 8, 9, 26] (fun (a, b) => [(6, .own none [.sc (.int .i64 a), .sc (.int .i64 b)])]) (fun (a, b) => []) (fun (a, b) q => q = 0) ((0, 0)) (0) rfl (by first | (simp only [go_sem, updAll_cons, updAll_nil]; done) | with_reducible rfl | rfl) (rfl) ?_
  rintro ⟨a, b⟩ q rfl X2 hn2 he2 hr2
  simp only [go_sem, updAll_cons, updAll_nil]
  refine wlk_blk fun X3 hn3 he3 hf3 hr3 => ?_
  refine wlk_sreg fun KY hKY => ?_
  simp only [go_sem, c_f40_r2]
  refine call_view rfl (by simp only [go_sem] <;> rfl) (hS.mono ?_)
  rintro rr hh ⟨rfl, lk, ⟨l, hA, rfl⟩ | ⟨S, hI, hL, rfl⟩⟩
  · exfalso
    obtain ⟨z, hz, _⟩ := hA.fr
    have := hA.lt z hz
    omega
  · refine ⟨?_, ?_, ?_, ?_⟩
    iterate 3 (first | rfl | simp only [go_sem])
    simp only [go_sem]
    refine hKY _ ?_
    refine wlk_sreg fun KY hKY => ?_
    simp only [go_sem, c_f40_r3]
    refine hKY _ ?_
    refine wlk_seq fun X4 hn4 he4 hr4 => ?_
    refine wlk_sreg fun KY hKY => ?_
    simp only [go_sem, c_f40_r4]
    refine hKY _ ?_
    refine wlk_cond1 (by first | rfl | (simp only [go_sem]; try simp (disch := omega) only [decide_eq_true, decide_eq_false])) ?_
    refine wlk_sdraw fun KY hKY => ?_
    simp only [go_sem, c_f40_r5]
    refine hKY _ ?_
    refine wlk_ret ?_
    repeat (first | refine hr4 _ ?_ | refine hr3 _ ?_ | refine hr2 _ ?_ | refine hr1 _ ?_)
    simp only [go_sem]
    exact ⟨S, _, _, hI, hL, rfl⟩
theorem near_row {N : Nat} (es : Es) {v : Nat} (hv : v < N) : (near N es).getD v [] = nearOf es v := by
 rw [List.getD_eq_getElem?_getD, near_get hv]; rfl
theorem near_e {N : Nat} (es : Es) : ∀ v w, v < N → (w ∈ (near N es).getD v [] ↔ adj es v w) := fun v w hv => by
 rw [near_row es hv]; exact nearOf_mem
theorem near_r {N : Nat} {es : Es} (g : GR N es) : ∀ v, v < N → ((near N es).getD v []).length ≤ 1000000 := fun v hv => by
 rw [near_row es hv]; exact Nat.le_trans (nearOf_len g v) (by decide)
theorem largest_ok {N : Nat} {es : Es} (g : GR N es) : ACalls Try.prog [] n_f25 [.agg [.sc (.int .i64 (N : Int)), .imm 2 (twos (castE es))]] [] fun r h' => ∃ (m : List Int) (S : FS) (a b : Int), m.length = N ∧ Mf N (adj es) (mf m) ∧ Inv N (adj es) (mf m) S ∧ Lk (adj es) S [] ∧ ((N = 0 ∧ r = .tup [.own (some 1) [], .agg [.sc (.int .i64 a), .sc (.int .i64 b)], .sc (.int .i64 0)] ∧ h' = []) ∨ (0 < N ∧ r = .tup [.sl 0 0 N 1, .agg [.sc (.int .i64 a), .sc (.int .i64 b)], .sc (.int .i64 0)] ∧ h' = [some (ints m)])) := by
 have hN := g.hn
 have hr := rightB_GR g
 refine go_f25 rfl ?_
 unfold c_f25 v_f25
 refine wlk_sreg fun KY hKY => ?_
 simp only [go_sem, c_f25_r0]
 refine hKY _ ?_
 refine wlk_seq fun X1 hn1 he1 hr1 => ?_
 refine wlk_sreg fun KY hKY => ?_
 simp only [go_sem, c_f25_r1]
 refine call_view rfl (by simp only [go_sem] <;> rfl) ((right_ok N (castE es)).mono ?_)
 rintro rr hh ⟨rfl, rfl⟩
 refine ⟨rfl, rfl, rfl, ?_⟩
 simp only [go_sem, hr]
 refine hKY _ ?_
 refine wlk_cond0 (by first | rfl | (simp only [go_sem]; try simp (disch := omega) only [decide_eq_true, decide_eq_false])) ?_
 refine wlk_skip ?_
 repeat (first | refine hn1 _ ?_ | refine he1 _ _ ?_)
 refine wlk_sreg fun KY hKY => ?_
 simp only [go_sem, c_f25_r3]
 apply call_gen [] [] false none rfl
 iterate 8 (first | (simp only [go_sem, watchIn] <;> rfl) | rfl)
 refine (gfirst_ok g).mono ?_
 rintro _ _ (⟨h0, rfl, rfl⟩ | ⟨h0, m, hml, M, rfl, rfl⟩)
 · subst h0
   refine ⟨Nat.le_of_ble_eq_true rfl, (fun hh => by cases hh), ?_⟩
   simp only [go_sem, callOut, AState.after]
   refine hKY _ ?_
   refine sem_nil [0, 5] 1 (by simp only [go_sem]) ?_
   simp only [go_sem]
   have M0 : Mf 0 (adj es) (mf []) := g.none fun v => by simp [mf]
   have hE0 := enlarge0_ok M0
   have hnr : near 0 es = [] := rfl
   refine wlk_sreg fun KY hKY => ?_
   simp only [go_sem, c_f25_r4]
   apply call_gen [] [] true none rfl
   iterate 8 (first | (simp only [go_sem, watchIn] <;> rfl) | rfl)
   refine (lists_ok g).mono ?_
   rintro _ _ ⟨rfl, rfl⟩
   refine ⟨Nat.le_of_ble_eq_true rfl, (fun _ => by simp only [go_sem, flatH, and_self, hnr]), ?_⟩
   simp only [go_sem, callOut, AState.after, hnr]
   rw [show AVal.own (some 1) (rowsO []) = .own (some 1) (rowsO []) from rfl]
   apply call_gen [] [] true none rfl
   iterate 8 (first | (simp only [go_sem, watchIn] <;> rfl) | rfl)
   refine (hE0).mono ?_
   rintro _ _ ⟨S, a, b, hI, hL, rfl, rfl⟩
   refine ⟨Nat.le_of_ble_eq_true rfl, (fun _ => by simp only [go_sem, flatH, and_self]), ?_⟩
   simp only [go_sem, callOut, AState.after]
   refine hKY _ ?_
   refine wlk_sdraw fun KY hKY => ?_
   simp only [go_sem, c_f25_r5]
   refine hKY _ ?_
   refine wlk_ret ?_
   repeat (first | refine hr1 _ ?_)
   simp only [go_sem]
   exact ⟨[], S, _, _, rfl, M0, hI, hL, .inl rfl⟩
 · refine ⟨Nat.le_of_ble_eq_true rfl, (fun hh => by cases hh), ?_⟩
   simp only [go_sem, callOut, AState.after]
   refine hKY _ ?_
   have hE1 := enlarge_ok (near N es) h0 (near_len N es) hml hN (near_r g) M (near_e es)
   refine wlk_sreg fun KY hKY => ?_
   simp only [go_sem, c_f25_r4]
   apply call_gen [] [] true none rfl
   iterate 8 (first | (simp only [go_sem, watchIn] <;> rfl) | rfl)
   refine (lists_ok g).mono ?_
   rintro _ _ ⟨rfl, rfl⟩
   refine ⟨Nat.le_of_ble_eq_true rfl, (fun _ => by simp only [go_sem, flatH, and_self]), ?_⟩
   simp only [go_sem, callOut, AState.after]
   apply call_gen [] [0] true none rfl
   iterate 8 (first | (simp only [go_sem, watchIn] <;> rfl) | rfl)
   refine (hE1).mono ?_
   rintro _ _ ⟨m', S, a, b, hml', M', hI, hL, rfl, rfl⟩
   refine ⟨Nat.le_of_ble_eq_true rfl, (fun _ => by simp only [go_sem, flatH, and_self]), ?_⟩
   simp only [go_sem, callOut, AState.after]
   refine hKY _ ?_
   refine wlk_sdraw fun KY hKY => ?_
   simp only [go_sem, c_f25_r5]
   refine hKY _ ?_
   refine wlk_ret ?_
   repeat (first | refine hr1 _ ?_)
   simp only [go_sem]
   exact ⟨m', S, _, _, hml', M', hI, hL, .inr ⟨h0, rfl, rfl⟩⟩
end Go.Proofs.Ytkjppnofgmpeeaa
set_option maxRecDepth 100000
set_option maxHeartbeats 4000000
namespace Go.Proofs.Ytkjppnofgmpeeaa
open Go Go.Ga Go.Ga.Gl
end Go.Proofs.Ytkjppnofgmpeeaa
set_option maxRecDepth 100000
set_option maxHeartbeats 4000000
namespace Go.Proofs.Ytkjppnofgmpeeaa
open Go Go.Ga Go.Ga.Gl
end Go.Proofs.Ytkjppnofgmpeeaa
set_option maxRecDepth 100000
set_option maxHeartbeats 4000000
namespace Go.Proofs.Ytkjppnofgmpeeaa
open Go Go.Ga Go.Ga.Gl
def hasI (p : List Nat) (a : Int) : Bool := decide (a ∈ p.map fun n : Nat => (n : Int))
theorem hasI_nat {p : List Nat} {a : Nat} : hasI p (a : Int) = true ↔ a ∈ p := by
 unfold hasI
 rw [decide_eq_true_iff, List.mem_map]
 exact ⟨fun ⟨x, hx, h⟩ => by rw [show a = x by omega]; exact hx, fun h => ⟨a, h, rfl⟩⟩
theorem in_ok (xs : List Int) (v : Int) (hb : xs.length ≤ 1000000000) : ACalls Try.prog [] n_f13 [.imm 1 (ints xs), .sc (.int .i64 v)] [] fun r h' => r = .sc (.bool (decide (v ∈ xs))) ∧ h' = [] := by
 refine go_f13 rfl ?_
 unfold c_f13 v_f13
 refine wlk_sreg fun KY hKY => ?_
 simp only [go_sem, c_f13_r0]
 refine hKY _ ?_
 refine wlk_seq fun X1 hn1 he1 hr1 => ?_
 refine wlk_sreg fun KY hKY => ?_
 simp only [go_sem, c_f13_r1]
 refine hKY _ ?_
 refine wlk_blk fun X2 hn2 he2 hf2 hr2 => ?_
 try simp only [go_sem]
 refine wlk_lp (α := Nat) [9, 17] (fun k => [(5, .sc (.int .i64 (k : Int)))]) (fun k => []) (fun k q => k ≤ xs.length ∧ q = xs.length - k ∧ ∀ j x, j < k → xs[j]? = some x → x ≠ v) (0) (xs.length) rfl (by first | (simp only [go_sem, updAll_cons, updAll_nil]; done) | with_reducible rfl | rfl) (⟨by omega, rfl, fun j x h => by omega⟩) ?_
 rintro k q ⟨hk, rfl, hz⟩ X3 hn3 he3 hr3
 simp only [go_sem, updAll_cons, updAll_nil]
 refine wlk_seq fun X4 hn4 he4 hr4 => ?_
 refine wlk_sreg fun KY hKY => ?_
 simp only [go_sem, c_f13_r2, ints_len]
 refine hKY _ ?_
 by_cases hk2 : k < xs.length
 · refine wlk_cond1 (by first | rfl | (simp only [go_sem]; try simp (disch := omega) only [decide_eq_true, decide_eq_false])) ?_
   refine wlk_skip ?_
   repeat (first | refine hn4 _ ?_ | refine he4 _ _ ?_ | refine he3 _ _ ?_ | refine hn2 _ ?_ | refine he2 _ ?_ | refine hf2 _ _ (by decide) ?_ | refine hn1 _ ?_ | refine he1 _ _ ?_)
   refine wlk_seq fun X5 hn5 he5 hr5 => ?_
   refine wlk_blk fun X6 hn6 he6 hf6 hr6 => ?_
   have hx : xs[k]? = some xs[k] := List.getElem?_eq_getElem hk2
   have hmem : xs[k] ∈ xs := List.getElem_mem hk2
   generalize xs[k] = x at hx hmem
   refine wlk_sreg fun KY hKY => ?_
   simp only [go_sem, c_f13_r3, ints_at hx, hk2]
   refine hKY _ ?_
   by_cases hp : x = v
   · refine wlk_cond1 (by first | rfl | (simp only [go_sem, hp]; try simp (disch := omega) only [decide_eq_true, decide_eq_false])) ?_
     refine wlk_sreg fun KY hKY => ?_
     simp only [go_sem, c_f13_r4]
     refine hKY _ ?_
     refine wlk_ret ?_
     repeat (first | refine hr6 _ ?_ | refine hr5 _ ?_ | refine hr4 _ ?_ | refine hr3 _ ?_ | refine hr2 _ ?_ | refine hr1 _ ?_)
     simp only [go_sem]
     rw [decide_eq_true (hp ▸ hmem)]
   · refine wlk_cond0 (by first | rfl | (simp only [go_sem, hp]; try simp (disch := omega) only [decide_eq_true, decide_eq_false])) ?_
     refine wlk_skip ?_
     repeat (first | refine hn6 _ ?_ | refine he6 _ ?_ | refine hf6 _ _ (by decide) ?_ | refine hn5 _ ?_ | refine he5 _ _ ?_ | refine hn4 _ ?_ | refine he4 _ _ ?_ | refine he3 _ _ ?_ | refine hn2 _ ?_ | refine he2 _ ?_ | refine hf2 _ _ (by decide) ?_ | refine hn1 _ ?_ | refine he1 _ _ ?_)
     refine wlk_reg fun KY hKY => ?_
     simp only [go_sem, c_f13_r5, inc k (by omega)]
     refine hKY _ ?_
     repeat (first | refine hn6 _ ?_ | refine he6 _ ?_ | refine hf6 _ _ (by decide) ?_ | refine hn5 _ ?_ | refine he5 _ _ ?_ | refine hn4 _ ?_ | refine he4 _ _ ?_)
     refine hn3 _ (k + 1) (xs.length - (k + 1)) (by omega) (by first | (simp only [go_sem, updAll_cons, updAll_nil]; done) | with_reducible rfl | rfl) ?_
     refine ⟨hk2, rfl, fun j y hj hy => ?_⟩
     rcases Nat.lt_or_ge j k with h | h
     · exact hz j y h hy
     · obtain rfl : j = k := by omega
       rw [hx] at hy; cases hy; exact hp
 · refine wlk_cond0 (by first | rfl | (simp only [go_sem]; try simp (disch := omega) only [decide_eq_true, decide_eq_false])) ?_
   refine wlk_exit ?_
   repeat (first | refine hn4 _ ?_ | refine he4 _ _ ?_ | refine he3 _ _ ?_ | refine hn2 _ ?_ | refine he2 _ ?_ | refine hf2 _ _ (by decide) ?_ | refine hn1 _ ?_ | refine he1 _ _ ?_)
   refine wlk_sreg fun KY hKY => ?_
   simp only [go_sem, c_f13_r6]
   refine hKY _ ?_
   refine wlk_ret ?_
   repeat (first | refine hr4 _ ?_ | refine hr3 _ ?_ | refine hr2 _ ?_ | refine hr1 _ ?_)
   simp only [go_sem]
   rw [decide_eq_false]
   intro hx
   obtain ⟨j, hj⟩ := List.mem_iff_getElem?.1 hx
   exact hz j v (by have := (List.getElem?_eq_some_iff.1 hj).1; omega) hj rfl
theorem inN_ok (xs : List Nat) (v : Int) (hb : xs.length ≤ 1000000000) : ACalls Try.prog [] n_f13 [.imm 1 (nats xs), .sc (.int .i64 v)] [] fun r h' => r = .sc (.bool (hasI xs v)) ∧ h' = [] := by
 rw [nats_ints]
 exact in_ok _ v (by simpa using hb)
end Go.Proofs.Ytkjppnofgmpeeaa
set_option maxRecDepth 100000
set_option maxHeartbeats 2000000
namespace Go.Proofs.Ytkjppnofgmpeeaa
open Go Go.Ga Go.Ga.Gl
end Go.Proofs.Ytkjppnofgmpeeaa
set_option maxRecDepth 100000
set_option maxHeartbeats 2000000
namespace Go.Proofs.Ytkjppnofgmpeeaa
open Go Go.Ga Go.Ga.Gl
def PsOf (n : Int) (es : List (Int × Int)) (out : List Int) (ps : List (List Nat)) : Prop :=
 (rightB n es = true ∧ ∃ (N : Nat) (es' : Es), n = N ∧ es = castE es' ∧ GR N es' ∧ IsPieces N es' (fun v => (v : Int) ∈ out) ps) ∨ (rightB n es = false ∧ ps = [])
theorem PsOf.len {n : Int} {es : List (Int × Int)} {out : List Int} {ps : List (List Nat)} (h : PsOf n es out ps) : ps.length ≤ 4096 ∧ ∀ p ∈ ps, p.length ≤ 4096 := by
 rcases h with ⟨_, N, es', _, _, g, P⟩ | ⟨_, rfl⟩
 · have := g.hn
   exact ⟨Nat.le_trans (pieces_len P) this, fun p hp => Nat.le_trans (piece_len P hp) this⟩
 · exact ⟨by simp, fun p hp => by simp at hp⟩
theorem PsOf.disj {n : Int} {es : List (Int × Int)} {out : List Int} {ps : List (List Nat)} (h : PsOf n es out ps) : ps.Pairwise fun p q => ∀ v ∈ p, v ∉ q := by
 rcases h with ⟨_, N, es', _, _, g, P⟩ | ⟨_, rfl⟩
 · exact P.disj
 · exact .nil
end Go.Proofs.Ytkjppnofgmpeeaa
set_option maxRecDepth 100000
set_option maxHeartbeats 2000000
namespace Go.Proofs.Ytkjppnofgmpeeaa
open Go Go.Ga Go.Ga.Gl
end Go.Proofs.Ytkjppnofgmpeeaa
set_option maxRecDepth 100000
set_option maxHeartbeats 4000000
namespace Go.Proofs.Ytkjppnofgmpeeaa
open Go Go.Ga Go.Ga.Gl
def mOk (es : Es) (m : List Int) (v : Nat) : Bool := decide (m.getD v 0 = -1) || (decide (turnI (v : Int) (m.getD v 0) ∈ castE es) && decide (m.getD (m.getD v 0).toNat 0 = (v : Int)))
theorem turn_mem {N : Nat} {es : Es} (g : GR N es) {v : Nat} {w : Int} (h : turnI (v : Int) w ∈ castE es) : ∃ u : Nat, w = u ∧ u < N ∧ v < N ∧ u ≠ v := by
 obtain ⟨⟨a, b⟩, hm, e⟩ := List.mem_map.1 h
 have hok := g.ok _ hm
 simp only at hok
 unfold turnI at e
 split at e
 · simp only [Prod.mk.injEq] at e
   exact ⟨a, by omega, by omega, by omega, by omega⟩
 · simp only [Prod.mk.injEq] at e
   exact ⟨b, by omega, by omega, by omega, by omega⟩
theorem all_no {N k : Nat} {φ : Nat → Bool} (h : k < N) (hf : φ k = false) : ((List.range N).all fun v => φ v) = false := by
 rw [Bool.eq_false_iff]; intro h'
 rw [List.all_eq_true] at h'
 rw [h' k (List.mem_range.2 h)] at hf; cases hf
end Go.Proofs.Ytkjppnofgmpeeaa
set_option maxRecDepth 100000
set_option maxHeartbeats 4000000
namespace Go.Proofs.Ytkjppnofgmpeeaa
open Go Go.Ga Go.Ga.Gl
def jAt (m : List Int) (l : Es) (v : Nat) : Bool := l.any fun e => (decide (e.1 = v) || decide (e.2 = v)) && (decide (m.getD e.1 0 = (e.2 : Int)) && decide (m.getD e.2 0 = (e.1 : Int)))
theorem jAt_ok {N : Nat} {es : Es} (g : GR N es) (m : List Int) {v : Nat} (hw : m.getD v 0 ≠ -1) : jAt m es v = mOk es m v := by
 rw [Bool.eq_iff_iff]
 unfold jAt mOk
 rw [List.any_eq_true, decide_eq_false hw, Bool.false_or, Bool.and_eq_true, decide_eq_true_iff, decide_eq_true_iff]
 constructor
 · rintro ⟨⟨a, b⟩, he, h⟩
   have hok := g.ok _ he
   simp only [Bool.and_eq_true, Bool.or_eq_true, decide_eq_true_eq] at h hok
   obtain ⟨rfl | rfl, h1, h2⟩ := h
   · rw [h1]
     refine ⟨?_, by rw [Int.toNat_natCast]; exact h2⟩
     unfold turnI; rw [if_neg (by omega)]; exact castE_mem.2 he
   · rw [h2]
     refine ⟨?_, by rw [Int.toNat_natCast]; exact h1⟩
     unfold turnI; rw [if_pos (by omega)]; exact castE_mem.2 he
 · rintro ⟨h1, h2⟩
   obtain ⟨u, hu, _, _, hne⟩ := turn_mem g h1
   rw [hu] at h1 h2
   rw [Int.toNat_natCast] at h2
   unfold turnI at h1
   split at h1
   · exact ⟨(u, v), castE_mem.1 h1, by simp only [hu, h2, decide_true, Bool.or_true, Bool.true_or, Bool.and_self]⟩
   · exact ⟨(v, u), castE_mem.1 h1, by simp only [hu, h2, decide_true, Bool.or_true, Bool.true_or, Bool.and_self]⟩
def jL (N : Nat) (m : List Int) (l : Es) : List Bool := (List.range N).map (jAt m l)
theorem jL_len (N : Nat) (m : List Int) (l : Es) : (jL N m l).length = N := by simp [jL]
theorem jL_get {N : Nat} (m : List Int) (l : Es) {v : Nat} (h : v < N) : (jL N m l).getD v false = jAt m l v := by simp [jL, h]
theorem jL_no {N : Nat} (m : List Int) (l : Es) {a b : Nat} (h : ¬ (m.getD a 0 = (b : Int) ∧ m.getD b 0 = (a : Int))) : jL N m (l ++ [(a, b)]) = jL N m l := by
 refine List.map_congr_left fun v _ => ?_
 unfold jAt
 rw [List.any_append]
 have : (decide (m.getD a 0 = (b : Int)) && decide (m.getD b 0 = (a : Int))) = false := by
  rw [Bool.eq_false_iff]; intro h'; rw [Bool.and_eq_true, decide_eq_true_iff, decide_eq_true_iff] at h'; exact h h'
 simp only [List.any_cons, List.any_nil, this, Bool.and_false, Bool.or_false]
theorem jL_yes {N : Nat} (m : List Int) (l : Es) {a b : Nat} (h : m.getD a 0 = (b : Int) ∧ m.getD b 0 = (a : Int)) : ((jL N m l).set a true).set b true = jL N m (l ++ [(a, b)]) := by
 apply List.ext_getElem
 · simp [jL]
 · intro i h1 h2
   have hi : i < N := by rw [jL_len] at h2; exact h2
   have e : jAt m (l ++ [(a, b)]) i = (jAt m l i || (decide (a = i) || decide (b = i))) := by
    unfold jAt
    rw [List.any_append]
    simp only [List.any_cons, List.any_nil, h.1, h.2, decide_true, Bool.and_true, Bool.or_false]
   simp only [jL, List.getElem_set, List.getElem_map, List.getElem_range, e]
   by_cases hb : b = i
   · simp [hb]
   · by_cases ha : a = i
     · simp [ha, hb]
     · simp [ha, hb]
theorem mright_yes {N : Nat} {es : Es} (g : GR N es) (m : List Int) (hl : m.length = N) : ACalls Try.prog [] n_f62 [.agg [.sc (.int .i64 (N : Int)), .imm 2 (twos (castE es))], .imm 1 (ints m)] [] fun r h' => r = .sc (.bool ((List.range N).all fun v => mOk es m v)) ∧ h' = [] := by
 refine ACalls.trim ?_
 have hN := g.hn
 have hem := g.hm
 have hr := rightB_GR g
 have hd : decide ((m.length : Int) ≠ (N : Int)) = false := decide_eq_false (by omega)
 have h0 : List.replicate N false = jL N m (es.take 0) := by
  apply List.ext_getElem
  · simp [jL]
  · intro i h1 h2; simp [jL, jAt]
 refine go_f62 rfl ?_
 unfold c_f62 v_f62
 refine wlk_sreg fun KY hKY => ?_
 simp only [go_sem, c_f62_r0]
 refine hKY _ ?_
 refine wlk_seq fun X1 hn1 he1 hr1 => ?_
 refine wlk_sreg fun KY hKY => ?_
 simp only [go_sem, c_f62_r1]
 refine call_view rfl (by simp only [go_sem] <;> rfl) ((right_ok N (castE es)).mono ?_)
 rintro rr hh ⟨rfl, rfl⟩
 refine ⟨rfl, rfl, rfl, ?_⟩
 simp only [go_sem, hr, ints_len, hd]
 refine hKY _ ?_
 refine wlk_cond0 (by first | rfl | (simp only [go_sem]; try simp (disch := omega) only [decide_eq_true, decide_eq_false])) ?_
 refine wlk_skip ?_
 repeat (first | refine hn1 _ ?_ | refine he1 _ _ ?_)
 refine wlk_sreg fun KY hKY => ?_
 simp only [go_sem, c_f62_r3, (show N ≤ 140737488355328 by omega), (show 1 * N ≤ 140737488355328 by omega), (show (N : Int) ≤ (N : Int) from Int.le_refl _), (show (N : Int) ≤ 9223372036854775807 by omega), h0]
 refine hKY _ ?_
 refine wlk_seq fun X2 hn2 he2 hr2 => ?_
 refine wlk_sreg fun KY hKY => ?_
 simp only [go_sem, c_f62_r4, twos_len, mul2, castE_len]
 refine hKY _ ?_
 refine wlk_blk fun X3 hn3 he3 hf3 hr3 => ?_
 try simp only [go_sem]
 refine wlk_lp (α := Nat) [7, 27, 47] (fun k => [(5, .own (some 1) (bools (jL N m (es.take k)))), (26, .sc (.int .i64 (k : Int)))]) (fun k => []) (fun k q => k ≤ es.length ∧ q = es.length - k) (0) (es.length) rfl (by first | (simp only [go_sem, updAll_cons, updAll_nil]; done) | with_reducible rfl | rfl) (⟨by omega, rfl⟩) ?_
 rintro k q ⟨hk, rfl⟩ X4 hn4 he4 hr4
 simp only [go_sem, updAll_cons, updAll_nil]
 rcases Nat.lt_or_ge k es.length with hk2 | hk2
 · have hdy : decide ((k : Int) < (es.length : Int)) = true := decide_eq_true (by omega)
   refine wlk_sreg fun KY hKY => ?_
   simp only [go_sem, c_f62_r5, hdy]
   refine hKY _ ?_
   refine wlk_seq fun X5 hn5 he5 hr5 => ?_
   refine wlk_cond1 (by first | rfl | (simp only [go_sem]; try simp (disch := omega) only [decide_eq_true, decide_eq_false])) ?_
   refine wlk_skip ?_
   repeat (first | refine hn5 _ ?_ | refine he5 _ _ ?_ | refine he4 _ _ ?_ | refine hn3 _ ?_ | refine he3 _ ?_ | refine hf3 _ _ (by decide) ?_ | refine hn2 _ ?_ | refine he2 _ _ ?_ | refine hn1 _ ?_ | refine he1 _ _ ?_)
   refine wlk_seq fun X6 hn6 he6 hr6 => ?_
   refine wlk_blk fun X7 hn7 he7 hf7 hr7 => ?_
   have hx : es[k]? = some es[k] := List.getElem?_eq_getElem hk2
   have hxm : es[k] ∈ es := List.getElem_mem hk2
   generalize es[k] = x at hx hxm
   obtain ⟨a, b⟩ := x
   have hxc := castE_get hx
   have hok := g.ok (a, b) hxm
   simp only at hok
   have htk : es.take (k + 1) = es.take k ++ [(a, b)] := by rw [List.take_add_one, hx]; rfl
   have haN : a < N := by omega
   have hbN : b < N := hok.2
   refine wlk_sreg fun KY hKY => ?_
   simp only [go_sem, c_f62_r6, (show k * 2 + 1 < es.length * 2 by omega), (show 1 < es.length * 2 - k * 2 by omega), two_cells hxc, List.length_drop, twos_len, castE_len]
   refine hKY _ ?_
   by_cases h1 : m.getD a 0 = (b : Int)
   · have d1 : decide (m.getD a 0 = (b : Int)) = true := decide_eq_true h1
     by_cases h2 : m.getD b 0 = (a : Int)
     · have d2 : decide (m.getD b 0 = (a : Int)) = true := decide_eq_true h2
       have hst := jL_yes (N := N) m (es.take k) ⟨h1, h2⟩
       rw [← htk] at hst
       refine wlk_sdraw fun KY hKY => ?_
       simp only [go_sem, c_f62_r7, ints_get (show a < m.length by omega), ints_get (show b < m.length by omega), ints_len, hl, haN, hbN, d1, d2]
       refine hKY _ ?_
       refine wlk_cond1 (by first | rfl | (simp only [go_sem]; try simp (disch := omega) only [decide_eq_true, decide_eq_false])) ?_
       refine wlk_draw fun KY hKY => ?_
       simp only [go_sem, c_f62_r8, bools_len, jL_len, haN, hbN, List.length_set, hst, (show ([0, 5] == [0, 7]) = false from rfl), Bool.not_false]
       refine hKY _ ?_
       repeat (first | refine hn7 _ ?_ | refine he7 _ ?_ | refine hf7 _ _ (by decide) ?_ | refine hn6 _ ?_ | refine he6 _ _ ?_ | refine hn5 _ ?_ | refine he5 _ _ ?_ | refine he4 _ _ ?_ | refine hn3 _ ?_ | refine he3 _ ?_ | refine hf3 _ _ (by decide) ?_ | refine hn2 _ ?_ | refine he2 _ _ ?_ | refine hn1 _ ?_ | refine he1 _ _ ?_)
       refine wlk_reg fun KY hKY => ?_
       simp only [go_sem, c_f62_r9, incS (show k < 4611686018427387904 by omega)]
       refine hKY _ ?_
       repeat (first | refine hn7 _ ?_ | refine he7 _ ?_ | refine hf7 _ _ (by decide) ?_ | refine hn6 _ ?_ | refine he6 _ _ ?_ | refine hn5 _ ?_ | refine he5 _ _ ?_)
       refine hn4 _ (k + 1) (es.length - (k + 1)) (by omega) (by first | (simp only [go_sem, updAll_cons, updAll_nil]; done) | with_reducible rfl | rfl) ?_
       exact ⟨hk2, rfl⟩
     · have d2 : decide (m.getD b 0 = (a : Int)) = false := decide_eq_false h2
       have hst := jL_no (N := N) m (es.take k) (a := a) (b := b) fun h => h2 h.2
       rw [← htk] at hst
       refine wlk_sdraw fun KY hKY => ?_
       simp only [go_sem, c_f62_r7, ints_get (show a < m.length by omega), ints_get (show b < m.length by omega), ints_len, hl, haN, hbN, d1, d2]
       refine hKY _ ?_
       refine wlk_cond0 (by first | rfl | (simp only [go_sem]; try simp (disch := omega) only [decide_eq_true, decide_eq_false])) ?_
       refine wlk_skip ?_
       repeat (first | refine hn7 _ ?_ | refine he7 _ ?_ | refine hf7 _ _ (by decide) ?_ | refine hn6 _ ?_ | refine he6 _ _ ?_ | refine hn5 _ ?_ | refine he5 _ _ ?_ | refine he4 _ _ ?_ | refine hn3 _ ?_ | refine he3 _ ?_ | refine hf3 _ _ (by decide) ?_ | refine hn2 _ ?_ | refine he2 _ _ ?_ | refine hn1 _ ?_ | refine he1 _ _ ?_)
       refine wlk_reg fun KY hKY => ?_
       simp only [go_sem, c_f62_r9, incS (show k < 4611686018427387904 by omega)]
       refine hKY _ ?_
       repeat (first | refine hn7 _ ?_ | refine he7 _ ?_ | refine hf7 _ _ (by decide) ?_ | refine hn6 _ ?_ | refine he6 _ _ ?_ | refine hn5 _ ?_ | refine he5 _ _ ?_)
       refine hn4 _ (k + 1) (es.length - (k + 1)) (by omega) (by first | (simp only [go_sem, updAll_cons, updAll_nil, hst]; done) | with_reducible rfl | rfl) ?_
       exact ⟨hk2, rfl⟩
   · have d1 : decide (m.getD a 0 = (b : Int)) = false := decide_eq_false h1
     have hst := jL_no (N := N) m (es.take k) (a := a) (b := b) fun h => h1 h.1
     rw [← htk] at hst
     refine wlk_sdraw fun KY hKY => ?_
     simp only [go_sem, c_f62_r7, ints_get (show a < m.length by omega), ints_len, hl, haN, hbN, d1]
     refine hKY _ ?_
     refine wlk_cond0 (by first | rfl | (simp only [go_sem]; try simp (disch := omega) only [decide_eq_true, decide_eq_false])) ?_
     refine wlk_skip ?_
     repeat (first | refine hn7 _ ?_ | refine he7 _ ?_ | refine hf7 _ _ (by decide) ?_ | refine hn6 _ ?_ | refine he6 _ _ ?_ | refine hn5 _ ?_ | refine he5 _ _ ?_ | refine he4 _ _ ?_ | refine hn3 _ ?_ | refine he3 _ ?_ | refine hf3 _ _ (by decide) ?_ | refine hn2 _ ?_ | refine he2 _ _ ?_ | refine hn1 _ ?_ | refine he1 _ _ ?_)
     refine wlk_reg fun KY hKY => ?_
     simp only [go_sem, c_f62_r9, incS (show k < 4611686018427387904 by omega)]
     refine hKY _ ?_
     repeat (first | refine hn7 _ ?_ | refine he7 _ ?_ | refine hf7 _ _ (by decide) ?_ | refine hn6 _ ?_ | refine he6 _ _ ?_ | refine hn5 _ ?_ | refine he5 _ _ ?_)
     refine hn4 _ (k + 1) (es.length - (k + 1)) (by omega) (by first | (simp only [go_sem, updAll_cons, updAll_nil, hst]; done) | with_reducible rfl | rfl) ?_
     exact ⟨hk2, rfl⟩
 have hdx : decide ((k : Int) < (es.length : Int)) = false := decide_eq_false (by omega)
 refine wlk_sreg fun KY hKY => ?_
 simp only [go_sem, c_f62_r5, hdx]
 refine hKY _ ?_
 refine wlk_seq fun X8 hn8 he8 hr8 => ?_
 refine wlk_cond0 (by first | rfl | (simp only [go_sem]; try simp (disch := omega) only [decide_eq_true, decide_eq_false])) ?_
 refine wlk_exit ?_
 repeat (first | refine hn8 _ ?_ | refine he8 _ _ ?_ | refine he4 _ _ ?_ | refine hn3 _ ?_ | refine he3 _ ?_ | refine hf3 _ _ (by decide) ?_ | refine hn2 _ ?_ | refine he2 _ _ ?_ | refine hn1 _ ?_ | refine he1 _ _ ?_)
 obtain rfl : k = es.length := by omega
 rw [List.take_length]
 refine wlk_seq fun X9 hn9 he9 hr9 => ?_
 refine wlk_sreg fun KY hKY => ?_
 simp only [go_sem, c_f62_r10, ints_len, hl]
 refine hKY _ ?_
 refine wlk_blk fun X10 hn10 he10 hf10 hr10 => ?_
 try simp only [go_sem]
 refine wlk_lp (α := Nat) [8, 9, 60, 72] (fun v => [(59, .sc (.int .i64 (v : Int)))]) (fun v => []) (fun v q => v ≤ N ∧ q = N - v ∧ (∀ u, u < v → mOk es m u = true)) (0) (N) rfl (by first | (simp only [go_sem, updAll_cons, updAll_nil]; done) | with_reducible rfl | rfl) (⟨by omega, rfl, fun v h => by omega⟩) ?_
 rintro v q ⟨hv, rfl, hz⟩ X11 hn11 he11 hr11
 simp only [go_sem, updAll_cons, updAll_nil]
 rcases Nat.lt_or_ge v N with hv2 | hv2
 · have hdy : decide ((v : Int) < (N : Int)) = true := decide_eq_true (by omega)
   refine wlk_sreg fun KY hKY => ?_
   simp only [go_sem, c_f62_r11, hdy]
   refine hKY _ ?_
   refine wlk_seq fun X12 hn12 he12 hr12 => ?_
   refine wlk_cond1 (by first | rfl | (simp only [go_sem]; try simp (disch := omega) only [decide_eq_true, decide_eq_false])) ?_
   refine wlk_skip ?_
   repeat (first | refine hn12 _ ?_ | refine he12 _ _ ?_ | refine he11 _ _ ?_ | refine hn10 _ ?_ | refine he10 _ ?_ | refine hf10 _ _ (by decide) ?_ | refine hn9 _ ?_ | refine he9 _ _ ?_ | refine hn8 _ ?_ | refine he8 _ _ ?_)
   refine wlk_seq fun X13 hn13 he13 hr13 => ?_
   refine wlk_blk fun X14 hn14 he14 hf14 hr14 => ?_
   refine wlk_sreg fun KY hKY => ?_
   simp only [go_sem, c_f62_r12, ints_get (show v < m.length by omega), ints_len, hl, hv2]
   refine hKY _ ?_
   by_cases hw : m.getD v 0 = -1
   · have d1 : decide (m.getD v 0 ≠ -1) = false := decide_eq_false fun h => h hw
     have hok : mOk es m v = true := by unfold mOk; rw [decide_eq_true hw]; rfl
     refine wlk_sreg fun KY hKY => ?_
     simp only [go_sem, c_f62_r13, d1]
     refine hKY _ ?_
     refine wlk_cond0 (by first | rfl | (simp only [go_sem]; try simp (disch := omega) only [decide_eq_true, decide_eq_false])) ?_
     refine wlk_skip ?_
     repeat (first | refine hn14 _ ?_ | refine he14 _ ?_ | refine hf14 _ _ (by decide) ?_ | refine hn13 _ ?_ | refine he13 _ _ ?_ | refine hn12 _ ?_ | refine he12 _ _ ?_ | refine he11 _ _ ?_ | refine hn10 _ ?_ | refine he10 _ ?_ | refine hf10 _ _ (by decide) ?_ | refine hn9 _ ?_ | refine he9 _ _ ?_ | refine hn8 _ ?_ | refine he8 _ _ ?_)
     refine wlk_reg fun KY hKY => ?_
     simp only [go_sem, c_f62_r15, incS (show v < 4611686018427387904 by omega)]
     refine hKY _ ?_
     repeat (first | refine hn14 _ ?_ | refine he14 _ ?_ | refine hf14 _ _ (by decide) ?_ | refine hn13 _ ?_ | refine he13 _ _ ?_ | refine hn12 _ ?_ | refine he12 _ _ ?_)
     refine hn11 _ (v + 1) (N - (v + 1)) (by omega) (by first | (simp only [go_sem, updAll_cons, updAll_nil]; done) | with_reducible rfl | rfl) ?_
     refine ⟨hv2, rfl, fun u hu => ?_⟩
     rcases Nat.lt_or_ge u v with h3 | h3
     · exact hz u h3
     · obtain rfl : u = v := by omega
       exact hok
   · have d1 : decide (m.getD v 0 ≠ -1) = true := decide_eq_true hw
     have hj := jAt_ok g m hw
     have hjl := jL_len N m es
     have hg := bools_get (show v < (jL N m es).length by omega)
     rw [jL_get m es hv2, hj] at hg
     cases hok : mOk es m v with
     | true =>
       rw [hok] at hg
       refine wlk_sreg fun KY hKY => ?_
       simp only [go_sem, c_f62_r13, d1, hg, bools_len, hjl, hv2]
       refine hKY _ ?_
       refine wlk_cond0 (by first | rfl | (simp only [go_sem]; try simp (disch := omega) only [decide_eq_true, decide_eq_false])) ?_
       refine wlk_skip ?_
       repeat (first | refine hn14 _ ?_ | refine he14 _ ?_ | refine hf14 _ _ (by decide) ?_ | refine hn13 _ ?_ | refine he13 _ _ ?_ | refine hn12 _ ?_ | refine he12 _ _ ?_ | refine he11 _ _ ?_ | refine hn10 _ ?_ | refine he10 _ ?_ | refine hf10 _ _ (by decide) ?_ | refine hn9 _ ?_ | refine he9 _ _ ?_ | refine hn8 _ ?_ | refine he8 _ _ ?_)
       refine wlk_reg fun KY hKY => ?_
       simp only [go_sem, c_f62_r15, incS (show v < 4611686018427387904 by omega)]
       refine hKY _ ?_
       repeat (first | refine hn14 _ ?_ | refine he14 _ ?_ | refine hf14 _ _ (by decide) ?_ | refine hn13 _ ?_ | refine he13 _ _ ?_ | refine hn12 _ ?_ | refine he12 _ _ ?_)
       refine hn11 _ (v + 1) (N - (v + 1)) (by omega) (by first | (simp only [go_sem, updAll_cons, updAll_nil]; done) | with_reducible rfl | rfl) ?_
       refine ⟨hv2, rfl, fun u hu => ?_⟩
       rcases Nat.lt_or_ge u v with h3 | h3
       · exact hz u h3
       · obtain rfl : u = v := by omega
         exact hok
     | false =>
       rw [hok] at hg
       refine wlk_sreg fun KY hKY => ?_
       simp only [go_sem, c_f62_r13, d1, hg, bools_len, hjl, hv2]
       refine hKY _ ?_
       refine wlk_cond1 (by first | rfl | (simp only [go_sem]; try simp (disch := omega) only [decide_eq_true, decide_eq_false])) ?_
       refine wlk_sreg fun KY hKY => ?_
       simp only [go_sem, c_f62_r14]
       refine hKY _ ?_
       refine wlk_ret ?_
       repeat (first | refine hr14 _ ?_ | refine hr13 _ ?_ | refine hr12 _ ?_ | refine hr11 _ ?_ | refine hr10 _ ?_ | refine hr9 _ ?_ | refine hr8 _ ?_ | refine hr4 _ ?_ | refine hr3 _ ?_ | refine hr2 _ ?_ | refine hr1 _ ?_)
       simp only [go_sem]
       rw [all_no hv2 hok]
 have hdz : decide ((v : Int) < (N : Int)) = false := decide_eq_false (by omega)
 refine wlk_sreg fun KY hKY => ?_
 simp only [go_sem, c_f62_r11, hdz]
 refine hKY _ ?_
 refine wlk_seq fun X15 hn15 he15 hr15 => ?_
 refine wlk_cond0 (by first | rfl | (simp only [go_sem]; try simp (disch := omega) only [decide_eq_true, decide_eq_false])) ?_
 refine wlk_exit ?_
 repeat (first | refine hn15 _ ?_ | refine he15 _ _ ?_ | refine he11 _ _ ?_ | refine hn10 _ ?_ | refine he10 _ ?_ | refine hf10 _ _ (by decide) ?_ | refine hn9 _ ?_ | refine he9 _ _ ?_ | refine hn8 _ ?_ | refine he8 _ _ ?_ | refine he4 _ _ ?_ | refine hn3 _ ?_ | refine he3 _ ?_ | refine hf3 _ _ (by decide) ?_ | refine hn2 _ ?_ | refine he2 _ _ ?_ | refine hn1 _ ?_ | refine he1 _ _ ?_)
 obtain rfl : v = N := by omega
 refine wlk_sreg fun KY hKY => ?_
 simp only [go_sem, c_f62_r16]
 refine hKY _ ?_
 refine wlk_ret ?_
 repeat (first | refine hr15 _ ?_ | refine hr11 _ ?_ | refine hr10 _ ?_ | refine hr9 _ ?_ | refine hr8 _ ?_ | refine hr4 _ ?_ | refine hr3 _ ?_ | refine hr2 _ ?_ | refine hr1 _ ?_)
 simp only [go_sem]
 rw [show ((List.range v).all fun v => mOk es m v) = true from List.all_eq_true.2 fun u hu => hz u (List.mem_range.1 hu)]
end Go.Proofs.Ytkjppnofgmpeeaa

namespace Go.Ga.Gl
open Go Go.Ga
noncomputable def prt (n : Nat) (E : Nat → Nat → Prop) (x : Nat) : List Nat := (List.range n).filter fun v => decide (glab n E v = x)
theorem prt_mem {n : Nat} {E : Nat → Nat → Prop} {x v : Nat} : v ∈ prt n E x ↔ v < n ∧ glab n E v = x := by
 unfold prt; rw [List.mem_filter, List.mem_range, decide_eq_true_iff]
end Go.Ga.Gl
set_option maxRecDepth 100000
set_option maxHeartbeats 4000000
namespace Go.Proofs.Ytkjppnofgmpeeaa
open Go Go.Ga Go.Ga.Gl
noncomputable def glabs (N : Nat) (es : Es) : List Int := (List.range N).map fun v => (glab N (adj es) v : Int)
theorem labs_glabs {N : Nat} {es : Es} {m : List Int} {S : FS} (M : Mf N (adj es) (mf m)) (I : Inv N (adj es) (mf m) S) (L : Lk (adj es) S []) : labs N S = glabs N es := by
 apply List.map_congr_left
 intro v _
 have := done_lab M I L v
 unfold fLb
 rw [← this]
 split <;> rfl
theorem glabs_sel (N : Nat) (es : Es) (x : Nat) : ((List.range (glabs N es).length).filter fun v => decide ((glabs N es).getD v 0 = (x : Int))) = prt N (adj es) x := by
 have hl : (glabs N es).length = N := by simp [glabs]
 rw [hl]
 refine List.filter_congr fun v hv => ?_
 have hv := List.mem_range.1 hv
 have : (glabs N es).getD v 0 = (glab N (adj es) v : Int) := by simp [glabs, hv]
 rw [this]
 exact decide_eq_decide.2 ⟨fun h => by omega, fun h => by omega⟩
theorem mOk_mf {N : Nat} {es : Es} (g : GR N es) {m : List Int} (M : Mf N (adj es) (mf m)) (hml : m.length = N) : ((List.range N).all fun v => mOk es m v) = true := by
 rw [List.all_eq_true]
 intro v hv
 have hv := List.mem_range.1 hv
 unfold mOk
 rw [mf_get (by omega)]
 rcases M.at_ v hv with h | ⟨w, h, hw⟩
 · rw [h]; rfl
 · have hs := M.sy v w h
   have hadj := (M.ne v w h).2
   obtain ⟨_, _, hne⟩ := M.el v w hadj
   rw [h, Int.toNat_natCast, mf_get (by omega), hs, decide_eq_true (rfl : (v : Int) = v), Bool.and_true]
   have hmem : turnI (v : Int) (w : Int) ∈ castE es := by
    unfold turnI
    have lt : ∀ a b : Nat, (a, b) ∈ es → a < b := fun a b h => by
     exact (g.ok _ h).1
    rcases hadj with h | h
    · have := lt _ _ h
      rw [if_neg (by omega)]
      exact List.mem_map.2 ⟨(v, w), h, rfl⟩
    · have := lt _ _ h
      rw [if_pos (by omega)]
      exact List.mem_map.2 ⟨(w, v), h, rfl⟩
   rw [decide_eq_true hmem, Bool.or_true]
theorem Lg.no {N : Nat} {E : Nat → Nat → Prop} {mt : Nat → Int} (L : Lg N E mt) {l : List Nat} (A : Aug N E mt l) : False := by
 obtain ⟨M2, hfr, r, hrn, hr1, hr2⟩ := turn_mf L.1 A (mt' := fun u => if u ∈ l then (par l u : Int) else mt u) (fun u hu => if_pos hu) (fun u hu => if_neg hu)
 have h1 := fre_less hrn hr1 hr2 hfr
 have h2 := L.2 _ M2
 omega
theorem path_ok {N : Nat} {es : Es} (g : GR N es) (m : List Int) (hml : m.length = N) (hL : Lg N (adj es) (mf m)) : ACalls Try.prog [] n_f49 [.agg [.sc (.int .i64 (N : Int)), .imm 2 (twos (castE es))], .imm 1 (ints m)] [] fun r h' => r = .tup [.sc (.slice none 0 0), .own (some 1) (ints (glabs N es)), .sc (.int .i64 0)] ∧ h' = [] := by
 have hN := g.hn
 have hr := rightB_GR g
 have M := hL.1
 have hm := mOk_mf g M hml
 have hS : ACalls Try.prog [] n_f57 [.imm 1 (rowsI (near N es)), .imm 1 (ints m)] [] fun r h' => h' = [] ∧ ∃ lk : Int, r = .tup [.sc (.slice none 0 0), .own (some 1) (ints (glabs N es)), .sc (.int .i64 lk)] := by
  refine (search_ok (near N es) (near_len N es) hml hN (near_r g) M (near_e es)).mono ?_
  rintro r h' ⟨rfl, lk, ⟨l, hA, rfl⟩ | ⟨S, hI, hLk, rfl⟩⟩
  · exact (Lg.no hL hA).elim
  · exact ⟨rfl, lk, by rw [labs_glabs M hI hLk]⟩
 refine go_f49 rfl ?_
 unfold c_f49 v_f49
 refine wlk_sreg fun KY hKY => ?_
 simp only [go_sem, c_f49_r0]
 refine hKY _ ?_
 refine wlk_seq fun X1 hn1 he1 hr1 => ?_
 refine wlk_blk fun X2 hn2 he2 hf2 hr2 => ?_
 refine wlk_sreg fun KY hKY => ?_
 simp only [go_sem, c_f49_r1]
 refine call_view rfl (by simp only [go_sem] <;> rfl) ((right_ok N (castE es)).mono ?_)
 rintro rr hh ⟨rfl, rfl⟩
 refine ⟨rfl, rfl, rfl, ?_⟩
 simp only [go_sem, hr]
 refine hKY _ ?_
 refine wlk_cond0 (by first | rfl | (simp only [go_sem]; try simp (disch := omega) only [decide_eq_true, decide_eq_false])) ?_
 refine wlk_sreg fun KY hKY => ?_
 simp only [go_sem, c_f49_r3]
 refine call_view rfl (by simp only [go_sem] <;> rfl) ((mright_yes g m hml).mono ?_)
 rintro rr hh ⟨rfl, rfl⟩
 refine ⟨rfl, rfl, rfl, ?_⟩
 simp only [go_sem, hm]
 refine hKY _ ?_
 refine wlk_cond0 (by first | rfl | (simp only [go_sem]; try simp (disch := omega) only [decide_eq_true, decide_eq_false])) ?_
 refine wlk_skip ?_
 repeat (first | refine hn2 _ ?_ | refine he2 _ ?_ | refine hf2 _ _ (by decide) ?_ | refine hn1 _ ?_ | refine he1 _ _ ?_)
 refine wlk_sreg fun KY hKY => ?_
 simp only [go_sem, c_f49_r5]
 apply call_gen [] [] true none rfl
 iterate 8 (first | (simp only [go_sem, watchIn] <;> rfl) | rfl)
 refine (lists_ok g).mono ?_
 rintro _ _ ⟨rfl, rfl⟩
 refine ⟨Nat.le_of_ble_eq_true rfl, (fun _ => by simp only [go_sem, flatH, and_self]), ?_⟩
 simp only [go_sem, callOut, AState.after]
 apply call_gen [] [] true none rfl
 iterate 8 (first | (simp only [go_sem, watchIn] <;> rfl) | rfl)
 refine (hS).mono ?_
 rintro _ _ ⟨rfl, lk, rfl⟩
 refine ⟨Nat.le_of_ble_eq_true rfl, (fun _ => by simp only [go_sem, flatH, and_self]), ?_⟩
 simp only [go_sem, callOut, AState.after]
 refine hKY _ ?_
 refine wlk_sreg fun KY hKY => ?_
 simp only [go_sem, c_f49_r6]
 refine hKY _ ?_
 refine wlk_ret ?_
 repeat (first | refine hr2 _ ?_ | refine hr1 _ ?_)
 simp only [go_sem]
end Go.Proofs.Ytkjppnofgmpeeaa
set_option maxRecDepth 100000
set_option maxHeartbeats 4000000
namespace Go.Proofs.Ytkjppnofgmpeeaa
open Go Go.Ga Go.Ga.Gl
def sel (φ : Nat → Bool) (k : Nat) : List Nat := (List.range k).filter φ
theorem sel_len (φ : Nat → Bool) (k : Nat) : (sel φ k).length ≤ k := Nat.le_trans (List.length_filter_le _ _) (by simp)
theorem sel_step (φ : Nat → Bool) (k : Nat) : sel φ (k + 1) = sel φ k ++ if φ k = true then [k] else [] := by
 unfold sel
 rw [List.range_succ, List.filter_append]; congr 1; simp [List.filter_cons]
end Go.Proofs.Ytkjppnofgmpeeaa
set_option maxRecDepth 100000
set_option maxHeartbeats 4000000
namespace Go.Proofs.Ytkjppnofgmpeeaa
open Go Go.Ga Go.Ga.Gl
theorem blabels_ok {N : Nat} {es : Es} (g : GR N es) : ACalls Try.prog [] n_f29 [.agg [.sc (.int .i64 (N : Int)), .imm 2 (twos (castE es))]] [] fun r h' => ∃ (m : List Int), m.length = N ∧ (∃ D A bs, Fc N (adj es) (mf m) D A bs) ∧ ((N = 0 ∧ r = .tup [.own (some 1) (ints (glabs N es)), .own (some 1) [], .sc (.int .i64 0)] ∧ h' = []) ∨ (0 < N ∧ r = .tup [.own (some 1) (ints (glabs N es)), .sl 0 0 N 1, .sc (.int .i64 0)] ∧ h' = [some (ints m)])) := by
 have hP := fun m hml hL => path_ok g m hml hL
 refine go_f29 rfl ?_
 unfold c_f29 v_f29
 refine wlk_sreg fun KY hKY => ?_
 simp only [go_sem, c_f29_r0]
 refine hKY _ ?_
 refine wlk_sreg fun KY hKY => ?_
 simp only [go_sem, c_f29_r1]
 apply call_gen [] [] false none rfl
 iterate 8 (first | (simp only [go_sem, watchIn] <;> rfl) | rfl)
 refine (largest_ok g).mono ?_
 rintro _ _ ⟨m, S, a, b, hml, M, I, L, ⟨h0, rfl, rfl⟩ | ⟨h0, rfl, rfl⟩⟩
 · have hLg := done_lg M I L
   have hm0 : ints m = [] := by
    rw [List.length_eq_zero_iff.1 (hml.trans h0)]; rfl
   have hP1 := hP m hml hLg
   rw [hm0] at hP1
   refine ⟨Nat.le_of_ble_eq_true rfl, (fun hh => by cases hh), ?_⟩
   simp only [go_sem, callOut, AState.after]
   refine hKY _ ?_
   refine wlk_seq fun X1 hn1 he1 hr1 => ?_
   refine wlk_sreg fun KY hKY => ?_
   simp only [go_sem, c_f29_r2]
   refine hKY _ ?_
   refine wlk_cond0 (by first | rfl | (simp only [go_sem]; try simp (disch := omega) only [decide_eq_true, decide_eq_false])) ?_
   refine wlk_skip ?_
   repeat (first | refine hn1 _ ?_ | refine he1 _ _ ?_)
   refine wlk_sreg fun KY hKY => ?_
   simp only [go_sem, c_f29_r4]
   apply call_gen [] [] true none rfl
   iterate 8 (first | (simp only [go_sem, watchIn] <;> rfl) | rfl)
   refine (hP1).mono ?_
   rintro _ _ ⟨rfl, rfl⟩
   refine ⟨Nat.le_of_ble_eq_true rfl, (fun _ => by simp only [go_sem, flatH, and_self]), ?_⟩
   simp only [go_sem, callOut, AState.after]
   refine hKY _ ?_
   refine wlk_sreg fun KY hKY => ?_
   simp only [go_sem, c_f29_r5]
   refine hKY _ ?_
   refine wlk_ret ?_
   repeat (first | refine hr1 _ ?_)
   simp only [go_sem]
   exact ⟨m, hml, ⟨_, _, _, done_fc M I L⟩, .inl h0⟩
 · have hLg := done_lg M I L
   have hP1 := hP m hml hLg
   have htk : List.take N (ints m) = ints m := List.take_of_length_le (by rw [ints_len]; omega)
   refine ⟨Nat.le_of_ble_eq_true rfl, (fun hh => by cases hh), ?_⟩
   simp only [go_sem, callOut, AState.after]
   refine hKY _ ?_
   refine wlk_seq fun X2 hn2 he2 hr2 => ?_
   refine wlk_sreg fun KY hKY => ?_
   simp only [go_sem, c_f29_r2]
   refine hKY _ ?_
   refine wlk_cond0 (by first | rfl | (simp only [go_sem]; try simp (disch := omega) only [decide_eq_true, decide_eq_false])) ?_
   refine wlk_skip ?_
   repeat (first | refine hn2 _ ?_ | refine he2 _ _ ?_)
   refine wlk_sreg fun KY hKY => ?_
   simp only [go_sem, c_f29_r4]
   refine call_view rfl (by simp only [go_sem, hml, Nat.le_refl, htk] <;> rfl) ((hP1).mono ?_)
   rintro rr hh ⟨rfl, rfl⟩
   refine ⟨?_, ?_, ?_, ?_⟩
   iterate 3 (first | rfl | simp only [go_sem])
   simp only [go_sem]
   refine hKY _ ?_
   refine wlk_sreg fun KY hKY => ?_
   simp only [go_sem, c_f29_r5]
   refine hKY _ ?_
   refine wlk_ret ?_
   repeat (first | refine hr2 _ ?_)
   simp only [go_sem]
   exact ⟨m, hml, ⟨_, _, _, done_fc M I L⟩, .inr ⟨h0, rfl⟩⟩
def selZ (l : List Int) (x : Int) : List Nat := sel (fun v => decide (l.getD v 0 = x)) l.length
theorem bsuch_ok (l : List Int) (x : Int) (hl : l.length ≤ 100000) : ACalls Try.prog [] n_f50 [.imm 1 (ints l), .sc (.int .i64 x)] [] fun r h' => r = .own (some 1) (nats (selZ l x)) ∧ h' = [] := by
 refine go_f50 rfl ?_
 unfold c_f50 v_f50
 refine wlk_sreg fun KY hKY => ?_
 simp only [go_sem, c_f50_r0]
 refine hKY _ ?_
 refine wlk_sreg fun KY hKY => ?_
 simp only [go_sem, c_f50_r1]
 refine hKY _ ?_
 refine sem_nil [0, 5] 1 (by simp only [go_sem]) ?_
 simp only [go_sem]
 rw [show AVal.own (some 1) [] = .own (some 1) (nats (sel (fun v => decide (l.getD v 0 = x)) 0)) from rfl]
 refine wlk_seq fun X1 hn1 he1 hr1 => ?_
 refine wlk_sreg fun KY hKY => ?_
 simp only [go_sem, c_f50_r2, ints_len]
 refine hKY _ ?_
 refine wlk_blk fun X2 hn2 he2 hf2 hr2 => ?_
 try simp only [go_sem]
 refine wlk_lp (α := Nat) [6, 7, 11, 17] (fun k => [(5, .own (some 1) (nats (sel (fun v => decide (l.getD v 0 = x)) k))), (10, .sc (.int .i64 (k : Int)))]) (fun k => []) (fun k q => k ≤ l.length ∧ q = l.length - k) (0) (l.length) rfl (by first | (simp only [go_sem, updAll_cons, updAll_nil]; done) | with_reducible rfl | rfl) (⟨Nat.zero_le _, rfl⟩) ?_
 rintro k q ⟨hk, rfl⟩ X3 hn3 he3 hr3
 simp only [go_sem, updAll_cons, updAll_nil]
 have hsl := sel_len (fun v => decide (l.getD v 0 = x)) k
 have hst := sel_step (fun v => decide (l.getD v 0 = x)) k
 rcases Nat.lt_or_ge k l.length with hk2 | hk2
 · have hdx : decide ((k : Int) < (l.length : Int)) = true := decide_eq_true (by omega)
   have hg : (ints l)[k]? = some (.sc (.int .i64 (l.getD k 0))) := ints_get hk2
   refine wlk_sreg fun KY hKY => ?_
   simp only [go_sem, c_f50_r3, hdx]
   refine hKY _ ?_
   refine wlk_seq fun X4 hn4 he4 hr4 => ?_
   refine wlk_cond1 (by first | rfl | (simp only [go_sem]; try simp (disch := omega) only [decide_eq_true, decide_eq_false])) ?_
   refine wlk_skip ?_
   repeat (first | refine hn4 _ ?_ | refine he4 _ _ ?_ | refine he3 _ _ ?_ | refine hn2 _ ?_ | refine he2 _ ?_ | refine hf2 _ _ (by decide) ?_ | refine hn1 _ ?_ | refine he1 _ _ ?_)
   refine wlk_seq fun X5 hn5 he5 hr5 => ?_
   refine wlk_blk fun X6 hn6 he6 hf6 hr6 => ?_
   refine wlk_sreg fun KY hKY => ?_
   simp only [go_sem, c_f50_r4, hg, ints_len, hk2]
   refine hKY _ ?_
   by_cases hx : l.getD k 0 = x
   · have hd : decide (l.getD k 0 = x) = true := decide_eq_true hx
     rw [hd, if_pos rfl] at hst
     refine wlk_sreg fun KY hKY => ?_
     simp only [go_sem, c_f50_r5, hd]
     refine hKY _ ?_
     refine wlk_cond1 (by first | rfl | (simp only [go_sem]; try simp (disch := omega) only [decide_eq_true, decide_eq_false])) ?_
     refine wlk_reg fun KY hKY => ?_
     simp only [go_sem, c_f50_r6, nats_snoc, nats_len, ← hst, (show ((sel (fun v => decide (l.getD v 0 = x)) k).length + 1) * 8 ≤ 140737488355328 by omega)]
     refine hKY _ ?_
     repeat (first | refine hn6 _ ?_ | refine he6 _ ?_ | refine hf6 _ _ (by decide) ?_ | refine hn5 _ ?_ | refine he5 _ _ ?_ | refine hn4 _ ?_ | refine he4 _ _ ?_ | refine he3 _ _ ?_ | refine hn2 _ ?_ | refine he2 _ ?_ | refine hf2 _ _ (by decide) ?_ | refine hn1 _ ?_ | refine he1 _ _ ?_)
     refine wlk_reg fun KY hKY => ?_
     simp only [go_sem, c_f50_r7, incS (show k < 4611686018427387904 by omega)]
     refine hKY _ ?_
     repeat (first | refine hn6 _ ?_ | refine he6 _ ?_ | refine hf6 _ _ (by decide) ?_ | refine hn5 _ ?_ | refine he5 _ _ ?_ | refine hn4 _ ?_ | refine he4 _ _ ?_)
     refine hn3 _ (k + 1) (l.length - (k + 1)) (by omega) (by first | (simp only [go_sem, updAll_cons, updAll_nil]; done) | with_reducible rfl) ?_
     exact ⟨hk2, rfl⟩
   · have hd : decide (l.getD k 0 = x) = false := decide_eq_false hx
     rw [hd, if_neg (by simp), List.append_nil] at hst
     refine wlk_sreg fun KY hKY => ?_
     simp only [go_sem, c_f50_r5, hd]
     refine hKY _ ?_
     refine wlk_cond0 (by first | rfl | (simp only [go_sem]; try simp (disch := omega) only [decide_eq_true, decide_eq_false])) ?_
     refine wlk_skip ?_
     repeat (first | refine hn6 _ ?_ | refine he6 _ ?_ | refine hf6 _ _ (by decide) ?_ | refine hn5 _ ?_ | refine he5 _ _ ?_ | refine hn4 _ ?_ | refine he4 _ _ ?_ | refine he3 _ _ ?_ | refine hn2 _ ?_ | refine he2 _ ?_ | refine hf2 _ _ (by decide) ?_ | refine hn1 _ ?_ | refine he1 _ _ ?_)
     refine wlk_reg fun KY hKY => ?_
     simp only [go_sem, c_f50_r7, incS (show k < 4611686018427387904 by omega)]
     refine hKY _ ?_
     repeat (first | refine hn6 _ ?_ | refine he6 _ ?_ | refine hf6 _ _ (by decide) ?_ | refine hn5 _ ?_ | refine he5 _ _ ?_ | refine hn4 _ ?_ | refine he4 _ _ ?_)
     refine hn3 _ (k + 1) (l.length - (k + 1)) (by omega) (by first | (simp only [go_sem, updAll_cons, updAll_nil, hst]; done) | with_reducible rfl) ?_
     exact ⟨hk2, rfl⟩
 have hdx : decide ((k : Int) < (l.length : Int)) = false := decide_eq_false (by omega)
 obtain rfl : k = l.length := by omega
 refine wlk_sreg fun KY hKY => ?_
 simp only [go_sem, c_f50_r3, hdx]
 refine hKY _ ?_
 refine wlk_seq fun X7 hn7 he7 hr7 => ?_
 refine wlk_cond0 (by first | rfl | (simp only [go_sem]; try simp (disch := omega) only [decide_eq_true, decide_eq_false])) ?_
 refine wlk_exit ?_
 repeat (first | refine hn7 _ ?_ | refine he7 _ _ ?_ | refine he3 _ _ ?_ | refine hn2 _ ?_ | refine he2 _ ?_ | refine hf2 _ _ (by decide) ?_ | refine hn1 _ ?_ | refine he1 _ _ ?_)
 refine wlk_sreg fun KY hKY => ?_
 simp only [go_sem, c_f50_r8]
 refine hKY _ ?_
 refine wlk_ret ?_
 repeat (first | refine hr7 _ ?_ | refine hr3 _ ?_ | refine hr2 _ ?_ | refine hr1 _ ?_)
 simp only [go_sem]
 rfl
theorem lsuch_ok (l : List Int) (x : Int) (hl : l.length ≤ 100000) : ACalls Try.prog [] n_f30 [.imm 1 (ints l), .sc (.int .i64 x)] [] fun r h' => r = .own (some 1) (nats (selZ l x)) ∧ h' = [] := by
 refine go_f30 rfl ?_
 unfold c_f30 v_f30
 refine wlk_sreg fun KY hKY => ?_
 simp only [go_sem, c_f30_r0]
 refine hKY _ ?_
 refine wlk_sreg fun KY hKY => ?_
 simp only [go_sem, c_f30_r1]
 apply call_gen [] [] false none rfl
 iterate 8 (first | (simp only [go_sem, watchIn] <;> rfl) | rfl)
 refine (bsuch_ok l x hl).mono ?_
 rintro _ _ ⟨rfl, rfl⟩
 refine ⟨Nat.le_of_ble_eq_true rfl, (fun hh => by cases hh), ?_⟩
 simp only [go_sem, callOut, AState.after]
 refine hKY _ ?_
 refine wlk_ret ?_
 simp only [go_sem]
theorem gof_ok {N : Nat} {es : Es} (g : GR N es) : ACalls Try.prog [] n_f11 [.agg [.sc (.int .i64 (N : Int)), .imm 2 (twos (castE es))]] [] fun r h' => r = .tup [.agg [.imm 1 (nats (prt N (adj es) 1)), .imm 1 (nats (prt N (adj es) 2)), .imm 1 (nats (prt N (adj es) 0))], .sc (.int .i64 0)] ∧ (∃ mt D A bs, Fc N (adj es) mt D A bs) ∧ h' = [] := by
 refine ACalls.trim ?_
 have hN := g.hn
 have hl : (glabs N es).length ≤ 100000 := by simp [glabs]; omega
 have h1 := lsuch_ok (glabs N es) (1 : Nat) hl
 have h2 := lsuch_ok (glabs N es) (2 : Nat) hl
 have hC := lsuch_ok (glabs N es) (0 : Nat) hl
 rw [show selZ (glabs N es) (1 : Nat) = prt N (adj es) 1 from glabs_sel N es 1] at h1
 rw [show selZ (glabs N es) (2 : Nat) = prt N (adj es) 2 from glabs_sel N es 2] at h2
 rw [show selZ (glabs N es) (0 : Nat) = prt N (adj es) 0 from glabs_sel N es 0] at hC
 refine go_f11 rfl ?_
 unfold c_f11 v_f11
 refine wlk_sreg fun KY hKY => ?_
 simp only [go_sem, c_f11_r0]
 refine hKY _ ?_
 refine wlk_sreg fun KY hKY => ?_
 simp only [go_sem, c_f11_r1]
 apply call_gen [] [] false none rfl
 iterate 8 (first | (simp only [go_sem, watchIn] <;> rfl) | rfl)
 refine (blabels_ok g).mono ?_
 rintro _ _ ⟨m, hml, ⟨D, A, bs, hF⟩, ⟨h0, rfl, rfl⟩ | ⟨h0, rfl, rfl⟩⟩
 · refine ⟨Nat.le_of_ble_eq_true rfl, (fun hh => by cases hh), ?_⟩
   simp only [go_sem, callOut, AState.after]
   refine hKY _ ?_
   refine wlk_seq fun X1 hn1 he1 hr1 => ?_
   refine wlk_sreg fun KY hKY => ?_
   simp only [go_sem, c_f11_r2]
   refine hKY _ ?_
   refine wlk_cond0 (by first | rfl | (simp only [go_sem]; try simp (disch := omega) only [decide_eq_true, decide_eq_false])) ?_
   refine wlk_skip ?_
   repeat (first | refine hn1 _ ?_ | refine he1 _ _ ?_)
   refine sem_freeze [0, 4] (by simp only [go_sem]; rfl) ?_
   simp only [go_sem]
   refine wlk_sreg fun KY hKY => ?_
   simp only [go_sem, c_f11_r4]
   refine hKY _ ?_
   refine wlk_sreg fun KY hKY => ?_
   simp only [go_sem, c_f11_r5]
   apply call_gen [] [] false none rfl
   iterate 8 (first | (simp only [go_sem, watchIn] <;> rfl) | rfl)
   refine (h1).mono ?_
   rintro _ _ ⟨rfl, rfl⟩
   refine ⟨Nat.le_of_ble_eq_true rfl, (fun hh => by cases hh), ?_⟩
   simp only [go_sem, callOut, AState.after]
   apply call_gen [] [] false none rfl
   iterate 8 (first | (simp only [go_sem, watchIn] <;> rfl) | rfl)
   refine (h2).mono ?_
   rintro _ _ ⟨rfl, rfl⟩
   refine ⟨Nat.le_of_ble_eq_true rfl, (fun hh => by cases hh), ?_⟩
   simp only [go_sem, callOut, AState.after]
   apply call_gen [] [] false none rfl
   iterate 8 (first | (simp only [go_sem, watchIn] <;> rfl) | rfl)
   refine (hC).mono ?_
   rintro _ _ ⟨rfl, rfl⟩
   refine ⟨Nat.le_of_ble_eq_true rfl, (fun hh => by cases hh), ?_⟩
   simp only [go_sem, callOut, AState.after]
   refine hKY _ ?_
   refine sem_freeze [0, 2, 0] (by simp only [go_sem]; rfl) ?_
   simp only [go_sem]
   refine sem_freeze [0, 2, 1] (by simp only [go_sem]; rfl) ?_
   simp only [go_sem]
   refine sem_freeze [0, 2, 2] (by simp only [go_sem]; rfl) ?_
   simp only [go_sem]
   refine wlk_ret ?_
   repeat (first | refine hr1 _ ?_)
   simp only [go_sem]
   exact ⟨_, _, _, _, hF⟩
 · refine ⟨Nat.le_of_ble_eq_true rfl, (fun hh => by cases hh), ?_⟩
   simp only [go_sem, callOut, AState.after]
   refine hKY _ ?_
   refine wlk_seq fun X2 hn2 he2 hr2 => ?_
   refine wlk_sreg fun KY hKY => ?_
   simp only [go_sem, c_f11_r2]
   refine hKY _ ?_
   refine wlk_cond0 (by first | rfl | (simp only [go_sem]; try simp (disch := omega) only [decide_eq_true, decide_eq_false])) ?_
   refine wlk_skip ?_
   repeat (first | refine hn2 _ ?_ | refine he2 _ _ ?_)
   refine sem_freeze [0, 4] (by simp only [go_sem]; rfl) ?_
   simp only [go_sem]
   refine wlk_sreg fun KY hKY => ?_
   simp only [go_sem, c_f11_r4]
   refine hKY _ ?_
   refine wlk_sreg fun KY hKY => ?_
   simp only [go_sem, c_f11_r5]
   apply call_gen [] [] false none rfl
   iterate 8 (first | (simp only [go_sem, watchIn] <;> rfl) | rfl)
   refine (h1).mono ?_
   rintro _ _ ⟨rfl, rfl⟩
   refine ⟨Nat.le_of_ble_eq_true rfl, (fun hh => by cases hh), ?_⟩
   simp only [go_sem, callOut, AState.after]
   apply call_gen [] [] false none rfl
   iterate 8 (first | (simp only [go_sem, watchIn] <;> rfl) | rfl)
   refine (h2).mono ?_
   rintro _ _ ⟨rfl, rfl⟩
   refine ⟨Nat.le_of_ble_eq_true rfl, (fun hh => by cases hh), ?_⟩
   simp only [go_sem, callOut, AState.after]
   apply call_gen [] [] false none rfl
   iterate 8 (first | (simp only [go_sem, watchIn] <;> rfl) | rfl)
   refine (hC).mono ?_
   rintro _ _ ⟨rfl, rfl⟩
   refine ⟨Nat.le_of_ble_eq_true rfl, (fun hh => by cases hh), ?_⟩
   simp only [go_sem, callOut, AState.after]
   refine hKY _ ?_
   refine sem_freeze [0, 2, 0] (by simp only [go_sem]; rfl) ?_
   simp only [go_sem]
   refine sem_freeze [0, 2, 1] (by simp only [go_sem]; rfl) ?_
   simp only [go_sem]
   refine sem_freeze [0, 2, 2] (by simp only [go_sem]; rfl) ?_
   simp only [go_sem]
   refine wlk_ret ?_
   repeat (first | refine hr2 _ ?_)
   simp only [go_sem]
   exact ⟨_, _, _, _, hF⟩
end Go.Proofs.Ytkjppnofgmpeeaa
set_option maxRecDepth 100000
set_option maxHeartbeats 8000000
namespace Go.Proofs.Ytkjppnofgmpeeaa
open Go Go.Ga Go.Ga.Gl
end Go.Proofs.Ytkjppnofgmpeeaa
set_option maxRecDepth 100000
set_option maxHeartbeats 4000000
namespace Go.Proofs.Ytkjppnofgmpeeaa
open Go Go.Ga Go.Ga.Gl
theorem htriple_ok (d1 a1 c1 d2 a2 c2 : List Nat) (h1 : d1.length ≤ 1000000000) (h2 : a1.length ≤ 1000000000) (h3 : c1.length ≤ 1000000000) :
    ACalls Try.prog [] n_f17 [.agg [.imm 1 (nats d1), .imm 1 (nats a1), .imm 1 (nats c1)], .agg [.imm 1 (nats d2), .imm 1 (nats a2), .imm 1 (nats c2)]] [] fun r h' => r = .sc (.bool (decide (d1 = d2) && decide (a1 = a2) && decide (c1 = c2))) ∧ h' = [] := by
  have p1 := plainn_ok d1 d2 h1
  have p2 := plainn_ok a1 a2 h2
  have p3 := plainn_ok c1 c2 h3
  generalize decide (d1 = d2) = x at p1 ⊢
  generalize decide (a1 = a2) = y at p2 ⊢
  generalize decide (c1 = c2) = z at p3 ⊢
  refine go_f17 rfl ?_
  unfold c_f17 v_f17
  refine wlk_sreg fun KY hKY => ?_
  simp only [go_sem, c_f17_r0]
  refine hKY _ ?_
  refine wlk_sreg fun KY hKY => ?_
  simp only [go_sem, c_f17_r1]
  refine call_view rfl (by simp only [go_sem] <;> rfl) ((p1).mono ?_)
  rintro rr hh ⟨rfl, rfl⟩
  refine ⟨rfl, rfl, rfl, ?_⟩
  simp only [go_sem]
  cases x with
  | false =>
    simp only [go_sem]
    refine hKY _ ?_
    refine wlk_ret ?_
    simp only [go_sem]
  | true =>
    simp only [go_sem]
    refine call_view rfl (by simp only [go_sem] <;> rfl) ((p2).mono ?_)
    rintro rr hh ⟨rfl, rfl⟩
    refine ⟨rfl, rfl, rfl, ?_⟩
    simp only [go_sem]
    cases y with
    | false =>
      simp only [go_sem]
      refine hKY _ ?_
      refine wlk_ret ?_
      simp only [go_sem]
    | true =>
      simp only [go_sem]
      refine call_view rfl (by simp only [go_sem] <;> rfl) ((p3).mono ?_)
      rintro rr hh ⟨rfl, rfl⟩
      refine ⟨rfl, rfl, rfl, ?_⟩
      simp only [go_sem]
      refine hKY _ ?_
      refine wlk_ret ?_
      simp only [go_sem]
def starE : Es := [(0, 1), (0, 2)]
theorem star_gr : GR 3 starE := GR_rightB (by decide)
def starM (x : Nat) (u : Nat) : Int := if u = 0 then (x : Int) else if u = x then 0 else -1
theorem star_m {x : Nat} (hx : x = 1 ∨ x = 2) : Mf 3 (adj starE) (starM x) := by
 have M0 : Mf 3 (adj starE) (fun _ => -1) := star_gr.none fun _ => rfl
 refine M0.add (v := 0) (w := x) rfl rfl ?_ (if_pos rfl) ?_ fun u h1 h2 => ?_
 · rcases hx with rfl | rfl <;> simp [adj, starE]
 · show (if x = 0 then (x : Int) else if x = x then 0 else -1) = ((0 : Nat) : Int)
   rw [if_neg (by omega), if_pos rfl]; rfl
 · show (if u = 0 then (x : Int) else if u = x then 0 else -1) = -1
   rw [if_neg h1, if_neg h2]
theorem star_fc : Fc 3 (adj starE) (starM 1) (fun v => decide (v = 1 ∨ v = 2)) (fun v => decide (v = 0)) (fun v => v) where
 m := star_m (.inl rfl)
 c := {
  dn := fun v h => by have := of_decide_eq_true h; omega
  an := fun v h => by
   have := of_decide_eq_true h
   subst this
   exact ⟨by omega, by decide⟩
  ed := fun v w h hE => by
   have hv := of_decide_eq_true h
   refine .inl (decide_eq_true ?_)
   simp [adj, starE] at hE
   omega
  db := fun v h => ⟨h, rfl⟩
  fr := fun v hv h => by
   refine ⟨decide_eq_true ?_, rfl⟩
   unfold starM at h
   by_cases h0 : v = 0
   · rw [if_pos h0] at h; omega
   · omega
  am := fun a h => by
   have := of_decide_eq_true h
   subst this
   exact ⟨1, rfl, by decide, rfl⟩
  dm := fun v h hb => absurd rfl hb
  bb := fun b m h hb hm => by
   have hv := of_decide_eq_true h
   refine decide_eq_true ?_
   unfold starM at hm
   rcases hv with rfl | rfl
   · simp at hm; omega
   · simp at hm }
 d := fun v h => by
  have hv := of_decide_eq_true h
  rcases hv with rfl | rfl
  · exact ⟨starM 2, star_m (.inr rfl), by decide, rfl⟩
  · exact ⟨starM 1, star_m (.inl rfl), by decide, rfl⟩
 a := fun v h => by
  have := of_decide_eq_true h
  subst this
  exact ⟨1, by decide, by simp [adj, starE]⟩
theorem star_prt (k : Nat) : prt 3 (adj starE) k = (List.range 3).filter fun v => decide ((if decide (v = 1 ∨ v = 2) = true then 1 else if decide (v = 0) = true then 2 else 0) = k) :=
 List.filter_congr fun v _ => by rw [star_fc.lab v]
theorem awake14_ok : ACalls Try.prog [] n_f10 [] [] fun r h' => r = .sc (.bool true) ∧ h' = [] := by
 have hG := gof_ok star_gr
 rw [star_prt 1, star_prt 2, star_prt 0, show ((List.range 3).filter fun v => decide ((if decide (v = 1 ∨ v = 2) = true then 1 else if decide (v = 0) = true then 2 else 0) = 1)) = [1, 2] by decide, show ((List.range 3).filter fun v => decide ((if decide (v = 1 ∨ v = 2) = true then 1 else if decide (v = 0) = true then 2 else 0) = 2)) = [0] by decide, show ((List.range 3).filter fun v => decide ((if decide (v = 1 ∨ v = 2) = true then 1 else if decide (v = 0) = true then 2 else 0) = 0)) = [] by decide] at hG
 have hT := (htriple_ok [1, 2] [0] [] [1, 2] [0] [] (by simp) (by simp) (by simp)).sees (.cons (.refl _) (.cons ((SeesL.cons (.refl _) (.cons (.refl _) (.cons (.imm 1) .nil))).agg) .nil))
 rw [show ((3 : Nat) : Int) = 3 from rfl, show twos (castE starE) = [.sc (.int .i64 0), .sc (.int .i64 1), .sc (.int .i64 0), .sc (.int .i64 2)] from rfl] at hG
 rw [show nats [1, 2] = [.sc (.int .i64 1), .sc (.int .i64 2)] from rfl, show nats [0] = [.sc (.int .i64 0)] from rfl] at hG hT
 refine go_f10 rfl ?_
 unfold c_f10 v_f10
 refine wlk_sreg fun KY hKY => ?_
 simp only [go_sem, c_f10_r0]
 refine hKY _ ?_
 refine wlk_sreg fun KY hKY => ?_
 simp only [go_sem, c_f10_r1]
 have hG2 : ACalls Try.prog [] n_f11 [.agg [.sc (.int .i64 3), .own (some 2) [.sc (.int .i64 0), .sc (.int .i64 1), .sc (.int .i64 0), .sc (.int .i64 2)]]] [] _ := ACalls.fzArgs hG
 apply call_gen [.mv] [] false none rfl
 iterate 8 (first | (simp only [go_sem, watchIn] <;> rfl) | rfl)
 refine (hG2).mono ?_
 rintro _ _ ⟨rfl, _, rfl⟩
 refine ⟨Nat.le_of_ble_eq_true rfl, (fun hh => by cases hh), ?_⟩
 simp only [go_sem, callOut, AState.after]
 refine hKY _ ?_
 refine wlk_sreg fun KY hKY => ?_
 simp only [go_sem, c_f10_r2]
 refine call_view rfl (by simp only [go_sem] <;> rfl) ((hT).mono ?_)
 rintro rr hh ⟨rfl, rfl⟩
 refine ⟨rfl, rfl, rfl, ?_⟩
 simp only [go_sem, (show decide (([1, 2] : List Nat) = [1, 2]) = true from rfl), (show decide (([0] : List Nat) = [0]) = true from rfl), (show decide (([] : List Nat) = []) = true from rfl)]
 refine hKY _ ?_
 refine wlk_ret ?_
 simp only [go_sem]
end Go.Proofs.Ytkjppnofgmpeeaa
set_option maxRecDepth 100000
set_option maxHeartbeats 4000000
namespace Go.Proofs.Ytkjppnofgmpeeaa
open Go Go.Ga Go.Ga.Gl
theorem prt_len (N : Nat) (E : Nat → Nat → Prop) (k : Nat) : (prt N E k).length ≤ N := by
 unfold prt
 exact Nat.le_trans (List.length_filter_le _ _) (by simp)
theorem prt_D {N : Nat} {E : Nat → Nat → Prop} {mt : Nat → Int} {D A : Nat → Bool} {bs : Nat → Nat} (F : Fc N E mt D A bs) {v : Nat} : v ∈ prt N E 1 ↔ D v = true := by
 rw [prt_mem, F.lab v]
 constructor
 · rintro ⟨_, h⟩
   by_cases hd : D v = true
   · exact hd
   · rw [if_neg hd] at h; split at h <;> omega
 · intro h
   exact ⟨F.c.dn v h, if_pos h⟩
theorem prt_A {N : Nat} {E : Nat → Nat → Prop} {mt : Nat → Int} {D A : Nat → Bool} {bs : Nat → Nat} (F : Fc N E mt D A bs) {v : Nat} : v ∈ prt N E 2 ↔ A v = true := by
 rw [prt_mem, F.lab v]
 constructor
 · rintro ⟨_, h⟩
   by_cases hd : D v = true
   · rw [if_pos hd] at h; omega
   · rw [if_neg hd] at h
     by_cases ha : A v = true
     · exact ha
     · rw [if_neg ha] at h; omega
 · intro h
   obtain ⟨h1, h2⟩ := F.c.an v h
   exact ⟨h1, by rw [if_neg (by rw [h2]; simp), if_pos h]⟩
end Go.Proofs.Ytkjppnofgmpeeaa

namespace Go.Ga.Gl
open Go Go.Ga
structure Cut (E E' : Nat → Nat → Prop) (v : Nat) : Prop where
 iff : ∀ a b, E' a b ↔ E a b ∧ a ≠ v ∧ b ≠ v
theorem Cut.up {n : Nat} {E E' : Nat → Nat → Prop} {v : Nat} (K : Cut E E' v) {mt0 mt : Nat → Int} (M0 : Mf n E mt0) (M : Mf n E' mt) : Mf n E mt ∧ (v < n → mt v = -1) := by
 refine ⟨M.mono (fun a b h => ((K.iff a b).1 h).1) M0.es M0.el, fun hv => ?_⟩
 rcases M.at_ v hv with h | ⟨w, h, _⟩
 · exact h
 · exact absurd rfl ((K.iff v w).1 (M.ne v w h).2).2.1
theorem Cut.down {n : Nat} {E E' : Nat → Nat → Prop} {v : Nat} (K : Cut E E' v) {mt : Nat → Int} (M : Mf n E mt) (h : mt v = -1) : Mf n E' mt :=
 ⟨M.at_, M.big, M.sy, fun a b e => ⟨(M.ne a b e).1, (K.iff a b).2 ⟨(M.ne a b e).2, fun k => by rw [k, h] at e; omega, fun k => by have := M.sy a b e; rw [k, h] at this; omega⟩⟩,
  fun a b e => by
   obtain ⟨k1, k2, k3⟩ := (K.iff a b).1 e
   exact (K.iff b a).2 ⟨M.es _ _ k1, k3, k2⟩,
  fun a b e => M.el a b ((K.iff a b).1 e).1⟩
theorem dlt_v {mt : Nat → Int} {v w : Nat} : dlt mt v w v = -1 := if_pos (.inl rfl)
theorem cut_fre {n : Nat} {E E' : Nat → Nat → Prop} {v : Nat} (K : Cut E E' v) {mt m2 : Nat → Int} {D A : Nat → Bool} {bs : Nat → Nat} (F : Fc n E mt D A bs) (hv : v < n) (L : Lg n E' m2) : fre n m2 = if D v = true then fre n mt else fre n mt + 2 := by
 obtain ⟨h1, h2⟩ := K.up F.m L.1
 by_cases hd : D v = true
 · rw [if_pos hd]
   obtain ⟨mt', k1, k2, k3⟩ := F.d v hd
   have := L.2 mt' (K.down k1 k3)
   have := F.c.most F.m h1
   omega
 · rw [if_neg hd]
   have hd : D v = false := by simpa using hd
   have k1 := F.c.less F.m h1 hv hd (h2 hv)
   rcases F.m.at_ v hv with h | ⟨w, h, _⟩
   · have := (F.c.fr v hv h).1
     rw [hd] at this; cases this
   · have := L.2 _ (K.down (F.m.del h) dlt_v)
     have := fre_del F.m h
     omega
theorem cut_fc {n : Nat} {E E' : Nat → Nat → Prop} {v : Nat} (K : Cut E E' v) {mt : Nat → Int} {D A : Nat → Bool} {bs : Nat → Nat} (F : Fc n E mt D A bs) (hA : A v = true) : ∃ mt', Fc n E' mt' (fun x => D x || decide (x = v)) (fun x => A x && !decide (x = v)) (fun x => if x = v then v else bs x) := by
 obtain ⟨hv, hD⟩ := F.c.an v hA
 obtain ⟨w, hw, hwD, hwb⟩ := F.c.am v hA
 have hs := F.m.sy v w hw
 have nv : ∀ x, D x = true → x ≠ v := fun x h e => by rw [e, hD] at h; cases h
 have d' : ∀ x, (D x || decide (x = v)) = true ↔ D x = true ∨ x = v := fun x => by rw [Bool.or_eq_true, decide_eq_true_iff]
 have a' : ∀ x, (A x && !decide (x = v)) = true ↔ A x = true ∧ x ≠ v := fun x => by simp
 have b' : ∀ x, x ≠ v → (if x = v then v else bs x) = bs x := fun x h => if_neg h
 have mo : ∀ x, x ≠ v → x ≠ w → dlt mt v w x = mt x := fun x h1 h2 => if_neg (fun e => e.elim h1 h2)
 have mw : dlt mt v w w = -1 := if_pos (.inr rfl)
 refine ⟨dlt mt v w, K.down (F.m.del hw) dlt_v, ⟨fun x h => ?_, fun x h => ?_, fun x y h hE => ?_, fun x h => ?_, fun x hx h => ?_, fun x h => ?_, fun x h hb => ?_, fun b m h hb hm => ?_⟩, fun x h => ?_, fun x h => ?_⟩
 · rcases (d' x).1 h with h | rfl
   · exact F.c.dn x h
   · exact hv
 · obtain ⟨h1, h2⟩ := (a' x).1 h
   obtain ⟨k1, k2⟩ := F.c.an x h1
   exact ⟨k1, by rw [k2, decide_eq_false h2]; rfl⟩
 · obtain ⟨e1, e2, e3⟩ := (K.iff x y).1 hE
   have hx := ((d' x).1 h).resolve_right e2
   rcases F.c.ed x y hx e1 with k | ⟨k1, k2⟩
   · exact .inl ((a' y).2 ⟨k, e3⟩)
   · exact .inr ⟨(d' y).2 (.inl k1), by rw [b' y e3, b' x e2]; exact k2⟩
 · by_cases e : x = v
   · subst e
     rw [if_pos rfl]
     exact ⟨(d' x).2 (.inr rfl), if_pos rfl⟩
   · have hx := ((d' x).1 h).resolve_right e
     obtain ⟨k1, k2⟩ := F.c.db x hx
     have := nv _ k1
     rw [b' x e, b' _ this]
     exact ⟨(d' _).2 (.inl k1), k2⟩
 · by_cases e : x = v
   · subst e
     exact ⟨(d' x).2 (.inr rfl), if_pos rfl⟩
   · rw [b' x e]
     by_cases e2 : x = w
     · subst e2; exact ⟨(d' x).2 (.inl hwD), hwb⟩
     · rw [mo x e e2] at h
       obtain ⟨k1, k2⟩ := F.c.fr x hx h
       exact ⟨(d' x).2 (.inl k1), k2⟩
 · obtain ⟨h1, h2⟩ := (a' x).1 h
   obtain ⟨y, k1, k2, k3⟩ := F.c.am x h1
   have hxw : x ≠ w := fun e => by
    have := (F.c.an x h1).2
    rw [e, hwD] at this; cases this
   exact ⟨y, by rw [mo x h2 hxw]; exact k1, (d' y).2 (.inl k2), by rw [b' y (nv y k2)]; exact k3⟩
 · have e : x ≠ v := fun e => hb (by rw [if_pos e, e])
   have hx := ((d' x).1 h).resolve_right e
   rw [b' x e] at hb ⊢
   obtain ⟨y, k1, k2, k3⟩ := F.c.dm x hx hb
   have hxw : x ≠ w := fun k => hb (by rw [k]; exact hwb)
   exact ⟨y, by rw [mo x e hxw]; exact k1, (d' y).2 (.inl k2), by rw [b' y (nv y k2)]; exact k3⟩
 · have e : b ≠ v := fun e => by rw [e, dlt_v] at hm; omega
   have e2 : b ≠ w := fun e => by rw [e, mw] at hm; omega
   have hx := ((d' b).1 h).resolve_right e
   rw [b' b e] at hb
   rw [mo b e e2] at hm
   refine (a' m).2 ⟨F.c.bb b m hx hb hm, fun k => e2 ?_⟩
   have := F.m.sy b m hm
   rw [k] at this
   omega
 · have hf := fre_del F.m hw
   rcases (d' x).1 h with hx | rfl
   · obtain ⟨mt1, k1, k2, k3⟩ := F.d x hx
     rcases k1.at_ v hv with k4 | ⟨w1, k4, _⟩
     · have := F.c.less F.m k1 hv hD k4
       omega
     · have := fre_del k1 k4
       refine ⟨_, K.down (k1.del k4) dlt_v, by omega, ?_⟩
       show (if x = v ∨ x = w1 then -1 else mt1 x) = -1
       split
       · rfl
       · exact k3
   · exact ⟨_, K.down (F.m.del hw) dlt_v, Nat.le_refl _, dlt_v⟩
 · obtain ⟨h1, h2⟩ := (a' x).1 h
   obtain ⟨y, k1, k2⟩ := F.a x h1
   exact ⟨y, (d' y).2 (.inl k1), (K.iff x y).2 ⟨k2, h2, nv y k1⟩⟩
theorem cut_prt {n : Nat} {E E' : Nat → Nat → Prop} {v : Nat} (K : Cut E E' v) {mt : Nat → Int} {D A : Nat → Bool} {bs : Nat → Nat} (F : Fc n E mt D A bs) (hA : A v = true) : (∀ x ∈ prt n E 1, x ∈ prt n E' 1) ∧ (prt n E' 1).length = (prt n E 1).length + 1 ∧ (prt n E' 2).length + 1 = (prt n E 2).length ∧ prt n E' 0 = prt n E 0 := by
 obtain ⟨mt', F'⟩ := cut_fc K F hA
 obtain ⟨hv, hD⟩ := F.c.an v hA
 have g0 : glab n E v = 2 := by rw [F.lab v, hD, if_neg (by simp), if_pos hA]
 have g1 : glab n E' v = 1 := by rw [F'.lab v, if_pos (by simp)]
 have go : ∀ x, x ≠ v → glab n E' x = glab n E x := fun x h => by
  rw [F'.lab x, F.lab x, decide_eq_false h, Bool.or_false, Bool.not_false, Bool.and_true]
 have sub : ∀ x ∈ prt n E 1, x ∈ prt n E' 1 := fun x hx => by
  obtain ⟨h1, h2⟩ := prt_mem.1 hx
  refine prt_mem.2 ⟨h1, ?_⟩
  by_cases e : x = v
  · rw [e]; exact g1
  · rw [go x e]; exact h2
 have nd : ∀ (E : Nat → Nat → Prop) k, (prt n E k).Nodup := fun E k => List.nodup_range.filter _
 refine ⟨sub, Nat.le_antisymm ?_ ?_, Nat.le_antisymm ?_ ?_, ?_⟩
 · have := nodup_le (m := v :: prt n E 1) (nd E' 1) fun x hx => by
    obtain ⟨h1, h2⟩ := prt_mem.1 hx
    by_cases e : x = v
    · simp [e]
    · rw [go x e] at h2
      exact List.mem_cons_of_mem _ (prt_mem.2 ⟨h1, h2⟩)
   simpa using this
 · have := nodup_le (l := v :: prt n E 1) (m := prt n E' 1) (List.nodup_cons.2 ⟨fun h => by have := (prt_mem.1 h).2; omega, nd E 1⟩) fun x hx => by
    rcases List.mem_cons.1 hx with rfl | hx
    · exact prt_mem.2 ⟨hv, g1⟩
    · exact sub x hx
   simpa using this
 · have := nodup_le (l := v :: prt n E' 2) (m := prt n E 2) (List.nodup_cons.2 ⟨fun h => by have := (prt_mem.1 h).2; omega, nd E' 2⟩) fun x hx => by
    rcases List.mem_cons.1 hx with rfl | hx
    · exact prt_mem.2 ⟨hv, g0⟩
    · obtain ⟨h1, h2⟩ := prt_mem.1 hx
      have e : x ≠ v := fun e => by rw [e] at h2; omega
      rw [go x e] at h2
      exact prt_mem.2 ⟨h1, h2⟩
   simpa using this
 · have := nodup_le (m := v :: prt n E' 2) (nd E 2) fun x hx => by
    obtain ⟨h1, h2⟩ := prt_mem.1 hx
    by_cases e : x = v
    · simp [e]
    · rw [← go x e] at h2
      exact List.mem_cons_of_mem _ (prt_mem.2 ⟨h1, h2⟩)
   simpa using this
 · refine List.filter_congr fun x _ => ?_
   by_cases e : x = v
   · rw [e, g0, g1]; rfl
   · rw [go x e]
theorem cut_adj {es : Es} {v : Nat} : Cut (adj es) (adj (es.filter fun e => decide (e.1 ≠ v) && decide (e.2 ≠ v))) v := ⟨fun a b => by
 unfold adj
 rw [List.mem_filter, List.mem_filter]
 simp only [Bool.and_eq_true, decide_eq_true_eq]
 constructor
 · rintro (⟨h1, h2, h3⟩ | ⟨h1, h2, h3⟩)
   · exact ⟨.inl h1, h2, h3⟩
   · exact ⟨.inr h1, h3, h2⟩
 · rintro ⟨h1 | h1, h2, h3⟩
   · exact .inl ⟨h1, h2, h3⟩
   · exact .inr ⟨h1, h3, h2⟩⟩
theorem GR.filter {N : Nat} {es : Es} (g : GR N es) (p : Nat × Nat → Bool) : GR N (es.filter p) :=
 ⟨g.hn, Nat.le_trans (List.length_filter_le _ _) g.hm, fun e he => g.ok e (List.mem_filter.1 he).1, g.up.filter _⟩
def clip (N : Nat) (mt : Nat → Int) (v : Nat) : Int := if v < N then mt v else -1
theorem Mf.clip {N : Nat} {E : Nat → Nat → Prop} {mt : Nat → Int} (M : Mf N E mt) : Mf N E (Gl.clip N mt) ∧ fre N (Gl.clip N mt) = fre N mt := by
 have lo : ∀ v, v < N → Gl.clip N mt v = mt v := fun v h => if_pos h
 have hi : ∀ v, ¬ v < N → Gl.clip N mt v = -1 := fun v h => if_neg h
 have c : ∀ v w : Nat, Gl.clip N mt v = (w : Int) → v < N ∧ mt v = (w : Int) := fun v w h => by
  by_cases k : v < N
  · rw [lo v k] at h; exact ⟨k, h⟩
  · rw [hi v k] at h; omega
 refine ⟨⟨fun v hv => by rw [lo v hv]; exact M.at_ v hv, fun v hv w h => hv (c v w h).1, fun v w h => ?_, fun v w h => M.ne v w (c v w h).2, M.es, M.el⟩, ?_⟩
 · obtain ⟨k1, k2⟩ := c v w h
   have := M.el v w (M.ne v w k2).2
   rw [lo w this.2.1]; exact M.sy v w k2
 · unfold fre
   exact num_congr fun v hv => by unfold isFr; rw [lo v hv]
theorem best_lg {N : Nat} {E : Nat → Nat → Prop} {k : Nat} (B : Best N E (2 ^ N - 1) k) {mt : Nat → Int} (L : Lg N E mt) : N = fre N mt + 2 * k := by
 obtain ⟨k1, k2⟩ := L.1.clip
 have := best_all B (fun v hv => by rw [Nat.testBit_two_pow_sub_one]; exact decide_eq_true hv) (mt := clip N mt) ⟨k1, fun mt' h => by rw [k2]; exact L.2 mt' h⟩ (fun v hv => if_neg hv)
 rw [k2] at this
 exact this
end Go.Ga.Gl
set_option maxRecDepth 100000
set_option maxHeartbeats 4000000
namespace Go.Proofs.Ytkjppnofgmpeeaa
open Go Go.Ga Go.Ga.Gl
theorem number_ok {N : Nat} {es : Es} (g : GR N es) (hN : N ≤ 12) : ACalls Try.prog [] n_f12 [.agg [.sc (.int .i64 (N : Int)), .imm 2 (twos (castE es))]] [] fun r h' => (∃ k : Nat, Best N (adj es) (2 ^ N - 1) k ∧ r = .sc (.int .i64 (k : Int))) ∧ h' = [] := by
 have hp : 2 ^ N ≤ 2 ^ 12 := Nat.pow_le_pow_right (by omega) hN
 have hp0 : 1 ≤ 2 ^ N := Nat.two_pow_pos N
 refine go_f12 rfl ?_
 unfold c_f12 v_f12
 refine wlk_sreg fun KY hKY => ?_
 simp only [go_sem, c_f12_r0]
 refine hKY _ ?_
 refine wlk_sreg fun KY hKY => ?_
 simp only [go_sem, c_f12_r1]
 apply call_gen [] [] false none rfl
 iterate 8 (first | (simp only [go_sem, watchIn] <;> rfl) | rfl)
 refine (table_ok g hN).mono ?_
 rintro _ _ ⟨⟨t, htl, hb, rfl⟩, rfl⟩
 have hB := hb (2 ^ N - 1) (by omega)
 obtain ⟨P, hP⟩ : ∃ P, P = 2 ^ N := ⟨_, rfl⟩
 rw [← hP] at htl hp hp0 hB
 have hw : IntKind.i64.wrap ((P : Int) - 1) = ((P - 1 : Nat) : Int) := by rw [IntWalk.i64_in _ (by omega)]; omega
 have hg : (nats t)[P - 1]? = some (.sc (.int .i64 ((t.getD (P - 1) 0 : Nat) : Int))) := nats_get (by omega)
 refine ⟨Nat.le_of_ble_eq_true rfl, (fun hh => by cases hh), ?_⟩
 simp only [go_sem, callOut, AState.after]
 refine hKY _ ?_
 refine wlk_sreg fun KY hKY => ?_
 simp only [go_sem, c_f12_r2, nats_len, htl, hw, hg, (show P - 1 < P by omega)]
 refine hKY _ ?_
 refine wlk_ret ?_
 simp only [go_sem]
 exact ⟨_, by rw [← hP]; exact hB, rfl⟩
def offE (v : Nat) (es : Es) : Es := es.filter fun e => decide (e.1 ≠ v) && decide (e.2 ≠ v)
theorem offE_step {es : Es} {k a b v : Nat} (hx : es[k]? = some (a, b)) : offE v (es.take (k + 1)) = if a ≠ v ∧ b ≠ v then offE v (es.take k) ++ [(a, b)] else offE v (es.take k) := by
 have ht : es.take (k + 1) = es.take k ++ [(a, b)] := by
  rw [List.take_add_one, hx]; rfl
 unfold offE
 rw [ht, List.filter_append]
 by_cases h : a ≠ v ∧ b ≠ v
 · rw [if_pos h]; simp [h.1, h.2]
 · rw [if_neg h]
   by_cases h1 : a = v
   · simp [h1]
   · have h2 : b = v := Decidable.byContradiction fun e => h ⟨h1, e⟩
     simp [h2]
theorem castE_snoc (l : Es) (a b : Nat) : castE (l ++ [(a, b)]) = castE l ++ [((a : Int), (b : Int))] := by simp [castE]
theorem gless_ok (n : Int) (ends : List Int) (at_ : Int) (he : ends.length ≤ 1000000000) : ACalls Try.prog [] n_f3 [.sc (.int .i64 n), .imm 1 (ints ends), .sc (.int .i64 at_)] [] fun r h' => r = .sc (.bool true) ∧ h' = [] := by
 refine go_f3 rfl ?_
 unfold c_f3 v_f3
 refine wlk_sreg fun KY hKY => ?_
 simp only [go_sem, c_f3_r0]
 refine hKY _ ?_
 refine wlk_sreg fun KY hKY => ?_
 simp only [go_sem, c_f3_r1]
 apply call_gen [] [] false none rfl
 iterate 8 (first | (simp only [go_sem, watchIn] <;> rfl) | rfl)
 refine (small_ok n ends 11 30 (by omega) (by omega) (by omega)).mono ?_
 rintro _ _ ⟨⟨N, es, g, hN, hm, rfl⟩, rfl⟩
 refine ⟨Nat.le_of_ble_eq_true rfl, (fun hh => by cases hh), ?_⟩
 simp only [go_sem, callOut, AState.after]
 refine hKY _ ?_
 refine wlk_seq fun X1 hn1 he1 hr1 => ?_
 by_cases h0 : N = 0
 · have hd : decide ((N : Int) = 0) = true := decide_eq_true (by omega)
   refine wlk_sreg fun KY hKY => ?_
   simp only [go_sem, c_f3_r2, hd]
   refine hKY _ ?_
   refine wlk_cond1 (by first | rfl | (simp only [go_sem]; try simp (disch := omega) only [decide_eq_true, decide_eq_false])) ?_
   refine wlk_sreg fun KY hKY => ?_
   simp only [go_sem, c_f3_r3]
   refine call_view rfl (by simp only [go_sem] <;> rfl) ((awake14_ok).mono ?_)
   rintro rr hh ⟨rfl, rfl⟩
   refine ⟨rfl, rfl, rfl, ?_⟩
   simp only [go_sem]
   refine hKY _ ?_
   refine wlk_ret ?_
   repeat (first | refine hr1 _ ?_)
   simp only [go_sem]
 have hd : decide ((N : Int) = 0) = false := decide_eq_false (by omega)
 refine wlk_sreg fun KY hKY => ?_
 simp only [go_sem, c_f3_r2, hd]
 refine hKY _ ?_
 refine wlk_cond0 (by first | rfl | (simp only [go_sem]; try simp (disch := omega) only [decide_eq_true, decide_eq_false])) ?_
 refine wlk_skip ?_
 repeat (first | refine hn1 _ ?_ | refine he1 _ _ ?_)
 refine wlk_sreg fun KY hKY => ?_
 simp only [go_sem, c_f3_r4]
 apply call_gen [] [] false none rfl
 iterate 8 (first | (simp only [go_sem, watchIn] <;> rfl) | rfl)
 refine (gof_ok g).mono ?_
 rintro _ _ ⟨rfl, ⟨mt, D, A, bs, F⟩, rfl⟩
 refine ⟨Nat.le_of_ble_eq_true rfl, (fun hh => by cases hh), ?_⟩
 simp only [go_sem, callOut, AState.after]
 refine hKY _ ?_
 obtain ⟨v, hv, hnv⟩ := umod at_ N (by omega) (by omega)
 have huN : ¬ IntKind.u64.wrap (N : Int) = 0 := u64NN (by omega) (by omega)
 refine wlk_sreg fun KY hKY => ?_
 simp only [go_sem, c_f3_r5, hnv, huN]
 refine hKY _ ?_
 refine wlk_sreg fun KY hKY => ?_
 simp only [go_sem, c_f3_r6]
 refine hKY _ ?_
 refine sem_nil [0, 11, 1] 2 (by simp only [go_sem]) ?_
 simp only [go_sem]
 have e0 : AVal.own (some 2) [] = .own (some 2) (twos (castE (offE v (es.take 0)))) := by simp [offE, castE, twos, packs]
 rw [e0]
 refine wlk_seq fun X2 hn2 he2 hr2 => ?_
 refine wlk_sreg fun KY hKY => ?_
 simp only [go_sem, c_f3_r7]
 refine hKY _ ?_
 refine wlk_blk fun X3 hn3 he3 hf3 hr3 => ?_
 try simp only [go_sem]
 refine wlk_lp (α := Nat) [43, 63] (fun k => [(11, .own none [.sc (.int .i64 (N : Int)), .own (some 2) (twos (castE (offE v (es.take k))))]), (12, .sc (.int .i64 (k : Int)))]) (fun k => []) (fun k q => k ≤ es.length ∧ q = es.length - k) (0) (es.length) rfl (by first | (simp only [go_sem, updAll_cons, updAll_nil]; done) | with_reducible rfl | rfl) (⟨Nat.zero_le _, rfl⟩) ?_
 rintro k q ⟨hk, rfl⟩ X4 hn4 he4 hr4
 simp only [go_sem, updAll_cons, updAll_nil]
 refine wlk_seq fun X5 hn5 he5 hr5 => ?_
 rcases Nat.lt_or_ge k es.length with hk2 | hk2
 · have hdx : decide ((k : Int) < (es.length : Int)) = true := decide_eq_true (by omega)
   have hx : es[k]? = some (es[k]) := List.getElem?_eq_getElem hk2
   generalize es[k] = ab at hx
   obtain ⟨a, b⟩ := ab
   have hcx : (castE es)[k]? = some ((a : Int), (b : Int)) := by simp [castE, hx]
   have hg0 := two_get0 hcx
   have hg1 := two_get1 hcx
   have hgc := two_cells hcx
   simp only at hg0 hg1 hgc
   have hst := offE_step (v := v) hx
   have hol : (offE v (es.take k)).length ≤ es.length := Nat.le_trans (List.length_filter_le _ _) (by simp; omega)
   refine wlk_sreg fun KY hKY => ?_
   simp only [go_sem, c_f3_r8, twos_len, mul2, castE_len, hdx]
   refine hKY _ ?_
   refine wlk_cond1 (by first | rfl | (simp only [go_sem]; try simp (disch := omega) only [decide_eq_true, decide_eq_false])) ?_
   refine wlk_skip ?_
   repeat (first | refine hn5 _ ?_ | refine he5 _ _ ?_ | refine he4 _ _ ?_ | refine hn3 _ ?_ | refine he3 _ ?_ | refine hf3 _ _ (by decide) ?_ | refine hn2 _ ?_ | refine he2 _ _ ?_ | refine hn1 _ ?_ | refine he1 _ _ ?_)
   refine wlk_seq fun X6 hn6 he6 hr6 => ?_
   refine wlk_blk fun X7 hn7 he7 hf7 hr7 => ?_
   by_cases ha : a = v
   · have hda : decide ((a : Int) ≠ (v : Int)) = false := decide_eq_false (by omega)
     rw [if_neg (fun h => h.1 ha)] at hst
     refine wlk_sreg fun KY hKY => ?_
     simp only [go_sem, c_f3_r9, hg0, hg1, hda, twos_len, castE_len, mul2, hk2, (show k * 2 + 1 < es.length * 2 by omega), (show k * 2 < es.length * 2 by omega), List.length_drop, (show 1 < es.length * 2 - k * 2 by omega), List.getElem?_drop]
     refine hKY _ ?_
     refine wlk_cond0 (by first | rfl | (simp only [go_sem]; try simp (disch := omega) only [decide_eq_true, decide_eq_false])) ?_
     refine wlk_skip ?_
     repeat (first | refine hn7 _ ?_ | refine he7 _ ?_ | refine hf7 _ _ (by decide) ?_ | refine hn6 _ ?_ | refine he6 _ _ ?_ | refine hn5 _ ?_ | refine he5 _ _ ?_ | refine he4 _ _ ?_ | refine hn3 _ ?_ | refine he3 _ ?_ | refine hf3 _ _ (by decide) ?_ | refine hn2 _ ?_ | refine he2 _ _ ?_ | refine hn1 _ ?_ | refine he1 _ _ ?_)
     refine wlk_reg fun KY hKY => ?_
     simp only [go_sem, c_f3_r11, incS (show k < 4611686018427387904 by omega)]
     refine hKY _ ?_
     repeat (first | refine hn7 _ ?_ | refine he7 _ ?_ | refine hf7 _ _ (by decide) ?_ | refine hn6 _ ?_ | refine he6 _ _ ?_ | refine hn5 _ ?_ | refine he5 _ _ ?_)
     refine hn4 _ (k + 1) (es.length - (k + 1)) (by omega) (by first | (simp only [go_sem, updAll_cons, updAll_nil, hst]; done) | with_reducible rfl) ?_
     exact ⟨hk2, rfl⟩
   have hda : decide ((a : Int) ≠ (v : Int)) = true := decide_eq_true (by omega)
   by_cases hb : b = v
   · have hdb : decide ((b : Int) ≠ (v : Int)) = false := decide_eq_false (by omega)
     rw [if_neg (fun h => h.2 hb)] at hst
     refine wlk_sreg fun KY hKY => ?_
     simp only [go_sem, c_f3_r9, hg0, hg1, hda, hdb, twos_len, castE_len, mul2, hk2, (show k * 2 + 1 < es.length * 2 by omega), (show k * 2 < es.length * 2 by omega), List.length_drop, (show 1 < es.length * 2 - k * 2 by omega), List.getElem?_drop]
     refine hKY _ ?_
     refine wlk_cond0 (by first | rfl | (simp only [go_sem]; try simp (disch := omega) only [decide_eq_true, decide_eq_false])) ?_
     refine wlk_skip ?_
     repeat (first | refine hn7 _ ?_ | refine he7 _ ?_ | refine hf7 _ _ (by decide) ?_ | refine hn6 _ ?_ | refine he6 _ _ ?_ | refine hn5 _ ?_ | refine he5 _ _ ?_ | refine he4 _ _ ?_ | refine hn3 _ ?_ | refine he3 _ ?_ | refine hf3 _ _ (by decide) ?_ | refine hn2 _ ?_ | refine he2 _ _ ?_ | refine hn1 _ ?_ | refine he1 _ _ ?_)
     refine wlk_reg fun KY hKY => ?_
     simp only [go_sem, c_f3_r11, incS (show k < 4611686018427387904 by omega)]
     refine hKY _ ?_
     repeat (first | refine hn7 _ ?_ | refine he7 _ ?_ | refine hf7 _ _ (by decide) ?_ | refine hn6 _ ?_ | refine he6 _ _ ?_ | refine hn5 _ ?_ | refine he5 _ _ ?_)
     refine hn4 _ (k + 1) (es.length - (k + 1)) (by omega) (by first | (simp only [go_sem, updAll_cons, updAll_nil, hst]; done) | with_reducible rfl) ?_
     exact ⟨hk2, rfl⟩
   have hdb : decide ((b : Int) ≠ (v : Int)) = true := decide_eq_true (by omega)
   rw [if_pos ⟨ha, hb⟩] at hst
   refine wlk_sreg fun KY hKY => ?_
   simp only [go_sem, c_f3_r9, hg0, hg1, hda, hdb, twos_len, castE_len, mul2, hk2, (show k * 2 + 1 < es.length * 2 by omega), (show k * 2 < es.length * 2 by omega), List.length_drop, (show 1 < es.length * 2 - k * 2 by omega), List.getElem?_drop]
   refine hKY _ ?_
   refine wlk_cond1 (by first | rfl | (simp only [go_sem]; try simp (disch := omega) only [decide_eq_true, decide_eq_false])) ?_
   refine wlk_draw fun KY hKY => ?_
   simp only [go_sem, c_f3_r10, hgc, twos_len, castE_len, mul2, hk2, (show k * 2 + 1 < es.length * 2 by omega), (show k * 2 < es.length * 2 by omega), List.length_drop, (show 1 < es.length * 2 - k * 2 by omega), (show 2 ≤ es.length * 2 - k * 2 by omega), twos_snoc, ← castE_snoc, ← hst, (show ((offE v (es.take k)).length * 2 + 2) * 16 ≤ 140737488355328 by omega)]
   refine hKY _ ?_
   repeat (first | refine hn7 _ ?_ | refine he7 _ ?_ | refine hf7 _ _ (by decide) ?_ | refine hn6 _ ?_ | refine he6 _ _ ?_ | refine hn5 _ ?_ | refine he5 _ _ ?_ | refine he4 _ _ ?_ | refine hn3 _ ?_ | refine he3 _ ?_ | refine hf3 _ _ (by decide) ?_ | refine hn2 _ ?_ | refine he2 _ _ ?_ | refine hn1 _ ?_ | refine he1 _ _ ?_)
   refine wlk_reg fun KY hKY => ?_
   simp only [go_sem, c_f3_r11, incS (show k < 4611686018427387904 by omega)]
   refine hKY _ ?_
   repeat (first | refine hn7 _ ?_ | refine he7 _ ?_ | refine hf7 _ _ (by decide) ?_ | refine hn6 _ ?_ | refine he6 _ _ ?_ | refine hn5 _ ?_ | refine he5 _ _ ?_)
   refine hn4 _ (k + 1) (es.length - (k + 1)) (by omega) (by first | (simp only [go_sem, updAll_cons, updAll_nil]; done) | with_reducible rfl) ?_
   exact ⟨hk2, rfl⟩
 have hdx : decide ((k : Int) < (es.length : Int)) = false := decide_eq_false (by omega)
 obtain rfl : k = es.length := by omega
 refine wlk_sreg fun KY hKY => ?_
 simp only [go_sem, c_f3_r8, twos_len, mul2, castE_len, hdx]
 refine hKY _ ?_
 refine wlk_cond0 (by first | rfl | (simp only [go_sem]; try simp (disch := omega) only [decide_eq_true, decide_eq_false])) ?_
 refine wlk_exit ?_
 repeat (first | refine hn5 _ ?_ | refine he5 _ _ ?_ | refine he4 _ _ ?_ | refine hn3 _ ?_ | refine he3 _ ?_ | refine hf3 _ _ (by decide) ?_ | refine hn2 _ ?_ | refine he2 _ _ ?_ | refine hn1 _ ?_ | refine he1 _ _ ?_)
 rw [List.take_length]
 refine sem_freeze [0, 11, 1] (by simp only [go_sem]; rfl) ?_
 simp only [go_sem]
 have gh : GR N (offE v es) := g.filter _
 have K : Cut (adj es) (adj (offE v es)) v := cut_adj
 have hN4 := g.hn
 have l1 := prt_len N (adj es) 1
 have l2 := prt_len N (adj es) 2
 have l0 := prt_len N (adj es) 0
 refine wlk_sdraw fun KY hKY => ?_
 simp only [go_sem, c_f3_r12]
 apply call_gen [] [] false none rfl
 iterate 8 (first | (simp only [go_sem, watchIn] <;> rfl) | rfl)
 refine (number_ok g (by omega)).mono ?_
 rintro _ _ ⟨⟨k1, hB1, rfl⟩, rfl⟩
 refine ⟨Nat.le_of_ble_eq_true rfl, (fun hh => by cases hh), ?_⟩
 simp only [go_sem, callOut, AState.after]
 apply call_gen [] [] false none rfl
 iterate 8 (first | (simp only [go_sem, watchIn] <;> rfl) | rfl)
 refine (number_ok gh (by omega)).mono ?_
 rintro _ _ ⟨⟨k2, hB2, rfl⟩, rfl⟩
 have hk1 := best_le hB1
 have hk2 := best_le hB2
 obtain ⟨x, hx⟩ : ∃ x : Int, x = (k1 : Int) - (k2 : Int) := ⟨_, rfl⟩
 have hw12 : IntKind.i64.wrap ((k1 : Int) - (k2 : Int)) = x := by rw [IntWalk.i64_in _ (by omega), hx]
 refine ⟨Nat.le_of_ble_eq_true rfl, (fun hh => by cases hh), ?_⟩
 simp only [go_sem, callOut, AState.after, hw12]
 refine hKY _ ?_
 refine wlk_sreg fun KY hKY => ?_
 simp only [go_sem, c_f3_r13]
 apply call_gen [] [] false none rfl
 iterate 8 (first | (simp only [go_sem, watchIn] <;> rfl) | rfl)
 refine (gof_ok gh).mono ?_
 rintro _ _ ⟨rfl, ⟨mt2, D2, A2, bs2, F2⟩, rfl⟩
 refine ⟨Nat.le_of_ble_eq_true rfl, (fun hh => by cases hh), ?_⟩
 simp only [go_sem, callOut, AState.after]
 refine hKY _ ?_
 have hf := cut_fre K F hv F2.lg
 have n1 := best_lg hB1 F.lg
 have n2 := best_lg hB2 F2.lg
 have iD := inN_ok (prt N (adj es) 1) (v : Int) (by omega)
 have iA := inN_ok (prt N (adj es) 2) (v : Int) (by omega)
 by_cases hDv : D v = true
 · rw [if_pos hDv] at hf
   have hx0 : x = 0 := by omega
   have hA0 : A v ≠ true := fun h => by
    have := (F.c.an v h).2
    rw [hDv] at this; cases this
   rw [show hasI (prt N (adj es) 1) (v : Int) = true from hasI_nat.2 ((prt_D F).2 hDv)] at iD
   rw [show hasI (prt N (adj es) 2) (v : Int) = false from by
    cases h : hasI (prt N (adj es) 2) (v : Int) with
    | false => rfl
    | true => exact absurd ((prt_A F).1 (hasI_nat.1 h)) hA0] at iA
   subst hx0
   refine wlk_seq fun X8 hn8 he8 hr8 => ?_
   refine wlk_sreg fun KY hKY => ?_
   simp only [go_sem, c_f3_r14]
   refine call_view rfl (by simp only [go_sem] <;> rfl) ((awake14_ok).mono ?_)
   rintro rr hh ⟨rfl, rfl⟩
   refine ⟨rfl, rfl, rfl, ?_⟩
   simp only [go_sem]
   refine call_view rfl (by simp only [go_sem] <;> rfl) ((iD).mono ?_)
   rintro rr hh ⟨rfl, rfl⟩
   refine ⟨rfl, rfl, rfl, ?_⟩
   simp only [go_sem]
   refine hKY _ ?_
   refine wlk_cond0 (by first | rfl | (simp only [go_sem]; try simp (disch := omega) only [decide_eq_true, decide_eq_false])) ?_
   refine wlk_skip ?_
   repeat (first | refine hn8 _ ?_ | refine he8 _ _ ?_ | refine hn5 _ ?_ | refine he5 _ _ ?_ | refine he4 _ _ ?_ | refine hn3 _ ?_ | refine he3 _ ?_ | refine hf3 _ _ (by decide) ?_ | refine hn2 _ ?_ | refine he2 _ _ ?_ | refine hn1 _ ?_ | refine he1 _ _ ?_)
   refine wlk_seq fun X9 hn9 he9 hr9 => ?_
   refine wlk_sreg fun KY hKY => ?_
   simp only [go_sem, c_f3_r16]
   refine call_view rfl (by simp only [go_sem] <;> rfl) ((iA).mono ?_)
   rintro rr hh ⟨rfl, rfl⟩
   refine ⟨rfl, rfl, rfl, ?_⟩
   simp only [go_sem]
   refine hKY _ ?_
   refine wlk_cond1 (by first | rfl | (simp only [go_sem]; try simp (disch := omega) only [decide_eq_true, decide_eq_false])) ?_
   refine wlk_sreg fun KY hKY => ?_
   simp only [go_sem, c_f3_r17]
   refine hKY _ ?_
   refine wlk_ret ?_
   repeat (first | refine hr9 _ ?_ | refine hr8 _ ?_ | refine hr5 _ ?_ | refine hr4 _ ?_ | refine hr3 _ ?_ | refine hr2 _ ?_ | refine hr1 _ ?_)
   simp only [go_sem]
 · rw [if_neg hDv] at hf
   have hx1 : x = 1 := by omega
   rw [show hasI (prt N (adj es) 1) (v : Int) = false from by
    cases h : hasI (prt N (adj es) 1) (v : Int) with
    | false => rfl
    | true => exact absurd ((prt_D F).1 (hasI_nat.1 h)) hDv] at iD
   subst hx1
   by_cases hAv : A v = true
   · rw [show hasI (prt N (adj es) 2) (v : Int) = true from hasI_nat.2 ((prt_A F).2 hAv)] at iA
     obtain ⟨c1, c2, c3, c4⟩ := cut_prt K F hAv
     rw [c4]
     have l3 := prt_len N (adj (offE v es)) 1
     have l4 := prt_len N (adj (offE v es)) 2
     have iU := fun y => inN_ok (prt N (adj (offE v es)) 1) y (by omega)
     have hpl := plainn_ok (prt N (adj es) 0) (prt N (adj es) 0) (by omega)
     rw [decide_eq_true rfl] at hpl
     have w1 : IntKind.i64.wrap (((prt N (adj es) 1).length : Int) + 1) = ((prt N (adj (offE v es)) 1).length : Int) := by rw [IntWalk.i64_in _ (by omega)]; omega
     have w2 : IntKind.i64.wrap (((prt N (adj es) 2).length : Int) - 1) = ((prt N (adj (offE v es)) 2).length : Int) := by rw [IntWalk.i64_in _ (by omega)]; omega
     generalize prt N (adj es) 1 = td at *
     refine wlk_seq fun X10 hn10 he10 hr10 => ?_
     refine wlk_sreg fun KY hKY => ?_
     simp only [go_sem, c_f3_r14]
     refine call_view rfl (by simp only [go_sem] <;> rfl) ((awake14_ok).mono ?_)
     rintro rr hh ⟨rfl, rfl⟩
     refine ⟨rfl, rfl, rfl, ?_⟩
     simp only [go_sem]
     refine call_view rfl (by simp only [go_sem] <;> rfl) ((iD).mono ?_)
     rintro rr hh ⟨rfl, rfl⟩
     refine ⟨rfl, rfl, rfl, ?_⟩
     simp only [go_sem]
     refine hKY _ ?_
     refine wlk_cond0 (by first | rfl | (simp only [go_sem]; try simp (disch := omega) only [decide_eq_true, decide_eq_false])) ?_
     refine wlk_skip ?_
     repeat (first | refine hn10 _ ?_ | refine he10 _ _ ?_ | refine hn5 _ ?_ | refine he5 _ _ ?_ | refine he4 _ _ ?_ | refine hn3 _ ?_ | refine he3 _ ?_ | refine hf3 _ _ (by decide) ?_ | refine hn2 _ ?_ | refine he2 _ _ ?_ | refine hn1 _ ?_ | refine he1 _ _ ?_)
     refine wlk_seq fun X11 hn11 he11 hr11 => ?_
     refine wlk_sreg fun KY hKY => ?_
     simp only [go_sem, c_f3_r16]
     refine call_view rfl (by simp only [go_sem] <;> rfl) ((iA).mono ?_)
     rintro rr hh ⟨rfl, rfl⟩
     refine ⟨rfl, rfl, rfl, ?_⟩
     simp only [go_sem]
     refine hKY _ ?_
     refine wlk_cond0 (by first | rfl | (simp only [go_sem]; try simp (disch := omega) only [decide_eq_true, decide_eq_false])) ?_
     refine wlk_skip ?_
     repeat (first | refine hn11 _ ?_ | refine he11 _ _ ?_ | refine hn10 _ ?_ | refine he10 _ _ ?_ | refine hn5 _ ?_ | refine he5 _ _ ?_ | refine he4 _ _ ?_ | refine hn3 _ ?_ | refine he3 _ ?_ | refine hf3 _ _ (by decide) ?_ | refine hn2 _ ?_ | refine he2 _ _ ?_ | refine hn1 _ ?_ | refine he1 _ _ ?_)
     refine wlk_seq fun X12 hn12 he12 hr12 => ?_
     refine wlk_sreg fun KY hKY => ?_
     simp only [go_sem, c_f3_r18]
     refine hKY _ ?_
     refine wlk_blk fun X13 hn13 he13 hf13 hr13 => ?_
     try simp only [go_sem]
     refine wlk_lp (α := Nat) [116, 127] (fun k => [(16, .sc (.int .i64 (k : Int)))]) (fun k => []) (fun k q => k ≤ td.length ∧ q = td.length - k) (0) (td.length) rfl (by first | (simp only [go_sem, updAll_cons, updAll_nil]; done) | with_reducible rfl | rfl) (⟨Nat.zero_le _, rfl⟩) ?_
     rintro k q ⟨hk, rfl⟩ X14 hn14 he14 hr14
     simp only [go_sem, updAll_cons, updAll_nil]
     refine wlk_seq fun X15 hn15 he15 hr15 => ?_
     rcases Nat.lt_or_ge k td.length with hk2 | hk2
     · have hdx : decide ((k : Int) < (td.length : Int)) = true := decide_eq_true (by omega)
       have hy : td[k]? = some (td[k]) := List.getElem?_eq_getElem hk2
       have hyU := c1 _ (List.getElem_mem hk2)
       generalize td[k] = y at hy hyU
       have hyn : (nats td)[k]? = some (.sc (.int .i64 (y : Int))) := by simp [nats, hy]
       have iy := iU (y : Int)
       rw [hasI_nat.2 hyU] at iy
       refine wlk_sreg fun KY hKY => ?_
       simp only [go_sem, c_f3_r19, nats_len, hdx]
       refine hKY _ ?_
       refine wlk_cond1 (by first | rfl | (simp only [go_sem]; try simp (disch := omega) only [decide_eq_true, decide_eq_false])) ?_
       refine wlk_skip ?_
       repeat (first | refine hn15 _ ?_ | refine he15 _ _ ?_ | refine he14 _ _ ?_ | refine hn13 _ ?_ | refine he13 _ ?_ | refine hf13 _ _ (by decide) ?_ | refine hn12 _ ?_ | refine he12 _ _ ?_ | refine hn11 _ ?_ | refine he11 _ _ ?_ | refine hn10 _ ?_ | refine he10 _ _ ?_ | refine hn5 _ ?_ | refine he5 _ _ ?_)
       refine wlk_seq fun X16 hn16 he16 hr16 => ?_
       refine wlk_blk fun X17 hn17 he17 hf17 hr17 => ?_
       refine wlk_sdraw fun KY hKY => ?_
       simp only [go_sem, c_f3_r20, hyn, nats_len, hk2]
       refine call_view rfl (by simp only [go_sem] <;> rfl) ((iy).mono ?_)
       rintro rr hh ⟨rfl, rfl⟩
       refine ⟨rfl, rfl, rfl, ?_⟩
       simp only [go_sem]
       refine hKY _ ?_
       refine wlk_cond0 (by first | rfl | (simp only [go_sem]; try simp (disch := omega) only [decide_eq_true, decide_eq_false])) ?_
       refine wlk_skip ?_
       repeat (first | refine hn17 _ ?_ | refine he17 _ ?_ | refine hf17 _ _ (by decide) ?_ | refine hn16 _ ?_ | refine he16 _ _ ?_ | refine hn15 _ ?_ | refine he15 _ _ ?_ | refine he14 _ _ ?_ | refine hn13 _ ?_ | refine he13 _ ?_ | refine hf13 _ _ (by decide) ?_ | refine hn12 _ ?_ | refine he12 _ _ ?_ | refine hn11 _ ?_ | refine he11 _ _ ?_ | refine hn10 _ ?_ | refine he10 _ _ ?_ | refine hn5 _ ?_ | refine he5 _ _ ?_)
       refine wlk_reg fun KY hKY => ?_
       simp only [go_sem, c_f3_r22, incS (show k < 4611686018427387904 by omega)]
       refine hKY _ ?_
       repeat (first | refine hn17 _ ?_ | refine he17 _ ?_ | refine hf17 _ _ (by decide) ?_ | refine hn16 _ ?_ | refine he16 _ _ ?_ | refine hn15 _ ?_ | refine he15 _ _ ?_)
       refine hn14 _ (k + 1) (td.length - (k + 1)) (by omega) (by first | (simp only [go_sem, updAll_cons, updAll_nil]; done) | with_reducible rfl) ?_
       exact ⟨hk2, rfl⟩
     have hdx : decide ((k : Int) < (td.length : Int)) = false := decide_eq_false (by omega)
     refine wlk_sreg fun KY hKY => ?_
     simp only [go_sem, c_f3_r19, nats_len, hdx]
     refine hKY _ ?_
     refine wlk_cond0 (by first | rfl | (simp only [go_sem]; try simp (disch := omega) only [decide_eq_true, decide_eq_false])) ?_
     refine wlk_exit ?_
     repeat (first | refine hn15 _ ?_ | refine he15 _ _ ?_ | refine he14 _ _ ?_ | refine hn13 _ ?_ | refine he13 _ ?_ | refine hf13 _ _ (by decide) ?_ | refine hn12 _ ?_ | refine he12 _ _ ?_ | refine hn11 _ ?_ | refine he11 _ _ ?_ | refine hn10 _ ?_ | refine he10 _ _ ?_ | refine hn5 _ ?_ | refine he5 _ _ ?_ | refine he4 _ _ ?_ | refine hn3 _ ?_ | refine he3 _ ?_ | refine hf3 _ _ (by decide) ?_ | refine hn2 _ ?_ | refine he2 _ _ ?_ | refine hn1 _ ?_ | refine he1 _ _ ?_)
     refine wlk_sreg fun KY hKY => ?_
     simp only [go_sem, c_f3_r23, nats_len, w1, w2]
     refine call_view rfl (by simp only [go_sem] <;> rfl) ((hpl).mono ?_)
     rintro rr hh ⟨rfl, rfl⟩
     refine ⟨rfl, rfl, rfl, ?_⟩
     simp only [go_sem]
     refine hKY _ ?_
     refine wlk_ret ?_
     repeat (first | refine hr15 _ ?_ | refine hr14 _ ?_ | refine hr13 _ ?_ | refine hr12 _ ?_ | refine hr11 _ ?_ | refine hr10 _ ?_ | refine hr5 _ ?_ | refine hr4 _ ?_ | refine hr3 _ ?_ | refine hr2 _ ?_ | refine hr1 _ ?_)
     simp only [go_sem]
   · rw [show hasI (prt N (adj es) 2) (v : Int) = false from by
      cases h : hasI (prt N (adj es) 2) (v : Int) with
      | false => rfl
      | true => exact absurd ((prt_A F).1 (hasI_nat.1 h)) hAv] at iA
     refine wlk_seq fun X18 hn18 he18 hr18 => ?_
     refine wlk_sreg fun KY hKY => ?_
     simp only [go_sem, c_f3_r14]
     refine call_view rfl (by simp only [go_sem] <;> rfl) ((awake14_ok).mono ?_)
     rintro rr hh ⟨rfl, rfl⟩
     refine ⟨rfl, rfl, rfl, ?_⟩
     simp only [go_sem]
     refine call_view rfl (by simp only [go_sem] <;> rfl) ((iD).mono ?_)
     rintro rr hh ⟨rfl, rfl⟩
     refine ⟨rfl, rfl, rfl, ?_⟩
     simp only [go_sem]
     refine hKY _ ?_
     refine wlk_cond0 (by first | rfl | (simp only [go_sem]; try simp (disch := omega) only [decide_eq_true, decide_eq_false])) ?_
     refine wlk_skip ?_
     repeat (first | refine hn18 _ ?_ | refine he18 _ _ ?_ | refine hn5 _ ?_ | refine he5 _ _ ?_ | refine he4 _ _ ?_ | refine hn3 _ ?_ | refine he3 _ ?_ | refine hf3 _ _ (by decide) ?_ | refine hn2 _ ?_ | refine he2 _ _ ?_ | refine hn1 _ ?_ | refine he1 _ _ ?_)
     refine wlk_seq fun X19 hn19 he19 hr19 => ?_
     refine wlk_sreg fun KY hKY => ?_
     simp only [go_sem, c_f3_r16]
     refine call_view rfl (by simp only [go_sem] <;> rfl) ((iA).mono ?_)
     rintro rr hh ⟨rfl, rfl⟩
     refine ⟨rfl, rfl, rfl, ?_⟩
     simp only [go_sem]
     refine hKY _ ?_
     refine wlk_cond1 (by first | rfl | (simp only [go_sem]; try simp (disch := omega) only [decide_eq_true, decide_eq_false])) ?_
     refine wlk_sreg fun KY hKY => ?_
     simp only [go_sem, c_f3_r17]
     refine hKY _ ?_
     refine wlk_ret ?_
     repeat (first | refine hr19 _ ?_ | refine hr18 _ ?_ | refine hr5 _ ?_ | refine hr4 _ ?_ | refine hr3 _ ?_ | refine hr2 _ ?_ | refine hr1 _ ?_)
     simp only [go_sem]
end Go.Proofs.Ytkjppnofgmpeeaa
namespace Go.Proofs.Ytkjppnofgmpeeaa
open Go Go.Ga Go.Ga.Gl
theorem gallaiLess_all (As : List AVal) (b : Nat) (h : SAs Try.prog Try.f3.params.toList As b) (hb : b ≤ 1048576) : ACalls Try.prog [] 3 As [] fun r _ => r = .sc (.bool true) := by
 rw [Try.params3] at h
 obtain ⟨A1, As1, c1, d1, rfl, rfl, h1, h⟩ := sas_cons h
 obtain ⟨A2, As2, c2, d2, rfl, rfl, h2, h⟩ := sas_cons h
 obtain ⟨A3, As3, c3, d3, rfl, rfl, h3, h⟩ := sas_cons h
 obtain rfl := sas_nil h
 obtain ⟨x1, rfl, w1⟩ := sa_int Try.underlying3 h1
 obtain ⟨x2, rfl, w2, e2⟩ := sa_ints Try.underlying22 Try.underlying3 (by kernel_rfl) h2
 obtain ⟨x3, rfl, w3⟩ := sa_int Try.underlying3 h3
 exact (gless_ok x1 x2 x3 (by omega)).mono fun _ _ h => h.1
end Go.Proofs.Ytkjppnofgmpeeaa
namespace Go.Proofs.Ytkjppnofgmpeeaa.gallaiLessend
open Go Go.Ga Go.ChangeShapes Go.WideShapes Go.ChangeAt Go.RowKit
theorem own : ownKnob Try.prog.godebug = none := by kernel_rfl
mutual
theorem bulk_at {H : Type} : ∀ d : DataW H, Rows.uptoBulk d = bulk d
 | .lit l => by cases l <;> simp [Rows.uptoBulk, bulk]
 | .nil => by simp [Rows.uptoBulk, bulk]
 | .ptr d => by simp [Rows.uptoBulk, bulk, bulk_at d]
 | .slice e s => by simp [Rows.uptoBulk, bulk, bulk_eq e, bulk_eq s]
 | .agg p => by simp [Rows.uptoBulk, bulk, bulk_eq p]
 | .iface _ d => by simp [Rows.uptoBulk, bulk, bulk_at d]
 | .map e => by simp [Rows.uptoBulk, bulk, bulk_es e]
 | .held _ => by simp [Rows.uptoBulk, bulk]
theorem bulk_eq {H : Type} : ∀ l : List (DataW H), Rows.uptoBulkAll l = bulkL l
 | [] => by simp [Rows.uptoBulkAll, bulkL]
 | d :: r => by simp [Rows.uptoBulkAll, bulkL, bulk_at d, bulk_eq r]
theorem bulk_es {H : Type} : ∀ l : List (Lit × DataW H), Rows.uptoBulkEntries l = bulkE l
 | [] => by simp [Rows.uptoBulkEntries, bulkE]
 | d :: r => by simp [Rows.uptoBulkEntries, bulkE, bulk_e d, bulk_es r]
theorem bulk_e {H : Type} : ∀ d : Lit × DataW H, Rows.uptoBulkEntry d = bulk1 d
 | (l, d) => by cases l <;> simp [Rows.uptoBulkEntry, bulk1, bulk_at d]
end
set_option maxRecDepth 100000 in
theorem plain : Plain Try.prog [3, 22] := plain_of (by kernel_rfl)
set_option maxRecDepth 100000 in
theorem contract (H : Type) (enc : TypeId × Value → H) (W : World) (base : Nat) (args : Array Value) (ds gs : List (DataW H)) (before : List MemPlace)
    (hval : ∀ (j : Nat) t v, Try.f3.params[j]? = some t → args[j]? = some v → Value.okWide Try.prog W .any base t v)
    (hW : DataW.Whole enc Try.prog Try.f3.params.toList Rows.gallaiLessSpec.vars false W args.toList ds gs before) (hk : Rows.uptoSmall H (ds ++ gs) = true) :
    Calls Try.prog 3 args W fun e W' => ∃ v, e = .returned v ∧ Rows.gallaiLessSpec.post enc Try.prog Try.f3 false true false false W args v W' := by
  have hW' := hW
  obtain ⟨p, q, hA, hV, rfl, hfz, hnd⟩ := hW
  obtain ⟨rfl, rfl⟩ := Go.Ga.trodVars_nil hV
  have hb : bulkL (ds ++ []) ≤ 1048576 := by rw [← bulk_eq]; exact of_decide_eq_true hk
  have r0 : DataW.TrodAll enc Try.prog W 0 (fun _ => true) true Try.f3.params.toList args.toList ds p := hA
  rw [Try.params3] at r0
  obtain ⟨v0, vs0, d0, ds0, p0, q0, hv0, rfl, rfl, h0, r1⟩ := trodAll_cons r0
  obtain ⟨v1, vs1, d1, ds1, p1, q1, hv1, rfl, rfl, h1, r2⟩ := trodAll_cons r1
  obtain ⟨v2, vs2, d2, ds2, p2, q2, hv2, rfl, rfl, h2, r3⟩ := trodAll_cons r2
  obtain ⟨rfl, rfl, rfl⟩ := trodAll_nil r3
  exact contract_true plain hval (by rw [Try.params3]; decide) hW' rfl rfl rfl rfl (tb := 4) (by kernel_rfl) Try.underlying4 hb gallaiLess_all
set_option maxRecDepth 100000 in
theorem lifted (os : Os) (started : os.Started) (H : Type) (enc : TypeId × Value → H) (F : Stop.Interp) :
    ReturnsInHanded {} Try.checked os 3 .any ((Rows.OpenSpec.upto Rows.gallaiLessSpec).pre6 enc Try.prog Try.f3 Rows.gallaiLessUptoRow.domain false) (((Rows.OpenSpec.upto Rows.gallaiLessSpec).at F).post enc Try.prog Try.f3 false true false false) := by
  refine returnsInHanded_of_cond (C := Try.checked) (s := Rows.OpenSpec.upto Rows.gallaiLessSpec) (k := Rows.uptoSmall) rfl own started (by kernel_rfl) Try.func3
    (OpenSpec.witness (enc := enc) (C := Try.checked) (s := Rows.OpenSpec.upto Rows.gallaiLessSpec) (k := Rows.uptoSmall) rfl false ⟨#[], #[.int .i64 0, .slice none 0 0, .int .i64 0], []⟩ 8 (by kernel_rfl) (by kernel_rfl) (by kernel_rfl)
      (x := ([.lit (.int .i64 0), .nil, .lit (.int .i64 0)], [], [])) (by kernel_rfl) rfl (by kernel_rfl)) ?_
  intro W base args ds gs before hval hW _ hk _
  exact contract H enc W base args ds gs before hval hW hk
theorem holds : Rows.GallaiLessUptoSaid :=
 OpenClaim.holds_of_cond 3 Try.f3 rfl rfl rfl rfl rfl rfl rfl ⟨rfl, rfl, rfl, rfl, rfl⟩ rfl rfl rfl rfl rfl (by kernel_rfl) Try.func3 (by kernel_rfl)
  (of_decide_eq_true (by kernel_rfl)) (by unfold Func.isWrapper; first | (rw [if_pos (by decide +kernel)]; kernel_rfl) | (rw [if_neg (by decide +kernel)]; exact ⟨rfl, rfl⟩))
  (fun os started H enc _ F => lifted os started H enc F)
end Go.Proofs.Ytkjppnofgmpeeaa.gallaiLessend
