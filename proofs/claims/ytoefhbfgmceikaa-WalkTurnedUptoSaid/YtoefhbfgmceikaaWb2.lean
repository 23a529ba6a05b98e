/- A path that augments does so from behind, too: walked. -/
import Derived.Test.YtoefhbfgmceikaaWb1
import Derived.Test.YtoefhbfgmceikaaGlaamcc5
import Derived.WalkKit
import Derived.ProofKit
import Derived.OpenShut
import Derived.JoinedCond
set_option linter.all false
set_option maxRecDepth 100000
set_option maxHeartbeats 4000000
namespace Go.Proofs.Ytoefhbfgmceikaa
open Go Go.Ga Go.Ga.Gl
def jAt (m : List Int) (l : Es) (v : Nat) : Bool := l.any fun e => (decide (e.1 = v) || decide (e.2 = v)) && (decide (m.getD e.1 0 = (e.2 : Int)) && decide (m.getD e.2 0 = (e.1 : Int)))
theorem jAt_ok {N : Nat} {es : Es} (g : GR N es) (m : List Int) {v : Nat} (hw : m.getD v 0 ≠ -1) : jAt m es v = mOk es m v := by
  rw [Bool.eq_iff_iff]
  unfold jAt mOk
  rw [List.any_eq_true, decide_eq_false hw, Bool.false_or, Bool.and_eq_true, decide_eq_true_iff, decide_eq_true_iff]
  constructor
  · rintro ⟨⟨a, b⟩, he, h⟩
    have hok := g.ok _ he
    simp only [Bool.and_eq_true, Bool.or_eq_true, decide_eq_true_eq] at h hok
    obtain ⟨rfl | rfl, h1, h2⟩ := h
    · rw [h1]
      refine ⟨?_, by rw [Int.toNat_natCast]; exact h2⟩
      unfold turnI; rw [if_neg (by omega)]; exact castE_mem.2 he
    · rw [h2]
      refine ⟨?_, by rw [Int.toNat_natCast]; exact h1⟩
      unfold turnI; rw [if_pos (by omega)]; exact castE_mem.2 he
  · rintro ⟨h1, h2⟩
    obtain ⟨u, hu, _, _, hne⟩ := turn_mem g h1
    rw [hu] at h1 h2
    rw [Int.toNat_natCast] at h2
    unfold turnI at h1
    split at h1
    · exact ⟨(u, v), castE_mem.1 h1, by simp only [hu, h2, decide_true, Bool.or_true, Bool.true_or, Bool.and_self]⟩
    · exact ⟨(v, u), castE_mem.1 h1, by simp only [hu, h2, decide_true, Bool.or_true, Bool.true_or, Bool.and_self]⟩
def jL (N : Nat) (m : List Int) (l : Es) : List Bool := (List.range N).map (jAt m l)
theorem jL_len (N : Nat) (m : List Int) (l : Es) : (jL N m l).length = N := by simp [jL]
theorem jL_get {N : Nat} (m : List Int) (l : Es) {v : Nat} (h : v < N) : (jL N m l).getD v false = jAt m l v := by simp [jL, h]
theorem jL_no {N : Nat} (m : List Int) (l : Es) {a b : Nat} (h : ¬ (m.getD a 0 = (b : Int) ∧ m.getD b 0 = (a : Int))) : jL N m (l ++ [(a, b)]) = jL N m l := by
  refine List.map_congr_left fun v _ => ?_
  unfold jAt
  rw [List.any_append]
  have : (decide (m.getD a 0 = (b : Int)) && decide (m.getD b 0 = (a : Int))) = false := by
    rw [Bool.eq_false_iff]; intro h'; rw [Bool.and_eq_true, decide_eq_true_iff, decide_eq_true_iff] at h'; exact h h'
  simp only [List.any_cons, List.any_nil, this, Bool.and_false, Bool.or_false]
theorem jL_yes {N : Nat} (m : List Int) (l : Es) {a b : Nat} (h : m.getD a 0 = (b : Int) ∧ m.getD b 0 = (a : Int)) : ((jL N m l).set a true).set b true = jL N m (l ++ [(a, b)]) := by
  apply List.ext_getElem
  · simp [jL]
  · intro i h1 h2
    have hi : i < N := by rw [jL_len] at h2; exact h2
    have e : jAt m (l ++ [(a, b)]) i = (jAt m l i || (decide (a = i) || decide (b = i))) := by
      unfold jAt
      rw [List.any_append]
      simp only [List.any_cons, List.any_nil, h.1, h.2, decide_true, Bool.and_true, Bool.or_false]
    simp only [jL, List.getElem_set, List.getElem_map, List.getElem_range, e]
    by_cases hb : b = i
    · simp [hb]
    · by_cases ha : a = i
      · simp [ha, hb]
      · simp [ha, hb]
theorem mright_no (n : Int) (es : List (Int × Int)) (m : List Int) (h : (rightB n es && decide ((m.length : Int) = n)) = false) : ACalls Try.prog [] n_mates_Right [.agg [.sc (.int .i64 n), .imm 2 (twos es)], .imm 1 (ints m)] [] fun r h' => r = .sc (.bool false) ∧ h' = [] := by
  refine ACalls.trim ?_
  refine go_mates_Right rfl ?_
  unfold c_mates_Right v_mates_Right
  refine wlk_sreg fun KY hKY => ?_
  simp only [go_sem, reduceIte, Nat.reduceEqDiff, Nat.reduceBEq, reduceCtorEq, Nat.reduceLT, Nat.reduceLeDiff, Nat.reduceAdd, Nat.reduceSub, Nat.reduceMul, Nat.reduceDiv, Int.reduceAdd, Int.reduceNeg, Int.reduceEq, Int.reduceLT, Int.reduceLE, c_mates_Right_r0]
  refine hKY _ ?_
  refine wlk_seq fun X1 hn1 he1 hr1 => ?_
  cases hr : rightB n es with
  | false =>
    refine wlk_sreg fun KY hKY => ?_
    simp only [go_sem, reduceIte, Nat.reduceEqDiff, Nat.reduceBEq, reduceCtorEq, Nat.reduceLT, Nat.reduceLeDiff, Nat.reduceAdd, Nat.reduceSub, Nat.reduceMul, Nat.reduceDiv, Int.reduceAdd, Int.reduceNeg, Int.reduceEq, Int.reduceLT, Int.reduceLE, c_mates_Right_r1]
    refine call_view rfl (by simp only [go_sem, reduceIte, Nat.reduceEqDiff, Nat.reduceBEq, reduceCtorEq, Nat.reduceLT, Nat.reduceLeDiff, Nat.reduceAdd, Nat.reduceSub, Nat.reduceMul, Nat.reduceDiv, Int.reduceAdd, Int.reduceNeg, Int.reduceEq, Int.reduceLT, Int.reduceLE] <;> rfl) ((right_ok n es).mono ?_)
    rintro rr hh ⟨rfl, rfl⟩
    refine ⟨rfl, rfl, rfl, ?_⟩
    simp only [go_sem, reduceIte, Nat.reduceEqDiff, Nat.reduceBEq, reduceCtorEq, Nat.reduceLT, Nat.reduceLeDiff, Nat.reduceAdd, Nat.reduceSub, Nat.reduceMul, Nat.reduceDiv, Int.reduceAdd, Int.reduceNeg, Int.reduceEq, Int.reduceLT, Int.reduceLE, hr]
    refine hKY _ ?_
    refine wlk_cond1 (by first | rfl | (simp only [go_sem, reduceIte, Nat.reduceEqDiff, Nat.reduceBEq, reduceCtorEq, Nat.reduceLT, Nat.reduceLeDiff, Nat.reduceAdd, Nat.reduceSub, Nat.reduceMul, Nat.reduceDiv, Int.reduceAdd, Int.reduceNeg, Int.reduceEq, Int.reduceLT, Int.reduceLE]; try simp (disch := omega) only [decide_eq_true, decide_eq_false])) ?_
    refine wlk_sreg fun KY hKY => ?_
    simp only [go_sem, reduceIte, Nat.reduceEqDiff, Nat.reduceBEq, reduceCtorEq, Nat.reduceLT, Nat.reduceLeDiff, Nat.reduceAdd, Nat.reduceSub, Nat.reduceMul, Nat.reduceDiv, Int.reduceAdd, Int.reduceNeg, Int.reduceEq, Int.reduceLT, Int.reduceLE, c_mates_Right_r2]
    refine hKY _ ?_
    refine wlk_ret ?_
    repeat (first | refine hr1 _ ?_)
    simp only [go_sem, reduceIte, Nat.reduceEqDiff, Nat.reduceBEq, reduceCtorEq, Nat.reduceLT, Nat.reduceLeDiff, Nat.reduceAdd, Nat.reduceSub, Nat.reduceMul, Nat.reduceDiv, Int.reduceAdd, Int.reduceNeg, Int.reduceEq, Int.reduceLT, Int.reduceLE]
  | true =>
    rw [hr, Bool.true_and, decide_eq_false_iff_not] at h
    have hd : decide ((m.length : Int) ≠ n) = true := decide_eq_true h
    refine wlk_sreg fun KY hKY => ?_
    simp only [go_sem, reduceIte, Nat.reduceEqDiff, Nat.reduceBEq, reduceCtorEq, Nat.reduceLT, Nat.reduceLeDiff, Nat.reduceAdd, Nat.reduceSub, Nat.reduceMul, Nat.reduceDiv, Int.reduceAdd, Int.reduceNeg, Int.reduceEq, Int.reduceLT, Int.reduceLE, c_mates_Right_r1]
    refine call_view rfl (by simp only [go_sem, reduceIte, Nat.reduceEqDiff, Nat.reduceBEq, reduceCtorEq, Nat.reduceLT, Nat.reduceLeDiff, Nat.reduceAdd, Nat.reduceSub, Nat.reduceMul, Nat.reduceDiv, Int.reduceAdd, Int.reduceNeg, Int.reduceEq, Int.reduceLT, Int.reduceLE] <;> rfl) ((right_ok n es).mono ?_)
    rintro rr hh ⟨rfl, rfl⟩
    refine ⟨rfl, rfl, rfl, ?_⟩
    simp only [go_sem, reduceIte, Nat.reduceEqDiff, Nat.reduceBEq, reduceCtorEq, Nat.reduceLT, Nat.reduceLeDiff, Nat.reduceAdd, Nat.reduceSub, Nat.reduceMul, Nat.reduceDiv, Int.reduceAdd, Int.reduceNeg, Int.reduceEq, Int.reduceLT, Int.reduceLE, hr, ints_len, hd]
    refine hKY _ ?_
    refine wlk_cond1 (by first | rfl | (simp only [go_sem, reduceIte, Nat.reduceEqDiff, Nat.reduceBEq, reduceCtorEq, Nat.reduceLT, Nat.reduceLeDiff, Nat.reduceAdd, Nat.reduceSub, Nat.reduceMul, Nat.reduceDiv, Int.reduceAdd, Int.reduceNeg, Int.reduceEq, Int.reduceLT, Int.reduceLE]; try simp (disch := omega) only [decide_eq_true, decide_eq_false])) ?_
    refine wlk_sreg fun KY hKY => ?_
    simp only [go_sem, reduceIte, Nat.reduceEqDiff, Nat.reduceBEq, reduceCtorEq, Nat.reduceLT, Nat.reduceLeDiff, Nat.reduceAdd, Nat.reduceSub, Nat.reduceMul, Nat.reduceDiv, Int.reduceAdd, Int.reduceNeg, Int.reduceEq, Int.reduceLT, Int.reduceLE, c_mates_Right_r2]
    refine hKY _ ?_
    refine wlk_ret ?_
    repeat (first | refine hr1 _ ?_)
    simp only [go_sem, reduceIte, Nat.reduceEqDiff, Nat.reduceBEq, reduceCtorEq, Nat.reduceLT, Nat.reduceLeDiff, Nat.reduceAdd, Nat.reduceSub, Nat.reduceMul, Nat.reduceDiv, Int.reduceAdd, Int.reduceNeg, Int.reduceEq, Int.reduceLT, Int.reduceLE]
theorem mright_yes {N : Nat} {es : Es} (g : GR N es) (m : List Int) (hl : m.length = N) : ACalls Try.prog [] n_mates_Right [.agg [.sc (.int .i64 (N : Int)), .imm 2 (twos (castE es))], .imm 1 (ints m)] [] fun r h' => r = .sc (.bool ((List.range N).all fun v => mOk es m v)) ∧ h' = [] := by
  refine ACalls.trim ?_
  have hN := g.hn
  have hem := g.hm
  have hr := rightB_GR g
  have hd : decide ((m.length : Int) ≠ (N : Int)) = false := decide_eq_false (by omega)
  have h0 : List.replicate N false = jL N m (es.take 0) := by
    apply List.ext_getElem
    · simp [jL]
    · intro i h1 h2; simp [jL, jAt]
  refine go_mates_Right rfl ?_
  unfold c_mates_Right v_mates_Right
  refine wlk_sreg fun KY hKY => ?_
  simp only [go_sem, reduceIte, Nat.reduceEqDiff, Nat.reduceBEq, reduceCtorEq, Nat.reduceLT, Nat.reduceLeDiff, Nat.reduceAdd, Nat.reduceSub, Nat.reduceMul, Nat.reduceDiv, Int.reduceAdd, Int.reduceNeg, Int.reduceEq, Int.reduceLT, Int.reduceLE, c_mates_Right_r0]
  refine hKY _ ?_
  refine wlk_seq fun X1 hn1 he1 hr1 => ?_
  refine wlk_sreg fun KY hKY => ?_
  simp only [go_sem, reduceIte, Nat.reduceEqDiff, Nat.reduceBEq, reduceCtorEq, Nat.reduceLT, Nat.reduceLeDiff, Nat.reduceAdd, Nat.reduceSub, Nat.reduceMul, Nat.reduceDiv, Int.reduceAdd, Int.reduceNeg, Int.reduceEq, Int.reduceLT, Int.reduceLE, c_mates_Right_r1]
  refine call_view rfl (by simp only [go_sem, reduceIte, Nat.reduceEqDiff, Nat.reduceBEq, reduceCtorEq, Nat.reduceLT, Nat.reduceLeDiff, Nat.reduceAdd, Nat.reduceSub, Nat.reduceMul, Nat.reduceDiv, Int.reduceAdd, Int.reduceNeg, Int.reduceEq, Int.reduceLT, Int.reduceLE] <;> rfl) ((right_ok N (castE es)).mono ?_)
  rintro rr hh ⟨rfl, rfl⟩
  refine ⟨rfl, rfl, rfl, ?_⟩
  simp only [go_sem, reduceIte, Nat.reduceEqDiff, Nat.reduceBEq, reduceCtorEq, Nat.reduceLT, Nat.reduceLeDiff, Nat.reduceAdd, Nat.reduceSub, Nat.reduceMul, Nat.reduceDiv, Int.reduceAdd, Int.reduceNeg, Int.reduceEq, Int.reduceLT, Int.reduceLE, hr, ints_len, hd]
  refine hKY _ ?_
  refine wlk_cond0 (by first | rfl | (simp only [go_sem, reduceIte, Nat.reduceEqDiff, Nat.reduceBEq, reduceCtorEq, Nat.reduceLT, Nat.reduceLeDiff, Nat.reduceAdd, Nat.reduceSub, Nat.reduceMul, Nat.reduceDiv, Int.reduceAdd, Int.reduceNeg, Int.reduceEq, Int.reduceLT, Int.reduceLE]; try simp (disch := omega) only [decide_eq_true, decide_eq_false])) ?_
  refine wlk_skip ?_
  repeat (first | refine hn1 _ ?_ | refine he1 _ _ ?_)
  refine wlk_sreg fun KY hKY => ?_
  simp only [go_sem, reduceIte, Nat.reduceEqDiff, Nat.reduceBEq, reduceCtorEq, Nat.reduceLT, Nat.reduceLeDiff, Nat.reduceAdd, Nat.reduceSub, Nat.reduceMul, Nat.reduceDiv, Int.reduceAdd, Int.reduceNeg, Int.reduceEq, Int.reduceLT, Int.reduceLE, c_mates_Right_r3, (show N ≤ 140737488355328 by omega), (show 1 * N ≤ 140737488355328 by omega), (show (N : Int) ≤ (N : Int) from Int.le_refl _), (show (N : Int) ≤ 9223372036854775807 by omega), h0]
  refine hKY _ ?_
  refine wlk_seq fun X2 hn2 he2 hr2 => ?_
  refine wlk_sreg fun KY hKY => ?_
  simp only [go_sem, reduceIte, Nat.reduceEqDiff, Nat.reduceBEq, reduceCtorEq, Nat.reduceLT, Nat.reduceLeDiff, Nat.reduceAdd, Nat.reduceSub, Nat.reduceMul, Nat.reduceDiv, Int.reduceAdd, Int.reduceNeg, Int.reduceEq, Int.reduceLT, Int.reduceLE, c_mates_Right_r4, twos_len, mul2, castE_len]
  refine hKY _ ?_
  refine wlk_blk fun X3 hn3 he3 hf3 hr3 => ?_
  try simp only [go_sem, reduceIte, Nat.reduceEqDiff, Nat.reduceBEq, reduceCtorEq, Nat.reduceLT, Nat.reduceLeDiff, Nat.reduceAdd, Nat.reduceSub, Nat.reduceMul, Nat.reduceDiv, Int.reduceAdd, Int.reduceNeg, Int.reduceEq, Int.reduceLT, Int.reduceLE]
  refine wlk_lp (α := Nat) [7, 27, 47] (fun k => [(5, .own (some 1) (bools (jL N m (es.take k)))), (26, .sc (.int .i64 (k : Int)))]) (fun k => []) (fun k q => k ≤ es.length ∧ q = es.length - k) (0) (es.length) rfl (by first | (simp only [go_sem, reduceIte, Nat.reduceEqDiff, Nat.reduceBEq, reduceCtorEq, Nat.reduceLT, Nat.reduceLeDiff, Nat.reduceAdd, Nat.reduceSub, Nat.reduceMul, Nat.reduceDiv, Int.reduceAdd, Int.reduceNeg, Int.reduceEq, Int.reduceLT, Int.reduceLE, updAll_cons, updAll_nil]; done) | with_reducible rfl | rfl) (⟨by omega, rfl⟩) ?_
  rintro k q ⟨hk, rfl⟩ X4 hn4 he4 hr4
  simp only [go_sem, reduceIte, Nat.reduceEqDiff, Nat.reduceBEq, reduceCtorEq, Nat.reduceLT, Nat.reduceLeDiff, Nat.reduceAdd, Nat.reduceSub, Nat.reduceMul, Nat.reduceDiv, Int.reduceAdd, Int.reduceNeg, Int.reduceEq, Int.reduceLT, Int.reduceLE, updAll_cons, updAll_nil]
  rcases Nat.lt_or_ge k es.length with hk2 | hk2
  · have hdy : decide ((k : Int) < (es.length : Int)) = true := decide_eq_true (by omega)
    refine wlk_sreg fun KY hKY => ?_
    simp only [go_sem, reduceIte, Nat.reduceEqDiff, Nat.reduceBEq, reduceCtorEq, Nat.reduceLT, Nat.reduceLeDiff, Nat.reduceAdd, Nat.reduceSub, Nat.reduceMul, Nat.reduceDiv, Int.reduceAdd, Int.reduceNeg, Int.reduceEq, Int.reduceLT, Int.reduceLE, c_mates_Right_r5, hdy]
    refine hKY _ ?_
    refine wlk_seq fun X5 hn5 he5 hr5 => ?_
    refine wlk_cond1 (by first | rfl | (simp only [go_sem, reduceIte, Nat.reduceEqDiff, Nat.reduceBEq, reduceCtorEq, Nat.reduceLT, Nat.reduceLeDiff, Nat.reduceAdd, Nat.reduceSub, Nat.reduceMul, Nat.reduceDiv, Int.reduceAdd, Int.reduceNeg, Int.reduceEq, Int.reduceLT, Int.reduceLE]; try simp (disch := omega) only [decide_eq_true, decide_eq_false])) ?_
    refine wlk_skip ?_
    repeat (first | refine hn5 _ ?_ | refine he5 _ _ ?_ | refine he4 _ _ ?_ | refine hn3 _ ?_ | refine he3 _ ?_ | refine hf3 _ _ (by decide) ?_ | refine hn2 _ ?_ | refine he2 _ _ ?_ | refine hn1 _ ?_ | refine he1 _ _ ?_)
    refine wlk_seq fun X6 hn6 he6 hr6 => ?_
    refine wlk_blk fun X7 hn7 he7 hf7 hr7 => ?_
    have hx : es[k]? = some es[k] := List.getElem?_eq_getElem hk2
    have hxm : es[k] ∈ es := List.getElem_mem hk2
    generalize es[k] = x at hx hxm
    obtain ⟨a, b⟩ := x
    have hxc := castE_get hx
    have hok := g.ok (a, b) hxm
    simp only at hok
    have htk : es.take (k + 1) = es.take k ++ [(a, b)] := by rw [List.take_add_one, hx]; rfl
    have haN : a < N := by omega
    have hbN : b < N := hok.2
    refine wlk_sreg fun KY hKY => ?_
    simp only [go_sem, reduceIte, Nat.reduceEqDiff, Nat.reduceBEq, reduceCtorEq, Nat.reduceLT, Nat.reduceLeDiff, Nat.reduceAdd, Nat.reduceSub, Nat.reduceMul, Nat.reduceDiv, Int.reduceAdd, Int.reduceNeg, Int.reduceEq, Int.reduceLT, Int.reduceLE, c_mates_Right_r6, (show k * 2 + 1 < es.length * 2 by omega), (show 1 < es.length * 2 - k * 2 by omega), two_cells hxc, List.length_drop, twos_len, castE_len]
    refine hKY _ ?_
    by_cases h1 : m.getD a 0 = (b : Int)
    · have d1 : decide (m.getD a 0 = (b : Int)) = true := decide_eq_true h1
      by_cases h2 : m.getD b 0 = (a : Int)
      · have d2 : decide (m.getD b 0 = (a : Int)) = true := decide_eq_true h2
        have hst := jL_yes (N := N) m (es.take k) ⟨h1, h2⟩
        rw [← htk] at hst
        refine wlk_sdraw fun KY hKY => ?_
        simp only [go_sem, reduceIte, Nat.reduceEqDiff, Nat.reduceBEq, reduceCtorEq, Nat.reduceLT, Nat.reduceLeDiff, Nat.reduceAdd, Nat.reduceSub, Nat.reduceMul, Nat.reduceDiv, Int.reduceAdd, Int.reduceNeg, Int.reduceEq, Int.reduceLT, Int.reduceLE, c_mates_Right_r7, ints_get (show a < m.length by omega), ints_get (show b < m.length by omega), ints_len, hl, haN, hbN, d1, d2]
        refine hKY _ ?_
        refine wlk_cond1 (by first | rfl | (simp only [go_sem, reduceIte, Nat.reduceEqDiff, Nat.reduceBEq, reduceCtorEq, Nat.reduceLT, Nat.reduceLeDiff, Nat.reduceAdd, Nat.reduceSub, Nat.reduceMul, Nat.reduceDiv, Int.reduceAdd, Int.reduceNeg, Int.reduceEq, Int.reduceLT, Int.reduceLE]; try simp (disch := omega) only [decide_eq_true, decide_eq_false])) ?_
        refine wlk_draw fun KY hKY => ?_
        simp only [go_sem, reduceIte, Nat.reduceEqDiff, Nat.reduceBEq, reduceCtorEq, Nat.reduceLT, Nat.reduceLeDiff, Nat.reduceAdd, Nat.reduceSub, Nat.reduceMul, Nat.reduceDiv, Int.reduceAdd, Int.reduceNeg, Int.reduceEq, Int.reduceLT, Int.reduceLE, c_mates_Right_r8, bools_len, jL_len, haN, hbN, List.length_set, hst, (show ([0, 5] == [0, 7]) = false from rfl), Bool.not_false]
        refine hKY _ ?_
        repeat (first | refine hn7 _ ?_ | refine he7 _ ?_ | refine hf7 _ _ (by decide) ?_ | refine hn6 _ ?_ | refine he6 _ _ ?_ | refine hn5 _ ?_ | refine he5 _ _ ?_ | refine he4 _ _ ?_ | refine hn3 _ ?_ | refine he3 _ ?_ | refine hf3 _ _ (by decide) ?_ | refine hn2 _ ?_ | refine he2 _ _ ?_ | refine hn1 _ ?_ | refine he1 _ _ ?_)
        refine wlk_reg fun KY hKY => ?_
        simp only [go_sem, reduceIte, Nat.reduceEqDiff, Nat.reduceBEq, reduceCtorEq, Nat.reduceLT, Nat.reduceLeDiff, Nat.reduceAdd, Nat.reduceSub, Nat.reduceMul, Nat.reduceDiv, Int.reduceAdd, Int.reduceNeg, Int.reduceEq, Int.reduceLT, Int.reduceLE, c_mates_Right_r9, incS (show k < 4611686018427387904 by omega)]
        refine hKY _ ?_
        repeat (first | refine hn7 _ ?_ | refine he7 _ ?_ | refine hf7 _ _ (by decide) ?_ | refine hn6 _ ?_ | refine he6 _ _ ?_ | refine hn5 _ ?_ | refine he5 _ _ ?_)
        refine hn4 _ (k + 1) (es.length - (k + 1)) (by omega) (by first | (simp only [go_sem, reduceIte, Nat.reduceEqDiff, Nat.reduceBEq, reduceCtorEq, Nat.reduceLT, Nat.reduceLeDiff, Nat.reduceAdd, Nat.reduceSub, Nat.reduceMul, Nat.reduceDiv, Int.reduceAdd, Int.reduceNeg, Int.reduceEq, Int.reduceLT, Int.reduceLE, updAll_cons, updAll_nil]; done) | with_reducible rfl | rfl) ?_
        exact ⟨hk2, rfl⟩
      · have d2 : decide (m.getD b 0 = (a : Int)) = false := decide_eq_false h2
        have hst := jL_no (N := N) m (es.take k) (a := a) (b := b) fun h => h2 h.2
        rw [← htk] at hst
        refine wlk_sdraw fun KY hKY => ?_
        simp only [go_sem, reduceIte, Nat.reduceEqDiff, Nat.reduceBEq, reduceCtorEq, Nat.reduceLT, Nat.reduceLeDiff, Nat.reduceAdd, Nat.reduceSub, Nat.reduceMul, Nat.reduceDiv, Int.reduceAdd, Int.reduceNeg, Int.reduceEq, Int.reduceLT, Int.reduceLE, c_mates_Right_r7, ints_get (show a < m.length by omega), ints_get (show b < m.length by omega), ints_len, hl, haN, hbN, d1, d2]
        refine hKY _ ?_
        refine wlk_cond0 (by first | rfl | (simp only [go_sem, reduceIte, Nat.reduceEqDiff, Nat.reduceBEq, reduceCtorEq, Nat.reduceLT, Nat.reduceLeDiff, Nat.reduceAdd, Nat.reduceSub, Nat.reduceMul, Nat.reduceDiv, Int.reduceAdd, Int.reduceNeg, Int.reduceEq, Int.reduceLT, Int.reduceLE]; try simp (disch := omega) only [decide_eq_true, decide_eq_false])) ?_
        refine wlk_skip ?_
        repeat (first | refine hn7 _ ?_ | refine he7 _ ?_ | refine hf7 _ _ (by decide) ?_ | refine hn6 _ ?_ | refine he6 _ _ ?_ | refine hn5 _ ?_ | refine he5 _ _ ?_ | refine he4 _ _ ?_ | refine hn3 _ ?_ | refine he3 _ ?_ | refine hf3 _ _ (by decide) ?_ | refine hn2 _ ?_ | refine he2 _ _ ?_ | refine hn1 _ ?_ | refine he1 _ _ ?_)
        refine wlk_reg fun KY hKY => ?_
        simp only [go_sem, reduceIte, Nat.reduceEqDiff, Nat.reduceBEq, reduceCtorEq, Nat.reduceLT, Nat.reduceLeDiff, Nat.reduceAdd, Nat.reduceSub, Nat.reduceMul, Nat.reduceDiv, Int.reduceAdd, Int.reduceNeg, Int.reduceEq, Int.reduceLT, Int.reduceLE, c_mates_Right_r9, incS (show k < 4611686018427387904 by omega)]
        refine hKY _ ?_
        repeat (first | refine hn7 _ ?_ | refine he7 _ ?_ | refine hf7 _ _ (by decide) ?_ | refine hn6 _ ?_ | refine he6 _ _ ?_ | refine hn5 _ ?_ | refine he5 _ _ ?_)
        refine hn4 _ (k + 1) (es.length - (k + 1)) (by omega) (by first | (simp only [go_sem, reduceIte, Nat.reduceEqDiff, Nat.reduceBEq, reduceCtorEq, Nat.reduceLT, Nat.reduceLeDiff, Nat.reduceAdd, Nat.reduceSub, Nat.reduceMul, Nat.reduceDiv, Int.reduceAdd, Int.reduceNeg, Int.reduceEq, Int.reduceLT, Int.reduceLE, updAll_cons, updAll_nil, hst]; done) | with_reducible rfl | rfl) ?_
        exact ⟨hk2, rfl⟩
    · have d1 : decide (m.getD a 0 = (b : Int)) = false := decide_eq_false h1
      have hst := jL_no (N := N) m (es.take k) (a := a) (b := b) fun h => h1 h.1
      rw [← htk] at hst
      refine wlk_sdraw fun KY hKY => ?_
      simp only [go_sem, reduceIte, Nat.reduceEqDiff, Nat.reduceBEq, reduceCtorEq, Nat.reduceLT, Nat.reduceLeDiff, Nat.reduceAdd, Nat.reduceSub, Nat.reduceMul, Nat.reduceDiv, Int.reduceAdd, Int.reduceNeg, Int.reduceEq, Int.reduceLT, Int.reduceLE, c_mates_Right_r7, ints_get (show a < m.length by omega), ints_len, hl, haN, hbN, d1]
      refine hKY _ ?_
      refine wlk_cond0 (by first | rfl | (simp only [go_sem, reduceIte, Nat.reduceEqDiff, Nat.reduceBEq, reduceCtorEq, Nat.reduceLT, Nat.reduceLeDiff, Nat.reduceAdd, Nat.reduceSub, Nat.reduceMul, Nat.reduceDiv, Int.reduceAdd, Int.reduceNeg, Int.reduceEq, Int.reduceLT, Int.reduceLE]; try simp (disch := omega) only [decide_eq_true, decide_eq_false])) ?_
      refine wlk_skip ?_
      repeat (first | refine hn7 _ ?_ | refine he7 _ ?_ | refine hf7 _ _ (by decide) ?_ | refine hn6 _ ?_ | refine he6 _ _ ?_ | refine hn5 _ ?_ | refine he5 _ _ ?_ | refine he4 _ _ ?_ | refine hn3 _ ?_ | refine he3 _ ?_ | refine hf3 _ _ (by decide) ?_ | refine hn2 _ ?_ | refine he2 _ _ ?_ | refine hn1 _ ?_ | refine he1 _ _ ?_)
      refine wlk_reg fun KY hKY => ?_
      simp only [go_sem, reduceIte, Nat.reduceEqDiff, Nat.reduceBEq, reduceCtorEq, Nat.reduceLT, Nat.reduceLeDiff, Nat.reduceAdd, Nat.reduceSub, Nat.reduceMul, Nat.reduceDiv, Int.reduceAdd, Int.reduceNeg, Int.reduceEq, Int.reduceLT, Int.reduceLE, c_mates_Right_r9, incS (show k < 4611686018427387904 by omega)]
      refine hKY _ ?_
      repeat (first | refine hn7 _ ?_ | refine he7 _ ?_ | refine hf7 _ _ (by decide) ?_ | refine hn6 _ ?_ | refine he6 _ _ ?_ | refine hn5 _ ?_ | refine he5 _ _ ?_)
      refine hn4 _ (k + 1) (es.length - (k + 1)) (by omega) (by first | (simp only [go_sem, reduceIte, Nat.reduceEqDiff, Nat.reduceBEq, reduceCtorEq, Nat.reduceLT, Nat.reduceLeDiff, Nat.reduceAdd, Nat.reduceSub, Nat.reduceMul, Nat.reduceDiv, Int.reduceAdd, Int.reduceNeg, Int.reduceEq, Int.reduceLT, Int.reduceLE, updAll_cons, updAll_nil, hst]; done) | with_reducible rfl | rfl) ?_
      exact ⟨hk2, rfl⟩
  have hdx : decide ((k : Int) < (es.length : Int)) = false := decide_eq_false (by omega)
  refine wlk_sreg fun KY hKY => ?_
  simp only [go_sem, reduceIte, Nat.reduceEqDiff, Nat.reduceBEq, reduceCtorEq, Nat.reduceLT, Nat.reduceLeDiff, Nat.reduceAdd, Nat.reduceSub, Nat.reduceMul, Nat.reduceDiv, Int.reduceAdd, Int.reduceNeg, Int.reduceEq, Int.reduceLT, Int.reduceLE, c_mates_Right_r5, hdx]
  refine hKY _ ?_
  refine wlk_seq fun X8 hn8 he8 hr8 => ?_
  refine wlk_cond0 (by first | rfl | (simp only [go_sem, reduceIte, Nat.reduceEqDiff, Nat.reduceBEq, reduceCtorEq, Nat.reduceLT, Nat.reduceLeDiff, Nat.reduceAdd, Nat.reduceSub, Nat.reduceMul, Nat.reduceDiv, Int.reduceAdd, Int.reduceNeg, Int.reduceEq, Int.reduceLT, Int.reduceLE]; try simp (disch := omega) only [decide_eq_true, decide_eq_false])) ?_
  refine wlk_exit ?_
  repeat (first | refine hn8 _ ?_ | refine he8 _ _ ?_ | refine he4 _ _ ?_ | refine hn3 _ ?_ | refine he3 _ ?_ | refine hf3 _ _ (by decide) ?_ | refine hn2 _ ?_ | refine he2 _ _ ?_ | refine hn1 _ ?_ | refine he1 _ _ ?_)
  obtain rfl : k = es.length := by omega
  rw [List.take_length]
  refine wlk_seq fun X9 hn9 he9 hr9 => ?_
  refine wlk_sreg fun KY hKY => ?_
  simp only [go_sem, reduceIte, Nat.reduceEqDiff, Nat.reduceBEq, reduceCtorEq, Nat.reduceLT, Nat.reduceLeDiff, Nat.reduceAdd, Nat.reduceSub, Nat.reduceMul, Nat.reduceDiv, Int.reduceAdd, Int.reduceNeg, Int.reduceEq, Int.reduceLT, Int.reduceLE, c_mates_Right_r10, ints_len, hl]
  refine hKY _ ?_
  refine wlk_blk fun X10 hn10 he10 hf10 hr10 => ?_
  try simp only [go_sem, reduceIte, Nat.reduceEqDiff, Nat.reduceBEq, reduceCtorEq, Nat.reduceLT, Nat.reduceLeDiff, Nat.reduceAdd, Nat.reduceSub, Nat.reduceMul, Nat.reduceDiv, Int.reduceAdd, Int.reduceNeg, Int.reduceEq, Int.reduceLT, Int.reduceLE]
  refine wlk_lp (α := Nat) [8, 9, 60, 72] (fun v => [(59, .sc (.int .i64 (v : Int)))]) (fun v => []) (fun v q => v ≤ N ∧ q = N - v ∧ (∀ u, u < v → mOk es m u = true)) (0) (N) rfl (by first | (simp only [go_sem, reduceIte, Nat.reduceEqDiff, Nat.reduceBEq, reduceCtorEq, Nat.reduceLT, Nat.reduceLeDiff, Nat.reduceAdd, Nat.reduceSub, Nat.reduceMul, Nat.reduceDiv, Int.reduceAdd, Int.reduceNeg, Int.reduceEq, Int.reduceLT, Int.reduceLE, updAll_cons, updAll_nil]; done) | with_reducible rfl | rfl) (⟨by omega, rfl, fun v h => by omega⟩) ?_
  rintro v q ⟨hv, rfl, hz⟩ X11 hn11 he11 hr11
  simp only [go_sem, reduceIte, Nat.reduceEqDiff, Nat.reduceBEq, reduceCtorEq, Nat.reduceLT, Nat.reduceLeDiff, Nat.reduceAdd, Nat.reduceSub, Nat.reduceMul, Nat.reduceDiv, Int.reduceAdd, Int.reduceNeg, Int.reduceEq, Int.reduceLT, Int.reduceLE, updAll_cons, updAll_nil]
  rcases Nat.lt_or_ge v N with hv2 | hv2
  · have hdy : decide ((v : Int) < (N : Int)) = true := decide_eq_true (by omega)
    refine wlk_sreg fun KY hKY => ?_
    simp only [go_sem, reduceIte, Nat.reduceEqDiff, Nat.reduceBEq, reduceCtorEq, Nat.reduceLT, Nat.reduceLeDiff, Nat.reduceAdd, Nat.reduceSub, Nat.reduceMul, Nat.reduceDiv, Int.reduceAdd, Int.reduceNeg, Int.reduceEq, Int.reduceLT, Int.reduceLE, c_mates_Right_r11, hdy]
    refine hKY _ ?_
    refine wlk_seq fun X12 hn12 he12 hr12 => ?_
    refine wlk_cond1 (by first | rfl | (simp only [go_sem, reduceIte, Nat.reduceEqDiff, Nat.reduceBEq, reduceCtorEq, Nat.reduceLT, Nat.reduceLeDiff, Nat.reduceAdd, Nat.reduceSub, Nat.reduceMul, Nat.reduceDiv, Int.reduceAdd, Int.reduceNeg, Int.reduceEq, Int.reduceLT, Int.reduceLE]; try simp (disch := omega) only [decide_eq_true, decide_eq_false])) ?_
    refine wlk_skip ?_
    repeat (first | refine hn12 _ ?_ | refine he12 _ _ ?_ | refine he11 _ _ ?_ | refine hn10 _ ?_ | refine he10 _ ?_ | refine hf10 _ _ (by decide) ?_ | refine hn9 _ ?_ | refine he9 _ _ ?_ | refine hn8 _ ?_ | refine he8 _ _ ?_)
    refine wlk_seq fun X13 hn13 he13 hr13 => ?_
    refine wlk_blk fun X14 hn14 he14 hf14 hr14 => ?_
    refine wlk_sreg fun KY hKY => ?_
    simp only [go_sem, reduceIte, Nat.reduceEqDiff, Nat.reduceBEq, reduceCtorEq, Nat.reduceLT, Nat.reduceLeDiff, Nat.reduceAdd, Nat.reduceSub, Nat.reduceMul, Nat.reduceDiv, Int.reduceAdd, Int.reduceNeg, Int.reduceEq, Int.reduceLT, Int.reduceLE, c_mates_Right_r12, ints_get (show v < m.length by omega), ints_len, hl, hv2]
    refine hKY _ ?_
    by_cases hw : m.getD v 0 = -1
    · have d1 : decide (m.getD v 0 ≠ -1) = false := decide_eq_false fun h => h hw
      have hok : mOk es m v = true := by unfold mOk; rw [decide_eq_true hw]; rfl
      refine wlk_sreg fun KY hKY => ?_
      simp only [go_sem, reduceIte, Nat.reduceEqDiff, Nat.reduceBEq, reduceCtorEq, Nat.reduceLT, Nat.reduceLeDiff, Nat.reduceAdd, Nat.reduceSub, Nat.reduceMul, Nat.reduceDiv, Int.reduceAdd, Int.reduceNeg, Int.reduceEq, Int.reduceLT, Int.reduceLE, c_mates_Right_r13, d1]
      refine hKY _ ?_
      refine wlk_cond0 (by first | rfl | (simp only [go_sem, reduceIte, Nat.reduceEqDiff, Nat.reduceBEq, reduceCtorEq, Nat.reduceLT, Nat.reduceLeDiff, Nat.reduceAdd, Nat.reduceSub, Nat.reduceMul, Nat.reduceDiv, Int.reduceAdd, Int.reduceNeg, Int.reduceEq, Int.reduceLT, Int.reduceLE]; try simp (disch := omega) only [decide_eq_true, decide_eq_false])) ?_
      refine wlk_skip ?_
      repeat (first | refine hn14 _ ?_ | refine he14 _ ?_ | refine hf14 _ _ (by decide) ?_ | refine hn13 _ ?_ | refine he13 _ _ ?_ | refine hn12 _ ?_ | refine he12 _ _ ?_ | refine he11 _ _ ?_ | refine hn10 _ ?_ | refine he10 _ ?_ | refine hf10 _ _ (by decide) ?_ | refine hn9 _ ?_ | refine he9 _ _ ?_ | refine hn8 _ ?_ | refine he8 _ _ ?_)
      refine wlk_reg fun KY hKY => ?_
      simp only [go_sem, reduceIte, Nat.reduceEqDiff, Nat.reduceBEq, reduceCtorEq, Nat.reduceLT, Nat.reduceLeDiff, Nat.reduceAdd, Nat.reduceSub, Nat.reduceMul, Nat.reduceDiv, Int.reduceAdd, Int.reduceNeg, Int.reduceEq, Int.reduceLT, Int.reduceLE, c_mates_Right_r15, incS (show v < 4611686018427387904 by omega)]
      refine hKY _ ?_
      repeat (first | refine hn14 _ ?_ | refine he14 _ ?_ | refine hf14 _ _ (by decide) ?_ | refine hn13 _ ?_ | refine he13 _ _ ?_ | refine hn12 _ ?_ | refine he12 _ _ ?_)
      refine hn11 _ (v + 1) (N - (v + 1)) (by omega) (by first | (simp only [go_sem, reduceIte, Nat.reduceEqDiff, Nat.reduceBEq, reduceCtorEq, Nat.reduceLT, Nat.reduceLeDiff, Nat.reduceAdd, Nat.reduceSub, Nat.reduceMul, Nat.reduceDiv, Int.reduceAdd, Int.reduceNeg, Int.reduceEq, Int.reduceLT, Int.reduceLE, updAll_cons, updAll_nil]; done) | with_reducible rfl | rfl) ?_
      refine ⟨hv2, rfl, fun u hu => ?_⟩
      rcases Nat.lt_or_ge u v with h3 | h3
      · exact hz u h3
      · obtain rfl : u = v := by omega
        exact hok
    · have d1 : decide (m.getD v 0 ≠ -1) = true := decide_eq_true hw
      have hj := jAt_ok g m hw
      have hjl := jL_len N m es
      have hg := bools_get (show v < (jL N m es).length by omega)
      rw [jL_get m es hv2, hj] at hg
      cases hok : mOk es m v with
      | true =>
        rw [hok] at hg
        refine wlk_sreg fun KY hKY => ?_
        simp only [go_sem, reduceIte, Nat.reduceEqDiff, Nat.reduceBEq, reduceCtorEq, Nat.reduceLT, Nat.reduceLeDiff, Nat.reduceAdd, Nat.reduceSub, Nat.reduceMul, Nat.reduceDiv, Int.reduceAdd, Int.reduceNeg, Int.reduceEq, Int.reduceLT, Int.reduceLE, c_mates_Right_r13, d1, hg, bools_len, hjl, hv2]
        refine hKY _ ?_
        refine wlk_cond0 (by first | rfl | (simp only [go_sem, reduceIte, Nat.reduceEqDiff, Nat.reduceBEq, reduceCtorEq, Nat.reduceLT, Nat.reduceLeDiff, Nat.reduceAdd, Nat.reduceSub, Nat.reduceMul, Nat.reduceDiv, Int.reduceAdd, Int.reduceNeg, Int.reduceEq, Int.reduceLT, Int.reduceLE]; try simp (disch := omega) only [decide_eq_true, decide_eq_false])) ?_
        refine wlk_skip ?_
        repeat (first | refine hn14 _ ?_ | refine he14 _ ?_ | refine hf14 _ _ (by decide) ?_ | refine hn13 _ ?_ | refine he13 _ _ ?_ | refine hn12 _ ?_ | refine he12 _ _ ?_ | refine he11 _ _ ?_ | refine hn10 _ ?_ | refine he10 _ ?_ | refine hf10 _ _ (by decide) ?_ | refine hn9 _ ?_ | refine he9 _ _ ?_ | refine hn8 _ ?_ | refine he8 _ _ ?_)
        refine wlk_reg fun KY hKY => ?_
        simp only [go_sem, reduceIte, Nat.reduceEqDiff, Nat.reduceBEq, reduceCtorEq, Nat.reduceLT, Nat.reduceLeDiff, Nat.reduceAdd, Nat.reduceSub, Nat.reduceMul, Nat.reduceDiv, Int.reduceAdd, Int.reduceNeg, Int.reduceEq, Int.reduceLT, Int.reduceLE, c_mates_Right_r15, incS (show v < 4611686018427387904 by omega)]
        refine hKY _ ?_
        repeat (first | refine hn14 _ ?_ | refine he14 _ ?_ | refine hf14 _ _ (by decide) ?_ | refine hn13 _ ?_ | refine he13 _ _ ?_ | refine hn12 _ ?_ | refine he12 _ _ ?_)
        refine hn11 _ (v + 1) (N - (v + 1)) (by omega) (by first | (simp only [go_sem, reduceIte, Nat.reduceEqDiff, Nat.reduceBEq, reduceCtorEq, Nat.reduceLT, Nat.reduceLeDiff, Nat.reduceAdd, Nat.reduceSub, Nat.reduceMul, Nat.reduceDiv, Int.reduceAdd, Int.reduceNeg, Int.reduceEq, Int.reduceLT, Int.reduceLE, updAll_cons, updAll_nil]; done) | with_reducible rfl | rfl) ?_
        refine ⟨hv2, rfl, fun u hu => ?_⟩
        rcases Nat.lt_or_ge u v with h3 | h3
        · exact hz u h3
        · obtain rfl : u = v := by omega
          exact hok
      | false =>
        rw [hok] at hg
        refine wlk_sreg fun KY hKY => ?_
        simp only [go_sem, reduceIte, Nat.reduceEqDiff, Nat.reduceBEq, reduceCtorEq, Nat.reduceLT, Nat.reduceLeDiff, Nat.reduceAdd, Nat.reduceSub, Nat.reduceMul, Nat.reduceDiv, Int.reduceAdd, Int.reduceNeg, Int.reduceEq, Int.reduceLT, Int.reduceLE, c_mates_Right_r13, d1, hg, bools_len, hjl, hv2]
        refine hKY _ ?_
        refine wlk_cond1 (by first | rfl | (simp only [go_sem, reduceIte, Nat.reduceEqDiff, Nat.reduceBEq, reduceCtorEq, Nat.reduceLT, Nat.reduceLeDiff, Nat.reduceAdd, Nat.reduceSub, Nat.reduceMul, Nat.reduceDiv, Int.reduceAdd, Int.reduceNeg, Int.reduceEq, Int.reduceLT, Int.reduceLE]; try simp (disch := omega) only [decide_eq_true, decide_eq_false])) ?_
        refine wlk_sreg fun KY hKY => ?_
        simp only [go_sem, reduceIte, Nat.reduceEqDiff, Nat.reduceBEq, reduceCtorEq, Nat.reduceLT, Nat.reduceLeDiff, Nat.reduceAdd, Nat.reduceSub, Nat.reduceMul, Nat.reduceDiv, Int.reduceAdd, Int.reduceNeg, Int.reduceEq, Int.reduceLT, Int.reduceLE, c_mates_Right_r14]
        refine hKY _ ?_
        refine wlk_ret ?_
        repeat (first | refine hr14 _ ?_ | refine hr13 _ ?_ | refine hr12 _ ?_ | refine hr11 _ ?_ | refine hr10 _ ?_ | refine hr9 _ ?_ | refine hr8 _ ?_ | refine hr4 _ ?_ | refine hr3 _ ?_ | refine hr2 _ ?_ | refine hr1 _ ?_)
        simp only [go_sem, reduceIte, Nat.reduceEqDiff, Nat.reduceBEq, reduceCtorEq, Nat.reduceLT, Nat.reduceLeDiff, Nat.reduceAdd, Nat.reduceSub, Nat.reduceMul, Nat.reduceDiv, Int.reduceAdd, Int.reduceNeg, Int.reduceEq, Int.reduceLT, Int.reduceLE]
        rw [all_no hv2 hok]
  have hdz : decide ((v : Int) < (N : Int)) = false := decide_eq_false (by omega)
  refine wlk_sreg fun KY hKY => ?_
  simp only [go_sem, reduceIte, Nat.reduceEqDiff, Nat.reduceBEq, reduceCtorEq, Nat.reduceLT, Nat.reduceLeDiff, Nat.reduceAdd, Nat.reduceSub, Nat.reduceMul, Nat.reduceDiv, Int.reduceAdd, Int.reduceNeg, Int.reduceEq, Int.reduceLT, Int.reduceLE, c_mates_Right_r11, hdz]
  refine hKY _ ?_
  refine wlk_seq fun X15 hn15 he15 hr15 => ?_
  refine wlk_cond0 (by first | rfl | (simp only [go_sem, reduceIte, Nat.reduceEqDiff, Nat.reduceBEq, reduceCtorEq, Nat.reduceLT, Nat.reduceLeDiff, Nat.reduceAdd, Nat.reduceSub, Nat.reduceMul, Nat.reduceDiv, Int.reduceAdd, Int.reduceNeg, Int.reduceEq, Int.reduceLT, Int.reduceLE]; try simp (disch := omega) only [decide_eq_true, decide_eq_false])) ?_
  refine wlk_exit ?_
  repeat (first | refine hn15 _ ?_ | refine he15 _ _ ?_ | refine he11 _ _ ?_ | refine hn10 _ ?_ | refine he10 _ ?_ | refine hf10 _ _ (by decide) ?_ | refine hn9 _ ?_ | refine he9 _ _ ?_ | refine hn8 _ ?_ | refine he8 _ _ ?_ | refine he4 _ _ ?_ | refine hn3 _ ?_ | refine he3 _ ?_ | refine hf3 _ _ (by decide) ?_ | refine hn2 _ ?_ | refine he2 _ _ ?_ | refine hn1 _ ?_ | refine he1 _ _ ?_)
  obtain rfl : v = N := by omega
  refine wlk_sreg fun KY hKY => ?_
  simp only [go_sem, reduceIte, Nat.reduceEqDiff, Nat.reduceBEq, reduceCtorEq, Nat.reduceLT, Nat.reduceLeDiff, Nat.reduceAdd, Nat.reduceSub, Nat.reduceMul, Nat.reduceDiv, Int.reduceAdd, Int.reduceNeg, Int.reduceEq, Int.reduceLT, Int.reduceLE, c_mates_Right_r16]
  refine hKY _ ?_
  refine wlk_ret ?_
  repeat (first | refine hr15 _ ?_ | refine hr11 _ ?_ | refine hr10 _ ?_ | refine hr9 _ ?_ | refine hr8 _ ?_ | refine hr4 _ ?_ | refine hr3 _ ?_ | refine hr2 _ ?_ | refine hr1 _ ?_)
  simp only [go_sem, reduceIte, Nat.reduceEqDiff, Nat.reduceBEq, reduceCtorEq, Nat.reduceLT, Nat.reduceLeDiff, Nat.reduceAdd, Nat.reduceSub, Nat.reduceMul, Nat.reduceDiv, Int.reduceAdd, Int.reduceNeg, Int.reduceEq, Int.reduceLT, Int.reduceLE]
  rw [show ((List.range v).all fun v => mOk es m v) = true from List.all_eq_true.2 fun u hu => hz u (List.mem_range.1 hu)]
end Go.Proofs.Ytoefhbfgmceikaa
set_option maxRecDepth 100000
set_option maxHeartbeats 4000000
namespace Go.Proofs.Ytoefhbfgmceikaa
open Go Go.Ga Go.Ga.Gl
end Go.Proofs.Ytoefhbfgmceikaa
set_option maxRecDepth 100000
set_option maxHeartbeats 2000000
namespace Go.Proofs.Ytoefhbfgmceikaa
open Go Go.Ga Go.Ga.Gl
theorem clone_ok (l : List Int) (hl : l.length ≤ 1000000000) : ACalls Try.prog [] n_slices_Clone___int_int_ [.imm 1 (ints l)] [] fun r h' => r = .own (some 1) (ints l) ∧ h' = [] := by
  have hby : l.length * 8 ≤ 140737488355328 := by omega
  refine go_slices_Clone___int_int_ rfl ?_
  unfold c_slices_Clone___int_int_ v_slices_Clone___int_int_
  refine wlk_sreg fun KY hKY => ?_
  simp only [go_sem, reduceIte, Nat.reduceEqDiff, Nat.reduceBEq, reduceCtorEq, Nat.reduceLT, Nat.reduceLeDiff, Nat.reduceAdd, Nat.reduceSub, Nat.reduceMul, Nat.reduceDiv, Int.reduceAdd, Int.reduceNeg, Int.reduceEq, Int.reduceLT, Int.reduceLE, c_slices_Clone___int_int__r0]
  refine hKY _ ?_
  refine wlk_seq fun X1 hn1 he1 hr1 => ?_
  cases l with
  | nil =>
    refine wlk_sreg fun KY hKY => ?_
    simp only [go_sem, reduceIte, Nat.reduceEqDiff, Nat.reduceBEq, reduceCtorEq, Nat.reduceLT, Nat.reduceLeDiff, Nat.reduceAdd, Nat.reduceSub, Nat.reduceMul, Nat.reduceDiv, Int.reduceAdd, Int.reduceNeg, Int.reduceEq, Int.reduceLT, Int.reduceLE, c_slices_Clone___int_int__r1, ints, List.map_nil]
    refine ⟨hKY _ ?_, hKY _ ?_⟩
    · refine wlk_cond1 (by first | rfl | (simp only [go_sem, reduceIte, Nat.reduceEqDiff, Nat.reduceBEq, reduceCtorEq, Nat.reduceLT, Nat.reduceLeDiff, Nat.reduceAdd, Nat.reduceSub, Nat.reduceMul, Nat.reduceDiv, Int.reduceAdd, Int.reduceNeg, Int.reduceEq, Int.reduceLT, Int.reduceLE]; try simp (disch := omega) only [decide_eq_true, decide_eq_false])) ?_
      refine wlk_sreg fun KY hKY => ?_
      simp only [go_sem, reduceIte, Nat.reduceEqDiff, Nat.reduceBEq, reduceCtorEq, Nat.reduceLT, Nat.reduceLeDiff, Nat.reduceAdd, Nat.reduceSub, Nat.reduceMul, Nat.reduceDiv, Int.reduceAdd, Int.reduceNeg, Int.reduceEq, Int.reduceLT, Int.reduceLE, c_slices_Clone___int_int__r2]
      refine hKY _ ?_
      refine sem_nil [0, 2] 1 (by simp only [go_sem, reduceIte, Nat.reduceEqDiff, Nat.reduceBEq, reduceCtorEq, Nat.reduceLT, Nat.reduceLeDiff, Nat.reduceAdd, Nat.reduceSub, Nat.reduceMul, Nat.reduceDiv, Int.reduceAdd, Int.reduceNeg, Int.reduceEq, Int.reduceLT, Int.reduceLE]) ?_
      simp only [go_sem, reduceIte, Nat.reduceEqDiff, Nat.reduceBEq, reduceCtorEq, Nat.reduceLT, Nat.reduceLeDiff, Nat.reduceAdd, Nat.reduceSub, Nat.reduceMul, Nat.reduceDiv, Int.reduceAdd, Int.reduceNeg, Int.reduceEq, Int.reduceLT, Int.reduceLE]
      refine wlk_ret ?_
      repeat (first | refine hr1 _ ?_)
      simp only [go_sem, reduceIte, Nat.reduceEqDiff, Nat.reduceBEq, reduceCtorEq, Nat.reduceLT, Nat.reduceLeDiff, Nat.reduceAdd, Nat.reduceSub, Nat.reduceMul, Nat.reduceDiv, Int.reduceAdd, Int.reduceNeg, Int.reduceEq, Int.reduceLT, Int.reduceLE]
      rfl
    · refine wlk_cond0 (by first | rfl | (simp only [go_sem, reduceIte, Nat.reduceEqDiff, Nat.reduceBEq, reduceCtorEq, Nat.reduceLT, Nat.reduceLeDiff, Nat.reduceAdd, Nat.reduceSub, Nat.reduceMul, Nat.reduceDiv, Int.reduceAdd, Int.reduceNeg, Int.reduceEq, Int.reduceLT, Int.reduceLE]; try simp (disch := omega) only [decide_eq_true, decide_eq_false])) ?_
      refine wlk_skip ?_
      repeat (first | refine hn1 _ ?_ | refine he1 _ _ ?_)
      refine wlk_sreg fun KY hKY => ?_
      simp only [go_sem, reduceIte, Nat.reduceEqDiff, Nat.reduceBEq, reduceCtorEq, Nat.reduceLT, Nat.reduceLeDiff, Nat.reduceAdd, Nat.reduceSub, Nat.reduceMul, Nat.reduceDiv, Int.reduceAdd, Int.reduceNeg, Int.reduceEq, Int.reduceLT, Int.reduceLE, c_slices_Clone___int_int__r3, (show zeroCellsA [Value.int IntKind.i64 0] 0 = [] from rfl)]
      refine hKY _ ?_
      refine wlk_ret ?_
      repeat (first | refine hr1 _ ?_)
      simp only [go_sem, reduceIte, Nat.reduceEqDiff, Nat.reduceBEq, reduceCtorEq, Nat.reduceLT, Nat.reduceLeDiff, Nat.reduceAdd, Nat.reduceSub, Nat.reduceMul, Nat.reduceDiv, Int.reduceAdd, Int.reduceNeg, Int.reduceEq, Int.reduceLT, Int.reduceLE]
      rfl
  | cons x l =>
    rw [List.length_cons] at hby
    refine wlk_sreg fun KY hKY => ?_
    simp only [go_sem, reduceIte, Nat.reduceEqDiff, Nat.reduceBEq, reduceCtorEq, Nat.reduceLT, Nat.reduceLeDiff, Nat.reduceAdd, Nat.reduceSub, Nat.reduceMul, Nat.reduceDiv, Int.reduceAdd, Int.reduceNeg, Int.reduceEq, Int.reduceLT, Int.reduceLE, c_slices_Clone___int_int__r1]
    refine hKY _ ?_
    refine wlk_cond0 (by first | rfl | (simp only [go_sem, reduceIte, Nat.reduceEqDiff, Nat.reduceBEq, reduceCtorEq, Nat.reduceLT, Nat.reduceLeDiff, Nat.reduceAdd, Nat.reduceSub, Nat.reduceMul, Nat.reduceDiv, Int.reduceAdd, Int.reduceNeg, Int.reduceEq, Int.reduceLT, Int.reduceLE]; try simp (disch := omega) only [decide_eq_true, decide_eq_false])) ?_
    refine wlk_skip ?_
    repeat (first | refine hn1 _ ?_ | refine he1 _ _ ?_)
    refine wlk_sreg fun KY hKY => ?_
    simp only [go_sem, reduceIte, Nat.reduceEqDiff, Nat.reduceBEq, reduceCtorEq, Nat.reduceLT, Nat.reduceLeDiff, Nat.reduceAdd, Nat.reduceSub, Nat.reduceMul, Nat.reduceDiv, Int.reduceAdd, Int.reduceNeg, Int.reduceEq, Int.reduceLT, Int.reduceLE, c_slices_Clone___int_int__r3, (show zeroCellsA [Value.int IntKind.i64 0] 0 = [] from rfl), hby]
    refine hKY _ ?_
    refine wlk_ret ?_
    repeat (first | refine hr1 _ ?_)
    simp only [go_sem, reduceIte, Nat.reduceEqDiff, Nat.reduceBEq, reduceCtorEq, Nat.reduceLT, Nat.reduceLeDiff, Nat.reduceAdd, Nat.reduceSub, Nat.reduceMul, Nat.reduceDiv, Int.reduceAdd, Int.reduceNeg, Int.reduceEq, Int.reduceLT, Int.reduceLE]
theorem edge_ok (a b : Int) : ACalls Try.prog [] n_graph_edge [.sc (.int .i64 a), .sc (.int .i64 b)] [] fun r h' => r = .agg (two (turnI a b)) ∧ h' = [] := by
  have e : two (turnI a b) = [.sc (.int .i64 (min a b)), .sc (.int .i64 (max a b))] := by
    unfold turnI
    split
    · rw [two_mk, show min a b = b by omega, show max a b = a by omega]
    · rw [two_mk, show min a b = a by omega, show max a b = b by omega]
  rw [e]
  refine go_graph_edge rfl ?_
  unfold c_graph_edge v_graph_edge
  refine wlk_sreg fun KY hKY => ?_
  simp only [go_sem, reduceIte, Nat.reduceEqDiff, Nat.reduceBEq, reduceCtorEq, Nat.reduceLT, Nat.reduceLeDiff, Nat.reduceAdd, Nat.reduceSub, Nat.reduceMul, Nat.reduceDiv, Int.reduceAdd, Int.reduceNeg, Int.reduceEq, Int.reduceLT, Int.reduceLE, c_graph_edge_r0]
  refine hKY _ ?_
  refine wlk_sreg fun KY hKY => ?_
  simp only [go_sem, reduceIte, Nat.reduceEqDiff, Nat.reduceBEq, reduceCtorEq, Nat.reduceLT, Nat.reduceLeDiff, Nat.reduceAdd, Nat.reduceSub, Nat.reduceMul, Nat.reduceDiv, Int.reduceAdd, Int.reduceNeg, Int.reduceEq, Int.reduceLT, Int.reduceLE, c_graph_edge_r1]
  refine hKY _ ?_
  refine wlk_ret ?_
  simp only [go_sem, reduceIte, Nat.reduceEqDiff, Nat.reduceBEq, reduceCtorEq, Nat.reduceLT, Nat.reduceLeDiff, Nat.reduceAdd, Nat.reduceSub, Nat.reduceMul, Nat.reduceDiv, Int.reduceAdd, Int.reduceNeg, Int.reduceEq, Int.reduceLT, Int.reduceLE]
def Ris (es : List (Int × Int)) : Prop := ∀ (i j : Nat) (x y : Int × Int), es[i]? = some x → es[j]? = some y → i < j → cmpE x y < 0
theorem ris_of {n : Int} {es : List (Int × Int)} (h : rightB n es = true) : Ris es := by
  obtain ⟨N, es', rfl, rfl, g⟩ := right_nat h
  intro i j x y hx hy hij
  rw [cmpE_lt]
  unfold castE at hx hy
  rw [List.getElem?_map] at hx hy
  obtain ⟨x', hx', rfl⟩ := Option.map_eq_some_iff.1 hx
  obtain ⟨y', hy', rfl⟩ := Option.map_eq_some_iff.1 hy
  obtain ⟨hi, rfl⟩ := List.getElem?_eq_some_iff.1 hx'
  obtain ⟨hj, rfl⟩ := List.getElem?_eq_some_iff.1 hy'
  have := List.pairwise_iff_getElem.1 g.up i j hi hj hij
  unfold lexlt at this
  simp only; omega
theorem cmpE_anti (a b : Int × Int) : cmpE a b = - cmpE b a := by
  unfold cmpE cmpI
  repeat' split
  all_goals omega
theorem cmpE_trans {a b c : Int × Int} (h1 : cmpE a b < 0) (h2 : cmpE b c < 0) : cmpE a c < 0 := by
  rw [cmpE_lt] at *; omega
theorem bsearch_ok (es : List (Int × Int)) (t : Int × Int) (hr : Ris es) (hl : es.length ≤ 65536) : ACalls Try.prog [] n_slices_BinarySearchFunc___api_Edge_api_Edge_api_Edge_ [.imm 2 (twos es), .agg (two t), .fn (.func n_graph_order_compare) [.agg []] []] [] fun r h' => (∃ k : Nat, r = .tup [.sc (.int .i64 (k : Int)), .sc (.bool (decide (t ∈ es)))]) ∧ h' = [] := by
  refine ACalls.trim ?_
  obtain ⟨ta, tb⟩ := t
  simp only [two_mk]
  refine go_slices_BinarySearchFunc___api_Edge_api_Edge_api_Edge_ rfl ?_
  unfold c_slices_BinarySearchFunc___api_Edge_api_Edge_api_Edge_ v_slices_BinarySearchFunc___api_Edge_api_Edge_api_Edge_
  refine wlk_sreg fun KY hKY => ?_
  simp only [go_sem, reduceIte, Nat.reduceEqDiff, Nat.reduceBEq, reduceCtorEq, Nat.reduceLT, Nat.reduceLeDiff, Nat.reduceAdd, Nat.reduceSub, Nat.reduceMul, Nat.reduceDiv, Int.reduceAdd, Int.reduceNeg, Int.reduceEq, Int.reduceLT, Int.reduceLE, c_slices_BinarySearchFunc___api_Edge_api_Edge_api_Edge__r0]
  refine hKY _ ?_
  refine wlk_sreg fun KY hKY => ?_
  simp only [go_sem, reduceIte, Nat.reduceEqDiff, Nat.reduceBEq, reduceCtorEq, Nat.reduceLT, Nat.reduceLeDiff, Nat.reduceAdd, Nat.reduceSub, Nat.reduceMul, Nat.reduceDiv, Int.reduceAdd, Int.reduceNeg, Int.reduceEq, Int.reduceLT, Int.reduceLE, c_slices_BinarySearchFunc___api_Edge_api_Edge_api_Edge__r1, twos_len, mul2]
  refine hKY _ ?_
  refine wlk_sreg fun KY hKY => ?_
  simp only [go_sem, reduceIte, Nat.reduceEqDiff, Nat.reduceBEq, reduceCtorEq, Nat.reduceLT, Nat.reduceLeDiff, Nat.reduceAdd, Nat.reduceSub, Nat.reduceMul, Nat.reduceDiv, Int.reduceAdd, Int.reduceNeg, Int.reduceEq, Int.reduceLT, Int.reduceLE, c_slices_BinarySearchFunc___api_Edge_api_Edge_api_Edge__r2]
  refine hKY _ ?_
  refine wlk_seq fun X1 hn1 he1 hr1 => ?_
  refine wlk_blk fun X2 hn2 he2 hf2 hr2 => ?_
  try simp only [go_sem, reduceIte, Nat.reduceEqDiff, Nat.reduceBEq, reduceCtorEq, Nat.reduceLT, Nat.reduceLeDiff, Nat.reduceAdd, Nat.reduceSub, Nat.reduceMul, Nat.reduceDiv, Int.reduceAdd, Int.reduceNeg, Int.reduceEq, Int.reduceLT, Int.reduceLE]
  refine wlk_lp (α := Nat × Nat) [11, 17, 31] (fun (i, j) => [(9, .sc (.int .i64 (i : Int))), (10, .sc (.int .i64 (j : Int)))]) (fun (i, j) => []) (fun (i, j) q => i ≤ j ∧ j ≤ es.length ∧ q = j - i ∧ (∀ k x, es[k]? = some x → k < i → cmpE x (ta, tb) < 0) ∧ (∀ k x, es[k]? = some x → j ≤ k → 0 ≤ cmpE x (ta, tb))) ((0, es.length)) (es.length) rfl (by first | (simp only [go_sem, reduceIte, Nat.reduceEqDiff, Nat.reduceBEq, reduceCtorEq, Nat.reduceLT, Nat.reduceLeDiff, Nat.reduceAdd, Nat.reduceSub, Nat.reduceMul, Nat.reduceDiv, Int.reduceAdd, Int.reduceNeg, Int.reduceEq, Int.reduceLT, Int.reduceLE, updAll_cons, updAll_nil]; done) | with_reducible rfl | rfl) (⟨by omega, by omega, rfl, fun k x _ h => by omega, fun k x hx h => by have := (List.getElem?_eq_some_iff.1 hx).1; omega⟩) ?_
  rintro ⟨i, j⟩ q ⟨hij, hjl, rfl, h1, h2⟩ X3 hn3 he3 hr3
  simp only [go_sem, reduceIte, Nat.reduceEqDiff, Nat.reduceBEq, reduceCtorEq, Nat.reduceLT, Nat.reduceLeDiff, Nat.reduceAdd, Nat.reduceSub, Nat.reduceMul, Nat.reduceDiv, Int.reduceAdd, Int.reduceNeg, Int.reduceEq, Int.reduceLT, Int.reduceLE, updAll_cons, updAll_nil]
  refine wlk_seq fun X4 hn4 he4 hr4 => ?_
  by_cases hlt : i < j
  · refine wlk_sreg fun KY hKY => ?_
    simp only [go_sem, reduceIte, Nat.reduceEqDiff, Nat.reduceBEq, reduceCtorEq, Nat.reduceLT, Nat.reduceLeDiff, Nat.reduceAdd, Nat.reduceSub, Nat.reduceMul, Nat.reduceDiv, Int.reduceAdd, Int.reduceNeg, Int.reduceEq, Int.reduceLT, Int.reduceLE, c_slices_BinarySearchFunc___api_Edge_api_Edge_api_Edge__r3]
    refine hKY _ ?_
    refine wlk_cond1 (by first | rfl | (simp only [go_sem, reduceIte, Nat.reduceEqDiff, Nat.reduceBEq, reduceCtorEq, Nat.reduceLT, Nat.reduceLeDiff, Nat.reduceAdd, Nat.reduceSub, Nat.reduceMul, Nat.reduceDiv, Int.reduceAdd, Int.reduceNeg, Int.reduceEq, Int.reduceLT, Int.reduceLE]; try simp (disch := omega) only [decide_eq_true, decide_eq_false])) ?_
    refine wlk_skip ?_
    repeat (first | refine hn4 _ ?_ | refine he4 _ _ ?_ | refine he3 _ _ ?_ | refine hn2 _ ?_ | refine he2 _ ?_ | refine hf2 _ _ (by decide) ?_ | refine hn1 _ ?_ | refine he1 _ _ ?_)
    refine wlk_blk fun X5 hn5 he5 hf5 hr5 => ?_
    have hs : IntKind.i64.wrap ((i : Int) + (j : Int)) = (i : Int) + (j : Int) := by rw [IntWalk.i64_in _ (by omega)]
    have hs2 : IntKind.u64.wrap ((i : Int) + (j : Int)) = (i : Int) + (j : Int) := by rw [IntKind.wrap_u64]; omega
    obtain ⟨h, hh⟩ : ∃ h : Nat, h = (i + j) / 2 := ⟨_, rfl⟩
    have hsh : shiftBin .shr .u64 ((i : Int) + (j : Int)) 1 = some (.int .u64 (h : Int)) := by
      show some (Value.int .u64 (((i : Int) + (j : Int)).fdiv 2)) = _
      rw [Int.fdiv_eq_ediv_of_nonneg _ (by decide)]
      rw [show ((i : Int) + (j : Int)) / 2 = (h : Int) by omega]
    have hs3 : IntKind.i64.wrap (h : Int) = (h : Int) := by rw [IntWalk.i64_in _ (by omega)]
    refine wlk_sreg fun KY hKY => ?_
    simp only [go_sem, reduceIte, Nat.reduceEqDiff, Nat.reduceBEq, reduceCtorEq, Nat.reduceLT, Nat.reduceLeDiff, Nat.reduceAdd, Nat.reduceSub, Nat.reduceMul, Nat.reduceDiv, Int.reduceAdd, Int.reduceNeg, Int.reduceEq, Int.reduceLT, Int.reduceLE, c_slices_BinarySearchFunc___api_Edge_api_Edge_api_Edge__r4, hs, hs2, hsh, hs3]
    refine hKY _ ?_
    have hhl : h < es.length := by omega
    have hx : es[h]? = some es[h] := List.getElem?_eq_getElem hhl
    generalize es[h] = x at hx
    obtain ⟨a, b⟩ := x
    refine wlk_sdraw fun KY hKY => ?_
    simp only [go_sem, reduceIte, Nat.reduceEqDiff, Nat.reduceBEq, reduceCtorEq, Nat.reduceLT, Nat.reduceLeDiff, Nat.reduceAdd, Nat.reduceSub, Nat.reduceMul, Nat.reduceDiv, Int.reduceAdd, Int.reduceNeg, Int.reduceEq, Int.reduceLT, Int.reduceLE, c_slices_BinarySearchFunc___api_Edge_api_Edge_api_Edge__r5, two_cells hx, List.length_drop, twos_len]
    repeat (simp (disch := omega) only [if_pos, if_neg, decide_eq_true, decide_eq_false, incS, nats_get, ints_get, two_cells hx, List.length_drop, twos_len]; try simp only [go_sem, reduceIte, Nat.reduceEqDiff, Nat.reduceBEq, reduceCtorEq, Nat.reduceLT, Nat.reduceLeDiff, Nat.reduceAdd, Nat.reduceSub, Nat.reduceMul, Nat.reduceDiv, Int.reduceAdd, Int.reduceNeg, Int.reduceEq, Int.reduceLT, Int.reduceLE, two_cells hx, List.length_drop, twos_len])
    refine call_view rfl (by simp only [go_sem, reduceIte, Nat.reduceEqDiff, Nat.reduceBEq, reduceCtorEq, Nat.reduceLT, Nat.reduceLeDiff, Nat.reduceAdd, Nat.reduceSub, Nat.reduceMul, Nat.reduceDiv, Int.reduceAdd, Int.reduceNeg, Int.reduceEq, Int.reduceLT, Int.reduceLE] <;> rfl) ((ocompare_ok (a, b) (ta, tb)).mono ?_)
    rintro rr hh ⟨rfl, rfl⟩
    refine ⟨rfl, rfl, rfl, ?_⟩
    simp only [go_sem, reduceIte, Nat.reduceEqDiff, Nat.reduceBEq, reduceCtorEq, Nat.reduceLT, Nat.reduceLeDiff, Nat.reduceAdd, Nat.reduceSub, Nat.reduceMul, Nat.reduceDiv, Int.reduceAdd, Int.reduceNeg, Int.reduceEq, Int.reduceLT, Int.reduceLE]
    refine hKY _ ?_
    by_cases hc : cmpE (a, b) (ta, tb) < 0
    · refine wlk_cond1 (by first | rfl | (simp only [go_sem, reduceIte, Nat.reduceEqDiff, Nat.reduceBEq, reduceCtorEq, Nat.reduceLT, Nat.reduceLeDiff, Nat.reduceAdd, Nat.reduceSub, Nat.reduceMul, Nat.reduceDiv, Int.reduceAdd, Int.reduceNeg, Int.reduceEq, Int.reduceLT, Int.reduceLE]; try simp (disch := omega) only [decide_eq_true, decide_eq_false])) ?_
      refine wlk_reg fun KY hKY => ?_
      simp only [go_sem, reduceIte, Nat.reduceEqDiff, Nat.reduceBEq, reduceCtorEq, Nat.reduceLT, Nat.reduceLeDiff, Nat.reduceAdd, Nat.reduceSub, Nat.reduceMul, Nat.reduceDiv, Int.reduceAdd, Int.reduceNeg, Int.reduceEq, Int.reduceLT, Int.reduceLE, c_slices_BinarySearchFunc___api_Edge_api_Edge_api_Edge__r6, incS (show h < 4611686018427387904 by omega)]
      refine hKY _ ?_
      repeat (first | refine hn5 _ ?_ | refine he5 _ ?_ | refine hf5 _ _ (by decide) ?_ | refine hn4 _ ?_ | refine he4 _ _ ?_)
      refine hn3 _ ((h + 1, j)) (j - (h + 1)) (by omega) (by first | (simp only [go_sem, reduceIte, Nat.reduceEqDiff, Nat.reduceBEq, reduceCtorEq, Nat.reduceLT, Nat.reduceLeDiff, Nat.reduceAdd, Nat.reduceSub, Nat.reduceMul, Nat.reduceDiv, Int.reduceAdd, Int.reduceNeg, Int.reduceEq, Int.reduceLT, Int.reduceLE, updAll_cons, updAll_nil]; done) | with_reducible rfl | rfl) ?_
      refine ⟨by omega, hjl, rfl, fun k y hy hk => ?_, h2⟩
      rcases Nat.lt_or_ge k h with hkh | hkh
      · exact cmpE_trans (hr k h y (a, b) hy hx hkh) hc
      · obtain rfl : k = h := by omega
        rw [hx] at hy; cases hy; exact hc
    · refine wlk_cond0 (by first | rfl | (simp only [go_sem, reduceIte, Nat.reduceEqDiff, Nat.reduceBEq, reduceCtorEq, Nat.reduceLT, Nat.reduceLeDiff, Nat.reduceAdd, Nat.reduceSub, Nat.reduceMul, Nat.reduceDiv, Int.reduceAdd, Int.reduceNeg, Int.reduceEq, Int.reduceLT, Int.reduceLE]; try simp (disch := omega) only [decide_eq_true, decide_eq_false])) ?_
      refine wlk_reg fun KY hKY => ?_
      simp only [go_sem, reduceIte, Nat.reduceEqDiff, Nat.reduceBEq, reduceCtorEq, Nat.reduceLT, Nat.reduceLeDiff, Nat.reduceAdd, Nat.reduceSub, Nat.reduceMul, Nat.reduceDiv, Int.reduceAdd, Int.reduceNeg, Int.reduceEq, Int.reduceLT, Int.reduceLE, c_slices_BinarySearchFunc___api_Edge_api_Edge_api_Edge__r7]
      refine hKY _ ?_
      repeat (first | refine hn5 _ ?_ | refine he5 _ ?_ | refine hf5 _ _ (by decide) ?_ | refine hn4 _ ?_ | refine he4 _ _ ?_)
      refine hn3 _ ((i, h)) (h - i) (by omega) (by first | (simp only [go_sem, reduceIte, Nat.reduceEqDiff, Nat.reduceBEq, reduceCtorEq, Nat.reduceLT, Nat.reduceLeDiff, Nat.reduceAdd, Nat.reduceSub, Nat.reduceMul, Nat.reduceDiv, Int.reduceAdd, Int.reduceNeg, Int.reduceEq, Int.reduceLT, Int.reduceLE, updAll_cons, updAll_nil]; done) | with_reducible rfl | rfl) ?_
      refine ⟨by omega, by omega, rfl, h1, fun k y hy hk => ?_⟩
      rcases Nat.lt_or_ge h k with hkh | hkh
      · have h3 := hr h k (a, b) y hx hy hkh
        have h4 := cmpE_anti (a, b) y
        by_cases h5 : cmpE y (ta, tb) < 0
        · exact absurd (cmpE_trans h3 h5) hc
        · omega
      · obtain rfl : k = h := by omega
        rw [hx] at hy; cases hy; omega
  · refine wlk_sreg fun KY hKY => ?_
    simp only [go_sem, reduceIte, Nat.reduceEqDiff, Nat.reduceBEq, reduceCtorEq, Nat.reduceLT, Nat.reduceLeDiff, Nat.reduceAdd, Nat.reduceSub, Nat.reduceMul, Nat.reduceDiv, Int.reduceAdd, Int.reduceNeg, Int.reduceEq, Int.reduceLT, Int.reduceLE, c_slices_BinarySearchFunc___api_Edge_api_Edge_api_Edge__r3]
    refine hKY _ ?_
    refine wlk_cond0 (by first | rfl | (simp only [go_sem, reduceIte, Nat.reduceEqDiff, Nat.reduceBEq, reduceCtorEq, Nat.reduceLT, Nat.reduceLeDiff, Nat.reduceAdd, Nat.reduceSub, Nat.reduceMul, Nat.reduceDiv, Int.reduceAdd, Int.reduceNeg, Int.reduceEq, Int.reduceLT, Int.reduceLE]; try simp (disch := omega) only [decide_eq_true, decide_eq_false])) ?_
    refine wlk_exit ?_
    repeat (first | refine hn4 _ ?_ | refine he4 _ _ ?_ | refine he3 _ _ ?_ | refine hn2 _ ?_ | refine he2 _ ?_ | refine hf2 _ _ (by decide) ?_ | refine hn1 _ ?_ | refine he1 _ _ ?_)
    obtain rfl : i = j := by omega
    by_cases hil : i < es.length
    · have hx : es[i]? = some es[i] := List.getElem?_eq_getElem hil
      generalize es[i] = x at hx
      obtain ⟨a, b⟩ := x
      have hmem : decide ((ta, tb) ∈ es) = decide (cmpE (a, b) (ta, tb) = 0) := by
        rw [Bool.eq_iff_iff, decide_eq_true_iff, decide_eq_true_iff, cmpE_zero]
        refine ⟨fun hm => ?_, fun e => e ▸ List.mem_of_getElem? hx⟩
        obtain ⟨k, hk⟩ := List.mem_iff_getElem?.1 hm
        have hz : cmpE (ta, tb) (ta, tb) = 0 := (cmpE_zero _ _).2 rfl
        rcases Nat.lt_trichotomy k i with hki | hki | hki
        · have := h1 k _ hk hki; omega
        · subst hki; rw [hk] at hx; exact (Option.some.inj hx).symm
        · have h3 := hr i k _ _ hx hk hki
          have h4 := h2 i _ hx (Nat.le_refl _)
          omega
      refine wlk_sdraw fun KY hKY => ?_
      simp only [go_sem, reduceIte, Nat.reduceEqDiff, Nat.reduceBEq, reduceCtorEq, Nat.reduceLT, Nat.reduceLeDiff, Nat.reduceAdd, Nat.reduceSub, Nat.reduceMul, Nat.reduceDiv, Int.reduceAdd, Int.reduceNeg, Int.reduceEq, Int.reduceLT, Int.reduceLE, c_slices_BinarySearchFunc___api_Edge_api_Edge_api_Edge__r8, two_cells hx, List.length_drop, twos_len]
      repeat (simp (disch := omega) only [if_pos, if_neg, decide_eq_true, decide_eq_false, incS, nats_get, ints_get, two_cells hx, List.length_drop, twos_len]; try simp only [go_sem, reduceIte, Nat.reduceEqDiff, Nat.reduceBEq, reduceCtorEq, Nat.reduceLT, Nat.reduceLeDiff, Nat.reduceAdd, Nat.reduceSub, Nat.reduceMul, Nat.reduceDiv, Int.reduceAdd, Int.reduceNeg, Int.reduceEq, Int.reduceLT, Int.reduceLE, two_cells hx, List.length_drop, twos_len])
      refine call_view rfl (by simp only [go_sem, reduceIte, Nat.reduceEqDiff, Nat.reduceBEq, reduceCtorEq, Nat.reduceLT, Nat.reduceLeDiff, Nat.reduceAdd, Nat.reduceSub, Nat.reduceMul, Nat.reduceDiv, Int.reduceAdd, Int.reduceNeg, Int.reduceEq, Int.reduceLT, Int.reduceLE] <;> rfl) ((ocompare_ok (a, b) (ta, tb)).mono ?_)
      rintro rr hh ⟨rfl, rfl⟩
      refine ⟨rfl, rfl, rfl, ?_⟩
      simp only [go_sem, reduceIte, Nat.reduceEqDiff, Nat.reduceBEq, reduceCtorEq, Nat.reduceLT, Nat.reduceLeDiff, Nat.reduceAdd, Nat.reduceSub, Nat.reduceMul, Nat.reduceDiv, Int.reduceAdd, Int.reduceNeg, Int.reduceEq, Int.reduceLT, Int.reduceLE, ← hmem]
      refine hKY _ ?_
      refine wlk_ret ?_
      repeat (first | refine hr4 _ ?_ | refine hr3 _ ?_ | refine hr2 _ ?_ | refine hr1 _ ?_)
      simp only [go_sem, reduceIte, Nat.reduceEqDiff, Nat.reduceBEq, reduceCtorEq, Nat.reduceLT, Nat.reduceLeDiff, Nat.reduceAdd, Nat.reduceSub, Nat.reduceMul, Nat.reduceDiv, Int.reduceAdd, Int.reduceNeg, Int.reduceEq, Int.reduceLT, Int.reduceLE]
      exact ⟨i, rfl⟩
    · have hmem : decide ((ta, tb) ∈ es) = false := by
        rw [decide_eq_false_iff_not]
        intro hm
        obtain ⟨k, hk⟩ := List.mem_iff_getElem?.1 hm
        have := (List.getElem?_eq_some_iff.1 hk).1
        have hz : cmpE (ta, tb) (ta, tb) = 0 := (cmpE_zero _ _).2 rfl
        have := h1 k _ hk (by omega)
        omega
      refine wlk_sdraw fun KY hKY => ?_
      simp only [go_sem, reduceIte, Nat.reduceEqDiff, Nat.reduceBEq, reduceCtorEq, Nat.reduceLT, Nat.reduceLeDiff, Nat.reduceAdd, Nat.reduceSub, Nat.reduceMul, Nat.reduceDiv, Int.reduceAdd, Int.reduceNeg, Int.reduceEq, Int.reduceLT, Int.reduceLE, c_slices_BinarySearchFunc___api_Edge_api_Edge_api_Edge__r8]
      repeat (simp (disch := omega) only [if_pos, if_neg, decide_eq_true, decide_eq_false, incS, nats_get, ints_get]; try simp only [go_sem, reduceIte, Nat.reduceEqDiff, Nat.reduceBEq, reduceCtorEq, Nat.reduceLT, Nat.reduceLeDiff, Nat.reduceAdd, Nat.reduceSub, Nat.reduceMul, Nat.reduceDiv, Int.reduceAdd, Int.reduceNeg, Int.reduceEq, Int.reduceLT, Int.reduceLE])
      refine hKY _ ?_
      refine wlk_ret ?_
      repeat (first | refine hr4 _ ?_ | refine hr3 _ ?_ | refine hr2 _ ?_ | refine hr1 _ ?_)
      simp only [go_sem, reduceIte, Nat.reduceEqDiff, Nat.reduceBEq, reduceCtorEq, Nat.reduceLT, Nat.reduceLeDiff, Nat.reduceAdd, Nat.reduceSub, Nat.reduceMul, Nat.reduceDiv, Int.reduceAdd, Int.reduceNeg, Int.reduceEq, Int.reduceLT, Int.reduceLE]
      exact ⟨i, by rw [hmem]⟩
theorem gplace_ok (n : Int) (es : List (Int × Int)) (a b : Int) (hr : Ris es) (hl : es.length ≤ 65536) : ACalls Try.prog [] n_graph_place [.agg [.sc (.int .i64 n), .imm 2 (twos es)], .sc (.int .i64 a), .sc (.int .i64 b)] [] fun r h' => (∃ k : Nat, r = .tup [.sc (.int .i64 (k : Int)), .sc (.bool (decide (turnI a b ∈ es)))]) ∧ h' = [] := by
  refine ACalls.trim ?_
  refine go_graph_place rfl ?_
  unfold c_graph_place v_graph_place
  refine wlk_sreg fun KY hKY => ?_
  simp only [go_sem, reduceIte, Nat.reduceEqDiff, Nat.reduceBEq, reduceCtorEq, Nat.reduceLT, Nat.reduceLeDiff, Nat.reduceAdd, Nat.reduceSub, Nat.reduceMul, Nat.reduceDiv, Int.reduceAdd, Int.reduceNeg, Int.reduceEq, Int.reduceLT, Int.reduceLE, c_graph_place_r0]
  refine hKY _ ?_
  refine wlk_sdraw fun KY hKY => ?_
  simp only [go_sem, reduceIte, Nat.reduceEqDiff, Nat.reduceBEq, reduceCtorEq, Nat.reduceLT, Nat.reduceLeDiff, Nat.reduceAdd, Nat.reduceSub, Nat.reduceMul, Nat.reduceDiv, Int.reduceAdd, Int.reduceNeg, Int.reduceEq, Int.reduceLT, Int.reduceLE, c_graph_place_r1]
  refine ⟨?_, ?_, ?_⟩
  · refine call_view rfl (by simp only [go_sem, reduceIte, Nat.reduceEqDiff, Nat.reduceBEq, reduceCtorEq, Nat.reduceLT, Nat.reduceLeDiff, Nat.reduceAdd, Nat.reduceSub, Nat.reduceMul, Nat.reduceDiv, Int.reduceAdd, Int.reduceNeg, Int.reduceEq, Int.reduceLT, Int.reduceLE] <;> rfl) ((edge_ok a b).mono ?_)
    rintro rr hh ⟨rfl, rfl⟩
    refine ⟨rfl, rfl, rfl, ?_⟩
    simp only [go_sem, reduceIte, Nat.reduceEqDiff, Nat.reduceBEq, reduceCtorEq, Nat.reduceLT, Nat.reduceLeDiff, Nat.reduceAdd, Nat.reduceSub, Nat.reduceMul, Nat.reduceDiv, Int.reduceAdd, Int.reduceNeg, Int.reduceEq, Int.reduceLT, Int.reduceLE]
    refine call_view rfl (by simp only [go_sem, reduceIte, Nat.reduceEqDiff, Nat.reduceBEq, reduceCtorEq, Nat.reduceLT, Nat.reduceLeDiff, Nat.reduceAdd, Nat.reduceSub, Nat.reduceMul, Nat.reduceDiv, Int.reduceAdd, Int.reduceNeg, Int.reduceEq, Int.reduceLT, Int.reduceLE] <;> rfl) ((bsearch_ok es (turnI a b) hr hl).mono ?_)
    rintro rr hh ⟨⟨k, rfl⟩, rfl⟩
    refine ⟨?_, ?_, ?_, ?_⟩
    iterate 3 (first | rfl | simp only [go_sem, reduceIte, Nat.reduceEqDiff, Nat.reduceBEq, reduceCtorEq, Nat.reduceLT, Nat.reduceLeDiff, Nat.reduceAdd, Nat.reduceSub, Nat.reduceMul, Nat.reduceDiv, Int.reduceAdd, Int.reduceNeg, Int.reduceEq, Int.reduceLT, Int.reduceLE])
    simp only [go_sem, reduceIte, Nat.reduceEqDiff, Nat.reduceBEq, reduceCtorEq, Nat.reduceLT, Nat.reduceLeDiff, Nat.reduceAdd, Nat.reduceSub, Nat.reduceMul, Nat.reduceDiv, Int.reduceAdd, Int.reduceNeg, Int.reduceEq, Int.reduceLT, Int.reduceLE]
    refine hKY _ ?_
    refine wlk_ret ?_
    simp only [go_sem, reduceIte, Nat.reduceEqDiff, Nat.reduceBEq, reduceCtorEq, Nat.reduceLT, Nat.reduceLeDiff, Nat.reduceAdd, Nat.reduceSub, Nat.reduceMul, Nat.reduceDiv, Int.reduceAdd, Int.reduceNeg, Int.reduceEq, Int.reduceLT, Int.reduceLE]
    exact ⟨k, rfl⟩
  · refine call_view rfl (by simp only [go_sem, reduceIte, Nat.reduceEqDiff, Nat.reduceBEq, reduceCtorEq, Nat.reduceLT, Nat.reduceLeDiff, Nat.reduceAdd, Nat.reduceSub, Nat.reduceMul, Nat.reduceDiv, Int.reduceAdd, Int.reduceNeg, Int.reduceEq, Int.reduceLT, Int.reduceLE] <;> rfl) ((edge_ok a b).mono ?_)
    rintro rr hh ⟨rfl, rfl⟩
    refine ⟨rfl, rfl, rfl, ?_⟩
    simp only [go_sem, reduceIte, Nat.reduceEqDiff, Nat.reduceBEq, reduceCtorEq, Nat.reduceLT, Nat.reduceLeDiff, Nat.reduceAdd, Nat.reduceSub, Nat.reduceMul, Nat.reduceDiv, Int.reduceAdd, Int.reduceNeg, Int.reduceEq, Int.reduceLT, Int.reduceLE]
    refine call_view rfl (by simp only [go_sem, reduceIte, Nat.reduceEqDiff, Nat.reduceBEq, reduceCtorEq, Nat.reduceLT, Nat.reduceLeDiff, Nat.reduceAdd, Nat.reduceSub, Nat.reduceMul, Nat.reduceDiv, Int.reduceAdd, Int.reduceNeg, Int.reduceEq, Int.reduceLT, Int.reduceLE] <;> rfl) ((bsearch_ok es (turnI a b) hr hl).mono ?_)
    rintro rr hh ⟨⟨k, rfl⟩, rfl⟩
    refine ⟨?_, ?_, ?_, ?_⟩
    iterate 3 (first | rfl | simp only [go_sem, reduceIte, Nat.reduceEqDiff, Nat.reduceBEq, reduceCtorEq, Nat.reduceLT, Nat.reduceLeDiff, Nat.reduceAdd, Nat.reduceSub, Nat.reduceMul, Nat.reduceDiv, Int.reduceAdd, Int.reduceNeg, Int.reduceEq, Int.reduceLT, Int.reduceLE])
    simp only [go_sem, reduceIte, Nat.reduceEqDiff, Nat.reduceBEq, reduceCtorEq, Nat.reduceLT, Nat.reduceLeDiff, Nat.reduceAdd, Nat.reduceSub, Nat.reduceMul, Nat.reduceDiv, Int.reduceAdd, Int.reduceNeg, Int.reduceEq, Int.reduceLT, Int.reduceLE]
    refine hKY _ ?_
    refine wlk_ret ?_
    simp only [go_sem, reduceIte, Nat.reduceEqDiff, Nat.reduceBEq, reduceCtorEq, Nat.reduceLT, Nat.reduceLeDiff, Nat.reduceAdd, Nat.reduceSub, Nat.reduceMul, Nat.reduceDiv, Int.reduceAdd, Int.reduceNeg, Int.reduceEq, Int.reduceLT, Int.reduceLE]
    exact ⟨k, rfl⟩
  · refine call_view rfl (by simp only [go_sem, reduceIte, Nat.reduceEqDiff, Nat.reduceBEq, reduceCtorEq, Nat.reduceLT, Nat.reduceLeDiff, Nat.reduceAdd, Nat.reduceSub, Nat.reduceMul, Nat.reduceDiv, Int.reduceAdd, Int.reduceNeg, Int.reduceEq, Int.reduceLT, Int.reduceLE] <;> rfl) ((edge_ok a b).mono ?_)
    rintro rr hh ⟨rfl, rfl⟩
    refine ⟨rfl, rfl, rfl, ?_⟩
    simp only [go_sem, reduceIte, Nat.reduceEqDiff, Nat.reduceBEq, reduceCtorEq, Nat.reduceLT, Nat.reduceLeDiff, Nat.reduceAdd, Nat.reduceSub, Nat.reduceMul, Nat.reduceDiv, Int.reduceAdd, Int.reduceNeg, Int.reduceEq, Int.reduceLT, Int.reduceLE]
    refine call_view rfl (by simp only [go_sem, reduceIte, Nat.reduceEqDiff, Nat.reduceBEq, reduceCtorEq, Nat.reduceLT, Nat.reduceLeDiff, Nat.reduceAdd, Nat.reduceSub, Nat.reduceMul, Nat.reduceDiv, Int.reduceAdd, Int.reduceNeg, Int.reduceEq, Int.reduceLT, Int.reduceLE] <;> rfl) ((bsearch_ok es (turnI a b) hr hl).mono ?_)
    rintro rr hh ⟨⟨k, rfl⟩, rfl⟩
    refine ⟨?_, ?_, ?_, ?_⟩
    iterate 3 (first | rfl | simp only [go_sem, reduceIte, Nat.reduceEqDiff, Nat.reduceBEq, reduceCtorEq, Nat.reduceLT, Nat.reduceLeDiff, Nat.reduceAdd, Nat.reduceSub, Nat.reduceMul, Nat.reduceDiv, Int.reduceAdd, Int.reduceNeg, Int.reduceEq, Int.reduceLT, Int.reduceLE])
    simp only [go_sem, reduceIte, Nat.reduceEqDiff, Nat.reduceBEq, reduceCtorEq, Nat.reduceLT, Nat.reduceLeDiff, Nat.reduceAdd, Nat.reduceSub, Nat.reduceMul, Nat.reduceDiv, Int.reduceAdd, Int.reduceNeg, Int.reduceEq, Int.reduceLT, Int.reduceLE]
    refine hKY _ ?_
    refine wlk_ret ?_
    simp only [go_sem, reduceIte, Nat.reduceEqDiff, Nat.reduceBEq, reduceCtorEq, Nat.reduceLT, Nat.reduceLeDiff, Nat.reduceAdd, Nat.reduceSub, Nat.reduceMul, Nat.reduceDiv, Int.reduceAdd, Int.reduceNeg, Int.reduceEq, Int.reduceLT, Int.reduceLE]
    exact ⟨k, rfl⟩
theorem gindex_ok (n : Int) (es : List (Int × Int)) (a b : Int) : ACalls Try.prog [] n_graph_Index [.agg [.sc (.int .i64 n), .imm 2 (twos es)], .sc (.int .i64 a), .sc (.int .i64 b)] [] fun r h' => (∃ k : Int, r = .sc (.int .i64 k) ∧ (0 ≤ k ↔ rightB n es = true ∧ turnI a b ∈ es)) ∧ h' = [] := by
  refine ACalls.trim ?_
  refine go_graph_Index rfl ?_
  unfold c_graph_Index v_graph_Index
  refine wlk_sreg fun KY hKY => ?_
  simp only [go_sem, reduceIte, Nat.reduceEqDiff, Nat.reduceBEq, reduceCtorEq, Nat.reduceLT, Nat.reduceLeDiff, Nat.reduceAdd, Nat.reduceSub, Nat.reduceMul, Nat.reduceDiv, Int.reduceAdd, Int.reduceNeg, Int.reduceEq, Int.reduceLT, Int.reduceLE, c_graph_Index_r0]
  refine hKY _ ?_
  refine wlk_seq fun X1 hn1 he1 hr1 => ?_
  cases hr : rightB n es with
  | false =>
    refine wlk_sreg fun KY hKY => ?_
    simp only [go_sem, reduceIte, Nat.reduceEqDiff, Nat.reduceBEq, reduceCtorEq, Nat.reduceLT, Nat.reduceLeDiff, Nat.reduceAdd, Nat.reduceSub, Nat.reduceMul, Nat.reduceDiv, Int.reduceAdd, Int.reduceNeg, Int.reduceEq, Int.reduceLT, Int.reduceLE, c_graph_Index_r1]
    refine call_view rfl (by simp only [go_sem, reduceIte, Nat.reduceEqDiff, Nat.reduceBEq, reduceCtorEq, Nat.reduceLT, Nat.reduceLeDiff, Nat.reduceAdd, Nat.reduceSub, Nat.reduceMul, Nat.reduceDiv, Int.reduceAdd, Int.reduceNeg, Int.reduceEq, Int.reduceLT, Int.reduceLE] <;> rfl) ((right_ok n es).mono ?_)
    rintro rr hh ⟨rfl, rfl⟩
    refine ⟨rfl, rfl, rfl, ?_⟩
    simp only [go_sem, reduceIte, Nat.reduceEqDiff, Nat.reduceBEq, reduceCtorEq, Nat.reduceLT, Nat.reduceLeDiff, Nat.reduceAdd, Nat.reduceSub, Nat.reduceMul, Nat.reduceDiv, Int.reduceAdd, Int.reduceNeg, Int.reduceEq, Int.reduceLT, Int.reduceLE, hr]
    refine hKY _ ?_
    refine wlk_cond1 (by first | rfl | (simp only [go_sem, reduceIte, Nat.reduceEqDiff, Nat.reduceBEq, reduceCtorEq, Nat.reduceLT, Nat.reduceLeDiff, Nat.reduceAdd, Nat.reduceSub, Nat.reduceMul, Nat.reduceDiv, Int.reduceAdd, Int.reduceNeg, Int.reduceEq, Int.reduceLT, Int.reduceLE]; try simp (disch := omega) only [decide_eq_true, decide_eq_false])) ?_
    refine wlk_sreg fun KY hKY => ?_
    simp only [go_sem, reduceIte, Nat.reduceEqDiff, Nat.reduceBEq, reduceCtorEq, Nat.reduceLT, Nat.reduceLeDiff, Nat.reduceAdd, Nat.reduceSub, Nat.reduceMul, Nat.reduceDiv, Int.reduceAdd, Int.reduceNeg, Int.reduceEq, Int.reduceLT, Int.reduceLE, c_graph_Index_r2]
    refine hKY _ ?_
    refine wlk_ret ?_
    repeat (first | refine hr1 _ ?_)
    simp only [go_sem, reduceIte, Nat.reduceEqDiff, Nat.reduceBEq, reduceCtorEq, Nat.reduceLT, Nat.reduceLeDiff, Nat.reduceAdd, Nat.reduceSub, Nat.reduceMul, Nat.reduceDiv, Int.reduceAdd, Int.reduceNeg, Int.reduceEq, Int.reduceLT, Int.reduceLE]
    exact ⟨-1, rfl, by omega, fun h => by rw [hr] at h; cases h.1⟩
  | true =>
    have hl : es.length ≤ 65536 := by
      have h := hr
      unfold rightB at h
      simp only [Bool.and_eq_true, decide_eq_true_eq] at h
      exact h.1.2
    refine wlk_sreg fun KY hKY => ?_
    simp only [go_sem, reduceIte, Nat.reduceEqDiff, Nat.reduceBEq, reduceCtorEq, Nat.reduceLT, Nat.reduceLeDiff, Nat.reduceAdd, Nat.reduceSub, Nat.reduceMul, Nat.reduceDiv, Int.reduceAdd, Int.reduceNeg, Int.reduceEq, Int.reduceLT, Int.reduceLE, c_graph_Index_r1]
    refine call_view rfl (by simp only [go_sem, reduceIte, Nat.reduceEqDiff, Nat.reduceBEq, reduceCtorEq, Nat.reduceLT, Nat.reduceLeDiff, Nat.reduceAdd, Nat.reduceSub, Nat.reduceMul, Nat.reduceDiv, Int.reduceAdd, Int.reduceNeg, Int.reduceEq, Int.reduceLT, Int.reduceLE] <;> rfl) ((right_ok n es).mono ?_)
    rintro rr hh ⟨rfl, rfl⟩
    refine ⟨rfl, rfl, rfl, ?_⟩
    simp only [go_sem, reduceIte, Nat.reduceEqDiff, Nat.reduceBEq, reduceCtorEq, Nat.reduceLT, Nat.reduceLeDiff, Nat.reduceAdd, Nat.reduceSub, Nat.reduceMul, Nat.reduceDiv, Int.reduceAdd, Int.reduceNeg, Int.reduceEq, Int.reduceLT, Int.reduceLE, hr]
    refine hKY _ ?_
    refine wlk_cond0 (by first | rfl | (simp only [go_sem, reduceIte, Nat.reduceEqDiff, Nat.reduceBEq, reduceCtorEq, Nat.reduceLT, Nat.reduceLeDiff, Nat.reduceAdd, Nat.reduceSub, Nat.reduceMul, Nat.reduceDiv, Int.reduceAdd, Int.reduceNeg, Int.reduceEq, Int.reduceLT, Int.reduceLE]; try simp (disch := omega) only [decide_eq_true, decide_eq_false])) ?_
    refine wlk_skip ?_
    repeat (first | refine hn1 _ ?_ | refine he1 _ _ ?_)
    refine wlk_sreg fun KY hKY => ?_
    simp only [go_sem, reduceIte, Nat.reduceEqDiff, Nat.reduceBEq, reduceCtorEq, Nat.reduceLT, Nat.reduceLeDiff, Nat.reduceAdd, Nat.reduceSub, Nat.reduceMul, Nat.reduceDiv, Int.reduceAdd, Int.reduceNeg, Int.reduceEq, Int.reduceLT, Int.reduceLE, c_graph_Index_r3]
    refine call_view rfl (by simp only [go_sem, reduceIte, Nat.reduceEqDiff, Nat.reduceBEq, reduceCtorEq, Nat.reduceLT, Nat.reduceLeDiff, Nat.reduceAdd, Nat.reduceSub, Nat.reduceMul, Nat.reduceDiv, Int.reduceAdd, Int.reduceNeg, Int.reduceEq, Int.reduceLT, Int.reduceLE] <;> rfl) ((gplace_ok n es a b (ris_of hr) hl).mono ?_)
    rintro rr hh ⟨⟨k, rfl⟩, rfl⟩
    refine ⟨?_, ?_, ?_, ?_⟩
    iterate 3 (first | rfl | simp only [go_sem, reduceIte, Nat.reduceEqDiff, Nat.reduceBEq, reduceCtorEq, Nat.reduceLT, Nat.reduceLeDiff, Nat.reduceAdd, Nat.reduceSub, Nat.reduceMul, Nat.reduceDiv, Int.reduceAdd, Int.reduceNeg, Int.reduceEq, Int.reduceLT, Int.reduceLE])
    simp only [go_sem, reduceIte, Nat.reduceEqDiff, Nat.reduceBEq, reduceCtorEq, Nat.reduceLT, Nat.reduceLeDiff, Nat.reduceAdd, Nat.reduceSub, Nat.reduceMul, Nat.reduceDiv, Int.reduceAdd, Int.reduceNeg, Int.reduceEq, Int.reduceLT, Int.reduceLE]
    refine hKY _ ?_
    refine wlk_seq fun X2 hn2 he2 hr2 => ?_
    by_cases hm : turnI a b ∈ es
    · have hd : decide (turnI a b ∈ es) = true := decide_eq_true hm
      refine wlk_sreg fun KY hKY => ?_
      simp only [go_sem, reduceIte, Nat.reduceEqDiff, Nat.reduceBEq, reduceCtorEq, Nat.reduceLT, Nat.reduceLeDiff, Nat.reduceAdd, Nat.reduceSub, Nat.reduceMul, Nat.reduceDiv, Int.reduceAdd, Int.reduceNeg, Int.reduceEq, Int.reduceLT, Int.reduceLE, c_graph_Index_r4, hd]
      refine hKY _ ?_
      refine wlk_cond0 (by first | rfl | (simp only [go_sem, reduceIte, Nat.reduceEqDiff, Nat.reduceBEq, reduceCtorEq, Nat.reduceLT, Nat.reduceLeDiff, Nat.reduceAdd, Nat.reduceSub, Nat.reduceMul, Nat.reduceDiv, Int.reduceAdd, Int.reduceNeg, Int.reduceEq, Int.reduceLT, Int.reduceLE]; try simp (disch := omega) only [decide_eq_true, decide_eq_false])) ?_
      refine wlk_skip ?_
      repeat (first | refine hn2 _ ?_ | refine he2 _ _ ?_ | refine hn1 _ ?_ | refine he1 _ _ ?_)
      refine wlk_sreg fun KY hKY => ?_
      simp only [go_sem, reduceIte, Nat.reduceEqDiff, Nat.reduceBEq, reduceCtorEq, Nat.reduceLT, Nat.reduceLeDiff, Nat.reduceAdd, Nat.reduceSub, Nat.reduceMul, Nat.reduceDiv, Int.reduceAdd, Int.reduceNeg, Int.reduceEq, Int.reduceLT, Int.reduceLE, c_graph_Index_r6]
      refine hKY _ ?_
      refine wlk_ret ?_
      repeat (first | refine hr2 _ ?_ | refine hr1 _ ?_)
      simp only [go_sem, reduceIte, Nat.reduceEqDiff, Nat.reduceBEq, reduceCtorEq, Nat.reduceLT, Nat.reduceLeDiff, Nat.reduceAdd, Nat.reduceSub, Nat.reduceMul, Nat.reduceDiv, Int.reduceAdd, Int.reduceNeg, Int.reduceEq, Int.reduceLT, Int.reduceLE]
      exact ⟨(k : Int), rfl, fun _ => ⟨hr, hm⟩, fun _ => by omega⟩
    · have hd : decide (turnI a b ∈ es) = false := decide_eq_false hm
      refine wlk_sreg fun KY hKY => ?_
      simp only [go_sem, reduceIte, Nat.reduceEqDiff, Nat.reduceBEq, reduceCtorEq, Nat.reduceLT, Nat.reduceLeDiff, Nat.reduceAdd, Nat.reduceSub, Nat.reduceMul, Nat.reduceDiv, Int.reduceAdd, Int.reduceNeg, Int.reduceEq, Int.reduceLT, Int.reduceLE, c_graph_Index_r4, hd]
      refine hKY _ ?_
      refine wlk_cond1 (by first | rfl | (simp only [go_sem, reduceIte, Nat.reduceEqDiff, Nat.reduceBEq, reduceCtorEq, Nat.reduceLT, Nat.reduceLeDiff, Nat.reduceAdd, Nat.reduceSub, Nat.reduceMul, Nat.reduceDiv, Int.reduceAdd, Int.reduceNeg, Int.reduceEq, Int.reduceLT, Int.reduceLE]; try simp (disch := omega) only [decide_eq_true, decide_eq_false])) ?_
      refine wlk_sreg fun KY hKY => ?_
      simp only [go_sem, reduceIte, Nat.reduceEqDiff, Nat.reduceBEq, reduceCtorEq, Nat.reduceLT, Nat.reduceLeDiff, Nat.reduceAdd, Nat.reduceSub, Nat.reduceMul, Nat.reduceDiv, Int.reduceAdd, Int.reduceNeg, Int.reduceEq, Int.reduceLT, Int.reduceLE, c_graph_Index_r5]
      refine hKY _ ?_
      refine wlk_ret ?_
      repeat (first | refine hr2 _ ?_ | refine hr1 _ ?_)
      simp only [go_sem, reduceIte, Nat.reduceEqDiff, Nat.reduceBEq, reduceCtorEq, Nat.reduceLT, Nat.reduceLeDiff, Nat.reduceAdd, Nat.reduceSub, Nat.reduceMul, Nat.reduceDiv, Int.reduceAdd, Int.reduceNeg, Int.reduceEq, Int.reduceLT, Int.reduceLE]
      exact ⟨-1, rfl, by omega, fun h => absurd h.2 hm⟩
theorem ghas_ok (n : Int) (es : List (Int × Int)) (a b : Int) : ACalls Try.prog [] n_graph_Has [.agg [.sc (.int .i64 n), .imm 2 (twos es)], .sc (.int .i64 a), .sc (.int .i64 b)] [] fun r h' => r = .sc (.bool (rightB n es && decide (turnI a b ∈ es))) ∧ h' = [] := by
  refine ACalls.trim ?_
  refine go_graph_Has rfl ?_
  unfold c_graph_Has v_graph_Has
  refine wlk_sreg fun KY hKY => ?_
  simp only [go_sem, reduceIte, Nat.reduceEqDiff, Nat.reduceBEq, reduceCtorEq, Nat.reduceLT, Nat.reduceLeDiff, Nat.reduceAdd, Nat.reduceSub, Nat.reduceMul, Nat.reduceDiv, Int.reduceAdd, Int.reduceNeg, Int.reduceEq, Int.reduceLT, Int.reduceLE, c_graph_Has_r0]
  refine hKY _ ?_
  refine wlk_sreg fun KY hKY => ?_
  simp only [go_sem, reduceIte, Nat.reduceEqDiff, Nat.reduceBEq, reduceCtorEq, Nat.reduceLT, Nat.reduceLeDiff, Nat.reduceAdd, Nat.reduceSub, Nat.reduceMul, Nat.reduceDiv, Int.reduceAdd, Int.reduceNeg, Int.reduceEq, Int.reduceLT, Int.reduceLE, c_graph_Has_r1]
  refine call_view rfl (by simp only [go_sem, reduceIte, Nat.reduceEqDiff, Nat.reduceBEq, reduceCtorEq, Nat.reduceLT, Nat.reduceLeDiff, Nat.reduceAdd, Nat.reduceSub, Nat.reduceMul, Nat.reduceDiv, Int.reduceAdd, Int.reduceNeg, Int.reduceEq, Int.reduceLT, Int.reduceLE] <;> rfl) ((gindex_ok n es a b).mono ?_)
  rintro rr hh ⟨⟨k, rfl, hk⟩, rfl⟩
  refine ⟨?_, ?_, ?_, ?_⟩
  iterate 3 (first | rfl | simp only [go_sem, reduceIte, Nat.reduceEqDiff, Nat.reduceBEq, reduceCtorEq, Nat.reduceLT, Nat.reduceLeDiff, Nat.reduceAdd, Nat.reduceSub, Nat.reduceMul, Nat.reduceDiv, Int.reduceAdd, Int.reduceNeg, Int.reduceEq, Int.reduceLT, Int.reduceLE])
  simp only [go_sem, reduceIte, Nat.reduceEqDiff, Nat.reduceBEq, reduceCtorEq, Nat.reduceLT, Nat.reduceLeDiff, Nat.reduceAdd, Nat.reduceSub, Nat.reduceMul, Nat.reduceDiv, Int.reduceAdd, Int.reduceNeg, Int.reduceEq, Int.reduceLT, Int.reduceLE]
  refine hKY _ ?_
  refine wlk_ret ?_
  simp only [go_sem, reduceIte, Nat.reduceEqDiff, Nat.reduceBEq, reduceCtorEq, Nat.reduceLT, Nat.reduceLeDiff, Nat.reduceAdd, Nat.reduceSub, Nat.reduceMul, Nat.reduceDiv, Int.reduceAdd, Int.reduceNeg, Int.reduceEq, Int.reduceLT, Int.reduceLE]
  have : decide (0 ≤ k) = (rightB n es && decide (turnI a b ∈ es)) := by
    rw [Bool.eq_iff_iff]; simp [hk]
  rw [this]
end Go.Proofs.Ytoefhbfgmceikaa
set_option maxRecDepth 100000
set_option maxHeartbeats 4000000
namespace Go.Proofs.Ytoefhbfgmceikaa
open Go Go.Ga Go.Ga.Gl
def pStep (N : Nat) (es : Es) (l : List Int) (i : Nat) : Bool :=
  (decide (0 ≤ l.getD i 0) && decide (l.getD i 0 < (N : Int))) && (decide (l.getD i 0 ∉ l.take i) && (decide (i = 0) || decide (turnI (l.getD (i - 1) 0) (l.getD i 0) ∈ castE es)))
def pathB (N : Nat) (es : Es) (l : List Int) : Bool := decide (0 < l.length) && (List.range l.length).all fun i => pStep N es l i
theorem pathB_no {N : Nat} {es : Es} {l : List Int} {k : Nat} (h : k < l.length) (hf : pStep N es l k = false) : pathB N es l = false := by
  unfold pathB
  have : ((List.range l.length).all fun i => pStep N es l i) = false := by
    rw [Bool.eq_false_iff]; intro h'
    rw [List.all_eq_true] at h'
    rw [h' k (List.mem_range.2 h)] at hf; cases hf
  rw [this, Bool.and_false]
theorem take_getD' {b : List Int} {k : Nat} (h : k < b.length) : b.take (k + 1) = b.take k ++ [b.getD k 0] := by
  rw [List.take_add_one, List.getElem?_eq_getElem h, List.getD_eq_getElem?_getD, List.getElem?_eq_getElem h]; rfl
theorem wpath_ok {N : Nat} {es : Es} (g : GR N es) (A : AVal) (hA : A.copyable = true) (l : List Int) (hl : l.length ≤ 1000000) : ACalls Try.prog [] n_walk_ways_path [.agg [.sc (.int .i64 (N : Int)), .imm 2 (twos (castE es)), A], .imm 1 (ints l)] [] fun r h' => r = .sc (.bool (pathB N es l)) ∧ h' = [] := by
  refine ACalls.trim ?_
  have hr := rightB_GR g
  refine go_walk_ways_path rfl ?_
  unfold c_walk_ways_path v_walk_ways_path
  refine wlk_sreg fun KY hKY => ?_
  simp only [go_sem, reduceIte, Nat.reduceEqDiff, Nat.reduceBEq, reduceCtorEq, Nat.reduceLT, Nat.reduceLeDiff, Nat.reduceAdd, Nat.reduceSub, Nat.reduceMul, Nat.reduceDiv, Int.reduceAdd, Int.reduceNeg, Int.reduceEq, Int.reduceLT, Int.reduceLE, c_walk_ways_path_r0, hA]
  refine hKY _ ?_
  refine wlk_sreg fun KY hKY => ?_
  simp only [go_sem, reduceIte, Nat.reduceEqDiff, Nat.reduceBEq, reduceCtorEq, Nat.reduceLT, Nat.reduceLeDiff, Nat.reduceAdd, Nat.reduceSub, Nat.reduceMul, Nat.reduceDiv, Int.reduceAdd, Int.reduceNeg, Int.reduceEq, Int.reduceLT, Int.reduceLE, c_walk_ways_path_r1]
  refine hKY _ ?_
  refine wlk_seq fun X1 hn1 he1 hr1 => ?_
  refine wlk_sreg fun KY hKY => ?_
  simp only [go_sem, reduceIte, Nat.reduceEqDiff, Nat.reduceBEq, reduceCtorEq, Nat.reduceLT, Nat.reduceLeDiff, Nat.reduceAdd, Nat.reduceSub, Nat.reduceMul, Nat.reduceDiv, Int.reduceAdd, Int.reduceNeg, Int.reduceEq, Int.reduceLT, Int.reduceLE, c_walk_ways_path_r2, ints_len]
  refine hKY _ ?_
  refine wlk_blk fun X2 hn2 he2 hf2 hr2 => ?_
  try simp only [go_sem, reduceIte, Nat.reduceEqDiff, Nat.reduceBEq, reduceCtorEq, Nat.reduceLT, Nat.reduceLeDiff, Nat.reduceAdd, Nat.reduceSub, Nat.reduceMul, Nat.reduceDiv, Int.reduceAdd, Int.reduceNeg, Int.reduceEq, Int.reduceLT, Int.reduceLE]
  refine wlk_lp (α := Nat) [6, 7, 12, 45] (fun k => [(5, .mp (l.take k)), (11, .sc (.int .i64 (k : Int)))]) (fun k => []) (fun k q => k ≤ l.length ∧ q = l.length - k ∧ (∀ i, i < k → pStep N es l i = true)) (0) (l.length) rfl (by first | (simp only [go_sem, reduceIte, Nat.reduceEqDiff, Nat.reduceBEq, reduceCtorEq, Nat.reduceLT, Nat.reduceLeDiff, Nat.reduceAdd, Nat.reduceSub, Nat.reduceMul, Nat.reduceDiv, Int.reduceAdd, Int.reduceNeg, Int.reduceEq, Int.reduceLT, Int.reduceLE, updAll_cons, updAll_nil]; done) | with_reducible rfl | rfl) (⟨by omega, rfl, fun i h => by omega⟩) ?_
  rintro k q ⟨hk, rfl, hz⟩ X3 hn3 he3 hr3
  simp only [go_sem, reduceIte, Nat.reduceEqDiff, Nat.reduceBEq, reduceCtorEq, Nat.reduceLT, Nat.reduceLeDiff, Nat.reduceAdd, Nat.reduceSub, Nat.reduceMul, Nat.reduceDiv, Int.reduceAdd, Int.reduceNeg, Int.reduceEq, Int.reduceLT, Int.reduceLE, updAll_cons, updAll_nil]
  rcases Nat.lt_or_ge k l.length with hk2 | hk2
  · have hdy : decide ((k : Int) < (l.length : Int)) = true := decide_eq_true (by omega)
    refine wlk_sreg fun KY hKY => ?_
    simp only [go_sem, reduceIte, Nat.reduceEqDiff, Nat.reduceBEq, reduceCtorEq, Nat.reduceLT, Nat.reduceLeDiff, Nat.reduceAdd, Nat.reduceSub, Nat.reduceMul, Nat.reduceDiv, Int.reduceAdd, Int.reduceNeg, Int.reduceEq, Int.reduceLT, Int.reduceLE, c_walk_ways_path_r3, hdy]
    refine hKY _ ?_
    refine wlk_seq fun X4 hn4 he4 hr4 => ?_
    refine wlk_cond1 (by first | rfl | (simp only [go_sem, reduceIte, Nat.reduceEqDiff, Nat.reduceBEq, reduceCtorEq, Nat.reduceLT, Nat.reduceLeDiff, Nat.reduceAdd, Nat.reduceSub, Nat.reduceMul, Nat.reduceDiv, Int.reduceAdd, Int.reduceNeg, Int.reduceEq, Int.reduceLT, Int.reduceLE]; try simp (disch := omega) only [decide_eq_true, decide_eq_false])) ?_
    refine wlk_skip ?_
    repeat (first | refine hn4 _ ?_ | refine he4 _ _ ?_ | refine he3 _ _ ?_ | refine hn2 _ ?_ | refine he2 _ ?_ | refine hf2 _ _ (by decide) ?_ | refine hn1 _ ?_ | refine he1 _ _ ?_)
    refine wlk_seq fun X5 hn5 he5 hr5 => ?_
    refine wlk_blk fun X6 hn6 he6 hf6 hr6 => ?_
    refine wlk_sreg fun KY hKY => ?_
    simp only [go_sem, reduceIte, Nat.reduceEqDiff, Nat.reduceBEq, reduceCtorEq, Nat.reduceLT, Nat.reduceLeDiff, Nat.reduceAdd, Nat.reduceSub, Nat.reduceMul, Nat.reduceDiv, Int.reduceAdd, Int.reduceNeg, Int.reduceEq, Int.reduceLT, Int.reduceLE, c_walk_ways_path_r4, ints_get hk2, hk2, ints_len]
    refine hKY _ ?_
    have htk := take_getD' hk2
    refine wlk_seq fun X7 hn7 he7 hr7 => ?_
    by_cases h1 : l.getD k 0 < 0
    · have d1 : decide (l.getD k 0 < 0) = true := decide_eq_true h1
      have hbad : pStep N es l k = false := by unfold pStep; rw [decide_eq_false (show ¬ 0 ≤ l.getD k 0 by omega)]; rfl
      refine wlk_sdraw fun KY hKY => ?_
      simp only [go_sem, reduceIte, Nat.reduceEqDiff, Nat.reduceBEq, reduceCtorEq, Nat.reduceLT, Nat.reduceLeDiff, Nat.reduceAdd, Nat.reduceSub, Nat.reduceMul, Nat.reduceDiv, Int.reduceAdd, Int.reduceNeg, Int.reduceEq, Int.reduceLT, Int.reduceLE, c_walk_ways_path_r5, d1]
      refine hKY _ ?_
      refine wlk_cond1 (by first | rfl | (simp only [go_sem, reduceIte, Nat.reduceEqDiff, Nat.reduceBEq, reduceCtorEq, Nat.reduceLT, Nat.reduceLeDiff, Nat.reduceAdd, Nat.reduceSub, Nat.reduceMul, Nat.reduceDiv, Int.reduceAdd, Int.reduceNeg, Int.reduceEq, Int.reduceLT, Int.reduceLE]; try simp (disch := omega) only [decide_eq_true, decide_eq_false])) ?_
      refine wlk_sreg fun KY hKY => ?_
      simp only [go_sem, reduceIte, Nat.reduceEqDiff, Nat.reduceBEq, reduceCtorEq, Nat.reduceLT, Nat.reduceLeDiff, Nat.reduceAdd, Nat.reduceSub, Nat.reduceMul, Nat.reduceDiv, Int.reduceAdd, Int.reduceNeg, Int.reduceEq, Int.reduceLT, Int.reduceLE, c_walk_ways_path_r6]
      refine hKY _ ?_
      refine wlk_ret ?_
      repeat (first | refine hr7 _ ?_ | refine hr6 _ ?_ | refine hr5 _ ?_ | refine hr4 _ ?_ | refine hr3 _ ?_ | refine hr2 _ ?_ | refine hr1 _ ?_)
      simp only [go_sem, reduceIte, Nat.reduceEqDiff, Nat.reduceBEq, reduceCtorEq, Nat.reduceLT, Nat.reduceLeDiff, Nat.reduceAdd, Nat.reduceSub, Nat.reduceMul, Nat.reduceDiv, Int.reduceAdd, Int.reduceNeg, Int.reduceEq, Int.reduceLT, Int.reduceLE]
      rw [pathB_no hk2 hbad]
    · have d1 : decide (l.getD k 0 < 0) = false := decide_eq_false h1
      by_cases h2 : (N : Int) ≤ l.getD k 0
      · have d2 : decide ((N : Int) ≤ l.getD k 0) = true := decide_eq_true h2
        have hbad : pStep N es l k = false := by unfold pStep; rw [decide_eq_false (show ¬ l.getD k 0 < (N : Int) by omega), Bool.and_false]; rfl
        refine wlk_sdraw fun KY hKY => ?_
        simp only [go_sem, reduceIte, Nat.reduceEqDiff, Nat.reduceBEq, reduceCtorEq, Nat.reduceLT, Nat.reduceLeDiff, Nat.reduceAdd, Nat.reduceSub, Nat.reduceMul, Nat.reduceDiv, Int.reduceAdd, Int.reduceNeg, Int.reduceEq, Int.reduceLT, Int.reduceLE, c_walk_ways_path_r5, d1, d2]
        refine hKY _ ?_
        refine wlk_cond1 (by first | rfl | (simp only [go_sem, reduceIte, Nat.reduceEqDiff, Nat.reduceBEq, reduceCtorEq, Nat.reduceLT, Nat.reduceLeDiff, Nat.reduceAdd, Nat.reduceSub, Nat.reduceMul, Nat.reduceDiv, Int.reduceAdd, Int.reduceNeg, Int.reduceEq, Int.reduceLT, Int.reduceLE]; try simp (disch := omega) only [decide_eq_true, decide_eq_false])) ?_
        refine wlk_sreg fun KY hKY => ?_
        simp only [go_sem, reduceIte, Nat.reduceEqDiff, Nat.reduceBEq, reduceCtorEq, Nat.reduceLT, Nat.reduceLeDiff, Nat.reduceAdd, Nat.reduceSub, Nat.reduceMul, Nat.reduceDiv, Int.reduceAdd, Int.reduceNeg, Int.reduceEq, Int.reduceLT, Int.reduceLE, c_walk_ways_path_r6]
        refine hKY _ ?_
        refine wlk_ret ?_
        repeat (first | refine hr7 _ ?_ | refine hr6 _ ?_ | refine hr5 _ ?_ | refine hr4 _ ?_ | refine hr3 _ ?_ | refine hr2 _ ?_ | refine hr1 _ ?_)
        simp only [go_sem, reduceIte, Nat.reduceEqDiff, Nat.reduceBEq, reduceCtorEq, Nat.reduceLT, Nat.reduceLeDiff, Nat.reduceAdd, Nat.reduceSub, Nat.reduceMul, Nat.reduceDiv, Int.reduceAdd, Int.reduceNeg, Int.reduceEq, Int.reduceLT, Int.reduceLE]
        rw [pathB_no hk2 hbad]
      · have d2 : decide ((N : Int) ≤ l.getD k 0) = false := decide_eq_false h2
        by_cases h3 : l.getD k 0 ∈ l.take k
        · have d3 : decide (l.getD k 0 ∈ l.take k) = true := decide_eq_true h3
          have hbad : pStep N es l k = false := by unfold pStep; rw [decide_eq_false (show ¬ l.getD k 0 ∉ l.take k from fun h => h h3), Bool.false_and, Bool.and_false]
          refine wlk_sdraw fun KY hKY => ?_
          simp only [go_sem, reduceIte, Nat.reduceEqDiff, Nat.reduceBEq, reduceCtorEq, Nat.reduceLT, Nat.reduceLeDiff, Nat.reduceAdd, Nat.reduceSub, Nat.reduceMul, Nat.reduceDiv, Int.reduceAdd, Int.reduceNeg, Int.reduceEq, Int.reduceLT, Int.reduceLE, c_walk_ways_path_r5, d1, d2, d3]
          refine hKY _ ?_
          refine wlk_cond1 (by first | rfl | (simp only [go_sem, reduceIte, Nat.reduceEqDiff, Nat.reduceBEq, reduceCtorEq, Nat.reduceLT, Nat.reduceLeDiff, Nat.reduceAdd, Nat.reduceSub, Nat.reduceMul, Nat.reduceDiv, Int.reduceAdd, Int.reduceNeg, Int.reduceEq, Int.reduceLT, Int.reduceLE]; try simp (disch := omega) only [decide_eq_true, decide_eq_false])) ?_
          refine wlk_sreg fun KY hKY => ?_
          simp only [go_sem, reduceIte, Nat.reduceEqDiff, Nat.reduceBEq, reduceCtorEq, Nat.reduceLT, Nat.reduceLeDiff, Nat.reduceAdd, Nat.reduceSub, Nat.reduceMul, Nat.reduceDiv, Int.reduceAdd, Int.reduceNeg, Int.reduceEq, Int.reduceLT, Int.reduceLE, c_walk_ways_path_r6]
          refine hKY _ ?_
          refine wlk_ret ?_
          repeat (first | refine hr7 _ ?_ | refine hr6 _ ?_ | refine hr5 _ ?_ | refine hr4 _ ?_ | refine hr3 _ ?_ | refine hr2 _ ?_ | refine hr1 _ ?_)
          simp only [go_sem, reduceIte, Nat.reduceEqDiff, Nat.reduceBEq, reduceCtorEq, Nat.reduceLT, Nat.reduceLeDiff, Nat.reduceAdd, Nat.reduceSub, Nat.reduceMul, Nat.reduceDiv, Int.reduceAdd, Int.reduceNeg, Int.reduceEq, Int.reduceLT, Int.reduceLE]
          rw [pathB_no hk2 hbad]
        · have d3 : decide (l.getD k 0 ∈ l.take k) = false := decide_eq_false h3
          have hin : (decide (0 ≤ l.getD k 0) && decide (l.getD k 0 < (N : Int))) = true := by rw [decide_eq_true (by omega), decide_eq_true (by omega)]; rfl
          have hps : pStep N es l k = (decide (k = 0) || decide (turnI (l.getD (k - 1) 0) (l.getD k 0) ∈ castE es)) := by
            unfold pStep; rw [hin, decide_eq_true h3, Bool.true_and, Bool.true_and]
          rcases Nat.eq_zero_or_pos k with hk0 | hk0
          · have d4 : decide ((0 : Int) < (k : Int)) = false := decide_eq_false (by omega)
            have hgood : pStep N es l k = true := by rw [hps, decide_eq_true hk0]; rfl
            refine wlk_sdraw fun KY hKY => ?_
            simp only [go_sem, reduceIte, Nat.reduceEqDiff, Nat.reduceBEq, reduceCtorEq, Nat.reduceLT, Nat.reduceLeDiff, Nat.reduceAdd, Nat.reduceSub, Nat.reduceMul, Nat.reduceDiv, Int.reduceAdd, Int.reduceNeg, Int.reduceEq, Int.reduceLT, Int.reduceLE, c_walk_ways_path_r5, d1, d2, d3, gt_iff_lt, d4]
            refine hKY _ ?_
            refine wlk_cond0 (by first | rfl | (simp only [go_sem, reduceIte, Nat.reduceEqDiff, Nat.reduceBEq, reduceCtorEq, Nat.reduceLT, Nat.reduceLeDiff, Nat.reduceAdd, Nat.reduceSub, Nat.reduceMul, Nat.reduceDiv, Int.reduceAdd, Int.reduceNeg, Int.reduceEq, Int.reduceLT, Int.reduceLE]; try simp (disch := omega) only [decide_eq_true, decide_eq_false])) ?_
            refine wlk_skip ?_
            repeat (first | refine hn7 _ ?_ | refine he7 _ _ ?_ | refine hn6 _ ?_ | refine he6 _ ?_ | refine hf6 _ _ (by decide) ?_ | refine hn5 _ ?_ | refine he5 _ _ ?_ | refine hn4 _ ?_ | refine he4 _ _ ?_ | refine he3 _ _ ?_ | refine hn2 _ ?_ | refine he2 _ ?_ | refine hf2 _ _ (by decide) ?_ | refine hn1 _ ?_ | refine he1 _ _ ?_)
            refine wlk_reg fun KY hKY => ?_
            simp only [go_sem, reduceIte, Nat.reduceEqDiff, Nat.reduceBEq, reduceCtorEq, Nat.reduceLT, Nat.reduceLeDiff, Nat.reduceAdd, Nat.reduceSub, Nat.reduceMul, Nat.reduceDiv, Int.reduceAdd, Int.reduceNeg, Int.reduceEq, Int.reduceLT, Int.reduceLE, c_walk_ways_path_r7, d3, ← htk]
            refine hKY _ ?_
            repeat (first | refine hn7 _ ?_ | refine he7 _ _ ?_ | refine hn6 _ ?_ | refine he6 _ ?_ | refine hf6 _ _ (by decide) ?_ | refine hn5 _ ?_ | refine he5 _ _ ?_ | refine hn4 _ ?_ | refine he4 _ _ ?_ | refine he3 _ _ ?_ | refine hn2 _ ?_ | refine he2 _ ?_ | refine hf2 _ _ (by decide) ?_ | refine hn1 _ ?_ | refine he1 _ _ ?_)
            refine wlk_reg fun KY hKY => ?_
            simp only [go_sem, reduceIte, Nat.reduceEqDiff, Nat.reduceBEq, reduceCtorEq, Nat.reduceLT, Nat.reduceLeDiff, Nat.reduceAdd, Nat.reduceSub, Nat.reduceMul, Nat.reduceDiv, Int.reduceAdd, Int.reduceNeg, Int.reduceEq, Int.reduceLT, Int.reduceLE, c_walk_ways_path_r8, incS (show k < 4611686018427387904 by omega)]
            refine hKY _ ?_
            repeat (first | refine hn7 _ ?_ | refine he7 _ _ ?_ | refine hn6 _ ?_ | refine he6 _ ?_ | refine hf6 _ _ (by decide) ?_ | refine hn5 _ ?_ | refine he5 _ _ ?_ | refine hn4 _ ?_ | refine he4 _ _ ?_)
            refine hn3 _ (k + 1) (l.length - (k + 1)) (by omega) (by first | (simp only [go_sem, reduceIte, Nat.reduceEqDiff, Nat.reduceBEq, reduceCtorEq, Nat.reduceLT, Nat.reduceLeDiff, Nat.reduceAdd, Nat.reduceSub, Nat.reduceMul, Nat.reduceDiv, Int.reduceAdd, Int.reduceNeg, Int.reduceEq, Int.reduceLT, Int.reduceLE, updAll_cons, updAll_nil]; done) | with_reducible rfl) ?_
            refine ⟨hk2, rfl, fun i hi => ?_⟩
            rcases Nat.lt_or_ge i (k) with h3 | h3
            · exact hz i h3
            · have : i = k := by omega
              subst this
              exact hgood
          · obtain ⟨m, rfl⟩ : ∃ m, k = m + 1 := ⟨k - 1, by omega⟩
            have hm2 : m < l.length := by omega
            have d4 : decide ((0 : Int) < ((m + 1 : Nat) : Int)) = true := decide_eq_true (by omega)
            rw [decide_eq_false (show ¬ m + 1 = 0 by omega), Bool.false_or, Nat.add_sub_cancel] at hps
            cases hmem : decide (turnI (l.getD m 0) (l.getD (m + 1) 0) ∈ castE es) with
            | true =>
              have hgood : pStep N es l (m + 1) = true := by rw [hps, hmem]
              have hhas : (rightB N (castE es) && decide (turnI (l.getD m 0) (l.getD (m + 1) 0) ∈ castE es)) = true := by rw [hr, hmem]; rfl
              refine wlk_sdraw fun KY hKY => ?_
              simp only [go_sem, reduceIte, Nat.reduceEqDiff, Nat.reduceBEq, reduceCtorEq, Nat.reduceLT, Nat.reduceLeDiff, Nat.reduceAdd, Nat.reduceSub, Nat.reduceMul, Nat.reduceDiv, Int.reduceAdd, Int.reduceNeg, Int.reduceEq, Int.reduceLT, Int.reduceLE, c_walk_ways_path_r5, d1, d2, d3, gt_iff_lt, d4, decS (show m < 4611686018427387904 by omega), ints_get hm2, hm2, ints_len]
              refine call_view rfl (by simp only [go_sem, reduceIte, Nat.reduceEqDiff, Nat.reduceBEq, reduceCtorEq, Nat.reduceLT, Nat.reduceLeDiff, Nat.reduceAdd, Nat.reduceSub, Nat.reduceMul, Nat.reduceDiv, Int.reduceAdd, Int.reduceNeg, Int.reduceEq, Int.reduceLT, Int.reduceLE] <;> rfl) ((ghas_ok N (castE es) (l.getD m 0) (l.getD (m + 1) 0)).mono ?_)
              rintro rr hh ⟨rfl, rfl⟩
              refine ⟨rfl, rfl, rfl, ?_⟩
              simp only [go_sem, reduceIte, Nat.reduceEqDiff, Nat.reduceBEq, reduceCtorEq, Nat.reduceLT, Nat.reduceLeDiff, Nat.reduceAdd, Nat.reduceSub, Nat.reduceMul, Nat.reduceDiv, Int.reduceAdd, Int.reduceNeg, Int.reduceEq, Int.reduceLT, Int.reduceLE, hhas]
              refine hKY _ ?_
              refine wlk_cond0 (by first | rfl | (simp only [go_sem, reduceIte, Nat.reduceEqDiff, Nat.reduceBEq, reduceCtorEq, Nat.reduceLT, Nat.reduceLeDiff, Nat.reduceAdd, Nat.reduceSub, Nat.reduceMul, Nat.reduceDiv, Int.reduceAdd, Int.reduceNeg, Int.reduceEq, Int.reduceLT, Int.reduceLE]; try simp (disch := omega) only [decide_eq_true, decide_eq_false])) ?_
              refine wlk_skip ?_
              repeat (first | refine hn7 _ ?_ | refine he7 _ _ ?_ | refine hn6 _ ?_ | refine he6 _ ?_ | refine hf6 _ _ (by decide) ?_ | refine hn5 _ ?_ | refine he5 _ _ ?_ | refine hn4 _ ?_ | refine he4 _ _ ?_ | refine he3 _ _ ?_ | refine hn2 _ ?_ | refine he2 _ ?_ | refine hf2 _ _ (by decide) ?_ | refine hn1 _ ?_ | refine he1 _ _ ?_)
              refine wlk_reg fun KY hKY => ?_
              simp only [go_sem, reduceIte, Nat.reduceEqDiff, Nat.reduceBEq, reduceCtorEq, Nat.reduceLT, Nat.reduceLeDiff, Nat.reduceAdd, Nat.reduceSub, Nat.reduceMul, Nat.reduceDiv, Int.reduceAdd, Int.reduceNeg, Int.reduceEq, Int.reduceLT, Int.reduceLE, c_walk_ways_path_r7, d3, ← htk]
              refine hKY _ ?_
              repeat (first | refine hn7 _ ?_ | refine he7 _ _ ?_ | refine hn6 _ ?_ | refine he6 _ ?_ | refine hf6 _ _ (by decide) ?_ | refine hn5 _ ?_ | refine he5 _ _ ?_ | refine hn4 _ ?_ | refine he4 _ _ ?_ | refine he3 _ _ ?_ | refine hn2 _ ?_ | refine he2 _ ?_ | refine hf2 _ _ (by decide) ?_ | refine hn1 _ ?_ | refine he1 _ _ ?_)
              refine wlk_reg fun KY hKY => ?_
              simp only [go_sem, reduceIte, Nat.reduceEqDiff, Nat.reduceBEq, reduceCtorEq, Nat.reduceLT, Nat.reduceLeDiff, Nat.reduceAdd, Nat.reduceSub, Nat.reduceMul, Nat.reduceDiv, Int.reduceAdd, Int.reduceNeg, Int.reduceEq, Int.reduceLT, Int.reduceLE, c_walk_ways_path_r8, incS (show m + 1 < 4611686018427387904 by omega)]
              refine hKY _ ?_
              repeat (first | refine hn7 _ ?_ | refine he7 _ _ ?_ | refine hn6 _ ?_ | refine he6 _ ?_ | refine hf6 _ _ (by decide) ?_ | refine hn5 _ ?_ | refine he5 _ _ ?_ | refine hn4 _ ?_ | refine he4 _ _ ?_)
              refine hn3 _ (m + 1 + 1) (l.length - (m + 1 + 1)) (by omega) (by first | (simp only [go_sem, reduceIte, Nat.reduceEqDiff, Nat.reduceBEq, reduceCtorEq, Nat.reduceLT, Nat.reduceLeDiff, Nat.reduceAdd, Nat.reduceSub, Nat.reduceMul, Nat.reduceDiv, Int.reduceAdd, Int.reduceNeg, Int.reduceEq, Int.reduceLT, Int.reduceLE, updAll_cons, updAll_nil]; done) | with_reducible rfl) ?_
              refine ⟨hk2, rfl, fun i hi => ?_⟩
              rcases Nat.lt_or_ge i (m + 1) with h3 | h3
              · exact hz i h3
              · have : i = m + 1 := by omega
                subst this
                exact hgood
            | false =>
              have hbad : pStep N es l (m + 1) = false := by rw [hps, hmem]
              have hhas : (rightB N (castE es) && decide (turnI (l.getD m 0) (l.getD (m + 1) 0) ∈ castE es)) = false := by rw [hmem, Bool.and_false]
              refine wlk_sdraw fun KY hKY => ?_
              simp only [go_sem, reduceIte, Nat.reduceEqDiff, Nat.reduceBEq, reduceCtorEq, Nat.reduceLT, Nat.reduceLeDiff, Nat.reduceAdd, Nat.reduceSub, Nat.reduceMul, Nat.reduceDiv, Int.reduceAdd, Int.reduceNeg, Int.reduceEq, Int.reduceLT, Int.reduceLE, c_walk_ways_path_r5, d1, d2, d3, gt_iff_lt, d4, decS (show m < 4611686018427387904 by omega), ints_get hm2, hm2, ints_len]
              refine call_view rfl (by simp only [go_sem, reduceIte, Nat.reduceEqDiff, Nat.reduceBEq, reduceCtorEq, Nat.reduceLT, Nat.reduceLeDiff, Nat.reduceAdd, Nat.reduceSub, Nat.reduceMul, Nat.reduceDiv, Int.reduceAdd, Int.reduceNeg, Int.reduceEq, Int.reduceLT, Int.reduceLE] <;> rfl) ((ghas_ok N (castE es) (l.getD m 0) (l.getD (m + 1) 0)).mono ?_)
              rintro rr hh ⟨rfl, rfl⟩
              refine ⟨rfl, rfl, rfl, ?_⟩
              simp only [go_sem, reduceIte, Nat.reduceEqDiff, Nat.reduceBEq, reduceCtorEq, Nat.reduceLT, Nat.reduceLeDiff, Nat.reduceAdd, Nat.reduceSub, Nat.reduceMul, Nat.reduceDiv, Int.reduceAdd, Int.reduceNeg, Int.reduceEq, Int.reduceLT, Int.reduceLE, hhas]
              refine hKY _ ?_
              refine wlk_cond1 (by first | rfl | (simp only [go_sem, reduceIte, Nat.reduceEqDiff, Nat.reduceBEq, reduceCtorEq, Nat.reduceLT, Nat.reduceLeDiff, Nat.reduceAdd, Nat.reduceSub, Nat.reduceMul, Nat.reduceDiv, Int.reduceAdd, Int.reduceNeg, Int.reduceEq, Int.reduceLT, Int.reduceLE]; try simp (disch := omega) only [decide_eq_true, decide_eq_false])) ?_
              refine wlk_sreg fun KY hKY => ?_
              simp only [go_sem, reduceIte, Nat.reduceEqDiff, Nat.reduceBEq, reduceCtorEq, Nat.reduceLT, Nat.reduceLeDiff, Nat.reduceAdd, Nat.reduceSub, Nat.reduceMul, Nat.reduceDiv, Int.reduceAdd, Int.reduceNeg, Int.reduceEq, Int.reduceLT, Int.reduceLE, c_walk_ways_path_r6]
              refine hKY _ ?_
              refine wlk_ret ?_
              repeat (first | refine hr7 _ ?_ | refine hr6 _ ?_ | refine hr5 _ ?_ | refine hr4 _ ?_ | refine hr3 _ ?_ | refine hr2 _ ?_ | refine hr1 _ ?_)
              simp only [go_sem, reduceIte, Nat.reduceEqDiff, Nat.reduceBEq, reduceCtorEq, Nat.reduceLT, Nat.reduceLeDiff, Nat.reduceAdd, Nat.reduceSub, Nat.reduceMul, Nat.reduceDiv, Int.reduceAdd, Int.reduceNeg, Int.reduceEq, Int.reduceLT, Int.reduceLE]
              rw [pathB_no hk2 hbad]
  have hdx : decide ((k : Int) < (l.length : Int)) = false := decide_eq_false (by omega)
  refine wlk_sreg fun KY hKY => ?_
  simp only [go_sem, reduceIte, Nat.reduceEqDiff, Nat.reduceBEq, reduceCtorEq, Nat.reduceLT, Nat.reduceLeDiff, Nat.reduceAdd, Nat.reduceSub, Nat.reduceMul, Nat.reduceDiv, Int.reduceAdd, Int.reduceNeg, Int.reduceEq, Int.reduceLT, Int.reduceLE, c_walk_ways_path_r3, hdx]
  refine hKY _ ?_
  refine wlk_seq fun X8 hn8 he8 hr8 => ?_
  refine wlk_cond0 (by first | rfl | (simp only [go_sem, reduceIte, Nat.reduceEqDiff, Nat.reduceBEq, reduceCtorEq, Nat.reduceLT, Nat.reduceLeDiff, Nat.reduceAdd, Nat.reduceSub, Nat.reduceMul, Nat.reduceDiv, Int.reduceAdd, Int.reduceNeg, Int.reduceEq, Int.reduceLT, Int.reduceLE]; try simp (disch := omega) only [decide_eq_true, decide_eq_false])) ?_
  refine wlk_exit ?_
  repeat (first | refine hn8 _ ?_ | refine he8 _ _ ?_ | refine he3 _ _ ?_ | refine hn2 _ ?_ | refine he2 _ ?_ | refine hf2 _ _ (by decide) ?_ | refine hn1 _ ?_ | refine he1 _ _ ?_)
  obtain rfl : k = l.length := by omega
  refine wlk_sreg fun KY hKY => ?_
  simp only [go_sem, reduceIte, Nat.reduceEqDiff, Nat.reduceBEq, reduceCtorEq, Nat.reduceLT, Nat.reduceLeDiff, Nat.reduceAdd, Nat.reduceSub, Nat.reduceMul, Nat.reduceDiv, Int.reduceAdd, Int.reduceNeg, Int.reduceEq, Int.reduceLT, Int.reduceLE, c_walk_ways_path_r9, ints_len, gt_iff_lt]
  refine hKY _ ?_
  refine wlk_ret ?_
  repeat (first | refine hr8 _ ?_ | refine hr3 _ ?_ | refine hr2 _ ?_ | refine hr1 _ ?_)
  simp only [go_sem, reduceIte, Nat.reduceEqDiff, Nat.reduceBEq, reduceCtorEq, Nat.reduceLT, Nat.reduceLeDiff, Nat.reduceAdd, Nat.reduceSub, Nat.reduceMul, Nat.reduceDiv, Int.reduceAdd, Int.reduceNeg, Int.reduceEq, Int.reduceLT, Int.reduceLE]
  unfold pathB
  rw [show ((List.range l.length).all fun i => pStep N es l i) = true from List.all_eq_true.2 fun i hi => hz i (List.mem_range.1 hi), Bool.and_true]
  congr 2
  rw [decide_eq_decide]; omega
end Go.Proofs.Ytoefhbfgmceikaa
set_option maxRecDepth 100000
set_option maxHeartbeats 4000000
namespace Go.Proofs.Ytoefhbfgmceikaa
open Go Go.Ga Go.Ga.Gl
theorem wown_ok (n : Int) (es : List (Int × Int)) (m : List Int) {a : Nat} (b : Int) (ha : a < m.length) : ACalls Try.prog [] n_walk_ways_own [.agg [.sc (.int .i64 n), .imm 2 (twos es), .imm 1 (ints m)], .sc (.int .i64 (a : Int)), .sc (.int .i64 b)] [] fun r h' => r = .sc (.bool (decide (m.getD a 0 = b))) ∧ h' = [] := by
  refine ACalls.trim ?_
  refine go_walk_ways_own rfl ?_
  unfold c_walk_ways_own v_walk_ways_own
  refine wlk_sreg fun KY hKY => ?_
  simp only [go_sem, reduceIte, Nat.reduceEqDiff, Nat.reduceBEq, reduceCtorEq, Nat.reduceLT, Nat.reduceLeDiff, Nat.reduceAdd, Nat.reduceSub, Nat.reduceMul, Nat.reduceDiv, Int.reduceAdd, Int.reduceNeg, Int.reduceEq, Int.reduceLT, Int.reduceLE, c_walk_ways_own_r0]
  refine hKY _ ?_
  refine wlk_sreg fun KY hKY => ?_
  simp only [go_sem, reduceIte, Nat.reduceEqDiff, Nat.reduceBEq, reduceCtorEq, Nat.reduceLT, Nat.reduceLeDiff, Nat.reduceAdd, Nat.reduceSub, Nat.reduceMul, Nat.reduceDiv, Int.reduceAdd, Int.reduceNeg, Int.reduceEq, Int.reduceLT, Int.reduceLE, c_walk_ways_own_r1, ints_get ha, ha, ints_len]
  refine hKY _ ?_
  refine wlk_ret ?_
  simp only [go_sem, reduceIte, Nat.reduceEqDiff, Nat.reduceBEq, reduceCtorEq, Nat.reduceLT, Nat.reduceLeDiff, Nat.reduceAdd, Nat.reduceSub, Nat.reduceMul, Nat.reduceDiv, Int.reduceAdd, Int.reduceNeg, Int.reduceEq, Int.reduceLT, Int.reduceLE]
def ownB (m : List Int) (a b : Int) : Bool := decide (m.getD a.toNat 0 = b)
def altS (m l : List Int) (i : Nat) : Bool := ownB m (l.getD (i - 2) 0) (l.getD (i - 1) 0) != ownB m (l.getD (i - 1) 0) (l.getD i 0)
def altB (N : Nat) (es : Es) (m l : List Int) : Bool := pathB N es l && (List.range l.length).all fun i => decide (i < 2) || altS m l i
theorem path_in {N : Nat} {es : Es} {l : List Int} (h : pathB N es l = true) {i : Nat} (hi : i < l.length) : ∃ a : Nat, l.getD i 0 = a ∧ a < N := by
  unfold pathB at h
  rw [Bool.and_eq_true, List.all_eq_true] at h
  have := h.2 i (List.mem_range.2 hi)
  unfold pStep at this
  rw [Bool.and_eq_true, Bool.and_eq_true, decide_eq_true_iff, decide_eq_true_iff] at this
  exact ⟨(l.getD i 0).toNat, by omega, by omega⟩
theorem altB_no {N : Nat} {es : Es} {m l : List Int} {k : Nat} (h : k < l.length) (h2 : 2 ≤ k) (hf : altS m l k = false) : altB N es m l = false := by
  unfold altB
  have : ((List.range l.length).all fun i => decide (i < 2) || altS m l i) = false := by
    rw [Bool.eq_false_iff]; intro h'
    rw [List.all_eq_true] at h'
    have := h' k (List.mem_range.2 h)
    rw [hf, decide_eq_false (by omega)] at this; cases this
  rw [this, Bool.and_false]
theorem walt_ok {N : Nat} {es : Es} (g : GR N es) (m : List Int) (hm : m.length = N) (l : List Int) (hl : l.length ≤ 1000000) : ACalls Try.prog [] n_walk_ways_alternates [.agg [.sc (.int .i64 (N : Int)), .imm 2 (twos (castE es)), .imm 1 (ints m)], .imm 1 (ints l)] [] fun r h' => r = .sc (.bool (altB N es m l)) ∧ h' = [] := by
  refine ACalls.trim ?_
  have hN := g.hn
  have hp := wpath_ok g (.imm 1 (ints m)) rfl l hl
  refine go_walk_ways_alternates rfl ?_
  unfold c_walk_ways_alternates v_walk_ways_alternates
  refine wlk_sreg fun KY hKY => ?_
  simp only [go_sem, reduceIte, Nat.reduceEqDiff, Nat.reduceBEq, reduceCtorEq, Nat.reduceLT, Nat.reduceLeDiff, Nat.reduceAdd, Nat.reduceSub, Nat.reduceMul, Nat.reduceDiv, Int.reduceAdd, Int.reduceNeg, Int.reduceEq, Int.reduceLT, Int.reduceLE, c_walk_ways_alternates_r0]
  refine hKY _ ?_
  refine wlk_seq fun X1 hn1 he1 hr1 => ?_
  cases hpb : pathB N es l with
  | false =>
    rw [hpb] at hp
    refine wlk_sreg fun KY hKY => ?_
    simp only [go_sem, reduceIte, Nat.reduceEqDiff, Nat.reduceBEq, reduceCtorEq, Nat.reduceLT, Nat.reduceLeDiff, Nat.reduceAdd, Nat.reduceSub, Nat.reduceMul, Nat.reduceDiv, Int.reduceAdd, Int.reduceNeg, Int.reduceEq, Int.reduceLT, Int.reduceLE, c_walk_ways_alternates_r1]
    refine call_view rfl (by simp only [go_sem, reduceIte, Nat.reduceEqDiff, Nat.reduceBEq, reduceCtorEq, Nat.reduceLT, Nat.reduceLeDiff, Nat.reduceAdd, Nat.reduceSub, Nat.reduceMul, Nat.reduceDiv, Int.reduceAdd, Int.reduceNeg, Int.reduceEq, Int.reduceLT, Int.reduceLE] <;> rfl) ((hp).mono ?_)
    rintro rr hh ⟨rfl, rfl⟩
    refine ⟨rfl, rfl, rfl, ?_⟩
    simp only [go_sem, reduceIte, Nat.reduceEqDiff, Nat.reduceBEq, reduceCtorEq, Nat.reduceLT, Nat.reduceLeDiff, Nat.reduceAdd, Nat.reduceSub, Nat.reduceMul, Nat.reduceDiv, Int.reduceAdd, Int.reduceNeg, Int.reduceEq, Int.reduceLT, Int.reduceLE]
    refine hKY _ ?_
    refine wlk_cond1 (by first | rfl | (simp only [go_sem, reduceIte, Nat.reduceEqDiff, Nat.reduceBEq, reduceCtorEq, Nat.reduceLT, Nat.reduceLeDiff, Nat.reduceAdd, Nat.reduceSub, Nat.reduceMul, Nat.reduceDiv, Int.reduceAdd, Int.reduceNeg, Int.reduceEq, Int.reduceLT, Int.reduceLE]; try simp (disch := omega) only [decide_eq_true, decide_eq_false])) ?_
    refine wlk_sreg fun KY hKY => ?_
    simp only [go_sem, reduceIte, Nat.reduceEqDiff, Nat.reduceBEq, reduceCtorEq, Nat.reduceLT, Nat.reduceLeDiff, Nat.reduceAdd, Nat.reduceSub, Nat.reduceMul, Nat.reduceDiv, Int.reduceAdd, Int.reduceNeg, Int.reduceEq, Int.reduceLT, Int.reduceLE, c_walk_ways_alternates_r2]
    refine hKY _ ?_
    refine wlk_ret ?_
    repeat (first | refine hr1 _ ?_)
    simp only [go_sem, reduceIte, Nat.reduceEqDiff, Nat.reduceBEq, reduceCtorEq, Nat.reduceLT, Nat.reduceLeDiff, Nat.reduceAdd, Nat.reduceSub, Nat.reduceMul, Nat.reduceDiv, Int.reduceAdd, Int.reduceNeg, Int.reduceEq, Int.reduceLT, Int.reduceLE]
    unfold altB; rw [hpb]; rfl
  | true =>
  rw [hpb] at hp
  refine wlk_sreg fun KY hKY => ?_
  simp only [go_sem, reduceIte, Nat.reduceEqDiff, Nat.reduceBEq, reduceCtorEq, Nat.reduceLT, Nat.reduceLeDiff, Nat.reduceAdd, Nat.reduceSub, Nat.reduceMul, Nat.reduceDiv, Int.reduceAdd, Int.reduceNeg, Int.reduceEq, Int.reduceLT, Int.reduceLE, c_walk_ways_alternates_r1]
  refine call_view rfl (by simp only [go_sem, reduceIte, Nat.reduceEqDiff, Nat.reduceBEq, reduceCtorEq, Nat.reduceLT, Nat.reduceLeDiff, Nat.reduceAdd, Nat.reduceSub, Nat.reduceMul, Nat.reduceDiv, Int.reduceAdd, Int.reduceNeg, Int.reduceEq, Int.reduceLT, Int.reduceLE] <;> rfl) ((hp).mono ?_)
  rintro rr hh ⟨rfl, rfl⟩
  refine ⟨rfl, rfl, rfl, ?_⟩
  simp only [go_sem, reduceIte, Nat.reduceEqDiff, Nat.reduceBEq, reduceCtorEq, Nat.reduceLT, Nat.reduceLeDiff, Nat.reduceAdd, Nat.reduceSub, Nat.reduceMul, Nat.reduceDiv, Int.reduceAdd, Int.reduceNeg, Int.reduceEq, Int.reduceLT, Int.reduceLE]
  refine hKY _ ?_
  refine wlk_cond0 (by first | rfl | (simp only [go_sem, reduceIte, Nat.reduceEqDiff, Nat.reduceBEq, reduceCtorEq, Nat.reduceLT, Nat.reduceLeDiff, Nat.reduceAdd, Nat.reduceSub, Nat.reduceMul, Nat.reduceDiv, Int.reduceAdd, Int.reduceNeg, Int.reduceEq, Int.reduceLT, Int.reduceLE]; try simp (disch := omega) only [decide_eq_true, decide_eq_false])) ?_
  refine wlk_skip ?_
  repeat (first | refine hn1 _ ?_ | refine he1 _ _ ?_)
  refine wlk_sreg fun KY hKY => ?_
  simp only [go_sem, reduceIte, Nat.reduceEqDiff, Nat.reduceBEq, reduceCtorEq, Nat.reduceLT, Nat.reduceLeDiff, Nat.reduceAdd, Nat.reduceSub, Nat.reduceMul, Nat.reduceDiv, Int.reduceAdd, Int.reduceNeg, Int.reduceEq, Int.reduceLT, Int.reduceLE, c_walk_ways_alternates_r3]
  refine hKY _ ?_
  refine wlk_seq fun X2 hn2 he2 hr2 => ?_
  refine wlk_sreg fun KY hKY => ?_
  simp only [go_sem, reduceIte, Nat.reduceEqDiff, Nat.reduceBEq, reduceCtorEq, Nat.reduceLT, Nat.reduceLeDiff, Nat.reduceAdd, Nat.reduceSub, Nat.reduceMul, Nat.reduceDiv, Int.reduceAdd, Int.reduceNeg, Int.reduceEq, Int.reduceLT, Int.reduceLE, c_walk_ways_alternates_r4]
  refine hKY _ ?_
  refine wlk_blk fun X3 hn3 he3 hf3 hr3 => ?_
  try simp only [go_sem, reduceIte, Nat.reduceEqDiff, Nat.reduceBEq, reduceCtorEq, Nat.reduceLT, Nat.reduceLeDiff, Nat.reduceAdd, Nat.reduceSub, Nat.reduceMul, Nat.reduceDiv, Int.reduceAdd, Int.reduceNeg, Int.reduceEq, Int.reduceLT, Int.reduceLE]
  refine wlk_lp (α := Nat) [16, 42] (fun k => [(6, .sc (.int .i64 ((k + 2 : Nat) : Int)))]) (fun k => []) (fun k q => q = l.length - k ∧ (∀ i, i < k + 2 → i < l.length → (decide (i < 2) || altS m l i) = true)) (0) (l.length) rfl (by first | (simp only [go_sem, reduceIte, Nat.reduceEqDiff, Nat.reduceBEq, reduceCtorEq, Nat.reduceLT, Nat.reduceLeDiff, Nat.reduceAdd, Nat.reduceSub, Nat.reduceMul, Nat.reduceDiv, Int.reduceAdd, Int.reduceNeg, Int.reduceEq, Int.reduceLT, Int.reduceLE, updAll_cons, updAll_nil]; done) | with_reducible rfl | rfl) (⟨rfl, fun i h _ => by rw [decide_eq_true (by omega)]; rfl⟩) ?_
  rintro k q ⟨rfl, hz⟩ X4 hn4 he4 hr4
  simp only [go_sem, reduceIte, Nat.reduceEqDiff, Nat.reduceBEq, reduceCtorEq, Nat.reduceLT, Nat.reduceLeDiff, Nat.reduceAdd, Nat.reduceSub, Nat.reduceMul, Nat.reduceDiv, Int.reduceAdd, Int.reduceNeg, Int.reduceEq, Int.reduceLT, Int.reduceLE, updAll_cons, updAll_nil]
  refine wlk_seq fun X5 hn5 he5 hr5 => ?_
  rcases Nat.lt_or_ge (k + 2) l.length with hk2 | hk2
  · have hdy : decide (((k + 2 : Nat) : Int) < (l.length : Int)) = true := decide_eq_true (by omega)
    refine wlk_sreg fun KY hKY => ?_
    simp only [go_sem, reduceIte, Nat.reduceEqDiff, Nat.reduceBEq, reduceCtorEq, Nat.reduceLT, Nat.reduceLeDiff, Nat.reduceAdd, Nat.reduceSub, Nat.reduceMul, Nat.reduceDiv, Int.reduceAdd, Int.reduceNeg, Int.reduceEq, Int.reduceLT, Int.reduceLE, c_walk_ways_alternates_r5, ints_len, hdy]
    refine hKY _ ?_
    refine wlk_cond1 (by first | rfl | (simp only [go_sem, reduceIte, Nat.reduceEqDiff, Nat.reduceBEq, reduceCtorEq, Nat.reduceLT, Nat.reduceLeDiff, Nat.reduceAdd, Nat.reduceSub, Nat.reduceMul, Nat.reduceDiv, Int.reduceAdd, Int.reduceNeg, Int.reduceEq, Int.reduceLT, Int.reduceLE]; try simp (disch := omega) only [decide_eq_true, decide_eq_false])) ?_
    refine wlk_skip ?_
    repeat (first | refine hn5 _ ?_ | refine he5 _ _ ?_ | refine he4 _ _ ?_ | refine hn3 _ ?_ | refine he3 _ ?_ | refine hf3 _ _ (by decide) ?_ | refine hn2 _ ?_ | refine he2 _ _ ?_ | refine hn1 _ ?_ | refine he1 _ _ ?_)
    refine wlk_seq fun X6 hn6 he6 hr6 => ?_
    refine wlk_blk fun X7 hn7 he7 hf7 hr7 => ?_
    have hk0 : k < l.length := by omega
    have hk1 : k + 1 < l.length := by omega
    obtain ⟨a, ha, haN⟩ := path_in hpb hk0
    obtain ⟨b, hb, hbN⟩ := path_in hpb hk1
    have hd2 : IntKind.i64.wrap (((k + 2 : Nat) : Int) - 2) = (k : Int) := by rw [IntWalk.i64_in _ (by omega)]; omega
    have hd1 : IntKind.i64.wrap (((k + 2 : Nat) : Int) - 1) = ((k + 1 : Nat) : Int) := by rw [IntWalk.i64_in _ (by omega)]; omega
    have hga : (ints l)[k]? = some (.sc (.int .i64 (a : Int))) := by rw [ints_get hk0, ha]
    have hgb : (ints l)[k + 1]? = some (.sc (.int .i64 (b : Int))) := by rw [ints_get hk1, hb]
    have hA : altS m l (k + 2) = (decide (m.getD a 0 = (b : Int)) != decide (m.getD b 0 = l.getD (k + 2) 0)) := by
      unfold altS ownB
      rw [show k + 2 - 2 = k by omega, show k + 2 - 1 = k + 1 by omega, ha, hb]; rfl
    refine wlk_sdraw fun KY hKY => ?_
    simp only [go_sem, reduceIte, Nat.reduceEqDiff, Nat.reduceBEq, reduceCtorEq, Nat.reduceLT, Nat.reduceLeDiff, Nat.reduceAdd, Nat.reduceSub, Nat.reduceMul, Nat.reduceDiv, Int.reduceAdd, Int.reduceNeg, Int.reduceEq, Int.reduceLT, Int.reduceLE, c_walk_ways_alternates_r6, hd2, hd1, hga, hgb, ints_get hk2, hk0, hk1, hk2, ints_len]
    refine call_view rfl (by simp only [go_sem, reduceIte, Nat.reduceEqDiff, Nat.reduceBEq, reduceCtorEq, Nat.reduceLT, Nat.reduceLeDiff, Nat.reduceAdd, Nat.reduceSub, Nat.reduceMul, Nat.reduceDiv, Int.reduceAdd, Int.reduceNeg, Int.reduceEq, Int.reduceLT, Int.reduceLE] <;> rfl) ((wown_ok N (castE es) m (b : Int) (show a < m.length by omega)).mono ?_)
    rintro rr hh ⟨rfl, rfl⟩
    refine ⟨rfl, rfl, rfl, ?_⟩
    simp only [go_sem, reduceIte, Nat.reduceEqDiff, Nat.reduceBEq, reduceCtorEq, Nat.reduceLT, Nat.reduceLeDiff, Nat.reduceAdd, Nat.reduceSub, Nat.reduceMul, Nat.reduceDiv, Int.reduceAdd, Int.reduceNeg, Int.reduceEq, Int.reduceLT, Int.reduceLE]
    refine call_view rfl (by simp only [go_sem, reduceIte, Nat.reduceEqDiff, Nat.reduceBEq, reduceCtorEq, Nat.reduceLT, Nat.reduceLeDiff, Nat.reduceAdd, Nat.reduceSub, Nat.reduceMul, Nat.reduceDiv, Int.reduceAdd, Int.reduceNeg, Int.reduceEq, Int.reduceLT, Int.reduceLE] <;> rfl) ((wown_ok N (castE es) m (l.getD (k + 2) 0) (show b < m.length by omega)).mono ?_)
    rintro rr hh ⟨rfl, rfl⟩
    refine ⟨rfl, rfl, rfl, ?_⟩
    cases hx : (decide (m.getD a 0 = (b : Int)) == decide (m.getD b 0 = l.getD (k + 2) 0)) with
    | true =>
      have hno : altS m l (k + 2) = false := by rw [hA, bne, hx]; rfl
      simp only [go_sem, reduceIte, Nat.reduceEqDiff, Nat.reduceBEq, reduceCtorEq, Nat.reduceLT, Nat.reduceLeDiff, Nat.reduceAdd, Nat.reduceSub, Nat.reduceMul, Nat.reduceDiv, Int.reduceAdd, Int.reduceNeg, Int.reduceEq, Int.reduceLT, Int.reduceLE, hx]
      refine hKY _ ?_
      refine wlk_cond1 (by first | rfl | (simp only [go_sem, reduceIte, Nat.reduceEqDiff, Nat.reduceBEq, reduceCtorEq, Nat.reduceLT, Nat.reduceLeDiff, Nat.reduceAdd, Nat.reduceSub, Nat.reduceMul, Nat.reduceDiv, Int.reduceAdd, Int.reduceNeg, Int.reduceEq, Int.reduceLT, Int.reduceLE]; try simp (disch := omega) only [decide_eq_true, decide_eq_false])) ?_
      refine wlk_sreg fun KY hKY => ?_
      simp only [go_sem, reduceIte, Nat.reduceEqDiff, Nat.reduceBEq, reduceCtorEq, Nat.reduceLT, Nat.reduceLeDiff, Nat.reduceAdd, Nat.reduceSub, Nat.reduceMul, Nat.reduceDiv, Int.reduceAdd, Int.reduceNeg, Int.reduceEq, Int.reduceLT, Int.reduceLE, c_walk_ways_alternates_r7]
      refine hKY _ ?_
      refine wlk_ret ?_
      repeat (first | refine hr7 _ ?_ | refine hr6 _ ?_ | refine hr5 _ ?_ | refine hr4 _ ?_ | refine hr3 _ ?_ | refine hr2 _ ?_ | refine hr1 _ ?_)
      simp only [go_sem, reduceIte, Nat.reduceEqDiff, Nat.reduceBEq, reduceCtorEq, Nat.reduceLT, Nat.reduceLeDiff, Nat.reduceAdd, Nat.reduceSub, Nat.reduceMul, Nat.reduceDiv, Int.reduceAdd, Int.reduceNeg, Int.reduceEq, Int.reduceLT, Int.reduceLE]
      rw [altB_no hk2 (by omega) hno]
    | false =>
      have hyes : altS m l (k + 2) = true := by rw [hA, bne, hx]; rfl
      simp only [go_sem, reduceIte, Nat.reduceEqDiff, Nat.reduceBEq, reduceCtorEq, Nat.reduceLT, Nat.reduceLeDiff, Nat.reduceAdd, Nat.reduceSub, Nat.reduceMul, Nat.reduceDiv, Int.reduceAdd, Int.reduceNeg, Int.reduceEq, Int.reduceLT, Int.reduceLE, hx]
      refine hKY _ ?_
      refine wlk_cond0 (by first | rfl | (simp only [go_sem, reduceIte, Nat.reduceEqDiff, Nat.reduceBEq, reduceCtorEq, Nat.reduceLT, Nat.reduceLeDiff, Nat.reduceAdd, Nat.reduceSub, Nat.reduceMul, Nat.reduceDiv, Int.reduceAdd, Int.reduceNeg, Int.reduceEq, Int.reduceLT, Int.reduceLE]; try simp (disch := omega) only [decide_eq_true, decide_eq_false])) ?_
      refine wlk_skip ?_
      repeat (first | refine hn7 _ ?_ | refine he7 _ ?_ | refine hf7 _ _ (by decide) ?_ | refine hn6 _ ?_ | refine he6 _ _ ?_ | refine hn5 _ ?_ | refine he5 _ _ ?_ | refine he4 _ _ ?_ | refine hn3 _ ?_ | refine he3 _ ?_ | refine hf3 _ _ (by decide) ?_ | refine hn2 _ ?_ | refine he2 _ _ ?_ | refine hn1 _ ?_ | refine he1 _ _ ?_)
      refine wlk_reg fun KY hKY => ?_
      simp only [go_sem, reduceIte, Nat.reduceEqDiff, Nat.reduceBEq, reduceCtorEq, Nat.reduceLT, Nat.reduceLeDiff, Nat.reduceAdd, Nat.reduceSub, Nat.reduceMul, Nat.reduceDiv, Int.reduceAdd, Int.reduceNeg, Int.reduceEq, Int.reduceLT, Int.reduceLE, c_walk_ways_alternates_r8, incS (show k + 2 < 4611686018427387904 by omega)]
      refine hKY _ ?_
      repeat (first | refine hn7 _ ?_ | refine he7 _ ?_ | refine hf7 _ _ (by decide) ?_ | refine hn6 _ ?_ | refine he6 _ _ ?_ | refine hn5 _ ?_ | refine he5 _ _ ?_)
      refine hn4 _ (k + 1) (l.length - (k + 1)) (by omega) (by first | (simp only [go_sem, reduceIte, Nat.reduceEqDiff, Nat.reduceBEq, reduceCtorEq, Nat.reduceLT, Nat.reduceLeDiff, Nat.reduceAdd, Nat.reduceSub, Nat.reduceMul, Nat.reduceDiv, Int.reduceAdd, Int.reduceNeg, Int.reduceEq, Int.reduceLT, Int.reduceLE, updAll_cons, updAll_nil, (show k + 1 + 2 = k + 2 + 1 from rfl)]; done) | with_reducible rfl) ?_
      refine ⟨rfl, fun i hi hil => ?_⟩
      rcases Nat.lt_or_ge i (k + 2) with h3 | h3
      · exact hz i h3 hil
      · obtain rfl : i = k + 2 := by omega
        rw [hyes, Bool.or_true]
  have hdx : decide (((k + 2 : Nat) : Int) < (l.length : Int)) = false := decide_eq_false (by omega)
  refine wlk_sreg fun KY hKY => ?_
  simp only [go_sem, reduceIte, Nat.reduceEqDiff, Nat.reduceBEq, reduceCtorEq, Nat.reduceLT, Nat.reduceLeDiff, Nat.reduceAdd, Nat.reduceSub, Nat.reduceMul, Nat.reduceDiv, Int.reduceAdd, Int.reduceNeg, Int.reduceEq, Int.reduceLT, Int.reduceLE, c_walk_ways_alternates_r5, ints_len, hdx]
  refine hKY _ ?_
  refine wlk_cond0 (by first | rfl | (simp only [go_sem, reduceIte, Nat.reduceEqDiff, Nat.reduceBEq, reduceCtorEq, Nat.reduceLT, Nat.reduceLeDiff, Nat.reduceAdd, Nat.reduceSub, Nat.reduceMul, Nat.reduceDiv, Int.reduceAdd, Int.reduceNeg, Int.reduceEq, Int.reduceLT, Int.reduceLE]; try simp (disch := omega) only [decide_eq_true, decide_eq_false])) ?_
  refine wlk_exit ?_
  repeat (first | refine hn5 _ ?_ | refine he5 _ _ ?_ | refine he4 _ _ ?_ | refine hn3 _ ?_ | refine he3 _ ?_ | refine hf3 _ _ (by decide) ?_ | refine hn2 _ ?_ | refine he2 _ _ ?_ | refine hn1 _ ?_ | refine he1 _ _ ?_)
  refine wlk_sreg fun KY hKY => ?_
  simp only [go_sem, reduceIte, Nat.reduceEqDiff, Nat.reduceBEq, reduceCtorEq, Nat.reduceLT, Nat.reduceLeDiff, Nat.reduceAdd, Nat.reduceSub, Nat.reduceMul, Nat.reduceDiv, Int.reduceAdd, Int.reduceNeg, Int.reduceEq, Int.reduceLT, Int.reduceLE, c_walk_ways_alternates_r9]
  refine hKY _ ?_
  refine wlk_ret ?_
  repeat (first | refine hr5 _ ?_ | refine hr4 _ ?_ | refine hr3 _ ?_ | refine hr2 _ ?_ | refine hr1 _ ?_)
  simp only [go_sem, reduceIte, Nat.reduceEqDiff, Nat.reduceBEq, reduceCtorEq, Nat.reduceLT, Nat.reduceLeDiff, Nat.reduceAdd, Nat.reduceSub, Nat.reduceMul, Nat.reduceDiv, Int.reduceAdd, Int.reduceNeg, Int.reduceEq, Int.reduceLT, Int.reduceLE]
  unfold altB
  rw [hpb, Bool.true_and, show ((List.range l.length).all fun i => decide (i < 2) || altS m l i) = true from List.all_eq_true.2 fun i hi => hz i (by have := List.mem_range.1 hi; omega) (List.mem_range.1 hi)]
def augB (N : Nat) (es : Es) (m l : List Int) : Bool := decide (2 ≤ l.length) && (altB N es m l && (decide (m.getD (l.getD 0 0).toNat 0 < 0) && decide (m.getD (l.getD (l.length - 1) 0).toNat 0 < 0)))
theorem waug_ok {N : Nat} {es : Es} (g : GR N es) (m : List Int) (hm : m.length = N) (l : List Int) (hl : l.length ≤ 1000000) : ACalls Try.prog [] n_walk_ways_augments [.agg [.sc (.int .i64 (N : Int)), .imm 2 (twos (castE es)), .imm 1 (ints m)], .imm 1 (ints l)] [] fun r h' => r = .sc (.bool (augB N es m l)) ∧ h' = [] := by
  refine ACalls.trim ?_
  have hp := walt_ok g m hm l hl
  refine go_walk_ways_augments rfl ?_
  unfold c_walk_ways_augments v_walk_ways_augments
  refine wlk_sreg fun KY hKY => ?_
  simp only [go_sem, reduceIte, Nat.reduceEqDiff, Nat.reduceBEq, reduceCtorEq, Nat.reduceLT, Nat.reduceLeDiff, Nat.reduceAdd, Nat.reduceSub, Nat.reduceMul, Nat.reduceDiv, Int.reduceAdd, Int.reduceNeg, Int.reduceEq, Int.reduceLT, Int.reduceLE, c_walk_ways_augments_r0]
  refine hKY _ ?_
  unfold augB
  by_cases h2 : 2 ≤ l.length
  · have d2 : decide ((2 : Int) ≤ (l.length : Int)) = true := decide_eq_true (by omega)
    rw [decide_eq_true h2, Bool.true_and]
    cases ha : altB N es m l with
    | false =>
      rw [ha] at hp
      refine wlk_sdraw fun KY hKY => ?_
      simp only [go_sem, reduceIte, Nat.reduceEqDiff, Nat.reduceBEq, reduceCtorEq, Nat.reduceLT, Nat.reduceLeDiff, Nat.reduceAdd, Nat.reduceSub, Nat.reduceMul, Nat.reduceDiv, Int.reduceAdd, Int.reduceNeg, Int.reduceEq, Int.reduceLT, Int.reduceLE, c_walk_ways_augments_r1, ints_len, ge_iff_le, d2]
      refine call_view rfl (by simp only [go_sem, reduceIte, Nat.reduceEqDiff, Nat.reduceBEq, reduceCtorEq, Nat.reduceLT, Nat.reduceLeDiff, Nat.reduceAdd, Nat.reduceSub, Nat.reduceMul, Nat.reduceDiv, Int.reduceAdd, Int.reduceNeg, Int.reduceEq, Int.reduceLT, Int.reduceLE] <;> rfl) ((hp).mono ?_)
      rintro rr hh ⟨rfl, rfl⟩
      refine ⟨rfl, rfl, rfl, ?_⟩
      simp only [go_sem, reduceIte, Nat.reduceEqDiff, Nat.reduceBEq, reduceCtorEq, Nat.reduceLT, Nat.reduceLeDiff, Nat.reduceAdd, Nat.reduceSub, Nat.reduceMul, Nat.reduceDiv, Int.reduceAdd, Int.reduceNeg, Int.reduceEq, Int.reduceLT, Int.reduceLE]
      refine hKY _ ?_
      refine wlk_ret ?_
      simp only [go_sem, reduceIte, Nat.reduceEqDiff, Nat.reduceBEq, reduceCtorEq, Nat.reduceLT, Nat.reduceLeDiff, Nat.reduceAdd, Nat.reduceSub, Nat.reduceMul, Nat.reduceDiv, Int.reduceAdd, Int.reduceNeg, Int.reduceEq, Int.reduceLT, Int.reduceLE]
    | true =>
      rw [ha] at hp
      have hpb : pathB N es l = true := by unfold altB at ha; rw [Bool.and_eq_true] at ha; exact ha.1
      have h0 : 0 < l.length := by omega
      have hl1 : l.length - 1 < l.length := by omega
      obtain ⟨a, hla, haN⟩ := path_in hpb h0
      obtain ⟨b, hlb, hbN⟩ := path_in hpb hl1
      have hga : (ints l)[0]? = some (.sc (.int .i64 (a : Int))) := by rw [ints_get h0, hla]
      have hgb : (ints l)[l.length - 1]? = some (.sc (.int .i64 (b : Int))) := by rw [ints_get hl1, hlb]
      have hd1 : IntKind.i64.wrap ((l.length : Int) - 1) = ((l.length - 1 : Nat) : Int) := by rw [IntWalk.i64_in _ (by omega)]; omega
      rw [hla, hlb]
      have ea : m.getD (a : Int).toNat 0 = m.getD a 0 := rfl
      have eb : m.getD (b : Int).toNat 0 = m.getD b 0 := rfl
      rw [ea, eb]
      by_cases h1 : m.getD a 0 < 0
      · have d1 : decide (m.getD a 0 < 0) = true := decide_eq_true h1
        refine wlk_sdraw fun KY hKY => ?_
        simp only [go_sem, reduceIte, Nat.reduceEqDiff, Nat.reduceBEq, reduceCtorEq, Nat.reduceLT, Nat.reduceLeDiff, Nat.reduceAdd, Nat.reduceSub, Nat.reduceMul, Nat.reduceDiv, Int.reduceAdd, Int.reduceNeg, Int.reduceEq, Int.reduceLT, Int.reduceLE, c_walk_ways_augments_r1, ints_len, ge_iff_le, d2]
        refine call_view rfl (by simp only [go_sem, reduceIte, Nat.reduceEqDiff, Nat.reduceBEq, reduceCtorEq, Nat.reduceLT, Nat.reduceLeDiff, Nat.reduceAdd, Nat.reduceSub, Nat.reduceMul, Nat.reduceDiv, Int.reduceAdd, Int.reduceNeg, Int.reduceEq, Int.reduceLT, Int.reduceLE] <;> rfl) ((hp).mono ?_)
        rintro rr hh ⟨rfl, rfl⟩
        refine ⟨rfl, rfl, rfl, ?_⟩
        simp only [go_sem, reduceIte, Nat.reduceEqDiff, Nat.reduceBEq, reduceCtorEq, Nat.reduceLT, Nat.reduceLeDiff, Nat.reduceAdd, Nat.reduceSub, Nat.reduceMul, Nat.reduceDiv, Int.reduceAdd, Int.reduceNeg, Int.reduceEq, Int.reduceLT, Int.reduceLE, hga, h0, ints_len, ints_get (show a < m.length by omega), (show a < m.length by omega), d1, hd1, hgb, hl1, ints_get (show b < m.length by omega), (show b < m.length by omega)]
        refine hKY _ ?_
        refine wlk_ret ?_
        simp only [go_sem, reduceIte, Nat.reduceEqDiff, Nat.reduceBEq, reduceCtorEq, Nat.reduceLT, Nat.reduceLeDiff, Nat.reduceAdd, Nat.reduceSub, Nat.reduceMul, Nat.reduceDiv, Int.reduceAdd, Int.reduceNeg, Int.reduceEq, Int.reduceLT, Int.reduceLE]
        rw [d1]; rfl
      · have d1 : decide (m.getD a 0 < 0) = false := decide_eq_false h1
        refine wlk_sdraw fun KY hKY => ?_
        simp only [go_sem, reduceIte, Nat.reduceEqDiff, Nat.reduceBEq, reduceCtorEq, Nat.reduceLT, Nat.reduceLeDiff, Nat.reduceAdd, Nat.reduceSub, Nat.reduceMul, Nat.reduceDiv, Int.reduceAdd, Int.reduceNeg, Int.reduceEq, Int.reduceLT, Int.reduceLE, c_walk_ways_augments_r1, ints_len, ge_iff_le, d2]
        refine call_view rfl (by simp only [go_sem, reduceIte, Nat.reduceEqDiff, Nat.reduceBEq, reduceCtorEq, Nat.reduceLT, Nat.reduceLeDiff, Nat.reduceAdd, Nat.reduceSub, Nat.reduceMul, Nat.reduceDiv, Int.reduceAdd, Int.reduceNeg, Int.reduceEq, Int.reduceLT, Int.reduceLE] <;> rfl) ((hp).mono ?_)
        rintro rr hh ⟨rfl, rfl⟩
        refine ⟨rfl, rfl, rfl, ?_⟩
        simp only [go_sem, reduceIte, Nat.reduceEqDiff, Nat.reduceBEq, reduceCtorEq, Nat.reduceLT, Nat.reduceLeDiff, Nat.reduceAdd, Nat.reduceSub, Nat.reduceMul, Nat.reduceDiv, Int.reduceAdd, Int.reduceNeg, Int.reduceEq, Int.reduceLT, Int.reduceLE, hga, h0, ints_len, ints_get (show a < m.length by omega), (show a < m.length by omega), d1]
        refine hKY _ ?_
        refine wlk_ret ?_
        simp only [go_sem, reduceIte, Nat.reduceEqDiff, Nat.reduceBEq, reduceCtorEq, Nat.reduceLT, Nat.reduceLeDiff, Nat.reduceAdd, Nat.reduceSub, Nat.reduceMul, Nat.reduceDiv, Int.reduceAdd, Int.reduceNeg, Int.reduceEq, Int.reduceLT, Int.reduceLE]
        rw [d1]; rfl
  · have d2 : decide ((2 : Int) ≤ (l.length : Int)) = false := decide_eq_false (by omega)
    rw [decide_eq_false h2]
    refine wlk_sdraw fun KY hKY => ?_
    simp only [go_sem, reduceIte, Nat.reduceEqDiff, Nat.reduceBEq, reduceCtorEq, Nat.reduceLT, Nat.reduceLeDiff, Nat.reduceAdd, Nat.reduceSub, Nat.reduceMul, Nat.reduceDiv, Int.reduceAdd, Int.reduceNeg, Int.reduceEq, Int.reduceLT, Int.reduceLE, c_walk_ways_augments_r1, ints_len, ge_iff_le, d2]
    refine hKY _ ?_
    refine wlk_ret ?_
    simp only [go_sem, reduceIte, Nat.reduceEqDiff, Nat.reduceBEq, reduceCtorEq, Nat.reduceLT, Nat.reduceLeDiff, Nat.reduceAdd, Nat.reduceSub, Nat.reduceMul, Nat.reduceDiv, Int.reduceAdd, Int.reduceNeg, Int.reduceEq, Int.reduceLT, Int.reduceLE]
end Go.Proofs.Ytoefhbfgmceikaa
set_option maxRecDepth 100000
set_option maxHeartbeats 4000000
namespace Go.Proofs.Ytoefhbfgmceikaa
open Go Go.Ga Go.Ga.Gl
def bErr (n : Int) (es : List (Int × Int)) (b : List Int) : Int := bif rightB n es then (bif b.all (fun v => decide (0 ≤ v) && decide (v < n)) then (bif decide b.Nodup then 0 else 6) else 4) else 3
def BP (n : Int) (es : List (Int × Int)) (b : List Int) (x e : Int) : Prop := (bErr n es b ≠ 0 ∧ x = 0 ∧ e = bErr n es b) ∨ (bErr n es b = 0 ∧ ∃ ps, PsOf n es b ps ∧ x = (oddCount ps : Int) - b.length ∧ e = 0)
theorem BP.unique {n : Int} {es : List (Int × Int)} {b : List Int} {x e y f : Int} (h : BP n es b x e) (h' : BP n es b y f) : x = y ∧ e = f := by
  rcases h with ⟨h1, rfl, rfl⟩ | ⟨h1, ps, hp, rfl, rfl⟩
  · rcases h' with ⟨_, rfl, rfl⟩ | ⟨h2, _⟩
    · exact ⟨rfl, rfl⟩
    · exact absurd h2 h1
  · rcases h' with ⟨h2, _⟩ | ⟨_, qs, hq, rfl, rfl⟩
    · exact absurd h1 h2
    · obtain rfl := hp.unique hq; exact ⟨rfl, rfl⟩
end Go.Proofs.Ytoefhbfgmceikaa
set_option maxRecDepth 100000
set_option maxHeartbeats 4000000
namespace Go.Proofs.Ytoefhbfgmceikaa
open Go Go.Ga Go.Ga.Gl
end Go.Proofs.Ytoefhbfgmceikaa
set_option maxRecDepth 100000
set_option maxHeartbeats 4000000
namespace Go.Proofs.Ytoefhbfgmceikaa
open Go Go.Ga Go.Ga.Gl
theorem mateB_yes {N : Nat} {es : Es} (g : GR N es) {m : List Int} (h : m.length = N) : mateB N (castE es) m = (List.range N).all fun v => mOk es m v := by
  unfold mateB mOk
  rw [rightB_GR g, decide_eq_true (show (m.length : Int) = (N : Int) by omega), h]; rfl
theorem mright_ok (n : Int) (es : List (Int × Int)) (m : List Int) : ACalls Try.prog [] n_mates_Right [.agg [.sc (.int .i64 n), .imm 2 (twos es)], .imm 1 (ints m)] [] fun r h' => r = .sc (.bool (mateB n es m)) ∧ h' = [] := by
  cases h : (rightB n es && decide ((m.length : Int) = n)) with
  | false =>
    have : mateB n es m = false := by unfold mateB; rw [h]; rfl
    rw [this]; exact mright_no n es m h
  | true =>
    rw [Bool.and_eq_true, decide_eq_true_iff] at h
    obtain ⟨N, es', rfl, rfl, g⟩ := right_nat h.1
    rw [mateB_yes g (show m.length = N by omega)]
    exact mright_yes g m (by omega)
theorem mateB_len {n : Int} {es : List (Int × Int)} {m : List Int} (h : mateB n es m = true) : rightB n es = true ∧ (m.length : Int) = n := by
  unfold mateB at h
  rw [Bool.and_eq_true, Bool.and_eq_true, decide_eq_true_iff] at h
  exact h.1
theorem BP.bound {n : Int} {es : List (Int × Int)} {b : List Int} {x : Int} (h : BP n es b x 0) : - (b.length : Int) ≤ x ∧ x ≤ 4096 := by
  rcases h with ⟨h1, rfl, h2⟩ | ⟨_, ps, hp, rfl, _⟩
  · exact absurd h2.symm h1
  · have h1 := odd_le2 ps ps.length hp.len.1
    rw [List.take_length] at h1
    omega
end Go.Proofs.Ytoefhbfgmceikaa
set_option maxRecDepth 100000
set_option maxHeartbeats 4000000
namespace Go.Proofs.Ytoefhbfgmceikaa
open Go Go.Ga Go.Ga.Gl
theorem mate_cases {n : Int} {es : List (Int × Int)} {m : List Int} (h : mateB n es m = true) : ∃ (N : Nat) (es' : Es), n = N ∧ es = castE es' ∧ GR N es' ∧ m.length = N := by
  obtain ⟨h1, h2⟩ := mateB_len h
  obtain ⟨N, es', rfl, rfl, g⟩ := right_nat h1
  exact ⟨N, es', rfl, rfl, g, by omega⟩
def onM (n : Int) (es : List (Int × Int)) (m : List Int) (f : Nat → Es → Bool) (b : Bool) : Prop :=
  (mateB n es m = false ∧ b = false) ∨ (mateB n es m = true ∧ ∃ (N : Nat) (es' : Es), n = N ∧ es = castE es' ∧ b = f N es')
theorem onM_unique {n : Int} {es : List (Int × Int)} {m : List Int} {f : Nat → Es → Bool} {b c : Bool} (h : onM n es m f b) (h' : onM n es m f c) : b = c := by
  rcases h with ⟨h1, rfl⟩ | ⟨h1, N, e, rfl, rfl, rfl⟩
  · rcases h' with ⟨_, rfl⟩ | ⟨h2, _⟩
    · rfl
    · rw [h1] at h2; cases h2
  · rcases h' with ⟨h2, _⟩ | ⟨_, M, e', hN, he, rfl⟩
    · rw [h1] at h2; cases h2
    · obtain rfl : N = M := by omega
      obtain rfl := castE_inj he
      rfl
theorem walternates_ok (n : Int) (es : List (Int × Int)) (m l : List Int) (hl : l.length ≤ 1000000) : ACalls Try.prog [] n_walk_Alternates [.agg [.sc (.int .i64 n), .imm 2 (twos es)], .imm 1 (ints m), .imm 1 (ints l)] [] fun r h' => (∃ b, onM n es m (fun N e => altB N e m l) b ∧ r = .sc (.bool b)) ∧ h' = [] := by
  refine ACalls.trim ?_
  refine go_walk_Alternates rfl ?_
  unfold c_walk_Alternates v_walk_Alternates
  refine wlk_sreg fun KY hKY => ?_
  simp only [go_sem, reduceIte, Nat.reduceEqDiff, Nat.reduceBEq, reduceCtorEq, Nat.reduceLT, Nat.reduceLeDiff, Nat.reduceAdd, Nat.reduceSub, Nat.reduceMul, Nat.reduceDiv, Int.reduceAdd, Int.reduceNeg, Int.reduceEq, Int.reduceLT, Int.reduceLE, c_walk_Alternates_r0]
  refine hKY _ ?_
  cases hmb : mateB n es m with
  | false =>
    refine wlk_sreg fun KY hKY => ?_
    simp only [go_sem, reduceIte, Nat.reduceEqDiff, Nat.reduceBEq, reduceCtorEq, Nat.reduceLT, Nat.reduceLeDiff, Nat.reduceAdd, Nat.reduceSub, Nat.reduceMul, Nat.reduceDiv, Int.reduceAdd, Int.reduceNeg, Int.reduceEq, Int.reduceLT, Int.reduceLE, c_walk_Alternates_r1]
    refine call_view rfl (by simp only [go_sem, reduceIte, Nat.reduceEqDiff, Nat.reduceBEq, reduceCtorEq, Nat.reduceLT, Nat.reduceLeDiff, Nat.reduceAdd, Nat.reduceSub, Nat.reduceMul, Nat.reduceDiv, Int.reduceAdd, Int.reduceNeg, Int.reduceEq, Int.reduceLT, Int.reduceLE] <;> rfl) ((mright_ok n es m).mono ?_)
    rintro rr hh ⟨rfl, rfl⟩
    refine ⟨rfl, rfl, rfl, ?_⟩
    simp only [go_sem, reduceIte, Nat.reduceEqDiff, Nat.reduceBEq, reduceCtorEq, Nat.reduceLT, Nat.reduceLeDiff, Nat.reduceAdd, Nat.reduceSub, Nat.reduceMul, Nat.reduceDiv, Int.reduceAdd, Int.reduceNeg, Int.reduceEq, Int.reduceLT, Int.reduceLE, hmb]
    refine hKY _ ?_
    refine wlk_ret ?_
    simp only [go_sem, reduceIte, Nat.reduceEqDiff, Nat.reduceBEq, reduceCtorEq, Nat.reduceLT, Nat.reduceLeDiff, Nat.reduceAdd, Nat.reduceSub, Nat.reduceMul, Nat.reduceDiv, Int.reduceAdd, Int.reduceNeg, Int.reduceEq, Int.reduceLT, Int.reduceLE]
    exact ⟨false, .inl ⟨hmb, rfl⟩, rfl⟩
  | true =>
    obtain ⟨N, es', rfl, rfl, g, hm⟩ := mate_cases hmb
    refine wlk_sreg fun KY hKY => ?_
    simp only [go_sem, reduceIte, Nat.reduceEqDiff, Nat.reduceBEq, reduceCtorEq, Nat.reduceLT, Nat.reduceLeDiff, Nat.reduceAdd, Nat.reduceSub, Nat.reduceMul, Nat.reduceDiv, Int.reduceAdd, Int.reduceNeg, Int.reduceEq, Int.reduceLT, Int.reduceLE, c_walk_Alternates_r1]
    refine call_view rfl (by simp only [go_sem, reduceIte, Nat.reduceEqDiff, Nat.reduceBEq, reduceCtorEq, Nat.reduceLT, Nat.reduceLeDiff, Nat.reduceAdd, Nat.reduceSub, Nat.reduceMul, Nat.reduceDiv, Int.reduceAdd, Int.reduceNeg, Int.reduceEq, Int.reduceLT, Int.reduceLE] <;> rfl) ((mright_ok N (castE es') m).mono ?_)
    rintro rr hh ⟨rfl, rfl⟩
    refine ⟨rfl, rfl, rfl, ?_⟩
    simp only [go_sem, reduceIte, Nat.reduceEqDiff, Nat.reduceBEq, reduceCtorEq, Nat.reduceLT, Nat.reduceLeDiff, Nat.reduceAdd, Nat.reduceSub, Nat.reduceMul, Nat.reduceDiv, Int.reduceAdd, Int.reduceNeg, Int.reduceEq, Int.reduceLT, Int.reduceLE, hmb]
    refine call_view rfl (by simp only [go_sem, reduceIte, Nat.reduceEqDiff, Nat.reduceBEq, reduceCtorEq, Nat.reduceLT, Nat.reduceLeDiff, Nat.reduceAdd, Nat.reduceSub, Nat.reduceMul, Nat.reduceDiv, Int.reduceAdd, Int.reduceNeg, Int.reduceEq, Int.reduceLT, Int.reduceLE] <;> rfl) ((walt_ok g m hm l hl).mono ?_)
    rintro rr hh ⟨rfl, rfl⟩
    refine ⟨rfl, rfl, rfl, ?_⟩
    simp only [go_sem, reduceIte, Nat.reduceEqDiff, Nat.reduceBEq, reduceCtorEq, Nat.reduceLT, Nat.reduceLeDiff, Nat.reduceAdd, Nat.reduceSub, Nat.reduceMul, Nat.reduceDiv, Int.reduceAdd, Int.reduceNeg, Int.reduceEq, Int.reduceLT, Int.reduceLE]
    refine hKY _ ?_
    refine wlk_ret ?_
    simp only [go_sem, reduceIte, Nat.reduceEqDiff, Nat.reduceBEq, reduceCtorEq, Nat.reduceLT, Nat.reduceLeDiff, Nat.reduceAdd, Nat.reduceSub, Nat.reduceMul, Nat.reduceDiv, Int.reduceAdd, Int.reduceNeg, Int.reduceEq, Int.reduceLT, Int.reduceLE]
    exact ⟨_, .inr ⟨hmb, N, es', rfl, rfl, rfl⟩, rfl⟩
theorem waugments_ok (n : Int) (es : List (Int × Int)) (m l : List Int) (hl : l.length ≤ 1000000) : ACalls Try.prog [] n_walk_Augments [.agg [.sc (.int .i64 n), .imm 2 (twos es)], .imm 1 (ints m), .imm 1 (ints l)] [] fun r h' => (∃ b, onM n es m (fun N e => augB N e m l) b ∧ r = .sc (.bool b)) ∧ h' = [] := by
  refine ACalls.trim ?_
  refine go_walk_Augments rfl ?_
  unfold c_walk_Augments v_walk_Augments
  refine wlk_sreg fun KY hKY => ?_
  simp only [go_sem, reduceIte, Nat.reduceEqDiff, Nat.reduceBEq, reduceCtorEq, Nat.reduceLT, Nat.reduceLeDiff, Nat.reduceAdd, Nat.reduceSub, Nat.reduceMul, Nat.reduceDiv, Int.reduceAdd, Int.reduceNeg, Int.reduceEq, Int.reduceLT, Int.reduceLE, c_walk_Augments_r0]
  refine hKY _ ?_
  cases hmb : mateB n es m with
  | false =>
    refine wlk_sreg fun KY hKY => ?_
    simp only [go_sem, reduceIte, Nat.reduceEqDiff, Nat.reduceBEq, reduceCtorEq, Nat.reduceLT, Nat.reduceLeDiff, Nat.reduceAdd, Nat.reduceSub, Nat.reduceMul, Nat.reduceDiv, Int.reduceAdd, Int.reduceNeg, Int.reduceEq, Int.reduceLT, Int.reduceLE, c_walk_Augments_r1]
    refine call_view rfl (by simp only [go_sem, reduceIte, Nat.reduceEqDiff, Nat.reduceBEq, reduceCtorEq, Nat.reduceLT, Nat.reduceLeDiff, Nat.reduceAdd, Nat.reduceSub, Nat.reduceMul, Nat.reduceDiv, Int.reduceAdd, Int.reduceNeg, Int.reduceEq, Int.reduceLT, Int.reduceLE] <;> rfl) ((mright_ok n es m).mono ?_)
    rintro rr hh ⟨rfl, rfl⟩
    refine ⟨rfl, rfl, rfl, ?_⟩
    simp only [go_sem, reduceIte, Nat.reduceEqDiff, Nat.reduceBEq, reduceCtorEq, Nat.reduceLT, Nat.reduceLeDiff, Nat.reduceAdd, Nat.reduceSub, Nat.reduceMul, Nat.reduceDiv, Int.reduceAdd, Int.reduceNeg, Int.reduceEq, Int.reduceLT, Int.reduceLE, hmb]
    refine hKY _ ?_
    refine wlk_ret ?_
    simp only [go_sem, reduceIte, Nat.reduceEqDiff, Nat.reduceBEq, reduceCtorEq, Nat.reduceLT, Nat.reduceLeDiff, Nat.reduceAdd, Nat.reduceSub, Nat.reduceMul, Nat.reduceDiv, Int.reduceAdd, Int.reduceNeg, Int.reduceEq, Int.reduceLT, Int.reduceLE]
    exact ⟨false, .inl ⟨hmb, rfl⟩, rfl⟩
  | true =>
    obtain ⟨N, es', rfl, rfl, g, hm⟩ := mate_cases hmb
    refine wlk_sreg fun KY hKY => ?_
    simp only [go_sem, reduceIte, Nat.reduceEqDiff, Nat.reduceBEq, reduceCtorEq, Nat.reduceLT, Nat.reduceLeDiff, Nat.reduceAdd, Nat.reduceSub, Nat.reduceMul, Nat.reduceDiv, Int.reduceAdd, Int.reduceNeg, Int.reduceEq, Int.reduceLT, Int.reduceLE, c_walk_Augments_r1]
    refine call_view rfl (by simp only [go_sem, reduceIte, Nat.reduceEqDiff, Nat.reduceBEq, reduceCtorEq, Nat.reduceLT, Nat.reduceLeDiff, Nat.reduceAdd, Nat.reduceSub, Nat.reduceMul, Nat.reduceDiv, Int.reduceAdd, Int.reduceNeg, Int.reduceEq, Int.reduceLT, Int.reduceLE] <;> rfl) ((mright_ok N (castE es') m).mono ?_)
    rintro rr hh ⟨rfl, rfl⟩
    refine ⟨rfl, rfl, rfl, ?_⟩
    simp only [go_sem, reduceIte, Nat.reduceEqDiff, Nat.reduceBEq, reduceCtorEq, Nat.reduceLT, Nat.reduceLeDiff, Nat.reduceAdd, Nat.reduceSub, Nat.reduceMul, Nat.reduceDiv, Int.reduceAdd, Int.reduceNeg, Int.reduceEq, Int.reduceLT, Int.reduceLE, hmb]
    refine call_view rfl (by simp only [go_sem, reduceIte, Nat.reduceEqDiff, Nat.reduceBEq, reduceCtorEq, Nat.reduceLT, Nat.reduceLeDiff, Nat.reduceAdd, Nat.reduceSub, Nat.reduceMul, Nat.reduceDiv, Int.reduceAdd, Int.reduceNeg, Int.reduceEq, Int.reduceLT, Int.reduceLE] <;> rfl) ((waug_ok g m hm l hl).mono ?_)
    rintro rr hh ⟨rfl, rfl⟩
    refine ⟨rfl, rfl, rfl, ?_⟩
    simp only [go_sem, reduceIte, Nat.reduceEqDiff, Nat.reduceBEq, reduceCtorEq, Nat.reduceLT, Nat.reduceLeDiff, Nat.reduceAdd, Nat.reduceSub, Nat.reduceMul, Nat.reduceDiv, Int.reduceAdd, Int.reduceNeg, Int.reduceEq, Int.reduceLT, Int.reduceLE]
    refine hKY _ ?_
    refine wlk_ret ?_
    simp only [go_sem, reduceIte, Nat.reduceEqDiff, Nat.reduceBEq, reduceCtorEq, Nat.reduceLT, Nat.reduceLeDiff, Nat.reduceAdd, Nat.reduceSub, Nat.reduceMul, Nat.reduceDiv, Int.reduceAdd, Int.reduceNeg, Int.reduceEq, Int.reduceLT, Int.reduceLE]
    exact ⟨_, .inr ⟨hmb, N, es', rfl, rfl, rfl⟩, rfl⟩
end Go.Proofs.Ytoefhbfgmceikaa
set_option maxRecDepth 100000
set_option maxHeartbeats 4000000
namespace Go.Proofs.Ytoefhbfgmceikaa
open Go Go.Ga Go.Ga.Gl
end Go.Proofs.Ytoefhbfgmceikaa
set_option maxRecDepth 100000
set_option maxHeartbeats 4000000
namespace Go.Proofs.Ytoefhbfgmceikaa
open Go Go.Ga Go.Ga.Gl
def turnL : List Int → List Int → List Int
  | m, a :: b :: l => turnL ((m.set a.toNat b).set b.toNat a) l
  | m, _ => m
theorem turnL_len : ∀ (l m : List Int), (turnL m l).length = m.length
  | [], m => rfl
  | [_], m => rfl
  | a :: b :: l, m => by unfold turnL; rw [turnL_len l]; simp
theorem turn_step {l : List Int} {k : Nat} {a b : Int} (ha : l[2 * k]? = some a) (hb : l[2 * k + 1]? = some b) : ∀ m0, turnL m0 (l.take (2 * (k + 1))) = ((turnL m0 (l.take (2 * k))).set a.toNat b).set b.toNat a := by
  induction k generalizing l with
  | zero =>
    intro m0
    match l, ha, hb with
    | x :: y :: l, ha, hb =>
      simp at ha hb
      subst ha; subst hb
      simp [turnL]
  | succ k ih =>
    intro m0
    match l, ha, hb with
    | [], ha, _ => simp at ha
    | [x], ha, _ => simp at ha
    | x :: y :: l, ha, hb =>
      have ha' : l[2 * k]? = some a := by rw [show 2 * (k + 1) = 2 * k + 1 + 1 by omega] at ha; simpa using ha
      have hb' : l[2 * k + 1]? = some b := by rw [show 2 * (k + 1) + 1 = (2 * k + 1) + 1 + 1 by omega] at hb; simpa using hb
      rw [show 2 * (k + 1 + 1) = 2 * (k + 1) + 1 + 1 by omega, show 2 * (k + 1) = 2 * k + 1 + 1 by omega]
      simp only [List.take_succ_cons, turnL]
      exact ih ha' hb' _
theorem turn_end : ∀ (k : Nat) (l m : List Int), l.length ≤ 2 * k + 1 → turnL m (l.take (2 * k)) = turnL m l
  | 0, [], m, _ => rfl
  | 0, [x], m, _ => rfl
  | 0, _ :: _ :: _, m, h => by simp at h
  | k + 1, [], m, _ => by simp
  | k + 1, [x], m, _ => by rw [show 2 * (k + 1) = 2 * k + 1 + 1 by omega]; simp
  | k + 1, x :: y :: l, m, h => by
    rw [show 2 * (k + 1) = 2 * k + 1 + 1 by omega]
    simp only [List.take_succ_cons, turnL]
    exact turn_end k l _ (by simp at h; omega)
end Go.Proofs.Ytoefhbfgmceikaa
set_option maxRecDepth 100000
set_option maxHeartbeats 4000000
namespace Go.Proofs.Ytoefhbfgmceikaa
open Go Go.Ga Go.Ga.Gl
theorem turn_ok (m l : List Int) (hl : l.length ≤ 1000000) (hm : m.length ≤ 1000000) (hin : ∀ i, i < l.length → ∃ a : Nat, l.getD i 0 = a ∧ a < m.length) : ACalls Try.prog [] n_walk_Turn [.sl 0 0 m.length 1, .imm 1 (ints l)] [some (ints m)] fun r h' => r = .tup [] ∧ h' = [some (ints (turnL m l))] := by
  refine go_walk_Turn rfl ?_
  unfold c_walk_Turn v_walk_Turn
  refine wlk_sreg fun KY hKY => ?_
  simp only [go_sem, reduceIte, Nat.reduceEqDiff, Nat.reduceBEq, reduceCtorEq, Nat.reduceLT, Nat.reduceLeDiff, Nat.reduceAdd, Nat.reduceSub, Nat.reduceMul, Nat.reduceDiv, Int.reduceAdd, Int.reduceNeg, Int.reduceEq, Int.reduceLT, Int.reduceLE, c_walk_Turn_r0]
  refine hKY _ ?_
  refine wlk_blk fun X1 hn1 he1 hf1 hr1 => ?_
  have h0 : m = turnL m (l.take (2 * 0)) := by simp [turnL]
  try simp only [go_sem, reduceIte, Nat.reduceEqDiff, Nat.reduceBEq, reduceCtorEq, Nat.reduceLT, Nat.reduceLeDiff, Nat.reduceAdd, Nat.reduceSub, Nat.reduceMul, Nat.reduceDiv, Int.reduceAdd, Int.reduceNeg, Int.reduceEq, Int.reduceLT, Int.reduceLE]
  refine wlk_lp (α := Nat) [8] (fun k => [(4, .sc (.int .i64 ((2 * k + 1 : Nat) : Int)))]) (fun k => [some (ints (turnL m (l.take (2 * k))))]) (fun k q => 2 * k ≤ l.length + 1 ∧ q = l.length - k) (0) (l.length) rfl (by first | (simp only [go_sem, reduceIte, Nat.reduceEqDiff, Nat.reduceBEq, reduceCtorEq, Nat.reduceLT, Nat.reduceLeDiff, Nat.reduceAdd, Nat.reduceSub, Nat.reduceMul, Nat.reduceDiv, Int.reduceAdd, Int.reduceNeg, Int.reduceEq, Int.reduceLT, Int.reduceLE, updAll_cons, updAll_nil]; done) | with_reducible rfl | rfl) (⟨by omega, rfl⟩) ?_
  rintro k q ⟨hk, rfl⟩ X2 hn2 he2 hr2
  simp only [go_sem, reduceIte, Nat.reduceEqDiff, Nat.reduceBEq, reduceCtorEq, Nat.reduceLT, Nat.reduceLeDiff, Nat.reduceAdd, Nat.reduceSub, Nat.reduceMul, Nat.reduceDiv, Int.reduceAdd, Int.reduceNeg, Int.reduceEq, Int.reduceLT, Int.reduceLE, updAll_cons, updAll_nil]
  refine wlk_seq fun X3 hn3 he3 hr3 => ?_
  rcases Nat.lt_or_ge (2 * k + 1) l.length with hk2 | hk2
  · have hdy : decide (((2 * k + 1 : Nat) : Int) < (l.length : Int)) = true := decide_eq_true (by omega)
    refine wlk_sreg fun KY hKY => ?_
    simp only [go_sem, reduceIte, Nat.reduceEqDiff, Nat.reduceBEq, reduceCtorEq, Nat.reduceLT, Nat.reduceLeDiff, Nat.reduceAdd, Nat.reduceSub, Nat.reduceMul, Nat.reduceDiv, Int.reduceAdd, Int.reduceNeg, Int.reduceEq, Int.reduceLT, Int.reduceLE, c_walk_Turn_r1, ints_len, hdy]
    refine hKY _ ?_
    refine wlk_cond1 (by first | rfl | (simp only [go_sem, reduceIte, Nat.reduceEqDiff, Nat.reduceBEq, reduceCtorEq, Nat.reduceLT, Nat.reduceLeDiff, Nat.reduceAdd, Nat.reduceSub, Nat.reduceMul, Nat.reduceDiv, Int.reduceAdd, Int.reduceNeg, Int.reduceEq, Int.reduceLT, Int.reduceLE]; try simp (disch := omega) only [decide_eq_true, decide_eq_false])) ?_
    refine wlk_skip ?_
    repeat (first | refine hn3 _ ?_ | refine he3 _ _ ?_ | refine he2 _ _ ?_ | refine hn1 _ ?_ | refine he1 _ ?_ | refine hf1 _ _ (by decide) ?_)
    refine wlk_seq fun X4 hn4 he4 hr4 => ?_
    refine wlk_blk fun X5 hn5 he5 hf5 hr5 => ?_
    have hk0 : 2 * k < l.length := by omega
    obtain ⟨a, ha, haN⟩ := hin (2 * k) hk0
    obtain ⟨b, hb, hbN⟩ := hin (2 * k + 1) hk2
    have hd1 : IntKind.i64.wrap (((2 * k + 1 : Nat) : Int) - 1) = ((2 * k : Nat) : Int) := by rw [IntWalk.i64_in _ (by omega)]; omega
    have hga : (ints l)[2 * k]? = some (.sc (.int .i64 (a : Int))) := by rw [ints_get hk0, ha]
    have hgb : (ints l)[2 * k + 1]? = some (.sc (.int .i64 (b : Int))) := by rw [ints_get hk2, hb]
    have hla : l[2 * k]? = some (a : Int) := by rw [← ha, List.getD_eq_getElem?_getD, List.getElem?_eq_getElem hk0]; rfl
    have hlb : l[2 * k + 1]? = some (b : Int) := by rw [← hb, List.getD_eq_getElem?_getD, List.getElem?_eq_getElem hk2]; rfl
    have hst := turn_step hla hlb m
    rw [Int.toNat_natCast, Int.toNat_natCast] at hst
    have hlen := turnL_len (l.take (2 * k)) m
    generalize hM : turnL m (l.take (2 * k)) = M at hst hlen
    refine wlk_draw fun KY hKY => ?_
    simp only [go_sem, reduceIte, Nat.reduceEqDiff, Nat.reduceBEq, reduceCtorEq, Nat.reduceLT, Nat.reduceLeDiff, Nat.reduceAdd, Nat.reduceSub, Nat.reduceMul, Nat.reduceDiv, Int.reduceAdd, Int.reduceNeg, Int.reduceEq, Int.reduceLT, Int.reduceLE, c_walk_Turn_r2, hd1, hga, hgb, hk0, hk2, ints_len, haN, hbN, hlen, List.length_set, ← hst]
    refine hKY _ ?_
    repeat (first | refine hn5 _ ?_ | refine he5 _ ?_ | refine hf5 _ _ (by decide) ?_ | refine hn4 _ ?_ | refine he4 _ _ ?_ | refine hn3 _ ?_ | refine he3 _ _ ?_ | refine he2 _ _ ?_ | refine hn1 _ ?_ | refine he1 _ ?_ | refine hf1 _ _ (by decide) ?_)
    have hi2 : IntKind.i64.wrap (((2 * k + 1 : Nat) : Int) + 2) = ((2 * (k + 1) + 1 : Nat) : Int) := by rw [IntWalk.i64_in _ (by omega)]; omega
    refine wlk_reg fun KY hKY => ?_
    simp only [go_sem, reduceIte, Nat.reduceEqDiff, Nat.reduceBEq, reduceCtorEq, Nat.reduceLT, Nat.reduceLeDiff, Nat.reduceAdd, Nat.reduceSub, Nat.reduceMul, Nat.reduceDiv, Int.reduceAdd, Int.reduceNeg, Int.reduceEq, Int.reduceLT, Int.reduceLE, c_walk_Turn_r3, hi2]
    refine hKY _ ?_
    repeat (first | refine hn5 _ ?_ | refine he5 _ ?_ | refine hf5 _ _ (by decide) ?_ | refine hn4 _ ?_ | refine he4 _ _ ?_ | refine hn3 _ ?_ | refine he3 _ _ ?_)
    refine hn2 _ (k + 1) (l.length - (k + 1)) (by omega) (by first | (simp only [go_sem, reduceIte, Nat.reduceEqDiff, Nat.reduceBEq, reduceCtorEq, Nat.reduceLT, Nat.reduceLeDiff, Nat.reduceAdd, Nat.reduceSub, Nat.reduceMul, Nat.reduceDiv, Int.reduceAdd, Int.reduceNeg, Int.reduceEq, Int.reduceLT, Int.reduceLE, updAll_cons, updAll_nil]; done) | with_reducible rfl) ?_
    exact ⟨by omega, rfl⟩
  have hdx : decide (((2 * k + 1 : Nat) : Int) < (l.length : Int)) = false := decide_eq_false (by omega)
  refine wlk_sreg fun KY hKY => ?_
  simp only [go_sem, reduceIte, Nat.reduceEqDiff, Nat.reduceBEq, reduceCtorEq, Nat.reduceLT, Nat.reduceLeDiff, Nat.reduceAdd, Nat.reduceSub, Nat.reduceMul, Nat.reduceDiv, Int.reduceAdd, Int.reduceNeg, Int.reduceEq, Int.reduceLT, Int.reduceLE, c_walk_Turn_r1, ints_len, hdx]
  refine hKY _ ?_
  refine wlk_cond0 (by first | rfl | (simp only [go_sem, reduceIte, Nat.reduceEqDiff, Nat.reduceBEq, reduceCtorEq, Nat.reduceLT, Nat.reduceLeDiff, Nat.reduceAdd, Nat.reduceSub, Nat.reduceMul, Nat.reduceDiv, Int.reduceAdd, Int.reduceNeg, Int.reduceEq, Int.reduceLT, Int.reduceLE]; try simp (disch := omega) only [decide_eq_true, decide_eq_false])) ?_
  refine wlk_exit ?_
  repeat (first | refine hn3 _ ?_ | refine he3 _ _ ?_ | refine he2 _ _ ?_ | refine hn1 _ ?_ | refine he1 _ ?_ | refine hf1 _ _ (by decide) ?_)
  rw [turn_end k l m (by omega)]
  simp only [go_sem, reduceIte, Nat.reduceEqDiff, Nat.reduceBEq, reduceCtorEq, Nat.reduceLT, Nat.reduceLeDiff, Nat.reduceAdd, Nat.reduceSub, Nat.reduceMul, Nat.reduceDiv, Int.reduceAdd, Int.reduceNeg, Int.reduceEq, Int.reduceLT, Int.reduceLE]
end Go.Proofs.Ytoefhbfgmceikaa
set_option maxRecDepth 100000
set_option maxHeartbeats 4000000
namespace Go.Proofs.Ytoefhbfgmceikaa
open Go Go.Ga Go.Ga.Gl
def FP (n : Int) (es : List (Int × Int)) (m l x : List Int) (e : Int) : Prop :=
  (rightB n es = false ∧ x = [] ∧ e = 3) ∨ (rightB n es = true ∧ mateB n es m = false ∧ x = [] ∧ e = 9) ∨
  (mateB n es m = true ∧ ∃ (N : Nat) (es' : Es), n = N ∧ es = castE es' ∧ ((augB N es' m l = false ∧ x = [] ∧ e = 1) ∨ (augB N es' m l = true ∧ x = turnL m l ∧ e = 0)))
theorem FP.unique {n : Int} {es : List (Int × Int)} {m l x y : List Int} {e f : Int} (h : FP n es m l x e) (h' : FP n es m l y f) : x = y ∧ e = f := by
  rcases h with ⟨h1, rfl, rfl⟩ | ⟨h1, h2, rfl, rfl⟩ | ⟨h1, N, es1, rfl, rfl, h2⟩
  · rcases h' with ⟨_, rfl, rfl⟩ | ⟨h3, _⟩ | ⟨h3, _⟩
    · exact ⟨rfl, rfl⟩
    · rw [h1] at h3; cases h3
    · rw [(mateB_len h3).1] at h1; cases h1
  · rcases h' with ⟨h3, _⟩ | ⟨_, _, rfl, rfl⟩ | ⟨h3, _⟩
    · rw [h1] at h3; cases h3
    · exact ⟨rfl, rfl⟩
    · rw [h2] at h3; cases h3
  · rcases h' with ⟨h3, _⟩ | ⟨_, h3, _⟩ | ⟨_, M, es2, hN, he, h3⟩
    · rw [(mateB_len h1).1] at h3; cases h3
    · rw [h1] at h3; cases h3
    · obtain rfl : N = M := by omega
      obtain rfl := castE_inj he
      rcases h2 with ⟨h4, rfl, rfl⟩ | ⟨h4, rfl, rfl⟩ <;> rcases h3 with ⟨h5, rfl, rfl⟩ | ⟨h5, rfl, rfl⟩
      · exact ⟨rfl, rfl⟩
      · rw [h4] at h5; cases h5
      · rw [h4] at h5; cases h5
      · exact ⟨rfl, rfl⟩
theorem wflip_ok (n : Int) (es : List (Int × Int)) (m l : List Int) (hmm : m.length ≤ 1000000) (hl : l.length ≤ 1000000) : ACalls Try.prog [] n_walk_Flip [.agg [.sc (.int .i64 n), .imm 2 (twos es)], .imm 1 (ints m), .imm 1 (ints l)] [] fun r h' => (∃ x e, FP n es m l x e ∧ r = .tup [.own (some 1) (ints x), .sc (.int .i64 e)]) ∧ h' = [] := by
  refine ACalls.trim ?_
  refine go_walk_Flip rfl ?_
  unfold c_walk_Flip v_walk_Flip
  refine wlk_sreg fun KY hKY => ?_
  simp only [go_sem, reduceIte, Nat.reduceEqDiff, Nat.reduceBEq, reduceCtorEq, Nat.reduceLT, Nat.reduceLeDiff, Nat.reduceAdd, Nat.reduceSub, Nat.reduceMul, Nat.reduceDiv, Int.reduceAdd, Int.reduceNeg, Int.reduceEq, Int.reduceLT, Int.reduceLE, c_walk_Flip_r0]
  refine hKY _ ?_
  refine wlk_seq fun X1 hn1 he1 hr1 => ?_
  refine wlk_blk fun X2 hn2 he2 hf2 hr2 => ?_
  cases hr : rightB n es with
  | false =>
    refine wlk_sreg fun KY hKY => ?_
    simp only [go_sem, reduceIte, Nat.reduceEqDiff, Nat.reduceBEq, reduceCtorEq, Nat.reduceLT, Nat.reduceLeDiff, Nat.reduceAdd, Nat.reduceSub, Nat.reduceMul, Nat.reduceDiv, Int.reduceAdd, Int.reduceNeg, Int.reduceEq, Int.reduceLT, Int.reduceLE, c_walk_Flip_r1]
    refine call_view rfl (by simp only [go_sem, reduceIte, Nat.reduceEqDiff, Nat.reduceBEq, reduceCtorEq, Nat.reduceLT, Nat.reduceLeDiff, Nat.reduceAdd, Nat.reduceSub, Nat.reduceMul, Nat.reduceDiv, Int.reduceAdd, Int.reduceNeg, Int.reduceEq, Int.reduceLT, Int.reduceLE] <;> rfl) ((right_ok n es).mono ?_)
    rintro rr hh ⟨rfl, rfl⟩
    refine ⟨rfl, rfl, rfl, ?_⟩
    simp only [go_sem, reduceIte, Nat.reduceEqDiff, Nat.reduceBEq, reduceCtorEq, Nat.reduceLT, Nat.reduceLeDiff, Nat.reduceAdd, Nat.reduceSub, Nat.reduceMul, Nat.reduceDiv, Int.reduceAdd, Int.reduceNeg, Int.reduceEq, Int.reduceLT, Int.reduceLE, hr]
    refine hKY _ ?_
    refine wlk_cond1 (by first | rfl | (simp only [go_sem, reduceIte, Nat.reduceEqDiff, Nat.reduceBEq, reduceCtorEq, Nat.reduceLT, Nat.reduceLeDiff, Nat.reduceAdd, Nat.reduceSub, Nat.reduceMul, Nat.reduceDiv, Int.reduceAdd, Int.reduceNeg, Int.reduceEq, Int.reduceLT, Int.reduceLE]; try simp (disch := omega) only [decide_eq_true, decide_eq_false])) ?_
    refine wlk_sreg fun KY hKY => ?_
    simp only [go_sem, reduceIte, Nat.reduceEqDiff, Nat.reduceBEq, reduceCtorEq, Nat.reduceLT, Nat.reduceLeDiff, Nat.reduceAdd, Nat.reduceSub, Nat.reduceMul, Nat.reduceDiv, Int.reduceAdd, Int.reduceNeg, Int.reduceEq, Int.reduceLT, Int.reduceLE, c_walk_Flip_r2]
    refine hKY _ ?_
    refine sem_nil [0, 6] 1 (by simp only [go_sem, reduceIte, Nat.reduceEqDiff, Nat.reduceBEq, reduceCtorEq, Nat.reduceLT, Nat.reduceLeDiff, Nat.reduceAdd, Nat.reduceSub, Nat.reduceMul, Nat.reduceDiv, Int.reduceAdd, Int.reduceNeg, Int.reduceEq, Int.reduceLT, Int.reduceLE]) ?_
    simp only [go_sem, reduceIte, Nat.reduceEqDiff, Nat.reduceBEq, reduceCtorEq, Nat.reduceLT, Nat.reduceLeDiff, Nat.reduceAdd, Nat.reduceSub, Nat.reduceMul, Nat.reduceDiv, Int.reduceAdd, Int.reduceNeg, Int.reduceEq, Int.reduceLT, Int.reduceLE]
    refine wlk_ret ?_
    repeat (first | refine hr2 _ ?_ | refine hr1 _ ?_)
    simp only [go_sem, reduceIte, Nat.reduceEqDiff, Nat.reduceBEq, reduceCtorEq, Nat.reduceLT, Nat.reduceLeDiff, Nat.reduceAdd, Nat.reduceSub, Nat.reduceMul, Nat.reduceDiv, Int.reduceAdd, Int.reduceNeg, Int.reduceEq, Int.reduceLT, Int.reduceLE]
    exact ⟨[], 3, .inl ⟨hr, rfl, rfl⟩, rfl⟩
  | true =>
  refine wlk_sreg fun KY hKY => ?_
  simp only [go_sem, reduceIte, Nat.reduceEqDiff, Nat.reduceBEq, reduceCtorEq, Nat.reduceLT, Nat.reduceLeDiff, Nat.reduceAdd, Nat.reduceSub, Nat.reduceMul, Nat.reduceDiv, Int.reduceAdd, Int.reduceNeg, Int.reduceEq, Int.reduceLT, Int.reduceLE, c_walk_Flip_r1]
  refine call_view rfl (by simp only [go_sem, reduceIte, Nat.reduceEqDiff, Nat.reduceBEq, reduceCtorEq, Nat.reduceLT, Nat.reduceLeDiff, Nat.reduceAdd, Nat.reduceSub, Nat.reduceMul, Nat.reduceDiv, Int.reduceAdd, Int.reduceNeg, Int.reduceEq, Int.reduceLT, Int.reduceLE] <;> rfl) ((right_ok n es).mono ?_)
  rintro rr hh ⟨rfl, rfl⟩
  refine ⟨rfl, rfl, rfl, ?_⟩
  simp only [go_sem, reduceIte, Nat.reduceEqDiff, Nat.reduceBEq, reduceCtorEq, Nat.reduceLT, Nat.reduceLeDiff, Nat.reduceAdd, Nat.reduceSub, Nat.reduceMul, Nat.reduceDiv, Int.reduceAdd, Int.reduceNeg, Int.reduceEq, Int.reduceLT, Int.reduceLE, hr]
  refine hKY _ ?_
  refine wlk_cond0 (by first | rfl | (simp only [go_sem, reduceIte, Nat.reduceEqDiff, Nat.reduceBEq, reduceCtorEq, Nat.reduceLT, Nat.reduceLeDiff, Nat.reduceAdd, Nat.reduceSub, Nat.reduceMul, Nat.reduceDiv, Int.reduceAdd, Int.reduceNeg, Int.reduceEq, Int.reduceLT, Int.reduceLE]; try simp (disch := omega) only [decide_eq_true, decide_eq_false])) ?_
  cases hmb : mateB n es m with
  | false =>
    refine wlk_sreg fun KY hKY => ?_
    simp only [go_sem, reduceIte, Nat.reduceEqDiff, Nat.reduceBEq, reduceCtorEq, Nat.reduceLT, Nat.reduceLeDiff, Nat.reduceAdd, Nat.reduceSub, Nat.reduceMul, Nat.reduceDiv, Int.reduceAdd, Int.reduceNeg, Int.reduceEq, Int.reduceLT, Int.reduceLE, c_walk_Flip_r3]
    refine call_view rfl (by simp only [go_sem, reduceIte, Nat.reduceEqDiff, Nat.reduceBEq, reduceCtorEq, Nat.reduceLT, Nat.reduceLeDiff, Nat.reduceAdd, Nat.reduceSub, Nat.reduceMul, Nat.reduceDiv, Int.reduceAdd, Int.reduceNeg, Int.reduceEq, Int.reduceLT, Int.reduceLE] <;> rfl) ((mright_ok n es m).mono ?_)
    rintro rr hh ⟨rfl, rfl⟩
    refine ⟨rfl, rfl, rfl, ?_⟩
    simp only [go_sem, reduceIte, Nat.reduceEqDiff, Nat.reduceBEq, reduceCtorEq, Nat.reduceLT, Nat.reduceLeDiff, Nat.reduceAdd, Nat.reduceSub, Nat.reduceMul, Nat.reduceDiv, Int.reduceAdd, Int.reduceNeg, Int.reduceEq, Int.reduceLT, Int.reduceLE, hmb]
    refine hKY _ ?_
    refine wlk_cond1 (by first | rfl | (simp only [go_sem, reduceIte, Nat.reduceEqDiff, Nat.reduceBEq, reduceCtorEq, Nat.reduceLT, Nat.reduceLeDiff, Nat.reduceAdd, Nat.reduceSub, Nat.reduceMul, Nat.reduceDiv, Int.reduceAdd, Int.reduceNeg, Int.reduceEq, Int.reduceLT, Int.reduceLE]; try simp (disch := omega) only [decide_eq_true, decide_eq_false])) ?_
    refine wlk_sreg fun KY hKY => ?_
    simp only [go_sem, reduceIte, Nat.reduceEqDiff, Nat.reduceBEq, reduceCtorEq, Nat.reduceLT, Nat.reduceLeDiff, Nat.reduceAdd, Nat.reduceSub, Nat.reduceMul, Nat.reduceDiv, Int.reduceAdd, Int.reduceNeg, Int.reduceEq, Int.reduceLT, Int.reduceLE, c_walk_Flip_r4]
    refine hKY _ ?_
    refine sem_nil [0, 6] 1 (by simp only [go_sem, reduceIte, Nat.reduceEqDiff, Nat.reduceBEq, reduceCtorEq, Nat.reduceLT, Nat.reduceLeDiff, Nat.reduceAdd, Nat.reduceSub, Nat.reduceMul, Nat.reduceDiv, Int.reduceAdd, Int.reduceNeg, Int.reduceEq, Int.reduceLT, Int.reduceLE]) ?_
    simp only [go_sem, reduceIte, Nat.reduceEqDiff, Nat.reduceBEq, reduceCtorEq, Nat.reduceLT, Nat.reduceLeDiff, Nat.reduceAdd, Nat.reduceSub, Nat.reduceMul, Nat.reduceDiv, Int.reduceAdd, Int.reduceNeg, Int.reduceEq, Int.reduceLT, Int.reduceLE]
    refine wlk_ret ?_
    repeat (first | refine hr2 _ ?_ | refine hr1 _ ?_)
    simp only [go_sem, reduceIte, Nat.reduceEqDiff, Nat.reduceBEq, reduceCtorEq, Nat.reduceLT, Nat.reduceLeDiff, Nat.reduceAdd, Nat.reduceSub, Nat.reduceMul, Nat.reduceDiv, Int.reduceAdd, Int.reduceNeg, Int.reduceEq, Int.reduceLT, Int.reduceLE]
    exact ⟨[], 9, .inr (.inl ⟨hr, hmb, rfl, rfl⟩), rfl⟩
  | true =>
  refine wlk_sreg fun KY hKY => ?_
  simp only [go_sem, reduceIte, Nat.reduceEqDiff, Nat.reduceBEq, reduceCtorEq, Nat.reduceLT, Nat.reduceLeDiff, Nat.reduceAdd, Nat.reduceSub, Nat.reduceMul, Nat.reduceDiv, Int.reduceAdd, Int.reduceNeg, Int.reduceEq, Int.reduceLT, Int.reduceLE, c_walk_Flip_r3]
  refine call_view rfl (by simp only [go_sem, reduceIte, Nat.reduceEqDiff, Nat.reduceBEq, reduceCtorEq, Nat.reduceLT, Nat.reduceLeDiff, Nat.reduceAdd, Nat.reduceSub, Nat.reduceMul, Nat.reduceDiv, Int.reduceAdd, Int.reduceNeg, Int.reduceEq, Int.reduceLT, Int.reduceLE] <;> rfl) ((mright_ok n es m).mono ?_)
  rintro rr hh ⟨rfl, rfl⟩
  refine ⟨rfl, rfl, rfl, ?_⟩
  simp only [go_sem, reduceIte, Nat.reduceEqDiff, Nat.reduceBEq, reduceCtorEq, Nat.reduceLT, Nat.reduceLeDiff, Nat.reduceAdd, Nat.reduceSub, Nat.reduceMul, Nat.reduceDiv, Int.reduceAdd, Int.reduceNeg, Int.reduceEq, Int.reduceLT, Int.reduceLE, hmb]
  refine hKY _ ?_
  refine wlk_cond0 (by first | rfl | (simp only [go_sem, reduceIte, Nat.reduceEqDiff, Nat.reduceBEq, reduceCtorEq, Nat.reduceLT, Nat.reduceLeDiff, Nat.reduceAdd, Nat.reduceSub, Nat.reduceMul, Nat.reduceDiv, Int.reduceAdd, Int.reduceNeg, Int.reduceEq, Int.reduceLT, Int.reduceLE]; try simp (disch := omega) only [decide_eq_true, decide_eq_false])) ?_
  obtain ⟨N, es, rfl, rfl, g, hm⟩ := mate_cases hmb
  cases ha : augB N es m l with
  | false =>
    refine wlk_sreg fun KY hKY => ?_
    simp only [go_sem, reduceIte, Nat.reduceEqDiff, Nat.reduceBEq, reduceCtorEq, Nat.reduceLT, Nat.reduceLeDiff, Nat.reduceAdd, Nat.reduceSub, Nat.reduceMul, Nat.reduceDiv, Int.reduceAdd, Int.reduceNeg, Int.reduceEq, Int.reduceLT, Int.reduceLE, c_walk_Flip_r5]
    refine call_view rfl (by simp only [go_sem, reduceIte, Nat.reduceEqDiff, Nat.reduceBEq, reduceCtorEq, Nat.reduceLT, Nat.reduceLeDiff, Nat.reduceAdd, Nat.reduceSub, Nat.reduceMul, Nat.reduceDiv, Int.reduceAdd, Int.reduceNeg, Int.reduceEq, Int.reduceLT, Int.reduceLE] <;> rfl) ((waug_ok g m hm l hl).mono ?_)
    rintro rr hh ⟨rfl, rfl⟩
    refine ⟨rfl, rfl, rfl, ?_⟩
    simp only [go_sem, reduceIte, Nat.reduceEqDiff, Nat.reduceBEq, reduceCtorEq, Nat.reduceLT, Nat.reduceLeDiff, Nat.reduceAdd, Nat.reduceSub, Nat.reduceMul, Nat.reduceDiv, Int.reduceAdd, Int.reduceNeg, Int.reduceEq, Int.reduceLT, Int.reduceLE, ha]
    refine hKY _ ?_
    refine wlk_cond1 (by first | rfl | (simp only [go_sem, reduceIte, Nat.reduceEqDiff, Nat.reduceBEq, reduceCtorEq, Nat.reduceLT, Nat.reduceLeDiff, Nat.reduceAdd, Nat.reduceSub, Nat.reduceMul, Nat.reduceDiv, Int.reduceAdd, Int.reduceNeg, Int.reduceEq, Int.reduceLT, Int.reduceLE]; try simp (disch := omega) only [decide_eq_true, decide_eq_false])) ?_
    refine wlk_sreg fun KY hKY => ?_
    simp only [go_sem, reduceIte, Nat.reduceEqDiff, Nat.reduceBEq, reduceCtorEq, Nat.reduceLT, Nat.reduceLeDiff, Nat.reduceAdd, Nat.reduceSub, Nat.reduceMul, Nat.reduceDiv, Int.reduceAdd, Int.reduceNeg, Int.reduceEq, Int.reduceLT, Int.reduceLE, c_walk_Flip_r6]
    refine hKY _ ?_
    refine sem_nil [0, 6] 1 (by simp only [go_sem, reduceIte, Nat.reduceEqDiff, Nat.reduceBEq, reduceCtorEq, Nat.reduceLT, Nat.reduceLeDiff, Nat.reduceAdd, Nat.reduceSub, Nat.reduceMul, Nat.reduceDiv, Int.reduceAdd, Int.reduceNeg, Int.reduceEq, Int.reduceLT, Int.reduceLE]) ?_
    simp only [go_sem, reduceIte, Nat.reduceEqDiff, Nat.reduceBEq, reduceCtorEq, Nat.reduceLT, Nat.reduceLeDiff, Nat.reduceAdd, Nat.reduceSub, Nat.reduceMul, Nat.reduceDiv, Int.reduceAdd, Int.reduceNeg, Int.reduceEq, Int.reduceLT, Int.reduceLE]
    refine wlk_ret ?_
    repeat (first | refine hr2 _ ?_ | refine hr1 _ ?_)
    simp only [go_sem, reduceIte, Nat.reduceEqDiff, Nat.reduceBEq, reduceCtorEq, Nat.reduceLT, Nat.reduceLeDiff, Nat.reduceAdd, Nat.reduceSub, Nat.reduceMul, Nat.reduceDiv, Int.reduceAdd, Int.reduceNeg, Int.reduceEq, Int.reduceLT, Int.reduceLE]
    exact ⟨[], 1, .inr (.inr ⟨hmb, N, es, rfl, rfl, .inl ⟨ha, rfl, rfl⟩⟩), rfl⟩
  | true =>
  have hpb : pathB N es l = true := by
    have h := ha
    unfold augB altB at h
    rw [Bool.and_eq_true, Bool.and_eq_true, Bool.and_eq_true] at h
    exact h.2.1.1
  have hl2 : 2 ≤ l.length := by
    have h := ha
    unfold augB at h
    rw [Bool.and_eq_true, decide_eq_true_iff] at h
    exact h.1
  obtain ⟨a0, _, ha0⟩ := path_in hpb (show 0 < l.length by omega)
  have hmp : 0 < m.length := by omega
  have hne : (ints m).length = m.length := ints_len m
  refine wlk_sreg fun KY hKY => ?_
  simp only [go_sem, reduceIte, Nat.reduceEqDiff, Nat.reduceBEq, reduceCtorEq, Nat.reduceLT, Nat.reduceLeDiff, Nat.reduceAdd, Nat.reduceSub, Nat.reduceMul, Nat.reduceDiv, Int.reduceAdd, Int.reduceNeg, Int.reduceEq, Int.reduceLT, Int.reduceLE, c_walk_Flip_r5]
  refine call_view rfl (by simp only [go_sem, reduceIte, Nat.reduceEqDiff, Nat.reduceBEq, reduceCtorEq, Nat.reduceLT, Nat.reduceLeDiff, Nat.reduceAdd, Nat.reduceSub, Nat.reduceMul, Nat.reduceDiv, Int.reduceAdd, Int.reduceNeg, Int.reduceEq, Int.reduceLT, Int.reduceLE] <;> rfl) ((waug_ok g m hm l hl).mono ?_)
  rintro rr hh ⟨rfl, rfl⟩
  refine ⟨rfl, rfl, rfl, ?_⟩
  simp only [go_sem, reduceIte, Nat.reduceEqDiff, Nat.reduceBEq, reduceCtorEq, Nat.reduceLT, Nat.reduceLeDiff, Nat.reduceAdd, Nat.reduceSub, Nat.reduceMul, Nat.reduceDiv, Int.reduceAdd, Int.reduceNeg, Int.reduceEq, Int.reduceLT, Int.reduceLE, ha]
  refine hKY _ ?_
  refine wlk_cond0 (by first | rfl | (simp only [go_sem, reduceIte, Nat.reduceEqDiff, Nat.reduceBEq, reduceCtorEq, Nat.reduceLT, Nat.reduceLeDiff, Nat.reduceAdd, Nat.reduceSub, Nat.reduceMul, Nat.reduceDiv, Int.reduceAdd, Int.reduceNeg, Int.reduceEq, Int.reduceLT, Int.reduceLE]; try simp (disch := omega) only [decide_eq_true, decide_eq_false])) ?_
  refine wlk_skip ?_
  repeat (first | refine hn2 _ ?_ | refine he2 _ ?_ | refine hf2 _ _ (by decide) ?_ | refine hn1 _ ?_ | refine he1 _ _ ?_)
  refine wlk_sreg fun KY hKY => ?_
  simp only [go_sem, reduceIte, Nat.reduceEqDiff, Nat.reduceBEq, reduceCtorEq, Nat.reduceLT, Nat.reduceLeDiff, Nat.reduceAdd, Nat.reduceSub, Nat.reduceMul, Nat.reduceDiv, Int.reduceAdd, Int.reduceNeg, Int.reduceEq, Int.reduceLT, Int.reduceLE, c_walk_Flip_r7]
  refine call_view rfl (by simp only [go_sem, reduceIte, Nat.reduceEqDiff, Nat.reduceBEq, reduceCtorEq, Nat.reduceLT, Nat.reduceLeDiff, Nat.reduceAdd, Nat.reduceSub, Nat.reduceMul, Nat.reduceDiv, Int.reduceAdd, Int.reduceNeg, Int.reduceEq, Int.reduceLT, Int.reduceLE] <;> rfl) ((clone_ok m (by omega)).mono ?_)
  rintro rr hh ⟨rfl, rfl⟩
  refine ⟨?_, ?_, ?_, ?_⟩
  iterate 3 (first | rfl | simp only [go_sem, reduceIte, Nat.reduceEqDiff, Nat.reduceBEq, reduceCtorEq, Nat.reduceLT, Nat.reduceLeDiff, Nat.reduceAdd, Nat.reduceSub, Nat.reduceMul, Nat.reduceDiv, Int.reduceAdd, Int.reduceNeg, Int.reduceEq, Int.reduceLT, Int.reduceLE])
  simp only [go_sem, reduceIte, Nat.reduceEqDiff, Nat.reduceBEq, reduceCtorEq, Nat.reduceLT, Nat.reduceLeDiff, Nat.reduceAdd, Nat.reduceSub, Nat.reduceMul, Nat.reduceDiv, Int.reduceAdd, Int.reduceNeg, Int.reduceEq, Int.reduceLT, Int.reduceLE]
  refine hKY _ ?_
  refine wlk_sreg fun KY hKY => ?_
  simp only [go_sem, reduceIte, Nat.reduceEqDiff, Nat.reduceBEq, reduceCtorEq, Nat.reduceLT, Nat.reduceLeDiff, Nat.reduceAdd, Nat.reduceSub, Nat.reduceMul, Nat.reduceDiv, Int.reduceAdd, Int.reduceNeg, Int.reduceEq, Int.reduceLT, Int.reduceLE, c_walk_Flip_r8]
  apply call_gen [.bo, .vw] [] false (some [0, 8]) rfl
  iterate 8 (first | (simp only [go_sem, reduceIte, Nat.reduceEqDiff, Nat.reduceBEq, reduceCtorEq, Nat.reduceLT, Nat.reduceLeDiff, Nat.reduceAdd, Nat.reduceSub, Nat.reduceMul, Nat.reduceDiv, Int.reduceAdd, Int.reduceNeg, Int.reduceEq, Int.reduceLT, Int.reduceLE, watchIn, ints_len, hmp] <;> rfl) | rfl)
  refine (turn_ok m l hl hmm (fun i hi => by rw [hm]; exact path_in hpb hi)).mono ?_
  rintro _ _ ⟨rfl, rfl⟩
  refine ⟨Nat.le_of_ble_eq_true rfl, (fun hh => by cases hh), ?_⟩
  simp only [go_sem, reduceIte, Nat.reduceEqDiff, Nat.reduceBEq, reduceCtorEq, Nat.reduceLT, Nat.reduceLeDiff, Nat.reduceAdd, Nat.reduceSub, Nat.reduceMul, Nat.reduceDiv, Int.reduceAdd, Int.reduceNeg, Int.reduceEq, Int.reduceLT, Int.reduceLE, callOut, AState.after, ints_len, turnL_len, hmp]
  refine hKY _ ?_
  refine wlk_sreg fun KY hKY => ?_
  simp only [go_sem, reduceIte, Nat.reduceEqDiff, Nat.reduceBEq, reduceCtorEq, Nat.reduceLT, Nat.reduceLeDiff, Nat.reduceAdd, Nat.reduceSub, Nat.reduceMul, Nat.reduceDiv, Int.reduceAdd, Int.reduceNeg, Int.reduceEq, Int.reduceLT, Int.reduceLE, c_walk_Flip_r9]
  refine hKY _ ?_
  refine wlk_ret ?_
  repeat (first | refine hr2 _ ?_ | refine hr1 _ ?_)
  simp only [go_sem, reduceIte, Nat.reduceEqDiff, Nat.reduceBEq, reduceCtorEq, Nat.reduceLT, Nat.reduceLeDiff, Nat.reduceAdd, Nat.reduceSub, Nat.reduceMul, Nat.reduceDiv, Int.reduceAdd, Int.reduceNeg, Int.reduceEq, Int.reduceLT, Int.reduceLE]
  exact ⟨_, 0, .inr (.inr ⟨hmb, N, es, rfl, rfl, .inr ⟨ha, rfl, rfl⟩⟩), rfl⟩
end Go.Proofs.Ytoefhbfgmceikaa
set_option maxRecDepth 100000
set_option maxHeartbeats 4000000
namespace Go.Proofs.Ytoefhbfgmceikaa
open Go Go.Ga Go.Ga.Gl
end Go.Proofs.Ytoefhbfgmceikaa
set_option maxRecDepth 100000
set_option maxHeartbeats 4000000
namespace Go.Proofs.Ytoefhbfgmceikaa
open Go Go.Ga Go.Ga.Gl
theorem FP.len {n : Int} {es : List (Int × Int)} {m l x : List Int} {e : Int} (h : FP n es m l x e) : x.length ≤ m.length := by
  rcases h with ⟨_, rfl, _⟩ | ⟨_, _, rfl, _⟩ | ⟨_, N, es1, _, _, ⟨_, rfl, _⟩ | ⟨_, rfl, _⟩⟩
  · simp
  · simp
  · simp
  · rw [turnL_len]; exact Nat.le_refl _
theorem two_FP {x : List Int} {e : Int} (h : FP 2 [(0, 1)] [-1, -1] [1, 0] x e) : x = [1, 0] ∧ e = 0 :=
  h.unique (.inr (.inr ⟨by decide, 2, [(0, 1)], rfl, rfl, .inr ⟨by decide, rfl, rfl⟩⟩))
theorem two_aug {b : Bool} (h : onM 2 [(0, 1)] [-1, -1] (fun N e => augB N e [-1, -1] [0, 1]) b) : b = true :=
  onM_unique h (.inr ⟨by decide, 2, [(0, 1)], rfl, rfl, by decide⟩)
theorem awake09_ok : ACalls Try.prog [] n_garlandlaw09_awake [] [] fun r h' => r = .sc (.bool true) ∧ h' = [] := by
  refine ACalls.trim ?_
  have hf := wflip_ok 2 [(0, 1)] [-1, -1] [1, 0] (by decide) (by decide)
  have ha := waugments_ok 2 [(0, 1)] [-1, -1] [0, 1] (by decide)
  refine go_garlandlaw09_awake rfl ?_
  unfold c_garlandlaw09_awake v_garlandlaw09_awake
  refine wlk_sreg fun KY hKY => ?_
  simp only [go_sem, reduceIte, Nat.reduceEqDiff, Nat.reduceBEq, reduceCtorEq, Nat.reduceLT, Nat.reduceLeDiff, Nat.reduceAdd, Nat.reduceSub, Nat.reduceMul, Nat.reduceDiv, Int.reduceAdd, Int.reduceNeg, Int.reduceEq, Int.reduceLT, Int.reduceLE, c_garlandlaw09_awake_r0]
  refine hKY _ ?_
  refine wlk_sreg fun KY hKY => ?_
  simp only [go_sem, reduceIte, Nat.reduceEqDiff, Nat.reduceBEq, reduceCtorEq, Nat.reduceLT, Nat.reduceLeDiff, Nat.reduceAdd, Nat.reduceSub, Nat.reduceMul, Nat.reduceDiv, Int.reduceAdd, Int.reduceNeg, Int.reduceEq, Int.reduceLT, Int.reduceLE, c_garlandlaw09_awake_r1]
  refine hKY _ ?_
  refine sem_freeze [0, 1, 1] (by simp only [go_sem, reduceIte, Nat.reduceEqDiff, Nat.reduceBEq, reduceCtorEq, Nat.reduceLT, Nat.reduceLeDiff, Nat.reduceAdd, Nat.reduceSub, Nat.reduceMul, Nat.reduceDiv, Int.reduceAdd, Int.reduceNeg, Int.reduceEq, Int.reduceLT, Int.reduceLE]; rfl) ?_
  simp only [go_sem, reduceIte, Nat.reduceEqDiff, Nat.reduceBEq, reduceCtorEq, Nat.reduceLT, Nat.reduceLeDiff, Nat.reduceAdd, Nat.reduceSub, Nat.reduceMul, Nat.reduceDiv, Int.reduceAdd, Int.reduceNeg, Int.reduceEq, Int.reduceLT, Int.reduceLE]
  refine wlk_sreg fun KY hKY => ?_
  simp only [go_sem, reduceIte, Nat.reduceEqDiff, Nat.reduceBEq, reduceCtorEq, Nat.reduceLT, Nat.reduceLeDiff, Nat.reduceAdd, Nat.reduceSub, Nat.reduceMul, Nat.reduceDiv, Int.reduceAdd, Int.reduceNeg, Int.reduceEq, Int.reduceLT, Int.reduceLE, c_garlandlaw09_awake_r2]
  refine call_view rfl (by simp only [go_sem, reduceIte, Nat.reduceEqDiff, Nat.reduceBEq, reduceCtorEq, Nat.reduceLT, Nat.reduceLeDiff, Nat.reduceAdd, Nat.reduceSub, Nat.reduceMul, Nat.reduceDiv, Int.reduceAdd, Int.reduceNeg, Int.reduceEq, Int.reduceLT, Int.reduceLE] <;> rfl) ((hf).mono ?_)
  rintro rr hh ⟨⟨x, e, hxe, rfl⟩, rfl⟩
  refine ⟨?_, ?_, ?_, ?_⟩
  iterate 3 (first | rfl | simp only [go_sem, reduceIte, Nat.reduceEqDiff, Nat.reduceBEq, reduceCtorEq, Nat.reduceLT, Nat.reduceLeDiff, Nat.reduceAdd, Nat.reduceSub, Nat.reduceMul, Nat.reduceDiv, Int.reduceAdd, Int.reduceNeg, Int.reduceEq, Int.reduceLT, Int.reduceLE])
  obtain ⟨rfl, rfl⟩ := two_FP hxe
  simp only [go_sem, reduceIte, Nat.reduceEqDiff, Nat.reduceBEq, reduceCtorEq, Nat.reduceLT, Nat.reduceLeDiff, Nat.reduceAdd, Nat.reduceSub, Nat.reduceMul, Nat.reduceDiv, Int.reduceAdd, Int.reduceNeg, Int.reduceEq, Int.reduceLT, Int.reduceLE]
  refine hKY _ ?_
  refine wlk_sreg fun KY hKY => ?_
  simp only [go_sem, reduceIte, Nat.reduceEqDiff, Nat.reduceBEq, reduceCtorEq, Nat.reduceLT, Nat.reduceLeDiff, Nat.reduceAdd, Nat.reduceSub, Nat.reduceMul, Nat.reduceDiv, Int.reduceAdd, Int.reduceNeg, Int.reduceEq, Int.reduceLT, Int.reduceLE, c_garlandlaw09_awake_r3]
  refine call_view rfl (by simp only [go_sem, reduceIte, Nat.reduceEqDiff, Nat.reduceBEq, reduceCtorEq, Nat.reduceLT, Nat.reduceLeDiff, Nat.reduceAdd, Nat.reduceSub, Nat.reduceMul, Nat.reduceDiv, Int.reduceAdd, Int.reduceNeg, Int.reduceEq, Int.reduceLT, Int.reduceLE] <;> rfl) ((plaini_ok [1, 0] [1, 0] (by decide)).mono ?_)
  rintro rr hh ⟨rfl, rfl⟩
  refine ⟨rfl, rfl, rfl, ?_⟩
  simp only [go_sem, reduceIte, Nat.reduceEqDiff, Nat.reduceBEq, reduceCtorEq, Nat.reduceLT, Nat.reduceLeDiff, Nat.reduceAdd, Nat.reduceSub, Nat.reduceMul, Nat.reduceDiv, Int.reduceAdd, Int.reduceNeg, Int.reduceEq, Int.reduceLT, Int.reduceLE, decide_true]
  refine call_view rfl (by simp only [go_sem, reduceIte, Nat.reduceEqDiff, Nat.reduceBEq, reduceCtorEq, Nat.reduceLT, Nat.reduceLeDiff, Nat.reduceAdd, Nat.reduceSub, Nat.reduceMul, Nat.reduceDiv, Int.reduceAdd, Int.reduceNeg, Int.reduceEq, Int.reduceLT, Int.reduceLE] <;> rfl) ((ha).mono ?_)
  rintro rr hh ⟨⟨b, hb, rfl⟩, rfl⟩
  refine ⟨?_, ?_, ?_, ?_⟩
  iterate 3 (first | rfl | simp only [go_sem, reduceIte, Nat.reduceEqDiff, Nat.reduceBEq, reduceCtorEq, Nat.reduceLT, Nat.reduceLeDiff, Nat.reduceAdd, Nat.reduceSub, Nat.reduceMul, Nat.reduceDiv, Int.reduceAdd, Int.reduceNeg, Int.reduceEq, Int.reduceLT, Int.reduceLE])
  obtain rfl := two_aug hb
  simp only [go_sem, reduceIte, Nat.reduceEqDiff, Nat.reduceBEq, reduceCtorEq, Nat.reduceLT, Nat.reduceLeDiff, Nat.reduceAdd, Nat.reduceSub, Nat.reduceMul, Nat.reduceDiv, Int.reduceAdd, Int.reduceNeg, Int.reduceEq, Int.reduceLT, Int.reduceLE]
  refine hKY _ ?_
  refine wlk_ret ?_
  simp only [go_sem, reduceIte, Nat.reduceEqDiff, Nat.reduceBEq, reduceCtorEq, Nat.reduceLT, Nat.reduceLeDiff, Nat.reduceAdd, Nat.reduceSub, Nat.reduceMul, Nat.reduceDiv, Int.reduceAdd, Int.reduceNeg, Int.reduceEq, Int.reduceLT, Int.reduceLE]
end Go.Proofs.Ytoefhbfgmceikaa
set_option maxRecDepth 100000
set_option maxHeartbeats 4000000
namespace Go.Proofs.Ytoefhbfgmceikaa
open Go Go.Ga Go.Ga.Gl
def pE (k : Nat) : Es := (List.range (k - 1)).map fun i => (i, i + 1)
def pV (k : Nat) : List Int := (List.range k).map fun i : Nat => (i : Int)
def bV : Nat → List Int
  | 0 => []
  | k + 1 => (k : Int) :: bV k
def mV (k : Nat) : List Int := List.replicate k (-1)
def mM (n : Nat) : Nat → List Int
  | 0 => mV n
  | j + 1 => ((mM n j).set (2 * j + 1) ((2 * j + 2 : Nat) : Int)).set (2 * j + 2) ((2 * j + 1 : Nat) : Int)
theorem pE_snoc {k : Nat} (h : 0 < k) : castE (pE k) ++ [(((k - 1 : Nat) : Int), (k : Int))] = castE (pE (k + 1)) := by
  obtain ⟨k, rfl⟩ : ∃ j, k = j + 1 := ⟨k - 1, by omega⟩
  simp [pE, castE, List.range_succ]
theorem pV_snoc (k : Nat) : pV k ++ [(k : Int)] = pV (k + 1) := by simp [pV, List.range_succ]
theorem mV_snoc (k : Nat) : mV k ++ [(-1 : Int)] = mV (k + 1) := by simp [mV, List.replicate_succ']
theorem pV_len (k : Nat) : (pV k).length = k := by simp [pV]
theorem bV_len (k : Nat) : (bV k).length = k := by induction k with | zero => rfl | succ k ih => simp [bV, ih]
theorem mV_len (k : Nat) : (mV k).length = k := by simp [mV]
theorem pE_len (k : Nat) : (pE k).length = k - 1 := by simp [pE]
theorem mM_len (n j : Nat) : (mM n j).length = n := by induction j with | zero => exact mV_len n | succ j ih => simp [mM, ih]
def turnedB (m : Nat) : Bool :=
  let n := 2 + 2 * m
  let es := pE n
  let mt := mM n m
  mateB n (castE es) mt && (augB n es mt (pV n) && (augB n es mt (bV n) && (decide (turnL mt (pV n) = turnL mt (bV n)) && (!augB n es mt ((pV n).take (n - 1)) && (altB n es mt ((pV n).take (n - 1)) && altB n es mt ((pV n).take 1))))))
theorem turned_all : ∀ m, m < 20 → turnedB m = true := by decide +kernel
structure Turned (n : Nat) (es : Es) (mt : List Int) : Prop where
  m : mateB n (castE es) mt = true
  p : augB n es mt (pV n) = true
  b : augB n es mt (bV n) = true
  e : turnL mt (pV n) = turnL mt (bV n)
  s : augB n es mt ((pV n).take (n - 1)) = false
  a : altB n es mt ((pV n).take (n - 1)) = true
  o : altB n es mt ((pV n).take 1) = true
theorem turned_is {m : Nat} (h : m < 20) : Turned (2 + 2 * m) (pE (2 + 2 * m)) (mM (2 + 2 * m) m) := by
  have := turned_all m h
  simp only [turnedB, Bool.and_eq_true, decide_eq_true_iff, Bool.not_eq_true'] at this
  obtain ⟨h1, h2, h3, h4, h5, h6, h7⟩ := this
  exact ⟨h1, h2, h3, h4, h5, h6, h7⟩
theorem onM_is {n : Nat} {es : Es} {m : List Int} {f : Nat → Es → Bool} (h : mateB n (castE es) m = true) {b : Bool} (h' : onM n (castE es) m f b) : b = f n es :=
  onM_unique h' (.inr ⟨h, n, es, rfl, rfl, rfl⟩)
theorem FP_is {n : Nat} {es : Es} {m l x : List Int} {e : Int} (hm : mateB n (castE es) m = true) (ha : augB n es m l = true) (h : FP n (castE es) m l x e) : x = turnL m l ∧ e = 0 :=
  h.unique (.inr (.inr ⟨hm, n, es, rfl, rfl, .inr ⟨ha, rfl, rfl⟩⟩))
theorem umod20 (x : Int) : ∃ m : Nat, m < 20 ∧ (IntKind.u64.wrap x).tmod 20 = (m : Int) := by
  rw [IntKind.wrap_u64]
  refine ⟨((x % 18446744073709551616).tmod 20).toNat, ?_, ?_⟩
  · rw [Int.tmod_eq_emod_of_nonneg (by omega)]; omega
  · rw [Int.tmod_eq_emod_of_nonneg (by omega)]; omega
theorem wturned_ok (x : Int) : ACalls Try.prog [] n_garlandlaw09_WalkTurned [.sc (.int .i64 x)] [] fun r h' => r = .sc (.bool true) ∧ h' = [] := by
  refine ACalls.trim ?_
  obtain ⟨m, hm, hmw⟩ := umod20 x
  have ht := turned_is hm
  have hmi : IntKind.i64.wrap (m : Int) = (m : Int) := IntWalk.i64_in _ (by omega)
  have hm2 : IntKind.i64.wrap (2 * (m : Int)) = ((2 * m : Nat) : Int) := by rw [IntWalk.i64_in _ (by omega)]; omega
  have hm3 : IntKind.i64.wrap (2 + ((2 * m : Nat) : Int)) = ((2 + 2 * m : Nat) : Int) := by rw [IntWalk.i64_in _ (by omega)]; omega
  refine go_garlandlaw09_WalkTurned rfl ?_
  unfold c_garlandlaw09_WalkTurned v_garlandlaw09_WalkTurned
  refine wlk_sreg fun KY hKY => ?_
  simp only [go_sem, reduceIte, Nat.reduceEqDiff, Nat.reduceBEq, reduceCtorEq, Nat.reduceLT, Nat.reduceLeDiff, Nat.reduceAdd, Nat.reduceSub, Nat.reduceMul, Nat.reduceDiv, Int.reduceAdd, Int.reduceNeg, Int.reduceEq, Int.reduceLT, Int.reduceLE, c_garlandlaw09_WalkTurned_r0]
  refine hKY _ ?_
  refine wlk_sreg fun KY hKY => ?_
  simp only [go_sem, reduceIte, Nat.reduceEqDiff, Nat.reduceBEq, reduceCtorEq, Nat.reduceLT, Nat.reduceLeDiff, Nat.reduceAdd, Nat.reduceSub, Nat.reduceMul, Nat.reduceDiv, Int.reduceAdd, Int.reduceNeg, Int.reduceEq, Int.reduceLT, Int.reduceLE, c_garlandlaw09_WalkTurned_r1, hmw, hmi, hm2, hm3]
  generalize hn : 2 + 2 * m = n at ht hm3
  refine hKY _ ?_
  refine wlk_sreg fun KY hKY => ?_
  simp only [go_sem, reduceIte, Nat.reduceEqDiff, Nat.reduceBEq, reduceCtorEq, Nat.reduceLT, Nat.reduceLeDiff, Nat.reduceAdd, Nat.reduceSub, Nat.reduceMul, Nat.reduceDiv, Int.reduceAdd, Int.reduceNeg, Int.reduceEq, Int.reduceLT, Int.reduceLE, c_garlandlaw09_WalkTurned_r2]
  refine hKY _ ?_
  refine sem_nil [0, 3, 1] 2 (by simp only [go_sem, reduceIte, Nat.reduceEqDiff, Nat.reduceBEq, reduceCtorEq, Nat.reduceLT, Nat.reduceLeDiff, Nat.reduceAdd, Nat.reduceSub, Nat.reduceMul, Nat.reduceDiv, Int.reduceAdd, Int.reduceNeg, Int.reduceEq, Int.reduceLT, Int.reduceLE]) ?_
  simp only [go_sem, reduceIte, Nat.reduceEqDiff, Nat.reduceBEq, reduceCtorEq, Nat.reduceLT, Nat.reduceLeDiff, Nat.reduceAdd, Nat.reduceSub, Nat.reduceMul, Nat.reduceDiv, Int.reduceAdd, Int.reduceNeg, Int.reduceEq, Int.reduceLT, Int.reduceLE]
  refine wlk_sreg fun KY hKY => ?_
  simp only [go_sem, reduceIte, Nat.reduceEqDiff, Nat.reduceBEq, reduceCtorEq, Nat.reduceLT, Nat.reduceLeDiff, Nat.reduceAdd, Nat.reduceSub, Nat.reduceMul, Nat.reduceDiv, Int.reduceAdd, Int.reduceNeg, Int.reduceEq, Int.reduceLT, Int.reduceLE, c_garlandlaw09_WalkTurned_r3]
  refine hKY _ ?_
  refine wlk_sreg fun KY hKY => ?_
  simp only [go_sem, reduceIte, Nat.reduceEqDiff, Nat.reduceBEq, reduceCtorEq, Nat.reduceLT, Nat.reduceLeDiff, Nat.reduceAdd, Nat.reduceSub, Nat.reduceMul, Nat.reduceDiv, Int.reduceAdd, Int.reduceNeg, Int.reduceEq, Int.reduceLT, Int.reduceLE, c_garlandlaw09_WalkTurned_r4]
  refine hKY _ ?_
  refine wlk_seq fun X1 hn1 he1 hr1 => ?_
  refine wlk_sreg fun KY hKY => ?_
  simp only [go_sem, reduceIte, Nat.reduceEqDiff, Nat.reduceBEq, reduceCtorEq, Nat.reduceLT, Nat.reduceLeDiff, Nat.reduceAdd, Nat.reduceSub, Nat.reduceMul, Nat.reduceDiv, Int.reduceAdd, Int.reduceNeg, Int.reduceEq, Int.reduceLT, Int.reduceLE, c_garlandlaw09_WalkTurned_r5]
  refine hKY _ ?_
  refine wlk_blk fun X2 hn2 he2 hf2 hr2 => ?_
  try simp only [go_sem, reduceIte, Nat.reduceEqDiff, Nat.reduceBEq, reduceCtorEq, Nat.reduceLT, Nat.reduceLeDiff, Nat.reduceAdd, Nat.reduceSub, Nat.reduceMul, Nat.reduceDiv, Int.reduceAdd, Int.reduceNeg, Int.reduceEq, Int.reduceLT, Int.reduceLE]
  refine wlk_lp (α := Nat) [27] (fun k => [(3, .own none [.sc (.int .i64 (n : Int)), .own (some 2) (twos (castE (pE k)))]), (4, .own (some 1) (ints (mV k))), (5, .own (some 1) (ints (pV k))), (6, .own (some 1) (ints (bV k))), (7, .sc (.int .i64 (k : Int)))]) (fun k => []) (fun k q => (1 ≤ k ∧ k ≤ n) ∧ q = n - k) (1) (n - 1) rfl (by first | (simp only [go_sem, reduceIte, Nat.reduceEqDiff, Nat.reduceBEq, reduceCtorEq, Nat.reduceLT, Nat.reduceLeDiff, Nat.reduceAdd, Nat.reduceSub, Nat.reduceMul, Nat.reduceDiv, Int.reduceAdd, Int.reduceNeg, Int.reduceEq, Int.reduceLT, Int.reduceLE, updAll_cons, updAll_nil]; done) | with_reducible rfl | rfl) (⟨by omega, rfl⟩) ?_
  rintro k q ⟨⟨hk1, hk⟩, rfl⟩ X3 hn3 he3 hr3
  simp only [go_sem, reduceIte, Nat.reduceEqDiff, Nat.reduceBEq, reduceCtorEq, Nat.reduceLT, Nat.reduceLeDiff, Nat.reduceAdd, Nat.reduceSub, Nat.reduceMul, Nat.reduceDiv, Int.reduceAdd, Int.reduceNeg, Int.reduceEq, Int.reduceLT, Int.reduceLE, updAll_cons, updAll_nil]
  rcases Nat.lt_or_ge k n with hk2 | hk2
  · have hdy : decide ((k : Int) < (n : Int)) = true := decide_eq_true (by omega)
    refine wlk_seq fun X4 hn4 he4 hr4 => ?_
    refine wlk_sreg fun KY hKY => ?_
    simp only [go_sem, reduceIte, Nat.reduceEqDiff, Nat.reduceBEq, reduceCtorEq, Nat.reduceLT, Nat.reduceLeDiff, Nat.reduceAdd, Nat.reduceSub, Nat.reduceMul, Nat.reduceDiv, Int.reduceAdd, Int.reduceNeg, Int.reduceEq, Int.reduceLT, Int.reduceLE, c_garlandlaw09_WalkTurned_r6, hdy]
    refine hKY _ ?_
    refine wlk_cond1 (by first | rfl | (simp only [go_sem, reduceIte, Nat.reduceEqDiff, Nat.reduceBEq, reduceCtorEq, Nat.reduceLT, Nat.reduceLeDiff, Nat.reduceAdd, Nat.reduceSub, Nat.reduceMul, Nat.reduceDiv, Int.reduceAdd, Int.reduceNeg, Int.reduceEq, Int.reduceLT, Int.reduceLE]; try simp (disch := omega) only [decide_eq_true, decide_eq_false])) ?_
    refine wlk_skip ?_
    repeat (first | refine hn4 _ ?_ | refine he4 _ _ ?_ | refine he3 _ _ ?_ | refine hn2 _ ?_ | refine he2 _ ?_ | refine hf2 _ _ (by decide) ?_ | refine hn1 _ ?_ | refine he1 _ _ ?_)
    refine wlk_seq fun X5 hn5 he5 hr5 => ?_
    refine wlk_blk fun X6 hn6 he6 hf6 hr6 => ?_
    have hd1 : IntKind.i64.wrap ((k : Int) - 1) = ((k - 1 : Nat) : Int) := by rw [IntWalk.i64_in _ (by omega)]; omega
    have hcons : AVal.sc (.int .i64 (k : Int)) :: ints (bV k) = ints (bV (k + 1)) := by simp [bV, ints]
    have hsz : (castE (pE k)).length = k - 1 := by rw [castE_len, pE_len]
    refine wlk_sreg fun KY hKY => ?_
    simp only [go_sem, reduceIte, Nat.reduceEqDiff, Nat.reduceBEq, reduceCtorEq, Nat.reduceLT, Nat.reduceLeDiff, Nat.reduceAdd, Nat.reduceSub, Nat.reduceMul, Nat.reduceDiv, Int.reduceAdd, Int.reduceNeg, Int.reduceEq, Int.reduceLT, Int.reduceLE, c_garlandlaw09_WalkTurned_r7, hd1, twos_snoc, pE_snoc hk1, twos_len, hsz, (show ((k - 1) * 2 + 2) * 16 ≤ 140737488355328 by omega)]
    refine hKY _ ?_
    refine wlk_sreg fun KY hKY => ?_
    simp only [go_sem, reduceIte, Nat.reduceEqDiff, Nat.reduceBEq, reduceCtorEq, Nat.reduceLT, Nat.reduceLeDiff, Nat.reduceAdd, Nat.reduceSub, Nat.reduceMul, Nat.reduceDiv, Int.reduceAdd, Int.reduceNeg, Int.reduceEq, Int.reduceLT, Int.reduceLE, c_garlandlaw09_WalkTurned_r8, ints_snoc, mV_snoc, ints_len, mV_len, (show (k + 1) * 8 ≤ 140737488355328 by omega)]
    refine hKY _ ?_
    refine wlk_sreg fun KY hKY => ?_
    simp only [go_sem, reduceIte, Nat.reduceEqDiff, Nat.reduceBEq, reduceCtorEq, Nat.reduceLT, Nat.reduceLeDiff, Nat.reduceAdd, Nat.reduceSub, Nat.reduceMul, Nat.reduceDiv, Int.reduceAdd, Int.reduceNeg, Int.reduceEq, Int.reduceLT, Int.reduceLE, c_garlandlaw09_WalkTurned_r9, ints_snoc, pV_snoc, ints_len, pV_len, (show (k + 1) * 8 ≤ 140737488355328 by omega)]
    refine hKY _ ?_
    refine wlk_reg fun KY hKY => ?_
    simp only [go_sem, reduceIte, Nat.reduceEqDiff, Nat.reduceBEq, reduceCtorEq, Nat.reduceLT, Nat.reduceLeDiff, Nat.reduceAdd, Nat.reduceSub, Nat.reduceMul, Nat.reduceDiv, Int.reduceAdd, Int.reduceNeg, Int.reduceEq, Int.reduceLT, Int.reduceLE, c_garlandlaw09_WalkTurned_r10, hcons, ints_len, bV_len, (show (1 + k) * 8 ≤ 140737488355328 by omega)]
    refine hKY _ ?_
    repeat (first | refine hn6 _ ?_ | refine he6 _ ?_ | refine hf6 _ _ (by decide) ?_ | refine hn5 _ ?_ | refine he5 _ _ ?_ | refine hn4 _ ?_ | refine he4 _ _ ?_ | refine he3 _ _ ?_ | refine hn2 _ ?_ | refine he2 _ ?_ | refine hf2 _ _ (by decide) ?_ | refine hn1 _ ?_ | refine he1 _ _ ?_)
    refine wlk_reg fun KY hKY => ?_
    simp only [go_sem, reduceIte, Nat.reduceEqDiff, Nat.reduceBEq, reduceCtorEq, Nat.reduceLT, Nat.reduceLeDiff, Nat.reduceAdd, Nat.reduceSub, Nat.reduceMul, Nat.reduceDiv, Int.reduceAdd, Int.reduceNeg, Int.reduceEq, Int.reduceLT, Int.reduceLE, c_garlandlaw09_WalkTurned_r11, incS (show k < 4611686018427387904 by omega)]
    refine hKY _ ?_
    repeat (first | refine hn6 _ ?_ | refine he6 _ ?_ | refine hf6 _ _ (by decide) ?_ | refine hn5 _ ?_ | refine he5 _ _ ?_ | refine hn4 _ ?_ | refine he4 _ _ ?_)
    refine hn3 _ (k + 1) (n - (k + 1)) (by omega) (by first | (simp only [go_sem, reduceIte, Nat.reduceEqDiff, Nat.reduceBEq, reduceCtorEq, Nat.reduceLT, Nat.reduceLeDiff, Nat.reduceAdd, Nat.reduceSub, Nat.reduceMul, Nat.reduceDiv, Int.reduceAdd, Int.reduceNeg, Int.reduceEq, Int.reduceLT, Int.reduceLE, updAll_cons, updAll_nil]; done) | with_reducible rfl) ?_
    exact ⟨⟨by omega, by omega⟩, rfl⟩
  obtain rfl : n = k := by omega
  have hdx : decide ((n : Int) < (n : Int)) = false := decide_eq_false (by omega)
  refine wlk_seq fun X7 hn7 he7 hr7 => ?_
  refine wlk_sreg fun KY hKY => ?_
  simp only [go_sem, reduceIte, Nat.reduceEqDiff, Nat.reduceBEq, reduceCtorEq, Nat.reduceLT, Nat.reduceLeDiff, Nat.reduceAdd, Nat.reduceSub, Nat.reduceMul, Nat.reduceDiv, Int.reduceAdd, Int.reduceNeg, Int.reduceEq, Int.reduceLT, Int.reduceLE, c_garlandlaw09_WalkTurned_r6, hdx]
  refine hKY _ ?_
  refine wlk_cond0 (by first | rfl | (simp only [go_sem, reduceIte, Nat.reduceEqDiff, Nat.reduceBEq, reduceCtorEq, Nat.reduceLT, Nat.reduceLeDiff, Nat.reduceAdd, Nat.reduceSub, Nat.reduceMul, Nat.reduceDiv, Int.reduceAdd, Int.reduceNeg, Int.reduceEq, Int.reduceLT, Int.reduceLE]; try simp (disch := omega) only [decide_eq_true, decide_eq_false])) ?_
  refine wlk_exit ?_
  repeat (first | refine hn7 _ ?_ | refine he7 _ _ ?_ | refine he3 _ _ ?_ | refine hn2 _ ?_ | refine he2 _ ?_ | refine hf2 _ _ (by decide) ?_ | refine hn1 _ ?_ | refine he1 _ _ ?_)
  simp only [go_sem, reduceIte, Nat.reduceEqDiff, Nat.reduceBEq, reduceCtorEq, Nat.reduceLT, Nat.reduceLeDiff, Nat.reduceAdd, Nat.reduceSub, Nat.reduceMul, Nat.reduceDiv, Int.reduceAdd, Int.reduceNeg, Int.reduceEq, Int.reduceLT, Int.reduceLE]
  refine wlk_seq fun X8 hn8 he8 hr8 => ?_
  refine wlk_sreg fun KY hKY => ?_
  simp only [go_sem, reduceIte, Nat.reduceEqDiff, Nat.reduceBEq, reduceCtorEq, Nat.reduceLT, Nat.reduceLeDiff, Nat.reduceAdd, Nat.reduceSub, Nat.reduceMul, Nat.reduceDiv, Int.reduceAdd, Int.reduceNeg, Int.reduceEq, Int.reduceLT, Int.reduceLE, c_garlandlaw09_WalkTurned_r12]
  refine hKY _ ?_
  refine wlk_blk fun X9 hn9 he9 hf9 hr9 => ?_
  have hnn : n = 2 + 2 * m := hn.symm
  try simp only [go_sem, reduceIte, Nat.reduceEqDiff, Nat.reduceBEq, reduceCtorEq, Nat.reduceLT, Nat.reduceLeDiff, Nat.reduceAdd, Nat.reduceSub, Nat.reduceMul, Nat.reduceDiv, Int.reduceAdd, Int.reduceNeg, Int.reduceEq, Int.reduceLT, Int.reduceLE]
  refine wlk_lp (α := Nat) [53] (fun j => [(4, .own (some 1) (ints (mM n j))), (8, .sc (.int .i64 ((2 * j + 1 : Nat) : Int)))]) (fun j => []) (fun j q => j ≤ m ∧ q = m - j) (0) (m) rfl (by first | (simp only [go_sem, reduceIte, Nat.reduceEqDiff, Nat.reduceBEq, reduceCtorEq, Nat.reduceLT, Nat.reduceLeDiff, Nat.reduceAdd, Nat.reduceSub, Nat.reduceMul, Nat.reduceDiv, Int.reduceAdd, Int.reduceNeg, Int.reduceEq, Int.reduceLT, Int.reduceLE, updAll_cons, updAll_nil]; done) | with_reducible rfl | rfl) (⟨by omega, rfl⟩) ?_
  rintro j q ⟨hk, rfl⟩ X10 hn10 he10 hr10
  simp only [go_sem, reduceIte, Nat.reduceEqDiff, Nat.reduceBEq, reduceCtorEq, Nat.reduceLT, Nat.reduceLeDiff, Nat.reduceAdd, Nat.reduceSub, Nat.reduceMul, Nat.reduceDiv, Int.reduceAdd, Int.reduceNeg, Int.reduceEq, Int.reduceLT, Int.reduceLE, updAll_cons, updAll_nil]
  rcases Nat.lt_or_ge j m with hk2 | hk2
  · have hdyz : decide (((2 * j + 2 : Nat) : Int) < (n : Int)) = true := decide_eq_true (by omega)
    refine wlk_seq fun X11 hn11 he11 hr11 => ?_
    have hj1 : IntKind.i64.wrap (((2 * j + 1 : Nat) : Int) + 1) = ((2 * j + 2 : Nat) : Int) := by rw [IntWalk.i64_in _ (by omega)]; omega
    refine wlk_sreg fun KY hKY => ?_
    simp only [go_sem, reduceIte, Nat.reduceEqDiff, Nat.reduceBEq, reduceCtorEq, Nat.reduceLT, Nat.reduceLeDiff, Nat.reduceAdd, Nat.reduceSub, Nat.reduceMul, Nat.reduceDiv, Int.reduceAdd, Int.reduceNeg, Int.reduceEq, Int.reduceLT, Int.reduceLE, c_garlandlaw09_WalkTurned_r13, hj1, hdyz]
    refine hKY _ ?_
    refine wlk_cond1 (by first | rfl | (simp only [go_sem, reduceIte, Nat.reduceEqDiff, Nat.reduceBEq, reduceCtorEq, Nat.reduceLT, Nat.reduceLeDiff, Nat.reduceAdd, Nat.reduceSub, Nat.reduceMul, Nat.reduceDiv, Int.reduceAdd, Int.reduceNeg, Int.reduceEq, Int.reduceLT, Int.reduceLE]; try simp (disch := omega) only [decide_eq_true, decide_eq_false])) ?_
    refine wlk_skip ?_
    repeat (first | refine hn11 _ ?_ | refine he11 _ _ ?_ | refine he10 _ _ ?_ | refine hn9 _ ?_ | refine he9 _ ?_ | refine hf9 _ _ (by decide) ?_ | refine hn8 _ ?_ | refine he8 _ _ ?_ | refine hn7 _ ?_ | refine he7 _ _ ?_)
    refine wlk_seq fun X12 hn12 he12 hr12 => ?_
    refine wlk_blk fun X13 hn13 he13 hf13 hr13 => ?_
    have hM := mM_len n j
    have hl1 : 2 * j + 1 < n := by omega
    have hl2 : 2 * j + 2 < n := by omega
    have hset : ((mM n j).set (2 * j + 1) ((2 * j + 2 : Nat) : Int)).set (2 * j + 2) ((2 * j + 1 : Nat) : Int) = mM n (j + 1) := rfl
    generalize hG : mM n (j + 1) = M' at hset
    generalize mM n j = M at hM hset
    refine wlk_reg fun KY hKY => ?_
    simp only [go_sem, reduceIte, Nat.reduceEqDiff, Nat.reduceBEq, reduceCtorEq, Nat.reduceLT, Nat.reduceLeDiff, Nat.reduceAdd, Nat.reduceSub, Nat.reduceMul, Nat.reduceDiv, Int.reduceAdd, Int.reduceNeg, Int.reduceEq, Int.reduceLT, Int.reduceLE, c_garlandlaw09_WalkTurned_r14, hj1, ints_len, hM, hl1, hl2, List.length_set, ints_set, hset]
    refine hKY _ ?_
    repeat (first | refine hn13 _ ?_ | refine he13 _ ?_ | refine hf13 _ _ (by decide) ?_ | refine hn12 _ ?_ | refine he12 _ _ ?_ | refine hn11 _ ?_ | refine he11 _ _ ?_ | refine he10 _ _ ?_ | refine hn9 _ ?_ | refine he9 _ ?_ | refine hf9 _ _ (by decide) ?_ | refine hn8 _ ?_ | refine he8 _ _ ?_ | refine hn7 _ ?_ | refine he7 _ _ ?_)
    have hi2 : IntKind.i64.wrap (((2 * j + 1 : Nat) : Int) + 2) = ((2 * (j + 1) + 1 : Nat) : Int) := by rw [IntWalk.i64_in _ (by omega)]; omega
    refine wlk_reg fun KY hKY => ?_
    simp only [go_sem, reduceIte, Nat.reduceEqDiff, Nat.reduceBEq, reduceCtorEq, Nat.reduceLT, Nat.reduceLeDiff, Nat.reduceAdd, Nat.reduceSub, Nat.reduceMul, Nat.reduceDiv, Int.reduceAdd, Int.reduceNeg, Int.reduceEq, Int.reduceLT, Int.reduceLE, c_garlandlaw09_WalkTurned_r15, hi2]
    refine hKY _ ?_
    repeat (first | refine hn13 _ ?_ | refine he13 _ ?_ | refine hf13 _ _ (by decide) ?_ | refine hn12 _ ?_ | refine he12 _ _ ?_ | refine hn11 _ ?_ | refine he11 _ _ ?_)
    refine hn10 _ (j + 1) (m - (j + 1)) (by omega) (by first | (simp only [go_sem, reduceIte, Nat.reduceEqDiff, Nat.reduceBEq, reduceCtorEq, Nat.reduceLT, Nat.reduceLeDiff, Nat.reduceAdd, Nat.reduceSub, Nat.reduceMul, Nat.reduceDiv, Int.reduceAdd, Int.reduceNeg, Int.reduceEq, Int.reduceLT, Int.reduceLE, updAll_cons, updAll_nil, hG]; done) | with_reducible rfl) ?_
    exact ⟨by omega, rfl⟩
  obtain rfl : m = j := by omega
  have hj1 : IntKind.i64.wrap (((2 * m + 1 : Nat) : Int) + 1) = ((2 * m + 2 : Nat) : Int) := by rw [IntWalk.i64_in _ (by omega)]; omega
  have hdx : decide (((2 * m + 2 : Nat) : Int) < (n : Int)) = false := decide_eq_false (by omega)
  refine wlk_seq fun X14 hn14 he14 hr14 => ?_
  refine wlk_sreg fun KY hKY => ?_
  simp only [go_sem, reduceIte, Nat.reduceEqDiff, Nat.reduceBEq, reduceCtorEq, Nat.reduceLT, Nat.reduceLeDiff, Nat.reduceAdd, Nat.reduceSub, Nat.reduceMul, Nat.reduceDiv, Int.reduceAdd, Int.reduceNeg, Int.reduceEq, Int.reduceLT, Int.reduceLE, c_garlandlaw09_WalkTurned_r13, hj1, hdx]
  refine hKY _ ?_
  refine wlk_cond0 (by first | rfl | (simp only [go_sem, reduceIte, Nat.reduceEqDiff, Nat.reduceBEq, reduceCtorEq, Nat.reduceLT, Nat.reduceLeDiff, Nat.reduceAdd, Nat.reduceSub, Nat.reduceMul, Nat.reduceDiv, Int.reduceAdd, Int.reduceNeg, Int.reduceEq, Int.reduceLT, Int.reduceLE]; try simp (disch := omega) only [decide_eq_true, decide_eq_false])) ?_
  refine wlk_exit ?_
  repeat (first | refine hn14 _ ?_ | refine he14 _ _ ?_ | refine he10 _ _ ?_ | refine hn9 _ ?_ | refine he9 _ ?_ | refine hf9 _ _ (by decide) ?_ | refine hn8 _ ?_ | refine he8 _ _ ?_ | refine hn7 _ ?_ | refine he7 _ _ ?_ | refine he3 _ _ ?_ | refine hn2 _ ?_ | refine he2 _ ?_ | refine hf2 _ _ (by decide) ?_ | refine hn1 _ ?_ | refine he1 _ _ ?_)
  have hM := mM_len n m
  generalize mM n m = M at ht hM
  simp only [go_sem, reduceIte, Nat.reduceEqDiff, Nat.reduceBEq, reduceCtorEq, Nat.reduceLT, Nat.reduceLeDiff, Nat.reduceAdd, Nat.reduceSub, Nat.reduceMul, Nat.reduceDiv, Int.reduceAdd, Int.reduceNeg, Int.reduceEq, Int.reduceLT, Int.reduceLE]
  refine sem_freeze [0, 3, 1] (by simp only [go_sem, reduceIte, Nat.reduceEqDiff, Nat.reduceBEq, reduceCtorEq, Nat.reduceLT, Nat.reduceLeDiff, Nat.reduceAdd, Nat.reduceSub, Nat.reduceMul, Nat.reduceDiv, Int.reduceAdd, Int.reduceNeg, Int.reduceEq, Int.reduceLT, Int.reduceLE]; rfl) ?_
  simp only [go_sem, reduceIte, Nat.reduceEqDiff, Nat.reduceBEq, reduceCtorEq, Nat.reduceLT, Nat.reduceLeDiff, Nat.reduceAdd, Nat.reduceSub, Nat.reduceMul, Nat.reduceDiv, Int.reduceAdd, Int.reduceNeg, Int.reduceEq, Int.reduceLT, Int.reduceLE]
  refine sem_freeze [0, 4] (by simp only [go_sem, reduceIte, Nat.reduceEqDiff, Nat.reduceBEq, reduceCtorEq, Nat.reduceLT, Nat.reduceLeDiff, Nat.reduceAdd, Nat.reduceSub, Nat.reduceMul, Nat.reduceDiv, Int.reduceAdd, Int.reduceNeg, Int.reduceEq, Int.reduceLT, Int.reduceLE]; rfl) ?_
  simp only [go_sem, reduceIte, Nat.reduceEqDiff, Nat.reduceBEq, reduceCtorEq, Nat.reduceLT, Nat.reduceLeDiff, Nat.reduceAdd, Nat.reduceSub, Nat.reduceMul, Nat.reduceDiv, Int.reduceAdd, Int.reduceNeg, Int.reduceEq, Int.reduceLT, Int.reduceLE]
  refine sem_freeze [0, 5] (by simp only [go_sem, reduceIte, Nat.reduceEqDiff, Nat.reduceBEq, reduceCtorEq, Nat.reduceLT, Nat.reduceLeDiff, Nat.reduceAdd, Nat.reduceSub, Nat.reduceMul, Nat.reduceDiv, Int.reduceAdd, Int.reduceNeg, Int.reduceEq, Int.reduceLT, Int.reduceLE]; rfl) ?_
  simp only [go_sem, reduceIte, Nat.reduceEqDiff, Nat.reduceBEq, reduceCtorEq, Nat.reduceLT, Nat.reduceLeDiff, Nat.reduceAdd, Nat.reduceSub, Nat.reduceMul, Nat.reduceDiv, Int.reduceAdd, Int.reduceNeg, Int.reduceEq, Int.reduceLT, Int.reduceLE]
  refine sem_freeze [0, 6] (by simp only [go_sem, reduceIte, Nat.reduceEqDiff, Nat.reduceBEq, reduceCtorEq, Nat.reduceLT, Nat.reduceLeDiff, Nat.reduceAdd, Nat.reduceSub, Nat.reduceMul, Nat.reduceDiv, Int.reduceAdd, Int.reduceNeg, Int.reduceEq, Int.reduceLT, Int.reduceLE]; rfl) ?_
  simp only [go_sem, reduceIte, Nat.reduceEqDiff, Nat.reduceBEq, reduceCtorEq, Nat.reduceLT, Nat.reduceLeDiff, Nat.reduceAdd, Nat.reduceSub, Nat.reduceMul, Nat.reduceDiv, Int.reduceAdd, Int.reduceNeg, Int.reduceEq, Int.reduceLT, Int.reduceLE]
  have hfp := wflip_ok n (castE (pE n)) M (pV n) (by omega) (by rw [pV_len]; omega)
  have hfb := wflip_ok n (castE (pE n)) M (bV n) (by omega) (by rw [bV_len]; omega)
  have hgp := waugments_ok n (castE (pE n)) M (pV n) (by rw [pV_len]; omega)
  have hgb := waugments_ok n (castE (pE n)) M (bV n) (by rw [bV_len]; omega)
  have hgs := waugments_ok n (castE (pE n)) M ((pV n).take (n - 1)) (by rw [List.length_take, pV_len]; omega)
  have has := walternates_ok n (castE (pE n)) M ((pV n).take (n - 1)) (by rw [List.length_take, pV_len]; omega)
  have ha1 := walternates_ok n (castE (pE n)) M ((pV n).take 1) (by rw [List.length_take, pV_len]; omega)
  refine wlk_sreg fun KY hKY => ?_
  simp only [go_sem, reduceIte, Nat.reduceEqDiff, Nat.reduceBEq, reduceCtorEq, Nat.reduceLT, Nat.reduceLeDiff, Nat.reduceAdd, Nat.reduceSub, Nat.reduceMul, Nat.reduceDiv, Int.reduceAdd, Int.reduceNeg, Int.reduceEq, Int.reduceLT, Int.reduceLE, c_garlandlaw09_WalkTurned_r16]
  refine call_view rfl (by simp only [go_sem, reduceIte, Nat.reduceEqDiff, Nat.reduceBEq, reduceCtorEq, Nat.reduceLT, Nat.reduceLeDiff, Nat.reduceAdd, Nat.reduceSub, Nat.reduceMul, Nat.reduceDiv, Int.reduceAdd, Int.reduceNeg, Int.reduceEq, Int.reduceLT, Int.reduceLE] <;> rfl) ((hfp).mono ?_)
  rintro rr hh ⟨⟨x, e, hxe, rfl⟩, rfl⟩
  refine ⟨?_, ?_, ?_, ?_⟩
  iterate 3 (first | rfl | simp only [go_sem, reduceIte, Nat.reduceEqDiff, Nat.reduceBEq, reduceCtorEq, Nat.reduceLT, Nat.reduceLeDiff, Nat.reduceAdd, Nat.reduceSub, Nat.reduceMul, Nat.reduceDiv, Int.reduceAdd, Int.reduceNeg, Int.reduceEq, Int.reduceLT, Int.reduceLE])
  obtain ⟨rfl, rfl⟩ := FP_is ht.m ht.p hxe
  simp only [go_sem, reduceIte, Nat.reduceEqDiff, Nat.reduceBEq, reduceCtorEq, Nat.reduceLT, Nat.reduceLeDiff, Nat.reduceAdd, Nat.reduceSub, Nat.reduceMul, Nat.reduceDiv, Int.reduceAdd, Int.reduceNeg, Int.reduceEq, Int.reduceLT, Int.reduceLE]
  refine hKY _ ?_
  refine wlk_sreg fun KY hKY => ?_
  simp only [go_sem, reduceIte, Nat.reduceEqDiff, Nat.reduceBEq, reduceCtorEq, Nat.reduceLT, Nat.reduceLeDiff, Nat.reduceAdd, Nat.reduceSub, Nat.reduceMul, Nat.reduceDiv, Int.reduceAdd, Int.reduceNeg, Int.reduceEq, Int.reduceLT, Int.reduceLE, c_garlandlaw09_WalkTurned_r17]
  refine call_view rfl (by simp only [go_sem, reduceIte, Nat.reduceEqDiff, Nat.reduceBEq, reduceCtorEq, Nat.reduceLT, Nat.reduceLeDiff, Nat.reduceAdd, Nat.reduceSub, Nat.reduceMul, Nat.reduceDiv, Int.reduceAdd, Int.reduceNeg, Int.reduceEq, Int.reduceLT, Int.reduceLE] <;> rfl) ((hfb).mono ?_)
  rintro rr hh ⟨⟨x, e, hxe, rfl⟩, rfl⟩
  refine ⟨?_, ?_, ?_, ?_⟩
  iterate 3 (first | rfl | simp only [go_sem, reduceIte, Nat.reduceEqDiff, Nat.reduceBEq, reduceCtorEq, Nat.reduceLT, Nat.reduceLeDiff, Nat.reduceAdd, Nat.reduceSub, Nat.reduceMul, Nat.reduceDiv, Int.reduceAdd, Int.reduceNeg, Int.reduceEq, Int.reduceLT, Int.reduceLE])
  obtain ⟨rfl, rfl⟩ := FP_is ht.m ht.b hxe
  simp only [go_sem, reduceIte, Nat.reduceEqDiff, Nat.reduceBEq, reduceCtorEq, Nat.reduceLT, Nat.reduceLeDiff, Nat.reduceAdd, Nat.reduceSub, Nat.reduceMul, Nat.reduceDiv, Int.reduceAdd, Int.reduceNeg, Int.reduceEq, Int.reduceLT, Int.reduceLE, ← ht.e]
  refine hKY _ ?_
  have hn1 : IntKind.i64.wrap ((n : Int) - 1) = ((n - 1 : Nat) : Int) := by rw [IntWalk.i64_in _ (by omega)]; omega
  refine wlk_sreg fun KY hKY => ?_
  simp only [go_sem, reduceIte, Nat.reduceEqDiff, Nat.reduceBEq, reduceCtorEq, Nat.reduceLT, Nat.reduceLeDiff, Nat.reduceAdd, Nat.reduceSub, Nat.reduceMul, Nat.reduceDiv, Int.reduceAdd, Int.reduceNeg, Int.reduceEq, Int.reduceLT, Int.reduceLE, c_garlandlaw09_WalkTurned_r18, hn1, ints_len, pV_len, (show n - 1 ≤ n by omega), cut_ints, List.drop_zero, Nat.sub_zero]
  refine hKY _ ?_
  refine wlk_sdraw fun KY hKY => ?_
  simp only [go_sem, reduceIte, Nat.reduceEqDiff, Nat.reduceBEq, reduceCtorEq, Nat.reduceLT, Nat.reduceLeDiff, Nat.reduceAdd, Nat.reduceSub, Nat.reduceMul, Nat.reduceDiv, Int.reduceAdd, Int.reduceNeg, Int.reduceEq, Int.reduceLT, Int.reduceLE, c_garlandlaw09_WalkTurned_r19]
  refine call_view rfl (by simp only [go_sem, reduceIte, Nat.reduceEqDiff, Nat.reduceBEq, reduceCtorEq, Nat.reduceLT, Nat.reduceLeDiff, Nat.reduceAdd, Nat.reduceSub, Nat.reduceMul, Nat.reduceDiv, Int.reduceAdd, Int.reduceNeg, Int.reduceEq, Int.reduceLT, Int.reduceLE] <;> rfl) ((awake09_ok).mono ?_)
  rintro rr hh ⟨rfl, rfl⟩
  refine ⟨rfl, rfl, rfl, ?_⟩
  simp only [go_sem, reduceIte, Nat.reduceEqDiff, Nat.reduceBEq, reduceCtorEq, Nat.reduceLT, Nat.reduceLeDiff, Nat.reduceAdd, Nat.reduceSub, Nat.reduceMul, Nat.reduceDiv, Int.reduceAdd, Int.reduceNeg, Int.reduceEq, Int.reduceLT, Int.reduceLE]
  refine call_view rfl (by simp only [go_sem, reduceIte, Nat.reduceEqDiff, Nat.reduceBEq, reduceCtorEq, Nat.reduceLT, Nat.reduceLeDiff, Nat.reduceAdd, Nat.reduceSub, Nat.reduceMul, Nat.reduceDiv, Int.reduceAdd, Int.reduceNeg, Int.reduceEq, Int.reduceLT, Int.reduceLE] <;> rfl) ((hgp).mono ?_)
  rintro rr hh ⟨⟨b, hb, rfl⟩, rfl⟩
  refine ⟨?_, ?_, ?_, ?_⟩
  iterate 3 (first | rfl | simp only [go_sem, reduceIte, Nat.reduceEqDiff, Nat.reduceBEq, reduceCtorEq, Nat.reduceLT, Nat.reduceLeDiff, Nat.reduceAdd, Nat.reduceSub, Nat.reduceMul, Nat.reduceDiv, Int.reduceAdd, Int.reduceNeg, Int.reduceEq, Int.reduceLT, Int.reduceLE])
  obtain rfl := onM_is ht.m hb
  simp only [go_sem, reduceIte, Nat.reduceEqDiff, Nat.reduceBEq, reduceCtorEq, Nat.reduceLT, Nat.reduceLeDiff, Nat.reduceAdd, Nat.reduceSub, Nat.reduceMul, Nat.reduceDiv, Int.reduceAdd, Int.reduceNeg, Int.reduceEq, Int.reduceLT, Int.reduceLE, ht.p]
  refine call_view rfl (by simp only [go_sem, reduceIte, Nat.reduceEqDiff, Nat.reduceBEq, reduceCtorEq, Nat.reduceLT, Nat.reduceLeDiff, Nat.reduceAdd, Nat.reduceSub, Nat.reduceMul, Nat.reduceDiv, Int.reduceAdd, Int.reduceNeg, Int.reduceEq, Int.reduceLT, Int.reduceLE] <;> rfl) ((hgb).mono ?_)
  rintro rr hh ⟨⟨b, hb, rfl⟩, rfl⟩
  refine ⟨?_, ?_, ?_, ?_⟩
  iterate 3 (first | rfl | simp only [go_sem, reduceIte, Nat.reduceEqDiff, Nat.reduceBEq, reduceCtorEq, Nat.reduceLT, Nat.reduceLeDiff, Nat.reduceAdd, Nat.reduceSub, Nat.reduceMul, Nat.reduceDiv, Int.reduceAdd, Int.reduceNeg, Int.reduceEq, Int.reduceLT, Int.reduceLE])
  obtain rfl := onM_is ht.m hb
  simp only [go_sem, reduceIte, Nat.reduceEqDiff, Nat.reduceBEq, reduceCtorEq, Nat.reduceLT, Nat.reduceLeDiff, Nat.reduceAdd, Nat.reduceSub, Nat.reduceMul, Nat.reduceDiv, Int.reduceAdd, Int.reduceNeg, Int.reduceEq, Int.reduceLT, Int.reduceLE, ht.b, beq_self_eq_true]
  refine call_view rfl (by simp only [go_sem, reduceIte, Nat.reduceEqDiff, Nat.reduceBEq, reduceCtorEq, Nat.reduceLT, Nat.reduceLeDiff, Nat.reduceAdd, Nat.reduceSub, Nat.reduceMul, Nat.reduceDiv, Int.reduceAdd, Int.reduceNeg, Int.reduceEq, Int.reduceLT, Int.reduceLE] <;> rfl) ((plaini_ok (turnL M (pV n)) (turnL M (pV n)) (by rw [turnL_len]; omega)).mono ?_)
  rintro rr hh ⟨rfl, rfl⟩
  refine ⟨rfl, rfl, rfl, ?_⟩
  simp only [go_sem, reduceIte, Nat.reduceEqDiff, Nat.reduceBEq, reduceCtorEq, Nat.reduceLT, Nat.reduceLeDiff, Nat.reduceAdd, Nat.reduceSub, Nat.reduceMul, Nat.reduceDiv, Int.reduceAdd, Int.reduceNeg, Int.reduceEq, Int.reduceLT, Int.reduceLE, decide_true, eq_self]
  refine call_view rfl (by simp only [go_sem, reduceIte, Nat.reduceEqDiff, Nat.reduceBEq, reduceCtorEq, Nat.reduceLT, Nat.reduceLeDiff, Nat.reduceAdd, Nat.reduceSub, Nat.reduceMul, Nat.reduceDiv, Int.reduceAdd, Int.reduceNeg, Int.reduceEq, Int.reduceLT, Int.reduceLE] <;> rfl) ((hgs).mono ?_)
  rintro rr hh ⟨⟨b, hb, rfl⟩, rfl⟩
  refine ⟨?_, ?_, ?_, ?_⟩
  iterate 3 (first | rfl | simp only [go_sem, reduceIte, Nat.reduceEqDiff, Nat.reduceBEq, reduceCtorEq, Nat.reduceLT, Nat.reduceLeDiff, Nat.reduceAdd, Nat.reduceSub, Nat.reduceMul, Nat.reduceDiv, Int.reduceAdd, Int.reduceNeg, Int.reduceEq, Int.reduceLT, Int.reduceLE])
  obtain rfl := onM_is ht.m hb
  simp only [go_sem, reduceIte, Nat.reduceEqDiff, Nat.reduceBEq, reduceCtorEq, Nat.reduceLT, Nat.reduceLeDiff, Nat.reduceAdd, Nat.reduceSub, Nat.reduceMul, Nat.reduceDiv, Int.reduceAdd, Int.reduceNeg, Int.reduceEq, Int.reduceLT, Int.reduceLE, ht.s]
  refine call_view rfl (by simp only [go_sem, reduceIte, Nat.reduceEqDiff, Nat.reduceBEq, reduceCtorEq, Nat.reduceLT, Nat.reduceLeDiff, Nat.reduceAdd, Nat.reduceSub, Nat.reduceMul, Nat.reduceDiv, Int.reduceAdd, Int.reduceNeg, Int.reduceEq, Int.reduceLT, Int.reduceLE] <;> rfl) ((has).mono ?_)
  rintro rr hh ⟨⟨b, hb, rfl⟩, rfl⟩
  refine ⟨?_, ?_, ?_, ?_⟩
  iterate 3 (first | rfl | simp only [go_sem, reduceIte, Nat.reduceEqDiff, Nat.reduceBEq, reduceCtorEq, Nat.reduceLT, Nat.reduceLeDiff, Nat.reduceAdd, Nat.reduceSub, Nat.reduceMul, Nat.reduceDiv, Int.reduceAdd, Int.reduceNeg, Int.reduceEq, Int.reduceLT, Int.reduceLE])
  obtain rfl := onM_is ht.m hb
  simp only [go_sem, reduceIte, Nat.reduceEqDiff, Nat.reduceBEq, reduceCtorEq, Nat.reduceLT, Nat.reduceLeDiff, Nat.reduceAdd, Nat.reduceSub, Nat.reduceMul, Nat.reduceDiv, Int.reduceAdd, Int.reduceNeg, Int.reduceEq, Int.reduceLT, Int.reduceLE, ht.a, ints_len, pV_len, (show 1 ≤ n by omega), cut_ints, List.drop_zero, Nat.sub_zero]
  refine call_view rfl (by simp only [go_sem, reduceIte, Nat.reduceEqDiff, Nat.reduceBEq, reduceCtorEq, Nat.reduceLT, Nat.reduceLeDiff, Nat.reduceAdd, Nat.reduceSub, Nat.reduceMul, Nat.reduceDiv, Int.reduceAdd, Int.reduceNeg, Int.reduceEq, Int.reduceLT, Int.reduceLE] <;> rfl) ((ha1).mono ?_)
  rintro rr hh ⟨⟨b, hb, rfl⟩, rfl⟩
  refine ⟨?_, ?_, ?_, ?_⟩
  iterate 3 (first | rfl | simp only [go_sem, reduceIte, Nat.reduceEqDiff, Nat.reduceBEq, reduceCtorEq, Nat.reduceLT, Nat.reduceLeDiff, Nat.reduceAdd, Nat.reduceSub, Nat.reduceMul, Nat.reduceDiv, Int.reduceAdd, Int.reduceNeg, Int.reduceEq, Int.reduceLT, Int.reduceLE])
  obtain rfl := onM_is ht.m hb
  simp only [go_sem, reduceIte, Nat.reduceEqDiff, Nat.reduceBEq, reduceCtorEq, Nat.reduceLT, Nat.reduceLeDiff, Nat.reduceAdd, Nat.reduceSub, Nat.reduceMul, Nat.reduceDiv, Int.reduceAdd, Int.reduceNeg, Int.reduceEq, Int.reduceLT, Int.reduceLE, ht.o]
  refine hKY _ ?_
  refine wlk_ret ?_
  repeat (first | refine hr14 _ ?_ | refine hr10 _ ?_ | refine hr9 _ ?_ | refine hr8 _ ?_ | refine hr7 _ ?_ | refine hr3 _ ?_ | refine hr2 _ ?_ | refine hr1 _ ?_)
  simp only [go_sem, reduceIte, Nat.reduceEqDiff, Nat.reduceBEq, reduceCtorEq, Nat.reduceLT, Nat.reduceLeDiff, Nat.reduceAdd, Nat.reduceSub, Nat.reduceMul, Nat.reduceDiv, Int.reduceAdd, Int.reduceNeg, Int.reduceEq, Int.reduceLT, Int.reduceLE]
end Go.Proofs.Ytoefhbfgmceikaa
namespace Go.Proofs.Ytoefhbfgmceikaa
open Go Go.Ga Go.Ga.Gl
theorem walkTurned_all (As : List AVal) (b : Nat) (h : SAs Try.prog Try.f4.params.toList As b) (hb : b ≤ 1048576) : ACalls Try.prog [] 4 As [] fun r _ => r = .sc (.bool true) := by
  rw [Try.params4] at h
  obtain ⟨A1, As1, c1, d1, rfl, rfl, h1, h⟩ := sas_cons h
  obtain rfl := sas_nil h
  obtain ⟨x1, rfl, w1⟩ := sa_int Try.underlying3 h1
  exact (wturned_ok x1).mono fun _ _ h => h.1
end Go.Proofs.Ytoefhbfgmceikaa
namespace Go.Proofs.Ytoefhbfgmceikaa.walkTurnedend
open Go Go.Ga Go.ChangeShapes Go.WideShapes Go.ChangeAt Go.RowKit
theorem own : ownKnob Try.prog.godebug = none := by kernel_rfl
mutual
theorem bulk_at {H : Type} : ∀ d : DataW H, Rows.uptoBulk d = bulk d
  | .lit l => by cases l <;> simp [Rows.uptoBulk, bulk]
  | .nil => by simp [Rows.uptoBulk, bulk]
  | .ptr d => by simp [Rows.uptoBulk, bulk, bulk_at d]
  | .slice e s => by simp [Rows.uptoBulk, bulk, bulk_eq e, bulk_eq s]
  | .agg p => by simp [Rows.uptoBulk, bulk, bulk_eq p]
  | .iface _ d => by simp [Rows.uptoBulk, bulk, bulk_at d]
  | .map e => by simp [Rows.uptoBulk, bulk, bulk_es e]
  | .held _ => by simp [Rows.uptoBulk, bulk]
theorem bulk_eq {H : Type} : ∀ l : List (DataW H), Rows.uptoBulkAll l = bulkL l
  | [] => by simp [Rows.uptoBulkAll, bulkL]
  | d :: r => by simp [Rows.uptoBulkAll, bulkL, bulk_at d, bulk_eq r]
theorem bulk_es {H : Type} : ∀ l : List (Lit × DataW H), Rows.uptoBulkEntries l = bulkE l
  | [] => by simp [Rows.uptoBulkEntries, bulkE]
  | d :: r => by simp [Rows.uptoBulkEntries, bulkE, bulk_e d, bulk_es r]
theorem bulk_e {H : Type} : ∀ d : Lit × DataW H, Rows.uptoBulkEntry d = bulk1 d
  | (l, d) => by cases l <;> simp [Rows.uptoBulkEntry, bulk1, bulk_at d]
end
set_option maxRecDepth 100000 in
theorem plain : Plain Try.prog [3] := plain_of (by kernel_rfl)
set_option maxRecDepth 100000 in
theorem contract (H : Type) (enc : TypeId × Value → H) (W : World) (base : Nat) (args : Array Value) (ds gs : List (DataW H)) (before : List MemPlace)
    (hval : ∀ (j : Nat) t v, Try.f4.params[j]? = some t → args[j]? = some v → Value.okWide Try.prog W .any base t v)
    (hW : DataW.Whole enc Try.prog Try.f4.params.toList Rows.walkTurnedSpec.vars false W args.toList ds gs before) (hk : Rows.uptoSmall H (ds ++ gs) = true) :
    Calls Try.prog 4 args W fun e W' => ∃ v, e = .returned v ∧ Rows.walkTurnedSpec.post enc Try.prog Try.f4 false true false false W args v W' := by
  have hW' := hW
  obtain ⟨p, q, hA, hV, rfl, hfz, hnd⟩ := hW
  obtain ⟨rfl, rfl⟩ := Go.Ga.trodVars_nil hV
  have hb : bulkL (ds ++ []) ≤ 1048576 := by rw [← bulk_eq]; exact of_decide_eq_true hk
  have r0 : DataW.TrodAll enc Try.prog W 0 (fun _ => true) true Try.f4.params.toList args.toList ds p := hA
  rw [Try.params4] at r0
  obtain ⟨v0, vs0, d0, ds0, p0, q0, hv0, rfl, rfl, h0, r1⟩ := trodAll_cons r0
  obtain ⟨rfl, rfl, rfl⟩ := trodAll_nil r1
  exact contract_true plain hval (by rw [Try.params4]; decide) hW' rfl rfl rfl rfl (tb := 4) (by kernel_rfl) Try.underlying4 hb walkTurned_all
set_option maxRecDepth 100000 in
theorem lifted (os : Os) (started : os.Started) (H : Type) (enc : TypeId × Value → H) (F : Stop.Interp) :
    ReturnsInHanded {} Try.checked os 4 .any ((Rows.OpenSpec.upto Rows.walkTurnedSpec).pre6 enc Try.prog Try.f4 Rows.walkTurnedUptoRow.domain false) (((Rows.OpenSpec.upto Rows.walkTurnedSpec).at F).post enc Try.prog Try.f4 false true false false) := by
  refine returnsInHanded_of_cond (C := Try.checked) (s := Rows.OpenSpec.upto Rows.walkTurnedSpec) (k := Rows.uptoSmall) rfl own started (by kernel_rfl) Try.func4
    (OpenSpec.witness (enc := enc) (C := Try.checked) (s := Rows.OpenSpec.upto Rows.walkTurnedSpec) (k := Rows.uptoSmall) rfl false ⟨#[], #[.int .i64 0], []⟩ 8 (by kernel_rfl) (by kernel_rfl) (by kernel_rfl)
      (x := ([.lit (.int .i64 0)], [], [])) (by kernel_rfl) rfl (by kernel_rfl)) ?_
  intro W base args ds gs before hval hW _ hk _
  exact contract H enc W base args ds gs before hval hW hk
theorem holds : Rows.WalkTurnedUptoSaid :=
  OpenClaim.holds_of_cond 4 Try.f4 rfl rfl rfl rfl rfl rfl rfl ⟨rfl, rfl, rfl, rfl, rfl⟩ rfl rfl rfl rfl rfl (by kernel_rfl) Try.func4 (by kernel_rfl)
    (of_decide_eq_true (by kernel_rfl)) (by unfold Func.isWrapper; first | (rw [if_pos (by decide +kernel)]; kernel_rfl) | (rw [if_neg (by decide +kernel)]; exact ⟨rfl, rfl⟩))
    (fun os started H enc _ F => lifted os started H enc F)
end Go.Proofs.Ytoefhbfgmceikaa.walkTurnedend
