/- The pieces between two matchings: walked. -/
import Derived.Test.YtoefhbfgmceikaaWe3
import Derived.Test.YtoefhbfgmceikaaGgogopl5
import Derived.WalkKit
import Derived.ProofKit
import Derived.OpenShut
import Derived.JoinedCond
set_option linter.all false
set_option maxRecDepth 100000
set_option maxHeartbeats 4000000
namespace Go.Proofs.Ytoefhbfgmceikaa
open Go Go.Ga Go.Ga.Gl
theorem wown_ok (n : Int) (es : List (Int × Int)) (m : List Int) {a : Nat} (b : Int) (ha : a < m.length) : ACalls Try.prog [] n_walk_ways_own [.agg [.sc (.int .i64 n), .imm 2 (twos es), .imm 1 (ints m)], .sc (.int .i64 (a : Int)), .sc (.int .i64 b)] [] fun r h' => r = .sc (.bool (decide (m.getD a 0 = b))) ∧ h' = [] := by
  refine ACalls.trim ?_
  refine go_walk_ways_own rfl ?_
  unfold c_walk_ways_own v_walk_ways_own
  refine wlk_sreg fun KY hKY => ?_
  simp only [go_sem, reduceIte, Nat.reduceEqDiff, Nat.reduceBEq, reduceCtorEq, Nat.reduceLT, Nat.reduceLeDiff, Nat.reduceAdd, Nat.reduceSub, Nat.reduceMul, Nat.reduceDiv, Int.reduceAdd, Int.reduceNeg, Int.reduceEq, Int.reduceLT, Int.reduceLE, c_walk_ways_own_r0]
  refine hKY _ ?_
  refine wlk_sreg fun KY hKY => ?_
  simp only [go_sem, reduceIte, Nat.reduceEqDiff, Nat.reduceBEq, reduceCtorEq, Nat.reduceLT, Nat.reduceLeDiff, Nat.reduceAdd, Nat.reduceSub, Nat.reduceMul, Nat.reduceDiv, Int.reduceAdd, Int.reduceNeg, Int.reduceEq, Int.reduceLT, Int.reduceLE, c_walk_ways_own_r1, ints_get ha, ha, ints_len]
  refine hKY _ ?_
  refine wlk_ret ?_
  simp only [go_sem, reduceIte, Nat.reduceEqDiff, Nat.reduceBEq, reduceCtorEq, Nat.reduceLT, Nat.reduceLeDiff, Nat.reduceAdd, Nat.reduceSub, Nat.reduceMul, Nat.reduceDiv, Int.reduceAdd, Int.reduceNeg, Int.reduceEq, Int.reduceLT, Int.reduceLE]
def ownB (m : List Int) (a b : Int) : Bool := decide (m.getD a.toNat 0 = b)
def altS (m l : List Int) (i : Nat) : Bool := ownB m (l.getD (i - 2) 0) (l.getD (i - 1) 0) != ownB m (l.getD (i - 1) 0) (l.getD i 0)
def altB (N : Nat) (es : Es) (m l : List Int) : Bool := pathB N es l && (List.range l.length).all fun i => decide (i < 2) || altS m l i
theorem path_in {N : Nat} {es : Es} {l : List Int} (h : pathB N es l = true) {i : Nat} (hi : i < l.length) : ∃ a : Nat, l.getD i 0 = a ∧ a < N := by
  unfold pathB at h
  rw [Bool.and_eq_true, List.all_eq_true] at h
  have := h.2 i (List.mem_range.2 hi)
  unfold pStep at this
  rw [Bool.and_eq_true, Bool.and_eq_true, decide_eq_true_iff, decide_eq_true_iff] at this
  exact ⟨(l.getD i 0).toNat, by omega, by omega⟩
theorem altB_no {N : Nat} {es : Es} {m l : List Int} {k : Nat} (h : k < l.length) (h2 : 2 ≤ k) (hf : altS m l k = false) : altB N es m l = false := by
  unfold altB
  have : ((List.range l.length).all fun i => decide (i < 2) || altS m l i) = false := by
    rw [Bool.eq_false_iff]; intro h'
    rw [List.all_eq_true] at h'
    have := h' k (List.mem_range.2 h)
    rw [hf, decide_eq_false (by omega)] at this; cases this
  rw [this, Bool.and_false]
theorem walt_ok {N : Nat} {es : Es} (g : GR N es) (m : List Int) (hm : m.length = N) (l : List Int) (hl : l.length ≤ 1000000) : ACalls Try.prog [] n_walk_ways_alternates [.agg [.sc (.int .i64 (N : Int)), .imm 2 (twos (castE es)), .imm 1 (ints m)], .imm 1 (ints l)] [] fun r h' => r = .sc (.bool (altB N es m l)) ∧ h' = [] := by
  refine ACalls.trim ?_
  have hN := g.hn
  have hp := wpath_ok g (.imm 1 (ints m)) rfl l hl
  refine go_walk_ways_alternates rfl ?_
  unfold c_walk_ways_alternates v_walk_ways_alternates
  refine wlk_sreg fun KY hKY => ?_
  simp only [go_sem, reduceIte, Nat.reduceEqDiff, Nat.reduceBEq, reduceCtorEq, Nat.reduceLT, Nat.reduceLeDiff, Nat.reduceAdd, Nat.reduceSub, Nat.reduceMul, Nat.reduceDiv, Int.reduceAdd, Int.reduceNeg, Int.reduceEq, Int.reduceLT, Int.reduceLE, c_walk_ways_alternates_r0]
  refine hKY _ ?_
  refine wlk_seq fun X1 hn1 he1 hr1 => ?_
  cases hpb : pathB N es l with
  | false =>
    rw [hpb] at hp
    refine wlk_sreg fun KY hKY => ?_
    simp only [go_sem, reduceIte, Nat.reduceEqDiff, Nat.reduceBEq, reduceCtorEq, Nat.reduceLT, Nat.reduceLeDiff, Nat.reduceAdd, Nat.reduceSub, Nat.reduceMul, Nat.reduceDiv, Int.reduceAdd, Int.reduceNeg, Int.reduceEq, Int.reduceLT, Int.reduceLE, c_walk_ways_alternates_r1]
    refine call_view rfl (by simp only [go_sem, reduceIte, Nat.reduceEqDiff, Nat.reduceBEq, reduceCtorEq, Nat.reduceLT, Nat.reduceLeDiff, Nat.reduceAdd, Nat.reduceSub, Nat.reduceMul, Nat.reduceDiv, Int.reduceAdd, Int.reduceNeg, Int.reduceEq, Int.reduceLT, Int.reduceLE] <;> rfl) ((hp).mono ?_)
    rintro rr hh ⟨rfl, rfl⟩
    refine ⟨rfl, rfl, rfl, ?_⟩
    simp only [go_sem, reduceIte, Nat.reduceEqDiff, Nat.reduceBEq, reduceCtorEq, Nat.reduceLT, Nat.reduceLeDiff, Nat.reduceAdd, Nat.reduceSub, Nat.reduceMul, Nat.reduceDiv, Int.reduceAdd, Int.reduceNeg, Int.reduceEq, Int.reduceLT, Int.reduceLE]
    refine hKY _ ?_
    refine wlk_cond1 (by first | rfl | (simp only [go_sem, reduceIte, Nat.reduceEqDiff, Nat.reduceBEq, reduceCtorEq, Nat.reduceLT, Nat.reduceLeDiff, Nat.reduceAdd, Nat.reduceSub, Nat.reduceMul, Nat.reduceDiv, Int.reduceAdd, Int.reduceNeg, Int.reduceEq, Int.reduceLT, Int.reduceLE]; try simp (disch := omega) only [decide_eq_true, decide_eq_false])) ?_
    refine wlk_sreg fun KY hKY => ?_
    simp only [go_sem, reduceIte, Nat.reduceEqDiff, Nat.reduceBEq, reduceCtorEq, Nat.reduceLT, Nat.reduceLeDiff, Nat.reduceAdd, Nat.reduceSub, Nat.reduceMul, Nat.reduceDiv, Int.reduceAdd, Int.reduceNeg, Int.reduceEq, Int.reduceLT, Int.reduceLE, c_walk_ways_alternates_r2]
    refine hKY _ ?_
    refine wlk_ret ?_
    repeat (first | refine hr1 _ ?_)
    simp only [go_sem, reduceIte, Nat.reduceEqDiff, Nat.reduceBEq, reduceCtorEq, Nat.reduceLT, Nat.reduceLeDiff, Nat.reduceAdd, Nat.reduceSub, Nat.reduceMul, Nat.reduceDiv, Int.reduceAdd, Int.reduceNeg, Int.reduceEq, Int.reduceLT, Int.reduceLE]
    unfold altB; rw [hpb]; rfl
  | true =>
  rw [hpb] at hp
  refine wlk_sreg fun KY hKY => ?_
  simp only [go_sem, reduceIte, Nat.reduceEqDiff, Nat.reduceBEq, reduceCtorEq, Nat.reduceLT, Nat.reduceLeDiff, Nat.reduceAdd, Nat.reduceSub, Nat.reduceMul, Nat.reduceDiv, Int.reduceAdd, Int.reduceNeg, Int.reduceEq, Int.reduceLT, Int.reduceLE, c_walk_ways_alternates_r1]
  refine call_view rfl (by simp only [go_sem, reduceIte, Nat.reduceEqDiff, Nat.reduceBEq, reduceCtorEq, Nat.reduceLT, Nat.reduceLeDiff, Nat.reduceAdd, Nat.reduceSub, Nat.reduceMul, Nat.reduceDiv, Int.reduceAdd, Int.reduceNeg, Int.reduceEq, Int.reduceLT, Int.reduceLE] <;> rfl) ((hp).mono ?_)
  rintro rr hh ⟨rfl, rfl⟩
  refine ⟨rfl, rfl, rfl, ?_⟩
  simp only [go_sem, reduceIte, Nat.reduceEqDiff, Nat.reduceBEq, reduceCtorEq, Nat.reduceLT, Nat.reduceLeDiff, Nat.reduceAdd, Nat.reduceSub, Nat.reduceMul, Nat.reduceDiv, Int.reduceAdd, Int.reduceNeg, Int.reduceEq, Int.reduceLT, Int.reduceLE]
  refine hKY _ ?_
  refine wlk_cond0 (by first | rfl | (simp only [go_sem, reduceIte, Nat.reduceEqDiff, Nat.reduceBEq, reduceCtorEq, Nat.reduceLT, Nat.reduceLeDiff, Nat.reduceAdd, Nat.reduceSub, Nat.reduceMul, Nat.reduceDiv, Int.reduceAdd, Int.reduceNeg, Int.reduceEq, Int.reduceLT, Int.reduceLE]; try simp (disch := omega) only [decide_eq_true, decide_eq_false])) ?_
  refine wlk_skip ?_
  repeat (first | refine hn1 _ ?_ | refine he1 _ _ ?_)
  refine wlk_sreg fun KY hKY => ?_
  simp only [go_sem, reduceIte, Nat.reduceEqDiff, Nat.reduceBEq, reduceCtorEq, Nat.reduceLT, Nat.reduceLeDiff, Nat.reduceAdd, Nat.reduceSub, Nat.reduceMul, Nat.reduceDiv, Int.reduceAdd, Int.reduceNeg, Int.reduceEq, Int.reduceLT, Int.reduceLE, c_walk_ways_alternates_r3]
  refine hKY _ ?_
  refine wlk_seq fun X2 hn2 he2 hr2 => ?_
  refine wlk_sreg fun KY hKY => ?_
  simp only [go_sem, reduceIte, Nat.reduceEqDiff, Nat.reduceBEq, reduceCtorEq, Nat.reduceLT, Nat.reduceLeDiff, Nat.reduceAdd, Nat.reduceSub, Nat.reduceMul, Nat.reduceDiv, Int.reduceAdd, Int.reduceNeg, Int.reduceEq, Int.reduceLT, Int.reduceLE, c_walk_ways_alternates_r4]
  refine hKY _ ?_
  refine wlk_blk fun X3 hn3 he3 hf3 hr3 => ?_
  try simp only [go_sem, reduceIte, Nat.reduceEqDiff, Nat.reduceBEq, reduceCtorEq, Nat.reduceLT, Nat.reduceLeDiff, Nat.reduceAdd, Nat.reduceSub, Nat.reduceMul, Nat.reduceDiv, Int.reduceAdd, Int.reduceNeg, Int.reduceEq, Int.reduceLT, Int.reduceLE]
  refine wlk_lp (α := Nat) [16, 42] (fun k => [(6, .sc (.int .i64 ((k + 2 : Nat) : Int)))]) (fun k => []) (fun k q => q = l.length - k ∧ (∀ i, i < k + 2 → i < l.length → (decide (i < 2) || altS m l i) = true)) (0) (l.length) rfl (by first | (simp only [go_sem, reduceIte, Nat.reduceEqDiff, Nat.reduceBEq, reduceCtorEq, Nat.reduceLT, Nat.reduceLeDiff, Nat.reduceAdd, Nat.reduceSub, Nat.reduceMul, Nat.reduceDiv, Int.reduceAdd, Int.reduceNeg, Int.reduceEq, Int.reduceLT, Int.reduceLE, updAll_cons, updAll_nil]; done) | with_reducible rfl | rfl) (⟨rfl, fun i h _ => by rw [decide_eq_true (by omega)]; rfl⟩) ?_
  rintro k q ⟨rfl, hz⟩ X4 hn4 he4 hr4
  simp only [go_sem, reduceIte, Nat.reduceEqDiff, Nat.reduceBEq, reduceCtorEq, Nat.reduceLT, Nat.reduceLeDiff, Nat.reduceAdd, Nat.reduceSub, Nat.reduceMul, Nat.reduceDiv, Int.reduceAdd, Int.reduceNeg, Int.reduceEq, Int.reduceLT, Int.reduceLE, updAll_cons, updAll_nil]
  refine wlk_seq fun X5 hn5 he5 hr5 => ?_
  rcases Nat.lt_or_ge (k + 2) l.length with hk2 | hk2
  · have hdy : decide (((k + 2 : Nat) : Int) < (l.length : Int)) = true := decide_eq_true (by omega)
    refine wlk_sreg fun KY hKY => ?_
    simp only [go_sem, reduceIte, Nat.reduceEqDiff, Nat.reduceBEq, reduceCtorEq, Nat.reduceLT, Nat.reduceLeDiff, Nat.reduceAdd, Nat.reduceSub, Nat.reduceMul, Nat.reduceDiv, Int.reduceAdd, Int.reduceNeg, Int.reduceEq, Int.reduceLT, Int.reduceLE, c_walk_ways_alternates_r5, ints_len, hdy]
    refine hKY _ ?_
    refine wlk_cond1 (by first | rfl | (simp only [go_sem, reduceIte, Nat.reduceEqDiff, Nat.reduceBEq, reduceCtorEq, Nat.reduceLT, Nat.reduceLeDiff, Nat.reduceAdd, Nat.reduceSub, Nat.reduceMul, Nat.reduceDiv, Int.reduceAdd, Int.reduceNeg, Int.reduceEq, Int.reduceLT, Int.reduceLE]; try simp (disch := omega) only [decide_eq_true, decide_eq_false])) ?_
    refine wlk_skip ?_
    repeat (first | refine hn5 _ ?_ | refine he5 _ _ ?_ | refine he4 _ _ ?_ | refine hn3 _ ?_ | refine he3 _ ?_ | refine hf3 _ _ (by decide) ?_ | refine hn2 _ ?_ | refine he2 _ _ ?_ | refine hn1 _ ?_ | refine he1 _ _ ?_)
    refine wlk_seq fun X6 hn6 he6 hr6 => ?_
    refine wlk_blk fun X7 hn7 he7 hf7 hr7 => ?_
    have hk0 : k < l.length := by omega
    have hk1 : k + 1 < l.length := by omega
    obtain ⟨a, ha, haN⟩ := path_in hpb hk0
    obtain ⟨b, hb, hbN⟩ := path_in hpb hk1
    have hd2 : IntKind.i64.wrap (((k + 2 : Nat) : Int) - 2) = (k : Int) := by rw [IntWalk.i64_in _ (by omega)]; omega
    have hd1 : IntKind.i64.wrap (((k + 2 : Nat) : Int) - 1) = ((k + 1 : Nat) : Int) := by rw [IntWalk.i64_in _ (by omega)]; omega
    have hga : (ints l)[k]? = some (.sc (.int .i64 (a : Int))) := by rw [ints_get hk0, ha]
    have hgb : (ints l)[k + 1]? = some (.sc (.int .i64 (b : Int))) := by rw [ints_get hk1, hb]
    have hA : altS m l (k + 2) = (decide (m.getD a 0 = (b : Int)) != decide (m.getD b 0 = l.getD (k + 2) 0)) := by
      unfold altS ownB
      rw [show k + 2 - 2 = k by omega, show k + 2 - 1 = k + 1 by omega, ha, hb]; rfl
    refine wlk_sdraw fun KY hKY => ?_
    simp only [go_sem, reduceIte, Nat.reduceEqDiff, Nat.reduceBEq, reduceCtorEq, Nat.reduceLT, Nat.reduceLeDiff, Nat.reduceAdd, Nat.reduceSub, Nat.reduceMul, Nat.reduceDiv, Int.reduceAdd, Int.reduceNeg, Int.reduceEq, Int.reduceLT, Int.reduceLE, c_walk_ways_alternates_r6, hd2, hd1, hga, hgb, ints_get hk2, hk0, hk1, hk2, ints_len]
    refine call_view rfl (by simp only [go_sem, reduceIte, Nat.reduceEqDiff, Nat.reduceBEq, reduceCtorEq, Nat.reduceLT, Nat.reduceLeDiff, Nat.reduceAdd, Nat.reduceSub, Nat.reduceMul, Nat.reduceDiv, Int.reduceAdd, Int.reduceNeg, Int.reduceEq, Int.reduceLT, Int.reduceLE] <;> rfl) ((wown_ok N (castE es) m (b : Int) (show a < m.length by omega)).mono ?_)
    rintro rr hh ⟨rfl, rfl⟩
    refine ⟨rfl, rfl, rfl, ?_⟩
    simp only [go_sem, reduceIte, Nat.reduceEqDiff, Nat.reduceBEq, reduceCtorEq, Nat.reduceLT, Nat.reduceLeDiff, Nat.reduceAdd, Nat.reduceSub, Nat.reduceMul, Nat.reduceDiv, Int.reduceAdd, Int.reduceNeg, Int.reduceEq, Int.reduceLT, Int.reduceLE]
    refine call_view rfl (by simp only [go_sem, reduceIte, Nat.reduceEqDiff, Nat.reduceBEq, reduceCtorEq, Nat.reduceLT, Nat.reduceLeDiff, Nat.reduceAdd, Nat.reduceSub, Nat.reduceMul, Nat.reduceDiv, Int.reduceAdd, Int.reduceNeg, Int.reduceEq, Int.reduceLT, Int.reduceLE] <;> rfl) ((wown_ok N (castE es) m (l.getD (k + 2) 0) (show b < m.length by omega)).mono ?_)
    rintro rr hh ⟨rfl, rfl⟩
    refine ⟨rfl, rfl, rfl, ?_⟩
    cases hx : (decide (m.getD a 0 = (b : Int)) == decide (m.getD b 0 = l.getD (k + 2) 0)) with
    | true =>
      have hno : altS m l (k + 2) = false := by rw [hA, bne, hx]; rfl
      simp only [go_sem, reduceIte, Nat.reduceEqDiff, Nat.reduceBEq, reduceCtorEq, Nat.reduceLT, Nat.reduceLeDiff, Nat.reduceAdd, Nat.reduceSub, Nat.reduceMul, Nat.reduceDiv, Int.reduceAdd, Int.reduceNeg, Int.reduceEq, Int.reduceLT, Int.reduceLE, hx]
      refine hKY _ ?_
      refine wlk_cond1 (by first | rfl | (simp only [go_sem, reduceIte, Nat.reduceEqDiff, Nat.reduceBEq, reduceCtorEq, Nat.reduceLT, Nat.reduceLeDiff, Nat.reduceAdd, Nat.reduceSub, Nat.reduceMul, Nat.reduceDiv, Int.reduceAdd, Int.reduceNeg, Int.reduceEq, Int.reduceLT, Int.reduceLE]; try simp (disch := omega) only [decide_eq_true, decide_eq_false])) ?_
      refine wlk_sreg fun KY hKY => ?_
      simp only [go_sem, reduceIte, Nat.reduceEqDiff, Nat.reduceBEq, reduceCtorEq, Nat.reduceLT, Nat.reduceLeDiff, Nat.reduceAdd, Nat.reduceSub, Nat.reduceMul, Nat.reduceDiv, Int.reduceAdd, Int.reduceNeg, Int.reduceEq, Int.reduceLT, Int.reduceLE, c_walk_ways_alternates_r7]
      refine hKY _ ?_
      refine wlk_ret ?_
      repeat (first | refine hr7 _ ?_ | refine hr6 _ ?_ | refine hr5 _ ?_ | refine hr4 _ ?_ | refine hr3 _ ?_ | refine hr2 _ ?_ | refine hr1 _ ?_)
      simp only [go_sem, reduceIte, Nat.reduceEqDiff, Nat.reduceBEq, reduceCtorEq, Nat.reduceLT, Nat.reduceLeDiff, Nat.reduceAdd, Nat.reduceSub, Nat.reduceMul, Nat.reduceDiv, Int.reduceAdd, Int.reduceNeg, Int.reduceEq, Int.reduceLT, Int.reduceLE]
      rw [altB_no hk2 (by omega) hno]
    | false =>
      have hyes : altS m l (k + 2) = true := by rw [hA, bne, hx]; rfl
      simp only [go_sem, reduceIte, Nat.reduceEqDiff, Nat.reduceBEq, reduceCtorEq, Nat.reduceLT, Nat.reduceLeDiff, Nat.reduceAdd, Nat.reduceSub, Nat.reduceMul, Nat.reduceDiv, Int.reduceAdd, Int.reduceNeg, Int.reduceEq, Int.reduceLT, Int.reduceLE, hx]
      refine hKY _ ?_
      refine wlk_cond0 (by first | rfl | (simp only [go_sem, reduceIte, Nat.reduceEqDiff, Nat.reduceBEq, reduceCtorEq, Nat.reduceLT, Nat.reduceLeDiff, Nat.reduceAdd, Nat.reduceSub, Nat.reduceMul, Nat.reduceDiv, Int.reduceAdd, Int.reduceNeg, Int.reduceEq, Int.reduceLT, Int.reduceLE]; try simp (disch := omega) only [decide_eq_true, decide_eq_false])) ?_
      refine wlk_skip ?_
      repeat (first | refine hn7 _ ?_ | refine he7 _ ?_ | refine hf7 _ _ (by decide) ?_ | refine hn6 _ ?_ | refine he6 _ _ ?_ | refine hn5 _ ?_ | refine he5 _ _ ?_ | refine he4 _ _ ?_ | refine hn3 _ ?_ | refine he3 _ ?_ | refine hf3 _ _ (by decide) ?_ | refine hn2 _ ?_ | refine he2 _ _ ?_ | refine hn1 _ ?_ | refine he1 _ _ ?_)
      refine wlk_reg fun KY hKY => ?_
      simp only [go_sem, reduceIte, Nat.reduceEqDiff, Nat.reduceBEq, reduceCtorEq, Nat.reduceLT, Nat.reduceLeDiff, Nat.reduceAdd, Nat.reduceSub, Nat.reduceMul, Nat.reduceDiv, Int.reduceAdd, Int.reduceNeg, Int.reduceEq, Int.reduceLT, Int.reduceLE, c_walk_ways_alternates_r8, incS (show k + 2 < 4611686018427387904 by omega)]
      refine hKY _ ?_
      repeat (first | refine hn7 _ ?_ | refine he7 _ ?_ | refine hf7 _ _ (by decide) ?_ | refine hn6 _ ?_ | refine he6 _ _ ?_ | refine hn5 _ ?_ | refine he5 _ _ ?_)
      refine hn4 _ (k + 1) (l.length - (k + 1)) (by omega) (by first | (simp only [go_sem, reduceIte, Nat.reduceEqDiff, Nat.reduceBEq, reduceCtorEq, Nat.reduceLT, Nat.reduceLeDiff, Nat.reduceAdd, Nat.reduceSub, Nat.reduceMul, Nat.reduceDiv, Int.reduceAdd, Int.reduceNeg, Int.reduceEq, Int.reduceLT, Int.reduceLE, updAll_cons, updAll_nil, (show k + 1 + 2 = k + 2 + 1 from rfl)]; done) | with_reducible rfl) ?_
      refine ⟨rfl, fun i hi hil => ?_⟩
      rcases Nat.lt_or_ge i (k + 2) with h3 | h3
      · exact hz i h3 hil
      · obtain rfl : i = k + 2 := by omega
        rw [hyes, Bool.or_true]
  have hdx : decide (((k + 2 : Nat) : Int) < (l.length : Int)) = false := decide_eq_false (by omega)
  refine wlk_sreg fun KY hKY => ?_
  simp only [go_sem, reduceIte, Nat.reduceEqDiff, Nat.reduceBEq, reduceCtorEq, Nat.reduceLT, Nat.reduceLeDiff, Nat.reduceAdd, Nat.reduceSub, Nat.reduceMul, Nat.reduceDiv, Int.reduceAdd, Int.reduceNeg, Int.reduceEq, Int.reduceLT, Int.reduceLE, c_walk_ways_alternates_r5, ints_len, hdx]
  refine hKY _ ?_
  refine wlk_cond0 (by first | rfl | (simp only [go_sem, reduceIte, Nat.reduceEqDiff, Nat.reduceBEq, reduceCtorEq, Nat.reduceLT, Nat.reduceLeDiff, Nat.reduceAdd, Nat.reduceSub, Nat.reduceMul, Nat.reduceDiv, Int.reduceAdd, Int.reduceNeg, Int.reduceEq, Int.reduceLT, Int.reduceLE]; try simp (disch := omega) only [decide_eq_true, decide_eq_false])) ?_
  refine wlk_exit ?_
  repeat (first | refine hn5 _ ?_ | refine he5 _ _ ?_ | refine he4 _ _ ?_ | refine hn3 _ ?_ | refine he3 _ ?_ | refine hf3 _ _ (by decide) ?_ | refine hn2 _ ?_ | refine he2 _ _ ?_ | refine hn1 _ ?_ | refine he1 _ _ ?_)
  refine wlk_sreg fun KY hKY => ?_
  simp only [go_sem, reduceIte, Nat.reduceEqDiff, Nat.reduceBEq, reduceCtorEq, Nat.reduceLT, Nat.reduceLeDiff, Nat.reduceAdd, Nat.reduceSub, Nat.reduceMul, Nat.reduceDiv, Int.reduceAdd, Int.reduceNeg, Int.reduceEq, Int.reduceLT, Int.reduceLE, c_walk_ways_alternates_r9]
  refine hKY _ ?_
  refine wlk_ret ?_
  repeat (first | refine hr5 _ ?_ | refine hr4 _ ?_ | refine hr3 _ ?_ | refine hr2 _ ?_ | refine hr1 _ ?_)
  simp only [go_sem, reduceIte, Nat.reduceEqDiff, Nat.reduceBEq, reduceCtorEq, Nat.reduceLT, Nat.reduceLeDiff, Nat.reduceAdd, Nat.reduceSub, Nat.reduceMul, Nat.reduceDiv, Int.reduceAdd, Int.reduceNeg, Int.reduceEq, Int.reduceLT, Int.reduceLE]
  unfold altB
  rw [hpb, Bool.true_and, show ((List.range l.length).all fun i => decide (i < 2) || altS m l i) = true from List.all_eq_true.2 fun i hi => hz i (by have := List.mem_range.1 hi; omega) (List.mem_range.1 hi)]
def augB (N : Nat) (es : Es) (m l : List Int) : Bool := decide (2 ≤ l.length) && (altB N es m l && (decide (m.getD (l.getD 0 0).toNat 0 < 0) && decide (m.getD (l.getD (l.length - 1) 0).toNat 0 < 0)))
theorem waug_ok {N : Nat} {es : Es} (g : GR N es) (m : List Int) (hm : m.length = N) (l : List Int) (hl : l.length ≤ 1000000) : ACalls Try.prog [] n_walk_ways_augments [.agg [.sc (.int .i64 (N : Int)), .imm 2 (twos (castE es)), .imm 1 (ints m)], .imm 1 (ints l)] [] fun r h' => r = .sc (.bool (augB N es m l)) ∧ h' = [] := by
  refine ACalls.trim ?_
  have hp := walt_ok g m hm l hl
  refine go_walk_ways_augments rfl ?_
  unfold c_walk_ways_augments v_walk_ways_augments
  refine wlk_sreg fun KY hKY => ?_
  simp only [go_sem, reduceIte, Nat.reduceEqDiff, Nat.reduceBEq, reduceCtorEq, Nat.reduceLT, Nat.reduceLeDiff, Nat.reduceAdd, Nat.reduceSub, Nat.reduceMul, Nat.reduceDiv, Int.reduceAdd, Int.reduceNeg, Int.reduceEq, Int.reduceLT, Int.reduceLE, c_walk_ways_augments_r0]
  refine hKY _ ?_
  unfold augB
  by_cases h2 : 2 ≤ l.length
  · have d2 : decide ((2 : Int) ≤ (l.length : Int)) = true := decide_eq_true (by omega)
    rw [decide_eq_true h2, Bool.true_and]
    cases ha : altB N es m l with
    | false =>
      rw [ha] at hp
      refine wlk_sdraw fun KY hKY => ?_
      simp only [go_sem, reduceIte, Nat.reduceEqDiff, Nat.reduceBEq, reduceCtorEq, Nat.reduceLT, Nat.reduceLeDiff, Nat.reduceAdd, Nat.reduceSub, Nat.reduceMul, Nat.reduceDiv, Int.reduceAdd, Int.reduceNeg, Int.reduceEq, Int.reduceLT, Int.reduceLE, c_walk_ways_augments_r1, ints_len, ge_iff_le, d2]
      refine call_view rfl (by simp only [go_sem, reduceIte, Nat.reduceEqDiff, Nat.reduceBEq, reduceCtorEq, Nat.reduceLT, Nat.reduceLeDiff, Nat.reduceAdd, Nat.reduceSub, Nat.reduceMul, Nat.reduceDiv, Int.reduceAdd, Int.reduceNeg, Int.reduceEq, Int.reduceLT, Int.reduceLE] <;> rfl) ((hp).mono ?_)
      rintro rr hh ⟨rfl, rfl⟩
      refine ⟨rfl, rfl, rfl, ?_⟩
      simp only [go_sem, reduceIte, Nat.reduceEqDiff, Nat.reduceBEq, reduceCtorEq, Nat.reduceLT, Nat.reduceLeDiff, Nat.reduceAdd, Nat.reduceSub, Nat.reduceMul, Nat.reduceDiv, Int.reduceAdd, Int.reduceNeg, Int.reduceEq, Int.reduceLT, Int.reduceLE]
      refine hKY _ ?_
      refine wlk_ret ?_
      simp only [go_sem, reduceIte, Nat.reduceEqDiff, Nat.reduceBEq, reduceCtorEq, Nat.reduceLT, Nat.reduceLeDiff, Nat.reduceAdd, Nat.reduceSub, Nat.reduceMul, Nat.reduceDiv, Int.reduceAdd, Int.reduceNeg, Int.reduceEq, Int.reduceLT, Int.reduceLE]
    | true =>
      rw [ha] at hp
      have hpb : pathB N es l = true := by unfold altB at ha; rw [Bool.and_eq_true] at ha; exact ha.1
      have h0 : 0 < l.length := by omega
      have hl1 : l.length - 1 < l.length := by omega
      obtain ⟨a, hla, haN⟩ := path_in hpb h0
      obtain ⟨b, hlb, hbN⟩ := path_in hpb hl1
      have hga : (ints l)[0]? = some (.sc (.int .i64 (a : Int))) := by rw [ints_get h0, hla]
      have hgb : (ints l)[l.length - 1]? = some (.sc (.int .i64 (b : Int))) := by rw [ints_get hl1, hlb]
      have hd1 : IntKind.i64.wrap ((l.length : Int) - 1) = ((l.length - 1 : Nat) : Int) := by rw [IntWalk.i64_in _ (by omega)]; omega
      rw [hla, hlb]
      have ea : m.getD (a : Int).toNat 0 = m.getD a 0 := rfl
      have eb : m.getD (b : Int).toNat 0 = m.getD b 0 := rfl
      rw [ea, eb]
      by_cases h1 : m.getD a 0 < 0
      · have d1 : decide (m.getD a 0 < 0) = true := decide_eq_true h1
        refine wlk_sdraw fun KY hKY => ?_
        simp only [go_sem, reduceIte, Nat.reduceEqDiff, Nat.reduceBEq, reduceCtorEq, Nat.reduceLT, Nat.reduceLeDiff, Nat.reduceAdd, Nat.reduceSub, Nat.reduceMul, Nat.reduceDiv, Int.reduceAdd, Int.reduceNeg, Int.reduceEq, Int.reduceLT, Int.reduceLE, c_walk_ways_augments_r1, ints_len, ge_iff_le, d2]
        refine call_view rfl (by simp only [go_sem, reduceIte, Nat.reduceEqDiff, Nat.reduceBEq, reduceCtorEq, Nat.reduceLT, Nat.reduceLeDiff, Nat.reduceAdd, Nat.reduceSub, Nat.reduceMul, Nat.reduceDiv, Int.reduceAdd, Int.reduceNeg, Int.reduceEq, Int.reduceLT, Int.reduceLE] <;> rfl) ((hp).mono ?_)
        rintro rr hh ⟨rfl, rfl⟩
        refine ⟨rfl, rfl, rfl, ?_⟩
        simp only [go_sem, reduceIte, Nat.reduceEqDiff, Nat.reduceBEq, reduceCtorEq, Nat.reduceLT, Nat.reduceLeDiff, Nat.reduceAdd, Nat.reduceSub, Nat.reduceMul, Nat.reduceDiv, Int.reduceAdd, Int.reduceNeg, Int.reduceEq, Int.reduceLT, Int.reduceLE, hga, h0, ints_len, ints_get (show a < m.length by omega), (show a < m.length by omega), d1, hd1, hgb, hl1, ints_get (show b < m.length by omega), (show b < m.length by omega)]
        refine hKY _ ?_
        refine wlk_ret ?_
        simp only [go_sem, reduceIte, Nat.reduceEqDiff, Nat.reduceBEq, reduceCtorEq, Nat.reduceLT, Nat.reduceLeDiff, Nat.reduceAdd, Nat.reduceSub, Nat.reduceMul, Nat.reduceDiv, Int.reduceAdd, Int.reduceNeg, Int.reduceEq, Int.reduceLT, Int.reduceLE]
        rw [d1]; rfl
      · have d1 : decide (m.getD a 0 < 0) = false := decide_eq_false h1
        refine wlk_sdraw fun KY hKY => ?_
        simp only [go_sem, reduceIte, Nat.reduceEqDiff, Nat.reduceBEq, reduceCtorEq, Nat.reduceLT, Nat.reduceLeDiff, Nat.reduceAdd, Nat.reduceSub, Nat.reduceMul, Nat.reduceDiv, Int.reduceAdd, Int.reduceNeg, Int.reduceEq, Int.reduceLT, Int.reduceLE, c_walk_ways_augments_r1, ints_len, ge_iff_le, d2]
        refine call_view rfl (by simp only [go_sem, reduceIte, Nat.reduceEqDiff, Nat.reduceBEq, reduceCtorEq, Nat.reduceLT, Nat.reduceLeDiff, Nat.reduceAdd, Nat.reduceSub, Nat.reduceMul, Nat.reduceDiv, Int.reduceAdd, Int.reduceNeg, Int.reduceEq, Int.reduceLT, Int.reduceLE] <;> rfl) ((hp).mono ?_)
        rintro rr hh ⟨rfl, rfl⟩
        refine ⟨rfl, rfl, rfl, ?_⟩
        simp only [go_sem, reduceIte, Nat.reduceEqDiff, Nat.reduceBEq, reduceCtorEq, Nat.reduceLT, Nat.reduceLeDiff, Nat.reduceAdd, Nat.reduceSub, Nat.reduceMul, Nat.reduceDiv, Int.reduceAdd, Int.reduceNeg, Int.reduceEq, Int.reduceLT, Int.reduceLE, hga, h0, ints_len, ints_get (show a < m.length by omega), (show a < m.length by omega), d1]
        refine hKY _ ?_
        refine wlk_ret ?_
        simp only [go_sem, reduceIte, Nat.reduceEqDiff, Nat.reduceBEq, reduceCtorEq, Nat.reduceLT, Nat.reduceLeDiff, Nat.reduceAdd, Nat.reduceSub, Nat.reduceMul, Nat.reduceDiv, Int.reduceAdd, Int.reduceNeg, Int.reduceEq, Int.reduceLT, Int.reduceLE]
        rw [d1]; rfl
  · have d2 : decide ((2 : Int) ≤ (l.length : Int)) = false := decide_eq_false (by omega)
    rw [decide_eq_false h2]
    refine wlk_sdraw fun KY hKY => ?_
    simp only [go_sem, reduceIte, Nat.reduceEqDiff, Nat.reduceBEq, reduceCtorEq, Nat.reduceLT, Nat.reduceLeDiff, Nat.reduceAdd, Nat.reduceSub, Nat.reduceMul, Nat.reduceDiv, Int.reduceAdd, Int.reduceNeg, Int.reduceEq, Int.reduceLT, Int.reduceLE, c_walk_ways_augments_r1, ints_len, ge_iff_le, d2]
    refine hKY _ ?_
    refine wlk_ret ?_
    simp only [go_sem, reduceIte, Nat.reduceEqDiff, Nat.reduceBEq, reduceCtorEq, Nat.reduceLT, Nat.reduceLeDiff, Nat.reduceAdd, Nat.reduceSub, Nat.reduceMul, Nat.reduceDiv, Int.reduceAdd, Int.reduceNeg, Int.reduceEq, Int.reduceLT, Int.reduceLE]
end Go.Proofs.Ytoefhbfgmceikaa
set_option maxRecDepth 100000
set_option maxHeartbeats 4000000
namespace Go.Proofs.Ytoefhbfgmceikaa
open Go Go.Ga Go.Ga.Gl
def bErr (n : Int) (es : List (Int × Int)) (b : List Int) : Int := bif rightB n es then (bif b.all (fun v => decide (0 ≤ v) && decide (v < n)) then (bif decide b.Nodup then 0 else 6) else 4) else 3
def BP (n : Int) (es : List (Int × Int)) (b : List Int) (x e : Int) : Prop := (bErr n es b ≠ 0 ∧ x = 0 ∧ e = bErr n es b) ∨ (bErr n es b = 0 ∧ ∃ ps, PsOf n es b ps ∧ x = (oddCount ps : Int) - b.length ∧ e = 0)
theorem BP.unique {n : Int} {es : List (Int × Int)} {b : List Int} {x e y f : Int} (h : BP n es b x e) (h' : BP n es b y f) : x = y ∧ e = f := by
  rcases h with ⟨h1, rfl, rfl⟩ | ⟨h1, ps, hp, rfl, rfl⟩
  · rcases h' with ⟨_, rfl, rfl⟩ | ⟨h2, _⟩
    · exact ⟨rfl, rfl⟩
    · exact absurd h2 h1
  · rcases h' with ⟨h2, _⟩ | ⟨_, qs, hq, rfl, rfl⟩
    · exact absurd h1 h2
    · obtain rfl := hp.unique hq; exact ⟨rfl, rfl⟩
end Go.Proofs.Ytoefhbfgmceikaa
set_option maxRecDepth 100000
set_option maxHeartbeats 4000000
namespace Go.Proofs.Ytoefhbfgmceikaa
open Go Go.Ga Go.Ga.Gl
end Go.Proofs.Ytoefhbfgmceikaa
set_option maxRecDepth 100000
set_option maxHeartbeats 4000000
namespace Go.Proofs.Ytoefhbfgmceikaa
open Go Go.Ga Go.Ga.Gl
theorem mateB_yes {N : Nat} {es : Es} (g : GR N es) {m : List Int} (h : m.length = N) : mateB N (castE es) m = (List.range N).all fun v => mOk es m v := by
  unfold mateB mOk
  rw [rightB_GR g, decide_eq_true (show (m.length : Int) = (N : Int) by omega), h]; rfl
theorem mright_ok (n : Int) (es : List (Int × Int)) (m : List Int) : ACalls Try.prog [] n_mates_Right [.agg [.sc (.int .i64 n), .imm 2 (twos es)], .imm 1 (ints m)] [] fun r h' => r = .sc (.bool (mateB n es m)) ∧ h' = [] := by
  cases h : (rightB n es && decide ((m.length : Int) = n)) with
  | false =>
    have : mateB n es m = false := by unfold mateB; rw [h]; rfl
    rw [this]; exact mright_no n es m h
  | true =>
    rw [Bool.and_eq_true, decide_eq_true_iff] at h
    obtain ⟨N, es', rfl, rfl, g⟩ := right_nat h.1
    rw [mateB_yes g (show m.length = N by omega)]
    exact mright_yes g m (by omega)
theorem mateB_len {n : Int} {es : List (Int × Int)} {m : List Int} (h : mateB n es m = true) : rightB n es = true ∧ (m.length : Int) = n := by
  unfold mateB at h
  rw [Bool.and_eq_true, Bool.and_eq_true, decide_eq_true_iff] at h
  exact h.1
theorem BP.bound {n : Int} {es : List (Int × Int)} {b : List Int} {x : Int} (h : BP n es b x 0) : - (b.length : Int) ≤ x ∧ x ≤ 4096 := by
  rcases h with ⟨h1, rfl, h2⟩ | ⟨_, ps, hp, rfl, _⟩
  · exact absurd h2.symm h1
  · have h1 := odd_le2 ps ps.length hp.len.1
    rw [List.take_length] at h1
    omega
end Go.Proofs.Ytoefhbfgmceikaa
set_option maxRecDepth 100000
set_option maxHeartbeats 4000000
namespace Go.Proofs.Ytoefhbfgmceikaa
open Go Go.Ga Go.Ga.Gl
theorem mate_cases {n : Int} {es : List (Int × Int)} {m : List Int} (h : mateB n es m = true) : ∃ (N : Nat) (es' : Es), n = N ∧ es = castE es' ∧ GR N es' ∧ m.length = N := by
  obtain ⟨h1, h2⟩ := mateB_len h
  obtain ⟨N, es', rfl, rfl, g⟩ := right_nat h1
  exact ⟨N, es', rfl, rfl, g, by omega⟩
def onM (n : Int) (es : List (Int × Int)) (m : List Int) (f : Nat → Es → Bool) (b : Bool) : Prop :=
  (mateB n es m = false ∧ b = false) ∨ (mateB n es m = true ∧ ∃ (N : Nat) (es' : Es), n = N ∧ es = castE es' ∧ b = f N es')
theorem onM_unique {n : Int} {es : List (Int × Int)} {m : List Int} {f : Nat → Es → Bool} {b c : Bool} (h : onM n es m f b) (h' : onM n es m f c) : b = c := by
  rcases h with ⟨h1, rfl⟩ | ⟨h1, N, e, rfl, rfl, rfl⟩
  · rcases h' with ⟨_, rfl⟩ | ⟨h2, _⟩
    · rfl
    · rw [h1] at h2; cases h2
  · rcases h' with ⟨h2, _⟩ | ⟨_, M, e', hN, he, rfl⟩
    · rw [h1] at h2; cases h2
    · obtain rfl : N = M := by omega
      obtain rfl := castE_inj he
      rfl
theorem waugments_ok (n : Int) (es : List (Int × Int)) (m l : List Int) (hl : l.length ≤ 1000000) : ACalls Try.prog [] n_walk_Augments [.agg [.sc (.int .i64 n), .imm 2 (twos es)], .imm 1 (ints m), .imm 1 (ints l)] [] fun r h' => (∃ b, onM n es m (fun N e => augB N e m l) b ∧ r = .sc (.bool b)) ∧ h' = [] := by
  refine ACalls.trim ?_
  refine go_walk_Augments rfl ?_
  unfold c_walk_Augments v_walk_Augments
  refine wlk_sreg fun KY hKY => ?_
  simp only [go_sem, reduceIte, Nat.reduceEqDiff, Nat.reduceBEq, reduceCtorEq, Nat.reduceLT, Nat.reduceLeDiff, Nat.reduceAdd, Nat.reduceSub, Nat.reduceMul, Nat.reduceDiv, Int.reduceAdd, Int.reduceNeg, Int.reduceEq, Int.reduceLT, Int.reduceLE, c_walk_Augments_r0]
  refine hKY _ ?_
  cases hmb : mateB n es m with
  | false =>
    refine wlk_sreg fun KY hKY => ?_
    simp only [go_sem, reduceIte, Nat.reduceEqDiff, Nat.reduceBEq, reduceCtorEq, Nat.reduceLT, Nat.reduceLeDiff, Nat.reduceAdd, Nat.reduceSub, Nat.reduceMul, Nat.reduceDiv, Int.reduceAdd, Int.reduceNeg, Int.reduceEq, Int.reduceLT, Int.reduceLE, c_walk_Augments_r1]
    refine call_view rfl (by simp only [go_sem, reduceIte, Nat.reduceEqDiff, Nat.reduceBEq, reduceCtorEq, Nat.reduceLT, Nat.reduceLeDiff, Nat.reduceAdd, Nat.reduceSub, Nat.reduceMul, Nat.reduceDiv, Int.reduceAdd, Int.reduceNeg, Int.reduceEq, Int.reduceLT, Int.reduceLE] <;> rfl) ((mright_ok n es m).mono ?_)
    rintro rr hh ⟨rfl, rfl⟩
    refine ⟨rfl, rfl, rfl, ?_⟩
    simp only [go_sem, reduceIte, Nat.reduceEqDiff, Nat.reduceBEq, reduceCtorEq, Nat.reduceLT, Nat.reduceLeDiff, Nat.reduceAdd, Nat.reduceSub, Nat.reduceMul, Nat.reduceDiv, Int.reduceAdd, Int.reduceNeg, Int.reduceEq, Int.reduceLT, Int.reduceLE, hmb]
    refine hKY _ ?_
    refine wlk_ret ?_
    simp only [go_sem, reduceIte, Nat.reduceEqDiff, Nat.reduceBEq, reduceCtorEq, Nat.reduceLT, Nat.reduceLeDiff, Nat.reduceAdd, Nat.reduceSub, Nat.reduceMul, Nat.reduceDiv, Int.reduceAdd, Int.reduceNeg, Int.reduceEq, Int.reduceLT, Int.reduceLE]
    exact ⟨false, .inl ⟨hmb, rfl⟩, rfl⟩
  | true =>
    obtain ⟨N, es', rfl, rfl, g, hm⟩ := mate_cases hmb
    refine wlk_sreg fun KY hKY => ?_
    simp only [go_sem, reduceIte, Nat.reduceEqDiff, Nat.reduceBEq, reduceCtorEq, Nat.reduceLT, Nat.reduceLeDiff, Nat.reduceAdd, Nat.reduceSub, Nat.reduceMul, Nat.reduceDiv, Int.reduceAdd, Int.reduceNeg, Int.reduceEq, Int.reduceLT, Int.reduceLE, c_walk_Augments_r1]
    refine call_view rfl (by simp only [go_sem, reduceIte, Nat.reduceEqDiff, Nat.reduceBEq, reduceCtorEq, Nat.reduceLT, Nat.reduceLeDiff, Nat.reduceAdd, Nat.reduceSub, Nat.reduceMul, Nat.reduceDiv, Int.reduceAdd, Int.reduceNeg, Int.reduceEq, Int.reduceLT, Int.reduceLE] <;> rfl) ((mright_ok N (castE es') m).mono ?_)
    rintro rr hh ⟨rfl, rfl⟩
    refine ⟨rfl, rfl, rfl, ?_⟩
    simp only [go_sem, reduceIte, Nat.reduceEqDiff, Nat.reduceBEq, reduceCtorEq, Nat.reduceLT, Nat.reduceLeDiff, Nat.reduceAdd, Nat.reduceSub, Nat.reduceMul, Nat.reduceDiv, Int.reduceAdd, Int.reduceNeg, Int.reduceEq, Int.reduceLT, Int.reduceLE, hmb]
    refine call_view rfl (by simp only [go_sem, reduceIte, Nat.reduceEqDiff, Nat.reduceBEq, reduceCtorEq, Nat.reduceLT, Nat.reduceLeDiff, Nat.reduceAdd, Nat.reduceSub, Nat.reduceMul, Nat.reduceDiv, Int.reduceAdd, Int.reduceNeg, Int.reduceEq, Int.reduceLT, Int.reduceLE] <;> rfl) ((waug_ok g m hm l hl).mono ?_)
    rintro rr hh ⟨rfl, rfl⟩
    refine ⟨rfl, rfl, rfl, ?_⟩
    simp only [go_sem, reduceIte, Nat.reduceEqDiff, Nat.reduceBEq, reduceCtorEq, Nat.reduceLT, Nat.reduceLeDiff, Nat.reduceAdd, Nat.reduceSub, Nat.reduceMul, Nat.reduceDiv, Int.reduceAdd, Int.reduceNeg, Int.reduceEq, Int.reduceLT, Int.reduceLE]
    refine hKY _ ?_
    refine wlk_ret ?_
    simp only [go_sem, reduceIte, Nat.reduceEqDiff, Nat.reduceBEq, reduceCtorEq, Nat.reduceLT, Nat.reduceLeDiff, Nat.reduceAdd, Nat.reduceSub, Nat.reduceMul, Nat.reduceDiv, Int.reduceAdd, Int.reduceNeg, Int.reduceEq, Int.reduceLT, Int.reduceLE]
    exact ⟨_, .inr ⟨hmb, N, es', rfl, rfl, rfl⟩, rfl⟩
end Go.Proofs.Ytoefhbfgmceikaa
set_option maxRecDepth 100000
set_option maxHeartbeats 4000000
namespace Go.Proofs.Ytoefhbfgmceikaa
open Go Go.Ga Go.Ga.Gl
end Go.Proofs.Ytoefhbfgmceikaa
set_option maxRecDepth 100000
set_option maxHeartbeats 4000000
namespace Go.Proofs.Ytoefhbfgmceikaa
open Go Go.Ga Go.Ga.Gl
def turnL : List Int → List Int → List Int
  | m, a :: b :: l => turnL ((m.set a.toNat b).set b.toNat a) l
  | m, _ => m
theorem turnL_len : ∀ (l m : List Int), (turnL m l).length = m.length
  | [], m => rfl
  | [_], m => rfl
  | a :: b :: l, m => by unfold turnL; rw [turnL_len l]; simp
theorem turn_step {l : List Int} {k : Nat} {a b : Int} (ha : l[2 * k]? = some a) (hb : l[2 * k + 1]? = some b) : ∀ m0, turnL m0 (l.take (2 * (k + 1))) = ((turnL m0 (l.take (2 * k))).set a.toNat b).set b.toNat a := by
  induction k generalizing l with
  | zero =>
    intro m0
    match l, ha, hb with
    | x :: y :: l, ha, hb =>
      simp at ha hb
      subst ha; subst hb
      simp [turnL]
  | succ k ih =>
    intro m0
    match l, ha, hb with
    | [], ha, _ => simp at ha
    | [x], ha, _ => simp at ha
    | x :: y :: l, ha, hb =>
      have ha' : l[2 * k]? = some a := by rw [show 2 * (k + 1) = 2 * k + 1 + 1 by omega] at ha; simpa using ha
      have hb' : l[2 * k + 1]? = some b := by rw [show 2 * (k + 1) + 1 = (2 * k + 1) + 1 + 1 by omega] at hb; simpa using hb
      rw [show 2 * (k + 1 + 1) = 2 * (k + 1) + 1 + 1 by omega, show 2 * (k + 1) = 2 * k + 1 + 1 by omega]
      simp only [List.take_succ_cons, turnL]
      exact ih ha' hb' _
theorem turn_end : ∀ (k : Nat) (l m : List Int), l.length ≤ 2 * k + 1 → turnL m (l.take (2 * k)) = turnL m l
  | 0, [], m, _ => rfl
  | 0, [x], m, _ => rfl
  | 0, _ :: _ :: _, m, h => by simp at h
  | k + 1, [], m, _ => by simp
  | k + 1, [x], m, _ => by rw [show 2 * (k + 1) = 2 * k + 1 + 1 by omega]; simp
  | k + 1, x :: y :: l, m, h => by
    rw [show 2 * (k + 1) = 2 * k + 1 + 1 by omega]
    simp only [List.take_succ_cons, turnL]
    exact turn_end k l _ (by simp at h; omega)
end Go.Proofs.Ytoefhbfgmceikaa
set_option maxRecDepth 100000
set_option maxHeartbeats 4000000
namespace Go.Proofs.Ytoefhbfgmceikaa
open Go Go.Ga Go.Ga.Gl
theorem turn_ok (m l : List Int) (hl : l.length ≤ 1000000) (hm : m.length ≤ 1000000) (hin : ∀ i, i < l.length → ∃ a : Nat, l.getD i 0 = a ∧ a < m.length) : ACalls Try.prog [] n_walk_Turn [.sl 0 0 m.length 1, .imm 1 (ints l)] [some (ints m)] fun r h' => r = .tup [] ∧ h' = [some (ints (turnL m l))] := by
  refine go_walk_Turn rfl ?_
  unfold c_walk_Turn v_walk_Turn
  refine wlk_sreg fun KY hKY => ?_
  simp only [go_sem, reduceIte, Nat.reduceEqDiff, Nat.reduceBEq, reduceCtorEq, Nat.reduceLT, Nat.reduceLeDiff, Nat.reduceAdd, Nat.reduceSub, Nat.reduceMul, Nat.reduceDiv, Int.reduceAdd, Int.reduceNeg, Int.reduceEq, Int.reduceLT, Int.reduceLE, c_walk_Turn_r0]
  refine hKY _ ?_
  refine wlk_blk fun X1 hn1 he1 hf1 hr1 => ?_
  have h0 : m = turnL m (l.take (2 * 0)) := by simp [turnL]
  try simp only [go_sem, reduceIte, Nat.reduceEqDiff, Nat.reduceBEq, reduceCtorEq, Nat.reduceLT, Nat.reduceLeDiff, Nat.reduceAdd, Nat.reduceSub, Nat.reduceMul, Nat.reduceDiv, Int.reduceAdd, Int.reduceNeg, Int.reduceEq, Int.reduceLT, Int.reduceLE]
  refine wlk_lp (α := Nat) [8] (fun k => [(4, .sc (.int .i64 ((2 * k + 1 : Nat) : Int)))]) (fun k => [some (ints (turnL m (l.take (2 * k))))]) (fun k q => 2 * k ≤ l.length + 1 ∧ q = l.length - k) (0) (l.length) rfl (by first | (simp only [go_sem, reduceIte, Nat.reduceEqDiff, Nat.reduceBEq, reduceCtorEq, Nat.reduceLT, Nat.reduceLeDiff, Nat.reduceAdd, Nat.reduceSub, Nat.reduceMul, Nat.reduceDiv, Int.reduceAdd, Int.reduceNeg, Int.reduceEq, Int.reduceLT, Int.reduceLE, updAll_cons, updAll_nil]; done) | with_reducible rfl | rfl) (⟨by omega, rfl⟩) ?_
  rintro k q ⟨hk, rfl⟩ X2 hn2 he2 hr2
  simp only [go_sem, reduceIte, Nat.reduceEqDiff, Nat.reduceBEq, reduceCtorEq, Nat.reduceLT, Nat.reduceLeDiff, Nat.reduceAdd, Nat.reduceSub, Nat.reduceMul, Nat.reduceDiv, Int.reduceAdd, Int.reduceNeg, Int.reduceEq, Int.reduceLT, Int.reduceLE, updAll_cons, updAll_nil]
  refine wlk_seq fun X3 hn3 he3 hr3 => ?_
  rcases Nat.lt_or_ge (2 * k + 1) l.length with hk2 | hk2
  · have hdy : decide (((2 * k + 1 : Nat) : Int) < (l.length : Int)) = true := decide_eq_true (by omega)
    refine wlk_sreg fun KY hKY => ?_
    simp only [go_sem, reduceIte, Nat.reduceEqDiff, Nat.reduceBEq, reduceCtorEq, Nat.reduceLT, Nat.reduceLeDiff, Nat.reduceAdd, Nat.reduceSub, Nat.reduceMul, Nat.reduceDiv, Int.reduceAdd, Int.reduceNeg, Int.reduceEq, Int.reduceLT, Int.reduceLE, c_walk_Turn_r1, ints_len, hdy]
    refine hKY _ ?_
    refine wlk_cond1 (by first | rfl | (simp only [go_sem, reduceIte, Nat.reduceEqDiff, Nat.reduceBEq, reduceCtorEq, Nat.reduceLT, Nat.reduceLeDiff, Nat.reduceAdd, Nat.reduceSub, Nat.reduceMul, Nat.reduceDiv, Int.reduceAdd, Int.reduceNeg, Int.reduceEq, Int.reduceLT, Int.reduceLE]; try simp (disch := omega) only [decide_eq_true, decide_eq_false])) ?_
    refine wlk_skip ?_
    repeat (first | refine hn3 _ ?_ | refine he3 _ _ ?_ | refine he2 _ _ ?_ | refine hn1 _ ?_ | refine he1 _ ?_ | refine hf1 _ _ (by decide) ?_)
    refine wlk_seq fun X4 hn4 he4 hr4 => ?_
    refine wlk_blk fun X5 hn5 he5 hf5 hr5 => ?_
    have hk0 : 2 * k < l.length := by omega
    obtain ⟨a, ha, haN⟩ := hin (2 * k) hk0
    obtain ⟨b, hb, hbN⟩ := hin (2 * k + 1) hk2
    have hd1 : IntKind.i64.wrap (((2 * k + 1 : Nat) : Int) - 1) = ((2 * k : Nat) : Int) := by rw [IntWalk.i64_in _ (by omega)]; omega
    have hga : (ints l)[2 * k]? = some (.sc (.int .i64 (a : Int))) := by rw [ints_get hk0, ha]
    have hgb : (ints l)[2 * k + 1]? = some (.sc (.int .i64 (b : Int))) := by rw [ints_get hk2, hb]
    have hla : l[2 * k]? = some (a : Int) := by rw [← ha, List.getD_eq_getElem?_getD, List.getElem?_eq_getElem hk0]; rfl
    have hlb : l[2 * k + 1]? = some (b : Int) := by rw [← hb, List.getD_eq_getElem?_getD, List.getElem?_eq_getElem hk2]; rfl
    have hst := turn_step hla hlb m
    rw [Int.toNat_natCast, Int.toNat_natCast] at hst
    have hlen := turnL_len (l.take (2 * k)) m
    generalize hM : turnL m (l.take (2 * k)) = M at hst hlen
    refine wlk_draw fun KY hKY => ?_
    simp only [go_sem, reduceIte, Nat.reduceEqDiff, Nat.reduceBEq, reduceCtorEq, Nat.reduceLT, Nat.reduceLeDiff, Nat.reduceAdd, Nat.reduceSub, Nat.reduceMul, Nat.reduceDiv, Int.reduceAdd, Int.reduceNeg, Int.reduceEq, Int.reduceLT, Int.reduceLE, c_walk_Turn_r2, hd1, hga, hgb, hk0, hk2, ints_len, haN, hbN, hlen, List.length_set, ← hst]
    refine hKY _ ?_
    repeat (first | refine hn5 _ ?_ | refine he5 _ ?_ | refine hf5 _ _ (by decide) ?_ | refine hn4 _ ?_ | refine he4 _ _ ?_ | refine hn3 _ ?_ | refine he3 _ _ ?_ | refine he2 _ _ ?_ | refine hn1 _ ?_ | refine he1 _ ?_ | refine hf1 _ _ (by decide) ?_)
    have hi2 : IntKind.i64.wrap (((2 * k + 1 : Nat) : Int) + 2) = ((2 * (k + 1) + 1 : Nat) : Int) := by rw [IntWalk.i64_in _ (by omega)]; omega
    refine wlk_reg fun KY hKY => ?_
    simp only [go_sem, reduceIte, Nat.reduceEqDiff, Nat.reduceBEq, reduceCtorEq, Nat.reduceLT, Nat.reduceLeDiff, Nat.reduceAdd, Nat.reduceSub, Nat.reduceMul, Nat.reduceDiv, Int.reduceAdd, Int.reduceNeg, Int.reduceEq, Int.reduceLT, Int.reduceLE, c_walk_Turn_r3, hi2]
    refine hKY _ ?_
    repeat (first | refine hn5 _ ?_ | refine he5 _ ?_ | refine hf5 _ _ (by decide) ?_ | refine hn4 _ ?_ | refine he4 _ _ ?_ | refine hn3 _ ?_ | refine he3 _ _ ?_)
    refine hn2 _ (k + 1) (l.length - (k + 1)) (by omega) (by first | (simp only [go_sem, reduceIte, Nat.reduceEqDiff, Nat.reduceBEq, reduceCtorEq, Nat.reduceLT, Nat.reduceLeDiff, Nat.reduceAdd, Nat.reduceSub, Nat.reduceMul, Nat.reduceDiv, Int.reduceAdd, Int.reduceNeg, Int.reduceEq, Int.reduceLT, Int.reduceLE, updAll_cons, updAll_nil]; done) | with_reducible rfl) ?_
    exact ⟨by omega, rfl⟩
  have hdx : decide (((2 * k + 1 : Nat) : Int) < (l.length : Int)) = false := decide_eq_false (by omega)
  refine wlk_sreg fun KY hKY => ?_
  simp only [go_sem, reduceIte, Nat.reduceEqDiff, Nat.reduceBEq, reduceCtorEq, Nat.reduceLT, Nat.reduceLeDiff, Nat.reduceAdd, Nat.reduceSub, Nat.reduceMul, Nat.reduceDiv, Int.reduceAdd, Int.reduceNeg, Int.reduceEq, Int.reduceLT, Int.reduceLE, c_walk_Turn_r1, ints_len, hdx]
  refine hKY _ ?_
  refine wlk_cond0 (by first | rfl | (simp only [go_sem, reduceIte, Nat.reduceEqDiff, Nat.reduceBEq, reduceCtorEq, Nat.reduceLT, Nat.reduceLeDiff, Nat.reduceAdd, Nat.reduceSub, Nat.reduceMul, Nat.reduceDiv, Int.reduceAdd, Int.reduceNeg, Int.reduceEq, Int.reduceLT, Int.reduceLE]; try simp (disch := omega) only [decide_eq_true, decide_eq_false])) ?_
  refine wlk_exit ?_
  repeat (first | refine hn3 _ ?_ | refine he3 _ _ ?_ | refine he2 _ _ ?_ | refine hn1 _ ?_ | refine he1 _ ?_ | refine hf1 _ _ (by decide) ?_)
  rw [turn_end k l m (by omega)]
  simp only [go_sem, reduceIte, Nat.reduceEqDiff, Nat.reduceBEq, reduceCtorEq, Nat.reduceLT, Nat.reduceLeDiff, Nat.reduceAdd, Nat.reduceSub, Nat.reduceMul, Nat.reduceDiv, Int.reduceAdd, Int.reduceNeg, Int.reduceEq, Int.reduceLT, Int.reduceLE]
end Go.Proofs.Ytoefhbfgmceikaa
set_option maxRecDepth 100000
set_option maxHeartbeats 4000000
namespace Go.Proofs.Ytoefhbfgmceikaa
open Go Go.Ga Go.Ga.Gl
def FP (n : Int) (es : List (Int × Int)) (m l x : List Int) (e : Int) : Prop :=
  (rightB n es = false ∧ x = [] ∧ e = 3) ∨ (rightB n es = true ∧ mateB n es m = false ∧ x = [] ∧ e = 9) ∨
  (mateB n es m = true ∧ ∃ (N : Nat) (es' : Es), n = N ∧ es = castE es' ∧ ((augB N es' m l = false ∧ x = [] ∧ e = 1) ∨ (augB N es' m l = true ∧ x = turnL m l ∧ e = 0)))
theorem FP.unique {n : Int} {es : List (Int × Int)} {m l x y : List Int} {e f : Int} (h : FP n es m l x e) (h' : FP n es m l y f) : x = y ∧ e = f := by
  rcases h with ⟨h1, rfl, rfl⟩ | ⟨h1, h2, rfl, rfl⟩ | ⟨h1, N, es1, rfl, rfl, h2⟩
  · rcases h' with ⟨_, rfl, rfl⟩ | ⟨h3, _⟩ | ⟨h3, _⟩
    · exact ⟨rfl, rfl⟩
    · rw [h1] at h3; cases h3
    · rw [(mateB_len h3).1] at h1; cases h1
  · rcases h' with ⟨h3, _⟩ | ⟨_, _, rfl, rfl⟩ | ⟨h3, _⟩
    · rw [h1] at h3; cases h3
    · exact ⟨rfl, rfl⟩
    · rw [h2] at h3; cases h3
  · rcases h' with ⟨h3, _⟩ | ⟨_, h3, _⟩ | ⟨_, M, es2, hN, he, h3⟩
    · rw [(mateB_len h1).1] at h3; cases h3
    · rw [h1] at h3; cases h3
    · obtain rfl : N = M := by omega
      obtain rfl := castE_inj he
      rcases h2 with ⟨h4, rfl, rfl⟩ | ⟨h4, rfl, rfl⟩ <;> rcases h3 with ⟨h5, rfl, rfl⟩ | ⟨h5, rfl, rfl⟩
      · exact ⟨rfl, rfl⟩
      · rw [h4] at h5; cases h5
      · rw [h4] at h5; cases h5
      · exact ⟨rfl, rfl⟩
theorem wflip_ok (n : Int) (es : List (Int × Int)) (m l : List Int) (hmm : m.length ≤ 1000000) (hl : l.length ≤ 1000000) : ACalls Try.prog [] n_walk_Flip [.agg [.sc (.int .i64 n), .imm 2 (twos es)], .imm 1 (ints m), .imm 1 (ints l)] [] fun r h' => (∃ x e, FP n es m l x e ∧ r = .tup [.own (some 1) (ints x), .sc (.int .i64 e)]) ∧ h' = [] := by
  refine ACalls.trim ?_
  refine go_walk_Flip rfl ?_
  unfold c_walk_Flip v_walk_Flip
  refine wlk_sreg fun KY hKY => ?_
  simp only [go_sem, reduceIte, Nat.reduceEqDiff, Nat.reduceBEq, reduceCtorEq, Nat.reduceLT, Nat.reduceLeDiff, Nat.reduceAdd, Nat.reduceSub, Nat.reduceMul, Nat.reduceDiv, Int.reduceAdd, Int.reduceNeg, Int.reduceEq, Int.reduceLT, Int.reduceLE, c_walk_Flip_r0]
  refine hKY _ ?_
  refine wlk_seq fun X1 hn1 he1 hr1 => ?_
  refine wlk_blk fun X2 hn2 he2 hf2 hr2 => ?_
  cases hr : rightB n es with
  | false =>
    refine wlk_sreg fun KY hKY => ?_
    simp only [go_sem, reduceIte, Nat.reduceEqDiff, Nat.reduceBEq, reduceCtorEq, Nat.reduceLT, Nat.reduceLeDiff, Nat.reduceAdd, Nat.reduceSub, Nat.reduceMul, Nat.reduceDiv, Int.reduceAdd, Int.reduceNeg, Int.reduceEq, Int.reduceLT, Int.reduceLE, c_walk_Flip_r1]
    refine call_view rfl (by simp only [go_sem, reduceIte, Nat.reduceEqDiff, Nat.reduceBEq, reduceCtorEq, Nat.reduceLT, Nat.reduceLeDiff, Nat.reduceAdd, Nat.reduceSub, Nat.reduceMul, Nat.reduceDiv, Int.reduceAdd, Int.reduceNeg, Int.reduceEq, Int.reduceLT, Int.reduceLE] <;> rfl) ((right_ok n es).mono ?_)
    rintro rr hh ⟨rfl, rfl⟩
    refine ⟨rfl, rfl, rfl, ?_⟩
    simp only [go_sem, reduceIte, Nat.reduceEqDiff, Nat.reduceBEq, reduceCtorEq, Nat.reduceLT, Nat.reduceLeDiff, Nat.reduceAdd, Nat.reduceSub, Nat.reduceMul, Nat.reduceDiv, Int.reduceAdd, Int.reduceNeg, Int.reduceEq, Int.reduceLT, Int.reduceLE, hr]
    refine hKY _ ?_
    refine wlk_cond1 (by first | rfl | (simp only [go_sem, reduceIte, Nat.reduceEqDiff, Nat.reduceBEq, reduceCtorEq, Nat.reduceLT, Nat.reduceLeDiff, Nat.reduceAdd, Nat.reduceSub, Nat.reduceMul, Nat.reduceDiv, Int.reduceAdd, Int.reduceNeg, Int.reduceEq, Int.reduceLT, Int.reduceLE]; try simp (disch := omega) only [decide_eq_true, decide_eq_false])) ?_
    refine wlk_sreg fun KY hKY => ?_
    simp only [go_sem, reduceIte, Nat.reduceEqDiff, Nat.reduceBEq, reduceCtorEq, Nat.reduceLT, Nat.reduceLeDiff, Nat.reduceAdd, Nat.reduceSub, Nat.reduceMul, Nat.reduceDiv, Int.reduceAdd, Int.reduceNeg, Int.reduceEq, Int.reduceLT, Int.reduceLE, c_walk_Flip_r2]
    refine hKY _ ?_
    refine sem_nil [0, 6] 1 (by simp only [go_sem, reduceIte, Nat.reduceEqDiff, Nat.reduceBEq, reduceCtorEq, Nat.reduceLT, Nat.reduceLeDiff, Nat.reduceAdd, Nat.reduceSub, Nat.reduceMul, Nat.reduceDiv, Int.reduceAdd, Int.reduceNeg, Int.reduceEq, Int.reduceLT, Int.reduceLE]) ?_
    simp only [go_sem, reduceIte, Nat.reduceEqDiff, Nat.reduceBEq, reduceCtorEq, Nat.reduceLT, Nat.reduceLeDiff, Nat.reduceAdd, Nat.reduceSub, Nat.reduceMul, Nat.reduceDiv, Int.reduceAdd, Int.reduceNeg, Int.reduceEq, Int.reduceLT, Int.reduceLE]
    refine wlk_ret ?_
    repeat (first | refine hr2 _ ?_ | refine hr1 _ ?_)
    simp only [go_sem, reduceIte, Nat.reduceEqDiff, Nat.reduceBEq, reduceCtorEq, Nat.reduceLT, Nat.reduceLeDiff, Nat.reduceAdd, Nat.reduceSub, Nat.reduceMul, Nat.reduceDiv, Int.reduceAdd, Int.reduceNeg, Int.reduceEq, Int.reduceLT, Int.reduceLE]
    exact ⟨[], 3, .inl ⟨hr, rfl, rfl⟩, rfl⟩
  | true =>
  refine wlk_sreg fun KY hKY => ?_
  simp only [go_sem, reduceIte, Nat.reduceEqDiff, Nat.reduceBEq, reduceCtorEq, Nat.reduceLT, Nat.reduceLeDiff, Nat.reduceAdd, Nat.reduceSub, Nat.reduceMul, Nat.reduceDiv, Int.reduceAdd, Int.reduceNeg, Int.reduceEq, Int.reduceLT, Int.reduceLE, c_walk_Flip_r1]
  refine call_view rfl (by simp only [go_sem, reduceIte, Nat.reduceEqDiff, Nat.reduceBEq, reduceCtorEq, Nat.reduceLT, Nat.reduceLeDiff, Nat.reduceAdd, Nat.reduceSub, Nat.reduceMul, Nat.reduceDiv, Int.reduceAdd, Int.reduceNeg, Int.reduceEq, Int.reduceLT, Int.reduceLE] <;> rfl) ((right_ok n es).mono ?_)
  rintro rr hh ⟨rfl, rfl⟩
  refine ⟨rfl, rfl, rfl, ?_⟩
  simp only [go_sem, reduceIte, Nat.reduceEqDiff, Nat.reduceBEq, reduceCtorEq, Nat.reduceLT, Nat.reduceLeDiff, Nat.reduceAdd, Nat.reduceSub, Nat.reduceMul, Nat.reduceDiv, Int.reduceAdd, Int.reduceNeg, Int.reduceEq, Int.reduceLT, Int.reduceLE, hr]
  refine hKY _ ?_
  refine wlk_cond0 (by first | rfl | (simp only [go_sem, reduceIte, Nat.reduceEqDiff, Nat.reduceBEq, reduceCtorEq, Nat.reduceLT, Nat.reduceLeDiff, Nat.reduceAdd, Nat.reduceSub, Nat.reduceMul, Nat.reduceDiv, Int.reduceAdd, Int.reduceNeg, Int.reduceEq, Int.reduceLT, Int.reduceLE]; try simp (disch := omega) only [decide_eq_true, decide_eq_false])) ?_
  cases hmb : mateB n es m with
  | false =>
    refine wlk_sreg fun KY hKY => ?_
    simp only [go_sem, reduceIte, Nat.reduceEqDiff, Nat.reduceBEq, reduceCtorEq, Nat.reduceLT, Nat.reduceLeDiff, Nat.reduceAdd, Nat.reduceSub, Nat.reduceMul, Nat.reduceDiv, Int.reduceAdd, Int.reduceNeg, Int.reduceEq, Int.reduceLT, Int.reduceLE, c_walk_Flip_r3]
    refine call_view rfl (by simp only [go_sem, reduceIte, Nat.reduceEqDiff, Nat.reduceBEq, reduceCtorEq, Nat.reduceLT, Nat.reduceLeDiff, Nat.reduceAdd, Nat.reduceSub, Nat.reduceMul, Nat.reduceDiv, Int.reduceAdd, Int.reduceNeg, Int.reduceEq, Int.reduceLT, Int.reduceLE] <;> rfl) ((mright_ok n es m).mono ?_)
    rintro rr hh ⟨rfl, rfl⟩
    refine ⟨rfl, rfl, rfl, ?_⟩
    simp only [go_sem, reduceIte, Nat.reduceEqDiff, Nat.reduceBEq, reduceCtorEq, Nat.reduceLT, Nat.reduceLeDiff, Nat.reduceAdd, Nat.reduceSub, Nat.reduceMul, Nat.reduceDiv, Int.reduceAdd, Int.reduceNeg, Int.reduceEq, Int.reduceLT, Int.reduceLE, hmb]
    refine hKY _ ?_
    refine wlk_cond1 (by first | rfl | (simp only [go_sem, reduceIte, Nat.reduceEqDiff, Nat.reduceBEq, reduceCtorEq, Nat.reduceLT, Nat.reduceLeDiff, Nat.reduceAdd, Nat.reduceSub, Nat.reduceMul, Nat.reduceDiv, Int.reduceAdd, Int.reduceNeg, Int.reduceEq, Int.reduceLT, Int.reduceLE]; try simp (disch := omega) only [decide_eq_true, decide_eq_false])) ?_
    refine wlk_sreg fun KY hKY => ?_
    simp only [go_sem, reduceIte, Nat.reduceEqDiff, Nat.reduceBEq, reduceCtorEq, Nat.reduceLT, Nat.reduceLeDiff, Nat.reduceAdd, Nat.reduceSub, Nat.reduceMul, Nat.reduceDiv, Int.reduceAdd, Int.reduceNeg, Int.reduceEq, Int.reduceLT, Int.reduceLE, c_walk_Flip_r4]
    refine hKY _ ?_
    refine sem_nil [0, 6] 1 (by simp only [go_sem, reduceIte, Nat.reduceEqDiff, Nat.reduceBEq, reduceCtorEq, Nat.reduceLT, Nat.reduceLeDiff, Nat.reduceAdd, Nat.reduceSub, Nat.reduceMul, Nat.reduceDiv, Int.reduceAdd, Int.reduceNeg, Int.reduceEq, Int.reduceLT, Int.reduceLE]) ?_
    simp only [go_sem, reduceIte, Nat.reduceEqDiff, Nat.reduceBEq, reduceCtorEq, Nat.reduceLT, Nat.reduceLeDiff, Nat.reduceAdd, Nat.reduceSub, Nat.reduceMul, Nat.reduceDiv, Int.reduceAdd, Int.reduceNeg, Int.reduceEq, Int.reduceLT, Int.reduceLE]
    refine wlk_ret ?_
    repeat (first | refine hr2 _ ?_ | refine hr1 _ ?_)
    simp only [go_sem, reduceIte, Nat.reduceEqDiff, Nat.reduceBEq, reduceCtorEq, Nat.reduceLT, Nat.reduceLeDiff, Nat.reduceAdd, Nat.reduceSub, Nat.reduceMul, Nat.reduceDiv, Int.reduceAdd, Int.reduceNeg, Int.reduceEq, Int.reduceLT, Int.reduceLE]
    exact ⟨[], 9, .inr (.inl ⟨hr, hmb, rfl, rfl⟩), rfl⟩
  | true =>
  refine wlk_sreg fun KY hKY => ?_
  simp only [go_sem, reduceIte, Nat.reduceEqDiff, Nat.reduceBEq, reduceCtorEq, Nat.reduceLT, Nat.reduceLeDiff, Nat.reduceAdd, Nat.reduceSub, Nat.reduceMul, Nat.reduceDiv, Int.reduceAdd, Int.reduceNeg, Int.reduceEq, Int.reduceLT, Int.reduceLE, c_walk_Flip_r3]
  refine call_view rfl (by simp only [go_sem, reduceIte, Nat.reduceEqDiff, Nat.reduceBEq, reduceCtorEq, Nat.reduceLT, Nat.reduceLeDiff, Nat.reduceAdd, Nat.reduceSub, Nat.reduceMul, Nat.reduceDiv, Int.reduceAdd, Int.reduceNeg, Int.reduceEq, Int.reduceLT, Int.reduceLE] <;> rfl) ((mright_ok n es m).mono ?_)
  rintro rr hh ⟨rfl, rfl⟩
  refine ⟨rfl, rfl, rfl, ?_⟩
  simp only [go_sem, reduceIte, Nat.reduceEqDiff, Nat.reduceBEq, reduceCtorEq, Nat.reduceLT, Nat.reduceLeDiff, Nat.reduceAdd, Nat.reduceSub, Nat.reduceMul, Nat.reduceDiv, Int.reduceAdd, Int.reduceNeg, Int.reduceEq, Int.reduceLT, Int.reduceLE, hmb]
  refine hKY _ ?_
  refine wlk_cond0 (by first | rfl | (simp only [go_sem, reduceIte, Nat.reduceEqDiff, Nat.reduceBEq, reduceCtorEq, Nat.reduceLT, Nat.reduceLeDiff, Nat.reduceAdd, Nat.reduceSub, Nat.reduceMul, Nat.reduceDiv, Int.reduceAdd, Int.reduceNeg, Int.reduceEq, Int.reduceLT, Int.reduceLE]; try simp (disch := omega) only [decide_eq_true, decide_eq_false])) ?_
  obtain ⟨N, es, rfl, rfl, g, hm⟩ := mate_cases hmb
  cases ha : augB N es m l with
  | false =>
    refine wlk_sreg fun KY hKY => ?_
    simp only [go_sem, reduceIte, Nat.reduceEqDiff, Nat.reduceBEq, reduceCtorEq, Nat.reduceLT, Nat.reduceLeDiff, Nat.reduceAdd, Nat.reduceSub, Nat.reduceMul, Nat.reduceDiv, Int.reduceAdd, Int.reduceNeg, Int.reduceEq, Int.reduceLT, Int.reduceLE, c_walk_Flip_r5]
    refine call_view rfl (by simp only [go_sem, reduceIte, Nat.reduceEqDiff, Nat.reduceBEq, reduceCtorEq, Nat.reduceLT, Nat.reduceLeDiff, Nat.reduceAdd, Nat.reduceSub, Nat.reduceMul, Nat.reduceDiv, Int.reduceAdd, Int.reduceNeg, Int.reduceEq, Int.reduceLT, Int.reduceLE] <;> rfl) ((waug_ok g m hm l hl).mono ?_)
    rintro rr hh ⟨rfl, rfl⟩
    refine ⟨rfl, rfl, rfl, ?_⟩
    simp only [go_sem, reduceIte, Nat.reduceEqDiff, Nat.reduceBEq, reduceCtorEq, Nat.reduceLT, Nat.reduceLeDiff, Nat.reduceAdd, Nat.reduceSub, Nat.reduceMul, Nat.reduceDiv, Int.reduceAdd, Int.reduceNeg, Int.reduceEq, Int.reduceLT, Int.reduceLE, ha]
    refine hKY _ ?_
    refine wlk_cond1 (by first | rfl | (simp only [go_sem, reduceIte, Nat.reduceEqDiff, Nat.reduceBEq, reduceCtorEq, Nat.reduceLT, Nat.reduceLeDiff, Nat.reduceAdd, Nat.reduceSub, Nat.reduceMul, Nat.reduceDiv, Int.reduceAdd, Int.reduceNeg, Int.reduceEq, Int.reduceLT, Int.reduceLE]; try simp (disch := omega) only [decide_eq_true, decide_eq_false])) ?_
    refine wlk_sreg fun KY hKY => ?_
    simp only [go_sem, reduceIte, Nat.reduceEqDiff, Nat.reduceBEq, reduceCtorEq, Nat.reduceLT, Nat.reduceLeDiff, Nat.reduceAdd, Nat.reduceSub, Nat.reduceMul, Nat.reduceDiv, Int.reduceAdd, Int.reduceNeg, Int.reduceEq, Int.reduceLT, Int.reduceLE, c_walk_Flip_r6]
    refine hKY _ ?_
    refine sem_nil [0, 6] 1 (by simp only [go_sem, reduceIte, Nat.reduceEqDiff, Nat.reduceBEq, reduceCtorEq, Nat.reduceLT, Nat.reduceLeDiff, Nat.reduceAdd, Nat.reduceSub, Nat.reduceMul, Nat.reduceDiv, Int.reduceAdd, Int.reduceNeg, Int.reduceEq, Int.reduceLT, Int.reduceLE]) ?_
    simp only [go_sem, reduceIte, Nat.reduceEqDiff, Nat.reduceBEq, reduceCtorEq, Nat.reduceLT, Nat.reduceLeDiff, Nat.reduceAdd, Nat.reduceSub, Nat.reduceMul, Nat.reduceDiv, Int.reduceAdd, Int.reduceNeg, Int.reduceEq, Int.reduceLT, Int.reduceLE]
    refine wlk_ret ?_
    repeat (first | refine hr2 _ ?_ | refine hr1 _ ?_)
    simp only [go_sem, reduceIte, Nat.reduceEqDiff, Nat.reduceBEq, reduceCtorEq, Nat.reduceLT, Nat.reduceLeDiff, Nat.reduceAdd, Nat.reduceSub, Nat.reduceMul, Nat.reduceDiv, Int.reduceAdd, Int.reduceNeg, Int.reduceEq, Int.reduceLT, Int.reduceLE]
    exact ⟨[], 1, .inr (.inr ⟨hmb, N, es, rfl, rfl, .inl ⟨ha, rfl, rfl⟩⟩), rfl⟩
  | true =>
  have hpb : pathB N es l = true := by
    have h := ha
    unfold augB altB at h
    rw [Bool.and_eq_true, Bool.and_eq_true, Bool.and_eq_true] at h
    exact h.2.1.1
  have hl2 : 2 ≤ l.length := by
    have h := ha
    unfold augB at h
    rw [Bool.and_eq_true, decide_eq_true_iff] at h
    exact h.1
  obtain ⟨a0, _, ha0⟩ := path_in hpb (show 0 < l.length by omega)
  have hmp : 0 < m.length := by omega
  have hne : (ints m).length = m.length := ints_len m
  refine wlk_sreg fun KY hKY => ?_
  simp only [go_sem, reduceIte, Nat.reduceEqDiff, Nat.reduceBEq, reduceCtorEq, Nat.reduceLT, Nat.reduceLeDiff, Nat.reduceAdd, Nat.reduceSub, Nat.reduceMul, Nat.reduceDiv, Int.reduceAdd, Int.reduceNeg, Int.reduceEq, Int.reduceLT, Int.reduceLE, c_walk_Flip_r5]
  refine call_view rfl (by simp only [go_sem, reduceIte, Nat.reduceEqDiff, Nat.reduceBEq, reduceCtorEq, Nat.reduceLT, Nat.reduceLeDiff, Nat.reduceAdd, Nat.reduceSub, Nat.reduceMul, Nat.reduceDiv, Int.reduceAdd, Int.reduceNeg, Int.reduceEq, Int.reduceLT, Int.reduceLE] <;> rfl) ((waug_ok g m hm l hl).mono ?_)
  rintro rr hh ⟨rfl, rfl⟩
  refine ⟨rfl, rfl, rfl, ?_⟩
  simp only [go_sem, reduceIte, Nat.reduceEqDiff, Nat.reduceBEq, reduceCtorEq, Nat.reduceLT, Nat.reduceLeDiff, Nat.reduceAdd, Nat.reduceSub, Nat.reduceMul, Nat.reduceDiv, Int.reduceAdd, Int.reduceNeg, Int.reduceEq, Int.reduceLT, Int.reduceLE, ha]
  refine hKY _ ?_
  refine wlk_cond0 (by first | rfl | (simp only [go_sem, reduceIte, Nat.reduceEqDiff, Nat.reduceBEq, reduceCtorEq, Nat.reduceLT, Nat.reduceLeDiff, Nat.reduceAdd, Nat.reduceSub, Nat.reduceMul, Nat.reduceDiv, Int.reduceAdd, Int.reduceNeg, Int.reduceEq, Int.reduceLT, Int.reduceLE]; try simp (disch := omega) only [decide_eq_true, decide_eq_false])) ?_
  refine wlk_skip ?_
  repeat (first | refine hn2 _ ?_ | refine he2 _ ?_ | refine hf2 _ _ (by decide) ?_ | refine hn1 _ ?_ | refine he1 _ _ ?_)
  refine wlk_sreg fun KY hKY => ?_
  simp only [go_sem, reduceIte, Nat.reduceEqDiff, Nat.reduceBEq, reduceCtorEq, Nat.reduceLT, Nat.reduceLeDiff, Nat.reduceAdd, Nat.reduceSub, Nat.reduceMul, Nat.reduceDiv, Int.reduceAdd, Int.reduceNeg, Int.reduceEq, Int.reduceLT, Int.reduceLE, c_walk_Flip_r7]
  refine call_view rfl (by simp only [go_sem, reduceIte, Nat.reduceEqDiff, Nat.reduceBEq, reduceCtorEq, Nat.reduceLT, Nat.reduceLeDiff, Nat.reduceAdd, Nat.reduceSub, Nat.reduceMul, Nat.reduceDiv, Int.reduceAdd, Int.reduceNeg, Int.reduceEq, Int.reduceLT, Int.reduceLE] <;> rfl) ((clone_ok m (by omega)).mono ?_)
  rintro rr hh ⟨rfl, rfl⟩
  refine ⟨?_, ?_, ?_, ?_⟩
  iterate 3 (first | rfl | simp only [go_sem, reduceIte, Nat.reduceEqDiff, Nat.reduceBEq, reduceCtorEq, Nat.reduceLT, Nat.reduceLeDiff, Nat.reduceAdd, Nat.reduceSub, Nat.reduceMul, Nat.reduceDiv, Int.reduceAdd, Int.reduceNeg, Int.reduceEq, Int.reduceLT, Int.reduceLE])
  simp only [go_sem, reduceIte, Nat.reduceEqDiff, Nat.reduceBEq, reduceCtorEq, Nat.reduceLT, Nat.reduceLeDiff, Nat.reduceAdd, Nat.reduceSub, Nat.reduceMul, Nat.reduceDiv, Int.reduceAdd, Int.reduceNeg, Int.reduceEq, Int.reduceLT, Int.reduceLE]
  refine hKY _ ?_
  refine wlk_sreg fun KY hKY => ?_
  simp only [go_sem, reduceIte, Nat.reduceEqDiff, Nat.reduceBEq, reduceCtorEq, Nat.reduceLT, Nat.reduceLeDiff, Nat.reduceAdd, Nat.reduceSub, Nat.reduceMul, Nat.reduceDiv, Int.reduceAdd, Int.reduceNeg, Int.reduceEq, Int.reduceLT, Int.reduceLE, c_walk_Flip_r8]
  apply call_gen [.bo, .vw] [] false (some [0, 8]) rfl
  iterate 8 (first | (simp only [go_sem, reduceIte, Nat.reduceEqDiff, Nat.reduceBEq, reduceCtorEq, Nat.reduceLT, Nat.reduceLeDiff, Nat.reduceAdd, Nat.reduceSub, Nat.reduceMul, Nat.reduceDiv, Int.reduceAdd, Int.reduceNeg, Int.reduceEq, Int.reduceLT, Int.reduceLE, watchIn, ints_len, hmp] <;> rfl) | rfl)
  refine (turn_ok m l hl hmm (fun i hi => by rw [hm]; exact path_in hpb hi)).mono ?_
  rintro _ _ ⟨rfl, rfl⟩
  refine ⟨Nat.le_of_ble_eq_true rfl, (fun hh => by cases hh), ?_⟩
  simp only [go_sem, reduceIte, Nat.reduceEqDiff, Nat.reduceBEq, reduceCtorEq, Nat.reduceLT, Nat.reduceLeDiff, Nat.reduceAdd, Nat.reduceSub, Nat.reduceMul, Nat.reduceDiv, Int.reduceAdd, Int.reduceNeg, Int.reduceEq, Int.reduceLT, Int.reduceLE, callOut, AState.after, ints_len, turnL_len, hmp]
  refine hKY _ ?_
  refine wlk_sreg fun KY hKY => ?_
  simp only [go_sem, reduceIte, Nat.reduceEqDiff, Nat.reduceBEq, reduceCtorEq, Nat.reduceLT, Nat.reduceLeDiff, Nat.reduceAdd, Nat.reduceSub, Nat.reduceMul, Nat.reduceDiv, Int.reduceAdd, Int.reduceNeg, Int.reduceEq, Int.reduceLT, Int.reduceLE, c_walk_Flip_r9]
  refine hKY _ ?_
  refine wlk_ret ?_
  repeat (first | refine hr2 _ ?_ | refine hr1 _ ?_)
  simp only [go_sem, reduceIte, Nat.reduceEqDiff, Nat.reduceBEq, reduceCtorEq, Nat.reduceLT, Nat.reduceLeDiff, Nat.reduceAdd, Nat.reduceSub, Nat.reduceMul, Nat.reduceDiv, Int.reduceAdd, Int.reduceNeg, Int.reduceEq, Int.reduceLT, Int.reduceLE]
  exact ⟨_, 0, .inr (.inr ⟨hmb, N, es, rfl, rfl, .inr ⟨ha, rfl, rfl⟩⟩), rfl⟩
end Go.Proofs.Ytoefhbfgmceikaa
set_option maxRecDepth 100000
set_option maxHeartbeats 4000000
namespace Go.Proofs.Ytoefhbfgmceikaa
open Go Go.Ga Go.Ga.Gl
end Go.Proofs.Ytoefhbfgmceikaa
set_option maxRecDepth 100000
set_option maxHeartbeats 4000000
namespace Go.Proofs.Ytoefhbfgmceikaa
open Go Go.Ga Go.Ga.Gl
theorem FP.len {n : Int} {es : List (Int × Int)} {m l x : List Int} {e : Int} (h : FP n es m l x e) : x.length ≤ m.length := by
  rcases h with ⟨_, rfl, _⟩ | ⟨_, _, rfl, _⟩ | ⟨_, N, es1, _, _, ⟨_, rfl, _⟩ | ⟨_, rfl, _⟩⟩
  · simp
  · simp
  · simp
  · rw [turnL_len]; exact Nat.le_refl _
theorem two_FP {x : List Int} {e : Int} (h : FP 2 [(0, 1)] [-1, -1] [1, 0] x e) : x = [1, 0] ∧ e = 0 :=
  h.unique (.inr (.inr ⟨by decide, 2, [(0, 1)], rfl, rfl, .inr ⟨by decide, rfl, rfl⟩⟩))
theorem two_aug {b : Bool} (h : onM 2 [(0, 1)] [-1, -1] (fun N e => augB N e [-1, -1] [0, 1]) b) : b = true :=
  onM_unique h (.inr ⟨by decide, 2, [(0, 1)], rfl, rfl, by decide⟩)
theorem awake09_ok : ACalls Try.prog [] n_garlandlaw09_awake [] [] fun r h' => r = .sc (.bool true) ∧ h' = [] := by
  refine ACalls.trim ?_
  have hf := wflip_ok 2 [(0, 1)] [-1, -1] [1, 0] (by decide) (by decide)
  have ha := waugments_ok 2 [(0, 1)] [-1, -1] [0, 1] (by decide)
  refine go_garlandlaw09_awake rfl ?_
  unfold c_garlandlaw09_awake v_garlandlaw09_awake
  refine wlk_sreg fun KY hKY => ?_
  simp only [go_sem, reduceIte, Nat.reduceEqDiff, Nat.reduceBEq, reduceCtorEq, Nat.reduceLT, Nat.reduceLeDiff, Nat.reduceAdd, Nat.reduceSub, Nat.reduceMul, Nat.reduceDiv, Int.reduceAdd, Int.reduceNeg, Int.reduceEq, Int.reduceLT, Int.reduceLE, c_garlandlaw09_awake_r0]
  refine hKY _ ?_
  refine wlk_sreg fun KY hKY => ?_
  simp only [go_sem, reduceIte, Nat.reduceEqDiff, Nat.reduceBEq, reduceCtorEq, Nat.reduceLT, Nat.reduceLeDiff, Nat.reduceAdd, Nat.reduceSub, Nat.reduceMul, Nat.reduceDiv, Int.reduceAdd, Int.reduceNeg, Int.reduceEq, Int.reduceLT, Int.reduceLE, c_garlandlaw09_awake_r1]
  refine hKY _ ?_
  refine sem_freeze [0, 1, 1] (by simp only [go_sem, reduceIte, Nat.reduceEqDiff, Nat.reduceBEq, reduceCtorEq, Nat.reduceLT, Nat.reduceLeDiff, Nat.reduceAdd, Nat.reduceSub, Nat.reduceMul, Nat.reduceDiv, Int.reduceAdd, Int.reduceNeg, Int.reduceEq, Int.reduceLT, Int.reduceLE]; rfl) ?_
  simp only [go_sem, reduceIte, Nat.reduceEqDiff, Nat.reduceBEq, reduceCtorEq, Nat.reduceLT, Nat.reduceLeDiff, Nat.reduceAdd, Nat.reduceSub, Nat.reduceMul, Nat.reduceDiv, Int.reduceAdd, Int.reduceNeg, Int.reduceEq, Int.reduceLT, Int.reduceLE]
  refine wlk_sreg fun KY hKY => ?_
  simp only [go_sem, reduceIte, Nat.reduceEqDiff, Nat.reduceBEq, reduceCtorEq, Nat.reduceLT, Nat.reduceLeDiff, Nat.reduceAdd, Nat.reduceSub, Nat.reduceMul, Nat.reduceDiv, Int.reduceAdd, Int.reduceNeg, Int.reduceEq, Int.reduceLT, Int.reduceLE, c_garlandlaw09_awake_r2]
  refine call_view rfl (by simp only [go_sem, reduceIte, Nat.reduceEqDiff, Nat.reduceBEq, reduceCtorEq, Nat.reduceLT, Nat.reduceLeDiff, Nat.reduceAdd, Nat.reduceSub, Nat.reduceMul, Nat.reduceDiv, Int.reduceAdd, Int.reduceNeg, Int.reduceEq, Int.reduceLT, Int.reduceLE] <;> rfl) ((hf).mono ?_)
  rintro rr hh ⟨⟨x, e, hxe, rfl⟩, rfl⟩
  refine ⟨?_, ?_, ?_, ?_⟩
  iterate 3 (first | rfl | simp only [go_sem, reduceIte, Nat.reduceEqDiff, Nat.reduceBEq, reduceCtorEq, Nat.reduceLT, Nat.reduceLeDiff, Nat.reduceAdd, Nat.reduceSub, Nat.reduceMul, Nat.reduceDiv, Int.reduceAdd, Int.reduceNeg, Int.reduceEq, Int.reduceLT, Int.reduceLE])
  obtain ⟨rfl, rfl⟩ := two_FP hxe
  simp only [go_sem, reduceIte, Nat.reduceEqDiff, Nat.reduceBEq, reduceCtorEq, Nat.reduceLT, Nat.reduceLeDiff, Nat.reduceAdd, Nat.reduceSub, Nat.reduceMul, Nat.reduceDiv, Int.reduceAdd, Int.reduceNeg, Int.reduceEq, Int.reduceLT, Int.reduceLE]
  refine hKY _ ?_
  refine wlk_sreg fun KY hKY => ?_
  simp only [go_sem, reduceIte, Nat.reduceEqDiff, Nat.reduceBEq, reduceCtorEq, Nat.reduceLT, Nat.reduceLeDiff, Nat.reduceAdd, Nat.reduceSub, Nat.reduceMul, Nat.reduceDiv, Int.reduceAdd, Int.reduceNeg, Int.reduceEq, Int.reduceLT, Int.reduceLE, c_garlandlaw09_awake_r3]
  refine call_view rfl (by simp only [go_sem, reduceIte, Nat.reduceEqDiff, Nat.reduceBEq, reduceCtorEq, Nat.reduceLT, Nat.reduceLeDiff, Nat.reduceAdd, Nat.reduceSub, Nat.reduceMul, Nat.reduceDiv, Int.reduceAdd, Int.reduceNeg, Int.reduceEq, Int.reduceLT, Int.reduceLE] <;> rfl) ((plaini_ok [1, 0] [1, 0] (by decide)).mono ?_)
  rintro rr hh ⟨rfl, rfl⟩
  refine ⟨rfl, rfl, rfl, ?_⟩
  simp only [go_sem, reduceIte, Nat.reduceEqDiff, Nat.reduceBEq, reduceCtorEq, Nat.reduceLT, Nat.reduceLeDiff, Nat.reduceAdd, Nat.reduceSub, Nat.reduceMul, Nat.reduceDiv, Int.reduceAdd, Int.reduceNeg, Int.reduceEq, Int.reduceLT, Int.reduceLE, decide_true]
  refine call_view rfl (by simp only [go_sem, reduceIte, Nat.reduceEqDiff, Nat.reduceBEq, reduceCtorEq, Nat.reduceLT, Nat.reduceLeDiff, Nat.reduceAdd, Nat.reduceSub, Nat.reduceMul, Nat.reduceDiv, Int.reduceAdd, Int.reduceNeg, Int.reduceEq, Int.reduceLT, Int.reduceLE] <;> rfl) ((ha).mono ?_)
  rintro rr hh ⟨⟨b, hb, rfl⟩, rfl⟩
  refine ⟨?_, ?_, ?_, ?_⟩
  iterate 3 (first | rfl | simp only [go_sem, reduceIte, Nat.reduceEqDiff, Nat.reduceBEq, reduceCtorEq, Nat.reduceLT, Nat.reduceLeDiff, Nat.reduceAdd, Nat.reduceSub, Nat.reduceMul, Nat.reduceDiv, Int.reduceAdd, Int.reduceNeg, Int.reduceEq, Int.reduceLT, Int.reduceLE])
  obtain rfl := two_aug hb
  simp only [go_sem, reduceIte, Nat.reduceEqDiff, Nat.reduceBEq, reduceCtorEq, Nat.reduceLT, Nat.reduceLeDiff, Nat.reduceAdd, Nat.reduceSub, Nat.reduceMul, Nat.reduceDiv, Int.reduceAdd, Int.reduceNeg, Int.reduceEq, Int.reduceLT, Int.reduceLE]
  refine hKY _ ?_
  refine wlk_ret ?_
  simp only [go_sem, reduceIte, Nat.reduceEqDiff, Nat.reduceBEq, reduceCtorEq, Nat.reduceLT, Nat.reduceLeDiff, Nat.reduceAdd, Nat.reduceSub, Nat.reduceMul, Nat.reduceDiv, Int.reduceAdd, Int.reduceNeg, Int.reduceEq, Int.reduceLT, Int.reduceLE]
end Go.Proofs.Ytoefhbfgmceikaa

namespace Go.Ga.Gl
open Go Go.Ga
def ow (m : List Int) (x y : Nat) : Bool := decide (m.getD x 0 = (y : Int))
def dif (a b : List Int) (es : Es) : Es := es.filter fun e => ow a e.1 e.2 != ow b e.1 e.2
def btw (a b : List Int) (v : Nat) : Bool := decide (a.getD v 0 ≠ b.getD v 0)
theorem dif_step (a b : List Int) {es : Es} {k : Nat} {x y : Nat} (h : es[k]? = some (x, y)) :
    dif a b (es.take (k + 1)) = if (ow a x y != ow b x y) = true then dif a b (es.take k) ++ [(x, y)] else dif a b (es.take k) := by
  have : es.take (k + 1) = es.take k ++ [(x, y)] := by
    rw [List.take_add_one, h]; rfl
  rw [this]; unfold dif
  rw [List.filter_append]
  split
  · rename_i h1; simp [h1]
  · rename_i h1; simp [h1]
theorem dif_len (a b : List Int) (es : Es) : (dif a b es).length ≤ es.length := List.length_filter_le _ _
theorem dif_GR (a b : List Int) {n : Nat} {es : Es} (g : GR n es) : GR n (dif a b es) where
  hn := g.hn
  hm := Nat.le_trans (dif_len a b es) g.hm
  ok := fun e h => g.ok e (List.mem_filter.1 h).1
  up := g.up.filter _
def marks (n : Nat) (l : Es) : List Bool := l.foldl (fun m e => (m.set e.1 true).set e.2 true) (List.replicate n false)
theorem marks_snoc (n : Nat) (l : Es) (x y : Nat) : ((marks n l).set x true).set y true = marks n (l ++ [(x, y)]) := by
  simp [marks, List.foldl_append]
theorem snoc_ind {α : Type} {P : List α → Prop} (h0 : P []) (h1 : ∀ l x, P l → P (l ++ [x])) (l : List α) : P l := by
  have : P l.reverse.reverse := by
    generalize l.reverse = m
    induction m with
    | nil => exact h0
    | cons x m ih => rw [List.reverse_cons]; exact h1 _ _ ih
  rwa [List.reverse_reverse] at this
theorem marks_len (n : Nat) (l : Es) : (marks n l).length = n := by
  induction l using snoc_ind with
  | h0 => simp [marks]
  | h1 l x ih => rw [← marks_snoc]; simp [ih]
theorem getD_setB (l : List Bool) (v w : Nat) (h : v < l.length) : (l.set v true).getD w false = (decide (v = w) || l.getD w false) := by
  simp only [List.getD_eq_getElem?_getD, List.getElem?_set]
  by_cases e : v = w
  · subst e; simp [h]
  · simp [e]
theorem marks_get {n : Nat} {l : Es} (hl : ∀ e ∈ l, e.1 < n ∧ e.2 < n) (v : Nat) : (marks n l).getD v false = l.any fun e => decide (e.1 = v) || decide (e.2 = v) := by
  induction l using snoc_ind with
  | h0 => by_cases h : v < n <;> simp [marks, h]
  | h1 l e ih =>
    obtain ⟨x, y⟩ := e
    have he := hl (x, y) (by simp)
    rw [← marks_snoc, getD_setB _ _ _ (by simpa [marks_len] using he.2), getD_setB _ _ _ (by simpa [marks_len] using he.1), ih (fun e h => hl e (by simp [h]))]
    simp only [List.any_append, List.any_cons, List.any_nil, Bool.or_false]
    cases decide (x = v) <;> cases decide (y = v) <;> cases l.any _ <;> rfl
structure Mt (N : Nat) (es : Es) (m : List Int) : Prop where
  len : m.length = N
  at_ : ∀ v, v < N → m.getD v 0 = -1 ∨ ∃ w : Nat, m.getD v 0 = (w : Int) ∧ w < N ∧ w ≠ v ∧ adj es v w ∧ m.getD w 0 = (v : Int)
theorem Mt.back {N : Nat} {es : Es} {m : List Int} (M : Mt N es m) {v w : Nat} (hv : v < N) (h : m.getD v 0 = (w : Int)) : w < N ∧ w ≠ v ∧ adj es v w ∧ m.getD w 0 = (v : Int) := by
  rcases M.at_ v hv with h1 | ⟨u, h1, h2⟩
  · omega
  · obtain rfl : u = w := by omega
    exact h2
theorem Mt.own {N : Nat} {es : Es} {m : List Int} (M : Mt N es m) {v w : Nat} (hv : v < N) (hw : w < N) : ow m v w = ow m w v := by
  unfold ow
  by_cases h : m.getD v 0 = (w : Int)
  · rw [decide_eq_true h, decide_eq_true (M.back hv h).2.2.2]
  · rw [decide_eq_false h, decide_eq_false]
    intro h2; exact h (M.back hw h2).2.2.2
theorem adj_dif {N : Nat} {es : Es} {a b : List Int} (g : GR N es) (A : Mt N es a) (B : Mt N es b) {v w : Nat} : adj (dif a b es) v w ↔ adj es v w ∧ (ow a v w != ow b v w) = true := by
  unfold adj dif
  simp only [List.mem_filter]
  constructor
  · rintro (⟨h, h2⟩ | ⟨h, h2⟩)
    · exact ⟨.inl h, h2⟩
    · have hl := g.ok _ h
      refine ⟨.inr h, ?_⟩
      simp only at h2 hl
      rw [A.own (w := w) (by omega) (by omega), B.own (w := w) (by omega) (by omega)]; exact h2
  · rintro ⟨h | h, h2⟩
    · exact .inl ⟨h, h2⟩
    · have hl := g.ok _ h
      refine .inr ⟨h, ?_⟩
      simp only at hl
      rw [A.own (w := w) (by omega) (by omega), B.own (w := w) (by omega) (by omega)] at h2; exact h2
theorem in_step {N : Nat} {es : Es} {a b : List Int} (g : GR N es) (A : Mt N es a) (B : Mt N es b) {v w : Nat} (hv : v < N) (hi : btw a b v = true) (h : a.getD v 0 = (w : Int) ∨ b.getD v 0 = (w : Int)) : w < N ∧ w ≠ v ∧ adj (dif a b es) v w := by
  have hne : a.getD v 0 ≠ b.getD v 0 := of_decide_eq_true hi
  rcases h with h | h
  · have k := A.back hv h
    refine ⟨k.1, k.2.1, (adj_dif g A B).2 ⟨k.2.2.1, ?_⟩⟩
    unfold ow; rw [decide_eq_true h, decide_eq_false (by omega)]; rfl
  · have k := B.back hv h
    refine ⟨k.1, k.2.1, (adj_dif g A B).2 ⟨k.2.2.1, ?_⟩⟩
    unfold ow; rw [decide_eq_true h, decide_eq_false (by omega)]; rfl
theorem in_adj {N : Nat} {es : Es} {a b : List Int} (g : GR N es) (A : Mt N es a) (B : Mt N es b) {v : Nat} (hv : v < N) : btw a b v = true ↔ ∃ w, adj (dif a b es) v w := by
  constructor
  · intro hi
    have hne : a.getD v 0 ≠ b.getD v 0 := of_decide_eq_true hi
    rcases A.at_ v hv with h1 | ⟨w, h1, _⟩
    · rcases B.at_ v hv with h2 | ⟨w, h2, _⟩
      · omega
      · exact ⟨w, (in_step g A B hv hi (.inr h2)).2.2⟩
    · exact ⟨w, (in_step g A B hv hi (.inl h1)).2.2⟩
  · rintro ⟨w, h⟩
    have h := ((adj_dif g A B).1 h).2
    unfold btw
    refine decide_eq_true fun e => ?_
    unfold ow at h; rw [e] at h; simp at h
theorem in_own {N : Nat} {es : Es} {a b : List Int} (g : GR N es) (A : Mt N es a) (B : Mt N es b) {v w : Nat} (hv : v < N) (h : adj (dif a b es) v w) : btw a b v = true ∧ btw a b w = true ∧ (a.getD v 0 = (w : Int) ∨ b.getD v 0 = (w : Int)) := by
  have h1 := (adj_dif g A B).1 h
  have hw : w < N := by
    rcases h1.1 with h2 | h2 <;> have := g.ok _ h2 <;> simp only at this <;> omega
  refine ⟨(in_adj g A B hv).2 ⟨w, h⟩, (in_adj g A B hw).2 ⟨v, adj_symm h⟩, ?_⟩
  have h2 := h1.2
  unfold ow at h2
  by_cases e : a.getD v 0 = (w : Int)
  · exact .inl e
  · by_cases e2 : b.getD v 0 = (w : Int)
    · exact .inr e2
    · rw [decide_eq_false e, decide_eq_false e2] at h2; cases h2
theorem marks_in {N : Nat} {es : Es} {a b : List Int} (g : GR N es) (A : Mt N es a) (B : Mt N es b) {v : Nat} (hv : v < N) : (marks N (dif a b es)).getD v false = btw a b v := by
  rw [marks_get (fun e h => by have := (dif_GR a b g).ok e h; omega)]
  rw [Bool.eq_iff_iff, in_adj g A B hv]
  simp only [List.any_eq_true, Bool.or_eq_true, decide_eq_true_eq]
  constructor
  · rintro ⟨⟨x, y⟩, h, rfl | rfl⟩
    · exact ⟨y, .inl h⟩
    · exact ⟨x, .inr h⟩
  · rintro ⟨w, h | h⟩
    · exact ⟨_, h, .inl rfl⟩
    · exact ⟨_, h, .inr rfl⟩
end Go.Ga.Gl
set_option maxRecDepth 100000
set_option maxHeartbeats 4000000
namespace Go.Proofs.Ytoefhbfgmceikaa
open Go Go.Ga Go.Ga.Gl
theorem mateB_Mt {N : Nat} {es : Es} (g : GR N es) {m : List Int} (h : mateB N (castE es) m = true) : Mt N es m where
  len := by have := (mateB_len h).2; omega
  at_ := fun v hv => by
    have hm := (mateB_len h).2
    have h0 := h
    rw [mateB_yes g (show m.length = N by omega), List.all_eq_true] at h
    have := h v (List.mem_range.2 hv)
    unfold mOk at this
    rw [Bool.or_eq_true, Bool.and_eq_true, decide_eq_true_iff, decide_eq_true_iff, decide_eq_true_iff] at this
    rcases this with h1 | h1
    · exact .inl h1
    · obtain ⟨u, h2, h3, _, h4⟩ := turn_mem g h1.1
      have h5 := h1.1
      have h6 := h1.2
      rw [h2] at h5 h6
      rw [Int.toNat_natCast] at h6
      refine .inr ⟨u, h2, h3, h4, ?_, h6⟩
      obtain ⟨⟨x, y⟩, hx, e⟩ := List.mem_map.1 h5
      unfold turnI at e
      split at e
      · simp only [Prod.mk.injEq] at e
        obtain rfl : x = u := by omega
        obtain rfl : y = v := by omega
        exact .inr hx
      · simp only [Prod.mk.injEq] at e
        obtain rfl : x = v := by omega
        obtain rfl : y = u := by omega
        exact .inl hx
def AP (n : Int) (es : List (Int × Int)) (a b : List Int) (x : List (List Nat)) (e : Int) : Prop :=
  (rightB n es = false ∧ x = [] ∧ e = 3) ∨ (rightB n es = true ∧ (mateB n es a && mateB n es b) = false ∧ x = [] ∧ e = 9) ∨
  (rightB n es = true ∧ (mateB n es a && mateB n es b) = true ∧ ∃ (N : Nat) (es' : Es) (ps : List (List Nat)), n = N ∧ es = castE es' ∧ IsPieces N (dif a b es') (fun v => (v : Int) ∈ ([] : List Int)) ps ∧ x = ps.filter (fun p => btw a b (p.headD 0)) ∧ e = 0)
theorem AP.unique {n : Int} {es : List (Int × Int)} {a b : List Int} {x y : List (List Nat)} {e f : Int} (h : AP n es a b x e) (h' : AP n es a b y f) : x = y ∧ e = f := by
  rcases h with ⟨h1, rfl, rfl⟩ | ⟨h1, h2, rfl, rfl⟩ | ⟨h1, h2, N, es1, ps, rfl, rfl, hp, rfl, rfl⟩
  · rcases h' with ⟨_, rfl, rfl⟩ | ⟨h3, _⟩ | ⟨h3, _⟩
    · exact ⟨rfl, rfl⟩
    · rw [h1] at h3; cases h3
    · rw [h1] at h3; cases h3
  · rcases h' with ⟨h3, _⟩ | ⟨_, _, rfl, rfl⟩ | ⟨_, h3, _⟩
    · rw [h1] at h3; cases h3
    · exact ⟨rfl, rfl⟩
    · rw [h2] at h3; cases h3
  · rcases h' with ⟨h3, _⟩ | ⟨_, h3, _⟩ | ⟨_, _, M, es2, qs, hN, he, hq, rfl, rfl⟩
    · rw [h1] at h3; cases h3
    · rw [h2] at h3; cases h3
    · obtain rfl : N = M := by omega
      obtain rfl := castE_inj he
      obtain ⟨N', es', e1, e2, g⟩ := right_nat h1
      obtain rfl : N = N' := by omega
      obtain rfl := castE_inj e2
      rw [hp.unique (dif_GR a b g).adj_lt hq]
      exact ⟨rfl, rfl⟩
theorem AP.len {n : Int} {es : List (Int × Int)} {a b : List Int} {x : List (List Nat)} {e : Int} (h : AP n es a b x e) : x.length ≤ 4096 ∧ ∀ p ∈ x, p.length ≤ 4096 := by
  rcases h with ⟨h1, rfl, rfl⟩ | ⟨h1, h2, rfl, rfl⟩ | ⟨h1, h2, N, es1, ps, rfl, rfl, hp, rfl, rfl⟩
  · exact ⟨by simp, fun p hp => by simp at hp⟩
  · exact ⟨by simp, fun p hp => by simp at hp⟩
  · obtain ⟨N', es', e1, e2, g⟩ := right_nat h1
    have := g.hn
    exact ⟨Nat.le_trans (List.length_filter_le _ _) (by have := pieces_len hp; omega), fun p h => by have := piece_len hp (List.mem_filter.1 h).1; omega⟩
end Go.Proofs.Ytoefhbfgmceikaa
set_option maxRecDepth 100000
set_option maxHeartbeats 4000000
namespace Go.Proofs.Ytoefhbfgmceikaa
open Go Go.Ga Go.Ga.Gl
def gone (k : Nat) (ps : List (List Nat)) : List AVal := List.replicate k .dead ++ rowsO (ps.drop k)
theorem gone_zero (ps : List (List Nat)) : gone 0 ps = rowsO ps := by simp [gone]
theorem gone_len {k : Nat} {ps : List (List Nat)} (h : k ≤ ps.length) : (gone k ps).length = ps.length := by simp [gone, rowsO]; omega
theorem gone_get {k : Nat} {ps : List (List Nat)} {p : List Nat} (h : ps[k]? = some p) : (gone k ps)[k]? = some (.own (some 1) (nats p)) := by
  unfold gone
  rw [List.getElem?_append_right (by simp)]
  simp [rowsO, h]
theorem gone_set {k : Nat} {ps : List (List Nat)} (h : k < ps.length) : (gone k ps).set k .dead = gone (k + 1) ps := by
  unfold gone
  rw [List.set_append_right _ _ (by simp)]
  simp only [List.length_replicate, Nat.sub_self]
  rw [List.drop_eq_getElem_cons h, List.replicate_succ', List.append_assoc]
  rfl
theorem wapart_ok (n : Int) (es : List (Int × Int)) (a b : List Int) : ACalls Try.prog [] n_walk_Apart [.agg [.sc (.int .i64 n), .imm 2 (twos es)], .imm 1 (ints a), .imm 1 (ints b)] [] fun r h' => (∃ x e, AP n es a b x e ∧ r = .tup [.own (some 1) (rowsO x), .sc (.int .i64 e)]) ∧ h' = [] := by
  refine ACalls.trim ?_
  refine go_walk_Apart rfl ?_
  unfold c_walk_Apart v_walk_Apart
  refine wlk_sreg fun KY hKY => ?_
  simp only [go_sem, reduceIte, Nat.reduceEqDiff, reduceCtorEq, c_walk_Apart_r0]
  refine hKY _ ?_
  refine wlk_seq fun X1 hn1 he1 hr1 => ?_
  cases hr : rightB n es with
  | false =>
    refine wlk_sreg fun KY hKY => ?_
    simp only [go_sem, reduceIte, Nat.reduceEqDiff, reduceCtorEq, Nat.reduceLT, Nat.reduceAdd, c_walk_Apart_r1]
    refine call_view rfl (by simp only [go_sem, reduceIte, Nat.reduceEqDiff, reduceCtorEq] <;> rfl) ((right_ok n es).mono ?_)
    rintro rr hh ⟨rfl, rfl⟩
    refine ⟨rfl, rfl, rfl, ?_⟩
    simp only [go_sem, reduceIte, Nat.reduceEqDiff, reduceCtorEq, hr]
    refine hKY _ ?_
    refine wlk_cond1 (by first | rfl | (simp only [go_sem, reduceIte, Nat.reduceEqDiff, Nat.reduceBEq, reduceCtorEq, Nat.reduceLT, Nat.reduceLeDiff, Nat.reduceAdd, Nat.reduceSub, Nat.reduceMul, Nat.reduceDiv, Int.reduceAdd, Int.reduceNeg, Int.reduceEq, Int.reduceLT, Int.reduceLE]; try simp (disch := omega) only [decide_eq_true, decide_eq_false])) ?_
    refine wlk_sreg fun KY hKY => ?_
    simp only [go_sem, reduceIte, Nat.reduceEqDiff, reduceCtorEq, c_walk_Apart_r2]
    refine hKY _ ?_
    refine sem_nil [0, 6] 1 (by simp only [go_sem, reduceIte, Nat.reduceEqDiff, reduceCtorEq]) ?_
    simp only [go_sem, reduceIte, Nat.reduceEqDiff, reduceCtorEq]
    refine wlk_ret ?_
    repeat (first | refine hr1 _ ?_)
    simp only [go_sem, reduceIte, Nat.reduceEqDiff, reduceCtorEq]
    exact ⟨[], 3, .inl ⟨hr, rfl, rfl⟩, rfl⟩
  | true =>
  refine wlk_sreg fun KY hKY => ?_
  simp only [go_sem, reduceIte, Nat.reduceEqDiff, reduceCtorEq, Nat.reduceLT, Nat.reduceAdd, c_walk_Apart_r1]
  refine call_view rfl (by simp only [go_sem, reduceIte, Nat.reduceEqDiff, reduceCtorEq] <;> rfl) ((right_ok n es).mono ?_)
  rintro rr hh ⟨rfl, rfl⟩
  refine ⟨rfl, rfl, rfl, ?_⟩
  simp only [go_sem, reduceIte, Nat.reduceEqDiff, reduceCtorEq, hr]
  refine hKY _ ?_
  refine wlk_cond0 (by first | rfl | (simp only [go_sem, reduceIte, Nat.reduceEqDiff, Nat.reduceBEq, reduceCtorEq, Nat.reduceLT, Nat.reduceLeDiff, Nat.reduceAdd, Nat.reduceSub, Nat.reduceMul, Nat.reduceDiv, Int.reduceAdd, Int.reduceNeg, Int.reduceEq, Int.reduceLT, Int.reduceLE]; try simp (disch := omega) only [decide_eq_true, decide_eq_false])) ?_
  refine wlk_skip ?_
  repeat (first | refine hn1 _ ?_ | refine he1 _ _ ?_)
  refine wlk_seq fun X2 hn2 he2 hr2 => ?_
  cases hma : mateB n es a with
  | false =>
    refine wlk_sreg fun KY hKY => ?_
    simp only [go_sem, reduceIte, Nat.reduceEqDiff, reduceCtorEq, Nat.reduceLT, Nat.reduceAdd, c_walk_Apart_r3]
    refine call_view rfl (by simp only [go_sem, reduceIte, Nat.reduceEqDiff, reduceCtorEq] <;> rfl) ((mright_ok n es a).mono ?_)
    rintro rr hh ⟨rfl, rfl⟩
    refine ⟨rfl, rfl, rfl, ?_⟩
    simp only [go_sem, reduceIte, Nat.reduceEqDiff, reduceCtorEq, hma]
    refine hKY _ ?_
    refine wlk_cond1 (by first | rfl | (simp only [go_sem, reduceIte, Nat.reduceEqDiff, Nat.reduceBEq, reduceCtorEq, Nat.reduceLT, Nat.reduceLeDiff, Nat.reduceAdd, Nat.reduceSub, Nat.reduceMul, Nat.reduceDiv, Int.reduceAdd, Int.reduceNeg, Int.reduceEq, Int.reduceLT, Int.reduceLE]; try simp (disch := omega) only [decide_eq_true, decide_eq_false])) ?_
    refine wlk_sreg fun KY hKY => ?_
    simp only [go_sem, reduceIte, Nat.reduceEqDiff, reduceCtorEq, c_walk_Apart_r4]
    refine hKY _ ?_
    refine sem_nil [0, 6] 1 (by simp only [go_sem, reduceIte, Nat.reduceEqDiff, reduceCtorEq]) ?_
    simp only [go_sem, reduceIte, Nat.reduceEqDiff, reduceCtorEq]
    refine wlk_ret ?_
    repeat (first | refine hr2 _ ?_ | refine hr1 _ ?_)
    simp only [go_sem, reduceIte, Nat.reduceEqDiff, reduceCtorEq]
    exact ⟨[], 9, .inr (.inl ⟨hr, by rw [hma]; rfl, rfl, rfl⟩), rfl⟩
  | true =>
  cases hmb : mateB n es b with
  | false =>
    refine wlk_sreg fun KY hKY => ?_
    simp only [go_sem, reduceIte, Nat.reduceEqDiff, reduceCtorEq, Nat.reduceLT, Nat.reduceAdd, c_walk_Apart_r3]
    refine call_view rfl (by simp only [go_sem, reduceIte, Nat.reduceEqDiff, reduceCtorEq] <;> rfl) ((mright_ok n es a).mono ?_)
    rintro rr hh ⟨rfl, rfl⟩
    refine ⟨rfl, rfl, rfl, ?_⟩
    simp only [go_sem, reduceIte, Nat.reduceEqDiff, reduceCtorEq, Nat.reduceLT, Nat.reduceAdd, hma]
    refine call_view rfl (by simp only [go_sem, reduceIte, Nat.reduceEqDiff, reduceCtorEq] <;> rfl) ((mright_ok n es b).mono ?_)
    rintro rr hh ⟨rfl, rfl⟩
    refine ⟨rfl, rfl, rfl, ?_⟩
    simp only [go_sem, reduceIte, Nat.reduceEqDiff, reduceCtorEq, hmb]
    refine hKY _ ?_
    refine wlk_cond1 (by first | rfl | (simp only [go_sem, reduceIte, Nat.reduceEqDiff, Nat.reduceBEq, reduceCtorEq, Nat.reduceLT, Nat.reduceLeDiff, Nat.reduceAdd, Nat.reduceSub, Nat.reduceMul, Nat.reduceDiv, Int.reduceAdd, Int.reduceNeg, Int.reduceEq, Int.reduceLT, Int.reduceLE]; try simp (disch := omega) only [decide_eq_true, decide_eq_false])) ?_
    refine wlk_sreg fun KY hKY => ?_
    simp only [go_sem, reduceIte, Nat.reduceEqDiff, reduceCtorEq, c_walk_Apart_r4]
    refine hKY _ ?_
    refine sem_nil [0, 6] 1 (by simp only [go_sem, reduceIte, Nat.reduceEqDiff, reduceCtorEq]) ?_
    simp only [go_sem, reduceIte, Nat.reduceEqDiff, reduceCtorEq]
    refine wlk_ret ?_
    repeat (first | refine hr2 _ ?_ | refine hr1 _ ?_)
    simp only [go_sem, reduceIte, Nat.reduceEqDiff, reduceCtorEq]
    exact ⟨[], 9, .inr (.inl ⟨hr, by rw [hmb, Bool.and_false], rfl, rfl⟩), rfl⟩
  | true =>
  refine wlk_sreg fun KY hKY => ?_
  simp only [go_sem, reduceIte, Nat.reduceEqDiff, reduceCtorEq, Nat.reduceLT, Nat.reduceAdd, c_walk_Apart_r3]
  refine call_view rfl (by simp only [go_sem, reduceIte, Nat.reduceEqDiff, reduceCtorEq] <;> rfl) ((mright_ok n es a).mono ?_)
  rintro rr hh ⟨rfl, rfl⟩
  refine ⟨rfl, rfl, rfl, ?_⟩
  simp only [go_sem, reduceIte, Nat.reduceEqDiff, reduceCtorEq, Nat.reduceLT, Nat.reduceAdd, hma]
  refine call_view rfl (by simp only [go_sem, reduceIte, Nat.reduceEqDiff, reduceCtorEq] <;> rfl) ((mright_ok n es b).mono ?_)
  rintro rr hh ⟨rfl, rfl⟩
  refine ⟨rfl, rfl, rfl, ?_⟩
  simp only [go_sem, reduceIte, Nat.reduceEqDiff, reduceCtorEq, hmb]
  refine hKY _ ?_
  refine wlk_cond0 (by first | rfl | (simp only [go_sem, reduceIte, Nat.reduceEqDiff, Nat.reduceBEq, reduceCtorEq, Nat.reduceLT, Nat.reduceLeDiff, Nat.reduceAdd, Nat.reduceSub, Nat.reduceMul, Nat.reduceDiv, Int.reduceAdd, Int.reduceNeg, Int.reduceEq, Int.reduceLT, Int.reduceLE]; try simp (disch := omega) only [decide_eq_true, decide_eq_false])) ?_
  refine wlk_skip ?_
  repeat (first | refine hn2 _ ?_ | refine he2 _ _ ?_ | refine hn1 _ ?_ | refine he1 _ _ ?_)
  obtain ⟨N, es, rfl, rfl, g, ham⟩ := mate_cases hma
  have hbm := (mateB_len hmb).2
  have A := mateB_Mt g hma
  have B := mateB_Mt g hmb
  have hbl : b.length = N := by omega
  have hN := g.hn
  have hE := g.hm
  refine wlk_sdraw fun KY hKY => ?_
  simp only [go_sem, reduceIte, Nat.reduceEqDiff, Nat.reduceBEq, reduceCtorEq, Nat.reduceLT, Nat.reduceAdd, c_walk_Apart_r5]
  refine (fun H => by refine ⟨⟨⟨⟨hKY _ ?_, hKY _ ?_⟩, hKY _ ?_⟩, ⟨⟨hKY _ ?_, hKY _ ?_⟩, hKY _ ?_⟩⟩, ⟨⟨⟨hKY _ ?_, hKY _ ?_⟩, hKY _ ?_⟩, hKY _ ?_⟩⟩ <;> (simp only [go_sem, reduceIte, Nat.reduceEqDiff, reduceCtorEq]; exact H)) ?_
  refine wlk_sreg fun KY hKY => ?_
  simp only [go_sem, reduceIte, Nat.reduceEqDiff, Nat.reduceBEq, reduceCtorEq, Nat.reduceLT, Nat.reduceAdd, c_walk_Apart_r6]
  refine hKY _ ?_
  refine sem_nil [0, 10, 1] 2 (by simp only [go_sem, reduceIte, Nat.reduceEqDiff, reduceCtorEq]) ?_
  simp only [go_sem, reduceIte, Nat.reduceEqDiff, reduceCtorEq]
  refine wlk_sreg fun KY hKY => ?_
  simp only [go_sem, reduceIte, Nat.reduceEqDiff, Nat.reduceBEq, reduceCtorEq, c_walk_Apart_r7, bools_zero, (show 1 * N ≤ 140737488355328 by omega), (show (N : Int) ≤ (N : Int) from Int.le_refl _), (show (N : Int) ≤ 9223372036854775807 by omega)]
  refine hKY _ ?_
  simp only [go_sem, reduceIte, Nat.reduceEqDiff, reduceCtorEq]
  rw [show AVal.own (some 2) [] = .own (some 2) (twos (castE (dif a b (es.take 0)))) from rfl, show AVal.own (some 1) (bools (List.replicate N false)) = .own (some 1) (bools (marks N (dif a b (es.take 0)))) from rfl]
  refine wlk_seq fun X3 hn3 he3 hr3 => ?_
  refine wlk_sreg fun KY hKY => ?_
  simp only [go_sem, reduceIte, Nat.reduceEqDiff, reduceCtorEq, c_walk_Apart_r8, twos_len, mul2, castE_len]
  refine hKY _ ?_
  refine wlk_blk fun X4 hn4 he4 hf4 hr4 => ?_
  try simp only [go_sem, reduceIte, Nat.reduceEqDiff, reduceCtorEq]
  refine wlk_lp (α := Nat) [13, 48, 63] (fun k => [(10, .own none [.sc (.int .i64 (N : Int)), .own (some 2) (twos (castE (dif a b (es.take k))))]), (11, .own (some 1) (bools (marks N (dif a b (es.take k))))), (47, .sc (.int .i64 (k : Int)))]) (fun k => []) (fun k q => k ≤ es.length ∧ q = es.length - k) (0) (es.length) rfl (by first | (simp only [go_sem, reduceIte, Nat.reduceEqDiff, reduceCtorEq, updAll_cons, updAll_nil]; done) | with_reducible rfl | rfl) (⟨by omega, rfl⟩) ?_
  rintro k q ⟨hk, rfl⟩ X5 hn5 he5 hr5
  simp only [go_sem, reduceIte, Nat.reduceEqDiff, reduceCtorEq, updAll_cons, updAll_nil]
  rcases Nat.lt_or_ge k es.length with hk2 | hk2
  · have hdy : decide ((k : Int) < (es.length : Int)) = true := decide_eq_true (by omega)
    refine wlk_sreg fun KY hKY => ?_
    simp only [go_sem, reduceIte, Nat.reduceEqDiff, reduceCtorEq, c_walk_Apart_r9, hdy]
    refine hKY _ ?_
    refine wlk_seq fun X6 hn6 he6 hr6 => ?_
    refine wlk_cond1 (by first | rfl | (simp only [go_sem, reduceIte, Nat.reduceEqDiff, Nat.reduceBEq, reduceCtorEq, Nat.reduceLT, Nat.reduceLeDiff, Nat.reduceAdd, Nat.reduceSub, Nat.reduceMul, Nat.reduceDiv, Int.reduceAdd, Int.reduceNeg, Int.reduceEq, Int.reduceLT, Int.reduceLE]; try simp (disch := omega) only [decide_eq_true, decide_eq_false])) ?_
    refine wlk_skip ?_
    repeat (first | refine hn6 _ ?_ | refine he6 _ _ ?_ | refine he5 _ _ ?_ | refine hn4 _ ?_ | refine he4 _ ?_ | refine hf4 _ _ (by decide) ?_ | refine hn3 _ ?_ | refine he3 _ _ ?_ | refine hn2 _ ?_ | refine he2 _ _ ?_ | refine hn1 _ ?_ | refine he1 _ _ ?_)
    refine wlk_seq fun X7 hn7 he7 hr7 => ?_
    refine wlk_blk fun X8 hn8 he8 hf8 hr8 => ?_
    have hx : es[k]? = some es[k] := List.getElem?_eq_getElem hk2
    have hxm : es[k] ∈ es := List.getElem_mem hk2
    generalize es[k] = x at hx hxm
    obtain ⟨u, v⟩ := x
    have hxc := castE_get hx
    have hok := g.ok (u, v) hxm
    simp only at hok
    have huN : u < N := by omega
    have hvN : v < N := hok.2
    have hds := dif_step a b hx
    refine wlk_sreg fun KY hKY => ?_
    simp only [go_sem, reduceIte, Nat.reduceEqDiff, reduceCtorEq, Nat.reduceLT, Nat.reduceAdd, c_walk_Apart_r10, (show k * 2 + 1 < es.length * 2 by omega), (show 1 < es.length * 2 - k * 2 by omega), two_cells hxc, List.length_drop, twos_len, castE_len]
    refine hKY _ ?_
    refine wlk_sdraw fun KY hKY => ?_
    simp only [go_sem, reduceIte, Nat.reduceEqDiff, Nat.reduceBEq, reduceCtorEq, c_walk_Apart_r11]
    refine call_view rfl (by simp only [go_sem, reduceIte, Nat.reduceEqDiff, reduceCtorEq] <;> rfl) ((wown_ok N (castE es) a (v : Int) (show u < a.length by omega)).mono ?_)
    rintro rr hh ⟨rfl, rfl⟩
    refine ⟨rfl, rfl, rfl, ?_⟩
    simp only [go_sem, reduceIte, Nat.reduceBEq, reduceCtorEq]
    refine call_view rfl (by simp only [go_sem, reduceIte, Nat.reduceEqDiff, reduceCtorEq] <;> rfl) ((wown_ok N (castE es) b (v : Int) (show u < b.length by omega)).mono ?_)
    rintro rr hh ⟨rfl, rfl⟩
    refine ⟨rfl, rfl, rfl, ?_⟩
    have hne : (decide (a.getD u 0 = (v : Int)) != decide (b.getD u 0 = (v : Int))) = (ow a u v != ow b u v) := rfl
    have hdl := dif_len a b (es.take k)
    rw [List.length_take] at hdl
    cases how : (ow a u v != ow b u v) with
    | true =>
      rw [if_pos how] at hds
      have hms := marks_snoc N (dif a b (es.take k)) u v
      have hml := marks_len N (dif a b (es.take k))
      rw [← hds] at hms
      have hcs : castE (dif a b (es.take k)) ++ [((u : Int), (v : Int))] = castE (dif a b (es.take (k + 1))) := by rw [hds]; simp [castE]
      simp only [go_sem, reduceIte, Nat.reduceEqDiff, reduceCtorEq, hne, how]
      refine hKY _ ?_
      refine wlk_cond1 (by first | rfl | (simp only [go_sem, reduceIte, Nat.reduceEqDiff, Nat.reduceBEq, reduceCtorEq, Nat.reduceLT, Nat.reduceLeDiff, Nat.reduceAdd, Nat.reduceSub, Nat.reduceMul, Nat.reduceDiv, Int.reduceAdd, Int.reduceNeg, Int.reduceEq, Int.reduceLT, Int.reduceLE]; try simp (disch := omega) only [decide_eq_true, decide_eq_false])) ?_
      refine wlk_sreg fun KY hKY => ?_
      simp only [go_sem, reduceIte, Nat.reduceEqDiff, Nat.reduceBEq, reduceCtorEq, Nat.reduceLT, Nat.reduceAdd, Nat.reduceMul, c_walk_Apart_r12, twos_snoc, hcs, twos_len, castE_len, (show ((dif a b (es.take k)).length * 2 + 2) * 16 ≤ 140737488355328 by omega)]
      refine hKY _ ?_
      refine wlk_draw fun KY hKY => ?_
      simp only [go_sem, reduceIte, Nat.reduceEqDiff, Nat.reduceBEq, reduceCtorEq, c_walk_Apart_r13, bools_len, hml, huN, hvN, List.length_set, bools_set, hms, (show ([0, 11] == [0, 13]) = false from rfl), Bool.not_false]
      refine hKY _ ?_
      repeat (first | refine hn8 _ ?_ | refine he8 _ ?_ | refine hf8 _ _ (by decide) ?_ | refine hn7 _ ?_ | refine he7 _ _ ?_ | refine hn6 _ ?_ | refine he6 _ _ ?_ | refine he5 _ _ ?_ | refine hn4 _ ?_ | refine he4 _ ?_ | refine hf4 _ _ (by decide) ?_ | refine hn3 _ ?_ | refine he3 _ _ ?_ | refine hn2 _ ?_ | refine he2 _ _ ?_ | refine hn1 _ ?_ | refine he1 _ _ ?_)
      refine wlk_reg fun KY hKY => ?_
      simp only [go_sem, reduceIte, Nat.reduceEqDiff, reduceCtorEq, c_walk_Apart_r14, incS (show k < 4611686018427387904 by omega)]
      refine hKY _ ?_
      repeat (first | refine hn8 _ ?_ | refine he8 _ ?_ | refine hf8 _ _ (by decide) ?_ | refine hn7 _ ?_ | refine he7 _ _ ?_ | refine hn6 _ ?_ | refine he6 _ _ ?_)
      refine hn5 _ (k + 1) (es.length - (k + 1)) (by omega) (by first | (simp only [go_sem, reduceIte, Nat.reduceEqDiff, reduceCtorEq, updAll_cons, updAll_nil]; done) | with_reducible rfl) ?_
      exact ⟨hk2, rfl⟩
    | false =>
      rw [if_neg (by rw [how]; exact Bool.false_ne_true)] at hds
      simp only [go_sem, reduceIte, Nat.reduceEqDiff, reduceCtorEq, hne, how]
      refine hKY _ ?_
      refine wlk_cond0 (by first | rfl | (simp only [go_sem, reduceIte, Nat.reduceEqDiff, Nat.reduceBEq, reduceCtorEq, Nat.reduceLT, Nat.reduceLeDiff, Nat.reduceAdd, Nat.reduceSub, Nat.reduceMul, Nat.reduceDiv, Int.reduceAdd, Int.reduceNeg, Int.reduceEq, Int.reduceLT, Int.reduceLE]; try simp (disch := omega) only [decide_eq_true, decide_eq_false])) ?_
      refine wlk_skip ?_
      repeat (first | refine hn8 _ ?_ | refine he8 _ ?_ | refine hf8 _ _ (by decide) ?_ | refine hn7 _ ?_ | refine he7 _ _ ?_ | refine hn6 _ ?_ | refine he6 _ _ ?_ | refine he5 _ _ ?_ | refine hn4 _ ?_ | refine he4 _ ?_ | refine hf4 _ _ (by decide) ?_ | refine hn3 _ ?_ | refine he3 _ _ ?_ | refine hn2 _ ?_ | refine he2 _ _ ?_ | refine hn1 _ ?_ | refine he1 _ _ ?_)
      refine wlk_reg fun KY hKY => ?_
      simp only [go_sem, reduceIte, Nat.reduceEqDiff, reduceCtorEq, c_walk_Apart_r14, incS (show k < 4611686018427387904 by omega)]
      refine hKY _ ?_
      repeat (first | refine hn8 _ ?_ | refine he8 _ ?_ | refine hf8 _ _ (by decide) ?_ | refine hn7 _ ?_ | refine he7 _ _ ?_ | refine hn6 _ ?_ | refine he6 _ _ ?_)
      refine hn5 _ (k + 1) (es.length - (k + 1)) (by omega) (by first | (simp only [go_sem, reduceIte, Nat.reduceEqDiff, reduceCtorEq, updAll_cons, updAll_nil, hds]; done) | with_reducible rfl) ?_
      exact ⟨hk2, rfl⟩
  obtain rfl : es.length = k := by omega
  have hdx : decide ((es.length : Int) < (es.length : Int)) = false := decide_eq_false (by omega)
  refine wlk_sreg fun KY hKY => ?_
  simp only [go_sem, reduceIte, Nat.reduceEqDiff, reduceCtorEq, c_walk_Apart_r9, hdx]
  refine hKY _ ?_
  refine wlk_seq fun X9 hn9 he9 hr9 => ?_
  refine wlk_cond0 (by first | rfl | (simp only [go_sem, reduceIte, Nat.reduceEqDiff, Nat.reduceBEq, reduceCtorEq, Nat.reduceLT, Nat.reduceLeDiff, Nat.reduceAdd, Nat.reduceSub, Nat.reduceMul, Nat.reduceDiv, Int.reduceAdd, Int.reduceNeg, Int.reduceEq, Int.reduceLT, Int.reduceLE]; try simp (disch := omega) only [decide_eq_true, decide_eq_false])) ?_
  refine wlk_exit ?_
  repeat (first | refine hn9 _ ?_ | refine he9 _ _ ?_ | refine he5 _ _ ?_ | refine hn4 _ ?_ | refine he4 _ ?_ | refine hf4 _ _ (by decide) ?_ | refine hn3 _ ?_ | refine he3 _ _ ?_ | refine hn2 _ ?_ | refine he2 _ _ ?_ | refine hn1 _ ?_ | refine he1 _ _ ?_)
  simp only [go_sem, reduceIte, Nat.reduceEqDiff, reduceCtorEq]
  rw [List.take_length]
  refine sem_freeze [0, 10, 1] (by simp only [go_sem, reduceIte, Nat.reduceEqDiff, reduceCtorEq]; rfl) ?_
  simp only [go_sem, reduceIte, Nat.reduceEqDiff, reduceCtorEq]
  refine wlk_sreg fun KY hKY => ?_
  simp only [go_sem, reduceIte, Nat.reduceEqDiff, reduceCtorEq, c_walk_Apart_r15]
  refine hKY _ ?_
  refine sem_nil [0, 14] 1 (by simp only [go_sem, reduceIte, Nat.reduceEqDiff, reduceCtorEq]) ?_
  simp only [go_sem, reduceIte, Nat.reduceEqDiff, reduceCtorEq]
  refine wlk_seq fun X10 hn10 he10 hr10 => ?_
  refine wlk_sreg fun KY hKY => ?_
  simp only [go_sem, reduceIte, Nat.reduceEqDiff, reduceCtorEq, Nat.reduceLT, Nat.reduceAdd, c_walk_Apart_r16]
  refine call_view rfl (by simp only [go_sem, reduceIte, Nat.reduceEqDiff, reduceCtorEq] <;> rfl) ((all_ok (dif_GR a b g)).mono ?_)
  rintro rr hh ⟨⟨ps, hps, rfl⟩, rfl⟩
  refine ⟨?_, ?_, ?_, ?_⟩
  iterate 3 (first | rfl | simp only [go_sem])
  simp only [go_sem, reduceIte, Nat.reduceEqDiff, reduceCtorEq, rowsO_len]
  refine hKY _ ?_
  simp only [go_sem, reduceIte, Nat.reduceEqDiff, reduceCtorEq]
  rw [show AVal.own (some 1) [] = .own (some 1) (rowsO ((ps.take 0).filter fun p => btw a b (p.headD 0))) from rfl]
  rw [show AVal.own (some 1) (rowsO ps) = .own (some 1) (gone 0 ps) by rw [gone_zero]]
  have hpl : ps.length ≤ N := pieces_len hps
  refine wlk_blk fun X11 hn11 he11 hf11 hr11 => ?_
  try simp only [go_sem]
  refine wlk_lp (α := Nat) [16, 83, 91] (fun k => [(14, .own (some 1) (rowsO ((ps.take k).filter fun p => btw a b (p.headD 0)))), (80, .own (some 1) (gone k ps)), (82, .sc (.int .i64 (k : Int)))]) (fun k => []) (fun k q => k ≤ ps.length ∧ q = ps.length - k) (0) (ps.length) rfl (by first | (simp only [go_sem, reduceIte, Nat.reduceEqDiff, reduceCtorEq, updAll_cons, updAll_nil]; done) | with_reducible rfl | rfl) (⟨by omega, rfl⟩) ?_
  rintro k q ⟨hk, rfl⟩ X12 hn12 he12 hr12
  simp only [go_sem, reduceIte, Nat.reduceEqDiff, reduceCtorEq, updAll_cons, updAll_nil]
  rcases Nat.lt_or_ge k ps.length with hk2 | hk2
  · have hdy : decide ((k : Int) < (ps.length : Int)) = true := decide_eq_true (by omega)
    refine wlk_sreg fun KY hKY => ?_
    simp only [go_sem, reduceIte, Nat.reduceEqDiff, reduceCtorEq, c_walk_Apart_r17, hdy]
    refine hKY _ ?_
    refine wlk_seq fun X13 hn13 he13 hr13 => ?_
    refine wlk_cond1 (by first | rfl | (simp only [go_sem, reduceIte, Nat.reduceEqDiff, Nat.reduceBEq, reduceCtorEq, Nat.reduceLT, Nat.reduceLeDiff, Nat.reduceAdd, Nat.reduceSub, Nat.reduceMul, Nat.reduceDiv, Int.reduceAdd, Int.reduceNeg, Int.reduceEq, Int.reduceLT, Int.reduceLE]; try simp (disch := omega) only [decide_eq_true, decide_eq_false])) ?_
    refine wlk_skip ?_
    repeat (first | refine hn13 _ ?_ | refine he13 _ _ ?_ | refine he12 _ _ ?_ | refine hn11 _ ?_ | refine he11 _ ?_ | refine hf11 _ _ (by decide) ?_ | refine hn10 _ ?_ | refine he10 _ _ ?_ | refine hn9 _ ?_ | refine he9 _ _ ?_)
    refine wlk_seq fun X14 hn14 he14 hr14 => ?_
    refine wlk_blk fun X15 hn15 he15 hf15 hr15 => ?_
    have hp : ps[k]? = some ps[k] := List.getElem?_eq_getElem hk2
    have hpm : ps[k] ∈ ps := List.getElem_mem hk2
    have htk : ps.take (k + 1) = ps.take k ++ [ps[k]] := by rw [List.take_add_one, hp]; rfl
    generalize ps[k] = p at hp hpm htk
    have hne := hps.ne p hpm
    obtain ⟨c, p', rfl⟩ := List.exists_cons_of_ne_nil hne
    have hcN : c < N := ((hps.mem c).1 ⟨_, hpm, by simp⟩).1
    have hg0 : (nats (c :: p'))[0]? = some (.sc (.int .i64 (c : Int))) := rfl
    have hpos : 0 < p'.length + 1 := by omega
    have hml := marks_len N (dif a b es)
    have hmg : (bools (marks N (dif a b es)))[c]? = some (.sc (.bool (btw a b c))) := by rw [bools_get (by omega), marks_in g A B hcN]
    have hfl := List.length_filter_le (fun p => btw a b (p.headD 0)) (ps.take k)
    rw [List.length_take] at hfl
    have hff : (ps.take (k + 1)).filter (fun p => btw a b (p.headD 0)) = (ps.take k).filter (fun p => btw a b (p.headD 0)) ++ [c :: p'].filter (fun p => btw a b (p.headD 0)) := by rw [htk, List.filter_append]
    generalize (ps.take k).filter (fun p => btw a b (p.headD 0)) = fk at hff hfl
    refine wlk_sreg fun KY hKY => ?_
    simp only [go_sem, reduceIte, Nat.reduceEqDiff, Nat.reduceBEq, reduceCtorEq, c_walk_Apart_r18, gone_get hp, hk2, gone_len hk, gone_set hk2]
    refine hKY _ ?_
    cases hb : btw a b c with
    | true =>
      have hff : (ps.take (k + 1)).filter (fun p => btw a b (p.headD 0)) = fk ++ [c :: p'] := by rw [hff, List.filter_cons, if_pos (show btw a b ((c :: p').headD 0) = true from hb)]; rfl
      rw [hb] at hmg
      refine wlk_sreg fun KY hKY => ?_
      simp only [go_sem, reduceIte, Nat.reduceEqDiff, reduceCtorEq, Int.reduceLE, c_walk_Apart_r19, hg0, hpos, hmg, bools_len, hml, hcN]
      refine hKY _ ?_
      refine wlk_cond1 (by first | rfl | (simp only [go_sem, reduceIte, Nat.reduceEqDiff, Nat.reduceBEq, reduceCtorEq, Nat.reduceLT, Nat.reduceLeDiff, Nat.reduceAdd, Nat.reduceSub, Nat.reduceMul, Nat.reduceDiv, Int.reduceAdd, Int.reduceNeg, Int.reduceEq, Int.reduceLT, Int.reduceLE]; try simp (disch := omega) only [decide_eq_true, decide_eq_false])) ?_
      refine wlk_reg fun KY hKY => ?_
      simp only [go_sem, reduceIte, Nat.reduceEqDiff, Nat.reduceBEq, reduceCtorEq, Nat.reduceLT, c_walk_Apart_r20, rowsO_snoc, rowsO_len, (show (fk.length + 1) * 24 ≤ 140737488355328 by omega), ← hff]
      refine hKY _ ?_
      repeat (first | refine hn15 _ ?_ | refine he15 _ ?_ | refine hf15 _ _ (by decide) ?_ | refine hn14 _ ?_ | refine he14 _ _ ?_ | refine hn13 _ ?_ | refine he13 _ _ ?_ | refine he12 _ _ ?_ | refine hn11 _ ?_ | refine he11 _ ?_ | refine hf11 _ _ (by decide) ?_ | refine hn10 _ ?_ | refine he10 _ _ ?_ | refine hn9 _ ?_ | refine he9 _ _ ?_)
      refine wlk_reg fun KY hKY => ?_
      simp only [go_sem, reduceIte, Nat.reduceEqDiff, reduceCtorEq, c_walk_Apart_r21, incS (show k < 4611686018427387904 by omega)]
      refine hKY _ ?_
      repeat (first | refine hn15 _ ?_ | refine he15 _ ?_ | refine hf15 _ _ (by decide) ?_ | refine hn14 _ ?_ | refine he14 _ _ ?_ | refine hn13 _ ?_ | refine he13 _ _ ?_)
      refine hn12 _ (k + 1) (ps.length - (k + 1)) (by omega) (by first | (simp only [go_sem, reduceIte, Nat.reduceEqDiff, reduceCtorEq, updAll_cons, updAll_nil]; done) | with_reducible rfl) ?_
      exact ⟨hk2, rfl⟩
    | false =>
      have hff : (ps.take (k + 1)).filter (fun p => btw a b (p.headD 0)) = fk := by rw [hff, List.filter_cons, if_neg (by rw [List.headD_cons, hb]; exact Bool.false_ne_true)]; simp
      rw [hb] at hmg
      refine wlk_sreg fun KY hKY => ?_
      simp only [go_sem, reduceIte, Nat.reduceEqDiff, reduceCtorEq, Int.reduceLE, c_walk_Apart_r19, hg0, hpos, hmg, bools_len, hml, hcN]
      refine hKY _ ?_
      refine wlk_cond0 (by first | rfl | (simp only [go_sem, reduceIte, Nat.reduceEqDiff, Nat.reduceBEq, reduceCtorEq, Nat.reduceLT, Nat.reduceLeDiff, Nat.reduceAdd, Nat.reduceSub, Nat.reduceMul, Nat.reduceDiv, Int.reduceAdd, Int.reduceNeg, Int.reduceEq, Int.reduceLT, Int.reduceLE]; try simp (disch := omega) only [decide_eq_true, decide_eq_false])) ?_
      refine wlk_skip ?_
      repeat (first | refine hn15 _ ?_ | refine he15 _ ?_ | refine hf15 _ _ (by decide) ?_ | refine hn14 _ ?_ | refine he14 _ _ ?_ | refine hn13 _ ?_ | refine he13 _ _ ?_ | refine he12 _ _ ?_ | refine hn11 _ ?_ | refine he11 _ ?_ | refine hf11 _ _ (by decide) ?_ | refine hn10 _ ?_ | refine he10 _ _ ?_ | refine hn9 _ ?_ | refine he9 _ _ ?_)
      refine wlk_reg fun KY hKY => ?_
      simp only [go_sem, reduceIte, Nat.reduceEqDiff, reduceCtorEq, c_walk_Apart_r21, incS (show k < 4611686018427387904 by omega)]
      refine hKY _ ?_
      repeat (first | refine hn15 _ ?_ | refine he15 _ ?_ | refine hf15 _ _ (by decide) ?_ | refine hn14 _ ?_ | refine he14 _ _ ?_ | refine hn13 _ ?_ | refine he13 _ _ ?_)
      refine hn12 _ (k + 1) (ps.length - (k + 1)) (by omega) (by first | (simp only [go_sem, reduceIte, Nat.reduceEqDiff, reduceCtorEq, updAll_cons, updAll_nil, hff]; done) | with_reducible rfl) ?_
      exact ⟨hk2, rfl⟩
  obtain rfl : ps.length = k := by omega
  have hdx : decide ((ps.length : Int) < (ps.length : Int)) = false := decide_eq_false (by omega)
  refine wlk_sreg fun KY hKY => ?_
  simp only [go_sem, reduceIte, Nat.reduceEqDiff, reduceCtorEq, c_walk_Apart_r17, hdx]
  refine hKY _ ?_
  refine wlk_seq fun X16 hn16 he16 hr16 => ?_
  refine wlk_cond0 (by first | rfl | (simp only [go_sem, reduceIte, Nat.reduceEqDiff, Nat.reduceBEq, reduceCtorEq, Nat.reduceLT, Nat.reduceLeDiff, Nat.reduceAdd, Nat.reduceSub, Nat.reduceMul, Nat.reduceDiv, Int.reduceAdd, Int.reduceNeg, Int.reduceEq, Int.reduceLT, Int.reduceLE]; try simp (disch := omega) only [decide_eq_true, decide_eq_false])) ?_
  refine wlk_exit ?_
  repeat (first | refine hn16 _ ?_ | refine he16 _ _ ?_ | refine he12 _ _ ?_ | refine hn11 _ ?_ | refine he11 _ ?_ | refine hf11 _ _ (by decide) ?_ | refine hn10 _ ?_ | refine he10 _ _ ?_ | refine hn9 _ ?_ | refine he9 _ _ ?_ | refine he5 _ _ ?_ | refine hn4 _ ?_ | refine he4 _ ?_ | refine hf4 _ _ (by decide) ?_ | refine hn3 _ ?_ | refine he3 _ _ ?_ | refine hn2 _ ?_ | refine he2 _ _ ?_ | refine hn1 _ ?_ | refine he1 _ _ ?_)
  refine wlk_sreg fun KY hKY => ?_
  simp only [go_sem, reduceIte, Nat.reduceEqDiff, reduceCtorEq, c_walk_Apart_r22]
  refine hKY _ ?_
  simp only [go_sem, reduceIte, Nat.reduceEqDiff, reduceCtorEq]
  rw [List.take_length]
  refine wlk_ret ?_
  repeat (first | refine hr16 _ ?_ | refine hr12 _ ?_ | refine hr11 _ ?_ | refine hr10 _ ?_ | refine hr9 _ ?_ | refine hr5 _ ?_ | refine hr4 _ ?_ | refine hr3 _ ?_ | refine hr2 _ ?_ | refine hr1 _ ?_)
  simp only [go_sem, reduceIte, Nat.reduceEqDiff, reduceCtorEq]
  exact ⟨_, 0, .inr (.inr ⟨hr, by rw [hma, hmb]; rfl, N, es, ps, rfl, rfl, hps, rfl, rfl⟩), rfl⟩
end Go.Proofs.Ytoefhbfgmceikaa
set_option maxRecDepth 100000
set_option maxHeartbeats 4000000
namespace Go.Proofs.Ytoefhbfgmceikaa
open Go Go.Ga Go.Ga.Gl
theorem Mt_mateB {N : Nat} {es : Es} (g : GR N es) {m : List Int} (M : Mt N es m) : mateB N (castE es) m = true := by
  rw [mateB_yes g M.len, List.all_eq_true]
  intro v hv
  have hv := List.mem_range.1 hv
  unfold mOk
  rw [Bool.or_eq_true, Bool.and_eq_true, decide_eq_true_iff, decide_eq_true_iff, decide_eq_true_iff]
  rcases M.at_ v hv with h | ⟨w, h1, h2, h3, h4, h5⟩
  · exact .inl h
  · refine .inr ⟨?_, by rw [h1, Int.toNat_natCast]; exact h5⟩
    rw [h1]
    unfold turnI
    rcases h4 with h | h
    · have := g.ok _ h
      simp only at this
      rw [if_neg (by omega)]
      exact castE_mem.2 h
    · have := g.ok _ h
      simp only at this
      rw [if_pos (by omega)]
      exact castE_mem.2 h
theorem Mt_none {N : Nat} (es : Es) : Mt N es (List.replicate N (-1)) where
  len := by simp
  at_ := fun v hv => .inl (by simp [hv])
theorem Mt_put {N : Nat} {es : Es} (g : GR N es) {m : List Int} (M : Mt N es m) {a b : Nat} (he : (a, b) ∈ es) (ha : m.getD a 0 < 0) (hb : m.getD b 0 < 0) : Mt N es ((m.set a (b : Int)).set b (a : Int)) where
  len := by simp [M.len]
  at_ := fun v hv => by
    have hok := g.ok _ he
    simp only at hok
    have hal : a < m.length := by rw [M.len]; omega
    have hbl : b < m.length := by rw [M.len]; omega
    have key : ∀ w, ((m.set a (b : Int)).set b (a : Int)).getD w 0 = if w = b then (a : Int) else if w = a then (b : Int) else m.getD w 0 := fun w => by
      rw [getD_set _ _ _ _ (by simpa using hbl), getD_set _ _ _ _ hal]
    rw [key]
    by_cases h1 : v = b
    · subst h1
      rw [if_pos rfl]
      refine .inr ⟨a, rfl, by omega, by omega, .inr he, ?_⟩
      rw [key, if_neg (by omega), if_pos rfl]
    · rw [if_neg h1]
      by_cases h2 : v = a
      · subst h2
        rw [if_pos rfl]
        refine .inr ⟨b, rfl, by omega, by omega, .inl he, ?_⟩
        rw [key, if_pos rfl]
      · rw [if_neg h2]
        rcases M.at_ v hv with h | ⟨w, k1, k2, k3, k4, k5⟩
        · exact .inl h
        · refine .inr ⟨w, k1, k2, k3, k4, ?_⟩
          rw [key, if_neg (by rintro rfl; omega), if_neg (by rintro rfl; omega)]; exact k5
def negN (N v : Nat) : List Int := (List.range N).map fun w : Nat => if w < v then -1 else 0
theorem negN_set (N v : Nat) : (negN N v).set v (-1) = negN N (v + 1) := by
  refine set_rangeI (by simp) fun w hw => ?_
  by_cases h : w < v
  · rw [if_pos (by omega), if_pos h]
  · rw [if_neg (by omega), if_neg h]
theorem negN_len (N v : Nat) : (negN N v).length = N := by simp [negN]
theorem negN_zero (N : Nat) : List.replicate N (0 : Int) = negN N 0 := by
  apply List.ext_getElem (by simp [negN])
  intro i h1 h2
  simp [negN]
theorem negN_all (N : Nat) : negN N N = List.replicate N (-1) := by
  apply List.ext_getElem (by simp [negN])
  intro i h1 h2
  simp [negN] at h1 ⊢
  omega
theorem pmates_ok {N : Nat} {es : Es} (g : GR N es) (l : List Int) (hl : l.length ≤ 1000000000) : ACalls Try.prog [] n_garlandplay_Mates [.agg [.sc (.int .i64 (N : Int)), .imm 2 (twos (castE es))], .imm 1 (ints l)] [] fun r h' => (∃ m, Mt N es m ∧ r = .own (some 1) (ints m)) ∧ h' = [] := by
  refine ACalls.trim ?_
  have hN := g.hn
  have hE := g.hm
  refine go_garlandplay_Mates rfl ?_
  unfold c_garlandplay_Mates v_garlandplay_Mates
  refine wlk_sreg fun KY hKY => ?_
  simp only [go_sem, reduceIte, Nat.reduceEqDiff, reduceCtorEq, c_garlandplay_Mates_r0]
  refine hKY _ ?_
  refine wlk_sreg fun KY hKY => ?_
  simp only [go_sem, reduceIte, Nat.reduceEqDiff, Nat.reduceBEq, reduceCtorEq, c_garlandplay_Mates_r1, ints_zero, negN_zero, (show 8 * N ≤ 140737488355328 by omega), (show (N : Int) ≤ 9223372036854775807 by omega), (show (N : Int) ≤ (N : Int) from Int.le_refl _)]
  refine hKY _ ?_
  refine wlk_seq fun X1 hn1 he1 hr1 => ?_
  refine wlk_sreg fun KY hKY => ?_
  simp only [go_sem, reduceIte, Nat.reduceEqDiff, reduceCtorEq, c_garlandplay_Mates_r2, ints_len, negN_len]
  refine hKY _ ?_
  refine wlk_blk fun X2 hn2 he2 hf2 hr2 => ?_
  try simp only [go_sem, reduceIte, Nat.reduceEqDiff, reduceCtorEq]
  refine wlk_lp (α := Nat) [6, 15] (fun v => [(5, .own (some 1) (ints (negN N v))), (14, .sc (.int .i64 (v : Int)))]) (fun v => []) (fun v q => v ≤ N ∧ q = N - v) (0) (N) rfl (by first | (simp only [go_sem, reduceIte, Nat.reduceEqDiff, reduceCtorEq, updAll_cons, updAll_nil]; done) | with_reducible rfl | rfl) (⟨by omega, rfl⟩) ?_
  rintro v q ⟨hv, rfl⟩ X3 hn3 he3 hr3
  simp only [go_sem, reduceIte, Nat.reduceEqDiff, reduceCtorEq, updAll_cons, updAll_nil]
  rcases Nat.lt_or_ge v N with hv2 | hv2
  · have hdy : decide ((v : Int) < (N : Int)) = true := decide_eq_true (by omega)
    refine wlk_sreg fun KY hKY => ?_
    simp only [go_sem, reduceIte, Nat.reduceEqDiff, reduceCtorEq, c_garlandplay_Mates_r3, hdy]
    refine hKY _ ?_
    refine wlk_seq fun X4 hn4 he4 hr4 => ?_
    refine wlk_cond1 (by first | rfl | (simp only [go_sem, reduceIte, Nat.reduceEqDiff, Nat.reduceBEq, reduceCtorEq, Nat.reduceLT, Nat.reduceLeDiff, Nat.reduceAdd, Nat.reduceSub, Nat.reduceMul, Nat.reduceDiv, Int.reduceAdd, Int.reduceNeg, Int.reduceEq, Int.reduceLT, Int.reduceLE]; try simp (disch := omega) only [decide_eq_true, decide_eq_false])) ?_
    refine wlk_skip ?_
    repeat (first | refine hn4 _ ?_ | refine he4 _ _ ?_ | refine he3 _ _ ?_ | refine hn2 _ ?_ | refine he2 _ ?_ | refine hf2 _ _ (by decide) ?_ | refine hn1 _ ?_ | refine he1 _ _ ?_)
    refine wlk_seq fun X5 hn5 he5 hr5 => ?_
    refine wlk_blk fun X6 hn6 he6 hf6 hr6 => ?_
    refine wlk_sreg fun KY hKY => ?_
    simp only [go_sem, reduceIte, Nat.reduceEqDiff, reduceCtorEq, c_garlandplay_Mates_r4]
    refine hKY _ ?_
    refine wlk_reg fun KY hKY => ?_
    simp only [go_sem, reduceIte, Nat.reduceEqDiff, reduceCtorEq, Int.reduceAdd, Int.reduceNeg, c_garlandplay_Mates_r5, ints_len, negN_len, hv2, ints_set, negN_set]
    refine hKY _ ?_
    repeat (first | refine hn6 _ ?_ | refine he6 _ ?_ | refine hf6 _ _ (by decide) ?_ | refine hn5 _ ?_ | refine he5 _ _ ?_ | refine hn4 _ ?_ | refine he4 _ _ ?_ | refine he3 _ _ ?_ | refine hn2 _ ?_ | refine he2 _ ?_ | refine hf2 _ _ (by decide) ?_ | refine hn1 _ ?_ | refine he1 _ _ ?_)
    refine wlk_reg fun KY hKY => ?_
    simp only [go_sem, reduceIte, Nat.reduceEqDiff, reduceCtorEq, c_garlandplay_Mates_r6, incS (show v < 4611686018427387904 by omega)]
    refine hKY _ ?_
    repeat (first | refine hn6 _ ?_ | refine he6 _ ?_ | refine hf6 _ _ (by decide) ?_ | refine hn5 _ ?_ | refine he5 _ _ ?_ | refine hn4 _ ?_ | refine he4 _ _ ?_)
    refine hn3 _ (v + 1) (N - (v + 1)) (by omega) (by first | (simp only [go_sem, reduceIte, Nat.reduceEqDiff, reduceCtorEq, updAll_cons, updAll_nil]; done) | with_reducible rfl) ?_
    exact ⟨hv2, rfl⟩
  obtain rfl : v = N := by omega
  have hdx : decide ((v : Int) < (v : Int)) = false := decide_eq_false (by omega)
  refine wlk_sreg fun KY hKY => ?_
  simp only [go_sem, reduceIte, Nat.reduceEqDiff, reduceCtorEq, c_garlandplay_Mates_r3, hdx]
  refine hKY _ ?_
  refine wlk_seq fun X7 hn7 he7 hr7 => ?_
  refine wlk_cond0 (by first | rfl | (simp only [go_sem, reduceIte, Nat.reduceEqDiff, Nat.reduceBEq, reduceCtorEq, Nat.reduceLT, Nat.reduceLeDiff, Nat.reduceAdd, Nat.reduceSub, Nat.reduceMul, Nat.reduceDiv, Int.reduceAdd, Int.reduceNeg, Int.reduceEq, Int.reduceLT, Int.reduceLE]; try simp (disch := omega) only [decide_eq_true, decide_eq_false])) ?_
  refine wlk_exit ?_
  repeat (first | refine hn7 _ ?_ | refine he7 _ _ ?_ | refine he3 _ _ ?_ | refine hn2 _ ?_ | refine he2 _ ?_ | refine hf2 _ _ (by decide) ?_ | refine hn1 _ ?_ | refine he1 _ _ ?_)
  simp only [go_sem, reduceIte, Nat.reduceEqDiff, reduceCtorEq]
  rw [negN_all]
  have M0 := Mt_none (N := v) es
  generalize List.replicate v (-1 : Int) = m0 at M0
  refine wlk_seq fun X8 hn8 he8 hr8 => ?_
  refine wlk_sreg fun KY hKY => ?_
  simp only [go_sem, reduceIte, Nat.reduceEqDiff, reduceCtorEq, c_garlandplay_Mates_r7]
  refine hKY _ ?_
  refine wlk_blk fun X9 hn9 he9 hf9 hr9 => ?_
  try simp only [go_sem, reduceIte, Nat.reduceEqDiff, reduceCtorEq]
  refine wlk_lp (α := Nat × List Int) [8, 34, 65] (fun (k, m) => [(5, .own (some 1) (ints m)), (7, .sc (.int .i64 (k : Int)))]) (fun (k, m) => []) (fun (k, m) q => k ≤ 100 ∧ k ≤ l.length ∧ q = 100 - k ∧ Mt v es m) ((0, m0)) (100) rfl (by first | (simp only [go_sem, reduceIte, Nat.reduceEqDiff, reduceCtorEq, updAll_cons, updAll_nil]; done) | with_reducible rfl | rfl) (⟨by omega, by omega, rfl, M0⟩) ?_
  rintro ⟨k, m⟩ q ⟨hk, hkl, rfl, M⟩ X10 hn10 he10 hr10
  simp only [go_sem, reduceIte, Nat.reduceEqDiff, reduceCtorEq, updAll_cons, updAll_nil]
  have hz : ∀ n : Nat, decide (0 < (n : Int)) = decide (0 < n) := fun n => by simp
  rcases (show (k < l.length ∧ k < 100 ∧ 0 < es.length) ∨ (l.length ≤ k ∨ 100 ≤ k ∨ es.length = 0) by omega) with ⟨hk1, hk2, he0⟩ | hk2
  · have hd1 : decide ((k : Int) < (l.length : Int)) = true := decide_eq_true (by omega)
    have hd2 : decide ((k : Int) < 100) = true := decide_eq_true (by omega)
    have hd3 : decide (0 < (es.length : Int)) = true := decide_eq_true (by omega)
    refine wlk_seq fun X11 hn11 he11 hr11 => ?_
    refine wlk_sreg fun KY hKY => ?_
    simp only [go_sem, reduceIte, Nat.reduceEqDiff, reduceCtorEq, c_garlandplay_Mates_r8, ints_len, twos_len, mul2, castE_len, hd1, hd2, hd3]
    refine hKY _ ?_
    refine wlk_cond1 (by first | rfl | (simp only [go_sem, reduceIte, Nat.reduceEqDiff, Nat.reduceBEq, reduceCtorEq, Nat.reduceLT, Nat.reduceLeDiff, Nat.reduceAdd, Nat.reduceSub, Nat.reduceMul, Nat.reduceDiv, Int.reduceAdd, Int.reduceNeg, Int.reduceEq, Int.reduceLT, Int.reduceLE]; try simp (disch := omega) only [decide_eq_true, decide_eq_false])) ?_
    refine wlk_skip ?_
    repeat (first | refine hn11 _ ?_ | refine he11 _ _ ?_ | refine he10 _ _ ?_ | refine hn9 _ ?_ | refine he9 _ ?_ | refine hf9 _ _ (by decide) ?_ | refine hn8 _ ?_ | refine he8 _ _ ?_ | refine hn7 _ ?_ | refine he7 _ _ ?_)
    refine wlk_seq fun X12 hn12 he12 hr12 => ?_
    refine wlk_blk fun X13 hn13 he13 hf13 hr13 => ?_
    obtain ⟨j, hj, hjw⟩ := umod (l.getD k 0) es.length he0 (by omega)
    have hu64 := u64NN (k := es.length) (by omega) he0
    have hx : es[j]? = some es[j] := List.getElem?_eq_getElem hj
    have hxm : es[j] ∈ es := List.getElem_mem hj
    generalize es[j] = x at hx hxm
    obtain ⟨a, b⟩ := x
    have hxc := castE_get hx
    have hok := g.ok (a, b) hxm
    simp only at hok
    have hml := M.len
    have hal : a < m.length := by omega
    have hbl : b < m.length := by omega
    refine wlk_sdraw fun KY hKY => ?_
    simp only [go_sem, reduceIte, Nat.reduceEqDiff, Nat.reduceBEq, reduceCtorEq, Nat.reduceLT, Nat.reduceAdd, c_garlandplay_Mates_r9, ints_get hk1, hk1, ints_len, twos_len, mul2, castE_len, hu64, hjw, (show j * 2 + 1 < es.length * 2 by omega), (show 1 < es.length * 2 - j * 2 by omega), two_cells hxc, List.length_drop]
    refine hKY _ ?_
    cases hc1 : decide (m.getD a 0 < 0) with
    | false =>
      refine wlk_sreg fun KY hKY => ?_
      simp only [go_sem, reduceIte, Nat.reduceEqDiff, reduceCtorEq, c_garlandplay_Mates_r10, ints_get hal, ints_len, hal, hc1]
      refine hKY _ ?_
      refine wlk_cond0 (by first | rfl | (simp only [go_sem, reduceIte, Nat.reduceEqDiff, Nat.reduceBEq, reduceCtorEq, Nat.reduceLT, Nat.reduceLeDiff, Nat.reduceAdd, Nat.reduceSub, Nat.reduceMul, Nat.reduceDiv, Int.reduceAdd, Int.reduceNeg, Int.reduceEq, Int.reduceLT, Int.reduceLE]; try simp (disch := omega) only [decide_eq_true, decide_eq_false])) ?_
      refine wlk_skip ?_
      repeat (first | refine hn13 _ ?_ | refine he13 _ ?_ | refine hf13 _ _ (by decide) ?_ | refine hn12 _ ?_ | refine he12 _ _ ?_ | refine hn11 _ ?_ | refine he11 _ _ ?_ | refine he10 _ _ ?_ | refine hn9 _ ?_ | refine he9 _ ?_ | refine hf9 _ _ (by decide) ?_ | refine hn8 _ ?_ | refine he8 _ _ ?_ | refine hn7 _ ?_ | refine he7 _ _ ?_)
      refine wlk_reg fun KY hKY => ?_
      simp only [go_sem, reduceIte, Nat.reduceEqDiff, reduceCtorEq, c_garlandplay_Mates_r12, incS (show k < 4611686018427387904 by omega)]
      refine hKY _ ?_
      repeat (first | refine hn13 _ ?_ | refine he13 _ ?_ | refine hf13 _ _ (by decide) ?_ | refine hn12 _ ?_ | refine he12 _ _ ?_ | refine hn11 _ ?_ | refine he11 _ _ ?_)
      refine hn10 _ ((k + 1, m)) (100 - (k + 1)) (by omega) (by first | (simp only [go_sem, reduceIte, Nat.reduceEqDiff, reduceCtorEq, updAll_cons, updAll_nil]; done) | with_reducible rfl) ?_
      exact ⟨by omega, by omega, rfl, M⟩
    | true =>
    cases hc2 : decide (m.getD b 0 < 0) with
    | false =>
      refine wlk_sreg fun KY hKY => ?_
      simp only [go_sem, reduceIte, Nat.reduceEqDiff, reduceCtorEq, c_garlandplay_Mates_r10, ints_get hal, ints_get hbl, ints_len, hal, hbl, hc1, hc2]
      refine hKY _ ?_
      refine wlk_cond0 (by first | rfl | (simp only [go_sem, reduceIte, Nat.reduceEqDiff, Nat.reduceBEq, reduceCtorEq, Nat.reduceLT, Nat.reduceLeDiff, Nat.reduceAdd, Nat.reduceSub, Nat.reduceMul, Nat.reduceDiv, Int.reduceAdd, Int.reduceNeg, Int.reduceEq, Int.reduceLT, Int.reduceLE]; try simp (disch := omega) only [decide_eq_true, decide_eq_false])) ?_
      refine wlk_skip ?_
      repeat (first | refine hn13 _ ?_ | refine he13 _ ?_ | refine hf13 _ _ (by decide) ?_ | refine hn12 _ ?_ | refine he12 _ _ ?_ | refine hn11 _ ?_ | refine he11 _ _ ?_ | refine he10 _ _ ?_ | refine hn9 _ ?_ | refine he9 _ ?_ | refine hf9 _ _ (by decide) ?_ | refine hn8 _ ?_ | refine he8 _ _ ?_ | refine hn7 _ ?_ | refine he7 _ _ ?_)
      refine wlk_reg fun KY hKY => ?_
      simp only [go_sem, reduceIte, Nat.reduceEqDiff, reduceCtorEq, c_garlandplay_Mates_r12, incS (show k < 4611686018427387904 by omega)]
      refine hKY _ ?_
      repeat (first | refine hn13 _ ?_ | refine he13 _ ?_ | refine hf13 _ _ (by decide) ?_ | refine hn12 _ ?_ | refine he12 _ _ ?_ | refine hn11 _ ?_ | refine he11 _ _ ?_)
      refine hn10 _ ((k + 1, m)) (100 - (k + 1)) (by omega) (by first | (simp only [go_sem, reduceIte, Nat.reduceEqDiff, reduceCtorEq, updAll_cons, updAll_nil]; done) | with_reducible rfl) ?_
      exact ⟨by omega, by omega, rfl, M⟩
    | true =>
      refine wlk_sreg fun KY hKY => ?_
      simp only [go_sem, reduceIte, Nat.reduceEqDiff, reduceCtorEq, c_garlandplay_Mates_r10, ints_get hal, ints_get hbl, ints_len, hal, hbl, hc1, hc2]
      refine hKY _ ?_
      refine wlk_cond1 (by first | rfl | (simp only [go_sem, reduceIte, Nat.reduceEqDiff, Nat.reduceBEq, reduceCtorEq, Nat.reduceLT, Nat.reduceLeDiff, Nat.reduceAdd, Nat.reduceSub, Nat.reduceMul, Nat.reduceDiv, Int.reduceAdd, Int.reduceNeg, Int.reduceEq, Int.reduceLT, Int.reduceLE]; try simp (disch := omega) only [decide_eq_true, decide_eq_false])) ?_
      refine wlk_draw fun KY hKY => ?_
      simp only [go_sem, reduceIte, Nat.reduceEqDiff, Nat.reduceBEq, reduceCtorEq, c_garlandplay_Mates_r11, ints_len, hal, hbl, List.length_set, ints_set, (show ([0, 5] == [0, 8]) = false from rfl), Bool.not_false]
      refine hKY _ ?_
      repeat (first | refine hn13 _ ?_ | refine he13 _ ?_ | refine hf13 _ _ (by decide) ?_ | refine hn12 _ ?_ | refine he12 _ _ ?_ | refine hn11 _ ?_ | refine he11 _ _ ?_ | refine he10 _ _ ?_ | refine hn9 _ ?_ | refine he9 _ ?_ | refine hf9 _ _ (by decide) ?_ | refine hn8 _ ?_ | refine he8 _ _ ?_ | refine hn7 _ ?_ | refine he7 _ _ ?_)
      refine wlk_reg fun KY hKY => ?_
      simp only [go_sem, reduceIte, Nat.reduceEqDiff, reduceCtorEq, c_garlandplay_Mates_r12, incS (show k < 4611686018427387904 by omega)]
      refine hKY _ ?_
      repeat (first | refine hn13 _ ?_ | refine he13 _ ?_ | refine hf13 _ _ (by decide) ?_ | refine hn12 _ ?_ | refine he12 _ _ ?_ | refine hn11 _ ?_ | refine he11 _ _ ?_)
      refine hn10 _ ((k + 1, (m.set a (b : Int)).set b (a : Int))) (100 - (k + 1)) (by omega) (by first | (simp only [go_sem, reduceIte, Nat.reduceEqDiff, reduceCtorEq, updAll_cons, updAll_nil]; done) | with_reducible rfl) ?_
      exact ⟨by omega, by omega, rfl, Mt_put g M hxm (of_decide_eq_true hc1) (of_decide_eq_true hc2)⟩
  have hcase : decide ((k : Int) < (l.length : Int)) = false ∨ (decide ((k : Int) < (l.length : Int)) = true ∧ decide ((k : Int) < 100) = false) ∨ (decide ((k : Int) < (l.length : Int)) = true ∧ decide ((k : Int) < 100) = true ∧ decide (0 < (es.length : Int)) = false) := by
    rcases Nat.lt_or_ge k l.length with h1 | h1
    · rcases Nat.lt_or_ge k 100 with h2 | h2
      · exact .inr (.inr ⟨decide_eq_true (by omega), decide_eq_true (by omega), decide_eq_false (by omega)⟩)
      · exact .inr (.inl ⟨decide_eq_true (by omega), decide_eq_false (by omega)⟩)
    · exact .inl (decide_eq_false (by omega))
  refine wlk_seq fun X14 hn14 he14 hr14 => ?_
  refine wlk_sreg fun KY hKY => ?_
  apply meet
  · intro H
    rcases hcase with h1 | ⟨h1, h2⟩ | ⟨h1, h2, h3⟩
    · simp only [go_sem, reduceIte, Nat.reduceEqDiff, reduceCtorEq, c_garlandplay_Mates_r8, ints_len, h1]
      refine hKY _ ?_
      repeat (first | refine hn14 _ ?_ | refine he14 _ _ ?_ | refine hr14 _ ?_ | refine he10 _ _ ?_ | refine hr10 _ ?_ | refine hn9 _ ?_ | refine he9 _ ?_ | refine hf9 _ _ (by decide) ?_ | refine hr9 _ ?_ | refine hn8 _ ?_ | refine he8 _ _ ?_ | refine hr8 _ ?_ | refine hn7 _ ?_ | refine he7 _ _ ?_ | refine hr7 _ ?_ | refine he3 _ _ ?_ | refine hr3 _ ?_ | refine hn2 _ ?_ | refine he2 _ ?_ | refine hf2 _ _ (by decide) ?_ | refine hr2 _ ?_ | refine hn1 _ ?_ | refine he1 _ _ ?_ | refine hr1 _ ?_)
      simp only [go_sem, reduceIte, Nat.reduceEqDiff, reduceCtorEq]
      exact H
    · simp only [go_sem, reduceIte, Nat.reduceEqDiff, reduceCtorEq, c_garlandplay_Mates_r8, ints_len, h1, h2]
      refine hKY _ ?_
      repeat (first | refine hn14 _ ?_ | refine he14 _ _ ?_ | refine hr14 _ ?_ | refine he10 _ _ ?_ | refine hr10 _ ?_ | refine hn9 _ ?_ | refine he9 _ ?_ | refine hf9 _ _ (by decide) ?_ | refine hr9 _ ?_ | refine hn8 _ ?_ | refine he8 _ _ ?_ | refine hr8 _ ?_ | refine hn7 _ ?_ | refine he7 _ _ ?_ | refine hr7 _ ?_ | refine he3 _ _ ?_ | refine hr3 _ ?_ | refine hn2 _ ?_ | refine he2 _ ?_ | refine hf2 _ _ (by decide) ?_ | refine hr2 _ ?_ | refine hn1 _ ?_ | refine he1 _ _ ?_ | refine hr1 _ ?_)
      simp only [go_sem, reduceIte, Nat.reduceEqDiff, reduceCtorEq]
      exact H
    · simp only [go_sem, reduceIte, Nat.reduceEqDiff, reduceCtorEq, c_garlandplay_Mates_r8, ints_len, twos_len, mul2, castE_len, h1, h2, h3]
      refine hKY _ ?_
      repeat (first | refine hn14 _ ?_ | refine he14 _ _ ?_ | refine hr14 _ ?_ | refine he10 _ _ ?_ | refine hr10 _ ?_ | refine hn9 _ ?_ | refine he9 _ ?_ | refine hf9 _ _ (by decide) ?_ | refine hr9 _ ?_ | refine hn8 _ ?_ | refine he8 _ _ ?_ | refine hr8 _ ?_ | refine hn7 _ ?_ | refine he7 _ _ ?_ | refine hr7 _ ?_ | refine he3 _ _ ?_ | refine hr3 _ ?_ | refine hn2 _ ?_ | refine he2 _ ?_ | refine hf2 _ _ (by decide) ?_ | refine hr2 _ ?_ | refine hn1 _ ?_ | refine he1 _ _ ?_ | refine hr1 _ ?_)
      simp only [go_sem, reduceIte, Nat.reduceEqDiff, reduceCtorEq]
      exact H
  refine wlk_cond0 (by first | rfl | (simp only [go_sem, reduceIte, Nat.reduceEqDiff, Nat.reduceBEq, reduceCtorEq, Nat.reduceLT, Nat.reduceLeDiff, Nat.reduceAdd, Nat.reduceSub, Nat.reduceMul, Nat.reduceDiv, Int.reduceAdd, Int.reduceNeg, Int.reduceEq, Int.reduceLT, Int.reduceLE]; try simp (disch := omega) only [decide_eq_true, decide_eq_false])) ?_
  refine wlk_exit ?_
  repeat (first | refine hn14 _ ?_ | refine he14 _ _ ?_ | refine he10 _ _ ?_ | refine hn9 _ ?_ | refine he9 _ ?_ | refine hf9 _ _ (by decide) ?_ | refine hn8 _ ?_ | refine he8 _ _ ?_ | refine hn7 _ ?_ | refine he7 _ _ ?_ | refine he3 _ _ ?_ | refine hn2 _ ?_ | refine he2 _ ?_ | refine hf2 _ _ (by decide) ?_ | refine hn1 _ ?_ | refine he1 _ _ ?_)
  refine wlk_sreg fun KY hKY => ?_
  simp only [go_sem, reduceIte, Nat.reduceEqDiff, reduceCtorEq, c_garlandplay_Mates_r13]
  refine hKY _ ?_
  refine wlk_ret ?_
  repeat (first | refine hr14 _ ?_ | refine hr10 _ ?_ | refine hr9 _ ?_ | refine hr8 _ ?_ | refine hr7 _ ?_ | refine hr3 _ ?_ | refine hr2 _ ?_ | refine hr1 _ ?_)
  simp only [go_sem, reduceIte, Nat.reduceEqDiff, reduceCtorEq]
  exact ⟨m, M, rfl⟩
end Go.Proofs.Ytoefhbfgmceikaa
set_option maxRecDepth 100000
set_option maxHeartbeats 4000000
namespace Go.Proofs.Ytoefhbfgmceikaa
open Go Go.Ga Go.Ga.Gl
theorem filter_one {f : Nat → Nat} (c : Nat) : ∀ (l : List Nat), l.Pairwise (fun a b => f a ≠ f b) → (l.filter fun r => decide (f r = c)).length ≤ 1
  | [], _ => by simp
  | a :: l, h => by
    rw [List.pairwise_cons] at h
    by_cases e : f a = c
    · have : (l.filter fun r => decide (f r = c)) = [] := by
        rw [List.filter_eq_nil_iff]
        intro x hx
        have := h.1 x hx
        simp only [decide_eq_true_eq]; omega
      rw [List.filter_cons, if_pos (decide_eq_true e), this]; simp
    · rw [List.filter_cons, if_neg (by rw [decide_eq_false e]; exact Bool.false_ne_true)]
      exact filter_one c l h.2
theorem filter_split (p : Nat → Bool) (l : List Nat) : (l.filter p).length + (l.filter fun x => !p x).length = l.length := by
  induction l with
  | nil => rfl
  | cons a l ih =>
    rw [List.filter_cons, List.filter_cons]
    cases p a <;> simp <;> omega
theorem apart_many (P : List Nat) (hP : P.Nodup) : ∀ E : Es, ∃ f : Nat → Nat, (∀ e ∈ E, f e.1 = f e.2) ∧ ∃ R : List Nat, (∀ r ∈ R, r ∈ P) ∧ R.Pairwise (fun a b => f a ≠ f b) ∧ P.length ≤ E.length + R.length
  | [] => ⟨id, fun e h => by simp at h, P, fun _ h => h, hP, by simp⟩
  | e :: E => by
    obtain ⟨f, h1, R, h2, h3, h4⟩ := apart_many P hP E
    refine ⟨fun v => if f v = f e.1 then f e.2 else f v, fun x hx => ?_, R.filter fun r => !decide (f r = f e.1), fun r hr => h2 r (List.mem_filter.1 hr).1, ?_, ?_⟩
    · rcases List.mem_cons.1 hx with rfl | hx
      · simp only [if_true]
        split <;> rfl
      · simp only [h1 x hx]
    · refine (h3.filter _).imp_of_mem fun {a b} ha hb hne => ?_
      have ha := (List.mem_filter.1 ha).2
      have hb := (List.mem_filter.1 hb).2
      simp only [Bool.not_eq_true', decide_eq_false_iff_not] at ha hb
      simp only [if_neg ha, if_neg hb]; exact hne
    · have := filter_one (f := f) (f e.1) R h3
      have h5 := filter_split (fun r => decide (f r = f e.1)) R
      simp only [List.length_cons]
      omega
def up (m : List Int) (v : Nat) : Bool := upP m v
def cnt (φ : Nat → Bool) (p : List Nat) : Nat := (p.filter φ).length
def ge0 (m : List Int) (v : Nat) : Bool := decide (0 ≤ m.getD v 0)
theorem half {N : Nat} {es : Es} {m : List Int} (M : Mt N es m) {P : List Nat} (hinc : P.Pairwise (· < ·)) (hN : ∀ v ∈ P, v < N) (hcl : ∀ v ∈ P, ∀ w : Nat, m.getD v 0 = (w : Int) → w ∈ P) : cnt (ge0 m) P = 2 * cnt (upP m) P := by
  let l : List Int := (List.range N).map fun v => if v ∈ P then m.getD v 0 else -1
  have hl : l.length = N := by simp [l]
  have hg : ∀ v, v < N → l.getD v 0 = if v ∈ P then m.getD v 0 else -1 := fun v hv => by simp [l, hv]
  have hPr : P = (List.range N).filter fun v => decide (v ∈ P) := inc_ext hinc (List.pairwise_lt_range.filter _) fun v => by
    simp only [List.mem_filter, List.mem_range, decide_eq_true_eq]
    exact ⟨fun h => ⟨hN v h, h⟩, fun h => h.2⟩
  have hM := M.len
  have e1 : (List.range N).filter (pairB l) = P.filter (ge0 m) := by
    refine inc_ext (List.pairwise_lt_range.filter _) (hinc.filter _) fun v => ?_
    rw [List.mem_filter, List.mem_filter, List.mem_range, pair_up]
    unfold ge0
    rw [decide_eq_true_iff]
    constructor
    · rintro ⟨hv, w, h1, h2, h3, h4⟩
      rw [hg v hv] at h1
      split at h1
      · rename_i h; exact ⟨h, by omega⟩
      · omega
    · rintro ⟨h1, h2⟩
      have hv := hN v h1
      rcases M.at_ v hv with h3 | ⟨w, h3, h4, h5, h6, h7⟩
      · omega
      · have hw := hcl v h1 w h3
        refine ⟨hv, w, ?_, by rw [hl]; exact h4, h5, ?_⟩
        · rw [hg v hv, if_pos h1]; exact h3
        · rw [hg w h4, if_pos hw]; exact h7
  have e2 : (List.range N).filter (upP l) = P.filter (upP m) := by
    refine inc_ext (List.pairwise_lt_range.filter _) (hinc.filter _) fun v => ?_
    rw [List.mem_filter, List.mem_filter, List.mem_range, up_up, up_up]
    constructor
    · rintro ⟨hv, w, h1, h2, h3, h4⟩
      rw [hl] at h2
      rw [hg v hv] at h1
      rw [hg w h2] at h4
      split at h1
      · rename_i h
        split at h4
        · exact ⟨h, w, h1, by omega, h3, h4⟩
        · omega
      · omega
    · rintro ⟨h1, w, h3, h4, h5, h6⟩
      have hw := hcl v h1 w h3
      refine ⟨hN v h1, w, ?_, by rw [hl]; exact hN w hw, h5, ?_⟩
      · rw [hg v (hN v h1), if_pos h1]; exact h3
      · rw [hg w (hN w hw), if_pos hw]; exact h6
  have := pair_count l
  rw [hl, e1, e2] at this
  exact this
theorem piece_edges {N : Nat} {es : Es} {a b : List Int} (g : GR N es) (A : Mt N es a) (B : Mt N es b) {ps : List (List Nat)} (hps : IsPieces N (dif a b es) (fun v => (v : Int) ∈ ([] : List Int)) ps) {P : List Nat} (hP : P ∈ ps) : P.length ≤ cnt (upP a) P + cnt (upP b) P + 1 := by
  have hO : ∀ v : Nat, ¬ (v : Int) ∈ ([] : List Int) := fun v => by simp
  have hin := hps.inc P hP
  have hnd : P.Nodup := hin.imp fun h => by omega
  have hN : ∀ v ∈ P, v < N := fun v hv => ((hps.mem v).1 ⟨P, hP, hv⟩).1
  obtain ⟨f, h1, R, h2, h3, h4⟩ := apart_many P hnd ((P.filter (upP a)).map (fun v => (v, (a.getD v 0).toNat)) ++ (P.filter (upP b)).map (fun v => (v, (b.getD v 0).toNat)))
  rw [List.length_append, List.length_map, List.length_map] at h4
  have hE : ∀ v ∈ P, ∀ w ∈ P, v < w → a.getD v 0 = (w : Int) ∨ b.getD v 0 = (w : Int) → f v = f w := by
    intro v hv w hw hlt h
    rcases h with h | h
    · have hk := A.back (hN v hv) h
      have := h1 (v, (a.getD v 0).toNat) (List.mem_append.2 (.inl (List.mem_map.2 ⟨v, List.mem_filter.2 ⟨hv, up_up.2 ⟨w, h, by rw [A.len]; exact hk.1, hlt, hk.2.2.2⟩⟩, rfl⟩)))
      simp only [h, Int.toNat_natCast] at this; exact this
    · have hk := B.back (hN v hv) h
      have := h1 (v, (b.getD v 0).toNat) (List.mem_append.2 (.inr (List.mem_map.2 ⟨v, List.mem_filter.2 ⟨hv, up_up.2 ⟨w, h, by rw [B.len]; exact hk.1, hlt, hk.2.2.2⟩⟩, rfl⟩)))
      simp only [h, Int.toNat_natCast] at this; exact this
  have hadj : ∀ v ∈ P, ∀ w ∈ P, adj (dif a b es) v w → f v = f w := by
    intro v hv w hw h
    rcases Nat.lt_trichotomy v w with hlt | rfl | hlt
    · exact hE v hv w hw hlt (in_own g A B (hN v hv) h).2.2
    · rfl
    · exact (hE w hw v hv hlt (in_own g A B (hN w hw) (adj_symm h)).2.2).symm
  have hflat : Flat (dif a b es) (fun v => (v : Int) ∈ ([] : List Int)) (fun v => if v ∈ P then f v else 0) := by
    intro v w hvw _ _
    have hl := (dif_GR a b g).adj_lt v w hvw
    by_cases hv : v ∈ P
    · have hw := hps.edge P hP v hv w hvw hl.2 (hO w)
      simp only [if_pos hv, if_pos hw]
      exact hadj v hv w hw hvw
    · have hw : w ∉ P := fun hw => hv (hps.edge P hP w hw v (adj_symm hvw) hl.1 (hO v))
      simp only [if_neg hv, if_neg hw]
  have hc : ∀ v ∈ P, ∀ w ∈ P, f v = f w := fun v hv w hw => by
    have := hps.conn P hP _ hflat v hv w hw
    simpa [hv, hw] using this
  have hR : R.length ≤ 1 := by
    match R, h2, h3 with
    | [], _, _ => simp
    | [_], _, _ => simp
    | x :: y :: R, h2, h3 =>
      rw [List.pairwise_cons] at h3
      exact absurd (hc x (h2 x (by simp)) y (h2 y (by simp))) (h3.1 y (by simp))
  unfold cnt
  omega
theorem cnt_app (φ : Nat → Bool) (p q : List Nat) : cnt φ (p ++ q) = cnt φ p + cnt φ q := by simp [cnt]
theorem cnt_perm (φ : Nat → Bool) {p q : List Nat} (h : p.Perm q) : cnt φ p = cnt φ q := (h.filter φ).length_eq
theorem cnt_congr {φ ψ : Nat → Bool} {p : List Nat} (h : ∀ v ∈ p, φ v = ψ v) : cnt φ p = cnt ψ p := by
  unfold cnt; rw [List.filter_congr h]
def moreB (a b : List Int) (p : List Nat) : Bool := decide (cnt (ge0 b) p = cnt (ge0 a) p + 2)
theorem pieces_perm {n : Nat} {es : Es} {ps : List (List Nat)} (P : IsPieces n es (fun v => (v : Int) ∈ ([] : List Int)) ps) : ps.flatten.Perm (List.range n) := by
  have hO : ∀ v : Nat, ¬ (v : Int) ∈ ([] : List Int) := fun v => by simp
  refine (List.perm_ext_iff_of_nodup (List.pairwise_flatten.2 ⟨fun p hp => (P.inc p hp).imp fun h => Nat.ne_of_lt h, ?_⟩) List.nodup_range).2 fun v => ?_
  · exact P.disj.imp fun {p q} h v hv w hw e => by subst e; exact h v hv hw
  · rw [List.mem_flatten, List.mem_range]
    constructor
    · rintro ⟨p, hp, hv⟩; exact ((P.mem v).1 ⟨p, hp, hv⟩).1
    · intro hv
      obtain ⟨p, hp, h⟩ := (P.mem v).2 ⟨hv, hO v⟩
      exact ⟨p, hp, h⟩
theorem more_all {a b : List Int} : ∀ (ps : List (List Nat)), (∀ p ∈ ps, (btw a b (p.headD 0) = true ∧ cnt (upP b) p ≤ cnt (upP a) p + 1 ∧ (cnt (upP b) p = cnt (upP a) p + 1 → moreB a b p = true)) ∨ (btw a b (p.headD 0) = false ∧ cnt (upP b) p = cnt (upP a) p)) → cnt (upP b) ps.flatten ≤ cnt (upP a) ps.flatten + ((ps.filter fun p => btw a b (p.headD 0)).filter (moreB a b)).length
  | [], _ => by simp [cnt]
  | p :: ps, h => by
    have ih := more_all ps fun q hq => h q (List.mem_cons_of_mem _ hq)
    rw [List.flatten_cons, cnt_app, cnt_app, List.filter_cons]
    rcases h p (by simp) with ⟨h1, h2, h3⟩ | ⟨h1, h2⟩
    · rw [if_pos h1, List.filter_cons]
      rcases Nat.lt_or_ge (cnt (upP b) p) (cnt (upP a) p + 1) with h4 | h4
      · split
        · rw [List.length_cons]; omega
        · omega
      · rw [if_pos (h3 (by omega)), List.length_cons]; omega
    · rw [if_neg (by rw [h1]; exact Bool.false_ne_true)]; omega
structure Piece (N : Nat) (a b : List Int) (p : List Nat) : Prop where
  lt : ∀ v ∈ p, v < N
  two : 2 ≤ p.length
  ne : ∀ v ∈ p, a.getD v 0 ≠ b.getD v 0
  ina : ∀ v ∈ p, a.getD v 0 < 0 ∨ ∃ w : Nat, a.getD v 0 = (w : Int) ∧ w ∈ p
  inb : ∀ v ∈ p, b.getD v 0 < 0 ∨ ∃ w : Nat, b.getD v 0 = (w : Int) ∧ w ∈ p
  le1 : cnt (ge0 a) p ≤ cnt (ge0 b) p + 2
  le2 : cnt (ge0 b) p ≤ cnt (ge0 a) p + 2
theorem piece_is {N : Nat} {es : Es} {a b : List Int} (g : GR N es) (A : Mt N es a) (B : Mt N es b) {ps : List (List Nat)} (hps : IsPieces N (dif a b es) (fun v => (v : Int) ∈ ([] : List Int)) ps) {P : List Nat} (hP : P ∈ ps) :
    (btw a b (P.headD 0) = true ∧ Piece N a b P ∧ cnt (upP b) P ≤ cnt (upP a) P + 1 ∧ (cnt (upP b) P = cnt (upP a) P + 1 → moreB a b P = true)) ∨ (btw a b (P.headD 0) = false ∧ cnt (upP b) P = cnt (upP a) P) := by
  have hO : ∀ v : Nat, ¬ (v : Int) ∈ ([] : List Int) := fun v => by simp
  have hin := hps.inc P hP
  have hN : ∀ v ∈ P, v < N := fun v hv => ((hps.mem v).1 ⟨P, hP, hv⟩).1
  have hflat : Flat (dif a b es) (fun v => (v : Int) ∈ ([] : List Int)) (fun v => (btw a b v).toNat) := by
    intro v w hvw _ _
    have hl := (dif_GR a b g).adj_lt v w hvw
    obtain ⟨h1, h2, _⟩ := in_own g A B hl.1 hvw
    show (btw a b v).toNat = (btw a b w).toNat
    rw [h1, h2]
  obtain ⟨c, p', rfl⟩ := List.exists_cons_of_ne_nil (hps.ne P hP)
  have hall : ∀ v ∈ c :: p', btw a b v = btw a b c := fun v hv => by
    have := hps.conn _ hP _ hflat v hv c (by simp)
    revert this
    cases btw a b v <;> cases btw a b c <;> simp
  rw [List.headD_cons]
  cases hb : btw a b c with
  | false =>
    refine .inr ⟨rfl, cnt_congr fun v hv => ?_⟩
    have hv' : a.getD v 0 = b.getD v 0 := by
      have := hall v hv
      rw [hb] at this
      exact Classical.byContradiction fun h => by rw [btw, decide_eq_true h] at this; cases this
    have hvN := hN v hv
    unfold upP
    rw [← hv', A.len, B.len]
    rcases A.at_ v hvN with h | ⟨w, h1, h2, h3, h4, h5⟩
    · rw [h]; rfl
    · have := (B.back hvN (hv'.symm.trans h1)).2.2.2
      rw [h1, Int.toNat_natCast, h5, this]
  | true =>
    have hbt : ∀ v ∈ c :: p', btw a b v = true := fun v hv => (hall v hv).trans hb
    have hcl : ∀ v ∈ c :: p', ∀ w : Nat, a.getD v 0 = (w : Int) ∨ b.getD v 0 = (w : Int) → w ∈ c :: p' := fun v hv w h => by
      have := in_step g A B (hN v hv) (hbt v hv) h
      exact hps.edge _ hP v hv w this.2.2 this.1 (hO w)
    have ha2 := half A hin hN fun v hv w h => hcl v hv w (.inl h)
    have hb2 := half B hin hN fun v hv w h => hcl v hv w (.inr h)
    have hed := piece_edges g A B hps hP
    have hla : cnt (ge0 a) (c :: p') ≤ (c :: p').length := List.length_filter_le _ _
    have hlb : cnt (ge0 b) (c :: p') ≤ (c :: p').length := List.length_filter_le _ _
    refine .inl ⟨rfl, ⟨hN, ?_, fun v hv => of_decide_eq_true (hbt v hv), fun v hv => ?_, fun v hv => ?_, by omega, by omega⟩, by omega, fun h => ?_⟩
    · obtain ⟨w, hw⟩ := (in_adj g A B (hN c (by simp))).1 hb
      have hwN := ((dif_GR a b g).adj_lt c w hw).2
      have hwp := hps.edge _ hP c (by simp) w hw hwN (hO w)
      have hwc : w ≠ c := by
        rintro rfl
        rcases hw with h | h <;> have := (dif_GR a b g).ok _ h <;> simp only at this <;> omega
      rcases List.mem_cons.1 hwp with h | h
      · exact absurd h hwc
      · have := List.length_pos_of_mem h
        rw [List.length_cons]; omega
    · rcases A.at_ v (hN v hv) with h | ⟨w, h1, _⟩
      · exact .inl (by omega)
      · exact .inr ⟨w, h1, hcl v hv w (.inl h1)⟩
    · rcases B.at_ v (hN v hv) with h | ⟨w, h1, _⟩
      · exact .inl (by omega)
      · exact .inr ⟨w, h1, hcl v hv w (.inr h1)⟩
    · unfold moreB
      exact decide_eq_true (by omega)
theorem pieces_tell {N : Nat} {es : Es} {a b : List Int} {x : List (List Nat)} {e : Int} (g : GR N es) (A : Mt N es a) (B : Mt N es b) (h : AP N (castE es) a b x e) : e = 0 ∧ (∀ p ∈ x, Piece N a b p) ∧ cnt (upP b) (List.range N) ≤ cnt (upP a) (List.range N) + (x.filter (moreB a b)).length := by
  rcases h with ⟨h1, _⟩ | ⟨_, h2, _⟩ | ⟨_, _, N', es1, ps, hN, he, hps, rfl, rfl⟩
  · rw [rightB_GR g] at h1; cases h1
  · rw [Mt_mateB g A, Mt_mateB g B] at h2; cases h2
  · obtain rfl : N = N' := by omega
    obtain rfl := castE_inj he
    refine ⟨rfl, fun p hp => ?_, ?_⟩
    · obtain ⟨hp1, hp2⟩ := List.mem_filter.1 hp
      rcases piece_is g A B hps hp1 with h | h
      · exact h.2.1
      · rw [h.1] at hp2; cases hp2
    · rw [← cnt_perm _ (pieces_perm hps), ← cnt_perm _ (pieces_perm hps)]
      refine more_all ps fun p hp => ?_
      rcases piece_is g A B hps hp with h | h
      · exact .inl ⟨h.1, h.2.2⟩
      · exact .inr h
end Go.Proofs.Ytoefhbfgmceikaa
set_option maxRecDepth 100000
set_option maxHeartbeats 4000000
namespace Go.Proofs.Ytoefhbfgmceikaa
open Go Go.Ga Go.Ga.Gl
theorem cnt_take {φ : Nat → Bool} {p : List Nat} {k v : Nat} (h : p[k]? = some v) : cnt φ (p.take (k + 1)) = cnt φ (p.take k) + (φ v).toNat := by
  have : p.take (k + 1) = p.take k ++ [v] := by rw [List.take_add_one, h]; rfl
  rw [this, cnt_app]
  unfold cnt
  cases hv : φ v <;> simp [hv]
theorem more_take {φ : List Nat → Bool} {x : List (List Nat)} {k : Nat} {p : List Nat} (h : x[k]? = some p) : ((x.take (k + 1)).filter φ).length = ((x.take k).filter φ).length + (φ p).toNat := by
  have : x.take (k + 1) = x.take k ++ [p] := by rw [List.take_add_one, h]; rfl
  rw [this, List.filter_append, List.length_append]
  cases hv : φ p <;> simp [hv]
theorem natsAt {xs : List Nat} {k x : Nat} (h : xs[k]? = some x) : (nats xs)[k]? = some (.sc (.int .i64 (x : Int))) := by simp [nats, h]
theorem inP {P : List Nat} {x : Int} (hP : P.length ≤ 1000000000) (h0 : 0 ≤ x) (h : x < 0 ∨ ∃ w : Nat, x = (w : Int) ∧ w ∈ P) : ACalls Try.prog [] n_garlandhelp_In_int_ [.imm 1 (nats P), .sc (.int .i64 x)] [] fun r h' => r = .sc (.bool true) ∧ h' = [] := by
  rcases h with h | ⟨w, rfl, hw⟩
  · omega
  · have := in_ok (P.map fun n : Nat => (n : Int)) (w : Int) (by rw [List.length_map]; exact hP)
    rw [← nats_ints, decide_eq_true (List.mem_map.2 ⟨w, hw, rfl⟩)] at this
    exact this
theorem wpieces_ok (n : Int) (ends l1 l2 : List Int) (he : ends.length ≤ 1000000000) (hl1 : l1.length ≤ 1000000000) (hl2 : l2.length ≤ 1000000000) : ACalls Try.prog [] n_garlandlaw09_WalkPieces [.sc (.int .i64 n), .imm 1 (ints ends), .imm 1 (ints l1), .imm 1 (ints l2)] [] fun r h' => r = .sc (.bool true) ∧ h' = [] := by
  refine ACalls.trim ?_
  refine go_garlandlaw09_WalkPieces rfl ?_
  unfold c_garlandlaw09_WalkPieces v_garlandlaw09_WalkPieces
  refine wlk_sreg fun KY hKY => ?_
  simp only [go_sem, reduceIte, Nat.reduceEqDiff, Nat.reduceBEq, reduceCtorEq, Nat.reduceLT, Nat.reduceLeDiff, Nat.reduceAdd, Nat.reduceSub, Nat.reduceMul, Nat.reduceDiv, Int.reduceAdd, Int.reduceNeg, Int.reduceEq, Int.reduceLT, Int.reduceLE, c_garlandlaw09_WalkPieces_r0]
  refine hKY _ ?_
  refine wlk_sreg fun KY hKY => ?_
  simp only [go_sem, reduceIte, Nat.reduceEqDiff, Nat.reduceBEq, reduceCtorEq, Nat.reduceLT, Nat.reduceLeDiff, Nat.reduceAdd, Nat.reduceSub, Nat.reduceMul, Nat.reduceDiv, Int.reduceAdd, Int.reduceNeg, Int.reduceEq, Int.reduceLT, Int.reduceLE, c_garlandlaw09_WalkPieces_r1]
  apply call_gen [] [] false none rfl
  iterate 8 (first | (simp only [go_sem, reduceIte, Nat.reduceEqDiff, Nat.reduceBEq, reduceCtorEq, Nat.reduceLT, Nat.reduceLeDiff, Nat.reduceAdd, Nat.reduceSub, Nat.reduceMul, Nat.reduceDiv, Int.reduceAdd, Int.reduceNeg, Int.reduceEq, Int.reduceLT, Int.reduceLE, watchIn] <;> rfl) | rfl)
  refine (small_ok n ends 14 40 (by omega) (by omega) (by omega)).mono ?_
  rintro _ _ ⟨⟨N, es, g, hN, hes, rfl⟩, rfl⟩
  refine ⟨Nat.le_of_ble_eq_true rfl, (fun hh => by cases hh), ?_⟩
  simp only [go_sem, reduceIte, Nat.reduceEqDiff, Nat.reduceBEq, reduceCtorEq, Nat.reduceLT, Nat.reduceLeDiff, Nat.reduceAdd, Nat.reduceSub, Nat.reduceMul, Nat.reduceDiv, Int.reduceAdd, Int.reduceNeg, Int.reduceEq, Int.reduceLT, Int.reduceLE, callOut, AState.after]
  refine hKY _ ?_
  refine wlk_sdraw fun KY hKY => ?_
  simp only [go_sem, reduceIte, Nat.reduceEqDiff, Nat.reduceBEq, reduceCtorEq, Nat.reduceLT, Nat.reduceLeDiff, Nat.reduceAdd, Nat.reduceSub, Nat.reduceMul, Nat.reduceDiv, Int.reduceAdd, Int.reduceNeg, Int.reduceEq, Int.reduceLT, Int.reduceLE, c_garlandlaw09_WalkPieces_r2]
  refine call_view rfl (by simp only [go_sem, reduceIte, Nat.reduceEqDiff, Nat.reduceBEq, reduceCtorEq, Nat.reduceLT, Nat.reduceLeDiff, Nat.reduceAdd, Nat.reduceSub, Nat.reduceMul, Nat.reduceDiv, Int.reduceAdd, Int.reduceNeg, Int.reduceEq, Int.reduceLT, Int.reduceLE] <;> rfl) ((pmates_ok g l1 hl1).mono ?_)
  rintro rr hh ⟨⟨X, A, rfl⟩, rfl⟩
  refine ⟨?_, ?_, ?_, ?_⟩
  iterate 3 (first | rfl | simp only [go_sem, reduceIte, Nat.reduceEqDiff, Nat.reduceBEq, reduceCtorEq, Nat.reduceLT, Nat.reduceLeDiff, Nat.reduceAdd, Nat.reduceSub, Nat.reduceMul, Nat.reduceDiv, Int.reduceAdd, Int.reduceNeg, Int.reduceEq, Int.reduceLT, Int.reduceLE])
  simp only [go_sem, reduceIte, Nat.reduceEqDiff, Nat.reduceBEq, reduceCtorEq, Nat.reduceLT, Nat.reduceLeDiff, Nat.reduceAdd, Nat.reduceSub, Nat.reduceMul, Nat.reduceDiv, Int.reduceAdd, Int.reduceNeg, Int.reduceEq, Int.reduceLT, Int.reduceLE]
  refine call_view rfl (by simp only [go_sem, reduceIte, Nat.reduceEqDiff, Nat.reduceBEq, reduceCtorEq, Nat.reduceLT, Nat.reduceLeDiff, Nat.reduceAdd, Nat.reduceSub, Nat.reduceMul, Nat.reduceDiv, Int.reduceAdd, Int.reduceNeg, Int.reduceEq, Int.reduceLT, Int.reduceLE] <;> rfl) ((pmates_ok g l2 hl2).mono ?_)
  rintro rr hh ⟨⟨Y, B, rfl⟩, rfl⟩
  refine ⟨?_, ?_, ?_, ?_⟩
  iterate 3 (first | rfl | simp only [go_sem, reduceIte, Nat.reduceEqDiff, Nat.reduceBEq, reduceCtorEq, Nat.reduceLT, Nat.reduceLeDiff, Nat.reduceAdd, Nat.reduceSub, Nat.reduceMul, Nat.reduceDiv, Int.reduceAdd, Int.reduceNeg, Int.reduceEq, Int.reduceLT, Int.reduceLE])
  simp only [go_sem, reduceIte, Nat.reduceEqDiff, Nat.reduceBEq, reduceCtorEq, Nat.reduceLT, Nat.reduceLeDiff, Nat.reduceAdd, Nat.reduceSub, Nat.reduceMul, Nat.reduceDiv, Int.reduceAdd, Int.reduceNeg, Int.reduceEq, Int.reduceLT, Int.reduceLE]
  refine hKY _ ?_
  refine sem_freeze [0, 10] (by simp only [go_sem, reduceIte, Nat.reduceEqDiff, Nat.reduceBEq, reduceCtorEq, Nat.reduceLT, Nat.reduceLeDiff, Nat.reduceAdd, Nat.reduceSub, Nat.reduceMul, Nat.reduceDiv, Int.reduceAdd, Int.reduceNeg, Int.reduceEq, Int.reduceLT, Int.reduceLE]; rfl) ?_
  simp only [go_sem, reduceIte, Nat.reduceEqDiff, Nat.reduceBEq, reduceCtorEq, Nat.reduceLT, Nat.reduceLeDiff, Nat.reduceAdd, Nat.reduceSub, Nat.reduceMul, Nat.reduceDiv, Int.reduceAdd, Int.reduceNeg, Int.reduceEq, Int.reduceLT, Int.reduceLE]
  refine sem_freeze [0, 11] (by simp only [go_sem, reduceIte, Nat.reduceEqDiff, Nat.reduceBEq, reduceCtorEq, Nat.reduceLT, Nat.reduceLeDiff, Nat.reduceAdd, Nat.reduceSub, Nat.reduceMul, Nat.reduceDiv, Int.reduceAdd, Int.reduceNeg, Int.reduceEq, Int.reduceLT, Int.reduceLE]; rfl) ?_
  simp only [go_sem, reduceIte, Nat.reduceEqDiff, Nat.reduceBEq, reduceCtorEq, Nat.reduceLT, Nat.reduceLeDiff, Nat.reduceAdd, Nat.reduceSub, Nat.reduceMul, Nat.reduceDiv, Int.reduceAdd, Int.reduceNeg, Int.reduceEq, Int.reduceLT, Int.reduceLE]
  refine wlk_sreg fun KY hKY => ?_
  simp only [go_sem, reduceIte, Nat.reduceEqDiff, Nat.reduceBEq, reduceCtorEq, Nat.reduceLT, Nat.reduceLeDiff, Nat.reduceAdd, Nat.reduceSub, Nat.reduceMul, Nat.reduceDiv, Int.reduceAdd, Int.reduceNeg, Int.reduceEq, Int.reduceLT, Int.reduceLE, c_garlandlaw09_WalkPieces_r3]
  refine call_view rfl (by simp only [go_sem, reduceIte, Nat.reduceEqDiff, Nat.reduceBEq, reduceCtorEq, Nat.reduceLT, Nat.reduceLeDiff, Nat.reduceAdd, Nat.reduceSub, Nat.reduceMul, Nat.reduceDiv, Int.reduceAdd, Int.reduceNeg, Int.reduceEq, Int.reduceLT, Int.reduceLE] <;> rfl) ((wapart_ok (N : Int) (castE es) X Y).mono ?_)
  rintro rr hh ⟨⟨x, e, hx, rfl⟩, rfl⟩
  refine ⟨?_, ?_, ?_, ?_⟩
  iterate 3 (first | rfl | simp only [go_sem, reduceIte, Nat.reduceEqDiff, Nat.reduceBEq, reduceCtorEq, Nat.reduceLT, Nat.reduceLeDiff, Nat.reduceAdd, Nat.reduceSub, Nat.reduceMul, Nat.reduceDiv, Int.reduceAdd, Int.reduceNeg, Int.reduceEq, Int.reduceLT, Int.reduceLE])
  obtain ⟨hxl, hxp⟩ := hx.len
  obtain ⟨rfl, hps, hall⟩ := pieces_tell g A B hx
  clear hx
  simp only [go_sem, reduceIte, Nat.reduceEqDiff, Nat.reduceBEq, reduceCtorEq, Nat.reduceLT, Nat.reduceLeDiff, Nat.reduceAdd, Nat.reduceSub, Nat.reduceMul, Nat.reduceDiv, Int.reduceAdd, Int.reduceNeg, Int.reduceEq, Int.reduceLT, Int.reduceLE]
  refine hKY _ ?_
  refine sem_freeze [0, 12] (by simp only [go_sem, reduceIte, Nat.reduceEqDiff, Nat.reduceBEq, reduceCtorEq, Nat.reduceLT, Nat.reduceLeDiff, Nat.reduceAdd, Nat.reduceSub, Nat.reduceMul, Nat.reduceDiv, Int.reduceAdd, Int.reduceNeg, Int.reduceEq, Int.reduceLT, Int.reduceLE]; rfl) ?_
  simp only [go_sem, reduceIte, Nat.reduceEqDiff, Nat.reduceBEq, reduceCtorEq, Nat.reduceLT, Nat.reduceLeDiff, Nat.reduceAdd, Nat.reduceSub, Nat.reduceMul, Nat.reduceDiv, Int.reduceAdd, Int.reduceNeg, Int.reduceEq, Int.reduceLT, Int.reduceLE, rowsO_freeze]
  refine wlk_seq fun X1 hn1 he1 hr1 => ?_
  refine wlk_sreg fun KY hKY => ?_
  simp only [go_sem, reduceIte, Nat.reduceEqDiff, Nat.reduceBEq, reduceCtorEq, Nat.reduceLT, Nat.reduceLeDiff, Nat.reduceAdd, Nat.reduceSub, Nat.reduceMul, Nat.reduceDiv, Int.reduceAdd, Int.reduceNeg, Int.reduceEq, Int.reduceLT, Int.reduceLE, c_garlandlaw09_WalkPieces_r4]
  refine call_view rfl (by simp only [go_sem, reduceIte, Nat.reduceEqDiff, Nat.reduceBEq, reduceCtorEq, Nat.reduceLT, Nat.reduceLeDiff, Nat.reduceAdd, Nat.reduceSub, Nat.reduceMul, Nat.reduceDiv, Int.reduceAdd, Int.reduceNeg, Int.reduceEq, Int.reduceLT, Int.reduceLE] <;> rfl) ((awake09_ok).mono ?_)
  rintro rr hh ⟨rfl, rfl⟩
  refine ⟨rfl, rfl, rfl, ?_⟩
  simp only [go_sem, reduceIte, Nat.reduceEqDiff, Nat.reduceBEq, reduceCtorEq, Nat.reduceLT, Nat.reduceLeDiff, Nat.reduceAdd, Nat.reduceSub, Nat.reduceMul, Nat.reduceDiv, Int.reduceAdd, Int.reduceNeg, Int.reduceEq, Int.reduceLT, Int.reduceLE]
  refine hKY _ ?_
  refine wlk_cond0 (by first | rfl | (simp only [go_sem, reduceIte, Nat.reduceEqDiff, Nat.reduceBEq, reduceCtorEq, Nat.reduceLT, Nat.reduceLeDiff, Nat.reduceAdd, Nat.reduceSub, Nat.reduceMul, Nat.reduceDiv, Int.reduceAdd, Int.reduceNeg, Int.reduceEq, Int.reduceLT, Int.reduceLE]; try simp (disch := omega) only [decide_eq_true, decide_eq_false])) ?_
  refine wlk_skip ?_
  repeat (first | refine hn1 _ ?_ | refine he1 _ _ ?_)
  refine wlk_sreg fun KY hKY => ?_
  simp only [go_sem, reduceIte, Nat.reduceEqDiff, Nat.reduceBEq, reduceCtorEq, Nat.reduceLT, Nat.reduceLeDiff, Nat.reduceAdd, Nat.reduceSub, Nat.reduceMul, Nat.reduceDiv, Int.reduceAdd, Int.reduceNeg, Int.reduceEq, Int.reduceLT, Int.reduceLE, c_garlandlaw09_WalkPieces_r6]
  refine hKY _ ?_
  have hXl := A.len
  have hYl := B.len
  refine wlk_seq fun X2 hn2 he2 hr2 => ?_
  refine wlk_sreg fun KY hKY => ?_
  simp only [go_sem, reduceIte, Nat.reduceEqDiff, Nat.reduceBEq, reduceCtorEq, Nat.reduceLT, Nat.reduceLeDiff, Nat.reduceAdd, Nat.reduceSub, Nat.reduceMul, Nat.reduceDiv, Int.reduceAdd, Int.reduceNeg, Int.reduceEq, Int.reduceLT, Int.reduceLE, c_garlandlaw09_WalkPieces_r7]
  refine hKY _ ?_
  refine wlk_blk fun X3 hn3 he3 hf3 hr3 => ?_
  try simp only [go_sem, reduceIte, Nat.reduceEqDiff, Nat.reduceBEq, reduceCtorEq, Nat.reduceLT, Nat.reduceLeDiff, Nat.reduceAdd, Nat.reduceSub, Nat.reduceMul, Nat.reduceDiv, Int.reduceAdd, Int.reduceNeg, Int.reduceEq, Int.reduceLT, Int.reduceLE]
  refine wlk_lp (α := Nat) [16, 17, 18, 19, 45, 54, 71, 76, 83, 132, 150, 154] (fun i => [(14, .sc (.int .i64 (((x.take i).filter (moreB X Y)).length : Nat))), (15, .sc (.int .i64 (i : Int)))]) (fun i => []) (fun i q => i ≤ x.length ∧ q = x.length - i) (0) (x.length) rfl (by first | (simp only [go_sem, reduceIte, Nat.reduceEqDiff, Nat.reduceBEq, reduceCtorEq, Nat.reduceLT, Nat.reduceLeDiff, Nat.reduceAdd, Nat.reduceSub, Nat.reduceMul, Nat.reduceDiv, Int.reduceAdd, Int.reduceNeg, Int.reduceEq, Int.reduceLT, Int.reduceLE, updAll_cons, updAll_nil]; done) | with_reducible rfl | rfl) (⟨by omega, rfl⟩) ?_
  rintro i q ⟨hi, rfl⟩ X4 hn4 he4 hr4
  simp only [go_sem, reduceIte, Nat.reduceEqDiff, Nat.reduceBEq, reduceCtorEq, Nat.reduceLT, Nat.reduceLeDiff, Nat.reduceAdd, Nat.reduceSub, Nat.reduceMul, Nat.reduceDiv, Int.reduceAdd, Int.reduceNeg, Int.reduceEq, Int.reduceLT, Int.reduceLE, updAll_cons, updAll_nil]
  rcases Nat.lt_or_ge i x.length with hi2 | hi2
  · have hdy : decide ((i : Int) < (x.length : Int)) = true := decide_eq_true (by omega)
    refine wlk_seq fun X5 hn5 he5 hr5 => ?_
    refine wlk_sreg fun KY hKY => ?_
    simp only [go_sem, reduceIte, Nat.reduceEqDiff, Nat.reduceBEq, reduceCtorEq, Nat.reduceLT, Nat.reduceLeDiff, Nat.reduceAdd, Nat.reduceSub, Nat.reduceMul, Nat.reduceDiv, Int.reduceAdd, Int.reduceNeg, Int.reduceEq, Int.reduceLT, Int.reduceLE, c_garlandlaw09_WalkPieces_r8, rowsI_len, hdy]
    refine hKY _ ?_
    refine wlk_cond1 (by first | rfl | (simp only [go_sem, reduceIte, Nat.reduceEqDiff, Nat.reduceBEq, reduceCtorEq, Nat.reduceLT, Nat.reduceLeDiff, Nat.reduceAdd, Nat.reduceSub, Nat.reduceMul, Nat.reduceDiv, Int.reduceAdd, Int.reduceNeg, Int.reduceEq, Int.reduceLT, Int.reduceLE]; try simp (disch := omega) only [decide_eq_true, decide_eq_false])) ?_
    refine wlk_skip ?_
    repeat (first | refine hn5 _ ?_ | refine he5 _ _ ?_ | refine he4 _ _ ?_ | refine hn3 _ ?_ | refine he3 _ ?_ | refine hf3 _ _ (by decide) ?_ | refine hn2 _ ?_ | refine he2 _ _ ?_ | refine hn1 _ ?_ | refine he1 _ _ ?_)
    refine wlk_seq fun X6 hn6 he6 hr6 => ?_
    refine wlk_blk fun X7 hn7 he7 hf7 hr7 => ?_
    have hp : x[i]? = some x[i] := List.getElem?_eq_getElem hi2
    have hpm : x[i] ∈ x := List.getElem_mem hi2
    have hmt := more_take (φ := moreB X Y) hp
    generalize x[i] = P at hp hpm hmt
    have W := hps P hpm
    have hPl := hxp P hpm
    have hrow := rowsI_get hp
    refine wlk_sreg fun KY hKY => ?_
    simp only [go_sem, reduceIte, Nat.reduceEqDiff, Nat.reduceBEq, reduceCtorEq, Nat.reduceLT, Nat.reduceLeDiff, Nat.reduceAdd, Nat.reduceSub, Nat.reduceMul, Nat.reduceDiv, Int.reduceAdd, Int.reduceNeg, Int.reduceEq, Int.reduceLT, Int.reduceLE, c_garlandlaw09_WalkPieces_r9]
    refine hKY _ ?_
    refine wlk_seq fun X8 hn8 he8 hr8 => ?_
    refine wlk_sreg fun KY hKY => ?_
    simp only [go_sem, reduceIte, Nat.reduceEqDiff, Nat.reduceBEq, reduceCtorEq, Nat.reduceLT, Nat.reduceLeDiff, Nat.reduceAdd, Nat.reduceSub, Nat.reduceMul, Nat.reduceDiv, Int.reduceAdd, Int.reduceNeg, Int.reduceEq, Int.reduceLT, Int.reduceLE, c_garlandlaw09_WalkPieces_r10]
    refine hKY _ ?_
    refine wlk_blk fun X9 hn9 he9 hf9 hr9 => ?_
    try simp only [go_sem, reduceIte, Nat.reduceEqDiff, Nat.reduceBEq, reduceCtorEq, Nat.reduceLT, Nat.reduceLeDiff, Nat.reduceAdd, Nat.reduceSub, Nat.reduceMul, Nat.reduceDiv, Int.reduceAdd, Int.reduceNeg, Int.reduceEq, Int.reduceLT, Int.reduceLE]
    refine wlk_lp (α := Nat) [19, 54, 71, 76, 83, 132] (fun k => [(16, .sc (.int .i64 (cnt (ge0 X) (P.take k) : Nat))), (17, .sc (.int .i64 (cnt (ge0 Y) (P.take k) : Nat))), (18, .sc (.int .i64 (k : Int)))]) (fun k => []) (fun k q => k ≤ P.length ∧ q = P.length - k) (0) (P.length) rfl (by first | (simp only [go_sem, reduceIte, Nat.reduceEqDiff, Nat.reduceBEq, reduceCtorEq, Nat.reduceLT, Nat.reduceLeDiff, Nat.reduceAdd, Nat.reduceSub, Nat.reduceMul, Nat.reduceDiv, Int.reduceAdd, Int.reduceNeg, Int.reduceEq, Int.reduceLT, Int.reduceLE, updAll_cons, updAll_nil]; done) | with_reducible rfl | rfl) (⟨by omega, rfl⟩) ?_
    rintro k q ⟨hk, rfl⟩ X10 hn10 he10 hr10
    simp only [go_sem, reduceIte, Nat.reduceEqDiff, Nat.reduceBEq, reduceCtorEq, Nat.reduceLT, Nat.reduceLeDiff, Nat.reduceAdd, Nat.reduceSub, Nat.reduceMul, Nat.reduceDiv, Int.reduceAdd, Int.reduceNeg, Int.reduceEq, Int.reduceLT, Int.reduceLE, updAll_cons, updAll_nil]
    rcases Nat.lt_or_ge k P.length with hk2 | hk2
    · have hdz : decide ((k : Int) < (P.length : Int)) = true := decide_eq_true (by omega)
      refine wlk_seq fun X11 hn11 he11 hr11 => ?_
      refine wlk_sreg fun KY hKY => ?_
      simp only [go_sem, reduceIte, Nat.reduceEqDiff, Nat.reduceBEq, reduceCtorEq, Nat.reduceLT, Nat.reduceLeDiff, Nat.reduceAdd, Nat.reduceSub, Nat.reduceMul, Nat.reduceDiv, Int.reduceAdd, Int.reduceNeg, Int.reduceEq, Int.reduceLT, Int.reduceLE, c_garlandlaw09_WalkPieces_r11, rowsI_len, hi2, hrow, nats_len, hdz]
      refine hKY _ ?_
      refine wlk_cond1 (by first | rfl | (simp only [go_sem, reduceIte, Nat.reduceEqDiff, Nat.reduceBEq, reduceCtorEq, Nat.reduceLT, Nat.reduceLeDiff, Nat.reduceAdd, Nat.reduceSub, Nat.reduceMul, Nat.reduceDiv, Int.reduceAdd, Int.reduceNeg, Int.reduceEq, Int.reduceLT, Int.reduceLE]; try simp (disch := omega) only [decide_eq_true, decide_eq_false])) ?_
      refine wlk_skip ?_
      repeat (first | refine hn11 _ ?_ | refine he11 _ _ ?_ | refine he10 _ _ ?_ | refine hn9 _ ?_ | refine he9 _ ?_ | refine hf9 _ _ (by decide) ?_ | refine hn8 _ ?_ | refine he8 _ _ ?_ | refine hn7 _ ?_ | refine he7 _ ?_ | refine hf7 _ _ (by decide) ?_ | refine hn6 _ ?_ | refine he6 _ _ ?_ | refine hn5 _ ?_ | refine he5 _ _ ?_)
      refine wlk_seq fun X12 hn12 he12 hr12 => ?_
      refine wlk_blk fun X13 hn13 he13 hf13 hr13 => ?_
      have hv : P[k]? = some P[k] := List.getElem?_eq_getElem hk2
      have hvm : P[k] ∈ P := List.getElem_mem hk2
      generalize P[k] = v at hv hvm
      have hvN := W.lt v hvm
      have hcX := cnt_take (φ := ge0 X) hv
      have hcY := cnt_take (φ := ge0 Y) hv
      refine wlk_sreg fun KY hKY => ?_
      simp only [go_sem, reduceIte, Nat.reduceEqDiff, Nat.reduceBEq, reduceCtorEq, Nat.reduceLT, Nat.reduceLeDiff, Nat.reduceAdd, Nat.reduceSub, Nat.reduceMul, Nat.reduceDiv, Int.reduceAdd, Int.reduceNeg, Int.reduceEq, Int.reduceLT, Int.reduceLE, c_garlandlaw09_WalkPieces_r12, rowsI_len, hi2, hrow, nats_len, hk2, natsAt hv]
      refine hKY _ ?_
      have hn0 : decide ((v : Int) < 0) = false := decide_eq_false (by omega)
      have hnN : decide ((N : Int) ≤ (v : Int)) = false := decide_eq_false (by omega)
      refine wlk_seq fun X14 hn14 he14 hr14 => ?_
      refine wlk_sreg fun KY hKY => ?_
      simp only [go_sem, reduceIte, Nat.reduceEqDiff, Nat.reduceBEq, reduceCtorEq, Nat.reduceLT, Nat.reduceLeDiff, Nat.reduceAdd, Nat.reduceSub, Nat.reduceMul, Nat.reduceDiv, Int.reduceAdd, Int.reduceNeg, Int.reduceEq, Int.reduceLT, Int.reduceLE, c_garlandlaw09_WalkPieces_r13, hn0, ge_iff_le, hnN]
      refine hKY _ ?_
      refine wlk_cond0 (by first | rfl | (simp only [go_sem, reduceIte, Nat.reduceEqDiff, Nat.reduceBEq, reduceCtorEq, Nat.reduceLT, Nat.reduceLeDiff, Nat.reduceAdd, Nat.reduceSub, Nat.reduceMul, Nat.reduceDiv, Int.reduceAdd, Int.reduceNeg, Int.reduceEq, Int.reduceLT, Int.reduceLE]; try simp (disch := omega) only [decide_eq_true, decide_eq_false])) ?_
      refine wlk_skip ?_
      repeat (first | refine hn14 _ ?_ | refine he14 _ _ ?_ | refine hn13 _ ?_ | refine he13 _ ?_ | refine hf13 _ _ (by decide) ?_ | refine hn12 _ ?_ | refine he12 _ _ ?_ | refine hn11 _ ?_ | refine he11 _ _ ?_ | refine he10 _ _ ?_ | refine hn9 _ ?_ | refine he9 _ ?_ | refine hf9 _ _ (by decide) ?_ | refine hn8 _ ?_ | refine he8 _ _ ?_ | refine hn7 _ ?_ | refine he7 _ ?_ | refine hf7 _ _ (by decide) ?_ | refine hn6 _ ?_ | refine he6 _ _ ?_ | refine hn5 _ ?_ | refine he5 _ _ ?_)
      have hgX : (ints X)[v]? = some (.sc (.int .i64 (X.getD v 0))) := ints_get (by omega)
      have hgY : (ints Y)[v]? = some (.sc (.int .i64 (Y.getD v 0))) := ints_get (by omega)
      have hvX : v < X.length := by omega
      have hvY : v < Y.length := by omega
      have hne : decide (X.getD v 0 = Y.getD v 0) = false := decide_eq_false (W.ne v hvm)
      have hfX : decide (0 ≤ X.getD v 0) = ge0 X v := rfl
      have hfY : decide (0 ≤ Y.getD v 0) = ge0 Y v := rfl
      have hkX : cnt (ge0 X) (P.take k) ≤ k := Nat.le_trans (List.length_filter_le _ _) (by rw [List.length_take]; omega)
      have hkY : cnt (ge0 Y) (P.take k) ≤ k := Nat.le_trans (List.length_filter_le _ _) (by rw [List.length_take]; omega)
      have hiX : ge0 X v = true → ACalls Try.prog [] n_garlandhelp_In_int_ [.imm 1 (nats P), .sc (.int .i64 (X.getD v 0))] [] fun r h' => r = .sc (.bool true) ∧ h' = [] := fun h => inP (by omega) (of_decide_eq_true h) (W.ina v hvm)
      have hiY : ge0 Y v = true → ACalls Try.prog [] n_garlandhelp_In_int_ [.imm 1 (nats P), .sc (.int .i64 (Y.getD v 0))] [] fun r h' => r = .sc (.bool true) ∧ h' = [] := fun h => inP (by omega) (of_decide_eq_true h) (W.inb v hvm)
      generalize ge0 X v = gx at hfX hcX hiX
      generalize ge0 Y v = gy at hfY hcY hiY
      refine wlk_seq fun X15 hn15 he15 hr15 => ?_
      cases gx with
      | true =>
        refine wlk_sreg fun KY hKY => ?_
        simp only [go_sem, reduceIte, Nat.reduceEqDiff, Nat.reduceBEq, reduceCtorEq, Nat.reduceLT, Nat.reduceLeDiff, Nat.reduceAdd, Nat.reduceSub, Nat.reduceMul, Nat.reduceDiv, Int.reduceAdd, Int.reduceNeg, Int.reduceEq, Int.reduceLT, Int.reduceLE, c_garlandlaw09_WalkPieces_r15, hgX, hvX, ints_len, ge_iff_le, hfX]
        refine hKY _ ?_
        refine wlk_cond1 (by first | rfl | (simp only [go_sem, reduceIte, Nat.reduceEqDiff, Nat.reduceBEq, reduceCtorEq, Nat.reduceLT, Nat.reduceLeDiff, Nat.reduceAdd, Nat.reduceSub, Nat.reduceMul, Nat.reduceDiv, Int.reduceAdd, Int.reduceNeg, Int.reduceEq, Int.reduceLT, Int.reduceLE]; try simp (disch := omega) only [decide_eq_true, decide_eq_false])) ?_
        have hcX : cnt (ge0 X) (P.take (k + 1)) = cnt (ge0 X) (P.take k) + 1 := hcX
        refine wlk_reg fun KY hKY => ?_
        simp only [go_sem, reduceIte, Nat.reduceEqDiff, Nat.reduceBEq, reduceCtorEq, Nat.reduceLT, Nat.reduceLeDiff, Nat.reduceAdd, Nat.reduceSub, Nat.reduceMul, Nat.reduceDiv, Int.reduceAdd, Int.reduceNeg, Int.reduceEq, Int.reduceLT, Int.reduceLE, c_garlandlaw09_WalkPieces_r16, incS (show cnt (ge0 X) (P.take k) < 4611686018427387904 by omega), ← hcX]
        refine hKY _ ?_
        repeat (first | refine hn15 _ ?_ | refine he15 _ _ ?_ | refine hn14 _ ?_ | refine he14 _ _ ?_ | refine hn13 _ ?_ | refine he13 _ ?_ | refine hf13 _ _ (by decide) ?_ | refine hn12 _ ?_ | refine he12 _ _ ?_ | refine hn11 _ ?_ | refine he11 _ _ ?_ | refine he10 _ _ ?_ | refine hn9 _ ?_ | refine he9 _ ?_ | refine hf9 _ _ (by decide) ?_ | refine hn8 _ ?_ | refine he8 _ _ ?_ | refine hn7 _ ?_ | refine he7 _ ?_ | refine hf7 _ _ (by decide) ?_ | refine hn6 _ ?_ | refine he6 _ _ ?_ | refine hn5 _ ?_ | refine he5 _ _ ?_)
        refine wlk_seq fun X16 hn16 he16 hr16 => ?_
        cases gy with
        | true =>
          refine wlk_sreg fun KY hKY => ?_
          simp only [go_sem, reduceIte, Nat.reduceEqDiff, Nat.reduceBEq, reduceCtorEq, Nat.reduceLT, Nat.reduceLeDiff, Nat.reduceAdd, Nat.reduceSub, Nat.reduceMul, Nat.reduceDiv, Int.reduceAdd, Int.reduceNeg, Int.reduceEq, Int.reduceLT, Int.reduceLE, c_garlandlaw09_WalkPieces_r17, hgY, hvY, ints_len, ge_iff_le, hfY]
          refine hKY _ ?_
          refine wlk_cond1 (by first | rfl | (simp only [go_sem, reduceIte, Nat.reduceEqDiff, Nat.reduceBEq, reduceCtorEq, Nat.reduceLT, Nat.reduceLeDiff, Nat.reduceAdd, Nat.reduceSub, Nat.reduceMul, Nat.reduceDiv, Int.reduceAdd, Int.reduceNeg, Int.reduceEq, Int.reduceLT, Int.reduceLE]; try simp (disch := omega) only [decide_eq_true, decide_eq_false])) ?_
          have hcY : cnt (ge0 Y) (P.take (k + 1)) = cnt (ge0 Y) (P.take k) + 1 := hcY
          refine wlk_reg fun KY hKY => ?_
          simp only [go_sem, reduceIte, Nat.reduceEqDiff, Nat.reduceBEq, reduceCtorEq, Nat.reduceLT, Nat.reduceLeDiff, Nat.reduceAdd, Nat.reduceSub, Nat.reduceMul, Nat.reduceDiv, Int.reduceAdd, Int.reduceNeg, Int.reduceEq, Int.reduceLT, Int.reduceLE, c_garlandlaw09_WalkPieces_r18, incS (show cnt (ge0 Y) (P.take k) < 4611686018427387904 by omega), ← hcY]
          refine hKY _ ?_
          repeat (first | refine hn16 _ ?_ | refine he16 _ _ ?_ | refine hn15 _ ?_ | refine he15 _ _ ?_ | refine hn14 _ ?_ | refine he14 _ _ ?_ | refine hn13 _ ?_ | refine he13 _ ?_ | refine hf13 _ _ (by decide) ?_ | refine hn12 _ ?_ | refine he12 _ _ ?_ | refine hn11 _ ?_ | refine he11 _ _ ?_ | refine he10 _ _ ?_ | refine hn9 _ ?_ | refine he9 _ ?_ | refine hf9 _ _ (by decide) ?_ | refine hn8 _ ?_ | refine he8 _ _ ?_ | refine hn7 _ ?_ | refine he7 _ ?_ | refine hf7 _ _ (by decide) ?_ | refine hn6 _ ?_ | refine he6 _ _ ?_ | refine hn5 _ ?_ | refine he5 _ _ ?_)
          refine wlk_sdraw fun KY hKY => ?_
          simp only [go_sem, reduceIte, Nat.reduceEqDiff, Nat.reduceBEq, reduceCtorEq, Nat.reduceLT, Nat.reduceLeDiff, Nat.reduceAdd, Nat.reduceSub, Nat.reduceMul, Nat.reduceDiv, Int.reduceAdd, Int.reduceNeg, Int.reduceEq, Int.reduceLT, Int.reduceLE, c_garlandlaw09_WalkPieces_r19, hgX, hgY, hvX, hvY, ints_len, ge_iff_le, hne, hfX, hfY, rowsI_len, hi2, hrow]
          refine call_view rfl (by simp only [go_sem, reduceIte, Nat.reduceEqDiff, Nat.reduceBEq, reduceCtorEq, Nat.reduceLT, Nat.reduceLeDiff, Nat.reduceAdd, Nat.reduceSub, Nat.reduceMul, Nat.reduceDiv, Int.reduceAdd, Int.reduceNeg, Int.reduceEq, Int.reduceLT, Int.reduceLE] <;> rfl) ((hiX rfl).mono ?_)
          rintro rr hh ⟨rfl, rfl⟩
          refine ⟨rfl, rfl, rfl, ?_⟩
          simp only [go_sem, reduceIte, Nat.reduceEqDiff, Nat.reduceBEq, reduceCtorEq, Nat.reduceLT, Nat.reduceLeDiff, Nat.reduceAdd, Nat.reduceSub, Nat.reduceMul, Nat.reduceDiv, Int.reduceAdd, Int.reduceNeg, Int.reduceEq, Int.reduceLT, Int.reduceLE, hgY, hvY, ints_len, ge_iff_le, hfY, rowsI_len, hi2, hrow]
          refine call_view rfl (by simp only [go_sem, reduceIte, Nat.reduceEqDiff, Nat.reduceBEq, reduceCtorEq, Nat.reduceLT, Nat.reduceLeDiff, Nat.reduceAdd, Nat.reduceSub, Nat.reduceMul, Nat.reduceDiv, Int.reduceAdd, Int.reduceNeg, Int.reduceEq, Int.reduceLT, Int.reduceLE] <;> rfl) ((hiY rfl).mono ?_)
          rintro rr hh ⟨rfl, rfl⟩
          refine ⟨rfl, rfl, rfl, ?_⟩
          simp only [go_sem, reduceIte, Nat.reduceEqDiff, Nat.reduceBEq, reduceCtorEq, Nat.reduceLT, Nat.reduceLeDiff, Nat.reduceAdd, Nat.reduceSub, Nat.reduceMul, Nat.reduceDiv, Int.reduceAdd, Int.reduceNeg, Int.reduceEq, Int.reduceLT, Int.reduceLE]
          refine hKY _ ?_
          refine wlk_cond0 (by first | rfl | (simp only [go_sem, reduceIte, Nat.reduceEqDiff, Nat.reduceBEq, reduceCtorEq, Nat.reduceLT, Nat.reduceLeDiff, Nat.reduceAdd, Nat.reduceSub, Nat.reduceMul, Nat.reduceDiv, Int.reduceAdd, Int.reduceNeg, Int.reduceEq, Int.reduceLT, Int.reduceLE]; try simp (disch := omega) only [decide_eq_true, decide_eq_false])) ?_
          refine wlk_skip ?_
          repeat (first | refine hn16 _ ?_ | refine he16 _ _ ?_ | refine hn15 _ ?_ | refine he15 _ _ ?_ | refine hn14 _ ?_ | refine he14 _ _ ?_ | refine hn13 _ ?_ | refine he13 _ ?_ | refine hf13 _ _ (by decide) ?_ | refine hn12 _ ?_ | refine he12 _ _ ?_ | refine hn11 _ ?_ | refine he11 _ _ ?_ | refine he10 _ _ ?_ | refine hn9 _ ?_ | refine he9 _ ?_ | refine hf9 _ _ (by decide) ?_ | refine hn8 _ ?_ | refine he8 _ _ ?_ | refine hn7 _ ?_ | refine he7 _ ?_ | refine hf7 _ _ (by decide) ?_ | refine hn6 _ ?_ | refine he6 _ _ ?_ | refine hn5 _ ?_ | refine he5 _ _ ?_)
          refine wlk_reg fun KY hKY => ?_
          simp only [go_sem, reduceIte, Nat.reduceEqDiff, Nat.reduceBEq, reduceCtorEq, Nat.reduceLT, Nat.reduceLeDiff, Nat.reduceAdd, Nat.reduceSub, Nat.reduceMul, Nat.reduceDiv, Int.reduceAdd, Int.reduceNeg, Int.reduceEq, Int.reduceLT, Int.reduceLE, c_garlandlaw09_WalkPieces_r21, incS (show k < 4611686018427387904 by omega)]
          refine hKY _ ?_
          repeat (first | refine hn16 _ ?_ | refine he16 _ _ ?_ | refine hn15 _ ?_ | refine he15 _ _ ?_ | refine hn14 _ ?_ | refine he14 _ _ ?_ | refine hn13 _ ?_ | refine he13 _ ?_ | refine hf13 _ _ (by decide) ?_ | refine hn12 _ ?_ | refine he12 _ _ ?_ | refine hn11 _ ?_ | refine he11 _ _ ?_)
          refine hn10 _ (k + 1) (P.length - (k + 1)) (by omega) (by first | (simp only [go_sem, reduceIte, Nat.reduceEqDiff, Nat.reduceBEq, reduceCtorEq, Nat.reduceLT, Nat.reduceLeDiff, Nat.reduceAdd, Nat.reduceSub, Nat.reduceMul, Nat.reduceDiv, Int.reduceAdd, Int.reduceNeg, Int.reduceEq, Int.reduceLT, Int.reduceLE, updAll_cons, updAll_nil]; done) | with_reducible rfl) ?_
          exact ⟨hk2, rfl⟩
        | false =>
          refine wlk_sreg fun KY hKY => ?_
          simp only [go_sem, reduceIte, Nat.reduceEqDiff, Nat.reduceBEq, reduceCtorEq, Nat.reduceLT, Nat.reduceLeDiff, Nat.reduceAdd, Nat.reduceSub, Nat.reduceMul, Nat.reduceDiv, Int.reduceAdd, Int.reduceNeg, Int.reduceEq, Int.reduceLT, Int.reduceLE, c_garlandlaw09_WalkPieces_r17, hgY, hvY, ints_len, ge_iff_le, hfY]
          refine hKY _ ?_
          refine wlk_cond0 (by first | rfl | (simp only [go_sem, reduceIte, Nat.reduceEqDiff, Nat.reduceBEq, reduceCtorEq, Nat.reduceLT, Nat.reduceLeDiff, Nat.reduceAdd, Nat.reduceSub, Nat.reduceMul, Nat.reduceDiv, Int.reduceAdd, Int.reduceNeg, Int.reduceEq, Int.reduceLT, Int.reduceLE]; try simp (disch := omega) only [decide_eq_true, decide_eq_false])) ?_
          have hcY : cnt (ge0 Y) (P.take (k + 1)) = cnt (ge0 Y) (P.take k) := hcY
          refine wlk_skip ?_
          repeat (first | refine hn16 _ ?_ | refine he16 _ _ ?_ | refine hn15 _ ?_ | refine he15 _ _ ?_ | refine hn14 _ ?_ | refine he14 _ _ ?_ | refine hn13 _ ?_ | refine he13 _ ?_ | refine hf13 _ _ (by decide) ?_ | refine hn12 _ ?_ | refine he12 _ _ ?_ | refine hn11 _ ?_ | refine he11 _ _ ?_ | refine he10 _ _ ?_ | refine hn9 _ ?_ | refine he9 _ ?_ | refine hf9 _ _ (by decide) ?_ | refine hn8 _ ?_ | refine he8 _ _ ?_ | refine hn7 _ ?_ | refine he7 _ ?_ | refine hf7 _ _ (by decide) ?_ | refine hn6 _ ?_ | refine he6 _ _ ?_ | refine hn5 _ ?_ | refine he5 _ _ ?_)
          rw [← hcY]
          refine wlk_sdraw fun KY hKY => ?_
          simp only [go_sem, reduceIte, Nat.reduceEqDiff, Nat.reduceBEq, reduceCtorEq, Nat.reduceLT, Nat.reduceLeDiff, Nat.reduceAdd, Nat.reduceSub, Nat.reduceMul, Nat.reduceDiv, Int.reduceAdd, Int.reduceNeg, Int.reduceEq, Int.reduceLT, Int.reduceLE, c_garlandlaw09_WalkPieces_r19, hgX, hgY, hvX, hvY, ints_len, ge_iff_le, hne, hfX, hfY, rowsI_len, hi2, hrow]
          refine call_view rfl (by simp only [go_sem, reduceIte, Nat.reduceEqDiff, Nat.reduceBEq, reduceCtorEq, Nat.reduceLT, Nat.reduceLeDiff, Nat.reduceAdd, Nat.reduceSub, Nat.reduceMul, Nat.reduceDiv, Int.reduceAdd, Int.reduceNeg, Int.reduceEq, Int.reduceLT, Int.reduceLE] <;> rfl) ((hiX rfl).mono ?_)
          rintro rr hh ⟨rfl, rfl⟩
          refine ⟨rfl, rfl, rfl, ?_⟩
          simp only [go_sem, reduceIte, Nat.reduceEqDiff, Nat.reduceBEq, reduceCtorEq, Nat.reduceLT, Nat.reduceLeDiff, Nat.reduceAdd, Nat.reduceSub, Nat.reduceMul, Nat.reduceDiv, Int.reduceAdd, Int.reduceNeg, Int.reduceEq, Int.reduceLT, Int.reduceLE, hgY, hvY, ints_len, ge_iff_le, hfY, rowsI_len, hi2, hrow]
          refine hKY _ ?_
          refine wlk_cond0 (by first | rfl | (simp only [go_sem, reduceIte, Nat.reduceEqDiff, Nat.reduceBEq, reduceCtorEq, Nat.reduceLT, Nat.reduceLeDiff, Nat.reduceAdd, Nat.reduceSub, Nat.reduceMul, Nat.reduceDiv, Int.reduceAdd, Int.reduceNeg, Int.reduceEq, Int.reduceLT, Int.reduceLE]; try simp (disch := omega) only [decide_eq_true, decide_eq_false])) ?_
          refine wlk_skip ?_
          repeat (first | refine hn16 _ ?_ | refine he16 _ _ ?_ | refine hn15 _ ?_ | refine he15 _ _ ?_ | refine hn14 _ ?_ | refine he14 _ _ ?_ | refine hn13 _ ?_ | refine he13 _ ?_ | refine hf13 _ _ (by decide) ?_ | refine hn12 _ ?_ | refine he12 _ _ ?_ | refine hn11 _ ?_ | refine he11 _ _ ?_ | refine he10 _ _ ?_ | refine hn9 _ ?_ | refine he9 _ ?_ | refine hf9 _ _ (by decide) ?_ | refine hn8 _ ?_ | refine he8 _ _ ?_ | refine hn7 _ ?_ | refine he7 _ ?_ | refine hf7 _ _ (by decide) ?_ | refine hn6 _ ?_ | refine he6 _ _ ?_ | refine hn5 _ ?_ | refine he5 _ _ ?_)
          refine wlk_reg fun KY hKY => ?_
          simp only [go_sem, reduceIte, Nat.reduceEqDiff, Nat.reduceBEq, reduceCtorEq, Nat.reduceLT, Nat.reduceLeDiff, Nat.reduceAdd, Nat.reduceSub, Nat.reduceMul, Nat.reduceDiv, Int.reduceAdd, Int.reduceNeg, Int.reduceEq, Int.reduceLT, Int.reduceLE, c_garlandlaw09_WalkPieces_r21, incS (show k < 4611686018427387904 by omega)]
          refine hKY _ ?_
          repeat (first | refine hn16 _ ?_ | refine he16 _ _ ?_ | refine hn15 _ ?_ | refine he15 _ _ ?_ | refine hn14 _ ?_ | refine he14 _ _ ?_ | refine hn13 _ ?_ | refine he13 _ ?_ | refine hf13 _ _ (by decide) ?_ | refine hn12 _ ?_ | refine he12 _ _ ?_ | refine hn11 _ ?_ | refine he11 _ _ ?_)
          refine hn10 _ (k + 1) (P.length - (k + 1)) (by omega) (by first | (simp only [go_sem, reduceIte, Nat.reduceEqDiff, Nat.reduceBEq, reduceCtorEq, Nat.reduceLT, Nat.reduceLeDiff, Nat.reduceAdd, Nat.reduceSub, Nat.reduceMul, Nat.reduceDiv, Int.reduceAdd, Int.reduceNeg, Int.reduceEq, Int.reduceLT, Int.reduceLE, updAll_cons, updAll_nil]; done) | with_reducible rfl) ?_
          exact ⟨hk2, rfl⟩
      | false =>
        refine wlk_sreg fun KY hKY => ?_
        simp only [go_sem, reduceIte, Nat.reduceEqDiff, Nat.reduceBEq, reduceCtorEq, Nat.reduceLT, Nat.reduceLeDiff, Nat.reduceAdd, Nat.reduceSub, Nat.reduceMul, Nat.reduceDiv, Int.reduceAdd, Int.reduceNeg, Int.reduceEq, Int.reduceLT, Int.reduceLE, c_garlandlaw09_WalkPieces_r15, hgX, hvX, ints_len, ge_iff_le, hfX]
        refine hKY _ ?_
        refine wlk_cond0 (by first | rfl | (simp only [go_sem, reduceIte, Nat.reduceEqDiff, Nat.reduceBEq, reduceCtorEq, Nat.reduceLT, Nat.reduceLeDiff, Nat.reduceAdd, Nat.reduceSub, Nat.reduceMul, Nat.reduceDiv, Int.reduceAdd, Int.reduceNeg, Int.reduceEq, Int.reduceLT, Int.reduceLE]; try simp (disch := omega) only [decide_eq_true, decide_eq_false])) ?_
        have hcX : cnt (ge0 X) (P.take (k + 1)) = cnt (ge0 X) (P.take k) := hcX
        refine wlk_skip ?_
        repeat (first | refine hn15 _ ?_ | refine he15 _ _ ?_ | refine hn14 _ ?_ | refine he14 _ _ ?_ | refine hn13 _ ?_ | refine he13 _ ?_ | refine hf13 _ _ (by decide) ?_ | refine hn12 _ ?_ | refine he12 _ _ ?_ | refine hn11 _ ?_ | refine he11 _ _ ?_ | refine he10 _ _ ?_ | refine hn9 _ ?_ | refine he9 _ ?_ | refine hf9 _ _ (by decide) ?_ | refine hn8 _ ?_ | refine he8 _ _ ?_ | refine hn7 _ ?_ | refine he7 _ ?_ | refine hf7 _ _ (by decide) ?_ | refine hn6 _ ?_ | refine he6 _ _ ?_ | refine hn5 _ ?_ | refine he5 _ _ ?_)
        rw [← hcX]
        refine wlk_seq fun X17 hn17 he17 hr17 => ?_
        cases gy with
        | true =>
          refine wlk_sreg fun KY hKY => ?_
          simp only [go_sem, reduceIte, Nat.reduceEqDiff, Nat.reduceBEq, reduceCtorEq, Nat.reduceLT, Nat.reduceLeDiff, Nat.reduceAdd, Nat.reduceSub, Nat.reduceMul, Nat.reduceDiv, Int.reduceAdd, Int.reduceNeg, Int.reduceEq, Int.reduceLT, Int.reduceLE, c_garlandlaw09_WalkPieces_r17, hgY, hvY, ints_len, ge_iff_le, hfY]
          refine hKY _ ?_
          refine wlk_cond1 (by first | rfl | (simp only [go_sem, reduceIte, Nat.reduceEqDiff, Nat.reduceBEq, reduceCtorEq, Nat.reduceLT, Nat.reduceLeDiff, Nat.reduceAdd, Nat.reduceSub, Nat.reduceMul, Nat.reduceDiv, Int.reduceAdd, Int.reduceNeg, Int.reduceEq, Int.reduceLT, Int.reduceLE]; try simp (disch := omega) only [decide_eq_true, decide_eq_false])) ?_
          have hcY : cnt (ge0 Y) (P.take (k + 1)) = cnt (ge0 Y) (P.take k) + 1 := hcY
          refine wlk_reg fun KY hKY => ?_
          simp only [go_sem, reduceIte, Nat.reduceEqDiff, Nat.reduceBEq, reduceCtorEq, Nat.reduceLT, Nat.reduceLeDiff, Nat.reduceAdd, Nat.reduceSub, Nat.reduceMul, Nat.reduceDiv, Int.reduceAdd, Int.reduceNeg, Int.reduceEq, Int.reduceLT, Int.reduceLE, c_garlandlaw09_WalkPieces_r18, incS (show cnt (ge0 Y) (P.take k) < 4611686018427387904 by omega), ← hcY]
          refine hKY _ ?_
          repeat (first | refine hn17 _ ?_ | refine he17 _ _ ?_ | refine hn15 _ ?_ | refine he15 _ _ ?_ | refine hn14 _ ?_ | refine he14 _ _ ?_ | refine hn13 _ ?_ | refine he13 _ ?_ | refine hf13 _ _ (by decide) ?_ | refine hn12 _ ?_ | refine he12 _ _ ?_ | refine hn11 _ ?_ | refine he11 _ _ ?_ | refine he10 _ _ ?_ | refine hn9 _ ?_ | refine he9 _ ?_ | refine hf9 _ _ (by decide) ?_ | refine hn8 _ ?_ | refine he8 _ _ ?_ | refine hn7 _ ?_ | refine he7 _ ?_ | refine hf7 _ _ (by decide) ?_ | refine hn6 _ ?_ | refine he6 _ _ ?_ | refine hn5 _ ?_ | refine he5 _ _ ?_)
          refine wlk_sdraw fun KY hKY => ?_
          simp only [go_sem, reduceIte, Nat.reduceEqDiff, Nat.reduceBEq, reduceCtorEq, Nat.reduceLT, Nat.reduceLeDiff, Nat.reduceAdd, Nat.reduceSub, Nat.reduceMul, Nat.reduceDiv, Int.reduceAdd, Int.reduceNeg, Int.reduceEq, Int.reduceLT, Int.reduceLE, c_garlandlaw09_WalkPieces_r19, hgX, hgY, hvX, hvY, ints_len, ge_iff_le, hne, hfX, hfY, rowsI_len, hi2, hrow]
          refine call_view rfl (by simp only [go_sem, reduceIte, Nat.reduceEqDiff, Nat.reduceBEq, reduceCtorEq, Nat.reduceLT, Nat.reduceLeDiff, Nat.reduceAdd, Nat.reduceSub, Nat.reduceMul, Nat.reduceDiv, Int.reduceAdd, Int.reduceNeg, Int.reduceEq, Int.reduceLT, Int.reduceLE] <;> rfl) ((hiY rfl).mono ?_)
          rintro rr hh ⟨rfl, rfl⟩
          refine ⟨rfl, rfl, rfl, ?_⟩
          simp only [go_sem, reduceIte, Nat.reduceEqDiff, Nat.reduceBEq, reduceCtorEq, Nat.reduceLT, Nat.reduceLeDiff, Nat.reduceAdd, Nat.reduceSub, Nat.reduceMul, Nat.reduceDiv, Int.reduceAdd, Int.reduceNeg, Int.reduceEq, Int.reduceLT, Int.reduceLE]
          refine hKY _ ?_
          refine wlk_cond0 (by first | rfl | (simp only [go_sem, reduceIte, Nat.reduceEqDiff, Nat.reduceBEq, reduceCtorEq, Nat.reduceLT, Nat.reduceLeDiff, Nat.reduceAdd, Nat.reduceSub, Nat.reduceMul, Nat.reduceDiv, Int.reduceAdd, Int.reduceNeg, Int.reduceEq, Int.reduceLT, Int.reduceLE]; try simp (disch := omega) only [decide_eq_true, decide_eq_false])) ?_
          refine wlk_skip ?_
          repeat (first | refine hn17 _ ?_ | refine he17 _ _ ?_ | refine hn15 _ ?_ | refine he15 _ _ ?_ | refine hn14 _ ?_ | refine he14 _ _ ?_ | refine hn13 _ ?_ | refine he13 _ ?_ | refine hf13 _ _ (by decide) ?_ | refine hn12 _ ?_ | refine he12 _ _ ?_ | refine hn11 _ ?_ | refine he11 _ _ ?_ | refine he10 _ _ ?_ | refine hn9 _ ?_ | refine he9 _ ?_ | refine hf9 _ _ (by decide) ?_ | refine hn8 _ ?_ | refine he8 _ _ ?_ | refine hn7 _ ?_ | refine he7 _ ?_ | refine hf7 _ _ (by decide) ?_ | refine hn6 _ ?_ | refine he6 _ _ ?_ | refine hn5 _ ?_ | refine he5 _ _ ?_)
          refine wlk_reg fun KY hKY => ?_
          simp only [go_sem, reduceIte, Nat.reduceEqDiff, Nat.reduceBEq, reduceCtorEq, Nat.reduceLT, Nat.reduceLeDiff, Nat.reduceAdd, Nat.reduceSub, Nat.reduceMul, Nat.reduceDiv, Int.reduceAdd, Int.reduceNeg, Int.reduceEq, Int.reduceLT, Int.reduceLE, c_garlandlaw09_WalkPieces_r21, incS (show k < 4611686018427387904 by omega)]
          refine hKY _ ?_
          repeat (first | refine hn17 _ ?_ | refine he17 _ _ ?_ | refine hn15 _ ?_ | refine he15 _ _ ?_ | refine hn14 _ ?_ | refine he14 _ _ ?_ | refine hn13 _ ?_ | refine he13 _ ?_ | refine hf13 _ _ (by decide) ?_ | refine hn12 _ ?_ | refine he12 _ _ ?_ | refine hn11 _ ?_ | refine he11 _ _ ?_)
          refine hn10 _ (k + 1) (P.length - (k + 1)) (by omega) (by first | (simp only [go_sem, reduceIte, Nat.reduceEqDiff, Nat.reduceBEq, reduceCtorEq, Nat.reduceLT, Nat.reduceLeDiff, Nat.reduceAdd, Nat.reduceSub, Nat.reduceMul, Nat.reduceDiv, Int.reduceAdd, Int.reduceNeg, Int.reduceEq, Int.reduceLT, Int.reduceLE, updAll_cons, updAll_nil]; done) | with_reducible rfl) ?_
          exact ⟨hk2, rfl⟩
        | false =>
          refine wlk_sreg fun KY hKY => ?_
          simp only [go_sem, reduceIte, Nat.reduceEqDiff, Nat.reduceBEq, reduceCtorEq, Nat.reduceLT, Nat.reduceLeDiff, Nat.reduceAdd, Nat.reduceSub, Nat.reduceMul, Nat.reduceDiv, Int.reduceAdd, Int.reduceNeg, Int.reduceEq, Int.reduceLT, Int.reduceLE, c_garlandlaw09_WalkPieces_r17, hgY, hvY, ints_len, ge_iff_le, hfY]
          refine hKY _ ?_
          refine wlk_cond0 (by first | rfl | (simp only [go_sem, reduceIte, Nat.reduceEqDiff, Nat.reduceBEq, reduceCtorEq, Nat.reduceLT, Nat.reduceLeDiff, Nat.reduceAdd, Nat.reduceSub, Nat.reduceMul, Nat.reduceDiv, Int.reduceAdd, Int.reduceNeg, Int.reduceEq, Int.reduceLT, Int.reduceLE]; try simp (disch := omega) only [decide_eq_true, decide_eq_false])) ?_
          have hcY : cnt (ge0 Y) (P.take (k + 1)) = cnt (ge0 Y) (P.take k) := hcY
          refine wlk_skip ?_
          repeat (first | refine hn17 _ ?_ | refine he17 _ _ ?_ | refine hn15 _ ?_ | refine he15 _ _ ?_ | refine hn14 _ ?_ | refine he14 _ _ ?_ | refine hn13 _ ?_ | refine he13 _ ?_ | refine hf13 _ _ (by decide) ?_ | refine hn12 _ ?_ | refine he12 _ _ ?_ | refine hn11 _ ?_ | refine he11 _ _ ?_ | refine he10 _ _ ?_ | refine hn9 _ ?_ | refine he9 _ ?_ | refine hf9 _ _ (by decide) ?_ | refine hn8 _ ?_ | refine he8 _ _ ?_ | refine hn7 _ ?_ | refine he7 _ ?_ | refine hf7 _ _ (by decide) ?_ | refine hn6 _ ?_ | refine he6 _ _ ?_ | refine hn5 _ ?_ | refine he5 _ _ ?_)
          rw [← hcY]
          refine wlk_sdraw fun KY hKY => ?_
          simp only [go_sem, reduceIte, Nat.reduceEqDiff, Nat.reduceBEq, reduceCtorEq, Nat.reduceLT, Nat.reduceLeDiff, Nat.reduceAdd, Nat.reduceSub, Nat.reduceMul, Nat.reduceDiv, Int.reduceAdd, Int.reduceNeg, Int.reduceEq, Int.reduceLT, Int.reduceLE, c_garlandlaw09_WalkPieces_r19, hgX, hgY, hvX, hvY, ints_len, ge_iff_le, hne, hfX, hfY, rowsI_len, hi2, hrow]
          refine hKY _ ?_
          refine wlk_cond0 (by first | rfl | (simp only [go_sem, reduceIte, Nat.reduceEqDiff, Nat.reduceBEq, reduceCtorEq, Nat.reduceLT, Nat.reduceLeDiff, Nat.reduceAdd, Nat.reduceSub, Nat.reduceMul, Nat.reduceDiv, Int.reduceAdd, Int.reduceNeg, Int.reduceEq, Int.reduceLT, Int.reduceLE]; try simp (disch := omega) only [decide_eq_true, decide_eq_false])) ?_
          refine wlk_skip ?_
          repeat (first | refine hn17 _ ?_ | refine he17 _ _ ?_ | refine hn15 _ ?_ | refine he15 _ _ ?_ | refine hn14 _ ?_ | refine he14 _ _ ?_ | refine hn13 _ ?_ | refine he13 _ ?_ | refine hf13 _ _ (by decide) ?_ | refine hn12 _ ?_ | refine he12 _ _ ?_ | refine hn11 _ ?_ | refine he11 _ _ ?_ | refine he10 _ _ ?_ | refine hn9 _ ?_ | refine he9 _ ?_ | refine hf9 _ _ (by decide) ?_ | refine hn8 _ ?_ | refine he8 _ _ ?_ | refine hn7 _ ?_ | refine he7 _ ?_ | refine hf7 _ _ (by decide) ?_ | refine hn6 _ ?_ | refine he6 _ _ ?_ | refine hn5 _ ?_ | refine he5 _ _ ?_)
          refine wlk_reg fun KY hKY => ?_
          simp only [go_sem, reduceIte, Nat.reduceEqDiff, Nat.reduceBEq, reduceCtorEq, Nat.reduceLT, Nat.reduceLeDiff, Nat.reduceAdd, Nat.reduceSub, Nat.reduceMul, Nat.reduceDiv, Int.reduceAdd, Int.reduceNeg, Int.reduceEq, Int.reduceLT, Int.reduceLE, c_garlandlaw09_WalkPieces_r21, incS (show k < 4611686018427387904 by omega)]
          refine hKY _ ?_
          repeat (first | refine hn17 _ ?_ | refine he17 _ _ ?_ | refine hn15 _ ?_ | refine he15 _ _ ?_ | refine hn14 _ ?_ | refine he14 _ _ ?_ | refine hn13 _ ?_ | refine he13 _ ?_ | refine hf13 _ _ (by decide) ?_ | refine hn12 _ ?_ | refine he12 _ _ ?_ | refine hn11 _ ?_ | refine he11 _ _ ?_)
          refine hn10 _ (k + 1) (P.length - (k + 1)) (by omega) (by first | (simp only [go_sem, reduceIte, Nat.reduceEqDiff, Nat.reduceBEq, reduceCtorEq, Nat.reduceLT, Nat.reduceLeDiff, Nat.reduceAdd, Nat.reduceSub, Nat.reduceMul, Nat.reduceDiv, Int.reduceAdd, Int.reduceNeg, Int.reduceEq, Int.reduceLT, Int.reduceLE, updAll_cons, updAll_nil]; done) | with_reducible rfl) ?_
          exact ⟨hk2, rfl⟩
    obtain rfl : P.length = k := by omega
    have hdz : decide ((P.length : Int) < (P.length : Int)) = false := decide_eq_false (by omega)
    rw [List.take_length]
    refine wlk_seq fun X18 hn18 he18 hr18 => ?_
    refine wlk_sreg fun KY hKY => ?_
    simp only [go_sem, reduceIte, Nat.reduceEqDiff, Nat.reduceBEq, reduceCtorEq, Nat.reduceLT, Nat.reduceLeDiff, Nat.reduceAdd, Nat.reduceSub, Nat.reduceMul, Nat.reduceDiv, Int.reduceAdd, Int.reduceNeg, Int.reduceEq, Int.reduceLT, Int.reduceLE, c_garlandlaw09_WalkPieces_r11, rowsI_len, hi2, hrow, nats_len, hdz]
    refine hKY _ ?_
    refine wlk_cond0 (by first | rfl | (simp only [go_sem, reduceIte, Nat.reduceEqDiff, Nat.reduceBEq, reduceCtorEq, Nat.reduceLT, Nat.reduceLeDiff, Nat.reduceAdd, Nat.reduceSub, Nat.reduceMul, Nat.reduceDiv, Int.reduceAdd, Int.reduceNeg, Int.reduceEq, Int.reduceLT, Int.reduceLE]; try simp (disch := omega) only [decide_eq_true, decide_eq_false])) ?_
    refine wlk_exit ?_
    repeat (first | refine hn18 _ ?_ | refine he18 _ _ ?_ | refine he10 _ _ ?_ | refine hn9 _ ?_ | refine he9 _ ?_ | refine hf9 _ _ (by decide) ?_ | refine hn8 _ ?_ | refine he8 _ _ ?_ | refine hn7 _ ?_ | refine he7 _ ?_ | refine hf7 _ _ (by decide) ?_ | refine hn6 _ ?_ | refine he6 _ _ ?_ | refine hn5 _ ?_ | refine he5 _ _ ?_ | refine he4 _ _ ?_ | refine hn3 _ ?_ | refine he3 _ ?_ | refine hf3 _ _ (by decide) ?_ | refine hn2 _ ?_ | refine he2 _ _ ?_ | refine hn1 _ ?_ | refine he1 _ _ ?_)
    have hPp : 2 ≤ P.length := W.two
    have hcl1 : cnt (ge0 X) P ≤ P.length := List.length_filter_le _ _
    have hcl2 : cnt (ge0 Y) P ≤ P.length := List.length_filter_le _ _
    have hle1 := W.le1
    have hle2 := W.le2
    have hmo : moreB X Y P = decide (cnt (ge0 Y) P = cnt (ge0 X) P + 2) := rfl
    generalize cnt (ge0 X) P = cx at hcl1 hle1 hle2 hmo
    generalize cnt (ge0 Y) P = cy at hcl2 hle1 hle2 hmo
    have hw1 : IntKind.i64.wrap ((cx : Int) - (cy : Int)) = (cx : Int) - (cy : Int) := IntWalk.i64_in _ (by omega)
    have hw2 : IntKind.i64.wrap ((cy : Int) - (cx : Int)) = (cy : Int) - (cx : Int) := IntWalk.i64_in _ (by omega)
    have hk1 : decide (2 < (cx : Int) - (cy : Int)) = false := decide_eq_false (by omega)
    have hk2 : decide (2 < (cy : Int) - (cx : Int)) = false := decide_eq_false (by omega)
    have hk3 : decide ((P.length : Int) < 2) = false := decide_eq_false (by omega)
    refine wlk_seq fun X19 hn19 he19 hr19 => ?_
    refine wlk_sreg fun KY hKY => ?_
    simp only [go_sem, reduceIte, Nat.reduceEqDiff, Nat.reduceBEq, reduceCtorEq, Nat.reduceLT, Nat.reduceLeDiff, Nat.reduceAdd, Nat.reduceSub, Nat.reduceMul, Nat.reduceDiv, Int.reduceAdd, Int.reduceNeg, Int.reduceEq, Int.reduceLT, Int.reduceLE, c_garlandlaw09_WalkPieces_r22, hw1, hw2, gt_iff_lt, hk1, hk2, rowsI_len, hi2, hrow, nats_len, hk3]
    refine hKY _ ?_
    refine wlk_cond0 (by first | rfl | (simp only [go_sem, reduceIte, Nat.reduceEqDiff, Nat.reduceBEq, reduceCtorEq, Nat.reduceLT, Nat.reduceLeDiff, Nat.reduceAdd, Nat.reduceSub, Nat.reduceMul, Nat.reduceDiv, Int.reduceAdd, Int.reduceNeg, Int.reduceEq, Int.reduceLT, Int.reduceLE]; try simp (disch := omega) only [decide_eq_true, decide_eq_false])) ?_
    refine wlk_skip ?_
    repeat (first | refine hn19 _ ?_ | refine he19 _ _ ?_ | refine hn18 _ ?_ | refine he18 _ _ ?_ | refine he10 _ _ ?_ | refine hn9 _ ?_ | refine he9 _ ?_ | refine hf9 _ _ (by decide) ?_ | refine hn8 _ ?_ | refine he8 _ _ ?_ | refine hn7 _ ?_ | refine he7 _ ?_ | refine hf7 _ _ (by decide) ?_ | refine hn6 _ ?_ | refine he6 _ _ ?_ | refine hn5 _ ?_ | refine he5 _ _ ?_)
    have hfl : ((x.take i).filter (moreB X Y)).length ≤ i := Nat.le_trans (List.length_filter_le _ _) (by rw [List.length_take]; omega)
    cases hm : moreB X Y P with
    | true =>
      have hk4 : decide ((cy : Int) - (cx : Int) = 2) = true := decide_eq_true (by have := of_decide_eq_true (hmo.symm.trans hm); omega)
      have hmt : ((x.take (i + 1)).filter (moreB X Y)).length = ((x.take i).filter (moreB X Y)).length + 1 := by rw [hmt, hm]; rfl
      refine wlk_sreg fun KY hKY => ?_
      simp only [go_sem, reduceIte, Nat.reduceEqDiff, Nat.reduceBEq, reduceCtorEq, Nat.reduceLT, Nat.reduceLeDiff, Nat.reduceAdd, Nat.reduceSub, Nat.reduceMul, Nat.reduceDiv, Int.reduceAdd, Int.reduceNeg, Int.reduceEq, Int.reduceLT, Int.reduceLE, c_garlandlaw09_WalkPieces_r24, hw2, hk4]
      refine hKY _ ?_
      refine wlk_cond1 (by first | rfl | (simp only [go_sem, reduceIte, Nat.reduceEqDiff, Nat.reduceBEq, reduceCtorEq, Nat.reduceLT, Nat.reduceLeDiff, Nat.reduceAdd, Nat.reduceSub, Nat.reduceMul, Nat.reduceDiv, Int.reduceAdd, Int.reduceNeg, Int.reduceEq, Int.reduceLT, Int.reduceLE]; try simp (disch := omega) only [decide_eq_true, decide_eq_false])) ?_
      refine wlk_reg fun KY hKY => ?_
      simp only [go_sem, reduceIte, Nat.reduceEqDiff, Nat.reduceBEq, reduceCtorEq, Nat.reduceLT, Nat.reduceLeDiff, Nat.reduceAdd, Nat.reduceSub, Nat.reduceMul, Nat.reduceDiv, Int.reduceAdd, Int.reduceNeg, Int.reduceEq, Int.reduceLT, Int.reduceLE, c_garlandlaw09_WalkPieces_r25, incS (show ((x.take i).filter (moreB X Y)).length < 4611686018427387904 by omega), ← hmt]
      refine hKY _ ?_
      repeat (first | refine hn19 _ ?_ | refine he19 _ _ ?_ | refine hn18 _ ?_ | refine he18 _ _ ?_ | refine he10 _ _ ?_ | refine hn9 _ ?_ | refine he9 _ ?_ | refine hf9 _ _ (by decide) ?_ | refine hn8 _ ?_ | refine he8 _ _ ?_ | refine hn7 _ ?_ | refine he7 _ ?_ | refine hf7 _ _ (by decide) ?_ | refine hn6 _ ?_ | refine he6 _ _ ?_ | refine hn5 _ ?_ | refine he5 _ _ ?_)
      refine wlk_reg fun KY hKY => ?_
      simp only [go_sem, reduceIte, Nat.reduceEqDiff, Nat.reduceBEq, reduceCtorEq, Nat.reduceLT, Nat.reduceLeDiff, Nat.reduceAdd, Nat.reduceSub, Nat.reduceMul, Nat.reduceDiv, Int.reduceAdd, Int.reduceNeg, Int.reduceEq, Int.reduceLT, Int.reduceLE, c_garlandlaw09_WalkPieces_r26, incS (show i < 4611686018427387904 by omega)]
      refine hKY _ ?_
      repeat (first | refine hn19 _ ?_ | refine he19 _ _ ?_ | refine hn18 _ ?_ | refine he18 _ _ ?_ | refine he10 _ _ ?_ | refine hn9 _ ?_ | refine he9 _ ?_ | refine hf9 _ _ (by decide) ?_ | refine hn8 _ ?_ | refine he8 _ _ ?_ | refine hn7 _ ?_ | refine he7 _ ?_ | refine hf7 _ _ (by decide) ?_ | refine hn6 _ ?_ | refine he6 _ _ ?_ | refine hn5 _ ?_ | refine he5 _ _ ?_)
      refine hn4 _ (i + 1) (x.length - (i + 1)) (by omega) (by first | (simp only [go_sem, reduceIte, Nat.reduceEqDiff, Nat.reduceBEq, reduceCtorEq, Nat.reduceLT, Nat.reduceLeDiff, Nat.reduceAdd, Nat.reduceSub, Nat.reduceMul, Nat.reduceDiv, Int.reduceAdd, Int.reduceNeg, Int.reduceEq, Int.reduceLT, Int.reduceLE, updAll_cons, updAll_nil]; done) | with_reducible rfl) ?_
      exact ⟨hi2, rfl⟩
    | false =>
      have hk4 : decide ((cy : Int) - (cx : Int) = 2) = false := decide_eq_false (by have := of_decide_eq_false (hmo.symm.trans hm); omega)
      have hmt : ((x.take (i + 1)).filter (moreB X Y)).length = ((x.take i).filter (moreB X Y)).length := by rw [hmt, hm]; rfl
      refine wlk_sreg fun KY hKY => ?_
      simp only [go_sem, reduceIte, Nat.reduceEqDiff, Nat.reduceBEq, reduceCtorEq, Nat.reduceLT, Nat.reduceLeDiff, Nat.reduceAdd, Nat.reduceSub, Nat.reduceMul, Nat.reduceDiv, Int.reduceAdd, Int.reduceNeg, Int.reduceEq, Int.reduceLT, Int.reduceLE, c_garlandlaw09_WalkPieces_r24, hw2, hk4]
      refine hKY _ ?_
      refine wlk_cond0 (by first | rfl | (simp only [go_sem, reduceIte, Nat.reduceEqDiff, Nat.reduceBEq, reduceCtorEq, Nat.reduceLT, Nat.reduceLeDiff, Nat.reduceAdd, Nat.reduceSub, Nat.reduceMul, Nat.reduceDiv, Int.reduceAdd, Int.reduceNeg, Int.reduceEq, Int.reduceLT, Int.reduceLE]; try simp (disch := omega) only [decide_eq_true, decide_eq_false])) ?_
      refine wlk_skip ?_
      repeat (first | refine hn19 _ ?_ | refine he19 _ _ ?_ | refine hn18 _ ?_ | refine he18 _ _ ?_ | refine he10 _ _ ?_ | refine hn9 _ ?_ | refine he9 _ ?_ | refine hf9 _ _ (by decide) ?_ | refine hn8 _ ?_ | refine he8 _ _ ?_ | refine hn7 _ ?_ | refine he7 _ ?_ | refine hf7 _ _ (by decide) ?_ | refine hn6 _ ?_ | refine he6 _ _ ?_ | refine hn5 _ ?_ | refine he5 _ _ ?_)
      rw [← hmt]
      refine wlk_reg fun KY hKY => ?_
      simp only [go_sem, reduceIte, Nat.reduceEqDiff, Nat.reduceBEq, reduceCtorEq, Nat.reduceLT, Nat.reduceLeDiff, Nat.reduceAdd, Nat.reduceSub, Nat.reduceMul, Nat.reduceDiv, Int.reduceAdd, Int.reduceNeg, Int.reduceEq, Int.reduceLT, Int.reduceLE, c_garlandlaw09_WalkPieces_r26, incS (show i < 4611686018427387904 by omega)]
      refine hKY _ ?_
      repeat (first | refine hn19 _ ?_ | refine he19 _ _ ?_ | refine hn18 _ ?_ | refine he18 _ _ ?_ | refine he10 _ _ ?_ | refine hn9 _ ?_ | refine he9 _ ?_ | refine hf9 _ _ (by decide) ?_ | refine hn8 _ ?_ | refine he8 _ _ ?_ | refine hn7 _ ?_ | refine he7 _ ?_ | refine hf7 _ _ (by decide) ?_ | refine hn6 _ ?_ | refine he6 _ _ ?_ | refine hn5 _ ?_ | refine he5 _ _ ?_)
      refine hn4 _ (i + 1) (x.length - (i + 1)) (by omega) (by first | (simp only [go_sem, reduceIte, Nat.reduceEqDiff, Nat.reduceBEq, reduceCtorEq, Nat.reduceLT, Nat.reduceLeDiff, Nat.reduceAdd, Nat.reduceSub, Nat.reduceMul, Nat.reduceDiv, Int.reduceAdd, Int.reduceNeg, Int.reduceEq, Int.reduceLT, Int.reduceLE, updAll_cons, updAll_nil]; done) | with_reducible rfl) ?_
      exact ⟨hi2, rfl⟩
  obtain rfl : x.length = i := by omega
  have hdx : decide ((x.length : Int) < (x.length : Int)) = false := decide_eq_false (by omega)
  rw [List.take_length]
  refine wlk_seq fun X20 hn20 he20 hr20 => ?_
  refine wlk_sreg fun KY hKY => ?_
  simp only [go_sem, reduceIte, Nat.reduceEqDiff, Nat.reduceBEq, reduceCtorEq, Nat.reduceLT, Nat.reduceLeDiff, Nat.reduceAdd, Nat.reduceSub, Nat.reduceMul, Nat.reduceDiv, Int.reduceAdd, Int.reduceNeg, Int.reduceEq, Int.reduceLT, Int.reduceLE, c_garlandlaw09_WalkPieces_r8, rowsI_len, hdx]
  refine hKY _ ?_
  refine wlk_cond0 (by first | rfl | (simp only [go_sem, reduceIte, Nat.reduceEqDiff, Nat.reduceBEq, reduceCtorEq, Nat.reduceLT, Nat.reduceLeDiff, Nat.reduceAdd, Nat.reduceSub, Nat.reduceMul, Nat.reduceDiv, Int.reduceAdd, Int.reduceNeg, Int.reduceEq, Int.reduceLT, Int.reduceLE]; try simp (disch := omega) only [decide_eq_true, decide_eq_false])) ?_
  refine wlk_exit ?_
  repeat (first | refine hn20 _ ?_ | refine he20 _ _ ?_ | refine he4 _ _ ?_ | refine hn3 _ ?_ | refine he3 _ ?_ | refine hf3 _ _ (by decide) ?_ | refine hn2 _ ?_ | refine he2 _ _ ?_ | refine hn1 _ ?_ | refine he1 _ _ ?_)
  have hsX : (sel (upP X) X.length).length = cnt (upP X) (List.range N) := by rw [hXl]; rfl
  have hsY : (sel (upP Y) Y.length).length = cnt (upP Y) (List.range N) := by rw [hYl]; rfl
  have hsl1 := sel_len (upP X) X.length
  have hsl2 := sel_len (upP Y) Y.length
  rw [← hsX, ← hsY] at hall
  have hw3 : IntKind.i64.wrap (((sel (upP Y) Y.length).length : Int) - ((sel (upP X) X.length).length : Int)) = ((sel (upP Y) Y.length).length : Int) - ((sel (upP X) X.length).length : Int) := IntWalk.i64_in _ (by omega)
  have hk5 : decide (((sel (upP Y) Y.length).length : Int) - ((sel (upP X) X.length).length : Int) ≤ ((x.filter (moreB X Y)).length : Int)) = true := decide_eq_true (by omega)
  refine wlk_sreg fun KY hKY => ?_
  simp only [go_sem, reduceIte, Nat.reduceEqDiff, Nat.reduceBEq, reduceCtorEq, Nat.reduceLT, Nat.reduceLeDiff, Nat.reduceAdd, Nat.reduceSub, Nat.reduceMul, Nat.reduceDiv, Int.reduceAdd, Int.reduceNeg, Int.reduceEq, Int.reduceLT, Int.reduceLE, c_garlandlaw09_WalkPieces_r27]
  refine call_view rfl (by simp only [go_sem, reduceIte, Nat.reduceEqDiff, Nat.reduceBEq, reduceCtorEq, Nat.reduceLT, Nat.reduceLeDiff, Nat.reduceAdd, Nat.reduceSub, Nat.reduceMul, Nat.reduceDiv, Int.reduceAdd, Int.reduceNeg, Int.reduceEq, Int.reduceLT, Int.reduceLE] <;> rfl) ((r8size_ok Y (by omega)).mono ?_)
  rintro rr hh ⟨rfl, rfl⟩
  refine ⟨rfl, rfl, rfl, ?_⟩
  simp only [go_sem, reduceIte, Nat.reduceEqDiff, Nat.reduceBEq, reduceCtorEq, Nat.reduceLT, Nat.reduceLeDiff, Nat.reduceAdd, Nat.reduceSub, Nat.reduceMul, Nat.reduceDiv, Int.reduceAdd, Int.reduceNeg, Int.reduceEq, Int.reduceLT, Int.reduceLE]
  refine call_view rfl (by simp only [go_sem, reduceIte, Nat.reduceEqDiff, Nat.reduceBEq, reduceCtorEq, Nat.reduceLT, Nat.reduceLeDiff, Nat.reduceAdd, Nat.reduceSub, Nat.reduceMul, Nat.reduceDiv, Int.reduceAdd, Int.reduceNeg, Int.reduceEq, Int.reduceLT, Int.reduceLE] <;> rfl) ((r8size_ok X (by omega)).mono ?_)
  rintro rr hh ⟨rfl, rfl⟩
  refine ⟨rfl, rfl, rfl, ?_⟩
  simp only [go_sem, reduceIte, Nat.reduceEqDiff, Nat.reduceBEq, reduceCtorEq, Nat.reduceLT, Nat.reduceLeDiff, Nat.reduceAdd, Nat.reduceSub, Nat.reduceMul, Nat.reduceDiv, Int.reduceAdd, Int.reduceNeg, Int.reduceEq, Int.reduceLT, Int.reduceLE, hw3, ge_iff_le, hk5]
  refine hKY _ ?_
  refine wlk_ret ?_
  repeat (first | refine hr20 _ ?_ | refine hr4 _ ?_ | refine hr3 _ ?_ | refine hr2 _ ?_ | refine hr1 _ ?_)
  simp only [go_sem, reduceIte, Nat.reduceEqDiff, Nat.reduceBEq, reduceCtorEq, Nat.reduceLT, Nat.reduceLeDiff, Nat.reduceAdd, Nat.reduceSub, Nat.reduceMul, Nat.reduceDiv, Int.reduceAdd, Int.reduceNeg, Int.reduceEq, Int.reduceLT, Int.reduceLE]
end Go.Proofs.Ytoefhbfgmceikaa
namespace Go.Proofs.Ytoefhbfgmceikaa
open Go Go.Ga Go.Ga.Gl
theorem walkPieces_all (As : List AVal) (b : Nat) (h : SAs Try.prog Try.f7.params.toList As b) (hb : b ≤ 1048576) : ACalls Try.prog [] 7 As [] fun r _ => r = .sc (.bool true) := by
  rw [Try.params7] at h
  obtain ⟨A1, As1, c1, d1, rfl, rfl, h1, h⟩ := sas_cons h
  obtain ⟨A2, As2, c2, d2, rfl, rfl, h2, h⟩ := sas_cons h
  obtain ⟨A3, As3, c3, d3, rfl, rfl, h3, h⟩ := sas_cons h
  obtain ⟨A4, As4, c4, d4, rfl, rfl, h4, h⟩ := sas_cons h
  obtain rfl := sas_nil h
  obtain ⟨x1, rfl, w1⟩ := sa_int Try.underlying3 h1
  obtain ⟨x2, rfl, w2, e2⟩ := sa_ints Try.underlying25 Try.underlying3 (by kernel_rfl) h2
  obtain ⟨x3, rfl, w3, e3⟩ := sa_ints Try.underlying25 Try.underlying3 (by kernel_rfl) h3
  obtain ⟨x4, rfl, w4, e4⟩ := sa_ints Try.underlying25 Try.underlying3 (by kernel_rfl) h4
  exact (wpieces_ok x1 x2 x3 x4 (by omega) (by omega) (by omega)).mono fun _ _ h => h.1
end Go.Proofs.Ytoefhbfgmceikaa
namespace Go.Proofs.Ytoefhbfgmceikaa.walkPiecesend
open Go Go.Ga Go.ChangeShapes Go.WideShapes Go.ChangeAt Go.RowKit
theorem own : ownKnob Try.prog.godebug = none := by kernel_rfl
mutual
theorem bulk_at {H : Type} : ∀ d : DataW H, Rows.uptoBulk d = bulk d
  | .lit l => by cases l <;> simp [Rows.uptoBulk, bulk]
  | .nil => by simp [Rows.uptoBulk, bulk]
  | .ptr d => by simp [Rows.uptoBulk, bulk, bulk_at d]
  | .slice e s => by simp [Rows.uptoBulk, bulk, bulk_eq e, bulk_eq s]
  | .agg p => by simp [Rows.uptoBulk, bulk, bulk_eq p]
  | .iface _ d => by simp [Rows.uptoBulk, bulk, bulk_at d]
  | .map e => by simp [Rows.uptoBulk, bulk, bulk_es e]
  | .held _ => by simp [Rows.uptoBulk, bulk]
theorem bulk_eq {H : Type} : ∀ l : List (DataW H), Rows.uptoBulkAll l = bulkL l
  | [] => by simp [Rows.uptoBulkAll, bulkL]
  | d :: r => by simp [Rows.uptoBulkAll, bulkL, bulk_at d, bulk_eq r]
theorem bulk_es {H : Type} : ∀ l : List (Lit × DataW H), Rows.uptoBulkEntries l = bulkE l
  | [] => by simp [Rows.uptoBulkEntries, bulkE]
  | d :: r => by simp [Rows.uptoBulkEntries, bulkE, bulk_e d, bulk_es r]
theorem bulk_e {H : Type} : ∀ d : Lit × DataW H, Rows.uptoBulkEntry d = bulk1 d
  | (l, d) => by cases l <;> simp [Rows.uptoBulkEntry, bulk1, bulk_at d]
end
set_option maxRecDepth 100000 in
theorem plain : Plain Try.prog [3, 25] := plain_of (by kernel_rfl)
set_option maxRecDepth 100000 in
theorem contract (H : Type) (enc : TypeId × Value → H) (W : World) (base : Nat) (args : Array Value) (ds gs : List (DataW H)) (before : List MemPlace)
    (hval : ∀ (j : Nat) t v, Try.f7.params[j]? = some t → args[j]? = some v → Value.okWide Try.prog W .any base t v)
    (hW : DataW.Whole enc Try.prog Try.f7.params.toList Rows.walkPiecesSpec.vars false W args.toList ds gs before) (hk : Rows.uptoSmall H (ds ++ gs) = true) :
    Calls Try.prog 7 args W fun e W' => ∃ v, e = .returned v ∧ Rows.walkPiecesSpec.post enc Try.prog Try.f7 false true false false W args v W' := by
  have hW' := hW
  obtain ⟨p, q, hA, hV, rfl, hfz, hnd⟩ := hW
  obtain ⟨rfl, rfl⟩ := Go.Ga.trodVars_nil hV
  have hb : bulkL (ds ++ []) ≤ 1048576 := by rw [← bulk_eq]; exact of_decide_eq_true hk
  have r0 : DataW.TrodAll enc Try.prog W 0 (fun _ => true) true Try.f7.params.toList args.toList ds p := hA
  rw [Try.params7] at r0
  obtain ⟨v0, vs0, d0, ds0, p0, q0, hv0, rfl, rfl, h0, r1⟩ := trodAll_cons r0
  obtain ⟨v1, vs1, d1, ds1, p1, q1, hv1, rfl, rfl, h1, r2⟩ := trodAll_cons r1
  obtain ⟨v2, vs2, d2, ds2, p2, q2, hv2, rfl, rfl, h2, r3⟩ := trodAll_cons r2
  obtain ⟨v3, vs3, d3, ds3, p3, q3, hv3, rfl, rfl, h3, r4⟩ := trodAll_cons r3
  obtain ⟨rfl, rfl, rfl⟩ := trodAll_nil r4
  exact contract_true plain hval (by rw [Try.params7]; decide) hW' rfl rfl rfl rfl (tb := 4) (by kernel_rfl) Try.underlying4 hb walkPieces_all
set_option maxRecDepth 100000 in
theorem lifted (os : Os) (started : os.Started) (H : Type) (enc : TypeId × Value → H) (F : Stop.Interp) :
    ReturnsInHanded {} Try.checked os 7 .any ((Rows.OpenSpec.upto Rows.walkPiecesSpec).pre6 enc Try.prog Try.f7 Rows.walkPiecesUptoRow.domain false) (((Rows.OpenSpec.upto Rows.walkPiecesSpec).at F).post enc Try.prog Try.f7 false true false false) := by
  refine returnsInHanded_of_cond (C := Try.checked) (s := Rows.OpenSpec.upto Rows.walkPiecesSpec) (k := Rows.uptoSmall) rfl own started (by kernel_rfl) Try.func7
    (OpenSpec.witness (enc := enc) (C := Try.checked) (s := Rows.OpenSpec.upto Rows.walkPiecesSpec) (k := Rows.uptoSmall) rfl false ⟨#[], #[.int .i64 0, .slice none 0 0, .slice none 0 0, .slice none 0 0], []⟩ 8 (by kernel_rfl) (by kernel_rfl) (by kernel_rfl)
      (x := ([.lit (.int .i64 0), .nil, .nil, .nil], [], [])) (by kernel_rfl) rfl (by kernel_rfl)) ?_
  intro W base args ds gs before hval hW _ hk _
  exact contract H enc W base args ds gs before hval hW hk
theorem holds : Rows.WalkPiecesUptoSaid :=
  OpenClaim.holds_of_cond 7 Try.f7 rfl rfl rfl rfl rfl rfl rfl ⟨rfl, rfl, rfl, rfl, rfl⟩ rfl rfl rfl rfl rfl (by kernel_rfl) Try.func7 (by kernel_rfl)
    (of_decide_eq_true (by kernel_rfl)) (by unfold Func.isWrapper; first | (rw [if_pos (by decide +kernel)]; kernel_rfl) | (rw [if_neg (by decide +kernel)]; exact ⟨rfl, rfl⟩))
    (fun os started H enc _ F => lifted os started H enc F)
end Go.Proofs.Ytoefhbfgmceikaa.walkPiecesend
