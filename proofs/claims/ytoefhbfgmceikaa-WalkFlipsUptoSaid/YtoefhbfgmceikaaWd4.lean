/- A path that augments makes a matching larger by one: walked. -/
import Derived.Test.YtoefhbfgmceikaaWd3
import Derived.Test.YtoefhbfgmceikaaGeljfip5
import Derived.WalkKit
import Derived.ProofKit
import Derived.OpenShut
import Derived.JoinedCond
set_option linter.all false
set_option maxRecDepth 100000
set_option maxHeartbeats 4000000
namespace Go.Proofs.Ytoefhbfgmceikaa
open Go Go.Ga Go.Ga.Gl
theorem wown_ok (n : Int) (es : List (Int × Int)) (m : List Int) {a : Nat} (b : Int) (ha : a < m.length) : ACalls Try.prog [] n_walk_ways_own [.agg [.sc (.int .i64 n), .imm 2 (twos es), .imm 1 (ints m)], .sc (.int .i64 (a : Int)), .sc (.int .i64 b)] [] fun r h' => r = .sc (.bool (decide (m.getD a 0 = b))) ∧ h' = [] := by
  refine ACalls.trim ?_
  refine go_walk_ways_own rfl ?_
  unfold c_walk_ways_own v_walk_ways_own
  refine wlk_sreg fun KY hKY => ?_
  simp only [go_sem, reduceIte, Nat.reduceEqDiff, Nat.reduceBEq, reduceCtorEq, Nat.reduceLT, Nat.reduceLeDiff, Nat.reduceAdd, Nat.reduceSub, Nat.reduceMul, Nat.reduceDiv, Int.reduceAdd, Int.reduceNeg, Int.reduceEq, Int.reduceLT, Int.reduceLE, c_walk_ways_own_r0]
  refine hKY _ ?_
  refine wlk_sreg fun KY hKY => ?_
  simp only [go_sem, reduceIte, Nat.reduceEqDiff, Nat.reduceBEq, reduceCtorEq, Nat.reduceLT, Nat.reduceLeDiff, Nat.reduceAdd, Nat.reduceSub, Nat.reduceMul, Nat.reduceDiv, Int.reduceAdd, Int.reduceNeg, Int.reduceEq, Int.reduceLT, Int.reduceLE, c_walk_ways_own_r1, ints_get ha, ha, ints_len]
  refine hKY _ ?_
  refine wlk_ret ?_
  simp only [go_sem, reduceIte, Nat.reduceEqDiff, Nat.reduceBEq, reduceCtorEq, Nat.reduceLT, Nat.reduceLeDiff, Nat.reduceAdd, Nat.reduceSub, Nat.reduceMul, Nat.reduceDiv, Int.reduceAdd, Int.reduceNeg, Int.reduceEq, Int.reduceLT, Int.reduceLE]
def ownB (m : List Int) (a b : Int) : Bool := decide (m.getD a.toNat 0 = b)
def altS (m l : List Int) (i : Nat) : Bool := ownB m (l.getD (i - 2) 0) (l.getD (i - 1) 0) != ownB m (l.getD (i - 1) 0) (l.getD i 0)
def altB (N : Nat) (es : Es) (m l : List Int) : Bool := pathB N es l && (List.range l.length).all fun i => decide (i < 2) || altS m l i
theorem path_in {N : Nat} {es : Es} {l : List Int} (h : pathB N es l = true) {i : Nat} (hi : i < l.length) : ∃ a : Nat, l.getD i 0 = a ∧ a < N := by
  unfold pathB at h
  rw [Bool.and_eq_true, List.all_eq_true] at h
  have := h.2 i (List.mem_range.2 hi)
  unfold pStep at this
  rw [Bool.and_eq_true, Bool.and_eq_true, decide_eq_true_iff, decide_eq_true_iff] at this
  exact ⟨(l.getD i 0).toNat, by omega, by omega⟩
theorem altB_no {N : Nat} {es : Es} {m l : List Int} {k : Nat} (h : k < l.length) (h2 : 2 ≤ k) (hf : altS m l k = false) : altB N es m l = false := by
  unfold altB
  have : ((List.range l.length).all fun i => decide (i < 2) || altS m l i) = false := by
    rw [Bool.eq_false_iff]; intro h'
    rw [List.all_eq_true] at h'
    have := h' k (List.mem_range.2 h)
    rw [hf, decide_eq_false (by omega)] at this; cases this
  rw [this, Bool.and_false]
theorem walt_ok {N : Nat} {es : Es} (g : GR N es) (m : List Int) (hm : m.length = N) (l : List Int) (hl : l.length ≤ 1000000) : ACalls Try.prog [] n_walk_ways_alternates [.agg [.sc (.int .i64 (N : Int)), .imm 2 (twos (castE es)), .imm 1 (ints m)], .imm 1 (ints l)] [] fun r h' => r = .sc (.bool (altB N es m l)) ∧ h' = [] := by
  refine ACalls.trim ?_
  have hN := g.hn
  have hp := wpath_ok g (.imm 1 (ints m)) rfl l hl
  refine go_walk_ways_alternates rfl ?_
  unfold c_walk_ways_alternates v_walk_ways_alternates
  refine wlk_sreg fun KY hKY => ?_
  simp only [go_sem, reduceIte, Nat.reduceEqDiff, Nat.reduceBEq, reduceCtorEq, Nat.reduceLT, Nat.reduceLeDiff, Nat.reduceAdd, Nat.reduceSub, Nat.reduceMul, Nat.reduceDiv, Int.reduceAdd, Int.reduceNeg, Int.reduceEq, Int.reduceLT, Int.reduceLE, c_walk_ways_alternates_r0]
  refine hKY _ ?_
  refine wlk_seq fun X1 hn1 he1 hr1 => ?_
  cases hpb : pathB N es l with
  | false =>
    rw [hpb] at hp
    refine wlk_sreg fun KY hKY => ?_
    simp only [go_sem, reduceIte, Nat.reduceEqDiff, Nat.reduceBEq, reduceCtorEq, Nat.reduceLT, Nat.reduceLeDiff, Nat.reduceAdd, Nat.reduceSub, Nat.reduceMul, Nat.reduceDiv, Int.reduceAdd, Int.reduceNeg, Int.reduceEq, Int.reduceLT, Int.reduceLE, c_walk_ways_alternates_r1]
    refine call_view rfl (by simp only [go_sem, reduceIte, Nat.reduceEqDiff, Nat.reduceBEq, reduceCtorEq, Nat.reduceLT, Nat.reduceLeDiff, Nat.reduceAdd, Nat.reduceSub, Nat.reduceMul, Nat.reduceDiv, Int.reduceAdd, Int.reduceNeg, Int.reduceEq, Int.reduceLT, Int.reduceLE] <;> rfl) ((hp).mono ?_)
    rintro rr hh ⟨rfl, rfl⟩
    refine ⟨rfl, rfl, rfl, ?_⟩
    simp only [go_sem, reduceIte, Nat.reduceEqDiff, Nat.reduceBEq, reduceCtorEq, Nat.reduceLT, Nat.reduceLeDiff, Nat.reduceAdd, Nat.reduceSub, Nat.reduceMul, Nat.reduceDiv, Int.reduceAdd, Int.reduceNeg, Int.reduceEq, Int.reduceLT, Int.reduceLE]
    refine hKY _ ?_
    refine wlk_cond1 (by first | rfl | (simp only [go_sem, reduceIte, Nat.reduceEqDiff, Nat.reduceBEq, reduceCtorEq, Nat.reduceLT, Nat.reduceLeDiff, Nat.reduceAdd, Nat.reduceSub, Nat.reduceMul, Nat.reduceDiv, Int.reduceAdd, Int.reduceNeg, Int.reduceEq, Int.reduceLT, Int.reduceLE]; try simp (disch := omega) only [decide_eq_true, decide_eq_false])) ?_
    refine wlk_sreg fun KY hKY => ?_
    simp only [go_sem, reduceIte, Nat.reduceEqDiff, Nat.reduceBEq, reduceCtorEq, Nat.reduceLT, Nat.reduceLeDiff, Nat.reduceAdd, Nat.reduceSub, Nat.reduceMul, Nat.reduceDiv, Int.reduceAdd, Int.reduceNeg, Int.reduceEq, Int.reduceLT, Int.reduceLE, c_walk_ways_alternates_r2]
    refine hKY _ ?_
    refine wlk_ret ?_
    repeat (first | refine hr1 _ ?_)
    simp only [go_sem, reduceIte, Nat.reduceEqDiff, Nat.reduceBEq, reduceCtorEq, Nat.reduceLT, Nat.reduceLeDiff, Nat.reduceAdd, Nat.reduceSub, Nat.reduceMul, Nat.reduceDiv, Int.reduceAdd, Int.reduceNeg, Int.reduceEq, Int.reduceLT, Int.reduceLE]
    unfold altB; rw [hpb]; rfl
  | true =>
  rw [hpb] at hp
  refine wlk_sreg fun KY hKY => ?_
  simp only [go_sem, reduceIte, Nat.reduceEqDiff, Nat.reduceBEq, reduceCtorEq, Nat.reduceLT, Nat.reduceLeDiff, Nat.reduceAdd, Nat.reduceSub, Nat.reduceMul, Nat.reduceDiv, Int.reduceAdd, Int.reduceNeg, Int.reduceEq, Int.reduceLT, Int.reduceLE, c_walk_ways_alternates_r1]
  refine call_view rfl (by simp only [go_sem, reduceIte, Nat.reduceEqDiff, Nat.reduceBEq, reduceCtorEq, Nat.reduceLT, Nat.reduceLeDiff, Nat.reduceAdd, Nat.reduceSub, Nat.reduceMul, Nat.reduceDiv, Int.reduceAdd, Int.reduceNeg, Int.reduceEq, Int.reduceLT, Int.reduceLE] <;> rfl) ((hp).mono ?_)
  rintro rr hh ⟨rfl, rfl⟩
  refine ⟨rfl, rfl, rfl, ?_⟩
  simp only [go_sem, reduceIte, Nat.reduceEqDiff, Nat.reduceBEq, reduceCtorEq, Nat.reduceLT, Nat.reduceLeDiff, Nat.reduceAdd, Nat.reduceSub, Nat.reduceMul, Nat.reduceDiv, Int.reduceAdd, Int.reduceNeg, Int.reduceEq, Int.reduceLT, Int.reduceLE]
  refine hKY _ ?_
  refine wlk_cond0 (by first | rfl | (simp only [go_sem, reduceIte, Nat.reduceEqDiff, Nat.reduceBEq, reduceCtorEq, Nat.reduceLT, Nat.reduceLeDiff, Nat.reduceAdd, Nat.reduceSub, Nat.reduceMul, Nat.reduceDiv, Int.reduceAdd, Int.reduceNeg, Int.reduceEq, Int.reduceLT, Int.reduceLE]; try simp (disch := omega) only [decide_eq_true, decide_eq_false])) ?_
  refine wlk_skip ?_
  repeat (first | refine hn1 _ ?_ | refine he1 _ _ ?_)
  refine wlk_sreg fun KY hKY => ?_
  simp only [go_sem, reduceIte, Nat.reduceEqDiff, Nat.reduceBEq, reduceCtorEq, Nat.reduceLT, Nat.reduceLeDiff, Nat.reduceAdd, Nat.reduceSub, Nat.reduceMul, Nat.reduceDiv, Int.reduceAdd, Int.reduceNeg, Int.reduceEq, Int.reduceLT, Int.reduceLE, c_walk_ways_alternates_r3]
  refine hKY _ ?_
  refine wlk_seq fun X2 hn2 he2 hr2 => ?_
  refine wlk_sreg fun KY hKY => ?_
  simp only [go_sem, reduceIte, Nat.reduceEqDiff, Nat.reduceBEq, reduceCtorEq, Nat.reduceLT, Nat.reduceLeDiff, Nat.reduceAdd, Nat.reduceSub, Nat.reduceMul, Nat.reduceDiv, Int.reduceAdd, Int.reduceNeg, Int.reduceEq, Int.reduceLT, Int.reduceLE, c_walk_ways_alternates_r4]
  refine hKY _ ?_
  refine wlk_blk fun X3 hn3 he3 hf3 hr3 => ?_
  try simp only [go_sem, reduceIte, Nat.reduceEqDiff, Nat.reduceBEq, reduceCtorEq, Nat.reduceLT, Nat.reduceLeDiff, Nat.reduceAdd, Nat.reduceSub, Nat.reduceMul, Nat.reduceDiv, Int.reduceAdd, Int.reduceNeg, Int.reduceEq, Int.reduceLT, Int.reduceLE]
  refine wlk_lp (α := Nat) [16, 42] (fun k => [(6, .sc (.int .i64 ((k + 2 : Nat) : Int)))]) (fun k => []) (fun k q => q = l.length - k ∧ (∀ i, i < k + 2 → i < l.length → (decide (i < 2) || altS m l i) = true)) (0) (l.length) rfl (by first | (simp only [go_sem, reduceIte, Nat.reduceEqDiff, Nat.reduceBEq, reduceCtorEq, Nat.reduceLT, Nat.reduceLeDiff, Nat.reduceAdd, Nat.reduceSub, Nat.reduceMul, Nat.reduceDiv, Int.reduceAdd, Int.reduceNeg, Int.reduceEq, Int.reduceLT, Int.reduceLE, updAll_cons, updAll_nil]; done) | with_reducible rfl | rfl) (⟨rfl, fun i h _ => by rw [decide_eq_true (by omega)]; rfl⟩) ?_
  rintro k q ⟨rfl, hz⟩ X4 hn4 he4 hr4
  simp only [go_sem, reduceIte, Nat.reduceEqDiff, Nat.reduceBEq, reduceCtorEq, Nat.reduceLT, Nat.reduceLeDiff, Nat.reduceAdd, Nat.reduceSub, Nat.reduceMul, Nat.reduceDiv, Int.reduceAdd, Int.reduceNeg, Int.reduceEq, Int.reduceLT, Int.reduceLE, updAll_cons, updAll_nil]
  refine wlk_seq fun X5 hn5 he5 hr5 => ?_
  rcases Nat.lt_or_ge (k + 2) l.length with hk2 | hk2
  · have hdy : decide (((k + 2 : Nat) : Int) < (l.length : Int)) = true := decide_eq_true (by omega)
    refine wlk_sreg fun KY hKY => ?_
    simp only [go_sem, reduceIte, Nat.reduceEqDiff, Nat.reduceBEq, reduceCtorEq, Nat.reduceLT, Nat.reduceLeDiff, Nat.reduceAdd, Nat.reduceSub, Nat.reduceMul, Nat.reduceDiv, Int.reduceAdd, Int.reduceNeg, Int.reduceEq, Int.reduceLT, Int.reduceLE, c_walk_ways_alternates_r5, ints_len, hdy]
    refine hKY _ ?_
    refine wlk_cond1 (by first | rfl | (simp only [go_sem, reduceIte, Nat.reduceEqDiff, Nat.reduceBEq, reduceCtorEq, Nat.reduceLT, Nat.reduceLeDiff, Nat.reduceAdd, Nat.reduceSub, Nat.reduceMul, Nat.reduceDiv, Int.reduceAdd, Int.reduceNeg, Int.reduceEq, Int.reduceLT, Int.reduceLE]; try simp (disch := omega) only [decide_eq_true, decide_eq_false])) ?_
    refine wlk_skip ?_
    repeat (first | refine hn5 _ ?_ | refine he5 _ _ ?_ | refine he4 _ _ ?_ | refine hn3 _ ?_ | refine he3 _ ?_ | refine hf3 _ _ (by decide) ?_ | refine hn2 _ ?_ | refine he2 _ _ ?_ | refine hn1 _ ?_ | refine he1 _ _ ?_)
    refine wlk_seq fun X6 hn6 he6 hr6 => ?_
    refine wlk_blk fun X7 hn7 he7 hf7 hr7 => ?_
    have hk0 : k < l.length := by omega
    have hk1 : k + 1 < l.length := by omega
    obtain ⟨a, ha, haN⟩ := path_in hpb hk0
    obtain ⟨b, hb, hbN⟩ := path_in hpb hk1
    have hd2 : IntKind.i64.wrap (((k + 2 : Nat) : Int) - 2) = (k : Int) := by rw [IntWalk.i64_in _ (by omega)]; omega
    have hd1 : IntKind.i64.wrap (((k + 2 : Nat) : Int) - 1) = ((k + 1 : Nat) : Int) := by rw [IntWalk.i64_in _ (by omega)]; omega
    have hga : (ints l)[k]? = some (.sc (.int .i64 (a : Int))) := by rw [ints_get hk0, ha]
    have hgb : (ints l)[k + 1]? = some (.sc (.int .i64 (b : Int))) := by rw [ints_get hk1, hb]
    have hA : altS m l (k + 2) = (decide (m.getD a 0 = (b : Int)) != decide (m.getD b 0 = l.getD (k + 2) 0)) := by
      unfold altS ownB
      rw [show k + 2 - 2 = k by omega, show k + 2 - 1 = k + 1 by omega, ha, hb]; rfl
    refine wlk_sdraw fun KY hKY => ?_
    simp only [go_sem, reduceIte, Nat.reduceEqDiff, Nat.reduceBEq, reduceCtorEq, Nat.reduceLT, Nat.reduceLeDiff, Nat.reduceAdd, Nat.reduceSub, Nat.reduceMul, Nat.reduceDiv, Int.reduceAdd, Int.reduceNeg, Int.reduceEq, Int.reduceLT, Int.reduceLE, c_walk_ways_alternates_r6, hd2, hd1, hga, hgb, ints_get hk2, hk0, hk1, hk2, ints_len]
    refine call_view rfl (by simp only [go_sem, reduceIte, Nat.reduceEqDiff, Nat.reduceBEq, reduceCtorEq, Nat.reduceLT, Nat.reduceLeDiff, Nat.reduceAdd, Nat.reduceSub, Nat.reduceMul, Nat.reduceDiv, Int.reduceAdd, Int.reduceNeg, Int.reduceEq, Int.reduceLT, Int.reduceLE] <;> rfl) ((wown_ok N (castE es) m (b : Int) (show a < m.length by omega)).mono ?_)
    rintro rr hh ⟨rfl, rfl⟩
    refine ⟨rfl, rfl, rfl, ?_⟩
    simp only [go_sem, reduceIte, Nat.reduceEqDiff, Nat.reduceBEq, reduceCtorEq, Nat.reduceLT, Nat.reduceLeDiff, Nat.reduceAdd, Nat.reduceSub, Nat.reduceMul, Nat.reduceDiv, Int.reduceAdd, Int.reduceNeg, Int.reduceEq, Int.reduceLT, Int.reduceLE]
    refine call_view rfl (by simp only [go_sem, reduceIte, Nat.reduceEqDiff, Nat.reduceBEq, reduceCtorEq, Nat.reduceLT, Nat.reduceLeDiff, Nat.reduceAdd, Nat.reduceSub, Nat.reduceMul, Nat.reduceDiv, Int.reduceAdd, Int.reduceNeg, Int.reduceEq, Int.reduceLT, Int.reduceLE] <;> rfl) ((wown_ok N (castE es) m (l.getD (k + 2) 0) (show b < m.length by omega)).mono ?_)
    rintro rr hh ⟨rfl, rfl⟩
    refine ⟨rfl, rfl, rfl, ?_⟩
    cases hx : (decide (m.getD a 0 = (b : Int)) == decide (m.getD b 0 = l.getD (k + 2) 0)) with
    | true =>
      have hno : altS m l (k + 2) = false := by rw [hA, bne, hx]; rfl
      simp only [go_sem, reduceIte, Nat.reduceEqDiff, Nat.reduceBEq, reduceCtorEq, Nat.reduceLT, Nat.reduceLeDiff, Nat.reduceAdd, Nat.reduceSub, Nat.reduceMul, Nat.reduceDiv, Int.reduceAdd, Int.reduceNeg, Int.reduceEq, Int.reduceLT, Int.reduceLE, hx]
      refine hKY _ ?_
      refine wlk_cond1 (by first | rfl | (simp only [go_sem, reduceIte, Nat.reduceEqDiff, Nat.reduceBEq, reduceCtorEq, Nat.reduceLT, Nat.reduceLeDiff, Nat.reduceAdd, Nat.reduceSub, Nat.reduceMul, Nat.reduceDiv, Int.reduceAdd, Int.reduceNeg, Int.reduceEq, Int.reduceLT, Int.reduceLE]; try simp (disch := omega) only [decide_eq_true, decide_eq_false])) ?_
      refine wlk_sreg fun KY hKY => ?_
      simp only [go_sem, reduceIte, Nat.reduceEqDiff, Nat.reduceBEq, reduceCtorEq, Nat.reduceLT, Nat.reduceLeDiff, Nat.reduceAdd, Nat.reduceSub, Nat.reduceMul, Nat.reduceDiv, Int.reduceAdd, Int.reduceNeg, Int.reduceEq, Int.reduceLT, Int.reduceLE, c_walk_ways_alternates_r7]
      refine hKY _ ?_
      refine wlk_ret ?_
      repeat (first | refine hr7 _ ?_ | refine hr6 _ ?_ | refine hr5 _ ?_ | refine hr4 _ ?_ | refine hr3 _ ?_ | refine hr2 _ ?_ | refine hr1 _ ?_)
      simp only [go_sem, reduceIte, Nat.reduceEqDiff, Nat.reduceBEq, reduceCtorEq, Nat.reduceLT, Nat.reduceLeDiff, Nat.reduceAdd, Nat.reduceSub, Nat.reduceMul, Nat.reduceDiv, Int.reduceAdd, Int.reduceNeg, Int.reduceEq, Int.reduceLT, Int.reduceLE]
      rw [altB_no hk2 (by omega) hno]
    | false =>
      have hyes : altS m l (k + 2) = true := by rw [hA, bne, hx]; rfl
      simp only [go_sem, reduceIte, Nat.reduceEqDiff, Nat.reduceBEq, reduceCtorEq, Nat.reduceLT, Nat.reduceLeDiff, Nat.reduceAdd, Nat.reduceSub, Nat.reduceMul, Nat.reduceDiv, Int.reduceAdd, Int.reduceNeg, Int.reduceEq, Int.reduceLT, Int.reduceLE, hx]
      refine hKY _ ?_
      refine wlk_cond0 (by first | rfl | (simp only [go_sem, reduceIte, Nat.reduceEqDiff, Nat.reduceBEq, reduceCtorEq, Nat.reduceLT, Nat.reduceLeDiff, Nat.reduceAdd, Nat.reduceSub, Nat.reduceMul, Nat.reduceDiv, Int.reduceAdd, Int.reduceNeg, Int.reduceEq, Int.reduceLT, Int.reduceLE]; try simp (disch := omega) only [decide_eq_true, decide_eq_false])) ?_
      refine wlk_skip ?_
      repeat (first | refine hn7 _ ?_ | refine he7 _ ?_ | refine hf7 _ _ (by decide) ?_ | refine hn6 _ ?_ | refine he6 _ _ ?_ | refine hn5 _ ?_ | refine he5 _ _ ?_ | refine he4 _ _ ?_ | refine hn3 _ ?_ | refine he3 _ ?_ | refine hf3 _ _ (by decide) ?_ | refine hn2 _ ?_ | refine he2 _ _ ?_ | refine hn1 _ ?_ | refine he1 _ _ ?_)
      refine wlk_reg fun KY hKY => ?_
      simp only [go_sem, reduceIte, Nat.reduceEqDiff, Nat.reduceBEq, reduceCtorEq, Nat.reduceLT, Nat.reduceLeDiff, Nat.reduceAdd, Nat.reduceSub, Nat.reduceMul, Nat.reduceDiv, Int.reduceAdd, Int.reduceNeg, Int.reduceEq, Int.reduceLT, Int.reduceLE, c_walk_ways_alternates_r8, incS (show k + 2 < 4611686018427387904 by omega)]
      refine hKY _ ?_
      repeat (first | refine hn7 _ ?_ | refine he7 _ ?_ | refine hf7 _ _ (by decide) ?_ | refine hn6 _ ?_ | refine he6 _ _ ?_ | refine hn5 _ ?_ | refine he5 _ _ ?_)
      refine hn4 _ (k + 1) (l.length - (k + 1)) (by omega) (by first | (simp only [go_sem, reduceIte, Nat.reduceEqDiff, Nat.reduceBEq, reduceCtorEq, Nat.reduceLT, Nat.reduceLeDiff, Nat.reduceAdd, Nat.reduceSub, Nat.reduceMul, Nat.reduceDiv, Int.reduceAdd, Int.reduceNeg, Int.reduceEq, Int.reduceLT, Int.reduceLE, updAll_cons, updAll_nil, (show k + 1 + 2 = k + 2 + 1 from rfl)]; done) | with_reducible rfl) ?_
      refine ⟨rfl, fun i hi hil => ?_⟩
      rcases Nat.lt_or_ge i (k + 2) with h3 | h3
      · exact hz i h3 hil
      · obtain rfl : i = k + 2 := by omega
        rw [hyes, Bool.or_true]
  have hdx : decide (((k + 2 : Nat) : Int) < (l.length : Int)) = false := decide_eq_false (by omega)
  refine wlk_sreg fun KY hKY => ?_
  simp only [go_sem, reduceIte, Nat.reduceEqDiff, Nat.reduceBEq, reduceCtorEq, Nat.reduceLT, Nat.reduceLeDiff, Nat.reduceAdd, Nat.reduceSub, Nat.reduceMul, Nat.reduceDiv, Int.reduceAdd, Int.reduceNeg, Int.reduceEq, Int.reduceLT, Int.reduceLE, c_walk_ways_alternates_r5, ints_len, hdx]
  refine hKY _ ?_
  refine wlk_cond0 (by first | rfl | (simp only [go_sem, reduceIte, Nat.reduceEqDiff, Nat.reduceBEq, reduceCtorEq, Nat.reduceLT, Nat.reduceLeDiff, Nat.reduceAdd, Nat.reduceSub, Nat.reduceMul, Nat.reduceDiv, Int.reduceAdd, Int.reduceNeg, Int.reduceEq, Int.reduceLT, Int.reduceLE]; try simp (disch := omega) only [decide_eq_true, decide_eq_false])) ?_
  refine wlk_exit ?_
  repeat (first | refine hn5 _ ?_ | refine he5 _ _ ?_ | refine he4 _ _ ?_ | refine hn3 _ ?_ | refine he3 _ ?_ | refine hf3 _ _ (by decide) ?_ | refine hn2 _ ?_ | refine he2 _ _ ?_ | refine hn1 _ ?_ | refine he1 _ _ ?_)
  refine wlk_sreg fun KY hKY => ?_
  simp only [go_sem, reduceIte, Nat.reduceEqDiff, Nat.reduceBEq, reduceCtorEq, Nat.reduceLT, Nat.reduceLeDiff, Nat.reduceAdd, Nat.reduceSub, Nat.reduceMul, Nat.reduceDiv, Int.reduceAdd, Int.reduceNeg, Int.reduceEq, Int.reduceLT, Int.reduceLE, c_walk_ways_alternates_r9]
  refine hKY _ ?_
  refine wlk_ret ?_
  repeat (first | refine hr5 _ ?_ | refine hr4 _ ?_ | refine hr3 _ ?_ | refine hr2 _ ?_ | refine hr1 _ ?_)
  simp only [go_sem, reduceIte, Nat.reduceEqDiff, Nat.reduceBEq, reduceCtorEq, Nat.reduceLT, Nat.reduceLeDiff, Nat.reduceAdd, Nat.reduceSub, Nat.reduceMul, Nat.reduceDiv, Int.reduceAdd, Int.reduceNeg, Int.reduceEq, Int.reduceLT, Int.reduceLE]
  unfold altB
  rw [hpb, Bool.true_and, show ((List.range l.length).all fun i => decide (i < 2) || altS m l i) = true from List.all_eq_true.2 fun i hi => hz i (by have := List.mem_range.1 hi; omega) (List.mem_range.1 hi)]
def augB (N : Nat) (es : Es) (m l : List Int) : Bool := decide (2 ≤ l.length) && (altB N es m l && (decide (m.getD (l.getD 0 0).toNat 0 < 0) && decide (m.getD (l.getD (l.length - 1) 0).toNat 0 < 0)))
theorem waug_ok {N : Nat} {es : Es} (g : GR N es) (m : List Int) (hm : m.length = N) (l : List Int) (hl : l.length ≤ 1000000) : ACalls Try.prog [] n_walk_ways_augments [.agg [.sc (.int .i64 (N : Int)), .imm 2 (twos (castE es)), .imm 1 (ints m)], .imm 1 (ints l)] [] fun r h' => r = .sc (.bool (augB N es m l)) ∧ h' = [] := by
  refine ACalls.trim ?_
  have hp := walt_ok g m hm l hl
  refine go_walk_ways_augments rfl ?_
  unfold c_walk_ways_augments v_walk_ways_augments
  refine wlk_sreg fun KY hKY => ?_
  simp only [go_sem, reduceIte, Nat.reduceEqDiff, Nat.reduceBEq, reduceCtorEq, Nat.reduceLT, Nat.reduceLeDiff, Nat.reduceAdd, Nat.reduceSub, Nat.reduceMul, Nat.reduceDiv, Int.reduceAdd, Int.reduceNeg, Int.reduceEq, Int.reduceLT, Int.reduceLE, c_walk_ways_augments_r0]
  refine hKY _ ?_
  unfold augB
  by_cases h2 : 2 ≤ l.length
  · have d2 : decide ((2 : Int) ≤ (l.length : Int)) = true := decide_eq_true (by omega)
    rw [decide_eq_true h2, Bool.true_and]
    cases ha : altB N es m l with
    | false =>
      rw [ha] at hp
      refine wlk_sdraw fun KY hKY => ?_
      simp only [go_sem, reduceIte, Nat.reduceEqDiff, Nat.reduceBEq, reduceCtorEq, Nat.reduceLT, Nat.reduceLeDiff, Nat.reduceAdd, Nat.reduceSub, Nat.reduceMul, Nat.reduceDiv, Int.reduceAdd, Int.reduceNeg, Int.reduceEq, Int.reduceLT, Int.reduceLE, c_walk_ways_augments_r1, ints_len, ge_iff_le, d2]
      refine call_view rfl (by simp only [go_sem, reduceIte, Nat.reduceEqDiff, Nat.reduceBEq, reduceCtorEq, Nat.reduceLT, Nat.reduceLeDiff, Nat.reduceAdd, Nat.reduceSub, Nat.reduceMul, Nat.reduceDiv, Int.reduceAdd, Int.reduceNeg, Int.reduceEq, Int.reduceLT, Int.reduceLE] <;> rfl) ((hp).mono ?_)
      rintro rr hh ⟨rfl, rfl⟩
      refine ⟨rfl, rfl, rfl, ?_⟩
      simp only [go_sem, reduceIte, Nat.reduceEqDiff, Nat.reduceBEq, reduceCtorEq, Nat.reduceLT, Nat.reduceLeDiff, Nat.reduceAdd, Nat.reduceSub, Nat.reduceMul, Nat.reduceDiv, Int.reduceAdd, Int.reduceNeg, Int.reduceEq, Int.reduceLT, Int.reduceLE]
      refine hKY _ ?_
      refine wlk_ret ?_
      simp only [go_sem, reduceIte, Nat.reduceEqDiff, Nat.reduceBEq, reduceCtorEq, Nat.reduceLT, Nat.reduceLeDiff, Nat.reduceAdd, Nat.reduceSub, Nat.reduceMul, Nat.reduceDiv, Int.reduceAdd, Int.reduceNeg, Int.reduceEq, Int.reduceLT, Int.reduceLE]
    | true =>
      rw [ha] at hp
      have hpb : pathB N es l = true := by unfold altB at ha; rw [Bool.and_eq_true] at ha; exact ha.1
      have h0 : 0 < l.length := by omega
      have hl1 : l.length - 1 < l.length := by omega
      obtain ⟨a, hla, haN⟩ := path_in hpb h0
      obtain ⟨b, hlb, hbN⟩ := path_in hpb hl1
      have hga : (ints l)[0]? = some (.sc (.int .i64 (a : Int))) := by rw [ints_get h0, hla]
      have hgb : (ints l)[l.length - 1]? = some (.sc (.int .i64 (b : Int))) := by rw [ints_get hl1, hlb]
      have hd1 : IntKind.i64.wrap ((l.length : Int) - 1) = ((l.length - 1 : Nat) : Int) := by rw [IntWalk.i64_in _ (by omega)]; omega
      rw [hla, hlb]
      have ea : m.getD (a : Int).toNat 0 = m.getD a 0 := rfl
      have eb : m.getD (b : Int).toNat 0 = m.getD b 0 := rfl
      rw [ea, eb]
      by_cases h1 : m.getD a 0 < 0
      · have d1 : decide (m.getD a 0 < 0) = true := decide_eq_true h1
        refine wlk_sdraw fun KY hKY => ?_
        simp only [go_sem, reduceIte, Nat.reduceEqDiff, Nat.reduceBEq, reduceCtorEq, Nat.reduceLT, Nat.reduceLeDiff, Nat.reduceAdd, Nat.reduceSub, Nat.reduceMul, Nat.reduceDiv, Int.reduceAdd, Int.reduceNeg, Int.reduceEq, Int.reduceLT, Int.reduceLE, c_walk_ways_augments_r1, ints_len, ge_iff_le, d2]
        refine call_view rfl (by simp only [go_sem, reduceIte, Nat.reduceEqDiff, Nat.reduceBEq, reduceCtorEq, Nat.reduceLT, Nat.reduceLeDiff, Nat.reduceAdd, Nat.reduceSub, Nat.reduceMul, Nat.reduceDiv, Int.reduceAdd, Int.reduceNeg, Int.reduceEq, Int.reduceLT, Int.reduceLE] <;> rfl) ((hp).mono ?_)
        rintro rr hh ⟨rfl, rfl⟩
        refine ⟨rfl, rfl, rfl, ?_⟩
        simp only [go_sem, reduceIte, Nat.reduceEqDiff, Nat.reduceBEq, reduceCtorEq, Nat.reduceLT, Nat.reduceLeDiff, Nat.reduceAdd, Nat.reduceSub, Nat.reduceMul, Nat.reduceDiv, Int.reduceAdd, Int.reduceNeg, Int.reduceEq, Int.reduceLT, Int.reduceLE, hga, h0, ints_len, ints_get (show a < m.length by omega), (show a < m.length by omega), d1, hd1, hgb, hl1, ints_get (show b < m.length by omega), (show b < m.length by omega)]
        refine hKY _ ?_
        refine wlk_ret ?_
        simp only [go_sem, reduceIte, Nat.reduceEqDiff, Nat.reduceBEq, reduceCtorEq, Nat.reduceLT, Nat.reduceLeDiff, Nat.reduceAdd, Nat.reduceSub, Nat.reduceMul, Nat.reduceDiv, Int.reduceAdd, Int.reduceNeg, Int.reduceEq, Int.reduceLT, Int.reduceLE]
        rw [d1]; rfl
      · have d1 : decide (m.getD a 0 < 0) = false := decide_eq_false h1
        refine wlk_sdraw fun KY hKY => ?_
        simp only [go_sem, reduceIte, Nat.reduceEqDiff, Nat.reduceBEq, reduceCtorEq, Nat.reduceLT, Nat.reduceLeDiff, Nat.reduceAdd, Nat.reduceSub, Nat.reduceMul, Nat.reduceDiv, Int.reduceAdd, Int.reduceNeg, Int.reduceEq, Int.reduceLT, Int.reduceLE, c_walk_ways_augments_r1, ints_len, ge_iff_le, d2]
        refine call_view rfl (by simp only [go_sem, reduceIte, Nat.reduceEqDiff, Nat.reduceBEq, reduceCtorEq, Nat.reduceLT, Nat.reduceLeDiff, Nat.reduceAdd, Nat.reduceSub, Nat.reduceMul, Nat.reduceDiv, Int.reduceAdd, Int.reduceNeg, Int.reduceEq, Int.reduceLT, Int.reduceLE] <;> rfl) ((hp).mono ?_)
        rintro rr hh ⟨rfl, rfl⟩
        refine ⟨rfl, rfl, rfl, ?_⟩
        simp only [go_sem, reduceIte, Nat.reduceEqDiff, Nat.reduceBEq, reduceCtorEq, Nat.reduceLT, Nat.reduceLeDiff, Nat.reduceAdd, Nat.reduceSub, Nat.reduceMul, Nat.reduceDiv, Int.reduceAdd, Int.reduceNeg, Int.reduceEq, Int.reduceLT, Int.reduceLE, hga, h0, ints_len, ints_get (show a < m.length by omega), (show a < m.length by omega), d1]
        refine hKY _ ?_
        refine wlk_ret ?_
        simp only [go_sem, reduceIte, Nat.reduceEqDiff, Nat.reduceBEq, reduceCtorEq, Nat.reduceLT, Nat.reduceLeDiff, Nat.reduceAdd, Nat.reduceSub, Nat.reduceMul, Nat.reduceDiv, Int.reduceAdd, Int.reduceNeg, Int.reduceEq, Int.reduceLT, Int.reduceLE]
        rw [d1]; rfl
  · have d2 : decide ((2 : Int) ≤ (l.length : Int)) = false := decide_eq_false (by omega)
    rw [decide_eq_false h2]
    refine wlk_sdraw fun KY hKY => ?_
    simp only [go_sem, reduceIte, Nat.reduceEqDiff, Nat.reduceBEq, reduceCtorEq, Nat.reduceLT, Nat.reduceLeDiff, Nat.reduceAdd, Nat.reduceSub, Nat.reduceMul, Nat.reduceDiv, Int.reduceAdd, Int.reduceNeg, Int.reduceEq, Int.reduceLT, Int.reduceLE, c_walk_ways_augments_r1, ints_len, ge_iff_le, d2]
    refine hKY _ ?_
    refine wlk_ret ?_
    simp only [go_sem, reduceIte, Nat.reduceEqDiff, Nat.reduceBEq, reduceCtorEq, Nat.reduceLT, Nat.reduceLeDiff, Nat.reduceAdd, Nat.reduceSub, Nat.reduceMul, Nat.reduceDiv, Int.reduceAdd, Int.reduceNeg, Int.reduceEq, Int.reduceLT, Int.reduceLE]
end Go.Proofs.Ytoefhbfgmceikaa
set_option maxRecDepth 100000
set_option maxHeartbeats 4000000
namespace Go.Proofs.Ytoefhbfgmceikaa
open Go Go.Ga Go.Ga.Gl
def bErr (n : Int) (es : List (Int × Int)) (b : List Int) : Int := bif rightB n es then (bif b.all (fun v => decide (0 ≤ v) && decide (v < n)) then (bif decide b.Nodup then 0 else 6) else 4) else 3
def BP (n : Int) (es : List (Int × Int)) (b : List Int) (x e : Int) : Prop := (bErr n es b ≠ 0 ∧ x = 0 ∧ e = bErr n es b) ∨ (bErr n es b = 0 ∧ ∃ ps, PsOf n es b ps ∧ x = (oddCount ps : Int) - b.length ∧ e = 0)
theorem BP.unique {n : Int} {es : List (Int × Int)} {b : List Int} {x e y f : Int} (h : BP n es b x e) (h' : BP n es b y f) : x = y ∧ e = f := by
  rcases h with ⟨h1, rfl, rfl⟩ | ⟨h1, ps, hp, rfl, rfl⟩
  · rcases h' with ⟨_, rfl, rfl⟩ | ⟨h2, _⟩
    · exact ⟨rfl, rfl⟩
    · exact absurd h2 h1
  · rcases h' with ⟨h2, _⟩ | ⟨_, qs, hq, rfl, rfl⟩
    · exact absurd h1 h2
    · obtain rfl := hp.unique hq; exact ⟨rfl, rfl⟩
end Go.Proofs.Ytoefhbfgmceikaa
set_option maxRecDepth 100000
set_option maxHeartbeats 4000000
namespace Go.Proofs.Ytoefhbfgmceikaa
open Go Go.Ga Go.Ga.Gl
end Go.Proofs.Ytoefhbfgmceikaa
set_option maxRecDepth 100000
set_option maxHeartbeats 4000000
namespace Go.Proofs.Ytoefhbfgmceikaa
open Go Go.Ga Go.Ga.Gl
theorem mateB_yes {N : Nat} {es : Es} (g : GR N es) {m : List Int} (h : m.length = N) : mateB N (castE es) m = (List.range N).all fun v => mOk es m v := by
  unfold mateB mOk
  rw [rightB_GR g, decide_eq_true (show (m.length : Int) = (N : Int) by omega), h]; rfl
theorem mright_ok (n : Int) (es : List (Int × Int)) (m : List Int) : ACalls Try.prog [] n_mates_Right [.agg [.sc (.int .i64 n), .imm 2 (twos es)], .imm 1 (ints m)] [] fun r h' => r = .sc (.bool (mateB n es m)) ∧ h' = [] := by
  cases h : (rightB n es && decide ((m.length : Int) = n)) with
  | false =>
    have : mateB n es m = false := by unfold mateB; rw [h]; rfl
    rw [this]; exact mright_no n es m h
  | true =>
    rw [Bool.and_eq_true, decide_eq_true_iff] at h
    obtain ⟨N, es', rfl, rfl, g⟩ := right_nat h.1
    rw [mateB_yes g (show m.length = N by omega)]
    exact mright_yes g m (by omega)
theorem r8right_ok (n : Int) (es : List (Int × Int)) (m : List Int) : ACalls Try.prog [] n_garlandref08_Right [.agg [.sc (.int .i64 n), .imm 2 (twos es)], .imm 1 (ints m)] [] fun r h' => r = .sc (.bool (mateB n es m)) ∧ h' = [] := by
  cases h : (rightB n es && decide ((m.length : Int) = n)) with
  | false =>
    have : mateB n es m = false := by unfold mateB; rw [h]; rfl
    rw [this]; exact r8right_no n es m h
  | true =>
    rw [Bool.and_eq_true, decide_eq_true_iff] at h
    obtain ⟨N, es', rfl, rfl, g⟩ := right_nat h.1
    rw [mateB_yes g (show m.length = N by omega)]
    exact r8right_yes g m (by omega)
theorem mateB_len {n : Int} {es : List (Int × Int)} {m : List Int} (h : mateB n es m = true) : rightB n es = true ∧ (m.length : Int) = n := by
  unfold mateB at h
  rw [Bool.and_eq_true, Bool.and_eq_true, decide_eq_true_iff] at h
  exact h.1
theorem BP.bound {n : Int} {es : List (Int × Int)} {b : List Int} {x : Int} (h : BP n es b x 0) : - (b.length : Int) ≤ x ∧ x ≤ 4096 := by
  rcases h with ⟨h1, rfl, h2⟩ | ⟨_, ps, hp, rfl, _⟩
  · exact absurd h2.symm h1
  · have h1 := odd_le2 ps ps.length hp.len.1
    rw [List.take_length] at h1
    omega
end Go.Proofs.Ytoefhbfgmceikaa
set_option maxRecDepth 100000
set_option maxHeartbeats 4000000
namespace Go.Proofs.Ytoefhbfgmceikaa
open Go Go.Ga Go.Ga.Gl
theorem mate_cases {n : Int} {es : List (Int × Int)} {m : List Int} (h : mateB n es m = true) : ∃ (N : Nat) (es' : Es), n = N ∧ es = castE es' ∧ GR N es' ∧ m.length = N := by
  obtain ⟨h1, h2⟩ := mateB_len h
  obtain ⟨N, es', rfl, rfl, g⟩ := right_nat h1
  exact ⟨N, es', rfl, rfl, g, by omega⟩
def onM (n : Int) (es : List (Int × Int)) (m : List Int) (f : Nat → Es → Bool) (b : Bool) : Prop :=
  (mateB n es m = false ∧ b = false) ∨ (mateB n es m = true ∧ ∃ (N : Nat) (es' : Es), n = N ∧ es = castE es' ∧ b = f N es')
theorem onM_unique {n : Int} {es : List (Int × Int)} {m : List Int} {f : Nat → Es → Bool} {b c : Bool} (h : onM n es m f b) (h' : onM n es m f c) : b = c := by
  rcases h with ⟨h1, rfl⟩ | ⟨h1, N, e, rfl, rfl, rfl⟩
  · rcases h' with ⟨_, rfl⟩ | ⟨h2, _⟩
    · rfl
    · rw [h1] at h2; cases h2
  · rcases h' with ⟨h2, _⟩ | ⟨_, M, e', hN, he, rfl⟩
    · rw [h1] at h2; cases h2
    · obtain rfl : N = M := by omega
      obtain rfl := castE_inj he
      rfl
theorem waugments_ok (n : Int) (es : List (Int × Int)) (m l : List Int) (hl : l.length ≤ 1000000) : ACalls Try.prog [] n_walk_Augments [.agg [.sc (.int .i64 n), .imm 2 (twos es)], .imm 1 (ints m), .imm 1 (ints l)] [] fun r h' => (∃ b, onM n es m (fun N e => augB N e m l) b ∧ r = .sc (.bool b)) ∧ h' = [] := by
  refine ACalls.trim ?_
  refine go_walk_Augments rfl ?_
  unfold c_walk_Augments v_walk_Augments
  refine wlk_sreg fun KY hKY => ?_
  simp only [go_sem, reduceIte, Nat.reduceEqDiff, Nat.reduceBEq, reduceCtorEq, Nat.reduceLT, Nat.reduceLeDiff, Nat.reduceAdd, Nat.reduceSub, Nat.reduceMul, Nat.reduceDiv, Int.reduceAdd, Int.reduceNeg, Int.reduceEq, Int.reduceLT, Int.reduceLE, c_walk_Augments_r0]
  refine hKY _ ?_
  cases hmb : mateB n es m with
  | false =>
    refine wlk_sreg fun KY hKY => ?_
    simp only [go_sem, reduceIte, Nat.reduceEqDiff, Nat.reduceBEq, reduceCtorEq, Nat.reduceLT, Nat.reduceLeDiff, Nat.reduceAdd, Nat.reduceSub, Nat.reduceMul, Nat.reduceDiv, Int.reduceAdd, Int.reduceNeg, Int.reduceEq, Int.reduceLT, Int.reduceLE, c_walk_Augments_r1]
    refine call_view rfl (by simp only [go_sem, reduceIte, Nat.reduceEqDiff, Nat.reduceBEq, reduceCtorEq, Nat.reduceLT, Nat.reduceLeDiff, Nat.reduceAdd, Nat.reduceSub, Nat.reduceMul, Nat.reduceDiv, Int.reduceAdd, Int.reduceNeg, Int.reduceEq, Int.reduceLT, Int.reduceLE] <;> rfl) ((mright_ok n es m).mono ?_)
    rintro rr hh ⟨rfl, rfl⟩
    refine ⟨rfl, rfl, rfl, ?_⟩
    simp only [go_sem, reduceIte, Nat.reduceEqDiff, Nat.reduceBEq, reduceCtorEq, Nat.reduceLT, Nat.reduceLeDiff, Nat.reduceAdd, Nat.reduceSub, Nat.reduceMul, Nat.reduceDiv, Int.reduceAdd, Int.reduceNeg, Int.reduceEq, Int.reduceLT, Int.reduceLE, hmb]
    refine hKY _ ?_
    refine wlk_ret ?_
    simp only [go_sem, reduceIte, Nat.reduceEqDiff, Nat.reduceBEq, reduceCtorEq, Nat.reduceLT, Nat.reduceLeDiff, Nat.reduceAdd, Nat.reduceSub, Nat.reduceMul, Nat.reduceDiv, Int.reduceAdd, Int.reduceNeg, Int.reduceEq, Int.reduceLT, Int.reduceLE]
    exact ⟨false, .inl ⟨hmb, rfl⟩, rfl⟩
  | true =>
    obtain ⟨N, es', rfl, rfl, g, hm⟩ := mate_cases hmb
    refine wlk_sreg fun KY hKY => ?_
    simp only [go_sem, reduceIte, Nat.reduceEqDiff, Nat.reduceBEq, reduceCtorEq, Nat.reduceLT, Nat.reduceLeDiff, Nat.reduceAdd, Nat.reduceSub, Nat.reduceMul, Nat.reduceDiv, Int.reduceAdd, Int.reduceNeg, Int.reduceEq, Int.reduceLT, Int.reduceLE, c_walk_Augments_r1]
    refine call_view rfl (by simp only [go_sem, reduceIte, Nat.reduceEqDiff, Nat.reduceBEq, reduceCtorEq, Nat.reduceLT, Nat.reduceLeDiff, Nat.reduceAdd, Nat.reduceSub, Nat.reduceMul, Nat.reduceDiv, Int.reduceAdd, Int.reduceNeg, Int.reduceEq, Int.reduceLT, Int.reduceLE] <;> rfl) ((mright_ok N (castE es') m).mono ?_)
    rintro rr hh ⟨rfl, rfl⟩
    refine ⟨rfl, rfl, rfl, ?_⟩
    simp only [go_sem, reduceIte, Nat.reduceEqDiff, Nat.reduceBEq, reduceCtorEq, Nat.reduceLT, Nat.reduceLeDiff, Nat.reduceAdd, Nat.reduceSub, Nat.reduceMul, Nat.reduceDiv, Int.reduceAdd, Int.reduceNeg, Int.reduceEq, Int.reduceLT, Int.reduceLE, hmb]
    refine call_view rfl (by simp only [go_sem, reduceIte, Nat.reduceEqDiff, Nat.reduceBEq, reduceCtorEq, Nat.reduceLT, Nat.reduceLeDiff, Nat.reduceAdd, Nat.reduceSub, Nat.reduceMul, Nat.reduceDiv, Int.reduceAdd, Int.reduceNeg, Int.reduceEq, Int.reduceLT, Int.reduceLE] <;> rfl) ((waug_ok g m hm l hl).mono ?_)
    rintro rr hh ⟨rfl, rfl⟩
    refine ⟨rfl, rfl, rfl, ?_⟩
    simp only [go_sem, reduceIte, Nat.reduceEqDiff, Nat.reduceBEq, reduceCtorEq, Nat.reduceLT, Nat.reduceLeDiff, Nat.reduceAdd, Nat.reduceSub, Nat.reduceMul, Nat.reduceDiv, Int.reduceAdd, Int.reduceNeg, Int.reduceEq, Int.reduceLT, Int.reduceLE]
    refine hKY _ ?_
    refine wlk_ret ?_
    simp only [go_sem, reduceIte, Nat.reduceEqDiff, Nat.reduceBEq, reduceCtorEq, Nat.reduceLT, Nat.reduceLeDiff, Nat.reduceAdd, Nat.reduceSub, Nat.reduceMul, Nat.reduceDiv, Int.reduceAdd, Int.reduceNeg, Int.reduceEq, Int.reduceLT, Int.reduceLE]
    exact ⟨_, .inr ⟨hmb, N, es', rfl, rfl, rfl⟩, rfl⟩
end Go.Proofs.Ytoefhbfgmceikaa
set_option maxRecDepth 100000
set_option maxHeartbeats 4000000
namespace Go.Proofs.Ytoefhbfgmceikaa
open Go Go.Ga Go.Ga.Gl
end Go.Proofs.Ytoefhbfgmceikaa
set_option maxRecDepth 100000
set_option maxHeartbeats 4000000
namespace Go.Proofs.Ytoefhbfgmceikaa
open Go Go.Ga Go.Ga.Gl
def turnL : List Int → List Int → List Int
  | m, a :: b :: l => turnL ((m.set a.toNat b).set b.toNat a) l
  | m, _ => m
theorem turnL_len : ∀ (l m : List Int), (turnL m l).length = m.length
  | [], m => rfl
  | [_], m => rfl
  | a :: b :: l, m => by unfold turnL; rw [turnL_len l]; simp
theorem turn_step {l : List Int} {k : Nat} {a b : Int} (ha : l[2 * k]? = some a) (hb : l[2 * k + 1]? = some b) : ∀ m0, turnL m0 (l.take (2 * (k + 1))) = ((turnL m0 (l.take (2 * k))).set a.toNat b).set b.toNat a := by
  induction k generalizing l with
  | zero =>
    intro m0
    match l, ha, hb with
    | x :: y :: l, ha, hb =>
      simp at ha hb
      subst ha; subst hb
      simp [turnL]
  | succ k ih =>
    intro m0
    match l, ha, hb with
    | [], ha, _ => simp at ha
    | [x], ha, _ => simp at ha
    | x :: y :: l, ha, hb =>
      have ha' : l[2 * k]? = some a := by rw [show 2 * (k + 1) = 2 * k + 1 + 1 by omega] at ha; simpa using ha
      have hb' : l[2 * k + 1]? = some b := by rw [show 2 * (k + 1) + 1 = (2 * k + 1) + 1 + 1 by omega] at hb; simpa using hb
      rw [show 2 * (k + 1 + 1) = 2 * (k + 1) + 1 + 1 by omega, show 2 * (k + 1) = 2 * k + 1 + 1 by omega]
      simp only [List.take_succ_cons, turnL]
      exact ih ha' hb' _
theorem turn_end : ∀ (k : Nat) (l m : List Int), l.length ≤ 2 * k + 1 → turnL m (l.take (2 * k)) = turnL m l
  | 0, [], m, _ => rfl
  | 0, [x], m, _ => rfl
  | 0, _ :: _ :: _, m, h => by simp at h
  | k + 1, [], m, _ => by simp
  | k + 1, [x], m, _ => by rw [show 2 * (k + 1) = 2 * k + 1 + 1 by omega]; simp
  | k + 1, x :: y :: l, m, h => by
    rw [show 2 * (k + 1) = 2 * k + 1 + 1 by omega]
    simp only [List.take_succ_cons, turnL]
    exact turn_end k l _ (by simp at h; omega)
end Go.Proofs.Ytoefhbfgmceikaa
set_option maxRecDepth 100000
set_option maxHeartbeats 4000000
namespace Go.Proofs.Ytoefhbfgmceikaa
open Go Go.Ga Go.Ga.Gl
theorem turn_ok (m l : List Int) (hl : l.length ≤ 1000000) (hm : m.length ≤ 1000000) (hin : ∀ i, i < l.length → ∃ a : Nat, l.getD i 0 = a ∧ a < m.length) : ACalls Try.prog [] n_walk_Turn [.sl 0 0 m.length 1, .imm 1 (ints l)] [some (ints m)] fun r h' => r = .tup [] ∧ h' = [some (ints (turnL m l))] := by
  refine go_walk_Turn rfl ?_
  unfold c_walk_Turn v_walk_Turn
  refine wlk_sreg fun KY hKY => ?_
  simp only [go_sem, reduceIte, Nat.reduceEqDiff, Nat.reduceBEq, reduceCtorEq, Nat.reduceLT, Nat.reduceLeDiff, Nat.reduceAdd, Nat.reduceSub, Nat.reduceMul, Nat.reduceDiv, Int.reduceAdd, Int.reduceNeg, Int.reduceEq, Int.reduceLT, Int.reduceLE, c_walk_Turn_r0]
  refine hKY _ ?_
  refine wlk_blk fun X1 hn1 he1 hf1 hr1 => ?_
  have h0 : m = turnL m (l.take (2 * 0)) := by simp [turnL]
  try simp only [go_sem, reduceIte, Nat.reduceEqDiff, Nat.reduceBEq, reduceCtorEq, Nat.reduceLT, Nat.reduceLeDiff, Nat.reduceAdd, Nat.reduceSub, Nat.reduceMul, Nat.reduceDiv, Int.reduceAdd, Int.reduceNeg, Int.reduceEq, Int.reduceLT, Int.reduceLE]
  refine wlk_lp (α := Nat) [8] (fun k => [(4, .sc (.int .i64 ((2 * k + 1 : Nat) : Int)))]) (fun k => [some (ints (turnL m (l.take (2 * k))))]) (fun k q => 2 * k ≤ l.length + 1 ∧ q = l.length - k) (0) (l.length) rfl (by first | (simp only [go_sem, reduceIte, Nat.reduceEqDiff, Nat.reduceBEq, reduceCtorEq, Nat.reduceLT, Nat.reduceLeDiff, Nat.reduceAdd, Nat.reduceSub, Nat.reduceMul, Nat.reduceDiv, Int.reduceAdd, Int.reduceNeg, Int.reduceEq, Int.reduceLT, Int.reduceLE, updAll_cons, updAll_nil]; done) | with_reducible rfl | rfl) (⟨by omega, rfl⟩) ?_
  rintro k q ⟨hk, rfl⟩ X2 hn2 he2 hr2
  simp only [go_sem, reduceIte, Nat.reduceEqDiff, Nat.reduceBEq, reduceCtorEq, Nat.reduceLT, Nat.reduceLeDiff, Nat.reduceAdd, Nat.reduceSub, Nat.reduceMul, Nat.reduceDiv, Int.reduceAdd, Int.reduceNeg, Int.reduceEq, Int.reduceLT, Int.reduceLE, updAll_cons, updAll_nil]
  refine wlk_seq fun X3 hn3 he3 hr3 => ?_
  rcases Nat.lt_or_ge (2 * k + 1) l.length with hk2 | hk2
  · have hdy : decide (((2 * k + 1 : Nat) : Int) < (l.length : Int)) = true := decide_eq_true (by omega)
    refine wlk_sreg fun KY hKY => ?_
    simp only [go_sem, reduceIte, Nat.reduceEqDiff, Nat.reduceBEq, reduceCtorEq, Nat.reduceLT, Nat.reduceLeDiff, Nat.reduceAdd, Nat.reduceSub, Nat.reduceMul, Nat.reduceDiv, Int.reduceAdd, Int.reduceNeg, Int.reduceEq, Int.reduceLT, Int.reduceLE, c_walk_Turn_r1, ints_len, hdy]
    refine hKY _ ?_
    refine wlk_cond1 (by first | rfl | (simp only [go_sem, reduceIte, Nat.reduceEqDiff, Nat.reduceBEq, reduceCtorEq, Nat.reduceLT, Nat.reduceLeDiff, Nat.reduceAdd, Nat.reduceSub, Nat.reduceMul, Nat.reduceDiv, Int.reduceAdd, Int.reduceNeg, Int.reduceEq, Int.reduceLT, Int.reduceLE]; try simp (disch := omega) only [decide_eq_true, decide_eq_false])) ?_
    refine wlk_skip ?_
    repeat (first | refine hn3 _ ?_ | refine he3 _ _ ?_ | refine he2 _ _ ?_ | refine hn1 _ ?_ | refine he1 _ ?_ | refine hf1 _ _ (by decide) ?_)
    refine wlk_seq fun X4 hn4 he4 hr4 => ?_
    refine wlk_blk fun X5 hn5 he5 hf5 hr5 => ?_
    have hk0 : 2 * k < l.length := by omega
    obtain ⟨a, ha, haN⟩ := hin (2 * k) hk0
    obtain ⟨b, hb, hbN⟩ := hin (2 * k + 1) hk2
    have hd1 : IntKind.i64.wrap (((2 * k + 1 : Nat) : Int) - 1) = ((2 * k : Nat) : Int) := by rw [IntWalk.i64_in _ (by omega)]; omega
    have hga : (ints l)[2 * k]? = some (.sc (.int .i64 (a : Int))) := by rw [ints_get hk0, ha]
    have hgb : (ints l)[2 * k + 1]? = some (.sc (.int .i64 (b : Int))) := by rw [ints_get hk2, hb]
    have hla : l[2 * k]? = some (a : Int) := by rw [← ha, List.getD_eq_getElem?_getD, List.getElem?_eq_getElem hk0]; rfl
    have hlb : l[2 * k + 1]? = some (b : Int) := by rw [← hb, List.getD_eq_getElem?_getD, List.getElem?_eq_getElem hk2]; rfl
    have hst := turn_step hla hlb m
    rw [Int.toNat_natCast, Int.toNat_natCast] at hst
    have hlen := turnL_len (l.take (2 * k)) m
    generalize hM : turnL m (l.take (2 * k)) = M at hst hlen
    refine wlk_draw fun KY hKY => ?_
    simp only [go_sem, reduceIte, Nat.reduceEqDiff, Nat.reduceBEq, reduceCtorEq, Nat.reduceLT, Nat.reduceLeDiff, Nat.reduceAdd, Nat.reduceSub, Nat.reduceMul, Nat.reduceDiv, Int.reduceAdd, Int.reduceNeg, Int.reduceEq, Int.reduceLT, Int.reduceLE, c_walk_Turn_r2, hd1, hga, hgb, hk0, hk2, ints_len, haN, hbN, hlen, List.length_set, ← hst]
    refine hKY _ ?_
    repeat (first | refine hn5 _ ?_ | refine he5 _ ?_ | refine hf5 _ _ (by decide) ?_ | refine hn4 _ ?_ | refine he4 _ _ ?_ | refine hn3 _ ?_ | refine he3 _ _ ?_ | refine he2 _ _ ?_ | refine hn1 _ ?_ | refine he1 _ ?_ | refine hf1 _ _ (by decide) ?_)
    have hi2 : IntKind.i64.wrap (((2 * k + 1 : Nat) : Int) + 2) = ((2 * (k + 1) + 1 : Nat) : Int) := by rw [IntWalk.i64_in _ (by omega)]; omega
    refine wlk_reg fun KY hKY => ?_
    simp only [go_sem, reduceIte, Nat.reduceEqDiff, Nat.reduceBEq, reduceCtorEq, Nat.reduceLT, Nat.reduceLeDiff, Nat.reduceAdd, Nat.reduceSub, Nat.reduceMul, Nat.reduceDiv, Int.reduceAdd, Int.reduceNeg, Int.reduceEq, Int.reduceLT, Int.reduceLE, c_walk_Turn_r3, hi2]
    refine hKY _ ?_
    repeat (first | refine hn5 _ ?_ | refine he5 _ ?_ | refine hf5 _ _ (by decide) ?_ | refine hn4 _ ?_ | refine he4 _ _ ?_ | refine hn3 _ ?_ | refine he3 _ _ ?_)
    refine hn2 _ (k + 1) (l.length - (k + 1)) (by omega) (by first | (simp only [go_sem, reduceIte, Nat.reduceEqDiff, Nat.reduceBEq, reduceCtorEq, Nat.reduceLT, Nat.reduceLeDiff, Nat.reduceAdd, Nat.reduceSub, Nat.reduceMul, Nat.reduceDiv, Int.reduceAdd, Int.reduceNeg, Int.reduceEq, Int.reduceLT, Int.reduceLE, updAll_cons, updAll_nil]; done) | with_reducible rfl) ?_
    exact ⟨by omega, rfl⟩
  have hdx : decide (((2 * k + 1 : Nat) : Int) < (l.length : Int)) = false := decide_eq_false (by omega)
  refine wlk_sreg fun KY hKY => ?_
  simp only [go_sem, reduceIte, Nat.reduceEqDiff, Nat.reduceBEq, reduceCtorEq, Nat.reduceLT, Nat.reduceLeDiff, Nat.reduceAdd, Nat.reduceSub, Nat.reduceMul, Nat.reduceDiv, Int.reduceAdd, Int.reduceNeg, Int.reduceEq, Int.reduceLT, Int.reduceLE, c_walk_Turn_r1, ints_len, hdx]
  refine hKY _ ?_
  refine wlk_cond0 (by first | rfl | (simp only [go_sem, reduceIte, Nat.reduceEqDiff, Nat.reduceBEq, reduceCtorEq, Nat.reduceLT, Nat.reduceLeDiff, Nat.reduceAdd, Nat.reduceSub, Nat.reduceMul, Nat.reduceDiv, Int.reduceAdd, Int.reduceNeg, Int.reduceEq, Int.reduceLT, Int.reduceLE]; try simp (disch := omega) only [decide_eq_true, decide_eq_false])) ?_
  refine wlk_exit ?_
  repeat (first | refine hn3 _ ?_ | refine he3 _ _ ?_ | refine he2 _ _ ?_ | refine hn1 _ ?_ | refine he1 _ ?_ | refine hf1 _ _ (by decide) ?_)
  rw [turn_end k l m (by omega)]
  simp only [go_sem, reduceIte, Nat.reduceEqDiff, Nat.reduceBEq, reduceCtorEq, Nat.reduceLT, Nat.reduceLeDiff, Nat.reduceAdd, Nat.reduceSub, Nat.reduceMul, Nat.reduceDiv, Int.reduceAdd, Int.reduceNeg, Int.reduceEq, Int.reduceLT, Int.reduceLE]
end Go.Proofs.Ytoefhbfgmceikaa
set_option maxRecDepth 100000
set_option maxHeartbeats 4000000
namespace Go.Proofs.Ytoefhbfgmceikaa
open Go Go.Ga Go.Ga.Gl
def FP (n : Int) (es : List (Int × Int)) (m l x : List Int) (e : Int) : Prop :=
  (rightB n es = false ∧ x = [] ∧ e = 3) ∨ (rightB n es = true ∧ mateB n es m = false ∧ x = [] ∧ e = 9) ∨
  (mateB n es m = true ∧ ∃ (N : Nat) (es' : Es), n = N ∧ es = castE es' ∧ ((augB N es' m l = false ∧ x = [] ∧ e = 1) ∨ (augB N es' m l = true ∧ x = turnL m l ∧ e = 0)))
theorem FP.unique {n : Int} {es : List (Int × Int)} {m l x y : List Int} {e f : Int} (h : FP n es m l x e) (h' : FP n es m l y f) : x = y ∧ e = f := by
  rcases h with ⟨h1, rfl, rfl⟩ | ⟨h1, h2, rfl, rfl⟩ | ⟨h1, N, es1, rfl, rfl, h2⟩
  · rcases h' with ⟨_, rfl, rfl⟩ | ⟨h3, _⟩ | ⟨h3, _⟩
    · exact ⟨rfl, rfl⟩
    · rw [h1] at h3; cases h3
    · rw [(mateB_len h3).1] at h1; cases h1
  · rcases h' with ⟨h3, _⟩ | ⟨_, _, rfl, rfl⟩ | ⟨h3, _⟩
    · rw [h1] at h3; cases h3
    · exact ⟨rfl, rfl⟩
    · rw [h2] at h3; cases h3
  · rcases h' with ⟨h3, _⟩ | ⟨_, h3, _⟩ | ⟨_, M, es2, hN, he, h3⟩
    · rw [(mateB_len h1).1] at h3; cases h3
    · rw [h1] at h3; cases h3
    · obtain rfl : N = M := by omega
      obtain rfl := castE_inj he
      rcases h2 with ⟨h4, rfl, rfl⟩ | ⟨h4, rfl, rfl⟩ <;> rcases h3 with ⟨h5, rfl, rfl⟩ | ⟨h5, rfl, rfl⟩
      · exact ⟨rfl, rfl⟩
      · rw [h4] at h5; cases h5
      · rw [h4] at h5; cases h5
      · exact ⟨rfl, rfl⟩
theorem wflip_ok (n : Int) (es : List (Int × Int)) (m l : List Int) (hmm : m.length ≤ 1000000) (hl : l.length ≤ 1000000) : ACalls Try.prog [] n_walk_Flip [.agg [.sc (.int .i64 n), .imm 2 (twos es)], .imm 1 (ints m), .imm 1 (ints l)] [] fun r h' => (∃ x e, FP n es m l x e ∧ r = .tup [.own (some 1) (ints x), .sc (.int .i64 e)]) ∧ h' = [] := by
  refine ACalls.trim ?_
  refine go_walk_Flip rfl ?_
  unfold c_walk_Flip v_walk_Flip
  refine wlk_sreg fun KY hKY => ?_
  simp only [go_sem, reduceIte, Nat.reduceEqDiff, Nat.reduceBEq, reduceCtorEq, Nat.reduceLT, Nat.reduceLeDiff, Nat.reduceAdd, Nat.reduceSub, Nat.reduceMul, Nat.reduceDiv, Int.reduceAdd, Int.reduceNeg, Int.reduceEq, Int.reduceLT, Int.reduceLE, c_walk_Flip_r0]
  refine hKY _ ?_
  refine wlk_seq fun X1 hn1 he1 hr1 => ?_
  refine wlk_blk fun X2 hn2 he2 hf2 hr2 => ?_
  cases hr : rightB n es with
  | false =>
    refine wlk_sreg fun KY hKY => ?_
    simp only [go_sem, reduceIte, Nat.reduceEqDiff, Nat.reduceBEq, reduceCtorEq, Nat.reduceLT, Nat.reduceLeDiff, Nat.reduceAdd, Nat.reduceSub, Nat.reduceMul, Nat.reduceDiv, Int.reduceAdd, Int.reduceNeg, Int.reduceEq, Int.reduceLT, Int.reduceLE, c_walk_Flip_r1]
    refine call_view rfl (by simp only [go_sem, reduceIte, Nat.reduceEqDiff, Nat.reduceBEq, reduceCtorEq, Nat.reduceLT, Nat.reduceLeDiff, Nat.reduceAdd, Nat.reduceSub, Nat.reduceMul, Nat.reduceDiv, Int.reduceAdd, Int.reduceNeg, Int.reduceEq, Int.reduceLT, Int.reduceLE] <;> rfl) ((right_ok n es).mono ?_)
    rintro rr hh ⟨rfl, rfl⟩
    refine ⟨rfl, rfl, rfl, ?_⟩
    simp only [go_sem, reduceIte, Nat.reduceEqDiff, Nat.reduceBEq, reduceCtorEq, Nat.reduceLT, Nat.reduceLeDiff, Nat.reduceAdd, Nat.reduceSub, Nat.reduceMul, Nat.reduceDiv, Int.reduceAdd, Int.reduceNeg, Int.reduceEq, Int.reduceLT, Int.reduceLE, hr]
    refine hKY _ ?_
    refine wlk_cond1 (by first | rfl | (simp only [go_sem, reduceIte, Nat.reduceEqDiff, Nat.reduceBEq, reduceCtorEq, Nat.reduceLT, Nat.reduceLeDiff, Nat.reduceAdd, Nat.reduceSub, Nat.reduceMul, Nat.reduceDiv, Int.reduceAdd, Int.reduceNeg, Int.reduceEq, Int.reduceLT, Int.reduceLE]; try simp (disch := omega) only [decide_eq_true, decide_eq_false])) ?_
    refine wlk_sreg fun KY hKY => ?_
    simp only [go_sem, reduceIte, Nat.reduceEqDiff, Nat.reduceBEq, reduceCtorEq, Nat.reduceLT, Nat.reduceLeDiff, Nat.reduceAdd, Nat.reduceSub, Nat.reduceMul, Nat.reduceDiv, Int.reduceAdd, Int.reduceNeg, Int.reduceEq, Int.reduceLT, Int.reduceLE, c_walk_Flip_r2]
    refine hKY _ ?_
    refine sem_nil [0, 6] 1 (by simp only [go_sem, reduceIte, Nat.reduceEqDiff, Nat.reduceBEq, reduceCtorEq, Nat.reduceLT, Nat.reduceLeDiff, Nat.reduceAdd, Nat.reduceSub, Nat.reduceMul, Nat.reduceDiv, Int.reduceAdd, Int.reduceNeg, Int.reduceEq, Int.reduceLT, Int.reduceLE]) ?_
    simp only [go_sem, reduceIte, Nat.reduceEqDiff, Nat.reduceBEq, reduceCtorEq, Nat.reduceLT, Nat.reduceLeDiff, Nat.reduceAdd, Nat.reduceSub, Nat.reduceMul, Nat.reduceDiv, Int.reduceAdd, Int.reduceNeg, Int.reduceEq, Int.reduceLT, Int.reduceLE]
    refine wlk_ret ?_
    repeat (first | refine hr2 _ ?_ | refine hr1 _ ?_)
    simp only [go_sem, reduceIte, Nat.reduceEqDiff, Nat.reduceBEq, reduceCtorEq, Nat.reduceLT, Nat.reduceLeDiff, Nat.reduceAdd, Nat.reduceSub, Nat.reduceMul, Nat.reduceDiv, Int.reduceAdd, Int.reduceNeg, Int.reduceEq, Int.reduceLT, Int.reduceLE]
    exact ⟨[], 3, .inl ⟨hr, rfl, rfl⟩, rfl⟩
  | true =>
  refine wlk_sreg fun KY hKY => ?_
  simp only [go_sem, reduceIte, Nat.reduceEqDiff, Nat.reduceBEq, reduceCtorEq, Nat.reduceLT, Nat.reduceLeDiff, Nat.reduceAdd, Nat.reduceSub, Nat.reduceMul, Nat.reduceDiv, Int.reduceAdd, Int.reduceNeg, Int.reduceEq, Int.reduceLT, Int.reduceLE, c_walk_Flip_r1]
  refine call_view rfl (by simp only [go_sem, reduceIte, Nat.reduceEqDiff, Nat.reduceBEq, reduceCtorEq, Nat.reduceLT, Nat.reduceLeDiff, Nat.reduceAdd, Nat.reduceSub, Nat.reduceMul, Nat.reduceDiv, Int.reduceAdd, Int.reduceNeg, Int.reduceEq, Int.reduceLT, Int.reduceLE] <;> rfl) ((right_ok n es).mono ?_)
  rintro rr hh ⟨rfl, rfl⟩
  refine ⟨rfl, rfl, rfl, ?_⟩
  simp only [go_sem, reduceIte, Nat.reduceEqDiff, Nat.reduceBEq, reduceCtorEq, Nat.reduceLT, Nat.reduceLeDiff, Nat.reduceAdd, Nat.reduceSub, Nat.reduceMul, Nat.reduceDiv, Int.reduceAdd, Int.reduceNeg, Int.reduceEq, Int.reduceLT, Int.reduceLE, hr]
  refine hKY _ ?_
  refine wlk_cond0 (by first | rfl | (simp only [go_sem, reduceIte, Nat.reduceEqDiff, Nat.reduceBEq, reduceCtorEq, Nat.reduceLT, Nat.reduceLeDiff, Nat.reduceAdd, Nat.reduceSub, Nat.reduceMul, Nat.reduceDiv, Int.reduceAdd, Int.reduceNeg, Int.reduceEq, Int.reduceLT, Int.reduceLE]; try simp (disch := omega) only [decide_eq_true, decide_eq_false])) ?_
  cases hmb : mateB n es m with
  | false =>
    refine wlk_sreg fun KY hKY => ?_
    simp only [go_sem, reduceIte, Nat.reduceEqDiff, Nat.reduceBEq, reduceCtorEq, Nat.reduceLT, Nat.reduceLeDiff, Nat.reduceAdd, Nat.reduceSub, Nat.reduceMul, Nat.reduceDiv, Int.reduceAdd, Int.reduceNeg, Int.reduceEq, Int.reduceLT, Int.reduceLE, c_walk_Flip_r3]
    refine call_view rfl (by simp only [go_sem, reduceIte, Nat.reduceEqDiff, Nat.reduceBEq, reduceCtorEq, Nat.reduceLT, Nat.reduceLeDiff, Nat.reduceAdd, Nat.reduceSub, Nat.reduceMul, Nat.reduceDiv, Int.reduceAdd, Int.reduceNeg, Int.reduceEq, Int.reduceLT, Int.reduceLE] <;> rfl) ((mright_ok n es m).mono ?_)
    rintro rr hh ⟨rfl, rfl⟩
    refine ⟨rfl, rfl, rfl, ?_⟩
    simp only [go_sem, reduceIte, Nat.reduceEqDiff, Nat.reduceBEq, reduceCtorEq, Nat.reduceLT, Nat.reduceLeDiff, Nat.reduceAdd, Nat.reduceSub, Nat.reduceMul, Nat.reduceDiv, Int.reduceAdd, Int.reduceNeg, Int.reduceEq, Int.reduceLT, Int.reduceLE, hmb]
    refine hKY _ ?_
    refine wlk_cond1 (by first | rfl | (simp only [go_sem, reduceIte, Nat.reduceEqDiff, Nat.reduceBEq, reduceCtorEq, Nat.reduceLT, Nat.reduceLeDiff, Nat.reduceAdd, Nat.reduceSub, Nat.reduceMul, Nat.reduceDiv, Int.reduceAdd, Int.reduceNeg, Int.reduceEq, Int.reduceLT, Int.reduceLE]; try simp (disch := omega) only [decide_eq_true, decide_eq_false])) ?_
    refine wlk_sreg fun KY hKY => ?_
    simp only [go_sem, reduceIte, Nat.reduceEqDiff, Nat.reduceBEq, reduceCtorEq, Nat.reduceLT, Nat.reduceLeDiff, Nat.reduceAdd, Nat.reduceSub, Nat.reduceMul, Nat.reduceDiv, Int.reduceAdd, Int.reduceNeg, Int.reduceEq, Int.reduceLT, Int.reduceLE, c_walk_Flip_r4]
    refine hKY _ ?_
    refine sem_nil [0, 6] 1 (by simp only [go_sem, reduceIte, Nat.reduceEqDiff, Nat.reduceBEq, reduceCtorEq, Nat.reduceLT, Nat.reduceLeDiff, Nat.reduceAdd, Nat.reduceSub, Nat.reduceMul, Nat.reduceDiv, Int.reduceAdd, Int.reduceNeg, Int.reduceEq, Int.reduceLT, Int.reduceLE]) ?_
    simp only [go_sem, reduceIte, Nat.reduceEqDiff, Nat.reduceBEq, reduceCtorEq, Nat.reduceLT, Nat.reduceLeDiff, Nat.reduceAdd, Nat.reduceSub, Nat.reduceMul, Nat.reduceDiv, Int.reduceAdd, Int.reduceNeg, Int.reduceEq, Int.reduceLT, Int.reduceLE]
    refine wlk_ret ?_
    repeat (first | refine hr2 _ ?_ | refine hr1 _ ?_)
    simp only [go_sem, reduceIte, Nat.reduceEqDiff, Nat.reduceBEq, reduceCtorEq, Nat.reduceLT, Nat.reduceLeDiff, Nat.reduceAdd, Nat.reduceSub, Nat.reduceMul, Nat.reduceDiv, Int.reduceAdd, Int.reduceNeg, Int.reduceEq, Int.reduceLT, Int.reduceLE]
    exact ⟨[], 9, .inr (.inl ⟨hr, hmb, rfl, rfl⟩), rfl⟩
  | true =>
  refine wlk_sreg fun KY hKY => ?_
  simp only [go_sem, reduceIte, Nat.reduceEqDiff, Nat.reduceBEq, reduceCtorEq, Nat.reduceLT, Nat.reduceLeDiff, Nat.reduceAdd, Nat.reduceSub, Nat.reduceMul, Nat.reduceDiv, Int.reduceAdd, Int.reduceNeg, Int.reduceEq, Int.reduceLT, Int.reduceLE, c_walk_Flip_r3]
  refine call_view rfl (by simp only [go_sem, reduceIte, Nat.reduceEqDiff, Nat.reduceBEq, reduceCtorEq, Nat.reduceLT, Nat.reduceLeDiff, Nat.reduceAdd, Nat.reduceSub, Nat.reduceMul, Nat.reduceDiv, Int.reduceAdd, Int.reduceNeg, Int.reduceEq, Int.reduceLT, Int.reduceLE] <;> rfl) ((mright_ok n es m).mono ?_)
  rintro rr hh ⟨rfl, rfl⟩
  refine ⟨rfl, rfl, rfl, ?_⟩
  simp only [go_sem, reduceIte, Nat.reduceEqDiff, Nat.reduceBEq, reduceCtorEq, Nat.reduceLT, Nat.reduceLeDiff, Nat.reduceAdd, Nat.reduceSub, Nat.reduceMul, Nat.reduceDiv, Int.reduceAdd, Int.reduceNeg, Int.reduceEq, Int.reduceLT, Int.reduceLE, hmb]
  refine hKY _ ?_
  refine wlk_cond0 (by first | rfl | (simp only [go_sem, reduceIte, Nat.reduceEqDiff, Nat.reduceBEq, reduceCtorEq, Nat.reduceLT, Nat.reduceLeDiff, Nat.reduceAdd, Nat.reduceSub, Nat.reduceMul, Nat.reduceDiv, Int.reduceAdd, Int.reduceNeg, Int.reduceEq, Int.reduceLT, Int.reduceLE]; try simp (disch := omega) only [decide_eq_true, decide_eq_false])) ?_
  obtain ⟨N, es, rfl, rfl, g, hm⟩ := mate_cases hmb
  cases ha : augB N es m l with
  | false =>
    refine wlk_sreg fun KY hKY => ?_
    simp only [go_sem, reduceIte, Nat.reduceEqDiff, Nat.reduceBEq, reduceCtorEq, Nat.reduceLT, Nat.reduceLeDiff, Nat.reduceAdd, Nat.reduceSub, Nat.reduceMul, Nat.reduceDiv, Int.reduceAdd, Int.reduceNeg, Int.reduceEq, Int.reduceLT, Int.reduceLE, c_walk_Flip_r5]
    refine call_view rfl (by simp only [go_sem, reduceIte, Nat.reduceEqDiff, Nat.reduceBEq, reduceCtorEq, Nat.reduceLT, Nat.reduceLeDiff, Nat.reduceAdd, Nat.reduceSub, Nat.reduceMul, Nat.reduceDiv, Int.reduceAdd, Int.reduceNeg, Int.reduceEq, Int.reduceLT, Int.reduceLE] <;> rfl) ((waug_ok g m hm l hl).mono ?_)
    rintro rr hh ⟨rfl, rfl⟩
    refine ⟨rfl, rfl, rfl, ?_⟩
    simp only [go_sem, reduceIte, Nat.reduceEqDiff, Nat.reduceBEq, reduceCtorEq, Nat.reduceLT, Nat.reduceLeDiff, Nat.reduceAdd, Nat.reduceSub, Nat.reduceMul, Nat.reduceDiv, Int.reduceAdd, Int.reduceNeg, Int.reduceEq, Int.reduceLT, Int.reduceLE, ha]
    refine hKY _ ?_
    refine wlk_cond1 (by first | rfl | (simp only [go_sem, reduceIte, Nat.reduceEqDiff, Nat.reduceBEq, reduceCtorEq, Nat.reduceLT, Nat.reduceLeDiff, Nat.reduceAdd, Nat.reduceSub, Nat.reduceMul, Nat.reduceDiv, Int.reduceAdd, Int.reduceNeg, Int.reduceEq, Int.reduceLT, Int.reduceLE]; try simp (disch := omega) only [decide_eq_true, decide_eq_false])) ?_
    refine wlk_sreg fun KY hKY => ?_
    simp only [go_sem, reduceIte, Nat.reduceEqDiff, Nat.reduceBEq, reduceCtorEq, Nat.reduceLT, Nat.reduceLeDiff, Nat.reduceAdd, Nat.reduceSub, Nat.reduceMul, Nat.reduceDiv, Int.reduceAdd, Int.reduceNeg, Int.reduceEq, Int.reduceLT, Int.reduceLE, c_walk_Flip_r6]
    refine hKY _ ?_
    refine sem_nil [0, 6] 1 (by simp only [go_sem, reduceIte, Nat.reduceEqDiff, Nat.reduceBEq, reduceCtorEq, Nat.reduceLT, Nat.reduceLeDiff, Nat.reduceAdd, Nat.reduceSub, Nat.reduceMul, Nat.reduceDiv, Int.reduceAdd, Int.reduceNeg, Int.reduceEq, Int.reduceLT, Int.reduceLE]) ?_
    simp only [go_sem, reduceIte, Nat.reduceEqDiff, Nat.reduceBEq, reduceCtorEq, Nat.reduceLT, Nat.reduceLeDiff, Nat.reduceAdd, Nat.reduceSub, Nat.reduceMul, Nat.reduceDiv, Int.reduceAdd, Int.reduceNeg, Int.reduceEq, Int.reduceLT, Int.reduceLE]
    refine wlk_ret ?_
    repeat (first | refine hr2 _ ?_ | refine hr1 _ ?_)
    simp only [go_sem, reduceIte, Nat.reduceEqDiff, Nat.reduceBEq, reduceCtorEq, Nat.reduceLT, Nat.reduceLeDiff, Nat.reduceAdd, Nat.reduceSub, Nat.reduceMul, Nat.reduceDiv, Int.reduceAdd, Int.reduceNeg, Int.reduceEq, Int.reduceLT, Int.reduceLE]
    exact ⟨[], 1, .inr (.inr ⟨hmb, N, es, rfl, rfl, .inl ⟨ha, rfl, rfl⟩⟩), rfl⟩
  | true =>
  have hpb : pathB N es l = true := by
    have h := ha
    unfold augB altB at h
    rw [Bool.and_eq_true, Bool.and_eq_true, Bool.and_eq_true] at h
    exact h.2.1.1
  have hl2 : 2 ≤ l.length := by
    have h := ha
    unfold augB at h
    rw [Bool.and_eq_true, decide_eq_true_iff] at h
    exact h.1
  obtain ⟨a0, _, ha0⟩ := path_in hpb (show 0 < l.length by omega)
  have hmp : 0 < m.length := by omega
  have hne : (ints m).length = m.length := ints_len m
  refine wlk_sreg fun KY hKY => ?_
  simp only [go_sem, reduceIte, Nat.reduceEqDiff, Nat.reduceBEq, reduceCtorEq, Nat.reduceLT, Nat.reduceLeDiff, Nat.reduceAdd, Nat.reduceSub, Nat.reduceMul, Nat.reduceDiv, Int.reduceAdd, Int.reduceNeg, Int.reduceEq, Int.reduceLT, Int.reduceLE, c_walk_Flip_r5]
  refine call_view rfl (by simp only [go_sem, reduceIte, Nat.reduceEqDiff, Nat.reduceBEq, reduceCtorEq, Nat.reduceLT, Nat.reduceLeDiff, Nat.reduceAdd, Nat.reduceSub, Nat.reduceMul, Nat.reduceDiv, Int.reduceAdd, Int.reduceNeg, Int.reduceEq, Int.reduceLT, Int.reduceLE] <;> rfl) ((waug_ok g m hm l hl).mono ?_)
  rintro rr hh ⟨rfl, rfl⟩
  refine ⟨rfl, rfl, rfl, ?_⟩
  simp only [go_sem, reduceIte, Nat.reduceEqDiff, Nat.reduceBEq, reduceCtorEq, Nat.reduceLT, Nat.reduceLeDiff, Nat.reduceAdd, Nat.reduceSub, Nat.reduceMul, Nat.reduceDiv, Int.reduceAdd, Int.reduceNeg, Int.reduceEq, Int.reduceLT, Int.reduceLE, ha]
  refine hKY _ ?_
  refine wlk_cond0 (by first | rfl | (simp only [go_sem, reduceIte, Nat.reduceEqDiff, Nat.reduceBEq, reduceCtorEq, Nat.reduceLT, Nat.reduceLeDiff, Nat.reduceAdd, Nat.reduceSub, Nat.reduceMul, Nat.reduceDiv, Int.reduceAdd, Int.reduceNeg, Int.reduceEq, Int.reduceLT, Int.reduceLE]; try simp (disch := omega) only [decide_eq_true, decide_eq_false])) ?_
  refine wlk_skip ?_
  repeat (first | refine hn2 _ ?_ | refine he2 _ ?_ | refine hf2 _ _ (by decide) ?_ | refine hn1 _ ?_ | refine he1 _ _ ?_)
  refine wlk_sreg fun KY hKY => ?_
  simp only [go_sem, reduceIte, Nat.reduceEqDiff, Nat.reduceBEq, reduceCtorEq, Nat.reduceLT, Nat.reduceLeDiff, Nat.reduceAdd, Nat.reduceSub, Nat.reduceMul, Nat.reduceDiv, Int.reduceAdd, Int.reduceNeg, Int.reduceEq, Int.reduceLT, Int.reduceLE, c_walk_Flip_r7]
  refine call_view rfl (by simp only [go_sem, reduceIte, Nat.reduceEqDiff, Nat.reduceBEq, reduceCtorEq, Nat.reduceLT, Nat.reduceLeDiff, Nat.reduceAdd, Nat.reduceSub, Nat.reduceMul, Nat.reduceDiv, Int.reduceAdd, Int.reduceNeg, Int.reduceEq, Int.reduceLT, Int.reduceLE] <;> rfl) ((clone_ok m (by omega)).mono ?_)
  rintro rr hh ⟨rfl, rfl⟩
  refine ⟨?_, ?_, ?_, ?_⟩
  iterate 3 (first | rfl | simp only [go_sem, reduceIte, Nat.reduceEqDiff, Nat.reduceBEq, reduceCtorEq, Nat.reduceLT, Nat.reduceLeDiff, Nat.reduceAdd, Nat.reduceSub, Nat.reduceMul, Nat.reduceDiv, Int.reduceAdd, Int.reduceNeg, Int.reduceEq, Int.reduceLT, Int.reduceLE])
  simp only [go_sem, reduceIte, Nat.reduceEqDiff, Nat.reduceBEq, reduceCtorEq, Nat.reduceLT, Nat.reduceLeDiff, Nat.reduceAdd, Nat.reduceSub, Nat.reduceMul, Nat.reduceDiv, Int.reduceAdd, Int.reduceNeg, Int.reduceEq, Int.reduceLT, Int.reduceLE]
  refine hKY _ ?_
  refine wlk_sreg fun KY hKY => ?_
  simp only [go_sem, reduceIte, Nat.reduceEqDiff, Nat.reduceBEq, reduceCtorEq, Nat.reduceLT, Nat.reduceLeDiff, Nat.reduceAdd, Nat.reduceSub, Nat.reduceMul, Nat.reduceDiv, Int.reduceAdd, Int.reduceNeg, Int.reduceEq, Int.reduceLT, Int.reduceLE, c_walk_Flip_r8]
  apply call_gen [.bo, .vw] [] false (some [0, 8]) rfl
  iterate 8 (first | (simp only [go_sem, reduceIte, Nat.reduceEqDiff, Nat.reduceBEq, reduceCtorEq, Nat.reduceLT, Nat.reduceLeDiff, Nat.reduceAdd, Nat.reduceSub, Nat.reduceMul, Nat.reduceDiv, Int.reduceAdd, Int.reduceNeg, Int.reduceEq, Int.reduceLT, Int.reduceLE, watchIn, ints_len, hmp] <;> rfl) | rfl)
  refine (turn_ok m l hl hmm (fun i hi => by rw [hm]; exact path_in hpb hi)).mono ?_
  rintro _ _ ⟨rfl, rfl⟩
  refine ⟨Nat.le_of_ble_eq_true rfl, (fun hh => by cases hh), ?_⟩
  simp only [go_sem, reduceIte, Nat.reduceEqDiff, Nat.reduceBEq, reduceCtorEq, Nat.reduceLT, Nat.reduceLeDiff, Nat.reduceAdd, Nat.reduceSub, Nat.reduceMul, Nat.reduceDiv, Int.reduceAdd, Int.reduceNeg, Int.reduceEq, Int.reduceLT, Int.reduceLE, callOut, AState.after, ints_len, turnL_len, hmp]
  refine hKY _ ?_
  refine wlk_sreg fun KY hKY => ?_
  simp only [go_sem, reduceIte, Nat.reduceEqDiff, Nat.reduceBEq, reduceCtorEq, Nat.reduceLT, Nat.reduceLeDiff, Nat.reduceAdd, Nat.reduceSub, Nat.reduceMul, Nat.reduceDiv, Int.reduceAdd, Int.reduceNeg, Int.reduceEq, Int.reduceLT, Int.reduceLE, c_walk_Flip_r9]
  refine hKY _ ?_
  refine wlk_ret ?_
  repeat (first | refine hr2 _ ?_ | refine hr1 _ ?_)
  simp only [go_sem, reduceIte, Nat.reduceEqDiff, Nat.reduceBEq, reduceCtorEq, Nat.reduceLT, Nat.reduceLeDiff, Nat.reduceAdd, Nat.reduceSub, Nat.reduceMul, Nat.reduceDiv, Int.reduceAdd, Int.reduceNeg, Int.reduceEq, Int.reduceLT, Int.reduceLE]
  exact ⟨_, 0, .inr (.inr ⟨hmb, N, es, rfl, rfl, .inr ⟨ha, rfl, rfl⟩⟩), rfl⟩
end Go.Proofs.Ytoefhbfgmceikaa
set_option maxRecDepth 100000
set_option maxHeartbeats 4000000
namespace Go.Proofs.Ytoefhbfgmceikaa
open Go Go.Ga Go.Ga.Gl
end Go.Proofs.Ytoefhbfgmceikaa
set_option maxRecDepth 100000
set_option maxHeartbeats 4000000
namespace Go.Proofs.Ytoefhbfgmceikaa
open Go Go.Ga Go.Ga.Gl
theorem FP.len {n : Int} {es : List (Int × Int)} {m l x : List Int} {e : Int} (h : FP n es m l x e) : x.length ≤ m.length := by
  rcases h with ⟨_, rfl, _⟩ | ⟨_, _, rfl, _⟩ | ⟨_, N, es1, _, _, ⟨_, rfl, _⟩ | ⟨_, rfl, _⟩⟩
  · simp
  · simp
  · simp
  · rw [turnL_len]; exact Nat.le_refl _
theorem two_FP {x : List Int} {e : Int} (h : FP 2 [(0, 1)] [-1, -1] [1, 0] x e) : x = [1, 0] ∧ e = 0 :=
  h.unique (.inr (.inr ⟨by decide, 2, [(0, 1)], rfl, rfl, .inr ⟨by decide, rfl, rfl⟩⟩))
theorem two_aug {b : Bool} (h : onM 2 [(0, 1)] [-1, -1] (fun N e => augB N e [-1, -1] [0, 1]) b) : b = true :=
  onM_unique h (.inr ⟨by decide, 2, [(0, 1)], rfl, rfl, by decide⟩)
theorem awake09_ok : ACalls Try.prog [] n_garlandlaw09_awake [] [] fun r h' => r = .sc (.bool true) ∧ h' = [] := by
  refine ACalls.trim ?_
  have hf := wflip_ok 2 [(0, 1)] [-1, -1] [1, 0] (by decide) (by decide)
  have ha := waugments_ok 2 [(0, 1)] [-1, -1] [0, 1] (by decide)
  refine go_garlandlaw09_awake rfl ?_
  unfold c_garlandlaw09_awake v_garlandlaw09_awake
  refine wlk_sreg fun KY hKY => ?_
  simp only [go_sem, reduceIte, Nat.reduceEqDiff, Nat.reduceBEq, reduceCtorEq, Nat.reduceLT, Nat.reduceLeDiff, Nat.reduceAdd, Nat.reduceSub, Nat.reduceMul, Nat.reduceDiv, Int.reduceAdd, Int.reduceNeg, Int.reduceEq, Int.reduceLT, Int.reduceLE, c_garlandlaw09_awake_r0]
  refine hKY _ ?_
  refine wlk_sreg fun KY hKY => ?_
  simp only [go_sem, reduceIte, Nat.reduceEqDiff, Nat.reduceBEq, reduceCtorEq, Nat.reduceLT, Nat.reduceLeDiff, Nat.reduceAdd, Nat.reduceSub, Nat.reduceMul, Nat.reduceDiv, Int.reduceAdd, Int.reduceNeg, Int.reduceEq, Int.reduceLT, Int.reduceLE, c_garlandlaw09_awake_r1]
  refine hKY _ ?_
  refine sem_freeze [0, 1, 1] (by simp only [go_sem, reduceIte, Nat.reduceEqDiff, Nat.reduceBEq, reduceCtorEq, Nat.reduceLT, Nat.reduceLeDiff, Nat.reduceAdd, Nat.reduceSub, Nat.reduceMul, Nat.reduceDiv, Int.reduceAdd, Int.reduceNeg, Int.reduceEq, Int.reduceLT, Int.reduceLE]; rfl) ?_
  simp only [go_sem, reduceIte, Nat.reduceEqDiff, Nat.reduceBEq, reduceCtorEq, Nat.reduceLT, Nat.reduceLeDiff, Nat.reduceAdd, Nat.reduceSub, Nat.reduceMul, Nat.reduceDiv, Int.reduceAdd, Int.reduceNeg, Int.reduceEq, Int.reduceLT, Int.reduceLE]
  refine wlk_sreg fun KY hKY => ?_
  simp only [go_sem, reduceIte, Nat.reduceEqDiff, Nat.reduceBEq, reduceCtorEq, Nat.reduceLT, Nat.reduceLeDiff, Nat.reduceAdd, Nat.reduceSub, Nat.reduceMul, Nat.reduceDiv, Int.reduceAdd, Int.reduceNeg, Int.reduceEq, Int.reduceLT, Int.reduceLE, c_garlandlaw09_awake_r2]
  refine call_view rfl (by simp only [go_sem, reduceIte, Nat.reduceEqDiff, Nat.reduceBEq, reduceCtorEq, Nat.reduceLT, Nat.reduceLeDiff, Nat.reduceAdd, Nat.reduceSub, Nat.reduceMul, Nat.reduceDiv, Int.reduceAdd, Int.reduceNeg, Int.reduceEq, Int.reduceLT, Int.reduceLE] <;> rfl) ((hf).mono ?_)
  rintro rr hh ⟨⟨x, e, hxe, rfl⟩, rfl⟩
  refine ⟨?_, ?_, ?_, ?_⟩
  iterate 3 (first | rfl | simp only [go_sem, reduceIte, Nat.reduceEqDiff, Nat.reduceBEq, reduceCtorEq, Nat.reduceLT, Nat.reduceLeDiff, Nat.reduceAdd, Nat.reduceSub, Nat.reduceMul, Nat.reduceDiv, Int.reduceAdd, Int.reduceNeg, Int.reduceEq, Int.reduceLT, Int.reduceLE])
  obtain ⟨rfl, rfl⟩ := two_FP hxe
  simp only [go_sem, reduceIte, Nat.reduceEqDiff, Nat.reduceBEq, reduceCtorEq, Nat.reduceLT, Nat.reduceLeDiff, Nat.reduceAdd, Nat.reduceSub, Nat.reduceMul, Nat.reduceDiv, Int.reduceAdd, Int.reduceNeg, Int.reduceEq, Int.reduceLT, Int.reduceLE]
  refine hKY _ ?_
  refine wlk_sreg fun KY hKY => ?_
  simp only [go_sem, reduceIte, Nat.reduceEqDiff, Nat.reduceBEq, reduceCtorEq, Nat.reduceLT, Nat.reduceLeDiff, Nat.reduceAdd, Nat.reduceSub, Nat.reduceMul, Nat.reduceDiv, Int.reduceAdd, Int.reduceNeg, Int.reduceEq, Int.reduceLT, Int.reduceLE, c_garlandlaw09_awake_r3]
  refine call_view rfl (by simp only [go_sem, reduceIte, Nat.reduceEqDiff, Nat.reduceBEq, reduceCtorEq, Nat.reduceLT, Nat.reduceLeDiff, Nat.reduceAdd, Nat.reduceSub, Nat.reduceMul, Nat.reduceDiv, Int.reduceAdd, Int.reduceNeg, Int.reduceEq, Int.reduceLT, Int.reduceLE] <;> rfl) ((plaini_ok [1, 0] [1, 0] (by decide)).mono ?_)
  rintro rr hh ⟨rfl, rfl⟩
  refine ⟨rfl, rfl, rfl, ?_⟩
  simp only [go_sem, reduceIte, Nat.reduceEqDiff, Nat.reduceBEq, reduceCtorEq, Nat.reduceLT, Nat.reduceLeDiff, Nat.reduceAdd, Nat.reduceSub, Nat.reduceMul, Nat.reduceDiv, Int.reduceAdd, Int.reduceNeg, Int.reduceEq, Int.reduceLT, Int.reduceLE, decide_true]
  refine call_view rfl (by simp only [go_sem, reduceIte, Nat.reduceEqDiff, Nat.reduceBEq, reduceCtorEq, Nat.reduceLT, Nat.reduceLeDiff, Nat.reduceAdd, Nat.reduceSub, Nat.reduceMul, Nat.reduceDiv, Int.reduceAdd, Int.reduceNeg, Int.reduceEq, Int.reduceLT, Int.reduceLE] <;> rfl) ((ha).mono ?_)
  rintro rr hh ⟨⟨b, hb, rfl⟩, rfl⟩
  refine ⟨?_, ?_, ?_, ?_⟩
  iterate 3 (first | rfl | simp only [go_sem, reduceIte, Nat.reduceEqDiff, Nat.reduceBEq, reduceCtorEq, Nat.reduceLT, Nat.reduceLeDiff, Nat.reduceAdd, Nat.reduceSub, Nat.reduceMul, Nat.reduceDiv, Int.reduceAdd, Int.reduceNeg, Int.reduceEq, Int.reduceLT, Int.reduceLE])
  obtain rfl := two_aug hb
  simp only [go_sem, reduceIte, Nat.reduceEqDiff, Nat.reduceBEq, reduceCtorEq, Nat.reduceLT, Nat.reduceLeDiff, Nat.reduceAdd, Nat.reduceSub, Nat.reduceMul, Nat.reduceDiv, Int.reduceAdd, Int.reduceNeg, Int.reduceEq, Int.reduceLT, Int.reduceLE]
  refine hKY _ ?_
  refine wlk_ret ?_
  simp only [go_sem, reduceIte, Nat.reduceEqDiff, Nat.reduceBEq, reduceCtorEq, Nat.reduceLT, Nat.reduceLeDiff, Nat.reduceAdd, Nat.reduceSub, Nat.reduceMul, Nat.reduceDiv, Int.reduceAdd, Int.reduceNeg, Int.reduceEq, Int.reduceLT, Int.reduceLE]
end Go.Proofs.Ytoefhbfgmceikaa
set_option maxRecDepth 100000
set_option maxHeartbeats 4000000
namespace Go.Proofs.Ytoefhbfgmceikaa
open Go Go.Ga Go.Ga.Gl
def pE (k : Nat) : Es := (List.range (k - 1)).map fun i => (i, i + 1)
def pV (k : Nat) : List Int := (List.range k).map fun i : Nat => (i : Int)
def bV : Nat → List Int
  | 0 => []
  | k + 1 => (k : Int) :: bV k
def mV (k : Nat) : List Int := List.replicate k (-1)
def mM (n : Nat) : Nat → List Int
  | 0 => mV n
  | j + 1 => ((mM n j).set (2 * j + 1) ((2 * j + 2 : Nat) : Int)).set (2 * j + 2) ((2 * j + 1 : Nat) : Int)
theorem pE_snoc {k : Nat} (h : 0 < k) : castE (pE k) ++ [(((k - 1 : Nat) : Int), (k : Int))] = castE (pE (k + 1)) := by
  obtain ⟨k, rfl⟩ : ∃ j, k = j + 1 := ⟨k - 1, by omega⟩
  simp [pE, castE, List.range_succ]
theorem pV_snoc (k : Nat) : pV k ++ [(k : Int)] = pV (k + 1) := by simp [pV, List.range_succ]
theorem mV_snoc (k : Nat) : mV k ++ [(-1 : Int)] = mV (k + 1) := by simp [mV, List.replicate_succ']
theorem pV_len (k : Nat) : (pV k).length = k := by simp [pV]
theorem mV_len (k : Nat) : (mV k).length = k := by simp [mV]
theorem pE_len (k : Nat) : (pE k).length = k - 1 := by simp [pE]
theorem mM_len (n j : Nat) : (mM n j).length = n := by induction j with | zero => exact mV_len n | succ j ih => simp [mM, ih]
def turnedB (m : Nat) : Bool :=
  let n := 2 + 2 * m
  let es := pE n
  let mt := mM n m
  mateB n (castE es) mt && (augB n es mt (pV n) && (augB n es mt (bV n) && (decide (turnL mt (pV n) = turnL mt (bV n)) && (!augB n es mt ((pV n).take (n - 1)) && (altB n es mt ((pV n).take (n - 1)) && altB n es mt ((pV n).take 1))))))
theorem turned_all : ∀ m, m < 20 → turnedB m = true := by decide +kernel
structure Turned (n : Nat) (es : Es) (mt : List Int) : Prop where
  m : mateB n (castE es) mt = true
  p : augB n es mt (pV n) = true
  b : augB n es mt (bV n) = true
  e : turnL mt (pV n) = turnL mt (bV n)
  s : augB n es mt ((pV n).take (n - 1)) = false
  a : altB n es mt ((pV n).take (n - 1)) = true
  o : altB n es mt ((pV n).take 1) = true
theorem turned_is {m : Nat} (h : m < 20) : Turned (2 + 2 * m) (pE (2 + 2 * m)) (mM (2 + 2 * m) m) := by
  have := turned_all m h
  simp only [turnedB, Bool.and_eq_true, decide_eq_true_iff, Bool.not_eq_true'] at this
  obtain ⟨h1, h2, h3, h4, h5, h6, h7⟩ := this
  exact ⟨h1, h2, h3, h4, h5, h6, h7⟩
theorem onM_is {n : Nat} {es : Es} {m : List Int} {f : Nat → Es → Bool} (h : mateB n (castE es) m = true) {b : Bool} (h' : onM n (castE es) m f b) : b = f n es :=
  onM_unique h' (.inr ⟨h, n, es, rfl, rfl, rfl⟩)
theorem FP_is {n : Nat} {es : Es} {m l x : List Int} {e : Int} (hm : mateB n (castE es) m = true) (ha : augB n es m l = true) (h : FP n (castE es) m l x e) : x = turnL m l ∧ e = 0 :=
  h.unique (.inr (.inr ⟨hm, n, es, rfl, rfl, .inr ⟨ha, rfl, rfl⟩⟩))
end Go.Proofs.Ytoefhbfgmceikaa

namespace Go.Ga.Gl
open Go Go.Ga
def ow (m : List Int) (x y : Nat) : Bool := decide (m.getD x 0 = (y : Int))
def dif (a b : List Int) (es : Es) : Es := es.filter fun e => ow a e.1 e.2 != ow b e.1 e.2
def btw (a b : List Int) (v : Nat) : Bool := decide (a.getD v 0 ≠ b.getD v 0)
theorem dif_step (a b : List Int) {es : Es} {k : Nat} {x y : Nat} (h : es[k]? = some (x, y)) :
    dif a b (es.take (k + 1)) = if (ow a x y != ow b x y) = true then dif a b (es.take k) ++ [(x, y)] else dif a b (es.take k) := by
  have : es.take (k + 1) = es.take k ++ [(x, y)] := by
    rw [List.take_add_one, h]; rfl
  rw [this]; unfold dif
  rw [List.filter_append]
  split
  · rename_i h1; simp [h1]
  · rename_i h1; simp [h1]
theorem dif_len (a b : List Int) (es : Es) : (dif a b es).length ≤ es.length := List.length_filter_le _ _
theorem dif_GR (a b : List Int) {n : Nat} {es : Es} (g : GR n es) : GR n (dif a b es) where
  hn := g.hn
  hm := Nat.le_trans (dif_len a b es) g.hm
  ok := fun e h => g.ok e (List.mem_filter.1 h).1
  up := g.up.filter _
def marks (n : Nat) (l : Es) : List Bool := l.foldl (fun m e => (m.set e.1 true).set e.2 true) (List.replicate n false)
theorem marks_snoc (n : Nat) (l : Es) (x y : Nat) : ((marks n l).set x true).set y true = marks n (l ++ [(x, y)]) := by
  simp [marks, List.foldl_append]
theorem snoc_ind {α : Type} {P : List α → Prop} (h0 : P []) (h1 : ∀ l x, P l → P (l ++ [x])) (l : List α) : P l := by
  have : P l.reverse.reverse := by
    generalize l.reverse = m
    induction m with
    | nil => exact h0
    | cons x m ih => rw [List.reverse_cons]; exact h1 _ _ ih
  rwa [List.reverse_reverse] at this
theorem marks_len (n : Nat) (l : Es) : (marks n l).length = n := by
  induction l using snoc_ind with
  | h0 => simp [marks]
  | h1 l x ih => rw [← marks_snoc]; simp [ih]
theorem getD_setB (l : List Bool) (v w : Nat) (h : v < l.length) : (l.set v true).getD w false = (decide (v = w) || l.getD w false) := by
  simp only [List.getD_eq_getElem?_getD, List.getElem?_set]
  by_cases e : v = w
  · subst e; simp [h]
  · simp [e]
theorem marks_get {n : Nat} {l : Es} (hl : ∀ e ∈ l, e.1 < n ∧ e.2 < n) (v : Nat) : (marks n l).getD v false = l.any fun e => decide (e.1 = v) || decide (e.2 = v) := by
  induction l using snoc_ind with
  | h0 => by_cases h : v < n <;> simp [marks, h]
  | h1 l e ih =>
    obtain ⟨x, y⟩ := e
    have he := hl (x, y) (by simp)
    rw [← marks_snoc, getD_setB _ _ _ (by simpa [marks_len] using he.2), getD_setB _ _ _ (by simpa [marks_len] using he.1), ih (fun e h => hl e (by simp [h]))]
    simp only [List.any_append, List.any_cons, List.any_nil, Bool.or_false]
    cases decide (x = v) <;> cases decide (y = v) <;> cases l.any _ <;> rfl
structure Mt (N : Nat) (es : Es) (m : List Int) : Prop where
  len : m.length = N
  at_ : ∀ v, v < N → m.getD v 0 = -1 ∨ ∃ w : Nat, m.getD v 0 = (w : Int) ∧ w < N ∧ w ≠ v ∧ adj es v w ∧ m.getD w 0 = (v : Int)
theorem Mt.back {N : Nat} {es : Es} {m : List Int} (M : Mt N es m) {v w : Nat} (hv : v < N) (h : m.getD v 0 = (w : Int)) : w < N ∧ w ≠ v ∧ adj es v w ∧ m.getD w 0 = (v : Int) := by
  rcases M.at_ v hv with h1 | ⟨u, h1, h2⟩
  · omega
  · obtain rfl : u = w := by omega
    exact h2
theorem Mt.own {N : Nat} {es : Es} {m : List Int} (M : Mt N es m) {v w : Nat} (hv : v < N) (hw : w < N) : ow m v w = ow m w v := by
  unfold ow
  by_cases h : m.getD v 0 = (w : Int)
  · rw [decide_eq_true h, decide_eq_true (M.back hv h).2.2.2]
  · rw [decide_eq_false h, decide_eq_false]
    intro h2; exact h (M.back hw h2).2.2.2
theorem adj_dif {N : Nat} {es : Es} {a b : List Int} (g : GR N es) (A : Mt N es a) (B : Mt N es b) {v w : Nat} : adj (dif a b es) v w ↔ adj es v w ∧ (ow a v w != ow b v w) = true := by
  unfold adj dif
  simp only [List.mem_filter]
  constructor
  · rintro (⟨h, h2⟩ | ⟨h, h2⟩)
    · exact ⟨.inl h, h2⟩
    · have hl := g.ok _ h
      refine ⟨.inr h, ?_⟩
      simp only at h2 hl
      rw [A.own (w := w) (by omega) (by omega), B.own (w := w) (by omega) (by omega)]; exact h2
  · rintro ⟨h | h, h2⟩
    · exact .inl ⟨h, h2⟩
    · have hl := g.ok _ h
      refine .inr ⟨h, ?_⟩
      simp only at hl
      rw [A.own (w := w) (by omega) (by omega), B.own (w := w) (by omega) (by omega)] at h2; exact h2
theorem in_step {N : Nat} {es : Es} {a b : List Int} (g : GR N es) (A : Mt N es a) (B : Mt N es b) {v w : Nat} (hv : v < N) (hi : btw a b v = true) (h : a.getD v 0 = (w : Int) ∨ b.getD v 0 = (w : Int)) : w < N ∧ w ≠ v ∧ adj (dif a b es) v w := by
  have hne : a.getD v 0 ≠ b.getD v 0 := of_decide_eq_true hi
  rcases h with h | h
  · have k := A.back hv h
    refine ⟨k.1, k.2.1, (adj_dif g A B).2 ⟨k.2.2.1, ?_⟩⟩
    unfold ow; rw [decide_eq_true h, decide_eq_false (by omega)]; rfl
  · have k := B.back hv h
    refine ⟨k.1, k.2.1, (adj_dif g A B).2 ⟨k.2.2.1, ?_⟩⟩
    unfold ow; rw [decide_eq_true h, decide_eq_false (by omega)]; rfl
theorem in_adj {N : Nat} {es : Es} {a b : List Int} (g : GR N es) (A : Mt N es a) (B : Mt N es b) {v : Nat} (hv : v < N) : btw a b v = true ↔ ∃ w, adj (dif a b es) v w := by
  constructor
  · intro hi
    have hne : a.getD v 0 ≠ b.getD v 0 := of_decide_eq_true hi
    rcases A.at_ v hv with h1 | ⟨w, h1, _⟩
    · rcases B.at_ v hv with h2 | ⟨w, h2, _⟩
      · omega
      · exact ⟨w, (in_step g A B hv hi (.inr h2)).2.2⟩
    · exact ⟨w, (in_step g A B hv hi (.inl h1)).2.2⟩
  · rintro ⟨w, h⟩
    have h := ((adj_dif g A B).1 h).2
    unfold btw
    refine decide_eq_true fun e => ?_
    unfold ow at h; rw [e] at h; simp at h
theorem marks_in {N : Nat} {es : Es} {a b : List Int} (g : GR N es) (A : Mt N es a) (B : Mt N es b) {v : Nat} (hv : v < N) : (marks N (dif a b es)).getD v false = btw a b v := by
  rw [marks_get (fun e h => by have := (dif_GR a b g).ok e h; omega)]
  rw [Bool.eq_iff_iff, in_adj g A B hv]
  simp only [List.any_eq_true, Bool.or_eq_true, decide_eq_true_eq]
  constructor
  · rintro ⟨⟨x, y⟩, h, rfl | rfl⟩
    · exact ⟨y, .inl h⟩
    · exact ⟨x, .inr h⟩
  · rintro ⟨w, h | h⟩
    · exact ⟨_, h, .inl rfl⟩
    · exact ⟨_, h, .inr rfl⟩
end Go.Ga.Gl
set_option maxRecDepth 100000
set_option maxHeartbeats 4000000
namespace Go.Proofs.Ytoefhbfgmceikaa
open Go Go.Ga Go.Ga.Gl
theorem mateB_Mt {N : Nat} {es : Es} (g : GR N es) {m : List Int} (h : mateB N (castE es) m = true) : Mt N es m where
  len := by have := (mateB_len h).2; omega
  at_ := fun v hv => by
    have hm := (mateB_len h).2
    have h0 := h
    rw [mateB_yes g (show m.length = N by omega), List.all_eq_true] at h
    have := h v (List.mem_range.2 hv)
    unfold mOk at this
    rw [Bool.or_eq_true, Bool.and_eq_true, decide_eq_true_iff, decide_eq_true_iff, decide_eq_true_iff] at this
    rcases this with h1 | h1
    · exact .inl h1
    · obtain ⟨u, h2, h3, _, h4⟩ := turn_mem g h1.1
      have h5 := h1.1
      have h6 := h1.2
      rw [h2] at h5 h6
      rw [Int.toNat_natCast] at h6
      refine .inr ⟨u, h2, h3, h4, ?_, h6⟩
      obtain ⟨⟨x, y⟩, hx, e⟩ := List.mem_map.1 h5
      unfold turnI at e
      split at e
      · simp only [Prod.mk.injEq] at e
        obtain rfl : x = u := by omega
        obtain rfl : y = v := by omega
        exact .inr hx
      · simp only [Prod.mk.injEq] at e
        obtain rfl : x = v := by omega
        obtain rfl : y = u := by omega
        exact .inl hx
def AP (n : Int) (es : List (Int × Int)) (a b : List Int) (x : List (List Nat)) (e : Int) : Prop :=
  (rightB n es = false ∧ x = [] ∧ e = 3) ∨ (rightB n es = true ∧ (mateB n es a && mateB n es b) = false ∧ x = [] ∧ e = 9) ∨
  (rightB n es = true ∧ (mateB n es a && mateB n es b) = true ∧ ∃ (N : Nat) (es' : Es) (ps : List (List Nat)), n = N ∧ es = castE es' ∧ IsPieces N (dif a b es') (fun v => (v : Int) ∈ ([] : List Int)) ps ∧ x = ps.filter (fun p => btw a b (p.headD 0)) ∧ e = 0)
theorem AP.unique {n : Int} {es : List (Int × Int)} {a b : List Int} {x y : List (List Nat)} {e f : Int} (h : AP n es a b x e) (h' : AP n es a b y f) : x = y ∧ e = f := by
  rcases h with ⟨h1, rfl, rfl⟩ | ⟨h1, h2, rfl, rfl⟩ | ⟨h1, h2, N, es1, ps, rfl, rfl, hp, rfl, rfl⟩
  · rcases h' with ⟨_, rfl, rfl⟩ | ⟨h3, _⟩ | ⟨h3, _⟩
    · exact ⟨rfl, rfl⟩
    · rw [h1] at h3; cases h3
    · rw [h1] at h3; cases h3
  · rcases h' with ⟨h3, _⟩ | ⟨_, _, rfl, rfl⟩ | ⟨_, h3, _⟩
    · rw [h1] at h3; cases h3
    · exact ⟨rfl, rfl⟩
    · rw [h2] at h3; cases h3
  · rcases h' with ⟨h3, _⟩ | ⟨_, h3, _⟩ | ⟨_, _, M, es2, qs, hN, he, hq, rfl, rfl⟩
    · rw [h1] at h3; cases h3
    · rw [h2] at h3; cases h3
    · obtain rfl : N = M := by omega
      obtain rfl := castE_inj he
      obtain ⟨N', es', e1, e2, g⟩ := right_nat h1
      obtain rfl : N = N' := by omega
      obtain rfl := castE_inj e2
      rw [hp.unique (dif_GR a b g).adj_lt hq]
      exact ⟨rfl, rfl⟩
theorem AP.len {n : Int} {es : List (Int × Int)} {a b : List Int} {x : List (List Nat)} {e : Int} (h : AP n es a b x e) : x.length ≤ 4096 ∧ ∀ p ∈ x, p.length ≤ 4096 := by
  rcases h with ⟨h1, rfl, rfl⟩ | ⟨h1, h2, rfl, rfl⟩ | ⟨h1, h2, N, es1, ps, rfl, rfl, hp, rfl, rfl⟩
  · exact ⟨by simp, fun p hp => by simp at hp⟩
  · exact ⟨by simp, fun p hp => by simp at hp⟩
  · obtain ⟨N', es', e1, e2, g⟩ := right_nat h1
    have := g.hn
    exact ⟨Nat.le_trans (List.length_filter_le _ _) (by have := pieces_len hp; omega), fun p h => by have := piece_len hp (List.mem_filter.1 h).1; omega⟩
end Go.Proofs.Ytoefhbfgmceikaa
set_option maxRecDepth 100000
set_option maxHeartbeats 4000000
namespace Go.Proofs.Ytoefhbfgmceikaa
open Go Go.Ga Go.Ga.Gl
theorem rfree_ok (l : List Int) (hl : l.length ≤ 1000000000) : ACalls Try.prog [] n_garlandref08_Free [.imm 1 (ints l)] [] fun r h' => r = .own (some 1) (nats (sel (fun v => decide (l.getD v 0 = -1)) l.length)) ∧ h' = [] := by
  refine ACalls.trim ?_
  refine go_garlandref08_Free rfl ?_
  unfold c_garlandref08_Free v_garlandref08_Free
  refine wlk_sreg fun KY hKY => ?_
  simp only [go_sem, reduceIte, Nat.reduceEqDiff, Nat.reduceBEq, reduceCtorEq, Nat.reduceLT, Nat.reduceLeDiff, Nat.reduceAdd, Nat.reduceSub, Nat.reduceMul, Nat.reduceDiv, Int.reduceAdd, Int.reduceNeg, Int.reduceEq, Int.reduceLT, Int.reduceLE, c_garlandref08_Free_r0]
  refine hKY _ ?_
  refine wlk_sreg fun KY hKY => ?_
  simp only [go_sem, reduceIte, Nat.reduceEqDiff, Nat.reduceBEq, reduceCtorEq, Nat.reduceLT, Nat.reduceLeDiff, Nat.reduceAdd, Nat.reduceSub, Nat.reduceMul, Nat.reduceDiv, Int.reduceAdd, Int.reduceNeg, Int.reduceEq, Int.reduceLT, Int.reduceLE, c_garlandref08_Free_r1]
  refine hKY _ ?_
  refine sem_nil [0, 3] 1 (by simp only [go_sem, reduceIte, Nat.reduceEqDiff, Nat.reduceBEq, reduceCtorEq, Nat.reduceLT, Nat.reduceLeDiff, Nat.reduceAdd, Nat.reduceSub, Nat.reduceMul, Nat.reduceDiv, Int.reduceAdd, Int.reduceNeg, Int.reduceEq, Int.reduceLT, Int.reduceLE]) ?_
  simp only [go_sem, reduceIte, Nat.reduceEqDiff, Nat.reduceBEq, reduceCtorEq, Nat.reduceLT, Nat.reduceLeDiff, Nat.reduceAdd, Nat.reduceSub, Nat.reduceMul, Nat.reduceDiv, Int.reduceAdd, Int.reduceNeg, Int.reduceEq, Int.reduceLT, Int.reduceLE]
  rw [show AVal.own (some 1) [] = .own (some 1) (nats (sel (fun v => decide (l.getD v 0 = -1)) 0)) from rfl]
  refine wlk_seq fun X1 hn1 he1 hr1 => ?_
  refine wlk_sreg fun KY hKY => ?_
  simp only [go_sem, reduceIte, Nat.reduceEqDiff, Nat.reduceBEq, reduceCtorEq, Nat.reduceLT, Nat.reduceLeDiff, Nat.reduceAdd, Nat.reduceSub, Nat.reduceMul, Nat.reduceDiv, Int.reduceAdd, Int.reduceNeg, Int.reduceEq, Int.reduceLT, Int.reduceLE, c_garlandref08_Free_r2]
  refine hKY _ ?_
  refine wlk_blk fun X2 hn2 he2 hf2 hr2 => ?_
  try simp only [go_sem, reduceIte, Nat.reduceEqDiff, Nat.reduceBEq, reduceCtorEq, Nat.reduceLT, Nat.reduceLeDiff, Nat.reduceAdd, Nat.reduceSub, Nat.reduceMul, Nat.reduceDiv, Int.reduceAdd, Int.reduceNeg, Int.reduceEq, Int.reduceLT, Int.reduceLE]
  refine wlk_lp (α := Nat) [8, 15] (fun k => [(3, .own (some 1) (nats (sel (fun v => decide (l.getD v 0 = -1)) k))), (4, .sc (.int .i64 (k : Int)))]) (fun k => []) (fun k q => k ≤ l.length ∧ q = l.length - k) (0) (l.length) rfl (by first | (simp only [go_sem, reduceIte, Nat.reduceEqDiff, Nat.reduceBEq, reduceCtorEq, Nat.reduceLT, Nat.reduceLeDiff, Nat.reduceAdd, Nat.reduceSub, Nat.reduceMul, Nat.reduceDiv, Int.reduceAdd, Int.reduceNeg, Int.reduceEq, Int.reduceLT, Int.reduceLE, updAll_cons, updAll_nil]; done) | with_reducible rfl | rfl) (⟨by omega, rfl⟩) ?_
  rintro k q ⟨hk, rfl⟩ X3 hn3 he3 hr3
  simp only [go_sem, reduceIte, Nat.reduceEqDiff, Nat.reduceBEq, reduceCtorEq, Nat.reduceLT, Nat.reduceLeDiff, Nat.reduceAdd, Nat.reduceSub, Nat.reduceMul, Nat.reduceDiv, Int.reduceAdd, Int.reduceNeg, Int.reduceEq, Int.reduceLT, Int.reduceLE, updAll_cons, updAll_nil]
  have hfl := sel_len (fun v => decide (l.getD v 0 = -1)) k
  have hst := sel_step (fun v => decide (l.getD v 0 = -1)) k
  rcases Nat.lt_or_ge k l.length with hk2 | hk2
  · have hdy : decide ((k : Int) < (l.length : Int)) = true := decide_eq_true (by omega)
    refine wlk_seq fun X4 hn4 he4 hr4 => ?_
    refine wlk_sreg fun KY hKY => ?_
    simp only [go_sem, reduceIte, Nat.reduceEqDiff, Nat.reduceBEq, reduceCtorEq, Nat.reduceLT, Nat.reduceLeDiff, Nat.reduceAdd, Nat.reduceSub, Nat.reduceMul, Nat.reduceDiv, Int.reduceAdd, Int.reduceNeg, Int.reduceEq, Int.reduceLT, Int.reduceLE, c_garlandref08_Free_r3, ints_len, hdy]
    refine hKY _ ?_
    refine wlk_cond1 (by first | rfl | (simp only [go_sem, reduceIte, Nat.reduceEqDiff, Nat.reduceBEq, reduceCtorEq, Nat.reduceLT, Nat.reduceLeDiff, Nat.reduceAdd, Nat.reduceSub, Nat.reduceMul, Nat.reduceDiv, Int.reduceAdd, Int.reduceNeg, Int.reduceEq, Int.reduceLT, Int.reduceLE]; try simp (disch := omega) only [decide_eq_true, decide_eq_false])) ?_
    refine wlk_skip ?_
    repeat (first | refine hn4 _ ?_ | refine he4 _ _ ?_ | refine he3 _ _ ?_ | refine hn2 _ ?_ | refine he2 _ ?_ | refine hf2 _ _ (by decide) ?_ | refine hn1 _ ?_ | refine he1 _ _ ?_)
    refine wlk_seq fun X5 hn5 he5 hr5 => ?_
    refine wlk_blk fun X6 hn6 he6 hf6 hr6 => ?_
    cases hp : decide (l.getD k 0 = -1) with
    | true =>
      rw [if_pos hp] at hst
      refine wlk_sreg fun KY hKY => ?_
      simp only [go_sem, reduceIte, Nat.reduceEqDiff, Nat.reduceBEq, reduceCtorEq, Nat.reduceLT, Nat.reduceLeDiff, Nat.reduceAdd, Nat.reduceSub, Nat.reduceMul, Nat.reduceDiv, Int.reduceAdd, Int.reduceNeg, Int.reduceEq, Int.reduceLT, Int.reduceLE, c_garlandref08_Free_r4, ints_get hk2, hk2, ints_len, hp]
      refine hKY _ ?_
      refine wlk_cond1 (by first | rfl | (simp only [go_sem, reduceIte, Nat.reduceEqDiff, Nat.reduceBEq, reduceCtorEq, Nat.reduceLT, Nat.reduceLeDiff, Nat.reduceAdd, Nat.reduceSub, Nat.reduceMul, Nat.reduceDiv, Int.reduceAdd, Int.reduceNeg, Int.reduceEq, Int.reduceLT, Int.reduceLE]; try simp (disch := omega) only [decide_eq_true, decide_eq_false])) ?_
      generalize hG : sel (fun v => decide (l.getD v 0 = -1)) (k + 1) = S' at hst
      generalize sel (fun v => decide (l.getD v 0 = -1)) k = S at hst hfl
      refine wlk_reg fun KY hKY => ?_
      simp only [go_sem, reduceIte, Nat.reduceEqDiff, Nat.reduceBEq, reduceCtorEq, Nat.reduceLT, Nat.reduceLeDiff, Nat.reduceAdd, Nat.reduceSub, Nat.reduceMul, Nat.reduceDiv, Int.reduceAdd, Int.reduceNeg, Int.reduceEq, Int.reduceLT, Int.reduceLE, c_garlandref08_Free_r5, nats_snoc, nats_len, (show (S.length + 1) * 8 ≤ 140737488355328 by omega), ← hst]
      refine hKY _ ?_
      repeat (first | refine hn6 _ ?_ | refine he6 _ ?_ | refine hf6 _ _ (by decide) ?_ | refine hn5 _ ?_ | refine he5 _ _ ?_ | refine hn4 _ ?_ | refine he4 _ _ ?_ | refine he3 _ _ ?_ | refine hn2 _ ?_ | refine he2 _ ?_ | refine hf2 _ _ (by decide) ?_ | refine hn1 _ ?_ | refine he1 _ _ ?_)
      refine wlk_reg fun KY hKY => ?_
      simp only [go_sem, reduceIte, Nat.reduceEqDiff, Nat.reduceBEq, reduceCtorEq, Nat.reduceLT, Nat.reduceLeDiff, Nat.reduceAdd, Nat.reduceSub, Nat.reduceMul, Nat.reduceDiv, Int.reduceAdd, Int.reduceNeg, Int.reduceEq, Int.reduceLT, Int.reduceLE, c_garlandref08_Free_r6, incS (show k < 4611686018427387904 by omega)]
      refine hKY _ ?_
      repeat (first | refine hn6 _ ?_ | refine he6 _ ?_ | refine hf6 _ _ (by decide) ?_ | refine hn5 _ ?_ | refine he5 _ _ ?_ | refine hn4 _ ?_ | refine he4 _ _ ?_)
      refine hn3 _ (k + 1) (l.length - (k + 1)) (by omega) (by first | (simp only [go_sem, reduceIte, Nat.reduceEqDiff, Nat.reduceBEq, reduceCtorEq, Nat.reduceLT, Nat.reduceLeDiff, Nat.reduceAdd, Nat.reduceSub, Nat.reduceMul, Nat.reduceDiv, Int.reduceAdd, Int.reduceNeg, Int.reduceEq, Int.reduceLT, Int.reduceLE, updAll_cons, updAll_nil, hG]; done) | with_reducible rfl) ?_
      exact ⟨hk2, rfl⟩
    | false =>
      rw [if_neg (by rw [hp]; exact Bool.false_ne_true), List.append_nil] at hst
      refine wlk_sreg fun KY hKY => ?_
      simp only [go_sem, reduceIte, Nat.reduceEqDiff, Nat.reduceBEq, reduceCtorEq, Nat.reduceLT, Nat.reduceLeDiff, Nat.reduceAdd, Nat.reduceSub, Nat.reduceMul, Nat.reduceDiv, Int.reduceAdd, Int.reduceNeg, Int.reduceEq, Int.reduceLT, Int.reduceLE, c_garlandref08_Free_r4, ints_get hk2, hk2, ints_len, hp]
      refine hKY _ ?_
      refine wlk_cond0 (by first | rfl | (simp only [go_sem, reduceIte, Nat.reduceEqDiff, Nat.reduceBEq, reduceCtorEq, Nat.reduceLT, Nat.reduceLeDiff, Nat.reduceAdd, Nat.reduceSub, Nat.reduceMul, Nat.reduceDiv, Int.reduceAdd, Int.reduceNeg, Int.reduceEq, Int.reduceLT, Int.reduceLE]; try simp (disch := omega) only [decide_eq_true, decide_eq_false])) ?_
      refine wlk_skip ?_
      repeat (first | refine hn6 _ ?_ | refine he6 _ ?_ | refine hf6 _ _ (by decide) ?_ | refine hn5 _ ?_ | refine he5 _ _ ?_ | refine hn4 _ ?_ | refine he4 _ _ ?_ | refine he3 _ _ ?_ | refine hn2 _ ?_ | refine he2 _ ?_ | refine hf2 _ _ (by decide) ?_ | refine hn1 _ ?_ | refine he1 _ _ ?_)
      refine wlk_reg fun KY hKY => ?_
      simp only [go_sem, reduceIte, Nat.reduceEqDiff, Nat.reduceBEq, reduceCtorEq, Nat.reduceLT, Nat.reduceLeDiff, Nat.reduceAdd, Nat.reduceSub, Nat.reduceMul, Nat.reduceDiv, Int.reduceAdd, Int.reduceNeg, Int.reduceEq, Int.reduceLT, Int.reduceLE, c_garlandref08_Free_r6, incS (show k < 4611686018427387904 by omega)]
      refine hKY _ ?_
      repeat (first | refine hn6 _ ?_ | refine he6 _ ?_ | refine hf6 _ _ (by decide) ?_ | refine hn5 _ ?_ | refine he5 _ _ ?_ | refine hn4 _ ?_ | refine he4 _ _ ?_)
      refine hn3 _ (k + 1) (l.length - (k + 1)) (by omega) (by first | (simp only [go_sem, reduceIte, Nat.reduceEqDiff, Nat.reduceBEq, reduceCtorEq, Nat.reduceLT, Nat.reduceLeDiff, Nat.reduceAdd, Nat.reduceSub, Nat.reduceMul, Nat.reduceDiv, Int.reduceAdd, Int.reduceNeg, Int.reduceEq, Int.reduceLT, Int.reduceLE, updAll_cons, updAll_nil, hst]; done) | with_reducible rfl) ?_
      exact ⟨hk2, rfl⟩
  obtain rfl : k = l.length := by omega
  have hdx : decide ((l.length : Int) < (l.length : Int)) = false := decide_eq_false (by omega)
  refine wlk_seq fun X7 hn7 he7 hr7 => ?_
  refine wlk_sreg fun KY hKY => ?_
  simp only [go_sem, reduceIte, Nat.reduceEqDiff, Nat.reduceBEq, reduceCtorEq, Nat.reduceLT, Nat.reduceLeDiff, Nat.reduceAdd, Nat.reduceSub, Nat.reduceMul, Nat.reduceDiv, Int.reduceAdd, Int.reduceNeg, Int.reduceEq, Int.reduceLT, Int.reduceLE, c_garlandref08_Free_r3, ints_len, hdx]
  refine hKY _ ?_
  refine wlk_cond0 (by first | rfl | (simp only [go_sem, reduceIte, Nat.reduceEqDiff, Nat.reduceBEq, reduceCtorEq, Nat.reduceLT, Nat.reduceLeDiff, Nat.reduceAdd, Nat.reduceSub, Nat.reduceMul, Nat.reduceDiv, Int.reduceAdd, Int.reduceNeg, Int.reduceEq, Int.reduceLT, Int.reduceLE]; try simp (disch := omega) only [decide_eq_true, decide_eq_false])) ?_
  refine wlk_exit ?_
  repeat (first | refine hn7 _ ?_ | refine he7 _ _ ?_ | refine he3 _ _ ?_ | refine hn2 _ ?_ | refine he2 _ ?_ | refine hf2 _ _ (by decide) ?_ | refine hn1 _ ?_ | refine he1 _ _ ?_)
  refine wlk_sreg fun KY hKY => ?_
  simp only [go_sem, reduceIte, Nat.reduceEqDiff, Nat.reduceBEq, reduceCtorEq, Nat.reduceLT, Nat.reduceLeDiff, Nat.reduceAdd, Nat.reduceSub, Nat.reduceMul, Nat.reduceDiv, Int.reduceAdd, Int.reduceNeg, Int.reduceEq, Int.reduceLT, Int.reduceLE, c_garlandref08_Free_r7]
  refine hKY _ ?_
  refine wlk_ret ?_
  repeat (first | refine hr7 _ ?_ | refine hr3 _ ?_ | refine hr2 _ ?_ | refine hr1 _ ?_)
  simp only [go_sem, reduceIte, Nat.reduceEqDiff, Nat.reduceBEq, reduceCtorEq, Nat.reduceLT, Nat.reduceLeDiff, Nat.reduceAdd, Nat.reduceSub, Nat.reduceMul, Nat.reduceDiv, Int.reduceAdd, Int.reduceNeg, Int.reduceEq, Int.reduceLT, Int.reduceLE]
theorem castE_sup {es es' : Es} (h : ∀ e ∈ es, e ∈ es') {x : Int × Int} (hx : x ∈ castE es) : x ∈ castE es' := by
  obtain ⟨e, he, rfl⟩ := List.mem_map.1 hx
  exact List.mem_map.2 ⟨e, h e he, rfl⟩
theorem mateB_sup {n : Nat} {es es' : Es} {m : List Int} (h : mateB n (castE es) m = true) (g : GR n es) (g' : GR n es') (hs : ∀ e ∈ es, e ∈ es') : mateB n (castE es') m = true := by
  have hl : m.length = n := by have := (mateB_len h).2; omega
  rw [mateB_yes g hl, List.all_eq_true] at h
  rw [mateB_yes g' hl, List.all_eq_true]
  intro v hv
  have := h v hv
  unfold mOk at this ⊢
  rw [Bool.or_eq_true, Bool.and_eq_true, decide_eq_true_iff, decide_eq_true_iff, decide_eq_true_iff] at this ⊢
  rcases this with h1 | h1
  · exact .inl h1
  · exact .inr ⟨castE_sup hs h1.1, h1.2⟩
theorem augB_sup {n : Nat} {es es' : Es} {m l : List Int} (h : augB n es m l = true) (hs : ∀ e ∈ es, e ∈ es') : augB n es' m l = true := by
  unfold augB altB pathB at h ⊢
  simp only [Bool.and_eq_true, List.all_eq_true] at h ⊢
  obtain ⟨h1, ⟨⟨h2, h3⟩, h4⟩, h5⟩ := h
  refine ⟨h1, ⟨⟨h2, fun i hi => ?_⟩, h4⟩, h5⟩
  have := h3 i hi
  unfold pStep at this ⊢
  simp only [Bool.and_eq_true, Bool.or_eq_true, decide_eq_true_iff] at this ⊢
  obtain ⟨k1, k2, k3⟩ := this
  exact ⟨k1, k2, k3.imp id (castE_sup hs)⟩
def flipsB (m : Nat) : Bool :=
  let n := 2 + 2 * m
  let M := mM n m
  let F := turnL M (pV n)
  mateB n (castE (pE n)) F && (decide ((sel (upP F) F.length).length = (sel (upP M) M.length).length + 1) && (decide ((sel (fun v => decide (F.getD v 0 = -1)) F.length).length = 0) && ((List.range (n - 1)).all (fun v => ow M v (v + 1) != ow F v (v + 1)) && (btw M F 0 && !decide (F.getD ((pV n).getD 0 0).toNat 0 < 0)))))
theorem flips_all : ∀ m, m < 8 → flipsB m = true := by decide +kernel
structure Flips (n : Nat) (M F : List Int) : Prop where
  m : mateB n (castE (pE n)) F = true
  s : (sel (upP F) F.length).length = (sel (upP M) M.length).length + 1
  f : (sel (fun v => decide (F.getD v 0 = -1)) F.length).length = 0
  o : ∀ v, v + 1 < n → (ow M v (v + 1) != ow F v (v + 1)) = true
  b : btw M F 0 = true
  a : ∀ es, augB n es F (pV n) = false
theorem flips_is {m : Nat} (h : m < 8) : Flips (2 + 2 * m) (mM (2 + 2 * m) m) (turnL (mM (2 + 2 * m) m) (pV (2 + 2 * m))) := by
  have := flips_all m h
  simp only [flipsB, Bool.and_eq_true, decide_eq_true_iff, Bool.not_eq_true', List.all_eq_true, List.mem_range] at this
  obtain ⟨h1, h2, h3, h4, h5, h6⟩ := this
  refine ⟨h1, h2, h3, fun v hv => h4 v (by omega), h5, fun es => ?_⟩
  unfold augB
  rw [h6, Bool.false_and, Bool.and_false, Bool.and_false]
theorem pE_mem {n v : Nat} (h : v + 1 < n) : (v, v + 1) ∈ pE n := List.mem_map.2 ⟨v, List.mem_range.2 (by omega), rfl⟩
theorem flips_AP {n : Nat} {es : Es} {M F : List Int} {x : List (List Nat)} {e : Int} (hn : 0 < n) (g : GR n es) (hs : ∀ e ∈ pE n, e ∈ es) (hm : mateB n (castE es) M = true) (hf : mateB n (castE es) F = true) (W : Flips n M F) (h : AP n (castE es) M F x e) : x = [List.range n] ∧ e = 0 := by
  have A := mateB_Mt g hm
  have B := mateB_Mt g hf
  have hO : ∀ v : Nat, ¬ (v : Int) ∈ ([] : List Int) := fun v => by simp
  have hP : IsPieces n (dif M F es) (fun v => (v : Int) ∈ ([] : List Int)) [List.range n] := by
    refine ⟨fun v => ?_, ?_, ?_, ?_, ?_, ?_, ?_⟩
    · simp
    · intro p hp; rw [List.mem_singleton] at hp; subst hp; simp; omega
    · intro p hp; rw [List.mem_singleton] at hp; subst hp; exact List.pairwise_lt_range
    · simp
    · simp
    · intro p hp a _ b _ hb _; rw [List.mem_singleton] at hp; subst hp; exact List.mem_range.2 hb
    · intro p hp f hf a ha b hb
      rw [List.mem_singleton] at hp; subst hp
      have key : ∀ v, v < n → f v = f 0 := by
        intro v
        induction v with
        | zero => intro _; rfl
        | succ v ih =>
          intro hv
          rw [← ih (by omega)]
          exact (hf v (v + 1) ((adj_dif g A B).2 ⟨.inl (hs _ (pE_mem hv)), W.o v hv⟩) (hO v) (hO _)).symm
      rw [key a (List.mem_range.1 ha), key b (List.mem_range.1 hb)]
  refine h.unique (.inr (.inr ⟨rightB_GR g, by rw [hm, hf]; rfl, n, es, _, rfl, rfl, hP, ?_, rfl⟩))
  have : (List.range n).headD 0 = 0 := by
    obtain ⟨k, rfl⟩ : ∃ k, n = k + 1 := ⟨n - 1, by omega⟩
    rw [List.range_succ_eq_map]; rfl
  rw [List.filter_cons, if_pos (by rw [this]; exact W.b)]; rfl
end Go.Proofs.Ytoefhbfgmceikaa
set_option maxRecDepth 100000
set_option maxHeartbeats 4000000
namespace Go.Proofs.Ytoefhbfgmceikaa
open Go Go.Ga Go.Ga.Gl
def gone (k : Nat) (ps : List (List Nat)) : List AVal := List.replicate k .dead ++ rowsO (ps.drop k)
theorem gone_zero (ps : List (List Nat)) : gone 0 ps = rowsO ps := by simp [gone]
theorem gone_len {k : Nat} {ps : List (List Nat)} (h : k ≤ ps.length) : (gone k ps).length = ps.length := by simp [gone, rowsO]; omega
theorem gone_get {k : Nat} {ps : List (List Nat)} {p : List Nat} (h : ps[k]? = some p) : (gone k ps)[k]? = some (.own (some 1) (nats p)) := by
  unfold gone
  rw [List.getElem?_append_right (by simp)]
  simp [rowsO, h]
theorem gone_set {k : Nat} {ps : List (List Nat)} (h : k < ps.length) : (gone k ps).set k .dead = gone (k + 1) ps := by
  unfold gone
  rw [List.set_append_right _ _ (by simp)]
  simp only [List.length_replicate, Nat.sub_self]
  rw [List.drop_eq_getElem_cons h, List.replicate_succ', List.append_assoc]
  rfl
theorem wapart_ok (n : Int) (es : List (Int × Int)) (a b : List Int) : ACalls Try.prog [] n_walk_Apart [.agg [.sc (.int .i64 n), .imm 2 (twos es)], .imm 1 (ints a), .imm 1 (ints b)] [] fun r h' => (∃ x e, AP n es a b x e ∧ r = .tup [.own (some 1) (rowsO x), .sc (.int .i64 e)]) ∧ h' = [] := by
  refine ACalls.trim ?_
  refine go_walk_Apart rfl ?_
  unfold c_walk_Apart v_walk_Apart
  refine wlk_sreg fun KY hKY => ?_
  simp only [go_sem, reduceIte, Nat.reduceEqDiff, reduceCtorEq, c_walk_Apart_r0]
  refine hKY _ ?_
  refine wlk_seq fun X1 hn1 he1 hr1 => ?_
  cases hr : rightB n es with
  | false =>
    refine wlk_sreg fun KY hKY => ?_
    simp only [go_sem, reduceIte, Nat.reduceEqDiff, reduceCtorEq, Nat.reduceLT, Nat.reduceAdd, c_walk_Apart_r1]
    refine call_view rfl (by simp only [go_sem, reduceIte, Nat.reduceEqDiff, reduceCtorEq] <;> rfl) ((right_ok n es).mono ?_)
    rintro rr hh ⟨rfl, rfl⟩
    refine ⟨rfl, rfl, rfl, ?_⟩
    simp only [go_sem, reduceIte, Nat.reduceEqDiff, reduceCtorEq, hr]
    refine hKY _ ?_
    refine wlk_cond1 (by first | rfl | (simp only [go_sem, reduceIte, Nat.reduceEqDiff, Nat.reduceBEq, reduceCtorEq, Nat.reduceLT, Nat.reduceLeDiff, Nat.reduceAdd, Nat.reduceSub, Nat.reduceMul, Nat.reduceDiv, Int.reduceAdd, Int.reduceNeg, Int.reduceEq, Int.reduceLT, Int.reduceLE]; try simp (disch := omega) only [decide_eq_true, decide_eq_false])) ?_
    refine wlk_sreg fun KY hKY => ?_
    simp only [go_sem, reduceIte, Nat.reduceEqDiff, reduceCtorEq, c_walk_Apart_r2]
    refine hKY _ ?_
    refine sem_nil [0, 6] 1 (by simp only [go_sem, reduceIte, Nat.reduceEqDiff, reduceCtorEq]) ?_
    simp only [go_sem, reduceIte, Nat.reduceEqDiff, reduceCtorEq]
    refine wlk_ret ?_
    repeat (first | refine hr1 _ ?_)
    simp only [go_sem, reduceIte, Nat.reduceEqDiff, reduceCtorEq]
    exact ⟨[], 3, .inl ⟨hr, rfl, rfl⟩, rfl⟩
  | true =>
  refine wlk_sreg fun KY hKY => ?_
  simp only [go_sem, reduceIte, Nat.reduceEqDiff, reduceCtorEq, Nat.reduceLT, Nat.reduceAdd, c_walk_Apart_r1]
  refine call_view rfl (by simp only [go_sem, reduceIte, Nat.reduceEqDiff, reduceCtorEq] <;> rfl) ((right_ok n es).mono ?_)
  rintro rr hh ⟨rfl, rfl⟩
  refine ⟨rfl, rfl, rfl, ?_⟩
  simp only [go_sem, reduceIte, Nat.reduceEqDiff, reduceCtorEq, hr]
  refine hKY _ ?_
  refine wlk_cond0 (by first | rfl | (simp only [go_sem, reduceIte, Nat.reduceEqDiff, Nat.reduceBEq, reduceCtorEq, Nat.reduceLT, Nat.reduceLeDiff, Nat.reduceAdd, Nat.reduceSub, Nat.reduceMul, Nat.reduceDiv, Int.reduceAdd, Int.reduceNeg, Int.reduceEq, Int.reduceLT, Int.reduceLE]; try simp (disch := omega) only [decide_eq_true, decide_eq_false])) ?_
  refine wlk_skip ?_
  repeat (first | refine hn1 _ ?_ | refine he1 _ _ ?_)
  refine wlk_seq fun X2 hn2 he2 hr2 => ?_
  cases hma : mateB n es a with
  | false =>
    refine wlk_sreg fun KY hKY => ?_
    simp only [go_sem, reduceIte, Nat.reduceEqDiff, reduceCtorEq, Nat.reduceLT, Nat.reduceAdd, c_walk_Apart_r3]
    refine call_view rfl (by simp only [go_sem, reduceIte, Nat.reduceEqDiff, reduceCtorEq] <;> rfl) ((mright_ok n es a).mono ?_)
    rintro rr hh ⟨rfl, rfl⟩
    refine ⟨rfl, rfl, rfl, ?_⟩
    simp only [go_sem, reduceIte, Nat.reduceEqDiff, reduceCtorEq, hma]
    refine hKY _ ?_
    refine wlk_cond1 (by first | rfl | (simp only [go_sem, reduceIte, Nat.reduceEqDiff, Nat.reduceBEq, reduceCtorEq, Nat.reduceLT, Nat.reduceLeDiff, Nat.reduceAdd, Nat.reduceSub, Nat.reduceMul, Nat.reduceDiv, Int.reduceAdd, Int.reduceNeg, Int.reduceEq, Int.reduceLT, Int.reduceLE]; try simp (disch := omega) only [decide_eq_true, decide_eq_false])) ?_
    refine wlk_sreg fun KY hKY => ?_
    simp only [go_sem, reduceIte, Nat.reduceEqDiff, reduceCtorEq, c_walk_Apart_r4]
    refine hKY _ ?_
    refine sem_nil [0, 6] 1 (by simp only [go_sem, reduceIte, Nat.reduceEqDiff, reduceCtorEq]) ?_
    simp only [go_sem, reduceIte, Nat.reduceEqDiff, reduceCtorEq]
    refine wlk_ret ?_
    repeat (first | refine hr2 _ ?_ | refine hr1 _ ?_)
    simp only [go_sem, reduceIte, Nat.reduceEqDiff, reduceCtorEq]
    exact ⟨[], 9, .inr (.inl ⟨hr, by rw [hma]; rfl, rfl, rfl⟩), rfl⟩
  | true =>
  cases hmb : mateB n es b with
  | false =>
    refine wlk_sreg fun KY hKY => ?_
    simp only [go_sem, reduceIte, Nat.reduceEqDiff, reduceCtorEq, Nat.reduceLT, Nat.reduceAdd, c_walk_Apart_r3]
    refine call_view rfl (by simp only [go_sem, reduceIte, Nat.reduceEqDiff, reduceCtorEq] <;> rfl) ((mright_ok n es a).mono ?_)
    rintro rr hh ⟨rfl, rfl⟩
    refine ⟨rfl, rfl, rfl, ?_⟩
    simp only [go_sem, reduceIte, Nat.reduceEqDiff, reduceCtorEq, Nat.reduceLT, Nat.reduceAdd, hma]
    refine call_view rfl (by simp only [go_sem, reduceIte, Nat.reduceEqDiff, reduceCtorEq] <;> rfl) ((mright_ok n es b).mono ?_)
    rintro rr hh ⟨rfl, rfl⟩
    refine ⟨rfl, rfl, rfl, ?_⟩
    simp only [go_sem, reduceIte, Nat.reduceEqDiff, reduceCtorEq, hmb]
    refine hKY _ ?_
    refine wlk_cond1 (by first | rfl | (simp only [go_sem, reduceIte, Nat.reduceEqDiff, Nat.reduceBEq, reduceCtorEq, Nat.reduceLT, Nat.reduceLeDiff, Nat.reduceAdd, Nat.reduceSub, Nat.reduceMul, Nat.reduceDiv, Int.reduceAdd, Int.reduceNeg, Int.reduceEq, Int.reduceLT, Int.reduceLE]; try simp (disch := omega) only [decide_eq_true, decide_eq_false])) ?_
    refine wlk_sreg fun KY hKY => ?_
    simp only [go_sem, reduceIte, Nat.reduceEqDiff, reduceCtorEq, c_walk_Apart_r4]
    refine hKY _ ?_
    refine sem_nil [0, 6] 1 (by simp only [go_sem, reduceIte, Nat.reduceEqDiff, reduceCtorEq]) ?_
    simp only [go_sem, reduceIte, Nat.reduceEqDiff, reduceCtorEq]
    refine wlk_ret ?_
    repeat (first | refine hr2 _ ?_ | refine hr1 _ ?_)
    simp only [go_sem, reduceIte, Nat.reduceEqDiff, reduceCtorEq]
    exact ⟨[], 9, .inr (.inl ⟨hr, by rw [hmb, Bool.and_false], rfl, rfl⟩), rfl⟩
  | true =>
  refine wlk_sreg fun KY hKY => ?_
  simp only [go_sem, reduceIte, Nat.reduceEqDiff, reduceCtorEq, Nat.reduceLT, Nat.reduceAdd, c_walk_Apart_r3]
  refine call_view rfl (by simp only [go_sem, reduceIte, Nat.reduceEqDiff, reduceCtorEq] <;> rfl) ((mright_ok n es a).mono ?_)
  rintro rr hh ⟨rfl, rfl⟩
  refine ⟨rfl, rfl, rfl, ?_⟩
  simp only [go_sem, reduceIte, Nat.reduceEqDiff, reduceCtorEq, Nat.reduceLT, Nat.reduceAdd, hma]
  refine call_view rfl (by simp only [go_sem, reduceIte, Nat.reduceEqDiff, reduceCtorEq] <;> rfl) ((mright_ok n es b).mono ?_)
  rintro rr hh ⟨rfl, rfl⟩
  refine ⟨rfl, rfl, rfl, ?_⟩
  simp only [go_sem, reduceIte, Nat.reduceEqDiff, reduceCtorEq, hmb]
  refine hKY _ ?_
  refine wlk_cond0 (by first | rfl | (simp only [go_sem, reduceIte, Nat.reduceEqDiff, Nat.reduceBEq, reduceCtorEq, Nat.reduceLT, Nat.reduceLeDiff, Nat.reduceAdd, Nat.reduceSub, Nat.reduceMul, Nat.reduceDiv, Int.reduceAdd, Int.reduceNeg, Int.reduceEq, Int.reduceLT, Int.reduceLE]; try simp (disch := omega) only [decide_eq_true, decide_eq_false])) ?_
  refine wlk_skip ?_
  repeat (first | refine hn2 _ ?_ | refine he2 _ _ ?_ | refine hn1 _ ?_ | refine he1 _ _ ?_)
  obtain ⟨N, es, rfl, rfl, g, ham⟩ := mate_cases hma
  have hbm := (mateB_len hmb).2
  have A := mateB_Mt g hma
  have B := mateB_Mt g hmb
  have hbl : b.length = N := by omega
  have hN := g.hn
  have hE := g.hm
  refine wlk_sdraw fun KY hKY => ?_
  simp only [go_sem, reduceIte, Nat.reduceEqDiff, Nat.reduceBEq, reduceCtorEq, Nat.reduceLT, Nat.reduceAdd, c_walk_Apart_r5]
  refine (fun H => by refine ⟨⟨⟨⟨hKY _ ?_, hKY _ ?_⟩, hKY _ ?_⟩, ⟨⟨hKY _ ?_, hKY _ ?_⟩, hKY _ ?_⟩⟩, ⟨⟨⟨hKY _ ?_, hKY _ ?_⟩, hKY _ ?_⟩, hKY _ ?_⟩⟩ <;> (simp only [go_sem, reduceIte, Nat.reduceEqDiff, reduceCtorEq]; exact H)) ?_
  refine wlk_sreg fun KY hKY => ?_
  simp only [go_sem, reduceIte, Nat.reduceEqDiff, Nat.reduceBEq, reduceCtorEq, Nat.reduceLT, Nat.reduceAdd, c_walk_Apart_r6]
  refine hKY _ ?_
  refine sem_nil [0, 10, 1] 2 (by simp only [go_sem, reduceIte, Nat.reduceEqDiff, reduceCtorEq]) ?_
  simp only [go_sem, reduceIte, Nat.reduceEqDiff, reduceCtorEq]
  refine wlk_sreg fun KY hKY => ?_
  simp only [go_sem, reduceIte, Nat.reduceEqDiff, Nat.reduceBEq, reduceCtorEq, c_walk_Apart_r7, bools_zero, (show 1 * N ≤ 140737488355328 by omega), (show (N : Int) ≤ (N : Int) from Int.le_refl _), (show (N : Int) ≤ 9223372036854775807 by omega)]
  refine hKY _ ?_
  simp only [go_sem, reduceIte, Nat.reduceEqDiff, reduceCtorEq]
  rw [show AVal.own (some 2) [] = .own (some 2) (twos (castE (dif a b (es.take 0)))) from rfl, show AVal.own (some 1) (bools (List.replicate N false)) = .own (some 1) (bools (marks N (dif a b (es.take 0)))) from rfl]
  refine wlk_seq fun X3 hn3 he3 hr3 => ?_
  refine wlk_sreg fun KY hKY => ?_
  simp only [go_sem, reduceIte, Nat.reduceEqDiff, reduceCtorEq, c_walk_Apart_r8, twos_len, mul2, castE_len]
  refine hKY _ ?_
  refine wlk_blk fun X4 hn4 he4 hf4 hr4 => ?_
  try simp only [go_sem, reduceIte, Nat.reduceEqDiff, reduceCtorEq]
  refine wlk_lp (α := Nat) [13, 48, 63] (fun k => [(10, .own none [.sc (.int .i64 (N : Int)), .own (some 2) (twos (castE (dif a b (es.take k))))]), (11, .own (some 1) (bools (marks N (dif a b (es.take k))))), (47, .sc (.int .i64 (k : Int)))]) (fun k => []) (fun k q => k ≤ es.length ∧ q = es.length - k) (0) (es.length) rfl (by first | (simp only [go_sem, reduceIte, Nat.reduceEqDiff, reduceCtorEq, updAll_cons, updAll_nil]; done) | with_reducible rfl | rfl) (⟨by omega, rfl⟩) ?_
  rintro k q ⟨hk, rfl⟩ X5 hn5 he5 hr5
  simp only [go_sem, reduceIte, Nat.reduceEqDiff, reduceCtorEq, updAll_cons, updAll_nil]
  rcases Nat.lt_or_ge k es.length with hk2 | hk2
  · have hdy : decide ((k : Int) < (es.length : Int)) = true := decide_eq_true (by omega)
    refine wlk_sreg fun KY hKY => ?_
    simp only [go_sem, reduceIte, Nat.reduceEqDiff, reduceCtorEq, c_walk_Apart_r9, hdy]
    refine hKY _ ?_
    refine wlk_seq fun X6 hn6 he6 hr6 => ?_
    refine wlk_cond1 (by first | rfl | (simp only [go_sem, reduceIte, Nat.reduceEqDiff, Nat.reduceBEq, reduceCtorEq, Nat.reduceLT, Nat.reduceLeDiff, Nat.reduceAdd, Nat.reduceSub, Nat.reduceMul, Nat.reduceDiv, Int.reduceAdd, Int.reduceNeg, Int.reduceEq, Int.reduceLT, Int.reduceLE]; try simp (disch := omega) only [decide_eq_true, decide_eq_false])) ?_
    refine wlk_skip ?_
    repeat (first | refine hn6 _ ?_ | refine he6 _ _ ?_ | refine he5 _ _ ?_ | refine hn4 _ ?_ | refine he4 _ ?_ | refine hf4 _ _ (by decide) ?_ | refine hn3 _ ?_ | refine he3 _ _ ?_ | refine hn2 _ ?_ | refine he2 _ _ ?_ | refine hn1 _ ?_ | refine he1 _ _ ?_)
    refine wlk_seq fun X7 hn7 he7 hr7 => ?_
    refine wlk_blk fun X8 hn8 he8 hf8 hr8 => ?_
    have hx : es[k]? = some es[k] := List.getElem?_eq_getElem hk2
    have hxm : es[k] ∈ es := List.getElem_mem hk2
    generalize es[k] = x at hx hxm
    obtain ⟨u, v⟩ := x
    have hxc := castE_get hx
    have hok := g.ok (u, v) hxm
    simp only at hok
    have huN : u < N := by omega
    have hvN : v < N := hok.2
    have hds := dif_step a b hx
    refine wlk_sreg fun KY hKY => ?_
    simp only [go_sem, reduceIte, Nat.reduceEqDiff, reduceCtorEq, Nat.reduceLT, Nat.reduceAdd, c_walk_Apart_r10, (show k * 2 + 1 < es.length * 2 by omega), (show 1 < es.length * 2 - k * 2 by omega), two_cells hxc, List.length_drop, twos_len, castE_len]
    refine hKY _ ?_
    refine wlk_sdraw fun KY hKY => ?_
    simp only [go_sem, reduceIte, Nat.reduceEqDiff, Nat.reduceBEq, reduceCtorEq, c_walk_Apart_r11]
    refine call_view rfl (by simp only [go_sem, reduceIte, Nat.reduceEqDiff, reduceCtorEq] <;> rfl) ((wown_ok N (castE es) a (v : Int) (show u < a.length by omega)).mono ?_)
    rintro rr hh ⟨rfl, rfl⟩
    refine ⟨rfl, rfl, rfl, ?_⟩
    simp only [go_sem, reduceIte, Nat.reduceBEq, reduceCtorEq]
    refine call_view rfl (by simp only [go_sem, reduceIte, Nat.reduceEqDiff, reduceCtorEq] <;> rfl) ((wown_ok N (castE es) b (v : Int) (show u < b.length by omega)).mono ?_)
    rintro rr hh ⟨rfl, rfl⟩
    refine ⟨rfl, rfl, rfl, ?_⟩
    have hne : (decide (a.getD u 0 = (v : Int)) != decide (b.getD u 0 = (v : Int))) = (ow a u v != ow b u v) := rfl
    have hdl := dif_len a b (es.take k)
    rw [List.length_take] at hdl
    cases how : (ow a u v != ow b u v) with
    | true =>
      rw [if_pos how] at hds
      have hms := marks_snoc N (dif a b (es.take k)) u v
      have hml := marks_len N (dif a b (es.take k))
      rw [← hds] at hms
      have hcs : castE (dif a b (es.take k)) ++ [((u : Int), (v : Int))] = castE (dif a b (es.take (k + 1))) := by rw [hds]; simp [castE]
      simp only [go_sem, reduceIte, Nat.reduceEqDiff, reduceCtorEq, hne, how]
      refine hKY _ ?_
      refine wlk_cond1 (by first | rfl | (simp only [go_sem, reduceIte, Nat.reduceEqDiff, Nat.reduceBEq, reduceCtorEq, Nat.reduceLT, Nat.reduceLeDiff, Nat.reduceAdd, Nat.reduceSub, Nat.reduceMul, Nat.reduceDiv, Int.reduceAdd, Int.reduceNeg, Int.reduceEq, Int.reduceLT, Int.reduceLE]; try simp (disch := omega) only [decide_eq_true, decide_eq_false])) ?_
      refine wlk_sreg fun KY hKY => ?_
      simp only [go_sem, reduceIte, Nat.reduceEqDiff, Nat.reduceBEq, reduceCtorEq, Nat.reduceLT, Nat.reduceAdd, Nat.reduceMul, c_walk_Apart_r12, twos_snoc, hcs, twos_len, castE_len, (show ((dif a b (es.take k)).length * 2 + 2) * 16 ≤ 140737488355328 by omega)]
      refine hKY _ ?_
      refine wlk_draw fun KY hKY => ?_
      simp only [go_sem, reduceIte, Nat.reduceEqDiff, Nat.reduceBEq, reduceCtorEq, c_walk_Apart_r13, bools_len, hml, huN, hvN, List.length_set, bools_set, hms, (show ([0, 11] == [0, 13]) = false from rfl), Bool.not_false]
      refine hKY _ ?_
      repeat (first | refine hn8 _ ?_ | refine he8 _ ?_ | refine hf8 _ _ (by decide) ?_ | refine hn7 _ ?_ | refine he7 _ _ ?_ | refine hn6 _ ?_ | refine he6 _ _ ?_ | refine he5 _ _ ?_ | refine hn4 _ ?_ | refine he4 _ ?_ | refine hf4 _ _ (by decide) ?_ | refine hn3 _ ?_ | refine he3 _ _ ?_ | refine hn2 _ ?_ | refine he2 _ _ ?_ | refine hn1 _ ?_ | refine he1 _ _ ?_)
      refine wlk_reg fun KY hKY => ?_
      simp only [go_sem, reduceIte, Nat.reduceEqDiff, reduceCtorEq, c_walk_Apart_r14, incS (show k < 4611686018427387904 by omega)]
      refine hKY _ ?_
      repeat (first | refine hn8 _ ?_ | refine he8 _ ?_ | refine hf8 _ _ (by decide) ?_ | refine hn7 _ ?_ | refine he7 _ _ ?_ | refine hn6 _ ?_ | refine he6 _ _ ?_)
      refine hn5 _ (k + 1) (es.length - (k + 1)) (by omega) (by first | (simp only [go_sem, reduceIte, Nat.reduceEqDiff, reduceCtorEq, updAll_cons, updAll_nil]; done) | with_reducible rfl) ?_
      exact ⟨hk2, rfl⟩
    | false =>
      rw [if_neg (by rw [how]; exact Bool.false_ne_true)] at hds
      simp only [go_sem, reduceIte, Nat.reduceEqDiff, reduceCtorEq, hne, how]
      refine hKY _ ?_
      refine wlk_cond0 (by first | rfl | (simp only [go_sem, reduceIte, Nat.reduceEqDiff, Nat.reduceBEq, reduceCtorEq, Nat.reduceLT, Nat.reduceLeDiff, Nat.reduceAdd, Nat.reduceSub, Nat.reduceMul, Nat.reduceDiv, Int.reduceAdd, Int.reduceNeg, Int.reduceEq, Int.reduceLT, Int.reduceLE]; try simp (disch := omega) only [decide_eq_true, decide_eq_false])) ?_
      refine wlk_skip ?_
      repeat (first | refine hn8 _ ?_ | refine he8 _ ?_ | refine hf8 _ _ (by decide) ?_ | refine hn7 _ ?_ | refine he7 _ _ ?_ | refine hn6 _ ?_ | refine he6 _ _ ?_ | refine he5 _ _ ?_ | refine hn4 _ ?_ | refine he4 _ ?_ | refine hf4 _ _ (by decide) ?_ | refine hn3 _ ?_ | refine he3 _ _ ?_ | refine hn2 _ ?_ | refine he2 _ _ ?_ | refine hn1 _ ?_ | refine he1 _ _ ?_)
      refine wlk_reg fun KY hKY => ?_
      simp only [go_sem, reduceIte, Nat.reduceEqDiff, reduceCtorEq, c_walk_Apart_r14, incS (show k < 4611686018427387904 by omega)]
      refine hKY _ ?_
      repeat (first | refine hn8 _ ?_ | refine he8 _ ?_ | refine hf8 _ _ (by decide) ?_ | refine hn7 _ ?_ | refine he7 _ _ ?_ | refine hn6 _ ?_ | refine he6 _ _ ?_)
      refine hn5 _ (k + 1) (es.length - (k + 1)) (by omega) (by first | (simp only [go_sem, reduceIte, Nat.reduceEqDiff, reduceCtorEq, updAll_cons, updAll_nil, hds]; done) | with_reducible rfl) ?_
      exact ⟨hk2, rfl⟩
  obtain rfl : es.length = k := by omega
  have hdx : decide ((es.length : Int) < (es.length : Int)) = false := decide_eq_false (by omega)
  refine wlk_sreg fun KY hKY => ?_
  simp only [go_sem, reduceIte, Nat.reduceEqDiff, reduceCtorEq, c_walk_Apart_r9, hdx]
  refine hKY _ ?_
  refine wlk_seq fun X9 hn9 he9 hr9 => ?_
  refine wlk_cond0 (by first | rfl | (simp only [go_sem, reduceIte, Nat.reduceEqDiff, Nat.reduceBEq, reduceCtorEq, Nat.reduceLT, Nat.reduceLeDiff, Nat.reduceAdd, Nat.reduceSub, Nat.reduceMul, Nat.reduceDiv, Int.reduceAdd, Int.reduceNeg, Int.reduceEq, Int.reduceLT, Int.reduceLE]; try simp (disch := omega) only [decide_eq_true, decide_eq_false])) ?_
  refine wlk_exit ?_
  repeat (first | refine hn9 _ ?_ | refine he9 _ _ ?_ | refine he5 _ _ ?_ | refine hn4 _ ?_ | refine he4 _ ?_ | refine hf4 _ _ (by decide) ?_ | refine hn3 _ ?_ | refine he3 _ _ ?_ | refine hn2 _ ?_ | refine he2 _ _ ?_ | refine hn1 _ ?_ | refine he1 _ _ ?_)
  simp only [go_sem, reduceIte, Nat.reduceEqDiff, reduceCtorEq]
  rw [List.take_length]
  refine sem_freeze [0, 10, 1] (by simp only [go_sem, reduceIte, Nat.reduceEqDiff, reduceCtorEq]; rfl) ?_
  simp only [go_sem, reduceIte, Nat.reduceEqDiff, reduceCtorEq]
  refine wlk_sreg fun KY hKY => ?_
  simp only [go_sem, reduceIte, Nat.reduceEqDiff, reduceCtorEq, c_walk_Apart_r15]
  refine hKY _ ?_
  refine sem_nil [0, 14] 1 (by simp only [go_sem, reduceIte, Nat.reduceEqDiff, reduceCtorEq]) ?_
  simp only [go_sem, reduceIte, Nat.reduceEqDiff, reduceCtorEq]
  refine wlk_seq fun X10 hn10 he10 hr10 => ?_
  refine wlk_sreg fun KY hKY => ?_
  simp only [go_sem, reduceIte, Nat.reduceEqDiff, reduceCtorEq, Nat.reduceLT, Nat.reduceAdd, c_walk_Apart_r16]
  refine call_view rfl (by simp only [go_sem, reduceIte, Nat.reduceEqDiff, reduceCtorEq] <;> rfl) ((all_ok (dif_GR a b g)).mono ?_)
  rintro rr hh ⟨⟨ps, hps, rfl⟩, rfl⟩
  refine ⟨?_, ?_, ?_, ?_⟩
  iterate 3 (first | rfl | simp only [go_sem])
  simp only [go_sem, reduceIte, Nat.reduceEqDiff, reduceCtorEq, rowsO_len]
  refine hKY _ ?_
  simp only [go_sem, reduceIte, Nat.reduceEqDiff, reduceCtorEq]
  rw [show AVal.own (some 1) [] = .own (some 1) (rowsO ((ps.take 0).filter fun p => btw a b (p.headD 0))) from rfl]
  rw [show AVal.own (some 1) (rowsO ps) = .own (some 1) (gone 0 ps) by rw [gone_zero]]
  have hpl : ps.length ≤ N := pieces_len hps
  refine wlk_blk fun X11 hn11 he11 hf11 hr11 => ?_
  try simp only [go_sem]
  refine wlk_lp (α := Nat) [16, 83, 91] (fun k => [(14, .own (some 1) (rowsO ((ps.take k).filter fun p => btw a b (p.headD 0)))), (80, .own (some 1) (gone k ps)), (82, .sc (.int .i64 (k : Int)))]) (fun k => []) (fun k q => k ≤ ps.length ∧ q = ps.length - k) (0) (ps.length) rfl (by first | (simp only [go_sem, reduceIte, Nat.reduceEqDiff, reduceCtorEq, updAll_cons, updAll_nil]; done) | with_reducible rfl | rfl) (⟨by omega, rfl⟩) ?_
  rintro k q ⟨hk, rfl⟩ X12 hn12 he12 hr12
  simp only [go_sem, reduceIte, Nat.reduceEqDiff, reduceCtorEq, updAll_cons, updAll_nil]
  rcases Nat.lt_or_ge k ps.length with hk2 | hk2
  · have hdy : decide ((k : Int) < (ps.length : Int)) = true := decide_eq_true (by omega)
    refine wlk_sreg fun KY hKY => ?_
    simp only [go_sem, reduceIte, Nat.reduceEqDiff, reduceCtorEq, c_walk_Apart_r17, hdy]
    refine hKY _ ?_
    refine wlk_seq fun X13 hn13 he13 hr13 => ?_
    refine wlk_cond1 (by first | rfl | (simp only [go_sem, reduceIte, Nat.reduceEqDiff, Nat.reduceBEq, reduceCtorEq, Nat.reduceLT, Nat.reduceLeDiff, Nat.reduceAdd, Nat.reduceSub, Nat.reduceMul, Nat.reduceDiv, Int.reduceAdd, Int.reduceNeg, Int.reduceEq, Int.reduceLT, Int.reduceLE]; try simp (disch := omega) only [decide_eq_true, decide_eq_false])) ?_
    refine wlk_skip ?_
    repeat (first | refine hn13 _ ?_ | refine he13 _ _ ?_ | refine he12 _ _ ?_ | refine hn11 _ ?_ | refine he11 _ ?_ | refine hf11 _ _ (by decide) ?_ | refine hn10 _ ?_ | refine he10 _ _ ?_ | refine hn9 _ ?_ | refine he9 _ _ ?_)
    refine wlk_seq fun X14 hn14 he14 hr14 => ?_
    refine wlk_blk fun X15 hn15 he15 hf15 hr15 => ?_
    have hp : ps[k]? = some ps[k] := List.getElem?_eq_getElem hk2
    have hpm : ps[k] ∈ ps := List.getElem_mem hk2
    have htk : ps.take (k + 1) = ps.take k ++ [ps[k]] := by rw [List.take_add_one, hp]; rfl
    generalize ps[k] = p at hp hpm htk
    have hne := hps.ne p hpm
    obtain ⟨c, p', rfl⟩ := List.exists_cons_of_ne_nil hne
    have hcN : c < N := ((hps.mem c).1 ⟨_, hpm, by simp⟩).1
    have hg0 : (nats (c :: p'))[0]? = some (.sc (.int .i64 (c : Int))) := rfl
    have hpos : 0 < p'.length + 1 := by omega
    have hml := marks_len N (dif a b es)
    have hmg : (bools (marks N (dif a b es)))[c]? = some (.sc (.bool (btw a b c))) := by rw [bools_get (by omega), marks_in g A B hcN]
    have hfl := List.length_filter_le (fun p => btw a b (p.headD 0)) (ps.take k)
    rw [List.length_take] at hfl
    have hff : (ps.take (k + 1)).filter (fun p => btw a b (p.headD 0)) = (ps.take k).filter (fun p => btw a b (p.headD 0)) ++ [c :: p'].filter (fun p => btw a b (p.headD 0)) := by rw [htk, List.filter_append]
    generalize (ps.take k).filter (fun p => btw a b (p.headD 0)) = fk at hff hfl
    refine wlk_sreg fun KY hKY => ?_
    simp only [go_sem, reduceIte, Nat.reduceEqDiff, Nat.reduceBEq, reduceCtorEq, c_walk_Apart_r18, gone_get hp, hk2, gone_len hk, gone_set hk2]
    refine hKY _ ?_
    cases hb : btw a b c with
    | true =>
      have hff : (ps.take (k + 1)).filter (fun p => btw a b (p.headD 0)) = fk ++ [c :: p'] := by rw [hff, List.filter_cons, if_pos (show btw a b ((c :: p').headD 0) = true from hb)]; rfl
      rw [hb] at hmg
      refine wlk_sreg fun KY hKY => ?_
      simp only [go_sem, reduceIte, Nat.reduceEqDiff, reduceCtorEq, Int.reduceLE, c_walk_Apart_r19, hg0, hpos, hmg, bools_len, hml, hcN]
      refine hKY _ ?_
      refine wlk_cond1 (by first | rfl | (simp only [go_sem, reduceIte, Nat.reduceEqDiff, Nat.reduceBEq, reduceCtorEq, Nat.reduceLT, Nat.reduceLeDiff, Nat.reduceAdd, Nat.reduceSub, Nat.reduceMul, Nat.reduceDiv, Int.reduceAdd, Int.reduceNeg, Int.reduceEq, Int.reduceLT, Int.reduceLE]; try simp (disch := omega) only [decide_eq_true, decide_eq_false])) ?_
      refine wlk_reg fun KY hKY => ?_
      simp only [go_sem, reduceIte, Nat.reduceEqDiff, Nat.reduceBEq, reduceCtorEq, Nat.reduceLT, c_walk_Apart_r20, rowsO_snoc, rowsO_len, (show (fk.length + 1) * 24 ≤ 140737488355328 by omega), ← hff]
      refine hKY _ ?_
      repeat (first | refine hn15 _ ?_ | refine he15 _ ?_ | refine hf15 _ _ (by decide) ?_ | refine hn14 _ ?_ | refine he14 _ _ ?_ | refine hn13 _ ?_ | refine he13 _ _ ?_ | refine he12 _ _ ?_ | refine hn11 _ ?_ | refine he11 _ ?_ | refine hf11 _ _ (by decide) ?_ | refine hn10 _ ?_ | refine he10 _ _ ?_ | refine hn9 _ ?_ | refine he9 _ _ ?_)
      refine wlk_reg fun KY hKY => ?_
      simp only [go_sem, reduceIte, Nat.reduceEqDiff, reduceCtorEq, c_walk_Apart_r21, incS (show k < 4611686018427387904 by omega)]
      refine hKY _ ?_
      repeat (first | refine hn15 _ ?_ | refine he15 _ ?_ | refine hf15 _ _ (by decide) ?_ | refine hn14 _ ?_ | refine he14 _ _ ?_ | refine hn13 _ ?_ | refine he13 _ _ ?_)
      refine hn12 _ (k + 1) (ps.length - (k + 1)) (by omega) (by first | (simp only [go_sem, reduceIte, Nat.reduceEqDiff, reduceCtorEq, updAll_cons, updAll_nil]; done) | with_reducible rfl) ?_
      exact ⟨hk2, rfl⟩
    | false =>
      have hff : (ps.take (k + 1)).filter (fun p => btw a b (p.headD 0)) = fk := by rw [hff, List.filter_cons, if_neg (by rw [List.headD_cons, hb]; exact Bool.false_ne_true)]; simp
      rw [hb] at hmg
      refine wlk_sreg fun KY hKY => ?_
      simp only [go_sem, reduceIte, Nat.reduceEqDiff, reduceCtorEq, Int.reduceLE, c_walk_Apart_r19, hg0, hpos, hmg, bools_len, hml, hcN]
      refine hKY _ ?_
      refine wlk_cond0 (by first | rfl | (simp only [go_sem, reduceIte, Nat.reduceEqDiff, Nat.reduceBEq, reduceCtorEq, Nat.reduceLT, Nat.reduceLeDiff, Nat.reduceAdd, Nat.reduceSub, Nat.reduceMul, Nat.reduceDiv, Int.reduceAdd, Int.reduceNeg, Int.reduceEq, Int.reduceLT, Int.reduceLE]; try simp (disch := omega) only [decide_eq_true, decide_eq_false])) ?_
      refine wlk_skip ?_
      repeat (first | refine hn15 _ ?_ | refine he15 _ ?_ | refine hf15 _ _ (by decide) ?_ | refine hn14 _ ?_ | refine he14 _ _ ?_ | refine hn13 _ ?_ | refine he13 _ _ ?_ | refine he12 _ _ ?_ | refine hn11 _ ?_ | refine he11 _ ?_ | refine hf11 _ _ (by decide) ?_ | refine hn10 _ ?_ | refine he10 _ _ ?_ | refine hn9 _ ?_ | refine he9 _ _ ?_)
      refine wlk_reg fun KY hKY => ?_
      simp only [go_sem, reduceIte, Nat.reduceEqDiff, reduceCtorEq, c_walk_Apart_r21, incS (show k < 4611686018427387904 by omega)]
      refine hKY _ ?_
      repeat (first | refine hn15 _ ?_ | refine he15 _ ?_ | refine hf15 _ _ (by decide) ?_ | refine hn14 _ ?_ | refine he14 _ _ ?_ | refine hn13 _ ?_ | refine he13 _ _ ?_)
      refine hn12 _ (k + 1) (ps.length - (k + 1)) (by omega) (by first | (simp only [go_sem, reduceIte, Nat.reduceEqDiff, reduceCtorEq, updAll_cons, updAll_nil, hff]; done) | with_reducible rfl) ?_
      exact ⟨hk2, rfl⟩
  obtain rfl : ps.length = k := by omega
  have hdx : decide ((ps.length : Int) < (ps.length : Int)) = false := decide_eq_false (by omega)
  refine wlk_sreg fun KY hKY => ?_
  simp only [go_sem, reduceIte, Nat.reduceEqDiff, reduceCtorEq, c_walk_Apart_r17, hdx]
  refine hKY _ ?_
  refine wlk_seq fun X16 hn16 he16 hr16 => ?_
  refine wlk_cond0 (by first | rfl | (simp only [go_sem, reduceIte, Nat.reduceEqDiff, Nat.reduceBEq, reduceCtorEq, Nat.reduceLT, Nat.reduceLeDiff, Nat.reduceAdd, Nat.reduceSub, Nat.reduceMul, Nat.reduceDiv, Int.reduceAdd, Int.reduceNeg, Int.reduceEq, Int.reduceLT, Int.reduceLE]; try simp (disch := omega) only [decide_eq_true, decide_eq_false])) ?_
  refine wlk_exit ?_
  repeat (first | refine hn16 _ ?_ | refine he16 _ _ ?_ | refine he12 _ _ ?_ | refine hn11 _ ?_ | refine he11 _ ?_ | refine hf11 _ _ (by decide) ?_ | refine hn10 _ ?_ | refine he10 _ _ ?_ | refine hn9 _ ?_ | refine he9 _ _ ?_ | refine he5 _ _ ?_ | refine hn4 _ ?_ | refine he4 _ ?_ | refine hf4 _ _ (by decide) ?_ | refine hn3 _ ?_ | refine he3 _ _ ?_ | refine hn2 _ ?_ | refine he2 _ _ ?_ | refine hn1 _ ?_ | refine he1 _ _ ?_)
  refine wlk_sreg fun KY hKY => ?_
  simp only [go_sem, reduceIte, Nat.reduceEqDiff, reduceCtorEq, c_walk_Apart_r22]
  refine hKY _ ?_
  simp only [go_sem, reduceIte, Nat.reduceEqDiff, reduceCtorEq]
  rw [List.take_length]
  refine wlk_ret ?_
  repeat (first | refine hr16 _ ?_ | refine hr12 _ ?_ | refine hr11 _ ?_ | refine hr10 _ ?_ | refine hr9 _ ?_ | refine hr5 _ ?_ | refine hr4 _ ?_ | refine hr3 _ ?_ | refine hr2 _ ?_ | refine hr1 _ ?_)
  simp only [go_sem, reduceIte, Nat.reduceEqDiff, reduceCtorEq]
  exact ⟨_, 0, .inr (.inr ⟨hr, by rw [hma, hmb]; rfl, N, es, ps, rfl, rfl, hps, rfl, rfl⟩), rfl⟩
end Go.Proofs.Ytoefhbfgmceikaa
set_option maxRecDepth 100000
set_option maxHeartbeats 4000000
namespace Go.Proofs.Ytoefhbfgmceikaa
open Go Go.Ga Go.Ga.Gl
theorem umod8 (x : Int) : ∃ m : Nat, m < 8 ∧ (IntKind.u64.wrap x).tmod 8 = (m : Int) := by
  rw [IntKind.wrap_u64]
  refine ⟨((x % 18446744073709551616).tmod 8).toNat, ?_, ?_⟩
  · rw [Int.tmod_eq_emod_of_nonneg (by omega)]; omega
  · rw [Int.tmod_eq_emod_of_nonneg (by omega)]; omega
theorem wflips_ok (x : Int) (ends : List Int) (hends : ends.length ≤ 1000000000) : ACalls Try.prog [] n_garlandlaw09_WalkFlips [.sc (.int .i64 x), .imm 1 (ints ends)] [] fun r h' => r = .sc (.bool true) ∧ h' = [] := by
  refine ACalls.trim ?_
  obtain ⟨m, hm, hmw⟩ := umod8 x
  have ht := turned_is (show m < 20 by omega)
  have hfl := flips_is hm
  have hmi : IntKind.i64.wrap (m : Int) = (m : Int) := IntWalk.i64_in _ (by omega)
  have hm2 : IntKind.i64.wrap (2 * (m : Int)) = ((2 * m : Nat) : Int) := by rw [IntWalk.i64_in _ (by omega)]; omega
  have hm3 : IntKind.i64.wrap (2 + ((2 * m : Nat) : Int)) = ((2 + 2 * m : Nat) : Int) := by rw [IntWalk.i64_in _ (by omega)]; omega
  refine go_garlandlaw09_WalkFlips rfl ?_
  unfold c_garlandlaw09_WalkFlips v_garlandlaw09_WalkFlips
  refine wlk_sreg fun KY hKY => ?_
  simp only [go_sem, reduceIte, Nat.reduceEqDiff, reduceCtorEq, c_garlandlaw09_WalkFlips_r0]
  refine hKY _ ?_
  refine wlk_sreg fun KY hKY => ?_
  simp only [go_sem, reduceIte, Nat.reduceEqDiff, reduceCtorEq, Int.reduceEq, c_garlandlaw09_WalkFlips_r1, hmw, hmi, hm2, hm3]
  generalize hn : 2 + 2 * m = n at ht hm3 hfl
  refine hKY _ ?_
  have hn4 : IntKind.i64.wrap ((n : Int) + 4) = ((n + 4 : Nat) : Int) := by rw [IntWalk.i64_in _ (by omega)]; omega
  refine wlk_sreg fun KY hKY => ?_
  simp only [go_sem, reduceIte, Nat.reduceEqDiff, reduceCtorEq, c_garlandlaw09_WalkFlips_r2, hn4]
  apply call_gen [] [] false none rfl
  iterate 8 (first | (simp only [go_sem, reduceIte, Nat.reduceEqDiff, reduceCtorEq, watchIn] <;> rfl) | rfl)
  refine (small_ok ((n + 4 : Nat) : Int) ends (n + 4) 20 (by omega) (by omega) (by omega)).mono ?_
  rintro _ _ ⟨⟨N, gs, gg, hN, hgs, rfl⟩, rfl⟩
  refine ⟨Nat.le_of_ble_eq_true rfl, (fun hh => by cases hh), ?_⟩
  simp only [go_sem, reduceIte, Nat.reduceEqDiff, reduceCtorEq, Nat.reduceLT, Nat.reduceAdd, callOut, AState.after]
  refine hKY _ ?_
  refine wlk_sreg fun KY hKY => ?_
  simp only [go_sem, reduceIte, Nat.reduceEqDiff, reduceCtorEq, Nat.reduceLT, Nat.reduceAdd, c_garlandlaw09_WalkFlips_r3]
  refine hKY _ ?_
  refine sem_nil [0, 6, 1] 2 (by simp only [go_sem, reduceIte, Nat.reduceEqDiff, reduceCtorEq]) ?_
  simp only [go_sem, reduceIte, Nat.reduceEqDiff, reduceCtorEq]
  refine wlk_sreg fun KY hKY => ?_
  simp only [go_sem, reduceIte, Nat.reduceEqDiff, reduceCtorEq, Nat.reduceLT, c_garlandlaw09_WalkFlips_r4]
  refine hKY _ ?_
  refine wlk_sreg fun KY hKY => ?_
  simp only [go_sem, reduceIte, Nat.reduceEqDiff, reduceCtorEq, Nat.reduceLT, Int.reduceAdd, Int.reduceNeg, c_garlandlaw09_WalkFlips_r5]
  refine hKY _ ?_
  refine wlk_seq fun X1 hn1 he1 hr1 => ?_
  refine wlk_sreg fun KY hKY => ?_
  simp only [go_sem, reduceIte, Nat.reduceEqDiff, reduceCtorEq, Int.reduceNeg, c_garlandlaw09_WalkFlips_r6]
  refine hKY _ ?_
  refine wlk_blk fun X2 hn2 he2 hf2 hr2 => ?_
  try simp only [go_sem, reduceIte, Nat.reduceEqDiff, reduceCtorEq, Int.reduceNeg]
  refine wlk_lp (α := Nat) [37] (fun k => [(6, .own none [.sc (.int .i64 (n : Int)), .own (some 2) (twos (castE (pE k)))]), (8, .own (some 1) (ints (mV k))), (7, .own (some 1) (ints (pV k))), (9, .sc (.int .i64 (k : Int)))]) (fun k => []) (fun k q => (1 ≤ k ∧ k ≤ n) ∧ q = n - k) (1) (n - 1) rfl (by first | (simp only [go_sem, reduceIte, Nat.reduceEqDiff, reduceCtorEq, Int.reduceNeg, updAll_cons, updAll_nil]; done) | with_reducible rfl | rfl) (⟨by omega, rfl⟩) ?_
  rintro k q ⟨⟨hk1, hk⟩, rfl⟩ X3 hn3 he3 hr3
  simp only [go_sem, reduceIte, Nat.reduceEqDiff, reduceCtorEq, Int.reduceNeg, updAll_cons, updAll_nil]
  rcases Nat.lt_or_ge k n with hk2 | hk2
  · have hdy : decide ((k : Int) < (n : Int)) = true := decide_eq_true (by omega)
    refine wlk_seq fun X4 hn4 he4 hr4 => ?_
    refine wlk_sreg fun KY hKY => ?_
    simp only [go_sem, reduceIte, Nat.reduceEqDiff, reduceCtorEq, c_garlandlaw09_WalkFlips_r7, hdy]
    refine hKY _ ?_
    refine wlk_cond1 (by first | rfl | (simp only [go_sem, reduceIte, Nat.reduceEqDiff, Nat.reduceBEq, reduceCtorEq, Nat.reduceLT, Nat.reduceLeDiff, Nat.reduceAdd, Nat.reduceSub, Nat.reduceMul, Nat.reduceDiv, Int.reduceAdd, Int.reduceNeg, Int.reduceEq, Int.reduceLT, Int.reduceLE]; try simp (disch := omega) only [decide_eq_true, decide_eq_false])) ?_
    refine wlk_skip ?_
    repeat (first | refine hn4 _ ?_ | refine he4 _ _ ?_ | refine he3 _ _ ?_ | refine hn2 _ ?_ | refine he2 _ ?_ | refine hf2 _ _ (by decide) ?_ | refine hn1 _ ?_ | refine he1 _ _ ?_)
    refine wlk_seq fun X5 hn5 he5 hr5 => ?_
    refine wlk_blk fun X6 hn6 he6 hf6 hr6 => ?_
    have hd1 : IntKind.i64.wrap ((k : Int) - 1) = ((k - 1 : Nat) : Int) := by rw [IntWalk.i64_in _ (by omega)]; omega
    have hsz : (castE (pE k)).length = k - 1 := by rw [castE_len, pE_len]
    refine wlk_sreg fun KY hKY => ?_
    simp only [go_sem, reduceIte, Nat.reduceEqDiff, Nat.reduceBEq, reduceCtorEq, Nat.reduceLT, Nat.reduceAdd, Nat.reduceMul, c_garlandlaw09_WalkFlips_r8, hd1, twos_snoc, pE_snoc hk1, twos_len, hsz, (show ((k - 1) * 2 + 2) * 16 ≤ 140737488355328 by omega)]
    refine hKY _ ?_
    refine wlk_sreg fun KY hKY => ?_
    simp only [go_sem, reduceIte, Nat.reduceEqDiff, reduceCtorEq, Nat.reduceLT, c_garlandlaw09_WalkFlips_r9, ints_snoc, pV_snoc, ints_len, pV_len, (show (k + 1) * 8 ≤ 140737488355328 by omega)]
    refine hKY _ ?_
    refine wlk_reg fun KY hKY => ?_
    simp only [go_sem, reduceIte, Nat.reduceEqDiff, reduceCtorEq, Nat.reduceLT, Int.reduceAdd, Int.reduceNeg, c_garlandlaw09_WalkFlips_r10, ints_snoc, mV_snoc, ints_len, mV_len, (show (k + 1) * 8 ≤ 140737488355328 by omega)]
    refine hKY _ ?_
    repeat (first | refine hn6 _ ?_ | refine he6 _ ?_ | refine hf6 _ _ (by decide) ?_ | refine hn5 _ ?_ | refine he5 _ _ ?_ | refine hn4 _ ?_ | refine he4 _ _ ?_ | refine he3 _ _ ?_ | refine hn2 _ ?_ | refine he2 _ ?_ | refine hf2 _ _ (by decide) ?_ | refine hn1 _ ?_ | refine he1 _ _ ?_)
    refine wlk_reg fun KY hKY => ?_
    simp only [go_sem, reduceIte, Nat.reduceEqDiff, reduceCtorEq, Int.reduceNeg, c_garlandlaw09_WalkFlips_r11, incS (show k < 4611686018427387904 by omega)]
    refine hKY _ ?_
    repeat (first | refine hn6 _ ?_ | refine he6 _ ?_ | refine hf6 _ _ (by decide) ?_ | refine hn5 _ ?_ | refine he5 _ _ ?_ | refine hn4 _ ?_ | refine he4 _ _ ?_)
    refine hn3 _ (k + 1) (n - (k + 1)) (by omega) (by first | (simp only [go_sem, reduceIte, Nat.reduceEqDiff, reduceCtorEq, Int.reduceNeg, updAll_cons, updAll_nil]; done) | with_reducible rfl) ?_
    exact ⟨⟨by omega, by omega⟩, rfl⟩
  obtain rfl : n = k := by omega
  have hdx : decide ((n : Int) < (n : Int)) = false := decide_eq_false (by omega)
  refine wlk_seq fun X7 hn7 he7 hr7 => ?_
  refine wlk_sreg fun KY hKY => ?_
  simp only [go_sem, reduceIte, Nat.reduceEqDiff, reduceCtorEq, c_garlandlaw09_WalkFlips_r7, hdx]
  refine hKY _ ?_
  refine wlk_cond0 (by first | rfl | (simp only [go_sem, reduceIte, Nat.reduceEqDiff, Nat.reduceBEq, reduceCtorEq, Nat.reduceLT, Nat.reduceLeDiff, Nat.reduceAdd, Nat.reduceSub, Nat.reduceMul, Nat.reduceDiv, Int.reduceAdd, Int.reduceNeg, Int.reduceEq, Int.reduceLT, Int.reduceLE]; try simp (disch := omega) only [decide_eq_true, decide_eq_false])) ?_
  refine wlk_exit ?_
  repeat (first | refine hn7 _ ?_ | refine he7 _ _ ?_ | refine he3 _ _ ?_ | refine hn2 _ ?_ | refine he2 _ ?_ | refine hf2 _ _ (by decide) ?_ | refine hn1 _ ?_ | refine he1 _ _ ?_)
  simp only [go_sem, reduceIte, Nat.reduceEqDiff, reduceCtorEq]
  refine wlk_seq fun X8 hn8 he8 hr8 => ?_
  refine wlk_sreg fun KY hKY => ?_
  simp only [go_sem, reduceIte, Nat.reduceEqDiff, reduceCtorEq, c_garlandlaw09_WalkFlips_r12]
  refine hKY _ ?_
  refine wlk_blk fun X9 hn9 he9 hf9 hr9 => ?_
  have hnn : n = 2 + 2 * m := hn.symm
  try simp only [go_sem, reduceIte, Nat.reduceEqDiff, reduceCtorEq]
  refine wlk_lp (α := Nat) [59] (fun j => [(8, .own (some 1) (ints (mM n j))), (10, .sc (.int .i64 ((2 * j + 1 : Nat) : Int)))]) (fun j => []) (fun j q => j ≤ m ∧ q = m - j) (0) (m) rfl (by first | (simp only [go_sem, reduceIte, Nat.reduceEqDiff, reduceCtorEq, Nat.reduceMul, updAll_cons, updAll_nil]; done) | with_reducible rfl | rfl) (⟨by omega, rfl⟩) ?_
  rintro j q ⟨hk, rfl⟩ X10 hn10 he10 hr10
  simp only [go_sem, reduceIte, Nat.reduceEqDiff, reduceCtorEq, updAll_cons, updAll_nil]
  rcases Nat.lt_or_ge j m with hk2 | hk2
  · have hdyz : decide (((2 * j + 2 : Nat) : Int) < (n : Int)) = true := decide_eq_true (by omega)
    refine wlk_seq fun X11 hn11 he11 hr11 => ?_
    have hj1 : IntKind.i64.wrap (((2 * j + 1 : Nat) : Int) + 1) = ((2 * j + 2 : Nat) : Int) := by rw [IntWalk.i64_in _ (by omega)]; omega
    refine wlk_sreg fun KY hKY => ?_
    simp only [go_sem, reduceIte, Nat.reduceEqDiff, reduceCtorEq, c_garlandlaw09_WalkFlips_r13, hj1, hdyz]
    refine hKY _ ?_
    refine wlk_cond1 (by first | rfl | (simp only [go_sem, reduceIte, Nat.reduceEqDiff, Nat.reduceBEq, reduceCtorEq, Nat.reduceLT, Nat.reduceLeDiff, Nat.reduceAdd, Nat.reduceSub, Nat.reduceMul, Nat.reduceDiv, Int.reduceAdd, Int.reduceNeg, Int.reduceEq, Int.reduceLT, Int.reduceLE]; try simp (disch := omega) only [decide_eq_true, decide_eq_false])) ?_
    refine wlk_skip ?_
    repeat (first | refine hn11 _ ?_ | refine he11 _ _ ?_ | refine he10 _ _ ?_ | refine hn9 _ ?_ | refine he9 _ ?_ | refine hf9 _ _ (by decide) ?_ | refine hn8 _ ?_ | refine he8 _ _ ?_ | refine hn7 _ ?_ | refine he7 _ _ ?_)
    refine wlk_seq fun X12 hn12 he12 hr12 => ?_
    refine wlk_blk fun X13 hn13 he13 hf13 hr13 => ?_
    have hM := mM_len n j
    have hl1 : 2 * j + 1 < n := by omega
    have hl2 : 2 * j + 2 < n := by omega
    have hset : ((mM n j).set (2 * j + 1) ((2 * j + 2 : Nat) : Int)).set (2 * j + 2) ((2 * j + 1 : Nat) : Int) = mM n (j + 1) := rfl
    generalize hG : mM n (j + 1) = M' at hset
    generalize mM n j = M at hM hset
    refine wlk_reg fun KY hKY => ?_
    simp only [go_sem, reduceIte, Nat.reduceEqDiff, reduceCtorEq, c_garlandlaw09_WalkFlips_r14, hj1, ints_len, hM, hl1, hl2, List.length_set, ints_set, hset]
    refine hKY _ ?_
    repeat (first | refine hn13 _ ?_ | refine he13 _ ?_ | refine hf13 _ _ (by decide) ?_ | refine hn12 _ ?_ | refine he12 _ _ ?_ | refine hn11 _ ?_ | refine he11 _ _ ?_ | refine he10 _ _ ?_ | refine hn9 _ ?_ | refine he9 _ ?_ | refine hf9 _ _ (by decide) ?_ | refine hn8 _ ?_ | refine he8 _ _ ?_ | refine hn7 _ ?_ | refine he7 _ _ ?_)
    have hi2 : IntKind.i64.wrap (((2 * j + 1 : Nat) : Int) + 2) = ((2 * (j + 1) + 1 : Nat) : Int) := by rw [IntWalk.i64_in _ (by omega)]; omega
    refine wlk_reg fun KY hKY => ?_
    simp only [go_sem, reduceIte, Nat.reduceEqDiff, reduceCtorEq, c_garlandlaw09_WalkFlips_r15, hi2]
    refine hKY _ ?_
    repeat (first | refine hn13 _ ?_ | refine he13 _ ?_ | refine hf13 _ _ (by decide) ?_ | refine hn12 _ ?_ | refine he12 _ _ ?_ | refine hn11 _ ?_ | refine he11 _ _ ?_)
    refine hn10 _ (j + 1) (m - (j + 1)) (by omega) (by first | (simp only [go_sem, reduceIte, Nat.reduceEqDiff, reduceCtorEq, updAll_cons, updAll_nil, hG]; done) | with_reducible rfl) ?_
    exact ⟨by omega, rfl⟩
  obtain rfl : m = j := by omega
  have hj1 : IntKind.i64.wrap (((2 * m + 1 : Nat) : Int) + 1) = ((2 * m + 2 : Nat) : Int) := by rw [IntWalk.i64_in _ (by omega)]; omega
  have hdx : decide (((2 * m + 2 : Nat) : Int) < (n : Int)) = false := decide_eq_false (by omega)
  refine wlk_seq fun X14 hn14 he14 hr14 => ?_
  refine wlk_sreg fun KY hKY => ?_
  simp only [go_sem, reduceIte, Nat.reduceEqDiff, reduceCtorEq, c_garlandlaw09_WalkFlips_r13, hj1, hdx]
  refine hKY _ ?_
  refine wlk_cond0 (by first | rfl | (simp only [go_sem, reduceIte, Nat.reduceEqDiff, Nat.reduceBEq, reduceCtorEq, Nat.reduceLT, Nat.reduceLeDiff, Nat.reduceAdd, Nat.reduceSub, Nat.reduceMul, Nat.reduceDiv, Int.reduceAdd, Int.reduceNeg, Int.reduceEq, Int.reduceLT, Int.reduceLE]; try simp (disch := omega) only [decide_eq_true, decide_eq_false])) ?_
  refine wlk_exit ?_
  repeat (first | refine hn14 _ ?_ | refine he14 _ _ ?_ | refine he10 _ _ ?_ | refine hn9 _ ?_ | refine he9 _ ?_ | refine hf9 _ _ (by decide) ?_ | refine hn8 _ ?_ | refine he8 _ _ ?_ | refine hn7 _ ?_ | refine he7 _ _ ?_ | refine he3 _ _ ?_ | refine hn2 _ ?_ | refine he2 _ ?_ | refine hf2 _ _ (by decide) ?_ | refine hn1 _ ?_ | refine he1 _ _ ?_)
  have hM := mM_len n m
  generalize mM n m = M at ht hM hfl
  simp only [go_sem, reduceIte, Nat.reduceEqDiff, reduceCtorEq]
  refine sem_freeze [0, 6, 1] (by simp only [go_sem, reduceIte, Nat.reduceEqDiff, reduceCtorEq]; rfl) ?_
  simp only [go_sem, reduceIte, Nat.reduceEqDiff, reduceCtorEq]
  refine sem_freeze [0, 7] (by simp only [go_sem, reduceIte, Nat.reduceEqDiff, reduceCtorEq]; rfl) ?_
  simp only [go_sem, reduceIte, Nat.reduceEqDiff, reduceCtorEq]
  refine sem_freeze [0, 8] (by simp only [go_sem, reduceIte, Nat.reduceEqDiff, reduceCtorEq]; rfl) ?_
  simp only [go_sem, reduceIte, Nat.reduceEqDiff, reduceCtorEq]
  have gp : GR n (pE n) := GR_rightB (mateB_len ht.m).1
  refine wlk_seq fun X15 hn15 he15 hr15 => ?_
  refine wlk_sreg fun KY hKY => ?_
  simp only [go_sem, reduceIte, Nat.reduceEqDiff, reduceCtorEq, c_garlandlaw09_WalkFlips_r16]
  refine hKY _ ?_
  refine wlk_blk fun X16 hn16 he16 hf16 hr16 => ?_
  try simp only [go_sem, reduceIte, Nat.reduceEqDiff, reduceCtorEq]
  refine wlk_lp (α := Nat × Es) [12, 13, 14, 80, 99, 107] (fun (k, es) => [(6, .own none [.sc (.int .i64 (n : Int)), .imm 2 (twos (castE es))]), (11, .sc (.int .i64 (k : Int)))]) (fun (k, es) => []) (fun (k, es) q => k ≤ 6 ∧ q = 6 - k ∧ k ≤ gs.length ∧ GR n es ∧ (∀ e ∈ pE n, e ∈ es) ∧ es.length ≤ n + k) ((0, pE n)) (6) rfl (by first | (simp only [go_sem, reduceIte, Nat.reduceEqDiff, reduceCtorEq, updAll_cons, updAll_nil]; done) | with_reducible rfl | rfl) (⟨by omega, rfl, by omega, gp, fun _ h => h, by rw [pE_len]; omega⟩) ?_
  rintro ⟨k, es⟩ q ⟨hk6, rfl, hkg, g, hs, hel⟩ X17 hn17 he17 hr17
  simp only [go_sem, reduceIte, Nat.reduceEqDiff, reduceCtorEq, updAll_cons, updAll_nil]
  rcases (show (k < gs.length ∧ k < 6) ∨ (gs.length ≤ k ∨ 6 ≤ k) by omega) with ⟨hk2, hk3⟩ | hk2
  · have hda : decide ((k : Int) < (gs.length : Int)) = true := decide_eq_true (by omega)
    have hdb : decide ((k : Int) < 6) = true := decide_eq_true (by omega)
    refine wlk_seq fun X18 hn18 he18 hr18 => ?_
    refine wlk_sreg fun KY hKY => ?_
    simp only [go_sem, reduceIte, Nat.reduceEqDiff, reduceCtorEq, c_garlandlaw09_WalkFlips_r17, twos_len, mul2, castE_len, hda, hdb]
    refine hKY _ ?_
    refine wlk_cond1 (by first | rfl | (simp only [go_sem, reduceIte, Nat.reduceEqDiff, Nat.reduceBEq, reduceCtorEq, Nat.reduceLT, Nat.reduceLeDiff, Nat.reduceAdd, Nat.reduceSub, Nat.reduceMul, Nat.reduceDiv, Int.reduceAdd, Int.reduceNeg, Int.reduceEq, Int.reduceLT, Int.reduceLE]; try simp (disch := omega) only [decide_eq_true, decide_eq_false])) ?_
    refine wlk_skip ?_
    repeat (first | refine hn18 _ ?_ | refine he18 _ _ ?_ | refine he17 _ _ ?_ | refine hn16 _ ?_ | refine he16 _ ?_ | refine hf16 _ _ (by decide) ?_ | refine hn15 _ ?_ | refine he15 _ _ ?_ | refine hn14 _ ?_ | refine he14 _ _ ?_)
    refine wlk_seq fun X19 hn19 he19 hr19 => ?_
    refine wlk_blk fun X20 hn20 he20 hf20 hr20 => ?_
    have hx : gs[k]? = some gs[k] := List.getElem?_eq_getElem hk2
    generalize gs[k] = y at hx
    obtain ⟨u, v⟩ := y
    have hxm : (u, v) ∈ gs := List.mem_of_getElem? hx
    have hxc := castE_get hx
    have hok := gg.ok (u, v) hxm
    simp only at hok
    have hu1 : IntKind.i64.wrap ((u : Int) + 1) = ((u + 1 : Nat) : Int) := by rw [IntWalk.i64_in _ (by omega)]; omega
    refine wlk_sreg fun KY hKY => ?_
    simp only [go_sem, reduceIte, Nat.reduceEqDiff, Nat.reduceBEq, reduceCtorEq, Nat.reduceLT, Nat.reduceAdd, c_garlandlaw09_WalkFlips_r18, (show k * 2 + 1 < gs.length * 2 by omega), (show 1 < gs.length * 2 - k * 2 by omega), two_cells hxc, List.length_drop, twos_len, castE_len]
    refine hKY _ ?_
    cases hc1 : decide ((v : Int) < (n : Int)) with
    | false =>
      refine wlk_sreg fun KY hKY => ?_
      simp only [go_sem, reduceIte, Nat.reduceEqDiff, reduceCtorEq, c_garlandlaw09_WalkFlips_r19, hc1]
      refine hKY _ ?_
      refine wlk_cond0 (by first | rfl | (simp only [go_sem, reduceIte, Nat.reduceEqDiff, Nat.reduceBEq, reduceCtorEq, Nat.reduceLT, Nat.reduceLeDiff, Nat.reduceAdd, Nat.reduceSub, Nat.reduceMul, Nat.reduceDiv, Int.reduceAdd, Int.reduceNeg, Int.reduceEq, Int.reduceLT, Int.reduceLE]; try simp (disch := omega) only [decide_eq_true, decide_eq_false])) ?_
      refine wlk_skip ?_
      repeat (first | refine hn20 _ ?_ | refine he20 _ ?_ | refine hf20 _ _ (by decide) ?_ | refine hn19 _ ?_ | refine he19 _ _ ?_ | refine hn18 _ ?_ | refine he18 _ _ ?_ | refine he17 _ _ ?_ | refine hn16 _ ?_ | refine he16 _ ?_ | refine hf16 _ _ (by decide) ?_ | refine hn15 _ ?_ | refine he15 _ _ ?_ | refine hn14 _ ?_ | refine he14 _ _ ?_)
      refine wlk_reg fun KY hKY => ?_
      simp only [go_sem, reduceIte, Nat.reduceEqDiff, reduceCtorEq, c_garlandlaw09_WalkFlips_r23, incS (show k < 4611686018427387904 by omega)]
      refine hKY _ ?_
      repeat (first | refine hn20 _ ?_ | refine he20 _ ?_ | refine hf20 _ _ (by decide) ?_ | refine hn19 _ ?_ | refine he19 _ _ ?_ | refine hn18 _ ?_ | refine he18 _ _ ?_)
      refine hn17 _ ((k + 1, es)) (6 - (k + 1)) (by omega) (by first | (simp only [go_sem, reduceIte, Nat.reduceEqDiff, reduceCtorEq, updAll_cons, updAll_nil]; done) | with_reducible rfl) ?_
      exact ⟨by omega, rfl, by omega, g, hs, by omega⟩
    | true =>
    cases hc2 : decide (((u + 1 : Nat) : Int) < (v : Int)) with
    | false =>
      refine wlk_sreg fun KY hKY => ?_
      simp only [go_sem, reduceIte, Nat.reduceEqDiff, reduceCtorEq, c_garlandlaw09_WalkFlips_r19, hc1, hu1, hc2]
      refine hKY _ ?_
      refine wlk_cond0 (by first | rfl | (simp only [go_sem, reduceIte, Nat.reduceEqDiff, Nat.reduceBEq, reduceCtorEq, Nat.reduceLT, Nat.reduceLeDiff, Nat.reduceAdd, Nat.reduceSub, Nat.reduceMul, Nat.reduceDiv, Int.reduceAdd, Int.reduceNeg, Int.reduceEq, Int.reduceLT, Int.reduceLE]; try simp (disch := omega) only [decide_eq_true, decide_eq_false])) ?_
      refine wlk_skip ?_
      repeat (first | refine hn20 _ ?_ | refine he20 _ ?_ | refine hf20 _ _ (by decide) ?_ | refine hn19 _ ?_ | refine he19 _ _ ?_ | refine hn18 _ ?_ | refine he18 _ _ ?_ | refine he17 _ _ ?_ | refine hn16 _ ?_ | refine he16 _ ?_ | refine hf16 _ _ (by decide) ?_ | refine hn15 _ ?_ | refine he15 _ _ ?_ | refine hn14 _ ?_ | refine he14 _ _ ?_)
      refine wlk_reg fun KY hKY => ?_
      simp only [go_sem, reduceIte, Nat.reduceEqDiff, reduceCtorEq, c_garlandlaw09_WalkFlips_r23, incS (show k < 4611686018427387904 by omega)]
      refine hKY _ ?_
      repeat (first | refine hn20 _ ?_ | refine he20 _ ?_ | refine hf20 _ _ (by decide) ?_ | refine hn19 _ ?_ | refine he19 _ _ ?_ | refine hn18 _ ?_ | refine he18 _ _ ?_)
      refine hn17 _ ((k + 1, es)) (6 - (k + 1)) (by omega) (by first | (simp only [go_sem, reduceIte, Nat.reduceEqDiff, reduceCtorEq, updAll_cons, updAll_nil]; done) | with_reducible rfl) ?_
      exact ⟨by omega, rfl, by omega, g, hs, by omega⟩
    | true =>
      refine wlk_sreg fun KY hKY => ?_
      simp only [go_sem, reduceIte, Nat.reduceEqDiff, reduceCtorEq, c_garlandlaw09_WalkFlips_r19, hc1, hu1, hc2]
      refine hKY _ ?_
      refine wlk_cond1 (by first | rfl | (simp only [go_sem, reduceIte, Nat.reduceEqDiff, Nat.reduceBEq, reduceCtorEq, Nat.reduceLT, Nat.reduceLeDiff, Nat.reduceAdd, Nat.reduceSub, Nat.reduceMul, Nat.reduceDiv, Int.reduceAdd, Int.reduceNeg, Int.reduceEq, Int.reduceLT, Int.reduceLE]; try simp (disch := omega) only [decide_eq_true, decide_eq_false])) ?_
      refine wlk_sreg fun KY hKY => ?_
      simp only [go_sem, reduceIte, Nat.reduceEqDiff, reduceCtorEq, Nat.reduceLT, Nat.reduceAdd, c_garlandlaw09_WalkFlips_r20]
      apply call_gen [] [] false none rfl
      iterate 8 (first | (simp only [go_sem, reduceIte, Nat.reduceEqDiff, reduceCtorEq, watchIn] <;> rfl) | rfl)
      refine (rput2_ok g (u : Int) (v : Int)).mono ?_
      rintro _ _ ⟨⟨a, b, ha, rfl⟩ | ⟨e, he, ha, rfl⟩, rfl⟩
      · refine ⟨Nat.le_of_ble_eq_true rfl, (fun hh => by cases hh), ?_⟩
        simp only [go_sem, reduceIte, Nat.reduceEqDiff, reduceCtorEq, Nat.reduceLT, Nat.reduceAdd, callOut, AState.after]
        refine hKY _ ?_
        have gk := g.put ha.2.1 ha.2.2.1 ha.2.2.2.1 ha.2.2.2.2
        have hpl := putE_len es (a, b)
        refine wlk_sreg fun KY hKY => ?_
        simp only [go_sem, reduceIte, Nat.reduceEqDiff, reduceCtorEq, c_garlandlaw09_WalkFlips_r21]
        refine hKY _ ?_
        refine wlk_cond1 (by first | rfl | (simp only [go_sem, reduceIte, Nat.reduceEqDiff, Nat.reduceBEq, reduceCtorEq, Nat.reduceLT, Nat.reduceLeDiff, Nat.reduceAdd, Nat.reduceSub, Nat.reduceMul, Nat.reduceDiv, Int.reduceAdd, Int.reduceNeg, Int.reduceEq, Int.reduceLT, Int.reduceLE]; try simp (disch := omega) only [decide_eq_true, decide_eq_false])) ?_
        refine wlk_reg fun KY hKY => ?_
        simp only [go_sem, reduceIte, Nat.reduceEqDiff, reduceCtorEq, Nat.reduceLT, Nat.reduceAdd, c_garlandlaw09_WalkFlips_r22]
        refine hKY _ ?_
        repeat (first | refine hn20 _ ?_ | refine he20 _ ?_ | refine hf20 _ _ (by decide) ?_ | refine hn19 _ ?_ | refine he19 _ _ ?_ | refine hn18 _ ?_ | refine he18 _ _ ?_ | refine he17 _ _ ?_ | refine hn16 _ ?_ | refine he16 _ ?_ | refine hf16 _ _ (by decide) ?_ | refine hn15 _ ?_ | refine he15 _ _ ?_ | refine hn14 _ ?_ | refine he14 _ _ ?_)
        refine wlk_reg fun KY hKY => ?_
        simp only [go_sem, reduceIte, Nat.reduceEqDiff, reduceCtorEq, c_garlandlaw09_WalkFlips_r23, incS (show k < 4611686018427387904 by omega)]
        refine hKY _ ?_
        repeat (first | refine hn20 _ ?_ | refine he20 _ ?_ | refine hf20 _ _ (by decide) ?_ | refine hn19 _ ?_ | refine he19 _ _ ?_ | refine hn18 _ ?_ | refine he18 _ _ ?_)
        refine hn17 _ ((k + 1, putE es (a, b))) (6 - (k + 1)) (by omega) (by first | (simp only [go_sem, reduceIte, Nat.reduceEqDiff, reduceCtorEq, updAll_cons, updAll_nil]; done) | with_reducible rfl) ?_
        exact ⟨by omega, rfl, by omega, gk, fun e he => putE_mem.2 (.inr (hs e he)), by omega⟩
      · refine ⟨Nat.le_of_ble_eq_true rfl, (fun hh => by cases hh), ?_⟩
        simp only [go_sem, reduceIte, Nat.reduceEqDiff, reduceCtorEq, Nat.reduceLT, Nat.reduceAdd, callOut, AState.after]
        refine hKY _ ?_
        have hez : decide (e = 0) = false := decide_eq_false he
        refine wlk_sreg fun KY hKY => ?_
        simp only [go_sem, reduceIte, Nat.reduceEqDiff, reduceCtorEq, c_garlandlaw09_WalkFlips_r21, hez]
        refine hKY _ ?_
        refine wlk_cond0 (by first | rfl | (simp only [go_sem, reduceIte, Nat.reduceEqDiff, Nat.reduceBEq, reduceCtorEq, Nat.reduceLT, Nat.reduceLeDiff, Nat.reduceAdd, Nat.reduceSub, Nat.reduceMul, Nat.reduceDiv, Int.reduceAdd, Int.reduceNeg, Int.reduceEq, Int.reduceLT, Int.reduceLE]; try simp (disch := omega) only [decide_eq_true, decide_eq_false])) ?_
        refine wlk_skip ?_
        repeat (first | refine hn20 _ ?_ | refine he20 _ ?_ | refine hf20 _ _ (by decide) ?_ | refine hn19 _ ?_ | refine he19 _ _ ?_ | refine hn18 _ ?_ | refine he18 _ _ ?_ | refine he17 _ _ ?_ | refine hn16 _ ?_ | refine he16 _ ?_ | refine hf16 _ _ (by decide) ?_ | refine hn15 _ ?_ | refine he15 _ _ ?_ | refine hn14 _ ?_ | refine he14 _ _ ?_)
        refine wlk_reg fun KY hKY => ?_
        simp only [go_sem, reduceIte, Nat.reduceEqDiff, reduceCtorEq, c_garlandlaw09_WalkFlips_r23, incS (show k < 4611686018427387904 by omega)]
        refine hKY _ ?_
        repeat (first | refine hn20 _ ?_ | refine he20 _ ?_ | refine hf20 _ _ (by decide) ?_ | refine hn19 _ ?_ | refine he19 _ _ ?_ | refine hn18 _ ?_ | refine he18 _ _ ?_)
        refine hn17 _ ((k + 1, es)) (6 - (k + 1)) (by omega) (by first | (simp only [go_sem, reduceIte, Nat.reduceEqDiff, reduceCtorEq, updAll_cons, updAll_nil]; done) | with_reducible rfl) ?_
        exact ⟨by omega, rfl, by omega, g, hs, by omega⟩
  have hcase : (decide ((k : Int) < (gs.length : Int)) = true ∧ decide ((k : Int) < 6) = false) ∨ decide ((k : Int) < (gs.length : Int)) = false := by
    rcases Nat.lt_or_ge k gs.length with h1 | h1
    · exact .inl ⟨decide_eq_true (by omega), decide_eq_false (by omega)⟩
    · exact .inr (decide_eq_false (by omega))
  refine wlk_seq fun X21 hn21 he21 hr21 => ?_
  refine wlk_sreg fun KY hKY => ?_
  apply meet
  · intro H
    rcases hcase with ⟨hda, hdb⟩ | hda
    · simp only [go_sem, reduceIte, Nat.reduceEqDiff, reduceCtorEq, c_garlandlaw09_WalkFlips_r17, twos_len, mul2, castE_len, hda, hdb]
      refine hKY _ ?_
      repeat (first | refine hn21 _ ?_ | refine he21 _ _ ?_ | refine hr21 _ ?_ | refine he17 _ _ ?_ | refine hr17 _ ?_ | refine hn16 _ ?_ | refine he16 _ ?_ | refine hf16 _ _ (by decide) ?_ | refine hr16 _ ?_ | refine hn15 _ ?_ | refine he15 _ _ ?_ | refine hr15 _ ?_ | refine hn14 _ ?_ | refine he14 _ _ ?_ | refine hr14 _ ?_ | refine he10 _ _ ?_ | refine hr10 _ ?_ | refine hn9 _ ?_ | refine he9 _ ?_ | refine hf9 _ _ (by decide) ?_ | refine hr9 _ ?_ | refine hn8 _ ?_ | refine he8 _ _ ?_ | refine hr8 _ ?_ | refine hn7 _ ?_ | refine he7 _ _ ?_ | refine hr7 _ ?_ | refine he3 _ _ ?_ | refine hr3 _ ?_ | refine hn2 _ ?_ | refine he2 _ ?_ | refine hf2 _ _ (by decide) ?_ | refine hr2 _ ?_ | refine hn1 _ ?_ | refine he1 _ _ ?_ | refine hr1 _ ?_)
      simp only [go_sem, reduceIte, Nat.reduceEqDiff, reduceCtorEq]
      exact H
    · simp only [go_sem, reduceIte, Nat.reduceEqDiff, reduceCtorEq, c_garlandlaw09_WalkFlips_r17, twos_len, mul2, castE_len, hda]
      refine hKY _ ?_
      repeat (first | refine hn21 _ ?_ | refine he21 _ _ ?_ | refine hr21 _ ?_ | refine he17 _ _ ?_ | refine hr17 _ ?_ | refine hn16 _ ?_ | refine he16 _ ?_ | refine hf16 _ _ (by decide) ?_ | refine hr16 _ ?_ | refine hn15 _ ?_ | refine he15 _ _ ?_ | refine hr15 _ ?_ | refine hn14 _ ?_ | refine he14 _ _ ?_ | refine hr14 _ ?_ | refine he10 _ _ ?_ | refine hr10 _ ?_ | refine hn9 _ ?_ | refine he9 _ ?_ | refine hf9 _ _ (by decide) ?_ | refine hr9 _ ?_ | refine hn8 _ ?_ | refine he8 _ _ ?_ | refine hr8 _ ?_ | refine hn7 _ ?_ | refine he7 _ _ ?_ | refine hr7 _ ?_ | refine he3 _ _ ?_ | refine hr3 _ ?_ | refine hn2 _ ?_ | refine he2 _ ?_ | refine hf2 _ _ (by decide) ?_ | refine hr2 _ ?_ | refine hn1 _ ?_ | refine he1 _ _ ?_ | refine hr1 _ ?_)
      simp only [go_sem, reduceIte, Nat.reduceEqDiff, reduceCtorEq]
      exact H
  refine wlk_cond0 (by first | rfl | (simp only [go_sem, reduceIte, Nat.reduceEqDiff, Nat.reduceBEq, reduceCtorEq, Nat.reduceLT, Nat.reduceLeDiff, Nat.reduceAdd, Nat.reduceSub, Nat.reduceMul, Nat.reduceDiv, Int.reduceAdd, Int.reduceNeg, Int.reduceEq, Int.reduceLT, Int.reduceLE]; try simp (disch := omega) only [decide_eq_true, decide_eq_false])) ?_
  refine wlk_exit ?_
  repeat (first | refine hn21 _ ?_ | refine he21 _ _ ?_ | refine he17 _ _ ?_ | refine hn16 _ ?_ | refine he16 _ ?_ | refine hf16 _ _ (by decide) ?_ | refine hn15 _ ?_ | refine he15 _ _ ?_ | refine hn14 _ ?_ | refine he14 _ _ ?_ | refine he10 _ _ ?_ | refine hn9 _ ?_ | refine he9 _ ?_ | refine hf9 _ _ (by decide) ?_ | refine hn8 _ ?_ | refine he8 _ _ ?_ | refine hn7 _ ?_ | refine he7 _ _ ?_ | refine he3 _ _ ?_ | refine hn2 _ ?_ | refine he2 _ ?_ | refine hf2 _ _ (by decide) ?_ | refine hn1 _ ?_ | refine he1 _ _ ?_)
  have hmE := mateB_sup ht.m gp g hs
  have haE := augB_sup ht.p hs
  have hfE := mateB_sup hfl.m gp g hs
  have hfp := wflip_ok n (castE es) M (pV n) (by omega) (by rw [pV_len]; omega)
  have hFl : (turnL M (pV n)).length = n := by rw [turnL_len, hM]
  have hap := fun x e h => flips_AP (x := x) (e := e) (show 0 < n by omega) g hs hmE hfE hfl h
  have hfa := hfl.a es
  have hff := hfl.f
  have hfs := hfl.s
  refine wlk_sreg fun KY hKY => ?_
  simp only [go_sem, reduceIte, Nat.reduceEqDiff, reduceCtorEq, Nat.reduceLT, Nat.reduceAdd, c_garlandlaw09_WalkFlips_r24]
  refine call_view rfl (by simp only [go_sem, reduceIte, Nat.reduceEqDiff, reduceCtorEq] <;> rfl) ((hfp).mono ?_)
  rintro rr hh ⟨⟨x, e, hxe, rfl⟩, rfl⟩
  refine ⟨?_, ?_, ?_, ?_⟩
  iterate 3 (first | rfl | simp only [go_sem])
  obtain ⟨rfl, rfl⟩ := FP_is hmE haE hxe
  clear hfp hxe hfl ht
  generalize turnL M (pV n) = F at hfE hFl hap hfa hff hfs
  simp only [go_sem, reduceIte, Nat.reduceEqDiff, Nat.reduceBEq, reduceCtorEq]
  refine hKY _ ?_
  have hs1 := sel_len (upP M) M.length
  have hw1 : IntKind.i64.wrap (((sel (upP M) M.length).length : Int) + 1) = ((sel (upP F) F.length).length : Int) := by rw [IntWalk.i64_in _ (by omega)]; omega
  have hxx : ∀ z : Int, decide (z ≠ z) = false := fun z => decide_eq_false (fun h => h rfl)
  refine wlk_seq fun X22 hn22 he22 hr22 => ?_
  refine wlk_sreg fun KY hKY => ?_
  simp only [go_sem, reduceIte, Nat.reduceEqDiff, reduceCtorEq, c_garlandlaw09_WalkFlips_r25]
  refine call_view rfl (by simp only [go_sem] <;> rfl) ((awake09_ok).mono ?_)
  rintro rr hh ⟨rfl, rfl⟩
  refine ⟨rfl, rfl, rfl, ?_⟩
  simp only [go_sem, reduceIte, Nat.reduceEqDiff, reduceCtorEq, Nat.reduceLT, Nat.reduceAdd, hxx]
  refine call_view rfl (by simp only [go_sem, reduceIte, Nat.reduceEqDiff, reduceCtorEq] <;> rfl) ((r8right_ok n (castE es) F).mono ?_)
  rintro rr hh ⟨rfl, rfl⟩
  refine ⟨rfl, rfl, rfl, ?_⟩
  simp only [go_sem, reduceIte, Nat.reduceEqDiff, reduceCtorEq, hfE]
  refine call_view rfl (by simp only [go_sem, reduceIte, Nat.reduceEqDiff, reduceCtorEq] <;> rfl) ((r8size_ok F (by omega)).mono ?_)
  rintro rr hh ⟨rfl, rfl⟩
  refine ⟨rfl, rfl, rfl, ?_⟩
  simp only [go_sem, reduceIte, Nat.reduceEqDiff, reduceCtorEq]
  refine call_view rfl (by simp only [go_sem, reduceIte, Nat.reduceEqDiff, reduceCtorEq] <;> rfl) ((r8size_ok M (by omega)).mono ?_)
  rintro rr hh ⟨rfl, rfl⟩
  refine ⟨rfl, rfl, rfl, ?_⟩
  simp only [go_sem, reduceIte, Nat.reduceEqDiff, reduceCtorEq, hw1, hxx]
  refine call_view rfl (by simp only [go_sem, reduceIte, Nat.reduceEqDiff, reduceCtorEq] <;> rfl) ((rfree_ok F (by omega)).mono ?_)
  rintro rr hh ⟨rfl, rfl⟩
  refine ⟨?_, ?_, ?_, ?_⟩
  iterate 3 (first | rfl | simp only [go_sem, Int.reduceNeg])
  simp only [go_sem, reduceIte, Nat.reduceEqDiff, reduceCtorEq, Int.reduceNeg, nats_len, hff]
  refine hKY _ ?_
  refine wlk_cond0 (by first | rfl | (simp only [go_sem, reduceIte, Nat.reduceEqDiff, Nat.reduceBEq, reduceCtorEq, Nat.reduceLT, Nat.reduceLeDiff, Nat.reduceAdd, Nat.reduceSub, Nat.reduceMul, Nat.reduceDiv, Int.reduceAdd, Int.reduceNeg, Int.reduceEq, Int.reduceLT, Int.reduceLE]; try simp (disch := omega) only [decide_eq_true, decide_eq_false])) ?_
  refine wlk_skip ?_
  repeat (first | refine hn22 _ ?_ | refine he22 _ _ ?_ | refine hn21 _ ?_ | refine he21 _ _ ?_ | refine he17 _ _ ?_ | refine hn16 _ ?_ | refine he16 _ ?_ | refine hf16 _ _ (by decide) ?_ | refine hn15 _ ?_ | refine he15 _ _ ?_ | refine hn14 _ ?_ | refine he14 _ _ ?_)
  refine wlk_sreg fun KY hKY => ?_
  simp only [go_sem, reduceIte, Nat.reduceEqDiff, reduceCtorEq, Nat.reduceLT, Nat.reduceAdd, Int.reduceNeg, c_garlandlaw09_WalkFlips_r27]
  refine call_view rfl (by simp only [go_sem, reduceIte, Nat.reduceEqDiff, reduceCtorEq] <;> rfl) ((wapart_ok n (castE es) M F).mono ?_)
  rintro rr hh ⟨⟨x, e, hxe, rfl⟩, rfl⟩
  refine ⟨?_, ?_, ?_, ?_⟩
  iterate 3 (first | rfl | simp only [go_sem])
  obtain ⟨rfl, rfl⟩ := hap _ _ hxe
  simp only [go_sem, reduceIte, Nat.reduceEqDiff, Nat.reduceBEq, reduceCtorEq]
  refine hKY _ ?_
  refine sem_freeze [0, 17] (by simp only [go_sem, reduceIte, Nat.reduceEqDiff, reduceCtorEq]; rfl) ?_
  simp only [go_sem, reduceIte, Nat.reduceEqDiff, reduceCtorEq, rowsO_freeze]
  have hrg : (rowsI [List.range n])[0]? = some (.imm 1 (nats (List.range n))) := rfl
  have hga := waugments_ok n (castE es) F (pV n) (by rw [pV_len]; omega)
  refine wlk_sreg fun KY hKY => ?_
  simp only [go_sem, reduceIte, Nat.reduceEqDiff, reduceCtorEq, Nat.reduceLT, Nat.reduceAdd, Int.reduceLE, c_garlandlaw09_WalkFlips_r28, hrg, rowsI_len, nats_len, List.length_range]
  have hl1 : decide (((([List.range n] : List (List Nat)).length : Nat) : Int) = 1) = true := rfl
  have hnn2 : decide ((n : Int) = (n : Int)) = true := decide_eq_true rfl
  refine call_view rfl (by simp only [go_sem, reduceIte, Nat.reduceEqDiff, reduceCtorEq] <;> rfl) ((hga).mono ?_)
  rintro rr hh ⟨⟨b, hb, rfl⟩, rfl⟩
  refine ⟨?_, ?_, ?_, ?_⟩
  iterate 3 (first | rfl | simp only [go_sem, reduceIte, Nat.reduceEqDiff, Nat.reduceBEq, reduceCtorEq, Nat.reduceLT, Nat.reduceLeDiff, Nat.reduceAdd, Nat.reduceSub, Nat.reduceMul, Nat.reduceDiv, Int.reduceAdd, Int.reduceNeg, Int.reduceEq, Int.reduceLT, Int.reduceLE])
  obtain rfl := onM_is hfE hb
  simp only [go_sem, reduceIte, Nat.reduceEqDiff, Nat.reduceBEq, reduceCtorEq, hfa]
  refine hKY _ ?_
  refine wlk_ret ?_
  repeat (first | refine hr22 _ ?_ | refine hr21 _ ?_ | refine hr17 _ ?_ | refine hr16 _ ?_ | refine hr15 _ ?_ | refine hr14 _ ?_ | refine hr10 _ ?_ | refine hr9 _ ?_ | refine hr8 _ ?_ | refine hr7 _ ?_ | refine hr3 _ ?_ | refine hr2 _ ?_ | refine hr1 _ ?_)
  simp only [go_sem, reduceIte, Nat.reduceEqDiff, reduceCtorEq]
end Go.Proofs.Ytoefhbfgmceikaa
namespace Go.Proofs.Ytoefhbfgmceikaa
open Go Go.Ga Go.Ga.Gl
theorem walkFlips_all (As : List AVal) (b : Nat) (h : SAs Try.prog Try.f6.params.toList As b) (hb : b ≤ 1048576) : ACalls Try.prog [] 6 As [] fun r _ => r = .sc (.bool true) := by
  rw [Try.params6] at h
  obtain ⟨A1, As1, c1, d1, rfl, rfl, h1, h⟩ := sas_cons h
  obtain ⟨A2, As2, c2, d2, rfl, rfl, h2, h⟩ := sas_cons h
  obtain rfl := sas_nil h
  obtain ⟨x1, rfl, w1⟩ := sa_int Try.underlying3 h1
  obtain ⟨x2, rfl, w2, e2⟩ := sa_ints Try.underlying25 Try.underlying3 (by kernel_rfl) h2
  exact (wflips_ok x1 x2 (by omega)).mono fun _ _ h => h.1
end Go.Proofs.Ytoefhbfgmceikaa
namespace Go.Proofs.Ytoefhbfgmceikaa.walkFlipsend
open Go Go.Ga Go.ChangeShapes Go.WideShapes Go.ChangeAt Go.RowKit
theorem own : ownKnob Try.prog.godebug = none := by kernel_rfl
mutual
theorem bulk_at {H : Type} : ∀ d : DataW H, Rows.uptoBulk d = bulk d
  | .lit l => by cases l <;> simp [Rows.uptoBulk, bulk]
  | .nil => by simp [Rows.uptoBulk, bulk]
  | .ptr d => by simp [Rows.uptoBulk, bulk, bulk_at d]
  | .slice e s => by simp [Rows.uptoBulk, bulk, bulk_eq e, bulk_eq s]
  | .agg p => by simp [Rows.uptoBulk, bulk, bulk_eq p]
  | .iface _ d => by simp [Rows.uptoBulk, bulk, bulk_at d]
  | .map e => by simp [Rows.uptoBulk, bulk, bulk_es e]
  | .held _ => by simp [Rows.uptoBulk, bulk]
theorem bulk_eq {H : Type} : ∀ l : List (DataW H), Rows.uptoBulkAll l = bulkL l
  | [] => by simp [Rows.uptoBulkAll, bulkL]
  | d :: r => by simp [Rows.uptoBulkAll, bulkL, bulk_at d, bulk_eq r]
theorem bulk_es {H : Type} : ∀ l : List (Lit × DataW H), Rows.uptoBulkEntries l = bulkE l
  | [] => by simp [Rows.uptoBulkEntries, bulkE]
  | d :: r => by simp [Rows.uptoBulkEntries, bulkE, bulk_e d, bulk_es r]
theorem bulk_e {H : Type} : ∀ d : Lit × DataW H, Rows.uptoBulkEntry d = bulk1 d
  | (l, d) => by cases l <;> simp [Rows.uptoBulkEntry, bulk1, bulk_at d]
end
set_option maxRecDepth 100000 in
theorem plain : Plain Try.prog [3, 25] := plain_of (by kernel_rfl)
set_option maxRecDepth 100000 in
theorem contract (H : Type) (enc : TypeId × Value → H) (W : World) (base : Nat) (args : Array Value) (ds gs : List (DataW H)) (before : List MemPlace)
    (hval : ∀ (j : Nat) t v, Try.f6.params[j]? = some t → args[j]? = some v → Value.okWide Try.prog W .any base t v)
    (hW : DataW.Whole enc Try.prog Try.f6.params.toList Rows.walkFlipsSpec.vars false W args.toList ds gs before) (hk : Rows.uptoSmall H (ds ++ gs) = true) :
    Calls Try.prog 6 args W fun e W' => ∃ v, e = .returned v ∧ Rows.walkFlipsSpec.post enc Try.prog Try.f6 false true false false W args v W' := by
  have hW' := hW
  obtain ⟨p, q, hA, hV, rfl, hfz, hnd⟩ := hW
  obtain ⟨rfl, rfl⟩ := Go.Ga.trodVars_nil hV
  have hb : bulkL (ds ++ []) ≤ 1048576 := by rw [← bulk_eq]; exact of_decide_eq_true hk
  have r0 : DataW.TrodAll enc Try.prog W 0 (fun _ => true) true Try.f6.params.toList args.toList ds p := hA
  rw [Try.params6] at r0
  obtain ⟨v0, vs0, d0, ds0, p0, q0, hv0, rfl, rfl, h0, r1⟩ := trodAll_cons r0
  obtain ⟨v1, vs1, d1, ds1, p1, q1, hv1, rfl, rfl, h1, r2⟩ := trodAll_cons r1
  obtain ⟨rfl, rfl, rfl⟩ := trodAll_nil r2
  exact contract_true plain hval (by rw [Try.params6]; decide) hW' rfl rfl rfl rfl (tb := 4) (by kernel_rfl) Try.underlying4 hb walkFlips_all
set_option maxRecDepth 100000 in
theorem lifted (os : Os) (started : os.Started) (H : Type) (enc : TypeId × Value → H) (F : Stop.Interp) :
    ReturnsInHanded {} Try.checked os 6 .any ((Rows.OpenSpec.upto Rows.walkFlipsSpec).pre6 enc Try.prog Try.f6 Rows.walkFlipsUptoRow.domain false) (((Rows.OpenSpec.upto Rows.walkFlipsSpec).at F).post enc Try.prog Try.f6 false true false false) := by
  refine returnsInHanded_of_cond (C := Try.checked) (s := Rows.OpenSpec.upto Rows.walkFlipsSpec) (k := Rows.uptoSmall) rfl own started (by kernel_rfl) Try.func6
    (OpenSpec.witness (enc := enc) (C := Try.checked) (s := Rows.OpenSpec.upto Rows.walkFlipsSpec) (k := Rows.uptoSmall) rfl false ⟨#[], #[.int .i64 0, .slice none 0 0], []⟩ 8 (by kernel_rfl) (by kernel_rfl) (by kernel_rfl)
      (x := ([.lit (.int .i64 0), .nil], [], [])) (by kernel_rfl) rfl (by kernel_rfl)) ?_
  intro W base args ds gs before hval hW _ hk _
  exact contract H enc W base args ds gs before hval hW hk
theorem holds : Rows.WalkFlipsUptoSaid :=
  OpenClaim.holds_of_cond 6 Try.f6 rfl rfl rfl rfl rfl rfl rfl ⟨rfl, rfl, rfl, rfl, rfl⟩ rfl rfl rfl rfl rfl (by kernel_rfl) Try.func6 (by kernel_rfl)
    (of_decide_eq_true (by kernel_rfl)) (by unfold Func.isWrapper; first | (rw [if_pos (by decide +kernel)]; kernel_rfl) | (rw [if_neg (by decide +kernel)]; exact ⟨rfl, rfl⟩))
    (fun os started H enc _ F => lifted os started H enc F)
end Go.Proofs.Ytoefhbfgmceikaa.walkFlipsend
