/- That pairs that do not rise, name what is none, or have one in common, are refused, and so are degrees that may not be, is proved for every input of the given size. -/
import Derived.Test.YtepjcfbigcfkfaaTa3
import Derived.Test.YtepjcfbigcfkfaaGcgecoh5
import Derived.WalkKit
import Derived.ProofKit
import Derived.OpenShut
import Derived.JoinedCond
set_option linter.all false
set_option maxRecDepth 100000
set_option maxHeartbeats 2000000
namespace Go.Proofs.Ytepjcfbigcfkfaa
open Go Go.Ga Go.Ga.Gl
theorem gr_more {N M : Nat} {es : Es} (g : GR N es) (h : N ≤ M) (hM : M ≤ 4096) : GR M es := ⟨hM, g.hm, fun e he => ⟨(g.ok e he).1, by have := (g.ok e he).2; omega⟩, g.up⟩
theorem refuses_ok (n : Int) (ends : List Int) (what : Int) (he : ends.length ≤ 1000000000) : ACalls Try.prog [] n_garlandlaw23_TutteRefuses [.sc (.int .i64 n), .imm 1 (ints ends), .sc (.int .i64 what)] [] fun r h' => r = .sc (.bool true) ∧ h' = [] := by
  refine ACalls.trim ?_
  refine go_garlandlaw23_TutteRefuses rfl ?_
  unfold c_garlandlaw23_TutteRefuses v_garlandlaw23_TutteRefuses
  refine wlk_sreg fun KY hKY => ?_
  simp only [go_sem, reduceIte, Nat.reduceEqDiff, Nat.reduceBEq, reduceCtorEq, Nat.reduceLT, Nat.reduceLeDiff, Nat.reduceAdd, Nat.reduceSub, Nat.reduceMul, Nat.reduceDiv, Int.reduceAdd, Int.reduceNeg, Int.reduceEq, Int.reduceLT, Int.reduceLE, c_garlandlaw23_TutteRefuses_r0]
  refine hKY _ ?_
  refine wlk_sreg fun KY hKY => ?_
  simp only [go_sem, reduceIte, Nat.reduceEqDiff, Nat.reduceBEq, reduceCtorEq, Nat.reduceLT, Nat.reduceLeDiff, Nat.reduceAdd, Nat.reduceSub, Nat.reduceMul, Nat.reduceDiv, Int.reduceAdd, Int.reduceNeg, Int.reduceEq, Int.reduceLT, Int.reduceLE, c_garlandlaw23_TutteRefuses_r1]
  apply call_gen [] [] false none rfl
  iterate 8 (first | (simp only [go_sem, reduceIte, Nat.reduceEqDiff, Nat.reduceBEq, reduceCtorEq, Nat.reduceLT, Nat.reduceLeDiff, Nat.reduceAdd, Nat.reduceSub, Nat.reduceMul, Nat.reduceDiv, Int.reduceAdd, Int.reduceNeg, Int.reduceEq, Int.reduceLT, Int.reduceLE, watchIn] <;> rfl) | rfl)
  refine (small_ok n ends 10 20 (by omega) (by omega) (by omega)).mono ?_
  rintro _ _ ⟨⟨N, es, g, hN, hm, rfl⟩, rfl⟩
  refine ⟨Nat.le_of_ble_eq_true rfl, (fun hh => by cases hh), ?_⟩
  simp only [go_sem, reduceIte, Nat.reduceEqDiff, Nat.reduceBEq, reduceCtorEq, Nat.reduceLT, Nat.reduceLeDiff, Nat.reduceAdd, Nat.reduceSub, Nat.reduceMul, Nat.reduceDiv, Int.reduceAdd, Int.reduceNeg, Int.reduceEq, Int.reduceLT, Int.reduceLE, callOut, AState.after]
  refine hKY _ ?_
  have w0 : IntKind.i64.wrap ((N : Int) + 2) = ((N + 2 : Nat) : Int) := by rw [IntWalk.i64_in _ (by omega)]; omega
  refine wlk_sreg fun KY hKY => ?_
  simp only [go_sem, reduceIte, Nat.reduceEqDiff, Nat.reduceBEq, reduceCtorEq, Nat.reduceLT, Nat.reduceLeDiff, Nat.reduceAdd, Nat.reduceSub, Nat.reduceMul, Nat.reduceDiv, Int.reduceAdd, Int.reduceNeg, Int.reduceEq, Int.reduceLT, Int.reduceLE, c_garlandlaw23_TutteRefuses_r2, w0]
  refine hKY _ ?_
  have hdg := (degs_ok (N + 2) (.imm 2 (twos (castE es))) [] 3 (by omega) (by omega) (by omega) (by simp only [go_sem, reduceIte, Nat.reduceEqDiff, Nat.reduceBEq, reduceCtorEq, Nat.reduceLT, Nat.reduceLeDiff, Nat.reduceAdd, Nat.reduceSub, Nat.reduceMul, Nat.reduceDiv, Int.reduceAdd, Int.reduceNeg, Int.reduceEq, Int.reduceLT, Int.reduceLE]) (by simp)).sees (.cons (.refl _) (.cons (.imm 1) (.cons (.refl _) .nil)))
  refine wlk_sreg fun KY hKY => ?_
  simp only [go_sem, reduceIte, Nat.reduceEqDiff, Nat.reduceBEq, reduceCtorEq, Nat.reduceLT, Nat.reduceLeDiff, Nat.reduceAdd, Nat.reduceSub, Nat.reduceMul, Nat.reduceDiv, Int.reduceAdd, Int.reduceNeg, Int.reduceEq, Int.reduceLT, Int.reduceLE, c_garlandlaw23_TutteRefuses_r3]
  refine call_view rfl (by simp only [go_sem, reduceIte, Nat.reduceEqDiff, Nat.reduceBEq, reduceCtorEq, Nat.reduceLT, Nat.reduceLeDiff, Nat.reduceAdd, Nat.reduceSub, Nat.reduceMul, Nat.reduceDiv, Int.reduceAdd, Int.reduceNeg, Int.reduceEq, Int.reduceLT, Int.reduceLE] <;> rfl) ((hdg).mono ?_)
  rintro rr hh ⟨⟨fs, hD, rfl⟩, rfl⟩
  refine ⟨?_, ?_, ?_, ?_⟩
  iterate 3 (first | rfl | simp only [go_sem, reduceIte, Nat.reduceEqDiff, Nat.reduceBEq, reduceCtorEq, Nat.reduceLT, Nat.reduceLeDiff, Nat.reduceAdd, Nat.reduceSub, Nat.reduceMul, Nat.reduceDiv, Int.reduceAdd, Int.reduceNeg, Int.reduceEq, Int.reduceLT, Int.reduceLE])
  simp only [go_sem, reduceIte, Nat.reduceEqDiff, Nat.reduceBEq, reduceCtorEq, Nat.reduceLT, Nat.reduceLeDiff, Nat.reduceAdd, Nat.reduceSub, Nat.reduceMul, Nat.reduceDiv, Int.reduceAdd, Int.reduceNeg, Int.reduceEq, Int.reduceLT, Int.reduceLE]
  refine hKY _ ?_
  refine wlk_sreg fun KY hKY => ?_
  simp only [go_sem, reduceIte, Nat.reduceEqDiff, Nat.reduceBEq, reduceCtorEq, Nat.reduceLT, Nat.reduceLeDiff, Nat.reduceAdd, Nat.reduceSub, Nat.reduceMul, Nat.reduceDiv, Int.reduceAdd, Int.reduceNeg, Int.reduceEq, Int.reduceLT, Int.reduceLE, c_garlandlaw23_TutteRefuses_r4]
  refine hKY _ ?_
  refine wlk_sreg fun KY hKY => ?_
  simp only [go_sem, reduceIte, Nat.reduceEqDiff, Nat.reduceBEq, reduceCtorEq, Nat.reduceLT, Nat.reduceLeDiff, Nat.reduceAdd, Nat.reduceSub, Nat.reduceMul, Nat.reduceDiv, Int.reduceAdd, Int.reduceNeg, Int.reduceEq, Int.reduceLT, Int.reduceLE, c_garlandlaw23_TutteRefuses_r5]
  refine hKY _ ?_
  refine wlk_seq fun X1 hn1 he1 hr1 => ?_
  refine wlk_sreg fun KY hKY => ?_
  simp only [go_sem, reduceIte, Nat.reduceEqDiff, Nat.reduceBEq, reduceCtorEq, Nat.reduceLT, Nat.reduceLeDiff, Nat.reduceAdd, Nat.reduceSub, Nat.reduceMul, Nat.reduceDiv, Int.reduceAdd, Int.reduceNeg, Int.reduceEq, Int.reduceLT, Int.reduceLE, c_garlandlaw23_TutteRefuses_r6]
  obtain ⟨m, hm8, hmw⟩ : ∃ m : Nat, m < 8 ∧ (IntKind.u64.wrap what).tmod 8 = (m : Int) := by
    rw [IntKind.wrap_u64]
    refine ⟨((what % 18446744073709551616).tmod 8).toNat, ?_, ?_⟩
    · rw [Int.tmod_eq_emod_of_nonneg (by omega)]; omega
    · rw [Int.tmod_eq_emod_of_nonneg (by omega)]; omega
  simp only [go_sem, reduceIte, Nat.reduceEqDiff, Nat.reduceBEq, reduceCtorEq, Nat.reduceLT, Nat.reduceLeDiff, Nat.reduceAdd, Nat.reduceSub, Nat.reduceMul, Nat.reduceDiv, Int.reduceAdd, Int.reduceNeg, Int.reduceEq, Int.reduceLT, Int.reduceLE, hmw]
  refine hKY _ ?_
  refine wlk_blk fun X2 hn2 he2 hf2 hr2 => ?_
  have hgr : rightB ((N + 2 : Nat) : Int) (castE es) = true := rightB_GR (gr_more g (by omega) (by omega))
  have hdB : degsB ((N + 2 : Nat) : Int) fs = true := by
    unfold degsB
    rw [Bool.and_eq_true, decide_eq_true_iff, List.all_eq_true]
    refine ⟨by rw [hD.1], fun x hx => ?_⟩
    have := hD.2 x hx
    rw [Bool.and_eq_true, decide_eq_true_iff, decide_eq_true_iff]; omega
  have hT0 : tErr ((N + 2 : Nat) : Int) (castE es) fs = 0 := by simp only [tErr, hgr, hdB, cond_true]
  have hl := hD.1
  have hL := fun S T (hS : S.length ≤ 1000000) (hT : T.length ≤ 1000000) hp => lackP_ok (N + 2) (castE es) fs S T (by omega) (by omega) hS hT hT0 hp
  have hE := fun fs' (hf : fs'.length ≤ 1000000) (hb : degsB ((N + 2 : Nat) : Int) fs' = false) => lackE_ok ((N + 2 : Nat) : Int) (castE es) fs' [0] [1] hf (by decide) (by decide) (by simp only [tErr, hgr, hb, cond_true, cond_false]; decide)
  have hE12 : ∀ fs', degsB ((N + 2 : Nat) : Int) fs' = false → tErr ((N + 2 : Nat) : Int) (castE es) fs' = 12 := fun fs' hb => by simp only [tErr, hgr, hb, cond_true, cond_false]
  have b0 : ∀ (x : Int), x ∈ fs.set 0 x := fun x => by rw [List.mem_iff_getElem?]; exact ⟨0, by rw [List.getElem?_set_self (by omega)]⟩
  have b1 : ∀ (x : Int), (x < 0 ∨ 4096 < x) → degsB ((N + 2 : Nat) : Int) (fs.set 0 x) = false := fun x hx => by
    rw [Bool.eq_false_iff]; intro h
    unfold degsB at h
    rw [Bool.and_eq_true, List.all_eq_true] at h
    have := h.2 x (b0 x)
    rw [Bool.and_eq_true, decide_eq_true_iff, decide_eq_true_iff] at this; omega
  have b2 : degsB ((N + 2 : Nat) : Int) (fs.drop 1) = false := by
    rw [Bool.eq_false_iff]; intro h
    unfold degsB at h
    rw [Bool.and_eq_true, decide_eq_true_iff] at h
    have := h.1; rw [List.length_drop] at this; omega
  have hcut : cutCells (ints fs) 1 1 (N + 2) = ints (fs.drop 1) := by
    rw [show N + 2 = fs.length from hl.symm]
    simp only [cutCells, ints, Nat.mul_one]
    rw [← List.map_drop, List.take_of_length_le (by simp)]
  have hm' : m = 0 ∨ m = 1 ∨ m = 2 ∨ m = 3 ∨ m = 4 ∨ m = 5 ∨ m = 6 ∨ m = 7 := by omega
  rcases hm' with rfl | rfl | rfl | rfl | rfl | rfl | rfl | rfl
  · refine wlk_sreg fun KY hKY => ?_
    simp only [go_sem, reduceIte, Nat.reduceEqDiff, Nat.reduceBEq, reduceCtorEq, Nat.reduceLT, Nat.reduceLeDiff, Nat.reduceAdd, Nat.reduceSub, Nat.reduceMul, Nat.reduceDiv, Int.reduceAdd, Int.reduceNeg, Int.reduceEq, Int.reduceLT, Int.reduceLE, c_garlandlaw23_TutteRefuses_r7]
    refine hKY _ ?_
    refine wlk_cond1 (by first | rfl | (simp only [go_sem, reduceIte, Nat.reduceEqDiff, Nat.reduceBEq, reduceCtorEq, Nat.reduceLT, Nat.reduceLeDiff, Nat.reduceAdd, Nat.reduceSub, Nat.reduceMul, Nat.reduceDiv, Int.reduceAdd, Int.reduceNeg, Int.reduceEq, Int.reduceLT, Int.reduceLE]; try simp (disch := omega) only [decide_eq_true, decide_eq_false])) ?_
    refine wlk_reg fun KY hKY => ?_
    simp only [go_sem, reduceIte, Nat.reduceEqDiff, Nat.reduceBEq, reduceCtorEq, Nat.reduceLT, Nat.reduceLeDiff, Nat.reduceAdd, Nat.reduceSub, Nat.reduceMul, Nat.reduceDiv, Int.reduceAdd, Int.reduceNeg, Int.reduceEq, Int.reduceLT, Int.reduceLE, c_garlandlaw23_TutteRefuses_r8]
    refine hKY _ ?_
    repeat (first | refine hn2 _ ?_ | refine he2 _ ?_ | refine hf2 _ _ (by decide) ?_ | refine hr2 _ ?_ | refine hn1 _ ?_ | refine he1 _ _ ?_ | refine hr1 _ ?_)
    have hl1 := hL [0] [0] (by decide) (by decide) (by simp [okPB, upB])
    refine sem_freeze [0, 9, 0] rfl ?_
    refine sem_freeze [0, 9, 1] rfl ?_
    refine wlk_sreg fun KY hKY => ?_
    simp only [go_sem, reduceIte, Nat.reduceEqDiff, Nat.reduceBEq, reduceCtorEq, Nat.reduceLT, Nat.reduceLeDiff, Nat.reduceAdd, Nat.reduceSub, Nat.reduceMul, Nat.reduceDiv, Int.reduceAdd, Int.reduceNeg, Int.reduceEq, Int.reduceLT, Int.reduceLE, c_garlandlaw23_TutteRefuses_r22]
    refine call_view rfl (by simp only [go_sem, reduceIte, Nat.reduceEqDiff, Nat.reduceBEq, reduceCtorEq, Nat.reduceLT, Nat.reduceLeDiff, Nat.reduceAdd, Nat.reduceSub, Nat.reduceMul, Nat.reduceDiv, Int.reduceAdd, Int.reduceNeg, Int.reduceEq, Int.reduceLT, Int.reduceLE] <;> rfl) ((hl1).mono ?_)
    rintro rr hh ⟨rfl, rfl⟩
    refine ⟨?_, ?_, ?_, ?_⟩
    iterate 3 (first | rfl | simp only [go_sem, reduceIte, Nat.reduceEqDiff, Nat.reduceBEq, reduceCtorEq, Nat.reduceLT, Nat.reduceLeDiff, Nat.reduceAdd, Nat.reduceSub, Nat.reduceMul, Nat.reduceDiv, Int.reduceAdd, Int.reduceNeg, Int.reduceEq, Int.reduceLT, Int.reduceLE])
    simp only [go_sem, reduceIte, Nat.reduceEqDiff, Nat.reduceBEq, reduceCtorEq, Nat.reduceLT, Nat.reduceLeDiff, Nat.reduceAdd, Nat.reduceSub, Nat.reduceMul, Nat.reduceDiv, Int.reduceAdd, Int.reduceNeg, Int.reduceEq, Int.reduceLT, Int.reduceLE]
    refine hKY _ ?_
    refine wlk_sreg fun KY hKY => ?_
    simp only [go_sem, reduceIte, Nat.reduceEqDiff, Nat.reduceBEq, reduceCtorEq, Nat.reduceLT, Nat.reduceLeDiff, Nat.reduceAdd, Nat.reduceSub, Nat.reduceMul, Nat.reduceDiv, Int.reduceAdd, Int.reduceNeg, Int.reduceEq, Int.reduceLT, Int.reduceLE, c_garlandlaw23_TutteRefuses_r23]
    refine call_view rfl (by simp only [go_sem, reduceIte, Nat.reduceEqDiff, Nat.reduceBEq, reduceCtorEq, Nat.reduceLT, Nat.reduceLeDiff, Nat.reduceAdd, Nat.reduceSub, Nat.reduceMul, Nat.reduceDiv, Int.reduceAdd, Int.reduceNeg, Int.reduceEq, Int.reduceLT, Int.reduceLE] <;> rfl) ((awake23_ok).mono ?_)
    rintro rr hh ⟨rfl, rfl⟩
    refine ⟨rfl, rfl, rfl, ?_⟩
    simp only [go_sem, reduceIte, Nat.reduceEqDiff, Nat.reduceBEq, reduceCtorEq, Nat.reduceLT, Nat.reduceLeDiff, Nat.reduceAdd, Nat.reduceSub, Nat.reduceMul, Nat.reduceDiv, Int.reduceAdd, Int.reduceNeg, Int.reduceEq, Int.reduceLT, Int.reduceLE]
    refine hKY _ ?_
    refine wlk_ret ?_
    repeat (first | refine hn2 _ ?_ | refine he2 _ ?_ | refine hf2 _ _ (by decide) ?_ | refine hr2 _ ?_ | refine hn1 _ ?_ | refine he1 _ _ ?_ | refine hr1 _ ?_)
    simp only [go_sem, reduceIte, Nat.reduceEqDiff, Nat.reduceBEq, reduceCtorEq, Nat.reduceLT, Nat.reduceLeDiff, Nat.reduceAdd, Nat.reduceSub, Nat.reduceMul, Nat.reduceDiv, Int.reduceAdd, Int.reduceNeg, Int.reduceEq, Int.reduceLT, Int.reduceLE]
  · refine wlk_sreg fun KY hKY => ?_
    simp only [go_sem, reduceIte, Nat.reduceEqDiff, Nat.reduceBEq, reduceCtorEq, Nat.reduceLT, Nat.reduceLeDiff, Nat.reduceAdd, Nat.reduceSub, Nat.reduceMul, Nat.reduceDiv, Int.reduceAdd, Int.reduceNeg, Int.reduceEq, Int.reduceLT, Int.reduceLE, c_garlandlaw23_TutteRefuses_r7]
    refine hKY _ ?_
    refine wlk_cond0 (by first | rfl | (simp only [go_sem, reduceIte, Nat.reduceEqDiff, Nat.reduceBEq, reduceCtorEq, Nat.reduceLT, Nat.reduceLeDiff, Nat.reduceAdd, Nat.reduceSub, Nat.reduceMul, Nat.reduceDiv, Int.reduceAdd, Int.reduceNeg, Int.reduceEq, Int.reduceLT, Int.reduceLE]; try simp (disch := omega) only [decide_eq_true, decide_eq_false])) ?_
    refine wlk_sreg fun KY hKY => ?_
    simp only [go_sem, reduceIte, Nat.reduceEqDiff, Nat.reduceBEq, reduceCtorEq, Nat.reduceLT, Nat.reduceLeDiff, Nat.reduceAdd, Nat.reduceSub, Nat.reduceMul, Nat.reduceDiv, Int.reduceAdd, Int.reduceNeg, Int.reduceEq, Int.reduceLT, Int.reduceLE, c_garlandlaw23_TutteRefuses_r9]
    refine hKY _ ?_
    refine wlk_cond1 (by first | rfl | (simp only [go_sem, reduceIte, Nat.reduceEqDiff, Nat.reduceBEq, reduceCtorEq, Nat.reduceLT, Nat.reduceLeDiff, Nat.reduceAdd, Nat.reduceSub, Nat.reduceMul, Nat.reduceDiv, Int.reduceAdd, Int.reduceNeg, Int.reduceEq, Int.reduceLT, Int.reduceLE]; try simp (disch := omega) only [decide_eq_true, decide_eq_false])) ?_
    refine wlk_reg fun KY hKY => ?_
    simp only [go_sem, reduceIte, Nat.reduceEqDiff, Nat.reduceBEq, reduceCtorEq, Nat.reduceLT, Nat.reduceLeDiff, Nat.reduceAdd, Nat.reduceSub, Nat.reduceMul, Nat.reduceDiv, Int.reduceAdd, Int.reduceNeg, Int.reduceEq, Int.reduceLT, Int.reduceLE, c_garlandlaw23_TutteRefuses_r10]
    refine hKY _ ?_
    repeat (first | refine hn2 _ ?_ | refine he2 _ ?_ | refine hf2 _ _ (by decide) ?_ | refine hr2 _ ?_ | refine hn1 _ ?_ | refine he1 _ _ ?_ | refine hr1 _ ?_)
    have hl1 := hL [1, 0] [1] (by decide) (by decide) (by simp [okPB, upB])
    refine sem_freeze [0, 9, 0] rfl ?_
    refine sem_freeze [0, 9, 1] rfl ?_
    refine wlk_sreg fun KY hKY => ?_
    simp only [go_sem, reduceIte, Nat.reduceEqDiff, Nat.reduceBEq, reduceCtorEq, Nat.reduceLT, Nat.reduceLeDiff, Nat.reduceAdd, Nat.reduceSub, Nat.reduceMul, Nat.reduceDiv, Int.reduceAdd, Int.reduceNeg, Int.reduceEq, Int.reduceLT, Int.reduceLE, c_garlandlaw23_TutteRefuses_r22]
    refine call_view rfl (by simp only [go_sem, reduceIte, Nat.reduceEqDiff, Nat.reduceBEq, reduceCtorEq, Nat.reduceLT, Nat.reduceLeDiff, Nat.reduceAdd, Nat.reduceSub, Nat.reduceMul, Nat.reduceDiv, Int.reduceAdd, Int.reduceNeg, Int.reduceEq, Int.reduceLT, Int.reduceLE] <;> rfl) ((hl1).mono ?_)
    rintro rr hh ⟨rfl, rfl⟩
    refine ⟨?_, ?_, ?_, ?_⟩
    iterate 3 (first | rfl | simp only [go_sem, reduceIte, Nat.reduceEqDiff, Nat.reduceBEq, reduceCtorEq, Nat.reduceLT, Nat.reduceLeDiff, Nat.reduceAdd, Nat.reduceSub, Nat.reduceMul, Nat.reduceDiv, Int.reduceAdd, Int.reduceNeg, Int.reduceEq, Int.reduceLT, Int.reduceLE])
    simp only [go_sem, reduceIte, Nat.reduceEqDiff, Nat.reduceBEq, reduceCtorEq, Nat.reduceLT, Nat.reduceLeDiff, Nat.reduceAdd, Nat.reduceSub, Nat.reduceMul, Nat.reduceDiv, Int.reduceAdd, Int.reduceNeg, Int.reduceEq, Int.reduceLT, Int.reduceLE]
    refine hKY _ ?_
    refine wlk_sreg fun KY hKY => ?_
    simp only [go_sem, reduceIte, Nat.reduceEqDiff, Nat.reduceBEq, reduceCtorEq, Nat.reduceLT, Nat.reduceLeDiff, Nat.reduceAdd, Nat.reduceSub, Nat.reduceMul, Nat.reduceDiv, Int.reduceAdd, Int.reduceNeg, Int.reduceEq, Int.reduceLT, Int.reduceLE, c_garlandlaw23_TutteRefuses_r23]
    refine call_view rfl (by simp only [go_sem, reduceIte, Nat.reduceEqDiff, Nat.reduceBEq, reduceCtorEq, Nat.reduceLT, Nat.reduceLeDiff, Nat.reduceAdd, Nat.reduceSub, Nat.reduceMul, Nat.reduceDiv, Int.reduceAdd, Int.reduceNeg, Int.reduceEq, Int.reduceLT, Int.reduceLE] <;> rfl) ((awake23_ok).mono ?_)
    rintro rr hh ⟨rfl, rfl⟩
    refine ⟨rfl, rfl, rfl, ?_⟩
    simp only [go_sem, reduceIte, Nat.reduceEqDiff, Nat.reduceBEq, reduceCtorEq, Nat.reduceLT, Nat.reduceLeDiff, Nat.reduceAdd, Nat.reduceSub, Nat.reduceMul, Nat.reduceDiv, Int.reduceAdd, Int.reduceNeg, Int.reduceEq, Int.reduceLT, Int.reduceLE]
    refine hKY _ ?_
    refine wlk_ret ?_
    repeat (first | refine hn2 _ ?_ | refine he2 _ ?_ | refine hf2 _ _ (by decide) ?_ | refine hr2 _ ?_ | refine hn1 _ ?_ | refine he1 _ _ ?_ | refine hr1 _ ?_)
    simp only [go_sem, reduceIte, Nat.reduceEqDiff, Nat.reduceBEq, reduceCtorEq, Nat.reduceLT, Nat.reduceLeDiff, Nat.reduceAdd, Nat.reduceSub, Nat.reduceMul, Nat.reduceDiv, Int.reduceAdd, Int.reduceNeg, Int.reduceEq, Int.reduceLT, Int.reduceLE]
  · refine wlk_sreg fun KY hKY => ?_
    simp only [go_sem, reduceIte, Nat.reduceEqDiff, Nat.reduceBEq, reduceCtorEq, Nat.reduceLT, Nat.reduceLeDiff, Nat.reduceAdd, Nat.reduceSub, Nat.reduceMul, Nat.reduceDiv, Int.reduceAdd, Int.reduceNeg, Int.reduceEq, Int.reduceLT, Int.reduceLE, c_garlandlaw23_TutteRefuses_r7]
    refine hKY _ ?_
    refine wlk_cond0 (by first | rfl | (simp only [go_sem, reduceIte, Nat.reduceEqDiff, Nat.reduceBEq, reduceCtorEq, Nat.reduceLT, Nat.reduceLeDiff, Nat.reduceAdd, Nat.reduceSub, Nat.reduceMul, Nat.reduceDiv, Int.reduceAdd, Int.reduceNeg, Int.reduceEq, Int.reduceLT, Int.reduceLE]; try simp (disch := omega) only [decide_eq_true, decide_eq_false])) ?_
    refine wlk_sreg fun KY hKY => ?_
    simp only [go_sem, reduceIte, Nat.reduceEqDiff, Nat.reduceBEq, reduceCtorEq, Nat.reduceLT, Nat.reduceLeDiff, Nat.reduceAdd, Nat.reduceSub, Nat.reduceMul, Nat.reduceDiv, Int.reduceAdd, Int.reduceNeg, Int.reduceEq, Int.reduceLT, Int.reduceLE, c_garlandlaw23_TutteRefuses_r9]
    refine hKY _ ?_
    refine wlk_cond0 (by first | rfl | (simp only [go_sem, reduceIte, Nat.reduceEqDiff, Nat.reduceBEq, reduceCtorEq, Nat.reduceLT, Nat.reduceLeDiff, Nat.reduceAdd, Nat.reduceSub, Nat.reduceMul, Nat.reduceDiv, Int.reduceAdd, Int.reduceNeg, Int.reduceEq, Int.reduceLT, Int.reduceLE]; try simp (disch := omega) only [decide_eq_true, decide_eq_false])) ?_
    refine wlk_sreg fun KY hKY => ?_
    simp only [go_sem, reduceIte, Nat.reduceEqDiff, Nat.reduceBEq, reduceCtorEq, Nat.reduceLT, Nat.reduceLeDiff, Nat.reduceAdd, Nat.reduceSub, Nat.reduceMul, Nat.reduceDiv, Int.reduceAdd, Int.reduceNeg, Int.reduceEq, Int.reduceLT, Int.reduceLE, c_garlandlaw23_TutteRefuses_r11]
    refine hKY _ ?_
    refine wlk_cond1 (by first | rfl | (simp only [go_sem, reduceIte, Nat.reduceEqDiff, Nat.reduceBEq, reduceCtorEq, Nat.reduceLT, Nat.reduceLeDiff, Nat.reduceAdd, Nat.reduceSub, Nat.reduceMul, Nat.reduceDiv, Int.reduceAdd, Int.reduceNeg, Int.reduceEq, Int.reduceLT, Int.reduceLE]; try simp (disch := omega) only [decide_eq_true, decide_eq_false])) ?_
    refine wlk_reg fun KY hKY => ?_
    simp only [go_sem, reduceIte, Nat.reduceEqDiff, Nat.reduceBEq, reduceCtorEq, Nat.reduceLT, Nat.reduceLeDiff, Nat.reduceAdd, Nat.reduceSub, Nat.reduceMul, Nat.reduceDiv, Int.reduceAdd, Int.reduceNeg, Int.reduceEq, Int.reduceLT, Int.reduceLE, c_garlandlaw23_TutteRefuses_r12]
    refine hKY _ ?_
    repeat (first | refine hn2 _ ?_ | refine he2 _ ?_ | refine hf2 _ _ (by decide) ?_ | refine hr2 _ ?_ | refine hn1 _ ?_ | refine he1 _ _ ?_ | refine hr1 _ ?_)
    have hl1 := hL [0, 0] [1] (by decide) (by decide) (by simp [okPB, upB])
    refine sem_freeze [0, 9, 0] rfl ?_
    refine sem_freeze [0, 9, 1] rfl ?_
    refine wlk_sreg fun KY hKY => ?_
    simp only [go_sem, reduceIte, Nat.reduceEqDiff, Nat.reduceBEq, reduceCtorEq, Nat.reduceLT, Nat.reduceLeDiff, Nat.reduceAdd, Nat.reduceSub, Nat.reduceMul, Nat.reduceDiv, Int.reduceAdd, Int.reduceNeg, Int.reduceEq, Int.reduceLT, Int.reduceLE, c_garlandlaw23_TutteRefuses_r22]
    refine call_view rfl (by simp only [go_sem, reduceIte, Nat.reduceEqDiff, Nat.reduceBEq, reduceCtorEq, Nat.reduceLT, Nat.reduceLeDiff, Nat.reduceAdd, Nat.reduceSub, Nat.reduceMul, Nat.reduceDiv, Int.reduceAdd, Int.reduceNeg, Int.reduceEq, Int.reduceLT, Int.reduceLE] <;> rfl) ((hl1).mono ?_)
    rintro rr hh ⟨rfl, rfl⟩
    refine ⟨?_, ?_, ?_, ?_⟩
    iterate 3 (first | rfl | simp only [go_sem, reduceIte, Nat.reduceEqDiff, Nat.reduceBEq, reduceCtorEq, Nat.reduceLT, Nat.reduceLeDiff, Nat.reduceAdd, Nat.reduceSub, Nat.reduceMul, Nat.reduceDiv, Int.reduceAdd, Int.reduceNeg, Int.reduceEq, Int.reduceLT, Int.reduceLE])
    simp only [go_sem, reduceIte, Nat.reduceEqDiff, Nat.reduceBEq, reduceCtorEq, Nat.reduceLT, Nat.reduceLeDiff, Nat.reduceAdd, Nat.reduceSub, Nat.reduceMul, Nat.reduceDiv, Int.reduceAdd, Int.reduceNeg, Int.reduceEq, Int.reduceLT, Int.reduceLE]
    refine hKY _ ?_
    refine wlk_sreg fun KY hKY => ?_
    simp only [go_sem, reduceIte, Nat.reduceEqDiff, Nat.reduceBEq, reduceCtorEq, Nat.reduceLT, Nat.reduceLeDiff, Nat.reduceAdd, Nat.reduceSub, Nat.reduceMul, Nat.reduceDiv, Int.reduceAdd, Int.reduceNeg, Int.reduceEq, Int.reduceLT, Int.reduceLE, c_garlandlaw23_TutteRefuses_r23]
    refine call_view rfl (by simp only [go_sem, reduceIte, Nat.reduceEqDiff, Nat.reduceBEq, reduceCtorEq, Nat.reduceLT, Nat.reduceLeDiff, Nat.reduceAdd, Nat.reduceSub, Nat.reduceMul, Nat.reduceDiv, Int.reduceAdd, Int.reduceNeg, Int.reduceEq, Int.reduceLT, Int.reduceLE] <;> rfl) ((awake23_ok).mono ?_)
    rintro rr hh ⟨rfl, rfl⟩
    refine ⟨rfl, rfl, rfl, ?_⟩
    simp only [go_sem, reduceIte, Nat.reduceEqDiff, Nat.reduceBEq, reduceCtorEq, Nat.reduceLT, Nat.reduceLeDiff, Nat.reduceAdd, Nat.reduceSub, Nat.reduceMul, Nat.reduceDiv, Int.reduceAdd, Int.reduceNeg, Int.reduceEq, Int.reduceLT, Int.reduceLE]
    refine hKY _ ?_
    refine wlk_ret ?_
    repeat (first | refine hn2 _ ?_ | refine he2 _ ?_ | refine hf2 _ _ (by decide) ?_ | refine hr2 _ ?_ | refine hn1 _ ?_ | refine he1 _ _ ?_ | refine hr1 _ ?_)
    simp only [go_sem, reduceIte, Nat.reduceEqDiff, Nat.reduceBEq, reduceCtorEq, Nat.reduceLT, Nat.reduceLeDiff, Nat.reduceAdd, Nat.reduceSub, Nat.reduceMul, Nat.reduceDiv, Int.reduceAdd, Int.reduceNeg, Int.reduceEq, Int.reduceLT, Int.reduceLE]
  · refine wlk_sreg fun KY hKY => ?_
    simp only [go_sem, reduceIte, Nat.reduceEqDiff, Nat.reduceBEq, reduceCtorEq, Nat.reduceLT, Nat.reduceLeDiff, Nat.reduceAdd, Nat.reduceSub, Nat.reduceMul, Nat.reduceDiv, Int.reduceAdd, Int.reduceNeg, Int.reduceEq, Int.reduceLT, Int.reduceLE, c_garlandlaw23_TutteRefuses_r7]
    refine hKY _ ?_
    refine wlk_cond0 (by first | rfl | (simp only [go_sem, reduceIte, Nat.reduceEqDiff, Nat.reduceBEq, reduceCtorEq, Nat.reduceLT, Nat.reduceLeDiff, Nat.reduceAdd, Nat.reduceSub, Nat.reduceMul, Nat.reduceDiv, Int.reduceAdd, Int.reduceNeg, Int.reduceEq, Int.reduceLT, Int.reduceLE]; try simp (disch := omega) only [decide_eq_true, decide_eq_false])) ?_
    refine wlk_sreg fun KY hKY => ?_
    simp only [go_sem, reduceIte, Nat.reduceEqDiff, Nat.reduceBEq, reduceCtorEq, Nat.reduceLT, Nat.reduceLeDiff, Nat.reduceAdd, Nat.reduceSub, Nat.reduceMul, Nat.reduceDiv, Int.reduceAdd, Int.reduceNeg, Int.reduceEq, Int.reduceLT, Int.reduceLE, c_garlandlaw23_TutteRefuses_r9]
    refine hKY _ ?_
    refine wlk_cond0 (by first | rfl | (simp only [go_sem, reduceIte, Nat.reduceEqDiff, Nat.reduceBEq, reduceCtorEq, Nat.reduceLT, Nat.reduceLeDiff, Nat.reduceAdd, Nat.reduceSub, Nat.reduceMul, Nat.reduceDiv, Int.reduceAdd, Int.reduceNeg, Int.reduceEq, Int.reduceLT, Int.reduceLE]; try simp (disch := omega) only [decide_eq_true, decide_eq_false])) ?_
    refine wlk_sreg fun KY hKY => ?_
    simp only [go_sem, reduceIte, Nat.reduceEqDiff, Nat.reduceBEq, reduceCtorEq, Nat.reduceLT, Nat.reduceLeDiff, Nat.reduceAdd, Nat.reduceSub, Nat.reduceMul, Nat.reduceDiv, Int.reduceAdd, Int.reduceNeg, Int.reduceEq, Int.reduceLT, Int.reduceLE, c_garlandlaw23_TutteRefuses_r11]
    refine hKY _ ?_
    refine wlk_cond0 (by first | rfl | (simp only [go_sem, reduceIte, Nat.reduceEqDiff, Nat.reduceBEq, reduceCtorEq, Nat.reduceLT, Nat.reduceLeDiff, Nat.reduceAdd, Nat.reduceSub, Nat.reduceMul, Nat.reduceDiv, Int.reduceAdd, Int.reduceNeg, Int.reduceEq, Int.reduceLT, Int.reduceLE]; try simp (disch := omega) only [decide_eq_true, decide_eq_false])) ?_
    refine wlk_sreg fun KY hKY => ?_
    simp only [go_sem, reduceIte, Nat.reduceEqDiff, Nat.reduceBEq, reduceCtorEq, Nat.reduceLT, Nat.reduceLeDiff, Nat.reduceAdd, Nat.reduceSub, Nat.reduceMul, Nat.reduceDiv, Int.reduceAdd, Int.reduceNeg, Int.reduceEq, Int.reduceLT, Int.reduceLE, c_garlandlaw23_TutteRefuses_r13]
    refine hKY _ ?_
    refine wlk_cond1 (by first | rfl | (simp only [go_sem, reduceIte, Nat.reduceEqDiff, Nat.reduceBEq, reduceCtorEq, Nat.reduceLT, Nat.reduceLeDiff, Nat.reduceAdd, Nat.reduceSub, Nat.reduceMul, Nat.reduceDiv, Int.reduceAdd, Int.reduceNeg, Int.reduceEq, Int.reduceLT, Int.reduceLE]; try simp (disch := omega) only [decide_eq_true, decide_eq_false])) ?_
    refine wlk_reg fun KY hKY => ?_
    simp only [go_sem, reduceIte, Nat.reduceEqDiff, Nat.reduceBEq, reduceCtorEq, Nat.reduceLT, Nat.reduceLeDiff, Nat.reduceAdd, Nat.reduceSub, Nat.reduceMul, Nat.reduceDiv, Int.reduceAdd, Int.reduceNeg, Int.reduceEq, Int.reduceLT, Int.reduceLE, c_garlandlaw23_TutteRefuses_r14]
    refine hKY _ ?_
    repeat (first | refine hn2 _ ?_ | refine he2 _ ?_ | refine hf2 _ _ (by decide) ?_ | refine hr2 _ ?_ | refine hn1 _ ?_ | refine he1 _ _ ?_ | refine hr1 _ ?_)
    have hl1 := hL [0] [((N + 2 : Nat) : Int)] (by decide) (by simp) (by simp [okPB, upB])
    refine sem_freeze [0, 9, 0] rfl ?_
    refine sem_freeze [0, 9, 1] rfl ?_
    refine wlk_sreg fun KY hKY => ?_
    simp only [go_sem, reduceIte, Nat.reduceEqDiff, Nat.reduceBEq, reduceCtorEq, Nat.reduceLT, Nat.reduceLeDiff, Nat.reduceAdd, Nat.reduceSub, Nat.reduceMul, Nat.reduceDiv, Int.reduceAdd, Int.reduceNeg, Int.reduceEq, Int.reduceLT, Int.reduceLE, c_garlandlaw23_TutteRefuses_r22]
    refine call_view rfl (by simp only [go_sem, reduceIte, Nat.reduceEqDiff, Nat.reduceBEq, reduceCtorEq, Nat.reduceLT, Nat.reduceLeDiff, Nat.reduceAdd, Nat.reduceSub, Nat.reduceMul, Nat.reduceDiv, Int.reduceAdd, Int.reduceNeg, Int.reduceEq, Int.reduceLT, Int.reduceLE] <;> rfl) ((hl1).mono ?_)
    rintro rr hh ⟨rfl, rfl⟩
    refine ⟨?_, ?_, ?_, ?_⟩
    iterate 3 (first | rfl | simp only [go_sem, reduceIte, Nat.reduceEqDiff, Nat.reduceBEq, reduceCtorEq, Nat.reduceLT, Nat.reduceLeDiff, Nat.reduceAdd, Nat.reduceSub, Nat.reduceMul, Nat.reduceDiv, Int.reduceAdd, Int.reduceNeg, Int.reduceEq, Int.reduceLT, Int.reduceLE])
    simp only [go_sem, reduceIte, Nat.reduceEqDiff, Nat.reduceBEq, reduceCtorEq, Nat.reduceLT, Nat.reduceLeDiff, Nat.reduceAdd, Nat.reduceSub, Nat.reduceMul, Nat.reduceDiv, Int.reduceAdd, Int.reduceNeg, Int.reduceEq, Int.reduceLT, Int.reduceLE]
    refine hKY _ ?_
    refine wlk_sreg fun KY hKY => ?_
    simp only [go_sem, reduceIte, Nat.reduceEqDiff, Nat.reduceBEq, reduceCtorEq, Nat.reduceLT, Nat.reduceLeDiff, Nat.reduceAdd, Nat.reduceSub, Nat.reduceMul, Nat.reduceDiv, Int.reduceAdd, Int.reduceNeg, Int.reduceEq, Int.reduceLT, Int.reduceLE, c_garlandlaw23_TutteRefuses_r23]
    refine call_view rfl (by simp only [go_sem, reduceIte, Nat.reduceEqDiff, Nat.reduceBEq, reduceCtorEq, Nat.reduceLT, Nat.reduceLeDiff, Nat.reduceAdd, Nat.reduceSub, Nat.reduceMul, Nat.reduceDiv, Int.reduceAdd, Int.reduceNeg, Int.reduceEq, Int.reduceLT, Int.reduceLE] <;> rfl) ((awake23_ok).mono ?_)
    rintro rr hh ⟨rfl, rfl⟩
    refine ⟨rfl, rfl, rfl, ?_⟩
    simp only [go_sem, reduceIte, Nat.reduceEqDiff, Nat.reduceBEq, reduceCtorEq, Nat.reduceLT, Nat.reduceLeDiff, Nat.reduceAdd, Nat.reduceSub, Nat.reduceMul, Nat.reduceDiv, Int.reduceAdd, Int.reduceNeg, Int.reduceEq, Int.reduceLT, Int.reduceLE]
    refine hKY _ ?_
    refine wlk_ret ?_
    repeat (first | refine hn2 _ ?_ | refine he2 _ ?_ | refine hf2 _ _ (by decide) ?_ | refine hr2 _ ?_ | refine hn1 _ ?_ | refine he1 _ _ ?_ | refine hr1 _ ?_)
    simp only [go_sem, reduceIte, Nat.reduceEqDiff, Nat.reduceBEq, reduceCtorEq, Nat.reduceLT, Nat.reduceLeDiff, Nat.reduceAdd, Nat.reduceSub, Nat.reduceMul, Nat.reduceDiv, Int.reduceAdd, Int.reduceNeg, Int.reduceEq, Int.reduceLT, Int.reduceLE]
  · refine wlk_sreg fun KY hKY => ?_
    simp only [go_sem, reduceIte, Nat.reduceEqDiff, Nat.reduceBEq, reduceCtorEq, Nat.reduceLT, Nat.reduceLeDiff, Nat.reduceAdd, Nat.reduceSub, Nat.reduceMul, Nat.reduceDiv, Int.reduceAdd, Int.reduceNeg, Int.reduceEq, Int.reduceLT, Int.reduceLE, c_garlandlaw23_TutteRefuses_r7]
    refine hKY _ ?_
    refine wlk_cond0 (by first | rfl | (simp only [go_sem, reduceIte, Nat.reduceEqDiff, Nat.reduceBEq, reduceCtorEq, Nat.reduceLT, Nat.reduceLeDiff, Nat.reduceAdd, Nat.reduceSub, Nat.reduceMul, Nat.reduceDiv, Int.reduceAdd, Int.reduceNeg, Int.reduceEq, Int.reduceLT, Int.reduceLE]; try simp (disch := omega) only [decide_eq_true, decide_eq_false])) ?_
    refine wlk_sreg fun KY hKY => ?_
    simp only [go_sem, reduceIte, Nat.reduceEqDiff, Nat.reduceBEq, reduceCtorEq, Nat.reduceLT, Nat.reduceLeDiff, Nat.reduceAdd, Nat.reduceSub, Nat.reduceMul, Nat.reduceDiv, Int.reduceAdd, Int.reduceNeg, Int.reduceEq, Int.reduceLT, Int.reduceLE, c_garlandlaw23_TutteRefuses_r9]
    refine hKY _ ?_
    refine wlk_cond0 (by first | rfl | (simp only [go_sem, reduceIte, Nat.reduceEqDiff, Nat.reduceBEq, reduceCtorEq, Nat.reduceLT, Nat.reduceLeDiff, Nat.reduceAdd, Nat.reduceSub, Nat.reduceMul, Nat.reduceDiv, Int.reduceAdd, Int.reduceNeg, Int.reduceEq, Int.reduceLT, Int.reduceLE]; try simp (disch := omega) only [decide_eq_true, decide_eq_false])) ?_
    refine wlk_sreg fun KY hKY => ?_
    simp only [go_sem, reduceIte, Nat.reduceEqDiff, Nat.reduceBEq, reduceCtorEq, Nat.reduceLT, Nat.reduceLeDiff, Nat.reduceAdd, Nat.reduceSub, Nat.reduceMul, Nat.reduceDiv, Int.reduceAdd, Int.reduceNeg, Int.reduceEq, Int.reduceLT, Int.reduceLE, c_garlandlaw23_TutteRefuses_r11]
    refine hKY _ ?_
    refine wlk_cond0 (by first | rfl | (simp only [go_sem, reduceIte, Nat.reduceEqDiff, Nat.reduceBEq, reduceCtorEq, Nat.reduceLT, Nat.reduceLeDiff, Nat.reduceAdd, Nat.reduceSub, Nat.reduceMul, Nat.reduceDiv, Int.reduceAdd, Int.reduceNeg, Int.reduceEq, Int.reduceLT, Int.reduceLE]; try simp (disch := omega) only [decide_eq_true, decide_eq_false])) ?_
    refine wlk_sreg fun KY hKY => ?_
    simp only [go_sem, reduceIte, Nat.reduceEqDiff, Nat.reduceBEq, reduceCtorEq, Nat.reduceLT, Nat.reduceLeDiff, Nat.reduceAdd, Nat.reduceSub, Nat.reduceMul, Nat.reduceDiv, Int.reduceAdd, Int.reduceNeg, Int.reduceEq, Int.reduceLT, Int.reduceLE, c_garlandlaw23_TutteRefuses_r13]
    refine hKY _ ?_
    refine wlk_cond0 (by first | rfl | (simp only [go_sem, reduceIte, Nat.reduceEqDiff, Nat.reduceBEq, reduceCtorEq, Nat.reduceLT, Nat.reduceLeDiff, Nat.reduceAdd, Nat.reduceSub, Nat.reduceMul, Nat.reduceDiv, Int.reduceAdd, Int.reduceNeg, Int.reduceEq, Int.reduceLT, Int.reduceLE]; try simp (disch := omega) only [decide_eq_true, decide_eq_false])) ?_
    refine wlk_sreg fun KY hKY => ?_
    simp only [go_sem, reduceIte, Nat.reduceEqDiff, Nat.reduceBEq, reduceCtorEq, Nat.reduceLT, Nat.reduceLeDiff, Nat.reduceAdd, Nat.reduceSub, Nat.reduceMul, Nat.reduceDiv, Int.reduceAdd, Int.reduceNeg, Int.reduceEq, Int.reduceLT, Int.reduceLE, c_garlandlaw23_TutteRefuses_r15]
    refine hKY _ ?_
    refine wlk_cond1 (by first | rfl | (simp only [go_sem, reduceIte, Nat.reduceEqDiff, Nat.reduceBEq, reduceCtorEq, Nat.reduceLT, Nat.reduceLeDiff, Nat.reduceAdd, Nat.reduceSub, Nat.reduceMul, Nat.reduceDiv, Int.reduceAdd, Int.reduceNeg, Int.reduceEq, Int.reduceLT, Int.reduceLE]; try simp (disch := omega) only [decide_eq_true, decide_eq_false])) ?_
    refine wlk_reg fun KY hKY => ?_
    simp only [go_sem, reduceIte, Nat.reduceEqDiff, Nat.reduceBEq, reduceCtorEq, Nat.reduceLT, Nat.reduceLeDiff, Nat.reduceAdd, Nat.reduceSub, Nat.reduceMul, Nat.reduceDiv, Int.reduceAdd, Int.reduceNeg, Int.reduceEq, Int.reduceLT, Int.reduceLE, c_garlandlaw23_TutteRefuses_r16]
    refine hKY _ ?_
    repeat (first | refine hn2 _ ?_ | refine he2 _ ?_ | refine hf2 _ _ (by decide) ?_ | refine hr2 _ ?_ | refine hn1 _ ?_ | refine he1 _ _ ?_ | refine hr1 _ ?_)
    have hl1 := hL [-1] [1] (by decide) (by decide) (by simp [okPB, upB])
    refine sem_freeze [0, 9, 0] rfl ?_
    refine sem_freeze [0, 9, 1] rfl ?_
    refine wlk_sreg fun KY hKY => ?_
    simp only [go_sem, reduceIte, Nat.reduceEqDiff, Nat.reduceBEq, reduceCtorEq, Nat.reduceLT, Nat.reduceLeDiff, Nat.reduceAdd, Nat.reduceSub, Nat.reduceMul, Nat.reduceDiv, Int.reduceAdd, Int.reduceNeg, Int.reduceEq, Int.reduceLT, Int.reduceLE, c_garlandlaw23_TutteRefuses_r22]
    refine call_view rfl (by simp only [go_sem, reduceIte, Nat.reduceEqDiff, Nat.reduceBEq, reduceCtorEq, Nat.reduceLT, Nat.reduceLeDiff, Nat.reduceAdd, Nat.reduceSub, Nat.reduceMul, Nat.reduceDiv, Int.reduceAdd, Int.reduceNeg, Int.reduceEq, Int.reduceLT, Int.reduceLE] <;> rfl) ((hl1).mono ?_)
    rintro rr hh ⟨rfl, rfl⟩
    refine ⟨?_, ?_, ?_, ?_⟩
    iterate 3 (first | rfl | simp only [go_sem, reduceIte, Nat.reduceEqDiff, Nat.reduceBEq, reduceCtorEq, Nat.reduceLT, Nat.reduceLeDiff, Nat.reduceAdd, Nat.reduceSub, Nat.reduceMul, Nat.reduceDiv, Int.reduceAdd, Int.reduceNeg, Int.reduceEq, Int.reduceLT, Int.reduceLE])
    simp only [go_sem, reduceIte, Nat.reduceEqDiff, Nat.reduceBEq, reduceCtorEq, Nat.reduceLT, Nat.reduceLeDiff, Nat.reduceAdd, Nat.reduceSub, Nat.reduceMul, Nat.reduceDiv, Int.reduceAdd, Int.reduceNeg, Int.reduceEq, Int.reduceLT, Int.reduceLE]
    refine hKY _ ?_
    refine wlk_sreg fun KY hKY => ?_
    simp only [go_sem, reduceIte, Nat.reduceEqDiff, Nat.reduceBEq, reduceCtorEq, Nat.reduceLT, Nat.reduceLeDiff, Nat.reduceAdd, Nat.reduceSub, Nat.reduceMul, Nat.reduceDiv, Int.reduceAdd, Int.reduceNeg, Int.reduceEq, Int.reduceLT, Int.reduceLE, c_garlandlaw23_TutteRefuses_r23]
    refine call_view rfl (by simp only [go_sem, reduceIte, Nat.reduceEqDiff, Nat.reduceBEq, reduceCtorEq, Nat.reduceLT, Nat.reduceLeDiff, Nat.reduceAdd, Nat.reduceSub, Nat.reduceMul, Nat.reduceDiv, Int.reduceAdd, Int.reduceNeg, Int.reduceEq, Int.reduceLT, Int.reduceLE] <;> rfl) ((awake23_ok).mono ?_)
    rintro rr hh ⟨rfl, rfl⟩
    refine ⟨rfl, rfl, rfl, ?_⟩
    simp only [go_sem, reduceIte, Nat.reduceEqDiff, Nat.reduceBEq, reduceCtorEq, Nat.reduceLT, Nat.reduceLeDiff, Nat.reduceAdd, Nat.reduceSub, Nat.reduceMul, Nat.reduceDiv, Int.reduceAdd, Int.reduceNeg, Int.reduceEq, Int.reduceLT, Int.reduceLE]
    refine hKY _ ?_
    refine wlk_ret ?_
    repeat (first | refine hn2 _ ?_ | refine he2 _ ?_ | refine hf2 _ _ (by decide) ?_ | refine hr2 _ ?_ | refine hn1 _ ?_ | refine he1 _ _ ?_ | refine hr1 _ ?_)
    simp only [go_sem, reduceIte, Nat.reduceEqDiff, Nat.reduceBEq, reduceCtorEq, Nat.reduceLT, Nat.reduceLeDiff, Nat.reduceAdd, Nat.reduceSub, Nat.reduceMul, Nat.reduceDiv, Int.reduceAdd, Int.reduceNeg, Int.reduceEq, Int.reduceLT, Int.reduceLE]
  · refine wlk_sreg fun KY hKY => ?_
    simp only [go_sem, reduceIte, Nat.reduceEqDiff, Nat.reduceBEq, reduceCtorEq, Nat.reduceLT, Nat.reduceLeDiff, Nat.reduceAdd, Nat.reduceSub, Nat.reduceMul, Nat.reduceDiv, Int.reduceAdd, Int.reduceNeg, Int.reduceEq, Int.reduceLT, Int.reduceLE, c_garlandlaw23_TutteRefuses_r7]
    refine hKY _ ?_
    refine wlk_cond0 (by first | rfl | (simp only [go_sem, reduceIte, Nat.reduceEqDiff, Nat.reduceBEq, reduceCtorEq, Nat.reduceLT, Nat.reduceLeDiff, Nat.reduceAdd, Nat.reduceSub, Nat.reduceMul, Nat.reduceDiv, Int.reduceAdd, Int.reduceNeg, Int.reduceEq, Int.reduceLT, Int.reduceLE]; try simp (disch := omega) only [decide_eq_true, decide_eq_false])) ?_
    refine wlk_sreg fun KY hKY => ?_
    simp only [go_sem, reduceIte, Nat.reduceEqDiff, Nat.reduceBEq, reduceCtorEq, Nat.reduceLT, Nat.reduceLeDiff, Nat.reduceAdd, Nat.reduceSub, Nat.reduceMul, Nat.reduceDiv, Int.reduceAdd, Int.reduceNeg, Int.reduceEq, Int.reduceLT, Int.reduceLE, c_garlandlaw23_TutteRefuses_r9]
    refine hKY _ ?_
    refine wlk_cond0 (by first | rfl | (simp only [go_sem, reduceIte, Nat.reduceEqDiff, Nat.reduceBEq, reduceCtorEq, Nat.reduceLT, Nat.reduceLeDiff, Nat.reduceAdd, Nat.reduceSub, Nat.reduceMul, Nat.reduceDiv, Int.reduceAdd, Int.reduceNeg, Int.reduceEq, Int.reduceLT, Int.reduceLE]; try simp (disch := omega) only [decide_eq_true, decide_eq_false])) ?_
    refine wlk_sreg fun KY hKY => ?_
    simp only [go_sem, reduceIte, Nat.reduceEqDiff, Nat.reduceBEq, reduceCtorEq, Nat.reduceLT, Nat.reduceLeDiff, Nat.reduceAdd, Nat.reduceSub, Nat.reduceMul, Nat.reduceDiv, Int.reduceAdd, Int.reduceNeg, Int.reduceEq, Int.reduceLT, Int.reduceLE, c_garlandlaw23_TutteRefuses_r11]
    refine hKY _ ?_
    refine wlk_cond0 (by first | rfl | (simp only [go_sem, reduceIte, Nat.reduceEqDiff, Nat.reduceBEq, reduceCtorEq, Nat.reduceLT, Nat.reduceLeDiff, Nat.reduceAdd, Nat.reduceSub, Nat.reduceMul, Nat.reduceDiv, Int.reduceAdd, Int.reduceNeg, Int.reduceEq, Int.reduceLT, Int.reduceLE]; try simp (disch := omega) only [decide_eq_true, decide_eq_false])) ?_
    refine wlk_sreg fun KY hKY => ?_
    simp only [go_sem, reduceIte, Nat.reduceEqDiff, Nat.reduceBEq, reduceCtorEq, Nat.reduceLT, Nat.reduceLeDiff, Nat.reduceAdd, Nat.reduceSub, Nat.reduceMul, Nat.reduceDiv, Int.reduceAdd, Int.reduceNeg, Int.reduceEq, Int.reduceLT, Int.reduceLE, c_garlandlaw23_TutteRefuses_r13]
    refine hKY _ ?_
    refine wlk_cond0 (by first | rfl | (simp only [go_sem, reduceIte, Nat.reduceEqDiff, Nat.reduceBEq, reduceCtorEq, Nat.reduceLT, Nat.reduceLeDiff, Nat.reduceAdd, Nat.reduceSub, Nat.reduceMul, Nat.reduceDiv, Int.reduceAdd, Int.reduceNeg, Int.reduceEq, Int.reduceLT, Int.reduceLE]; try simp (disch := omega) only [decide_eq_true, decide_eq_false])) ?_
    refine wlk_sreg fun KY hKY => ?_
    simp only [go_sem, reduceIte, Nat.reduceEqDiff, Nat.reduceBEq, reduceCtorEq, Nat.reduceLT, Nat.reduceLeDiff, Nat.reduceAdd, Nat.reduceSub, Nat.reduceMul, Nat.reduceDiv, Int.reduceAdd, Int.reduceNeg, Int.reduceEq, Int.reduceLT, Int.reduceLE, c_garlandlaw23_TutteRefuses_r15]
    refine hKY _ ?_
    refine wlk_cond0 (by first | rfl | (simp only [go_sem, reduceIte, Nat.reduceEqDiff, Nat.reduceBEq, reduceCtorEq, Nat.reduceLT, Nat.reduceLeDiff, Nat.reduceAdd, Nat.reduceSub, Nat.reduceMul, Nat.reduceDiv, Int.reduceAdd, Int.reduceNeg, Int.reduceEq, Int.reduceLT, Int.reduceLE]; try simp (disch := omega) only [decide_eq_true, decide_eq_false])) ?_
    refine wlk_sreg fun KY hKY => ?_
    simp only [go_sem, reduceIte, Nat.reduceEqDiff, Nat.reduceBEq, reduceCtorEq, Nat.reduceLT, Nat.reduceLeDiff, Nat.reduceAdd, Nat.reduceSub, Nat.reduceMul, Nat.reduceDiv, Int.reduceAdd, Int.reduceNeg, Int.reduceEq, Int.reduceLT, Int.reduceLE, c_garlandlaw23_TutteRefuses_r17]
    refine hKY _ ?_
    refine wlk_cond1 (by first | rfl | (simp only [go_sem, reduceIte, Nat.reduceEqDiff, Nat.reduceBEq, reduceCtorEq, Nat.reduceLT, Nat.reduceLeDiff, Nat.reduceAdd, Nat.reduceSub, Nat.reduceMul, Nat.reduceDiv, Int.reduceAdd, Int.reduceNeg, Int.reduceEq, Int.reduceLT, Int.reduceLE]; try simp (disch := omega) only [decide_eq_true, decide_eq_false])) ?_
    refine wlk_reg fun KY hKY => ?_
    simp only [go_sem, reduceIte, Nat.reduceEqDiff, Nat.reduceBEq, reduceCtorEq, Nat.reduceLT, Nat.reduceLeDiff, Nat.reduceAdd, Nat.reduceSub, Nat.reduceMul, Nat.reduceDiv, Int.reduceAdd, Int.reduceNeg, Int.reduceEq, Int.reduceLT, Int.reduceLE, c_garlandlaw23_TutteRefuses_r18, ints_get (show 0 < fs.length by omega), (show 0 < N + 2 by omega), hl, ints_len]
    refine hKY _ ?_
    repeat (first | refine hn2 _ ?_ | refine he2 _ ?_ | refine hf2 _ _ (by decide) ?_ | refine hr2 _ ?_ | refine hn1 _ ?_ | refine he1 _ _ ?_ | refine hr1 _ ?_)
    have hl1 := hE (fs.set 0 (-1)) (by rw [List.length_set]; omega) (b1 _ (by omega))
    rw [hE12 _ (b1 _ (by omega))] at hl1
    refine sem_freeze [0, 9, 0] rfl ?_
    refine sem_freeze [0, 9, 1] rfl ?_
    refine wlk_sreg fun KY hKY => ?_
    simp only [go_sem, reduceIte, Nat.reduceEqDiff, Nat.reduceBEq, reduceCtorEq, Nat.reduceLT, Nat.reduceLeDiff, Nat.reduceAdd, Nat.reduceSub, Nat.reduceMul, Nat.reduceDiv, Int.reduceAdd, Int.reduceNeg, Int.reduceEq, Int.reduceLT, Int.reduceLE, c_garlandlaw23_TutteRefuses_r22]
    refine call_view rfl (by simp only [go_sem, reduceIte, Nat.reduceEqDiff, Nat.reduceBEq, reduceCtorEq, Nat.reduceLT, Nat.reduceLeDiff, Nat.reduceAdd, Nat.reduceSub, Nat.reduceMul, Nat.reduceDiv, Int.reduceAdd, Int.reduceNeg, Int.reduceEq, Int.reduceLT, Int.reduceLE] <;> rfl) ((hl1).mono ?_)
    rintro rr hh ⟨rfl, rfl⟩
    refine ⟨?_, ?_, ?_, ?_⟩
    iterate 3 (first | rfl | simp only [go_sem, reduceIte, Nat.reduceEqDiff, Nat.reduceBEq, reduceCtorEq, Nat.reduceLT, Nat.reduceLeDiff, Nat.reduceAdd, Nat.reduceSub, Nat.reduceMul, Nat.reduceDiv, Int.reduceAdd, Int.reduceNeg, Int.reduceEq, Int.reduceLT, Int.reduceLE])
    simp only [go_sem, reduceIte, Nat.reduceEqDiff, Nat.reduceBEq, reduceCtorEq, Nat.reduceLT, Nat.reduceLeDiff, Nat.reduceAdd, Nat.reduceSub, Nat.reduceMul, Nat.reduceDiv, Int.reduceAdd, Int.reduceNeg, Int.reduceEq, Int.reduceLT, Int.reduceLE]
    refine hKY _ ?_
    refine wlk_sreg fun KY hKY => ?_
    simp only [go_sem, reduceIte, Nat.reduceEqDiff, Nat.reduceBEq, reduceCtorEq, Nat.reduceLT, Nat.reduceLeDiff, Nat.reduceAdd, Nat.reduceSub, Nat.reduceMul, Nat.reduceDiv, Int.reduceAdd, Int.reduceNeg, Int.reduceEq, Int.reduceLT, Int.reduceLE, c_garlandlaw23_TutteRefuses_r23]
    refine call_view rfl (by simp only [go_sem, reduceIte, Nat.reduceEqDiff, Nat.reduceBEq, reduceCtorEq, Nat.reduceLT, Nat.reduceLeDiff, Nat.reduceAdd, Nat.reduceSub, Nat.reduceMul, Nat.reduceDiv, Int.reduceAdd, Int.reduceNeg, Int.reduceEq, Int.reduceLT, Int.reduceLE] <;> rfl) ((awake23_ok).mono ?_)
    rintro rr hh ⟨rfl, rfl⟩
    refine ⟨rfl, rfl, rfl, ?_⟩
    simp only [go_sem, reduceIte, Nat.reduceEqDiff, Nat.reduceBEq, reduceCtorEq, Nat.reduceLT, Nat.reduceLeDiff, Nat.reduceAdd, Nat.reduceSub, Nat.reduceMul, Nat.reduceDiv, Int.reduceAdd, Int.reduceNeg, Int.reduceEq, Int.reduceLT, Int.reduceLE]
    refine hKY _ ?_
    refine wlk_ret ?_
    repeat (first | refine hn2 _ ?_ | refine he2 _ ?_ | refine hf2 _ _ (by decide) ?_ | refine hr2 _ ?_ | refine hn1 _ ?_ | refine he1 _ _ ?_ | refine hr1 _ ?_)
    simp only [go_sem, reduceIte, Nat.reduceEqDiff, Nat.reduceBEq, reduceCtorEq, Nat.reduceLT, Nat.reduceLeDiff, Nat.reduceAdd, Nat.reduceSub, Nat.reduceMul, Nat.reduceDiv, Int.reduceAdd, Int.reduceNeg, Int.reduceEq, Int.reduceLT, Int.reduceLE]
  · refine wlk_sreg fun KY hKY => ?_
    simp only [go_sem, reduceIte, Nat.reduceEqDiff, Nat.reduceBEq, reduceCtorEq, Nat.reduceLT, Nat.reduceLeDiff, Nat.reduceAdd, Nat.reduceSub, Nat.reduceMul, Nat.reduceDiv, Int.reduceAdd, Int.reduceNeg, Int.reduceEq, Int.reduceLT, Int.reduceLE, c_garlandlaw23_TutteRefuses_r7]
    refine hKY _ ?_
    refine wlk_cond0 (by first | rfl | (simp only [go_sem, reduceIte, Nat.reduceEqDiff, Nat.reduceBEq, reduceCtorEq, Nat.reduceLT, Nat.reduceLeDiff, Nat.reduceAdd, Nat.reduceSub, Nat.reduceMul, Nat.reduceDiv, Int.reduceAdd, Int.reduceNeg, Int.reduceEq, Int.reduceLT, Int.reduceLE]; try simp (disch := omega) only [decide_eq_true, decide_eq_false])) ?_
    refine wlk_sreg fun KY hKY => ?_
    simp only [go_sem, reduceIte, Nat.reduceEqDiff, Nat.reduceBEq, reduceCtorEq, Nat.reduceLT, Nat.reduceLeDiff, Nat.reduceAdd, Nat.reduceSub, Nat.reduceMul, Nat.reduceDiv, Int.reduceAdd, Int.reduceNeg, Int.reduceEq, Int.reduceLT, Int.reduceLE, c_garlandlaw23_TutteRefuses_r9]
    refine hKY _ ?_
    refine wlk_cond0 (by first | rfl | (simp only [go_sem, reduceIte, Nat.reduceEqDiff, Nat.reduceBEq, reduceCtorEq, Nat.reduceLT, Nat.reduceLeDiff, Nat.reduceAdd, Nat.reduceSub, Nat.reduceMul, Nat.reduceDiv, Int.reduceAdd, Int.reduceNeg, Int.reduceEq, Int.reduceLT, Int.reduceLE]; try simp (disch := omega) only [decide_eq_true, decide_eq_false])) ?_
    refine wlk_sreg fun KY hKY => ?_
    simp only [go_sem, reduceIte, Nat.reduceEqDiff, Nat.reduceBEq, reduceCtorEq, Nat.reduceLT, Nat.reduceLeDiff, Nat.reduceAdd, Nat.reduceSub, Nat.reduceMul, Nat.reduceDiv, Int.reduceAdd, Int.reduceNeg, Int.reduceEq, Int.reduceLT, Int.reduceLE, c_garlandlaw23_TutteRefuses_r11]
    refine hKY _ ?_
    refine wlk_cond0 (by first | rfl | (simp only [go_sem, reduceIte, Nat.reduceEqDiff, Nat.reduceBEq, reduceCtorEq, Nat.reduceLT, Nat.reduceLeDiff, Nat.reduceAdd, Nat.reduceSub, Nat.reduceMul, Nat.reduceDiv, Int.reduceAdd, Int.reduceNeg, Int.reduceEq, Int.reduceLT, Int.reduceLE]; try simp (disch := omega) only [decide_eq_true, decide_eq_false])) ?_
    refine wlk_sreg fun KY hKY => ?_
    simp only [go_sem, reduceIte, Nat.reduceEqDiff, Nat.reduceBEq, reduceCtorEq, Nat.reduceLT, Nat.reduceLeDiff, Nat.reduceAdd, Nat.reduceSub, Nat.reduceMul, Nat.reduceDiv, Int.reduceAdd, Int.reduceNeg, Int.reduceEq, Int.reduceLT, Int.reduceLE, c_garlandlaw23_TutteRefuses_r13]
    refine hKY _ ?_
    refine wlk_cond0 (by first | rfl | (simp only [go_sem, reduceIte, Nat.reduceEqDiff, Nat.reduceBEq, reduceCtorEq, Nat.reduceLT, Nat.reduceLeDiff, Nat.reduceAdd, Nat.reduceSub, Nat.reduceMul, Nat.reduceDiv, Int.reduceAdd, Int.reduceNeg, Int.reduceEq, Int.reduceLT, Int.reduceLE]; try simp (disch := omega) only [decide_eq_true, decide_eq_false])) ?_
    refine wlk_sreg fun KY hKY => ?_
    simp only [go_sem, reduceIte, Nat.reduceEqDiff, Nat.reduceBEq, reduceCtorEq, Nat.reduceLT, Nat.reduceLeDiff, Nat.reduceAdd, Nat.reduceSub, Nat.reduceMul, Nat.reduceDiv, Int.reduceAdd, Int.reduceNeg, Int.reduceEq, Int.reduceLT, Int.reduceLE, c_garlandlaw23_TutteRefuses_r15]
    refine hKY _ ?_
    refine wlk_cond0 (by first | rfl | (simp only [go_sem, reduceIte, Nat.reduceEqDiff, Nat.reduceBEq, reduceCtorEq, Nat.reduceLT, Nat.reduceLeDiff, Nat.reduceAdd, Nat.reduceSub, Nat.reduceMul, Nat.reduceDiv, Int.reduceAdd, Int.reduceNeg, Int.reduceEq, Int.reduceLT, Int.reduceLE]; try simp (disch := omega) only [decide_eq_true, decide_eq_false])) ?_
    refine wlk_sreg fun KY hKY => ?_
    simp only [go_sem, reduceIte, Nat.reduceEqDiff, Nat.reduceBEq, reduceCtorEq, Nat.reduceLT, Nat.reduceLeDiff, Nat.reduceAdd, Nat.reduceSub, Nat.reduceMul, Nat.reduceDiv, Int.reduceAdd, Int.reduceNeg, Int.reduceEq, Int.reduceLT, Int.reduceLE, c_garlandlaw23_TutteRefuses_r17]
    refine hKY _ ?_
    refine wlk_cond0 (by first | rfl | (simp only [go_sem, reduceIte, Nat.reduceEqDiff, Nat.reduceBEq, reduceCtorEq, Nat.reduceLT, Nat.reduceLeDiff, Nat.reduceAdd, Nat.reduceSub, Nat.reduceMul, Nat.reduceDiv, Int.reduceAdd, Int.reduceNeg, Int.reduceEq, Int.reduceLT, Int.reduceLE]; try simp (disch := omega) only [decide_eq_true, decide_eq_false])) ?_
    refine wlk_sreg fun KY hKY => ?_
    simp only [go_sem, reduceIte, Nat.reduceEqDiff, Nat.reduceBEq, reduceCtorEq, Nat.reduceLT, Nat.reduceLeDiff, Nat.reduceAdd, Nat.reduceSub, Nat.reduceMul, Nat.reduceDiv, Int.reduceAdd, Int.reduceNeg, Int.reduceEq, Int.reduceLT, Int.reduceLE, c_garlandlaw23_TutteRefuses_r19]
    refine hKY _ ?_
    refine wlk_cond1 (by first | rfl | (simp only [go_sem, reduceIte, Nat.reduceEqDiff, Nat.reduceBEq, reduceCtorEq, Nat.reduceLT, Nat.reduceLeDiff, Nat.reduceAdd, Nat.reduceSub, Nat.reduceMul, Nat.reduceDiv, Int.reduceAdd, Int.reduceNeg, Int.reduceEq, Int.reduceLT, Int.reduceLE]; try simp (disch := omega) only [decide_eq_true, decide_eq_false])) ?_
    refine wlk_reg fun KY hKY => ?_
    simp only [go_sem, reduceIte, Nat.reduceEqDiff, Nat.reduceBEq, reduceCtorEq, Nat.reduceLT, Nat.reduceLeDiff, Nat.reduceAdd, Nat.reduceSub, Nat.reduceMul, Nat.reduceDiv, Int.reduceAdd, Int.reduceNeg, Int.reduceEq, Int.reduceLT, Int.reduceLE, c_garlandlaw23_TutteRefuses_r20, ints_get (show 0 < fs.length by omega), (show 0 < N + 2 by omega), hl, ints_len]
    refine hKY _ ?_
    repeat (first | refine hn2 _ ?_ | refine he2 _ ?_ | refine hf2 _ _ (by decide) ?_ | refine hr2 _ ?_ | refine hn1 _ ?_ | refine he1 _ _ ?_ | refine hr1 _ ?_)
    have hl1 := hE (fs.set 0 4097) (by rw [List.length_set]; omega) (b1 _ (by omega))
    rw [hE12 _ (b1 _ (by omega))] at hl1
    refine sem_freeze [0, 9, 0] rfl ?_
    refine sem_freeze [0, 9, 1] rfl ?_
    refine wlk_sreg fun KY hKY => ?_
    simp only [go_sem, reduceIte, Nat.reduceEqDiff, Nat.reduceBEq, reduceCtorEq, Nat.reduceLT, Nat.reduceLeDiff, Nat.reduceAdd, Nat.reduceSub, Nat.reduceMul, Nat.reduceDiv, Int.reduceAdd, Int.reduceNeg, Int.reduceEq, Int.reduceLT, Int.reduceLE, c_garlandlaw23_TutteRefuses_r22]
    refine call_view rfl (by simp only [go_sem, reduceIte, Nat.reduceEqDiff, Nat.reduceBEq, reduceCtorEq, Nat.reduceLT, Nat.reduceLeDiff, Nat.reduceAdd, Nat.reduceSub, Nat.reduceMul, Nat.reduceDiv, Int.reduceAdd, Int.reduceNeg, Int.reduceEq, Int.reduceLT, Int.reduceLE] <;> rfl) ((hl1).mono ?_)
    rintro rr hh ⟨rfl, rfl⟩
    refine ⟨?_, ?_, ?_, ?_⟩
    iterate 3 (first | rfl | simp only [go_sem, reduceIte, Nat.reduceEqDiff, Nat.reduceBEq, reduceCtorEq, Nat.reduceLT, Nat.reduceLeDiff, Nat.reduceAdd, Nat.reduceSub, Nat.reduceMul, Nat.reduceDiv, Int.reduceAdd, Int.reduceNeg, Int.reduceEq, Int.reduceLT, Int.reduceLE])
    simp only [go_sem, reduceIte, Nat.reduceEqDiff, Nat.reduceBEq, reduceCtorEq, Nat.reduceLT, Nat.reduceLeDiff, Nat.reduceAdd, Nat.reduceSub, Nat.reduceMul, Nat.reduceDiv, Int.reduceAdd, Int.reduceNeg, Int.reduceEq, Int.reduceLT, Int.reduceLE]
    refine hKY _ ?_
    refine wlk_sreg fun KY hKY => ?_
    simp only [go_sem, reduceIte, Nat.reduceEqDiff, Nat.reduceBEq, reduceCtorEq, Nat.reduceLT, Nat.reduceLeDiff, Nat.reduceAdd, Nat.reduceSub, Nat.reduceMul, Nat.reduceDiv, Int.reduceAdd, Int.reduceNeg, Int.reduceEq, Int.reduceLT, Int.reduceLE, c_garlandlaw23_TutteRefuses_r23]
    refine call_view rfl (by simp only [go_sem, reduceIte, Nat.reduceEqDiff, Nat.reduceBEq, reduceCtorEq, Nat.reduceLT, Nat.reduceLeDiff, Nat.reduceAdd, Nat.reduceSub, Nat.reduceMul, Nat.reduceDiv, Int.reduceAdd, Int.reduceNeg, Int.reduceEq, Int.reduceLT, Int.reduceLE] <;> rfl) ((awake23_ok).mono ?_)
    rintro rr hh ⟨rfl, rfl⟩
    refine ⟨rfl, rfl, rfl, ?_⟩
    simp only [go_sem, reduceIte, Nat.reduceEqDiff, Nat.reduceBEq, reduceCtorEq, Nat.reduceLT, Nat.reduceLeDiff, Nat.reduceAdd, Nat.reduceSub, Nat.reduceMul, Nat.reduceDiv, Int.reduceAdd, Int.reduceNeg, Int.reduceEq, Int.reduceLT, Int.reduceLE]
    refine hKY _ ?_
    refine wlk_ret ?_
    repeat (first | refine hn2 _ ?_ | refine he2 _ ?_ | refine hf2 _ _ (by decide) ?_ | refine hr2 _ ?_ | refine hn1 _ ?_ | refine he1 _ _ ?_ | refine hr1 _ ?_)
    simp only [go_sem, reduceIte, Nat.reduceEqDiff, Nat.reduceBEq, reduceCtorEq, Nat.reduceLT, Nat.reduceLeDiff, Nat.reduceAdd, Nat.reduceSub, Nat.reduceMul, Nat.reduceDiv, Int.reduceAdd, Int.reduceNeg, Int.reduceEq, Int.reduceLT, Int.reduceLE]
  · refine wlk_sreg fun KY hKY => ?_
    simp only [go_sem, reduceIte, Nat.reduceEqDiff, Nat.reduceBEq, reduceCtorEq, Nat.reduceLT, Nat.reduceLeDiff, Nat.reduceAdd, Nat.reduceSub, Nat.reduceMul, Nat.reduceDiv, Int.reduceAdd, Int.reduceNeg, Int.reduceEq, Int.reduceLT, Int.reduceLE, c_garlandlaw23_TutteRefuses_r7]
    refine hKY _ ?_
    refine wlk_cond0 (by first | rfl | (simp only [go_sem, reduceIte, Nat.reduceEqDiff, Nat.reduceBEq, reduceCtorEq, Nat.reduceLT, Nat.reduceLeDiff, Nat.reduceAdd, Nat.reduceSub, Nat.reduceMul, Nat.reduceDiv, Int.reduceAdd, Int.reduceNeg, Int.reduceEq, Int.reduceLT, Int.reduceLE]; try simp (disch := omega) only [decide_eq_true, decide_eq_false])) ?_
    refine wlk_sreg fun KY hKY => ?_
    simp only [go_sem, reduceIte, Nat.reduceEqDiff, Nat.reduceBEq, reduceCtorEq, Nat.reduceLT, Nat.reduceLeDiff, Nat.reduceAdd, Nat.reduceSub, Nat.reduceMul, Nat.reduceDiv, Int.reduceAdd, Int.reduceNeg, Int.reduceEq, Int.reduceLT, Int.reduceLE, c_garlandlaw23_TutteRefuses_r9]
    refine hKY _ ?_
    refine wlk_cond0 (by first | rfl | (simp only [go_sem, reduceIte, Nat.reduceEqDiff, Nat.reduceBEq, reduceCtorEq, Nat.reduceLT, Nat.reduceLeDiff, Nat.reduceAdd, Nat.reduceSub, Nat.reduceMul, Nat.reduceDiv, Int.reduceAdd, Int.reduceNeg, Int.reduceEq, Int.reduceLT, Int.reduceLE]; try simp (disch := omega) only [decide_eq_true, decide_eq_false])) ?_
    refine wlk_sreg fun KY hKY => ?_
    simp only [go_sem, reduceIte, Nat.reduceEqDiff, Nat.reduceBEq, reduceCtorEq, Nat.reduceLT, Nat.reduceLeDiff, Nat.reduceAdd, Nat.reduceSub, Nat.reduceMul, Nat.reduceDiv, Int.reduceAdd, Int.reduceNeg, Int.reduceEq, Int.reduceLT, Int.reduceLE, c_garlandlaw23_TutteRefuses_r11]
    refine hKY _ ?_
    refine wlk_cond0 (by first | rfl | (simp only [go_sem, reduceIte, Nat.reduceEqDiff, Nat.reduceBEq, reduceCtorEq, Nat.reduceLT, Nat.reduceLeDiff, Nat.reduceAdd, Nat.reduceSub, Nat.reduceMul, Nat.reduceDiv, Int.reduceAdd, Int.reduceNeg, Int.reduceEq, Int.reduceLT, Int.reduceLE]; try simp (disch := omega) only [decide_eq_true, decide_eq_false])) ?_
    refine wlk_sreg fun KY hKY => ?_
    simp only [go_sem, reduceIte, Nat.reduceEqDiff, Nat.reduceBEq, reduceCtorEq, Nat.reduceLT, Nat.reduceLeDiff, Nat.reduceAdd, Nat.reduceSub, Nat.reduceMul, Nat.reduceDiv, Int.reduceAdd, Int.reduceNeg, Int.reduceEq, Int.reduceLT, Int.reduceLE, c_garlandlaw23_TutteRefuses_r13]
    refine hKY _ ?_
    refine wlk_cond0 (by first | rfl | (simp only [go_sem, reduceIte, Nat.reduceEqDiff, Nat.reduceBEq, reduceCtorEq, Nat.reduceLT, Nat.reduceLeDiff, Nat.reduceAdd, Nat.reduceSub, Nat.reduceMul, Nat.reduceDiv, Int.reduceAdd, Int.reduceNeg, Int.reduceEq, Int.reduceLT, Int.reduceLE]; try simp (disch := omega) only [decide_eq_true, decide_eq_false])) ?_
    refine wlk_sreg fun KY hKY => ?_
    simp only [go_sem, reduceIte, Nat.reduceEqDiff, Nat.reduceBEq, reduceCtorEq, Nat.reduceLT, Nat.reduceLeDiff, Nat.reduceAdd, Nat.reduceSub, Nat.reduceMul, Nat.reduceDiv, Int.reduceAdd, Int.reduceNeg, Int.reduceEq, Int.reduceLT, Int.reduceLE, c_garlandlaw23_TutteRefuses_r15]
    refine hKY _ ?_
    refine wlk_cond0 (by first | rfl | (simp only [go_sem, reduceIte, Nat.reduceEqDiff, Nat.reduceBEq, reduceCtorEq, Nat.reduceLT, Nat.reduceLeDiff, Nat.reduceAdd, Nat.reduceSub, Nat.reduceMul, Nat.reduceDiv, Int.reduceAdd, Int.reduceNeg, Int.reduceEq, Int.reduceLT, Int.reduceLE]; try simp (disch := omega) only [decide_eq_true, decide_eq_false])) ?_
    refine wlk_sreg fun KY hKY => ?_
    simp only [go_sem, reduceIte, Nat.reduceEqDiff, Nat.reduceBEq, reduceCtorEq, Nat.reduceLT, Nat.reduceLeDiff, Nat.reduceAdd, Nat.reduceSub, Nat.reduceMul, Nat.reduceDiv, Int.reduceAdd, Int.reduceNeg, Int.reduceEq, Int.reduceLT, Int.reduceLE, c_garlandlaw23_TutteRefuses_r17]
    refine hKY _ ?_
    refine wlk_cond0 (by first | rfl | (simp only [go_sem, reduceIte, Nat.reduceEqDiff, Nat.reduceBEq, reduceCtorEq, Nat.reduceLT, Nat.reduceLeDiff, Nat.reduceAdd, Nat.reduceSub, Nat.reduceMul, Nat.reduceDiv, Int.reduceAdd, Int.reduceNeg, Int.reduceEq, Int.reduceLT, Int.reduceLE]; try simp (disch := omega) only [decide_eq_true, decide_eq_false])) ?_
    refine wlk_sreg fun KY hKY => ?_
    simp only [go_sem, reduceIte, Nat.reduceEqDiff, Nat.reduceBEq, reduceCtorEq, Nat.reduceLT, Nat.reduceLeDiff, Nat.reduceAdd, Nat.reduceSub, Nat.reduceMul, Nat.reduceDiv, Int.reduceAdd, Int.reduceNeg, Int.reduceEq, Int.reduceLT, Int.reduceLE, c_garlandlaw23_TutteRefuses_r19]
    refine hKY _ ?_
    refine wlk_cond0 (by first | rfl | (simp only [go_sem, reduceIte, Nat.reduceEqDiff, Nat.reduceBEq, reduceCtorEq, Nat.reduceLT, Nat.reduceLeDiff, Nat.reduceAdd, Nat.reduceSub, Nat.reduceMul, Nat.reduceDiv, Int.reduceAdd, Int.reduceNeg, Int.reduceEq, Int.reduceLT, Int.reduceLE]; try simp (disch := omega) only [decide_eq_true, decide_eq_false])) ?_
    refine wlk_reg fun KY hKY => ?_
    simp only [go_sem, reduceIte, Nat.reduceEqDiff, Nat.reduceBEq, reduceCtorEq, Nat.reduceLT, Nat.reduceLeDiff, Nat.reduceAdd, Nat.reduceSub, Nat.reduceMul, Nat.reduceDiv, Int.reduceAdd, Int.reduceNeg, Int.reduceEq, Int.reduceLT, Int.reduceLE, c_garlandlaw23_TutteRefuses_r21, ints_len, hl, (show 0 < N + 2 by omega), (show 1 ≤ N + 2 by omega), (show N + 1 < N + 2 by omega)]
    refine hKY _ ?_
    repeat (first | refine hn2 _ ?_ | refine he2 _ ?_ | refine hf2 _ _ (by decide) ?_ | refine hr2 _ ?_ | refine hn1 _ ?_ | refine he1 _ _ ?_ | refine hr1 _ ?_)
    simp only [go_sem, reduceIte, Nat.reduceEqDiff, Nat.reduceBEq, reduceCtorEq, Nat.reduceLT, Nat.reduceLeDiff, Nat.reduceAdd, Nat.reduceSub, Nat.reduceMul, Nat.reduceDiv, Int.reduceAdd, Int.reduceNeg, Int.reduceEq, Int.reduceLT, Int.reduceLE, hcut]
    have hl1 := hE (fs.drop 1) (by rw [List.length_drop]; omega) b2
    rw [hE12 _ b2] at hl1
    refine sem_freeze [0, 9, 0] rfl ?_
    refine sem_freeze [0, 9, 1] rfl ?_
    refine wlk_sreg fun KY hKY => ?_
    simp only [go_sem, reduceIte, Nat.reduceEqDiff, Nat.reduceBEq, reduceCtorEq, Nat.reduceLT, Nat.reduceLeDiff, Nat.reduceAdd, Nat.reduceSub, Nat.reduceMul, Nat.reduceDiv, Int.reduceAdd, Int.reduceNeg, Int.reduceEq, Int.reduceLT, Int.reduceLE, c_garlandlaw23_TutteRefuses_r22]
    refine call_view rfl (by simp only [go_sem, reduceIte, Nat.reduceEqDiff, Nat.reduceBEq, reduceCtorEq, Nat.reduceLT, Nat.reduceLeDiff, Nat.reduceAdd, Nat.reduceSub, Nat.reduceMul, Nat.reduceDiv, Int.reduceAdd, Int.reduceNeg, Int.reduceEq, Int.reduceLT, Int.reduceLE] <;> rfl) ((hl1).mono ?_)
    rintro rr hh ⟨rfl, rfl⟩
    refine ⟨?_, ?_, ?_, ?_⟩
    iterate 3 (first | rfl | simp only [go_sem, reduceIte, Nat.reduceEqDiff, Nat.reduceBEq, reduceCtorEq, Nat.reduceLT, Nat.reduceLeDiff, Nat.reduceAdd, Nat.reduceSub, Nat.reduceMul, Nat.reduceDiv, Int.reduceAdd, Int.reduceNeg, Int.reduceEq, Int.reduceLT, Int.reduceLE])
    simp only [go_sem, reduceIte, Nat.reduceEqDiff, Nat.reduceBEq, reduceCtorEq, Nat.reduceLT, Nat.reduceLeDiff, Nat.reduceAdd, Nat.reduceSub, Nat.reduceMul, Nat.reduceDiv, Int.reduceAdd, Int.reduceNeg, Int.reduceEq, Int.reduceLT, Int.reduceLE]
    refine hKY _ ?_
    refine wlk_sreg fun KY hKY => ?_
    simp only [go_sem, reduceIte, Nat.reduceEqDiff, Nat.reduceBEq, reduceCtorEq, Nat.reduceLT, Nat.reduceLeDiff, Nat.reduceAdd, Nat.reduceSub, Nat.reduceMul, Nat.reduceDiv, Int.reduceAdd, Int.reduceNeg, Int.reduceEq, Int.reduceLT, Int.reduceLE, c_garlandlaw23_TutteRefuses_r23]
    refine call_view rfl (by simp only [go_sem, reduceIte, Nat.reduceEqDiff, Nat.reduceBEq, reduceCtorEq, Nat.reduceLT, Nat.reduceLeDiff, Nat.reduceAdd, Nat.reduceSub, Nat.reduceMul, Nat.reduceDiv, Int.reduceAdd, Int.reduceNeg, Int.reduceEq, Int.reduceLT, Int.reduceLE] <;> rfl) ((awake23_ok).mono ?_)
    rintro rr hh ⟨rfl, rfl⟩
    refine ⟨rfl, rfl, rfl, ?_⟩
    simp only [go_sem, reduceIte, Nat.reduceEqDiff, Nat.reduceBEq, reduceCtorEq, Nat.reduceLT, Nat.reduceLeDiff, Nat.reduceAdd, Nat.reduceSub, Nat.reduceMul, Nat.reduceDiv, Int.reduceAdd, Int.reduceNeg, Int.reduceEq, Int.reduceLT, Int.reduceLE]
    refine hKY _ ?_
    refine wlk_ret ?_
    repeat (first | refine hn2 _ ?_ | refine he2 _ ?_ | refine hf2 _ _ (by decide) ?_ | refine hr2 _ ?_ | refine hn1 _ ?_ | refine he1 _ _ ?_ | refine hr1 _ ?_)
    simp only [go_sem, reduceIte, Nat.reduceEqDiff, Nat.reduceBEq, reduceCtorEq, Nat.reduceLT, Nat.reduceLeDiff, Nat.reduceAdd, Nat.reduceSub, Nat.reduceMul, Nat.reduceDiv, Int.reduceAdd, Int.reduceNeg, Int.reduceEq, Int.reduceLT, Int.reduceLE]
end Go.Proofs.Ytepjcfbigcfkfaa
namespace Go.Proofs.Ytepjcfbigcfkfaa
open Go Go.Ga Go.Ga.Gl
theorem tutteRefuses_all (As : List AVal) (b : Nat) (h : SAs Try.prog Try.f4.params.toList As b) (hb : b ≤ 1048576) : ACalls Try.prog [] 4 As [] fun r _ => r = .sc (.bool true) := by
  rw [Try.params4] at h
  obtain ⟨A1, As1, c1, d1, rfl, rfl, h1, h⟩ := sas_cons h
  obtain ⟨A2, As2, c2, d2, rfl, rfl, h2, h⟩ := sas_cons h
  obtain ⟨A3, As3, c3, d3, rfl, rfl, h3, h⟩ := sas_cons h
  obtain rfl := sas_nil h
  obtain ⟨x1, rfl, w1⟩ := sa_int Try.underlying3 h1
  obtain ⟨x2, rfl, w2, e2⟩ := sa_ints Try.underlying22 Try.underlying3 (by kernel_rfl) h2
  obtain ⟨x3, rfl, w3⟩ := sa_int Try.underlying3 h3
  exact (refuses_ok x1 x2 x3 (by omega)).mono fun _ _ h => h.1
end Go.Proofs.Ytepjcfbigcfkfaa
namespace Go.Proofs.Ytepjcfbigcfkfaa.tutteRefusesend
open Go Go.Ga Go.ChangeShapes Go.WideShapes Go.ChangeAt Go.RowKit
theorem own : ownKnob Try.prog.godebug = none := by kernel_rfl
mutual
theorem bulk_at {H : Type} : ∀ d : DataW H, Rows.uptoBulk d = bulk d
  | .lit l => by cases l <;> simp [Rows.uptoBulk, bulk]
  | .nil => by simp [Rows.uptoBulk, bulk]
  | .ptr d => by simp [Rows.uptoBulk, bulk, bulk_at d]
  | .slice e s => by simp [Rows.uptoBulk, bulk, bulk_eq e, bulk_eq s]
  | .agg p => by simp [Rows.uptoBulk, bulk, bulk_eq p]
  | .iface _ d => by simp [Rows.uptoBulk, bulk, bulk_at d]
  | .map e => by simp [Rows.uptoBulk, bulk, bulk_es e]
  | .held _ => by simp [Rows.uptoBulk, bulk]
theorem bulk_eq {H : Type} : ∀ l : List (DataW H), Rows.uptoBulkAll l = bulkL l
  | [] => by simp [Rows.uptoBulkAll, bulkL]
  | d :: r => by simp [Rows.uptoBulkAll, bulkL, bulk_at d, bulk_eq r]
theorem bulk_es {H : Type} : ∀ l : List (Lit × DataW H), Rows.uptoBulkEntries l = bulkE l
  | [] => by simp [Rows.uptoBulkEntries, bulkE]
  | d :: r => by simp [Rows.uptoBulkEntries, bulkE, bulk_e d, bulk_es r]
theorem bulk_e {H : Type} : ∀ d : Lit × DataW H, Rows.uptoBulkEntry d = bulk1 d
  | (l, d) => by cases l <;> simp [Rows.uptoBulkEntry, bulk1, bulk_at d]
end
set_option maxRecDepth 100000 in
theorem plain : Plain Try.prog [3, 22] := plain_of (by kernel_rfl)
set_option maxRecDepth 100000 in
theorem contract (H : Type) (enc : TypeId × Value → H) (W : World) (base : Nat) (args : Array Value) (ds gs : List (DataW H)) (before : List MemPlace)
    (hval : ∀ (j : Nat) t v, Try.f4.params[j]? = some t → args[j]? = some v → Value.okWide Try.prog W .any base t v)
    (hW : DataW.Whole enc Try.prog Try.f4.params.toList Rows.tutteRefusesSpec.vars false W args.toList ds gs before) (hk : Rows.uptoSmall H (ds ++ gs) = true) :
    Calls Try.prog 4 args W fun e W' => ∃ v, e = .returned v ∧ Rows.tutteRefusesSpec.post enc Try.prog Try.f4 false true false false W args v W' := by
  have hW' := hW
  obtain ⟨p, q, hA, hV, rfl, hfz, hnd⟩ := hW
  obtain ⟨rfl, rfl⟩ := Go.Ga.trodVars_nil hV
  have hb : bulkL (ds ++ []) ≤ 1048576 := by rw [← bulk_eq]; exact of_decide_eq_true hk
  have r0 : DataW.TrodAll enc Try.prog W 0 (fun _ => true) true Try.f4.params.toList args.toList ds p := hA
  rw [Try.params4] at r0
  obtain ⟨v0, vs0, d0, ds0, p0, q0, hv0, rfl, rfl, h0, r1⟩ := trodAll_cons r0
  obtain ⟨v1, vs1, d1, ds1, p1, q1, hv1, rfl, rfl, h1, r2⟩ := trodAll_cons r1
  obtain ⟨v2, vs2, d2, ds2, p2, q2, hv2, rfl, rfl, h2, r3⟩ := trodAll_cons r2
  obtain ⟨rfl, rfl, rfl⟩ := trodAll_nil r3
  exact contract_true plain hval (by rw [Try.params4]; decide) hW' rfl rfl rfl rfl (tb := 4) (by kernel_rfl) Try.underlying4 hb tutteRefuses_all
set_option maxRecDepth 100000 in
theorem lifted (os : Os) (started : os.Started) (H : Type) (enc : TypeId × Value → H) (F : Stop.Interp) :
    ReturnsInHanded {} Try.checked os 4 .any ((Rows.OpenSpec.upto Rows.tutteRefusesSpec).pre6 enc Try.prog Try.f4 Rows.tutteRefusesUptoRow.domain false) (((Rows.OpenSpec.upto Rows.tutteRefusesSpec).at F).post enc Try.prog Try.f4 false true false false) := by
  refine returnsInHanded_of_cond (C := Try.checked) (s := Rows.OpenSpec.upto Rows.tutteRefusesSpec) (k := Rows.uptoSmall) rfl own started (by kernel_rfl) Try.func4
    (OpenSpec.witness (enc := enc) (C := Try.checked) (s := Rows.OpenSpec.upto Rows.tutteRefusesSpec) (k := Rows.uptoSmall) rfl false ⟨#[], #[.int .i64 0, .slice none 0 0, .int .i64 0], []⟩ 8 (by kernel_rfl) (by kernel_rfl) (by kernel_rfl)
      (x := ([.lit (.int .i64 0), .nil, .lit (.int .i64 0)], [], [])) (by kernel_rfl) rfl (by kernel_rfl)) ?_
  intro W base args ds gs before hval hW _ hk _
  exact contract H enc W base args ds gs before hval hW hk
theorem holds : Rows.TutteRefusesUptoSaid :=
  OpenClaim.holds_of_cond 4 Try.f4 rfl rfl rfl rfl rfl rfl rfl ⟨rfl, rfl, rfl, rfl, rfl⟩ rfl rfl rfl rfl rfl (by kernel_rfl) Try.func4 (by kernel_rfl)
    (of_decide_eq_true (by kernel_rfl)) (by unfold Func.isWrapper; first | (rw [if_pos (by decide +kernel)]; kernel_rfl) | (rw [if_neg (by decide +kernel)]; exact ⟨rfl, rfl⟩))
    (fun os started H enc _ F => lifted os started H enc F)
end Go.Proofs.Ytepjcfbigcfkfaa.tutteRefusesend
