/- Sets hang not on the order in which pairs are united. No condition. -/
import Derived.Test.YticfnlclbmibeaaO2
set_option linter.all false

set_option maxRecDepth 100000
namespace Go.Proofs.Yticfnlclbmibeaa
open Go Go.Ga Go.Ga.Jn

theorem is_nil (k : Int) : ACalls Try.prog [] n_join_Join_is [.sc (.pointer none), .sc (.int .i64 k)] [] fun r h' => r = .sc (.bool false) ∧ h' = [] := by
  refine go_join_Join_is rfl ?_
  unfold c_join_Join_is v_join_Join_is
  refine wlk_sreg fun KY hKY => ?_
  simp only [go_sem, reduceIte, Nat.reduceEqDiff, Nat.reduceBEq, reduceCtorEq, Nat.div_one, Nat.reduceLT, Nat.reduceLeDiff, Nat.reduceAdd, Nat.reduceSub, Nat.reduceMul, Nat.reduceDiv, Int.cast_ofNat_Int, Int.reduceAdd, Int.reduceNeg, Int.reduceEq, Int.reduceLT, Int.reduceLE, Int.reduceNe, decide_true, decide_false, bne_self_eq_false, Bool.not_false, Bool.not_true, c_join_Join_is_r0]
  refine hKY _ ?_
  refine wlk_sreg fun KY hKY => ?_
  simp only [go_sem, reduceIte, Nat.reduceEqDiff, Nat.reduceBEq, reduceCtorEq, Nat.div_one, Nat.reduceLT, Nat.reduceLeDiff, Nat.reduceAdd, Nat.reduceSub, Nat.reduceMul, Nat.reduceDiv, Int.cast_ofNat_Int, Int.reduceAdd, Int.reduceNeg, Int.reduceEq, Int.reduceLT, Int.reduceLE, Int.reduceNe, decide_true, decide_false, bne_self_eq_false, Bool.not_false, Bool.not_true, c_join_Join_is_r1]
  refine hKY _ ?_
  refine wlk_ret ?_
  simp only [go_sem, reduceIte, Nat.reduceEqDiff, Nat.reduceBEq, reduceCtorEq, Nat.div_one, Nat.reduceLT, Nat.reduceLeDiff, Nat.reduceAdd, Nat.reduceSub, Nat.reduceMul, Nat.reduceDiv, Int.cast_ofNat_Int, Int.reduceAdd, Int.reduceNeg, Int.reduceEq, Int.reduceLT, Int.reduceLE, Int.reduceNe, decide_true, decide_false, bne_self_eq_false, Bool.not_false, Bool.not_true]

theorem unite_nil (a b c : Int) : ACalls Try.prog [] n_join_Join_Unite [.sc (.pointer none), .sc (.int .i64 a), .sc (.int .i64 b), .sc (.int .i64 c)] [] fun r h' => r = .sc (.bool false) ∧ h' = [] := by
  refine go_join_Join_Unite rfl ?_
  unfold c_join_Join_Unite v_join_Join_Unite
  refine wlk_sreg fun KY hKY => ?_
  simp only [go_sem, reduceIte, Nat.reduceEqDiff, Nat.reduceBEq, reduceCtorEq, Nat.div_one, Nat.reduceLT, Nat.reduceLeDiff, Nat.reduceAdd, Nat.reduceSub, Nat.reduceMul, Nat.reduceDiv, Int.cast_ofNat_Int, Int.reduceAdd, Int.reduceNeg, Int.reduceEq, Int.reduceLT, Int.reduceLE, Int.reduceNe, decide_true, decide_false, bne_self_eq_false, Bool.not_false, Bool.not_true, c_join_Join_Unite_r0]
  refine hKY _ ?_
  refine wlk_seq fun X1 hn1 he1 hr1 => ?_
  refine wlk_sreg fun KY hKY => ?_
  simp only [go_sem, reduceIte, Nat.reduceEqDiff, Nat.reduceBEq, reduceCtorEq, Nat.div_one, Nat.reduceLT, Nat.reduceLeDiff, Nat.reduceAdd, Nat.reduceSub, Nat.reduceMul, Nat.reduceDiv, Int.cast_ofNat_Int, Int.reduceAdd, Int.reduceNeg, Int.reduceEq, Int.reduceLT, Int.reduceLE, Int.reduceNe, decide_true, decide_false, bne_self_eq_false, Bool.not_false, Bool.not_true, c_join_Join_Unite_r1]
  refine call_view rfl (by simp only [go_sem, reduceIte, Nat.reduceEqDiff, Nat.reduceBEq, reduceCtorEq, Nat.div_one, Nat.reduceLT, Nat.reduceLeDiff, Nat.reduceAdd, Nat.reduceSub, Nat.reduceMul, Nat.reduceDiv, Int.cast_ofNat_Int, Int.reduceAdd, Int.reduceNeg, Int.reduceEq, Int.reduceLT, Int.reduceLE, Int.reduceNe, decide_true, decide_false, bne_self_eq_false, Bool.not_false, Bool.not_true]; rfl) ?_
  refine (is_nil a).mono ?_
  rintro rr hh ⟨rfl, rfl⟩
  refine ⟨rfl, rfl, rfl, ?_⟩
  simp only [go_sem, reduceIte, Nat.reduceEqDiff, Nat.reduceBEq, reduceCtorEq, Nat.div_one, Nat.reduceLT, Nat.reduceLeDiff, Nat.reduceAdd, Nat.reduceSub, Nat.reduceMul, Nat.reduceDiv, Int.cast_ofNat_Int, Int.reduceAdd, Int.reduceNeg, Int.reduceEq, Int.reduceLT, Int.reduceLE, Int.reduceNe, decide_true, decide_false, bne_self_eq_false, Bool.not_false, Bool.not_true]
  refine hKY _ ?_
  simp only [go_sem, reduceIte, Nat.reduceEqDiff, Nat.reduceBEq, reduceCtorEq, Nat.div_one, Nat.reduceLT, Nat.reduceLeDiff, Nat.reduceAdd, Nat.reduceSub, Nat.reduceMul, Nat.reduceDiv, Int.cast_ofNat_Int, Int.reduceAdd, Int.reduceNeg, Int.reduceEq, Int.reduceLT, Int.reduceLE, Int.reduceNe, decide_true, decide_false, bne_self_eq_false, Bool.not_false, Bool.not_true]
  refine wlk_cond1 rfl ?_
  refine wlk_sreg fun KY hKY => ?_
  simp only [go_sem, reduceIte, Nat.reduceEqDiff, Nat.reduceBEq, reduceCtorEq, Nat.div_one, Nat.reduceLT, Nat.reduceLeDiff, Nat.reduceAdd, Nat.reduceSub, Nat.reduceMul, Nat.reduceDiv, Int.cast_ofNat_Int, Int.reduceAdd, Int.reduceNeg, Int.reduceEq, Int.reduceLT, Int.reduceLE, Int.reduceNe, decide_true, decide_false, bne_self_eq_false, Bool.not_false, Bool.not_true, c_join_Join_Unite_r2]
  refine hKY _ ?_
  refine wlk_ret (hr1 _ ?_)
  simp only [go_sem, reduceIte, Nat.reduceEqDiff, Nat.reduceBEq, reduceCtorEq, Nat.div_one, Nat.reduceLT, Nat.reduceLeDiff, Nat.reduceAdd, Nat.reduceSub, Nat.reduceMul, Nat.reduceDiv, Int.cast_ofNat_Int, Int.reduceAdd, Int.reduceNeg, Int.reduceEq, Int.reduceLT, Int.reduceLE, Int.reduceNe, decide_true, decide_false, bne_self_eq_false, Bool.not_false, Bool.not_true]

theorem find_nil (k : Int) : ACalls Try.prog [] n_join_Join_Find [.sc (.pointer none), .sc (.int .i64 k)] [] fun r h' => r = .sc (.int .i64 (-1)) ∧ h' = [] := by
  refine go_join_Join_Find rfl ?_
  unfold c_join_Join_Find v_join_Join_Find
  refine wlk_sreg fun KY hKY => ?_
  simp only [go_sem, reduceIte, Nat.reduceEqDiff, Nat.reduceBEq, reduceCtorEq, Nat.div_one, Nat.reduceLT, Nat.reduceLeDiff, Nat.reduceAdd, Nat.reduceSub, Nat.reduceMul, Nat.reduceDiv, Int.cast_ofNat_Int, Int.reduceAdd, Int.reduceNeg, Int.reduceEq, Int.reduceLT, Int.reduceLE, Int.reduceNe, decide_true, decide_false, bne_self_eq_false, Bool.not_false, Bool.not_true, c_join_Join_Find_r0]
  refine hKY _ ?_
  refine wlk_seq fun X1 hn1 he1 hr1 => ?_
  refine wlk_sreg fun KY hKY => ?_
  simp only [go_sem, reduceIte, Nat.reduceEqDiff, Nat.reduceBEq, reduceCtorEq, Nat.div_one, Nat.reduceLT, Nat.reduceLeDiff, Nat.reduceAdd, Nat.reduceSub, Nat.reduceMul, Nat.reduceDiv, Int.cast_ofNat_Int, Int.reduceAdd, Int.reduceNeg, Int.reduceEq, Int.reduceLT, Int.reduceLE, Int.reduceNe, decide_true, decide_false, bne_self_eq_false, Bool.not_false, Bool.not_true, c_join_Join_Find_r1]
  refine call_view rfl (by simp only [go_sem, reduceIte, Nat.reduceEqDiff, Nat.reduceBEq, reduceCtorEq, Nat.div_one, Nat.reduceLT, Nat.reduceLeDiff, Nat.reduceAdd, Nat.reduceSub, Nat.reduceMul, Nat.reduceDiv, Int.cast_ofNat_Int, Int.reduceAdd, Int.reduceNeg, Int.reduceEq, Int.reduceLT, Int.reduceLE, Int.reduceNe, decide_true, decide_false, bne_self_eq_false, Bool.not_false, Bool.not_true]; rfl) ?_
  refine (is_nil k).mono ?_
  rintro rr hh ⟨rfl, rfl⟩
  refine ⟨rfl, rfl, rfl, ?_⟩
  simp only [go_sem, reduceIte, Nat.reduceEqDiff, Nat.reduceBEq, reduceCtorEq, Nat.div_one, Nat.reduceLT, Nat.reduceLeDiff, Nat.reduceAdd, Nat.reduceSub, Nat.reduceMul, Nat.reduceDiv, Int.cast_ofNat_Int, Int.reduceAdd, Int.reduceNeg, Int.reduceEq, Int.reduceLT, Int.reduceLE, Int.reduceNe, decide_true, decide_false, bne_self_eq_false, Bool.not_false, Bool.not_true]
  refine hKY _ ?_
  simp only [go_sem, reduceIte, Nat.reduceEqDiff, Nat.reduceBEq, reduceCtorEq, Nat.div_one, Nat.reduceLT, Nat.reduceLeDiff, Nat.reduceAdd, Nat.reduceSub, Nat.reduceMul, Nat.reduceDiv, Int.cast_ofNat_Int, Int.reduceAdd, Int.reduceNeg, Int.reduceEq, Int.reduceLT, Int.reduceLE, Int.reduceNe, decide_true, decide_false, bne_self_eq_false, Bool.not_false, Bool.not_true]
  refine wlk_cond1 rfl ?_
  refine wlk_sreg fun KY hKY => ?_
  simp only [go_sem, reduceIte, Nat.reduceEqDiff, Nat.reduceBEq, reduceCtorEq, Nat.div_one, Nat.reduceLT, Nat.reduceLeDiff, Nat.reduceAdd, Nat.reduceSub, Nat.reduceMul, Nat.reduceDiv, Int.cast_ofNat_Int, Int.reduceAdd, Int.reduceNeg, Int.reduceEq, Int.reduceLT, Int.reduceLE, Int.reduceNe, decide_true, decide_false, bne_self_eq_false, Bool.not_false, Bool.not_true, c_join_Join_Find_r2]
  refine hKY _ ?_
  refine wlk_ret (hr1 _ ?_)
  simp only [go_sem, reduceIte, Nat.reduceEqDiff, Nat.reduceBEq, reduceCtorEq, Nat.div_one, Nat.reduceLT, Nat.reduceLeDiff, Nat.reduceAdd, Nat.reduceSub, Nat.reduceMul, Nat.reduceDiv, Int.cast_ofNat_Int, Int.reduceAdd, Int.reduceNeg, Int.reduceEq, Int.reduceLT, Int.reduceLE, Int.reduceNe, decide_true, decide_false, bne_self_eq_false, Bool.not_false, Bool.not_true]
theorem label_nil (k : Int) : ACalls Try.prog [] n_join_Join_Label [.sc (.pointer none), .sc (.int .i64 k)] [] fun r h' => r = .sc (.int .i64 (-1)) ∧ h' = [] := by
  refine go_join_Join_Label rfl ?_
  unfold c_join_Join_Label v_join_Join_Label
  refine wlk_sreg fun KY hKY => ?_
  simp only [go_sem, reduceIte, Nat.reduceEqDiff, Nat.reduceBEq, reduceCtorEq, Nat.div_one, Nat.reduceLT, Nat.reduceLeDiff, Nat.reduceAdd, Nat.reduceSub, Nat.reduceMul, Nat.reduceDiv, Int.cast_ofNat_Int, Int.reduceAdd, Int.reduceNeg, Int.reduceEq, Int.reduceLT, Int.reduceLE, Int.reduceNe, decide_true, decide_false, bne_self_eq_false, Bool.not_false, Bool.not_true, c_join_Join_Label_r0]
  refine hKY _ ?_
  refine wlk_seq fun X1 hn1 he1 hr1 => ?_
  refine wlk_sreg fun KY hKY => ?_
  simp only [go_sem, reduceIte, Nat.reduceEqDiff, Nat.reduceBEq, reduceCtorEq, Nat.div_one, Nat.reduceLT, Nat.reduceLeDiff, Nat.reduceAdd, Nat.reduceSub, Nat.reduceMul, Nat.reduceDiv, Int.cast_ofNat_Int, Int.reduceAdd, Int.reduceNeg, Int.reduceEq, Int.reduceLT, Int.reduceLE, Int.reduceNe, decide_true, decide_false, bne_self_eq_false, Bool.not_false, Bool.not_true, c_join_Join_Label_r1]
  refine call_view rfl (by simp only [go_sem, reduceIte, Nat.reduceEqDiff, Nat.reduceBEq, reduceCtorEq, Nat.div_one, Nat.reduceLT, Nat.reduceLeDiff, Nat.reduceAdd, Nat.reduceSub, Nat.reduceMul, Nat.reduceDiv, Int.cast_ofNat_Int, Int.reduceAdd, Int.reduceNeg, Int.reduceEq, Int.reduceLT, Int.reduceLE, Int.reduceNe, decide_true, decide_false, bne_self_eq_false, Bool.not_false, Bool.not_true]; rfl) ?_
  refine (is_nil k).mono ?_
  rintro rr hh ⟨rfl, rfl⟩
  refine ⟨rfl, rfl, rfl, ?_⟩
  simp only [go_sem, reduceIte, Nat.reduceEqDiff, Nat.reduceBEq, reduceCtorEq, Nat.div_one, Nat.reduceLT, Nat.reduceLeDiff, Nat.reduceAdd, Nat.reduceSub, Nat.reduceMul, Nat.reduceDiv, Int.cast_ofNat_Int, Int.reduceAdd, Int.reduceNeg, Int.reduceEq, Int.reduceLT, Int.reduceLE, Int.reduceNe, decide_true, decide_false, bne_self_eq_false, Bool.not_false, Bool.not_true]
  refine hKY _ ?_
  simp only [go_sem, reduceIte, Nat.reduceEqDiff, Nat.reduceBEq, reduceCtorEq, Nat.div_one, Nat.reduceLT, Nat.reduceLeDiff, Nat.reduceAdd, Nat.reduceSub, Nat.reduceMul, Nat.reduceDiv, Int.cast_ofNat_Int, Int.reduceAdd, Int.reduceNeg, Int.reduceEq, Int.reduceLT, Int.reduceLE, Int.reduceNe, decide_true, decide_false, bne_self_eq_false, Bool.not_false, Bool.not_true]
  refine wlk_cond1 rfl ?_
  refine wlk_sreg fun KY hKY => ?_
  simp only [go_sem, reduceIte, Nat.reduceEqDiff, Nat.reduceBEq, reduceCtorEq, Nat.div_one, Nat.reduceLT, Nat.reduceLeDiff, Nat.reduceAdd, Nat.reduceSub, Nat.reduceMul, Nat.reduceDiv, Int.cast_ofNat_Int, Int.reduceAdd, Int.reduceNeg, Int.reduceEq, Int.reduceLT, Int.reduceLE, Int.reduceNe, decide_true, decide_false, bne_self_eq_false, Bool.not_false, Bool.not_true, c_join_Join_Label_r2]
  refine hKY _ ?_
  refine wlk_ret (hr1 _ ?_)
  simp only [go_sem, reduceIte, Nat.reduceEqDiff, Nat.reduceBEq, reduceCtorEq, Nat.div_one, Nat.reduceLT, Nat.reduceLeDiff, Nat.reduceAdd, Nat.reduceSub, Nat.reduceMul, Nat.reduceDiv, Int.cast_ofNat_Int, Int.reduceAdd, Int.reduceNeg, Int.reduceEq, Int.reduceLT, Int.reduceLE, Int.reduceNe, decide_true, decide_false, bne_self_eq_false, Bool.not_false, Bool.not_true]
theorem same_nil (a b : Int) : ACalls Try.prog [] n_join_Join_Same [.sc (.pointer none), .sc (.int .i64 a), .sc (.int .i64 b)] [] fun r h' => r = .sc (.bool false) ∧ h' = [] := by
  refine go_join_Join_Same rfl ?_
  unfold c_join_Join_Same v_join_Join_Same
  refine wlk_sreg fun KY hKY => ?_
  simp only [go_sem, reduceIte, Nat.reduceEqDiff, Nat.reduceBEq, reduceCtorEq, Nat.div_one, Nat.reduceLT, Nat.reduceLeDiff, Nat.reduceAdd, Nat.reduceSub, Nat.reduceMul, Nat.reduceDiv, Int.cast_ofNat_Int, Int.reduceAdd, Int.reduceNeg, Int.reduceEq, Int.reduceLT, Int.reduceLE, Int.reduceNe, decide_true, decide_false, bne_self_eq_false, Bool.not_false, Bool.not_true, c_join_Join_Same_r0]
  refine hKY _ ?_
  refine wlk_sreg fun KY hKY => ?_
  simp only [go_sem, reduceIte, Nat.reduceEqDiff, Nat.reduceBEq, reduceCtorEq, Nat.div_one, Nat.reduceLT, Nat.reduceLeDiff, Nat.reduceAdd, Nat.reduceSub, Nat.reduceMul, Nat.reduceDiv, Int.cast_ofNat_Int, Int.reduceAdd, Int.reduceNeg, Int.reduceEq, Int.reduceLT, Int.reduceLE, Int.reduceNe, decide_true, decide_false, bne_self_eq_false, Bool.not_false, Bool.not_true, c_join_Join_Same_r1]
  refine call_view rfl (by simp only [go_sem, reduceIte, Nat.reduceEqDiff, Nat.reduceBEq, reduceCtorEq, Nat.div_one, Nat.reduceLT, Nat.reduceLeDiff, Nat.reduceAdd, Nat.reduceSub, Nat.reduceMul, Nat.reduceDiv, Int.cast_ofNat_Int, Int.reduceAdd, Int.reduceNeg, Int.reduceEq, Int.reduceLT, Int.reduceLE, Int.reduceNe, decide_true, decide_false, bne_self_eq_false, Bool.not_false, Bool.not_true]; rfl) ?_
  refine (is_nil a).mono ?_
  rintro rr hh ⟨rfl, rfl⟩
  refine ⟨rfl, rfl, rfl, ?_⟩
  simp only [go_sem, reduceIte, Nat.reduceEqDiff, Nat.reduceBEq, reduceCtorEq, Nat.div_one, Nat.reduceLT, Nat.reduceLeDiff, Nat.reduceAdd, Nat.reduceSub, Nat.reduceMul, Nat.reduceDiv, Int.cast_ofNat_Int, Int.reduceAdd, Int.reduceNeg, Int.reduceEq, Int.reduceLT, Int.reduceLE, Int.reduceNe, decide_true, decide_false, bne_self_eq_false, Bool.not_false, Bool.not_true]
  refine hKY _ ?_
  refine wlk_ret ?_
  simp only [go_sem, reduceIte, Nat.reduceEqDiff, Nat.reduceBEq, reduceCtorEq, Nat.div_one, Nat.reduceLT, Nat.reduceLeDiff, Nat.reduceAdd, Nat.reduceSub, Nat.reduceMul, Nat.reduceDiv, Int.cast_ofNat_Int, Int.reduceAdd, Int.reduceNeg, Int.reduceEq, Int.reduceLT, Int.reduceLE, Int.reduceNe, decide_true, decide_false, bne_self_eq_false, Bool.not_false, Bool.not_true]
theorem sets_nil : ACalls Try.prog [] n_join_Join_Sets [.sc (.pointer none)] [] fun r h' => r = .sc (.slice none 0 0) ∧ h' = [] := by
  refine go_join_Join_Sets rfl ?_
  unfold c_join_Join_Sets v_join_Join_Sets
  refine wlk_sreg fun KY hKY => ?_
  simp only [go_sem, reduceIte, Nat.reduceEqDiff, Nat.reduceBEq, reduceCtorEq, Nat.div_one, Nat.reduceLT, Nat.reduceLeDiff, Nat.reduceAdd, Nat.reduceSub, Nat.reduceMul, Nat.reduceDiv, Int.cast_ofNat_Int, Int.reduceAdd, Int.reduceNeg, Int.reduceEq, Int.reduceLT, Int.reduceLE, Int.reduceNe, decide_true, decide_false, bne_self_eq_false, Bool.not_false, Bool.not_true, c_join_Join_Sets_r0]
  refine hKY _ ?_
  refine wlk_seq fun X1 hn1 he1 hr1 => ?_
  refine wlk_sreg fun KY hKY => ?_
  simp only [go_sem, reduceIte, Nat.reduceEqDiff, Nat.reduceBEq, reduceCtorEq, Nat.div_one, Nat.reduceLT, Nat.reduceLeDiff, Nat.reduceAdd, Nat.reduceSub, Nat.reduceMul, Nat.reduceDiv, Int.cast_ofNat_Int, Int.reduceAdd, Int.reduceNeg, Int.reduceEq, Int.reduceLT, Int.reduceLE, Int.reduceNe, decide_true, decide_false, bne_self_eq_false, Bool.not_false, Bool.not_true, c_join_Join_Sets_r1]
  refine hKY _ ?_
  simp only [go_sem, reduceIte, Nat.reduceEqDiff, Nat.reduceBEq, reduceCtorEq, Nat.div_one, Nat.reduceLT, Nat.reduceLeDiff, Nat.reduceAdd, Nat.reduceSub, Nat.reduceMul, Nat.reduceDiv, Int.cast_ofNat_Int, Int.reduceAdd, Int.reduceNeg, Int.reduceEq, Int.reduceLT, Int.reduceLE, Int.reduceNe, decide_true, decide_false, bne_self_eq_false, Bool.not_false, Bool.not_true]
  refine wlk_cond1 rfl ?_
  refine wlk_sreg fun KY hKY => ?_
  simp only [go_sem, reduceIte, Nat.reduceEqDiff, Nat.reduceBEq, reduceCtorEq, Nat.div_one, Nat.reduceLT, Nat.reduceLeDiff, Nat.reduceAdd, Nat.reduceSub, Nat.reduceMul, Nat.reduceDiv, Int.cast_ofNat_Int, Int.reduceAdd, Int.reduceNeg, Int.reduceEq, Int.reduceLT, Int.reduceLE, Int.reduceNe, decide_true, decide_false, bne_self_eq_false, Bool.not_false, Bool.not_true, c_join_Join_Sets_r2]
  refine hKY _ ?_
  refine wlk_ret (hr1 _ ?_)
  simp only [go_sem, reduceIte, Nat.reduceEqDiff, Nat.reduceBEq, reduceCtorEq, Nat.div_one, Nat.reduceLT, Nat.reduceLeDiff, Nat.reduceAdd, Nat.reduceSub, Nat.reduceMul, Nat.reduceDiv, Int.cast_ofNat_Int, Int.reduceAdd, Int.reduceNeg, Int.reduceEq, Int.reduceLT, Int.reduceLE, Int.reduceNe, decide_true, decide_false, bne_self_eq_false, Bool.not_false, Bool.not_true]
theorem len_nil : ACalls Try.prog [] n_join_Join_Len [.sc (.pointer none)] [] fun r h' => r = .sc (.int .i64 0) ∧ h' = [] := by
  refine go_join_Join_Len rfl ?_
  unfold c_join_Join_Len v_join_Join_Len
  refine wlk_sreg fun KY hKY => ?_
  simp only [go_sem, reduceIte, Nat.reduceEqDiff, Nat.reduceBEq, reduceCtorEq, Nat.div_one, Nat.reduceLT, Nat.reduceLeDiff, Nat.reduceAdd, Nat.reduceSub, Nat.reduceMul, Nat.reduceDiv, Int.cast_ofNat_Int, Int.reduceAdd, Int.reduceNeg, Int.reduceEq, Int.reduceLT, Int.reduceLE, Int.reduceNe, decide_true, decide_false, bne_self_eq_false, Bool.not_false, Bool.not_true, c_join_Join_Len_r0]
  refine hKY _ ?_
  refine wlk_seq fun X1 hn1 he1 hr1 => ?_
  refine wlk_sreg fun KY hKY => ?_
  simp only [go_sem, reduceIte, Nat.reduceEqDiff, Nat.reduceBEq, reduceCtorEq, Nat.div_one, Nat.reduceLT, Nat.reduceLeDiff, Nat.reduceAdd, Nat.reduceSub, Nat.reduceMul, Nat.reduceDiv, Int.cast_ofNat_Int, Int.reduceAdd, Int.reduceNeg, Int.reduceEq, Int.reduceLT, Int.reduceLE, Int.reduceNe, decide_true, decide_false, bne_self_eq_false, Bool.not_false, Bool.not_true, c_join_Join_Len_r1]
  refine hKY _ ?_
  simp only [go_sem, reduceIte, Nat.reduceEqDiff, Nat.reduceBEq, reduceCtorEq, Nat.div_one, Nat.reduceLT, Nat.reduceLeDiff, Nat.reduceAdd, Nat.reduceSub, Nat.reduceMul, Nat.reduceDiv, Int.cast_ofNat_Int, Int.reduceAdd, Int.reduceNeg, Int.reduceEq, Int.reduceLT, Int.reduceLE, Int.reduceNe, decide_true, decide_false, bne_self_eq_false, Bool.not_false, Bool.not_true]
  refine wlk_cond1 rfl ?_
  refine wlk_sreg fun KY hKY => ?_
  simp only [go_sem, reduceIte, Nat.reduceEqDiff, Nat.reduceBEq, reduceCtorEq, Nat.div_one, Nat.reduceLT, Nat.reduceLeDiff, Nat.reduceAdd, Nat.reduceSub, Nat.reduceMul, Nat.reduceDiv, Int.cast_ofNat_Int, Int.reduceAdd, Int.reduceNeg, Int.reduceEq, Int.reduceLT, Int.reduceLE, Int.reduceNe, decide_true, decide_false, bne_self_eq_false, Bool.not_false, Bool.not_true, c_join_Join_Len_r2]
  refine hKY _ ?_
  refine wlk_ret (hr1 _ ?_)
  simp only [go_sem, reduceIte, Nat.reduceEqDiff, Nat.reduceBEq, reduceCtorEq, Nat.div_one, Nat.reduceLT, Nat.reduceLeDiff, Nat.reduceAdd, Nat.reduceSub, Nat.reduceMul, Nat.reduceDiv, Int.cast_ofNat_Int, Int.reduceAdd, Int.reduceNeg, Int.reduceEq, Int.reduceLT, Int.reduceLE, Int.reduceNe, decide_true, decide_false, bne_self_eq_false, Bool.not_false, Bool.not_true]

theorem awake_ok : ACalls Try.prog [] n_garlandlaw06_awake [] [] fun r h' => r = .sc (.bool true) ∧ h' = [] := by
  refine ACalls.trim ?_
  refine go_garlandlaw06_awake rfl ?_
  unfold c_garlandlaw06_awake v_garlandlaw06_awake
  refine wlk_sreg fun KY hKY => ?_
  simp only [go_sem, reduceIte, Nat.reduceEqDiff, Nat.reduceBEq, reduceCtorEq, Nat.div_one, Nat.reduceLT, Nat.reduceLeDiff, Nat.reduceAdd, Nat.reduceSub, Nat.reduceMul, Nat.reduceDiv, Int.cast_ofNat_Int, Int.reduceAdd, Int.reduceNeg, Int.reduceEq, Int.reduceLT, Int.reduceLE, Int.reduceNe, decide_true, decide_false, bne_self_eq_false, Bool.not_false, Bool.not_true, c_garlandlaw06_awake_r0]
  refine hKY _ ?_
  refine wlk_sreg fun KY hKY => ?_
  simp only [go_sem, reduceIte, Nat.reduceEqDiff, Nat.reduceBEq, reduceCtorEq, Nat.div_one, Nat.reduceLT, Nat.reduceLeDiff, Nat.reduceAdd, Nat.reduceSub, Nat.reduceMul, Nat.reduceDiv, Int.cast_ofNat_Int, Int.reduceAdd, Int.reduceNeg, Int.reduceEq, Int.reduceLT, Int.reduceLE, Int.reduceNe, decide_true, decide_false, bne_self_eq_false, Bool.not_false, Bool.not_true, c_garlandlaw06_awake_r1]
  refine call_gen [] [] false none rfl (by simp only [go_sem, reduceIte, Nat.reduceEqDiff, Nat.reduceBEq, reduceCtorEq, Nat.div_one, Nat.reduceLT, Nat.reduceLeDiff, Nat.reduceAdd, Nat.reduceSub, Nat.reduceMul, Nat.reduceDiv, Int.cast_ofNat_Int, Int.reduceAdd, Int.reduceNeg, Int.reduceEq, Int.reduceLT, Int.reduceLE, Int.reduceNe, decide_true, decide_false, bne_self_eq_false, Bool.not_false, Bool.not_true]; rfl) (by simp only [go_sem, reduceIte, Nat.reduceEqDiff, Nat.reduceBEq, reduceCtorEq, Nat.div_one, Nat.reduceLT, Nat.reduceLeDiff, Nat.reduceAdd, Nat.reduceSub, Nat.reduceMul, Nat.reduceDiv, Int.cast_ofNat_Int, Int.reduceAdd, Int.reduceNeg, Int.reduceEq, Int.reduceLT, Int.reduceLE, Int.reduceNe, decide_true, decide_false, bne_self_eq_false, Bool.not_false, Bool.not_true]; rfl) rfl rfl rfl (by simp only [go_sem, reduceIte, Nat.reduceEqDiff, Nat.reduceBEq, reduceCtorEq, Nat.div_one, Nat.reduceLT, Nat.reduceLeDiff, Nat.reduceAdd, Nat.reduceSub, Nat.reduceMul, Nat.reduceDiv, Int.cast_ofNat_Int, Int.reduceAdd, Int.reduceNeg, Int.reduceEq, Int.reduceLT, Int.reduceLE, Int.reduceNe, decide_true, decide_false, bne_self_eq_false, Bool.not_false, Bool.not_true, watchIn]; rfl) (by simp only [go_sem, reduceIte, Nat.reduceEqDiff, Nat.reduceBEq, reduceCtorEq, Nat.div_one, Nat.reduceLT, Nat.reduceLeDiff, Nat.reduceAdd, Nat.reduceSub, Nat.reduceMul, Nat.reduceDiv, Int.cast_ofNat_Int, Int.reduceAdd, Int.reduceNeg, Int.reduceEq, Int.reduceLT, Int.reduceLE, Int.reduceNe, decide_true, decide_false, bne_self_eq_false, Bool.not_false, Bool.not_true]; rfl) (by simp only [go_sem, reduceIte, Nat.reduceEqDiff, Nat.reduceBEq, reduceCtorEq, Nat.div_one, Nat.reduceLT, Nat.reduceLeDiff, Nat.reduceAdd, Nat.reduceSub, Nat.reduceMul, Nat.reduceDiv, Int.cast_ofNat_Int, Int.reduceAdd, Int.reduceNeg, Int.reduceEq, Int.reduceLT, Int.reduceLE, Int.reduceNe, decide_true, decide_false, bne_self_eq_false, Bool.not_false, Bool.not_true]; rfl) ?_
  refine (new_ok 3).mono ?_
  rintro _ _ ⟨rfl, n, hn, up, of, r, d, J, rfl⟩
  obtain rfl : n = 3 := by omega
  obtain ⟨S, hS⟩ : ∃ S, List.range 3 = S := ⟨_, rfl⟩
  rw [hS] at J ⊢
  have e1 : may S 0 2 2 = true := by rw [← hS]; rfl
  have e2 : atOr (uni (S, S) 0 2 2).2 0 = 2 := by rw [← hS]; rfl
  have e3 : atOr (uni (S, S) 0 2 2).1 2 = 0 := by rw [← hS]; rfl
  have e4 : cnt (uni (S, S) 0 2 2).1 = 2 := by rw [← hS]; rfl
  unfold joinObj
  refine ⟨Nat.le_of_ble_eq_true rfl, (fun hh => by cases hh), ?_⟩
  simp only [go_sem, reduceIte, Nat.reduceEqDiff, Nat.reduceBEq, reduceCtorEq, Nat.div_one, Nat.reduceLT, Nat.reduceLeDiff, Nat.reduceAdd, Nat.reduceSub, Nat.reduceMul, Nat.reduceDiv, Int.cast_ofNat_Int, Int.reduceAdd, Int.reduceNeg, Int.reduceEq, Int.reduceLT, Int.reduceLE, Int.reduceNe, decide_true, decide_false, bne_self_eq_false, Bool.not_false, Bool.not_true, callOut, AState.after]
  refine hKY _ ?_
  refine wlk_sreg fun KY hKY => ?_
  simp only [go_sem, reduceIte, Nat.reduceEqDiff, Nat.reduceBEq, reduceCtorEq, Nat.div_one, Nat.reduceLT, Nat.reduceLeDiff, Nat.reduceAdd, Nat.reduceSub, Nat.reduceMul, Nat.reduceDiv, Int.cast_ofNat_Int, Int.reduceAdd, Int.reduceNeg, Int.reduceEq, Int.reduceLT, Int.reduceLE, Int.reduceNe, decide_true, decide_false, bne_self_eq_false, Bool.not_false, Bool.not_true, c_garlandlaw06_awake_r2]
  refine call_gen [] [0] false none rfl (by simp only [go_sem, reduceIte, Nat.reduceEqDiff, Nat.reduceBEq, reduceCtorEq, Nat.div_one, Nat.reduceLT, Nat.reduceLeDiff, Nat.reduceAdd, Nat.reduceSub, Nat.reduceMul, Nat.reduceDiv, Int.cast_ofNat_Int, Int.reduceAdd, Int.reduceNeg, Int.reduceEq, Int.reduceLT, Int.reduceLE, Int.reduceNe, decide_true, decide_false, bne_self_eq_false, Bool.not_false, Bool.not_true]; rfl) (by simp only [go_sem, reduceIte, Nat.reduceEqDiff, Nat.reduceBEq, reduceCtorEq, Nat.div_one, Nat.reduceLT, Nat.reduceLeDiff, Nat.reduceAdd, Nat.reduceSub, Nat.reduceMul, Nat.reduceDiv, Int.cast_ofNat_Int, Int.reduceAdd, Int.reduceNeg, Int.reduceEq, Int.reduceLT, Int.reduceLE, Int.reduceNe, decide_true, decide_false, bne_self_eq_false, Bool.not_false, Bool.not_true]; rfl) rfl rfl rfl (by simp only [go_sem, reduceIte, Nat.reduceEqDiff, Nat.reduceBEq, reduceCtorEq, Nat.div_one, Nat.reduceLT, Nat.reduceLeDiff, Nat.reduceAdd, Nat.reduceSub, Nat.reduceMul, Nat.reduceDiv, Int.cast_ofNat_Int, Int.reduceAdd, Int.reduceNeg, Int.reduceEq, Int.reduceLT, Int.reduceLE, Int.reduceNe, decide_true, decide_false, bne_self_eq_false, Bool.not_false, Bool.not_true, watchIn]; rfl) (by simp only [go_sem, reduceIte, Nat.reduceEqDiff, Nat.reduceBEq, reduceCtorEq, Nat.div_one, Nat.reduceLT, Nat.reduceLeDiff, Nat.reduceAdd, Nat.reduceSub, Nat.reduceMul, Nat.reduceDiv, Int.cast_ofNat_Int, Int.reduceAdd, Int.reduceNeg, Int.reduceEq, Int.reduceLT, Int.reduceLE, Int.reduceNe, decide_true, decide_false, bne_self_eq_false, Bool.not_false, Bool.not_true]; rfl) (by simp only [go_sem, reduceIte, Nat.reduceEqDiff, Nat.reduceBEq, reduceCtorEq, Nat.div_one, Nat.reduceLT, Nat.reduceLeDiff, Nat.reduceAdd, Nat.reduceSub, Nat.reduceMul, Nat.reduceDiv, Int.cast_ofNat_Int, Int.reduceAdd, Int.reduceNeg, Int.reduceEq, Int.reduceLT, Int.reduceLE, Int.reduceNe, decide_true, decide_false, bne_self_eq_false, Bool.not_false, Bool.not_true]; rfl) ?_
  refine (unite_ok up of 3 _ _ r d J (by decide) 0 2 2).mono ?_
  rintro _ _ ⟨rfl, up1, of1, r1, d1, J1, rfl⟩
  rw [e1]
  unfold joinObj
  refine ⟨Nat.le_of_ble_eq_true rfl, (fun hh => by cases hh), ?_⟩
  simp only [go_sem, reduceIte, Nat.reduceEqDiff, Nat.reduceBEq, reduceCtorEq, Nat.div_one, Nat.reduceLT, Nat.reduceLeDiff, Nat.reduceAdd, Nat.reduceSub, Nat.reduceMul, Nat.reduceDiv, Int.cast_ofNat_Int, Int.reduceAdd, Int.reduceNeg, Int.reduceEq, Int.reduceLT, Int.reduceLE, Int.reduceNe, decide_true, decide_false, bne_self_eq_false, Bool.not_false, Bool.not_true, callOut, AState.after]
  refine call_gen [] [0] false none rfl (by simp only [go_sem, reduceIte, Nat.reduceEqDiff, Nat.reduceBEq, reduceCtorEq, Nat.div_one, Nat.reduceLT, Nat.reduceLeDiff, Nat.reduceAdd, Nat.reduceSub, Nat.reduceMul, Nat.reduceDiv, Int.cast_ofNat_Int, Int.reduceAdd, Int.reduceNeg, Int.reduceEq, Int.reduceLT, Int.reduceLE, Int.reduceNe, decide_true, decide_false, bne_self_eq_false, Bool.not_false, Bool.not_true]; rfl) (by simp only [go_sem, reduceIte, Nat.reduceEqDiff, Nat.reduceBEq, reduceCtorEq, Nat.div_one, Nat.reduceLT, Nat.reduceLeDiff, Nat.reduceAdd, Nat.reduceSub, Nat.reduceMul, Nat.reduceDiv, Int.cast_ofNat_Int, Int.reduceAdd, Int.reduceNeg, Int.reduceEq, Int.reduceLT, Int.reduceLE, Int.reduceNe, decide_true, decide_false, bne_self_eq_false, Bool.not_false, Bool.not_true]; rfl) rfl rfl rfl (by simp only [go_sem, reduceIte, Nat.reduceEqDiff, Nat.reduceBEq, reduceCtorEq, Nat.div_one, Nat.reduceLT, Nat.reduceLeDiff, Nat.reduceAdd, Nat.reduceSub, Nat.reduceMul, Nat.reduceDiv, Int.cast_ofNat_Int, Int.reduceAdd, Int.reduceNeg, Int.reduceEq, Int.reduceLT, Int.reduceLE, Int.reduceNe, decide_true, decide_false, bne_self_eq_false, Bool.not_false, Bool.not_true, watchIn]; rfl) (by simp only [go_sem, reduceIte, Nat.reduceEqDiff, Nat.reduceBEq, reduceCtorEq, Nat.div_one, Nat.reduceLT, Nat.reduceLeDiff, Nat.reduceAdd, Nat.reduceSub, Nat.reduceMul, Nat.reduceDiv, Int.cast_ofNat_Int, Int.reduceAdd, Int.reduceNeg, Int.reduceEq, Int.reduceLT, Int.reduceLE, Int.reduceNe, decide_true, decide_false, bne_self_eq_false, Bool.not_false, Bool.not_true]; rfl) (by simp only [go_sem, reduceIte, Nat.reduceEqDiff, Nat.reduceBEq, reduceCtorEq, Nat.div_one, Nat.reduceLT, Nat.reduceLeDiff, Nat.reduceAdd, Nat.reduceSub, Nat.reduceMul, Nat.reduceDiv, Int.cast_ofNat_Int, Int.reduceAdd, Int.reduceNeg, Int.reduceEq, Int.reduceLT, Int.reduceLE, Int.reduceNe, decide_true, decide_false, bne_self_eq_false, Bool.not_false, Bool.not_true]; rfl) ?_
  refine (label_ok up1 of1 _ 3 _ _ r1 d1 J1 0).mono ?_
  rintro _ _ ⟨rfl, up2, J2, rfl⟩
  rw [e2]
  unfold joinObj
  refine ⟨Nat.le_of_ble_eq_true rfl, (fun hh => by cases hh), ?_⟩
  simp only [go_sem, reduceIte, Nat.reduceEqDiff, Nat.reduceBEq, reduceCtorEq, Nat.div_one, Nat.reduceLT, Nat.reduceLeDiff, Nat.reduceAdd, Nat.reduceSub, Nat.reduceMul, Nat.reduceDiv, Int.cast_ofNat_Int, Int.reduceAdd, Int.reduceNeg, Int.reduceEq, Int.reduceLT, Int.reduceLE, Int.reduceNe, decide_true, decide_false, bne_self_eq_false, Bool.not_false, Bool.not_true, callOut, AState.after]
  refine call_gen [] [0] false none rfl (by simp only [go_sem, reduceIte, Nat.reduceEqDiff, Nat.reduceBEq, reduceCtorEq, Nat.div_one, Nat.reduceLT, Nat.reduceLeDiff, Nat.reduceAdd, Nat.reduceSub, Nat.reduceMul, Nat.reduceDiv, Int.cast_ofNat_Int, Int.reduceAdd, Int.reduceNeg, Int.reduceEq, Int.reduceLT, Int.reduceLE, Int.reduceNe, decide_true, decide_false, bne_self_eq_false, Bool.not_false, Bool.not_true]; rfl) (by simp only [go_sem, reduceIte, Nat.reduceEqDiff, Nat.reduceBEq, reduceCtorEq, Nat.div_one, Nat.reduceLT, Nat.reduceLeDiff, Nat.reduceAdd, Nat.reduceSub, Nat.reduceMul, Nat.reduceDiv, Int.cast_ofNat_Int, Int.reduceAdd, Int.reduceNeg, Int.reduceEq, Int.reduceLT, Int.reduceLE, Int.reduceNe, decide_true, decide_false, bne_self_eq_false, Bool.not_false, Bool.not_true]; rfl) rfl rfl rfl (by simp only [go_sem, reduceIte, Nat.reduceEqDiff, Nat.reduceBEq, reduceCtorEq, Nat.div_one, Nat.reduceLT, Nat.reduceLeDiff, Nat.reduceAdd, Nat.reduceSub, Nat.reduceMul, Nat.reduceDiv, Int.cast_ofNat_Int, Int.reduceAdd, Int.reduceNeg, Int.reduceEq, Int.reduceLT, Int.reduceLE, Int.reduceNe, decide_true, decide_false, bne_self_eq_false, Bool.not_false, Bool.not_true, watchIn]; rfl) (by simp only [go_sem, reduceIte, Nat.reduceEqDiff, Nat.reduceBEq, reduceCtorEq, Nat.div_one, Nat.reduceLT, Nat.reduceLeDiff, Nat.reduceAdd, Nat.reduceSub, Nat.reduceMul, Nat.reduceDiv, Int.cast_ofNat_Int, Int.reduceAdd, Int.reduceNeg, Int.reduceEq, Int.reduceLT, Int.reduceLE, Int.reduceNe, decide_true, decide_false, bne_self_eq_false, Bool.not_false, Bool.not_true]; rfl) (by simp only [go_sem, reduceIte, Nat.reduceEqDiff, Nat.reduceBEq, reduceCtorEq, Nat.div_one, Nat.reduceLT, Nat.reduceLeDiff, Nat.reduceAdd, Nat.reduceSub, Nat.reduceMul, Nat.reduceDiv, Int.cast_ofNat_Int, Int.reduceAdd, Int.reduceNeg, Int.reduceEq, Int.reduceLT, Int.reduceLE, Int.reduceNe, decide_true, decide_false, bne_self_eq_false, Bool.not_false, Bool.not_true]; rfl) ?_
  refine (find_ok up2 of1 _ 3 _ _ r1 d1 J2 2).mono ?_
  rintro _ _ ⟨rfl, up3, J3, rfl⟩
  rw [e3]
  unfold joinObj
  refine ⟨Nat.le_of_ble_eq_true rfl, (fun hh => by cases hh), ?_⟩
  simp only [go_sem, reduceIte, Nat.reduceEqDiff, Nat.reduceBEq, reduceCtorEq, Nat.div_one, Nat.reduceLT, Nat.reduceLeDiff, Nat.reduceAdd, Nat.reduceSub, Nat.reduceMul, Nat.reduceDiv, Int.cast_ofNat_Int, Int.reduceAdd, Int.reduceNeg, Int.reduceEq, Int.reduceLT, Int.reduceLE, Int.reduceNe, decide_true, decide_false, bne_self_eq_false, Bool.not_false, Bool.not_true, callOut, AState.after]
  rw [e4]
  refine call_view rfl (by simp only [go_sem, reduceIte, Nat.reduceEqDiff, Nat.reduceBEq, reduceCtorEq, Nat.div_one, Nat.reduceLT, Nat.reduceLeDiff, Nat.reduceAdd, Nat.reduceSub, Nat.reduceMul, Nat.reduceDiv, Int.cast_ofNat_Int, Int.reduceAdd, Int.reduceNeg, Int.reduceEq, Int.reduceLT, Int.reduceLE, Int.reduceNe, decide_true, decide_false, bne_self_eq_false, Bool.not_false, Bool.not_true]; rfl) ?_
  refine (len_ok _ _ _).mono ?_
  rintro rr hh ⟨rfl, rfl⟩
  refine ⟨rfl, rfl, rfl, ?_⟩
  simp only [go_sem, reduceIte, Nat.reduceEqDiff, Nat.reduceBEq, reduceCtorEq, Nat.div_one, Nat.reduceLT, Nat.reduceLeDiff, Nat.reduceAdd, Nat.reduceSub, Nat.reduceMul, Nat.reduceDiv, Int.cast_ofNat_Int, Int.reduceAdd, Int.reduceNeg, Int.reduceEq, Int.reduceLT, Int.reduceLE, Int.reduceNe, decide_true, decide_false, bne_self_eq_false, Bool.not_false, Bool.not_true]
  refine hKY _ ?_
  refine wlk_ret ?_
  simp only [go_sem, reduceIte, Nat.reduceEqDiff, Nat.reduceBEq, reduceCtorEq, Nat.div_one, Nat.reduceLT, Nat.reduceLeDiff, Nat.reduceAdd, Nat.reduceSub, Nat.reduceMul, Nat.reduceDiv, Int.cast_ofNat_Int, Int.reduceAdd, Int.reduceNeg, Int.reduceEq, Int.reduceLT, Int.reduceLE, Int.reduceNe, decide_true, decide_false, bne_self_eq_false, Bool.not_false, Bool.not_true]

theorem nil_ok (a b : Int) : ACalls Try.prog [] n_garlandlaw06_JoinNil [.sc (.int .i64 a), .sc (.int .i64 b)] [] fun r _ => r = .sc (.bool true) := by
  refine go_garlandlaw06_JoinNil rfl ?_
  unfold c_garlandlaw06_JoinNil v_garlandlaw06_JoinNil
  refine wlk_sreg fun KY hKY => ?_
  simp only [go_sem, reduceIte, Nat.reduceEqDiff, Nat.reduceBEq, reduceCtorEq, Nat.div_one, Nat.reduceLT, Nat.reduceLeDiff, Nat.reduceAdd, Nat.reduceSub, Nat.reduceMul, Nat.reduceDiv, Int.cast_ofNat_Int, Int.reduceAdd, Int.reduceNeg, Int.reduceEq, Int.reduceLT, Int.reduceLE, Int.reduceNe, decide_true, decide_false, bne_self_eq_false, Bool.not_false, Bool.not_true, c_garlandlaw06_JoinNil_r0]
  refine hKY _ ?_
  refine wlk_sreg fun KY hKY => ?_
  simp only [go_sem, reduceIte, Nat.reduceEqDiff, Nat.reduceBEq, reduceCtorEq, Nat.div_one, Nat.reduceLT, Nat.reduceLeDiff, Nat.reduceAdd, Nat.reduceSub, Nat.reduceMul, Nat.reduceDiv, Int.cast_ofNat_Int, Int.reduceAdd, Int.reduceNeg, Int.reduceEq, Int.reduceLT, Int.reduceLE, Int.reduceNe, decide_true, decide_false, bne_self_eq_false, Bool.not_false, Bool.not_true, c_garlandlaw06_JoinNil_r1]
  refine hKY _ ?_
  refine wlk_sreg fun KY hKY => ?_
  simp only [go_sem, reduceIte, Nat.reduceEqDiff, Nat.reduceBEq, reduceCtorEq, Nat.div_one, Nat.reduceLT, Nat.reduceLeDiff, Nat.reduceAdd, Nat.reduceSub, Nat.reduceMul, Nat.reduceDiv, Int.cast_ofNat_Int, Int.reduceAdd, Int.reduceNeg, Int.reduceEq, Int.reduceLT, Int.reduceLE, Int.reduceNe, decide_true, decide_false, bne_self_eq_false, Bool.not_false, Bool.not_true, c_garlandlaw06_JoinNil_r2]
  refine call_gen [] [] false none rfl (by simp only [go_sem, reduceIte, Nat.reduceEqDiff, Nat.reduceBEq, reduceCtorEq, Nat.div_one, Nat.reduceLT, Nat.reduceLeDiff, Nat.reduceAdd, Nat.reduceSub, Nat.reduceMul, Nat.reduceDiv, Int.cast_ofNat_Int, Int.reduceAdd, Int.reduceNeg, Int.reduceEq, Int.reduceLT, Int.reduceLE, Int.reduceNe, decide_true, decide_false, bne_self_eq_false, Bool.not_false, Bool.not_true]; rfl) (by simp only [go_sem, reduceIte, Nat.reduceEqDiff, Nat.reduceBEq, reduceCtorEq, Nat.div_one, Nat.reduceLT, Nat.reduceLeDiff, Nat.reduceAdd, Nat.reduceSub, Nat.reduceMul, Nat.reduceDiv, Int.cast_ofNat_Int, Int.reduceAdd, Int.reduceNeg, Int.reduceEq, Int.reduceLT, Int.reduceLE, Int.reduceNe, decide_true, decide_false, bne_self_eq_false, Bool.not_false, Bool.not_true]; rfl) rfl rfl rfl (by simp only [go_sem, reduceIte, Nat.reduceEqDiff, Nat.reduceBEq, reduceCtorEq, Nat.div_one, Nat.reduceLT, Nat.reduceLeDiff, Nat.reduceAdd, Nat.reduceSub, Nat.reduceMul, Nat.reduceDiv, Int.cast_ofNat_Int, Int.reduceAdd, Int.reduceNeg, Int.reduceEq, Int.reduceLT, Int.reduceLE, Int.reduceNe, decide_true, decide_false, bne_self_eq_false, Bool.not_false, Bool.not_true, watchIn]; rfl) (by simp only [go_sem, reduceIte, Nat.reduceEqDiff, Nat.reduceBEq, reduceCtorEq, Nat.div_one, Nat.reduceLT, Nat.reduceLeDiff, Nat.reduceAdd, Nat.reduceSub, Nat.reduceMul, Nat.reduceDiv, Int.cast_ofNat_Int, Int.reduceAdd, Int.reduceNeg, Int.reduceEq, Int.reduceLT, Int.reduceLE, Int.reduceNe, decide_true, decide_false, bne_self_eq_false, Bool.not_false, Bool.not_true]; rfl) (by simp only [go_sem, reduceIte, Nat.reduceEqDiff, Nat.reduceBEq, reduceCtorEq, Nat.div_one, Nat.reduceLT, Nat.reduceLeDiff, Nat.reduceAdd, Nat.reduceSub, Nat.reduceMul, Nat.reduceDiv, Int.cast_ofNat_Int, Int.reduceAdd, Int.reduceNeg, Int.reduceEq, Int.reduceLT, Int.reduceLE, Int.reduceNe, decide_true, decide_false, bne_self_eq_false, Bool.not_false, Bool.not_true]; rfl) ?_
  refine (new_ok 70005).mono ?_
  rintro _ _ ⟨rfl, n, hn, up, of, r, d, J, rfl⟩
  have hn' : (n : Int) = 70000 := by omega
  obtain ⟨S, hS⟩ : ∃ S, List.range n = S := ⟨_, rfl⟩
  have hc := cnt_range n
  rw [hS] at J hc ⊢
  rw [hc, hn']
  unfold joinObj
  refine ⟨Nat.le_of_ble_eq_true rfl, (fun hh => by cases hh), ?_⟩
  simp only [go_sem, reduceIte, Nat.reduceEqDiff, Nat.reduceBEq, reduceCtorEq, Nat.div_one, Nat.reduceLT, Nat.reduceLeDiff, Nat.reduceAdd, Nat.reduceSub, Nat.reduceMul, Nat.reduceDiv, Int.cast_ofNat_Int, Int.reduceAdd, Int.reduceNeg, Int.reduceEq, Int.reduceLT, Int.reduceLE, Int.reduceNe, decide_true, decide_false, bne_self_eq_false, Bool.not_false, Bool.not_true, callOut, AState.after]
  refine hKY _ ?_
  refine wlk_sreg fun KY hKY => ?_
  simp only [go_sem, reduceIte, Nat.reduceEqDiff, Nat.reduceBEq, reduceCtorEq, Nat.div_one, Nat.reduceLT, Nat.reduceLeDiff, Nat.reduceAdd, Nat.reduceSub, Nat.reduceMul, Nat.reduceDiv, Int.cast_ofNat_Int, Int.reduceAdd, Int.reduceNeg, Int.reduceEq, Int.reduceLT, Int.reduceLE, Int.reduceNe, decide_true, decide_false, bne_self_eq_false, Bool.not_false, Bool.not_true, c_garlandlaw06_JoinNil_r3]
  refine call_view rfl (by simp only [go_sem, reduceIte, Nat.reduceEqDiff, Nat.reduceBEq, reduceCtorEq, Nat.div_one, Nat.reduceLT, Nat.reduceLeDiff, Nat.reduceAdd, Nat.reduceSub, Nat.reduceMul, Nat.reduceDiv, Int.cast_ofNat_Int, Int.reduceAdd, Int.reduceNeg, Int.reduceEq, Int.reduceLT, Int.reduceLE, Int.reduceNe, decide_true, decide_false, bne_self_eq_false, Bool.not_false, Bool.not_true]; rfl) ?_
  refine (awake_ok).mono ?_
  rintro rr hh ⟨rfl, rfl⟩
  refine ⟨rfl, rfl, rfl, ?_⟩
  simp only [go_sem, reduceIte, Nat.reduceEqDiff, Nat.reduceBEq, reduceCtorEq, Nat.div_one, Nat.reduceLT, Nat.reduceLeDiff, Nat.reduceAdd, Nat.reduceSub, Nat.reduceMul, Nat.reduceDiv, Int.cast_ofNat_Int, Int.reduceAdd, Int.reduceNeg, Int.reduceEq, Int.reduceLT, Int.reduceLE, Int.reduceNe, decide_true, decide_false, bne_self_eq_false, Bool.not_false, Bool.not_true]
  refine call_view rfl (by simp only [go_sem, reduceIte, Nat.reduceEqDiff, Nat.reduceBEq, reduceCtorEq, Nat.div_one, Nat.reduceLT, Nat.reduceLeDiff, Nat.reduceAdd, Nat.reduceSub, Nat.reduceMul, Nat.reduceDiv, Int.cast_ofNat_Int, Int.reduceAdd, Int.reduceNeg, Int.reduceEq, Int.reduceLT, Int.reduceLE, Int.reduceNe, decide_true, decide_false, bne_self_eq_false, Bool.not_false, Bool.not_true]; rfl) ?_
  refine (unite_nil a b a).mono ?_
  rintro rr hh ⟨rfl, rfl⟩
  refine ⟨rfl, rfl, rfl, ?_⟩
  simp only [go_sem, reduceIte, Nat.reduceEqDiff, Nat.reduceBEq, reduceCtorEq, Nat.div_one, Nat.reduceLT, Nat.reduceLeDiff, Nat.reduceAdd, Nat.reduceSub, Nat.reduceMul, Nat.reduceDiv, Int.cast_ofNat_Int, Int.reduceAdd, Int.reduceNeg, Int.reduceEq, Int.reduceLT, Int.reduceLE, Int.reduceNe, decide_true, decide_false, bne_self_eq_false, Bool.not_false, Bool.not_true]
  refine call_view rfl (by simp only [go_sem, reduceIte, Nat.reduceEqDiff, Nat.reduceBEq, reduceCtorEq, Nat.div_one, Nat.reduceLT, Nat.reduceLeDiff, Nat.reduceAdd, Nat.reduceSub, Nat.reduceMul, Nat.reduceDiv, Int.cast_ofNat_Int, Int.reduceAdd, Int.reduceNeg, Int.reduceEq, Int.reduceLT, Int.reduceLE, Int.reduceNe, decide_true, decide_false, bne_self_eq_false, Bool.not_false, Bool.not_true]; rfl) ?_
  refine (find_nil a).mono ?_
  rintro rr hh ⟨rfl, rfl⟩
  refine ⟨rfl, rfl, rfl, ?_⟩
  simp only [go_sem, reduceIte, Nat.reduceEqDiff, Nat.reduceBEq, reduceCtorEq, Nat.div_one, Nat.reduceLT, Nat.reduceLeDiff, Nat.reduceAdd, Nat.reduceSub, Nat.reduceMul, Nat.reduceDiv, Int.cast_ofNat_Int, Int.reduceAdd, Int.reduceNeg, Int.reduceEq, Int.reduceLT, Int.reduceLE, Int.reduceNe, decide_true, decide_false, bne_self_eq_false, Bool.not_false, Bool.not_true]
  refine call_view rfl (by simp only [go_sem, reduceIte, Nat.reduceEqDiff, Nat.reduceBEq, reduceCtorEq, Nat.div_one, Nat.reduceLT, Nat.reduceLeDiff, Nat.reduceAdd, Nat.reduceSub, Nat.reduceMul, Nat.reduceDiv, Int.cast_ofNat_Int, Int.reduceAdd, Int.reduceNeg, Int.reduceEq, Int.reduceLT, Int.reduceLE, Int.reduceNe, decide_true, decide_false, bne_self_eq_false, Bool.not_false, Bool.not_true]; rfl) ?_
  refine (label_nil a).mono ?_
  rintro rr hh ⟨rfl, rfl⟩
  refine ⟨rfl, rfl, rfl, ?_⟩
  simp only [go_sem, reduceIte, Nat.reduceEqDiff, Nat.reduceBEq, reduceCtorEq, Nat.div_one, Nat.reduceLT, Nat.reduceLeDiff, Nat.reduceAdd, Nat.reduceSub, Nat.reduceMul, Nat.reduceDiv, Int.cast_ofNat_Int, Int.reduceAdd, Int.reduceNeg, Int.reduceEq, Int.reduceLT, Int.reduceLE, Int.reduceNe, decide_true, decide_false, bne_self_eq_false, Bool.not_false, Bool.not_true]
  refine call_view rfl (by simp only [go_sem, reduceIte, Nat.reduceEqDiff, Nat.reduceBEq, reduceCtorEq, Nat.div_one, Nat.reduceLT, Nat.reduceLeDiff, Nat.reduceAdd, Nat.reduceSub, Nat.reduceMul, Nat.reduceDiv, Int.cast_ofNat_Int, Int.reduceAdd, Int.reduceNeg, Int.reduceEq, Int.reduceLT, Int.reduceLE, Int.reduceNe, decide_true, decide_false, bne_self_eq_false, Bool.not_false, Bool.not_true]; rfl) ?_
  refine (same_nil a a).mono ?_
  rintro rr hh ⟨rfl, rfl⟩
  refine ⟨rfl, rfl, rfl, ?_⟩
  simp only [go_sem, reduceIte, Nat.reduceEqDiff, Nat.reduceBEq, reduceCtorEq, Nat.div_one, Nat.reduceLT, Nat.reduceLeDiff, Nat.reduceAdd, Nat.reduceSub, Nat.reduceMul, Nat.reduceDiv, Int.cast_ofNat_Int, Int.reduceAdd, Int.reduceNeg, Int.reduceEq, Int.reduceLT, Int.reduceLE, Int.reduceNe, decide_true, decide_false, bne_self_eq_false, Bool.not_false, Bool.not_true]
  refine call_view rfl (by simp only [go_sem, reduceIte, Nat.reduceEqDiff, Nat.reduceBEq, reduceCtorEq, Nat.div_one, Nat.reduceLT, Nat.reduceLeDiff, Nat.reduceAdd, Nat.reduceSub, Nat.reduceMul, Nat.reduceDiv, Int.cast_ofNat_Int, Int.reduceAdd, Int.reduceNeg, Int.reduceEq, Int.reduceLT, Int.reduceLE, Int.reduceNe, decide_true, decide_false, bne_self_eq_false, Bool.not_false, Bool.not_true]; rfl) ?_
  refine (sets_nil).mono ?_
  rintro rr hh ⟨rfl, rfl⟩
  refine ⟨rfl, rfl, rfl, ?_⟩
  simp only [go_sem, reduceIte, Nat.reduceEqDiff, Nat.reduceBEq, reduceCtorEq, Nat.div_one, Nat.reduceLT, Nat.reduceLeDiff, Nat.reduceAdd, Nat.reduceSub, Nat.reduceMul, Nat.reduceDiv, Int.cast_ofNat_Int, Int.reduceAdd, Int.reduceNeg, Int.reduceEq, Int.reduceLT, Int.reduceLE, Int.reduceNe, decide_true, decide_false, bne_self_eq_false, Bool.not_false, Bool.not_true]
  refine call_view rfl (by simp only [go_sem, reduceIte, Nat.reduceEqDiff, Nat.reduceBEq, reduceCtorEq, Nat.div_one, Nat.reduceLT, Nat.reduceLeDiff, Nat.reduceAdd, Nat.reduceSub, Nat.reduceMul, Nat.reduceDiv, Int.cast_ofNat_Int, Int.reduceAdd, Int.reduceNeg, Int.reduceEq, Int.reduceLT, Int.reduceLE, Int.reduceNe, decide_true, decide_false, bne_self_eq_false, Bool.not_false, Bool.not_true]; rfl) ?_
  refine (len_nil).mono ?_
  rintro rr hh ⟨rfl, rfl⟩
  refine ⟨rfl, rfl, rfl, ?_⟩
  simp only [go_sem, reduceIte, Nat.reduceEqDiff, Nat.reduceBEq, reduceCtorEq, Nat.div_one, Nat.reduceLT, Nat.reduceLeDiff, Nat.reduceAdd, Nat.reduceSub, Nat.reduceMul, Nat.reduceDiv, Int.cast_ofNat_Int, Int.reduceAdd, Int.reduceNeg, Int.reduceEq, Int.reduceLT, Int.reduceLE, Int.reduceNe, decide_true, decide_false, bne_self_eq_false, Bool.not_false, Bool.not_true]
  refine call_view rfl (by simp only [go_sem, reduceIte, Nat.reduceEqDiff, Nat.reduceBEq, reduceCtorEq, Nat.div_one, Nat.reduceLT, Nat.reduceLeDiff, Nat.reduceAdd, Nat.reduceSub, Nat.reduceMul, Nat.reduceDiv, Int.cast_ofNat_Int, Int.reduceAdd, Int.reduceNeg, Int.reduceEq, Int.reduceLT, Int.reduceLE, Int.reduceNe, decide_true, decide_false, bne_self_eq_false, Bool.not_false, Bool.not_true]; rfl) ?_
  refine (len_ok _ _ _).mono ?_
  rintro rr hh ⟨rfl, rfl⟩
  refine ⟨rfl, rfl, rfl, ?_⟩
  simp only [go_sem, reduceIte, Nat.reduceEqDiff, Nat.reduceBEq, reduceCtorEq, Nat.div_one, Nat.reduceLT, Nat.reduceLeDiff, Nat.reduceAdd, Nat.reduceSub, Nat.reduceMul, Nat.reduceDiv, Int.cast_ofNat_Int, Int.reduceAdd, Int.reduceNeg, Int.reduceEq, Int.reduceLT, Int.reduceLE, Int.reduceNe, decide_true, decide_false, bne_self_eq_false, Bool.not_false, Bool.not_true]
  refine call_gen [] [0] false none rfl (by simp only [go_sem, reduceIte, Nat.reduceEqDiff, Nat.reduceBEq, reduceCtorEq, Nat.div_one, Nat.reduceLT, Nat.reduceLeDiff, Nat.reduceAdd, Nat.reduceSub, Nat.reduceMul, Nat.reduceDiv, Int.cast_ofNat_Int, Int.reduceAdd, Int.reduceNeg, Int.reduceEq, Int.reduceLT, Int.reduceLE, Int.reduceNe, decide_true, decide_false, bne_self_eq_false, Bool.not_false, Bool.not_true]; rfl) (by simp only [go_sem, reduceIte, Nat.reduceEqDiff, Nat.reduceBEq, reduceCtorEq, Nat.div_one, Nat.reduceLT, Nat.reduceLeDiff, Nat.reduceAdd, Nat.reduceSub, Nat.reduceMul, Nat.reduceDiv, Int.cast_ofNat_Int, Int.reduceAdd, Int.reduceNeg, Int.reduceEq, Int.reduceLT, Int.reduceLE, Int.reduceNe, decide_true, decide_false, bne_self_eq_false, Bool.not_false, Bool.not_true]; rfl) rfl rfl rfl (by simp only [go_sem, reduceIte, Nat.reduceEqDiff, Nat.reduceBEq, reduceCtorEq, Nat.div_one, Nat.reduceLT, Nat.reduceLeDiff, Nat.reduceAdd, Nat.reduceSub, Nat.reduceMul, Nat.reduceDiv, Int.cast_ofNat_Int, Int.reduceAdd, Int.reduceNeg, Int.reduceEq, Int.reduceLT, Int.reduceLE, Int.reduceNe, decide_true, decide_false, bne_self_eq_false, Bool.not_false, Bool.not_true, watchIn]; rfl) (by simp only [go_sem, reduceIte, Nat.reduceEqDiff, Nat.reduceBEq, reduceCtorEq, Nat.div_one, Nat.reduceLT, Nat.reduceLeDiff, Nat.reduceAdd, Nat.reduceSub, Nat.reduceMul, Nat.reduceDiv, Int.cast_ofNat_Int, Int.reduceAdd, Int.reduceNeg, Int.reduceEq, Int.reduceLT, Int.reduceLE, Int.reduceNe, decide_true, decide_false, bne_self_eq_false, Bool.not_false, Bool.not_true]; rfl) (by simp only [go_sem, reduceIte, Nat.reduceEqDiff, Nat.reduceBEq, reduceCtorEq, Nat.div_one, Nat.reduceLT, Nat.reduceLeDiff, Nat.reduceAdd, Nat.reduceSub, Nat.reduceMul, Nat.reduceDiv, Int.cast_ofNat_Int, Int.reduceAdd, Int.reduceNeg, Int.reduceEq, Int.reduceLT, Int.reduceLE, Int.reduceNe, decide_true, decide_false, bne_self_eq_false, Bool.not_false, Bool.not_true]; rfl) ?_
  refine (find_ok up of _ n _ _ r d J 70000).mono ?_
  rintro _ _ ⟨rfl, up2, J2, rfl⟩
  rw [show atOr S 70000 = -1 by unfold atOr; rw [← hS, List.length_range]; exact if_neg (by omega)]
  unfold joinObj
  refine ⟨Nat.le_of_ble_eq_true rfl, (fun hh => by cases hh), ?_⟩
  simp only [go_sem, reduceIte, Nat.reduceEqDiff, Nat.reduceBEq, reduceCtorEq, Nat.div_one, Nat.reduceLT, Nat.reduceLeDiff, Nat.reduceAdd, Nat.reduceSub, Nat.reduceMul, Nat.reduceDiv, Int.cast_ofNat_Int, Int.reduceAdd, Int.reduceNeg, Int.reduceEq, Int.reduceLT, Int.reduceLE, Int.reduceNe, decide_true, decide_false, bne_self_eq_false, Bool.not_false, Bool.not_true, callOut, AState.after]
  refine call_gen [] [] false none rfl (by simp only [go_sem, reduceIte, Nat.reduceEqDiff, Nat.reduceBEq, reduceCtorEq, Nat.div_one, Nat.reduceLT, Nat.reduceLeDiff, Nat.reduceAdd, Nat.reduceSub, Nat.reduceMul, Nat.reduceDiv, Int.cast_ofNat_Int, Int.reduceAdd, Int.reduceNeg, Int.reduceEq, Int.reduceLT, Int.reduceLE, Int.reduceNe, decide_true, decide_false, bne_self_eq_false, Bool.not_false, Bool.not_true]; rfl) (by simp only [go_sem, reduceIte, Nat.reduceEqDiff, Nat.reduceBEq, reduceCtorEq, Nat.div_one, Nat.reduceLT, Nat.reduceLeDiff, Nat.reduceAdd, Nat.reduceSub, Nat.reduceMul, Nat.reduceDiv, Int.cast_ofNat_Int, Int.reduceAdd, Int.reduceNeg, Int.reduceEq, Int.reduceLT, Int.reduceLE, Int.reduceNe, decide_true, decide_false, bne_self_eq_false, Bool.not_false, Bool.not_true]; rfl) rfl rfl rfl (by simp only [go_sem, reduceIte, Nat.reduceEqDiff, Nat.reduceBEq, reduceCtorEq, Nat.div_one, Nat.reduceLT, Nat.reduceLeDiff, Nat.reduceAdd, Nat.reduceSub, Nat.reduceMul, Nat.reduceDiv, Int.cast_ofNat_Int, Int.reduceAdd, Int.reduceNeg, Int.reduceEq, Int.reduceLT, Int.reduceLE, Int.reduceNe, decide_true, decide_false, bne_self_eq_false, Bool.not_false, Bool.not_true, watchIn]; rfl) (by simp only [go_sem, reduceIte, Nat.reduceEqDiff, Nat.reduceBEq, reduceCtorEq, Nat.div_one, Nat.reduceLT, Nat.reduceLeDiff, Nat.reduceAdd, Nat.reduceSub, Nat.reduceMul, Nat.reduceDiv, Int.cast_ofNat_Int, Int.reduceAdd, Int.reduceNeg, Int.reduceEq, Int.reduceLT, Int.reduceLE, Int.reduceNe, decide_true, decide_false, bne_self_eq_false, Bool.not_false, Bool.not_true]; rfl) (by simp only [go_sem, reduceIte, Nat.reduceEqDiff, Nat.reduceBEq, reduceCtorEq, Nat.div_one, Nat.reduceLT, Nat.reduceLeDiff, Nat.reduceAdd, Nat.reduceSub, Nat.reduceMul, Nat.reduceDiv, Int.cast_ofNat_Int, Int.reduceAdd, Int.reduceNeg, Int.reduceEq, Int.reduceLT, Int.reduceLE, Int.reduceNe, decide_true, decide_false, bne_self_eq_false, Bool.not_false, Bool.not_true]; rfl) ?_
  refine (new_ok (-3)).mono ?_
  rintro _ _ ⟨rfl, m, hm, up5, of5, r5, d5, J5, rfl⟩
  obtain rfl : m = 0 := by omega
  unfold joinObj
  refine ⟨Nat.le_of_ble_eq_true rfl, (fun hh => by cases hh), ?_⟩
  simp only [go_sem, reduceIte, Nat.reduceEqDiff, Nat.reduceBEq, reduceCtorEq, Nat.div_one, Nat.reduceLT, Nat.reduceLeDiff, Nat.reduceAdd, Nat.reduceSub, Nat.reduceMul, Nat.reduceDiv, Int.cast_ofNat_Int, Int.reduceAdd, Int.reduceNeg, Int.reduceEq, Int.reduceLT, Int.reduceLE, Int.reduceNe, decide_true, decide_false, bne_self_eq_false, Bool.not_false, Bool.not_true, callOut, AState.after]
  refine call_view rfl (by simp only [go_sem, reduceIte, Nat.reduceEqDiff, Nat.reduceBEq, reduceCtorEq, Nat.div_one, Nat.reduceLT, Nat.reduceLeDiff, Nat.reduceAdd, Nat.reduceSub, Nat.reduceMul, Nat.reduceDiv, Int.cast_ofNat_Int, Int.reduceAdd, Int.reduceNeg, Int.reduceEq, Int.reduceLT, Int.reduceLE, Int.reduceNe, decide_true, decide_false, bne_self_eq_false, Bool.not_false, Bool.not_true]; rfl) ?_
  refine (len_ok _ _ _).mono ?_
  rintro rr hh ⟨rfl, rfl⟩
  refine ⟨rfl, rfl, rfl, ?_⟩
  rw [show cnt (List.range 0) = 0 from rfl]
  simp only [go_sem, reduceIte, Nat.reduceEqDiff, Nat.reduceBEq, reduceCtorEq, Nat.div_one, Nat.reduceLT, Nat.reduceLeDiff, Nat.reduceAdd, Nat.reduceSub, Nat.reduceMul, Nat.reduceDiv, Int.cast_ofNat_Int, Int.reduceAdd, Int.reduceNeg, Int.reduceEq, Int.reduceLT, Int.reduceLE, Int.reduceNe, decide_true, decide_false, bne_self_eq_false, Bool.not_false, Bool.not_true]
  refine hKY _ ?_
  refine wlk_ret ?_
  simp only [go_sem, reduceIte, Nat.reduceEqDiff, Nat.reduceBEq, reduceCtorEq, Nat.div_one, Nat.reduceLT, Nat.reduceLeDiff, Nat.reduceAdd, Nat.reduceSub, Nat.reduceMul, Nat.reduceDiv, Int.cast_ofNat_Int, Int.reduceAdd, Int.reduceNeg, Int.reduceEq, Int.reduceLT, Int.reduceLE, Int.reduceNe, decide_true, decide_false, bne_self_eq_false, Bool.not_false, Bool.not_true]
end Go.Proofs.Yticfnlclbmibeaa


set_option maxRecDepth 100000
namespace Go.Proofs.Yticfnlclbmibeaa
open Go Go.Ga Go.Ga.Jn

/-- A number, counted modulo so many. -/
theorem umod (n : Int) (k : Nat) (h0 : 0 < k) (h1 : k ≤ 1000000000000) : ∃ m : Nat, m < k ∧ IntKind.i64.wrap ((IntKind.u64.wrap n).tmod (k : Int)) = (m : Int) := by
  have hw : 0 ≤ IntKind.u64.wrap n := by
    rw [IntKind.wrap_u64]; omega
  have e : (IntKind.u64.wrap n).tmod (k : Int) = (IntKind.u64.wrap n) % (k : Int) := Int.tmod_eq_emod_of_nonneg hw
  have h2 := Int.emod_nonneg (IntKind.u64.wrap n) (show (k : Int) ≠ 0 by omega)
  have h3 := Int.emod_lt_of_pos (IntKind.u64.wrap n) (show (0 : Int) < k by omega)
  refine ⟨((IntKind.u64.wrap n) % (k : Int)).toNat, by omega, ?_⟩
  rw [e, IntWalk.i64_in _ (by omega)]
  omega

theorem set3 (x y z a b c : AVal) : setCells [x, y, z] 0 [a, b, c] = [a, b, c] := rfl
theorem sets_len (L : List Nat) : (sets L).length = cnt L := by simp [sets, cnt]
theorem cnt_le (L : List Nat) : cnt L ≤ L.length := roots_le _ _

theorem sets_row {L x : List Nat} (h : x ∈ sets L) : x.length ≤ L.length := by
  obtain ⟨q, _, rfl⟩ := List.mem_map.1 h
  exact mem_le _ _ _
theorem nen {α : Type} (x : α) [Decidable (x ≠ x)] : decide (x ≠ x) = false := decide_eq_false (fun h => h rfl)
theorem eqn {α : Type} (x : α) [Decidable (x = x)] : decide (x = x) = true := decide_eq_true rfl
theorem uni_len {S : List Nat × List Nat} (h : S.2.length = S.1.length) (a b l : Int) : (uni S a b l).1.length = S.1.length ∧ (uni S a b l).2.length = S.1.length := by
  unfold uni
  split
  · exact ⟨uL_len _ _ _, uB_len _ _ _ _ _⟩
  · exact ⟨rfl, h⟩

theorem plays_ok (n a b : Int) (l : List (Int × Int × Int)) (hl : l.length ≤ 10000000) : ACalls Try.prog [] n_garlandlaw06_JoinPlays [.sc (.int .i64 n), .imm 3 (tris l), .sc (.int .i64 a), .sc (.int .i64 b)] [] fun r _ => r = .sc (.bool true) := by
  obtain ⟨m, hm, hnm⟩ := umod n 60 (by decide) (by decide)
  have hnm : IntKind.i64.wrap ((IntKind.u64.wrap n).tmod 60) = (m : Int) := hnm
  refine go_garlandlaw06_JoinPlays rfl ?_
  unfold c_garlandlaw06_JoinPlays v_garlandlaw06_JoinPlays
  refine wlk_sreg fun KY hKY => ?_
  simp only [go_sem, reduceIte, Nat.reduceEqDiff, Nat.reduceBEq, reduceCtorEq, Nat.div_one, Nat.reduceLT, Nat.reduceLeDiff, Nat.reduceAdd, Nat.reduceSub, Nat.reduceMul, Nat.reduceDiv, Int.cast_ofNat_Int, Int.reduceAdd, Int.reduceNeg, Int.reduceEq, Int.reduceLT, Int.reduceLE, Int.reduceNe, decide_true, decide_false, bne_self_eq_false, Bool.not_false, Bool.not_true, c_garlandlaw06_JoinPlays_r0]
  refine hKY _ ?_
  refine wlk_sreg fun KY hKY => ?_
  simp only [go_sem, reduceIte, Nat.reduceEqDiff, Nat.reduceBEq, reduceCtorEq, Nat.div_one, Nat.reduceLT, Nat.reduceLeDiff, Nat.reduceAdd, Nat.reduceSub, Nat.reduceMul, Nat.reduceDiv, Int.cast_ofNat_Int, Int.reduceAdd, Int.reduceNeg, Int.reduceEq, Int.reduceLT, Int.reduceLE, Int.reduceNe, decide_true, decide_false, bne_self_eq_false, Bool.not_false, Bool.not_true, c_garlandlaw06_JoinPlays_r1, hnm]
  refine hKY _ ?_
  refine wlk_sreg fun KY hKY => ?_
  simp only [go_sem, reduceIte, Nat.reduceEqDiff, Nat.reduceBEq, reduceCtorEq, Nat.div_one, Nat.reduceLT, Nat.reduceLeDiff, Nat.reduceAdd, Nat.reduceSub, Nat.reduceMul, Nat.reduceDiv, Int.cast_ofNat_Int, Int.reduceAdd, Int.reduceNeg, Int.reduceEq, Int.reduceLT, Int.reduceLE, Int.reduceNe, decide_true, decide_false, bne_self_eq_false, Bool.not_false, Bool.not_true, c_garlandlaw06_JoinPlays_r2]
  refine call_gen [] [] false none rfl (by simp only [go_sem, reduceIte, Nat.reduceEqDiff, Nat.reduceBEq, reduceCtorEq, Nat.div_one, Nat.reduceLT, Nat.reduceLeDiff, Nat.reduceAdd, Nat.reduceSub, Nat.reduceMul, Nat.reduceDiv, Int.cast_ofNat_Int, Int.reduceAdd, Int.reduceNeg, Int.reduceEq, Int.reduceLT, Int.reduceLE, Int.reduceNe, decide_true, decide_false, bne_self_eq_false, Bool.not_false, Bool.not_true]; rfl) (by simp only [go_sem, reduceIte, Nat.reduceEqDiff, Nat.reduceBEq, reduceCtorEq, Nat.div_one, Nat.reduceLT, Nat.reduceLeDiff, Nat.reduceAdd, Nat.reduceSub, Nat.reduceMul, Nat.reduceDiv, Int.cast_ofNat_Int, Int.reduceAdd, Int.reduceNeg, Int.reduceEq, Int.reduceLT, Int.reduceLE, Int.reduceNe, decide_true, decide_false, bne_self_eq_false, Bool.not_false, Bool.not_true]; rfl) rfl rfl rfl (by simp only [go_sem, reduceIte, Nat.reduceEqDiff, Nat.reduceBEq, reduceCtorEq, Nat.div_one, Nat.reduceLT, Nat.reduceLeDiff, Nat.reduceAdd, Nat.reduceSub, Nat.reduceMul, Nat.reduceDiv, Int.cast_ofNat_Int, Int.reduceAdd, Int.reduceNeg, Int.reduceEq, Int.reduceLT, Int.reduceLE, Int.reduceNe, decide_true, decide_false, bne_self_eq_false, Bool.not_false, Bool.not_true, watchIn]; rfl) (by simp only [go_sem, reduceIte, Nat.reduceEqDiff, Nat.reduceBEq, reduceCtorEq, Nat.div_one, Nat.reduceLT, Nat.reduceLeDiff, Nat.reduceAdd, Nat.reduceSub, Nat.reduceMul, Nat.reduceDiv, Int.cast_ofNat_Int, Int.reduceAdd, Int.reduceNeg, Int.reduceEq, Int.reduceLT, Int.reduceLE, Int.reduceNe, decide_true, decide_false, bne_self_eq_false, Bool.not_false, Bool.not_true]; rfl) (by simp only [go_sem, reduceIte, Nat.reduceEqDiff, Nat.reduceBEq, reduceCtorEq, Nat.div_one, Nat.reduceLT, Nat.reduceLeDiff, Nat.reduceAdd, Nat.reduceSub, Nat.reduceMul, Nat.reduceDiv, Int.cast_ofNat_Int, Int.reduceAdd, Int.reduceNeg, Int.reduceEq, Int.reduceLT, Int.reduceLE, Int.reduceNe, decide_true, decide_false, bne_self_eq_false, Bool.not_false, Bool.not_true]; rfl) ?_
  refine (new_ok m).mono ?_
  rintro _ _ ⟨rfl, m', hm', up0, of0, r0, d0, J0, rfl⟩
  obtain rfl : m' = m := by omega
  unfold joinObj
  refine ⟨Nat.le_of_ble_eq_true rfl, (fun hh => by cases hh), ?_⟩
  simp only [go_sem, reduceIte, Nat.reduceEqDiff, Nat.reduceBEq, reduceCtorEq, Nat.div_one, Nat.reduceLT, Nat.reduceLeDiff, Nat.reduceAdd, Nat.reduceSub, Nat.reduceMul, Nat.reduceDiv, Int.cast_ofNat_Int, Int.reduceAdd, Int.reduceNeg, Int.reduceEq, Int.reduceLT, Int.reduceLE, Int.reduceNe, decide_true, decide_false, bne_self_eq_false, Bool.not_false, Bool.not_true, callOut, AState.after]
  refine call_gen [] [] false none rfl (by simp only [go_sem, reduceIte, Nat.reduceEqDiff, Nat.reduceBEq, reduceCtorEq, Nat.div_one, Nat.reduceLT, Nat.reduceLeDiff, Nat.reduceAdd, Nat.reduceSub, Nat.reduceMul, Nat.reduceDiv, Int.cast_ofNat_Int, Int.reduceAdd, Int.reduceNeg, Int.reduceEq, Int.reduceLT, Int.reduceLE, Int.reduceNe, decide_true, decide_false, bne_self_eq_false, Bool.not_false, Bool.not_true]; rfl) (by simp only [go_sem, reduceIte, Nat.reduceEqDiff, Nat.reduceBEq, reduceCtorEq, Nat.div_one, Nat.reduceLT, Nat.reduceLeDiff, Nat.reduceAdd, Nat.reduceSub, Nat.reduceMul, Nat.reduceDiv, Int.cast_ofNat_Int, Int.reduceAdd, Int.reduceNeg, Int.reduceEq, Int.reduceLT, Int.reduceLE, Int.reduceNe, decide_true, decide_false, bne_self_eq_false, Bool.not_false, Bool.not_true]; rfl) rfl rfl rfl (by simp only [go_sem, reduceIte, Nat.reduceEqDiff, Nat.reduceBEq, reduceCtorEq, Nat.div_one, Nat.reduceLT, Nat.reduceLeDiff, Nat.reduceAdd, Nat.reduceSub, Nat.reduceMul, Nat.reduceDiv, Int.cast_ofNat_Int, Int.reduceAdd, Int.reduceNeg, Int.reduceEq, Int.reduceLT, Int.reduceLE, Int.reduceNe, decide_true, decide_false, bne_self_eq_false, Bool.not_false, Bool.not_true, watchIn]; rfl) (by simp only [go_sem, reduceIte, Nat.reduceEqDiff, Nat.reduceBEq, reduceCtorEq, Nat.div_one, Nat.reduceLT, Nat.reduceLeDiff, Nat.reduceAdd, Nat.reduceSub, Nat.reduceMul, Nat.reduceDiv, Int.cast_ofNat_Int, Int.reduceAdd, Int.reduceNeg, Int.reduceEq, Int.reduceLT, Int.reduceLE, Int.reduceNe, decide_true, decide_false, bne_self_eq_false, Bool.not_false, Bool.not_true]; rfl) (by simp only [go_sem, reduceIte, Nat.reduceEqDiff, Nat.reduceBEq, reduceCtorEq, Nat.div_one, Nat.reduceLT, Nat.reduceLeDiff, Nat.reduceAdd, Nat.reduceSub, Nat.reduceMul, Nat.reduceDiv, Int.cast_ofNat_Int, Int.reduceAdd, Int.reduceNeg, Int.reduceEq, Int.reduceLT, Int.reduceLE, Int.reduceNe, decide_true, decide_false, bne_self_eq_false, Bool.not_false, Bool.not_true]; rfl) ?_
  refine (rnew_ok m' (by omega)).mono ?_
  rintro _ _ ⟨rfl, rfl⟩
  unfold refObj
  refine ⟨Nat.le_of_ble_eq_true rfl, (fun hh => by cases hh), ?_⟩
  simp only [go_sem, reduceIte, Nat.reduceEqDiff, Nat.reduceBEq, reduceCtorEq, Nat.div_one, Nat.reduceLT, Nat.reduceLeDiff, Nat.reduceAdd, Nat.reduceSub, Nat.reduceMul, Nat.reduceDiv, Int.cast_ofNat_Int, Int.reduceAdd, Int.reduceNeg, Int.reduceEq, Int.reduceLT, Int.reduceLE, Int.reduceNe, decide_true, decide_false, bne_self_eq_false, Bool.not_false, Bool.not_true, callOut, AState.after]
  refine hKY _ ?_
  refine wlk_seq fun X1 hn1 he1 hr1 => ?_
  refine wlk_sreg fun KY hKY => ?_
  simp only [go_sem, reduceIte, Nat.reduceEqDiff, Nat.reduceBEq, reduceCtorEq, Nat.div_one, Nat.reduceLT, Nat.reduceLeDiff, Nat.reduceAdd, Nat.reduceSub, Nat.reduceMul, Nat.reduceDiv, Int.cast_ofNat_Int, Int.reduceAdd, Int.reduceNeg, Int.reduceEq, Int.reduceLT, Int.reduceLE, Int.reduceNe, decide_true, decide_false, bne_self_eq_false, Bool.not_false, Bool.not_true, c_garlandlaw06_JoinPlays_r3]
  refine call_view rfl (by simp only [go_sem, reduceIte, Nat.reduceEqDiff, Nat.reduceBEq, reduceCtorEq, Nat.div_one, Nat.reduceLT, Nat.reduceLeDiff, Nat.reduceAdd, Nat.reduceSub, Nat.reduceMul, Nat.reduceDiv, Int.cast_ofNat_Int, Int.reduceAdd, Int.reduceNeg, Int.reduceEq, Int.reduceLT, Int.reduceLE, Int.reduceNe, decide_true, decide_false, bne_self_eq_false, Bool.not_false, Bool.not_true]; rfl) ?_
  refine (awake_ok).mono ?_
  rintro rr hh ⟨rfl, rfl⟩
  refine ⟨rfl, rfl, rfl, ?_⟩
  simp only [go_sem, reduceIte, Nat.reduceEqDiff, Nat.reduceBEq, reduceCtorEq, Nat.div_one, Nat.reduceLT, Nat.reduceLeDiff, Nat.reduceAdd, Nat.reduceSub, Nat.reduceMul, Nat.reduceDiv, Int.cast_ofNat_Int, Int.reduceAdd, Int.reduceNeg, Int.reduceEq, Int.reduceLT, Int.reduceLE, Int.reduceNe, decide_true, decide_false, bne_self_eq_false, Bool.not_false, Bool.not_true]
  refine hKY _ ?_
  simp only [go_sem, reduceIte, Nat.reduceEqDiff, Nat.reduceBEq, reduceCtorEq, Nat.div_one, Nat.reduceLT, Nat.reduceLeDiff, Nat.reduceAdd, Nat.reduceSub, Nat.reduceMul, Nat.reduceDiv, Int.cast_ofNat_Int, Int.reduceAdd, Int.reduceNeg, Int.reduceEq, Int.reduceLT, Int.reduceLE, Int.reduceNe, decide_true, decide_false, bne_self_eq_false, Bool.not_false, Bool.not_true]
  refine wlk_cond0 rfl (wlk_skip (hn1 _ ?_))
  refine wlk_seq fun X2 hn2 he2 hr2 => ?_
  refine wlk_sreg fun KY hKY => ?_
  simp only [go_sem, reduceIte, Nat.reduceEqDiff, Nat.reduceBEq, reduceCtorEq, Nat.div_one, Nat.reduceLT, Nat.reduceLeDiff, Nat.reduceAdd, Nat.reduceSub, Nat.reduceMul, Nat.reduceDiv, Int.cast_ofNat_Int, Int.reduceAdd, Int.reduceNeg, Int.reduceEq, Int.reduceLT, Int.reduceLE, Int.reduceNe, decide_true, decide_false, bne_self_eq_false, Bool.not_false, Bool.not_true, c_garlandlaw06_JoinPlays_r5]
  refine hKY _ ?_
  refine wlk_blk fun X3 hn3 he3 hf3 hr3 => ?_
  refine wlk_loop (fun q s => ∃ (i : Nat) (up L B : List Nat) (of : List (Int × Int × Int)) (r d : Nat → Nat) (A12 A35 A66 : AVal), i ≤ l.length ∧ q = l.length - i ∧ JR up of m' L B r d ∧ s = { vs := [(0, .sc (.int .i64 (m' : Int))), (1, .imm 3 (tris l)), (2, .sc (.int .i64 a)), (3, .sc (.int .i64 b)), (8, .sc (.bool false)), (9, .ptr 0 0), (10, .ptr 1 0), (11, .sc (.int .i64 (i : Int))), (12, A12), (13, .dead), (27, .sc (.bool false)), (35, A35), (66, A66), (69, .dead), (87, .dead)], ts := [], h := [some [.own (some 1) (nats up), .own (some 3) (tris of), .sc (.int .i64 (cnt L))], some [.own (some 1) (nats L), .own (some 1) (nats B)]] }) l.length ⟨0, up0, _, _, of0, r0, d0, .dead, .dead, .dead, Nat.zero_le _, rfl, J0, ?_⟩ ?_
  · rfl
  rintro q _ ⟨i, up, L, B, of, r, d, A12, A35, A66, hi, rfl, J, rfl⟩ X4 hn4 he4 hr4
  refine sem_forget [12, 35, 66] rfl ?_
  simp only [go_sem, reduceIte, Nat.reduceEqDiff, Nat.reduceBEq, reduceCtorEq, Nat.div_one, Nat.reduceLT, Nat.reduceLeDiff, Nat.reduceAdd, Nat.reduceSub, Nat.reduceMul, Nat.reduceDiv, Int.cast_ofNat_Int, Int.reduceAdd, Int.reduceNeg, Int.reduceEq, Int.reduceLT, Int.reduceLE, Int.reduceNe, decide_true, decide_false, bne_self_eq_false, Bool.not_false, Bool.not_true]
  have hL := J.lL
  have c0 := cnt_le L
  refine wlk_seq fun X5 hn5 he5 hr5 => ?_
  by_cases h1 : i < l.length ∧ i < 60
  · have g1 : decide ((i : Int) < ((l.length : Nat) : Int)) = true := decide_eq_true (by omega)
    have g2 : decide ((i : Int) < 60) = true := decide_eq_true (by omega)
    have hx : l[i]? = some l[i] := List.getElem?_eq_getElem h1.1
    generalize l[i] = x at hx
    obtain ⟨xa, xb, xl⟩ := x
    refine wlk_seq fun X6 hn6 he6 hr6 => ?_
    refine wlk_reg fun KY hKY => ?_
    simp only [go_sem, reduceIte, Nat.reduceEqDiff, Nat.reduceBEq, reduceCtorEq, Nat.div_one, Nat.reduceLT, Nat.reduceLeDiff, Nat.reduceAdd, Nat.reduceSub, Nat.reduceMul, Nat.reduceDiv, Int.cast_ofNat_Int, Int.reduceAdd, Int.reduceNeg, Int.reduceEq, Int.reduceLT, Int.reduceLE, Int.reduceNe, decide_true, decide_false, bne_self_eq_false, Bool.not_false, Bool.not_true, c_garlandlaw06_JoinPlays_r6, g1, g2, Nat.mul_div_cancel _ (show 0 < 3 by decide)]
    refine hKY _ (hn6 _ ?_)
    simp only [go_sem, reduceIte, Nat.reduceEqDiff, Nat.reduceBEq, reduceCtorEq, Nat.div_one, Nat.reduceLT, Nat.reduceLeDiff, Nat.reduceAdd, Nat.reduceSub, Nat.reduceMul, Nat.reduceDiv, Int.cast_ofNat_Int, Int.reduceAdd, Int.reduceNeg, Int.reduceEq, Int.reduceLT, Int.reduceLE, Int.reduceNe, decide_true, decide_false, bne_self_eq_false, Bool.not_false, Bool.not_true]
    refine wlk_cond1 rfl (wlk_skip (hn5 _ ?_))
    refine wlk_seq fun X7 hn7 he7 hr7 => ?_
    refine wlk_blk fun X8 hn8 he8 hf8 hr8 => ?_
    have b1 : i * 3 + 2 < l.length * 3 := by omega
    have b2 : 3 ≤ l.length * 3 - i * 3 := by omega
    have tc : ((tris l).drop (i * 3)).take 3 = [.sc (.int .i64 xa), .sc (.int .i64 xb), .sc (.int .i64 xl)] := packs_cells tri_len hx
    refine wlk_sreg fun KY hKY => ?_
    simp only [go_sem, reduceIte, Nat.reduceEqDiff, Nat.reduceBEq, reduceCtorEq, Nat.div_one, Nat.reduceLT, Nat.reduceLeDiff, Nat.reduceAdd, Nat.reduceSub, Nat.reduceMul, Nat.reduceDiv, Int.cast_ofNat_Int, Int.reduceAdd, Int.reduceNeg, Int.reduceEq, Int.reduceLT, Int.reduceLE, Int.reduceNe, decide_true, decide_false, bne_self_eq_false, Bool.not_false, Bool.not_true, c_garlandlaw06_JoinPlays_r7, b1, b2, tc, List.length_drop, set3]
    refine hKY _ ?_
    refine wlk_seq fun X9 hn9 he9 hr9 => ?_
    refine wlk_draw fun KY hKY => ?_
    simp only [go_sem, reduceIte, Nat.reduceEqDiff, Nat.reduceBEq, reduceCtorEq, Nat.div_one, Nat.reduceLT, Nat.reduceLeDiff, Nat.reduceAdd, Nat.reduceSub, Nat.reduceMul, Nat.reduceDiv, Int.cast_ofNat_Int, Int.reduceAdd, Int.reduceNeg, Int.reduceEq, Int.reduceLT, Int.reduceLE, Int.reduceNe, decide_true, decide_false, bne_self_eq_false, Bool.not_false, Bool.not_true, c_garlandlaw06_JoinPlays_r8]
    refine call_gen [.vw, .vw, .vw, .vw] [0] false none rfl (by simp only [go_sem, reduceIte, Nat.reduceEqDiff, Nat.reduceBEq, reduceCtorEq, Nat.div_one, Nat.reduceLT, Nat.reduceLeDiff, Nat.reduceAdd, Nat.reduceSub, Nat.reduceMul, Nat.reduceDiv, Int.cast_ofNat_Int, Int.reduceAdd, Int.reduceNeg, Int.reduceEq, Int.reduceLT, Int.reduceLE, Int.reduceNe, decide_true, decide_false, bne_self_eq_false, Bool.not_false, Bool.not_true]; rfl) (by simp only [go_sem, reduceIte, Nat.reduceEqDiff, Nat.reduceBEq, reduceCtorEq, Nat.div_one, Nat.reduceLT, Nat.reduceLeDiff, Nat.reduceAdd, Nat.reduceSub, Nat.reduceMul, Nat.reduceDiv, Int.cast_ofNat_Int, Int.reduceAdd, Int.reduceNeg, Int.reduceEq, Int.reduceLT, Int.reduceLE, Int.reduceNe, decide_true, decide_false, bne_self_eq_false, Bool.not_false, Bool.not_true]; rfl) rfl rfl rfl (by simp only [go_sem, reduceIte, Nat.reduceEqDiff, Nat.reduceBEq, reduceCtorEq, Nat.div_one, Nat.reduceLT, Nat.reduceLeDiff, Nat.reduceAdd, Nat.reduceSub, Nat.reduceMul, Nat.reduceDiv, Int.cast_ofNat_Int, Int.reduceAdd, Int.reduceNeg, Int.reduceEq, Int.reduceLT, Int.reduceLE, Int.reduceNe, decide_true, decide_false, bne_self_eq_false, Bool.not_false, Bool.not_true, watchIn]; rfl) (by simp only [go_sem, reduceIte, Nat.reduceEqDiff, Nat.reduceBEq, reduceCtorEq, Nat.div_one, Nat.reduceLT, Nat.reduceLeDiff, Nat.reduceAdd, Nat.reduceSub, Nat.reduceMul, Nat.reduceDiv, Int.cast_ofNat_Int, Int.reduceAdd, Int.reduceNeg, Int.reduceEq, Int.reduceLT, Int.reduceLE, Int.reduceNe, decide_true, decide_false, bne_self_eq_false, Bool.not_false, Bool.not_true]; rfl) (by simp only [go_sem, reduceIte, Nat.reduceEqDiff, Nat.reduceBEq, reduceCtorEq, Nat.div_one, Nat.reduceLT, Nat.reduceLeDiff, Nat.reduceAdd, Nat.reduceSub, Nat.reduceMul, Nat.reduceDiv, Int.cast_ofNat_Int, Int.reduceAdd, Int.reduceNeg, Int.reduceEq, Int.reduceLT, Int.reduceLE, Int.reduceNe, decide_true, decide_false, bne_self_eq_false, Bool.not_false, Bool.not_true]; rfl) ?_
    refine (unite_ok up of m' L B r d J (by omega) xa xb xl).mono ?_
    rintro _ _ ⟨rfl, up1, of1, r1, d1, J1, rfl⟩
    unfold joinObj
    refine ⟨Nat.le_of_ble_eq_true rfl, (fun hh => by cases hh), ?_⟩
    simp only [go_sem, reduceIte, Nat.reduceEqDiff, Nat.reduceBEq, reduceCtorEq, Nat.div_one, Nat.reduceLT, Nat.reduceLeDiff, Nat.reduceAdd, Nat.reduceSub, Nat.reduceMul, Nat.reduceDiv, Int.cast_ofNat_Int, Int.reduceAdd, Int.reduceNeg, Int.reduceEq, Int.reduceLT, Int.reduceLE, Int.reduceNe, decide_true, decide_false, bne_self_eq_false, Bool.not_false, Bool.not_true, callOut, AState.after]
    refine call_gen [] [1] false none rfl (by simp only [go_sem, reduceIte, Nat.reduceEqDiff, Nat.reduceBEq, reduceCtorEq, Nat.div_one, Nat.reduceLT, Nat.reduceLeDiff, Nat.reduceAdd, Nat.reduceSub, Nat.reduceMul, Nat.reduceDiv, Int.cast_ofNat_Int, Int.reduceAdd, Int.reduceNeg, Int.reduceEq, Int.reduceLT, Int.reduceLE, Int.reduceNe, decide_true, decide_false, bne_self_eq_false, Bool.not_false, Bool.not_true]; rfl) (by simp only [go_sem, reduceIte, Nat.reduceEqDiff, Nat.reduceBEq, reduceCtorEq, Nat.div_one, Nat.reduceLT, Nat.reduceLeDiff, Nat.reduceAdd, Nat.reduceSub, Nat.reduceMul, Nat.reduceDiv, Int.cast_ofNat_Int, Int.reduceAdd, Int.reduceNeg, Int.reduceEq, Int.reduceLT, Int.reduceLE, Int.reduceNe, decide_true, decide_false, bne_self_eq_false, Bool.not_false, Bool.not_true]; rfl) rfl rfl rfl (by simp only [go_sem, reduceIte, Nat.reduceEqDiff, Nat.reduceBEq, reduceCtorEq, Nat.div_one, Nat.reduceLT, Nat.reduceLeDiff, Nat.reduceAdd, Nat.reduceSub, Nat.reduceMul, Nat.reduceDiv, Int.cast_ofNat_Int, Int.reduceAdd, Int.reduceNeg, Int.reduceEq, Int.reduceLT, Int.reduceLE, Int.reduceNe, decide_true, decide_false, bne_self_eq_false, Bool.not_false, Bool.not_true, watchIn]; rfl) (by simp only [go_sem, reduceIte, Nat.reduceEqDiff, Nat.reduceBEq, reduceCtorEq, Nat.div_one, Nat.reduceLT, Nat.reduceLeDiff, Nat.reduceAdd, Nat.reduceSub, Nat.reduceMul, Nat.reduceDiv, Int.cast_ofNat_Int, Int.reduceAdd, Int.reduceNeg, Int.reduceEq, Int.reduceLT, Int.reduceLE, Int.reduceNe, decide_true, decide_false, bne_self_eq_false, Bool.not_false, Bool.not_true]; rfl) (by simp only [go_sem, reduceIte, Nat.reduceEqDiff, Nat.reduceBEq, reduceCtorEq, Nat.div_one, Nat.reduceLT, Nat.reduceLeDiff, Nat.reduceAdd, Nat.reduceSub, Nat.reduceMul, Nat.reduceDiv, Int.cast_ofNat_Int, Int.reduceAdd, Int.reduceNeg, Int.reduceEq, Int.reduceLT, Int.reduceLE, Int.reduceNe, decide_true, decide_false, bne_self_eq_false, Bool.not_false, Bool.not_true]; rfl) ?_
    refine (runite_ok L B (J.lB.trans hL.symm) J.W (by omega) xa xb xl).mono ?_
    rintro _ _ ⟨rfl, rfl⟩
    unfold refObj
    refine ⟨Nat.le_of_ble_eq_true rfl, (fun hh => by cases hh), ?_⟩
    simp only [go_sem, reduceIte, Nat.reduceEqDiff, Nat.reduceBEq, reduceCtorEq, Nat.div_one, Nat.reduceLT, Nat.reduceLeDiff, Nat.reduceAdd, Nat.reduceSub, Nat.reduceMul, Nat.reduceDiv, Int.cast_ofNat_Int, Int.reduceAdd, Int.reduceNeg, Int.reduceEq, Int.reduceLT, Int.reduceLE, Int.reduceNe, decide_true, decide_false, bne_self_eq_false, Bool.not_false, Bool.not_true, callOut, AState.after]
    have hL1 := J1.lL
    have c1 := cnt_le (uni (L, B) xa xb xl).1
    refine call_view rfl (by simp only [go_sem, reduceIte, Nat.reduceEqDiff, Nat.reduceBEq, reduceCtorEq, Nat.div_one, Nat.reduceLT, Nat.reduceLeDiff, Nat.reduceAdd, Nat.reduceSub, Nat.reduceMul, Nat.reduceDiv, Int.cast_ofNat_Int, Int.reduceAdd, Int.reduceNeg, Int.reduceEq, Int.reduceLT, Int.reduceLE, Int.reduceNe, decide_true, decide_false, bne_self_eq_false, Bool.not_false, Bool.not_true]; rfl) ?_
    refine (len_ok _ _ _).mono ?_
    rintro rr hh ⟨rfl, rfl⟩
    refine ⟨rfl, rfl, rfl, ?_⟩
    simp only [go_sem, reduceIte, Nat.reduceEqDiff, Nat.reduceBEq, reduceCtorEq, Nat.div_one, Nat.reduceLT, Nat.reduceLeDiff, Nat.reduceAdd, Nat.reduceSub, Nat.reduceMul, Nat.reduceDiv, Int.cast_ofNat_Int, Int.reduceAdd, Int.reduceNeg, Int.reduceEq, Int.reduceLT, Int.reduceLE, Int.reduceNe, decide_true, decide_false, bne_self_eq_false, Bool.not_false, Bool.not_true]
    refine call_view rfl (by simp only [go_sem, reduceIte, Nat.reduceEqDiff, Nat.reduceBEq, reduceCtorEq, Nat.div_one, Nat.reduceLT, Nat.reduceLeDiff, Nat.reduceAdd, Nat.reduceSub, Nat.reduceMul, Nat.reduceDiv, Int.cast_ofNat_Int, Int.reduceAdd, Int.reduceNeg, Int.reduceEq, Int.reduceLT, Int.reduceLE, Int.reduceNe, decide_true, decide_false, bne_self_eq_false, Bool.not_false, Bool.not_true]; rfl) ?_
    refine (rsets_ok (uni (L, B) xa xb xl).1 _ J1.W (by omega)).mono ?_
    rintro rr hh ⟨rfl, rfl⟩
    refine ⟨by first | rfl | simp only [go_sem, reduceIte, Nat.reduceEqDiff, Nat.reduceBEq, reduceCtorEq, Nat.div_one, Nat.reduceLT, Nat.reduceLeDiff, Nat.reduceAdd, Nat.reduceSub, Nat.reduceMul, Nat.reduceDiv, Int.cast_ofNat_Int, Int.reduceAdd, Int.reduceNeg, Int.reduceEq, Int.reduceLT, Int.reduceLE, Int.reduceNe, decide_true, decide_false, bne_self_eq_false, Bool.not_false, Bool.not_true], by first | rfl | simp only [go_sem, reduceIte, Nat.reduceEqDiff, Nat.reduceBEq, reduceCtorEq, Nat.div_one, Nat.reduceLT, Nat.reduceLeDiff, Nat.reduceAdd, Nat.reduceSub, Nat.reduceMul, Nat.reduceDiv, Int.cast_ofNat_Int, Int.reduceAdd, Int.reduceNeg, Int.reduceEq, Int.reduceLT, Int.reduceLE, Int.reduceNe, decide_true, decide_false, bne_self_eq_false, Bool.not_false, Bool.not_true], by first | rfl | simp only [go_sem, reduceIte, Nat.reduceEqDiff, Nat.reduceBEq, reduceCtorEq, Nat.div_one, Nat.reduceLT, Nat.reduceLeDiff, Nat.reduceAdd, Nat.reduceSub, Nat.reduceMul, Nat.reduceDiv, Int.cast_ofNat_Int, Int.reduceAdd, Int.reduceNeg, Int.reduceEq, Int.reduceLT, Int.reduceLE, Int.reduceNe, decide_true, decide_false, bne_self_eq_false, Bool.not_false, Bool.not_true], ?_⟩
    simp only [go_sem, reduceIte, Nat.reduceEqDiff, Nat.reduceBEq, reduceCtorEq, Nat.div_one, Nat.reduceLT, Nat.reduceLeDiff, Nat.reduceAdd, Nat.reduceSub, Nat.reduceMul, Nat.reduceDiv, Int.cast_ofNat_Int, Int.reduceAdd, Int.reduceNeg, Int.reduceEq, Int.reduceLT, Int.reduceLE, Int.reduceNe, decide_true, decide_false, bne_self_eq_false, Bool.not_false, Bool.not_true, sets_len, nen]
    refine hKY _ (hn9 _ ?_)
    simp only [go_sem, reduceIte, Nat.reduceEqDiff, Nat.reduceBEq, reduceCtorEq, Nat.div_one, Nat.reduceLT, Nat.reduceLeDiff, Nat.reduceAdd, Nat.reduceSub, Nat.reduceMul, Nat.reduceDiv, Int.cast_ofNat_Int, Int.reduceAdd, Int.reduceNeg, Int.reduceEq, Int.reduceLT, Int.reduceLE, Int.reduceNe, decide_true, decide_false, bne_self_eq_false, Bool.not_false, Bool.not_true]
    refine wlk_cond0 rfl (wlk_skip (hn8 _ (hn7 _ ?_)))
    refine wlk_reg fun KY hKY => ?_
    simp only [go_sem, reduceIte, Nat.reduceEqDiff, Nat.reduceBEq, reduceCtorEq, Nat.div_one, Nat.reduceLT, Nat.reduceLeDiff, Nat.reduceAdd, Nat.reduceSub, Nat.reduceMul, Nat.reduceDiv, Int.cast_ofNat_Int, Int.reduceAdd, Int.reduceNeg, Int.reduceEq, Int.reduceLT, Int.reduceLE, Int.reduceNe, decide_true, decide_false, bne_self_eq_false, Bool.not_false, Bool.not_true, c_garlandlaw06_JoinPlays_r10, inc i (by omega)]
    refine hKY _ (hn4 (l.length - (i + 1)) _ (by omega) ?_)
    simp only [go_sem, reduceIte, Nat.reduceEqDiff, Nat.reduceBEq, reduceCtorEq, Nat.div_one, Nat.reduceLT, Nat.reduceLeDiff, Nat.reduceAdd, Nat.reduceSub, Nat.reduceMul, Nat.reduceDiv, Int.cast_ofNat_Int, Int.reduceAdd, Int.reduceNeg, Int.reduceEq, Int.reduceLT, Int.reduceLE, Int.reduceNe, decide_true, decide_false, bne_self_eq_false, Bool.not_false, Bool.not_true]
    exact ⟨i + 1, up1, _, _, of1, r1, d1, _, _, _, by omega, rfl, J1, rfl⟩
  · have fin : X2 .normal { vs := [(0, .sc (.int .i64 (m' : Int))), (1, .imm 3 (tris l)), (2, .sc (.int .i64 a)), (3, .sc (.int .i64 b)), (8, .sc (.bool false)), (9, .ptr 0 0), (10, .ptr 1 0), (11, .sc (.int .i64 (i : Int))), (12, .dead), (13, .dead), (27, .sc (.bool false)), (35, .sc (.bool false)), (66, .dead), (69, .dead), (87, .dead)], ts := [], h := [some [.own (some 1) (nats up), .own (some 3) (tris of), .sc (.int .i64 (cnt L))], some [.own (some 1) (nats L), .own (some 1) (nats B)]] } := by
      refine hn2 _ ?_
      refine wlk_seq fun Y1 gn1 ge1 gr1 => ?_
      refine wlk_seq fun Y2 gn2 ge2 gr2 => ?_
      refine wlk_reg fun KY hKY => ?_
      simp only [go_sem, reduceIte, Nat.reduceEqDiff, Nat.reduceBEq, reduceCtorEq, Nat.div_one, Nat.reduceLT, Nat.reduceLeDiff, Nat.reduceAdd, Nat.reduceSub, Nat.reduceMul, Nat.reduceDiv, Int.cast_ofNat_Int, Int.reduceAdd, Int.reduceNeg, Int.reduceEq, Int.reduceLT, Int.reduceLE, Int.reduceNe, decide_true, decide_false, bne_self_eq_false, Bool.not_false, Bool.not_true, c_garlandlaw06_JoinPlays_r11]
      refine hKY _ (gn2 _ ?_)
      refine wlk_blk fun Y3 gn3 ge3 gf3 gr3 => ?_
      refine wlk_loop (fun q s => ∃ (k : Nat) (up : List Nat) (A69 A87 : AVal), k ≤ m' + 2 ∧ q = m' + 2 - k ∧ JR up of m' L B r d ∧ s = { vs := [(0, .sc (.int .i64 (m' : Int))), (1, .imm 3 (tris l)), (2, .sc (.int .i64 a)), (3, .sc (.int .i64 b)), (8, .sc (.bool false)), (9, .ptr 0 0), (10, .ptr 1 0), (11, .sc (.int .i64 (i : Int))), (12, .dead), (13, .sc (.int .i64 ((k : Int) + -1))), (27, .sc (.bool false)), (35, .sc (.bool false)), (66, .dead), (69, A69), (87, A87)], ts := [], h := [some [.own (some 1) (nats up), .own (some 3) (tris of), .sc (.int .i64 (cnt L))], some [.own (some 1) (nats L), .own (some 1) (nats B)]] }) (m' + 2) ⟨0, up, .dead, .dead, by omega, rfl, J, ?_⟩ ?_
      · simp only [go_sem, reduceIte, Nat.reduceEqDiff, Nat.reduceBEq, reduceCtorEq, Nat.div_one, Nat.reduceLT, Nat.reduceLeDiff, Nat.reduceAdd, Nat.reduceSub, Nat.reduceMul, Nat.reduceDiv, Int.cast_ofNat_Int, Int.reduceAdd, Int.reduceNeg, Int.reduceEq, Int.reduceLT, Int.reduceLE, Int.reduceNe, decide_true, decide_false, bne_self_eq_false, Bool.not_false, Bool.not_true]
      rintro q _ ⟨k, up, A69, A87, hk, rfl, J, rfl⟩ Y4 gn4 ge4 gr4
      refine sem_forget [69, 87] rfl ?_
      simp only [go_sem, reduceIte, Nat.reduceEqDiff, Nat.reduceBEq, reduceCtorEq, Nat.div_one, Nat.reduceLT, Nat.reduceLeDiff, Nat.reduceAdd, Nat.reduceSub, Nat.reduceMul, Nat.reduceDiv, Int.cast_ofNat_Int, Int.reduceAdd, Int.reduceNeg, Int.reduceEq, Int.reduceLT, Int.reduceLE, Int.reduceNe, decide_true, decide_false, bne_self_eq_false, Bool.not_false, Bool.not_true]
      refine wlk_seq fun Y5 gn5 ge5 gr5 => ?_
      refine wlk_seq fun Y6 gn6 ge6 gr6 => ?_
      refine wlk_reg fun KY hKY => ?_
      simp only [go_sem, reduceIte, Nat.reduceEqDiff, Nat.reduceBEq, reduceCtorEq, Nat.div_one, Nat.reduceLT, Nat.reduceLeDiff, Nat.reduceAdd, Nat.reduceSub, Nat.reduceMul, Nat.reduceDiv, Int.cast_ofNat_Int, Int.reduceAdd, Int.reduceNeg, Int.reduceEq, Int.reduceLT, Int.reduceLE, Int.reduceNe, decide_true, decide_false, bne_self_eq_false, Bool.not_false, Bool.not_true, c_garlandlaw06_JoinPlays_r12]
      refine hKY _ (gn6 _ ?_)
      simp only [go_sem, reduceIte, Nat.reduceEqDiff, Nat.reduceBEq, reduceCtorEq, Nat.div_one, Nat.reduceLT, Nat.reduceLeDiff, Nat.reduceAdd, Nat.reduceSub, Nat.reduceMul, Nat.reduceDiv, Int.cast_ofNat_Int, Int.reduceAdd, Int.reduceNeg, Int.reduceEq, Int.reduceLT, Int.reduceLE, Int.reduceNe, decide_true, decide_false, bne_self_eq_false, Bool.not_false, Bool.not_true]
      refine wlk_cond (v := decide ((k : Int) + -1 ≤ (m' : Int))) rfl (fun h => wlk_skip (gn5 _ ?_)) fun h => wlk_exit (ge5 _ _ (ge4 _ _ (ge3 _ (gn1 _ ?_))))
      · have h := of_decide_eq_true h
        refine wlk_seq fun Y7 gn7 ge7 gr7 => ?_
        refine wlk_blk fun Y8 gn8 ge8 gf8 gr8 => ?_
        refine wlk_seq fun Y9 gn9 ge9 gr9 => ?_
        refine wlk_reg fun KY hKY => ?_
        simp only [go_sem, reduceIte, Nat.reduceEqDiff, Nat.reduceBEq, reduceCtorEq, Nat.div_one, Nat.reduceLT, Nat.reduceLeDiff, Nat.reduceAdd, Nat.reduceSub, Nat.reduceMul, Nat.reduceDiv, Int.cast_ofNat_Int, Int.reduceAdd, Int.reduceNeg, Int.reduceEq, Int.reduceLT, Int.reduceLE, Int.reduceNe, decide_true, decide_false, bne_self_eq_false, Bool.not_false, Bool.not_true, c_garlandlaw06_JoinPlays_r13]
        refine call_gen [] [0] false none rfl (by simp only [go_sem, reduceIte, Nat.reduceEqDiff, Nat.reduceBEq, reduceCtorEq, Nat.div_one, Nat.reduceLT, Nat.reduceLeDiff, Nat.reduceAdd, Nat.reduceSub, Nat.reduceMul, Nat.reduceDiv, Int.cast_ofNat_Int, Int.reduceAdd, Int.reduceNeg, Int.reduceEq, Int.reduceLT, Int.reduceLE, Int.reduceNe, decide_true, decide_false, bne_self_eq_false, Bool.not_false, Bool.not_true]; rfl) (by simp only [go_sem, reduceIte, Nat.reduceEqDiff, Nat.reduceBEq, reduceCtorEq, Nat.div_one, Nat.reduceLT, Nat.reduceLeDiff, Nat.reduceAdd, Nat.reduceSub, Nat.reduceMul, Nat.reduceDiv, Int.cast_ofNat_Int, Int.reduceAdd, Int.reduceNeg, Int.reduceEq, Int.reduceLT, Int.reduceLE, Int.reduceNe, decide_true, decide_false, bne_self_eq_false, Bool.not_false, Bool.not_true]; rfl) rfl rfl rfl (by simp only [go_sem, reduceIte, Nat.reduceEqDiff, Nat.reduceBEq, reduceCtorEq, Nat.div_one, Nat.reduceLT, Nat.reduceLeDiff, Nat.reduceAdd, Nat.reduceSub, Nat.reduceMul, Nat.reduceDiv, Int.cast_ofNat_Int, Int.reduceAdd, Int.reduceNeg, Int.reduceEq, Int.reduceLT, Int.reduceLE, Int.reduceNe, decide_true, decide_false, bne_self_eq_false, Bool.not_false, Bool.not_true, watchIn]; rfl) (by simp only [go_sem, reduceIte, Nat.reduceEqDiff, Nat.reduceBEq, reduceCtorEq, Nat.div_one, Nat.reduceLT, Nat.reduceLeDiff, Nat.reduceAdd, Nat.reduceSub, Nat.reduceMul, Nat.reduceDiv, Int.cast_ofNat_Int, Int.reduceAdd, Int.reduceNeg, Int.reduceEq, Int.reduceLT, Int.reduceLE, Int.reduceNe, decide_true, decide_false, bne_self_eq_false, Bool.not_false, Bool.not_true]; rfl) (by simp only [go_sem, reduceIte, Nat.reduceEqDiff, Nat.reduceBEq, reduceCtorEq, Nat.div_one, Nat.reduceLT, Nat.reduceLeDiff, Nat.reduceAdd, Nat.reduceSub, Nat.reduceMul, Nat.reduceDiv, Int.cast_ofNat_Int, Int.reduceAdd, Int.reduceNeg, Int.reduceEq, Int.reduceLT, Int.reduceLE, Int.reduceNe, decide_true, decide_false, bne_self_eq_false, Bool.not_false, Bool.not_true]; rfl) ?_
        refine (find_ok up of (cnt L) m' L B r d J ((k : Int) + -1)).mono ?_
        rintro _ _ ⟨rfl, up1, J1, rfl⟩
        unfold joinObj
        refine ⟨Nat.le_of_ble_eq_true rfl, (fun hh => by cases hh), ?_⟩
        simp only [go_sem, reduceIte, Nat.reduceEqDiff, Nat.reduceBEq, reduceCtorEq, Nat.div_one, Nat.reduceLT, Nat.reduceLeDiff, Nat.reduceAdd, Nat.reduceSub, Nat.reduceMul, Nat.reduceDiv, Int.cast_ofNat_Int, Int.reduceAdd, Int.reduceNeg, Int.reduceEq, Int.reduceLT, Int.reduceLE, Int.reduceNe, decide_true, decide_false, bne_self_eq_false, Bool.not_false, Bool.not_true, callOut, AState.after]
        refine call_view rfl (by simp only [go_sem, reduceIte, Nat.reduceEqDiff, Nat.reduceBEq, reduceCtorEq, Nat.div_one, Nat.reduceLT, Nat.reduceLeDiff, Nat.reduceAdd, Nat.reduceSub, Nat.reduceMul, Nat.reduceDiv, Int.cast_ofNat_Int, Int.reduceAdd, Int.reduceNeg, Int.reduceEq, Int.reduceLT, Int.reduceLE, Int.reduceNe, decide_true, decide_false, bne_self_eq_false, Bool.not_false, Bool.not_true]; rfl) ?_
        refine (rfind_ok L B ((k : Int) + -1)).mono ?_
        rintro rr hh ⟨rfl, rfl⟩
        refine ⟨rfl, rfl, rfl, ?_⟩
        simp only [go_sem, reduceIte, Nat.reduceEqDiff, Nat.reduceBEq, reduceCtorEq, Nat.div_one, Nat.reduceLT, Nat.reduceLeDiff, Nat.reduceAdd, Nat.reduceSub, Nat.reduceMul, Nat.reduceDiv, Int.cast_ofNat_Int, Int.reduceAdd, Int.reduceNeg, Int.reduceEq, Int.reduceLT, Int.reduceLE, Int.reduceNe, decide_true, decide_false, bne_self_eq_false, Bool.not_false, Bool.not_true, nen, eqn]
        refine call_gen [] [0] false none rfl (by simp only [go_sem, reduceIte, Nat.reduceEqDiff, Nat.reduceBEq, reduceCtorEq, Nat.div_one, Nat.reduceLT, Nat.reduceLeDiff, Nat.reduceAdd, Nat.reduceSub, Nat.reduceMul, Nat.reduceDiv, Int.cast_ofNat_Int, Int.reduceAdd, Int.reduceNeg, Int.reduceEq, Int.reduceLT, Int.reduceLE, Int.reduceNe, decide_true, decide_false, bne_self_eq_false, Bool.not_false, Bool.not_true]; rfl) (by simp only [go_sem, reduceIte, Nat.reduceEqDiff, Nat.reduceBEq, reduceCtorEq, Nat.div_one, Nat.reduceLT, Nat.reduceLeDiff, Nat.reduceAdd, Nat.reduceSub, Nat.reduceMul, Nat.reduceDiv, Int.cast_ofNat_Int, Int.reduceAdd, Int.reduceNeg, Int.reduceEq, Int.reduceLT, Int.reduceLE, Int.reduceNe, decide_true, decide_false, bne_self_eq_false, Bool.not_false, Bool.not_true]; rfl) rfl rfl rfl (by simp only [go_sem, reduceIte, Nat.reduceEqDiff, Nat.reduceBEq, reduceCtorEq, Nat.div_one, Nat.reduceLT, Nat.reduceLeDiff, Nat.reduceAdd, Nat.reduceSub, Nat.reduceMul, Nat.reduceDiv, Int.cast_ofNat_Int, Int.reduceAdd, Int.reduceNeg, Int.reduceEq, Int.reduceLT, Int.reduceLE, Int.reduceNe, decide_true, decide_false, bne_self_eq_false, Bool.not_false, Bool.not_true, watchIn]; rfl) (by simp only [go_sem, reduceIte, Nat.reduceEqDiff, Nat.reduceBEq, reduceCtorEq, Nat.div_one, Nat.reduceLT, Nat.reduceLeDiff, Nat.reduceAdd, Nat.reduceSub, Nat.reduceMul, Nat.reduceDiv, Int.cast_ofNat_Int, Int.reduceAdd, Int.reduceNeg, Int.reduceEq, Int.reduceLT, Int.reduceLE, Int.reduceNe, decide_true, decide_false, bne_self_eq_false, Bool.not_false, Bool.not_true]; rfl) (by simp only [go_sem, reduceIte, Nat.reduceEqDiff, Nat.reduceBEq, reduceCtorEq, Nat.div_one, Nat.reduceLT, Nat.reduceLeDiff, Nat.reduceAdd, Nat.reduceSub, Nat.reduceMul, Nat.reduceDiv, Int.cast_ofNat_Int, Int.reduceAdd, Int.reduceNeg, Int.reduceEq, Int.reduceLT, Int.reduceLE, Int.reduceNe, decide_true, decide_false, bne_self_eq_false, Bool.not_false, Bool.not_true]; rfl) ?_
        refine (label_ok up1 of (cnt L) m' L B r d J1 ((k : Int) + -1)).mono ?_
        rintro _ _ ⟨rfl, up2, J2, rfl⟩
        unfold joinObj
        refine ⟨Nat.le_of_ble_eq_true rfl, (fun hh => by cases hh), ?_⟩
        simp only [go_sem, reduceIte, Nat.reduceEqDiff, Nat.reduceBEq, reduceCtorEq, Nat.div_one, Nat.reduceLT, Nat.reduceLeDiff, Nat.reduceAdd, Nat.reduceSub, Nat.reduceMul, Nat.reduceDiv, Int.cast_ofNat_Int, Int.reduceAdd, Int.reduceNeg, Int.reduceEq, Int.reduceLT, Int.reduceLE, Int.reduceNe, decide_true, decide_false, bne_self_eq_false, Bool.not_false, Bool.not_true, callOut, AState.after]
        refine call_view rfl (by simp only [go_sem, reduceIte, Nat.reduceEqDiff, Nat.reduceBEq, reduceCtorEq, Nat.div_one, Nat.reduceLT, Nat.reduceLeDiff, Nat.reduceAdd, Nat.reduceSub, Nat.reduceMul, Nat.reduceDiv, Int.cast_ofNat_Int, Int.reduceAdd, Int.reduceNeg, Int.reduceEq, Int.reduceLT, Int.reduceLE, Int.reduceNe, decide_true, decide_false, bne_self_eq_false, Bool.not_false, Bool.not_true]; rfl) ?_
        refine (rlabel_ok L B (J.lB.trans hL.symm) ((k : Int) + -1)).mono ?_
        rintro rr hh ⟨rfl, rfl⟩
        refine ⟨rfl, rfl, rfl, ?_⟩
        simp only [go_sem, reduceIte, Nat.reduceEqDiff, Nat.reduceBEq, reduceCtorEq, Nat.div_one, Nat.reduceLT, Nat.reduceLeDiff, Nat.reduceAdd, Nat.reduceSub, Nat.reduceMul, Nat.reduceDiv, Int.cast_ofNat_Int, Int.reduceAdd, Int.reduceNeg, Int.reduceEq, Int.reduceLT, Int.reduceLE, Int.reduceNe, decide_true, decide_false, bne_self_eq_false, Bool.not_false, Bool.not_true, nen]
        refine hKY _ (gn9 _ ?_)
        simp only [go_sem, reduceIte, Nat.reduceEqDiff, Nat.reduceBEq, reduceCtorEq, Nat.div_one, Nat.reduceLT, Nat.reduceLeDiff, Nat.reduceAdd, Nat.reduceSub, Nat.reduceMul, Nat.reduceDiv, Int.cast_ofNat_Int, Int.reduceAdd, Int.reduceNeg, Int.reduceEq, Int.reduceLT, Int.reduceLE, Int.reduceNe, decide_true, decide_false, bne_self_eq_false, Bool.not_false, Bool.not_true]
        refine wlk_cond0 rfl (wlk_skip (gn8 _ (gn7 _ ?_)))
        have e : IntKind.i64.wrap ((k : Int) + -1 + 1) = ((k + 1 : Nat) : Int) + -1 := by rw [IntWalk.i64_in _ (by omega)]; omega
        refine wlk_reg fun KY hKY => ?_
        simp only [go_sem, reduceIte, Nat.reduceEqDiff, Nat.reduceBEq, reduceCtorEq, Nat.div_one, Nat.reduceLT, Nat.reduceLeDiff, Nat.reduceAdd, Nat.reduceSub, Nat.reduceMul, Nat.reduceDiv, Int.cast_ofNat_Int, Int.reduceAdd, Int.reduceNeg, Int.reduceEq, Int.reduceLT, Int.reduceLE, Int.reduceNe, decide_true, decide_false, bne_self_eq_false, Bool.not_false, Bool.not_true, c_garlandlaw06_JoinPlays_r15, e]
        refine hKY _ (gn4 (m' + 2 - (k + 1)) _ (by omega) ?_)
        simp only [go_sem, reduceIte, Nat.reduceEqDiff, Nat.reduceBEq, reduceCtorEq, Nat.div_one, Nat.reduceLT, Nat.reduceLeDiff, Nat.reduceAdd, Nat.reduceSub, Nat.reduceMul, Nat.reduceDiv, Int.cast_ofNat_Int, Int.reduceAdd, Int.reduceNeg, Int.reduceEq, Int.reduceLT, Int.reduceLE, Int.reduceNe, decide_true, decide_false, bne_self_eq_false, Bool.not_false, Bool.not_true]
        exact ⟨k + 1, up2, _, _, by omega, rfl, J2, rfl⟩
      · refine wlk_seq fun Y5 gn5 ge5 gr5 => ?_
        refine wlk_reg fun KY hKY => ?_
        simp only [go_sem, reduceIte, Nat.reduceEqDiff, Nat.reduceBEq, reduceCtorEq, Nat.div_one, Nat.reduceLT, Nat.reduceLeDiff, Nat.reduceAdd, Nat.reduceSub, Nat.reduceMul, Nat.reduceDiv, Int.cast_ofNat_Int, Int.reduceAdd, Int.reduceNeg, Int.reduceEq, Int.reduceLT, Int.reduceLE, Int.reduceNe, decide_true, decide_false, bne_self_eq_false, Bool.not_false, Bool.not_true, c_garlandlaw06_JoinPlays_r16]
        refine call_gen [] [0] false none rfl (by simp only [go_sem, reduceIte, Nat.reduceEqDiff, Nat.reduceBEq, reduceCtorEq, Nat.div_one, Nat.reduceLT, Nat.reduceLeDiff, Nat.reduceAdd, Nat.reduceSub, Nat.reduceMul, Nat.reduceDiv, Int.cast_ofNat_Int, Int.reduceAdd, Int.reduceNeg, Int.reduceEq, Int.reduceLT, Int.reduceLE, Int.reduceNe, decide_true, decide_false, bne_self_eq_false, Bool.not_false, Bool.not_true]; rfl) (by simp only [go_sem, reduceIte, Nat.reduceEqDiff, Nat.reduceBEq, reduceCtorEq, Nat.div_one, Nat.reduceLT, Nat.reduceLeDiff, Nat.reduceAdd, Nat.reduceSub, Nat.reduceMul, Nat.reduceDiv, Int.cast_ofNat_Int, Int.reduceAdd, Int.reduceNeg, Int.reduceEq, Int.reduceLT, Int.reduceLE, Int.reduceNe, decide_true, decide_false, bne_self_eq_false, Bool.not_false, Bool.not_true]; rfl) rfl rfl rfl (by simp only [go_sem, reduceIte, Nat.reduceEqDiff, Nat.reduceBEq, reduceCtorEq, Nat.div_one, Nat.reduceLT, Nat.reduceLeDiff, Nat.reduceAdd, Nat.reduceSub, Nat.reduceMul, Nat.reduceDiv, Int.cast_ofNat_Int, Int.reduceAdd, Int.reduceNeg, Int.reduceEq, Int.reduceLT, Int.reduceLE, Int.reduceNe, decide_true, decide_false, bne_self_eq_false, Bool.not_false, Bool.not_true, watchIn]; rfl) (by simp only [go_sem, reduceIte, Nat.reduceEqDiff, Nat.reduceBEq, reduceCtorEq, Nat.div_one, Nat.reduceLT, Nat.reduceLeDiff, Nat.reduceAdd, Nat.reduceSub, Nat.reduceMul, Nat.reduceDiv, Int.cast_ofNat_Int, Int.reduceAdd, Int.reduceNeg, Int.reduceEq, Int.reduceLT, Int.reduceLE, Int.reduceNe, decide_true, decide_false, bne_self_eq_false, Bool.not_false, Bool.not_true]; rfl) (by simp only [go_sem, reduceIte, Nat.reduceEqDiff, Nat.reduceBEq, reduceCtorEq, Nat.div_one, Nat.reduceLT, Nat.reduceLeDiff, Nat.reduceAdd, Nat.reduceSub, Nat.reduceMul, Nat.reduceDiv, Int.cast_ofNat_Int, Int.reduceAdd, Int.reduceNeg, Int.reduceEq, Int.reduceLT, Int.reduceLE, Int.reduceNe, decide_true, decide_false, bne_self_eq_false, Bool.not_false, Bool.not_true]; rfl) ?_
        refine (sets_ok up of (cnt L) m' L B r d J (by omega)).mono ?_
        rintro _ _ ⟨rfl, up1, J1, rfl⟩
        unfold joinObj
        refine ⟨Nat.le_of_ble_eq_true rfl, (fun hh => by cases hh), ?_⟩
        simp only [go_sem, reduceIte, Nat.reduceEqDiff, Nat.reduceBEq, reduceCtorEq, Nat.div_one, Nat.reduceLT, Nat.reduceLeDiff, Nat.reduceAdd, Nat.reduceSub, Nat.reduceMul, Nat.reduceDiv, Int.cast_ofNat_Int, Int.reduceAdd, Int.reduceNeg, Int.reduceEq, Int.reduceLT, Int.reduceLE, Int.reduceNe, decide_true, decide_false, bne_self_eq_false, Bool.not_false, Bool.not_true, callOut, AState.after]
        refine call_view rfl (by simp only [go_sem, reduceIte, Nat.reduceEqDiff, Nat.reduceBEq, reduceCtorEq, Nat.div_one, Nat.reduceLT, Nat.reduceLeDiff, Nat.reduceAdd, Nat.reduceSub, Nat.reduceMul, Nat.reduceDiv, Int.cast_ofNat_Int, Int.reduceAdd, Int.reduceNeg, Int.reduceEq, Int.reduceLT, Int.reduceLE, Int.reduceNe, decide_true, decide_false, bne_self_eq_false, Bool.not_false, Bool.not_true]; rfl) ?_
        refine (rsets_ok L _ J.W (by omega)).mono ?_
        rintro rr hh ⟨rfl, rfl⟩
        refine ⟨by first | rfl | simp only [go_sem, reduceIte, Nat.reduceEqDiff, Nat.reduceBEq, reduceCtorEq, Nat.div_one, Nat.reduceLT, Nat.reduceLeDiff, Nat.reduceAdd, Nat.reduceSub, Nat.reduceMul, Nat.reduceDiv, Int.cast_ofNat_Int, Int.reduceAdd, Int.reduceNeg, Int.reduceEq, Int.reduceLT, Int.reduceLE, Int.reduceNe, decide_true, decide_false, bne_self_eq_false, Bool.not_false, Bool.not_true], by first | rfl | simp only [go_sem, reduceIte, Nat.reduceEqDiff, Nat.reduceBEq, reduceCtorEq, Nat.div_one, Nat.reduceLT, Nat.reduceLeDiff, Nat.reduceAdd, Nat.reduceSub, Nat.reduceMul, Nat.reduceDiv, Int.cast_ofNat_Int, Int.reduceAdd, Int.reduceNeg, Int.reduceEq, Int.reduceLT, Int.reduceLE, Int.reduceNe, decide_true, decide_false, bne_self_eq_false, Bool.not_false, Bool.not_true], by first | rfl | simp only [go_sem, reduceIte, Nat.reduceEqDiff, Nat.reduceBEq, reduceCtorEq, Nat.div_one, Nat.reduceLT, Nat.reduceLeDiff, Nat.reduceAdd, Nat.reduceSub, Nat.reduceMul, Nat.reduceDiv, Int.cast_ofNat_Int, Int.reduceAdd, Int.reduceNeg, Int.reduceEq, Int.reduceLT, Int.reduceLE, Int.reduceNe, decide_true, decide_false, bne_self_eq_false, Bool.not_false, Bool.not_true], ?_⟩
        simp only [go_sem, reduceIte, Nat.reduceEqDiff, Nat.reduceBEq, reduceCtorEq, Nat.div_one, Nat.reduceLT, Nat.reduceLeDiff, Nat.reduceAdd, Nat.reduceSub, Nat.reduceMul, Nat.reduceDiv, Int.cast_ofNat_Int, Int.reduceAdd, Int.reduceNeg, Int.reduceEq, Int.reduceLT, Int.reduceLE, Int.reduceNe, decide_true, decide_false, bne_self_eq_false, Bool.not_false, Bool.not_true]
        refine call_view rfl (by simp only [go_sem, reduceIte, Nat.reduceEqDiff, Nat.reduceBEq, reduceCtorEq, Nat.div_one, Nat.reduceLT, Nat.reduceLeDiff, Nat.reduceAdd, Nat.reduceSub, Nat.reduceMul, Nat.reduceDiv, Int.cast_ofNat_Int, Int.reduceAdd, Int.reduceNeg, Int.reduceEq, Int.reduceLT, Int.reduceLE, Int.reduceNe, decide_true, decide_false, bne_self_eq_false, Bool.not_false, Bool.not_true]; rfl) ?_
        refine (lists_ok (sets L) (sets L) (by rw [sets_len]; omega) (fun x hx => by have := sets_row hx; omega)).mono ?_
        rintro rr hh ⟨rfl, rfl⟩
        refine ⟨rfl, rfl, rfl, ?_⟩
        simp only [go_sem, reduceIte, Nat.reduceEqDiff, Nat.reduceBEq, reduceCtorEq, Nat.div_one, Nat.reduceLT, Nat.reduceLeDiff, Nat.reduceAdd, Nat.reduceSub, Nat.reduceMul, Nat.reduceDiv, Int.cast_ofNat_Int, Int.reduceAdd, Int.reduceNeg, Int.reduceEq, Int.reduceLT, Int.reduceLE, Int.reduceNe, decide_true, decide_false, bne_self_eq_false, Bool.not_false, Bool.not_true, nen, eqn]
        refine call_gen [] [0] false none rfl (by simp only [go_sem, reduceIte, Nat.reduceEqDiff, Nat.reduceBEq, reduceCtorEq, Nat.div_one, Nat.reduceLT, Nat.reduceLeDiff, Nat.reduceAdd, Nat.reduceSub, Nat.reduceMul, Nat.reduceDiv, Int.cast_ofNat_Int, Int.reduceAdd, Int.reduceNeg, Int.reduceEq, Int.reduceLT, Int.reduceLE, Int.reduceNe, decide_true, decide_false, bne_self_eq_false, Bool.not_false, Bool.not_true]; rfl) (by simp only [go_sem, reduceIte, Nat.reduceEqDiff, Nat.reduceBEq, reduceCtorEq, Nat.div_one, Nat.reduceLT, Nat.reduceLeDiff, Nat.reduceAdd, Nat.reduceSub, Nat.reduceMul, Nat.reduceDiv, Int.cast_ofNat_Int, Int.reduceAdd, Int.reduceNeg, Int.reduceEq, Int.reduceLT, Int.reduceLE, Int.reduceNe, decide_true, decide_false, bne_self_eq_false, Bool.not_false, Bool.not_true]; rfl) rfl rfl rfl (by simp only [go_sem, reduceIte, Nat.reduceEqDiff, Nat.reduceBEq, reduceCtorEq, Nat.div_one, Nat.reduceLT, Nat.reduceLeDiff, Nat.reduceAdd, Nat.reduceSub, Nat.reduceMul, Nat.reduceDiv, Int.cast_ofNat_Int, Int.reduceAdd, Int.reduceNeg, Int.reduceEq, Int.reduceLT, Int.reduceLE, Int.reduceNe, decide_true, decide_false, bne_self_eq_false, Bool.not_false, Bool.not_true, watchIn]; rfl) (by simp only [go_sem, reduceIte, Nat.reduceEqDiff, Nat.reduceBEq, reduceCtorEq, Nat.div_one, Nat.reduceLT, Nat.reduceLeDiff, Nat.reduceAdd, Nat.reduceSub, Nat.reduceMul, Nat.reduceDiv, Int.cast_ofNat_Int, Int.reduceAdd, Int.reduceNeg, Int.reduceEq, Int.reduceLT, Int.reduceLE, Int.reduceNe, decide_true, decide_false, bne_self_eq_false, Bool.not_false, Bool.not_true]; rfl) (by simp only [go_sem, reduceIte, Nat.reduceEqDiff, Nat.reduceBEq, reduceCtorEq, Nat.div_one, Nat.reduceLT, Nat.reduceLeDiff, Nat.reduceAdd, Nat.reduceSub, Nat.reduceMul, Nat.reduceDiv, Int.cast_ofNat_Int, Int.reduceAdd, Int.reduceNeg, Int.reduceEq, Int.reduceLT, Int.reduceLE, Int.reduceNe, decide_true, decide_false, bne_self_eq_false, Bool.not_false, Bool.not_true]; rfl) ?_
        refine (same_ok up1 of (cnt L) m' L B r d J1 a b).mono ?_
        rintro _ _ ⟨rfl, up2, J2, rfl⟩
        unfold joinObj
        refine ⟨Nat.le_of_ble_eq_true rfl, (fun hh => by cases hh), ?_⟩
        simp only [go_sem, reduceIte, Nat.reduceEqDiff, Nat.reduceBEq, reduceCtorEq, Nat.div_one, Nat.reduceLT, Nat.reduceLeDiff, Nat.reduceAdd, Nat.reduceSub, Nat.reduceMul, Nat.reduceDiv, Int.cast_ofNat_Int, Int.reduceAdd, Int.reduceNeg, Int.reduceEq, Int.reduceLT, Int.reduceLE, Int.reduceNe, decide_true, decide_false, bne_self_eq_false, Bool.not_false, Bool.not_true, callOut, AState.after]
        refine call_view rfl (by simp only [go_sem, reduceIte, Nat.reduceEqDiff, Nat.reduceBEq, reduceCtorEq, Nat.div_one, Nat.reduceLT, Nat.reduceLeDiff, Nat.reduceAdd, Nat.reduceSub, Nat.reduceMul, Nat.reduceDiv, Int.cast_ofNat_Int, Int.reduceAdd, Int.reduceNeg, Int.reduceEq, Int.reduceLT, Int.reduceLE, Int.reduceNe, decide_true, decide_false, bne_self_eq_false, Bool.not_false, Bool.not_true]; rfl) ?_
        refine (rsame_ok L B a b).mono ?_
        rintro rr hh ⟨rfl, rfl⟩
        refine ⟨rfl, rfl, rfl, ?_⟩
        simp only [go_sem, reduceIte, Nat.reduceEqDiff, Nat.reduceBEq, reduceCtorEq, Nat.div_one, Nat.reduceLT, Nat.reduceLeDiff, Nat.reduceAdd, Nat.reduceSub, Nat.reduceMul, Nat.reduceDiv, Int.cast_ofNat_Int, Int.reduceAdd, Int.reduceNeg, Int.reduceEq, Int.reduceLT, Int.reduceLE, Int.reduceNe, decide_true, decide_false, bne_self_eq_false, Bool.not_false, Bool.not_true, hL, nen, eqn]
        refine call_gen [] [0] false none rfl (by simp only [go_sem, reduceIte, Nat.reduceEqDiff, Nat.reduceBEq, reduceCtorEq, Nat.div_one, Nat.reduceLT, Nat.reduceLeDiff, Nat.reduceAdd, Nat.reduceSub, Nat.reduceMul, Nat.reduceDiv, Int.cast_ofNat_Int, Int.reduceAdd, Int.reduceNeg, Int.reduceEq, Int.reduceLT, Int.reduceLE, Int.reduceNe, decide_true, decide_false, bne_self_eq_false, Bool.not_false, Bool.not_true]; rfl) (by simp only [go_sem, reduceIte, Nat.reduceEqDiff, Nat.reduceBEq, reduceCtorEq, Nat.div_one, Nat.reduceLT, Nat.reduceLeDiff, Nat.reduceAdd, Nat.reduceSub, Nat.reduceMul, Nat.reduceDiv, Int.cast_ofNat_Int, Int.reduceAdd, Int.reduceNeg, Int.reduceEq, Int.reduceLT, Int.reduceLE, Int.reduceNe, decide_true, decide_false, bne_self_eq_false, Bool.not_false, Bool.not_true]; rfl) rfl rfl rfl (by simp only [go_sem, reduceIte, Nat.reduceEqDiff, Nat.reduceBEq, reduceCtorEq, Nat.div_one, Nat.reduceLT, Nat.reduceLeDiff, Nat.reduceAdd, Nat.reduceSub, Nat.reduceMul, Nat.reduceDiv, Int.cast_ofNat_Int, Int.reduceAdd, Int.reduceNeg, Int.reduceEq, Int.reduceLT, Int.reduceLE, Int.reduceNe, decide_true, decide_false, bne_self_eq_false, Bool.not_false, Bool.not_true, watchIn]; rfl) (by simp only [go_sem, reduceIte, Nat.reduceEqDiff, Nat.reduceBEq, reduceCtorEq, Nat.div_one, Nat.reduceLT, Nat.reduceLeDiff, Nat.reduceAdd, Nat.reduceSub, Nat.reduceMul, Nat.reduceDiv, Int.cast_ofNat_Int, Int.reduceAdd, Int.reduceNeg, Int.reduceEq, Int.reduceLT, Int.reduceLE, Int.reduceNe, decide_true, decide_false, bne_self_eq_false, Bool.not_false, Bool.not_true]; rfl) (by simp only [go_sem, reduceIte, Nat.reduceEqDiff, Nat.reduceBEq, reduceCtorEq, Nat.div_one, Nat.reduceLT, Nat.reduceLeDiff, Nat.reduceAdd, Nat.reduceSub, Nat.reduceMul, Nat.reduceDiv, Int.cast_ofNat_Int, Int.reduceAdd, Int.reduceNeg, Int.reduceEq, Int.reduceLT, Int.reduceLE, Int.reduceNe, decide_true, decide_false, bne_self_eq_false, Bool.not_false, Bool.not_true]; rfl) ?_
        refine (find_ok up2 of (cnt L) m' L B r d J2 a).mono ?_
        rintro _ _ ⟨rfl, up3, J3, rfl⟩
        unfold joinObj
        refine ⟨Nat.le_of_ble_eq_true rfl, (fun hh => by cases hh), ?_⟩
        simp only [go_sem, reduceIte, Nat.reduceEqDiff, Nat.reduceBEq, reduceCtorEq, Nat.div_one, Nat.reduceLT, Nat.reduceLeDiff, Nat.reduceAdd, Nat.reduceSub, Nat.reduceMul, Nat.reduceDiv, Int.cast_ofNat_Int, Int.reduceAdd, Int.reduceNeg, Int.reduceEq, Int.reduceLT, Int.reduceLE, Int.reduceNe, decide_true, decide_false, bne_self_eq_false, Bool.not_false, Bool.not_true, callOut, AState.after]
        refine call_view rfl (by simp only [go_sem, reduceIte, Nat.reduceEqDiff, Nat.reduceBEq, reduceCtorEq, Nat.div_one, Nat.reduceLT, Nat.reduceLeDiff, Nat.reduceAdd, Nat.reduceSub, Nat.reduceMul, Nat.reduceDiv, Int.cast_ofNat_Int, Int.reduceAdd, Int.reduceNeg, Int.reduceEq, Int.reduceLT, Int.reduceLE, Int.reduceNe, decide_true, decide_false, bne_self_eq_false, Bool.not_false, Bool.not_true]; rfl) ?_
        refine (rfind_ok L B a).mono ?_
        rintro rr hh ⟨rfl, rfl⟩
        refine ⟨rfl, rfl, rfl, ?_⟩
        simp only [go_sem, reduceIte, Nat.reduceEqDiff, Nat.reduceBEq, reduceCtorEq, Nat.div_one, Nat.reduceLT, Nat.reduceLeDiff, Nat.reduceAdd, Nat.reduceSub, Nat.reduceMul, Nat.reduceDiv, Int.cast_ofNat_Int, Int.reduceAdd, Int.reduceNeg, Int.reduceEq, Int.reduceLT, Int.reduceLE, Int.reduceNe, decide_true, decide_false, bne_self_eq_false, Bool.not_false, Bool.not_true, eqn]
        refine hKY _ (gn5 _ ?_)
        refine wlk_ret ?_
        simp only [go_sem, reduceIte, Nat.reduceEqDiff, Nat.reduceBEq, reduceCtorEq, Nat.div_one, Nat.reduceLT, Nat.reduceLeDiff, Nat.reduceAdd, Nat.reduceSub, Nat.reduceMul, Nat.reduceDiv, Int.cast_ofNat_Int, Int.reduceAdd, Int.reduceNeg, Int.reduceEq, Int.reduceLT, Int.reduceLE, Int.reduceNe, decide_true, decide_false, bne_self_eq_false, Bool.not_false, Bool.not_true]
    refine wlk_seq fun X6 hn6 he6 hr6 => ?_
    by_cases g : i < l.length
    · have g1 : decide ((i : Int) < ((l.length : Nat) : Int)) = true := decide_eq_true (by omega)
      have g2 : decide ((i : Int) < 60) = false := decide_eq_false (by omega)
      refine wlk_reg fun KY hKY => ?_
      simp only [go_sem, reduceIte, Nat.reduceEqDiff, Nat.reduceBEq, reduceCtorEq, Nat.div_one, Nat.reduceLT, Nat.reduceLeDiff, Nat.reduceAdd, Nat.reduceSub, Nat.reduceMul, Nat.reduceDiv, Int.cast_ofNat_Int, Int.reduceAdd, Int.reduceNeg, Int.reduceEq, Int.reduceLT, Int.reduceLE, Int.reduceNe, decide_true, decide_false, bne_self_eq_false, Bool.not_false, Bool.not_true, c_garlandlaw06_JoinPlays_r6, g1, g2, Nat.mul_div_cancel _ (show 0 < 3 by decide)]
      refine hKY _ (hn6 _ ?_)
      simp only [go_sem, reduceIte, Nat.reduceEqDiff, Nat.reduceBEq, reduceCtorEq, Nat.div_one, Nat.reduceLT, Nat.reduceLeDiff, Nat.reduceAdd, Nat.reduceSub, Nat.reduceMul, Nat.reduceDiv, Int.cast_ofNat_Int, Int.reduceAdd, Int.reduceNeg, Int.reduceEq, Int.reduceLT, Int.reduceLE, Int.reduceNe, decide_true, decide_false, bne_self_eq_false, Bool.not_false, Bool.not_true]
      exact wlk_cond0 rfl (wlk_exit (he5 _ _ (he4 _ _ (he3 _ fin))))
    · have g1 : decide ((i : Int) < ((l.length : Nat) : Int)) = false := decide_eq_false (by omega)
      refine wlk_reg fun KY hKY => ?_
      simp only [go_sem, reduceIte, Nat.reduceEqDiff, Nat.reduceBEq, reduceCtorEq, Nat.div_one, Nat.reduceLT, Nat.reduceLeDiff, Nat.reduceAdd, Nat.reduceSub, Nat.reduceMul, Nat.reduceDiv, Int.cast_ofNat_Int, Int.reduceAdd, Int.reduceNeg, Int.reduceEq, Int.reduceLT, Int.reduceLE, Int.reduceNe, decide_true, decide_false, bne_self_eq_false, Bool.not_false, Bool.not_true, c_garlandlaw06_JoinPlays_r6, g1, Nat.mul_div_cancel _ (show 0 < 3 by decide)]
      refine hKY _ (hn6 _ ?_)
      simp only [go_sem, reduceIte, Nat.reduceEqDiff, Nat.reduceBEq, reduceCtorEq, Nat.div_one, Nat.reduceLT, Nat.reduceLeDiff, Nat.reduceAdd, Nat.reduceSub, Nat.reduceMul, Nat.reduceDiv, Int.cast_ofNat_Int, Int.reduceAdd, Int.reduceNeg, Int.reduceEq, Int.reduceLT, Int.reduceLE, Int.reduceNe, decide_true, decide_false, bne_self_eq_false, Bool.not_false, Bool.not_true]
      exact wlk_cond0 rfl (wlk_exit (he5 _ _ (he4 _ _ (he3 _ fin))))
end Go.Proofs.Yticfnlclbmibeaa

/- Numbers on a line, united; and whatever is united, in another order: plain. -/
namespace Go.Ga.Jn

theorem uL_rel {L : List Nat} {x y a b : Nat} (ha : a < L.length) (hb : b < L.length) :
    (uL L x y).getD a 0 = (uL L x y).getD b 0 ↔ L.getD a 0 = L.getD b 0 ∨ ((L.getD a 0 = x ∨ L.getD a 0 = y) ∧ (L.getD b 0 = x ∨ L.getD b 0 = y)) := by
  rw [uL_get ha, uL_get hb]
  split <;> split <;> omega

theorem may_nat (L : List Nat) (a b l : Nat) : may L a b l = decide (a < L.length ∧ b < L.length ∧ l < L.length ∧ L.getD a 0 ≠ L.getD b 0) := by
  unfold may
  refine decide_eq_decide.2 ?_
  simp only [Int.toNat_natCast]
  omega

theorem uni_yes {L B : List Nat} {a b l : Nat} (h : may L a b l = true) : uni (L, B) a b l = (uL L (L.getD a 0) (L.getD b 0), uB L B (L.getD a 0) (L.getD b 0) l) := by
  unfold uni
  rw [if_pos h]
  rfl

theorem uni_no {L B : List Nat} {a b l : Int} (h : may L a b l = false) : uni (L, B) a b l = (L, B) := by
  unfold uni
  rw [if_neg (by simp [h])]

/-- A line's numbers, of which so many are united. -/
structure Line (n : Nat) (done : List Nat) (L : List Nat) : Prop where
  len : L.length = n
  W : WF L
  rel : ∀ a b, a ≤ b → b < n → (L.getD a 0 = L.getD b 0 ↔ ∀ e, a ≤ e → e < b → e ∈ done)
  num : cnt L + done.length = n

theorem Line.new (n : Nat) (h : cnt (List.range n) = n) : Line n [] (List.range n) := by
  have g : ∀ k, k < n → (List.range n).getD k 0 = k := fun k hk => by simp [List.getD_eq_getElem?_getD, hk]
  refine ⟨List.length_range, WF.idn n, fun a b hab hb => ?_, by rw [h]; rfl⟩
  rw [g a (by omega), g b hb]
  constructor
  · intro e x h1 h2; omega
  · intro H
    rcases Nat.lt_or_ge a b with c | c
    · exact absurd (H a (Nat.le_refl _) c) (by simp)
    · omega

theorem Line.may {n : Nat} {done L : List Nat} (h : Line n done L) {e : Nat} (he : e ∉ done) (hn : e + 1 < n) : may L ((e : Int) + 1) e e = true := by
  have := may_nat L (e + 1) e e
  rw [show ((e + 1 : Nat) : Int) = (e : Int) + 1 by omega] at this
  rw [this]
  refine decide_eq_true ⟨by rw [h.len]; omega, by rw [h.len]; omega, by rw [h.len]; omega, fun hh => ?_⟩
  exact he ((h.rel e (e + 1) (by omega) hn).1 hh.symm e (Nat.le_refl _) (by omega))

theorem Line.more {n : Nat} {done L : List Nat} (h : Line n done L) (B : List Nat) {e : Nat} (he : e ∉ done) (hn : e + 1 < n) : Line n (done ++ [e]) (uni (L, B) ((e : Int) + 1) e e).1 := by
  have hm := h.may he hn
  have e1 : ((e + 1 : Nat) : Int) = (e : Int) + 1 := by omega
  rw [← e1] at hm ⊢
  rw [uni_yes hm]
  have hl := h.len
  have hne : L.getD (e + 1) 0 ≠ L.getD e 0 := fun hh => he ((h.rel e (e + 1) (by omega) hn).1 hh.symm e (Nat.le_refl _) (by omega))
  refine ⟨by rw [uL_len]; exact hl, h.W.uni (by omega) (by omega), fun a b hab hb => ?_, ?_⟩
  · rw [uL_rel (by omega) (by omega)]
    constructor
    · intro H
      rcases H with H | ⟨H1, H2⟩
      · intro x h1 h2
        exact List.mem_append_left _ ((h.rel a b hab hb).1 H x h1 h2)
      · have up : ∀ p q, p ≤ q → q < n → L.getD p 0 = L.getD q 0 → p ≤ e → q ≤ e := by
          intro p q hpq hq hh hp
          rcases Nat.lt_or_ge e q with c | c
          · exact absurd ((h.rel p q hpq hq).1 hh e hp c) he
          · exact c
        have seg : ∀ p, p < n → L.getD p 0 = L.getD e 0 → p ≤ e := by
          intro p hp hh
          rcases Nat.lt_or_ge e p with c | c
          · exact absurd ((h.rel e p (by omega) hp).1 hh.symm e (Nat.le_refl _) c) he
          · exact c
        have seg' : ∀ p, p < n → L.getD p 0 = L.getD (e + 1) 0 → e + 1 ≤ p := by
          intro p hp hh
          rcases Nat.lt_or_ge p (e + 1) with c | c
          · exact absurd ((h.rel p (e + 1) (by omega) (by omega)).1 hh e (by omega) (by omega)) he
          · exact c
        intro x h1 h2
        by_cases hx : x = e
        · subst hx; exact List.mem_append_right _ (List.mem_singleton.2 rfl)
        refine List.mem_append_left _ ?_
        rcases H1 with H1 | H1 <;> rcases H2 with H2 | H2
        · exact (h.rel a b hab hb).1 (H1.trans H2.symm) x h1 h2
        · have := seg' a (by omega) H1; have := seg b hb H2; omega
        · have ha := seg a (by omega) H1
          have hb' := seg' b hb H2
          rcases Nat.lt_or_ge x e with c | c
          · exact (h.rel a e ha (by omega)).1 H1 x h1 c
          · exact (h.rel (e + 1) b hb' hb).1 H2.symm x (by omega) h2
        · exact (h.rel a b hab hb).1 (H1.trans H2.symm) x h1 h2
    · intro H
      by_cases c : a ≤ e ∧ e < b
      · right
        refine ⟨.inr ?_, .inl ?_⟩
        · refine (h.rel a e c.1 (by omega)).2 fun x h1 h2 => ?_
          rcases List.mem_append.1 (H x h1 (by omega)) with g | g
          · exact g
          · rw [List.mem_singleton.1 g] at h2; omega
        · refine ((h.rel (e + 1) b c.2 hb).2 fun x h1 h2 => ?_).symm
          rcases List.mem_append.1 (H x (by omega) h2) with g | g
          · exact g
          · rw [List.mem_singleton.1 g] at h1; omega
      · left
        refine (h.rel a b hab hb).2 fun x h1 h2 => ?_
        rcases List.mem_append.1 (H x h1 h2) with g | g
        · exact g
        · rw [List.mem_singleton.1 g] at h1 h2; omega
  · have := cnt_uni h.W (a := e + 1) (b := e) (by omega) (by omega) hne
    have := h.num
    rw [List.length_append, List.length_singleton]
    show cnt (uL L (L.getD (e + 1) 0) (L.getD e 0)) + _ = n
    omega

/-- All but one. -/
structure Split (n skip : Nat) (L : List Nat) : Prop where
  len : L.length = n
  W : WF L
  two : cnt L = 2
  off : L.getD skip 0 ≠ L.getD (skip + 1) 0
  top : L.getD (n - 1) 0 = skip + 1
  low : L.getD 0 0 = 0

theorem Line.split {n skip : Nat} {l L : List Nat} (h : Line n (l.filter fun e => decide (e ≠ skip)) L) (hp : l.Perm (List.range (n - 1))) (hs : skip + 1 < n) : Split n skip L := by
  have hm : ∀ e, e ∈ (l.filter fun e => decide (e ≠ skip)) ↔ e + 1 < n ∧ e ≠ skip := by
    intro e
    rw [List.mem_filter, hp.mem_iff, List.mem_range, decide_eq_true_iff]
    omega
  have hlen : (l.filter fun e => decide (e ≠ skip)).length = n - 2 := by
    rw [(hp.filter _).length_eq]
    have e := List.Nodup.erase_eq_filter (List.nodup_range (n := n - 1)) skip
    have : (List.range (n - 1)).filter (fun e => decide (e ≠ skip)) = (List.range (n - 1)).erase skip := by
      rw [e]
      refine List.filter_congr fun x _ => ?_
      by_cases g : x = skip <;> simp [g]
    rw [this, List.length_erase_of_mem (List.mem_range.2 (by omega)), List.length_range]
    omega
  have hl := h.len
  have off : L.getD skip 0 ≠ L.getD (skip + 1) 0 := fun hh => ((hm skip).1 ((h.rel skip (skip + 1) (by omega) hs).1 hh skip (Nat.le_refl _) (by omega))).2 rfl
  have l0 := h.W.le 0 (by omega)
  refine ⟨hl, h.W, by have := h.num; omega, off, ?_, by omega⟩
  have e1 : L.getD (skip + 1) 0 = L.getD (n - 1) 0 := (h.rel (skip + 1) (n - 1) (by omega) (by omega)).2 fun e h1 h2 => (hm e).2 ⟨by omega, by omega⟩
  rw [← e1]
  have l1 := h.W.le (skip + 1) (by omega)
  have f1 := h.W.fx (skip + 1) (by omega)
  rcases Nat.lt_or_ge (L.getD (skip + 1) 0) (skip + 1) with c | c
  · exact absurd rfl ((hm skip).1 ((h.rel (L.getD (skip + 1) 0) (skip + 1) (by omega) hs).1 f1 skip (by omega) (by omega))).2
  · omega

/-- Both parts are united. -/
theorem Split.whole {n skip : Nat} {L : List Nat} (h : Split n skip L) (hs : skip + 1 < n) (B : List Nat) (l : Nat) (hl : l < n) :
    may L 0 ((n : Int) - 1) l = true ∧ cnt (uni (L, B) 0 ((n : Int) - 1) l).1 = 1 ∧ atOr (uni (L, B) 0 ((n : Int) - 1) l).2 0 = l ∧ may (uni (L, B) 0 ((n : Int) - 1) l).1 0 ((n : Int) - 1) 0 = false := by
  have e1 : ((n : Int) - 1) = ((n - 1 : Nat) : Int) := by omega
  have e0 : (0 : Int) = ((0 : Nat) : Int) := rfl
  have hL := h.len
  have h0 := h.low
  have h1 := h.top
  have hm : may L ((0 : Nat) : Int) ((n - 1 : Nat) : Int) (l : Int) = true := by
    rw [may_nat]
    exact decide_eq_true ⟨by omega, by omega, by omega, by omega⟩
  rw [e1]
  have hu := uni_yes (B := B) hm
  rw [e0, hu]
  have hc := cnt_uni h.W (a := 0) (b := n - 1) (by omega) (by omega) (by omega)
  refine ⟨hm, by have := h.two; show cnt (uL L (L.getD 0 0) (L.getD (n - 1) 0)) = 1; omega, ?_, ?_⟩
  · unfold atOr
    rw [if_pos ⟨Int.le_refl _, by rw [uB_len]; omega⟩]
    rw [show (((0 : Nat) : Int)).toNat = 0 from rfl, uB_get (by omega), if_pos (.inl rfl)]
  · rw [may_nat]
    refine decide_eq_false fun hh => hh.2.2.2 ?_
    rw [uL_rel (by omega) (by omega)]
    exact .inr ⟨.inl rfl, .inr rfl⟩

/-- Two places of a row change. -/
theorem swap_perm {l : List Nat} {i j : Nat} (hi : i < l.length) (hj : j < l.length) : ((l.set i (l.getD j 0)).set j (l.getD i 0)).Perm l := by
  have e1 : l.getD j 0 = l[j] := by simp [List.getD_eq_getElem?_getD, hj]
  have e2 : l.getD i 0 = l[i] := by simp [List.getD_eq_getElem?_getD, hi]
  rw [e1, e2]
  exact List.set_set_perm hi hj
end Go.Ga.Jn


set_option maxRecDepth 100000
namespace Go.Proofs.Yticfnlclbmibeaa
open Go Go.Ga Go.Ga.Jn

theorem uself (k : Nat) (h : k ≤ 1000000000000) : IntKind.u64.wrap (k : Int) = (k : Int) := by rw [IntKind.wrap_u64]; omega
theorem nz (k : Nat) (h : 0 < k) : ¬ (k : Int) = 0 := by omega
theorem tmod_nat (i k : Nat) : (i : Int).tmod (k : Int) = ((i % k : Nat) : Int) := (Int.ofNat_tmod i k).symm

theorem unite_at (up : List Nat) (of : List (Int × Int × Int)) (n : Nat) (L B : List Nat) (r d : Nat → Nat) (J : JR up of n L B r d) (hn : n ≤ 70000) (a b l : Int) (c : Int) (hc : (cnt L : Int) = c) :
    ACalls Try.prog [] n_join_Join_Unite [.ptr 0 0, .sc (.int .i64 a), .sc (.int .i64 b), .sc (.int .i64 l)] [some (joinObj up of c)] fun x h' => x = .sc (.bool (may L a b l)) ∧ ∃ up' of' r' d', JR up' of' n (uni (L, B) a b l).1 (uni (L, B) a b l).2 r' d' ∧ h' = [some (joinObj up' of' (cnt (uni (L, B) a b l).1))] := by
  rw [← hc]
  exact unite_ok up of n L B r d J hn a b l

theorem take_more (l : List Nat) {q : Nat} (h : q < l.length) (S : Nat) : (l.take (q + 1)).filter (fun e => decide (e ≠ S)) = (l.take q).filter (fun e => decide (e ≠ S)) ++ if l.getD q 0 = S then [] else [l.getD q 0] := by
  have e : l.getD q 0 = l[q] := by simp [List.getD_eq_getElem?_getD, h]
  rw [List.take_succ_eq_append_getElem h, List.filter_append, e]
  rw [List.filter_cons, List.filter_nil]
  by_cases g : l[q] = S
  · rw [if_pos g, if_neg (by rw [decide_eq_true_iff]; exact fun hh => hh g)]
  · rw [if_neg g, if_pos (decide_eq_true g)]
theorem fresh {l : List Nat} (hn : l.Nodup) {q : Nat} (h : q < l.length) (S : Nat) : l.getD q 0 ∉ (l.take q).filter (fun e => decide (e ≠ S)) := by
  intro hm
  have e : l.getD q 0 = l[q] := by simp [List.getD_eq_getElem?_getD, h]
  obtain ⟨k, hk, ek⟩ := List.mem_take_iff_getElem.1 (List.mem_filter.1 hm).1
  rw [e] at ek
  exact (List.pairwise_iff_getElem.1 hn) k q (by omega) h (by omega) ek

set_option maxHeartbeats 2000000 in
theorem all_ok (n skip : Int) (turns : List Int) (hl : turns.length ≤ 10000000) : ACalls Try.prog [] n_garlandlaw06_JoinAll [.sc (.int .i64 n), .imm 1 (ints turns), .sc (.int .i64 skip)] [] fun r _ => r = .sc (.bool true) := by
  obtain ⟨m, hm, hnm⟩ := umod n 40 (by decide) (by decide)
  have hnm : IntKind.i64.wrap ((IntKind.u64.wrap n).tmod 40) = (m : Int) := hnm
  obtain ⟨K, hK, k1, kw, ku⟩ : ∃ K : Nat, K = m + 1 ∧ K ≤ 40 ∧ IntKind.u64.wrap (K : Int) = (K : Int) ∧ 0 < K := ⟨m + 1, rfl, by omega, uself _ (by omega), by omega⟩
  obtain ⟨N, hN, nw, nw1⟩ : ∃ N : Nat, N = K + 1 ∧ IntKind.i64.wrap (2 + (m : Int)) = (N : Int) ∧ IntKind.i64.wrap ((N : Int) - 1) = (K : Int) :=
    ⟨K + 1, rfl, by rw [IntWalk.i64_in _ (by omega)]; omega, by rw [IntWalk.i64_in _ (by omega)]; omega⟩
  obtain ⟨S, hS, hsk⟩ := umod skip K ku (by omega)
  have kz := nz K ku
  refine go_garlandlaw06_JoinAll rfl ?_
  unfold c_garlandlaw06_JoinAll v_garlandlaw06_JoinAll
  refine wlk_sreg fun KY hKY => ?_
  simp only [go_sem, reduceIte, Nat.reduceEqDiff, Nat.reduceBEq, reduceCtorEq, Nat.div_one, Nat.reduceLT, Nat.reduceLeDiff, Nat.reduceAdd, Nat.reduceSub, Nat.reduceMul, Nat.reduceDiv, Int.cast_ofNat_Int, Int.reduceAdd, Int.reduceNeg, Int.reduceEq, Int.reduceLT, Int.reduceLE, Int.reduceNe, decide_true, decide_false, bne_self_eq_false, Bool.not_false, Bool.not_true, c_garlandlaw06_JoinAll_r0]
  refine hKY _ ?_
  refine wlk_sreg fun KY hKY => ?_
  simp only [go_sem, reduceIte, Nat.reduceEqDiff, Nat.reduceBEq, reduceCtorEq, Nat.div_one, Nat.reduceLT, Nat.reduceLeDiff, Nat.reduceAdd, Nat.reduceSub, Nat.reduceMul, Nat.reduceDiv, Int.cast_ofNat_Int, Int.reduceAdd, Int.reduceNeg, Int.reduceEq, Int.reduceLT, Int.reduceLE, Int.reduceNe, decide_true, decide_false, bne_self_eq_false, Bool.not_false, Bool.not_true, c_garlandlaw06_JoinAll_r1, hnm, nw]
  refine hKY _ ?_
  refine wlk_sreg fun KY hKY => ?_
  simp only [go_sem, reduceIte, Nat.reduceEqDiff, Nat.reduceBEq, reduceCtorEq, Nat.div_one, Nat.reduceLT, Nat.reduceLeDiff, Nat.reduceAdd, Nat.reduceSub, Nat.reduceMul, Nat.reduceDiv, Int.cast_ofNat_Int, Int.reduceAdd, Int.reduceNeg, Int.reduceEq, Int.reduceLT, Int.reduceLE, Int.reduceNe, decide_true, decide_false, bne_self_eq_false, Bool.not_false, Bool.not_true, c_garlandlaw06_JoinAll_r2, nw1, kw, hsk, kz]
  refine hKY _ ?_
  refine wlk_sreg fun KY hKY => ?_
  simp only [go_sem, reduceIte, Nat.reduceEqDiff, Nat.reduceBEq, reduceCtorEq, Nat.div_one, Nat.reduceLT, Nat.reduceLeDiff, Nat.reduceAdd, Nat.reduceSub, Nat.reduceMul, Nat.reduceDiv, Int.cast_ofNat_Int, Int.reduceAdd, Int.reduceNeg, Int.reduceEq, Int.reduceLT, Int.reduceLE, Int.reduceNe, decide_true, decide_false, bne_self_eq_false, Bool.not_false, Bool.not_true, c_garlandlaw06_JoinAll_r3]
  refine hKY _ ?_
  refine sem_nil [0, 7] 1 (by simp only [go_sem, reduceIte, Nat.reduceEqDiff, Nat.reduceBEq, reduceCtorEq, Nat.div_one, Nat.reduceLT, Nat.reduceLeDiff, Nat.reduceAdd, Nat.reduceSub, Nat.reduceMul, Nat.reduceDiv, Int.cast_ofNat_Int, Int.reduceAdd, Int.reduceNeg, Int.reduceEq, Int.reduceLT, Int.reduceLE, Int.reduceNe, decide_true, decide_false, bne_self_eq_false, Bool.not_false, Bool.not_true]) ?_
  simp only [go_sem, reduceIte, Nat.reduceEqDiff, Nat.reduceBEq, reduceCtorEq, Nat.div_one, Nat.reduceLT, Nat.reduceLeDiff, Nat.reduceAdd, Nat.reduceSub, Nat.reduceMul, Nat.reduceDiv, Int.cast_ofNat_Int, Int.reduceAdd, Int.reduceNeg, Int.reduceEq, Int.reduceLT, Int.reduceLE, Int.reduceNe, decide_true, decide_false, bne_self_eq_false, Bool.not_false, Bool.not_true]
  refine wlk_seq fun X1 hn1 he1 hr1 => ?_
  refine wlk_seq fun X2 hn2 he2 hr2 => ?_
  refine wlk_reg fun KY hKY => ?_
  simp only [go_sem, reduceIte, Nat.reduceEqDiff, Nat.reduceBEq, reduceCtorEq, Nat.div_one, Nat.reduceLT, Nat.reduceLeDiff, Nat.reduceAdd, Nat.reduceSub, Nat.reduceMul, Nat.reduceDiv, Int.cast_ofNat_Int, Int.reduceAdd, Int.reduceNeg, Int.reduceEq, Int.reduceLT, Int.reduceLE, Int.reduceNe, decide_true, decide_false, bne_self_eq_false, Bool.not_false, Bool.not_true, c_garlandlaw06_JoinAll_r4]
  refine hKY _ (hn2 _ ?_)
  refine wlk_blk fun X3 hn3 he3 hf3 hr3 => ?_
  refine wlk_loop (fun q s => ∃ (i : Nat) (A28 : AVal), i ≤ K ∧ q = K - i ∧ s = { vs := [(0, .sc (.int .i64 (N : Int))), (1, .imm 1 (ints turns)), (2, .sc (.int .i64 (S : Int))), (6, .sc (.bool false)), (7, .own (some 1) (nats (List.range i))), (8, .sc (.int .i64 (i : Int))), (9, .dead), (10, .dead), (11, .dead), (12, .dead), (28, A28), (42, .dead), (80, .dead), (106, .dead), (138, .dead)], ts := [], h := [] }) K ⟨0, .dead, Nat.zero_le _, rfl, ?_⟩ ?_
  · rfl
  rintro q _ ⟨i, A28, hi, rfl, rfl⟩ X4 hn4 he4 hr4
  refine sem_forget [28] rfl ?_
  simp only [go_sem, reduceIte, Nat.reduceEqDiff, Nat.reduceBEq, reduceCtorEq, Nat.div_one, Nat.reduceLT, Nat.reduceLeDiff, Nat.reduceAdd, Nat.reduceSub, Nat.reduceMul, Nat.reduceDiv, Int.cast_ofNat_Int, Int.reduceAdd, Int.reduceNeg, Int.reduceEq, Int.reduceLT, Int.reduceLE, Int.reduceNe, decide_true, decide_false, bne_self_eq_false, Bool.not_false, Bool.not_true]
  refine wlk_seq fun X5 hn5 he5 hr5 => ?_
  refine wlk_seq fun X6 hn6 he6 hr6 => ?_
  refine wlk_reg fun KY hKY => ?_
  simp only [go_sem, reduceIte, Nat.reduceEqDiff, Nat.reduceBEq, reduceCtorEq, Nat.div_one, Nat.reduceLT, Nat.reduceLeDiff, Nat.reduceAdd, Nat.reduceSub, Nat.reduceMul, Nat.reduceDiv, Int.cast_ofNat_Int, Int.reduceAdd, Int.reduceNeg, Int.reduceEq, Int.reduceLT, Int.reduceLE, Int.reduceNe, decide_true, decide_false, bne_self_eq_false, Bool.not_false, Bool.not_true, c_garlandlaw06_JoinAll_r5, nw1]
  refine hKY _ (hn6 _ ?_)
  simp only [go_sem, reduceIte, Nat.reduceEqDiff, Nat.reduceBEq, reduceCtorEq, Nat.div_one, Nat.reduceLT, Nat.reduceLeDiff, Nat.reduceAdd, Nat.reduceSub, Nat.reduceMul, Nat.reduceDiv, Int.cast_ofNat_Int, Int.reduceAdd, Int.reduceNeg, Int.reduceEq, Int.reduceLT, Int.reduceLE, Int.reduceNe, decide_true, decide_false, bne_self_eq_false, Bool.not_false, Bool.not_true]
  refine wlk_cond (v := decide ((i : Int) < (K : Int))) rfl (fun h => wlk_skip (hn5 _ ?_)) fun h => wlk_exit (he5 _ _ (he4 _ _ (he3 _ (hn1 _ ?_))))
  · have h := of_decide_eq_true h
    have by1 : (i + 1) * 8 ≤ 140737488355328 := by omega
    refine wlk_seq fun X7 hn7 he7 hr7 => ?_
    refine wlk_blk fun X8 hn8 he8 hf8 hr8 => ?_
    refine wlk_reg fun KY hKY => ?_
    simp only [go_sem, reduceIte, Nat.reduceEqDiff, Nat.reduceBEq, reduceCtorEq, Nat.div_one, Nat.reduceLT, Nat.reduceLeDiff, Nat.reduceAdd, Nat.reduceSub, Nat.reduceMul, Nat.reduceDiv, Int.cast_ofNat_Int, Int.reduceAdd, Int.reduceNeg, Int.reduceEq, Int.reduceLT, Int.reduceLE, Int.reduceNe, decide_true, decide_false, bne_self_eq_false, Bool.not_false, Bool.not_true, c_garlandlaw06_JoinAll_r6, by1, List.length_range, nats_snoc]
    refine hKY _ ?_
    simp only [go_sem, reduceIte, Nat.reduceEqDiff, Nat.reduceBEq, reduceCtorEq, Nat.div_one, Nat.reduceLT, Nat.reduceLeDiff, Nat.reduceAdd, Nat.reduceSub, Nat.reduceMul, Nat.reduceDiv, Int.cast_ofNat_Int, Int.reduceAdd, Int.reduceNeg, Int.reduceEq, Int.reduceLT, Int.reduceLE, Int.reduceNe, decide_true, decide_false, bne_self_eq_false, Bool.not_false, Bool.not_true]
    refine hn8 _ (hn7 _ ?_)
    refine wlk_reg fun KY hKY => ?_
    simp only [go_sem, reduceIte, Nat.reduceEqDiff, Nat.reduceBEq, reduceCtorEq, Nat.div_one, Nat.reduceLT, Nat.reduceLeDiff, Nat.reduceAdd, Nat.reduceSub, Nat.reduceMul, Nat.reduceDiv, Int.cast_ofNat_Int, Int.reduceAdd, Int.reduceNeg, Int.reduceEq, Int.reduceLT, Int.reduceLE, Int.reduceNe, decide_true, decide_false, bne_self_eq_false, Bool.not_false, Bool.not_true, c_garlandlaw06_JoinAll_r7, inc i (by omega)]
    refine hKY _ (hn4 (K - (i + 1)) _ (by omega) ?_)
    simp only [go_sem, reduceIte, Nat.reduceEqDiff, Nat.reduceBEq, reduceCtorEq, Nat.div_one, Nat.reduceLT, Nat.reduceLeDiff, Nat.reduceAdd, Nat.reduceSub, Nat.reduceMul, Nat.reduceDiv, Int.cast_ofNat_Int, Int.reduceAdd, Int.reduceNeg, Int.reduceEq, Int.reduceLT, Int.reduceLE, Int.reduceNe, decide_true, decide_false, bne_self_eq_false, Bool.not_false, Bool.not_true]
    exact ⟨i + 1, _, by omega, rfl, by rw [List.range_succ]⟩
  · refine wlk_seq fun X1 hn1 he1 hr1 => ?_
    refine wlk_seq fun X2 hn2 he2 hr2 => ?_
    refine wlk_reg fun KY hKY => ?_
    simp only [go_sem, reduceIte, Nat.reduceEqDiff, Nat.reduceBEq, reduceCtorEq, Nat.div_one, Nat.reduceLT, Nat.reduceLeDiff, Nat.reduceAdd, Nat.reduceSub, Nat.reduceMul, Nat.reduceDiv, Int.cast_ofNat_Int, Int.reduceAdd, Int.reduceNeg, Int.reduceEq, Int.reduceLT, Int.reduceLE, Int.reduceNe, decide_true, decide_false, bne_self_eq_false, Bool.not_false, Bool.not_true, c_garlandlaw06_JoinAll_r8]
    refine hKY _ (hn2 _ ?_)
    obtain rfl : i = K := by have := of_decide_eq_false h; omega
    refine wlk_blk fun X3 hn3 he3 hf3 hr3 => ?_
    refine wlk_loop (fun q s => ∃ (k : Nat) (l : List Nat) (A10 A42 : AVal), k ≤ turns.length ∧ q = turns.length - k ∧ l.Perm (List.range i) ∧ s = { vs := [(0, .sc (.int .i64 (N : Int))), (1, .imm 1 (ints turns)), (2, .sc (.int .i64 (S : Int))), (6, .sc (.bool false)), (7, .own (some 1) (nats l)), (8, .sc (.int .i64 (i : Int))), (9, .sc (.int .i64 (k : Int))), (10, A10), (11, .dead), (12, .dead), (28, .sc (.bool (decide ((i : Int) < (i : Int))))), (42, A42), (80, .dead), (106, .dead), (138, .dead)], ts := [], h := [] }) turns.length ⟨0, List.range i, .dead, .dead, Nat.zero_le _, rfl, .refl _, ?_⟩ ?_
    · rfl
    rintro q _ ⟨k, l, A10, A42, hk, rfl, hp, rfl⟩ X4 hn4 he4 hr4
    have hlK : l.length = i := by rw [hp.length_eq, List.length_range]
    refine sem_forget [10, 42] rfl ?_
    simp only [go_sem, reduceIte, Nat.reduceEqDiff, Nat.reduceBEq, reduceCtorEq, Nat.div_one, Nat.reduceLT, Nat.reduceLeDiff, Nat.reduceAdd, Nat.reduceSub, Nat.reduceMul, Nat.reduceDiv, Int.cast_ofNat_Int, Int.reduceAdd, Int.reduceNeg, Int.reduceEq, Int.reduceLT, Int.reduceLE, Int.reduceNe, decide_true, decide_false, bne_self_eq_false, Bool.not_false, Bool.not_true]
    refine wlk_seq fun X5 hn5 he5 hr5 => ?_
    by_cases h1 : k < turns.length ∧ k < 60
    · have g1 : decide ((k : Int) < ((turns.length : Nat) : Int)) = true := decide_eq_true (by omega)
      have g2 : decide ((k : Int) < 60) = true := decide_eq_true (by omega)
      obtain ⟨j, hj, hjm⟩ := umod (turns.getD k 0) i ku (by omega)
      have kp := Nat.mod_lt k ku
      have tm := tmod_nat k i
      refine wlk_seq fun X6 hn6 he6 hr6 => ?_
      refine wlk_reg fun KY hKY => ?_
      simp only [go_sem, reduceIte, Nat.reduceEqDiff, Nat.reduceBEq, reduceCtorEq, Nat.div_one, Nat.reduceLT, Nat.reduceLeDiff, Nat.reduceAdd, Nat.reduceSub, Nat.reduceMul, Nat.reduceDiv, Int.cast_ofNat_Int, Int.reduceAdd, Int.reduceNeg, Int.reduceEq, Int.reduceLT, Int.reduceLE, Int.reduceNe, decide_true, decide_false, bne_self_eq_false, Bool.not_false, Bool.not_true, c_garlandlaw06_JoinAll_r9, g1, g2]
      refine hKY _ (hn6 _ ?_)
      simp only [go_sem, reduceIte, Nat.reduceEqDiff, Nat.reduceBEq, reduceCtorEq, Nat.div_one, Nat.reduceLT, Nat.reduceLeDiff, Nat.reduceAdd, Nat.reduceSub, Nat.reduceMul, Nat.reduceDiv, Int.cast_ofNat_Int, Int.reduceAdd, Int.reduceNeg, Int.reduceEq, Int.reduceLT, Int.reduceLE, Int.reduceNe, decide_true, decide_false, bne_self_eq_false, Bool.not_false, Bool.not_true]
      refine wlk_cond1 rfl (wlk_skip (hn5 _ ?_))
      refine wlk_seq fun X7 hn7 he7 hr7 => ?_
      refine wlk_blk fun X8 hn8 he8 hf8 hr8 => ?_
      have h2 := h1.1
      refine wlk_sreg fun KY hKY => ?_
      simp only [go_sem, reduceIte, Nat.reduceEqDiff, Nat.reduceBEq, reduceCtorEq, Nat.div_one, Nat.reduceLT, Nat.reduceLeDiff, Nat.reduceAdd, Nat.reduceSub, Nat.reduceMul, Nat.reduceDiv, Int.cast_ofNat_Int, Int.reduceAdd, Int.reduceNeg, Int.reduceEq, Int.reduceLT, Int.reduceLE, Int.reduceNe, decide_true, decide_false, bne_self_eq_false, Bool.not_false, Bool.not_true, c_garlandlaw06_JoinAll_r10, ints_get h2, h2, hlK, kw, kz, hjm]
      refine hKY _ ?_
      have hj' : j < l.length := by omega
      have kp' : k % i < l.length := by omega
      refine wlk_draw fun KY hKY => ?_
      simp only [go_sem, reduceIte, Nat.reduceEqDiff, Nat.reduceBEq, reduceCtorEq, Nat.div_one, Nat.reduceLT, Nat.reduceLeDiff, Nat.reduceAdd, Nat.reduceSub, Nat.reduceMul, Nat.reduceDiv, Int.cast_ofNat_Int, Int.reduceAdd, Int.reduceNeg, Int.reduceEq, Int.reduceLT, Int.reduceLE, Int.reduceNe, decide_true, decide_false, bne_self_eq_false, Bool.not_false, Bool.not_true, c_garlandlaw06_JoinAll_r11, hlK, kz, tm, nats_get hj', nats_get kp', hj, kp, List.length_set]
      refine hKY _ (hn8 _ (hn7 _ ?_))
      refine wlk_reg fun KY hKY => ?_
      simp only [go_sem, reduceIte, Nat.reduceEqDiff, Nat.reduceBEq, reduceCtorEq, Nat.div_one, Nat.reduceLT, Nat.reduceLeDiff, Nat.reduceAdd, Nat.reduceSub, Nat.reduceMul, Nat.reduceDiv, Int.cast_ofNat_Int, Int.reduceAdd, Int.reduceNeg, Int.reduceEq, Int.reduceLT, Int.reduceLE, Int.reduceNe, decide_true, decide_false, bne_self_eq_false, Bool.not_false, Bool.not_true, c_garlandlaw06_JoinAll_r12, inc k (by omega)]
      refine hKY _ (hn4 (turns.length - (k + 1)) _ (by omega) ?_)
      simp only [go_sem, reduceIte, Nat.reduceEqDiff, Nat.reduceBEq, reduceCtorEq, Nat.div_one, Nat.reduceLT, Nat.reduceLeDiff, Nat.reduceAdd, Nat.reduceSub, Nat.reduceMul, Nat.reduceDiv, Int.cast_ofNat_Int, Int.reduceAdd, Int.reduceNeg, Int.reduceEq, Int.reduceLT, Int.reduceLE, Int.reduceNe, decide_true, decide_false, bne_self_eq_false, Bool.not_false, Bool.not_true]
      exact ⟨k + 1, _, _, _, by omega, rfl, (swap_perm kp' hj').trans hp, rfl⟩
    · have fin : X1 .normal { vs := [(0, .sc (.int .i64 (N : Int))), (1, .imm 1 (ints turns)), (2, .sc (.int .i64 (S : Int))), (6, .sc (.bool false)), (7, .own (some 1) (nats l)), (8, .sc (.int .i64 (i : Int))), (9, .sc (.int .i64 (k : Int))), (10, .dead), (11, .dead), (12, .dead), (28, .sc (.bool (decide ((i : Int) < (i : Int))))), (42, .sc (.bool false)), (80, .dead), (106, .dead), (138, .dead)], ts := [], h := [] } := by
        refine hn1 _ ?_
        clear hn1 he1 hr1 hn2 he2 hr2 hn3 he3 hf3 hr3 hn4 he4 hr4 hn5 he5 hr5
        refine wlk_sreg fun KY hKY => ?_
        simp only [go_sem, reduceIte, Nat.reduceEqDiff, Nat.reduceBEq, reduceCtorEq, Nat.div_one, Nat.reduceLT, Nat.reduceLeDiff, Nat.reduceAdd, Nat.reduceSub, Nat.reduceMul, Nat.reduceDiv, Int.cast_ofNat_Int, Int.reduceAdd, Int.reduceNeg, Int.reduceEq, Int.reduceLT, Int.reduceLE, Int.reduceNe, decide_true, decide_false, bne_self_eq_false, Bool.not_false, Bool.not_true, c_garlandlaw06_JoinAll_r13]
        refine call_gen [] [] false none rfl (by simp only [go_sem, reduceIte, Nat.reduceEqDiff, Nat.reduceBEq, reduceCtorEq, Nat.div_one, Nat.reduceLT, Nat.reduceLeDiff, Nat.reduceAdd, Nat.reduceSub, Nat.reduceMul, Nat.reduceDiv, Int.cast_ofNat_Int, Int.reduceAdd, Int.reduceNeg, Int.reduceEq, Int.reduceLT, Int.reduceLE, Int.reduceNe, decide_true, decide_false, bne_self_eq_false, Bool.not_false, Bool.not_true]; rfl) (by simp only [go_sem, reduceIte, Nat.reduceEqDiff, Nat.reduceBEq, reduceCtorEq, Nat.div_one, Nat.reduceLT, Nat.reduceLeDiff, Nat.reduceAdd, Nat.reduceSub, Nat.reduceMul, Nat.reduceDiv, Int.cast_ofNat_Int, Int.reduceAdd, Int.reduceNeg, Int.reduceEq, Int.reduceLT, Int.reduceLE, Int.reduceNe, decide_true, decide_false, bne_self_eq_false, Bool.not_false, Bool.not_true]; rfl) rfl rfl rfl (by simp only [go_sem, reduceIte, Nat.reduceEqDiff, Nat.reduceBEq, reduceCtorEq, Nat.div_one, Nat.reduceLT, Nat.reduceLeDiff, Nat.reduceAdd, Nat.reduceSub, Nat.reduceMul, Nat.reduceDiv, Int.cast_ofNat_Int, Int.reduceAdd, Int.reduceNeg, Int.reduceEq, Int.reduceLT, Int.reduceLE, Int.reduceNe, decide_true, decide_false, bne_self_eq_false, Bool.not_false, Bool.not_true, watchIn]; rfl) (by simp only [go_sem, reduceIte, Nat.reduceEqDiff, Nat.reduceBEq, reduceCtorEq, Nat.div_one, Nat.reduceLT, Nat.reduceLeDiff, Nat.reduceAdd, Nat.reduceSub, Nat.reduceMul, Nat.reduceDiv, Int.cast_ofNat_Int, Int.reduceAdd, Int.reduceNeg, Int.reduceEq, Int.reduceLT, Int.reduceLE, Int.reduceNe, decide_true, decide_false, bne_self_eq_false, Bool.not_false, Bool.not_true]; rfl) (by simp only [go_sem, reduceIte, Nat.reduceEqDiff, Nat.reduceBEq, reduceCtorEq, Nat.div_one, Nat.reduceLT, Nat.reduceLeDiff, Nat.reduceAdd, Nat.reduceSub, Nat.reduceMul, Nat.reduceDiv, Int.cast_ofNat_Int, Int.reduceAdd, Int.reduceNeg, Int.reduceEq, Int.reduceLT, Int.reduceLE, Int.reduceNe, decide_true, decide_false, bne_self_eq_false, Bool.not_false, Bool.not_true]; rfl) ?_
        refine (new_ok N).mono ?_
        rintro _ _ ⟨rfl, N', hN', up0, of0, r0, d0, J0, rfl⟩
        obtain rfl : N' = N := by omega
        unfold joinObj
        refine ⟨Nat.le_of_ble_eq_true rfl, (fun hh => by cases hh), ?_⟩
        simp only [go_sem, reduceIte, Nat.reduceEqDiff, Nat.reduceBEq, reduceCtorEq, Nat.div_one, Nat.reduceLT, Nat.reduceLeDiff, Nat.reduceAdd, Nat.reduceSub, Nat.reduceMul, Nat.reduceDiv, Int.cast_ofNat_Int, Int.reduceAdd, Int.reduceNeg, Int.reduceEq, Int.reduceLT, Int.reduceLE, Int.reduceNe, decide_true, decide_false, bne_self_eq_false, Bool.not_false, Bool.not_true, callOut, AState.after]
        refine hKY _ ?_
        have hnd : l.Nodup := hp.nodup_iff.2 List.nodup_range
        refine wlk_seq fun X1 hn1 he1 hr1 => ?_
        refine wlk_seq fun X2 hn2 he2 hr2 => ?_
        refine wlk_reg fun KY hKY => ?_
        simp only [go_sem, reduceIte, Nat.reduceEqDiff, Nat.reduceBEq, reduceCtorEq, Nat.div_one, Nat.reduceLT, Nat.reduceLeDiff, Nat.reduceAdd, Nat.reduceSub, Nat.reduceMul, Nat.reduceDiv, Int.cast_ofNat_Int, Int.reduceAdd, Int.reduceNeg, Int.reduceEq, Int.reduceLT, Int.reduceLE, Int.reduceNe, decide_true, decide_false, bne_self_eq_false, Bool.not_false, Bool.not_true, c_garlandlaw06_JoinAll_r14]
        refine hKY _ (hn2 _ ?_)
        refine wlk_blk fun X3 hn3 he3 hf3 hr3 => ?_
        refine wlk_loop (fun w s => ∃ (q : Nat) (up L B : List Nat) (of : List (Int × Int × Int)) (r d : Nat → Nat) (A80 A106 : AVal), q ≤ l.length ∧ w = l.length - q ∧ JR up of N' L B r d ∧ Line N' ((l.take q).filter fun e => decide (e ≠ S)) L ∧ s = { vs := [(0, .sc (.int .i64 (N' : Int))), (1, .imm 1 (ints turns)), (2, .sc (.int .i64 (S : Int))), (6, .sc (.bool false)), (7, .own (some 1) (nats l)), (8, .sc (.int .i64 (i : Int))), (9, .sc (.int .i64 (k : Int))), (10, .dead), (11, .ptr 0 0), (12, .sc (.int .i64 (q : Int))), (28, .sc (.bool (decide ((i : Int) < (i : Int))))), (42, .sc (.bool false)), (80, A80), (106, A106), (138, .dead)], ts := [], h := [some [.own (some 1) (nats up), .own (some 3) (tris of), .sc (.int .i64 (cnt L))]] }) l.length ⟨0, up0, _, _, of0, r0, d0, .dead, .dead, Nat.zero_le _, rfl, J0, Line.new _ (cnt_range _), ?_⟩ ?_
        · rfl
        rintro w _ ⟨q, up, L, B, of, r, d, A80, A106, hq, rfl, J, hL, rfl⟩ X4 hn4 he4 hr4
        refine sem_forget [80, 106] rfl ?_
        simp only [go_sem, reduceIte, Nat.reduceEqDiff, Nat.reduceBEq, reduceCtorEq, Nat.div_one, Nat.reduceLT, Nat.reduceLeDiff, Nat.reduceAdd, Nat.reduceSub, Nat.reduceMul, Nat.reduceDiv, Int.cast_ofNat_Int, Int.reduceAdd, Int.reduceNeg, Int.reduceEq, Int.reduceLT, Int.reduceLE, Int.reduceNe, decide_true, decide_false, bne_self_eq_false, Bool.not_false, Bool.not_true]
        refine wlk_seq fun X5 hn5 he5 hr5 => ?_
        refine wlk_seq fun X6 hn6 he6 hr6 => ?_
        refine wlk_reg fun KY hKY => ?_
        simp only [go_sem, reduceIte, Nat.reduceEqDiff, Nat.reduceBEq, reduceCtorEq, Nat.div_one, Nat.reduceLT, Nat.reduceLeDiff, Nat.reduceAdd, Nat.reduceSub, Nat.reduceMul, Nat.reduceDiv, Int.cast_ofNat_Int, Int.reduceAdd, Int.reduceNeg, Int.reduceEq, Int.reduceLT, Int.reduceLE, Int.reduceNe, decide_true, decide_false, bne_self_eq_false, Bool.not_false, Bool.not_true, c_garlandlaw06_JoinAll_r15, hlK]
        refine hKY _ (hn6 _ ?_)
        simp only [go_sem, reduceIte, Nat.reduceEqDiff, Nat.reduceBEq, reduceCtorEq, Nat.div_one, Nat.reduceLT, Nat.reduceLeDiff, Nat.reduceAdd, Nat.reduceSub, Nat.reduceMul, Nat.reduceDiv, Int.cast_ofNat_Int, Int.reduceAdd, Int.reduceNeg, Int.reduceEq, Int.reduceLT, Int.reduceLE, Int.reduceNe, decide_true, decide_false, bne_self_eq_false, Bool.not_false, Bool.not_true]
        refine wlk_cond (v := decide ((q : Int) < (i : Int))) rfl (fun h => wlk_skip (hn5 _ ?_)) fun h => wlk_exit (he5 _ _ (he4 _ _ (he3 _ (hn1 _ ?_))))
        · have h := of_decide_eq_true h
          have hql : q < l.length := by omega
          have mo := take_more l hql S
          have fr := fresh hnd hql S
          have eb : l.getD q 0 < i := by
            have : l.getD q 0 ∈ List.range i := hp.mem_iff.1 (by rw [show l.getD q 0 = l[q] by simp [List.getD_eq_getElem?_getD, hql]]; exact List.getElem_mem _)
            exact List.mem_range.1 this
          have ge := nats_get hql
          generalize l.getD q 0 = e at mo fr eb ge
          have hq' : q < i := by omega
          have ie : IntKind.i64.wrap ((e : Int) + 1) = (e : Int) + 1 := IntWalk.i64_in _ (by omega)
          refine wlk_seq fun X7 hn7 he7 hr7 => ?_
          refine wlk_blk fun X8 hn8 he8 hf8 hr8 => ?_
          refine wlk_seq fun X9 hn9 he9 hr9 => ?_
          by_cases c : e = S
          · have c' : decide ((e : Int) ≠ (S : Int)) = false := decide_eq_false (by omega)
            rw [if_pos c, List.append_nil] at mo
            refine wlk_draw fun KY hKY => ?_
            simp only [go_sem, reduceIte, Nat.reduceEqDiff, Nat.reduceBEq, reduceCtorEq, Nat.div_one, Nat.reduceLT, Nat.reduceLeDiff, Nat.reduceAdd, Nat.reduceSub, Nat.reduceMul, Nat.reduceDiv, Int.cast_ofNat_Int, Int.reduceAdd, Int.reduceNeg, Int.reduceEq, Int.reduceLT, Int.reduceLE, Int.reduceNe, decide_true, decide_false, bne_self_eq_false, Bool.not_false, Bool.not_true, c_garlandlaw06_JoinAll_r16, ge, hlK, hq', c']
            refine hKY _ (hn9 _ ?_)
            simp only [go_sem, reduceIte, Nat.reduceEqDiff, Nat.reduceBEq, reduceCtorEq, Nat.div_one, Nat.reduceLT, Nat.reduceLeDiff, Nat.reduceAdd, Nat.reduceSub, Nat.reduceMul, Nat.reduceDiv, Int.cast_ofNat_Int, Int.reduceAdd, Int.reduceNeg, Int.reduceEq, Int.reduceLT, Int.reduceLE, Int.reduceNe, decide_true, decide_false, bne_self_eq_false, Bool.not_false, Bool.not_true]
            refine wlk_cond0 rfl (wlk_skip (hn8 _ (hn7 _ ?_)))
            refine wlk_reg fun KY hKY => ?_
            simp only [go_sem, reduceIte, Nat.reduceEqDiff, Nat.reduceBEq, reduceCtorEq, Nat.div_one, Nat.reduceLT, Nat.reduceLeDiff, Nat.reduceAdd, Nat.reduceSub, Nat.reduceMul, Nat.reduceDiv, Int.cast_ofNat_Int, Int.reduceAdd, Int.reduceNeg, Int.reduceEq, Int.reduceLT, Int.reduceLE, Int.reduceNe, decide_true, decide_false, bne_self_eq_false, Bool.not_false, Bool.not_true, c_garlandlaw06_JoinAll_r18, inc q (by omega)]
            refine hKY _ (hn4 (l.length - (q + 1)) _ (by omega) ?_)
            simp only [go_sem, reduceIte, Nat.reduceEqDiff, Nat.reduceBEq, reduceCtorEq, Nat.div_one, Nat.reduceLT, Nat.reduceLeDiff, Nat.reduceAdd, Nat.reduceSub, Nat.reduceMul, Nat.reduceDiv, Int.cast_ofNat_Int, Int.reduceAdd, Int.reduceNeg, Int.reduceEq, Int.reduceLT, Int.reduceLE, Int.reduceNe, decide_true, decide_false, bne_self_eq_false, Bool.not_false, Bool.not_true]
            exact ⟨q + 1, up, _, _, of, r, d, _, _, by omega, rfl, J, by rw [mo]; exact hL, rfl⟩
          · have c' : decide ((e : Int) ≠ (S : Int)) = true := decide_eq_true (by omega)
            rw [if_neg c] at mo
            have mm := hL.may fr (by omega)
            have mr := hL.more B fr (by omega)
            refine wlk_draw fun KY hKY => ?_
            simp only [go_sem, reduceIte, Nat.reduceEqDiff, Nat.reduceBEq, reduceCtorEq, Nat.div_one, Nat.reduceLT, Nat.reduceLeDiff, Nat.reduceAdd, Nat.reduceSub, Nat.reduceMul, Nat.reduceDiv, Int.cast_ofNat_Int, Int.reduceAdd, Int.reduceNeg, Int.reduceEq, Int.reduceLT, Int.reduceLE, Int.reduceNe, decide_true, decide_false, bne_self_eq_false, Bool.not_false, Bool.not_true, c_garlandlaw06_JoinAll_r16, ge, hlK, hq', c', ie]
            refine call_gen [] [0] false none rfl (by simp only [go_sem, reduceIte, Nat.reduceEqDiff, Nat.reduceBEq, reduceCtorEq, Nat.div_one, Nat.reduceLT, Nat.reduceLeDiff, Nat.reduceAdd, Nat.reduceSub, Nat.reduceMul, Nat.reduceDiv, Int.cast_ofNat_Int, Int.reduceAdd, Int.reduceNeg, Int.reduceEq, Int.reduceLT, Int.reduceLE, Int.reduceNe, decide_true, decide_false, bne_self_eq_false, Bool.not_false, Bool.not_true]; rfl) (by simp only [go_sem, reduceIte, Nat.reduceEqDiff, Nat.reduceBEq, reduceCtorEq, Nat.div_one, Nat.reduceLT, Nat.reduceLeDiff, Nat.reduceAdd, Nat.reduceSub, Nat.reduceMul, Nat.reduceDiv, Int.cast_ofNat_Int, Int.reduceAdd, Int.reduceNeg, Int.reduceEq, Int.reduceLT, Int.reduceLE, Int.reduceNe, decide_true, decide_false, bne_self_eq_false, Bool.not_false, Bool.not_true]; rfl) rfl rfl rfl (by simp only [go_sem, reduceIte, Nat.reduceEqDiff, Nat.reduceBEq, reduceCtorEq, Nat.div_one, Nat.reduceLT, Nat.reduceLeDiff, Nat.reduceAdd, Nat.reduceSub, Nat.reduceMul, Nat.reduceDiv, Int.cast_ofNat_Int, Int.reduceAdd, Int.reduceNeg, Int.reduceEq, Int.reduceLT, Int.reduceLE, Int.reduceNe, decide_true, decide_false, bne_self_eq_false, Bool.not_false, Bool.not_true, watchIn]; rfl) (by simp only [go_sem, reduceIte, Nat.reduceEqDiff, Nat.reduceBEq, reduceCtorEq, Nat.div_one, Nat.reduceLT, Nat.reduceLeDiff, Nat.reduceAdd, Nat.reduceSub, Nat.reduceMul, Nat.reduceDiv, Int.cast_ofNat_Int, Int.reduceAdd, Int.reduceNeg, Int.reduceEq, Int.reduceLT, Int.reduceLE, Int.reduceNe, decide_true, decide_false, bne_self_eq_false, Bool.not_false, Bool.not_true]; rfl) (by simp only [go_sem, reduceIte, Nat.reduceEqDiff, Nat.reduceBEq, reduceCtorEq, Nat.div_one, Nat.reduceLT, Nat.reduceLeDiff, Nat.reduceAdd, Nat.reduceSub, Nat.reduceMul, Nat.reduceDiv, Int.cast_ofNat_Int, Int.reduceAdd, Int.reduceNeg, Int.reduceEq, Int.reduceLT, Int.reduceLE, Int.reduceNe, decide_true, decide_false, bne_self_eq_false, Bool.not_false, Bool.not_true]; rfl) ?_
            refine (unite_ok up of N' L B r d J (by omega) ((e : Int) + 1) e e).mono ?_
            rintro _ _ ⟨rfl, up1, of1, r1, d1, J1, rfl⟩
            rw [mm]
            unfold joinObj
            refine ⟨Nat.le_of_ble_eq_true rfl, (fun hh => by cases hh), ?_⟩
            simp only [go_sem, reduceIte, Nat.reduceEqDiff, Nat.reduceBEq, reduceCtorEq, Nat.div_one, Nat.reduceLT, Nat.reduceLeDiff, Nat.reduceAdd, Nat.reduceSub, Nat.reduceMul, Nat.reduceDiv, Int.cast_ofNat_Int, Int.reduceAdd, Int.reduceNeg, Int.reduceEq, Int.reduceLT, Int.reduceLE, Int.reduceNe, decide_true, decide_false, bne_self_eq_false, Bool.not_false, Bool.not_true, callOut, AState.after]
            refine hKY _ (hn9 _ ?_)
            simp only [go_sem, reduceIte, Nat.reduceEqDiff, Nat.reduceBEq, reduceCtorEq, Nat.div_one, Nat.reduceLT, Nat.reduceLeDiff, Nat.reduceAdd, Nat.reduceSub, Nat.reduceMul, Nat.reduceDiv, Int.cast_ofNat_Int, Int.reduceAdd, Int.reduceNeg, Int.reduceEq, Int.reduceLT, Int.reduceLE, Int.reduceNe, decide_true, decide_false, bne_self_eq_false, Bool.not_false, Bool.not_true]
            refine wlk_cond0 rfl (wlk_skip (hn8 _ (hn7 _ ?_)))
            refine wlk_reg fun KY hKY => ?_
            simp only [go_sem, reduceIte, Nat.reduceEqDiff, Nat.reduceBEq, reduceCtorEq, Nat.div_one, Nat.reduceLT, Nat.reduceLeDiff, Nat.reduceAdd, Nat.reduceSub, Nat.reduceMul, Nat.reduceDiv, Int.cast_ofNat_Int, Int.reduceAdd, Int.reduceNeg, Int.reduceEq, Int.reduceLT, Int.reduceLE, Int.reduceNe, decide_true, decide_false, bne_self_eq_false, Bool.not_false, Bool.not_true, c_garlandlaw06_JoinAll_r18, inc q (by omega)]
            refine hKY _ (hn4 (l.length - (q + 1)) _ (by omega) ?_)
            simp only [go_sem, reduceIte, Nat.reduceEqDiff, Nat.reduceBEq, reduceCtorEq, Nat.div_one, Nat.reduceLT, Nat.reduceLeDiff, Nat.reduceAdd, Nat.reduceSub, Nat.reduceMul, Nat.reduceDiv, Int.cast_ofNat_Int, Int.reduceAdd, Int.reduceNeg, Int.reduceEq, Int.reduceLT, Int.reduceLE, Int.reduceNe, decide_true, decide_false, bne_self_eq_false, Bool.not_false, Bool.not_true]
            exact ⟨q + 1, up1, _, _, of1, r1, d1, _, _, by omega, rfl, J1, by rw [mo]; exact mr, rfl⟩
        · have hq' : q = l.length := by have := of_decide_eq_false h; omega
          rw [hq', List.take_length] at hL
          have sp := hL.split (skip := S) (by rw [hN]; exact hp) (by omega)
          obtain ⟨w1, w2, w3, w4⟩ := sp.whole (by omega) B i (by omega)
          have top : atOr L (i : Int) = (S : Int) + 1 := by
            have := sp.top; have := sp.len
            unfold atOr
            rw [if_pos ⟨by omega, by omega⟩, Int.toNat_natCast, show i = N' - 1 by omega, sp.top]
            omega
          have low : atOr L 0 = 0 := by
            have := sp.low; have := sp.len
            unfold atOr
            rw [if_pos ⟨by omega, by omega⟩, show (0 : Int).toNat = 0 from rfl, sp.low]
            rfl
          have sw : IntKind.i64.wrap ((S : Int) + 1) = (S : Int) + 1 := IntWalk.i64_in _ (by omega)
          have off : decide ((0 ≤ (S : Int) ∧ (S : Int) < N') ∧ (0 ≤ (S : Int) + 1 ∧ (S : Int) + 1 < N') ∧ L.getD (S : Int).toNat 0 = L.getD ((S : Int) + 1).toNat 0) = false := by
            refine decide_eq_false fun hh => sp.off ?_
            have := hh.2.2
            rw [Int.toNat_natCast, show ((S : Int) + 1).toNat = S + 1 by omega] at this
            exact this
          have c2 := sp.two
          refine wlk_seq fun X1 hn1 he1 hr1 => ?_
          refine wlk_seq fun X2 hn2 he2 hr2 => ?_
          refine wlk_reg fun KY hKY => ?_
          simp only [go_sem, reduceIte, Nat.reduceEqDiff, Nat.reduceBEq, reduceCtorEq, Nat.div_one, Nat.reduceLT, Nat.reduceLeDiff, Nat.reduceAdd, Nat.reduceSub, Nat.reduceMul, Nat.reduceDiv, Int.cast_ofNat_Int, Int.reduceAdd, Int.reduceNeg, Int.reduceEq, Int.reduceLT, Int.reduceLE, Int.reduceNe, decide_true, decide_false, bne_self_eq_false, Bool.not_false, Bool.not_true, c_garlandlaw06_JoinAll_r19]
          refine call_view rfl (by simp only [go_sem, reduceIte, Nat.reduceEqDiff, Nat.reduceBEq, reduceCtorEq, Nat.div_one, Nat.reduceLT, Nat.reduceLeDiff, Nat.reduceAdd, Nat.reduceSub, Nat.reduceMul, Nat.reduceDiv, Int.cast_ofNat_Int, Int.reduceAdd, Int.reduceNeg, Int.reduceEq, Int.reduceLT, Int.reduceLE, Int.reduceNe, decide_true, decide_false, bne_self_eq_false, Bool.not_false, Bool.not_true]; rfl) ?_
          refine (awake_ok).mono ?_
          rintro rr hh ⟨rfl, rfl⟩
          refine ⟨rfl, rfl, rfl, ?_⟩
          simp only [go_sem, reduceIte, Nat.reduceEqDiff, Nat.reduceBEq, reduceCtorEq, Nat.div_one, Nat.reduceLT, Nat.reduceLeDiff, Nat.reduceAdd, Nat.reduceSub, Nat.reduceMul, Nat.reduceDiv, Int.cast_ofNat_Int, Int.reduceAdd, Int.reduceNeg, Int.reduceEq, Int.reduceLT, Int.reduceLE, Int.reduceNe, decide_true, decide_false, bne_self_eq_false, Bool.not_false, Bool.not_true]
          refine call_view rfl (by simp only [go_sem, reduceIte, Nat.reduceEqDiff, Nat.reduceBEq, reduceCtorEq, Nat.div_one, Nat.reduceLT, Nat.reduceLeDiff, Nat.reduceAdd, Nat.reduceSub, Nat.reduceMul, Nat.reduceDiv, Int.cast_ofNat_Int, Int.reduceAdd, Int.reduceNeg, Int.reduceEq, Int.reduceLT, Int.reduceLE, Int.reduceNe, decide_true, decide_false, bne_self_eq_false, Bool.not_false, Bool.not_true]; rfl) ?_
          refine (len_ok _ _ _).mono ?_
          rintro rr hh ⟨rfl, rfl⟩
          refine ⟨rfl, rfl, rfl, ?_⟩
          rw [c2]
          simp only [go_sem, reduceIte, Nat.reduceEqDiff, Nat.reduceBEq, reduceCtorEq, Nat.div_one, Nat.reduceLT, Nat.reduceLeDiff, Nat.reduceAdd, Nat.reduceSub, Nat.reduceMul, Nat.reduceDiv, Int.cast_ofNat_Int, Int.reduceAdd, Int.reduceNeg, Int.reduceEq, Int.reduceLT, Int.reduceLE, Int.reduceNe, decide_true, decide_false, bne_self_eq_false, Bool.not_false, Bool.not_true, sw]
          refine call_gen [] [0] false none rfl (by simp only [go_sem, reduceIte, Nat.reduceEqDiff, Nat.reduceBEq, reduceCtorEq, Nat.div_one, Nat.reduceLT, Nat.reduceLeDiff, Nat.reduceAdd, Nat.reduceSub, Nat.reduceMul, Nat.reduceDiv, Int.cast_ofNat_Int, Int.reduceAdd, Int.reduceNeg, Int.reduceEq, Int.reduceLT, Int.reduceLE, Int.reduceNe, decide_true, decide_false, bne_self_eq_false, Bool.not_false, Bool.not_true]; rfl) (by simp only [go_sem, reduceIte, Nat.reduceEqDiff, Nat.reduceBEq, reduceCtorEq, Nat.div_one, Nat.reduceLT, Nat.reduceLeDiff, Nat.reduceAdd, Nat.reduceSub, Nat.reduceMul, Nat.reduceDiv, Int.cast_ofNat_Int, Int.reduceAdd, Int.reduceNeg, Int.reduceEq, Int.reduceLT, Int.reduceLE, Int.reduceNe, decide_true, decide_false, bne_self_eq_false, Bool.not_false, Bool.not_true]; rfl) rfl rfl rfl (by simp only [go_sem, reduceIte, Nat.reduceEqDiff, Nat.reduceBEq, reduceCtorEq, Nat.div_one, Nat.reduceLT, Nat.reduceLeDiff, Nat.reduceAdd, Nat.reduceSub, Nat.reduceMul, Nat.reduceDiv, Int.cast_ofNat_Int, Int.reduceAdd, Int.reduceNeg, Int.reduceEq, Int.reduceLT, Int.reduceLE, Int.reduceNe, decide_true, decide_false, bne_self_eq_false, Bool.not_false, Bool.not_true, watchIn]; rfl) (by simp only [go_sem, reduceIte, Nat.reduceEqDiff, Nat.reduceBEq, reduceCtorEq, Nat.div_one, Nat.reduceLT, Nat.reduceLeDiff, Nat.reduceAdd, Nat.reduceSub, Nat.reduceMul, Nat.reduceDiv, Int.cast_ofNat_Int, Int.reduceAdd, Int.reduceNeg, Int.reduceEq, Int.reduceLT, Int.reduceLE, Int.reduceNe, decide_true, decide_false, bne_self_eq_false, Bool.not_false, Bool.not_true]; rfl) (by simp only [go_sem, reduceIte, Nat.reduceEqDiff, Nat.reduceBEq, reduceCtorEq, Nat.div_one, Nat.reduceLT, Nat.reduceLeDiff, Nat.reduceAdd, Nat.reduceSub, Nat.reduceMul, Nat.reduceDiv, Int.cast_ofNat_Int, Int.reduceAdd, Int.reduceNeg, Int.reduceEq, Int.reduceLT, Int.reduceLE, Int.reduceNe, decide_true, decide_false, bne_self_eq_false, Bool.not_false, Bool.not_true]; rfl) ?_
          refine (same_ok up of 2 N' L B r d J S ((S : Int) + 1)).mono ?_
          rintro _ _ ⟨rfl, up1, J1, rfl⟩
          rw [off]
          unfold joinObj
          refine ⟨Nat.le_of_ble_eq_true rfl, (fun hh => by cases hh), ?_⟩
          simp only [go_sem, reduceIte, Nat.reduceEqDiff, Nat.reduceBEq, reduceCtorEq, Nat.div_one, Nat.reduceLT, Nat.reduceLeDiff, Nat.reduceAdd, Nat.reduceSub, Nat.reduceMul, Nat.reduceDiv, Int.cast_ofNat_Int, Int.reduceAdd, Int.reduceNeg, Int.reduceEq, Int.reduceLT, Int.reduceLE, Int.reduceNe, decide_true, decide_false, bne_self_eq_false, Bool.not_false, Bool.not_true, callOut, AState.after, nw1]
          refine call_gen [] [0] false none rfl (by simp only [go_sem, reduceIte, Nat.reduceEqDiff, Nat.reduceBEq, reduceCtorEq, Nat.div_one, Nat.reduceLT, Nat.reduceLeDiff, Nat.reduceAdd, Nat.reduceSub, Nat.reduceMul, Nat.reduceDiv, Int.cast_ofNat_Int, Int.reduceAdd, Int.reduceNeg, Int.reduceEq, Int.reduceLT, Int.reduceLE, Int.reduceNe, decide_true, decide_false, bne_self_eq_false, Bool.not_false, Bool.not_true]; rfl) (by simp only [go_sem, reduceIte, Nat.reduceEqDiff, Nat.reduceBEq, reduceCtorEq, Nat.div_one, Nat.reduceLT, Nat.reduceLeDiff, Nat.reduceAdd, Nat.reduceSub, Nat.reduceMul, Nat.reduceDiv, Int.cast_ofNat_Int, Int.reduceAdd, Int.reduceNeg, Int.reduceEq, Int.reduceLT, Int.reduceLE, Int.reduceNe, decide_true, decide_false, bne_self_eq_false, Bool.not_false, Bool.not_true]; rfl) rfl rfl rfl (by simp only [go_sem, reduceIte, Nat.reduceEqDiff, Nat.reduceBEq, reduceCtorEq, Nat.div_one, Nat.reduceLT, Nat.reduceLeDiff, Nat.reduceAdd, Nat.reduceSub, Nat.reduceMul, Nat.reduceDiv, Int.cast_ofNat_Int, Int.reduceAdd, Int.reduceNeg, Int.reduceEq, Int.reduceLT, Int.reduceLE, Int.reduceNe, decide_true, decide_false, bne_self_eq_false, Bool.not_false, Bool.not_true, watchIn]; rfl) (by simp only [go_sem, reduceIte, Nat.reduceEqDiff, Nat.reduceBEq, reduceCtorEq, Nat.div_one, Nat.reduceLT, Nat.reduceLeDiff, Nat.reduceAdd, Nat.reduceSub, Nat.reduceMul, Nat.reduceDiv, Int.cast_ofNat_Int, Int.reduceAdd, Int.reduceNeg, Int.reduceEq, Int.reduceLT, Int.reduceLE, Int.reduceNe, decide_true, decide_false, bne_self_eq_false, Bool.not_false, Bool.not_true]; rfl) (by simp only [go_sem, reduceIte, Nat.reduceEqDiff, Nat.reduceBEq, reduceCtorEq, Nat.div_one, Nat.reduceLT, Nat.reduceLeDiff, Nat.reduceAdd, Nat.reduceSub, Nat.reduceMul, Nat.reduceDiv, Int.cast_ofNat_Int, Int.reduceAdd, Int.reduceNeg, Int.reduceEq, Int.reduceLT, Int.reduceLE, Int.reduceNe, decide_true, decide_false, bne_self_eq_false, Bool.not_false, Bool.not_true]; rfl) ?_
          refine (find_ok up1 of 2 N' L B r d J1 i).mono ?_
          rintro _ _ ⟨rfl, up2, J2, rfl⟩
          rw [top]
          unfold joinObj
          refine ⟨Nat.le_of_ble_eq_true rfl, (fun hh => by cases hh), ?_⟩
          simp only [go_sem, reduceIte, Nat.reduceEqDiff, Nat.reduceBEq, reduceCtorEq, Nat.div_one, Nat.reduceLT, Nat.reduceLeDiff, Nat.reduceAdd, Nat.reduceSub, Nat.reduceMul, Nat.reduceDiv, Int.cast_ofNat_Int, Int.reduceAdd, Int.reduceNeg, Int.reduceEq, Int.reduceLT, Int.reduceLE, Int.reduceNe, decide_true, decide_false, bne_self_eq_false, Bool.not_false, Bool.not_true, callOut, AState.after, sw, nen]
          refine call_gen [] [0] false none rfl (by simp only [go_sem, reduceIte, Nat.reduceEqDiff, Nat.reduceBEq, reduceCtorEq, Nat.div_one, Nat.reduceLT, Nat.reduceLeDiff, Nat.reduceAdd, Nat.reduceSub, Nat.reduceMul, Nat.reduceDiv, Int.cast_ofNat_Int, Int.reduceAdd, Int.reduceNeg, Int.reduceEq, Int.reduceLT, Int.reduceLE, Int.reduceNe, decide_true, decide_false, bne_self_eq_false, Bool.not_false, Bool.not_true]; rfl) (by simp only [go_sem, reduceIte, Nat.reduceEqDiff, Nat.reduceBEq, reduceCtorEq, Nat.div_one, Nat.reduceLT, Nat.reduceLeDiff, Nat.reduceAdd, Nat.reduceSub, Nat.reduceMul, Nat.reduceDiv, Int.cast_ofNat_Int, Int.reduceAdd, Int.reduceNeg, Int.reduceEq, Int.reduceLT, Int.reduceLE, Int.reduceNe, decide_true, decide_false, bne_self_eq_false, Bool.not_false, Bool.not_true]; rfl) rfl rfl rfl (by simp only [go_sem, reduceIte, Nat.reduceEqDiff, Nat.reduceBEq, reduceCtorEq, Nat.div_one, Nat.reduceLT, Nat.reduceLeDiff, Nat.reduceAdd, Nat.reduceSub, Nat.reduceMul, Nat.reduceDiv, Int.cast_ofNat_Int, Int.reduceAdd, Int.reduceNeg, Int.reduceEq, Int.reduceLT, Int.reduceLE, Int.reduceNe, decide_true, decide_false, bne_self_eq_false, Bool.not_false, Bool.not_true, watchIn]; rfl) (by simp only [go_sem, reduceIte, Nat.reduceEqDiff, Nat.reduceBEq, reduceCtorEq, Nat.div_one, Nat.reduceLT, Nat.reduceLeDiff, Nat.reduceAdd, Nat.reduceSub, Nat.reduceMul, Nat.reduceDiv, Int.cast_ofNat_Int, Int.reduceAdd, Int.reduceNeg, Int.reduceEq, Int.reduceLT, Int.reduceLE, Int.reduceNe, decide_true, decide_false, bne_self_eq_false, Bool.not_false, Bool.not_true]; rfl) (by simp only [go_sem, reduceIte, Nat.reduceEqDiff, Nat.reduceBEq, reduceCtorEq, Nat.div_one, Nat.reduceLT, Nat.reduceLeDiff, Nat.reduceAdd, Nat.reduceSub, Nat.reduceMul, Nat.reduceDiv, Int.cast_ofNat_Int, Int.reduceAdd, Int.reduceNeg, Int.reduceEq, Int.reduceLT, Int.reduceLE, Int.reduceNe, decide_true, decide_false, bne_self_eq_false, Bool.not_false, Bool.not_true]; rfl) ?_
          refine (find_ok up2 of 2 N' L B r d J2 0).mono ?_
          rintro _ _ ⟨rfl, up3, J3, rfl⟩
          rw [low]
          unfold joinObj
          refine ⟨Nat.le_of_ble_eq_true rfl, (fun hh => by cases hh), ?_⟩
          simp only [go_sem, reduceIte, Nat.reduceEqDiff, Nat.reduceBEq, reduceCtorEq, Nat.div_one, Nat.reduceLT, Nat.reduceLeDiff, Nat.reduceAdd, Nat.reduceSub, Nat.reduceMul, Nat.reduceDiv, Int.cast_ofNat_Int, Int.reduceAdd, Int.reduceNeg, Int.reduceEq, Int.reduceLT, Int.reduceLE, Int.reduceNe, decide_true, decide_false, bne_self_eq_false, Bool.not_false, Bool.not_true, callOut, AState.after, nen]
          refine hKY _ (hn2 _ ?_)
          simp only [go_sem, reduceIte, Nat.reduceEqDiff, Nat.reduceBEq, reduceCtorEq, Nat.div_one, Nat.reduceLT, Nat.reduceLeDiff, Nat.reduceAdd, Nat.reduceSub, Nat.reduceMul, Nat.reduceDiv, Int.cast_ofNat_Int, Int.reduceAdd, Int.reduceNeg, Int.reduceEq, Int.reduceLT, Int.reduceLE, Int.reduceNe, decide_true, decide_false, bne_self_eq_false, Bool.not_false, Bool.not_true]
          refine wlk_cond0 rfl (wlk_skip (hn1 _ ?_))
          refine wlk_sreg fun KY hKY => ?_
          simp only [go_sem, reduceIte, Nat.reduceEqDiff, Nat.reduceBEq, reduceCtorEq, Nat.div_one, Nat.reduceLT, Nat.reduceLeDiff, Nat.reduceAdd, Nat.reduceSub, Nat.reduceMul, Nat.reduceDiv, Int.cast_ofNat_Int, Int.reduceAdd, Int.reduceNeg, Int.reduceEq, Int.reduceLT, Int.reduceLE, Int.reduceNe, decide_true, decide_false, bne_self_eq_false, Bool.not_false, Bool.not_true, c_garlandlaw06_JoinAll_r21, nw1]
          rw [show (N' : Int) - 1 = (i : Int) by omega] at w1 w2 w3 w4
          refine call_gen [] [0] false none rfl (by simp only [go_sem, reduceIte, Nat.reduceEqDiff, Nat.reduceBEq, reduceCtorEq, Nat.div_one, Nat.reduceLT, Nat.reduceLeDiff, Nat.reduceAdd, Nat.reduceSub, Nat.reduceMul, Nat.reduceDiv, Int.cast_ofNat_Int, Int.reduceAdd, Int.reduceNeg, Int.reduceEq, Int.reduceLT, Int.reduceLE, Int.reduceNe, decide_true, decide_false, bne_self_eq_false, Bool.not_false, Bool.not_true]; rfl) (by simp only [go_sem, reduceIte, Nat.reduceEqDiff, Nat.reduceBEq, reduceCtorEq, Nat.div_one, Nat.reduceLT, Nat.reduceLeDiff, Nat.reduceAdd, Nat.reduceSub, Nat.reduceMul, Nat.reduceDiv, Int.cast_ofNat_Int, Int.reduceAdd, Int.reduceNeg, Int.reduceEq, Int.reduceLT, Int.reduceLE, Int.reduceNe, decide_true, decide_false, bne_self_eq_false, Bool.not_false, Bool.not_true]; rfl) rfl rfl rfl (by simp only [go_sem, reduceIte, Nat.reduceEqDiff, Nat.reduceBEq, reduceCtorEq, Nat.div_one, Nat.reduceLT, Nat.reduceLeDiff, Nat.reduceAdd, Nat.reduceSub, Nat.reduceMul, Nat.reduceDiv, Int.cast_ofNat_Int, Int.reduceAdd, Int.reduceNeg, Int.reduceEq, Int.reduceLT, Int.reduceLE, Int.reduceNe, decide_true, decide_false, bne_self_eq_false, Bool.not_false, Bool.not_true, watchIn]; rfl) (by simp only [go_sem, reduceIte, Nat.reduceEqDiff, Nat.reduceBEq, reduceCtorEq, Nat.div_one, Nat.reduceLT, Nat.reduceLeDiff, Nat.reduceAdd, Nat.reduceSub, Nat.reduceMul, Nat.reduceDiv, Int.cast_ofNat_Int, Int.reduceAdd, Int.reduceNeg, Int.reduceEq, Int.reduceLT, Int.reduceLE, Int.reduceNe, decide_true, decide_false, bne_self_eq_false, Bool.not_false, Bool.not_true]; rfl) (by simp only [go_sem, reduceIte, Nat.reduceEqDiff, Nat.reduceBEq, reduceCtorEq, Nat.div_one, Nat.reduceLT, Nat.reduceLeDiff, Nat.reduceAdd, Nat.reduceSub, Nat.reduceMul, Nat.reduceDiv, Int.cast_ofNat_Int, Int.reduceAdd, Int.reduceNeg, Int.reduceEq, Int.reduceLT, Int.reduceLE, Int.reduceNe, decide_true, decide_false, bne_self_eq_false, Bool.not_false, Bool.not_true]; rfl) ?_
          refine (unite_at up3 of N' L B r d J3 (by omega) 0 i i 2 (by omega)).mono ?_
          rintro _ _ ⟨rfl, up4, of4, r4, d4, J4, rfl⟩
          rw [w1, w2]
          unfold joinObj
          refine ⟨Nat.le_of_ble_eq_true rfl, (fun hh => by cases hh), ?_⟩
          simp only [go_sem, reduceIte, Nat.reduceEqDiff, Nat.reduceBEq, reduceCtorEq, Nat.div_one, Nat.reduceLT, Nat.reduceLeDiff, Nat.reduceAdd, Nat.reduceSub, Nat.reduceMul, Nat.reduceDiv, Int.cast_ofNat_Int, Int.reduceAdd, Int.reduceNeg, Int.reduceEq, Int.reduceLT, Int.reduceLE, Int.reduceNe, decide_true, decide_false, bne_self_eq_false, Bool.not_false, Bool.not_true, callOut, AState.after]
          refine call_view rfl (by simp only [go_sem, reduceIte, Nat.reduceEqDiff, Nat.reduceBEq, reduceCtorEq, Nat.div_one, Nat.reduceLT, Nat.reduceLeDiff, Nat.reduceAdd, Nat.reduceSub, Nat.reduceMul, Nat.reduceDiv, Int.cast_ofNat_Int, Int.reduceAdd, Int.reduceNeg, Int.reduceEq, Int.reduceLT, Int.reduceLE, Int.reduceNe, decide_true, decide_false, bne_self_eq_false, Bool.not_false, Bool.not_true]; rfl) ?_
          refine (len_ok _ _ _).mono ?_
          rintro rr hh ⟨rfl, rfl⟩
          refine ⟨rfl, rfl, rfl, ?_⟩
          simp only [go_sem, reduceIte, Nat.reduceEqDiff, Nat.reduceBEq, reduceCtorEq, Nat.div_one, Nat.reduceLT, Nat.reduceLeDiff, Nat.reduceAdd, Nat.reduceSub, Nat.reduceMul, Nat.reduceDiv, Int.cast_ofNat_Int, Int.reduceAdd, Int.reduceNeg, Int.reduceEq, Int.reduceLT, Int.reduceLE, Int.reduceNe, decide_true, decide_false, bne_self_eq_false, Bool.not_false, Bool.not_true]
          refine call_gen [] [0] false none rfl (by simp only [go_sem, reduceIte, Nat.reduceEqDiff, Nat.reduceBEq, reduceCtorEq, Nat.div_one, Nat.reduceLT, Nat.reduceLeDiff, Nat.reduceAdd, Nat.reduceSub, Nat.reduceMul, Nat.reduceDiv, Int.cast_ofNat_Int, Int.reduceAdd, Int.reduceNeg, Int.reduceEq, Int.reduceLT, Int.reduceLE, Int.reduceNe, decide_true, decide_false, bne_self_eq_false, Bool.not_false, Bool.not_true]; rfl) (by simp only [go_sem, reduceIte, Nat.reduceEqDiff, Nat.reduceBEq, reduceCtorEq, Nat.div_one, Nat.reduceLT, Nat.reduceLeDiff, Nat.reduceAdd, Nat.reduceSub, Nat.reduceMul, Nat.reduceDiv, Int.cast_ofNat_Int, Int.reduceAdd, Int.reduceNeg, Int.reduceEq, Int.reduceLT, Int.reduceLE, Int.reduceNe, decide_true, decide_false, bne_self_eq_false, Bool.not_false, Bool.not_true]; rfl) rfl rfl rfl (by simp only [go_sem, reduceIte, Nat.reduceEqDiff, Nat.reduceBEq, reduceCtorEq, Nat.div_one, Nat.reduceLT, Nat.reduceLeDiff, Nat.reduceAdd, Nat.reduceSub, Nat.reduceMul, Nat.reduceDiv, Int.cast_ofNat_Int, Int.reduceAdd, Int.reduceNeg, Int.reduceEq, Int.reduceLT, Int.reduceLE, Int.reduceNe, decide_true, decide_false, bne_self_eq_false, Bool.not_false, Bool.not_true, watchIn]; rfl) (by simp only [go_sem, reduceIte, Nat.reduceEqDiff, Nat.reduceBEq, reduceCtorEq, Nat.div_one, Nat.reduceLT, Nat.reduceLeDiff, Nat.reduceAdd, Nat.reduceSub, Nat.reduceMul, Nat.reduceDiv, Int.cast_ofNat_Int, Int.reduceAdd, Int.reduceNeg, Int.reduceEq, Int.reduceLT, Int.reduceLE, Int.reduceNe, decide_true, decide_false, bne_self_eq_false, Bool.not_false, Bool.not_true]; rfl) (by simp only [go_sem, reduceIte, Nat.reduceEqDiff, Nat.reduceBEq, reduceCtorEq, Nat.div_one, Nat.reduceLT, Nat.reduceLeDiff, Nat.reduceAdd, Nat.reduceSub, Nat.reduceMul, Nat.reduceDiv, Int.cast_ofNat_Int, Int.reduceAdd, Int.reduceNeg, Int.reduceEq, Int.reduceLT, Int.reduceLE, Int.reduceNe, decide_true, decide_false, bne_self_eq_false, Bool.not_false, Bool.not_true]; rfl) ?_
          refine (label_ok up4 of4 _ N' _ _ r4 d4 J4 0).mono ?_
          rintro _ _ ⟨rfl, up5, J5, rfl⟩
          rw [w3]
          unfold joinObj
          refine ⟨Nat.le_of_ble_eq_true rfl, (fun hh => by cases hh), ?_⟩
          simp only [go_sem, reduceIte, Nat.reduceEqDiff, Nat.reduceBEq, reduceCtorEq, Nat.div_one, Nat.reduceLT, Nat.reduceLeDiff, Nat.reduceAdd, Nat.reduceSub, Nat.reduceMul, Nat.reduceDiv, Int.cast_ofNat_Int, Int.reduceAdd, Int.reduceNeg, Int.reduceEq, Int.reduceLT, Int.reduceLE, Int.reduceNe, decide_true, decide_false, bne_self_eq_false, Bool.not_false, Bool.not_true, callOut, AState.after, nw1, eqn]
          refine call_gen [] [0] false none rfl (by simp only [go_sem, reduceIte, Nat.reduceEqDiff, Nat.reduceBEq, reduceCtorEq, Nat.div_one, Nat.reduceLT, Nat.reduceLeDiff, Nat.reduceAdd, Nat.reduceSub, Nat.reduceMul, Nat.reduceDiv, Int.cast_ofNat_Int, Int.reduceAdd, Int.reduceNeg, Int.reduceEq, Int.reduceLT, Int.reduceLE, Int.reduceNe, decide_true, decide_false, bne_self_eq_false, Bool.not_false, Bool.not_true]; rfl) (by simp only [go_sem, reduceIte, Nat.reduceEqDiff, Nat.reduceBEq, reduceCtorEq, Nat.div_one, Nat.reduceLT, Nat.reduceLeDiff, Nat.reduceAdd, Nat.reduceSub, Nat.reduceMul, Nat.reduceDiv, Int.cast_ofNat_Int, Int.reduceAdd, Int.reduceNeg, Int.reduceEq, Int.reduceLT, Int.reduceLE, Int.reduceNe, decide_true, decide_false, bne_self_eq_false, Bool.not_false, Bool.not_true]; rfl) rfl rfl rfl (by simp only [go_sem, reduceIte, Nat.reduceEqDiff, Nat.reduceBEq, reduceCtorEq, Nat.div_one, Nat.reduceLT, Nat.reduceLeDiff, Nat.reduceAdd, Nat.reduceSub, Nat.reduceMul, Nat.reduceDiv, Int.cast_ofNat_Int, Int.reduceAdd, Int.reduceNeg, Int.reduceEq, Int.reduceLT, Int.reduceLE, Int.reduceNe, decide_true, decide_false, bne_self_eq_false, Bool.not_false, Bool.not_true, watchIn]; rfl) (by simp only [go_sem, reduceIte, Nat.reduceEqDiff, Nat.reduceBEq, reduceCtorEq, Nat.div_one, Nat.reduceLT, Nat.reduceLeDiff, Nat.reduceAdd, Nat.reduceSub, Nat.reduceMul, Nat.reduceDiv, Int.cast_ofNat_Int, Int.reduceAdd, Int.reduceNeg, Int.reduceEq, Int.reduceLT, Int.reduceLE, Int.reduceNe, decide_true, decide_false, bne_self_eq_false, Bool.not_false, Bool.not_true]; rfl) (by simp only [go_sem, reduceIte, Nat.reduceEqDiff, Nat.reduceBEq, reduceCtorEq, Nat.div_one, Nat.reduceLT, Nat.reduceLeDiff, Nat.reduceAdd, Nat.reduceSub, Nat.reduceMul, Nat.reduceDiv, Int.cast_ofNat_Int, Int.reduceAdd, Int.reduceNeg, Int.reduceEq, Int.reduceLT, Int.reduceLE, Int.reduceNe, decide_true, decide_false, bne_self_eq_false, Bool.not_false, Bool.not_true]; rfl) ?_
          refine (unite_at up5 of4 N' _ _ r4 d4 J5 (by omega) 0 i 0 1 (by omega)).mono ?_
          rintro _ _ ⟨rfl, up6, of6, r6, d6, J6, rfl⟩
          rw [uni_no w4, w4, w2]
          unfold joinObj
          refine ⟨Nat.le_of_ble_eq_true rfl, (fun hh => by cases hh), ?_⟩
          simp only [go_sem, reduceIte, Nat.reduceEqDiff, Nat.reduceBEq, reduceCtorEq, Nat.div_one, Nat.reduceLT, Nat.reduceLeDiff, Nat.reduceAdd, Nat.reduceSub, Nat.reduceMul, Nat.reduceDiv, Int.cast_ofNat_Int, Int.reduceAdd, Int.reduceNeg, Int.reduceEq, Int.reduceLT, Int.reduceLE, Int.reduceNe, decide_true, decide_false, bne_self_eq_false, Bool.not_false, Bool.not_true, callOut, AState.after]
          rw [uni_no w4] at J6
          refine call_gen [] [0] false none rfl (by simp only [go_sem, reduceIte, Nat.reduceEqDiff, Nat.reduceBEq, reduceCtorEq, Nat.div_one, Nat.reduceLT, Nat.reduceLeDiff, Nat.reduceAdd, Nat.reduceSub, Nat.reduceMul, Nat.reduceDiv, Int.cast_ofNat_Int, Int.reduceAdd, Int.reduceNeg, Int.reduceEq, Int.reduceLT, Int.reduceLE, Int.reduceNe, decide_true, decide_false, bne_self_eq_false, Bool.not_false, Bool.not_true]; rfl) (by simp only [go_sem, reduceIte, Nat.reduceEqDiff, Nat.reduceBEq, reduceCtorEq, Nat.div_one, Nat.reduceLT, Nat.reduceLeDiff, Nat.reduceAdd, Nat.reduceSub, Nat.reduceMul, Nat.reduceDiv, Int.cast_ofNat_Int, Int.reduceAdd, Int.reduceNeg, Int.reduceEq, Int.reduceLT, Int.reduceLE, Int.reduceNe, decide_true, decide_false, bne_self_eq_false, Bool.not_false, Bool.not_true]; rfl) rfl rfl rfl (by simp only [go_sem, reduceIte, Nat.reduceEqDiff, Nat.reduceBEq, reduceCtorEq, Nat.div_one, Nat.reduceLT, Nat.reduceLeDiff, Nat.reduceAdd, Nat.reduceSub, Nat.reduceMul, Nat.reduceDiv, Int.cast_ofNat_Int, Int.reduceAdd, Int.reduceNeg, Int.reduceEq, Int.reduceLT, Int.reduceLE, Int.reduceNe, decide_true, decide_false, bne_self_eq_false, Bool.not_false, Bool.not_true, watchIn]; rfl) (by simp only [go_sem, reduceIte, Nat.reduceEqDiff, Nat.reduceBEq, reduceCtorEq, Nat.div_one, Nat.reduceLT, Nat.reduceLeDiff, Nat.reduceAdd, Nat.reduceSub, Nat.reduceMul, Nat.reduceDiv, Int.cast_ofNat_Int, Int.reduceAdd, Int.reduceNeg, Int.reduceEq, Int.reduceLT, Int.reduceLE, Int.reduceNe, decide_true, decide_false, bne_self_eq_false, Bool.not_false, Bool.not_true]; rfl) (by simp only [go_sem, reduceIte, Nat.reduceEqDiff, Nat.reduceBEq, reduceCtorEq, Nat.div_one, Nat.reduceLT, Nat.reduceLeDiff, Nat.reduceAdd, Nat.reduceSub, Nat.reduceMul, Nat.reduceDiv, Int.cast_ofNat_Int, Int.reduceAdd, Int.reduceNeg, Int.reduceEq, Int.reduceLT, Int.reduceLE, Int.reduceNe, decide_true, decide_false, bne_self_eq_false, Bool.not_false, Bool.not_true]; rfl) ?_
          refine (sets_ok up6 of6 _ N' _ _ r6 d6 J6 (by omega)).mono ?_
          rintro _ _ ⟨rfl, up7, J7, rfl⟩
          unfold joinObj
          refine ⟨Nat.le_of_ble_eq_true rfl, (fun hh => by cases hh), ?_⟩
          simp only [go_sem, reduceIte, Nat.reduceEqDiff, Nat.reduceBEq, reduceCtorEq, Nat.div_one, Nat.reduceLT, Nat.reduceLeDiff, Nat.reduceAdd, Nat.reduceSub, Nat.reduceMul, Nat.reduceDiv, Int.cast_ofNat_Int, Int.reduceAdd, Int.reduceNeg, Int.reduceEq, Int.reduceLT, Int.reduceLE, Int.reduceNe, decide_true, decide_false, bne_self_eq_false, Bool.not_false, Bool.not_true, callOut, AState.after, sets_len, w2]
          refine hKY _ ?_
          refine wlk_ret ?_
          simp only [go_sem, reduceIte, Nat.reduceEqDiff, Nat.reduceBEq, reduceCtorEq, Nat.div_one, Nat.reduceLT, Nat.reduceLeDiff, Nat.reduceAdd, Nat.reduceSub, Nat.reduceMul, Nat.reduceDiv, Int.cast_ofNat_Int, Int.reduceAdd, Int.reduceNeg, Int.reduceEq, Int.reduceLT, Int.reduceLE, Int.reduceNe, decide_true, decide_false, bne_self_eq_false, Bool.not_false, Bool.not_true]
      refine wlk_seq fun X6 hn6 he6 hr6 => ?_
      by_cases g : k < turns.length
      · have g1 : decide ((k : Int) < ((turns.length : Nat) : Int)) = true := decide_eq_true (by omega)
        have g2 : decide ((k : Int) < 60) = false := decide_eq_false (by omega)
        refine wlk_reg fun KY hKY => ?_
        simp only [go_sem, reduceIte, Nat.reduceEqDiff, Nat.reduceBEq, reduceCtorEq, Nat.div_one, Nat.reduceLT, Nat.reduceLeDiff, Nat.reduceAdd, Nat.reduceSub, Nat.reduceMul, Nat.reduceDiv, Int.cast_ofNat_Int, Int.reduceAdd, Int.reduceNeg, Int.reduceEq, Int.reduceLT, Int.reduceLE, Int.reduceNe, decide_true, decide_false, bne_self_eq_false, Bool.not_false, Bool.not_true, c_garlandlaw06_JoinAll_r9, g1, g2]
        refine hKY _ (hn6 _ ?_)
        simp only [go_sem, reduceIte, Nat.reduceEqDiff, Nat.reduceBEq, reduceCtorEq, Nat.div_one, Nat.reduceLT, Nat.reduceLeDiff, Nat.reduceAdd, Nat.reduceSub, Nat.reduceMul, Nat.reduceDiv, Int.cast_ofNat_Int, Int.reduceAdd, Int.reduceNeg, Int.reduceEq, Int.reduceLT, Int.reduceLE, Int.reduceNe, decide_true, decide_false, bne_self_eq_false, Bool.not_false, Bool.not_true]
        exact wlk_cond0 rfl (wlk_exit (he5 _ _ (he4 _ _ (he3 _ fin))))
      · have g1 : decide ((k : Int) < ((turns.length : Nat) : Int)) = false := decide_eq_false (by omega)
        refine wlk_reg fun KY hKY => ?_
        simp only [go_sem, reduceIte, Nat.reduceEqDiff, Nat.reduceBEq, reduceCtorEq, Nat.div_one, Nat.reduceLT, Nat.reduceLeDiff, Nat.reduceAdd, Nat.reduceSub, Nat.reduceMul, Nat.reduceDiv, Int.cast_ofNat_Int, Int.reduceAdd, Int.reduceNeg, Int.reduceEq, Int.reduceLT, Int.reduceLE, Int.reduceNe, decide_true, decide_false, bne_self_eq_false, Bool.not_false, Bool.not_true, c_garlandlaw06_JoinAll_r9, g1]
        refine hKY _ (hn6 _ ?_)
        simp only [go_sem, reduceIte, Nat.reduceEqDiff, Nat.reduceBEq, reduceCtorEq, Nat.div_one, Nat.reduceLT, Nat.reduceLeDiff, Nat.reduceAdd, Nat.reduceSub, Nat.reduceMul, Nat.reduceDiv, Int.cast_ofNat_Int, Int.reduceAdd, Int.reduceNeg, Int.reduceEq, Int.reduceLT, Int.reduceLE, Int.reduceNe, decide_true, decide_false, bne_self_eq_false, Bool.not_false, Bool.not_true]
        exact wlk_cond0 rfl (wlk_exit (he5 _ _ (he4 _ _ (he3 _ fin))))
end Go.Proofs.Yticfnlclbmibeaa

/- Sets hang not on the order in which pairs are united: plain. -/
namespace Go.Ga.Jn

/-- Pairs of numbers below n, and labels. -/
def Rng (n : Nat) (p : Int × Int × Int) : Prop := (0 ≤ p.1 ∧ p.1 < n) ∧ (0 ≤ p.2.1 ∧ p.2.1 < n) ∧ (0 ≤ p.2.2 ∧ p.2.2 < n)

/-- What such pairs unite, and nothing else. -/
structure Ord (n : Nat) (E : List (Int × Int × Int)) (L : List Nat) : Prop where
  len : L.length = n
  W : WF L
  rng : ∀ p ∈ E, Rng n p
  on : ∀ p ∈ E, L.getD p.1.toNat 0 = L.getD p.2.1.toNat 0
  all : ∀ f : Nat → Nat, (∀ p ∈ E, f p.1.toNat = f p.2.1.toNat) → ∀ a b, a < n → b < n → L.getD a 0 = L.getD b 0 → f a = f b

theorem Ord.new (n : Nat) : Ord n [] (List.range n) := by
  have g : ∀ k, k < n → (List.range n).getD k 0 = k := fun k hk => by simp [List.getD_eq_getElem?_getD, hk]
  refine ⟨List.length_range, WF.idn n, fun p h => absurd h (by simp), fun p h => absurd h (by simp), fun f _ a b ha hb h => ?_⟩
  rw [g a ha, g b hb] at h
  rw [h]

theorem Ord.more {n : Nat} {E : List (Int × Int × Int)} {L : List Nat} (h : Ord n E L) (B : List Nat) {x : Int × Int × Int} (hx : Rng n x) : Ord n (E ++ [x]) (uni (L, B) x.1 x.2.1 x.2.2).1 := by
  obtain ⟨a, b, l⟩ := x
  obtain ⟨⟨a0, a1⟩, ⟨b0, b1⟩, ⟨l0, l1⟩⟩ := hx
  have hl := h.len
  simp only at a0 a1 b0 b1 l0 l1 ⊢
  obtain ⟨a, rfl⟩ := Int.eq_ofNat_of_zero_le a0
  obtain ⟨b, rfl⟩ := Int.eq_ofNat_of_zero_le b0
  obtain ⟨l, rfl⟩ := Int.eq_ofNat_of_zero_le l0
  have hr : ∀ p ∈ E ++ [((a : Int), (b : Int), (l : Int))], Rng n p := by
    intro p hp
    rcases List.mem_append.1 hp with g | g
    · exact h.rng p g
    · rw [List.mem_singleton.1 g]; exact ⟨⟨a0, a1⟩, ⟨b0, b1⟩, ⟨l0, l1⟩⟩
  by_cases hm : may L a b l = true
  · rw [uni_yes hm]
    refine ⟨by rw [uL_len]; exact hl, h.W.uni (by omega) (by omega), hr, ?_, ?_⟩
    · intro p hp
      show (uL L (L.getD a 0) (L.getD b 0)).getD p.1.toNat 0 = (uL L (L.getD a 0) (L.getD b 0)).getD p.2.1.toNat 0
      rcases List.mem_append.1 hp with g | g
      · have e := h.on p g
        have r := h.rng p g
        unfold Rng at r
        exact (uL_rel (by omega) (by omega)).2 (.inl e)
      · rw [List.mem_singleton.1 g]
        simp only [Int.toNat_natCast]
        exact (uL_rel (by omega) (by omega)).2 (.inr ⟨.inl rfl, .inr rfl⟩)
    · intro f hf u v hu hv e
      have hf1 : ∀ p ∈ E, f p.1.toNat = f p.2.1.toNat := fun p hp => hf p (List.mem_append_left _ hp)
      have hf2 : f a = f b := hf (_, _, _) (List.mem_append_right _ (List.mem_singleton.2 rfl))
      have ga := fun w hw => h.all f hf1 w a hw (by omega)
      have gb := fun w hw => h.all f hf1 w b hw (by omega)
      rcases (uL_rel (by omega) (by omega)).1 e with e | ⟨e1 | e1, e2 | e2⟩
      · exact h.all f hf1 u v hu hv e
      · exact (ga u hu e1).trans (ga v hv e2).symm
      · exact (ga u hu e1).trans (hf2.trans (gb v hv e2).symm)
      · exact (gb u hu e1).trans (hf2.symm.trans (ga v hv e2).symm)
      · exact (gb u hu e1).trans (gb v hv e2).symm
  · have hm : may L a b l = false := by simpa using hm
    rw [uni_no hm]
    have e : L.getD a 0 = L.getD b 0 := by
      rw [may_nat] at hm
      have := of_decide_eq_false hm
      by_cases g : L.getD a 0 = L.getD b 0
      · exact g
      · exact absurd ⟨by omega, by omega, by omega, g⟩ this
    refine ⟨hl, h.W, hr, ?_, fun f hf => h.all f fun p hp => hf p (List.mem_append_left _ hp)⟩
    intro p hp
    rcases List.mem_append.1 hp with g | g
    · exact h.on p g
    · rw [List.mem_singleton.1 g]; exact e

theorem Ord.eq {n : Nat} {E E' : List (Int × Int × Int)} {L L' : List Nat} (h : Ord n E L) (h' : Ord n E' L') (he : ∀ p, p ∈ E ↔ p ∈ E') : L = L' := by
  have le : ∀ {E E' : List (Int × Int × Int)} {L L' : List Nat}, Ord n E L → Ord n E' L' → (∀ p, p ∈ E ↔ p ∈ E') → ∀ k, k < n → L'.getD k 0 ≤ L.getD k 0 := by
    intro E E' L L' h h' he k hk
    have hl := h.len
    have hl' := h'.len
    have l1 := h.W.le k (by omega)
    have f1 := h.W.fx k (by omega)
    have e := h.all (fun q => L'.getD q 0) (fun p hp => h'.on p ((he p).1 hp)) (L.getD k 0) k (by omega) hk f1
    have l2 := h'.W.le (L.getD k 0) (by omega)
    have e : L'.getD (L.getD k 0) 0 = L'.getD k 0 := e
    omega
  have hl := h.len
  have hl' := h'.len
  refine List.ext_getElem (by omega) fun k h1 h2 => ?_
  have a1 := le h h' he k (by omega)
  have a2 := le h' h (fun p => (he p).symm) k (by omega)
  simp only [List.getD_eq_getElem?_getD, List.getElem?_eq_getElem h1, List.getElem?_eq_getElem h2, Option.getD_some] at a1 a2
  omega

theorem swap_perm' {α : Type} {l : List α} {i j : Nat} {x y : α} (hi : l[i]? = some x) (hj : l[j]? = some y) : ((l.set i y).set j x).Perm l := by
  obtain ⟨h1, e1⟩ := List.getElem?_eq_some_iff.1 hi
  obtain ⟨h2, e2⟩ := List.getElem?_eq_some_iff.1 hj
  rw [← e1, ← e2]
  exact List.set_set_perm h1 h2
end Go.Ga.Jn
