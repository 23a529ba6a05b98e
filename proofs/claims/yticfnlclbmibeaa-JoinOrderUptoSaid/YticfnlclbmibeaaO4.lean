/- Sets hang not on the order in which pairs are united. No condition. -/
import Derived.Test.YticfnlclbmibeaaO3
import Derived.Test.YticfnlclbmibeaaGa5
import Derived.WalkKit
import Derived.ProofKit
import Derived.OpenShut
import Derived.JoinedCond
set_option linter.all false

set_option maxRecDepth 100000
namespace Go.Proofs.Yticfnlclbmibeaa
open Go Go.Ga Go.Ga.Jn

theorem tris_snoc (l : List (Int × Int × Int)) (a b c : Int) : tris l ++ [.sc (.int .i64 a), .sc (.int .i64 b), .sc (.int .i64 c)] = tris (l ++ [(a, b, c)]) := by
  induction l with
  | nil => rfl
  | cons x l ih =>
    show tri x ++ packs tri l ++ _ = tri x ++ packs tri (l ++ [(a, b, c)])
    rw [List.append_assoc]
    exact congrArg (tri x ++ ·) ih

set_option maxHeartbeats 2000000 in
theorem order_ok (n : Int) (l : List (Int × Int × Int)) (turns : List Int) (hl : l.length ≤ 10000000) (ht : turns.length ≤ 10000000) : ACalls Try.prog [] n_garlandlaw06_JoinOrder [.sc (.int .i64 n), .imm 3 (tris l), .imm 1 (ints turns)] [] fun r _ => r = .sc (.bool true) := by
  obtain ⟨m, hm, hnm⟩ := umod n 40 (by decide) (by decide)
  have hnm : IntKind.i64.wrap ((IntKind.u64.wrap n).tmod 40) = (m : Int) := hnm
  obtain ⟨N, hN, hN0, nw, nu⟩ : ∃ N : Nat, N ≤ 40 ∧ 0 < N ∧ IntKind.i64.wrap (1 + (m : Int)) = (N : Int) ∧ IntKind.u64.wrap (N : Int) = (N : Int) :=
    ⟨m + 1, by omega, by omega, by rw [IntWalk.i64_in _ (by omega)]; omega, uself _ (by omega)⟩
  have kz := nz N hN0
  refine go_garlandlaw06_JoinOrder rfl ?_
  unfold c_garlandlaw06_JoinOrder v_garlandlaw06_JoinOrder
  refine wlk_sreg fun KY hKY => ?_
  simp only [go_sem, reduceIte, Nat.reduceEqDiff, Nat.reduceBEq, reduceCtorEq, Nat.div_one, Nat.reduceLT, Nat.reduceLeDiff, Nat.reduceAdd, Nat.reduceSub, Nat.reduceMul, Nat.reduceDiv, Int.cast_ofNat_Int, Int.reduceAdd, Int.reduceNeg, Int.reduceEq, Int.reduceLT, Int.reduceLE, Int.reduceNe, decide_true, decide_false, bne_self_eq_false, Bool.not_false, Bool.not_true, c_garlandlaw06_JoinOrder_r0]
  refine hKY _ ?_
  refine wlk_sreg fun KY hKY => ?_
  simp only [go_sem, reduceIte, Nat.reduceEqDiff, Nat.reduceBEq, reduceCtorEq, Nat.div_one, Nat.reduceLT, Nat.reduceLeDiff, Nat.reduceAdd, Nat.reduceSub, Nat.reduceMul, Nat.reduceDiv, Int.cast_ofNat_Int, Int.reduceAdd, Int.reduceNeg, Int.reduceEq, Int.reduceLT, Int.reduceLE, Int.reduceNe, decide_true, decide_false, bne_self_eq_false, Bool.not_false, Bool.not_true, c_garlandlaw06_JoinOrder_r1, hnm, nw]
  refine hKY _ ?_
  refine wlk_sreg fun KY hKY => ?_
  simp only [go_sem, reduceIte, Nat.reduceEqDiff, Nat.reduceBEq, reduceCtorEq, Nat.div_one, Nat.reduceLT, Nat.reduceLeDiff, Nat.reduceAdd, Nat.reduceSub, Nat.reduceMul, Nat.reduceDiv, Int.cast_ofNat_Int, Int.reduceAdd, Int.reduceNeg, Int.reduceEq, Int.reduceLT, Int.reduceLE, Int.reduceNe, decide_true, decide_false, bne_self_eq_false, Bool.not_false, Bool.not_true, c_garlandlaw06_JoinOrder_r2]
  refine hKY _ ?_
  refine sem_nil [0, 7] 3 (by simp only [go_sem, reduceIte, Nat.reduceEqDiff, Nat.reduceBEq, reduceCtorEq, Nat.div_one, Nat.reduceLT, Nat.reduceLeDiff, Nat.reduceAdd, Nat.reduceSub, Nat.reduceMul, Nat.reduceDiv, Int.cast_ofNat_Int, Int.reduceAdd, Int.reduceNeg, Int.reduceEq, Int.reduceLT, Int.reduceLE, Int.reduceNe, decide_true, decide_false, bne_self_eq_false, Bool.not_false, Bool.not_true]) ?_
  simp only [go_sem, reduceIte, Nat.reduceEqDiff, Nat.reduceBEq, reduceCtorEq, Nat.div_one, Nat.reduceLT, Nat.reduceLeDiff, Nat.reduceAdd, Nat.reduceSub, Nat.reduceMul, Nat.reduceDiv, Int.cast_ofNat_Int, Int.reduceAdd, Int.reduceNeg, Int.reduceEq, Int.reduceLT, Int.reduceLE, Int.reduceNe, decide_true, decide_false, bne_self_eq_false, Bool.not_false, Bool.not_true]
  refine wlk_seq fun X1 hn1 he1 hr1 => ?_
  refine wlk_seq fun X2 hn2 he2 hr2 => ?_
  refine wlk_reg fun KY hKY => ?_
  simp only [go_sem, reduceIte, Nat.reduceEqDiff, Nat.reduceBEq, reduceCtorEq, Nat.div_one, Nat.reduceLT, Nat.reduceLeDiff, Nat.reduceAdd, Nat.reduceSub, Nat.reduceMul, Nat.reduceDiv, Int.cast_ofNat_Int, Int.reduceAdd, Int.reduceNeg, Int.reduceEq, Int.reduceLT, Int.reduceLE, Int.reduceNe, decide_true, decide_false, bne_self_eq_false, Bool.not_false, Bool.not_true, c_garlandlaw06_JoinOrder_r3]
  refine hKY _ (hn2 _ ?_)
  refine wlk_blk fun X3 hn3 he3 hf3 hr3 => ?_
  refine wlk_loop (fun q s => ∃ (i : Nat) (so : List (Int × Int × Int)) (A28 : AVal), i ≤ l.length ∧ q = l.length - i ∧ so.length = i ∧ (∀ p ∈ so, Rng N p) ∧ s = { vs := [(0, .sc (.int .i64 (N : Int))), (1, .imm 3 (tris l)), (2, .imm 1 (ints turns)), (6, .sc (.bool false)), (7, .own (some 3) (tris so)), (8, .sc (.int .i64 (i : Int))), (9, .dead), (10, .dead), (11, .dead), (12, .dead), (13, .dead), (14, .dead), (15, .dead), (28, A28), (79, .dead), (119, .dead), (172, .dead), (176, .dead), (206, .dead)], ts := [], h := [] }) l.length ⟨0, [], .dead, Nat.zero_le _, rfl, rfl, fun p hp => absurd hp (by simp), ?_⟩ ?_
  · rfl
  rintro q _ ⟨i, so, A28, hi, rfl, hso, hR, rfl⟩ X4 hn4 he4 hr4
  refine sem_forget [28] rfl ?_
  simp only [go_sem, reduceIte, Nat.reduceEqDiff, Nat.reduceBEq, reduceCtorEq, Nat.div_one, Nat.reduceLT, Nat.reduceLeDiff, Nat.reduceAdd, Nat.reduceSub, Nat.reduceMul, Nat.reduceDiv, Int.cast_ofNat_Int, Int.reduceAdd, Int.reduceNeg, Int.reduceEq, Int.reduceLT, Int.reduceLE, Int.reduceNe, decide_true, decide_false, bne_self_eq_false, Bool.not_false, Bool.not_true]
  refine wlk_seq fun X5 hn5 he5 hr5 => ?_
  by_cases h1 : i < l.length ∧ i < 40
  · have g1 : decide ((i : Int) < ((l.length : Nat) : Int)) = true := decide_eq_true (by omega)
    have g2 : decide ((i : Int) < 40) = true := decide_eq_true (by omega)
    have hx : l[i]? = some l[i] := List.getElem?_eq_getElem h1.1
    generalize l[i] = x at hx
    obtain ⟨xa, xb, xl⟩ := x
    have t0 := tri_get0 hx
    have t1 := tri_get1 hx
    have t2 := tri_get2 hx
    obtain ⟨a, ha, ea⟩ := umod xa N hN0 (by omega)
    obtain ⟨b, hb, eb⟩ := umod xb N hN0 (by omega)
    obtain ⟨c, hc, ec⟩ := umod xl N hN0 (by omega)
    refine wlk_seq fun X6 hn6 he6 hr6 => ?_
    refine wlk_reg fun KY hKY => ?_
    simp only [go_sem, reduceIte, Nat.reduceEqDiff, Nat.reduceBEq, reduceCtorEq, Nat.div_one, Nat.reduceLT, Nat.reduceLeDiff, Nat.reduceAdd, Nat.reduceSub, Nat.reduceMul, Nat.reduceDiv, Int.cast_ofNat_Int, Int.reduceAdd, Int.reduceNeg, Int.reduceEq, Int.reduceLT, Int.reduceLE, Int.reduceNe, decide_true, decide_false, bne_self_eq_false, Bool.not_false, Bool.not_true, c_garlandlaw06_JoinOrder_r4, g1, g2, Nat.mul_div_cancel _ (show 0 < 3 by decide)]
    refine hKY _ (hn6 _ ?_)
    simp only [go_sem, reduceIte, Nat.reduceEqDiff, Nat.reduceBEq, reduceCtorEq, Nat.div_one, Nat.reduceLT, Nat.reduceLeDiff, Nat.reduceAdd, Nat.reduceSub, Nat.reduceMul, Nat.reduceDiv, Int.cast_ofNat_Int, Int.reduceAdd, Int.reduceNeg, Int.reduceEq, Int.reduceLT, Int.reduceLE, Int.reduceNe, decide_true, decide_false, bne_self_eq_false, Bool.not_false, Bool.not_true]
    refine wlk_cond1 rfl (wlk_skip (hn5 _ ?_))
    refine wlk_seq fun X7 hn7 he7 hr7 => ?_
    refine wlk_blk fun X8 hn8 he8 hf8 hr8 => ?_
    have b1 : i * 3 + 2 < l.length * 3 := by omega
    have b2 : 3 ≤ l.length * 3 - i * 3 := by omega
    have b3 : (so.length * 3 + 3) * 24 ≤ 140737488355328 := by omega
    have b4 : i < l.length := h1.1
    refine wlk_draw fun KY hKY => ?_
    simp only [go_sem, reduceIte, Nat.reduceEqDiff, Nat.reduceBEq, reduceCtorEq, Nat.div_one, Nat.reduceLT, Nat.reduceLeDiff, Nat.reduceAdd, Nat.reduceSub, Nat.reduceMul, Nat.reduceDiv, Int.cast_ofNat_Int, Int.reduceAdd, Int.reduceNeg, Int.reduceEq, Int.reduceLT, Int.reduceLE, Int.reduceNe, decide_true, decide_false, bne_self_eq_false, Bool.not_false, Bool.not_true, c_garlandlaw06_JoinOrder_r5, b1, b2, b3, b4, t0, t1, t2, nu, kz, ea, eb, ec, List.length_drop, tris_snoc]
    refine hKY _ (hn8 _ (hn7 _ ?_))
    refine wlk_reg fun KY hKY => ?_
    simp only [go_sem, reduceIte, Nat.reduceEqDiff, Nat.reduceBEq, reduceCtorEq, Nat.div_one, Nat.reduceLT, Nat.reduceLeDiff, Nat.reduceAdd, Nat.reduceSub, Nat.reduceMul, Nat.reduceDiv, Int.cast_ofNat_Int, Int.reduceAdd, Int.reduceNeg, Int.reduceEq, Int.reduceLT, Int.reduceLE, Int.reduceNe, decide_true, decide_false, bne_self_eq_false, Bool.not_false, Bool.not_true, c_garlandlaw06_JoinOrder_r6, inc i (by omega)]
    refine hKY _ (hn4 (l.length - (i + 1)) _ (by omega) ?_)
    simp only [go_sem, reduceIte, Nat.reduceEqDiff, Nat.reduceBEq, reduceCtorEq, Nat.div_one, Nat.reduceLT, Nat.reduceLeDiff, Nat.reduceAdd, Nat.reduceSub, Nat.reduceMul, Nat.reduceDiv, Int.cast_ofNat_Int, Int.reduceAdd, Int.reduceNeg, Int.reduceEq, Int.reduceLT, Int.reduceLE, Int.reduceNe, decide_true, decide_false, bne_self_eq_false, Bool.not_false, Bool.not_true]
    refine ⟨i + 1, so ++ [((a : Int), (b : Int), (c : Int))], _, by omega, rfl, by rw [List.length_append, hso]; rfl, fun p hp => ?_, rfl⟩
    rcases List.mem_append.1 hp with g | g
    · exact hR p g
    · rw [List.mem_singleton.1 g]
      exact ⟨⟨by simp only; omega, by simp only; omega⟩, ⟨by simp only; omega, by simp only; omega⟩, ⟨by simp only; omega, by simp only; omega⟩⟩
  · have hso40 : so.length ≤ 10000000 := by omega
    have fin : X1 .normal { vs := [(0, .sc (.int .i64 (N : Int))), (1, .imm 3 (tris l)), (2, .imm 1 (ints turns)), (6, .sc (.bool false)), (7, .own (some 3) (tris so)), (8, .sc (.int .i64 (i : Int))), (9, .dead), (10, .dead), (11, .dead), (12, .dead), (13, .dead), (14, .dead), (15, .dead), (28, .sc (.bool false)), (79, .dead), (119, .dead), (172, .dead), (176, .dead), (206, .dead)], ts := [], h := [] } := by
      refine hn1 _ ?_
      clear hn1 he1 hr1 hn2 he2 hr2 hn3 he3 hf3 hr3 hn4 he4 hr4 hn5 he5 hr5
      have b3 : (so.length * 3) * 24 ≤ 140737488355328 := by omega
      refine wlk_sreg fun KY hKY => ?_
      simp only [go_sem, reduceIte, Nat.reduceEqDiff, Nat.reduceBEq, reduceCtorEq, Nat.div_one, Nat.reduceLT, Nat.reduceLeDiff, Nat.reduceAdd, Nat.reduceSub, Nat.reduceMul, Nat.reduceDiv, Int.cast_ofNat_Int, Int.reduceAdd, Int.reduceNeg, Int.reduceEq, Int.reduceLT, Int.reduceLE, Int.reduceNe, decide_true, decide_false, bne_self_eq_false, Bool.not_false, Bool.not_true, c_garlandlaw06_JoinOrder_r7, b3, isNilSl]
      refine hKY _ ?_
      refine wlk_seq fun X1 hn1 he1 hr1 => ?_
      refine wlk_seq fun X2 hn2 he2 hr2 => ?_
      refine wlk_reg fun KY hKY => ?_
      simp only [go_sem, reduceIte, Nat.reduceEqDiff, Nat.reduceBEq, reduceCtorEq, Nat.div_one, Nat.reduceLT, Nat.reduceLeDiff, Nat.reduceAdd, Nat.reduceSub, Nat.reduceMul, Nat.reduceDiv, Int.cast_ofNat_Int, Int.reduceAdd, Int.reduceNeg, Int.reduceEq, Int.reduceLT, Int.reduceLE, Int.reduceNe, decide_true, decide_false, bne_self_eq_false, Bool.not_false, Bool.not_true, c_garlandlaw06_JoinOrder_r8]
      refine hKY _ (hn2 _ ?_)
      refine wlk_blk fun X3 hn3 he3 hf3 hr3 => ?_
      refine wlk_loop (fun q s => ∃ (k : Nat) (ot : List (Int × Int × Int)) (A11 A79 : AVal), k ≤ turns.length ∧ q = turns.length - k ∧ ot.Perm so ∧ s = { vs := [(0, .sc (.int .i64 (N : Int))), (1, .imm 3 (tris l)), (2, .imm 1 (ints turns)), (6, .sc (.bool false)), (7, .own (some 3) (tris so)), (8, .sc (.int .i64 (i : Int))), (9, .own (some 3) (tris ot)), (10, .sc (.int .i64 (k : Int))), (11, A11), (12, .dead), (13, .dead), (14, .dead), (15, .dead), (28, .sc (.bool false)), (79, A79), (119, .dead), (172, .dead), (176, .dead), (206, .dead)], ts := [], h := [] }) turns.length ⟨0, so, .dead, .dead, Nat.zero_le _, rfl, .refl _, ?_⟩ ?_
      · rfl
      rintro q _ ⟨k, ot, A11, A79, hk, rfl, hp, rfl⟩ X4 hn4 he4 hr4
      refine sem_forget [11, 79] rfl ?_
      simp only [go_sem, reduceIte, Nat.reduceEqDiff, Nat.reduceBEq, reduceCtorEq, Nat.div_one, Nat.reduceLT, Nat.reduceLeDiff, Nat.reduceAdd, Nat.reduceSub, Nat.reduceMul, Nat.reduceDiv, Int.cast_ofNat_Int, Int.reduceAdd, Int.reduceNeg, Int.reduceEq, Int.reduceLT, Int.reduceLE, Int.reduceNe, decide_true, decide_false, bne_self_eq_false, Bool.not_false, Bool.not_true]
      have hot : ot.length = so.length := hp.length_eq
      refine wlk_seq fun X5 hn5 he5 hr5 => ?_
      by_cases h1 : (k < turns.length ∧ k < 60) ∧ 0 < so.length
      · have g1 : decide ((k : Int) < ((turns.length : Nat) : Int)) = true := decide_eq_true (by omega)
        have g2 : decide ((k : Int) < 60) = true := decide_eq_true (by omega)
        have g3 : decide ((so.length : Int) > 0) = true := decide_eq_true (by omega)
        refine wlk_seq fun X6 hn6 he6 hr6 => ?_
        refine wlk_reg fun KY hKY => ?_
        simp only [go_sem, reduceIte, Nat.reduceEqDiff, Nat.reduceBEq, reduceCtorEq, Nat.div_one, Nat.reduceLT, Nat.reduceLeDiff, Nat.reduceAdd, Nat.reduceSub, Nat.reduceMul, Nat.reduceDiv, Int.cast_ofNat_Int, Int.reduceAdd, Int.reduceNeg, Int.reduceEq, Int.reduceLT, Int.reduceLE, Int.reduceNe, decide_true, decide_false, bne_self_eq_false, Bool.not_false, Bool.not_true, c_garlandlaw06_JoinOrder_r9, g1, g2, g3, hot, Nat.mul_div_cancel _ (show 0 < 3 by decide)]
        refine hKY _ (hn6 _ ?_)
        simp only [go_sem, reduceIte, Nat.reduceEqDiff, Nat.reduceBEq, reduceCtorEq, Nat.div_one, Nat.reduceLT, Nat.reduceLeDiff, Nat.reduceAdd, Nat.reduceSub, Nat.reduceMul, Nat.reduceDiv, Int.cast_ofNat_Int, Int.reduceAdd, Int.reduceNeg, Int.reduceEq, Int.reduceLT, Int.reduceLE, Int.reduceNe, decide_true, decide_false, bne_self_eq_false, Bool.not_false, Bool.not_true]
        refine wlk_cond1 rfl (wlk_skip (hn5 _ ?_))
        obtain ⟨M, hM⟩ : ∃ M, M = so.length := ⟨_, rfl⟩
        have hot' : ot.length = M := by omega
        have M0 : 0 < M := by omega
        have M1 : M ≤ 1000000000000 := by omega
        have mz := nz M M0
        have mu := uself M M1
        obtain ⟨j, hj, hjm⟩ := umod (turns.getD k 0) M M0 M1
        have kp := Nat.mod_lt k M0
        have tm := tmod_nat k M
        refine wlk_seq fun X7 hn7 he7 hr7 => ?_
        refine wlk_blk fun X8 hn8 he8 hf8 hr8 => ?_
        have h2 := h1.1.1
        refine wlk_sreg fun KY hKY => ?_
        simp only [go_sem, reduceIte, Nat.reduceEqDiff, Nat.reduceBEq, reduceCtorEq, Nat.div_one, Nat.reduceLT, Nat.reduceLeDiff, Nat.reduceAdd, Nat.reduceSub, Nat.reduceMul, Nat.reduceDiv, Int.cast_ofNat_Int, Int.reduceAdd, Int.reduceNeg, Int.reduceEq, Int.reduceLT, Int.reduceLE, Int.reduceNe, decide_true, decide_false, bne_self_eq_false, Bool.not_false, Bool.not_true, c_garlandlaw06_JoinOrder_r10, ints_get h2, h2, hot', mu, mz, hjm, Nat.mul_div_cancel _ (show 0 < 3 by decide)]
        refine hKY _ ?_
        generalize k % M = p at kp tm
        have hx : ot[p]? = some ot[p] := List.getElem?_eq_getElem (by omega)
        have hy : ot[j]? = some ot[j] := List.getElem?_eq_getElem (by omega)
        generalize ot[p] = x at hx
        generalize ot[j] = y at hy
        obtain ⟨xa, xb, xl⟩ := x
        obtain ⟨ya, yb, yl⟩ := y
        have cx : ((tris ot).drop (p * 3)).take 3 = [.sc (.int .i64 xa), .sc (.int .i64 xb), .sc (.int .i64 xl)] := packs_cells tri_len hx
        have cy : ((tris ot).drop (j * 3)).take 3 = [.sc (.int .i64 ya), .sc (.int .i64 yb), .sc (.int .i64 yl)] := packs_cells tri_len hy
        have s1 := tri_set (l := ot) (k := p) (by omega) ya yb yl
        have s2 := tri_set (l := ot.set p (ya, yb, yl)) (k := j) (by rw [List.length_set]; omega) xa xb xl
        have b1 : p * 3 + 2 < M * 3 := by omega
        have b2 : 3 ≤ M * 3 - p * 3 := by omega
        have b1' : j * 3 + 2 < M * 3 := by omega
        have b2' : 3 ≤ M * 3 - j * 3 := by omega
        refine wlk_draw fun KY hKY => ?_
        simp only [go_sem, reduceIte, Nat.reduceEqDiff, Nat.reduceBEq, reduceCtorEq, Nat.div_one, Nat.reduceLT, Nat.reduceLeDiff, Nat.reduceAdd, Nat.reduceSub, Nat.reduceMul, Nat.reduceDiv, Int.cast_ofNat_Int, Int.reduceAdd, Int.reduceNeg, Int.reduceEq, Int.reduceLT, Int.reduceLE, Int.reduceNe, decide_true, decide_false, bne_self_eq_false, Bool.not_false, Bool.not_true, c_garlandlaw06_JoinOrder_r11, aggOf, hot', mz, tm, cx, cy, s1, s2, b1, b2, b1', b2', hj, kp, List.length_set, List.length_drop, Nat.mul_div_cancel _ (show 0 < 3 by decide)]
        refine hKY _ (hn8 _ (hn7 _ ?_))
        refine wlk_reg fun KY hKY => ?_
        simp only [go_sem, reduceIte, Nat.reduceEqDiff, Nat.reduceBEq, reduceCtorEq, Nat.div_one, Nat.reduceLT, Nat.reduceLeDiff, Nat.reduceAdd, Nat.reduceSub, Nat.reduceMul, Nat.reduceDiv, Int.cast_ofNat_Int, Int.reduceAdd, Int.reduceNeg, Int.reduceEq, Int.reduceLT, Int.reduceLE, Int.reduceNe, decide_true, decide_false, bne_self_eq_false, Bool.not_false, Bool.not_true, c_garlandlaw06_JoinOrder_r12, inc k (by omega)]
        refine hKY _ (hn4 (turns.length - (k + 1)) _ (by omega) ?_)
        simp only [go_sem, reduceIte, Nat.reduceEqDiff, Nat.reduceBEq, reduceCtorEq, Nat.div_one, Nat.reduceLT, Nat.reduceLeDiff, Nat.reduceAdd, Nat.reduceSub, Nat.reduceMul, Nat.reduceDiv, Int.cast_ofNat_Int, Int.reduceAdd, Int.reduceNeg, Int.reduceEq, Int.reduceLT, Int.reduceLE, Int.reduceNe, decide_true, decide_false, bne_self_eq_false, Bool.not_false, Bool.not_true]
        exact ⟨k + 1, _, _, _, by omega, rfl, (swap_perm' hx hy).trans hp, rfl⟩
      · have fin2 : X1 .normal { vs := [(0, .sc (.int .i64 (N : Int))), (1, .imm 3 (tris l)), (2, .imm 1 (ints turns)), (6, .sc (.bool false)), (7, .own (some 3) (tris so)), (8, .sc (.int .i64 (i : Int))), (9, .own (some 3) (tris ot)), (10, .sc (.int .i64 (k : Int))), (11, .dead), (12, .dead), (13, .dead), (14, .dead), (15, .dead), (28, .sc (.bool false)), (79, .sc (.bool false)), (119, .dead), (172, .dead), (176, .dead), (206, .dead)], ts := [], h := [] } := by
          refine hn1 _ ?_
          clear hn1 he1 hr1 hn2 he2 hr2 hn3 he3 hf3 hr3 hn4 he4 hr4 hn5 he5 hr5
          refine wlk_sreg fun KY hKY => ?_
          simp only [go_sem, reduceIte, Nat.reduceEqDiff, Nat.reduceBEq, reduceCtorEq, Nat.div_one, Nat.reduceLT, Nat.reduceLeDiff, Nat.reduceAdd, Nat.reduceSub, Nat.reduceMul, Nat.reduceDiv, Int.cast_ofNat_Int, Int.reduceAdd, Int.reduceNeg, Int.reduceEq, Int.reduceLT, Int.reduceLE, Int.reduceNe, decide_true, decide_false, bne_self_eq_false, Bool.not_false, Bool.not_true, c_garlandlaw06_JoinOrder_r13]
          refine call_gen [] [] false none rfl (by simp only [go_sem, reduceIte, Nat.reduceEqDiff, Nat.reduceBEq, reduceCtorEq, Nat.div_one, Nat.reduceLT, Nat.reduceLeDiff, Nat.reduceAdd, Nat.reduceSub, Nat.reduceMul, Nat.reduceDiv, Int.cast_ofNat_Int, Int.reduceAdd, Int.reduceNeg, Int.reduceEq, Int.reduceLT, Int.reduceLE, Int.reduceNe, decide_true, decide_false, bne_self_eq_false, Bool.not_false, Bool.not_true]; rfl) (by simp only [go_sem, reduceIte, Nat.reduceEqDiff, Nat.reduceBEq, reduceCtorEq, Nat.div_one, Nat.reduceLT, Nat.reduceLeDiff, Nat.reduceAdd, Nat.reduceSub, Nat.reduceMul, Nat.reduceDiv, Int.cast_ofNat_Int, Int.reduceAdd, Int.reduceNeg, Int.reduceEq, Int.reduceLT, Int.reduceLE, Int.reduceNe, decide_true, decide_false, bne_self_eq_false, Bool.not_false, Bool.not_true]; rfl) rfl rfl rfl (by simp only [go_sem, reduceIte, Nat.reduceEqDiff, Nat.reduceBEq, reduceCtorEq, Nat.div_one, Nat.reduceLT, Nat.reduceLeDiff, Nat.reduceAdd, Nat.reduceSub, Nat.reduceMul, Nat.reduceDiv, Int.cast_ofNat_Int, Int.reduceAdd, Int.reduceNeg, Int.reduceEq, Int.reduceLT, Int.reduceLE, Int.reduceNe, decide_true, decide_false, bne_self_eq_false, Bool.not_false, Bool.not_true, watchIn]; rfl) (by simp only [go_sem, reduceIte, Nat.reduceEqDiff, Nat.reduceBEq, reduceCtorEq, Nat.div_one, Nat.reduceLT, Nat.reduceLeDiff, Nat.reduceAdd, Nat.reduceSub, Nat.reduceMul, Nat.reduceDiv, Int.cast_ofNat_Int, Int.reduceAdd, Int.reduceNeg, Int.reduceEq, Int.reduceLT, Int.reduceLE, Int.reduceNe, decide_true, decide_false, bne_self_eq_false, Bool.not_false, Bool.not_true]; rfl) (by simp only [go_sem, reduceIte, Nat.reduceEqDiff, Nat.reduceBEq, reduceCtorEq, Nat.div_one, Nat.reduceLT, Nat.reduceLeDiff, Nat.reduceAdd, Nat.reduceSub, Nat.reduceMul, Nat.reduceDiv, Int.cast_ofNat_Int, Int.reduceAdd, Int.reduceNeg, Int.reduceEq, Int.reduceLT, Int.reduceLE, Int.reduceNe, decide_true, decide_false, bne_self_eq_false, Bool.not_false, Bool.not_true]; rfl) ?_
          refine (new_ok N).mono ?_
          rintro _ _ ⟨rfl, N', hN', upA, ofA, rA, dA, JA, rfl⟩
          obtain rfl : N' = N := by omega
          unfold joinObj
          refine ⟨Nat.le_of_ble_eq_true rfl, (fun hh => by cases hh), ?_⟩
          simp only [go_sem, reduceIte, Nat.reduceEqDiff, Nat.reduceBEq, reduceCtorEq, Nat.div_one, Nat.reduceLT, Nat.reduceLeDiff, Nat.reduceAdd, Nat.reduceSub, Nat.reduceMul, Nat.reduceDiv, Int.cast_ofNat_Int, Int.reduceAdd, Int.reduceNeg, Int.reduceEq, Int.reduceLT, Int.reduceLE, Int.reduceNe, decide_true, decide_false, bne_self_eq_false, Bool.not_false, Bool.not_true, callOut, AState.after]
          refine call_gen [] [] false none rfl (by simp only [go_sem, reduceIte, Nat.reduceEqDiff, Nat.reduceBEq, reduceCtorEq, Nat.div_one, Nat.reduceLT, Nat.reduceLeDiff, Nat.reduceAdd, Nat.reduceSub, Nat.reduceMul, Nat.reduceDiv, Int.cast_ofNat_Int, Int.reduceAdd, Int.reduceNeg, Int.reduceEq, Int.reduceLT, Int.reduceLE, Int.reduceNe, decide_true, decide_false, bne_self_eq_false, Bool.not_false, Bool.not_true]; rfl) (by simp only [go_sem, reduceIte, Nat.reduceEqDiff, Nat.reduceBEq, reduceCtorEq, Nat.div_one, Nat.reduceLT, Nat.reduceLeDiff, Nat.reduceAdd, Nat.reduceSub, Nat.reduceMul, Nat.reduceDiv, Int.cast_ofNat_Int, Int.reduceAdd, Int.reduceNeg, Int.reduceEq, Int.reduceLT, Int.reduceLE, Int.reduceNe, decide_true, decide_false, bne_self_eq_false, Bool.not_false, Bool.not_true]; rfl) rfl rfl rfl (by simp only [go_sem, reduceIte, Nat.reduceEqDiff, Nat.reduceBEq, reduceCtorEq, Nat.div_one, Nat.reduceLT, Nat.reduceLeDiff, Nat.reduceAdd, Nat.reduceSub, Nat.reduceMul, Nat.reduceDiv, Int.cast_ofNat_Int, Int.reduceAdd, Int.reduceNeg, Int.reduceEq, Int.reduceLT, Int.reduceLE, Int.reduceNe, decide_true, decide_false, bne_self_eq_false, Bool.not_false, Bool.not_true, watchIn]; rfl) (by simp only [go_sem, reduceIte, Nat.reduceEqDiff, Nat.reduceBEq, reduceCtorEq, Nat.div_one, Nat.reduceLT, Nat.reduceLeDiff, Nat.reduceAdd, Nat.reduceSub, Nat.reduceMul, Nat.reduceDiv, Int.cast_ofNat_Int, Int.reduceAdd, Int.reduceNeg, Int.reduceEq, Int.reduceLT, Int.reduceLE, Int.reduceNe, decide_true, decide_false, bne_self_eq_false, Bool.not_false, Bool.not_true]; rfl) (by simp only [go_sem, reduceIte, Nat.reduceEqDiff, Nat.reduceBEq, reduceCtorEq, Nat.div_one, Nat.reduceLT, Nat.reduceLeDiff, Nat.reduceAdd, Nat.reduceSub, Nat.reduceMul, Nat.reduceDiv, Int.cast_ofNat_Int, Int.reduceAdd, Int.reduceNeg, Int.reduceEq, Int.reduceLT, Int.reduceLE, Int.reduceNe, decide_true, decide_false, bne_self_eq_false, Bool.not_false, Bool.not_true]; rfl) ?_
          refine (new_ok N').mono ?_
          rintro _ _ ⟨rfl, N1, hN1, upB, ofB, rB, dB, JB, rfl⟩
          obtain rfl : N1 = N' := by omega
          unfold joinObj
          refine ⟨Nat.le_of_ble_eq_true rfl, (fun hh => by cases hh), ?_⟩
          simp only [go_sem, reduceIte, Nat.reduceEqDiff, Nat.reduceBEq, reduceCtorEq, Nat.div_one, Nat.reduceLT, Nat.reduceLeDiff, Nat.reduceAdd, Nat.reduceSub, Nat.reduceMul, Nat.reduceDiv, Int.cast_ofNat_Int, Int.reduceAdd, Int.reduceNeg, Int.reduceEq, Int.reduceLT, Int.reduceLE, Int.reduceNe, decide_true, decide_false, bne_self_eq_false, Bool.not_false, Bool.not_true, callOut, AState.after]
          refine hKY _ ?_
          refine wlk_seq fun X1 hn1 he1 hr1 => ?_
          refine wlk_seq fun X2 hn2 he2 hr2 => ?_
          refine wlk_reg fun KY hKY => ?_
          simp only [go_sem, reduceIte, Nat.reduceEqDiff, Nat.reduceBEq, reduceCtorEq, Nat.div_one, Nat.reduceLT, Nat.reduceLeDiff, Nat.reduceAdd, Nat.reduceSub, Nat.reduceMul, Nat.reduceDiv, Int.cast_ofNat_Int, Int.reduceAdd, Int.reduceNeg, Int.reduceEq, Int.reduceLT, Int.reduceLE, Int.reduceNe, decide_true, decide_false, bne_self_eq_false, Bool.not_false, Bool.not_true, c_garlandlaw06_JoinOrder_r14]
          refine hKY _ (hn2 _ ?_)
          refine wlk_blk fun X3 hn3 he3 hf3 hr3 => ?_
          refine wlk_loop (fun q s => ∃ (u : Nat) (upA LA BA : List Nat) (ofA : List (Int × Int × Int)) (rA dA : Nat → Nat) (upB LB BB : List Nat) (ofB : List (Int × Int × Int)) (rB dB : Nat → Nat) (A119 : AVal), u ≤ so.length ∧ q = so.length - u ∧ JR upA ofA N1 LA BA rA dA ∧ JR upB ofB N1 LB BB rB dB ∧ Ord N1 (so.take u) LA ∧ Ord N1 (ot.take u) LB ∧ s = { vs := [(0, .sc (.int .i64 (N1 : Int))), (1, .imm 3 (tris l)), (2, .imm 1 (ints turns)), (6, .sc (.bool false)), (7, .own (some 3) (tris so)), (8, .sc (.int .i64 (i : Int))), (9, .own (some 3) (tris ot)), (10, .sc (.int .i64 (k : Int))), (11, .dead), (12, .ptr 0 0), (13, .ptr 1 0), (14, .sc (.int .i64 (u : Int))), (15, .dead), (28, .sc (.bool false)), (79, .sc (.bool false)), (119, A119), (172, .dead), (176, .dead), (206, .dead)], ts := [], h := [some [.own (some 1) (nats upA), .own (some 3) (tris ofA), .sc (.int .i64 (cnt LA))], some [.own (some 1) (nats upB), .own (some 3) (tris ofB), .sc (.int .i64 (cnt LB))]] }) so.length ⟨0, upA, _, _, ofA, rA, dA, upB, _, _, ofB, rB, dB, .dead, Nat.zero_le _, rfl, JA, JB, Ord.new _, Ord.new _, ?_⟩ ?_
          · rfl
          rintro q _ ⟨u, upA, LA, BA, ofA, rA, dA, upB, LB, BB, ofB, rB, dB, A119, hu, rfl, JA, JB, hOA, hOB, rfl⟩ X4 hn4 he4 hr4
          refine sem_forget [119] rfl ?_
          simp only [go_sem, reduceIte, Nat.reduceEqDiff, Nat.reduceBEq, reduceCtorEq, Nat.div_one, Nat.reduceLT, Nat.reduceLeDiff, Nat.reduceAdd, Nat.reduceSub, Nat.reduceMul, Nat.reduceDiv, Int.cast_ofNat_Int, Int.reduceAdd, Int.reduceNeg, Int.reduceEq, Int.reduceLT, Int.reduceLE, Int.reduceNe, decide_true, decide_false, bne_self_eq_false, Bool.not_false, Bool.not_true]
          refine wlk_seq fun X5 hn5 he5 hr5 => ?_
          refine wlk_seq fun X6 hn6 he6 hr6 => ?_
          refine wlk_reg fun KY hKY => ?_
          simp only [go_sem, reduceIte, Nat.reduceEqDiff, Nat.reduceBEq, reduceCtorEq, Nat.div_one, Nat.reduceLT, Nat.reduceLeDiff, Nat.reduceAdd, Nat.reduceSub, Nat.reduceMul, Nat.reduceDiv, Int.cast_ofNat_Int, Int.reduceAdd, Int.reduceNeg, Int.reduceEq, Int.reduceLT, Int.reduceLE, Int.reduceNe, decide_true, decide_false, bne_self_eq_false, Bool.not_false, Bool.not_true, c_garlandlaw06_JoinOrder_r15, Nat.mul_div_cancel _ (show 0 < 3 by decide)]
          refine hKY _ (hn6 _ ?_)
          simp only [go_sem, reduceIte, Nat.reduceEqDiff, Nat.reduceBEq, reduceCtorEq, Nat.div_one, Nat.reduceLT, Nat.reduceLeDiff, Nat.reduceAdd, Nat.reduceSub, Nat.reduceMul, Nat.reduceDiv, Int.cast_ofNat_Int, Int.reduceAdd, Int.reduceNeg, Int.reduceEq, Int.reduceLT, Int.reduceLE, Int.reduceNe, decide_true, decide_false, bne_self_eq_false, Bool.not_false, Bool.not_true]
          refine wlk_cond (v := decide ((u : Int) < (so.length : Int))) rfl (fun h => wlk_skip (hn5 _ ?_)) fun h => wlk_exit (he5 _ _ (he4 _ _ (he3 _ (hn1 _ ?_))))
          · have h := of_decide_eq_true h
            have hx : so[u]? = some so[u] := List.getElem?_eq_getElem (by omega)
            have hy : ot[u]? = some ot[u] := List.getElem?_eq_getElem (by omega)
            generalize so[u] = x at hx
            generalize ot[u] = y at hy
            have rx := hR x (List.mem_of_getElem? hx)
            have ry := hR y (hp.mem_iff.1 (List.mem_of_getElem? hy))
            have tkx : so.take (u + 1) = so.take u ++ [x] := by rw [List.take_succ, hx]; rfl
            have tky : ot.take (u + 1) = ot.take u ++ [y] := by rw [List.take_succ, hy]; rfl
            have mA := hOA.more BA rx
            have mB := hOB.more BB ry
            rw [← tkx] at mA
            rw [← tky] at mB
            obtain ⟨xa, xb, xl⟩ := x
            obtain ⟨ya, yb, yl⟩ := y
            have t0 := tri_get0 hx
            have t1 := tri_get1 hx
            have t2 := tri_get2 hx
            have s0 := tri_get0 hy
            have s1 := tri_get1 hy
            have s2 := tri_get2 hy
            have b1 : u * 3 + 2 < so.length * 3 := by omega
            have b2 : u < so.length := by omega
            refine wlk_seq fun X7 hn7 he7 hr7 => ?_
            refine wlk_blk fun X8 hn8 he8 hf8 hr8 => ?_
            refine wlk_sdraw fun KY hKY => ?_
            simp only [go_sem, reduceIte, Nat.reduceEqDiff, Nat.reduceBEq, reduceCtorEq, Nat.div_one, Nat.reduceLT, Nat.reduceLeDiff, Nat.reduceAdd, Nat.reduceSub, Nat.reduceMul, Nat.reduceDiv, Int.cast_ofNat_Int, Int.reduceAdd, Int.reduceNeg, Int.reduceEq, Int.reduceLT, Int.reduceLE, Int.reduceNe, decide_true, decide_false, bne_self_eq_false, Bool.not_false, Bool.not_true, c_garlandlaw06_JoinOrder_r16, b1, b2, t0, t1, t2, Nat.mul_div_cancel _ (show 0 < 3 by decide)]
            refine call_gen [] [0] false none rfl (by simp only [go_sem, reduceIte, Nat.reduceEqDiff, Nat.reduceBEq, reduceCtorEq, Nat.div_one, Nat.reduceLT, Nat.reduceLeDiff, Nat.reduceAdd, Nat.reduceSub, Nat.reduceMul, Nat.reduceDiv, Int.cast_ofNat_Int, Int.reduceAdd, Int.reduceNeg, Int.reduceEq, Int.reduceLT, Int.reduceLE, Int.reduceNe, decide_true, decide_false, bne_self_eq_false, Bool.not_false, Bool.not_true]; rfl) (by simp only [go_sem, reduceIte, Nat.reduceEqDiff, Nat.reduceBEq, reduceCtorEq, Nat.div_one, Nat.reduceLT, Nat.reduceLeDiff, Nat.reduceAdd, Nat.reduceSub, Nat.reduceMul, Nat.reduceDiv, Int.cast_ofNat_Int, Int.reduceAdd, Int.reduceNeg, Int.reduceEq, Int.reduceLT, Int.reduceLE, Int.reduceNe, decide_true, decide_false, bne_self_eq_false, Bool.not_false, Bool.not_true]; rfl) rfl rfl rfl (by simp only [go_sem, reduceIte, Nat.reduceEqDiff, Nat.reduceBEq, reduceCtorEq, Nat.div_one, Nat.reduceLT, Nat.reduceLeDiff, Nat.reduceAdd, Nat.reduceSub, Nat.reduceMul, Nat.reduceDiv, Int.cast_ofNat_Int, Int.reduceAdd, Int.reduceNeg, Int.reduceEq, Int.reduceLT, Int.reduceLE, Int.reduceNe, decide_true, decide_false, bne_self_eq_false, Bool.not_false, Bool.not_true, watchIn]; rfl) (by simp only [go_sem, reduceIte, Nat.reduceEqDiff, Nat.reduceBEq, reduceCtorEq, Nat.div_one, Nat.reduceLT, Nat.reduceLeDiff, Nat.reduceAdd, Nat.reduceSub, Nat.reduceMul, Nat.reduceDiv, Int.cast_ofNat_Int, Int.reduceAdd, Int.reduceNeg, Int.reduceEq, Int.reduceLT, Int.reduceLE, Int.reduceNe, decide_true, decide_false, bne_self_eq_false, Bool.not_false, Bool.not_true]; rfl) (by simp only [go_sem, reduceIte, Nat.reduceEqDiff, Nat.reduceBEq, reduceCtorEq, Nat.div_one, Nat.reduceLT, Nat.reduceLeDiff, Nat.reduceAdd, Nat.reduceSub, Nat.reduceMul, Nat.reduceDiv, Int.cast_ofNat_Int, Int.reduceAdd, Int.reduceNeg, Int.reduceEq, Int.reduceLT, Int.reduceLE, Int.reduceNe, decide_true, decide_false, bne_self_eq_false, Bool.not_false, Bool.not_true]; rfl) ?_
            refine (unite_ok upA ofA N1 LA BA rA dA JA (by omega) xa xb xl).mono ?_
            rintro _ _ ⟨rfl, upA1, ofA1, rA1, dA1, JA1, rfl⟩
            unfold joinObj
            refine ⟨Nat.le_of_ble_eq_true rfl, (fun hh => by cases hh), ?_⟩
            simp only [go_sem, reduceIte, Nat.reduceEqDiff, Nat.reduceBEq, reduceCtorEq, Nat.div_one, Nat.reduceLT, Nat.reduceLeDiff, Nat.reduceAdd, Nat.reduceSub, Nat.reduceMul, Nat.reduceDiv, Int.cast_ofNat_Int, Int.reduceAdd, Int.reduceNeg, Int.reduceEq, Int.reduceLT, Int.reduceLE, Int.reduceNe, decide_true, decide_false, bne_self_eq_false, Bool.not_false, Bool.not_true, callOut, AState.after]
            refine hKY _ ?_
            refine wlk_draw fun KY hKY => ?_
            simp only [go_sem, reduceIte, Nat.reduceEqDiff, Nat.reduceBEq, reduceCtorEq, Nat.div_one, Nat.reduceLT, Nat.reduceLeDiff, Nat.reduceAdd, Nat.reduceSub, Nat.reduceMul, Nat.reduceDiv, Int.cast_ofNat_Int, Int.reduceAdd, Int.reduceNeg, Int.reduceEq, Int.reduceLT, Int.reduceLE, Int.reduceNe, decide_true, decide_false, bne_self_eq_false, Bool.not_false, Bool.not_true, c_garlandlaw06_JoinOrder_r17, hot, b1, b2, s0, s1, s2, Nat.mul_div_cancel _ (show 0 < 3 by decide)]
            refine call_gen [] [1] false none rfl (by simp only [go_sem, reduceIte, Nat.reduceEqDiff, Nat.reduceBEq, reduceCtorEq, Nat.div_one, Nat.reduceLT, Nat.reduceLeDiff, Nat.reduceAdd, Nat.reduceSub, Nat.reduceMul, Nat.reduceDiv, Int.cast_ofNat_Int, Int.reduceAdd, Int.reduceNeg, Int.reduceEq, Int.reduceLT, Int.reduceLE, Int.reduceNe, decide_true, decide_false, bne_self_eq_false, Bool.not_false, Bool.not_true]; rfl) (by simp only [go_sem, reduceIte, Nat.reduceEqDiff, Nat.reduceBEq, reduceCtorEq, Nat.div_one, Nat.reduceLT, Nat.reduceLeDiff, Nat.reduceAdd, Nat.reduceSub, Nat.reduceMul, Nat.reduceDiv, Int.cast_ofNat_Int, Int.reduceAdd, Int.reduceNeg, Int.reduceEq, Int.reduceLT, Int.reduceLE, Int.reduceNe, decide_true, decide_false, bne_self_eq_false, Bool.not_false, Bool.not_true]; rfl) rfl rfl rfl (by simp only [go_sem, reduceIte, Nat.reduceEqDiff, Nat.reduceBEq, reduceCtorEq, Nat.div_one, Nat.reduceLT, Nat.reduceLeDiff, Nat.reduceAdd, Nat.reduceSub, Nat.reduceMul, Nat.reduceDiv, Int.cast_ofNat_Int, Int.reduceAdd, Int.reduceNeg, Int.reduceEq, Int.reduceLT, Int.reduceLE, Int.reduceNe, decide_true, decide_false, bne_self_eq_false, Bool.not_false, Bool.not_true, watchIn]; rfl) (by simp only [go_sem, reduceIte, Nat.reduceEqDiff, Nat.reduceBEq, reduceCtorEq, Nat.div_one, Nat.reduceLT, Nat.reduceLeDiff, Nat.reduceAdd, Nat.reduceSub, Nat.reduceMul, Nat.reduceDiv, Int.cast_ofNat_Int, Int.reduceAdd, Int.reduceNeg, Int.reduceEq, Int.reduceLT, Int.reduceLE, Int.reduceNe, decide_true, decide_false, bne_self_eq_false, Bool.not_false, Bool.not_true]; rfl) (by simp only [go_sem, reduceIte, Nat.reduceEqDiff, Nat.reduceBEq, reduceCtorEq, Nat.div_one, Nat.reduceLT, Nat.reduceLeDiff, Nat.reduceAdd, Nat.reduceSub, Nat.reduceMul, Nat.reduceDiv, Int.cast_ofNat_Int, Int.reduceAdd, Int.reduceNeg, Int.reduceEq, Int.reduceLT, Int.reduceLE, Int.reduceNe, decide_true, decide_false, bne_self_eq_false, Bool.not_false, Bool.not_true]; rfl) ?_
            refine (unite_ok upB ofB N1 LB BB rB dB JB (by omega) ya yb yl).mono ?_
            rintro _ _ ⟨rfl, upB1, ofB1, rB1, dB1, JB1, rfl⟩
            unfold joinObj
            refine ⟨Nat.le_of_ble_eq_true rfl, (fun hh => by cases hh), ?_⟩
            simp only [go_sem, reduceIte, Nat.reduceEqDiff, Nat.reduceBEq, reduceCtorEq, Nat.div_one, Nat.reduceLT, Nat.reduceLeDiff, Nat.reduceAdd, Nat.reduceSub, Nat.reduceMul, Nat.reduceDiv, Int.cast_ofNat_Int, Int.reduceAdd, Int.reduceNeg, Int.reduceEq, Int.reduceLT, Int.reduceLE, Int.reduceNe, decide_true, decide_false, bne_self_eq_false, Bool.not_false, Bool.not_true, callOut, AState.after]
            refine hKY _ (hn8 _ (hn7 _ ?_))
            refine wlk_reg fun KY hKY => ?_
            simp only [go_sem, reduceIte, Nat.reduceEqDiff, Nat.reduceBEq, reduceCtorEq, Nat.div_one, Nat.reduceLT, Nat.reduceLeDiff, Nat.reduceAdd, Nat.reduceSub, Nat.reduceMul, Nat.reduceDiv, Int.cast_ofNat_Int, Int.reduceAdd, Int.reduceNeg, Int.reduceEq, Int.reduceLT, Int.reduceLE, Int.reduceNe, decide_true, decide_false, bne_self_eq_false, Bool.not_false, Bool.not_true, c_garlandlaw06_JoinOrder_r18, inc u (by omega)]
            refine hKY _ (hn4 (so.length - (u + 1)) _ (by omega) ?_)
            simp only [go_sem, reduceIte, Nat.reduceEqDiff, Nat.reduceBEq, reduceCtorEq, Nat.div_one, Nat.reduceLT, Nat.reduceLeDiff, Nat.reduceAdd, Nat.reduceSub, Nat.reduceMul, Nat.reduceDiv, Int.cast_ofNat_Int, Int.reduceAdd, Int.reduceNeg, Int.reduceEq, Int.reduceLT, Int.reduceLE, Int.reduceNe, decide_true, decide_false, bne_self_eq_false, Bool.not_false, Bool.not_true]
            exact ⟨u + 1, upA1, _, _, ofA1, rA1, dA1, upB1, _, _, ofB1, rB1, dB1, _, by omega, rfl, JA1, JB1, mA, mB, rfl⟩
          · have hu' : u = so.length := by have := of_decide_eq_false h; omega
            rw [hu', List.take_length] at hOA
            rw [hu', ← hot, List.take_length] at hOB
            obtain rfl : LB = LA := hOB.eq hOA fun p => hp.mem_iff
            have hlen := hOA.len
            refine wlk_seq fun X1 hn1 he1 hr1 => ?_
            refine wlk_seq fun X2 hn2 he2 hr2 => ?_
            refine wlk_reg fun KY hKY => ?_
            simp only [go_sem, reduceIte, Nat.reduceEqDiff, Nat.reduceBEq, reduceCtorEq, Nat.div_one, Nat.reduceLT, Nat.reduceLeDiff, Nat.reduceAdd, Nat.reduceSub, Nat.reduceMul, Nat.reduceDiv, Int.cast_ofNat_Int, Int.reduceAdd, Int.reduceNeg, Int.reduceEq, Int.reduceLT, Int.reduceLE, Int.reduceNe, decide_true, decide_false, bne_self_eq_false, Bool.not_false, Bool.not_true, c_garlandlaw06_JoinOrder_r19]
            refine call_view rfl (by simp only [go_sem, reduceIte, Nat.reduceEqDiff, Nat.reduceBEq, reduceCtorEq, Nat.div_one, Nat.reduceLT, Nat.reduceLeDiff, Nat.reduceAdd, Nat.reduceSub, Nat.reduceMul, Nat.reduceDiv, Int.cast_ofNat_Int, Int.reduceAdd, Int.reduceNeg, Int.reduceEq, Int.reduceLT, Int.reduceLE, Int.reduceNe, decide_true, decide_false, bne_self_eq_false, Bool.not_false, Bool.not_true]; rfl) ?_
            refine (awake_ok).mono ?_
            rintro rr hh ⟨rfl, rfl⟩
            refine ⟨rfl, rfl, rfl, ?_⟩
            simp only [go_sem, reduceIte, Nat.reduceEqDiff, Nat.reduceBEq, reduceCtorEq, Nat.div_one, Nat.reduceLT, Nat.reduceLeDiff, Nat.reduceAdd, Nat.reduceSub, Nat.reduceMul, Nat.reduceDiv, Int.cast_ofNat_Int, Int.reduceAdd, Int.reduceNeg, Int.reduceEq, Int.reduceLT, Int.reduceLE, Int.reduceNe, decide_true, decide_false, bne_self_eq_false, Bool.not_false, Bool.not_true]
            refine call_view rfl (by simp only [go_sem, reduceIte, Nat.reduceEqDiff, Nat.reduceBEq, reduceCtorEq, Nat.div_one, Nat.reduceLT, Nat.reduceLeDiff, Nat.reduceAdd, Nat.reduceSub, Nat.reduceMul, Nat.reduceDiv, Int.cast_ofNat_Int, Int.reduceAdd, Int.reduceNeg, Int.reduceEq, Int.reduceLT, Int.reduceLE, Int.reduceNe, decide_true, decide_false, bne_self_eq_false, Bool.not_false, Bool.not_true]; rfl) ?_
            refine (len_ok _ _ _).mono ?_
            rintro rr hh ⟨rfl, rfl⟩
            refine ⟨rfl, rfl, rfl, ?_⟩
            simp only [go_sem, reduceIte, Nat.reduceEqDiff, Nat.reduceBEq, reduceCtorEq, Nat.div_one, Nat.reduceLT, Nat.reduceLeDiff, Nat.reduceAdd, Nat.reduceSub, Nat.reduceMul, Nat.reduceDiv, Int.cast_ofNat_Int, Int.reduceAdd, Int.reduceNeg, Int.reduceEq, Int.reduceLT, Int.reduceLE, Int.reduceNe, decide_true, decide_false, bne_self_eq_false, Bool.not_false, Bool.not_true]
            refine call_view rfl (by simp only [go_sem, reduceIte, Nat.reduceEqDiff, Nat.reduceBEq, reduceCtorEq, Nat.div_one, Nat.reduceLT, Nat.reduceLeDiff, Nat.reduceAdd, Nat.reduceSub, Nat.reduceMul, Nat.reduceDiv, Int.cast_ofNat_Int, Int.reduceAdd, Int.reduceNeg, Int.reduceEq, Int.reduceLT, Int.reduceLE, Int.reduceNe, decide_true, decide_false, bne_self_eq_false, Bool.not_false, Bool.not_true]; rfl) ?_
            refine (len_ok _ _ _).mono ?_
            rintro rr hh ⟨rfl, rfl⟩
            refine ⟨rfl, rfl, rfl, ?_⟩
            simp only [go_sem, reduceIte, Nat.reduceEqDiff, Nat.reduceBEq, reduceCtorEq, Nat.div_one, Nat.reduceLT, Nat.reduceLeDiff, Nat.reduceAdd, Nat.reduceSub, Nat.reduceMul, Nat.reduceDiv, Int.cast_ofNat_Int, Int.reduceAdd, Int.reduceNeg, Int.reduceEq, Int.reduceLT, Int.reduceLE, Int.reduceNe, decide_true, decide_false, bne_self_eq_false, Bool.not_false, Bool.not_true, nen]
            refine hKY _ (hn2 _ ?_)
            simp only [go_sem, reduceIte, Nat.reduceEqDiff, Nat.reduceBEq, reduceCtorEq, Nat.div_one, Nat.reduceLT, Nat.reduceLeDiff, Nat.reduceAdd, Nat.reduceSub, Nat.reduceMul, Nat.reduceDiv, Int.cast_ofNat_Int, Int.reduceAdd, Int.reduceNeg, Int.reduceEq, Int.reduceLT, Int.reduceLE, Int.reduceNe, decide_true, decide_false, bne_self_eq_false, Bool.not_false, Bool.not_true]
            refine wlk_cond0 rfl (wlk_skip (hn1 _ ?_))
            refine wlk_seq fun X1 hn1 he1 hr1 => ?_
            refine wlk_seq fun X2 hn2 he2 hr2 => ?_
            refine wlk_reg fun KY hKY => ?_
            simp only [go_sem, reduceIte, Nat.reduceEqDiff, Nat.reduceBEq, reduceCtorEq, Nat.div_one, Nat.reduceLT, Nat.reduceLeDiff, Nat.reduceAdd, Nat.reduceSub, Nat.reduceMul, Nat.reduceDiv, Int.cast_ofNat_Int, Int.reduceAdd, Int.reduceNeg, Int.reduceEq, Int.reduceLT, Int.reduceLE, Int.reduceNe, decide_true, decide_false, bne_self_eq_false, Bool.not_false, Bool.not_true, c_garlandlaw06_JoinOrder_r21]
            refine hKY _ (hn2 _ ?_)
            refine wlk_blk fun X3 hn3 he3 hf3 hr3 => ?_
            refine wlk_loop (fun q s => ∃ (w : Nat) (upA upB : List Nat) (A176 A206 : AVal), w ≤ so.length ∧ q = so.length - w ∧ JR upA ofA N1 LB BA rA dA ∧ JR upB ofB N1 LB BB rB dB ∧ s = { vs := [(0, .sc (.int .i64 (N1 : Int))), (1, .imm 3 (tris l)), (2, .imm 1 (ints turns)), (6, .sc (.bool false)), (7, .own (some 3) (tris so)), (8, .sc (.int .i64 (i : Int))), (9, .own (some 3) (tris ot)), (10, .sc (.int .i64 (k : Int))), (11, .dead), (12, .ptr 0 0), (13, .ptr 1 0), (14, .sc (.int .i64 (u : Int))), (15, .sc (.int .i64 (w : Int))), (28, .sc (.bool false)), (79, .sc (.bool false)), (119, .sc (.bool (decide ((u : Int) < (so.length : Int))))), (172, .sc (.bool false)), (176, A176), (206, A206)], ts := [], h := [some [.own (some 1) (nats upA), .own (some 3) (tris ofA), .sc (.int .i64 (cnt LB))], some [.own (some 1) (nats upB), .own (some 3) (tris ofB), .sc (.int .i64 (cnt LB))]] }) so.length ⟨0, upA, upB, .dead, .dead, Nat.zero_le _, rfl, JA, JB, ?_⟩ ?_
            · rfl
            rintro q _ ⟨w, upA, upB, A176, A206, hw, rfl, JA, JB, rfl⟩ X4 hn4 he4 hr4
            refine sem_forget [176, 206] rfl ?_
            simp only [go_sem, reduceIte, Nat.reduceEqDiff, Nat.reduceBEq, reduceCtorEq, Nat.div_one, Nat.reduceLT, Nat.reduceLeDiff, Nat.reduceAdd, Nat.reduceSub, Nat.reduceMul, Nat.reduceDiv, Int.cast_ofNat_Int, Int.reduceAdd, Int.reduceNeg, Int.reduceEq, Int.reduceLT, Int.reduceLE, Int.reduceNe, decide_true, decide_false, bne_self_eq_false, Bool.not_false, Bool.not_true]
            refine wlk_seq fun X5 hn5 he5 hr5 => ?_
            refine wlk_seq fun X6 hn6 he6 hr6 => ?_
            refine wlk_reg fun KY hKY => ?_
            simp only [go_sem, reduceIte, Nat.reduceEqDiff, Nat.reduceBEq, reduceCtorEq, Nat.div_one, Nat.reduceLT, Nat.reduceLeDiff, Nat.reduceAdd, Nat.reduceSub, Nat.reduceMul, Nat.reduceDiv, Int.cast_ofNat_Int, Int.reduceAdd, Int.reduceNeg, Int.reduceEq, Int.reduceLT, Int.reduceLE, Int.reduceNe, decide_true, decide_false, bne_self_eq_false, Bool.not_false, Bool.not_true, c_garlandlaw06_JoinOrder_r22, Nat.mul_div_cancel _ (show 0 < 3 by decide)]
            refine hKY _ (hn6 _ ?_)
            simp only [go_sem, reduceIte, Nat.reduceEqDiff, Nat.reduceBEq, reduceCtorEq, Nat.div_one, Nat.reduceLT, Nat.reduceLeDiff, Nat.reduceAdd, Nat.reduceSub, Nat.reduceMul, Nat.reduceDiv, Int.cast_ofNat_Int, Int.reduceAdd, Int.reduceNeg, Int.reduceEq, Int.reduceLT, Int.reduceLE, Int.reduceNe, decide_true, decide_false, bne_self_eq_false, Bool.not_false, Bool.not_true]
            refine wlk_cond (v := decide ((w : Int) < (so.length : Int))) rfl (fun h => wlk_skip (hn5 _ ?_)) fun h => wlk_exit (he5 _ _ (he4 _ _ (he3 _ (hn1 _ ?_))))
            · have h := of_decide_eq_true h
              have hx : so[w]? = some so[w] := List.getElem?_eq_getElem (by omega)
              generalize so[w] = x at hx
              have rx := hR x (List.mem_of_getElem? hx)
              have ox := hOA.on x (List.mem_of_getElem? hx)
              obtain ⟨xa, xb, xl⟩ := x
              have t0 := tri_get0 hx
              have t1 := tri_get1 hx
              have b1 : w * 3 + 2 < so.length * 3 := by omega
              have b2 : w < so.length := by omega
              have sd : decide ((0 ≤ xa ∧ xa < N1) ∧ (0 ≤ xb ∧ xb < N1) ∧ LB.getD xa.toNat 0 = LB.getD xb.toNat 0) = true := decide_eq_true ⟨rx.1, rx.2.1, ox⟩
              refine wlk_seq fun X7 hn7 he7 hr7 => ?_
              refine wlk_blk fun X8 hn8 he8 hf8 hr8 => ?_
              refine wlk_seq fun X9 hn9 he9 hr9 => ?_
              refine wlk_draw fun KY hKY => ?_
              simp only [go_sem, reduceIte, Nat.reduceEqDiff, Nat.reduceBEq, reduceCtorEq, Nat.div_one, Nat.reduceLT, Nat.reduceLeDiff, Nat.reduceAdd, Nat.reduceSub, Nat.reduceMul, Nat.reduceDiv, Int.cast_ofNat_Int, Int.reduceAdd, Int.reduceNeg, Int.reduceEq, Int.reduceLT, Int.reduceLE, Int.reduceNe, decide_true, decide_false, bne_self_eq_false, Bool.not_false, Bool.not_true, c_garlandlaw06_JoinOrder_r23, b1, b2, t0, t1, Nat.mul_div_cancel _ (show 0 < 3 by decide)]
              refine call_gen [] [0] false none rfl (by simp only [go_sem, reduceIte, Nat.reduceEqDiff, Nat.reduceBEq, reduceCtorEq, Nat.div_one, Nat.reduceLT, Nat.reduceLeDiff, Nat.reduceAdd, Nat.reduceSub, Nat.reduceMul, Nat.reduceDiv, Int.cast_ofNat_Int, Int.reduceAdd, Int.reduceNeg, Int.reduceEq, Int.reduceLT, Int.reduceLE, Int.reduceNe, decide_true, decide_false, bne_self_eq_false, Bool.not_false, Bool.not_true]; rfl) (by simp only [go_sem, reduceIte, Nat.reduceEqDiff, Nat.reduceBEq, reduceCtorEq, Nat.div_one, Nat.reduceLT, Nat.reduceLeDiff, Nat.reduceAdd, Nat.reduceSub, Nat.reduceMul, Nat.reduceDiv, Int.cast_ofNat_Int, Int.reduceAdd, Int.reduceNeg, Int.reduceEq, Int.reduceLT, Int.reduceLE, Int.reduceNe, decide_true, decide_false, bne_self_eq_false, Bool.not_false, Bool.not_true]; rfl) rfl rfl rfl (by simp only [go_sem, reduceIte, Nat.reduceEqDiff, Nat.reduceBEq, reduceCtorEq, Nat.div_one, Nat.reduceLT, Nat.reduceLeDiff, Nat.reduceAdd, Nat.reduceSub, Nat.reduceMul, Nat.reduceDiv, Int.cast_ofNat_Int, Int.reduceAdd, Int.reduceNeg, Int.reduceEq, Int.reduceLT, Int.reduceLE, Int.reduceNe, decide_true, decide_false, bne_self_eq_false, Bool.not_false, Bool.not_true, watchIn]; rfl) (by simp only [go_sem, reduceIte, Nat.reduceEqDiff, Nat.reduceBEq, reduceCtorEq, Nat.div_one, Nat.reduceLT, Nat.reduceLeDiff, Nat.reduceAdd, Nat.reduceSub, Nat.reduceMul, Nat.reduceDiv, Int.cast_ofNat_Int, Int.reduceAdd, Int.reduceNeg, Int.reduceEq, Int.reduceLT, Int.reduceLE, Int.reduceNe, decide_true, decide_false, bne_self_eq_false, Bool.not_false, Bool.not_true]; rfl) (by simp only [go_sem, reduceIte, Nat.reduceEqDiff, Nat.reduceBEq, reduceCtorEq, Nat.div_one, Nat.reduceLT, Nat.reduceLeDiff, Nat.reduceAdd, Nat.reduceSub, Nat.reduceMul, Nat.reduceDiv, Int.cast_ofNat_Int, Int.reduceAdd, Int.reduceNeg, Int.reduceEq, Int.reduceLT, Int.reduceLE, Int.reduceNe, decide_true, decide_false, bne_self_eq_false, Bool.not_false, Bool.not_true]; rfl) ?_
              refine (same_ok upA ofA (cnt LB) N1 LB BA rA dA JA xa xb).mono ?_
              rintro _ _ ⟨rfl, upA1, JA1, rfl⟩
              rw [sd]
              unfold joinObj
              refine ⟨Nat.le_of_ble_eq_true rfl, (fun hh => by cases hh), ?_⟩
              simp only [go_sem, reduceIte, Nat.reduceEqDiff, Nat.reduceBEq, reduceCtorEq, Nat.div_one, Nat.reduceLT, Nat.reduceLeDiff, Nat.reduceAdd, Nat.reduceSub, Nat.reduceMul, Nat.reduceDiv, Int.cast_ofNat_Int, Int.reduceAdd, Int.reduceNeg, Int.reduceEq, Int.reduceLT, Int.reduceLE, Int.reduceNe, decide_true, decide_false, bne_self_eq_false, Bool.not_false, Bool.not_true, callOut, AState.after, b1, b2, t0, t1, Nat.mul_div_cancel _ (show 0 < 3 by decide)]
              refine call_gen [] [1] false none rfl (by simp only [go_sem, reduceIte, Nat.reduceEqDiff, Nat.reduceBEq, reduceCtorEq, Nat.div_one, Nat.reduceLT, Nat.reduceLeDiff, Nat.reduceAdd, Nat.reduceSub, Nat.reduceMul, Nat.reduceDiv, Int.cast_ofNat_Int, Int.reduceAdd, Int.reduceNeg, Int.reduceEq, Int.reduceLT, Int.reduceLE, Int.reduceNe, decide_true, decide_false, bne_self_eq_false, Bool.not_false, Bool.not_true]; rfl) (by simp only [go_sem, reduceIte, Nat.reduceEqDiff, Nat.reduceBEq, reduceCtorEq, Nat.div_one, Nat.reduceLT, Nat.reduceLeDiff, Nat.reduceAdd, Nat.reduceSub, Nat.reduceMul, Nat.reduceDiv, Int.cast_ofNat_Int, Int.reduceAdd, Int.reduceNeg, Int.reduceEq, Int.reduceLT, Int.reduceLE, Int.reduceNe, decide_true, decide_false, bne_self_eq_false, Bool.not_false, Bool.not_true]; rfl) rfl rfl rfl (by simp only [go_sem, reduceIte, Nat.reduceEqDiff, Nat.reduceBEq, reduceCtorEq, Nat.div_one, Nat.reduceLT, Nat.reduceLeDiff, Nat.reduceAdd, Nat.reduceSub, Nat.reduceMul, Nat.reduceDiv, Int.cast_ofNat_Int, Int.reduceAdd, Int.reduceNeg, Int.reduceEq, Int.reduceLT, Int.reduceLE, Int.reduceNe, decide_true, decide_false, bne_self_eq_false, Bool.not_false, Bool.not_true, watchIn]; rfl) (by simp only [go_sem, reduceIte, Nat.reduceEqDiff, Nat.reduceBEq, reduceCtorEq, Nat.div_one, Nat.reduceLT, Nat.reduceLeDiff, Nat.reduceAdd, Nat.reduceSub, Nat.reduceMul, Nat.reduceDiv, Int.cast_ofNat_Int, Int.reduceAdd, Int.reduceNeg, Int.reduceEq, Int.reduceLT, Int.reduceLE, Int.reduceNe, decide_true, decide_false, bne_self_eq_false, Bool.not_false, Bool.not_true]; rfl) (by simp only [go_sem, reduceIte, Nat.reduceEqDiff, Nat.reduceBEq, reduceCtorEq, Nat.div_one, Nat.reduceLT, Nat.reduceLeDiff, Nat.reduceAdd, Nat.reduceSub, Nat.reduceMul, Nat.reduceDiv, Int.cast_ofNat_Int, Int.reduceAdd, Int.reduceNeg, Int.reduceEq, Int.reduceLT, Int.reduceLE, Int.reduceNe, decide_true, decide_false, bne_self_eq_false, Bool.not_false, Bool.not_true]; rfl) ?_
              refine (same_ok upB ofB (cnt LB) N1 LB BB rB dB JB xa xb).mono ?_
              rintro _ _ ⟨rfl, upB1, JB1, rfl⟩
              rw [sd]
              unfold joinObj
              refine ⟨Nat.le_of_ble_eq_true rfl, (fun hh => by cases hh), ?_⟩
              simp only [go_sem, reduceIte, Nat.reduceEqDiff, Nat.reduceBEq, reduceCtorEq, Nat.div_one, Nat.reduceLT, Nat.reduceLeDiff, Nat.reduceAdd, Nat.reduceSub, Nat.reduceMul, Nat.reduceDiv, Int.cast_ofNat_Int, Int.reduceAdd, Int.reduceNeg, Int.reduceEq, Int.reduceLT, Int.reduceLE, Int.reduceNe, decide_true, decide_false, bne_self_eq_false, Bool.not_false, Bool.not_true, callOut, AState.after]
              refine hKY _ (hn9 _ ?_)
              simp only [go_sem, reduceIte, Nat.reduceEqDiff, Nat.reduceBEq, reduceCtorEq, Nat.div_one, Nat.reduceLT, Nat.reduceLeDiff, Nat.reduceAdd, Nat.reduceSub, Nat.reduceMul, Nat.reduceDiv, Int.cast_ofNat_Int, Int.reduceAdd, Int.reduceNeg, Int.reduceEq, Int.reduceLT, Int.reduceLE, Int.reduceNe, decide_true, decide_false, bne_self_eq_false, Bool.not_false, Bool.not_true]
              refine wlk_cond0 rfl (wlk_skip (hn8 _ (hn7 _ ?_)))
              refine wlk_reg fun KY hKY => ?_
              simp only [go_sem, reduceIte, Nat.reduceEqDiff, Nat.reduceBEq, reduceCtorEq, Nat.div_one, Nat.reduceLT, Nat.reduceLeDiff, Nat.reduceAdd, Nat.reduceSub, Nat.reduceMul, Nat.reduceDiv, Int.cast_ofNat_Int, Int.reduceAdd, Int.reduceNeg, Int.reduceEq, Int.reduceLT, Int.reduceLE, Int.reduceNe, decide_true, decide_false, bne_self_eq_false, Bool.not_false, Bool.not_true, c_garlandlaw06_JoinOrder_r25, inc w (by omega)]
              refine hKY _ (hn4 (so.length - (w + 1)) _ (by omega) ?_)
              simp only [go_sem, reduceIte, Nat.reduceEqDiff, Nat.reduceBEq, reduceCtorEq, Nat.div_one, Nat.reduceLT, Nat.reduceLeDiff, Nat.reduceAdd, Nat.reduceSub, Nat.reduceMul, Nat.reduceDiv, Int.cast_ofNat_Int, Int.reduceAdd, Int.reduceNeg, Int.reduceEq, Int.reduceLT, Int.reduceLE, Int.reduceNe, decide_true, decide_false, bne_self_eq_false, Bool.not_false, Bool.not_true]
              exact ⟨w + 1, upA1, upB1, _, _, by omega, rfl, JA1, JB1, rfl⟩
            · refine wlk_seq fun Y1 gn1 ge1 gr1 => ?_
              refine wlk_reg fun KY hKY => ?_
              simp only [go_sem, reduceIte, Nat.reduceEqDiff, Nat.reduceBEq, reduceCtorEq, Nat.div_one, Nat.reduceLT, Nat.reduceLeDiff, Nat.reduceAdd, Nat.reduceSub, Nat.reduceMul, Nat.reduceDiv, Int.cast_ofNat_Int, Int.reduceAdd, Int.reduceNeg, Int.reduceEq, Int.reduceLT, Int.reduceLE, Int.reduceNe, decide_true, decide_false, bne_self_eq_false, Bool.not_false, Bool.not_true, c_garlandlaw06_JoinOrder_r26]
              refine call_gen [] [0] false none rfl (by simp only [go_sem, reduceIte, Nat.reduceEqDiff, Nat.reduceBEq, reduceCtorEq, Nat.div_one, Nat.reduceLT, Nat.reduceLeDiff, Nat.reduceAdd, Nat.reduceSub, Nat.reduceMul, Nat.reduceDiv, Int.cast_ofNat_Int, Int.reduceAdd, Int.reduceNeg, Int.reduceEq, Int.reduceLT, Int.reduceLE, Int.reduceNe, decide_true, decide_false, bne_self_eq_false, Bool.not_false, Bool.not_true]; rfl) (by simp only [go_sem, reduceIte, Nat.reduceEqDiff, Nat.reduceBEq, reduceCtorEq, Nat.div_one, Nat.reduceLT, Nat.reduceLeDiff, Nat.reduceAdd, Nat.reduceSub, Nat.reduceMul, Nat.reduceDiv, Int.cast_ofNat_Int, Int.reduceAdd, Int.reduceNeg, Int.reduceEq, Int.reduceLT, Int.reduceLE, Int.reduceNe, decide_true, decide_false, bne_self_eq_false, Bool.not_false, Bool.not_true]; rfl) rfl rfl rfl (by simp only [go_sem, reduceIte, Nat.reduceEqDiff, Nat.reduceBEq, reduceCtorEq, Nat.div_one, Nat.reduceLT, Nat.reduceLeDiff, Nat.reduceAdd, Nat.reduceSub, Nat.reduceMul, Nat.reduceDiv, Int.cast_ofNat_Int, Int.reduceAdd, Int.reduceNeg, Int.reduceEq, Int.reduceLT, Int.reduceLE, Int.reduceNe, decide_true, decide_false, bne_self_eq_false, Bool.not_false, Bool.not_true, watchIn]; rfl) (by simp only [go_sem, reduceIte, Nat.reduceEqDiff, Nat.reduceBEq, reduceCtorEq, Nat.div_one, Nat.reduceLT, Nat.reduceLeDiff, Nat.reduceAdd, Nat.reduceSub, Nat.reduceMul, Nat.reduceDiv, Int.cast_ofNat_Int, Int.reduceAdd, Int.reduceNeg, Int.reduceEq, Int.reduceLT, Int.reduceLE, Int.reduceNe, decide_true, decide_false, bne_self_eq_false, Bool.not_false, Bool.not_true]; rfl) (by simp only [go_sem, reduceIte, Nat.reduceEqDiff, Nat.reduceBEq, reduceCtorEq, Nat.div_one, Nat.reduceLT, Nat.reduceLeDiff, Nat.reduceAdd, Nat.reduceSub, Nat.reduceMul, Nat.reduceDiv, Int.cast_ofNat_Int, Int.reduceAdd, Int.reduceNeg, Int.reduceEq, Int.reduceLT, Int.reduceLE, Int.reduceNe, decide_true, decide_false, bne_self_eq_false, Bool.not_false, Bool.not_true]; rfl) ?_
              refine (sets_ok upA ofA (cnt LB) N1 LB BA rA dA JA (by omega)).mono ?_
              rintro _ _ ⟨rfl, upA1, JA1, rfl⟩
              unfold joinObj
              refine ⟨Nat.le_of_ble_eq_true rfl, (fun hh => by cases hh), ?_⟩
              simp only [go_sem, reduceIte, Nat.reduceEqDiff, Nat.reduceBEq, reduceCtorEq, Nat.div_one, Nat.reduceLT, Nat.reduceLeDiff, Nat.reduceAdd, Nat.reduceSub, Nat.reduceMul, Nat.reduceDiv, Int.cast_ofNat_Int, Int.reduceAdd, Int.reduceNeg, Int.reduceEq, Int.reduceLT, Int.reduceLE, Int.reduceNe, decide_true, decide_false, bne_self_eq_false, Bool.not_false, Bool.not_true, callOut, AState.after]
              refine call_gen [] [1] false none rfl (by simp only [go_sem, reduceIte, Nat.reduceEqDiff, Nat.reduceBEq, reduceCtorEq, Nat.div_one, Nat.reduceLT, Nat.reduceLeDiff, Nat.reduceAdd, Nat.reduceSub, Nat.reduceMul, Nat.reduceDiv, Int.cast_ofNat_Int, Int.reduceAdd, Int.reduceNeg, Int.reduceEq, Int.reduceLT, Int.reduceLE, Int.reduceNe, decide_true, decide_false, bne_self_eq_false, Bool.not_false, Bool.not_true]; rfl) (by simp only [go_sem, reduceIte, Nat.reduceEqDiff, Nat.reduceBEq, reduceCtorEq, Nat.div_one, Nat.reduceLT, Nat.reduceLeDiff, Nat.reduceAdd, Nat.reduceSub, Nat.reduceMul, Nat.reduceDiv, Int.cast_ofNat_Int, Int.reduceAdd, Int.reduceNeg, Int.reduceEq, Int.reduceLT, Int.reduceLE, Int.reduceNe, decide_true, decide_false, bne_self_eq_false, Bool.not_false, Bool.not_true]; rfl) rfl rfl rfl (by simp only [go_sem, reduceIte, Nat.reduceEqDiff, Nat.reduceBEq, reduceCtorEq, Nat.div_one, Nat.reduceLT, Nat.reduceLeDiff, Nat.reduceAdd, Nat.reduceSub, Nat.reduceMul, Nat.reduceDiv, Int.cast_ofNat_Int, Int.reduceAdd, Int.reduceNeg, Int.reduceEq, Int.reduceLT, Int.reduceLE, Int.reduceNe, decide_true, decide_false, bne_self_eq_false, Bool.not_false, Bool.not_true, watchIn]; rfl) (by simp only [go_sem, reduceIte, Nat.reduceEqDiff, Nat.reduceBEq, reduceCtorEq, Nat.div_one, Nat.reduceLT, Nat.reduceLeDiff, Nat.reduceAdd, Nat.reduceSub, Nat.reduceMul, Nat.reduceDiv, Int.cast_ofNat_Int, Int.reduceAdd, Int.reduceNeg, Int.reduceEq, Int.reduceLT, Int.reduceLE, Int.reduceNe, decide_true, decide_false, bne_self_eq_false, Bool.not_false, Bool.not_true]; rfl) (by simp only [go_sem, reduceIte, Nat.reduceEqDiff, Nat.reduceBEq, reduceCtorEq, Nat.div_one, Nat.reduceLT, Nat.reduceLeDiff, Nat.reduceAdd, Nat.reduceSub, Nat.reduceMul, Nat.reduceDiv, Int.cast_ofNat_Int, Int.reduceAdd, Int.reduceNeg, Int.reduceEq, Int.reduceLT, Int.reduceLE, Int.reduceNe, decide_true, decide_false, bne_self_eq_false, Bool.not_false, Bool.not_true]; rfl) ?_
              refine (sets_ok upB ofB (cnt LB) N1 LB BB rB dB JB (by omega)).mono ?_
              rintro _ _ ⟨rfl, upB1, JB1, rfl⟩
              unfold joinObj
              refine ⟨Nat.le_of_ble_eq_true rfl, (fun hh => by cases hh), ?_⟩
              simp only [go_sem, reduceIte, Nat.reduceEqDiff, Nat.reduceBEq, reduceCtorEq, Nat.div_one, Nat.reduceLT, Nat.reduceLeDiff, Nat.reduceAdd, Nat.reduceSub, Nat.reduceMul, Nat.reduceDiv, Int.cast_ofNat_Int, Int.reduceAdd, Int.reduceNeg, Int.reduceEq, Int.reduceLT, Int.reduceLE, Int.reduceNe, decide_true, decide_false, bne_self_eq_false, Bool.not_false, Bool.not_true, callOut, AState.after]
              have hc := cnt_le LB
              refine call_view rfl (by simp only [go_sem, reduceIte, Nat.reduceEqDiff, Nat.reduceBEq, reduceCtorEq, Nat.div_one, Nat.reduceLT, Nat.reduceLeDiff, Nat.reduceAdd, Nat.reduceSub, Nat.reduceMul, Nat.reduceDiv, Int.cast_ofNat_Int, Int.reduceAdd, Int.reduceNeg, Int.reduceEq, Int.reduceLT, Int.reduceLE, Int.reduceNe, decide_true, decide_false, bne_self_eq_false, Bool.not_false, Bool.not_true]; rfl) ?_
              refine (lists_ok (sets LB) (sets LB) (by rw [sets_len]; omega) (fun x hx => by have := sets_row hx; omega)).mono ?_
              rintro rr hh ⟨rfl, rfl⟩
              refine ⟨rfl, rfl, rfl, ?_⟩
              simp only [go_sem, reduceIte, Nat.reduceEqDiff, Nat.reduceBEq, reduceCtorEq, Nat.div_one, Nat.reduceLT, Nat.reduceLeDiff, Nat.reduceAdd, Nat.reduceSub, Nat.reduceMul, Nat.reduceDiv, Int.cast_ofNat_Int, Int.reduceAdd, Int.reduceNeg, Int.reduceEq, Int.reduceLT, Int.reduceLE, Int.reduceNe, decide_true, decide_false, bne_self_eq_false, Bool.not_false, Bool.not_true, eqn]
              refine hKY _ (gn1 _ ?_)
              refine wlk_ret ?_
              simp only [go_sem, reduceIte, Nat.reduceEqDiff, Nat.reduceBEq, reduceCtorEq, Nat.div_one, Nat.reduceLT, Nat.reduceLeDiff, Nat.reduceAdd, Nat.reduceSub, Nat.reduceMul, Nat.reduceDiv, Int.cast_ofNat_Int, Int.reduceAdd, Int.reduceNeg, Int.reduceEq, Int.reduceLT, Int.reduceLE, Int.reduceNe, decide_true, decide_false, bne_self_eq_false, Bool.not_false, Bool.not_true]
        refine wlk_seq fun X6 hn6 he6 hr6 => ?_
        by_cases g : k < turns.length
        · have g1 : decide ((k : Int) < ((turns.length : Nat) : Int)) = true := decide_eq_true (by omega)
          by_cases g' : k < 60
          · have g2 : decide ((k : Int) < 60) = true := decide_eq_true (by omega)
            have g3 : decide ((so.length : Int) > 0) = false := decide_eq_false (by omega)
            refine wlk_reg fun KY hKY => ?_
            simp only [go_sem, reduceIte, Nat.reduceEqDiff, Nat.reduceBEq, reduceCtorEq, Nat.div_one, Nat.reduceLT, Nat.reduceLeDiff, Nat.reduceAdd, Nat.reduceSub, Nat.reduceMul, Nat.reduceDiv, Int.cast_ofNat_Int, Int.reduceAdd, Int.reduceNeg, Int.reduceEq, Int.reduceLT, Int.reduceLE, Int.reduceNe, decide_true, decide_false, bne_self_eq_false, Bool.not_false, Bool.not_true, c_garlandlaw06_JoinOrder_r9, g1, g2, g3, hot, Nat.mul_div_cancel _ (show 0 < 3 by decide)]
            refine hKY _ (hn6 _ ?_)
            simp only [go_sem, reduceIte, Nat.reduceEqDiff, Nat.reduceBEq, reduceCtorEq, Nat.div_one, Nat.reduceLT, Nat.reduceLeDiff, Nat.reduceAdd, Nat.reduceSub, Nat.reduceMul, Nat.reduceDiv, Int.cast_ofNat_Int, Int.reduceAdd, Int.reduceNeg, Int.reduceEq, Int.reduceLT, Int.reduceLE, Int.reduceNe, decide_true, decide_false, bne_self_eq_false, Bool.not_false, Bool.not_true]
            exact wlk_cond0 rfl (wlk_exit (he5 _ _ (he4 _ _ (he3 _ fin2))))
          · have g2 : decide ((k : Int) < 60) = false := decide_eq_false (by omega)
            refine wlk_reg fun KY hKY => ?_
            simp only [go_sem, reduceIte, Nat.reduceEqDiff, Nat.reduceBEq, reduceCtorEq, Nat.div_one, Nat.reduceLT, Nat.reduceLeDiff, Nat.reduceAdd, Nat.reduceSub, Nat.reduceMul, Nat.reduceDiv, Int.cast_ofNat_Int, Int.reduceAdd, Int.reduceNeg, Int.reduceEq, Int.reduceLT, Int.reduceLE, Int.reduceNe, decide_true, decide_false, bne_self_eq_false, Bool.not_false, Bool.not_true, c_garlandlaw06_JoinOrder_r9, g1, g2, hot, Nat.mul_div_cancel _ (show 0 < 3 by decide)]
            refine hKY _ (hn6 _ ?_)
            simp only [go_sem, reduceIte, Nat.reduceEqDiff, Nat.reduceBEq, reduceCtorEq, Nat.div_one, Nat.reduceLT, Nat.reduceLeDiff, Nat.reduceAdd, Nat.reduceSub, Nat.reduceMul, Nat.reduceDiv, Int.cast_ofNat_Int, Int.reduceAdd, Int.reduceNeg, Int.reduceEq, Int.reduceLT, Int.reduceLE, Int.reduceNe, decide_true, decide_false, bne_self_eq_false, Bool.not_false, Bool.not_true]
            exact wlk_cond0 rfl (wlk_exit (he5 _ _ (he4 _ _ (he3 _ fin2))))
        · have g1 : decide ((k : Int) < ((turns.length : Nat) : Int)) = false := decide_eq_false (by omega)
          refine wlk_reg fun KY hKY => ?_
          simp only [go_sem, reduceIte, Nat.reduceEqDiff, Nat.reduceBEq, reduceCtorEq, Nat.div_one, Nat.reduceLT, Nat.reduceLeDiff, Nat.reduceAdd, Nat.reduceSub, Nat.reduceMul, Nat.reduceDiv, Int.cast_ofNat_Int, Int.reduceAdd, Int.reduceNeg, Int.reduceEq, Int.reduceLT, Int.reduceLE, Int.reduceNe, decide_true, decide_false, bne_self_eq_false, Bool.not_false, Bool.not_true, c_garlandlaw06_JoinOrder_r9, g1, hot, Nat.mul_div_cancel _ (show 0 < 3 by decide)]
          refine hKY _ (hn6 _ ?_)
          simp only [go_sem, reduceIte, Nat.reduceEqDiff, Nat.reduceBEq, reduceCtorEq, Nat.div_one, Nat.reduceLT, Nat.reduceLeDiff, Nat.reduceAdd, Nat.reduceSub, Nat.reduceMul, Nat.reduceDiv, Int.cast_ofNat_Int, Int.reduceAdd, Int.reduceNeg, Int.reduceEq, Int.reduceLT, Int.reduceLE, Int.reduceNe, decide_true, decide_false, bne_self_eq_false, Bool.not_false, Bool.not_true]
          exact wlk_cond0 rfl (wlk_exit (he5 _ _ (he4 _ _ (he3 _ fin2))))
    refine wlk_seq fun X6 hn6 he6 hr6 => ?_
    by_cases g : i < l.length
    · have g1 : decide ((i : Int) < ((l.length : Nat) : Int)) = true := decide_eq_true (by omega)
      have g2 : decide ((i : Int) < 40) = false := decide_eq_false (by omega)
      refine wlk_reg fun KY hKY => ?_
      simp only [go_sem, reduceIte, Nat.reduceEqDiff, Nat.reduceBEq, reduceCtorEq, Nat.div_one, Nat.reduceLT, Nat.reduceLeDiff, Nat.reduceAdd, Nat.reduceSub, Nat.reduceMul, Nat.reduceDiv, Int.cast_ofNat_Int, Int.reduceAdd, Int.reduceNeg, Int.reduceEq, Int.reduceLT, Int.reduceLE, Int.reduceNe, decide_true, decide_false, bne_self_eq_false, Bool.not_false, Bool.not_true, c_garlandlaw06_JoinOrder_r4, g1, g2, Nat.mul_div_cancel _ (show 0 < 3 by decide)]
      refine hKY _ (hn6 _ ?_)
      simp only [go_sem, reduceIte, Nat.reduceEqDiff, Nat.reduceBEq, reduceCtorEq, Nat.div_one, Nat.reduceLT, Nat.reduceLeDiff, Nat.reduceAdd, Nat.reduceSub, Nat.reduceMul, Nat.reduceDiv, Int.cast_ofNat_Int, Int.reduceAdd, Int.reduceNeg, Int.reduceEq, Int.reduceLT, Int.reduceLE, Int.reduceNe, decide_true, decide_false, bne_self_eq_false, Bool.not_false, Bool.not_true]
      exact wlk_cond0 rfl (wlk_exit (he5 _ _ (he4 _ _ (he3 _ fin))))
    · have g1 : decide ((i : Int) < ((l.length : Nat) : Int)) = false := decide_eq_false (by omega)
      refine wlk_reg fun KY hKY => ?_
      simp only [go_sem, reduceIte, Nat.reduceEqDiff, Nat.reduceBEq, reduceCtorEq, Nat.div_one, Nat.reduceLT, Nat.reduceLeDiff, Nat.reduceAdd, Nat.reduceSub, Nat.reduceMul, Nat.reduceDiv, Int.cast_ofNat_Int, Int.reduceAdd, Int.reduceNeg, Int.reduceEq, Int.reduceLT, Int.reduceLE, Int.reduceNe, decide_true, decide_false, bne_self_eq_false, Bool.not_false, Bool.not_true, c_garlandlaw06_JoinOrder_r4, g1, Nat.mul_div_cancel _ (show 0 < 3 by decide)]
      refine hKY _ (hn6 _ ?_)
      simp only [go_sem, reduceIte, Nat.reduceEqDiff, Nat.reduceBEq, reduceCtorEq, Nat.div_one, Nat.reduceLT, Nat.reduceLeDiff, Nat.reduceAdd, Nat.reduceSub, Nat.reduceMul, Nat.reduceDiv, Int.cast_ofNat_Int, Int.reduceAdd, Int.reduceNeg, Int.reduceEq, Int.reduceLT, Int.reduceLE, Int.reduceNe, decide_true, decide_false, bne_self_eq_false, Bool.not_false, Bool.not_true]
      exact wlk_cond0 rfl (wlk_exit (he5 _ _ (he4 _ _ (he3 _ fin))))
end Go.Proofs.Yticfnlclbmibeaa

namespace Go.Proofs.Yticfnlclbmibeaa
open Go Go.Ga Go.Ga.Jn

theorem order_all (As : List AVal) (b : Nat) (h : SAs Try.prog Try.f6.params.toList As b) (hb : b ≤ 1048576) : ACalls Try.prog [] 6 As [] fun r _ => r = .sc (.bool true) := by
  rw [Try.params6] at h
  obtain ⟨A, As1, c, d, rfl, rfl, ha, h⟩ := sas_cons h
  obtain ⟨B, As2, c2, d2, rfl, rfl, hl, h⟩ := sas_cons h
  obtain ⟨C, As3, c3, d3, rfl, rfl, hx, h⟩ := sas_cons h
  obtain rfl := sas_nil h
  obtain ⟨n, rfl, _⟩ := sa_int Try.underlying3 ha
  obtain ⟨l, rfl, _, hlen⟩ := sa_tris Try.underlying22 Try.underlying30 rfl Try.underlying3 Try.underlying3 Try.underlying3 (by kernel_rfl) hl
  obtain ⟨t, rfl, _, hlen2⟩ := sa_ints Try.underlying39 Try.underlying3 (by kernel_rfl) hx
  exact order_ok n l t (by omega) (by omega)
end Go.Proofs.Yticfnlclbmibeaa

namespace Go.Proofs.Yticfnlclbmibeaa.joinOrderend
open Go Go.Ga Go.ChangeShapes Go.WideShapes Go.ChangeAt Go.RowKit

theorem own : ownKnob Try.prog.godebug = none := by kernel_rfl

mutual
theorem bulk_at {H : Type} : ∀ d : DataW H, Rows.uptoBulk d = bulk d
  | .lit l => by cases l <;> simp [Rows.uptoBulk, bulk]
  | .nil => by simp [Rows.uptoBulk, bulk]
  | .ptr d => by simp [Rows.uptoBulk, bulk, bulk_at d]
  | .slice e s => by simp [Rows.uptoBulk, bulk, bulk_eq e, bulk_eq s]
  | .agg p => by simp [Rows.uptoBulk, bulk, bulk_eq p]
  | .iface _ d => by simp [Rows.uptoBulk, bulk, bulk_at d]
  | .map e => by simp [Rows.uptoBulk, bulk, bulk_es e]
  | .held _ => by simp [Rows.uptoBulk, bulk]
theorem bulk_eq {H : Type} : ∀ l : List (DataW H), Rows.uptoBulkAll l = bulkL l
  | [] => by simp [Rows.uptoBulkAll, bulkL]
  | d :: r => by simp [Rows.uptoBulkAll, bulkL, bulk_at d, bulk_eq r]
theorem bulk_es {H : Type} : ∀ l : List (Lit × DataW H), Rows.uptoBulkEntries l = bulkE l
  | [] => by simp [Rows.uptoBulkEntries, bulkE]
  | d :: r => by simp [Rows.uptoBulkEntries, bulkE, bulk_e d, bulk_es r]
theorem bulk_e {H : Type} : ∀ d : Lit × DataW H, Rows.uptoBulkEntry d = bulk1 d
  | (l, d) => by cases l <;> simp [Rows.uptoBulkEntry, bulk1, bulk_at d]
end

theorem plain : Plain Try.prog [3, 22, 30, 39] := plain_of (by kernel_rfl)

theorem contract (H : Type) (enc : TypeId × Value → H) (W : World) (base : Nat) (args : Array Value) (ds gs : List (DataW H)) (before : List MemPlace)
    (hval : ∀ (j : Nat) t v, Try.f6.params[j]? = some t → args[j]? = some v → Value.okWide Try.prog W .any base t v)
    (hW : DataW.Whole enc Try.prog Try.f6.params.toList Rows.joinOrderSpec.vars false W args.toList ds gs before) (hk : Rows.uptoSmall H (ds ++ gs) = true) :
    Calls Try.prog 6 args W fun e W' => ∃ v, e = .returned v ∧ Rows.joinOrderSpec.post enc Try.prog Try.f6 false true false false W args v W' := by
  have hW' := hW
  obtain ⟨p, q, hA, hV, rfl, hfz, hnd⟩ := hW
  obtain ⟨rfl, rfl⟩ := Go.Ga.trodVars_nil hV
  have hb : bulkL (ds ++ []) ≤ 1048576 := by rw [← bulk_eq]; exact of_decide_eq_true hk
  have r0 : DataW.TrodAll enc Try.prog W 0 (fun _ => true) true Try.f6.params.toList args.toList ds p := hA
  rw [Try.params6] at r0
  obtain ⟨v0, vs0, d0, ds0, p0, q0, hv0, rfl, rfl, h0, r1⟩ := trodAll_cons r0
  obtain ⟨v1, vs1, d1, ds1, p1, q1, hv1, rfl, rfl, h1, r2⟩ := trodAll_cons r1
  obtain ⟨v2, vs2, d2, ds2, p2, q2, hv2, rfl, rfl, h2, r3⟩ := trodAll_cons r2
  obtain ⟨rfl, rfl, rfl⟩ := trodAll_nil r3
  exact contract_true plain hval (by rw [Try.params6]; decide) hW' rfl rfl rfl rfl (tb := 4) (by kernel_rfl) Try.underlying4 hb order_all

set_option maxRecDepth 100000 in
theorem lifted (os : Os) (started : os.Started) (H : Type) (enc : TypeId × Value → H) (F : Stop.Interp) :
    ReturnsInHanded {} Try.checked os 6 .any ((Rows.OpenSpec.upto Rows.joinOrderSpec).pre6 enc Try.prog Try.f6 Rows.joinOrderUptoRow.domain false) (((Rows.OpenSpec.upto Rows.joinOrderSpec).at F).post enc Try.prog Try.f6 false true false false) := by
  refine returnsInHanded_of_cond (C := Try.checked) (s := Rows.OpenSpec.upto Rows.joinOrderSpec) (k := Rows.uptoSmall) rfl own started (by kernel_rfl) Try.func6
    (OpenSpec.witness (enc := enc) (C := Try.checked) (s := Rows.OpenSpec.upto Rows.joinOrderSpec) (k := Rows.uptoSmall) rfl false ⟨#[], #[.int .i64 0, .slice none 0 0, .slice none 0 0], []⟩ 8 (by kernel_rfl) (by kernel_rfl) (by kernel_rfl)
      (x := ([.lit (.int .i64 0), .nil, .nil], [], [])) (by kernel_rfl) rfl (by kernel_rfl)) ?_
  intro W base args ds gs before hval hW _ hk _
  exact contract H enc W base args ds gs before hval hW hk

theorem holds : Rows.JoinOrderUptoSaid :=
  OpenClaim.holds_of_cond 6 Try.f6 rfl rfl rfl rfl rfl rfl rfl ⟨rfl, rfl, rfl, rfl, rfl⟩ rfl rfl rfl rfl rfl (by kernel_rfl) Try.func6 (by kernel_rfl)
    (of_decide_eq_true (by kernel_rfl)) (by unfold Func.isWrapper; first | (rw [if_pos (by decide +kernel)]; kernel_rfl) | (rw [if_neg (by decide +kernel)]; exact ⟨rfl, rfl⟩))
    (fun os started H enc _ F => lifted os started H enc F)
end Go.Proofs.Yticfnlclbmibeaa.joinOrderend
