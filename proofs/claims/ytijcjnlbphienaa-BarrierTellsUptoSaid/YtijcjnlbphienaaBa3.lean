/- That what any set lacks in any graph, or why not, and whether it shows any list, is told right, and that what is handed in stays, is proved for every input of the given size. -/
import Derived.Test.YtijcjnlbphienaaBa2
set_option linter.all false
set_option maxRecDepth 100000
set_option maxHeartbeats 2000000
namespace Go.Proofs.Ytijcjnlbphienaa
open Go Go.Ga Go.Ga.Gl
theorem ints_zero (n : Nat) : zeroCellsA [.int .i64 0] n = ints (List.replicate n 0) := by
  rw [nats_zero, nats_ints]; simp
theorem set_rangeI {n b : Nat} {y : Int} {f g : Nat → Int} (h1 : g b = y) (h2 : ∀ v, v ≠ b → g v = f v) : ((List.range n).map f).set b y = (List.range n).map g := by
  apply List.ext_getElem (by simp)
  intro i h3 h4
  rw [List.getElem_set]
  split
  · rename_i h; subst h; simp [h1]
  · rename_i h; simp [h2 i (Ne.symm h)]
def lab0 (out : List Int) (v w : Nat) : Int := if w < v then (if (w : Int) ∈ out then -1 else (w : Int)) else 0
theorem rwithout_ok {n : Nat} {es : Es} (g : GR n es) (out : List Int) (ho : out.length ≤ 1000000000) :
    ACalls Try.prog [] n_garlandref03_Without [.agg [.sc (.int .i64 (n : Int)), .imm 2 (twos (castE es))], .imm 1 (ints out)] [] (PsQ n es out) := by
  have hn := g.hn
  have hm := g.hm
  have hby : n * 8 ≤ 140737488355328 := by omega
  have hb0 : (n : Int) ≤ 9223372036854775807 := by omega
  refine go_garlandref03_Without rfl ?_
  unfold c_garlandref03_Without v_garlandref03_Without
  refine wlk_sreg fun KY hKY => ?_
  simp only [go_sem, reduceIte, Nat.reduceEqDiff, Nat.reduceBEq, reduceCtorEq, Nat.reduceLT, Nat.reduceLeDiff, Nat.reduceAdd, Nat.reduceSub, Nat.reduceMul, Nat.reduceDiv, Int.reduceAdd, Int.reduceNeg, Int.reduceEq, Int.reduceLT, Int.reduceLE, c_garlandref03_Without_r0]
  refine hKY _ ?_
  refine wlk_seq fun X1 hn1 he1 hr1 => ?_
  refine wlk_sreg fun KY hKY => ?_
  simp only [go_sem, reduceIte, Nat.reduceEqDiff, Nat.reduceBEq, reduceCtorEq, Nat.reduceLT, Nat.reduceLeDiff, Nat.reduceAdd, Nat.reduceSub, Nat.reduceMul, Nat.reduceDiv, Int.reduceAdd, Int.reduceNeg, Int.reduceEq, Int.reduceLT, Int.reduceLE, c_garlandref03_Without_r1]
  refine call_view rfl (by simp only [go_sem, reduceIte, Nat.reduceEqDiff, Nat.reduceBEq, reduceCtorEq, Nat.reduceLT, Nat.reduceLeDiff, Nat.reduceAdd, Nat.reduceSub, Nat.reduceMul, Nat.reduceDiv, Int.reduceAdd, Int.reduceNeg, Int.reduceEq, Int.reduceLT, Int.reduceLE] <;> rfl) ((rright_ok _ _).mono ?_)
  rintro rr hh ⟨rfl, rfl⟩
  refine ⟨rfl, rfl, rfl, ?_⟩
  simp only [go_sem, reduceIte, Nat.reduceEqDiff, Nat.reduceBEq, reduceCtorEq, Nat.reduceLT, Nat.reduceLeDiff, Nat.reduceAdd, Nat.reduceSub, Nat.reduceMul, Nat.reduceDiv, Int.reduceAdd, Int.reduceNeg, Int.reduceEq, Int.reduceLT, Int.reduceLE, rightB_GR g]
  refine hKY _ ?_
  refine wlk_cond0 (by first | rfl | (simp only [go_sem, reduceIte, Nat.reduceEqDiff, Nat.reduceBEq, reduceCtorEq, Nat.reduceLT, Nat.reduceLeDiff, Nat.reduceAdd, Nat.reduceSub, Nat.reduceMul, Nat.reduceDiv, Int.reduceAdd, Int.reduceNeg, Int.reduceEq, Int.reduceLT, Int.reduceLE]; try simp (disch := omega) only [decide_eq_true, decide_eq_false])) ?_
  refine wlk_skip ?_
  repeat (first | refine hn1 _ ?_ | refine he1 _ _ ?_)
  refine wlk_sreg fun KY hKY => ?_
  simp only [go_sem, reduceIte, Nat.reduceEqDiff, Nat.reduceBEq, reduceCtorEq, Nat.reduceLT, Nat.reduceLeDiff, Nat.reduceAdd, Nat.reduceSub, Nat.reduceMul, Nat.reduceDiv, Int.reduceAdd, Int.reduceNeg, Int.reduceEq, Int.reduceLT, Int.reduceLE, c_garlandref03_Without_r3, ints_zero, hby, hb0]
  repeat (simp (disch := omega) only [if_pos, if_neg, decide_eq_true, decide_eq_false, incS, nats_get, ints_get, ints_zero, hby, hb0]; try simp only [go_sem, reduceIte, Nat.reduceEqDiff, Nat.reduceBEq, reduceCtorEq, Nat.reduceLT, Nat.reduceLeDiff, Nat.reduceAdd, Nat.reduceSub, Nat.reduceMul, Nat.reduceDiv, Int.reduceAdd, Int.reduceNeg, Int.reduceEq, Int.reduceLT, Int.reduceLE, ints_zero, hby, hb0])
  refine hKY _ ?_
  simp only [go_sem, reduceIte, Nat.reduceEqDiff, Nat.reduceBEq, reduceCtorEq, Nat.reduceLT, Nat.reduceLeDiff, Nat.reduceAdd, Nat.reduceSub, Nat.reduceMul, Nat.reduceDiv, Int.reduceAdd, Int.reduceNeg, Int.reduceEq, Int.reduceLT, Int.reduceLE]
  rw [show List.replicate n (0:Int) = (List.range n).map (lab0 out 0) by
    apply List.ext_getElem (by simp)
    intro i h1 h2
    simp [lab0]]
  refine wlk_seq fun X2 hn2 he2 hr2 => ?_
  refine wlk_sreg fun KY hKY => ?_
  simp only [go_sem, reduceIte, Nat.reduceEqDiff, Nat.reduceBEq, reduceCtorEq, Nat.reduceLT, Nat.reduceLeDiff, Nat.reduceAdd, Nat.reduceSub, Nat.reduceMul, Nat.reduceDiv, Int.reduceAdd, Int.reduceNeg, Int.reduceEq, Int.reduceLT, Int.reduceLE, c_garlandref03_Without_r4]
  refine hKY _ ?_
  refine wlk_blk fun X3 hn3 he3 hf3 hr3 => ?_
  try simp only [go_sem, reduceIte, Nat.reduceEqDiff, Nat.reduceBEq, reduceCtorEq, Nat.reduceLT, Nat.reduceLeDiff, Nat.reduceAdd, Nat.reduceSub, Nat.reduceMul, Nat.reduceDiv, Int.reduceAdd, Int.reduceNeg, Int.reduceEq, Int.reduceLT, Int.reduceLE]
  refine wlk_lp (α := Nat) [25, 34] (fun v => [(5, .own (some 1) (ints ((List.range n).map (lab0 out v)))), (6, .sc (.int .i64 (v : Int)))]) (fun v => []) (fun v q => v ≤ n ∧ q = n - v) (0) (n) rfl (by first | (simp only [go_sem, reduceIte, Nat.reduceEqDiff, Nat.reduceBEq, reduceCtorEq, Nat.reduceLT, Nat.reduceLeDiff, Nat.reduceAdd, Nat.reduceSub, Nat.reduceMul, Nat.reduceDiv, Int.reduceAdd, Int.reduceNeg, Int.reduceEq, Int.reduceLT, Int.reduceLE, updAll_cons, updAll_nil]; done) | with_reducible rfl | rfl) (⟨by omega, rfl⟩) ?_
  rintro v q ⟨hv, rfl⟩ X4 hn4 he4 hr4
  simp only [go_sem, reduceIte, Nat.reduceEqDiff, Nat.reduceBEq, reduceCtorEq, Nat.reduceLT, Nat.reduceLeDiff, Nat.reduceAdd, Nat.reduceSub, Nat.reduceMul, Nat.reduceDiv, Int.reduceAdd, Int.reduceNeg, Int.reduceEq, Int.reduceLT, Int.reduceLE, updAll_cons, updAll_nil]
  refine wlk_seq fun X5 hn5 he5 hr5 => ?_
  refine wlk_sreg fun KY hKY => ?_
  simp only [go_sem, reduceIte, Nat.reduceEqDiff, Nat.reduceBEq, reduceCtorEq, Nat.reduceLT, Nat.reduceLeDiff, Nat.reduceAdd, Nat.reduceSub, Nat.reduceMul, Nat.reduceDiv, Int.reduceAdd, Int.reduceNeg, Int.reduceEq, Int.reduceLT, Int.reduceLE, c_garlandref03_Without_r5]
  refine hKY _ ?_
  by_cases hv2 : v < n
  · refine wlk_cond1 (by first | rfl | (simp only [go_sem, reduceIte, Nat.reduceEqDiff, Nat.reduceBEq, reduceCtorEq, Nat.reduceLT, Nat.reduceLeDiff, Nat.reduceAdd, Nat.reduceSub, Nat.reduceMul, Nat.reduceDiv, Int.reduceAdd, Int.reduceNeg, Int.reduceEq, Int.reduceLT, Int.reduceLE]; try simp (disch := omega) only [decide_eq_true, decide_eq_false])) ?_
    refine wlk_skip ?_
    repeat (first | refine hn5 _ ?_ | refine he5 _ _ ?_ | refine he4 _ _ ?_ | refine hn3 _ ?_ | refine he3 _ ?_ | refine hf3 _ _ (by decide) ?_ | refine hn2 _ ?_ | refine he2 _ _ ?_ | refine hn1 _ ?_ | refine he1 _ _ ?_)
    refine wlk_seq fun X6 hn6 he6 hr6 => ?_
    refine wlk_blk fun X7 hn7 he7 hf7 hr7 => ?_
    refine wlk_sreg fun KY hKY => ?_
    simp only [go_sem, reduceIte, Nat.reduceEqDiff, Nat.reduceBEq, reduceCtorEq, Nat.reduceLT, Nat.reduceLeDiff, Nat.reduceAdd, Nat.reduceSub, Nat.reduceMul, Nat.reduceDiv, Int.reduceAdd, Int.reduceNeg, Int.reduceEq, Int.reduceLT, Int.reduceLE, c_garlandref03_Without_r6, hv2, ints_len]
    refine hKY _ ?_
    have hin := in_ok out (v : Int) ho
    refine wlk_sreg fun KY hKY => ?_
    simp only [go_sem, reduceIte, Nat.reduceEqDiff, Nat.reduceBEq, reduceCtorEq, Nat.reduceLT, Nat.reduceLeDiff, Nat.reduceAdd, Nat.reduceSub, Nat.reduceMul, Nat.reduceDiv, Int.reduceAdd, Int.reduceNeg, Int.reduceEq, Int.reduceLT, Int.reduceLE, c_garlandref03_Without_r7]
    refine call_view rfl (by simp only [go_sem, reduceIte, Nat.reduceEqDiff, Nat.reduceBEq, reduceCtorEq, Nat.reduceLT, Nat.reduceLeDiff, Nat.reduceAdd, Nat.reduceSub, Nat.reduceMul, Nat.reduceDiv, Int.reduceAdd, Int.reduceNeg, Int.reduceEq, Int.reduceLT, Int.reduceLE] <;> rfl) ((hin).mono ?_)
    rintro rr hh ⟨rfl, rfl⟩
    refine ⟨rfl, rfl, rfl, ?_⟩
    simp only [go_sem, reduceIte, Nat.reduceEqDiff, Nat.reduceBEq, reduceCtorEq, Nat.reduceLT, Nat.reduceLeDiff, Nat.reduceAdd, Nat.reduceSub, Nat.reduceMul, Nat.reduceDiv, Int.reduceAdd, Int.reduceNeg, Int.reduceEq, Int.reduceLT, Int.reduceLE]
    refine hKY _ ?_
    by_cases hvo : (v : Int) ∈ out
    · have hset : (((List.range n).map (lab0 out v)).set v (v : Int)).set v (-1) = (List.range n).map (lab0 out (v + 1)) := by
        rw [List.set_set]
        refine set_rangeI (by simp [lab0, hvo]) fun w hw => ?_
        unfold lab0
        by_cases h : w < v
        · rw [if_pos (by omega), if_pos h]
        · rw [if_neg (by omega), if_neg h]
      refine wlk_cond1 (by first | rfl | (simp only [go_sem, reduceIte, Nat.reduceEqDiff, Nat.reduceBEq, reduceCtorEq, Nat.reduceLT, Nat.reduceLeDiff, Nat.reduceAdd, Nat.reduceSub, Nat.reduceMul, Nat.reduceDiv, Int.reduceAdd, Int.reduceNeg, Int.reduceEq, Int.reduceLT, Int.reduceLE, hvo]; try simp (disch := omega) only [decide_eq_true, decide_eq_false])) ?_
      refine wlk_reg fun KY hKY => ?_
      simp only [go_sem, reduceIte, Nat.reduceEqDiff, Nat.reduceBEq, reduceCtorEq, Nat.reduceLT, Nat.reduceLeDiff, Nat.reduceAdd, Nat.reduceSub, Nat.reduceMul, Nat.reduceDiv, Int.reduceAdd, Int.reduceNeg, Int.reduceEq, Int.reduceLT, Int.reduceLE, c_garlandref03_Without_r8, hv2, ints_len, hset]
      refine hKY _ ?_
      repeat (first | refine hn7 _ ?_ | refine he7 _ ?_ | refine hf7 _ _ (by decide) ?_ | refine hn6 _ ?_ | refine he6 _ _ ?_ | refine hn5 _ ?_ | refine he5 _ _ ?_ | refine he4 _ _ ?_ | refine hn3 _ ?_ | refine he3 _ ?_ | refine hf3 _ _ (by decide) ?_ | refine hn2 _ ?_ | refine he2 _ _ ?_ | refine hn1 _ ?_ | refine he1 _ _ ?_)
      refine wlk_reg fun KY hKY => ?_
      simp only [go_sem, reduceIte, Nat.reduceEqDiff, Nat.reduceBEq, reduceCtorEq, Nat.reduceLT, Nat.reduceLeDiff, Nat.reduceAdd, Nat.reduceSub, Nat.reduceMul, Nat.reduceDiv, Int.reduceAdd, Int.reduceNeg, Int.reduceEq, Int.reduceLT, Int.reduceLE, c_garlandref03_Without_r9, inc v (by omega)]
      refine hKY _ ?_
      repeat (first | refine hn7 _ ?_ | refine he7 _ ?_ | refine hf7 _ _ (by decide) ?_ | refine hn6 _ ?_ | refine he6 _ _ ?_ | refine hn5 _ ?_ | refine he5 _ _ ?_)
      refine hn4 _ (v + 1) (n - (v + 1)) (by omega) (by first | (simp only [go_sem, reduceIte, Nat.reduceEqDiff, Nat.reduceBEq, reduceCtorEq, Nat.reduceLT, Nat.reduceLeDiff, Nat.reduceAdd, Nat.reduceSub, Nat.reduceMul, Nat.reduceDiv, Int.reduceAdd, Int.reduceNeg, Int.reduceEq, Int.reduceLT, Int.reduceLE, updAll_cons, updAll_nil]; done) | with_reducible rfl | rfl) ?_
      exact ⟨hv2, rfl⟩
    · have hset : ((List.range n).map (lab0 out v)).set v (v : Int) = (List.range n).map (lab0 out (v + 1)) := by
        refine set_rangeI (by simp [lab0, hvo]) fun w hw => ?_
        unfold lab0
        by_cases h : w < v
        · rw [if_pos (by omega), if_pos h]
        · rw [if_neg (by omega), if_neg h]
      refine wlk_cond0 (by first | rfl | (simp only [go_sem, reduceIte, Nat.reduceEqDiff, Nat.reduceBEq, reduceCtorEq, Nat.reduceLT, Nat.reduceLeDiff, Nat.reduceAdd, Nat.reduceSub, Nat.reduceMul, Nat.reduceDiv, Int.reduceAdd, Int.reduceNeg, Int.reduceEq, Int.reduceLT, Int.reduceLE, hvo]; try simp (disch := omega) only [decide_eq_true, decide_eq_false])) ?_
      rw [hset]
      refine wlk_skip ?_
      repeat (first | refine hn7 _ ?_ | refine he7 _ ?_ | refine hf7 _ _ (by decide) ?_ | refine hn6 _ ?_ | refine he6 _ _ ?_ | refine hn5 _ ?_ | refine he5 _ _ ?_ | refine he4 _ _ ?_ | refine hn3 _ ?_ | refine he3 _ ?_ | refine hf3 _ _ (by decide) ?_ | refine hn2 _ ?_ | refine he2 _ _ ?_ | refine hn1 _ ?_ | refine he1 _ _ ?_)
      refine wlk_reg fun KY hKY => ?_
      simp only [go_sem, reduceIte, Nat.reduceEqDiff, Nat.reduceBEq, reduceCtorEq, Nat.reduceLT, Nat.reduceLeDiff, Nat.reduceAdd, Nat.reduceSub, Nat.reduceMul, Nat.reduceDiv, Int.reduceAdd, Int.reduceNeg, Int.reduceEq, Int.reduceLT, Int.reduceLE, c_garlandref03_Without_r9, inc v (by omega)]
      refine hKY _ ?_
      repeat (first | refine hn7 _ ?_ | refine he7 _ ?_ | refine hf7 _ _ (by decide) ?_ | refine hn6 _ ?_ | refine he6 _ _ ?_ | refine hn5 _ ?_ | refine he5 _ _ ?_)
      refine hn4 _ (v + 1) (n - (v + 1)) (by omega) (by first | (simp only [go_sem, reduceIte, Nat.reduceEqDiff, Nat.reduceBEq, reduceCtorEq, Nat.reduceLT, Nat.reduceLeDiff, Nat.reduceAdd, Nat.reduceSub, Nat.reduceMul, Nat.reduceDiv, Int.reduceAdd, Int.reduceNeg, Int.reduceEq, Int.reduceLT, Int.reduceLE, updAll_cons, updAll_nil]; done) | with_reducible rfl | rfl) ?_
      exact ⟨hv2, rfl⟩
  · refine wlk_cond0 (by first | rfl | (simp only [go_sem, reduceIte, Nat.reduceEqDiff, Nat.reduceBEq, reduceCtorEq, Nat.reduceLT, Nat.reduceLeDiff, Nat.reduceAdd, Nat.reduceSub, Nat.reduceMul, Nat.reduceDiv, Int.reduceAdd, Int.reduceNeg, Int.reduceEq, Int.reduceLT, Int.reduceLE]; try simp (disch := omega) only [decide_eq_true, decide_eq_false])) ?_
    refine wlk_exit ?_
    repeat (first | refine hn5 _ ?_ | refine he5 _ _ ?_ | refine he4 _ _ ?_ | refine hn3 _ ?_ | refine he3 _ ?_ | refine hf3 _ _ (by decide) ?_ | refine hn2 _ ?_ | refine he2 _ _ ?_ | refine hn1 _ ?_ | refine he1 _ _ ?_)
    obtain rfl : v = n := by omega
    have w0 : LI v es (fun w => (w : Int) ∈ out) ((List.range v).map (lab0 out v)) := by
      refine LI.start (by simp) fun w hw => ?_
      have : ((List.range v).map (lab0 out v)).getD w 0 = lab0 out v w := by simp [List.getD_eq_getElem?_getD, hw]
      rw [this]
      unfold lab0
      rw [if_pos hw]
      exact ⟨fun h => by rw [if_pos h], fun h => by rw [if_neg h]⟩
    generalize (List.range v).map (lab0 out v) = L0 at w0
    refine wlk_seq fun X8 hn8 he8 hr8 => ?_
    refine wlk_sreg fun KY hKY => ?_
    simp only [go_sem, reduceIte, Nat.reduceEqDiff, Nat.reduceBEq, reduceCtorEq, Nat.reduceLT, Nat.reduceLeDiff, Nat.reduceAdd, Nat.reduceSub, Nat.reduceMul, Nat.reduceDiv, Int.reduceAdd, Int.reduceNeg, Int.reduceEq, Int.reduceLT, Int.reduceLE, c_garlandref03_Without_r10]
    refine hKY _ ?_
    refine wlk_blk fun X9 hn9 he9 hf9 hr9 => ?_
    try simp only [go_sem, reduceIte, Nat.reduceEqDiff, Nat.reduceBEq, reduceCtorEq, Nat.reduceLT, Nat.reduceLeDiff, Nat.reduceAdd, Nat.reduceSub, Nat.reduceMul, Nat.reduceDiv, Int.reduceAdd, Int.reduceNeg, Int.reduceEq, Int.reduceLT, Int.reduceLE]
    refine wlk_lp (α := List Int × Bool) [8, 9, 10, 11, 25, 34, 38, 43, 80] (fun (lab, ag) => [(5, .own (some 1) (ints lab)), (7, .sc (.bool ag))]) (fun (lab, ag) => []) (fun (lab, ag) q => q = labSum lab + ag.toNat ∧ LI v es (fun w => (w : Int) ∈ out) lab ∧ (ag = false → ∀ e ∈ es, lab.getD e.1 0 < 0 ∨ lab.getD e.2 0 < 0 ∨ lab.getD e.1 0 = lab.getD e.2 0)) ((L0, true)) (labSum L0 + 1) rfl (by first | (simp only [go_sem, reduceIte, Nat.reduceEqDiff, Nat.reduceBEq, reduceCtorEq, Nat.reduceLT, Nat.reduceLeDiff, Nat.reduceAdd, Nat.reduceSub, Nat.reduceMul, Nat.reduceDiv, Int.reduceAdd, Int.reduceNeg, Int.reduceEq, Int.reduceLT, Int.reduceLE, updAll_cons, updAll_nil]; done) | with_reducible rfl | rfl) (⟨rfl, w0, (fun h => by cases h)⟩) ?_
    rintro ⟨lab, ag⟩ q ⟨hq, W, hfix⟩ X10 hn10 he10 hr10
    simp only [go_sem, reduceIte, Nat.reduceEqDiff, Nat.reduceBEq, reduceCtorEq, Nat.reduceLT, Nat.reduceLeDiff, Nat.reduceAdd, Nat.reduceSub, Nat.reduceMul, Nat.reduceDiv, Int.reduceAdd, Int.reduceNeg, Int.reduceEq, Int.reduceLT, Int.reduceLE, updAll_cons, updAll_nil]
    refine wlk_seq fun X11 hn11 he11 hr11 => ?_
    refine wlk_sreg fun KY hKY => ?_
    simp only [go_sem, reduceIte, Nat.reduceEqDiff, Nat.reduceBEq, reduceCtorEq, Nat.reduceLT, Nat.reduceLeDiff, Nat.reduceAdd, Nat.reduceSub, Nat.reduceMul, Nat.reduceDiv, Int.reduceAdd, Int.reduceNeg, Int.reduceEq, Int.reduceLT, Int.reduceLE, c_garlandref03_Without_r11]
    refine hKY _ ?_
    cases ag with
    | true =>
      have hq : q = labSum lab + 1 := hq
      refine wlk_cond1 (by first | rfl | (simp only [go_sem, reduceIte, Nat.reduceEqDiff, Nat.reduceBEq, reduceCtorEq, Nat.reduceLT, Nat.reduceLeDiff, Nat.reduceAdd, Nat.reduceSub, Nat.reduceMul, Nat.reduceDiv, Int.reduceAdd, Int.reduceNeg, Int.reduceEq, Int.reduceLT, Int.reduceLE]; try simp (disch := omega) only [decide_eq_true, decide_eq_false])) ?_
      refine wlk_skip ?_
      repeat (first | refine hn11 _ ?_ | refine he11 _ _ ?_ | refine he10 _ _ ?_ | refine hn9 _ ?_ | refine he9 _ ?_ | refine hf9 _ _ (by decide) ?_ | refine hn8 _ ?_ | refine he8 _ _ ?_ | refine hn5 _ ?_ | refine he5 _ _ ?_)
      refine wlk_blk fun X12 hn12 he12 hf12 hr12 => ?_
      refine wlk_sreg fun KY hKY => ?_
      simp only [go_sem, reduceIte, Nat.reduceEqDiff, Nat.reduceBEq, reduceCtorEq, Nat.reduceLT, Nat.reduceLeDiff, Nat.reduceAdd, Nat.reduceSub, Nat.reduceMul, Nat.reduceDiv, Int.reduceAdd, Int.reduceNeg, Int.reduceEq, Int.reduceLT, Int.reduceLE, c_garlandref03_Without_r12]
      refine hKY _ ?_
      refine wlk_sreg fun KY hKY => ?_
      simp only [go_sem, reduceIte, Nat.reduceEqDiff, Nat.reduceBEq, reduceCtorEq, Nat.reduceLT, Nat.reduceLeDiff, Nat.reduceAdd, Nat.reduceSub, Nat.reduceMul, Nat.reduceDiv, Int.reduceAdd, Int.reduceNeg, Int.reduceEq, Int.reduceLT, Int.reduceLE, c_garlandref03_Without_r13]
      refine hKY _ ?_
      simp only [go_sem, reduceIte, Nat.reduceEqDiff, Nat.reduceBEq, reduceCtorEq, Nat.reduceLT, Nat.reduceLeDiff, Nat.reduceAdd, Nat.reduceSub, Nat.reduceMul, Nat.reduceDiv, Int.reduceAdd, Int.reduceNeg, Int.reduceEq, Int.reduceLT, Int.reduceLE]
      refine wlk_blk fun X13 hn13 he13 hf13 hr13 => ?_
      try simp only [go_sem, reduceIte, Nat.reduceEqDiff, Nat.reduceBEq, reduceCtorEq, Nat.reduceLT, Nat.reduceLeDiff, Nat.reduceAdd, Nat.reduceSub, Nat.reduceMul, Nat.reduceDiv, Int.reduceAdd, Int.reduceNeg, Int.reduceEq, Int.reduceLT, Int.reduceLE]
      refine wlk_lp (α := Nat × List Int × Bool) [9, 10, 11, 43, 80] (fun (k, lab', ag) => [(5, .own (some 1) (ints lab')), (7, .sc (.bool ag)), (8, .sc (.int .i64 (k : Int)))]) (fun (k, lab', ag) => []) (fun (k, lab', ag) q => k ≤ es.length ∧ q = es.length - k ∧ LI v es (fun w => (w : Int) ∈ out) lab' ∧ (ag = true → labSum lab' < labSum lab) ∧ (ag = false → ∀ e ∈ es.take k, lab'.getD e.1 0 < 0 ∨ lab'.getD e.2 0 < 0 ∨ lab'.getD e.1 0 = lab'.getD e.2 0) ∧ labSum lab' ≤ labSum lab) ((0, lab, false)) (es.length) rfl (by first | (simp only [go_sem, reduceIte, Nat.reduceEqDiff, Nat.reduceBEq, reduceCtorEq, Nat.reduceLT, Nat.reduceLeDiff, Nat.reduceAdd, Nat.reduceSub, Nat.reduceMul, Nat.reduceDiv, Int.reduceAdd, Int.reduceNeg, Int.reduceEq, Int.reduceLT, Int.reduceLE, updAll_cons, updAll_nil]; done) | with_reducible rfl | rfl) (⟨Nat.zero_le _, rfl, W, (fun h => by cases h), (fun _ e he => by simp at he), Nat.le_refl _⟩) ?_
      rintro ⟨k, lab', ag⟩ q ⟨hk, rfl, W', h1, h2, h3⟩ X14 hn14 he14 hr14
      simp only [go_sem, reduceIte, Nat.reduceEqDiff, Nat.reduceBEq, reduceCtorEq, Nat.reduceLT, Nat.reduceLeDiff, Nat.reduceAdd, Nat.reduceSub, Nat.reduceMul, Nat.reduceDiv, Int.reduceAdd, Int.reduceNeg, Int.reduceEq, Int.reduceLT, Int.reduceLE, updAll_cons, updAll_nil]
      refine wlk_seq fun X15 hn15 he15 hr15 => ?_
      refine wlk_sreg fun KY hKY => ?_
      simp only [go_sem, reduceIte, Nat.reduceEqDiff, Nat.reduceBEq, reduceCtorEq, Nat.reduceLT, Nat.reduceLeDiff, Nat.reduceAdd, Nat.reduceSub, Nat.reduceMul, Nat.reduceDiv, Int.reduceAdd, Int.reduceNeg, Int.reduceEq, Int.reduceLT, Int.reduceLE, c_garlandref03_Without_r14, castE_len]
      refine hKY _ ?_
      by_cases hk2 : k < es.length
      · refine wlk_cond1 (by first | rfl | (simp only [go_sem, reduceIte, Nat.reduceEqDiff, Nat.reduceBEq, reduceCtorEq, Nat.reduceLT, Nat.reduceLeDiff, Nat.reduceAdd, Nat.reduceSub, Nat.reduceMul, Nat.reduceDiv, Int.reduceAdd, Int.reduceNeg, Int.reduceEq, Int.reduceLT, Int.reduceLE]; try simp (disch := omega) only [decide_eq_true, decide_eq_false])) ?_
        refine wlk_skip ?_
        repeat (first | refine hn15 _ ?_ | refine he15 _ _ ?_ | refine he14 _ _ ?_ | refine hn13 _ ?_ | refine he13 _ ?_ | refine hf13 _ _ (by decide) ?_ | refine hn12 _ ?_ | refine he12 _ ?_ | refine hf12 _ _ (by decide) ?_ | refine hn11 _ ?_ | refine he11 _ _ ?_)
        refine wlk_seq fun X16 hn16 he16 hr16 => ?_
        refine wlk_blk fun X17 hn17 he17 hf17 hr17 => ?_
        have hx : es[k]? = some es[k] := List.getElem?_eq_getElem hk2
        have hy := g.ok es[k] (List.getElem_mem hk2)
        have hxm : es[k] ∈ es := List.getElem_mem hk2
        generalize es[k] = x at hx hy hxm
        obtain ⟨a, b⟩ := x
        simp only at hy
        have hx' := castE_get hx
        have hal : a < lab'.length := by rw [W'.len]; omega
        have hbl : b < lab'.length := by rw [W'.len]; omega
        have hb1 : k * 2 + 1 < es.length * 2 := by omega
        have hb2 : k * 2 < es.length * 2 := by omega
        have htk : ∀ e, e ∈ es.take (k + 1) → e ∈ es.take k ∨ e = (a, b) := fun e he => by
          rw [List.take_add_one, hx] at he
          simpa using he
        refine wlk_sdraw fun KY hKY => ?_
        simp only [go_sem, reduceIte, Nat.reduceEqDiff, Nat.reduceBEq, reduceCtorEq, Nat.reduceLT, Nat.reduceLeDiff, Nat.reduceAdd, Nat.reduceSub, Nat.reduceMul, Nat.reduceDiv, Int.reduceAdd, Int.reduceNeg, Int.reduceEq, Int.reduceLT, Int.reduceLE, c_garlandref03_Without_r15, castE_len, hk2, two_get0 hx', two_get1 hx', hb1, hb2]
        refine hKY _ ?_
        refine wlk_seq fun X18 hn18 he18 hr18 => ?_
        by_cases c1 : lab'.getD a 0 < 0
        · refine wlk_sdraw fun KY hKY => ?_
          simp only [go_sem, reduceIte, Nat.reduceEqDiff, Nat.reduceBEq, reduceCtorEq, Nat.reduceLT, Nat.reduceLeDiff, Nat.reduceAdd, Nat.reduceSub, Nat.reduceMul, Nat.reduceDiv, Int.reduceAdd, Int.reduceNeg, Int.reduceEq, Int.reduceLT, Int.reduceLE, c_garlandref03_Without_r16, ints_get hal, ints_get hbl, hal, hbl, c1]
          refine hKY _ ?_
          refine wlk_cond1 (by first | rfl | (simp only [go_sem, reduceIte, Nat.reduceEqDiff, Nat.reduceBEq, reduceCtorEq, Nat.reduceLT, Nat.reduceLeDiff, Nat.reduceAdd, Nat.reduceSub, Nat.reduceMul, Nat.reduceDiv, Int.reduceAdd, Int.reduceNeg, Int.reduceEq, Int.reduceLT, Int.reduceLE]; try simp (disch := omega) only [decide_eq_true, decide_eq_false])) ?_
          refine wlk_exit ?_
          repeat (first | refine hn18 _ ?_ | refine he18 _ _ ?_ | refine hn17 _ ?_ | refine he17 _ ?_ | refine hf17 _ _ (by decide) ?_ | refine hn16 _ ?_ | refine he16 _ _ ?_ | refine hn15 _ ?_ | refine he15 _ _ ?_ | refine he14 _ _ ?_ | refine hn13 _ ?_ | refine he13 _ ?_ | refine hf13 _ _ (by decide) ?_ | refine hn12 _ ?_ | refine he12 _ ?_ | refine hf12 _ _ (by decide) ?_ | refine hn11 _ ?_ | refine he11 _ _ ?_ | refine he10 _ _ ?_ | refine hn9 _ ?_ | refine he9 _ ?_ | refine hf9 _ _ (by decide) ?_ | refine hn8 _ ?_ | refine he8 _ _ ?_ | refine hn5 _ ?_ | refine he5 _ _ ?_ | refine he4 _ _ ?_ | refine hn3 _ ?_ | refine he3 _ ?_ | refine hf3 _ _ (by decide) ?_ | refine hn2 _ ?_ | refine he2 _ _ ?_ | refine hn1 _ ?_ | refine he1 _ _ ?_)
          refine wlk_reg fun KY hKY => ?_
          simp only [go_sem, reduceIte, Nat.reduceEqDiff, Nat.reduceBEq, reduceCtorEq, Nat.reduceLT, Nat.reduceLeDiff, Nat.reduceAdd, Nat.reduceSub, Nat.reduceMul, Nat.reduceDiv, Int.reduceAdd, Int.reduceNeg, Int.reduceEq, Int.reduceLT, Int.reduceLE, c_garlandref03_Without_r20, inc k (by omega)]
          refine hKY _ ?_
          repeat (first | refine hn18 _ ?_ | refine he18 _ _ ?_ | refine hn17 _ ?_ | refine he17 _ ?_ | refine hf17 _ _ (by decide) ?_ | refine hn16 _ ?_ | refine he16 _ _ ?_ | refine hn15 _ ?_ | refine he15 _ _ ?_)
          refine hn14 _ ((k + 1, lab', ag)) (es.length - (k + 1)) (by omega) (by first | (simp only [go_sem, reduceIte, Nat.reduceEqDiff, Nat.reduceBEq, reduceCtorEq, Nat.reduceLT, Nat.reduceLeDiff, Nat.reduceAdd, Nat.reduceSub, Nat.reduceMul, Nat.reduceDiv, Int.reduceAdd, Int.reduceNeg, Int.reduceEq, Int.reduceLT, Int.reduceLE, updAll_cons, updAll_nil]; done) | with_reducible rfl | rfl) ?_
          refine ⟨hk2, rfl, W', h1, (fun h e he => ?_), h3⟩
          rcases htk e he with h' | rfl
          · exact h2 h e h'
          · simp only; omega
        · by_cases c2 : lab'.getD b 0 < 0
          · refine wlk_sdraw fun KY hKY => ?_
            simp only [go_sem, reduceIte, Nat.reduceEqDiff, Nat.reduceBEq, reduceCtorEq, Nat.reduceLT, Nat.reduceLeDiff, Nat.reduceAdd, Nat.reduceSub, Nat.reduceMul, Nat.reduceDiv, Int.reduceAdd, Int.reduceNeg, Int.reduceEq, Int.reduceLT, Int.reduceLE, c_garlandref03_Without_r16, ints_get hal, ints_get hbl, hal, hbl, c1, c2]
            refine hKY _ ?_
            refine wlk_cond1 (by first | rfl | (simp only [go_sem, reduceIte, Nat.reduceEqDiff, Nat.reduceBEq, reduceCtorEq, Nat.reduceLT, Nat.reduceLeDiff, Nat.reduceAdd, Nat.reduceSub, Nat.reduceMul, Nat.reduceDiv, Int.reduceAdd, Int.reduceNeg, Int.reduceEq, Int.reduceLT, Int.reduceLE]; try simp (disch := omega) only [decide_eq_true, decide_eq_false])) ?_
            refine wlk_exit ?_
            repeat (first | refine hn18 _ ?_ | refine he18 _ _ ?_ | refine hn17 _ ?_ | refine he17 _ ?_ | refine hf17 _ _ (by decide) ?_ | refine hn16 _ ?_ | refine he16 _ _ ?_ | refine hn15 _ ?_ | refine he15 _ _ ?_ | refine he14 _ _ ?_ | refine hn13 _ ?_ | refine he13 _ ?_ | refine hf13 _ _ (by decide) ?_ | refine hn12 _ ?_ | refine he12 _ ?_ | refine hf12 _ _ (by decide) ?_ | refine hn11 _ ?_ | refine he11 _ _ ?_ | refine he10 _ _ ?_ | refine hn9 _ ?_ | refine he9 _ ?_ | refine hf9 _ _ (by decide) ?_ | refine hn8 _ ?_ | refine he8 _ _ ?_ | refine hn5 _ ?_ | refine he5 _ _ ?_ | refine he4 _ _ ?_ | refine hn3 _ ?_ | refine he3 _ ?_ | refine hf3 _ _ (by decide) ?_ | refine hn2 _ ?_ | refine he2 _ _ ?_ | refine hn1 _ ?_ | refine he1 _ _ ?_)
            refine wlk_reg fun KY hKY => ?_
            simp only [go_sem, reduceIte, Nat.reduceEqDiff, Nat.reduceBEq, reduceCtorEq, Nat.reduceLT, Nat.reduceLeDiff, Nat.reduceAdd, Nat.reduceSub, Nat.reduceMul, Nat.reduceDiv, Int.reduceAdd, Int.reduceNeg, Int.reduceEq, Int.reduceLT, Int.reduceLE, c_garlandref03_Without_r20, inc k (by omega)]
            refine hKY _ ?_
            repeat (first | refine hn18 _ ?_ | refine he18 _ _ ?_ | refine hn17 _ ?_ | refine he17 _ ?_ | refine hf17 _ _ (by decide) ?_ | refine hn16 _ ?_ | refine he16 _ _ ?_ | refine hn15 _ ?_ | refine he15 _ _ ?_)
            refine hn14 _ ((k + 1, lab', ag)) (es.length - (k + 1)) (by omega) (by first | (simp only [go_sem, reduceIte, Nat.reduceEqDiff, Nat.reduceBEq, reduceCtorEq, Nat.reduceLT, Nat.reduceLeDiff, Nat.reduceAdd, Nat.reduceSub, Nat.reduceMul, Nat.reduceDiv, Int.reduceAdd, Int.reduceNeg, Int.reduceEq, Int.reduceLT, Int.reduceLE, updAll_cons, updAll_nil]; done) | with_reducible rfl | rfl) ?_
            refine ⟨hk2, rfl, W', h1, (fun h e he => ?_), h3⟩
            rcases htk e he with h' | rfl
            · exact h2 h e h'
            · simp only; omega
          · by_cases c3 : lab'.getD a 0 = lab'.getD b 0
            · have c3' : decide (lab'.getD a 0 = lab'.getD b 0) = true := decide_eq_true c3
              refine wlk_sdraw fun KY hKY => ?_
              simp only [go_sem, reduceIte, Nat.reduceEqDiff, Nat.reduceBEq, reduceCtorEq, Nat.reduceLT, Nat.reduceLeDiff, Nat.reduceAdd, Nat.reduceSub, Nat.reduceMul, Nat.reduceDiv, Int.reduceAdd, Int.reduceNeg, Int.reduceEq, Int.reduceLT, Int.reduceLE, c_garlandref03_Without_r16, ints_get hal, ints_get hbl, hal, hbl, c1, c2, c3']
              refine hKY _ ?_
              refine wlk_cond1 (by first | rfl | (simp only [go_sem, reduceIte, Nat.reduceEqDiff, Nat.reduceBEq, reduceCtorEq, Nat.reduceLT, Nat.reduceLeDiff, Nat.reduceAdd, Nat.reduceSub, Nat.reduceMul, Nat.reduceDiv, Int.reduceAdd, Int.reduceNeg, Int.reduceEq, Int.reduceLT, Int.reduceLE]; try simp (disch := omega) only [decide_eq_true, decide_eq_false])) ?_
              refine wlk_exit ?_
              repeat (first | refine hn18 _ ?_ | refine he18 _ _ ?_ | refine hn17 _ ?_ | refine he17 _ ?_ | refine hf17 _ _ (by decide) ?_ | refine hn16 _ ?_ | refine he16 _ _ ?_ | refine hn15 _ ?_ | refine he15 _ _ ?_ | refine he14 _ _ ?_ | refine hn13 _ ?_ | refine he13 _ ?_ | refine hf13 _ _ (by decide) ?_ | refine hn12 _ ?_ | refine he12 _ ?_ | refine hf12 _ _ (by decide) ?_ | refine hn11 _ ?_ | refine he11 _ _ ?_ | refine he10 _ _ ?_ | refine hn9 _ ?_ | refine he9 _ ?_ | refine hf9 _ _ (by decide) ?_ | refine hn8 _ ?_ | refine he8 _ _ ?_ | refine hn5 _ ?_ | refine he5 _ _ ?_ | refine he4 _ _ ?_ | refine hn3 _ ?_ | refine he3 _ ?_ | refine hf3 _ _ (by decide) ?_ | refine hn2 _ ?_ | refine he2 _ _ ?_ | refine hn1 _ ?_ | refine he1 _ _ ?_)
              refine wlk_reg fun KY hKY => ?_
              simp only [go_sem, reduceIte, Nat.reduceEqDiff, Nat.reduceBEq, reduceCtorEq, Nat.reduceLT, Nat.reduceLeDiff, Nat.reduceAdd, Nat.reduceSub, Nat.reduceMul, Nat.reduceDiv, Int.reduceAdd, Int.reduceNeg, Int.reduceEq, Int.reduceLT, Int.reduceLE, c_garlandref03_Without_r20, inc k (by omega)]
              refine hKY _ ?_
              repeat (first | refine hn18 _ ?_ | refine he18 _ _ ?_ | refine hn17 _ ?_ | refine he17 _ ?_ | refine hf17 _ _ (by decide) ?_ | refine hn16 _ ?_ | refine he16 _ _ ?_ | refine hn15 _ ?_ | refine he15 _ _ ?_)
              refine hn14 _ ((k + 1, lab', ag)) (es.length - (k + 1)) (by omega) (by first | (simp only [go_sem, reduceIte, Nat.reduceEqDiff, Nat.reduceBEq, reduceCtorEq, Nat.reduceLT, Nat.reduceLeDiff, Nat.reduceAdd, Nat.reduceSub, Nat.reduceMul, Nat.reduceDiv, Int.reduceAdd, Int.reduceNeg, Int.reduceEq, Int.reduceLT, Int.reduceLE, updAll_cons, updAll_nil]; done) | with_reducible rfl | rfl) ?_
              refine ⟨hk2, rfl, W', h1, (fun h e he => ?_), h3⟩
              rcases htk e he with h' | rfl
              · exact h2 h e h'
              · simp only; omega
            · refine wlk_sdraw fun KY hKY => ?_
              simp only [go_sem, reduceIte, Nat.reduceEqDiff, Nat.reduceBEq, reduceCtorEq, Nat.reduceLT, Nat.reduceLeDiff, Nat.reduceAdd, Nat.reduceSub, Nat.reduceMul, Nat.reduceDiv, Int.reduceAdd, Int.reduceNeg, Int.reduceEq, Int.reduceLT, Int.reduceLE, c_garlandref03_Without_r16, ints_get hal, ints_get hbl, hal, hbl, c1, c2, c3]
              refine hKY _ ?_
              refine wlk_cond0 (by first | rfl | (simp only [go_sem, reduceIte, Nat.reduceEqDiff, Nat.reduceBEq, reduceCtorEq, Nat.reduceLT, Nat.reduceLeDiff, Nat.reduceAdd, Nat.reduceSub, Nat.reduceMul, Nat.reduceDiv, Int.reduceAdd, Int.reduceNeg, Int.reduceEq, Int.reduceLT, Int.reduceLE]; try simp (disch := omega) only [decide_eq_true, decide_eq_false])) ?_
              refine wlk_skip ?_
              repeat (first | refine hn18 _ ?_ | refine he18 _ _ ?_ | refine hn17 _ ?_ | refine he17 _ ?_ | refine hf17 _ _ (by decide) ?_ | refine hn16 _ ?_ | refine he16 _ _ ?_ | refine hn15 _ ?_ | refine he15 _ _ ?_ | refine he14 _ _ ?_ | refine hn13 _ ?_ | refine he13 _ ?_ | refine hf13 _ _ (by decide) ?_ | refine hn12 _ ?_ | refine he12 _ ?_ | refine hf12 _ _ (by decide) ?_ | refine hn11 _ ?_ | refine he11 _ _ ?_)
              refine wlk_sdraw fun KY hKY => ?_
              simp only [go_sem, reduceIte, Nat.reduceEqDiff, Nat.reduceBEq, reduceCtorEq, Nat.reduceLT, Nat.reduceLeDiff, Nat.reduceAdd, Nat.reduceSub, Nat.reduceMul, Nat.reduceDiv, Int.reduceAdd, Int.reduceNeg, Int.reduceEq, Int.reduceLT, Int.reduceLE, c_garlandref03_Without_r17, ints_get hal, ints_get hbl, hal, hbl]
              refine hKY _ ?_
              have hfold : (lab'.set a (min (lab'.getD a 0) (lab'.getD b 0))).set b (min (lab'.getD a 0) (lab'.getD b 0)) = lab2 lab' a b := rfl
              refine wlk_sreg fun KY hKY => ?_
              simp only [go_sem, reduceIte, Nat.reduceEqDiff, Nat.reduceBEq, reduceCtorEq, Nat.reduceLT, Nat.reduceLeDiff, Nat.reduceAdd, Nat.reduceSub, Nat.reduceMul, Nat.reduceDiv, Int.reduceAdd, Int.reduceNeg, Int.reduceEq, Int.reduceLT, Int.reduceLE, c_garlandref03_Without_r18, hal, hbl, ints_len, hfold]
              refine hKY _ ?_
              refine wlk_reg fun KY hKY => ?_
              simp only [go_sem, reduceIte, Nat.reduceEqDiff, Nat.reduceBEq, reduceCtorEq, Nat.reduceLT, Nat.reduceLeDiff, Nat.reduceAdd, Nat.reduceSub, Nat.reduceMul, Nat.reduceDiv, Int.reduceAdd, Int.reduceNeg, Int.reduceEq, Int.reduceLT, Int.reduceLE, c_garlandref03_Without_r19]
              refine hKY _ ?_
              repeat (first | refine hn18 _ ?_ | refine he18 _ _ ?_ | refine hn17 _ ?_ | refine he17 _ ?_ | refine hf17 _ _ (by decide) ?_ | refine hn16 _ ?_ | refine he16 _ _ ?_ | refine hn15 _ ?_ | refine he15 _ _ ?_ | refine he14 _ _ ?_ | refine hn13 _ ?_ | refine he13 _ ?_ | refine hf13 _ _ (by decide) ?_ | refine hn12 _ ?_ | refine he12 _ ?_ | refine hf12 _ _ (by decide) ?_ | refine hn11 _ ?_ | refine he11 _ _ ?_)
              have hlt := lab2_sum hal hbl (by omega) c1 c2 c3
              refine wlk_reg fun KY hKY => ?_
              simp only [go_sem, reduceIte, Nat.reduceEqDiff, Nat.reduceBEq, reduceCtorEq, Nat.reduceLT, Nat.reduceLeDiff, Nat.reduceAdd, Nat.reduceSub, Nat.reduceMul, Nat.reduceDiv, Int.reduceAdd, Int.reduceNeg, Int.reduceEq, Int.reduceLT, Int.reduceLE, c_garlandref03_Without_r20, inc k (by omega)]
              refine hKY _ ?_
              repeat (first | refine hn18 _ ?_ | refine he18 _ _ ?_ | refine hn17 _ ?_ | refine he17 _ ?_ | refine hf17 _ _ (by decide) ?_ | refine hn16 _ ?_ | refine he16 _ _ ?_ | refine hn15 _ ?_ | refine he15 _ _ ?_)
              refine hn14 _ ((k + 1, lab2 lab' a b, true)) (es.length - (k + 1)) (by omega) (by first | (simp only [go_sem, reduceIte, Nat.reduceEqDiff, Nat.reduceBEq, reduceCtorEq, Nat.reduceLT, Nat.reduceLeDiff, Nat.reduceAdd, Nat.reduceSub, Nat.reduceMul, Nat.reduceDiv, Int.reduceAdd, Int.reduceNeg, Int.reduceEq, Int.reduceLT, Int.reduceLE, updAll_cons, updAll_nil]; done) | with_reducible rfl | rfl) ?_
              exact ⟨hk2, rfl, W'.step (.inl hxm) (by omega) (by omega) c1 c2, fun _ => by omega, (fun h => by cases h), by omega⟩
      · refine wlk_cond0 (by first | rfl | (simp only [go_sem, reduceIte, Nat.reduceEqDiff, Nat.reduceBEq, reduceCtorEq, Nat.reduceLT, Nat.reduceLeDiff, Nat.reduceAdd, Nat.reduceSub, Nat.reduceMul, Nat.reduceDiv, Int.reduceAdd, Int.reduceNeg, Int.reduceEq, Int.reduceLT, Int.reduceLE]; try simp (disch := omega) only [decide_eq_true, decide_eq_false])) ?_
        refine wlk_exit ?_
        repeat (first | refine hn15 _ ?_ | refine he15 _ _ ?_ | refine he14 _ _ ?_ | refine hn13 _ ?_ | refine he13 _ ?_ | refine hf13 _ _ (by decide) ?_ | refine hn12 _ ?_ | refine he12 _ ?_ | refine hf12 _ _ (by decide) ?_ | refine hn11 _ ?_ | refine he11 _ _ ?_ | refine he10 _ _ ?_ | refine hn9 _ ?_ | refine he9 _ ?_ | refine hf9 _ _ (by decide) ?_ | refine hn8 _ ?_ | refine he8 _ _ ?_ | refine hn5 _ ?_ | refine he5 _ _ ?_ | refine he4 _ _ ?_ | refine hn3 _ ?_ | refine he3 _ ?_ | refine hf3 _ _ (by decide) ?_ | refine hn2 _ ?_ | refine he2 _ _ ?_ | refine hn1 _ ?_ | refine he1 _ _ ?_)
        obtain rfl : k = es.length := by omega
        rw [List.take_length] at h2
        cases ag with
        | true =>
          have := h1 rfl
          repeat (first | refine hn15 _ ?_ | refine he15 _ _ ?_ | refine he14 _ _ ?_ | refine hn13 _ ?_ | refine he13 _ ?_ | refine hf13 _ _ (by decide) ?_ | refine hn12 _ ?_ | refine he12 _ ?_ | refine hf12 _ _ (by decide) ?_ | refine hn11 _ ?_ | refine he11 _ _ ?_)
          refine hn10 _ ((lab', true)) (labSum lab' + 1) (by omega) (by first | (simp only [go_sem, reduceIte, Nat.reduceEqDiff, Nat.reduceBEq, reduceCtorEq, Nat.reduceLT, Nat.reduceLeDiff, Nat.reduceAdd, Nat.reduceSub, Nat.reduceMul, Nat.reduceDiv, Int.reduceAdd, Int.reduceNeg, Int.reduceEq, Int.reduceLT, Int.reduceLE, updAll_cons, updAll_nil]; done) | with_reducible rfl | rfl) ?_
          exact ⟨rfl, W', (fun h => by cases h)⟩
        | false =>
          repeat (first | refine hn15 _ ?_ | refine he15 _ _ ?_ | refine he14 _ _ ?_ | refine hn13 _ ?_ | refine he13 _ ?_ | refine hf13 _ _ (by decide) ?_ | refine hn12 _ ?_ | refine he12 _ ?_ | refine hf12 _ _ (by decide) ?_ | refine hn11 _ ?_ | refine he11 _ _ ?_)
          refine hn10 _ ((lab', false)) (labSum lab') (by omega) (by first | (simp only [go_sem, reduceIte, Nat.reduceEqDiff, Nat.reduceBEq, reduceCtorEq, Nat.reduceLT, Nat.reduceLeDiff, Nat.reduceAdd, Nat.reduceSub, Nat.reduceMul, Nat.reduceDiv, Int.reduceAdd, Int.reduceNeg, Int.reduceEq, Int.reduceLT, Int.reduceLE, updAll_cons, updAll_nil]; done) | with_reducible rfl | rfl) ?_
          exact ⟨rfl, W', fun _ => h2 rfl⟩
    | false =>
      refine wlk_cond0 (by first | rfl | (simp only [go_sem, reduceIte, Nat.reduceEqDiff, Nat.reduceBEq, reduceCtorEq, Nat.reduceLT, Nat.reduceLeDiff, Nat.reduceAdd, Nat.reduceSub, Nat.reduceMul, Nat.reduceDiv, Int.reduceAdd, Int.reduceNeg, Int.reduceEq, Int.reduceLT, Int.reduceLE]; try simp (disch := omega) only [decide_eq_true, decide_eq_false])) ?_
      refine wlk_exit ?_
      repeat (first | refine hn11 _ ?_ | refine he11 _ _ ?_ | refine he10 _ _ ?_ | refine hn9 _ ?_ | refine he9 _ ?_ | refine hf9 _ _ (by decide) ?_ | refine hn8 _ ?_ | refine he8 _ _ ?_ | refine hn5 _ ?_ | refine he5 _ _ ?_ | refine he4 _ _ ?_ | refine hn3 _ ?_ | refine he3 _ ?_ | refine hf3 _ _ (by decide) ?_ | refine hn2 _ ?_ | refine he2 _ _ ?_ | refine hn1 _ ?_ | refine he1 _ _ ?_)
      have hps := W.pieces g.adj_lt (hfix rfl)
      refine wlk_sreg fun KY hKY => ?_
      simp only [go_sem, reduceIte, Nat.reduceEqDiff, Nat.reduceBEq, reduceCtorEq, Nat.reduceLT, Nat.reduceLeDiff, Nat.reduceAdd, Nat.reduceSub, Nat.reduceMul, Nat.reduceDiv, Int.reduceAdd, Int.reduceNeg, Int.reduceEq, Int.reduceLT, Int.reduceLE, c_garlandref03_Without_r21]
      refine hKY _ ?_
      simp only [go_sem, reduceIte, Nat.reduceEqDiff, Nat.reduceBEq, reduceCtorEq, Nat.reduceLT, Nat.reduceLeDiff, Nat.reduceAdd, Nat.reduceSub, Nat.reduceMul, Nat.reduceDiv, Int.reduceAdd, Int.reduceNeg, Int.reduceEq, Int.reduceLT, Int.reduceLE]
      refine sem_nil [0, 12] 1 (by simp only [go_sem, reduceIte, Nat.reduceEqDiff, Nat.reduceBEq, reduceCtorEq, Nat.reduceLT, Nat.reduceLeDiff, Nat.reduceAdd, Nat.reduceSub, Nat.reduceMul, Nat.reduceDiv, Int.reduceAdd, Int.reduceNeg, Int.reduceEq, Int.reduceLT, Int.reduceLE]) ?_
      simp only [go_sem, reduceIte, Nat.reduceEqDiff, Nat.reduceBEq, reduceCtorEq, Nat.reduceLT, Nat.reduceLeDiff, Nat.reduceAdd, Nat.reduceSub, Nat.reduceMul, Nat.reduceDiv, Int.reduceAdd, Int.reduceNeg, Int.reduceEq, Int.reduceLT, Int.reduceLE]
      rw [show AVal.own (some 1) [] = .own (some 1) (rowsO (byLabel v lab 0)) from rfl]
      refine wlk_seq fun X19 hn19 he19 hr19 => ?_
      refine wlk_sreg fun KY hKY => ?_
      simp only [go_sem, reduceIte, Nat.reduceEqDiff, Nat.reduceBEq, reduceCtorEq, Nat.reduceLT, Nat.reduceLeDiff, Nat.reduceAdd, Nat.reduceSub, Nat.reduceMul, Nat.reduceDiv, Int.reduceAdd, Int.reduceNeg, Int.reduceEq, Int.reduceLT, Int.reduceLE, c_garlandref03_Without_r22]
      refine hKY _ ?_
      refine wlk_blk fun X20 hn20 he20 hf20 hr20 => ?_
      try simp only [go_sem, reduceIte, Nat.reduceEqDiff, Nat.reduceBEq, reduceCtorEq, Nat.reduceLT, Nat.reduceLeDiff, Nat.reduceAdd, Nat.reduceSub, Nat.reduceMul, Nat.reduceDiv, Int.reduceAdd, Int.reduceNeg, Int.reduceEq, Int.reduceLT, Int.reduceLE]
      refine wlk_lp (α := Nat) [8, 9, 10, 11, 14, 15, 25, 34, 38, 43, 80, 101, 109, 113, 121] (fun u => [(12, .own (some 1) (rowsO (byLabel v lab u))), (13, .sc (.int .i64 (u : Int)))]) (fun u => []) (fun u q => u ≤ v ∧ q = v - u) (0) (v) rfl (by first | (simp only [go_sem, reduceIte, Nat.reduceEqDiff, Nat.reduceBEq, reduceCtorEq, Nat.reduceLT, Nat.reduceLeDiff, Nat.reduceAdd, Nat.reduceSub, Nat.reduceMul, Nat.reduceDiv, Int.reduceAdd, Int.reduceNeg, Int.reduceEq, Int.reduceLT, Int.reduceLE, updAll_cons, updAll_nil]; done) | with_reducible rfl | rfl) (⟨by omega, rfl⟩) ?_
      rintro u q ⟨hu, rfl⟩ X21 hn21 he21 hr21
      simp only [go_sem, reduceIte, Nat.reduceEqDiff, Nat.reduceBEq, reduceCtorEq, Nat.reduceLT, Nat.reduceLeDiff, Nat.reduceAdd, Nat.reduceSub, Nat.reduceMul, Nat.reduceDiv, Int.reduceAdd, Int.reduceNeg, Int.reduceEq, Int.reduceLT, Int.reduceLE, updAll_cons, updAll_nil]
      refine wlk_seq fun X22 hn22 he22 hr22 => ?_
      refine wlk_sreg fun KY hKY => ?_
      simp only [go_sem, reduceIte, Nat.reduceEqDiff, Nat.reduceBEq, reduceCtorEq, Nat.reduceLT, Nat.reduceLeDiff, Nat.reduceAdd, Nat.reduceSub, Nat.reduceMul, Nat.reduceDiv, Int.reduceAdd, Int.reduceNeg, Int.reduceEq, Int.reduceLT, Int.reduceLE, c_garlandref03_Without_r23]
      refine hKY _ ?_
      by_cases hu2 : u < v
      · refine wlk_cond1 (by first | rfl | (simp only [go_sem, reduceIte, Nat.reduceEqDiff, Nat.reduceBEq, reduceCtorEq, Nat.reduceLT, Nat.reduceLeDiff, Nat.reduceAdd, Nat.reduceSub, Nat.reduceMul, Nat.reduceDiv, Int.reduceAdd, Int.reduceNeg, Int.reduceEq, Int.reduceLT, Int.reduceLE]; try simp (disch := omega) only [decide_eq_true, decide_eq_false])) ?_
        refine wlk_skip ?_
        repeat (first | refine hn22 _ ?_ | refine he22 _ _ ?_ | refine he21 _ _ ?_ | refine hn20 _ ?_ | refine he20 _ ?_ | refine hf20 _ _ (by decide) ?_ | refine hn19 _ ?_ | refine he19 _ _ ?_ | refine hn11 _ ?_ | refine he11 _ _ ?_)
        refine wlk_seq fun X23 hn23 he23 hr23 => ?_
        refine wlk_blk fun X24 hn24 he24 hf24 hr24 => ?_
        refine wlk_seq fun X25 hn25 he25 hr25 => ?_
        have hul : u < lab.length := by rw [W.len]; exact hu2
        have hstp := byLabel_up v lab u
        refine wlk_sreg fun KY hKY => ?_
        simp only [go_sem, reduceIte, Nat.reduceEqDiff, Nat.reduceBEq, reduceCtorEq, Nat.reduceLT, Nat.reduceLeDiff, Nat.reduceAdd, Nat.reduceSub, Nat.reduceMul, Nat.reduceDiv, Int.reduceAdd, Int.reduceNeg, Int.reduceEq, Int.reduceLT, Int.reduceLE, c_garlandref03_Without_r24, ints_get hul, hul]
        refine hKY _ ?_
        by_cases c : lab.getD u 0 = (u : Int)
        · rw [if_pos c] at hstp
          refine wlk_cond0 (by first | rfl | (simp only [go_sem, reduceIte, Nat.reduceEqDiff, Nat.reduceBEq, reduceCtorEq, Nat.reduceLT, Nat.reduceLeDiff, Nat.reduceAdd, Nat.reduceSub, Nat.reduceMul, Nat.reduceDiv, Int.reduceAdd, Int.reduceNeg, Int.reduceEq, Int.reduceLT, Int.reduceLE, c, ne_eq, not_true_eq_false]; try simp (disch := omega) only [decide_eq_true, decide_eq_false])) ?_
          refine wlk_skip ?_
          repeat (first | refine hn25 _ ?_ | refine he25 _ _ ?_ | refine hn24 _ ?_ | refine he24 _ ?_ | refine hf24 _ _ (by decide) ?_ | refine hn23 _ ?_ | refine he23 _ _ ?_ | refine hn22 _ ?_ | refine he22 _ _ ?_ | refine he21 _ _ ?_ | refine hn20 _ ?_ | refine he20 _ ?_ | refine hf20 _ _ (by decide) ?_ | refine hn19 _ ?_ | refine he19 _ _ ?_ | refine hn11 _ ?_ | refine he11 _ _ ?_)
          refine wlk_sreg fun KY hKY => ?_
          simp only [go_sem, reduceIte, Nat.reduceEqDiff, Nat.reduceBEq, reduceCtorEq, Nat.reduceLT, Nat.reduceLeDiff, Nat.reduceAdd, Nat.reduceSub, Nat.reduceMul, Nat.reduceDiv, Int.reduceAdd, Int.reduceNeg, Int.reduceEq, Int.reduceLT, Int.reduceLE, c_garlandref03_Without_r25]
          refine hKY _ ?_
          simp only [go_sem, reduceIte, Nat.reduceEqDiff, Nat.reduceBEq, reduceCtorEq, Nat.reduceLT, Nat.reduceLeDiff, Nat.reduceAdd, Nat.reduceSub, Nat.reduceMul, Nat.reduceDiv, Int.reduceAdd, Int.reduceNeg, Int.reduceEq, Int.reduceLT, Int.reduceLE]
          refine sem_nil [0, 14] 1 (by simp only [go_sem, reduceIte, Nat.reduceEqDiff, Nat.reduceBEq, reduceCtorEq, Nat.reduceLT, Nat.reduceLeDiff, Nat.reduceAdd, Nat.reduceSub, Nat.reduceMul, Nat.reduceDiv, Int.reduceAdd, Int.reduceNeg, Int.reduceEq, Int.reduceLT, Int.reduceLE]) ?_
          simp only [go_sem, reduceIte, Nat.reduceEqDiff, Nat.reduceBEq, reduceCtorEq, Nat.reduceLT, Nat.reduceLeDiff, Nat.reduceAdd, Nat.reduceSub, Nat.reduceMul, Nat.reduceDiv, Int.reduceAdd, Int.reduceNeg, Int.reduceEq, Int.reduceLT, Int.reduceLE]
          rw [show AVal.own (some 1) [] = .own (some 1) (nats (upTo lab u 0)) from rfl]
          refine wlk_seq fun X26 hn26 he26 hr26 => ?_
          refine wlk_sreg fun KY hKY => ?_
          simp only [go_sem, reduceIte, Nat.reduceEqDiff, Nat.reduceBEq, reduceCtorEq, Nat.reduceLT, Nat.reduceLeDiff, Nat.reduceAdd, Nat.reduceSub, Nat.reduceMul, Nat.reduceDiv, Int.reduceAdd, Int.reduceNeg, Int.reduceEq, Int.reduceLT, Int.reduceLE, c_garlandref03_Without_r26]
          refine hKY _ ?_
          refine wlk_blk fun X27 hn27 he27 hf27 hr27 => ?_
          try simp only [go_sem, reduceIte, Nat.reduceEqDiff, Nat.reduceBEq, reduceCtorEq, Nat.reduceLT, Nat.reduceLeDiff, Nat.reduceAdd, Nat.reduceSub, Nat.reduceMul, Nat.reduceDiv, Int.reduceAdd, Int.reduceNeg, Int.reduceEq, Int.reduceLT, Int.reduceLE]
          refine wlk_lp (α := Nat) [113, 121] (fun w => [(14, .own (some 1) (nats (upTo lab u w))), (15, .sc (.int .i64 (w : Int)))]) (fun w => []) (fun w q => w ≤ v ∧ q = v - w) (0) (v) rfl (by first | (simp only [go_sem, reduceIte, Nat.reduceEqDiff, Nat.reduceBEq, reduceCtorEq, Nat.reduceLT, Nat.reduceLeDiff, Nat.reduceAdd, Nat.reduceSub, Nat.reduceMul, Nat.reduceDiv, Int.reduceAdd, Int.reduceNeg, Int.reduceEq, Int.reduceLT, Int.reduceLE, updAll_cons, updAll_nil]; done) | with_reducible rfl | rfl) (⟨by omega, rfl⟩) ?_
          rintro w q ⟨hw, rfl⟩ X28 hn28 he28 hr28
          simp only [go_sem, reduceIte, Nat.reduceEqDiff, Nat.reduceBEq, reduceCtorEq, Nat.reduceLT, Nat.reduceLeDiff, Nat.reduceAdd, Nat.reduceSub, Nat.reduceMul, Nat.reduceDiv, Int.reduceAdd, Int.reduceNeg, Int.reduceEq, Int.reduceLT, Int.reduceLE, updAll_cons, updAll_nil]
          have hfs := upTo_step lab u w
          have hfl := upTo_len lab u w
          refine wlk_seq fun X29 hn29 he29 hr29 => ?_
          refine wlk_sreg fun KY hKY => ?_
          simp only [go_sem, reduceIte, Nat.reduceEqDiff, Nat.reduceBEq, reduceCtorEq, Nat.reduceLT, Nat.reduceLeDiff, Nat.reduceAdd, Nat.reduceSub, Nat.reduceMul, Nat.reduceDiv, Int.reduceAdd, Int.reduceNeg, Int.reduceEq, Int.reduceLT, Int.reduceLE, c_garlandref03_Without_r27]
          refine hKY _ ?_
          by_cases hw2 : w < v
          · refine wlk_cond1 (by first | rfl | (simp only [go_sem, reduceIte, Nat.reduceEqDiff, Nat.reduceBEq, reduceCtorEq, Nat.reduceLT, Nat.reduceLeDiff, Nat.reduceAdd, Nat.reduceSub, Nat.reduceMul, Nat.reduceDiv, Int.reduceAdd, Int.reduceNeg, Int.reduceEq, Int.reduceLT, Int.reduceLE]; try simp (disch := omega) only [decide_eq_true, decide_eq_false])) ?_
            refine wlk_skip ?_
            repeat (first | refine hn29 _ ?_ | refine he29 _ _ ?_ | refine he28 _ _ ?_ | refine hn27 _ ?_ | refine he27 _ ?_ | refine hf27 _ _ (by decide) ?_ | refine hn26 _ ?_ | refine he26 _ _ ?_ | refine hn25 _ ?_ | refine he25 _ _ ?_ | refine hn24 _ ?_ | refine he24 _ ?_ | refine hf24 _ _ (by decide) ?_ | refine hn23 _ ?_ | refine he23 _ _ ?_ | refine hn22 _ ?_ | refine he22 _ _ ?_)
            refine wlk_seq fun X30 hn30 he30 hr30 => ?_
            refine wlk_blk fun X31 hn31 he31 hf31 hr31 => ?_
            have hwl : w < lab.length := by rw [W.len]; exact hw2
            have hby2 : ((upTo lab u w).length + 1) * 8 ≤ 140737488355328 := by omega
            refine wlk_sreg fun KY hKY => ?_
            simp only [go_sem, reduceIte, Nat.reduceEqDiff, Nat.reduceBEq, reduceCtorEq, Nat.reduceLT, Nat.reduceLeDiff, Nat.reduceAdd, Nat.reduceSub, Nat.reduceMul, Nat.reduceDiv, Int.reduceAdd, Int.reduceNeg, Int.reduceEq, Int.reduceLT, Int.reduceLE, c_garlandref03_Without_r28, ints_get hwl, hwl]
            refine hKY _ ?_
            by_cases c4 : lab.getD w 0 = (u : Int)
            · rw [if_pos c4] at hfs
              refine wlk_cond1 (by first | rfl | (simp only [go_sem, reduceIte, Nat.reduceEqDiff, Nat.reduceBEq, reduceCtorEq, Nat.reduceLT, Nat.reduceLeDiff, Nat.reduceAdd, Nat.reduceSub, Nat.reduceMul, Nat.reduceDiv, Int.reduceAdd, Int.reduceNeg, Int.reduceEq, Int.reduceLT, Int.reduceLE, c4]; try simp (disch := omega) only [decide_eq_true, decide_eq_false])) ?_
              refine wlk_reg fun KY hKY => ?_
              simp only [go_sem, reduceIte, Nat.reduceEqDiff, Nat.reduceBEq, reduceCtorEq, Nat.reduceLT, Nat.reduceLeDiff, Nat.reduceAdd, Nat.reduceSub, Nat.reduceMul, Nat.reduceDiv, Int.reduceAdd, Int.reduceNeg, Int.reduceEq, Int.reduceLT, Int.reduceLE, c_garlandref03_Without_r29, nats_snoc, hby2]
              refine hKY _ ?_
              repeat (first | refine hn31 _ ?_ | refine he31 _ ?_ | refine hf31 _ _ (by decide) ?_ | refine hn30 _ ?_ | refine he30 _ _ ?_ | refine hn29 _ ?_ | refine he29 _ _ ?_ | refine he28 _ _ ?_ | refine hn27 _ ?_ | refine he27 _ ?_ | refine hf27 _ _ (by decide) ?_ | refine hn26 _ ?_ | refine he26 _ _ ?_ | refine hn25 _ ?_ | refine he25 _ _ ?_ | refine hn24 _ ?_ | refine he24 _ ?_ | refine hf24 _ _ (by decide) ?_ | refine hn23 _ ?_ | refine he23 _ _ ?_ | refine hn22 _ ?_ | refine he22 _ _ ?_)
              refine wlk_reg fun KY hKY => ?_
              simp only [go_sem, reduceIte, Nat.reduceEqDiff, Nat.reduceBEq, reduceCtorEq, Nat.reduceLT, Nat.reduceLeDiff, Nat.reduceAdd, Nat.reduceSub, Nat.reduceMul, Nat.reduceDiv, Int.reduceAdd, Int.reduceNeg, Int.reduceEq, Int.reduceLT, Int.reduceLE, c_garlandref03_Without_r30, inc w (by omega)]
              refine hKY _ ?_
              repeat (first | refine hn31 _ ?_ | refine he31 _ ?_ | refine hf31 _ _ (by decide) ?_ | refine hn30 _ ?_ | refine he30 _ _ ?_ | refine hn29 _ ?_ | refine he29 _ _ ?_)
              refine hn28 _ (w + 1) (v - (w + 1)) (by omega) (by first | (simp only [go_sem, reduceIte, Nat.reduceEqDiff, Nat.reduceBEq, reduceCtorEq, Nat.reduceLT, Nat.reduceLeDiff, Nat.reduceAdd, Nat.reduceSub, Nat.reduceMul, Nat.reduceDiv, Int.reduceAdd, Int.reduceNeg, Int.reduceEq, Int.reduceLT, Int.reduceLE, updAll_cons, updAll_nil, hfs]; done) | with_reducible rfl | rfl) ?_
              exact ⟨hw2, rfl⟩
            · rw [if_neg c4] at hfs
              refine wlk_cond0 (by first | rfl | (simp only [go_sem, reduceIte, Nat.reduceEqDiff, Nat.reduceBEq, reduceCtorEq, Nat.reduceLT, Nat.reduceLeDiff, Nat.reduceAdd, Nat.reduceSub, Nat.reduceMul, Nat.reduceDiv, Int.reduceAdd, Int.reduceNeg, Int.reduceEq, Int.reduceLT, Int.reduceLE, c4]; try simp (disch := omega) only [decide_eq_true, decide_eq_false])) ?_
              refine wlk_skip ?_
              repeat (first | refine hn31 _ ?_ | refine he31 _ ?_ | refine hf31 _ _ (by decide) ?_ | refine hn30 _ ?_ | refine he30 _ _ ?_ | refine hn29 _ ?_ | refine he29 _ _ ?_ | refine he28 _ _ ?_ | refine hn27 _ ?_ | refine he27 _ ?_ | refine hf27 _ _ (by decide) ?_ | refine hn26 _ ?_ | refine he26 _ _ ?_ | refine hn25 _ ?_ | refine he25 _ _ ?_ | refine hn24 _ ?_ | refine he24 _ ?_ | refine hf24 _ _ (by decide) ?_ | refine hn23 _ ?_ | refine he23 _ _ ?_ | refine hn22 _ ?_ | refine he22 _ _ ?_)
              refine wlk_reg fun KY hKY => ?_
              simp only [go_sem, reduceIte, Nat.reduceEqDiff, Nat.reduceBEq, reduceCtorEq, Nat.reduceLT, Nat.reduceLeDiff, Nat.reduceAdd, Nat.reduceSub, Nat.reduceMul, Nat.reduceDiv, Int.reduceAdd, Int.reduceNeg, Int.reduceEq, Int.reduceLT, Int.reduceLE, c_garlandref03_Without_r30, inc w (by omega)]
              refine hKY _ ?_
              repeat (first | refine hn31 _ ?_ | refine he31 _ ?_ | refine hf31 _ _ (by decide) ?_ | refine hn30 _ ?_ | refine he30 _ _ ?_ | refine hn29 _ ?_ | refine he29 _ _ ?_)
              refine hn28 _ (w + 1) (v - (w + 1)) (by omega) (by first | (simp only [go_sem, reduceIte, Nat.reduceEqDiff, Nat.reduceBEq, reduceCtorEq, Nat.reduceLT, Nat.reduceLeDiff, Nat.reduceAdd, Nat.reduceSub, Nat.reduceMul, Nat.reduceDiv, Int.reduceAdd, Int.reduceNeg, Int.reduceEq, Int.reduceLT, Int.reduceLE, updAll_cons, updAll_nil, hfs]; done) | with_reducible rfl | rfl) ?_
              exact ⟨hw2, rfl⟩
          · refine wlk_cond0 (by first | rfl | (simp only [go_sem, reduceIte, Nat.reduceEqDiff, Nat.reduceBEq, reduceCtorEq, Nat.reduceLT, Nat.reduceLeDiff, Nat.reduceAdd, Nat.reduceSub, Nat.reduceMul, Nat.reduceDiv, Int.reduceAdd, Int.reduceNeg, Int.reduceEq, Int.reduceLT, Int.reduceLE]; try simp (disch := omega) only [decide_eq_true, decide_eq_false])) ?_
            refine wlk_exit ?_
            repeat (first | refine hn29 _ ?_ | refine he29 _ _ ?_ | refine he28 _ _ ?_ | refine hn27 _ ?_ | refine he27 _ ?_ | refine hf27 _ _ (by decide) ?_ | refine hn26 _ ?_ | refine he26 _ _ ?_ | refine hn25 _ ?_ | refine he25 _ _ ?_ | refine hn24 _ ?_ | refine he24 _ ?_ | refine hf24 _ _ (by decide) ?_ | refine hn23 _ ?_ | refine he23 _ _ ?_ | refine hn22 _ ?_ | refine he22 _ _ ?_ | refine he21 _ _ ?_ | refine hn20 _ ?_ | refine he20 _ ?_ | refine hf20 _ _ (by decide) ?_ | refine hn19 _ ?_ | refine he19 _ _ ?_ | refine hn11 _ ?_ | refine he11 _ _ ?_ | refine he10 _ _ ?_ | refine hn9 _ ?_ | refine he9 _ ?_ | refine hf9 _ _ (by decide) ?_ | refine hn8 _ ?_ | refine he8 _ _ ?_ | refine hn5 _ ?_ | refine he5 _ _ ?_)
            obtain rfl : w = v := by omega
            have hbl := byLabel_len w lab u
            have hby3 : ((byLabel w lab u).length + 1) * 24 ≤ 140737488355328 := by omega
            refine wlk_reg fun KY hKY => ?_
            simp only [go_sem, reduceIte, Nat.reduceEqDiff, Nat.reduceBEq, reduceCtorEq, Nat.reduceLT, Nat.reduceLeDiff, Nat.reduceAdd, Nat.reduceSub, Nat.reduceMul, Nat.reduceDiv, Int.reduceAdd, Int.reduceNeg, Int.reduceEq, Int.reduceLT, Int.reduceLE, c_garlandref03_Without_r31, rowsO_snoc, hby3, rowsO_cellOk, ← hstp]
            refine hKY _ ?_
            repeat (first | refine hn29 _ ?_ | refine he29 _ _ ?_ | refine he28 _ _ ?_ | refine hn27 _ ?_ | refine he27 _ ?_ | refine hf27 _ _ (by decide) ?_ | refine hn26 _ ?_ | refine he26 _ _ ?_ | refine hn25 _ ?_ | refine he25 _ _ ?_ | refine hn24 _ ?_ | refine he24 _ ?_ | refine hf24 _ _ (by decide) ?_ | refine hn23 _ ?_ | refine he23 _ _ ?_ | refine hn22 _ ?_ | refine he22 _ _ ?_)
            refine wlk_reg fun KY hKY => ?_
            simp only [go_sem, reduceIte, Nat.reduceEqDiff, Nat.reduceBEq, reduceCtorEq, Nat.reduceLT, Nat.reduceLeDiff, Nat.reduceAdd, Nat.reduceSub, Nat.reduceMul, Nat.reduceDiv, Int.reduceAdd, Int.reduceNeg, Int.reduceEq, Int.reduceLT, Int.reduceLE, c_garlandref03_Without_r32, inc u (by omega)]
            refine hKY _ ?_
            repeat (first | refine hn29 _ ?_ | refine he29 _ _ ?_ | refine he28 _ _ ?_ | refine hn27 _ ?_ | refine he27 _ ?_ | refine hf27 _ _ (by decide) ?_ | refine hn26 _ ?_ | refine he26 _ _ ?_ | refine hn25 _ ?_ | refine he25 _ _ ?_ | refine hn24 _ ?_ | refine he24 _ ?_ | refine hf24 _ _ (by decide) ?_ | refine hn23 _ ?_ | refine he23 _ _ ?_ | refine hn22 _ ?_ | refine he22 _ _ ?_)
            refine hn21 _ (u + 1) (w - (u + 1)) (by omega) (by first | (simp only [go_sem, reduceIte, Nat.reduceEqDiff, Nat.reduceBEq, reduceCtorEq, Nat.reduceLT, Nat.reduceLeDiff, Nat.reduceAdd, Nat.reduceSub, Nat.reduceMul, Nat.reduceDiv, Int.reduceAdd, Int.reduceNeg, Int.reduceEq, Int.reduceLT, Int.reduceLE, updAll_cons, updAll_nil]; done) | with_reducible rfl | rfl) ?_
            exact ⟨hu2, rfl⟩
        · rw [if_neg c] at hstp
          refine wlk_cond1 (by first | rfl | (simp only [go_sem, reduceIte, Nat.reduceEqDiff, Nat.reduceBEq, reduceCtorEq, Nat.reduceLT, Nat.reduceLeDiff, Nat.reduceAdd, Nat.reduceSub, Nat.reduceMul, Nat.reduceDiv, Int.reduceAdd, Int.reduceNeg, Int.reduceEq, Int.reduceLT, Int.reduceLE, c, ne_eq, not_false_eq_true]; try simp (disch := omega) only [decide_eq_true, decide_eq_false])) ?_
          refine wlk_exit ?_
          repeat (first | refine hn25 _ ?_ | refine he25 _ _ ?_ | refine hn24 _ ?_ | refine he24 _ ?_ | refine hf24 _ _ (by decide) ?_ | refine hn23 _ ?_ | refine he23 _ _ ?_ | refine hn22 _ ?_ | refine he22 _ _ ?_ | refine he21 _ _ ?_ | refine hn20 _ ?_ | refine he20 _ ?_ | refine hf20 _ _ (by decide) ?_ | refine hn19 _ ?_ | refine he19 _ _ ?_ | refine hn11 _ ?_ | refine he11 _ _ ?_ | refine he10 _ _ ?_ | refine hn9 _ ?_ | refine he9 _ ?_ | refine hf9 _ _ (by decide) ?_ | refine hn8 _ ?_ | refine he8 _ _ ?_ | refine hn5 _ ?_ | refine he5 _ _ ?_ | refine he4 _ _ ?_ | refine hn3 _ ?_ | refine he3 _ ?_ | refine hf3 _ _ (by decide) ?_ | refine hn2 _ ?_ | refine he2 _ _ ?_ | refine hn1 _ ?_ | refine he1 _ _ ?_)
          rw [← hstp]
          refine wlk_reg fun KY hKY => ?_
          simp only [go_sem, reduceIte, Nat.reduceEqDiff, Nat.reduceBEq, reduceCtorEq, Nat.reduceLT, Nat.reduceLeDiff, Nat.reduceAdd, Nat.reduceSub, Nat.reduceMul, Nat.reduceDiv, Int.reduceAdd, Int.reduceNeg, Int.reduceEq, Int.reduceLT, Int.reduceLE, c_garlandref03_Without_r32, inc u (by omega)]
          refine hKY _ ?_
          repeat (first | refine hn25 _ ?_ | refine he25 _ _ ?_ | refine hn24 _ ?_ | refine he24 _ ?_ | refine hf24 _ _ (by decide) ?_ | refine hn23 _ ?_ | refine he23 _ _ ?_ | refine hn22 _ ?_ | refine he22 _ _ ?_)
          refine hn21 _ (u + 1) (v - (u + 1)) (by omega) (by first | (simp only [go_sem, reduceIte, Nat.reduceEqDiff, Nat.reduceBEq, reduceCtorEq, Nat.reduceLT, Nat.reduceLeDiff, Nat.reduceAdd, Nat.reduceSub, Nat.reduceMul, Nat.reduceDiv, Int.reduceAdd, Int.reduceNeg, Int.reduceEq, Int.reduceLT, Int.reduceLE, updAll_cons, updAll_nil]; done) | with_reducible rfl | rfl) ?_
          exact ⟨hu2, rfl⟩
      · refine wlk_cond0 (by first | rfl | (simp only [go_sem, reduceIte, Nat.reduceEqDiff, Nat.reduceBEq, reduceCtorEq, Nat.reduceLT, Nat.reduceLeDiff, Nat.reduceAdd, Nat.reduceSub, Nat.reduceMul, Nat.reduceDiv, Int.reduceAdd, Int.reduceNeg, Int.reduceEq, Int.reduceLT, Int.reduceLE]; try simp (disch := omega) only [decide_eq_true, decide_eq_false])) ?_
        refine wlk_exit ?_
        repeat (first | refine hn22 _ ?_ | refine he22 _ _ ?_ | refine he21 _ _ ?_ | refine hn20 _ ?_ | refine he20 _ ?_ | refine hf20 _ _ (by decide) ?_ | refine hn19 _ ?_ | refine he19 _ _ ?_ | refine hn11 _ ?_ | refine he11 _ _ ?_ | refine he10 _ _ ?_ | refine hn9 _ ?_ | refine he9 _ ?_ | refine hf9 _ _ (by decide) ?_ | refine hn8 _ ?_ | refine he8 _ _ ?_ | refine hn5 _ ?_ | refine he5 _ _ ?_ | refine he4 _ _ ?_ | refine hn3 _ ?_ | refine he3 _ ?_ | refine hf3 _ _ (by decide) ?_ | refine hn2 _ ?_ | refine he2 _ _ ?_ | refine hn1 _ ?_ | refine he1 _ _ ?_)
        obtain rfl : u = v := by omega
        refine wlk_sreg fun KY hKY => ?_
        simp only [go_sem, reduceIte, Nat.reduceEqDiff, Nat.reduceBEq, reduceCtorEq, Nat.reduceLT, Nat.reduceLeDiff, Nat.reduceAdd, Nat.reduceSub, Nat.reduceMul, Nat.reduceDiv, Int.reduceAdd, Int.reduceNeg, Int.reduceEq, Int.reduceLT, Int.reduceLE, c_garlandref03_Without_r33]
        refine hKY _ ?_
        refine wlk_ret ?_
        repeat (first | refine hr22 _ ?_ | refine hr21 _ ?_ | refine hr20 _ ?_ | refine hr19 _ ?_ | refine hr11 _ ?_ | refine hr10 _ ?_ | refine hr9 _ ?_ | refine hr8 _ ?_ | refine hr5 _ ?_ | refine hr4 _ ?_ | refine hr3 _ ?_ | refine hr2 _ ?_ | refine hr1 _ ?_)
        simp only [go_sem, reduceIte, Nat.reduceEqDiff, Nat.reduceBEq, reduceCtorEq, Nat.reduceLT, Nat.reduceLeDiff, Nat.reduceAdd, Nat.reduceSub, Nat.reduceMul, Nat.reduceDiv, Int.reduceAdd, Int.reduceNeg, Int.reduceEq, Int.reduceLT, Int.reduceLE]
        exact ⟨⟨_, hps, rfl⟩, rfl⟩
theorem rwithout_no {n : Int} {es : List (Int × Int)} (g : rightB n es = false) (out : List Int) :
    ACalls Try.prog [] n_garlandref03_Without [.agg [.sc (.int .i64 n), .imm 2 (twos es)], .imm 1 (ints out)] [] fun r h' => r = .sc (.slice none 0 0) ∧ h' = [] := by
  refine go_garlandref03_Without rfl ?_
  unfold c_garlandref03_Without v_garlandref03_Without
  refine wlk_sreg fun KY hKY => ?_
  simp only [go_sem, reduceIte, Nat.reduceEqDiff, Nat.reduceBEq, reduceCtorEq, Nat.reduceLT, Nat.reduceLeDiff, Nat.reduceAdd, Nat.reduceSub, Nat.reduceMul, Nat.reduceDiv, Int.reduceAdd, Int.reduceNeg, Int.reduceEq, Int.reduceLT, Int.reduceLE, c_garlandref03_Without_r0]
  refine hKY _ ?_
  refine wlk_seq fun X1 hn1 he1 hr1 => ?_
  refine wlk_sreg fun KY hKY => ?_
  simp only [go_sem, reduceIte, Nat.reduceEqDiff, Nat.reduceBEq, reduceCtorEq, Nat.reduceLT, Nat.reduceLeDiff, Nat.reduceAdd, Nat.reduceSub, Nat.reduceMul, Nat.reduceDiv, Int.reduceAdd, Int.reduceNeg, Int.reduceEq, Int.reduceLT, Int.reduceLE, c_garlandref03_Without_r1]
  refine call_view rfl (by simp only [go_sem, reduceIte, Nat.reduceEqDiff, Nat.reduceBEq, reduceCtorEq, Nat.reduceLT, Nat.reduceLeDiff, Nat.reduceAdd, Nat.reduceSub, Nat.reduceMul, Nat.reduceDiv, Int.reduceAdd, Int.reduceNeg, Int.reduceEq, Int.reduceLT, Int.reduceLE] <;> rfl) ((rright_ok _ _).mono ?_)
  rintro rr hh ⟨rfl, rfl⟩
  refine ⟨rfl, rfl, rfl, ?_⟩
  simp only [go_sem, reduceIte, Nat.reduceEqDiff, Nat.reduceBEq, reduceCtorEq, Nat.reduceLT, Nat.reduceLeDiff, Nat.reduceAdd, Nat.reduceSub, Nat.reduceMul, Nat.reduceDiv, Int.reduceAdd, Int.reduceNeg, Int.reduceEq, Int.reduceLT, Int.reduceLE, g]
  refine hKY _ ?_
  refine wlk_cond1 (by first | rfl | (simp only [go_sem, reduceIte, Nat.reduceEqDiff, Nat.reduceBEq, reduceCtorEq, Nat.reduceLT, Nat.reduceLeDiff, Nat.reduceAdd, Nat.reduceSub, Nat.reduceMul, Nat.reduceDiv, Int.reduceAdd, Int.reduceNeg, Int.reduceEq, Int.reduceLT, Int.reduceLE]; try simp (disch := omega) only [decide_eq_true, decide_eq_false])) ?_
  refine wlk_sreg fun KY hKY => ?_
  simp only [go_sem, reduceIte, Nat.reduceEqDiff, Nat.reduceBEq, reduceCtorEq, Nat.reduceLT, Nat.reduceLeDiff, Nat.reduceAdd, Nat.reduceSub, Nat.reduceMul, Nat.reduceDiv, Int.reduceAdd, Int.reduceNeg, Int.reduceEq, Int.reduceLT, Int.reduceLE, c_garlandref03_Without_r2]
  refine hKY _ ?_
  refine wlk_ret ?_
  repeat (first | refine hr1 _ ?_)
  simp only [go_sem, reduceIte, Nat.reduceEqDiff, Nat.reduceBEq, reduceCtorEq, Nat.reduceLT, Nat.reduceLeDiff, Nat.reduceAdd, Nat.reduceSub, Nat.reduceMul, Nat.reduceDiv, Int.reduceAdd, Int.reduceNeg, Int.reduceEq, Int.reduceLT, Int.reduceLE]
end Go.Proofs.Ytijcjnlbphienaa
set_option maxRecDepth 100000
set_option maxHeartbeats 2000000
namespace Go.Proofs.Ytijcjnlbphienaa
open Go Go.Ga Go.Ga.Gl
def PsOf (n : Int) (es : List (Int × Int)) (out : List Int) (ps : List (List Nat)) : Prop :=
  (rightB n es = true ∧ ∃ (N : Nat) (es' : Es), n = N ∧ es = castE es' ∧ GR N es' ∧ IsPieces N es' (fun v => (v : Int) ∈ out) ps) ∨ (rightB n es = false ∧ ps = [])
theorem castE_inj : ∀ {l m : Es}, castE l = castE m → l = m
  | [], [], _ => rfl
  | [], _ :: _, h => by simp [castE] at h
  | _ :: _, [], h => by simp [castE] at h
  | (a, b) :: l, (c, d) :: m, h => by
    simp only [castE, List.map_cons, List.cons.injEq, Prod.mk.injEq] at h
    obtain ⟨⟨h1, h2⟩, h3⟩ := h
    rw [castE_inj (l := l) (m := m) h3, show a = c by omega, show b = d by omega]
theorem PsOf.unique {n : Int} {es : List (Int × Int)} {out : List Int} {ps qs : List (List Nat)} (h : PsOf n es out ps) (h' : PsOf n es out qs) : ps = qs := by
  rcases h with ⟨r, N, es', rfl, rfl, g, P⟩ | ⟨r, rfl⟩
  · rcases h' with ⟨_, N', es'', e1, e2, _, Q⟩ | ⟨r', _⟩
    · obtain rfl : N = N' := by omega
      rw [← castE_inj e2] at Q
      exact P.unique g.adj_lt Q
    · rw [r] at r'; cases r'
  · rcases h' with ⟨r', _⟩ | ⟨_, rfl⟩
    · rw [r] at r'; cases r'
    · rfl
theorem PsOf.len {n : Int} {es : List (Int × Int)} {out : List Int} {ps : List (List Nat)} (h : PsOf n es out ps) : ps.length ≤ 4096 ∧ ∀ p ∈ ps, p.length ≤ 4096 := by
  rcases h with ⟨_, N, es', _, _, g, P⟩ | ⟨_, rfl⟩
  · have := g.hn
    exact ⟨Nat.le_trans (pieces_len P) this, fun p hp => Nat.le_trans (piece_len P hp) this⟩
  · exact ⟨by simp, fun p hp => by simp at hp⟩
abbrev PsG (n : Int) (es : List (Int × Int)) (out : List Int) (r : AVal) (h' : Heap) : Prop := (∃ ps, PsOf n es out ps ∧ r = .own (some 1) (rowsO ps)) ∧ h' = []
theorem psG {f : Nat} {args : List AVal} {n : Int} {es : List (Int × Int)} {out : List Int} (h1 : ∀ (N : Nat) (es' : Es), n = N → es = castE es' → GR N es' → ACalls Try.prog [] f args [] (PsQ N es' out)) (h2 : rightB n es = false → ACalls Try.prog [] f args [] fun r h' => r = .sc (.slice none 0 0) ∧ h' = []) : ACalls Try.prog [] f args [] (PsG n es out) := by
  cases hr : rightB n es with
  | true =>
    obtain ⟨N, es', e1, e2, g⟩ := right_nat hr
    refine (h1 N es' e1 e2 g).mono ?_
    rintro r h' ⟨⟨ps, hps, rfl⟩, rfl⟩
    exact ⟨⟨ps, .inl ⟨hr, N, es', e1, e2, g, hps⟩, rfl⟩, rfl⟩
  | false =>
    refine (h2 hr).seen ?_
    rintro r h' ⟨rfl, rfl⟩
    exact ⟨.own (some 1) (rowsO []), Sees.own 1, ⟨[], .inr ⟨hr, rfl⟩, rfl⟩, rfl⟩
theorem rwithoutG_ok (n : Int) (es : List (Int × Int)) (out : List Int) (ho : out.length ≤ 1000000000) : ACalls Try.prog [] n_garlandref03_Without [.agg [.sc (.int .i64 n), .imm 2 (twos es)], .imm 1 (ints out)] [] (PsG n es out) :=
  psG (fun N es' e1 e2 g => by subst e1 e2; exact rwithout_ok g out ho) (fun h => rwithout_no h out)
theorem odd_le2 (ps : List (List Nat)) (k : Nat) (h : ps.length ≤ 4096) : oddCount (ps.take k) ≤ 4096 := Nat.le_trans (odd_le _) (Nat.le_trans (List.length_take_le' _ _) h)
theorem roddG_ok (n : Int) (es : List (Int × Int)) (out : List Int) (ho : out.length ≤ 1000000000) :
    ACalls Try.prog [] n_garlandref03_Odd [.agg [.sc (.int .i64 n), .imm 2 (twos es)], .imm 1 (ints out)] [] fun r h' => (∃ ps, PsOf n es out ps ∧ r = .sc (.int .i64 (oddCount ps : Int))) ∧ h' = [] := by
  refine go_garlandref03_Odd rfl ?_
  unfold c_garlandref03_Odd v_garlandref03_Odd
  refine wlk_sreg fun KY hKY => ?_
  simp only [go_sem, reduceIte, Nat.reduceEqDiff, Nat.reduceBEq, reduceCtorEq, Nat.reduceLT, Nat.reduceLeDiff, Nat.reduceAdd, Nat.reduceSub, Nat.reduceMul, Nat.reduceDiv, Int.reduceAdd, Int.reduceNeg, Int.reduceEq, Int.reduceLT, Int.reduceLE, c_garlandref03_Odd_r0]
  refine hKY _ ?_
  refine wlk_sreg fun KY hKY => ?_
  simp only [go_sem, reduceIte, Nat.reduceEqDiff, Nat.reduceBEq, reduceCtorEq, Nat.reduceLT, Nat.reduceLeDiff, Nat.reduceAdd, Nat.reduceSub, Nat.reduceMul, Nat.reduceDiv, Int.reduceAdd, Int.reduceNeg, Int.reduceEq, Int.reduceLT, Int.reduceLE, c_garlandref03_Odd_r1]
  refine hKY _ ?_
  refine wlk_sreg fun KY hKY => ?_
  simp only [go_sem, reduceIte, Nat.reduceEqDiff, Nat.reduceBEq, reduceCtorEq, Nat.reduceLT, Nat.reduceLeDiff, Nat.reduceAdd, Nat.reduceSub, Nat.reduceMul, Nat.reduceDiv, Int.reduceAdd, Int.reduceNeg, Int.reduceEq, Int.reduceLT, Int.reduceLE, c_garlandref03_Odd_r2]
  refine call_view rfl (by simp only [go_sem, reduceIte, Nat.reduceEqDiff, Nat.reduceBEq, reduceCtorEq, Nat.reduceLT, Nat.reduceLeDiff, Nat.reduceAdd, Nat.reduceSub, Nat.reduceMul, Nat.reduceDiv, Int.reduceAdd, Int.reduceNeg, Int.reduceEq, Int.reduceLT, Int.reduceLE] <;> rfl) ((rwithoutG_ok n es out ho).mono ?_)
  rintro rr hh ⟨⟨ps, hps, rfl⟩, rfl⟩
  refine ⟨?_, ?_, ?_, ?_⟩
  iterate 3 (first | rfl | simp only [go_sem, reduceIte, Nat.reduceEqDiff, Nat.reduceBEq, reduceCtorEq, Nat.reduceLT, Nat.reduceLeDiff, Nat.reduceAdd, Nat.reduceSub, Nat.reduceMul, Nat.reduceDiv, Int.reduceAdd, Int.reduceNeg, Int.reduceEq, Int.reduceLT, Int.reduceLE])
  obtain ⟨hpl, hpe⟩ := hps.len
  have hoc := fun k => odd_le2 ps k hpl
  simp only [go_sem, reduceIte, Nat.reduceEqDiff, Nat.reduceBEq, reduceCtorEq, Nat.reduceLT, Nat.reduceLeDiff, Nat.reduceAdd, Nat.reduceSub, Nat.reduceMul, Nat.reduceDiv, Int.reduceAdd, Int.reduceNeg, Int.reduceEq, Int.reduceLT, Int.reduceLE]
  refine hKY _ ?_
  simp only [go_sem, reduceIte, Nat.reduceEqDiff, Nat.reduceBEq, reduceCtorEq, Nat.reduceLT, Nat.reduceLeDiff, Nat.reduceAdd, Nat.reduceSub, Nat.reduceMul, Nat.reduceDiv, Int.reduceAdd, Int.reduceNeg, Int.reduceEq, Int.reduceLT, Int.reduceLE]
  refine sem_freeze [0, 6] (by simp only [go_sem, reduceIte, Nat.reduceEqDiff, Nat.reduceBEq, reduceCtorEq, Nat.reduceLT, Nat.reduceLeDiff, Nat.reduceAdd, Nat.reduceSub, Nat.reduceMul, Nat.reduceDiv, Int.reduceAdd, Int.reduceNeg, Int.reduceEq, Int.reduceLT, Int.reduceLE]; rfl) ?_
  simp only [go_sem, reduceIte, Nat.reduceEqDiff, Nat.reduceBEq, reduceCtorEq, Nat.reduceLT, Nat.reduceLeDiff, Nat.reduceAdd, Nat.reduceSub, Nat.reduceMul, Nat.reduceDiv, Int.reduceAdd, Int.reduceNeg, Int.reduceEq, Int.reduceLT, Int.reduceLE]
  refine wlk_seq fun X1 hn1 he1 hr1 => ?_
  refine wlk_sreg fun KY hKY => ?_
  simp only [go_sem, reduceIte, Nat.reduceEqDiff, Nat.reduceBEq, reduceCtorEq, Nat.reduceLT, Nat.reduceLeDiff, Nat.reduceAdd, Nat.reduceSub, Nat.reduceMul, Nat.reduceDiv, Int.reduceAdd, Int.reduceNeg, Int.reduceEq, Int.reduceLT, Int.reduceLE, c_garlandref03_Odd_r3]
  refine hKY _ ?_
  refine wlk_blk fun X2 hn2 he2 hf2 hr2 => ?_
  try simp only [go_sem, reduceIte, Nat.reduceEqDiff, Nat.reduceBEq, reduceCtorEq, Nat.reduceLT, Nat.reduceLeDiff, Nat.reduceAdd, Nat.reduceSub, Nat.reduceMul, Nat.reduceDiv, Int.reduceAdd, Int.reduceNeg, Int.reduceEq, Int.reduceLT, Int.reduceLE]
  refine wlk_lp (α := Nat) [14] (fun k => [(5, .sc (.int .i64 (oddCount (ps.take k) : Int))), (7, .sc (.int .i64 (k : Int)))]) (fun k => []) (fun k q => k ≤ ps.length ∧ q = ps.length - k) (0) (ps.length) rfl (by first | (simp only [go_sem, reduceIte, Nat.reduceEqDiff, Nat.reduceBEq, reduceCtorEq, Nat.reduceLT, Nat.reduceLeDiff, Nat.reduceAdd, Nat.reduceSub, Nat.reduceMul, Nat.reduceDiv, Int.reduceAdd, Int.reduceNeg, Int.reduceEq, Int.reduceLT, Int.reduceLE, updAll_cons, updAll_nil]; done) | with_reducible rfl | rfl) (⟨by omega, rfl⟩) ?_
  rintro k q ⟨hk, rfl⟩ X3 hn3 he3 hr3
  simp only [go_sem, reduceIte, Nat.reduceEqDiff, Nat.reduceBEq, reduceCtorEq, Nat.reduceLT, Nat.reduceLeDiff, Nat.reduceAdd, Nat.reduceSub, Nat.reduceMul, Nat.reduceDiv, Int.reduceAdd, Int.reduceNeg, Int.reduceEq, Int.reduceLT, Int.reduceLE, updAll_cons, updAll_nil]
  refine wlk_seq fun X4 hn4 he4 hr4 => ?_
  refine wlk_sreg fun KY hKY => ?_
  simp only [go_sem, reduceIte, Nat.reduceEqDiff, Nat.reduceBEq, reduceCtorEq, Nat.reduceLT, Nat.reduceLeDiff, Nat.reduceAdd, Nat.reduceSub, Nat.reduceMul, Nat.reduceDiv, Int.reduceAdd, Int.reduceNeg, Int.reduceEq, Int.reduceLT, Int.reduceLE, c_garlandref03_Odd_r4]
  refine hKY _ ?_
  by_cases hk2 : k < ps.length
  · refine wlk_cond1 (by first | rfl | (simp only [go_sem, reduceIte, Nat.reduceEqDiff, Nat.reduceBEq, reduceCtorEq, Nat.reduceLT, Nat.reduceLeDiff, Nat.reduceAdd, Nat.reduceSub, Nat.reduceMul, Nat.reduceDiv, Int.reduceAdd, Int.reduceNeg, Int.reduceEq, Int.reduceLT, Int.reduceLE]; try simp (disch := omega) only [decide_eq_true, decide_eq_false])) ?_
    refine wlk_skip ?_
    repeat (first | refine hn4 _ ?_ | refine he4 _ _ ?_ | refine he3 _ _ ?_ | refine hn2 _ ?_ | refine he2 _ ?_ | refine hf2 _ _ (by decide) ?_ | refine hn1 _ ?_ | refine he1 _ _ ?_)
    refine wlk_seq fun X5 hn5 he5 hr5 => ?_
    refine wlk_blk fun X6 hn6 he6 hf6 hr6 => ?_
    have hx : ps[k]? = some (ps[k]) := List.getElem?_eq_getElem hk2
    have hy : (ps[k]).length ≤ 4096 := hpe _ (List.getElem_mem hk2)
    generalize ps[k] = p at hx hy
    have hst := odd_snoc ps k p hx
    have h1 := hoc k
    have hm : (p.length : Int).tmod 2 = ((p.length % 2 : Nat) : Int) := by
      rw [Int.tmod_eq_emod_of_nonneg (by omega)]; omega
    have ha : IntKind.i64.wrap ((oddCount (ps.take k) : Int) + ((p.length % 2 : Nat) : Int)) = (oddCount (ps.take (k + 1)) : Int) := by
      rw [IntWalk.i64_in _ (by omega), hst]; omega
    refine wlk_reg fun KY hKY => ?_
    simp only [go_sem, reduceIte, Nat.reduceEqDiff, Nat.reduceBEq, reduceCtorEq, Nat.reduceLT, Nat.reduceLeDiff, Nat.reduceAdd, Nat.reduceSub, Nat.reduceMul, Nat.reduceDiv, Int.reduceAdd, Int.reduceNeg, Int.reduceEq, Int.reduceLT, Int.reduceLE, c_garlandref03_Odd_r5, rowsI_get hx, hk2, hm, ha]
    refine hKY _ ?_
    repeat (first | refine hn6 _ ?_ | refine he6 _ ?_ | refine hf6 _ _ (by decide) ?_ | refine hn5 _ ?_ | refine he5 _ _ ?_ | refine hn4 _ ?_ | refine he4 _ _ ?_ | refine he3 _ _ ?_ | refine hn2 _ ?_ | refine he2 _ ?_ | refine hf2 _ _ (by decide) ?_ | refine hn1 _ ?_ | refine he1 _ _ ?_)
    refine wlk_reg fun KY hKY => ?_
    simp only [go_sem, reduceIte, Nat.reduceEqDiff, Nat.reduceBEq, reduceCtorEq, Nat.reduceLT, Nat.reduceLeDiff, Nat.reduceAdd, Nat.reduceSub, Nat.reduceMul, Nat.reduceDiv, Int.reduceAdd, Int.reduceNeg, Int.reduceEq, Int.reduceLT, Int.reduceLE, c_garlandref03_Odd_r6, incS (show k < 4611686018427387904 by omega)]
    refine hKY _ ?_
    repeat (first | refine hn6 _ ?_ | refine he6 _ ?_ | refine hf6 _ _ (by decide) ?_ | refine hn5 _ ?_ | refine he5 _ _ ?_ | refine hn4 _ ?_ | refine he4 _ _ ?_)
    refine hn3 _ (k + 1) (ps.length - (k + 1)) (by omega) (by first | (simp only [go_sem, reduceIte, Nat.reduceEqDiff, Nat.reduceBEq, reduceCtorEq, Nat.reduceLT, Nat.reduceLeDiff, Nat.reduceAdd, Nat.reduceSub, Nat.reduceMul, Nat.reduceDiv, Int.reduceAdd, Int.reduceNeg, Int.reduceEq, Int.reduceLT, Int.reduceLE, updAll_cons, updAll_nil]; done) | with_reducible rfl | rfl) ?_
    exact ⟨hk2, rfl⟩
  · refine wlk_cond0 (by first | rfl | (simp only [go_sem, reduceIte, Nat.reduceEqDiff, Nat.reduceBEq, reduceCtorEq, Nat.reduceLT, Nat.reduceLeDiff, Nat.reduceAdd, Nat.reduceSub, Nat.reduceMul, Nat.reduceDiv, Int.reduceAdd, Int.reduceNeg, Int.reduceEq, Int.reduceLT, Int.reduceLE]; try simp (disch := omega) only [decide_eq_true, decide_eq_false])) ?_
    refine wlk_exit ?_
    repeat (first | refine hn4 _ ?_ | refine he4 _ _ ?_ | refine he3 _ _ ?_ | refine hn2 _ ?_ | refine he2 _ ?_ | refine hf2 _ _ (by decide) ?_ | refine hn1 _ ?_ | refine he1 _ _ ?_)
    obtain rfl : k = ps.length := by omega
    rw [List.take_length]
    refine wlk_sreg fun KY hKY => ?_
    simp only [go_sem, reduceIte, Nat.reduceEqDiff, Nat.reduceBEq, reduceCtorEq, Nat.reduceLT, Nat.reduceLeDiff, Nat.reduceAdd, Nat.reduceSub, Nat.reduceMul, Nat.reduceDiv, Int.reduceAdd, Int.reduceNeg, Int.reduceEq, Int.reduceLT, Int.reduceLE, c_garlandref03_Odd_r7]
    refine hKY _ ?_
    refine wlk_ret ?_
    repeat (first | refine hr4 _ ?_ | refine hr3 _ ?_ | refine hr2 _ ?_ | refine hr1 _ ?_)
    simp only [go_sem, reduceIte, Nat.reduceEqDiff, Nat.reduceBEq, reduceCtorEq, Nat.reduceLT, Nat.reduceLeDiff, Nat.reduceAdd, Nat.reduceSub, Nat.reduceMul, Nat.reduceDiv, Int.reduceAdd, Int.reduceNeg, Int.reduceEq, Int.reduceLT, Int.reduceLE]
    exact ⟨ps, hps, rfl⟩
theorem PsOf.disj {n : Int} {es : List (Int × Int)} {out : List Int} {ps : List (List Nat)} (h : PsOf n es out ps) : ps.Pairwise fun p q => ∀ v ∈ p, v ∉ q := by
  rcases h with ⟨_, N, es', _, _, g, P⟩ | ⟨_, rfl⟩
  · exact P.disj
  · exact .nil
end Go.Proofs.Ytijcjnlbphienaa
set_option maxRecDepth 100000
set_option maxHeartbeats 2000000
namespace Go.Proofs.Ytijcjnlbphienaa
open Go Go.Ga Go.Ga.Gl
def roomI (l : List Int) (x : Int) (k : Nat) : List Int := l ++ (List.replicate k x ++ List.replicate (3 - k) 0)
theorem roomI_len (l : List Int) (x : Int) (k : Nat) (h : k ≤ 3) : (roomI l x k).length = l.length + 3 := by
  simp [roomI]; omega
theorem roomI_set (l : List Int) (x : Int) (k : Nat) (h : k < 3) : (roomI l x k).set (l.length + k) x = roomI l x (k + 1) := by
  unfold roomI
  rw [List.set_append_right _ _ (by omega)]
  congr 1
  obtain rfl | rfl | rfl : k = 0 ∨ k = 1 ∨ k = 2 := by omega
  all_goals simp [List.replicate]
theorem room_start (l : List Int) (x : Int) : setCells (zeroCellsA [.int .i64 0] (l.length + 3)) 0 (ints l) = ints (roomI l x 0) := by
  rw [ints_zero, setCells_eq _ _ _ (by simp [ints]), List.take_zero, List.nil_append, Nat.zero_add]
  simp [ints, roomI]
theorem room_set (l : List Int) (x : Int) (k : Nat) (h : k < 3) : setCells (ints (roomI l x k)) (l.length + k) [.sc (.int .i64 x)] = ints (roomI l x (k + 1)) := by
  rw [← roomI_set l x k h, ← ints_set]; rfl
theorem own_ok (l : List Int) (x : Int) (hl : l.length ≤ 1000000) : ACalls Try.prog [] n_garlandhelp_Own_int_ [.imm 1 (ints l), .sc (.int .i64 x)] [] fun r h' => r = .sl 0 0 l.length 1 ∧ h' = [some (ints (roomI l x 3))] := by
  have w0 : IntKind.i64.wrap ((l.length : Int) + 3) = ((l.length + 3 : Nat) : Int) := by rw [IntWalk.i64_in _ (by omega)]; omega
  refine go_garlandhelp_Own_int_ rfl ?_
  unfold c_garlandhelp_Own_int_ v_garlandhelp_Own_int_
  refine wlk_sreg fun KY hKY => ?_
  simp only [go_sem, reduceIte, Nat.reduceEqDiff, Nat.reduceBEq, reduceCtorEq, Nat.reduceLT, Nat.reduceLeDiff, Nat.reduceAdd, Nat.reduceSub, Nat.reduceMul, Nat.reduceDiv, Int.reduceAdd, Int.reduceNeg, Int.reduceEq, Int.reduceLT, Int.reduceLE, c_garlandhelp_Own_int__r0]
  refine hKY _ ?_
  refine wlk_sreg fun KY hKY => ?_
  simp only [go_sem, reduceIte, Nat.reduceEqDiff, Nat.reduceBEq, reduceCtorEq, Nat.reduceLT, Nat.reduceLeDiff, Nat.reduceAdd, Nat.reduceSub, Nat.reduceMul, Nat.reduceDiv, Int.reduceAdd, Int.reduceNeg, Int.reduceEq, Int.reduceLT, Int.reduceLE, c_garlandhelp_Own_int__r1, w0, (show 8 * (l.length + 3) ≤ 140737488355328 by omega), (show ((l.length + 3 : Nat) : Int) ≤ 9223372036854775807 by omega)]
  refine hKY _ ?_
  refine wlk_sreg fun KY hKY => ?_
  simp only [go_sem, reduceIte, Nat.reduceEqDiff, Nat.reduceBEq, reduceCtorEq, Nat.reduceLT, Nat.reduceLeDiff, Nat.reduceAdd, Nat.reduceSub, Nat.reduceMul, Nat.reduceDiv, Int.reduceAdd, Int.reduceNeg, Int.reduceEq, Int.reduceLT, Int.reduceLE, c_garlandhelp_Own_int__r2, room_start l x, (show l.length ≤ (zeroCellsA [Value.int IntKind.i64 0] (l.length + 3)).length by rw [ints_zero, ints_len]; simp)]
  refine hKY _ ?_
  refine wlk_sreg fun KY hKY => ?_
  simp only [go_sem, reduceIte, Nat.reduceEqDiff, Nat.reduceBEq, reduceCtorEq, Nat.reduceLT, Nat.reduceLeDiff, Nat.reduceAdd, Nat.reduceSub, Nat.reduceMul, Nat.reduceDiv, Int.reduceAdd, Int.reduceNeg, Int.reduceEq, Int.reduceLT, Int.reduceLE, c_garlandhelp_Own_int__r3, w0, roomI_len l x 0 (by omega), decide_eq_true_eq, (show l.length + 2 < l.length + 3 by omega), or_true, Nat.sub_zero]
  refine hKY _ ?_
  refine wlk_seq fun X1 hn1 he1 hr1 => ?_
  refine wlk_sreg fun KY hKY => ?_
  simp only [go_sem, reduceIte, Nat.reduceEqDiff, Nat.reduceBEq, reduceCtorEq, Nat.reduceLT, Nat.reduceLeDiff, Nat.reduceAdd, Nat.reduceSub, Nat.reduceMul, Nat.reduceDiv, Int.reduceAdd, Int.reduceNeg, Int.reduceEq, Int.reduceLT, Int.reduceLE, c_garlandhelp_Own_int__r4]
  refine hKY _ ?_
  refine wlk_blk fun X2 hn2 he2 hf2 hr2 => ?_
  try simp only [go_sem, reduceIte, Nat.reduceEqDiff, Nat.reduceBEq, reduceCtorEq, Nat.reduceLT, Nat.reduceLeDiff, Nat.reduceAdd, Nat.reduceSub, Nat.reduceMul, Nat.reduceDiv, Int.reduceAdd, Int.reduceNeg, Int.reduceEq, Int.reduceLT, Int.reduceLE]
  refine wlk_lp (α := Nat) [25] (fun k => [(7, .sc (.int .i64 ((l.length + k : Nat) : Int)))]) (fun k => [some (ints (roomI l x k))]) (fun k q => k ≤ 3 ∧ q = 3 - k) (0) (3) rfl (by first | (simp only [go_sem, reduceIte, Nat.reduceEqDiff, Nat.reduceBEq, reduceCtorEq, Nat.reduceLT, Nat.reduceLeDiff, Nat.reduceAdd, Nat.reduceSub, Nat.reduceMul, Nat.reduceDiv, Int.reduceAdd, Int.reduceNeg, Int.reduceEq, Int.reduceLT, Int.reduceLE, updAll_cons, updAll_nil]; done) | with_reducible rfl | rfl) (⟨by omega, rfl⟩) ?_
  rintro k q ⟨hk, rfl⟩ X3 hn3 he3 hr3
  simp only [go_sem, reduceIte, Nat.reduceEqDiff, Nat.reduceBEq, reduceCtorEq, Nat.reduceLT, Nat.reduceLeDiff, Nat.reduceAdd, Nat.reduceSub, Nat.reduceMul, Nat.reduceDiv, Int.reduceAdd, Int.reduceNeg, Int.reduceEq, Int.reduceLT, Int.reduceLE, updAll_cons, updAll_nil]
  refine wlk_seq fun X4 hn4 he4 hr4 => ?_
  refine wlk_sreg fun KY hKY => ?_
  simp only [go_sem, reduceIte, Nat.reduceEqDiff, Nat.reduceBEq, reduceCtorEq, Nat.reduceLT, Nat.reduceLeDiff, Nat.reduceAdd, Nat.reduceSub, Nat.reduceMul, Nat.reduceDiv, Int.reduceAdd, Int.reduceNeg, Int.reduceEq, Int.reduceLT, Int.reduceLE, c_garlandhelp_Own_int__r5]
  refine hKY _ ?_
  by_cases hk2 : k < 3
  · refine wlk_cond1 (by first | rfl | (simp only [go_sem, reduceIte, Nat.reduceEqDiff, Nat.reduceBEq, reduceCtorEq, Nat.reduceLT, Nat.reduceLeDiff, Nat.reduceAdd, Nat.reduceSub, Nat.reduceMul, Nat.reduceDiv, Int.reduceAdd, Int.reduceNeg, Int.reduceEq, Int.reduceLT, Int.reduceLE]; try simp (disch := omega) only [decide_eq_true, decide_eq_false])) ?_
    refine wlk_skip ?_
    repeat (first | refine hn4 _ ?_ | refine he4 _ _ ?_ | refine he3 _ _ ?_ | refine hn2 _ ?_ | refine he2 _ ?_ | refine hf2 _ _ (by decide) ?_ | refine hn1 _ ?_ | refine he1 _ _ ?_)
    refine wlk_seq fun X5 hn5 he5 hr5 => ?_
    refine wlk_blk fun X6 hn6 he6 hf6 hr6 => ?_
    refine wlk_reg fun KY hKY => ?_
    simp only [go_sem, reduceIte, Nat.reduceEqDiff, Nat.reduceBEq, reduceCtorEq, Nat.reduceLT, Nat.reduceLeDiff, Nat.reduceAdd, Nat.reduceSub, Nat.reduceMul, Nat.reduceDiv, Int.reduceAdd, Int.reduceNeg, Int.reduceEq, Int.reduceLT, Int.reduceLE, c_garlandhelp_Own_int__r6, (show l.length + k < l.length + 3 by omega), roomI_len l x k hk, room_set l x k hk2]
    refine hKY _ ?_
    repeat (first | refine hn6 _ ?_ | refine he6 _ ?_ | refine hf6 _ _ (by decide) ?_ | refine hn5 _ ?_ | refine he5 _ _ ?_ | refine hn4 _ ?_ | refine he4 _ _ ?_ | refine he3 _ _ ?_ | refine hn2 _ ?_ | refine he2 _ ?_ | refine hf2 _ _ (by decide) ?_ | refine hn1 _ ?_ | refine he1 _ _ ?_)
    refine wlk_reg fun KY hKY => ?_
    simp only [go_sem, reduceIte, Nat.reduceEqDiff, Nat.reduceBEq, reduceCtorEq, Nat.reduceLT, Nat.reduceLeDiff, Nat.reduceAdd, Nat.reduceSub, Nat.reduceMul, Nat.reduceDiv, Int.reduceAdd, Int.reduceNeg, Int.reduceEq, Int.reduceLT, Int.reduceLE, c_garlandhelp_Own_int__r7, incS (show l.length + k < 4611686018427387904 by omega)]
    refine hKY _ ?_
    repeat (first | refine hn6 _ ?_ | refine he6 _ ?_ | refine hf6 _ _ (by decide) ?_ | refine hn5 _ ?_ | refine he5 _ _ ?_ | refine hn4 _ ?_ | refine he4 _ _ ?_)
    refine hn3 _ (k + 1) (3 - (k + 1)) (by omega) (by first | (simp only [go_sem, reduceIte, Nat.reduceEqDiff, Nat.reduceBEq, reduceCtorEq, Nat.reduceLT, Nat.reduceLeDiff, Nat.reduceAdd, Nat.reduceSub, Nat.reduceMul, Nat.reduceDiv, Int.reduceAdd, Int.reduceNeg, Int.reduceEq, Int.reduceLT, Int.reduceLE, updAll_cons, updAll_nil]; done) | with_reducible rfl | rfl) ?_
    exact ⟨hk2, rfl⟩
  · refine wlk_cond0 (by first | rfl | (simp only [go_sem, reduceIte, Nat.reduceEqDiff, Nat.reduceBEq, reduceCtorEq, Nat.reduceLT, Nat.reduceLeDiff, Nat.reduceAdd, Nat.reduceSub, Nat.reduceMul, Nat.reduceDiv, Int.reduceAdd, Int.reduceNeg, Int.reduceEq, Int.reduceLT, Int.reduceLE]; try simp (disch := omega) only [decide_eq_true, decide_eq_false])) ?_
    refine wlk_exit ?_
    repeat (first | refine hn4 _ ?_ | refine he4 _ _ ?_ | refine he3 _ _ ?_ | refine hn2 _ ?_ | refine he2 _ ?_ | refine hf2 _ _ (by decide) ?_ | refine hn1 _ ?_ | refine he1 _ _ ?_)
    obtain rfl : k = 3 := by omega
    refine wlk_sreg fun KY hKY => ?_
    simp only [go_sem, reduceIte, Nat.reduceEqDiff, Nat.reduceBEq, reduceCtorEq, Nat.reduceLT, Nat.reduceLeDiff, Nat.reduceAdd, Nat.reduceSub, Nat.reduceMul, Nat.reduceDiv, Int.reduceAdd, Int.reduceNeg, Int.reduceEq, Int.reduceLT, Int.reduceLE, c_garlandhelp_Own_int__r8]
    refine hKY _ ?_
    refine wlk_ret ?_
    repeat (first | refine hr4 _ ?_ | refine hr3 _ ?_ | refine hr2 _ ?_ | refine hr1 _ ?_)
    simp only [go_sem, reduceIte, Nat.reduceEqDiff, Nat.reduceBEq, reduceCtorEq, Nat.reduceLT, Nat.reduceLeDiff, Nat.reduceAdd, Nat.reduceSub, Nat.reduceMul, Nat.reduceDiv, Int.reduceAdd, Int.reduceNeg, Int.reduceEq, Int.reduceLT, Int.reduceLE]
theorem room_cut (l : List Int) (x : Int) (k : Nat) : (ints (roomI l x k)).take l.length = ints l := by
  simp [ints, roomI]
theorem room_get (l : List Int) (x : Int) (k : Nat) (h : k < 3) : (ints (roomI l x 3))[l.length + k]? = some (.sc (.int .i64 x)) := by
  have : (roomI l x 3)[l.length + k]? = some x := by
    unfold roomI
    rw [List.getElem?_append_right (by omega)]
    obtain rfl | rfl | rfl : k = 0 ∨ k = 1 ∨ k = 2 := by omega
    all_goals simp [List.replicate]
  exact ints_at this
theorem kept_ok (l : List Int) (x : Int) (hl : l.length ≤ 1000000) : ACalls Try.prog [] n_garlandhelp_Kept_int_ [.sl 0 0 l.length 1, .imm 1 (ints l), .sc (.int .i64 x)] [some (ints (roomI l x 3))] fun r h' => r = .sc (.bool true) ∧ h' = [some (ints (roomI l x 3))] := by
  have w0 : IntKind.i64.wrap ((l.length : Int) + 3) = ((l.length + 3 : Nat) : Int) := by rw [IntWalk.i64_in _ (by omega)]; omega
  have hlen := roomI_len l x 3 (Nat.le_refl _)
  have hcut := room_cut l x 3
  generalize hR : roomI l x 3 = R at hlen hcut
  refine go_garlandhelp_Kept_int_ rfl ?_
  unfold c_garlandhelp_Kept_int_ v_garlandhelp_Kept_int_
  refine wlk_sreg fun KY hKY => ?_
  simp only [go_sem, reduceIte, Nat.reduceEqDiff, Nat.reduceBEq, reduceCtorEq, Nat.reduceLT, Nat.reduceLeDiff, Nat.reduceAdd, Nat.reduceSub, Nat.reduceMul, Nat.reduceDiv, Int.reduceAdd, Int.reduceNeg, Int.reduceEq, Int.reduceLT, Int.reduceLE, c_garlandhelp_Kept_int__r0]
  refine hKY _ ?_
  refine wlk_seq fun X1 hn1 he1 hr1 => ?_
  refine wlk_sreg fun KY hKY => ?_
  simp only [go_sem, reduceIte, Nat.reduceEqDiff, Nat.reduceBEq, reduceCtorEq, Nat.reduceLT, Nat.reduceLeDiff, Nat.reduceAdd, Nat.reduceSub, Nat.reduceMul, Nat.reduceDiv, Int.reduceAdd, Int.reduceNeg, Int.reduceEq, Int.reduceLT, Int.reduceLE, c_garlandhelp_Kept_int__r1, w0, hcut]
  have hle : l.length ≤ R.length := by omega
  refine call_view rfl (by simp only [go_sem, reduceIte, Nat.reduceEqDiff, Nat.reduceBEq, reduceCtorEq, Nat.reduceLT, Nat.reduceLeDiff, Nat.reduceAdd, Nat.reduceSub, Nat.reduceMul, Nat.reduceDiv, Int.reduceAdd, Int.reduceNeg, Int.reduceEq, Int.reduceLT, Int.reduceLE, hcut, ints_len, hle] <;> rfl) ((plaini_ok l l (by omega)).mono ?_)
  rintro rr hh ⟨rfl, rfl⟩
  refine ⟨rfl, rfl, rfl, ?_⟩
  simp only [go_sem, reduceIte, Nat.reduceEqDiff, Nat.reduceBEq, reduceCtorEq, Nat.reduceLT, Nat.reduceLeDiff, Nat.reduceAdd, Nat.reduceSub, Nat.reduceMul, Nat.reduceDiv, Int.reduceAdd, Int.reduceNeg, Int.reduceEq, Int.reduceLT, Int.reduceLE, w0, hcut, hlen, ints_len]
  intro n hp1 hp2 hp3
  have hd : decide ((n : Int) < ((l.length + 3 : Nat) : Int)) = false := decide_eq_false (by omega)
  simp only [go_sem, reduceIte, Nat.reduceEqDiff, Nat.reduceBEq, reduceCtorEq, Nat.reduceLT, Nat.reduceLeDiff, Nat.reduceAdd, Nat.reduceSub, Nat.reduceMul, Nat.reduceDiv, Int.reduceAdd, Int.reduceNeg, Int.reduceEq, Int.reduceLT, Int.reduceLE, hd]
  refine hKY _ ?_
  refine wlk_cond0 (by first | rfl | (simp only [go_sem, reduceIte, Nat.reduceEqDiff, Nat.reduceBEq, reduceCtorEq, Nat.reduceLT, Nat.reduceLeDiff, Nat.reduceAdd, Nat.reduceSub, Nat.reduceMul, Nat.reduceDiv, Int.reduceAdd, Int.reduceNeg, Int.reduceEq, Int.reduceLT, Int.reduceLE]; try simp (disch := omega) only [decide_eq_true, decide_eq_false])) ?_
  refine wlk_skip ?_
  repeat (first | refine hn1 _ ?_ | refine he1 _ _ ?_)
  refine wlk_sreg fun KY hKY => ?_
  simp only [go_sem, reduceIte, Nat.reduceEqDiff, Nat.reduceBEq, reduceCtorEq, Nat.reduceLT, Nat.reduceLeDiff, Nat.reduceAdd, Nat.reduceSub, Nat.reduceMul, Nat.reduceDiv, Int.reduceAdd, Int.reduceNeg, Int.reduceEq, Int.reduceLT, Int.reduceLE, c_garlandhelp_Kept_int__r3, w0, ints_len, hlen, decide_eq_true_eq, (show l.length + 2 < l.length + 3 by omega), or_true, Nat.sub_zero]
  refine hKY _ ?_
  refine wlk_seq fun X2 hn2 he2 hr2 => ?_
  refine wlk_sreg fun KY hKY => ?_
  simp only [go_sem, reduceIte, Nat.reduceEqDiff, Nat.reduceBEq, reduceCtorEq, Nat.reduceLT, Nat.reduceLeDiff, Nat.reduceAdd, Nat.reduceSub, Nat.reduceMul, Nat.reduceDiv, Int.reduceAdd, Int.reduceNeg, Int.reduceEq, Int.reduceLT, Int.reduceLE, c_garlandhelp_Kept_int__r4]
  refine hKY _ ?_
  refine wlk_blk fun X3 hn3 he3 hf3 hr3 => ?_
  try simp only [go_sem, reduceIte, Nat.reduceEqDiff, Nat.reduceBEq, reduceCtorEq, Nat.reduceLT, Nat.reduceLeDiff, Nat.reduceAdd, Nat.reduceSub, Nat.reduceMul, Nat.reduceDiv, Int.reduceAdd, Int.reduceNeg, Int.reduceEq, Int.reduceLT, Int.reduceLE]
  refine wlk_lp (α := Nat) [31, 39] (fun k => [(8, .sc (.int .i64 ((l.length + k : Nat) : Int)))]) (fun k => [some (ints R)]) (fun k q => k ≤ 3 ∧ q = 3 - k) (0) (3) rfl (by first | (simp only [go_sem, reduceIte, Nat.reduceEqDiff, Nat.reduceBEq, reduceCtorEq, Nat.reduceLT, Nat.reduceLeDiff, Nat.reduceAdd, Nat.reduceSub, Nat.reduceMul, Nat.reduceDiv, Int.reduceAdd, Int.reduceNeg, Int.reduceEq, Int.reduceLT, Int.reduceLE, updAll_cons, updAll_nil]; done) | with_reducible rfl | rfl) (⟨by omega, rfl⟩) ?_
  rintro k q ⟨hk, rfl⟩ X4 hn4 he4 hr4
  simp only [go_sem, reduceIte, Nat.reduceEqDiff, Nat.reduceBEq, reduceCtorEq, Nat.reduceLT, Nat.reduceLeDiff, Nat.reduceAdd, Nat.reduceSub, Nat.reduceMul, Nat.reduceDiv, Int.reduceAdd, Int.reduceNeg, Int.reduceEq, Int.reduceLT, Int.reduceLE, updAll_cons, updAll_nil]
  refine wlk_seq fun X5 hn5 he5 hr5 => ?_
  refine wlk_sreg fun KY hKY => ?_
  simp only [go_sem, reduceIte, Nat.reduceEqDiff, Nat.reduceBEq, reduceCtorEq, Nat.reduceLT, Nat.reduceLeDiff, Nat.reduceAdd, Nat.reduceSub, Nat.reduceMul, Nat.reduceDiv, Int.reduceAdd, Int.reduceNeg, Int.reduceEq, Int.reduceLT, Int.reduceLE, c_garlandhelp_Kept_int__r5]
  refine hKY _ ?_
  by_cases hk2 : k < 3
  · refine wlk_cond1 (by first | rfl | (simp only [go_sem, reduceIte, Nat.reduceEqDiff, Nat.reduceBEq, reduceCtorEq, Nat.reduceLT, Nat.reduceLeDiff, Nat.reduceAdd, Nat.reduceSub, Nat.reduceMul, Nat.reduceDiv, Int.reduceAdd, Int.reduceNeg, Int.reduceEq, Int.reduceLT, Int.reduceLE]; try simp (disch := omega) only [decide_eq_true, decide_eq_false])) ?_
    refine wlk_skip ?_
    repeat (first | refine hn5 _ ?_ | refine he5 _ _ ?_ | refine he4 _ _ ?_ | refine hn3 _ ?_ | refine he3 _ ?_ | refine hf3 _ _ (by decide) ?_ | refine hn2 _ ?_ | refine he2 _ _ ?_ | refine hn1 _ ?_ | refine he1 _ _ ?_)
    refine wlk_seq fun X6 hn6 he6 hr6 => ?_
    refine wlk_blk fun X7 hn7 he7 hf7 hr7 => ?_
    have hg := room_get l x k hk2
    rw [hR] at hg
    refine wlk_sreg fun KY hKY => ?_
    simp only [go_sem, reduceIte, Nat.reduceEqDiff, Nat.reduceBEq, reduceCtorEq, Nat.reduceLT, Nat.reduceLeDiff, Nat.reduceAdd, Nat.reduceSub, Nat.reduceMul, Nat.reduceDiv, Int.reduceAdd, Int.reduceNeg, Int.reduceEq, Int.reduceLT, Int.reduceLE, c_garlandhelp_Kept_int__r6, (show l.length + k < l.length + 3 by omega), hg, ints_len, hlen]
    refine hKY _ ?_
    refine wlk_cond0 (by first | rfl | (simp only [go_sem, reduceIte, Nat.reduceEqDiff, Nat.reduceBEq, reduceCtorEq, Nat.reduceLT, Nat.reduceLeDiff, Nat.reduceAdd, Nat.reduceSub, Nat.reduceMul, Nat.reduceDiv, Int.reduceAdd, Int.reduceNeg, Int.reduceEq, Int.reduceLT, Int.reduceLE]; try simp (disch := omega) only [decide_eq_true, decide_eq_false])) ?_
    refine wlk_skip ?_
    repeat (first | refine hn7 _ ?_ | refine he7 _ ?_ | refine hf7 _ _ (by decide) ?_ | refine hn6 _ ?_ | refine he6 _ _ ?_ | refine hn5 _ ?_ | refine he5 _ _ ?_ | refine he4 _ _ ?_ | refine hn3 _ ?_ | refine he3 _ ?_ | refine hf3 _ _ (by decide) ?_ | refine hn2 _ ?_ | refine he2 _ _ ?_ | refine hn1 _ ?_ | refine he1 _ _ ?_)
    refine wlk_reg fun KY hKY => ?_
    simp only [go_sem, reduceIte, Nat.reduceEqDiff, Nat.reduceBEq, reduceCtorEq, Nat.reduceLT, Nat.reduceLeDiff, Nat.reduceAdd, Nat.reduceSub, Nat.reduceMul, Nat.reduceDiv, Int.reduceAdd, Int.reduceNeg, Int.reduceEq, Int.reduceLT, Int.reduceLE, c_garlandhelp_Kept_int__r8, incS (show l.length + k < 4611686018427387904 by omega)]
    refine hKY _ ?_
    repeat (first | refine hn7 _ ?_ | refine he7 _ ?_ | refine hf7 _ _ (by decide) ?_ | refine hn6 _ ?_ | refine he6 _ _ ?_ | refine hn5 _ ?_ | refine he5 _ _ ?_)
    refine hn4 _ (k + 1) (3 - (k + 1)) (by omega) (by first | (simp only [go_sem, reduceIte, Nat.reduceEqDiff, Nat.reduceBEq, reduceCtorEq, Nat.reduceLT, Nat.reduceLeDiff, Nat.reduceAdd, Nat.reduceSub, Nat.reduceMul, Nat.reduceDiv, Int.reduceAdd, Int.reduceNeg, Int.reduceEq, Int.reduceLT, Int.reduceLE, updAll_cons, updAll_nil]; done) | with_reducible rfl | rfl) ?_
    exact ⟨hk2, rfl⟩
  · refine wlk_cond0 (by first | rfl | (simp only [go_sem, reduceIte, Nat.reduceEqDiff, Nat.reduceBEq, reduceCtorEq, Nat.reduceLT, Nat.reduceLeDiff, Nat.reduceAdd, Nat.reduceSub, Nat.reduceMul, Nat.reduceDiv, Int.reduceAdd, Int.reduceNeg, Int.reduceEq, Int.reduceLT, Int.reduceLE]; try simp (disch := omega) only [decide_eq_true, decide_eq_false])) ?_
    refine wlk_exit ?_
    repeat (first | refine hn5 _ ?_ | refine he5 _ _ ?_ | refine he4 _ _ ?_ | refine hn3 _ ?_ | refine he3 _ ?_ | refine hf3 _ _ (by decide) ?_ | refine hn2 _ ?_ | refine he2 _ _ ?_ | refine hn1 _ ?_ | refine he1 _ _ ?_)
    obtain rfl : k = 3 := by omega
    refine wlk_sreg fun KY hKY => ?_
    simp only [go_sem, reduceIte, Nat.reduceEqDiff, Nat.reduceBEq, reduceCtorEq, Nat.reduceLT, Nat.reduceLeDiff, Nat.reduceAdd, Nat.reduceSub, Nat.reduceMul, Nat.reduceDiv, Int.reduceAdd, Int.reduceNeg, Int.reduceEq, Int.reduceLT, Int.reduceLE, c_garlandhelp_Kept_int__r9]
    refine hKY _ ?_
    refine wlk_ret ?_
    repeat (first | refine hr5 _ ?_ | refine hr4 _ ?_ | refine hr3 _ ?_ | refine hr2 _ ?_ | refine hr1 _ ?_)
    simp only [go_sem, reduceIte, Nat.reduceEqDiff, Nat.reduceBEq, reduceCtorEq, Nat.reduceLT, Nat.reduceLeDiff, Nat.reduceAdd, Nat.reduceSub, Nat.reduceMul, Nat.reduceDiv, Int.reduceAdd, Int.reduceNeg, Int.reduceEq, Int.reduceLT, Int.reduceLE]
end Go.Proofs.Ytijcjnlbphienaa
set_option maxRecDepth 100000
set_option maxHeartbeats 4000000
namespace Go.Proofs.Ytijcjnlbphienaa
open Go Go.Ga Go.Ga.Gl
def mOk (es : Es) (m : List Int) (v : Nat) : Bool := decide (m.getD v 0 = -1) || (decide (turnI (v : Int) (m.getD v 0) ∈ castE es) && decide (m.getD (m.getD v 0).toNat 0 = (v : Int)))
def mateB (n : Int) (es : List (Int × Int)) (m : List Int) : Bool := rightB n es && decide ((m.length : Int) = n) && (List.range m.length).all fun v => decide (m.getD v 0 = -1) || (decide (turnI (v : Int) (m.getD v 0) ∈ es) && decide (m.getD (m.getD v 0).toNat 0 = (v : Int)))
theorem turn_mem {N : Nat} {es : Es} (g : GR N es) {v : Nat} {w : Int} (h : turnI (v : Int) w ∈ castE es) : ∃ u : Nat, w = u ∧ u < N ∧ v < N ∧ u ≠ v := by
  obtain ⟨⟨a, b⟩, hm, e⟩ := List.mem_map.1 h
  have hok := g.ok _ hm
  simp only at hok
  unfold turnI at e
  split at e
  · simp only [Prod.mk.injEq] at e
    exact ⟨a, by omega, by omega, by omega, by omega⟩
  · simp only [Prod.mk.injEq] at e
    exact ⟨b, by omega, by omega, by omega, by omega⟩
theorem r8right_no (n : Int) (es : List (Int × Int)) (m : List Int) (h : (rightB n es && decide ((m.length : Int) = n)) = false) : ACalls Try.prog [] n_garlandref08_Right [.agg [.sc (.int .i64 n), .imm 2 (twos es)], .imm 1 (ints m)] [] fun r h' => r = .sc (.bool false) ∧ h' = [] := by
  refine ACalls.trim ?_
  refine go_garlandref08_Right rfl ?_
  unfold c_garlandref08_Right v_garlandref08_Right
  refine wlk_sreg fun KY hKY => ?_
  simp only [go_sem, reduceIte, Nat.reduceEqDiff, Nat.reduceBEq, reduceCtorEq, Nat.reduceLT, Nat.reduceLeDiff, Nat.reduceAdd, Nat.reduceSub, Nat.reduceMul, Nat.reduceDiv, Int.reduceAdd, Int.reduceNeg, Int.reduceEq, Int.reduceLT, Int.reduceLE, c_garlandref08_Right_r0]
  refine hKY _ ?_
  refine wlk_seq fun X1 hn1 he1 hr1 => ?_
  cases hr : rightB n es with
  | false =>
    refine wlk_sreg fun KY hKY => ?_
    simp only [go_sem, reduceIte, Nat.reduceEqDiff, Nat.reduceBEq, reduceCtorEq, Nat.reduceLT, Nat.reduceLeDiff, Nat.reduceAdd, Nat.reduceSub, Nat.reduceMul, Nat.reduceDiv, Int.reduceAdd, Int.reduceNeg, Int.reduceEq, Int.reduceLT, Int.reduceLE, c_garlandref08_Right_r1]
    refine call_view rfl (by simp only [go_sem, reduceIte, Nat.reduceEqDiff, Nat.reduceBEq, reduceCtorEq, Nat.reduceLT, Nat.reduceLeDiff, Nat.reduceAdd, Nat.reduceSub, Nat.reduceMul, Nat.reduceDiv, Int.reduceAdd, Int.reduceNeg, Int.reduceEq, Int.reduceLT, Int.reduceLE] <;> rfl) ((rright_ok n es).mono ?_)
    rintro rr hh ⟨rfl, rfl⟩
    refine ⟨rfl, rfl, rfl, ?_⟩
    simp only [go_sem, reduceIte, Nat.reduceEqDiff, Nat.reduceBEq, reduceCtorEq, Nat.reduceLT, Nat.reduceLeDiff, Nat.reduceAdd, Nat.reduceSub, Nat.reduceMul, Nat.reduceDiv, Int.reduceAdd, Int.reduceNeg, Int.reduceEq, Int.reduceLT, Int.reduceLE, hr]
    refine hKY _ ?_
    refine wlk_cond1 (by first | rfl | (simp only [go_sem, reduceIte, Nat.reduceEqDiff, Nat.reduceBEq, reduceCtorEq, Nat.reduceLT, Nat.reduceLeDiff, Nat.reduceAdd, Nat.reduceSub, Nat.reduceMul, Nat.reduceDiv, Int.reduceAdd, Int.reduceNeg, Int.reduceEq, Int.reduceLT, Int.reduceLE]; try simp (disch := omega) only [decide_eq_true, decide_eq_false])) ?_
    refine wlk_sreg fun KY hKY => ?_
    simp only [go_sem, reduceIte, Nat.reduceEqDiff, Nat.reduceBEq, reduceCtorEq, Nat.reduceLT, Nat.reduceLeDiff, Nat.reduceAdd, Nat.reduceSub, Nat.reduceMul, Nat.reduceDiv, Int.reduceAdd, Int.reduceNeg, Int.reduceEq, Int.reduceLT, Int.reduceLE, c_garlandref08_Right_r2]
    refine hKY _ ?_
    refine wlk_ret ?_
    repeat (first | refine hr1 _ ?_)
    simp only [go_sem, reduceIte, Nat.reduceEqDiff, Nat.reduceBEq, reduceCtorEq, Nat.reduceLT, Nat.reduceLeDiff, Nat.reduceAdd, Nat.reduceSub, Nat.reduceMul, Nat.reduceDiv, Int.reduceAdd, Int.reduceNeg, Int.reduceEq, Int.reduceLT, Int.reduceLE]
  | true =>
    rw [hr, Bool.true_and, decide_eq_false_iff_not] at h
    have hd : decide ((m.length : Int) ≠ n) = true := decide_eq_true h
    refine wlk_sreg fun KY hKY => ?_
    simp only [go_sem, reduceIte, Nat.reduceEqDiff, Nat.reduceBEq, reduceCtorEq, Nat.reduceLT, Nat.reduceLeDiff, Nat.reduceAdd, Nat.reduceSub, Nat.reduceMul, Nat.reduceDiv, Int.reduceAdd, Int.reduceNeg, Int.reduceEq, Int.reduceLT, Int.reduceLE, c_garlandref08_Right_r1]
    refine call_view rfl (by simp only [go_sem, reduceIte, Nat.reduceEqDiff, Nat.reduceBEq, reduceCtorEq, Nat.reduceLT, Nat.reduceLeDiff, Nat.reduceAdd, Nat.reduceSub, Nat.reduceMul, Nat.reduceDiv, Int.reduceAdd, Int.reduceNeg, Int.reduceEq, Int.reduceLT, Int.reduceLE] <;> rfl) ((rright_ok n es).mono ?_)
    rintro rr hh ⟨rfl, rfl⟩
    refine ⟨rfl, rfl, rfl, ?_⟩
    simp only [go_sem, reduceIte, Nat.reduceEqDiff, Nat.reduceBEq, reduceCtorEq, Nat.reduceLT, Nat.reduceLeDiff, Nat.reduceAdd, Nat.reduceSub, Nat.reduceMul, Nat.reduceDiv, Int.reduceAdd, Int.reduceNeg, Int.reduceEq, Int.reduceLT, Int.reduceLE, hr, ints_len, hd]
    refine hKY _ ?_
    refine wlk_cond1 (by first | rfl | (simp only [go_sem, reduceIte, Nat.reduceEqDiff, Nat.reduceBEq, reduceCtorEq, Nat.reduceLT, Nat.reduceLeDiff, Nat.reduceAdd, Nat.reduceSub, Nat.reduceMul, Nat.reduceDiv, Int.reduceAdd, Int.reduceNeg, Int.reduceEq, Int.reduceLT, Int.reduceLE]; try simp (disch := omega) only [decide_eq_true, decide_eq_false])) ?_
    refine wlk_sreg fun KY hKY => ?_
    simp only [go_sem, reduceIte, Nat.reduceEqDiff, Nat.reduceBEq, reduceCtorEq, Nat.reduceLT, Nat.reduceLeDiff, Nat.reduceAdd, Nat.reduceSub, Nat.reduceMul, Nat.reduceDiv, Int.reduceAdd, Int.reduceNeg, Int.reduceEq, Int.reduceLT, Int.reduceLE, c_garlandref08_Right_r2]
    refine hKY _ ?_
    refine wlk_ret ?_
    repeat (first | refine hr1 _ ?_)
    simp only [go_sem, reduceIte, Nat.reduceEqDiff, Nat.reduceBEq, reduceCtorEq, Nat.reduceLT, Nat.reduceLeDiff, Nat.reduceAdd, Nat.reduceSub, Nat.reduceMul, Nat.reduceDiv, Int.reduceAdd, Int.reduceNeg, Int.reduceEq, Int.reduceLT, Int.reduceLE]
theorem all_no {N k : Nat} {φ : Nat → Bool} (h : k < N) (hf : φ k = false) : ((List.range N).all fun v => φ v) = false := by
  rw [Bool.eq_false_iff]; intro h'
  rw [List.all_eq_true] at h'
  rw [h' k (List.mem_range.2 h)] at hf; cases hf
theorem r8right_yes {N : Nat} {es : Es} (g : GR N es) (m : List Int) (hl : m.length = N) : ACalls Try.prog [] n_garlandref08_Right [.agg [.sc (.int .i64 (N : Int)), .imm 2 (twos (castE es))], .imm 1 (ints m)] [] fun r h' => r = .sc (.bool ((List.range N).all fun v => mOk es m v)) ∧ h' = [] := by
  refine ACalls.trim ?_
  have hN := g.hn
  have hr := rightB_GR g
  have hd : decide ((m.length : Int) ≠ (N : Int)) = false := decide_eq_false (by omega)
  refine go_garlandref08_Right rfl ?_
  unfold c_garlandref08_Right v_garlandref08_Right
  refine wlk_sreg fun KY hKY => ?_
  simp only [go_sem, reduceIte, Nat.reduceEqDiff, Nat.reduceBEq, reduceCtorEq, Nat.reduceLT, Nat.reduceLeDiff, Nat.reduceAdd, Nat.reduceSub, Nat.reduceMul, Nat.reduceDiv, Int.reduceAdd, Int.reduceNeg, Int.reduceEq, Int.reduceLT, Int.reduceLE, c_garlandref08_Right_r0]
  refine hKY _ ?_
  refine wlk_seq fun X1 hn1 he1 hr1 => ?_
  refine wlk_sreg fun KY hKY => ?_
  simp only [go_sem, reduceIte, Nat.reduceEqDiff, Nat.reduceBEq, reduceCtorEq, Nat.reduceLT, Nat.reduceLeDiff, Nat.reduceAdd, Nat.reduceSub, Nat.reduceMul, Nat.reduceDiv, Int.reduceAdd, Int.reduceNeg, Int.reduceEq, Int.reduceLT, Int.reduceLE, c_garlandref08_Right_r1]
  refine call_view rfl (by simp only [go_sem, reduceIte, Nat.reduceEqDiff, Nat.reduceBEq, reduceCtorEq, Nat.reduceLT, Nat.reduceLeDiff, Nat.reduceAdd, Nat.reduceSub, Nat.reduceMul, Nat.reduceDiv, Int.reduceAdd, Int.reduceNeg, Int.reduceEq, Int.reduceLT, Int.reduceLE] <;> rfl) ((rright_ok N (castE es)).mono ?_)
  rintro rr hh ⟨rfl, rfl⟩
  refine ⟨rfl, rfl, rfl, ?_⟩
  simp only [go_sem, reduceIte, Nat.reduceEqDiff, Nat.reduceBEq, reduceCtorEq, Nat.reduceLT, Nat.reduceLeDiff, Nat.reduceAdd, Nat.reduceSub, Nat.reduceMul, Nat.reduceDiv, Int.reduceAdd, Int.reduceNeg, Int.reduceEq, Int.reduceLT, Int.reduceLE, hr, ints_len, hd]
  refine hKY _ ?_
  refine wlk_cond0 (by first | rfl | (simp only [go_sem, reduceIte, Nat.reduceEqDiff, Nat.reduceBEq, reduceCtorEq, Nat.reduceLT, Nat.reduceLeDiff, Nat.reduceAdd, Nat.reduceSub, Nat.reduceMul, Nat.reduceDiv, Int.reduceAdd, Int.reduceNeg, Int.reduceEq, Int.reduceLT, Int.reduceLE]; try simp (disch := omega) only [decide_eq_true, decide_eq_false])) ?_
  refine wlk_skip ?_
  repeat (first | refine hn1 _ ?_ | refine he1 _ _ ?_)
  refine wlk_seq fun X2 hn2 he2 hr2 => ?_
  refine wlk_sreg fun KY hKY => ?_
  simp only [go_sem, reduceIte, Nat.reduceEqDiff, Nat.reduceBEq, reduceCtorEq, Nat.reduceLT, Nat.reduceLeDiff, Nat.reduceAdd, Nat.reduceSub, Nat.reduceMul, Nat.reduceDiv, Int.reduceAdd, Int.reduceNeg, Int.reduceEq, Int.reduceLT, Int.reduceLE, c_garlandref08_Right_r3]
  refine hKY _ ?_
  refine wlk_blk fun X3 hn3 he3 hf3 hr3 => ?_
  try simp only [go_sem, reduceIte, Nat.reduceEqDiff, Nat.reduceBEq, reduceCtorEq, Nat.reduceLT, Nat.reduceLeDiff, Nat.reduceAdd, Nat.reduceSub, Nat.reduceMul, Nat.reduceDiv, Int.reduceAdd, Int.reduceNeg, Int.reduceEq, Int.reduceLT, Int.reduceLE]
  refine wlk_lp (α := Nat) [20, 6, 43] (fun k => [(5, .sc (.int .i64 (k : Int)))]) (fun k => []) (fun k q => k ≤ N ∧ q = N - k ∧ (∀ v, v < k → mOk es m v = true)) (0) (N) rfl (by first | (simp only [go_sem, reduceIte, Nat.reduceEqDiff, Nat.reduceBEq, reduceCtorEq, Nat.reduceLT, Nat.reduceLeDiff, Nat.reduceAdd, Nat.reduceSub, Nat.reduceMul, Nat.reduceDiv, Int.reduceAdd, Int.reduceNeg, Int.reduceEq, Int.reduceLT, Int.reduceLE, updAll_cons, updAll_nil]; done) | with_reducible rfl | rfl) (⟨by omega, rfl, fun v h => by omega⟩) ?_
  rintro k q ⟨hk, rfl, hz⟩ X4 hn4 he4 hr4
  simp only [go_sem, reduceIte, Nat.reduceEqDiff, Nat.reduceBEq, reduceCtorEq, Nat.reduceLT, Nat.reduceLeDiff, Nat.reduceAdd, Nat.reduceSub, Nat.reduceMul, Nat.reduceDiv, Int.reduceAdd, Int.reduceNeg, Int.reduceEq, Int.reduceLT, Int.reduceLE, updAll_cons, updAll_nil]
  refine wlk_seq fun X5 hn5 he5 hr5 => ?_
  rcases Nat.lt_or_ge k N with hk2 | hk2
  · have hdy : decide ((k : Int) < (N : Int)) = true := decide_eq_true (by omega)
    refine wlk_sreg fun KY hKY => ?_
    simp only [go_sem, reduceIte, Nat.reduceEqDiff, Nat.reduceBEq, reduceCtorEq, Nat.reduceLT, Nat.reduceLeDiff, Nat.reduceAdd, Nat.reduceSub, Nat.reduceMul, Nat.reduceDiv, Int.reduceAdd, Int.reduceNeg, Int.reduceEq, Int.reduceLT, Int.reduceLE, c_garlandref08_Right_r4, hdy]
    refine hKY _ ?_
    refine wlk_cond1 (by first | rfl | (simp only [go_sem, reduceIte, Nat.reduceEqDiff, Nat.reduceBEq, reduceCtorEq, Nat.reduceLT, Nat.reduceLeDiff, Nat.reduceAdd, Nat.reduceSub, Nat.reduceMul, Nat.reduceDiv, Int.reduceAdd, Int.reduceNeg, Int.reduceEq, Int.reduceLT, Int.reduceLE]; try simp (disch := omega) only [decide_eq_true, decide_eq_false])) ?_
    refine wlk_skip ?_
    repeat (first | refine hn5 _ ?_ | refine he5 _ _ ?_ | refine he4 _ _ ?_ | refine hn3 _ ?_ | refine he3 _ ?_ | refine hf3 _ _ (by decide) ?_ | refine hn2 _ ?_ | refine he2 _ _ ?_ | refine hn1 _ ?_ | refine he1 _ _ ?_)
    refine wlk_seq fun X6 hn6 he6 hr6 => ?_
    refine wlk_blk fun X7 hn7 he7 hf7 hr7 => ?_
    refine wlk_sreg fun KY hKY => ?_
    simp only [go_sem, reduceIte, Nat.reduceEqDiff, Nat.reduceBEq, reduceCtorEq, Nat.reduceLT, Nat.reduceLeDiff, Nat.reduceAdd, Nat.reduceSub, Nat.reduceMul, Nat.reduceDiv, Int.reduceAdd, Int.reduceNeg, Int.reduceEq, Int.reduceLT, Int.reduceLE, c_garlandref08_Right_r5, ints_get (show k < m.length by omega), ints_len, hl, hk2]
    refine hKY _ ?_
    by_cases hw : m.getD k 0 = -1
    · have d1 : decide (m.getD k 0 ≠ -1) = false := decide_eq_false fun h => h hw
      have hok : mOk es m k = true := by unfold mOk; rw [decide_eq_true hw]; rfl
      refine wlk_sreg fun KY hKY => ?_
      simp only [go_sem, reduceIte, Nat.reduceEqDiff, Nat.reduceBEq, reduceCtorEq, Nat.reduceLT, Nat.reduceLeDiff, Nat.reduceAdd, Nat.reduceSub, Nat.reduceMul, Nat.reduceDiv, Int.reduceAdd, Int.reduceNeg, Int.reduceEq, Int.reduceLT, Int.reduceLE, c_garlandref08_Right_r6, d1]
      refine hKY _ ?_
      refine wlk_cond0 (by first | rfl | (simp only [go_sem, reduceIte, Nat.reduceEqDiff, Nat.reduceBEq, reduceCtorEq, Nat.reduceLT, Nat.reduceLeDiff, Nat.reduceAdd, Nat.reduceSub, Nat.reduceMul, Nat.reduceDiv, Int.reduceAdd, Int.reduceNeg, Int.reduceEq, Int.reduceLT, Int.reduceLE]; try simp (disch := omega) only [decide_eq_true, decide_eq_false])) ?_
      refine wlk_skip ?_
      repeat (first | refine hn7 _ ?_ | refine he7 _ ?_ | refine hf7 _ _ (by decide) ?_ | refine hn6 _ ?_ | refine he6 _ _ ?_ | refine hn5 _ ?_ | refine he5 _ _ ?_ | refine he4 _ _ ?_ | refine hn3 _ ?_ | refine he3 _ ?_ | refine hf3 _ _ (by decide) ?_ | refine hn2 _ ?_ | refine he2 _ _ ?_ | refine hn1 _ ?_ | refine he1 _ _ ?_)
      refine wlk_reg fun KY hKY => ?_
      simp only [go_sem, reduceIte, Nat.reduceEqDiff, Nat.reduceBEq, reduceCtorEq, Nat.reduceLT, Nat.reduceLeDiff, Nat.reduceAdd, Nat.reduceSub, Nat.reduceMul, Nat.reduceDiv, Int.reduceAdd, Int.reduceNeg, Int.reduceEq, Int.reduceLT, Int.reduceLE, c_garlandref08_Right_r8, incS (show k < 4611686018427387904 by omega)]
      refine hKY _ ?_
      repeat (first | refine hn7 _ ?_ | refine he7 _ ?_ | refine hf7 _ _ (by decide) ?_ | refine hn6 _ ?_ | refine he6 _ _ ?_ | refine hn5 _ ?_ | refine he5 _ _ ?_)
      refine hn4 _ (k + 1) (N - (k + 1)) (by omega) (by first | (simp only [go_sem, reduceIte, Nat.reduceEqDiff, Nat.reduceBEq, reduceCtorEq, Nat.reduceLT, Nat.reduceLeDiff, Nat.reduceAdd, Nat.reduceSub, Nat.reduceMul, Nat.reduceDiv, Int.reduceAdd, Int.reduceNeg, Int.reduceEq, Int.reduceLT, Int.reduceLE, updAll_cons, updAll_nil]; done) | with_reducible rfl) ?_
      refine ⟨hk2, rfl, fun v hv => ?_⟩
      rcases Nat.lt_or_ge v k with h3 | h3
      · exact hz v h3
      · obtain rfl : v = k := by omega
        exact hok
    · have d1 : decide (m.getD k 0 ≠ -1) = true := decide_eq_true hw
      by_cases hm : turnI (k : Int) (m.getD k 0) ∈ castE es
      · have hhas : (rightB N (castE es) && decide (turnI (k : Int) (m.getD k 0) ∈ castE es)) = true := by rw [hr, decide_eq_true hm]; rfl
        obtain ⟨u, hu, huN, _, _⟩ := turn_mem g hm
        have hgu : m.getD (m.getD k 0).toNat 0 = m.getD u 0 := by rw [hu]; rfl
        by_cases hq : m.getD u 0 = (k : Int)
        · have d2 : decide (m.getD u 0 ≠ (k : Int)) = false := decide_eq_false fun h => h hq
          have hok : mOk es m k = true := by unfold mOk; rw [decide_eq_true hm, hgu, decide_eq_true hq]; simp
          refine wlk_sreg fun KY hKY => ?_
          simp only [go_sem, reduceIte, Nat.reduceEqDiff, Nat.reduceBEq, reduceCtorEq, Nat.reduceLT, Nat.reduceLeDiff, Nat.reduceAdd, Nat.reduceSub, Nat.reduceMul, Nat.reduceDiv, Int.reduceAdd, Int.reduceNeg, Int.reduceEq, Int.reduceLT, Int.reduceLE, c_garlandref08_Right_r6, d1]
          refine call_view rfl (by simp only [go_sem, reduceIte, Nat.reduceEqDiff, Nat.reduceBEq, reduceCtorEq, Nat.reduceLT, Nat.reduceLeDiff, Nat.reduceAdd, Nat.reduceSub, Nat.reduceMul, Nat.reduceDiv, Int.reduceAdd, Int.reduceNeg, Int.reduceEq, Int.reduceLT, Int.reduceLE] <;> rfl) ((rhas_ok N (castE es) k (m.getD k 0)).mono ?_)
          rintro rr hh ⟨rfl, rfl⟩
          refine ⟨rfl, rfl, rfl, ?_⟩
          simp only [go_sem, reduceIte, Nat.reduceEqDiff, Nat.reduceBEq, reduceCtorEq, Nat.reduceLT, Nat.reduceLeDiff, Nat.reduceAdd, Nat.reduceSub, Nat.reduceMul, Nat.reduceDiv, Int.reduceAdd, Int.reduceNeg, Int.reduceEq, Int.reduceLT, Int.reduceLE, hhas]
          simp only [hu]
          simp only [go_sem, reduceIte, Nat.reduceEqDiff, Nat.reduceBEq, reduceCtorEq, Nat.reduceLT, Nat.reduceLeDiff, Nat.reduceAdd, Nat.reduceSub, Nat.reduceMul, Nat.reduceDiv, Int.reduceAdd, Int.reduceNeg, Int.reduceEq, Int.reduceLT, Int.reduceLE, ints_get (show u < m.length by omega), ints_len, hl, huN, d2]
          refine hKY _ ?_
          refine wlk_cond0 (by first | rfl | (simp only [go_sem, reduceIte, Nat.reduceEqDiff, Nat.reduceBEq, reduceCtorEq, Nat.reduceLT, Nat.reduceLeDiff, Nat.reduceAdd, Nat.reduceSub, Nat.reduceMul, Nat.reduceDiv, Int.reduceAdd, Int.reduceNeg, Int.reduceEq, Int.reduceLT, Int.reduceLE]; try simp (disch := omega) only [decide_eq_true, decide_eq_false])) ?_
          refine wlk_skip ?_
          repeat (first | refine hn7 _ ?_ | refine he7 _ ?_ | refine hf7 _ _ (by decide) ?_ | refine hn6 _ ?_ | refine he6 _ _ ?_ | refine hn5 _ ?_ | refine he5 _ _ ?_ | refine he4 _ _ ?_ | refine hn3 _ ?_ | refine he3 _ ?_ | refine hf3 _ _ (by decide) ?_ | refine hn2 _ ?_ | refine he2 _ _ ?_ | refine hn1 _ ?_ | refine he1 _ _ ?_)
          refine wlk_reg fun KY hKY => ?_
          simp only [go_sem, reduceIte, Nat.reduceEqDiff, Nat.reduceBEq, reduceCtorEq, Nat.reduceLT, Nat.reduceLeDiff, Nat.reduceAdd, Nat.reduceSub, Nat.reduceMul, Nat.reduceDiv, Int.reduceAdd, Int.reduceNeg, Int.reduceEq, Int.reduceLT, Int.reduceLE, c_garlandref08_Right_r8, incS (show k < 4611686018427387904 by omega)]
          refine hKY _ ?_
          repeat (first | refine hn7 _ ?_ | refine he7 _ ?_ | refine hf7 _ _ (by decide) ?_ | refine hn6 _ ?_ | refine he6 _ _ ?_ | refine hn5 _ ?_ | refine he5 _ _ ?_)
          refine hn4 _ (k + 1) (N - (k + 1)) (by omega) (by first | (simp only [go_sem, reduceIte, Nat.reduceEqDiff, Nat.reduceBEq, reduceCtorEq, Nat.reduceLT, Nat.reduceLeDiff, Nat.reduceAdd, Nat.reduceSub, Nat.reduceMul, Nat.reduceDiv, Int.reduceAdd, Int.reduceNeg, Int.reduceEq, Int.reduceLT, Int.reduceLE, updAll_cons, updAll_nil]; done) | with_reducible rfl) ?_
          refine ⟨hk2, rfl, fun v hv => ?_⟩
          rcases Nat.lt_or_ge v k with h3 | h3
          · exact hz v h3
          · obtain rfl : v = k := by omega
            exact hok
        · have d2 : decide (m.getD u 0 ≠ (k : Int)) = true := decide_eq_true hq
          have hok : mOk es m k = false := by unfold mOk; rw [decide_eq_false hw, hgu, decide_eq_false hq]; simp
          refine wlk_sreg fun KY hKY => ?_
          simp only [go_sem, reduceIte, Nat.reduceEqDiff, Nat.reduceBEq, reduceCtorEq, Nat.reduceLT, Nat.reduceLeDiff, Nat.reduceAdd, Nat.reduceSub, Nat.reduceMul, Nat.reduceDiv, Int.reduceAdd, Int.reduceNeg, Int.reduceEq, Int.reduceLT, Int.reduceLE, c_garlandref08_Right_r6, d1]
          refine call_view rfl (by simp only [go_sem, reduceIte, Nat.reduceEqDiff, Nat.reduceBEq, reduceCtorEq, Nat.reduceLT, Nat.reduceLeDiff, Nat.reduceAdd, Nat.reduceSub, Nat.reduceMul, Nat.reduceDiv, Int.reduceAdd, Int.reduceNeg, Int.reduceEq, Int.reduceLT, Int.reduceLE] <;> rfl) ((rhas_ok N (castE es) k (m.getD k 0)).mono ?_)
          rintro rr hh ⟨rfl, rfl⟩
          refine ⟨rfl, rfl, rfl, ?_⟩
          simp only [go_sem, reduceIte, Nat.reduceEqDiff, Nat.reduceBEq, reduceCtorEq, Nat.reduceLT, Nat.reduceLeDiff, Nat.reduceAdd, Nat.reduceSub, Nat.reduceMul, Nat.reduceDiv, Int.reduceAdd, Int.reduceNeg, Int.reduceEq, Int.reduceLT, Int.reduceLE, hhas]
          simp only [hu]
          simp only [go_sem, reduceIte, Nat.reduceEqDiff, Nat.reduceBEq, reduceCtorEq, Nat.reduceLT, Nat.reduceLeDiff, Nat.reduceAdd, Nat.reduceSub, Nat.reduceMul, Nat.reduceDiv, Int.reduceAdd, Int.reduceNeg, Int.reduceEq, Int.reduceLT, Int.reduceLE, ints_get (show u < m.length by omega), ints_len, hl, huN, d2]
          refine hKY _ ?_
          refine wlk_cond1 (by first | rfl | (simp only [go_sem, reduceIte, Nat.reduceEqDiff, Nat.reduceBEq, reduceCtorEq, Nat.reduceLT, Nat.reduceLeDiff, Nat.reduceAdd, Nat.reduceSub, Nat.reduceMul, Nat.reduceDiv, Int.reduceAdd, Int.reduceNeg, Int.reduceEq, Int.reduceLT, Int.reduceLE]; try simp (disch := omega) only [decide_eq_true, decide_eq_false])) ?_
          refine wlk_sreg fun KY hKY => ?_
          simp only [go_sem, reduceIte, Nat.reduceEqDiff, Nat.reduceBEq, reduceCtorEq, Nat.reduceLT, Nat.reduceLeDiff, Nat.reduceAdd, Nat.reduceSub, Nat.reduceMul, Nat.reduceDiv, Int.reduceAdd, Int.reduceNeg, Int.reduceEq, Int.reduceLT, Int.reduceLE, c_garlandref08_Right_r7]
          refine hKY _ ?_
          refine wlk_ret ?_
          repeat (first | refine hr7 _ ?_ | refine hr6 _ ?_ | refine hr5 _ ?_ | refine hr4 _ ?_ | refine hr3 _ ?_ | refine hr2 _ ?_ | refine hr1 _ ?_)
          simp only [go_sem, reduceIte, Nat.reduceEqDiff, Nat.reduceBEq, reduceCtorEq, Nat.reduceLT, Nat.reduceLeDiff, Nat.reduceAdd, Nat.reduceSub, Nat.reduceMul, Nat.reduceDiv, Int.reduceAdd, Int.reduceNeg, Int.reduceEq, Int.reduceLT, Int.reduceLE]
          rw [all_no hk2 hok]
      · have hhas : (rightB N (castE es) && decide (turnI (k : Int) (m.getD k 0) ∈ castE es)) = false := by rw [decide_eq_false hm, Bool.and_false]
        have hok : mOk es m k = false := by unfold mOk; rw [decide_eq_false hw, decide_eq_false hm]; rfl
        refine wlk_sreg fun KY hKY => ?_
        simp only [go_sem, reduceIte, Nat.reduceEqDiff, Nat.reduceBEq, reduceCtorEq, Nat.reduceLT, Nat.reduceLeDiff, Nat.reduceAdd, Nat.reduceSub, Nat.reduceMul, Nat.reduceDiv, Int.reduceAdd, Int.reduceNeg, Int.reduceEq, Int.reduceLT, Int.reduceLE, c_garlandref08_Right_r6, d1]
        refine call_view rfl (by simp only [go_sem, reduceIte, Nat.reduceEqDiff, Nat.reduceBEq, reduceCtorEq, Nat.reduceLT, Nat.reduceLeDiff, Nat.reduceAdd, Nat.reduceSub, Nat.reduceMul, Nat.reduceDiv, Int.reduceAdd, Int.reduceNeg, Int.reduceEq, Int.reduceLT, Int.reduceLE] <;> rfl) ((rhas_ok N (castE es) k (m.getD k 0)).mono ?_)
        rintro rr hh ⟨rfl, rfl⟩
        refine ⟨rfl, rfl, rfl, ?_⟩
        simp only [go_sem, reduceIte, Nat.reduceEqDiff, Nat.reduceBEq, reduceCtorEq, Nat.reduceLT, Nat.reduceLeDiff, Nat.reduceAdd, Nat.reduceSub, Nat.reduceMul, Nat.reduceDiv, Int.reduceAdd, Int.reduceNeg, Int.reduceEq, Int.reduceLT, Int.reduceLE, hhas]
        refine hKY _ ?_
        refine wlk_cond1 (by first | rfl | (simp only [go_sem, reduceIte, Nat.reduceEqDiff, Nat.reduceBEq, reduceCtorEq, Nat.reduceLT, Nat.reduceLeDiff, Nat.reduceAdd, Nat.reduceSub, Nat.reduceMul, Nat.reduceDiv, Int.reduceAdd, Int.reduceNeg, Int.reduceEq, Int.reduceLT, Int.reduceLE]; try simp (disch := omega) only [decide_eq_true, decide_eq_false])) ?_
        refine wlk_sreg fun KY hKY => ?_
        simp only [go_sem, reduceIte, Nat.reduceEqDiff, Nat.reduceBEq, reduceCtorEq, Nat.reduceLT, Nat.reduceLeDiff, Nat.reduceAdd, Nat.reduceSub, Nat.reduceMul, Nat.reduceDiv, Int.reduceAdd, Int.reduceNeg, Int.reduceEq, Int.reduceLT, Int.reduceLE, c_garlandref08_Right_r7]
        refine hKY _ ?_
        refine wlk_ret ?_
        repeat (first | refine hr7 _ ?_ | refine hr6 _ ?_ | refine hr5 _ ?_ | refine hr4 _ ?_ | refine hr3 _ ?_ | refine hr2 _ ?_ | refine hr1 _ ?_)
        simp only [go_sem, reduceIte, Nat.reduceEqDiff, Nat.reduceBEq, reduceCtorEq, Nat.reduceLT, Nat.reduceLeDiff, Nat.reduceAdd, Nat.reduceSub, Nat.reduceMul, Nat.reduceDiv, Int.reduceAdd, Int.reduceNeg, Int.reduceEq, Int.reduceLT, Int.reduceLE]
        rw [all_no hk2 hok]
  have hdx : decide ((k : Int) < (N : Int)) = false := decide_eq_false (by omega)
  refine wlk_sreg fun KY hKY => ?_
  simp only [go_sem, reduceIte, Nat.reduceEqDiff, Nat.reduceBEq, reduceCtorEq, Nat.reduceLT, Nat.reduceLeDiff, Nat.reduceAdd, Nat.reduceSub, Nat.reduceMul, Nat.reduceDiv, Int.reduceAdd, Int.reduceNeg, Int.reduceEq, Int.reduceLT, Int.reduceLE, c_garlandref08_Right_r4, hdx]
  refine hKY _ ?_
  refine wlk_cond0 (by first | rfl | (simp only [go_sem, reduceIte, Nat.reduceEqDiff, Nat.reduceBEq, reduceCtorEq, Nat.reduceLT, Nat.reduceLeDiff, Nat.reduceAdd, Nat.reduceSub, Nat.reduceMul, Nat.reduceDiv, Int.reduceAdd, Int.reduceNeg, Int.reduceEq, Int.reduceLT, Int.reduceLE]; try simp (disch := omega) only [decide_eq_true, decide_eq_false])) ?_
  refine wlk_exit ?_
  repeat (first | refine hn5 _ ?_ | refine he5 _ _ ?_ | refine he4 _ _ ?_ | refine hn3 _ ?_ | refine he3 _ ?_ | refine hf3 _ _ (by decide) ?_ | refine hn2 _ ?_ | refine he2 _ _ ?_ | refine hn1 _ ?_ | refine he1 _ _ ?_)
  obtain rfl : k = N := by omega
  refine wlk_sreg fun KY hKY => ?_
  simp only [go_sem, reduceIte, Nat.reduceEqDiff, Nat.reduceBEq, reduceCtorEq, Nat.reduceLT, Nat.reduceLeDiff, Nat.reduceAdd, Nat.reduceSub, Nat.reduceMul, Nat.reduceDiv, Int.reduceAdd, Int.reduceNeg, Int.reduceEq, Int.reduceLT, Int.reduceLE, c_garlandref08_Right_r9]
  refine hKY _ ?_
  refine wlk_ret ?_
  repeat (first | refine hr5 _ ?_ | refine hr4 _ ?_ | refine hr3 _ ?_ | refine hr2 _ ?_ | refine hr1 _ ?_)
  simp only [go_sem, reduceIte, Nat.reduceEqDiff, Nat.reduceBEq, reduceCtorEq, Nat.reduceLT, Nat.reduceLeDiff, Nat.reduceAdd, Nat.reduceSub, Nat.reduceMul, Nat.reduceDiv, Int.reduceAdd, Int.reduceNeg, Int.reduceEq, Int.reduceLT, Int.reduceLE]
  rw [show ((List.range k).all fun v => mOk es m v) = true from List.all_eq_true.2 fun v hv => hz v (List.mem_range.1 hv)]
end Go.Proofs.Ytijcjnlbphienaa
set_option maxRecDepth 100000
set_option maxHeartbeats 4000000
namespace Go.Proofs.Ytijcjnlbphienaa
open Go Go.Ga Go.Ga.Gl
def jAt (m : List Int) (l : Es) (v : Nat) : Bool := l.any fun e => (decide (e.1 = v) || decide (e.2 = v)) && (decide (m.getD e.1 0 = (e.2 : Int)) && decide (m.getD e.2 0 = (e.1 : Int)))
theorem jAt_ok {N : Nat} {es : Es} (g : GR N es) (m : List Int) {v : Nat} (hw : m.getD v 0 ≠ -1) : jAt m es v = mOk es m v := by
  rw [Bool.eq_iff_iff]
  unfold jAt mOk
  rw [List.any_eq_true, decide_eq_false hw, Bool.false_or, Bool.and_eq_true, decide_eq_true_iff, decide_eq_true_iff]
  constructor
  · rintro ⟨⟨a, b⟩, he, h⟩
    have hok := g.ok _ he
    simp only [Bool.and_eq_true, Bool.or_eq_true, decide_eq_true_eq] at h hok
    obtain ⟨rfl | rfl, h1, h2⟩ := h
    · rw [h1]
      refine ⟨?_, by rw [Int.toNat_natCast]; exact h2⟩
      unfold turnI; rw [if_neg (by omega)]; exact castE_mem.2 he
    · rw [h2]
      refine ⟨?_, by rw [Int.toNat_natCast]; exact h1⟩
      unfold turnI; rw [if_pos (by omega)]; exact castE_mem.2 he
  · rintro ⟨h1, h2⟩
    obtain ⟨u, hu, _, _, hne⟩ := turn_mem g h1
    rw [hu] at h1 h2
    rw [Int.toNat_natCast] at h2
    unfold turnI at h1
    split at h1
    · exact ⟨(u, v), castE_mem.1 h1, by simp only [hu, h2, decide_true, Bool.or_true, Bool.true_or, Bool.and_self]⟩
    · exact ⟨(v, u), castE_mem.1 h1, by simp only [hu, h2, decide_true, Bool.or_true, Bool.true_or, Bool.and_self]⟩
def jL (N : Nat) (m : List Int) (l : Es) : List Bool := (List.range N).map (jAt m l)
theorem jL_len (N : Nat) (m : List Int) (l : Es) : (jL N m l).length = N := by simp [jL]
theorem jL_get {N : Nat} (m : List Int) (l : Es) {v : Nat} (h : v < N) : (jL N m l).getD v false = jAt m l v := by simp [jL, h]
theorem jL_no {N : Nat} (m : List Int) (l : Es) {a b : Nat} (h : ¬ (m.getD a 0 = (b : Int) ∧ m.getD b 0 = (a : Int))) : jL N m (l ++ [(a, b)]) = jL N m l := by
  refine List.map_congr_left fun v _ => ?_
  unfold jAt
  rw [List.any_append]
  have : (decide (m.getD a 0 = (b : Int)) && decide (m.getD b 0 = (a : Int))) = false := by
    rw [Bool.eq_false_iff]; intro h'; rw [Bool.and_eq_true, decide_eq_true_iff, decide_eq_true_iff] at h'; exact h h'
  simp only [List.any_cons, List.any_nil, this, Bool.and_false, Bool.or_false]
theorem jL_yes {N : Nat} (m : List Int) (l : Es) {a b : Nat} (h : m.getD a 0 = (b : Int) ∧ m.getD b 0 = (a : Int)) : ((jL N m l).set a true).set b true = jL N m (l ++ [(a, b)]) := by
  apply List.ext_getElem
  · simp [jL]
  · intro i h1 h2
    have hi : i < N := by rw [jL_len] at h2; exact h2
    have e : jAt m (l ++ [(a, b)]) i = (jAt m l i || (decide (a = i) || decide (b = i))) := by
      unfold jAt
      rw [List.any_append]
      simp only [List.any_cons, List.any_nil, h.1, h.2, decide_true, Bool.and_true, Bool.or_false]
    simp only [jL, List.getElem_set, List.getElem_map, List.getElem_range, e]
    by_cases hb : b = i
    · simp [hb]
    · by_cases ha : a = i
      · simp [ha, hb]
      · simp [ha, hb]
theorem mright_no (n : Int) (es : List (Int × Int)) (m : List Int) (h : (rightB n es && decide ((m.length : Int) = n)) = false) : ACalls Try.prog [] n_mates_Right [.agg [.sc (.int .i64 n), .imm 2 (twos es)], .imm 1 (ints m)] [] fun r h' => r = .sc (.bool false) ∧ h' = [] := by
  refine ACalls.trim ?_
  refine go_mates_Right rfl ?_
  unfold c_mates_Right v_mates_Right
  refine wlk_sreg fun KY hKY => ?_
  simp only [go_sem, reduceIte, Nat.reduceEqDiff, Nat.reduceBEq, reduceCtorEq, Nat.reduceLT, Nat.reduceLeDiff, Nat.reduceAdd, Nat.reduceSub, Nat.reduceMul, Nat.reduceDiv, Int.reduceAdd, Int.reduceNeg, Int.reduceEq, Int.reduceLT, Int.reduceLE, c_mates_Right_r0]
  refine hKY _ ?_
  refine wlk_seq fun X1 hn1 he1 hr1 => ?_
  cases hr : rightB n es with
  | false =>
    refine wlk_sreg fun KY hKY => ?_
    simp only [go_sem, reduceIte, Nat.reduceEqDiff, Nat.reduceBEq, reduceCtorEq, Nat.reduceLT, Nat.reduceLeDiff, Nat.reduceAdd, Nat.reduceSub, Nat.reduceMul, Nat.reduceDiv, Int.reduceAdd, Int.reduceNeg, Int.reduceEq, Int.reduceLT, Int.reduceLE, c_mates_Right_r1]
    refine call_view rfl (by simp only [go_sem, reduceIte, Nat.reduceEqDiff, Nat.reduceBEq, reduceCtorEq, Nat.reduceLT, Nat.reduceLeDiff, Nat.reduceAdd, Nat.reduceSub, Nat.reduceMul, Nat.reduceDiv, Int.reduceAdd, Int.reduceNeg, Int.reduceEq, Int.reduceLT, Int.reduceLE] <;> rfl) ((right_ok n es).mono ?_)
    rintro rr hh ⟨rfl, rfl⟩
    refine ⟨rfl, rfl, rfl, ?_⟩
    simp only [go_sem, reduceIte, Nat.reduceEqDiff, Nat.reduceBEq, reduceCtorEq, Nat.reduceLT, Nat.reduceLeDiff, Nat.reduceAdd, Nat.reduceSub, Nat.reduceMul, Nat.reduceDiv, Int.reduceAdd, Int.reduceNeg, Int.reduceEq, Int.reduceLT, Int.reduceLE, hr]
    refine hKY _ ?_
    refine wlk_cond1 (by first | rfl | (simp only [go_sem, reduceIte, Nat.reduceEqDiff, Nat.reduceBEq, reduceCtorEq, Nat.reduceLT, Nat.reduceLeDiff, Nat.reduceAdd, Nat.reduceSub, Nat.reduceMul, Nat.reduceDiv, Int.reduceAdd, Int.reduceNeg, Int.reduceEq, Int.reduceLT, Int.reduceLE]; try simp (disch := omega) only [decide_eq_true, decide_eq_false])) ?_
    refine wlk_sreg fun KY hKY => ?_
    simp only [go_sem, reduceIte, Nat.reduceEqDiff, Nat.reduceBEq, reduceCtorEq, Nat.reduceLT, Nat.reduceLeDiff, Nat.reduceAdd, Nat.reduceSub, Nat.reduceMul, Nat.reduceDiv, Int.reduceAdd, Int.reduceNeg, Int.reduceEq, Int.reduceLT, Int.reduceLE, c_mates_Right_r2]
    refine hKY _ ?_
    refine wlk_ret ?_
    repeat (first | refine hr1 _ ?_)
    simp only [go_sem, reduceIte, Nat.reduceEqDiff, Nat.reduceBEq, reduceCtorEq, Nat.reduceLT, Nat.reduceLeDiff, Nat.reduceAdd, Nat.reduceSub, Nat.reduceMul, Nat.reduceDiv, Int.reduceAdd, Int.reduceNeg, Int.reduceEq, Int.reduceLT, Int.reduceLE]
  | true =>
    rw [hr, Bool.true_and, decide_eq_false_iff_not] at h
    have hd : decide ((m.length : Int) ≠ n) = true := decide_eq_true h
    refine wlk_sreg fun KY hKY => ?_
    simp only [go_sem, reduceIte, Nat.reduceEqDiff, Nat.reduceBEq, reduceCtorEq, Nat.reduceLT, Nat.reduceLeDiff, Nat.reduceAdd, Nat.reduceSub, Nat.reduceMul, Nat.reduceDiv, Int.reduceAdd, Int.reduceNeg, Int.reduceEq, Int.reduceLT, Int.reduceLE, c_mates_Right_r1]
    refine call_view rfl (by simp only [go_sem, reduceIte, Nat.reduceEqDiff, Nat.reduceBEq, reduceCtorEq, Nat.reduceLT, Nat.reduceLeDiff, Nat.reduceAdd, Nat.reduceSub, Nat.reduceMul, Nat.reduceDiv, Int.reduceAdd, Int.reduceNeg, Int.reduceEq, Int.reduceLT, Int.reduceLE] <;> rfl) ((right_ok n es).mono ?_)
    rintro rr hh ⟨rfl, rfl⟩
    refine ⟨rfl, rfl, rfl, ?_⟩
    simp only [go_sem, reduceIte, Nat.reduceEqDiff, Nat.reduceBEq, reduceCtorEq, Nat.reduceLT, Nat.reduceLeDiff, Nat.reduceAdd, Nat.reduceSub, Nat.reduceMul, Nat.reduceDiv, Int.reduceAdd, Int.reduceNeg, Int.reduceEq, Int.reduceLT, Int.reduceLE, hr, ints_len, hd]
    refine hKY _ ?_
    refine wlk_cond1 (by first | rfl | (simp only [go_sem, reduceIte, Nat.reduceEqDiff, Nat.reduceBEq, reduceCtorEq, Nat.reduceLT, Nat.reduceLeDiff, Nat.reduceAdd, Nat.reduceSub, Nat.reduceMul, Nat.reduceDiv, Int.reduceAdd, Int.reduceNeg, Int.reduceEq, Int.reduceLT, Int.reduceLE]; try simp (disch := omega) only [decide_eq_true, decide_eq_false])) ?_
    refine wlk_sreg fun KY hKY => ?_
    simp only [go_sem, reduceIte, Nat.reduceEqDiff, Nat.reduceBEq, reduceCtorEq, Nat.reduceLT, Nat.reduceLeDiff, Nat.reduceAdd, Nat.reduceSub, Nat.reduceMul, Nat.reduceDiv, Int.reduceAdd, Int.reduceNeg, Int.reduceEq, Int.reduceLT, Int.reduceLE, c_mates_Right_r2]
    refine hKY _ ?_
    refine wlk_ret ?_
    repeat (first | refine hr1 _ ?_)
    simp only [go_sem, reduceIte, Nat.reduceEqDiff, Nat.reduceBEq, reduceCtorEq, Nat.reduceLT, Nat.reduceLeDiff, Nat.reduceAdd, Nat.reduceSub, Nat.reduceMul, Nat.reduceDiv, Int.reduceAdd, Int.reduceNeg, Int.reduceEq, Int.reduceLT, Int.reduceLE]
theorem mright_yes {N : Nat} {es : Es} (g : GR N es) (m : List Int) (hl : m.length = N) : ACalls Try.prog [] n_mates_Right [.agg [.sc (.int .i64 (N : Int)), .imm 2 (twos (castE es))], .imm 1 (ints m)] [] fun r h' => r = .sc (.bool ((List.range N).all fun v => mOk es m v)) ∧ h' = [] := by
  refine ACalls.trim ?_
  have hN := g.hn
  have hem := g.hm
  have hr := rightB_GR g
  have hd : decide ((m.length : Int) ≠ (N : Int)) = false := decide_eq_false (by omega)
  have h0 : List.replicate N false = jL N m (es.take 0) := by
    apply List.ext_getElem
    · simp [jL]
    · intro i h1 h2; simp [jL, jAt]
  refine go_mates_Right rfl ?_
  unfold c_mates_Right v_mates_Right
  refine wlk_sreg fun KY hKY => ?_
  simp only [go_sem, reduceIte, Nat.reduceEqDiff, Nat.reduceBEq, reduceCtorEq, Nat.reduceLT, Nat.reduceLeDiff, Nat.reduceAdd, Nat.reduceSub, Nat.reduceMul, Nat.reduceDiv, Int.reduceAdd, Int.reduceNeg, Int.reduceEq, Int.reduceLT, Int.reduceLE, c_mates_Right_r0]
  refine hKY _ ?_
  refine wlk_seq fun X1 hn1 he1 hr1 => ?_
  refine wlk_sreg fun KY hKY => ?_
  simp only [go_sem, reduceIte, Nat.reduceEqDiff, Nat.reduceBEq, reduceCtorEq, Nat.reduceLT, Nat.reduceLeDiff, Nat.reduceAdd, Nat.reduceSub, Nat.reduceMul, Nat.reduceDiv, Int.reduceAdd, Int.reduceNeg, Int.reduceEq, Int.reduceLT, Int.reduceLE, c_mates_Right_r1]
  refine call_view rfl (by simp only [go_sem, reduceIte, Nat.reduceEqDiff, Nat.reduceBEq, reduceCtorEq, Nat.reduceLT, Nat.reduceLeDiff, Nat.reduceAdd, Nat.reduceSub, Nat.reduceMul, Nat.reduceDiv, Int.reduceAdd, Int.reduceNeg, Int.reduceEq, Int.reduceLT, Int.reduceLE] <;> rfl) ((right_ok N (castE es)).mono ?_)
  rintro rr hh ⟨rfl, rfl⟩
  refine ⟨rfl, rfl, rfl, ?_⟩
  simp only [go_sem, reduceIte, Nat.reduceEqDiff, Nat.reduceBEq, reduceCtorEq, Nat.reduceLT, Nat.reduceLeDiff, Nat.reduceAdd, Nat.reduceSub, Nat.reduceMul, Nat.reduceDiv, Int.reduceAdd, Int.reduceNeg, Int.reduceEq, Int.reduceLT, Int.reduceLE, hr, ints_len, hd]
  refine hKY _ ?_
  refine wlk_cond0 (by first | rfl | (simp only [go_sem, reduceIte, Nat.reduceEqDiff, Nat.reduceBEq, reduceCtorEq, Nat.reduceLT, Nat.reduceLeDiff, Nat.reduceAdd, Nat.reduceSub, Nat.reduceMul, Nat.reduceDiv, Int.reduceAdd, Int.reduceNeg, Int.reduceEq, Int.reduceLT, Int.reduceLE]; try simp (disch := omega) only [decide_eq_true, decide_eq_false])) ?_
  refine wlk_skip ?_
  repeat (first | refine hn1 _ ?_ | refine he1 _ _ ?_)
  refine wlk_sreg fun KY hKY => ?_
  simp only [go_sem, reduceIte, Nat.reduceEqDiff, Nat.reduceBEq, reduceCtorEq, Nat.reduceLT, Nat.reduceLeDiff, Nat.reduceAdd, Nat.reduceSub, Nat.reduceMul, Nat.reduceDiv, Int.reduceAdd, Int.reduceNeg, Int.reduceEq, Int.reduceLT, Int.reduceLE, c_mates_Right_r3, (show N ≤ 140737488355328 by omega), (show 1 * N ≤ 140737488355328 by omega), (show (N : Int) ≤ (N : Int) from Int.le_refl _), (show (N : Int) ≤ 9223372036854775807 by omega), h0]
  refine hKY _ ?_
  refine wlk_seq fun X2 hn2 he2 hr2 => ?_
  refine wlk_sreg fun KY hKY => ?_
  simp only [go_sem, reduceIte, Nat.reduceEqDiff, Nat.reduceBEq, reduceCtorEq, Nat.reduceLT, Nat.reduceLeDiff, Nat.reduceAdd, Nat.reduceSub, Nat.reduceMul, Nat.reduceDiv, Int.reduceAdd, Int.reduceNeg, Int.reduceEq, Int.reduceLT, Int.reduceLE, c_mates_Right_r4, twos_len, mul2, castE_len]
  refine hKY _ ?_
  refine wlk_blk fun X3 hn3 he3 hf3 hr3 => ?_
  try simp only [go_sem, reduceIte, Nat.reduceEqDiff, Nat.reduceBEq, reduceCtorEq, Nat.reduceLT, Nat.reduceLeDiff, Nat.reduceAdd, Nat.reduceSub, Nat.reduceMul, Nat.reduceDiv, Int.reduceAdd, Int.reduceNeg, Int.reduceEq, Int.reduceLT, Int.reduceLE]
  refine wlk_lp (α := Nat) [7, 27, 47] (fun k => [(5, .own (some 1) (bools (jL N m (es.take k)))), (26, .sc (.int .i64 (k : Int)))]) (fun k => []) (fun k q => k ≤ es.length ∧ q = es.length - k) (0) (es.length) rfl (by first | (simp only [go_sem, reduceIte, Nat.reduceEqDiff, Nat.reduceBEq, reduceCtorEq, Nat.reduceLT, Nat.reduceLeDiff, Nat.reduceAdd, Nat.reduceSub, Nat.reduceMul, Nat.reduceDiv, Int.reduceAdd, Int.reduceNeg, Int.reduceEq, Int.reduceLT, Int.reduceLE, updAll_cons, updAll_nil]; done) | with_reducible rfl | rfl) (⟨by omega, rfl⟩) ?_
  rintro k q ⟨hk, rfl⟩ X4 hn4 he4 hr4
  simp only [go_sem, reduceIte, Nat.reduceEqDiff, Nat.reduceBEq, reduceCtorEq, Nat.reduceLT, Nat.reduceLeDiff, Nat.reduceAdd, Nat.reduceSub, Nat.reduceMul, Nat.reduceDiv, Int.reduceAdd, Int.reduceNeg, Int.reduceEq, Int.reduceLT, Int.reduceLE, updAll_cons, updAll_nil]
  rcases Nat.lt_or_ge k es.length with hk2 | hk2
  · have hdy : decide ((k : Int) < (es.length : Int)) = true := decide_eq_true (by omega)
    refine wlk_sreg fun KY hKY => ?_
    simp only [go_sem, reduceIte, Nat.reduceEqDiff, Nat.reduceBEq, reduceCtorEq, Nat.reduceLT, Nat.reduceLeDiff, Nat.reduceAdd, Nat.reduceSub, Nat.reduceMul, Nat.reduceDiv, Int.reduceAdd, Int.reduceNeg, Int.reduceEq, Int.reduceLT, Int.reduceLE, c_mates_Right_r5, hdy]
    refine hKY _ ?_
    refine wlk_seq fun X5 hn5 he5 hr5 => ?_
    refine wlk_cond1 (by first | rfl | (simp only [go_sem, reduceIte, Nat.reduceEqDiff, Nat.reduceBEq, reduceCtorEq, Nat.reduceLT, Nat.reduceLeDiff, Nat.reduceAdd, Nat.reduceSub, Nat.reduceMul, Nat.reduceDiv, Int.reduceAdd, Int.reduceNeg, Int.reduceEq, Int.reduceLT, Int.reduceLE]; try simp (disch := omega) only [decide_eq_true, decide_eq_false])) ?_
    refine wlk_skip ?_
    repeat (first | refine hn5 _ ?_ | refine he5 _ _ ?_ | refine he4 _ _ ?_ | refine hn3 _ ?_ | refine he3 _ ?_ | refine hf3 _ _ (by decide) ?_ | refine hn2 _ ?_ | refine he2 _ _ ?_ | refine hn1 _ ?_ | refine he1 _ _ ?_)
    refine wlk_seq fun X6 hn6 he6 hr6 => ?_
    refine wlk_blk fun X7 hn7 he7 hf7 hr7 => ?_
    have hx : es[k]? = some es[k] := List.getElem?_eq_getElem hk2
    have hxm : es[k] ∈ es := List.getElem_mem hk2
    generalize es[k] = x at hx hxm
    obtain ⟨a, b⟩ := x
    have hxc := castE_get hx
    have hok := g.ok (a, b) hxm
    simp only at hok
    have htk : es.take (k + 1) = es.take k ++ [(a, b)] := by rw [List.take_add_one, hx]; rfl
    have haN : a < N := by omega
    have hbN : b < N := hok.2
    refine wlk_sreg fun KY hKY => ?_
    simp only [go_sem, reduceIte, Nat.reduceEqDiff, Nat.reduceBEq, reduceCtorEq, Nat.reduceLT, Nat.reduceLeDiff, Nat.reduceAdd, Nat.reduceSub, Nat.reduceMul, Nat.reduceDiv, Int.reduceAdd, Int.reduceNeg, Int.reduceEq, Int.reduceLT, Int.reduceLE, c_mates_Right_r6, (show k * 2 + 1 < es.length * 2 by omega), (show 1 < es.length * 2 - k * 2 by omega), two_cells hxc, List.length_drop, twos_len, castE_len]
    refine hKY _ ?_
    by_cases h1 : m.getD a 0 = (b : Int)
    · have d1 : decide (m.getD a 0 = (b : Int)) = true := decide_eq_true h1
      by_cases h2 : m.getD b 0 = (a : Int)
      · have d2 : decide (m.getD b 0 = (a : Int)) = true := decide_eq_true h2
        have hst := jL_yes (N := N) m (es.take k) ⟨h1, h2⟩
        rw [← htk] at hst
        refine wlk_sdraw fun KY hKY => ?_
        simp only [go_sem, reduceIte, Nat.reduceEqDiff, Nat.reduceBEq, reduceCtorEq, Nat.reduceLT, Nat.reduceLeDiff, Nat.reduceAdd, Nat.reduceSub, Nat.reduceMul, Nat.reduceDiv, Int.reduceAdd, Int.reduceNeg, Int.reduceEq, Int.reduceLT, Int.reduceLE, c_mates_Right_r7, ints_get (show a < m.length by omega), ints_get (show b < m.length by omega), ints_len, hl, haN, hbN, d1, d2]
        refine hKY _ ?_
        refine wlk_cond1 (by first | rfl | (simp only [go_sem, reduceIte, Nat.reduceEqDiff, Nat.reduceBEq, reduceCtorEq, Nat.reduceLT, Nat.reduceLeDiff, Nat.reduceAdd, Nat.reduceSub, Nat.reduceMul, Nat.reduceDiv, Int.reduceAdd, Int.reduceNeg, Int.reduceEq, Int.reduceLT, Int.reduceLE]; try simp (disch := omega) only [decide_eq_true, decide_eq_false])) ?_
        refine wlk_draw fun KY hKY => ?_
        simp only [go_sem, reduceIte, Nat.reduceEqDiff, Nat.reduceBEq, reduceCtorEq, Nat.reduceLT, Nat.reduceLeDiff, Nat.reduceAdd, Nat.reduceSub, Nat.reduceMul, Nat.reduceDiv, Int.reduceAdd, Int.reduceNeg, Int.reduceEq, Int.reduceLT, Int.reduceLE, c_mates_Right_r8, bools_len, jL_len, haN, hbN, List.length_set, hst, (show ([0, 5] == [0, 7]) = false from rfl), Bool.not_false]
        refine hKY _ ?_
        repeat (first | refine hn7 _ ?_ | refine he7 _ ?_ | refine hf7 _ _ (by decide) ?_ | refine hn6 _ ?_ | refine he6 _ _ ?_ | refine hn5 _ ?_ | refine he5 _ _ ?_ | refine he4 _ _ ?_ | refine hn3 _ ?_ | refine he3 _ ?_ | refine hf3 _ _ (by decide) ?_ | refine hn2 _ ?_ | refine he2 _ _ ?_ | refine hn1 _ ?_ | refine he1 _ _ ?_)
        refine wlk_reg fun KY hKY => ?_
        simp only [go_sem, reduceIte, Nat.reduceEqDiff, Nat.reduceBEq, reduceCtorEq, Nat.reduceLT, Nat.reduceLeDiff, Nat.reduceAdd, Nat.reduceSub, Nat.reduceMul, Nat.reduceDiv, Int.reduceAdd, Int.reduceNeg, Int.reduceEq, Int.reduceLT, Int.reduceLE, c_mates_Right_r9, incS (show k < 4611686018427387904 by omega)]
        refine hKY _ ?_
        repeat (first | refine hn7 _ ?_ | refine he7 _ ?_ | refine hf7 _ _ (by decide) ?_ | refine hn6 _ ?_ | refine he6 _ _ ?_ | refine hn5 _ ?_ | refine he5 _ _ ?_)
        refine hn4 _ (k + 1) (es.length - (k + 1)) (by omega) (by first | (simp only [go_sem, reduceIte, Nat.reduceEqDiff, Nat.reduceBEq, reduceCtorEq, Nat.reduceLT, Nat.reduceLeDiff, Nat.reduceAdd, Nat.reduceSub, Nat.reduceMul, Nat.reduceDiv, Int.reduceAdd, Int.reduceNeg, Int.reduceEq, Int.reduceLT, Int.reduceLE, updAll_cons, updAll_nil]; done) | with_reducible rfl) ?_
        exact ⟨hk2, rfl⟩
      · have d2 : decide (m.getD b 0 = (a : Int)) = false := decide_eq_false h2
        have hst := jL_no (N := N) m (es.take k) (a := a) (b := b) fun h => h2 h.2
        rw [← htk] at hst
        refine wlk_sdraw fun KY hKY => ?_
        simp only [go_sem, reduceIte, Nat.reduceEqDiff, Nat.reduceBEq, reduceCtorEq, Nat.reduceLT, Nat.reduceLeDiff, Nat.reduceAdd, Nat.reduceSub, Nat.reduceMul, Nat.reduceDiv, Int.reduceAdd, Int.reduceNeg, Int.reduceEq, Int.reduceLT, Int.reduceLE, c_mates_Right_r7, ints_get (show a < m.length by omega), ints_get (show b < m.length by omega), ints_len, hl, haN, hbN, d1, d2]
        refine hKY _ ?_
        refine wlk_cond0 (by first | rfl | (simp only [go_sem, reduceIte, Nat.reduceEqDiff, Nat.reduceBEq, reduceCtorEq, Nat.reduceLT, Nat.reduceLeDiff, Nat.reduceAdd, Nat.reduceSub, Nat.reduceMul, Nat.reduceDiv, Int.reduceAdd, Int.reduceNeg, Int.reduceEq, Int.reduceLT, Int.reduceLE]; try simp (disch := omega) only [decide_eq_true, decide_eq_false])) ?_
        refine wlk_skip ?_
        repeat (first | refine hn7 _ ?_ | refine he7 _ ?_ | refine hf7 _ _ (by decide) ?_ | refine hn6 _ ?_ | refine he6 _ _ ?_ | refine hn5 _ ?_ | refine he5 _ _ ?_ | refine he4 _ _ ?_ | refine hn3 _ ?_ | refine he3 _ ?_ | refine hf3 _ _ (by decide) ?_ | refine hn2 _ ?_ | refine he2 _ _ ?_ | refine hn1 _ ?_ | refine he1 _ _ ?_)
        refine wlk_reg fun KY hKY => ?_
        simp only [go_sem, reduceIte, Nat.reduceEqDiff, Nat.reduceBEq, reduceCtorEq, Nat.reduceLT, Nat.reduceLeDiff, Nat.reduceAdd, Nat.reduceSub, Nat.reduceMul, Nat.reduceDiv, Int.reduceAdd, Int.reduceNeg, Int.reduceEq, Int.reduceLT, Int.reduceLE, c_mates_Right_r9, incS (show k < 4611686018427387904 by omega)]
        refine hKY _ ?_
        repeat (first | refine hn7 _ ?_ | refine he7 _ ?_ | refine hf7 _ _ (by decide) ?_ | refine hn6 _ ?_ | refine he6 _ _ ?_ | refine hn5 _ ?_ | refine he5 _ _ ?_)
        refine hn4 _ (k + 1) (es.length - (k + 1)) (by omega) (by first | (simp only [go_sem, reduceIte, Nat.reduceEqDiff, Nat.reduceBEq, reduceCtorEq, Nat.reduceLT, Nat.reduceLeDiff, Nat.reduceAdd, Nat.reduceSub, Nat.reduceMul, Nat.reduceDiv, Int.reduceAdd, Int.reduceNeg, Int.reduceEq, Int.reduceLT, Int.reduceLE, updAll_cons, updAll_nil, hst]; done) | with_reducible rfl) ?_
        exact ⟨hk2, rfl⟩
    · have d1 : decide (m.getD a 0 = (b : Int)) = false := decide_eq_false h1
      have hst := jL_no (N := N) m (es.take k) (a := a) (b := b) fun h => h1 h.1
      rw [← htk] at hst
      refine wlk_sdraw fun KY hKY => ?_
      simp only [go_sem, reduceIte, Nat.reduceEqDiff, Nat.reduceBEq, reduceCtorEq, Nat.reduceLT, Nat.reduceLeDiff, Nat.reduceAdd, Nat.reduceSub, Nat.reduceMul, Nat.reduceDiv, Int.reduceAdd, Int.reduceNeg, Int.reduceEq, Int.reduceLT, Int.reduceLE, c_mates_Right_r7, ints_get (show a < m.length by omega), ints_len, hl, haN, hbN, d1]
      refine hKY _ ?_
      refine wlk_cond0 (by first | rfl | (simp only [go_sem, reduceIte, Nat.reduceEqDiff, Nat.reduceBEq, reduceCtorEq, Nat.reduceLT, Nat.reduceLeDiff, Nat.reduceAdd, Nat.reduceSub, Nat.reduceMul, Nat.reduceDiv, Int.reduceAdd, Int.reduceNeg, Int.reduceEq, Int.reduceLT, Int.reduceLE]; try simp (disch := omega) only [decide_eq_true, decide_eq_false])) ?_
      refine wlk_skip ?_
      repeat (first | refine hn7 _ ?_ | refine he7 _ ?_ | refine hf7 _ _ (by decide) ?_ | refine hn6 _ ?_ | refine he6 _ _ ?_ | refine hn5 _ ?_ | refine he5 _ _ ?_ | refine he4 _ _ ?_ | refine hn3 _ ?_ | refine he3 _ ?_ | refine hf3 _ _ (by decide) ?_ | refine hn2 _ ?_ | refine he2 _ _ ?_ | refine hn1 _ ?_ | refine he1 _ _ ?_)
      refine wlk_reg fun KY hKY => ?_
      simp only [go_sem, reduceIte, Nat.reduceEqDiff, Nat.reduceBEq, reduceCtorEq, Nat.reduceLT, Nat.reduceLeDiff, Nat.reduceAdd, Nat.reduceSub, Nat.reduceMul, Nat.reduceDiv, Int.reduceAdd, Int.reduceNeg, Int.reduceEq, Int.reduceLT, Int.reduceLE, c_mates_Right_r9, incS (show k < 4611686018427387904 by omega)]
      refine hKY _ ?_
      repeat (first | refine hn7 _ ?_ | refine he7 _ ?_ | refine hf7 _ _ (by decide) ?_ | refine hn6 _ ?_ | refine he6 _ _ ?_ | refine hn5 _ ?_ | refine he5 _ _ ?_)
      refine hn4 _ (k + 1) (es.length - (k + 1)) (by omega) (by first | (simp only [go_sem, reduceIte, Nat.reduceEqDiff, Nat.reduceBEq, reduceCtorEq, Nat.reduceLT, Nat.reduceLeDiff, Nat.reduceAdd, Nat.reduceSub, Nat.reduceMul, Nat.reduceDiv, Int.reduceAdd, Int.reduceNeg, Int.reduceEq, Int.reduceLT, Int.reduceLE, updAll_cons, updAll_nil, hst]; done) | with_reducible rfl) ?_
      exact ⟨hk2, rfl⟩
  have hdx : decide ((k : Int) < (es.length : Int)) = false := decide_eq_false (by omega)
  refine wlk_sreg fun KY hKY => ?_
  simp only [go_sem, reduceIte, Nat.reduceEqDiff, Nat.reduceBEq, reduceCtorEq, Nat.reduceLT, Nat.reduceLeDiff, Nat.reduceAdd, Nat.reduceSub, Nat.reduceMul, Nat.reduceDiv, Int.reduceAdd, Int.reduceNeg, Int.reduceEq, Int.reduceLT, Int.reduceLE, c_mates_Right_r5, hdx]
  refine hKY _ ?_
  refine wlk_seq fun X8 hn8 he8 hr8 => ?_
  refine wlk_cond0 (by first | rfl | (simp only [go_sem, reduceIte, Nat.reduceEqDiff, Nat.reduceBEq, reduceCtorEq, Nat.reduceLT, Nat.reduceLeDiff, Nat.reduceAdd, Nat.reduceSub, Nat.reduceMul, Nat.reduceDiv, Int.reduceAdd, Int.reduceNeg, Int.reduceEq, Int.reduceLT, Int.reduceLE]; try simp (disch := omega) only [decide_eq_true, decide_eq_false])) ?_
  refine wlk_exit ?_
  repeat (first | refine hn8 _ ?_ | refine he8 _ _ ?_ | refine he4 _ _ ?_ | refine hn3 _ ?_ | refine he3 _ ?_ | refine hf3 _ _ (by decide) ?_ | refine hn2 _ ?_ | refine he2 _ _ ?_ | refine hn1 _ ?_ | refine he1 _ _ ?_)
  obtain rfl : k = es.length := by omega
  rw [List.take_length]
  refine wlk_seq fun X9 hn9 he9 hr9 => ?_
  refine wlk_sreg fun KY hKY => ?_
  simp only [go_sem, reduceIte, Nat.reduceEqDiff, Nat.reduceBEq, reduceCtorEq, Nat.reduceLT, Nat.reduceLeDiff, Nat.reduceAdd, Nat.reduceSub, Nat.reduceMul, Nat.reduceDiv, Int.reduceAdd, Int.reduceNeg, Int.reduceEq, Int.reduceLT, Int.reduceLE, c_mates_Right_r10, ints_len, hl]
  refine hKY _ ?_
  refine wlk_blk fun X10 hn10 he10 hf10 hr10 => ?_
  try simp only [go_sem, reduceIte, Nat.reduceEqDiff, Nat.reduceBEq, reduceCtorEq, Nat.reduceLT, Nat.reduceLeDiff, Nat.reduceAdd, Nat.reduceSub, Nat.reduceMul, Nat.reduceDiv, Int.reduceAdd, Int.reduceNeg, Int.reduceEq, Int.reduceLT, Int.reduceLE]
  refine wlk_lp (α := Nat) [8, 9, 60, 72] (fun v => [(59, .sc (.int .i64 (v : Int)))]) (fun v => []) (fun v q => v ≤ N ∧ q = N - v ∧ (∀ u, u < v → mOk es m u = true)) (0) (N) rfl (by first | (simp only [go_sem, reduceIte, Nat.reduceEqDiff, Nat.reduceBEq, reduceCtorEq, Nat.reduceLT, Nat.reduceLeDiff, Nat.reduceAdd, Nat.reduceSub, Nat.reduceMul, Nat.reduceDiv, Int.reduceAdd, Int.reduceNeg, Int.reduceEq, Int.reduceLT, Int.reduceLE, updAll_cons, updAll_nil]; done) | with_reducible rfl | rfl) (⟨by omega, rfl, fun v h => by omega⟩) ?_
  rintro v q ⟨hv, rfl, hz⟩ X11 hn11 he11 hr11
  simp only [go_sem, reduceIte, Nat.reduceEqDiff, Nat.reduceBEq, reduceCtorEq, Nat.reduceLT, Nat.reduceLeDiff, Nat.reduceAdd, Nat.reduceSub, Nat.reduceMul, Nat.reduceDiv, Int.reduceAdd, Int.reduceNeg, Int.reduceEq, Int.reduceLT, Int.reduceLE, updAll_cons, updAll_nil]
  rcases Nat.lt_or_ge v N with hv2 | hv2
  · have hdy : decide ((v : Int) < (N : Int)) = true := decide_eq_true (by omega)
    refine wlk_sreg fun KY hKY => ?_
    simp only [go_sem, reduceIte, Nat.reduceEqDiff, Nat.reduceBEq, reduceCtorEq, Nat.reduceLT, Nat.reduceLeDiff, Nat.reduceAdd, Nat.reduceSub, Nat.reduceMul, Nat.reduceDiv, Int.reduceAdd, Int.reduceNeg, Int.reduceEq, Int.reduceLT, Int.reduceLE, c_mates_Right_r11, hdy]
    refine hKY _ ?_
    refine wlk_seq fun X12 hn12 he12 hr12 => ?_
    refine wlk_cond1 (by first | rfl | (simp only [go_sem, reduceIte, Nat.reduceEqDiff, Nat.reduceBEq, reduceCtorEq, Nat.reduceLT, Nat.reduceLeDiff, Nat.reduceAdd, Nat.reduceSub, Nat.reduceMul, Nat.reduceDiv, Int.reduceAdd, Int.reduceNeg, Int.reduceEq, Int.reduceLT, Int.reduceLE]; try simp (disch := omega) only [decide_eq_true, decide_eq_false])) ?_
    refine wlk_skip ?_
    repeat (first | refine hn12 _ ?_ | refine he12 _ _ ?_ | refine he11 _ _ ?_ | refine hn10 _ ?_ | refine he10 _ ?_ | refine hf10 _ _ (by decide) ?_ | refine hn9 _ ?_ | refine he9 _ _ ?_ | refine hn8 _ ?_ | refine he8 _ _ ?_)
    refine wlk_seq fun X13 hn13 he13 hr13 => ?_
    refine wlk_blk fun X14 hn14 he14 hf14 hr14 => ?_
    refine wlk_sreg fun KY hKY => ?_
    simp only [go_sem, reduceIte, Nat.reduceEqDiff, Nat.reduceBEq, reduceCtorEq, Nat.reduceLT, Nat.reduceLeDiff, Nat.reduceAdd, Nat.reduceSub, Nat.reduceMul, Nat.reduceDiv, Int.reduceAdd, Int.reduceNeg, Int.reduceEq, Int.reduceLT, Int.reduceLE, c_mates_Right_r12, ints_get (show v < m.length by omega), ints_len, hl, hv2]
    refine hKY _ ?_
    by_cases hw : m.getD v 0 = -1
    · have d1 : decide (m.getD v 0 ≠ -1) = false := decide_eq_false fun h => h hw
      have hok : mOk es m v = true := by unfold mOk; rw [decide_eq_true hw]; rfl
      refine wlk_sreg fun KY hKY => ?_
      simp only [go_sem, reduceIte, Nat.reduceEqDiff, Nat.reduceBEq, reduceCtorEq, Nat.reduceLT, Nat.reduceLeDiff, Nat.reduceAdd, Nat.reduceSub, Nat.reduceMul, Nat.reduceDiv, Int.reduceAdd, Int.reduceNeg, Int.reduceEq, Int.reduceLT, Int.reduceLE, c_mates_Right_r13, d1]
      refine hKY _ ?_
      refine wlk_cond0 (by first | rfl | (simp only [go_sem, reduceIte, Nat.reduceEqDiff, Nat.reduceBEq, reduceCtorEq, Nat.reduceLT, Nat.reduceLeDiff, Nat.reduceAdd, Nat.reduceSub, Nat.reduceMul, Nat.reduceDiv, Int.reduceAdd, Int.reduceNeg, Int.reduceEq, Int.reduceLT, Int.reduceLE]; try simp (disch := omega) only [decide_eq_true, decide_eq_false])) ?_
      refine wlk_skip ?_
      repeat (first | refine hn14 _ ?_ | refine he14 _ ?_ | refine hf14 _ _ (by decide) ?_ | refine hn13 _ ?_ | refine he13 _ _ ?_ | refine hn12 _ ?_ | refine he12 _ _ ?_ | refine he11 _ _ ?_ | refine hn10 _ ?_ | refine he10 _ ?_ | refine hf10 _ _ (by decide) ?_ | refine hn9 _ ?_ | refine he9 _ _ ?_ | refine hn8 _ ?_ | refine he8 _ _ ?_)
      refine wlk_reg fun KY hKY => ?_
      simp only [go_sem, reduceIte, Nat.reduceEqDiff, Nat.reduceBEq, reduceCtorEq, Nat.reduceLT, Nat.reduceLeDiff, Nat.reduceAdd, Nat.reduceSub, Nat.reduceMul, Nat.reduceDiv, Int.reduceAdd, Int.reduceNeg, Int.reduceEq, Int.reduceLT, Int.reduceLE, c_mates_Right_r15, incS (show v < 4611686018427387904 by omega)]
      refine hKY _ ?_
      repeat (first | refine hn14 _ ?_ | refine he14 _ ?_ | refine hf14 _ _ (by decide) ?_ | refine hn13 _ ?_ | refine he13 _ _ ?_ | refine hn12 _ ?_ | refine he12 _ _ ?_)
      refine hn11 _ (v + 1) (N - (v + 1)) (by omega) (by first | (simp only [go_sem, reduceIte, Nat.reduceEqDiff, Nat.reduceBEq, reduceCtorEq, Nat.reduceLT, Nat.reduceLeDiff, Nat.reduceAdd, Nat.reduceSub, Nat.reduceMul, Nat.reduceDiv, Int.reduceAdd, Int.reduceNeg, Int.reduceEq, Int.reduceLT, Int.reduceLE, updAll_cons, updAll_nil]; done) | with_reducible rfl) ?_
      refine ⟨hv2, rfl, fun u hu => ?_⟩
      rcases Nat.lt_or_ge u v with h3 | h3
      · exact hz u h3
      · obtain rfl : u = v := by omega
        exact hok
    · have d1 : decide (m.getD v 0 ≠ -1) = true := decide_eq_true hw
      have hj := jAt_ok g m hw
      have hjl := jL_len N m es
      have hg := bools_get (show v < (jL N m es).length by omega)
      rw [jL_get m es hv2, hj] at hg
      cases hok : mOk es m v with
      | true =>
        rw [hok] at hg
        refine wlk_sreg fun KY hKY => ?_
        simp only [go_sem, reduceIte, Nat.reduceEqDiff, Nat.reduceBEq, reduceCtorEq, Nat.reduceLT, Nat.reduceLeDiff, Nat.reduceAdd, Nat.reduceSub, Nat.reduceMul, Nat.reduceDiv, Int.reduceAdd, Int.reduceNeg, Int.reduceEq, Int.reduceLT, Int.reduceLE, c_mates_Right_r13, d1, hg, bools_len, hjl, hv2]
        refine hKY _ ?_
        refine wlk_cond0 (by first | rfl | (simp only [go_sem, reduceIte, Nat.reduceEqDiff, Nat.reduceBEq, reduceCtorEq, Nat.reduceLT, Nat.reduceLeDiff, Nat.reduceAdd, Nat.reduceSub, Nat.reduceMul, Nat.reduceDiv, Int.reduceAdd, Int.reduceNeg, Int.reduceEq, Int.reduceLT, Int.reduceLE]; try simp (disch := omega) only [decide_eq_true, decide_eq_false])) ?_
        refine wlk_skip ?_
        repeat (first | refine hn14 _ ?_ | refine he14 _ ?_ | refine hf14 _ _ (by decide) ?_ | refine hn13 _ ?_ | refine he13 _ _ ?_ | refine hn12 _ ?_ | refine he12 _ _ ?_ | refine he11 _ _ ?_ | refine hn10 _ ?_ | refine he10 _ ?_ | refine hf10 _ _ (by decide) ?_ | refine hn9 _ ?_ | refine he9 _ _ ?_ | refine hn8 _ ?_ | refine he8 _ _ ?_)
        refine wlk_reg fun KY hKY => ?_
        simp only [go_sem, reduceIte, Nat.reduceEqDiff, Nat.reduceBEq, reduceCtorEq, Nat.reduceLT, Nat.reduceLeDiff, Nat.reduceAdd, Nat.reduceSub, Nat.reduceMul, Nat.reduceDiv, Int.reduceAdd, Int.reduceNeg, Int.reduceEq, Int.reduceLT, Int.reduceLE, c_mates_Right_r15, incS (show v < 4611686018427387904 by omega)]
        refine hKY _ ?_
        repeat (first | refine hn14 _ ?_ | refine he14 _ ?_ | refine hf14 _ _ (by decide) ?_ | refine hn13 _ ?_ | refine he13 _ _ ?_ | refine hn12 _ ?_ | refine he12 _ _ ?_)
        refine hn11 _ (v + 1) (N - (v + 1)) (by omega) (by first | (simp only [go_sem, reduceIte, Nat.reduceEqDiff, Nat.reduceBEq, reduceCtorEq, Nat.reduceLT, Nat.reduceLeDiff, Nat.reduceAdd, Nat.reduceSub, Nat.reduceMul, Nat.reduceDiv, Int.reduceAdd, Int.reduceNeg, Int.reduceEq, Int.reduceLT, Int.reduceLE, updAll_cons, updAll_nil]; done) | with_reducible rfl) ?_
        refine ⟨hv2, rfl, fun u hu => ?_⟩
        rcases Nat.lt_or_ge u v with h3 | h3
        · exact hz u h3
        · obtain rfl : u = v := by omega
          exact hok
      | false =>
        rw [hok] at hg
        refine wlk_sreg fun KY hKY => ?_
        simp only [go_sem, reduceIte, Nat.reduceEqDiff, Nat.reduceBEq, reduceCtorEq, Nat.reduceLT, Nat.reduceLeDiff, Nat.reduceAdd, Nat.reduceSub, Nat.reduceMul, Nat.reduceDiv, Int.reduceAdd, Int.reduceNeg, Int.reduceEq, Int.reduceLT, Int.reduceLE, c_mates_Right_r13, d1, hg, bools_len, hjl, hv2]
        refine hKY _ ?_
        refine wlk_cond1 (by first | rfl | (simp only [go_sem, reduceIte, Nat.reduceEqDiff, Nat.reduceBEq, reduceCtorEq, Nat.reduceLT, Nat.reduceLeDiff, Nat.reduceAdd, Nat.reduceSub, Nat.reduceMul, Nat.reduceDiv, Int.reduceAdd, Int.reduceNeg, Int.reduceEq, Int.reduceLT, Int.reduceLE]; try simp (disch := omega) only [decide_eq_true, decide_eq_false])) ?_
        refine wlk_sreg fun KY hKY => ?_
        simp only [go_sem, reduceIte, Nat.reduceEqDiff, Nat.reduceBEq, reduceCtorEq, Nat.reduceLT, Nat.reduceLeDiff, Nat.reduceAdd, Nat.reduceSub, Nat.reduceMul, Nat.reduceDiv, Int.reduceAdd, Int.reduceNeg, Int.reduceEq, Int.reduceLT, Int.reduceLE, c_mates_Right_r14]
        refine hKY _ ?_
        refine wlk_ret ?_
        repeat (first | refine hr14 _ ?_ | refine hr13 _ ?_ | refine hr12 _ ?_ | refine hr11 _ ?_ | refine hr10 _ ?_ | refine hr9 _ ?_ | refine hr8 _ ?_ | refine hr4 _ ?_ | refine hr3 _ ?_ | refine hr2 _ ?_ | refine hr1 _ ?_)
        simp only [go_sem, reduceIte, Nat.reduceEqDiff, Nat.reduceBEq, reduceCtorEq, Nat.reduceLT, Nat.reduceLeDiff, Nat.reduceAdd, Nat.reduceSub, Nat.reduceMul, Nat.reduceDiv, Int.reduceAdd, Int.reduceNeg, Int.reduceEq, Int.reduceLT, Int.reduceLE]
        rw [all_no hv2 hok]
  have hdz : decide ((v : Int) < (N : Int)) = false := decide_eq_false (by omega)
  refine wlk_sreg fun KY hKY => ?_
  simp only [go_sem, reduceIte, Nat.reduceEqDiff, Nat.reduceBEq, reduceCtorEq, Nat.reduceLT, Nat.reduceLeDiff, Nat.reduceAdd, Nat.reduceSub, Nat.reduceMul, Nat.reduceDiv, Int.reduceAdd, Int.reduceNeg, Int.reduceEq, Int.reduceLT, Int.reduceLE, c_mates_Right_r11, hdz]
  refine hKY _ ?_
  refine wlk_seq fun X15 hn15 he15 hr15 => ?_
  refine wlk_cond0 (by first | rfl | (simp only [go_sem, reduceIte, Nat.reduceEqDiff, Nat.reduceBEq, reduceCtorEq, Nat.reduceLT, Nat.reduceLeDiff, Nat.reduceAdd, Nat.reduceSub, Nat.reduceMul, Nat.reduceDiv, Int.reduceAdd, Int.reduceNeg, Int.reduceEq, Int.reduceLT, Int.reduceLE]; try simp (disch := omega) only [decide_eq_true, decide_eq_false])) ?_
  refine wlk_exit ?_
  repeat (first | refine hn15 _ ?_ | refine he15 _ _ ?_ | refine he11 _ _ ?_ | refine hn10 _ ?_ | refine he10 _ ?_ | refine hf10 _ _ (by decide) ?_ | refine hn9 _ ?_ | refine he9 _ _ ?_ | refine hn8 _ ?_ | refine he8 _ _ ?_ | refine he4 _ _ ?_ | refine hn3 _ ?_ | refine he3 _ ?_ | refine hf3 _ _ (by decide) ?_ | refine hn2 _ ?_ | refine he2 _ _ ?_ | refine hn1 _ ?_ | refine he1 _ _ ?_)
  obtain rfl : v = N := by omega
  refine wlk_sreg fun KY hKY => ?_
  simp only [go_sem, reduceIte, Nat.reduceEqDiff, Nat.reduceBEq, reduceCtorEq, Nat.reduceLT, Nat.reduceLeDiff, Nat.reduceAdd, Nat.reduceSub, Nat.reduceMul, Nat.reduceDiv, Int.reduceAdd, Int.reduceNeg, Int.reduceEq, Int.reduceLT, Int.reduceLE, c_mates_Right_r16]
  refine hKY _ ?_
  refine wlk_ret ?_
  repeat (first | refine hr15 _ ?_ | refine hr11 _ ?_ | refine hr10 _ ?_ | refine hr9 _ ?_ | refine hr8 _ ?_ | refine hr4 _ ?_ | refine hr3 _ ?_ | refine hr2 _ ?_ | refine hr1 _ ?_)
  simp only [go_sem, reduceIte, Nat.reduceEqDiff, Nat.reduceBEq, reduceCtorEq, Nat.reduceLT, Nat.reduceLeDiff, Nat.reduceAdd, Nat.reduceSub, Nat.reduceMul, Nat.reduceDiv, Int.reduceAdd, Int.reduceNeg, Int.reduceEq, Int.reduceLT, Int.reduceLE]
  rw [show ((List.range v).all fun v => mOk es m v) = true from List.all_eq_true.2 fun u hu => hz u (List.mem_range.1 hu)]
end Go.Proofs.Ytijcjnlbphienaa
set_option maxRecDepth 100000
set_option maxHeartbeats 4000000
namespace Go.Proofs.Ytijcjnlbphienaa
open Go Go.Ga Go.Ga.Gl
def pairB (l : List Int) (v : Nat) : Bool := decide (0 ≤ l.getD v 0) && (decide (l.getD v 0 < l.length) && (decide (l.getD v 0 ≠ (v : Int)) && decide (l.getD (l.getD v 0).toNat 0 = (v : Int))))
def upP (l : List Int) (v : Nat) : Bool := decide ((v : Int) < l.getD v 0) && (decide (l.getD v 0 < l.length) && decide (l.getD (l.getD v 0).toNat 0 = (v : Int)))
theorem pair_up {l : List Int} {v : Nat} : pairB l v = true ↔ ∃ w : Nat, l.getD v 0 = w ∧ w < l.length ∧ w ≠ v ∧ l.getD w 0 = v := by
  unfold pairB
  simp only [Bool.and_eq_true, decide_eq_true_eq]
  refine ⟨fun ⟨h1, h2, h3, h4⟩ => ⟨(l.getD v 0).toNat, by omega, by omega, by omega, h4⟩, fun ⟨w, h1, h2, h3, h4⟩ => ?_⟩
  rw [h1, Int.toNat_natCast]
  exact ⟨by omega, by omega, by omega, h4⟩
theorem up_up {l : List Int} {v : Nat} : upP l v = true ↔ ∃ w : Nat, l.getD v 0 = w ∧ w < l.length ∧ v < w ∧ l.getD w 0 = v := by
  unfold upP
  simp only [Bool.and_eq_true, decide_eq_true_eq]
  refine ⟨fun ⟨h1, h2, h4⟩ => ⟨(l.getD v 0).toNat, by omega, by omega, by omega, h4⟩, fun ⟨w, h1, h2, h3, h4⟩ => ?_⟩
  rw [h1, Int.toNat_natCast]
  exact ⟨by omega, by omega, h4⟩
theorem pair_count (l : List Int) : ((List.range l.length).filter (pairB l)).length = 2 * ((List.range l.length).filter (upP l)).length := by
  have hp : ((List.range l.length).filter (pairB l)).Perm ((List.range l.length).filter (upP l) ++ ((List.range l.length).filter (upP l)).map fun v => (l.getD v 0).toNat) := by
    refine (List.perm_ext_iff_of_nodup (List.nodup_range.filter _) ?_).2 fun v => ?_
    · refine List.nodup_append.2 ⟨List.nodup_range.filter _, ?_, ?_⟩
      · refine List.pairwise_map.2 ((List.nodup_range (n := l.length)).filter (upP l) |>.imp_of_mem ?_)
        intro a b ha hb hne he
        obtain ⟨w, h1, _, _, h4⟩ := up_up.1 (List.mem_filter.1 ha).2
        obtain ⟨u, g1, _, _, g4⟩ := up_up.1 (List.mem_filter.1 hb).2
        rw [h1, g1, Int.toNat_natCast, Int.toNat_natCast] at he
        subst he; omega
      · intro a ha b hb hab
        subst hab
        obtain ⟨w, h1, _, h3, h4⟩ := up_up.1 (List.mem_filter.1 ha).2
        obtain ⟨u, hu, rfl⟩ := List.mem_map.1 hb
        obtain ⟨x, g1, _, g3, g4⟩ := up_up.1 (List.mem_filter.1 hu).2
        simp only [g1, Int.toNat_natCast] at h1 h3 h4
        omega
    · rw [List.mem_append, List.mem_filter, List.mem_filter, List.mem_map, List.mem_range, pair_up, up_up]
      constructor
      · rintro ⟨hv, w, h1, h2, h3, h4⟩
        rcases Nat.lt_or_ge v w with h | h
        · exact .inl ⟨hv, w, h1, h2, h, h4⟩
        · refine .inr ⟨w, List.mem_filter.2 ⟨List.mem_range.2 h2, up_up.2 ⟨v, h4, hv, by omega, h1⟩⟩, by rw [h4]; rfl⟩
      · rintro (⟨hv, w, h1, h2, h3, h4⟩ | ⟨u, hu, rfl⟩)
        · exact ⟨hv, w, h1, h2, by omega, h4⟩
        · obtain ⟨hu1, hu2⟩ := List.mem_filter.1 hu
          obtain ⟨x, g1, g2, g3, g4⟩ := up_up.1 hu2
          rw [g1, Int.toNat_natCast]
          exact ⟨g2, u, g4, List.mem_range.1 hu1, by omega, g1⟩
  rw [hp.length_eq, List.length_append, List.length_map]; omega
theorem paired_ok (l : List Int) {v : Nat} (hv : v < l.length) : ACalls Try.prog [] n_mates_list_paired [.imm 1 (ints l), .sc (.int .i64 (v : Int))] [] fun r h' => r = .sc (.bool (pairB l v)) ∧ h' = [] := by
  refine go_mates_list_paired rfl ?_
  unfold c_mates_list_paired v_mates_list_paired
  refine wlk_sreg fun KY hKY => ?_
  simp only [go_sem, reduceIte, Nat.reduceEqDiff, Nat.reduceBEq, reduceCtorEq, Nat.reduceLT, Nat.reduceLeDiff, Nat.reduceAdd, Nat.reduceSub, Nat.reduceMul, Nat.reduceDiv, Int.reduceAdd, Int.reduceNeg, Int.reduceEq, Int.reduceLT, Int.reduceLE, c_mates_list_paired_r0]
  refine hKY _ ?_
  refine wlk_sreg fun KY hKY => ?_
  simp only [go_sem, reduceIte, Nat.reduceEqDiff, Nat.reduceBEq, reduceCtorEq, Nat.reduceLT, Nat.reduceLeDiff, Nat.reduceAdd, Nat.reduceSub, Nat.reduceMul, Nat.reduceDiv, Int.reduceAdd, Int.reduceNeg, Int.reduceEq, Int.reduceLT, Int.reduceLE, c_mates_list_paired_r1, ints_get hv, hv, ints_len]
  refine hKY _ ?_
  unfold pairB
  by_cases h1 : 0 ≤ l.getD v 0
  · have d1 : decide (0 ≤ l.getD v 0) = true := decide_eq_true h1
    by_cases h2 : l.getD v 0 < l.length
    · have d2 : decide (l.getD v 0 < (l.length : Int)) = true := decide_eq_true h2
      by_cases h3 : l.getD v 0 = (v : Int)
      · have d3 : decide (l.getD v 0 ≠ (v : Int)) = false := decide_eq_false fun h => h h3
        refine wlk_sreg fun KY hKY => ?_
        simp only [go_sem, reduceIte, Nat.reduceEqDiff, Nat.reduceBEq, reduceCtorEq, Nat.reduceLT, Nat.reduceLeDiff, Nat.reduceAdd, Nat.reduceSub, Nat.reduceMul, Nat.reduceDiv, Int.reduceAdd, Int.reduceNeg, Int.reduceEq, Int.reduceLT, Int.reduceLE, c_mates_list_paired_r2, d1, d2, d3, ints_len]
        refine hKY _ ?_
        refine wlk_ret ?_
        simp only [go_sem, reduceIte, Nat.reduceEqDiff, Nat.reduceBEq, reduceCtorEq, Nat.reduceLT, Nat.reduceLeDiff, Nat.reduceAdd, Nat.reduceSub, Nat.reduceMul, Nat.reduceDiv, Int.reduceAdd, Int.reduceNeg, Int.reduceEq, Int.reduceLT, Int.reduceLE]
        rw [d1, d2, d3]; rfl
      · have d3 : decide (l.getD v 0 ≠ (v : Int)) = true := decide_eq_true h3
        obtain ⟨w, hw⟩ : ∃ w : Nat, l.getD v 0 = w := ⟨(l.getD v 0).toNat, by omega⟩
        have hwl : w < l.length := by omega
        have hgw : l.getD (l.getD v 0).toNat 0 = l.getD w 0 := by rw [hw]; rfl
        rw [d1, d2, d3, hgw]
        rw [hw] at d1 d2 d3
        simp only [hw]
        refine wlk_sreg fun KY hKY => ?_
        simp only [go_sem, reduceIte, Nat.reduceEqDiff, Nat.reduceBEq, reduceCtorEq, Nat.reduceLT, Nat.reduceLeDiff, Nat.reduceAdd, Nat.reduceSub, Nat.reduceMul, Nat.reduceDiv, Int.reduceAdd, Int.reduceNeg, Int.reduceEq, Int.reduceLT, Int.reduceLE, c_mates_list_paired_r2, d1, d2, d3, ints_len, ints_get hwl, hwl]
        refine hKY _ ?_
        refine wlk_ret ?_
        simp only [go_sem, reduceIte, Nat.reduceEqDiff, Nat.reduceBEq, reduceCtorEq, Nat.reduceLT, Nat.reduceLeDiff, Nat.reduceAdd, Nat.reduceSub, Nat.reduceMul, Nat.reduceDiv, Int.reduceAdd, Int.reduceNeg, Int.reduceEq, Int.reduceLT, Int.reduceLE]
    · have d2 : decide (l.getD v 0 < (l.length : Int)) = false := decide_eq_false h2
      refine wlk_sreg fun KY hKY => ?_
      simp only [go_sem, reduceIte, Nat.reduceEqDiff, Nat.reduceBEq, reduceCtorEq, Nat.reduceLT, Nat.reduceLeDiff, Nat.reduceAdd, Nat.reduceSub, Nat.reduceMul, Nat.reduceDiv, Int.reduceAdd, Int.reduceNeg, Int.reduceEq, Int.reduceLT, Int.reduceLE, c_mates_list_paired_r2, d1, d2, ints_len]
      refine hKY _ ?_
      refine wlk_ret ?_
      simp only [go_sem, reduceIte, Nat.reduceEqDiff, Nat.reduceBEq, reduceCtorEq, Nat.reduceLT, Nat.reduceLeDiff, Nat.reduceAdd, Nat.reduceSub, Nat.reduceMul, Nat.reduceDiv, Int.reduceAdd, Int.reduceNeg, Int.reduceEq, Int.reduceLT, Int.reduceLE]
      rw [d1, d2]; rfl
  · have d1 : decide (0 ≤ l.getD v 0) = false := decide_eq_false h1
    refine wlk_sreg fun KY hKY => ?_
    simp only [go_sem, reduceIte, Nat.reduceEqDiff, Nat.reduceBEq, reduceCtorEq, Nat.reduceLT, Nat.reduceLeDiff, Nat.reduceAdd, Nat.reduceSub, Nat.reduceMul, Nat.reduceDiv, Int.reduceAdd, Int.reduceNeg, Int.reduceEq, Int.reduceLT, Int.reduceLE, c_mates_list_paired_r2, d1]
    refine hKY _ ?_
    refine wlk_ret ?_
    simp only [go_sem, reduceIte, Nat.reduceEqDiff, Nat.reduceBEq, reduceCtorEq, Nat.reduceLT, Nat.reduceLeDiff, Nat.reduceAdd, Nat.reduceSub, Nat.reduceMul, Nat.reduceDiv, Int.reduceAdd, Int.reduceNeg, Int.reduceEq, Int.reduceLT, Int.reduceLE]
    rw [d1]; rfl
def sel (φ : Nat → Bool) (k : Nat) : List Nat := (List.range k).filter φ
theorem sel_len (φ : Nat → Bool) (k : Nat) : (sel φ k).length ≤ k := Nat.le_trans (List.length_filter_le _ _) (by simp)
theorem sel_step (φ : Nat → Bool) (k : Nat) : sel φ (k + 1) = sel φ k ++ if φ k = true then [k] else [] := by
  unfold sel
  rw [List.range_succ, List.filter_append]; congr 1; simp [List.filter_cons]
theorem such_ok (g : Nat) (φ : Nat → Bool) (l : List Int) (hl : l.length ≤ 1000000000) (hg : ∀ v, v < l.length → ACalls Try.prog [] g [.imm 1 (ints l), .sc (.int .i64 (v : Int))] [] fun r h' => r = .sc (.bool (φ v)) ∧ h' = []) : ACalls Try.prog [] n_mates_list_such [.imm 1 (ints l), .fn (.func g) [] []] [] fun r h' => r = .own (some 1) (nats (sel φ l.length)) ∧ h' = [] := by
  refine go_mates_list_such rfl ?_
  unfold c_mates_list_such v_mates_list_such
  refine wlk_sreg fun KY hKY => ?_
  simp only [go_sem, reduceIte, Nat.reduceEqDiff, Nat.reduceBEq, reduceCtorEq, Nat.reduceLT, Nat.reduceLeDiff, Nat.reduceAdd, Nat.reduceSub, Nat.reduceMul, Nat.reduceDiv, Int.reduceAdd, Int.reduceNeg, Int.reduceEq, Int.reduceLT, Int.reduceLE, c_mates_list_such_r0]
  refine hKY _ ?_
  refine wlk_sreg fun KY hKY => ?_
  simp only [go_sem, reduceIte, Nat.reduceEqDiff, Nat.reduceBEq, reduceCtorEq, Nat.reduceLT, Nat.reduceLeDiff, Nat.reduceAdd, Nat.reduceSub, Nat.reduceMul, Nat.reduceDiv, Int.reduceAdd, Int.reduceNeg, Int.reduceEq, Int.reduceLT, Int.reduceLE, c_mates_list_such_r1]
  refine hKY _ ?_
  refine sem_nil [0, 5] 1 (by simp only [go_sem, reduceIte, Nat.reduceEqDiff, Nat.reduceBEq, reduceCtorEq, Nat.reduceLT, Nat.reduceLeDiff, Nat.reduceAdd, Nat.reduceSub, Nat.reduceMul, Nat.reduceDiv, Int.reduceAdd, Int.reduceNeg, Int.reduceEq, Int.reduceLT, Int.reduceLE]) ?_
  simp only [go_sem, reduceIte, Nat.reduceEqDiff, Nat.reduceBEq, reduceCtorEq, Nat.reduceLT, Nat.reduceLeDiff, Nat.reduceAdd, Nat.reduceSub, Nat.reduceMul, Nat.reduceDiv, Int.reduceAdd, Int.reduceNeg, Int.reduceEq, Int.reduceLT, Int.reduceLE]
  refine wlk_seq fun X1 hn1 he1 hr1 => ?_
  refine wlk_sreg fun KY hKY => ?_
  simp only [go_sem, reduceIte, Nat.reduceEqDiff, Nat.reduceBEq, reduceCtorEq, Nat.reduceLT, Nat.reduceLeDiff, Nat.reduceAdd, Nat.reduceSub, Nat.reduceMul, Nat.reduceDiv, Int.reduceAdd, Int.reduceNeg, Int.reduceEq, Int.reduceLT, Int.reduceLE, c_mates_list_such_r2, ints_len]
  refine hKY _ ?_
  refine wlk_blk fun X2 hn2 he2 hf2 hr2 => ?_
  try simp only [go_sem, reduceIte, Nat.reduceEqDiff, Nat.reduceBEq, reduceCtorEq, Nat.reduceLT, Nat.reduceLeDiff, Nat.reduceAdd, Nat.reduceSub, Nat.reduceMul, Nat.reduceDiv, Int.reduceAdd, Int.reduceNeg, Int.reduceEq, Int.reduceLT, Int.reduceLE]
  refine wlk_lp (α := Nat) [6, 10, 15] (fun k => [(5, .own (some 1) (nats (sel φ k))), (9, .sc (.int .i64 (k : Int)))]) (fun k => []) (fun k q => k ≤ l.length ∧ q = l.length - k) (0) (l.length) rfl (by first | (simp only [go_sem, reduceIte, Nat.reduceEqDiff, Nat.reduceBEq, reduceCtorEq, Nat.reduceLT, Nat.reduceLeDiff, Nat.reduceAdd, Nat.reduceSub, Nat.reduceMul, Nat.reduceDiv, Int.reduceAdd, Int.reduceNeg, Int.reduceEq, Int.reduceLT, Int.reduceLE, updAll_cons, updAll_nil]; done) | with_reducible rfl | rfl) (⟨by omega, rfl⟩) ?_
  rintro k q ⟨hk, rfl⟩ X3 hn3 he3 hr3
  simp only [go_sem, reduceIte, Nat.reduceEqDiff, Nat.reduceBEq, reduceCtorEq, Nat.reduceLT, Nat.reduceLeDiff, Nat.reduceAdd, Nat.reduceSub, Nat.reduceMul, Nat.reduceDiv, Int.reduceAdd, Int.reduceNeg, Int.reduceEq, Int.reduceLT, Int.reduceLE, updAll_cons, updAll_nil]
  refine wlk_sreg fun KY hKY => ?_
  simp only [go_sem, reduceIte, Nat.reduceEqDiff, Nat.reduceBEq, reduceCtorEq, Nat.reduceLT, Nat.reduceLeDiff, Nat.reduceAdd, Nat.reduceSub, Nat.reduceMul, Nat.reduceDiv, Int.reduceAdd, Int.reduceNeg, Int.reduceEq, Int.reduceLT, Int.reduceLE, c_mates_list_such_r3]
  refine hKY _ ?_
  refine wlk_seq fun X4 hn4 he4 hr4 => ?_
  rcases Nat.lt_or_ge k l.length with hk2 | hk2
  · refine wlk_cond1 (by first | rfl | (simp only [go_sem, reduceIte, Nat.reduceEqDiff, Nat.reduceBEq, reduceCtorEq, Nat.reduceLT, Nat.reduceLeDiff, Nat.reduceAdd, Nat.reduceSub, Nat.reduceMul, Nat.reduceDiv, Int.reduceAdd, Int.reduceNeg, Int.reduceEq, Int.reduceLT, Int.reduceLE]; try simp (disch := omega) only [decide_eq_true, decide_eq_false])) ?_
    refine wlk_skip ?_
    repeat (first | refine hn4 _ ?_ | refine he4 _ _ ?_ | refine he3 _ _ ?_ | refine hn2 _ ?_ | refine he2 _ ?_ | refine hf2 _ _ (by decide) ?_ | refine hn1 _ ?_ | refine he1 _ _ ?_)
    refine wlk_seq fun X5 hn5 he5 hr5 => ?_
    refine wlk_blk fun X6 hn6 he6 hf6 hr6 => ?_
    refine wlk_sreg fun KY hKY => ?_
    simp only [go_sem, reduceIte, Nat.reduceEqDiff, Nat.reduceBEq, reduceCtorEq, Nat.reduceLT, Nat.reduceLeDiff, Nat.reduceAdd, Nat.reduceSub, Nat.reduceMul, Nat.reduceDiv, Int.reduceAdd, Int.reduceNeg, Int.reduceEq, Int.reduceLT, Int.reduceLE, c_mates_list_such_r4]
    refine hKY _ ?_
    have hfl := sel_len φ k
    have hby : ((sel φ k).length + 1) * 8 ≤ 140737488355328 := by omega
    have hst := sel_step φ k
    refine wlk_sreg fun KY hKY => ?_
    simp only [go_sem, reduceIte, Nat.reduceEqDiff, Nat.reduceBEq, reduceCtorEq, Nat.reduceLT, Nat.reduceLeDiff, Nat.reduceAdd, Nat.reduceSub, Nat.reduceMul, Nat.reduceDiv, Int.reduceAdd, Int.reduceNeg, Int.reduceEq, Int.reduceLT, Int.reduceLE, c_mates_list_such_r5]
    refine call_view rfl (by simp only [go_sem, reduceIte, Nat.reduceEqDiff, Nat.reduceBEq, reduceCtorEq, Nat.reduceLT, Nat.reduceLeDiff, Nat.reduceAdd, Nat.reduceSub, Nat.reduceMul, Nat.reduceDiv, Int.reduceAdd, Int.reduceNeg, Int.reduceEq, Int.reduceLT, Int.reduceLE] <;> rfl) ((hg k hk2).mono ?_)
    rintro rr hh ⟨rfl, rfl⟩
    refine ⟨rfl, rfl, rfl, ?_⟩
    simp only [go_sem, reduceIte, Nat.reduceEqDiff, Nat.reduceBEq, reduceCtorEq, Nat.reduceLT, Nat.reduceLeDiff, Nat.reduceAdd, Nat.reduceSub, Nat.reduceMul, Nat.reduceDiv, Int.reduceAdd, Int.reduceNeg, Int.reduceEq, Int.reduceLT, Int.reduceLE]
    refine hKY _ ?_
    cases hp : φ k with
    | true =>
      rw [hp, if_pos rfl] at hst
      refine wlk_cond1 (by first | rfl | (simp only [go_sem, reduceIte, Nat.reduceEqDiff, Nat.reduceBEq, reduceCtorEq, Nat.reduceLT, Nat.reduceLeDiff, Nat.reduceAdd, Nat.reduceSub, Nat.reduceMul, Nat.reduceDiv, Int.reduceAdd, Int.reduceNeg, Int.reduceEq, Int.reduceLT, Int.reduceLE]; try simp (disch := omega) only [decide_eq_true, decide_eq_false])) ?_
      refine wlk_reg fun KY hKY => ?_
      simp only [go_sem, reduceIte, Nat.reduceEqDiff, Nat.reduceBEq, reduceCtorEq, Nat.reduceLT, Nat.reduceLeDiff, Nat.reduceAdd, Nat.reduceSub, Nat.reduceMul, Nat.reduceDiv, Int.reduceAdd, Int.reduceNeg, Int.reduceEq, Int.reduceLT, Int.reduceLE, c_mates_list_such_r6, nats_snoc, hby, ← hst]
      refine hKY _ ?_
      repeat (first | refine hn6 _ ?_ | refine he6 _ ?_ | refine hf6 _ _ (by decide) ?_ | refine hn5 _ ?_ | refine he5 _ _ ?_ | refine hn4 _ ?_ | refine he4 _ _ ?_ | refine he3 _ _ ?_ | refine hn2 _ ?_ | refine he2 _ ?_ | refine hf2 _ _ (by decide) ?_ | refine hn1 _ ?_ | refine he1 _ _ ?_)
      refine wlk_reg fun KY hKY => ?_
      simp only [go_sem, reduceIte, Nat.reduceEqDiff, Nat.reduceBEq, reduceCtorEq, Nat.reduceLT, Nat.reduceLeDiff, Nat.reduceAdd, Nat.reduceSub, Nat.reduceMul, Nat.reduceDiv, Int.reduceAdd, Int.reduceNeg, Int.reduceEq, Int.reduceLT, Int.reduceLE, c_mates_list_such_r7, incS (show k < 4611686018427387904 by omega)]
      refine hKY _ ?_
      repeat (first | refine hn6 _ ?_ | refine he6 _ ?_ | refine hf6 _ _ (by decide) ?_ | refine hn5 _ ?_ | refine he5 _ _ ?_ | refine hn4 _ ?_ | refine he4 _ _ ?_)
      refine hn3 _ (k + 1) (l.length - (k + 1)) (by omega) (by first | (simp only [go_sem, reduceIte, Nat.reduceEqDiff, Nat.reduceBEq, reduceCtorEq, Nat.reduceLT, Nat.reduceLeDiff, Nat.reduceAdd, Nat.reduceSub, Nat.reduceMul, Nat.reduceDiv, Int.reduceAdd, Int.reduceNeg, Int.reduceEq, Int.reduceLT, Int.reduceLE, updAll_cons, updAll_nil]; done) | with_reducible rfl) ?_
      exact ⟨hk2, rfl⟩
    | false =>
      rw [hp, if_neg (by decide), List.append_nil] at hst
      refine wlk_cond0 (by first | rfl | (simp only [go_sem, reduceIte, Nat.reduceEqDiff, Nat.reduceBEq, reduceCtorEq, Nat.reduceLT, Nat.reduceLeDiff, Nat.reduceAdd, Nat.reduceSub, Nat.reduceMul, Nat.reduceDiv, Int.reduceAdd, Int.reduceNeg, Int.reduceEq, Int.reduceLT, Int.reduceLE]; try simp (disch := omega) only [decide_eq_true, decide_eq_false])) ?_
      refine wlk_skip ?_
      repeat (first | refine hn6 _ ?_ | refine he6 _ ?_ | refine hf6 _ _ (by decide) ?_ | refine hn5 _ ?_ | refine he5 _ _ ?_ | refine hn4 _ ?_ | refine he4 _ _ ?_ | refine he3 _ _ ?_ | refine hn2 _ ?_ | refine he2 _ ?_ | refine hf2 _ _ (by decide) ?_ | refine hn1 _ ?_ | refine he1 _ _ ?_)
      refine wlk_reg fun KY hKY => ?_
      simp only [go_sem, reduceIte, Nat.reduceEqDiff, Nat.reduceBEq, reduceCtorEq, Nat.reduceLT, Nat.reduceLeDiff, Nat.reduceAdd, Nat.reduceSub, Nat.reduceMul, Nat.reduceDiv, Int.reduceAdd, Int.reduceNeg, Int.reduceEq, Int.reduceLT, Int.reduceLE, c_mates_list_such_r7, incS (show k < 4611686018427387904 by omega)]
      refine hKY _ ?_
      repeat (first | refine hn6 _ ?_ | refine he6 _ ?_ | refine hf6 _ _ (by decide) ?_ | refine hn5 _ ?_ | refine he5 _ _ ?_ | refine hn4 _ ?_ | refine he4 _ _ ?_)
      refine hn3 _ (k + 1) (l.length - (k + 1)) (by omega) (by first | (simp only [go_sem, reduceIte, Nat.reduceEqDiff, Nat.reduceBEq, reduceCtorEq, Nat.reduceLT, Nat.reduceLeDiff, Nat.reduceAdd, Nat.reduceSub, Nat.reduceMul, Nat.reduceDiv, Int.reduceAdd, Int.reduceNeg, Int.reduceEq, Int.reduceLT, Int.reduceLE, updAll_cons, updAll_nil, hst]; done) | with_reducible rfl) ?_
      exact ⟨hk2, rfl⟩
  refine wlk_cond0 (by first | rfl | (simp only [go_sem, reduceIte, Nat.reduceEqDiff, Nat.reduceBEq, reduceCtorEq, Nat.reduceLT, Nat.reduceLeDiff, Nat.reduceAdd, Nat.reduceSub, Nat.reduceMul, Nat.reduceDiv, Int.reduceAdd, Int.reduceNeg, Int.reduceEq, Int.reduceLT, Int.reduceLE]; try simp (disch := omega) only [decide_eq_true, decide_eq_false])) ?_
  refine wlk_exit ?_
  repeat (first | refine hn4 _ ?_ | refine he4 _ _ ?_ | refine he3 _ _ ?_ | refine hn2 _ ?_ | refine he2 _ ?_ | refine hf2 _ _ (by decide) ?_ | refine hn1 _ ?_ | refine he1 _ _ ?_)
  obtain rfl : k = l.length := by omega
  refine wlk_sreg fun KY hKY => ?_
  simp only [go_sem, reduceIte, Nat.reduceEqDiff, Nat.reduceBEq, reduceCtorEq, Nat.reduceLT, Nat.reduceLeDiff, Nat.reduceAdd, Nat.reduceSub, Nat.reduceMul, Nat.reduceDiv, Int.reduceAdd, Int.reduceNeg, Int.reduceEq, Int.reduceLT, Int.reduceLE, c_mates_list_such_r8]
  refine hKY _ ?_
  refine wlk_ret ?_
  repeat (first | refine hr4 _ ?_ | refine hr3 _ ?_ | refine hr2 _ ?_ | refine hr1 _ ?_)
  simp only [go_sem, reduceIte, Nat.reduceEqDiff, Nat.reduceBEq, reduceCtorEq, Nat.reduceLT, Nat.reduceLeDiff, Nat.reduceAdd, Nat.reduceSub, Nat.reduceMul, Nat.reduceDiv, Int.reduceAdd, Int.reduceNeg, Int.reduceEq, Int.reduceLT, Int.reduceLE]
theorem msize_ok (l : List Int) (hl : l.length ≤ 1000000000) : ACalls Try.prog [] n_mates_Size [.imm 1 (ints l)] [] fun r h' => r = .sc (.int .i64 ((sel (upP l) l.length).length : Nat)) ∧ h' = [] := by
  have hc : (sel (pairB l) l.length).length = 2 * (sel (upP l) l.length).length := pair_count l
  have hle := sel_len (upP l) l.length
  have hq : (((sel (pairB l) l.length).length : Nat) : Int).tdiv 2 = ((sel (upP l) l.length).length : Nat) := by rw [hc, Int.tdiv_eq_ediv_of_nonneg (by omega)]; omega
  have hq2 : IntKind.i64.wrap (((sel (upP l) l.length).length : Nat) : Int) = ((sel (upP l) l.length).length : Nat) := by rw [IntWalk.i64_in _ (by omega)]
  refine go_mates_Size rfl ?_
  unfold c_mates_Size v_mates_Size
  refine wlk_sreg fun KY hKY => ?_
  simp only [go_sem, reduceIte, Nat.reduceEqDiff, Nat.reduceBEq, reduceCtorEq, Nat.reduceLT, Nat.reduceLeDiff, Nat.reduceAdd, Nat.reduceSub, Nat.reduceMul, Nat.reduceDiv, Int.reduceAdd, Int.reduceNeg, Int.reduceEq, Int.reduceLT, Int.reduceLE, c_mates_Size_r0]
  refine hKY _ ?_
  refine wlk_sreg fun KY hKY => ?_
  simp only [go_sem, reduceIte, Nat.reduceEqDiff, Nat.reduceBEq, reduceCtorEq, Nat.reduceLT, Nat.reduceLeDiff, Nat.reduceAdd, Nat.reduceSub, Nat.reduceMul, Nat.reduceDiv, Int.reduceAdd, Int.reduceNeg, Int.reduceEq, Int.reduceLT, Int.reduceLE, c_mates_Size_r1]
  refine call_view rfl (by simp only [go_sem, reduceIte, Nat.reduceEqDiff, Nat.reduceBEq, reduceCtorEq, Nat.reduceLT, Nat.reduceLeDiff, Nat.reduceAdd, Nat.reduceSub, Nat.reduceMul, Nat.reduceDiv, Int.reduceAdd, Int.reduceNeg, Int.reduceEq, Int.reduceLT, Int.reduceLE] <;> rfl) ((such_ok n_mates_list_paired (pairB l) l hl fun v hv => paired_ok l hv).mono ?_)
  rintro rr hh ⟨rfl, rfl⟩
  refine ⟨?_, ?_, ?_, ?_⟩
  iterate 3 (first | rfl | simp only [go_sem, reduceIte, Nat.reduceEqDiff, Nat.reduceBEq, reduceCtorEq, Nat.reduceLT, Nat.reduceLeDiff, Nat.reduceAdd, Nat.reduceSub, Nat.reduceMul, Nat.reduceDiv, Int.reduceAdd, Int.reduceNeg, Int.reduceEq, Int.reduceLT, Int.reduceLE])
  simp only [go_sem, reduceIte, Nat.reduceEqDiff, Nat.reduceBEq, reduceCtorEq, Nat.reduceLT, Nat.reduceLeDiff, Nat.reduceAdd, Nat.reduceSub, Nat.reduceMul, Nat.reduceDiv, Int.reduceAdd, Int.reduceNeg, Int.reduceEq, Int.reduceLT, Int.reduceLE, nats_len, hq, hq2]
  refine hKY _ ?_
  refine wlk_ret ?_
  simp only [go_sem, reduceIte, Nat.reduceEqDiff, Nat.reduceBEq, reduceCtorEq, Nat.reduceLT, Nat.reduceLeDiff, Nat.reduceAdd, Nat.reduceSub, Nat.reduceMul, Nat.reduceDiv, Int.reduceAdd, Int.reduceNeg, Int.reduceEq, Int.reduceLT, Int.reduceLE]
def prs (l : List Int) (k : Nat) : List (Int × Int) := (sel (upP l) k).map fun v : Nat => ((v : Int), l.getD v 0)
theorem prs_len (l : List Int) (k : Nat) : (prs l k).length = (sel (upP l) k).length := by simp [prs]
theorem r8edges_ok (l : List Int) (hl : l.length ≤ 1000000000) : ACalls Try.prog [] n_garlandref08_Edges [.imm 1 (ints l)] [] fun r h' => r = .own (some 2) (twos (prs l l.length)) ∧ h' = [] := by
  refine go_garlandref08_Edges rfl ?_
  unfold c_garlandref08_Edges v_garlandref08_Edges
  refine wlk_sreg fun KY hKY => ?_
  simp only [go_sem, reduceIte, Nat.reduceEqDiff, Nat.reduceBEq, reduceCtorEq, Nat.reduceLT, Nat.reduceLeDiff, Nat.reduceAdd, Nat.reduceSub, Nat.reduceMul, Nat.reduceDiv, Int.reduceAdd, Int.reduceNeg, Int.reduceEq, Int.reduceLT, Int.reduceLE, c_garlandref08_Edges_r0]
  refine hKY _ ?_
  refine wlk_sreg fun KY hKY => ?_
  simp only [go_sem, reduceIte, Nat.reduceEqDiff, Nat.reduceBEq, reduceCtorEq, Nat.reduceLT, Nat.reduceLeDiff, Nat.reduceAdd, Nat.reduceSub, Nat.reduceMul, Nat.reduceDiv, Int.reduceAdd, Int.reduceNeg, Int.reduceEq, Int.reduceLT, Int.reduceLE, c_garlandref08_Edges_r1]
  refine hKY _ ?_
  refine sem_nil [0, 3] 2 (by simp only [go_sem, reduceIte, Nat.reduceEqDiff, Nat.reduceBEq, reduceCtorEq, Nat.reduceLT, Nat.reduceLeDiff, Nat.reduceAdd, Nat.reduceSub, Nat.reduceMul, Nat.reduceDiv, Int.reduceAdd, Int.reduceNeg, Int.reduceEq, Int.reduceLT, Int.reduceLE]) ?_
  simp only [go_sem, reduceIte, Nat.reduceEqDiff, Nat.reduceBEq, reduceCtorEq, Nat.reduceLT, Nat.reduceLeDiff, Nat.reduceAdd, Nat.reduceSub, Nat.reduceMul, Nat.reduceDiv, Int.reduceAdd, Int.reduceNeg, Int.reduceEq, Int.reduceLT, Int.reduceLE]
  refine wlk_seq fun X1 hn1 he1 hr1 => ?_
  refine wlk_sreg fun KY hKY => ?_
  simp only [go_sem, reduceIte, Nat.reduceEqDiff, Nat.reduceBEq, reduceCtorEq, Nat.reduceLT, Nat.reduceLeDiff, Nat.reduceAdd, Nat.reduceSub, Nat.reduceMul, Nat.reduceDiv, Int.reduceAdd, Int.reduceNeg, Int.reduceEq, Int.reduceLT, Int.reduceLE, c_garlandref08_Edges_r2]
  refine hKY _ ?_
  refine wlk_blk fun X2 hn2 he2 hf2 hr2 => ?_
  try simp only [go_sem, reduceIte, Nat.reduceEqDiff, Nat.reduceBEq, reduceCtorEq, Nat.reduceLT, Nat.reduceLeDiff, Nat.reduceAdd, Nat.reduceSub, Nat.reduceMul, Nat.reduceDiv, Int.reduceAdd, Int.reduceNeg, Int.reduceEq, Int.reduceLT, Int.reduceLE]
  refine wlk_lp (α := Nat) [5, 9, 32] (fun k => [(3, .own (some 2) (twos (prs l k))), (4, .sc (.int .i64 (k : Int)))]) (fun k => []) (fun k q => k ≤ l.length ∧ q = l.length - k) (0) (l.length) rfl (by first | (simp only [go_sem, reduceIte, Nat.reduceEqDiff, Nat.reduceBEq, reduceCtorEq, Nat.reduceLT, Nat.reduceLeDiff, Nat.reduceAdd, Nat.reduceSub, Nat.reduceMul, Nat.reduceDiv, Int.reduceAdd, Int.reduceNeg, Int.reduceEq, Int.reduceLT, Int.reduceLE, updAll_cons, updAll_nil]; done) | with_reducible rfl | rfl) (⟨by omega, rfl⟩) ?_
  rintro k q ⟨hk, rfl⟩ X3 hn3 he3 hr3
  simp only [go_sem, reduceIte, Nat.reduceEqDiff, Nat.reduceBEq, reduceCtorEq, Nat.reduceLT, Nat.reduceLeDiff, Nat.reduceAdd, Nat.reduceSub, Nat.reduceMul, Nat.reduceDiv, Int.reduceAdd, Int.reduceNeg, Int.reduceEq, Int.reduceLT, Int.reduceLE, updAll_cons, updAll_nil]
  refine wlk_seq fun X4 hn4 he4 hr4 => ?_
  rcases Nat.lt_or_ge k l.length with hk2 | hk2
  · refine wlk_sreg fun KY hKY => ?_
    simp only [go_sem, reduceIte, Nat.reduceEqDiff, Nat.reduceBEq, reduceCtorEq, Nat.reduceLT, Nat.reduceLeDiff, Nat.reduceAdd, Nat.reduceSub, Nat.reduceMul, Nat.reduceDiv, Int.reduceAdd, Int.reduceNeg, Int.reduceEq, Int.reduceLT, Int.reduceLE, c_garlandref08_Edges_r3, ints_len]
    refine hKY _ ?_
    refine wlk_cond1 (by first | rfl | (simp only [go_sem, reduceIte, Nat.reduceEqDiff, Nat.reduceBEq, reduceCtorEq, Nat.reduceLT, Nat.reduceLeDiff, Nat.reduceAdd, Nat.reduceSub, Nat.reduceMul, Nat.reduceDiv, Int.reduceAdd, Int.reduceNeg, Int.reduceEq, Int.reduceLT, Int.reduceLE]; try simp (disch := omega) only [decide_eq_true, decide_eq_false])) ?_
    refine wlk_skip ?_
    repeat (first | refine hn4 _ ?_ | refine he4 _ _ ?_ | refine he3 _ _ ?_ | refine hn2 _ ?_ | refine he2 _ ?_ | refine hf2 _ _ (by decide) ?_ | refine hn1 _ ?_ | refine he1 _ _ ?_)
    refine wlk_seq fun X5 hn5 he5 hr5 => ?_
    refine wlk_blk fun X6 hn6 he6 hf6 hr6 => ?_
    refine wlk_sreg fun KY hKY => ?_
    simp only [go_sem, reduceIte, Nat.reduceEqDiff, Nat.reduceBEq, reduceCtorEq, Nat.reduceLT, Nat.reduceLeDiff, Nat.reduceAdd, Nat.reduceSub, Nat.reduceMul, Nat.reduceDiv, Int.reduceAdd, Int.reduceNeg, Int.reduceEq, Int.reduceLT, Int.reduceLE, c_garlandref08_Edges_r4, ints_get hk2, hk2, ints_len]
    refine hKY _ ?_
    have hfl := sel_len (upP l) k
    have hpl := prs_len l k
    have hby : (prs l k).length * 2 * 16 + 31 < 140737488355328 := by omega
    have hst := sel_step (upP l) k
    have hup : upP l k = (decide ((k : Int) < l.getD k 0) && (decide (l.getD k 0 < l.length) && decide (l.getD (l.getD k 0).toNat 0 = (k : Int)))) := rfl
    by_cases h1 : (k : Int) < l.getD k 0
    · have d1 : decide ((k : Int) < l.getD k 0) = true := decide_eq_true h1
      by_cases h2 : l.getD k 0 < l.length
      · have d2 : decide (l.getD k 0 < (l.length : Int)) = true := decide_eq_true h2
        obtain ⟨w, hw⟩ : ∃ w : Nat, l.getD k 0 = w := ⟨(l.getD k 0).toNat, by omega⟩
        have hwl : w < l.length := by omega
        have hgw : l.getD (l.getD k 0).toNat 0 = l.getD w 0 := by rw [hw]; rfl
        by_cases h3 : l.getD w 0 = (k : Int)
        · have d3 : decide (l.getD w 0 = (k : Int)) = true := decide_eq_true h3
          rw [d1, d2, hgw, d3] at hup
          rw [hup] at hst
          have hps : prs l (k + 1) = prs l k ++ [((k : Int), (w : Int))] := by
            unfold prs; rw [hst, if_pos (by simp), List.map_append, ← hw]; rfl
          rw [hw] at d1 d2
          simp only [hw]
          refine wlk_sreg fun KY hKY => ?_
          simp only [go_sem, reduceIte, Nat.reduceEqDiff, Nat.reduceBEq, reduceCtorEq, Nat.reduceLT, Nat.reduceLeDiff, Nat.reduceAdd, Nat.reduceSub, Nat.reduceMul, Nat.reduceDiv, Int.reduceAdd, Int.reduceNeg, Int.reduceEq, Int.reduceLT, Int.reduceLE, c_garlandref08_Edges_r5, d1, d2, d3, ints_len, ints_get hwl, hwl]
          refine hKY _ ?_
          refine wlk_cond1 (by first | rfl | (simp only [go_sem, reduceIte, Nat.reduceEqDiff, Nat.reduceBEq, reduceCtorEq, Nat.reduceLT, Nat.reduceLeDiff, Nat.reduceAdd, Nat.reduceSub, Nat.reduceMul, Nat.reduceDiv, Int.reduceAdd, Int.reduceNeg, Int.reduceEq, Int.reduceLT, Int.reduceLE]; try simp (disch := omega) only [decide_eq_true, decide_eq_false])) ?_
          refine wlk_reg fun KY hKY => ?_
          simp only [go_sem, reduceIte, Nat.reduceEqDiff, Nat.reduceBEq, reduceCtorEq, Nat.reduceLT, Nat.reduceLeDiff, Nat.reduceAdd, Nat.reduceSub, Nat.reduceMul, Nat.reduceDiv, Int.reduceAdd, Int.reduceNeg, Int.reduceEq, Int.reduceLT, Int.reduceLE, c_garlandref08_Edges_r6, twos_len, mul2, hby, twos_snoc, ← hps, Nat.add_mul]
          refine hKY _ ?_
          repeat (first | refine hn6 _ ?_ | refine he6 _ ?_ | refine hf6 _ _ (by decide) ?_ | refine hn5 _ ?_ | refine he5 _ _ ?_ | refine hn4 _ ?_ | refine he4 _ _ ?_ | refine he3 _ _ ?_ | refine hn2 _ ?_ | refine he2 _ ?_ | refine hf2 _ _ (by decide) ?_ | refine hn1 _ ?_ | refine he1 _ _ ?_)
          refine wlk_reg fun KY hKY => ?_
          simp only [go_sem, reduceIte, Nat.reduceEqDiff, Nat.reduceBEq, reduceCtorEq, Nat.reduceLT, Nat.reduceLeDiff, Nat.reduceAdd, Nat.reduceSub, Nat.reduceMul, Nat.reduceDiv, Int.reduceAdd, Int.reduceNeg, Int.reduceEq, Int.reduceLT, Int.reduceLE, c_garlandref08_Edges_r7, incS (show k < 4611686018427387904 by omega)]
          refine hKY _ ?_
          repeat (first | refine hn6 _ ?_ | refine he6 _ ?_ | refine hf6 _ _ (by decide) ?_ | refine hn5 _ ?_ | refine he5 _ _ ?_ | refine hn4 _ ?_ | refine he4 _ _ ?_)
          refine hn3 _ (k + 1) (l.length - (k + 1)) (by omega) (by first | (simp only [go_sem, reduceIte, Nat.reduceEqDiff, Nat.reduceBEq, reduceCtorEq, Nat.reduceLT, Nat.reduceLeDiff, Nat.reduceAdd, Nat.reduceSub, Nat.reduceMul, Nat.reduceDiv, Int.reduceAdd, Int.reduceNeg, Int.reduceEq, Int.reduceLT, Int.reduceLE, updAll_cons, updAll_nil]; done) | with_reducible rfl) ?_
          exact ⟨hk2, rfl⟩
        · have d3 : decide (l.getD w 0 = (k : Int)) = false := decide_eq_false h3
          rw [d1, d2, hgw, d3] at hup
          rw [hup] at hst
          have hps : prs l (k + 1) = prs l k := by unfold prs; rw [hst, if_neg (by simp), List.append_nil]
          rw [hw] at d1 d2
          simp only [hw]
          refine wlk_sreg fun KY hKY => ?_
          simp only [go_sem, reduceIte, Nat.reduceEqDiff, Nat.reduceBEq, reduceCtorEq, Nat.reduceLT, Nat.reduceLeDiff, Nat.reduceAdd, Nat.reduceSub, Nat.reduceMul, Nat.reduceDiv, Int.reduceAdd, Int.reduceNeg, Int.reduceEq, Int.reduceLT, Int.reduceLE, c_garlandref08_Edges_r5, d1, d2, d3, ints_len, ints_get hwl, hwl]
          refine hKY _ ?_
          refine wlk_cond0 (by first | rfl | (simp only [go_sem, reduceIte, Nat.reduceEqDiff, Nat.reduceBEq, reduceCtorEq, Nat.reduceLT, Nat.reduceLeDiff, Nat.reduceAdd, Nat.reduceSub, Nat.reduceMul, Nat.reduceDiv, Int.reduceAdd, Int.reduceNeg, Int.reduceEq, Int.reduceLT, Int.reduceLE]; try simp (disch := omega) only [decide_eq_true, decide_eq_false])) ?_
          refine wlk_skip ?_
          repeat (first | refine hn6 _ ?_ | refine he6 _ ?_ | refine hf6 _ _ (by decide) ?_ | refine hn5 _ ?_ | refine he5 _ _ ?_ | refine hn4 _ ?_ | refine he4 _ _ ?_ | refine he3 _ _ ?_ | refine hn2 _ ?_ | refine he2 _ ?_ | refine hf2 _ _ (by decide) ?_ | refine hn1 _ ?_ | refine he1 _ _ ?_)
          refine wlk_reg fun KY hKY => ?_
          simp only [go_sem, reduceIte, Nat.reduceEqDiff, Nat.reduceBEq, reduceCtorEq, Nat.reduceLT, Nat.reduceLeDiff, Nat.reduceAdd, Nat.reduceSub, Nat.reduceMul, Nat.reduceDiv, Int.reduceAdd, Int.reduceNeg, Int.reduceEq, Int.reduceLT, Int.reduceLE, c_garlandref08_Edges_r7, incS (show k < 4611686018427387904 by omega)]
          refine hKY _ ?_
          repeat (first | refine hn6 _ ?_ | refine he6 _ ?_ | refine hf6 _ _ (by decide) ?_ | refine hn5 _ ?_ | refine he5 _ _ ?_ | refine hn4 _ ?_ | refine he4 _ _ ?_)
          refine hn3 _ (k + 1) (l.length - (k + 1)) (by omega) (by first | (simp only [go_sem, reduceIte, Nat.reduceEqDiff, Nat.reduceBEq, reduceCtorEq, Nat.reduceLT, Nat.reduceLeDiff, Nat.reduceAdd, Nat.reduceSub, Nat.reduceMul, Nat.reduceDiv, Int.reduceAdd, Int.reduceNeg, Int.reduceEq, Int.reduceLT, Int.reduceLE, updAll_cons, updAll_nil, hps]; done) | with_reducible rfl) ?_
          exact ⟨hk2, rfl⟩
      · have d2 : decide (l.getD k 0 < (l.length : Int)) = false := decide_eq_false h2
        rw [d1, d2] at hup
        rw [hup] at hst
        have hps : prs l (k + 1) = prs l k := by unfold prs; rw [hst, if_neg (by simp), List.append_nil]
        refine wlk_sreg fun KY hKY => ?_
        simp only [go_sem, reduceIte, Nat.reduceEqDiff, Nat.reduceBEq, reduceCtorEq, Nat.reduceLT, Nat.reduceLeDiff, Nat.reduceAdd, Nat.reduceSub, Nat.reduceMul, Nat.reduceDiv, Int.reduceAdd, Int.reduceNeg, Int.reduceEq, Int.reduceLT, Int.reduceLE, c_garlandref08_Edges_r5, d1, d2, ints_len]
        refine hKY _ ?_
        refine wlk_cond0 (by first | rfl | (simp only [go_sem, reduceIte, Nat.reduceEqDiff, Nat.reduceBEq, reduceCtorEq, Nat.reduceLT, Nat.reduceLeDiff, Nat.reduceAdd, Nat.reduceSub, Nat.reduceMul, Nat.reduceDiv, Int.reduceAdd, Int.reduceNeg, Int.reduceEq, Int.reduceLT, Int.reduceLE]; try simp (disch := omega) only [decide_eq_true, decide_eq_false])) ?_
        refine wlk_skip ?_
        repeat (first | refine hn6 _ ?_ | refine he6 _ ?_ | refine hf6 _ _ (by decide) ?_ | refine hn5 _ ?_ | refine he5 _ _ ?_ | refine hn4 _ ?_ | refine he4 _ _ ?_ | refine he3 _ _ ?_ | refine hn2 _ ?_ | refine he2 _ ?_ | refine hf2 _ _ (by decide) ?_ | refine hn1 _ ?_ | refine he1 _ _ ?_)
        refine wlk_reg fun KY hKY => ?_
        simp only [go_sem, reduceIte, Nat.reduceEqDiff, Nat.reduceBEq, reduceCtorEq, Nat.reduceLT, Nat.reduceLeDiff, Nat.reduceAdd, Nat.reduceSub, Nat.reduceMul, Nat.reduceDiv, Int.reduceAdd, Int.reduceNeg, Int.reduceEq, Int.reduceLT, Int.reduceLE, c_garlandref08_Edges_r7, incS (show k < 4611686018427387904 by omega)]
        refine hKY _ ?_
        repeat (first | refine hn6 _ ?_ | refine he6 _ ?_ | refine hf6 _ _ (by decide) ?_ | refine hn5 _ ?_ | refine he5 _ _ ?_ | refine hn4 _ ?_ | refine he4 _ _ ?_)
        refine hn3 _ (k + 1) (l.length - (k + 1)) (by omega) (by first | (simp only [go_sem, reduceIte, Nat.reduceEqDiff, Nat.reduceBEq, reduceCtorEq, Nat.reduceLT, Nat.reduceLeDiff, Nat.reduceAdd, Nat.reduceSub, Nat.reduceMul, Nat.reduceDiv, Int.reduceAdd, Int.reduceNeg, Int.reduceEq, Int.reduceLT, Int.reduceLE, updAll_cons, updAll_nil, hps]; done) | with_reducible rfl) ?_
        exact ⟨hk2, rfl⟩
    · have d1 : decide ((k : Int) < l.getD k 0) = false := decide_eq_false h1
      rw [d1] at hup
      rw [hup] at hst
      have hps : prs l (k + 1) = prs l k := by unfold prs; rw [hst, if_neg (by simp), List.append_nil]
      refine wlk_sreg fun KY hKY => ?_
      simp only [go_sem, reduceIte, Nat.reduceEqDiff, Nat.reduceBEq, reduceCtorEq, Nat.reduceLT, Nat.reduceLeDiff, Nat.reduceAdd, Nat.reduceSub, Nat.reduceMul, Nat.reduceDiv, Int.reduceAdd, Int.reduceNeg, Int.reduceEq, Int.reduceLT, Int.reduceLE, c_garlandref08_Edges_r5, d1]
      refine hKY _ ?_
      refine wlk_cond0 (by first | rfl | (simp only [go_sem, reduceIte, Nat.reduceEqDiff, Nat.reduceBEq, reduceCtorEq, Nat.reduceLT, Nat.reduceLeDiff, Nat.reduceAdd, Nat.reduceSub, Nat.reduceMul, Nat.reduceDiv, Int.reduceAdd, Int.reduceNeg, Int.reduceEq, Int.reduceLT, Int.reduceLE]; try simp (disch := omega) only [decide_eq_true, decide_eq_false])) ?_
      refine wlk_skip ?_
      repeat (first | refine hn6 _ ?_ | refine he6 _ ?_ | refine hf6 _ _ (by decide) ?_ | refine hn5 _ ?_ | refine he5 _ _ ?_ | refine hn4 _ ?_ | refine he4 _ _ ?_ | refine he3 _ _ ?_ | refine hn2 _ ?_ | refine he2 _ ?_ | refine hf2 _ _ (by decide) ?_ | refine hn1 _ ?_ | refine he1 _ _ ?_)
      refine wlk_reg fun KY hKY => ?_
      simp only [go_sem, reduceIte, Nat.reduceEqDiff, Nat.reduceBEq, reduceCtorEq, Nat.reduceLT, Nat.reduceLeDiff, Nat.reduceAdd, Nat.reduceSub, Nat.reduceMul, Nat.reduceDiv, Int.reduceAdd, Int.reduceNeg, Int.reduceEq, Int.reduceLT, Int.reduceLE, c_garlandref08_Edges_r7, incS (show k < 4611686018427387904 by omega)]
      refine hKY _ ?_
      repeat (first | refine hn6 _ ?_ | refine he6 _ ?_ | refine hf6 _ _ (by decide) ?_ | refine hn5 _ ?_ | refine he5 _ _ ?_ | refine hn4 _ ?_ | refine he4 _ _ ?_)
      refine hn3 _ (k + 1) (l.length - (k + 1)) (by omega) (by first | (simp only [go_sem, reduceIte, Nat.reduceEqDiff, Nat.reduceBEq, reduceCtorEq, Nat.reduceLT, Nat.reduceLeDiff, Nat.reduceAdd, Nat.reduceSub, Nat.reduceMul, Nat.reduceDiv, Int.reduceAdd, Int.reduceNeg, Int.reduceEq, Int.reduceLT, Int.reduceLE, updAll_cons, updAll_nil, hps]; done) | with_reducible rfl) ?_
      exact ⟨hk2, rfl⟩
  refine wlk_sreg fun KY hKY => ?_
  simp only [go_sem, reduceIte, Nat.reduceEqDiff, Nat.reduceBEq, reduceCtorEq, Nat.reduceLT, Nat.reduceLeDiff, Nat.reduceAdd, Nat.reduceSub, Nat.reduceMul, Nat.reduceDiv, Int.reduceAdd, Int.reduceNeg, Int.reduceEq, Int.reduceLT, Int.reduceLE, c_garlandref08_Edges_r3, ints_len]
  refine hKY _ ?_
  refine wlk_cond0 (by first | rfl | (simp only [go_sem, reduceIte, Nat.reduceEqDiff, Nat.reduceBEq, reduceCtorEq, Nat.reduceLT, Nat.reduceLeDiff, Nat.reduceAdd, Nat.reduceSub, Nat.reduceMul, Nat.reduceDiv, Int.reduceAdd, Int.reduceNeg, Int.reduceEq, Int.reduceLT, Int.reduceLE]; try simp (disch := omega) only [decide_eq_true, decide_eq_false])) ?_
  refine wlk_exit ?_
  repeat (first | refine hn4 _ ?_ | refine he4 _ _ ?_ | refine he3 _ _ ?_ | refine hn2 _ ?_ | refine he2 _ ?_ | refine hf2 _ _ (by decide) ?_ | refine hn1 _ ?_ | refine he1 _ _ ?_)
  obtain rfl : k = l.length := by omega
  refine wlk_sreg fun KY hKY => ?_
  simp only [go_sem, reduceIte, Nat.reduceEqDiff, Nat.reduceBEq, reduceCtorEq, Nat.reduceLT, Nat.reduceLeDiff, Nat.reduceAdd, Nat.reduceSub, Nat.reduceMul, Nat.reduceDiv, Int.reduceAdd, Int.reduceNeg, Int.reduceEq, Int.reduceLT, Int.reduceLE, c_garlandref08_Edges_r8]
  refine hKY _ ?_
  refine wlk_ret ?_
  repeat (first | refine hr4 _ ?_ | refine hr3 _ ?_ | refine hr2 _ ?_ | refine hr1 _ ?_)
  simp only [go_sem, reduceIte, Nat.reduceEqDiff, Nat.reduceBEq, reduceCtorEq, Nat.reduceLT, Nat.reduceLeDiff, Nat.reduceAdd, Nat.reduceSub, Nat.reduceMul, Nat.reduceDiv, Int.reduceAdd, Int.reduceNeg, Int.reduceEq, Int.reduceLT, Int.reduceLE]
theorem r8size_ok (l : List Int) (hl : l.length ≤ 1000000000) : ACalls Try.prog [] n_garlandref08_Size [.imm 1 (ints l)] [] fun r h' => r = .sc (.int .i64 ((sel (upP l) l.length).length : Nat)) ∧ h' = [] := by
  refine go_garlandref08_Size rfl ?_
  unfold c_garlandref08_Size v_garlandref08_Size
  refine wlk_sreg fun KY hKY => ?_
  simp only [go_sem, reduceIte, Nat.reduceEqDiff, Nat.reduceBEq, reduceCtorEq, Nat.reduceLT, Nat.reduceLeDiff, Nat.reduceAdd, Nat.reduceSub, Nat.reduceMul, Nat.reduceDiv, Int.reduceAdd, Int.reduceNeg, Int.reduceEq, Int.reduceLT, Int.reduceLE, c_garlandref08_Size_r0]
  refine hKY _ ?_
  refine wlk_sreg fun KY hKY => ?_
  simp only [go_sem, reduceIte, Nat.reduceEqDiff, Nat.reduceBEq, reduceCtorEq, Nat.reduceLT, Nat.reduceLeDiff, Nat.reduceAdd, Nat.reduceSub, Nat.reduceMul, Nat.reduceDiv, Int.reduceAdd, Int.reduceNeg, Int.reduceEq, Int.reduceLT, Int.reduceLE, c_garlandref08_Size_r1]
  refine call_view rfl (by simp only [go_sem, reduceIte, Nat.reduceEqDiff, Nat.reduceBEq, reduceCtorEq, Nat.reduceLT, Nat.reduceLeDiff, Nat.reduceAdd, Nat.reduceSub, Nat.reduceMul, Nat.reduceDiv, Int.reduceAdd, Int.reduceNeg, Int.reduceEq, Int.reduceLT, Int.reduceLE] <;> rfl) ((r8edges_ok l hl).mono ?_)
  rintro rr hh ⟨rfl, rfl⟩
  refine ⟨?_, ?_, ?_, ?_⟩
  iterate 3 (first | rfl | simp only [go_sem, reduceIte, Nat.reduceEqDiff, Nat.reduceBEq, reduceCtorEq, Nat.reduceLT, Nat.reduceLeDiff, Nat.reduceAdd, Nat.reduceSub, Nat.reduceMul, Nat.reduceDiv, Int.reduceAdd, Int.reduceNeg, Int.reduceEq, Int.reduceLT, Int.reduceLE])
  simp only [go_sem, reduceIte, Nat.reduceEqDiff, Nat.reduceBEq, reduceCtorEq, Nat.reduceLT, Nat.reduceLeDiff, Nat.reduceAdd, Nat.reduceSub, Nat.reduceMul, Nat.reduceDiv, Int.reduceAdd, Int.reduceNeg, Int.reduceEq, Int.reduceLT, Int.reduceLE, twos_len, mul2, prs_len]
  refine hKY _ ?_
  refine wlk_ret ?_
  simp only [go_sem, reduceIte, Nat.reduceEqDiff, Nat.reduceBEq, reduceCtorEq, Nat.reduceLT, Nat.reduceLeDiff, Nat.reduceAdd, Nat.reduceSub, Nat.reduceMul, Nat.reduceDiv, Int.reduceAdd, Int.reduceNeg, Int.reduceEq, Int.reduceLT, Int.reduceLE]
end Go.Proofs.Ytijcjnlbphienaa
set_option maxRecDepth 100000
set_option maxHeartbeats 4000000
namespace Go.Proofs.Ytijcjnlbphienaa
open Go Go.Ga Go.Ga.Gl
def bErr (n : Int) (es : List (Int × Int)) (b : List Int) : Int := bif rightB n es then (bif b.all (fun v => decide (0 ≤ v) && decide (v < n)) then (bif decide b.Nodup then 0 else 6) else 4) else 3
def BP (n : Int) (es : List (Int × Int)) (b : List Int) (x e : Int) : Prop := (bErr n es b ≠ 0 ∧ x = 0 ∧ e = bErr n es b) ∨ (bErr n es b = 0 ∧ ∃ ps, PsOf n es b ps ∧ x = (oddCount ps : Int) - b.length ∧ e = 0)
theorem BP.unique {n : Int} {es : List (Int × Int)} {b : List Int} {x e y f : Int} (h : BP n es b x e) (h' : BP n es b y f) : x = y ∧ e = f := by
  rcases h with ⟨h1, rfl, rfl⟩ | ⟨h1, ps, hp, rfl, rfl⟩
  · rcases h' with ⟨_, rfl, rfl⟩ | ⟨h2, _⟩
    · exact ⟨rfl, rfl⟩
    · exact absurd h2 h1
  · rcases h' with ⟨h2, _⟩ | ⟨_, qs, hq, rfl, rfl⟩
    · exact absurd h1 h2
    · obtain rfl := hp.unique hq; exact ⟨rfl, rfl⟩
theorem cpiece_ok (c : Nat) (p : List Nat) (hc : c ≤ 100000) (hp : p.length ≤ 100000) : ACalls Try.prog [] n_barrier_count_piece [.ptr 0 0, .imm 1 (nats p)] [some [.sc (.int .i64 (c : Int))]] fun r h' => r = .tup [] ∧ h' = [some [.sc (.int .i64 ((c + p.length % 2 : Nat) : Int))]] := by
  have hm : (p.length : Int).tmod 2 = ((p.length % 2 : Nat) : Int) := by
    rw [Int.tmod_eq_emod_of_nonneg (by omega)]; omega
  have ha : IntKind.i64.wrap ((c : Int) + ((p.length % 2 : Nat) : Int)) = ((c + p.length % 2 : Nat) : Int) := by
    rw [IntWalk.i64_in _ (by omega)]; omega
  refine go_barrier_count_piece rfl ?_
  unfold c_barrier_count_piece v_barrier_count_piece
  refine wlk_reg fun KY hKY => ?_
  simp only [go_sem, reduceIte, Nat.reduceEqDiff, Nat.reduceBEq, reduceCtorEq, Nat.reduceLT, Nat.reduceLeDiff, Nat.reduceAdd, Nat.reduceSub, Nat.reduceMul, Nat.reduceDiv, Int.reduceAdd, Int.reduceNeg, Int.reduceEq, Int.reduceLT, Int.reduceLE, c_barrier_count_piece_r0, nats_len, hm, ha]
  refine hKY _ ?_
  simp only [go_sem, reduceIte, Nat.reduceEqDiff, Nat.reduceBEq, reduceCtorEq, Nat.reduceLT, Nat.reduceLeDiff, Nat.reduceAdd, Nat.reduceSub, Nat.reduceMul, Nat.reduceDiv, Int.reduceAdd, Int.reduceNeg, Int.reduceEq, Int.reduceLT, Int.reduceLE]
theorem lacks_ok {N : Nat} {es : Es} (g : GR N es) (b : List Int) (hb : b.length ≤ 1000000) : ACalls Try.prog [] n_barrier_lacks [.imm 1 (rowsI (near N es)), .imm 1 (ints b)] [] fun r h' => (∃ ps, IsPieces N es (fun v => (v : Int) ∈ b) ps ∧ r = .sc (.int .i64 ((oddCount ps : Int) - b.length))) ∧ h' = [] := by
  have hN := g.hn
  refine ACalls.trim ?_
  refine go_barrier_lacks rfl ?_
  unfold c_barrier_lacks v_barrier_lacks
  refine wlk_sreg fun KY hKY => ?_
  simp only [go_sem, reduceIte, Nat.reduceEqDiff, Nat.reduceBEq, reduceCtorEq, Nat.reduceLT, Nat.reduceLeDiff, Nat.reduceAdd, Nat.reduceSub, Nat.reduceMul, Nat.reduceDiv, Int.reduceAdd, Int.reduceNeg, Int.reduceEq, Int.reduceLT, Int.reduceLE, c_barrier_lacks_r0]
  refine hKY _ ?_
  refine wlk_sreg fun KY hKY => ?_
  simp only [go_sem, reduceIte, Nat.reduceEqDiff, Nat.reduceBEq, reduceCtorEq, Nat.reduceLT, Nat.reduceLeDiff, Nat.reduceAdd, Nat.reduceSub, Nat.reduceMul, Nat.reduceDiv, Int.reduceAdd, Int.reduceNeg, Int.reduceEq, Int.reduceLT, Int.reduceLE, c_barrier_lacks_r1]
  refine hKY _ ?_
  refine sem_share [0, 5] (by simp only [go_sem, reduceIte, Nat.reduceEqDiff, Nat.reduceBEq, reduceCtorEq, Nat.reduceLT, Nat.reduceLeDiff, Nat.reduceAdd, Nat.reduceSub, Nat.reduceMul, Nat.reduceDiv, Int.reduceAdd, Int.reduceNeg, Int.reduceEq, Int.reduceLT, Int.reduceLE]; rfl) ?_
  simp only [go_sem, reduceIte, Nat.reduceEqDiff, Nat.reduceBEq, reduceCtorEq, Nat.reduceLT, Nat.reduceLeDiff, Nat.reduceAdd, Nat.reduceSub, Nat.reduceMul, Nat.reduceDiv, Int.reduceAdd, Int.reduceNeg, Int.reduceEq, Int.reduceLT, Int.reduceLE]
  refine wlk_sreg fun KY hKY => ?_
  simp only [go_sem, reduceIte, Nat.reduceEqDiff, Nat.reduceBEq, reduceCtorEq, Nat.reduceLT, Nat.reduceLeDiff, Nat.reduceAdd, Nat.reduceSub, Nat.reduceMul, Nat.reduceDiv, Int.reduceAdd, Int.reduceNeg, Int.reduceEq, Int.reduceLT, Int.reduceLE, c_barrier_lacks_r2]
  refine hKY _ ?_
  refine wlk_seq fun X1 hn1 he1 hr1 => ?_
  refine wlk_sreg fun KY hKY => ?_
  simp only [go_sem, reduceIte, Nat.reduceEqDiff, Nat.reduceBEq, reduceCtorEq, Nat.reduceLT, Nat.reduceLeDiff, Nat.reduceAdd, Nat.reduceSub, Nat.reduceMul, Nat.reduceDiv, Int.reduceAdd, Int.reduceNeg, Int.reduceEq, Int.reduceLT, Int.reduceLE, c_barrier_lacks_r3]
  refine call_view rfl (by simp only [go_sem, reduceIte, Nat.reduceEqDiff, Nat.reduceBEq, reduceCtorEq, Nat.reduceLT, Nat.reduceLeDiff, Nat.reduceAdd, Nat.reduceSub, Nat.reduceMul, Nat.reduceDiv, Int.reduceAdd, Int.reduceNeg, Int.reduceEq, Int.reduceLT, Int.reduceLE] <;> rfl) ((ofT_ok g b (by omega)).mono ?_)
  rintro rr hh ⟨⟨ps, hps, rfl⟩, rfl⟩
  refine ⟨?_, ?_, ?_, ?_⟩
  iterate 3 (first | rfl | simp only [go_sem, reduceIte, Nat.reduceEqDiff, Nat.reduceBEq, reduceCtorEq, Nat.reduceLT, Nat.reduceLeDiff, Nat.reduceAdd, Nat.reduceSub, Nat.reduceMul, Nat.reduceDiv, Int.reduceAdd, Int.reduceNeg, Int.reduceEq, Int.reduceLT, Int.reduceLE])
  simp only [go_sem, reduceIte, Nat.reduceEqDiff, Nat.reduceBEq, reduceCtorEq, Nat.reduceLT, Nat.reduceLeDiff, Nat.reduceAdd, Nat.reduceSub, Nat.reduceMul, Nat.reduceDiv, Int.reduceAdd, Int.reduceNeg, Int.reduceEq, Int.reduceLT, Int.reduceLE]
  refine hKY _ ?_
  refine sem_freeze [0, 15] (by simp only [go_sem, reduceIte, Nat.reduceEqDiff, Nat.reduceBEq, reduceCtorEq, Nat.reduceLT, Nat.reduceLeDiff, Nat.reduceAdd, Nat.reduceSub, Nat.reduceMul, Nat.reduceDiv, Int.reduceAdd, Int.reduceNeg, Int.reduceEq, Int.reduceLT, Int.reduceLE]; rfl) ?_
  simp only [go_sem, reduceIte, Nat.reduceEqDiff, Nat.reduceBEq, reduceCtorEq, Nat.reduceLT, Nat.reduceLeDiff, Nat.reduceAdd, Nat.reduceSub, Nat.reduceMul, Nat.reduceDiv, Int.reduceAdd, Int.reduceNeg, Int.reduceEq, Int.reduceLT, Int.reduceLE]
  have hpl := pieces_len hps
  have hpe := fun p hp => piece_len hps (p := p) hp
  have hoc := fun k => odd_le2 ps k (Nat.le_trans hpl hN)
  refine wlk_blk fun X2 hn2 he2 hf2 hr2 => ?_
  try simp only [go_sem, reduceIte, Nat.reduceEqDiff, Nat.reduceBEq, reduceCtorEq, Nat.reduceLT, Nat.reduceLeDiff, Nat.reduceAdd, Nat.reduceSub, Nat.reduceMul, Nat.reduceDiv, Int.reduceAdd, Int.reduceNeg, Int.reduceEq, Int.reduceLT, Int.reduceLE]
  refine wlk_lp (α := Nat) [8, 18] (fun k => [(17, .sc (.int .i64 (k : Int)))]) (fun k => [some [.sc (.int .i64 (oddCount (ps.take k) : Int))]]) (fun k q => k ≤ ps.length ∧ q = ps.length - k) (0) (ps.length) rfl (by first | (simp only [go_sem, reduceIte, Nat.reduceEqDiff, Nat.reduceBEq, reduceCtorEq, Nat.reduceLT, Nat.reduceLeDiff, Nat.reduceAdd, Nat.reduceSub, Nat.reduceMul, Nat.reduceDiv, Int.reduceAdd, Int.reduceNeg, Int.reduceEq, Int.reduceLT, Int.reduceLE, updAll_cons, updAll_nil]; done) | with_reducible rfl | rfl) (⟨by omega, rfl⟩) ?_
  rintro k q ⟨hk, rfl⟩ X3 hn3 he3 hr3
  simp only [go_sem, reduceIte, Nat.reduceEqDiff, Nat.reduceBEq, reduceCtorEq, Nat.reduceLT, Nat.reduceLeDiff, Nat.reduceAdd, Nat.reduceSub, Nat.reduceMul, Nat.reduceDiv, Int.reduceAdd, Int.reduceNeg, Int.reduceEq, Int.reduceLT, Int.reduceLE, updAll_cons, updAll_nil]
  refine wlk_sreg fun KY hKY => ?_
  simp only [go_sem, reduceIte, Nat.reduceEqDiff, Nat.reduceBEq, reduceCtorEq, Nat.reduceLT, Nat.reduceLeDiff, Nat.reduceAdd, Nat.reduceSub, Nat.reduceMul, Nat.reduceDiv, Int.reduceAdd, Int.reduceNeg, Int.reduceEq, Int.reduceLT, Int.reduceLE, c_barrier_lacks_r4]
  refine hKY _ ?_
  refine wlk_seq fun X4 hn4 he4 hr4 => ?_
  rcases Nat.lt_or_ge k ps.length with hk2 | hk2
  · refine wlk_cond1 (by first | rfl | (simp only [go_sem, reduceIte, Nat.reduceEqDiff, Nat.reduceBEq, reduceCtorEq, Nat.reduceLT, Nat.reduceLeDiff, Nat.reduceAdd, Nat.reduceSub, Nat.reduceMul, Nat.reduceDiv, Int.reduceAdd, Int.reduceNeg, Int.reduceEq, Int.reduceLT, Int.reduceLE]; try simp (disch := omega) only [decide_eq_true, decide_eq_false])) ?_
    refine wlk_skip ?_
    repeat (first | refine hn4 _ ?_ | refine he4 _ _ ?_ | refine he3 _ _ ?_ | refine hn2 _ ?_ | refine he2 _ ?_ | refine hf2 _ _ (by decide) ?_ | refine hn1 _ ?_ | refine he1 _ _ ?_)
    refine wlk_seq fun X5 hn5 he5 hr5 => ?_
    refine wlk_blk fun X6 hn6 he6 hf6 hr6 => ?_
    have hx : ps[k]? = some ps[k] := List.getElem?_eq_getElem hk2
    have hy : (ps[k]).length ≤ 4096 := Nat.le_trans (hpe _ (List.getElem_mem hk2)) hN
    generalize ps[k] = p at hx hy
    have hst := odd_snoc ps k p hx
    have h1 := hoc k
    refine wlk_sreg fun KY hKY => ?_
    simp only [go_sem, reduceIte, Nat.reduceEqDiff, Nat.reduceBEq, reduceCtorEq, Nat.reduceLT, Nat.reduceLeDiff, Nat.reduceAdd, Nat.reduceSub, Nat.reduceMul, Nat.reduceDiv, Int.reduceAdd, Int.reduceNeg, Int.reduceEq, Int.reduceLT, Int.reduceLE, c_barrier_lacks_r5, rowsI_get hx, hk2, rowsI_len]
    refine hKY _ ?_
    refine wlk_reg fun KY hKY => ?_
    simp only [go_sem, reduceIte, Nat.reduceEqDiff, Nat.reduceBEq, reduceCtorEq, Nat.reduceLT, Nat.reduceLeDiff, Nat.reduceAdd, Nat.reduceSub, Nat.reduceMul, Nat.reduceDiv, Int.reduceAdd, Int.reduceNeg, Int.reduceEq, Int.reduceLT, Int.reduceLE, c_barrier_lacks_r6]
    apply call_gen [] [0] false none rfl
    iterate 8 (first | (simp only [go_sem, reduceIte, Nat.reduceEqDiff, Nat.reduceBEq, reduceCtorEq, Nat.reduceLT, Nat.reduceLeDiff, Nat.reduceAdd, Nat.reduceSub, Nat.reduceMul, Nat.reduceDiv, Int.reduceAdd, Int.reduceNeg, Int.reduceEq, Int.reduceLT, Int.reduceLE, watchIn] <;> rfl) | rfl)
    refine (cpiece_ok (oddCount (ps.take k)) p (by omega) (by omega)).mono ?_
    rintro _ _ ⟨rfl, rfl⟩
    refine ⟨Nat.le_of_ble_eq_true rfl, (fun hh => by cases hh), ?_⟩
    simp only [go_sem, reduceIte, Nat.reduceEqDiff, Nat.reduceBEq, reduceCtorEq, Nat.reduceLT, Nat.reduceLeDiff, Nat.reduceAdd, Nat.reduceSub, Nat.reduceMul, Nat.reduceDiv, Int.reduceAdd, Int.reduceNeg, Int.reduceEq, Int.reduceLT, Int.reduceLE, callOut, AState.after, ← hst]
    refine hKY _ ?_
    repeat (first | refine hn6 _ ?_ | refine he6 _ ?_ | refine hf6 _ _ (by decide) ?_ | refine hn5 _ ?_ | refine he5 _ _ ?_ | refine hn4 _ ?_ | refine he4 _ _ ?_ | refine he3 _ _ ?_ | refine hn2 _ ?_ | refine he2 _ ?_ | refine hf2 _ _ (by decide) ?_ | refine hn1 _ ?_ | refine he1 _ _ ?_)
    refine wlk_reg fun KY hKY => ?_
    simp only [go_sem, reduceIte, Nat.reduceEqDiff, Nat.reduceBEq, reduceCtorEq, Nat.reduceLT, Nat.reduceLeDiff, Nat.reduceAdd, Nat.reduceSub, Nat.reduceMul, Nat.reduceDiv, Int.reduceAdd, Int.reduceNeg, Int.reduceEq, Int.reduceLT, Int.reduceLE, c_barrier_lacks_r7, incS (show k < 4611686018427387904 by omega)]
    refine hKY _ ?_
    repeat (first | refine hn6 _ ?_ | refine he6 _ ?_ | refine hf6 _ _ (by decide) ?_ | refine hn5 _ ?_ | refine he5 _ _ ?_ | refine hn4 _ ?_ | refine he4 _ _ ?_)
    refine hn3 _ (k + 1) (ps.length - (k + 1)) (by omega) (by first | (simp only [go_sem, reduceIte, Nat.reduceEqDiff, Nat.reduceBEq, reduceCtorEq, Nat.reduceLT, Nat.reduceLeDiff, Nat.reduceAdd, Nat.reduceSub, Nat.reduceMul, Nat.reduceDiv, Int.reduceAdd, Int.reduceNeg, Int.reduceEq, Int.reduceLT, Int.reduceLE, updAll_cons, updAll_nil]; done) | with_reducible rfl) ?_
    exact ⟨hk2, rfl⟩
  refine wlk_cond0 (by first | rfl | (simp only [go_sem, reduceIte, Nat.reduceEqDiff, Nat.reduceBEq, reduceCtorEq, Nat.reduceLT, Nat.reduceLeDiff, Nat.reduceAdd, Nat.reduceSub, Nat.reduceMul, Nat.reduceDiv, Int.reduceAdd, Int.reduceNeg, Int.reduceEq, Int.reduceLT, Int.reduceLE]; try simp (disch := omega) only [decide_eq_true, decide_eq_false])) ?_
  refine wlk_exit ?_
  repeat (first | refine hn4 _ ?_ | refine he4 _ _ ?_ | refine he3 _ _ ?_ | refine hn2 _ ?_ | refine he2 _ ?_ | refine hf2 _ _ (by decide) ?_ | refine hn1 _ ?_ | refine he1 _ _ ?_)
  obtain rfl : k = ps.length := by omega
  rw [List.take_length]
  have h1 := hoc ps.length
  rw [List.take_length] at h1
  have hw : IntKind.i64.wrap ((oddCount ps : Int) - (b.length : Int)) = (oddCount ps : Int) - b.length := by rw [IntWalk.i64_in _ (by omega)]
  refine wlk_sreg fun KY hKY => ?_
  simp only [go_sem, reduceIte, Nat.reduceEqDiff, Nat.reduceBEq, reduceCtorEq, Nat.reduceLT, Nat.reduceLeDiff, Nat.reduceAdd, Nat.reduceSub, Nat.reduceMul, Nat.reduceDiv, Int.reduceAdd, Int.reduceNeg, Int.reduceEq, Int.reduceLT, Int.reduceLE, c_barrier_lacks_r8, ints_len, hw]
  refine hKY _ ?_
  refine wlk_ret ?_
  repeat (first | refine hr4 _ ?_ | refine hr3 _ ?_ | refine hr2 _ ?_ | refine hr1 _ ?_)
  simp only [go_sem, reduceIte, Nat.reduceEqDiff, Nat.reduceBEq, reduceCtorEq, Nat.reduceLT, Nat.reduceLeDiff, Nat.reduceAdd, Nat.reduceSub, Nat.reduceMul, Nat.reduceDiv, Int.reduceAdd, Int.reduceNeg, Int.reduceEq, Int.reduceLT, Int.reduceLE]
  exact ⟨ps, hps, rfl⟩
end Go.Proofs.Ytijcjnlbphienaa
