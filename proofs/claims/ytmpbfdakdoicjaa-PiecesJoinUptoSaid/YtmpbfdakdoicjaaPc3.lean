/- PiecesJoin: an edge more joins two pieces, or none; side by side the pieces are both's; for every input; no condition but the bound of the row that is proved. -/
import Derived.Test.YtmpbfdakdoicjaaPc2
import Derived.Test.YtmpbfdakdoicjaaPc1
import Derived.Test.YtmpbfdakdoicjaaGijmhbf4
import Derived.WalkKit
import Derived.ProofKit
import Derived.OpenShut
import Derived.JoinedCond
set_option linter.all false
set_option maxRecDepth 100000
set_option maxHeartbeats 4000000
namespace Go.Proofs.Ytmpbfdakdoicjaa
open Go Go.Ga Go.Ga.Gl
def outD (n : Nat) (l : List Int) : List Bool := l.foldl (fun D v => if 0 ≤ v ∧ v < (n : Int) then D.set v.toNat true else D) (List.replicate n false)
theorem outD_snoc (n : Nat) (l : List Int) (k : Nat) (v : Int) (h : l[k]? = some v) : outD n (l.take (k + 1)) = if 0 ≤ v ∧ v < (n : Int) then (outD n (l.take k)).set v.toNat true else outD n (l.take k) := by
  rw [List.take_add_one, h]; simp [outD]
theorem outD_ok (n : Nat) (l : List Int) : (outD n l).length = n ∧ ∀ x, x < n → ((outD n l).getD x false = true ↔ (x : Int) ∈ l) := by
  have key : ∀ (l : List Int) (D : List Bool) (P : Nat → Prop), D.length = n → (∀ x, x < n → (D.getD x false = true ↔ P x)) →
      (l.foldl (fun D v => if 0 ≤ v ∧ v < (n : Int) then D.set v.toNat true else D) D).length = n ∧
      ∀ x, x < n → ((l.foldl (fun D v => if 0 ≤ v ∧ v < (n : Int) then D.set v.toNat true else D) D).getD x false = true ↔ P x ∨ (x : Int) ∈ l) := by
    intro l
    induction l with
    | nil => intro D P h1 h2; exact ⟨h1, fun x hx => by simpa using h2 x hx⟩
    | cons v l ih =>
      intro D P h1 h2
      simp only [List.foldl_cons]
      obtain ⟨i1, i2⟩ := ih (if 0 ≤ v ∧ v < (n : Int) then D.set v.toNat true else D) (fun x => P x ∨ (x : Int) = v) (by split <;> simp [h1]) (fun x hx => by
        split
        · rename_i hv
          rw [set_bool, h2 x hx, h1]
          constructor
          · rintro (h | h)
            · exact .inl h
            · exact .inr (by omega)
          · rintro (h | h)
            · exact .inl h
            · exact .inr (by omega)
        · rename_i hv
          rw [h2 x hx]
          constructor
          · exact .inl
          · rintro (h | h)
            · exact h
            · omega)
      refine ⟨i1, fun x hx => ?_⟩
      rw [i2 x hx, List.mem_cons, or_assoc]
  obtain ⟨h1, h2⟩ := key l (List.replicate n false) (fun _ => False) (by simp) (fun x hx => by simp [List.getD_eq_getElem?_getD, hx])
  exact ⟨h1, fun x hx => by rw [outD, h2 x hx]; simp⟩
theorem pieces_le {n : Nat} {es : Es} {O : Nat → Prop} {v : Nat} {D : List Bool} {ps : List (List Nat)} (w : OI n es O v D ps) : ps.length ≤ v := by
  have h : (ps.map fun p => p.headD 0).Pairwise (· < ·) := by
    refine List.pairwise_map.2 ?_
    refine w.heads.imp_of_mem fun {p q} hp hq h => ?_
    have h1 := w.ne p hp; have h2 := w.ne q hq
    cases p with
    | nil => exact absurd rfl h1
    | cons a p => cases q with
      | nil => exact absurd rfl h2
      | cons b q => exact h a rfl b rfl
  have h2 : ∀ x ∈ ps.map fun p => p.headD 0, x ∈ List.range v := by
    intro x hx
    obtain ⟨p, hp, rfl⟩ := List.mem_map.1 hx
    cases p with
    | nil => exact absurd rfl (w.ne _ hp)
    | cons a p => exact List.mem_range.2 (w.low _ hp a rfl)
  have := nodup_le (h.imp fun h => Nat.ne_of_lt h) h2
  simpa using this
theorem of_ok {n : Nat} {es : Es} (g : GR n es) (out : List Int) (ho : out.length ≤ 1000000000) :
    ACalls Try.prog [] n_pieces_Of [.imm 1 (rowsI (near n es)), .imm 1 (ints out)] [] fun r h' => ∃ ps, IsPieces n es (fun v => (v : Int) ∈ out) ps ∧ r = .own (some 1) (rowsO ps) ∧ (h' : Heap).length ≤ 1 := by
  have hn := g.hn
  have hb1 : n * 1 ≤ 140737488355328 := by omega
  have hb0 : (n : Int) ≤ 9223372036854775807 := by omega
  refine go_pieces_Of rfl ?_
  unfold c_pieces_Of v_pieces_Of
  refine wlk_sreg fun KY hKY => ?_
  simp only [go_sem, reduceIte, Nat.reduceEqDiff, Nat.reduceBEq, reduceCtorEq, Nat.reduceLT, Nat.reduceLeDiff, Nat.reduceAdd, Nat.reduceSub, Nat.reduceMul, Nat.reduceDiv, Int.reduceAdd, Int.reduceNeg, Int.reduceEq, Int.reduceLT, Int.reduceLE, c_pieces_Of_r0]
  refine hKY _ ?_
  refine wlk_sreg fun KY hKY => ?_
  simp only [go_sem, reduceIte, Nat.reduceEqDiff, Nat.reduceBEq, reduceCtorEq, Nat.reduceLT, Nat.reduceLeDiff, Nat.reduceAdd, Nat.reduceSub, Nat.reduceMul, Nat.reduceDiv, Int.reduceAdd, Int.reduceNeg, Int.reduceEq, Int.reduceLT, Int.reduceLE, c_pieces_Of_r1, near_len, hb1]
  repeat (simp (disch := omega) only [if_pos, if_neg, decide_eq_true, decide_eq_false, incS, nats_get, ints_get, near_len, hb1]; try simp only [go_sem, reduceIte, Nat.reduceEqDiff, Nat.reduceBEq, reduceCtorEq, Nat.reduceLT, Nat.reduceLeDiff, Nat.reduceAdd, Nat.reduceSub, Nat.reduceMul, Nat.reduceDiv, Int.reduceAdd, Int.reduceNeg, Int.reduceEq, Int.reduceLT, Int.reduceLE, near_len, hb1])
  refine hKY _ ?_
  simp only [go_sem, reduceIte, Nat.reduceEqDiff, Nat.reduceBEq, reduceCtorEq, Nat.reduceLT, Nat.reduceLeDiff, Nat.reduceAdd, Nat.reduceSub, Nat.reduceMul, Nat.reduceDiv, Int.reduceAdd, Int.reduceNeg, Int.reduceEq, Int.reduceLT, Int.reduceLE]
  refine sem_sees [0, 5, 2] .dead (by simp only [go_sem, reduceIte, Nat.reduceEqDiff, Nat.reduceBEq, reduceCtorEq, Nat.reduceLT, Nat.reduceLeDiff, Nat.reduceAdd, Nat.reduceSub, Nat.reduceMul, Nat.reduceDiv, Int.reduceAdd, Int.reduceNeg, Int.reduceEq, Int.reduceLT, Int.reduceLE]; rfl) rfl (Sees.dead _) ?_
  simp only [go_sem, reduceIte, Nat.reduceEqDiff, Nat.reduceBEq, reduceCtorEq, Nat.reduceLT, Nat.reduceLeDiff, Nat.reduceAdd, Nat.reduceSub, Nat.reduceMul, Nat.reduceDiv, Int.reduceAdd, Int.reduceNeg, Int.reduceEq, Int.reduceLT, Int.reduceLE]
  refine sem_nil [0, 5, 3] 1 (by simp only [go_sem, reduceIte, Nat.reduceEqDiff, Nat.reduceBEq, reduceCtorEq, Nat.reduceLT, Nat.reduceLeDiff, Nat.reduceAdd, Nat.reduceSub, Nat.reduceMul, Nat.reduceDiv, Int.reduceAdd, Int.reduceNeg, Int.reduceEq, Int.reduceLT, Int.reduceLE]) ?_
  simp only [go_sem, reduceIte, Nat.reduceEqDiff, Nat.reduceBEq, reduceCtorEq, Nat.reduceLT, Nat.reduceLeDiff, Nat.reduceAdd, Nat.reduceSub, Nat.reduceMul, Nat.reduceDiv, Int.reduceAdd, Int.reduceNeg, Int.reduceEq, Int.reduceLT, Int.reduceLE]
  refine sem_share [0, 5] (by simp only [go_sem, reduceIte, Nat.reduceEqDiff, Nat.reduceBEq, reduceCtorEq, Nat.reduceLT, Nat.reduceLeDiff, Nat.reduceAdd, Nat.reduceSub, Nat.reduceMul, Nat.reduceDiv, Int.reduceAdd, Int.reduceNeg, Int.reduceEq, Int.reduceLT, Int.reduceLE]; rfl) ?_
  simp only [go_sem, reduceIte, Nat.reduceEqDiff, Nat.reduceBEq, reduceCtorEq, Nat.reduceLT, Nat.reduceLeDiff, Nat.reduceAdd, Nat.reduceSub, Nat.reduceMul, Nat.reduceDiv, Int.reduceAdd, Int.reduceNeg, Int.reduceEq, Int.reduceLT, Int.reduceLE]
  refine wlk_seq fun X1 hn1 he1 hr1 => ?_
  refine wlk_sreg fun KY hKY => ?_
  simp only [go_sem, reduceIte, Nat.reduceEqDiff, Nat.reduceBEq, reduceCtorEq, Nat.reduceLT, Nat.reduceLeDiff, Nat.reduceAdd, Nat.reduceSub, Nat.reduceMul, Nat.reduceDiv, Int.reduceAdd, Int.reduceNeg, Int.reduceEq, Int.reduceLT, Int.reduceLE, c_pieces_Of_r2]
  refine hKY _ ?_
  refine wlk_blk fun X2 hn2 he2 hf2 hr2 => ?_
  try simp only [go_sem, reduceIte, Nat.reduceEqDiff, Nat.reduceBEq, reduceCtorEq, Nat.reduceLT, Nat.reduceLeDiff, Nat.reduceAdd, Nat.reduceSub, Nat.reduceMul, Nat.reduceDiv, Int.reduceAdd, Int.reduceNeg, Int.reduceEq, Int.reduceLT, Int.reduceLE]
  refine wlk_lp (α := Nat) [7, 19, 29] (fun k => [(18, .sc (.int .i64 (k : Int)))]) (fun k => [some (pRest (near n es) (outD n (out.take k)))]) (fun k q => k ≤ out.length ∧ q = out.length - k) (0) (out.length) rfl (by first | (simp only [go_sem, reduceIte, Nat.reduceEqDiff, Nat.reduceBEq, reduceCtorEq, Nat.reduceLT, Nat.reduceLeDiff, Nat.reduceAdd, Nat.reduceSub, Nat.reduceMul, Nat.reduceDiv, Int.reduceAdd, Int.reduceNeg, Int.reduceEq, Int.reduceLT, Int.reduceLE, updAll_cons, updAll_nil]; done) | rfl) (⟨by omega, rfl⟩) ?_
  rintro k q ⟨hk, rfl⟩ X3 hn3 he3 hr3
  simp only [go_sem, reduceIte, Nat.reduceEqDiff, Nat.reduceBEq, reduceCtorEq, Nat.reduceLT, Nat.reduceLeDiff, Nat.reduceAdd, Nat.reduceSub, Nat.reduceMul, Nat.reduceDiv, Int.reduceAdd, Int.reduceNeg, Int.reduceEq, Int.reduceLT, Int.reduceLE, updAll_cons, updAll_nil]
  unfold pRest
  refine wlk_sreg fun KY hKY => ?_
  simp only [go_sem, reduceIte, Nat.reduceEqDiff, Nat.reduceBEq, reduceCtorEq, Nat.reduceLT, Nat.reduceLeDiff, Nat.reduceAdd, Nat.reduceSub, Nat.reduceMul, Nat.reduceDiv, Int.reduceAdd, Int.reduceNeg, Int.reduceEq, Int.reduceLT, Int.reduceLE, c_pieces_Of_r3]
  refine hKY _ ?_
  refine wlk_seq fun X4 hn4 he4 hr4 => ?_
  by_cases hk2 : k < out.length
  · refine wlk_cond1 (by first | rfl | (simp only [go_sem, reduceIte, Nat.reduceEqDiff, Nat.reduceBEq, reduceCtorEq, Nat.reduceLT, Nat.reduceLeDiff, Nat.reduceAdd, Nat.reduceSub, Nat.reduceMul, Nat.reduceDiv, Int.reduceAdd, Int.reduceNeg, Int.reduceEq, Int.reduceLT, Int.reduceLE]; try simp (disch := omega) only [decide_eq_true, decide_eq_false])) ?_
    refine wlk_skip ?_
    repeat (first | refine hn4 _ ?_ | refine he4 _ _ ?_ | refine hr4 _ ?_ | refine he3 _ _ ?_ | refine hr3 _ ?_ | refine hn2 _ ?_ | refine he2 _ ?_ | refine hf2 _ _ (by decide) ?_ | refine hr2 _ ?_ | refine hn1 _ ?_ | refine he1 _ _ ?_ | refine hr1 _ ?_)
    refine wlk_seq fun X5 hn5 he5 hr5 => ?_
    refine wlk_blk fun X6 hn6 he6 hf6 hr6 => ?_
    have hx : out[k]? = some (out[k]) := List.getElem?_eq_getElem hk2
    have hxg : out.getD k 0 = out[k] := by simp [List.getD_eq_getElem?_getD, hx]
    generalize out[k] = v at hx hxg
    refine wlk_sreg fun KY hKY => ?_
    simp only [go_sem, reduceIte, Nat.reduceEqDiff, Nat.reduceBEq, reduceCtorEq, Nat.reduceLT, Nat.reduceLeDiff, Nat.reduceAdd, Nat.reduceSub, Nat.reduceMul, Nat.reduceDiv, Int.reduceAdd, Int.reduceNeg, Int.reduceEq, Int.reduceLT, Int.reduceLE, c_pieces_Of_r4, ints_get hk2, hxg, hk2]
    refine hKY _ ?_
    have hst := outD_snoc n out k v hx
    have hlen := (outD_ok n (out.take k)).1
    by_cases hv : 0 ≤ v
    · by_cases hvn : v < n
      · rw [if_pos ⟨hv, hvn⟩] at hst
        refine wlk_sreg fun KY hKY => ?_
        simp only [go_sem, reduceIte, Nat.reduceEqDiff, Nat.reduceBEq, reduceCtorEq, Nat.reduceLT, Nat.reduceLeDiff, Nat.reduceAdd, Nat.reduceSub, Nat.reduceMul, Nat.reduceDiv, Int.reduceAdd, Int.reduceNeg, Int.reduceEq, Int.reduceLT, Int.reduceLE, c_pieces_Of_r5, hv, near_len, hvn]
        refine hKY _ ?_
        refine wlk_cond1 (by first | rfl | (simp only [go_sem, reduceIte, Nat.reduceEqDiff, Nat.reduceBEq, reduceCtorEq, Nat.reduceLT, Nat.reduceLeDiff, Nat.reduceAdd, Nat.reduceSub, Nat.reduceMul, Nat.reduceDiv, Int.reduceAdd, Int.reduceNeg, Int.reduceEq, Int.reduceLT, Int.reduceLE]; try simp (disch := omega) only [decide_eq_true, decide_eq_false])) ?_
        obtain ⟨m, rfl⟩ : ∃ m : Nat, v = m := ⟨v.toNat, by omega⟩
        have hm : m < n := by omega
        rw [Int.toNat_natCast] at hst
        refine wlk_reg fun KY hKY => ?_
        simp only [go_sem, reduceIte, Nat.reduceEqDiff, Nat.reduceBEq, reduceCtorEq, Nat.reduceLT, Nat.reduceLeDiff, Nat.reduceAdd, Nat.reduceSub, Nat.reduceMul, Nat.reduceDiv, Int.reduceAdd, Int.reduceNeg, Int.reduceEq, Int.reduceLT, Int.reduceLE, c_pieces_Of_r6, hlen, hm, ← hst]
        refine hKY _ ?_
        repeat (first | refine hn6 _ ?_ | refine he6 _ ?_ | refine hf6 _ _ (by decide) ?_ | refine hr6 _ ?_ | refine hn5 _ ?_ | refine he5 _ _ ?_ | refine hr5 _ ?_ | refine hn4 _ ?_ | refine he4 _ _ ?_ | refine hr4 _ ?_ | refine he3 _ _ ?_ | refine hr3 _ ?_ | refine hn2 _ ?_ | refine he2 _ ?_ | refine hf2 _ _ (by decide) ?_ | refine hr2 _ ?_ | refine hn1 _ ?_ | refine he1 _ _ ?_ | refine hr1 _ ?_)
        refine wlk_reg fun KY hKY => ?_
        simp only [go_sem, reduceIte, Nat.reduceEqDiff, Nat.reduceBEq, reduceCtorEq, Nat.reduceLT, Nat.reduceLeDiff, Nat.reduceAdd, Nat.reduceSub, Nat.reduceMul, Nat.reduceDiv, Int.reduceAdd, Int.reduceNeg, Int.reduceEq, Int.reduceLT, Int.reduceLE, c_pieces_Of_r7, incS (show k < 4611686018427387904 by omega)]
        refine hKY _ ?_
        repeat (first | refine hn6 _ ?_ | refine he6 _ ?_ | refine hf6 _ _ (by decide) ?_ | refine hr6 _ ?_ | refine hn5 _ ?_ | refine he5 _ _ ?_ | refine hr5 _ ?_ | refine hn4 _ ?_ | refine he4 _ _ ?_ | refine hr4 _ ?_ | refine he3 _ _ ?_ | refine hr3 _ ?_ | refine hn2 _ ?_ | refine he2 _ ?_ | refine hf2 _ _ (by decide) ?_ | refine hr2 _ ?_ | refine hn1 _ ?_ | refine he1 _ _ ?_ | refine hr1 _ ?_)
        refine hn3 _ (k + 1) (out.length - (k + 1)) (by omega) (by first | (simp only [go_sem, reduceIte, Nat.reduceEqDiff, Nat.reduceBEq, reduceCtorEq, Nat.reduceLT, Nat.reduceLeDiff, Nat.reduceAdd, Nat.reduceSub, Nat.reduceMul, Nat.reduceDiv, Int.reduceAdd, Int.reduceNeg, Int.reduceEq, Int.reduceLT, Int.reduceLE, updAll_cons, updAll_nil, pRest]; done) | rfl) ?_
        exact ⟨hk2, rfl⟩
      · rw [if_neg (by omega)] at hst
        refine wlk_sreg fun KY hKY => ?_
        simp only [go_sem, reduceIte, Nat.reduceEqDiff, Nat.reduceBEq, reduceCtorEq, Nat.reduceLT, Nat.reduceLeDiff, Nat.reduceAdd, Nat.reduceSub, Nat.reduceMul, Nat.reduceDiv, Int.reduceAdd, Int.reduceNeg, Int.reduceEq, Int.reduceLT, Int.reduceLE, c_pieces_Of_r5, hv, near_len, hvn]
        refine hKY _ ?_
        refine wlk_cond0 (by first | rfl | (simp only [go_sem, reduceIte, Nat.reduceEqDiff, Nat.reduceBEq, reduceCtorEq, Nat.reduceLT, Nat.reduceLeDiff, Nat.reduceAdd, Nat.reduceSub, Nat.reduceMul, Nat.reduceDiv, Int.reduceAdd, Int.reduceNeg, Int.reduceEq, Int.reduceLT, Int.reduceLE]; try simp (disch := omega) only [decide_eq_true, decide_eq_false])) ?_
        rw [← hst]
        refine wlk_skip ?_
        repeat (first | refine hn6 _ ?_ | refine he6 _ ?_ | refine hf6 _ _ (by decide) ?_ | refine hr6 _ ?_ | refine hn5 _ ?_ | refine he5 _ _ ?_ | refine hr5 _ ?_ | refine hn4 _ ?_ | refine he4 _ _ ?_ | refine hr4 _ ?_ | refine he3 _ _ ?_ | refine hr3 _ ?_ | refine hn2 _ ?_ | refine he2 _ ?_ | refine hf2 _ _ (by decide) ?_ | refine hr2 _ ?_ | refine hn1 _ ?_ | refine he1 _ _ ?_ | refine hr1 _ ?_)
        refine wlk_reg fun KY hKY => ?_
        simp only [go_sem, reduceIte, Nat.reduceEqDiff, Nat.reduceBEq, reduceCtorEq, Nat.reduceLT, Nat.reduceLeDiff, Nat.reduceAdd, Nat.reduceSub, Nat.reduceMul, Nat.reduceDiv, Int.reduceAdd, Int.reduceNeg, Int.reduceEq, Int.reduceLT, Int.reduceLE, c_pieces_Of_r7, incS (show k < 4611686018427387904 by omega)]
        refine hKY _ ?_
        repeat (first | refine hn6 _ ?_ | refine he6 _ ?_ | refine hf6 _ _ (by decide) ?_ | refine hr6 _ ?_ | refine hn5 _ ?_ | refine he5 _ _ ?_ | refine hr5 _ ?_ | refine hn4 _ ?_ | refine he4 _ _ ?_ | refine hr4 _ ?_ | refine he3 _ _ ?_ | refine hr3 _ ?_ | refine hn2 _ ?_ | refine he2 _ ?_ | refine hf2 _ _ (by decide) ?_ | refine hr2 _ ?_ | refine hn1 _ ?_ | refine he1 _ _ ?_ | refine hr1 _ ?_)
        refine hn3 _ (k + 1) (out.length - (k + 1)) (by omega) (by first | (simp only [go_sem, reduceIte, Nat.reduceEqDiff, Nat.reduceBEq, reduceCtorEq, Nat.reduceLT, Nat.reduceLeDiff, Nat.reduceAdd, Nat.reduceSub, Nat.reduceMul, Nat.reduceDiv, Int.reduceAdd, Int.reduceNeg, Int.reduceEq, Int.reduceLT, Int.reduceLE, updAll_cons, updAll_nil, pRest]; done) | rfl) ?_
        exact ⟨hk2, rfl⟩
    · rw [if_neg (by omega)] at hst
      refine wlk_sreg fun KY hKY => ?_
      simp only [go_sem, reduceIte, Nat.reduceEqDiff, Nat.reduceBEq, reduceCtorEq, Nat.reduceLT, Nat.reduceLeDiff, Nat.reduceAdd, Nat.reduceSub, Nat.reduceMul, Nat.reduceDiv, Int.reduceAdd, Int.reduceNeg, Int.reduceEq, Int.reduceLT, Int.reduceLE, c_pieces_Of_r5, hv]
      refine hKY _ ?_
      refine wlk_cond0 (by first | rfl | (simp only [go_sem, reduceIte, Nat.reduceEqDiff, Nat.reduceBEq, reduceCtorEq, Nat.reduceLT, Nat.reduceLeDiff, Nat.reduceAdd, Nat.reduceSub, Nat.reduceMul, Nat.reduceDiv, Int.reduceAdd, Int.reduceNeg, Int.reduceEq, Int.reduceLT, Int.reduceLE]; try simp (disch := omega) only [decide_eq_true, decide_eq_false])) ?_
      rw [← hst]
      refine wlk_skip ?_
      repeat (first | refine hn6 _ ?_ | refine he6 _ ?_ | refine hf6 _ _ (by decide) ?_ | refine hr6 _ ?_ | refine hn5 _ ?_ | refine he5 _ _ ?_ | refine hr5 _ ?_ | refine hn4 _ ?_ | refine he4 _ _ ?_ | refine hr4 _ ?_ | refine he3 _ _ ?_ | refine hr3 _ ?_ | refine hn2 _ ?_ | refine he2 _ ?_ | refine hf2 _ _ (by decide) ?_ | refine hr2 _ ?_ | refine hn1 _ ?_ | refine he1 _ _ ?_ | refine hr1 _ ?_)
      refine wlk_reg fun KY hKY => ?_
      simp only [go_sem, reduceIte, Nat.reduceEqDiff, Nat.reduceBEq, reduceCtorEq, Nat.reduceLT, Nat.reduceLeDiff, Nat.reduceAdd, Nat.reduceSub, Nat.reduceMul, Nat.reduceDiv, Int.reduceAdd, Int.reduceNeg, Int.reduceEq, Int.reduceLT, Int.reduceLE, c_pieces_Of_r7, incS (show k < 4611686018427387904 by omega)]
      refine hKY _ ?_
      repeat (first | refine hn6 _ ?_ | refine he6 _ ?_ | refine hf6 _ _ (by decide) ?_ | refine hr6 _ ?_ | refine hn5 _ ?_ | refine he5 _ _ ?_ | refine hr5 _ ?_ | refine hn4 _ ?_ | refine he4 _ _ ?_ | refine hr4 _ ?_ | refine he3 _ _ ?_ | refine hr3 _ ?_ | refine hn2 _ ?_ | refine he2 _ ?_ | refine hf2 _ _ (by decide) ?_ | refine hr2 _ ?_ | refine hn1 _ ?_ | refine he1 _ _ ?_ | refine hr1 _ ?_)
      refine hn3 _ (k + 1) (out.length - (k + 1)) (by omega) (by first | (simp only [go_sem, reduceIte, Nat.reduceEqDiff, Nat.reduceBEq, reduceCtorEq, Nat.reduceLT, Nat.reduceLeDiff, Nat.reduceAdd, Nat.reduceSub, Nat.reduceMul, Nat.reduceDiv, Int.reduceAdd, Int.reduceNeg, Int.reduceEq, Int.reduceLT, Int.reduceLE, updAll_cons, updAll_nil, pRest]; done) | rfl) ?_
      exact ⟨hk2, rfl⟩
  · refine wlk_cond0 (by first | rfl | (simp only [go_sem, reduceIte, Nat.reduceEqDiff, Nat.reduceBEq, reduceCtorEq, Nat.reduceLT, Nat.reduceLeDiff, Nat.reduceAdd, Nat.reduceSub, Nat.reduceMul, Nat.reduceDiv, Int.reduceAdd, Int.reduceNeg, Int.reduceEq, Int.reduceLT, Int.reduceLE]; try simp (disch := omega) only [decide_eq_true, decide_eq_false])) ?_
    refine wlk_exit ?_
    repeat (first | refine hn4 _ ?_ | refine he4 _ _ ?_ | refine hr4 _ ?_ | refine he3 _ _ ?_ | refine hr3 _ ?_ | refine hn2 _ ?_ | refine he2 _ ?_ | refine hf2 _ _ (by decide) ?_ | refine hr2 _ ?_ | refine hn1 _ ?_ | refine he1 _ _ ?_ | refine hr1 _ ?_)
    obtain rfl : k = out.length := by omega
    rw [List.take_length]
    obtain ⟨hlen, hout⟩ := outD_ok n out
    generalize outD n out = D0 at hlen hout
    refine wlk_sreg fun KY hKY => ?_
    simp only [go_sem, reduceIte, Nat.reduceEqDiff, Nat.reduceBEq, reduceCtorEq, Nat.reduceLT, Nat.reduceLeDiff, Nat.reduceAdd, Nat.reduceSub, Nat.reduceMul, Nat.reduceDiv, Int.reduceAdd, Int.reduceNeg, Int.reduceEq, Int.reduceLT, Int.reduceLE, c_pieces_Of_r8]
    refine hKY _ ?_
    simp only [go_sem, reduceIte, Nat.reduceEqDiff, Nat.reduceBEq, reduceCtorEq, Nat.reduceLT, Nat.reduceLeDiff, Nat.reduceAdd, Nat.reduceSub, Nat.reduceMul, Nat.reduceDiv, Int.reduceAdd, Int.reduceNeg, Int.reduceEq, Int.reduceLT, Int.reduceLE]
    refine sem_nil [0, 8] 1 (by simp only [go_sem, reduceIte, Nat.reduceEqDiff, Nat.reduceBEq, reduceCtorEq, Nat.reduceLT, Nat.reduceLeDiff, Nat.reduceAdd, Nat.reduceSub, Nat.reduceMul, Nat.reduceDiv, Int.reduceAdd, Int.reduceNeg, Int.reduceEq, Int.reduceLT, Int.reduceLE]) ?_
    refine wlk_seq fun X7 hn7 he7 hr7 => ?_
    refine wlk_sreg fun KY hKY => ?_
    simp only [go_sem, reduceIte, Nat.reduceEqDiff, Nat.reduceBEq, reduceCtorEq, Nat.reduceLT, Nat.reduceLeDiff, Nat.reduceAdd, Nat.reduceSub, Nat.reduceMul, Nat.reduceDiv, Int.reduceAdd, Int.reduceNeg, Int.reduceEq, Int.reduceLT, Int.reduceLE, c_pieces_Of_r9, near_len]
    refine hKY _ ?_
    refine wlk_blk fun X8 hn8 he8 hf8 hr8 => ?_
    try simp only [go_sem, reduceIte, Nat.reduceEqDiff, Nat.reduceBEq, reduceCtorEq, Nat.reduceLT, Nat.reduceLeDiff, Nat.reduceAdd, Nat.reduceSub, Nat.reduceMul, Nat.reduceDiv, Int.reduceAdd, Int.reduceNeg, Int.reduceEq, Int.reduceLT, Int.reduceLE]
    refine wlk_lp (α := Nat × List Bool × List (List Nat)) [9, 18, 19, 40, 49] (fun (v, D, ps) => [(8, .own (some 1) (rowsO ps)), (39, .sc (.int .i64 (v : Int)))]) (fun (v, D, ps) => [some (pRest (near n es) D)]) (fun (v, D, ps) q => v ≤ n ∧ q = n - v ∧ OI n es (fun v => (v : Int) ∈ out) v D ps) ((0, D0, [])) (n) rfl (by first | (simp only [go_sem, reduceIte, Nat.reduceEqDiff, Nat.reduceBEq, reduceCtorEq, Nat.reduceLT, Nat.reduceLeDiff, Nat.reduceAdd, Nat.reduceSub, Nat.reduceMul, Nat.reduceDiv, Int.reduceAdd, Int.reduceNeg, Int.reduceEq, Int.reduceLT, Int.reduceLE, updAll_cons, updAll_nil]; done) | rfl) (⟨by omega, rfl, OI.start hlen hout⟩) ?_
    rintro ⟨v, D, ps⟩ q ⟨hv, rfl, w⟩ X9 hn9 he9 hr9
    simp only [go_sem, reduceIte, Nat.reduceEqDiff, Nat.reduceBEq, reduceCtorEq, Nat.reduceLT, Nat.reduceLeDiff, Nat.reduceAdd, Nat.reduceSub, Nat.reduceMul, Nat.reduceDiv, Int.reduceAdd, Int.reduceNeg, Int.reduceEq, Int.reduceLT, Int.reduceLE, updAll_cons, updAll_nil]
    unfold pRest
    refine wlk_sreg fun KY hKY => ?_
    simp only [go_sem, reduceIte, Nat.reduceEqDiff, Nat.reduceBEq, reduceCtorEq, Nat.reduceLT, Nat.reduceLeDiff, Nat.reduceAdd, Nat.reduceSub, Nat.reduceMul, Nat.reduceDiv, Int.reduceAdd, Int.reduceNeg, Int.reduceEq, Int.reduceLT, Int.reduceLE, c_pieces_Of_r10]
    refine hKY _ ?_
    refine wlk_seq fun X10 hn10 he10 hr10 => ?_
    by_cases hv2 : v < n
    · refine wlk_cond1 (by first | rfl | (simp only [go_sem, reduceIte, Nat.reduceEqDiff, Nat.reduceBEq, reduceCtorEq, Nat.reduceLT, Nat.reduceLeDiff, Nat.reduceAdd, Nat.reduceSub, Nat.reduceMul, Nat.reduceDiv, Int.reduceAdd, Int.reduceNeg, Int.reduceEq, Int.reduceLT, Int.reduceLE]; try simp (disch := omega) only [decide_eq_true, decide_eq_false])) ?_
      refine wlk_skip ?_
      repeat (first | refine hn10 _ ?_ | refine he10 _ _ ?_ | refine hr10 _ ?_ | refine he9 _ _ ?_ | refine hr9 _ ?_ | refine hn8 _ ?_ | refine he8 _ ?_ | refine hf8 _ _ (by decide) ?_ | refine hr8 _ ?_ | refine hn7 _ ?_ | refine he7 _ _ ?_ | refine hr7 _ ?_ | refine hn4 _ ?_ | refine he4 _ _ ?_ | refine hr4 _ ?_ | refine he3 _ _ ?_ | refine hr3 _ ?_ | refine hn2 _ ?_ | refine he2 _ ?_ | refine hf2 _ _ (by decide) ?_ | refine hr2 _ ?_ | refine hn1 _ ?_ | refine he1 _ _ ?_ | refine hr1 _ ?_)
      refine wlk_seq fun X11 hn11 he11 hr11 => ?_
      refine wlk_blk fun X12 hn12 he12 hf12 hr12 => ?_
      refine wlk_sreg fun KY hKY => ?_
      simp only [go_sem, reduceIte, Nat.reduceEqDiff, Nat.reduceBEq, reduceCtorEq, Nat.reduceLT, Nat.reduceLeDiff, Nat.reduceAdd, Nat.reduceSub, Nat.reduceMul, Nat.reduceDiv, Int.reduceAdd, Int.reduceNeg, Int.reduceEq, Int.reduceLT, Int.reduceLE, c_pieces_Of_r11]
      refine hKY _ ?_
      have hDl := w.len
      have hvD : v < D.length := by omega
      have hbg := bools_get hvD
      refine wlk_sreg fun KY hKY => ?_
      simp only [go_sem, reduceIte, Nat.reduceEqDiff, Nat.reduceBEq, reduceCtorEq, Nat.reduceLT, Nat.reduceLeDiff, Nat.reduceAdd, Nat.reduceSub, Nat.reduceMul, Nat.reduceDiv, Int.reduceAdd, Int.reduceNeg, Int.reduceEq, Int.reduceLT, Int.reduceLE, c_pieces_Of_r12, hbg, hvD]
      refine hKY _ ?_
      cases hd : D.getD v false with
      | true =>
        refine wlk_cond0 (by first | rfl | (simp only [go_sem, reduceIte, Nat.reduceEqDiff, Nat.reduceBEq, reduceCtorEq, Nat.reduceLT, Nat.reduceLeDiff, Nat.reduceAdd, Nat.reduceSub, Nat.reduceMul, Nat.reduceDiv, Int.reduceAdd, Int.reduceNeg, Int.reduceEq, Int.reduceLT, Int.reduceLE, hd]; try simp (disch := omega) only [decide_eq_true, decide_eq_false])) ?_
        refine wlk_skip ?_
        repeat (first | refine hn12 _ ?_ | refine he12 _ ?_ | refine hf12 _ _ (by decide) ?_ | refine hr12 _ ?_ | refine hn11 _ ?_ | refine he11 _ _ ?_ | refine hr11 _ ?_ | refine hn10 _ ?_ | refine he10 _ _ ?_ | refine hr10 _ ?_ | refine he9 _ _ ?_ | refine hr9 _ ?_ | refine hn8 _ ?_ | refine he8 _ ?_ | refine hf8 _ _ (by decide) ?_ | refine hr8 _ ?_ | refine hn7 _ ?_ | refine he7 _ _ ?_ | refine hr7 _ ?_ | refine hn4 _ ?_ | refine he4 _ _ ?_ | refine hr4 _ ?_ | refine he3 _ _ ?_ | refine hr3 _ ?_ | refine hn2 _ ?_ | refine he2 _ ?_ | refine hf2 _ _ (by decide) ?_ | refine hr2 _ ?_ | refine hn1 _ ?_ | refine he1 _ _ ?_ | refine hr1 _ ?_)
        refine wlk_reg fun KY hKY => ?_
        simp only [go_sem, reduceIte, Nat.reduceEqDiff, Nat.reduceBEq, reduceCtorEq, Nat.reduceLT, Nat.reduceLeDiff, Nat.reduceAdd, Nat.reduceSub, Nat.reduceMul, Nat.reduceDiv, Int.reduceAdd, Int.reduceNeg, Int.reduceEq, Int.reduceLT, Int.reduceLE, c_pieces_Of_r14, incS (show v < 4611686018427387904 by omega)]
        refine hKY _ ?_
        repeat (first | refine hn12 _ ?_ | refine he12 _ ?_ | refine hf12 _ _ (by decide) ?_ | refine hr12 _ ?_ | refine hn11 _ ?_ | refine he11 _ _ ?_ | refine hr11 _ ?_ | refine hn10 _ ?_ | refine he10 _ _ ?_ | refine hr10 _ ?_ | refine he9 _ _ ?_ | refine hr9 _ ?_ | refine hn8 _ ?_ | refine he8 _ ?_ | refine hf8 _ _ (by decide) ?_ | refine hr8 _ ?_ | refine hn7 _ ?_ | refine he7 _ _ ?_ | refine hr7 _ ?_ | refine hn4 _ ?_ | refine he4 _ _ ?_ | refine hr4 _ ?_ | refine he3 _ _ ?_ | refine hr3 _ ?_ | refine hn2 _ ?_ | refine he2 _ ?_ | refine hf2 _ _ (by decide) ?_ | refine hr2 _ ?_ | refine hn1 _ ?_ | refine he1 _ _ ?_ | refine hr1 _ ?_)
        refine hn9 _ ((v + 1, D, ps)) (n - (v + 1)) (by omega) (by first | (simp only [go_sem, reduceIte, Nat.reduceEqDiff, Nat.reduceBEq, reduceCtorEq, Nat.reduceLT, Nat.reduceLeDiff, Nat.reduceAdd, Nat.reduceSub, Nat.reduceMul, Nat.reduceDiv, Int.reduceAdd, Int.reduceNeg, Int.reduceEq, Int.reduceLT, Int.reduceLE, updAll_cons, updAll_nil, pRest]; done) | rfl) ?_
        exact ⟨hv2, rfl, w.skip hd⟩
      | false =>
        refine wlk_cond1 (by first | rfl | (simp only [go_sem, reduceIte, Nat.reduceEqDiff, Nat.reduceBEq, reduceCtorEq, Nat.reduceLT, Nat.reduceLeDiff, Nat.reduceAdd, Nat.reduceSub, Nat.reduceMul, Nat.reduceDiv, Int.reduceAdd, Int.reduceNeg, Int.reduceEq, Int.reduceLT, Int.reduceLE, hd]; try simp (disch := omega) only [decide_eq_true, decide_eq_false])) ?_
        have hps := pieces_le w
        have hby : (ps.length + 1) * 24 ≤ 140737488355328 := by omega
        refine wlk_reg fun KY hKY => ?_
        simp only [go_sem, reduceIte, Nat.reduceEqDiff, Nat.reduceBEq, reduceCtorEq, Nat.reduceLT, Nat.reduceLeDiff, Nat.reduceAdd, Nat.reduceSub, Nat.reduceMul, Nat.reduceDiv, Int.reduceAdd, Int.reduceNeg, Int.reduceEq, Int.reduceLT, Int.reduceLE, c_pieces_Of_r13]
        apply call_gen [] [0] false none rfl
        iterate 8 (first | (simp only [go_sem, reduceIte, Nat.reduceEqDiff, Nat.reduceBEq, reduceCtorEq, Nat.reduceLT, Nat.reduceLeDiff, Nat.reduceAdd, Nat.reduceSub, Nat.reduceMul, Nat.reduceDiv, Int.reduceAdd, Int.reduceNeg, Int.reduceEq, Int.reduceLT, Int.reduceLE, watchIn] <;> rfl) | rfl)
        refine (piece_ok g D hDl v hv2 hd).mono ?_
        rintro _ _ ⟨p, D', hp, rfl, rfl⟩
        unfold pRest
        refine ⟨Nat.le_of_ble_eq_true rfl, (fun hh => by cases hh), ?_⟩
        simp only [go_sem, reduceIte, Nat.reduceEqDiff, Nat.reduceBEq, reduceCtorEq, Nat.reduceLT, Nat.reduceLeDiff, Nat.reduceAdd, Nat.reduceSub, Nat.reduceMul, Nat.reduceDiv, Int.reduceAdd, Int.reduceNeg, Int.reduceEq, Int.reduceLT, Int.reduceLE, callOut, AState.after, rowsO_cellOk, hby, rowsO_snoc]
        refine hKY _ ?_
        repeat (first | refine hn12 _ ?_ | refine he12 _ ?_ | refine hf12 _ _ (by decide) ?_ | refine hr12 _ ?_ | refine hn11 _ ?_ | refine he11 _ _ ?_ | refine hr11 _ ?_ | refine hn10 _ ?_ | refine he10 _ _ ?_ | refine hr10 _ ?_ | refine he9 _ _ ?_ | refine hr9 _ ?_ | refine hn8 _ ?_ | refine he8 _ ?_ | refine hf8 _ _ (by decide) ?_ | refine hr8 _ ?_ | refine hn7 _ ?_ | refine he7 _ _ ?_ | refine hr7 _ ?_ | refine hn4 _ ?_ | refine he4 _ _ ?_ | refine hr4 _ ?_ | refine he3 _ _ ?_ | refine hr3 _ ?_ | refine hn2 _ ?_ | refine he2 _ ?_ | refine hf2 _ _ (by decide) ?_ | refine hr2 _ ?_ | refine hn1 _ ?_ | refine he1 _ _ ?_ | refine hr1 _ ?_)
        refine wlk_reg fun KY hKY => ?_
        simp only [go_sem, reduceIte, Nat.reduceEqDiff, Nat.reduceBEq, reduceCtorEq, Nat.reduceLT, Nat.reduceLeDiff, Nat.reduceAdd, Nat.reduceSub, Nat.reduceMul, Nat.reduceDiv, Int.reduceAdd, Int.reduceNeg, Int.reduceEq, Int.reduceLT, Int.reduceLE, c_pieces_Of_r14, incS (show v < 4611686018427387904 by omega)]
        refine hKY _ ?_
        repeat (first | refine hn12 _ ?_ | refine he12 _ ?_ | refine hf12 _ _ (by decide) ?_ | refine hr12 _ ?_ | refine hn11 _ ?_ | refine he11 _ _ ?_ | refine hr11 _ ?_ | refine hn10 _ ?_ | refine he10 _ _ ?_ | refine hr10 _ ?_ | refine he9 _ _ ?_ | refine hr9 _ ?_ | refine hn8 _ ?_ | refine he8 _ ?_ | refine hf8 _ _ (by decide) ?_ | refine hr8 _ ?_ | refine hn7 _ ?_ | refine he7 _ _ ?_ | refine hr7 _ ?_ | refine hn4 _ ?_ | refine he4 _ _ ?_ | refine hr4 _ ?_ | refine he3 _ _ ?_ | refine hr3 _ ?_ | refine hn2 _ ?_ | refine he2 _ ?_ | refine hf2 _ _ (by decide) ?_ | refine hr2 _ ?_ | refine hn1 _ ?_ | refine he1 _ _ ?_ | refine hr1 _ ?_)
        refine hn9 _ ((v + 1, D', ps ++ [p])) (n - (v + 1)) (by omega) (by first | (simp only [go_sem, reduceIte, Nat.reduceEqDiff, Nat.reduceBEq, reduceCtorEq, Nat.reduceLT, Nat.reduceLeDiff, Nat.reduceAdd, Nat.reduceSub, Nat.reduceMul, Nat.reduceDiv, Int.reduceAdd, Int.reduceNeg, Int.reduceEq, Int.reduceLT, Int.reduceLE, updAll_cons, updAll_nil, pRest]; done) | rfl) ?_
        exact ⟨hv2, rfl, w.take g.adj_lt hp⟩
    · refine wlk_cond0 (by first | rfl | (simp only [go_sem, reduceIte, Nat.reduceEqDiff, Nat.reduceBEq, reduceCtorEq, Nat.reduceLT, Nat.reduceLeDiff, Nat.reduceAdd, Nat.reduceSub, Nat.reduceMul, Nat.reduceDiv, Int.reduceAdd, Int.reduceNeg, Int.reduceEq, Int.reduceLT, Int.reduceLE]; try simp (disch := omega) only [decide_eq_true, decide_eq_false])) ?_
      refine wlk_exit ?_
      repeat (first | refine hn10 _ ?_ | refine he10 _ _ ?_ | refine hr10 _ ?_ | refine he9 _ _ ?_ | refine hr9 _ ?_ | refine hn8 _ ?_ | refine he8 _ ?_ | refine hf8 _ _ (by decide) ?_ | refine hr8 _ ?_ | refine hn7 _ ?_ | refine he7 _ _ ?_ | refine hr7 _ ?_ | refine hn4 _ ?_ | refine he4 _ _ ?_ | refine hr4 _ ?_ | refine he3 _ _ ?_ | refine hr3 _ ?_ | refine hn2 _ ?_ | refine he2 _ ?_ | refine hf2 _ _ (by decide) ?_ | refine hr2 _ ?_ | refine hn1 _ ?_ | refine he1 _ _ ?_ | refine hr1 _ ?_)
      obtain rfl : v = n := by omega
      refine wlk_sreg fun KY hKY => ?_
      simp only [go_sem, reduceIte, Nat.reduceEqDiff, Nat.reduceBEq, reduceCtorEq, Nat.reduceLT, Nat.reduceLeDiff, Nat.reduceAdd, Nat.reduceSub, Nat.reduceMul, Nat.reduceDiv, Int.reduceAdd, Int.reduceNeg, Int.reduceEq, Int.reduceLT, Int.reduceLE, c_pieces_Of_r15]
      refine hKY _ ?_
      refine wlk_ret ?_
      repeat (first | refine hn10 _ ?_ | refine he10 _ _ ?_ | refine hr10 _ ?_ | refine he9 _ _ ?_ | refine hr9 _ ?_ | refine hn8 _ ?_ | refine he8 _ ?_ | refine hf8 _ _ (by decide) ?_ | refine hr8 _ ?_ | refine hn7 _ ?_ | refine he7 _ _ ?_ | refine hr7 _ ?_ | refine hn4 _ ?_ | refine he4 _ _ ?_ | refine hr4 _ ?_ | refine he3 _ _ ?_ | refine hr3 _ ?_ | refine hn2 _ ?_ | refine he2 _ ?_ | refine hf2 _ _ (by decide) ?_ | refine hr2 _ ?_ | refine hn1 _ ?_ | refine he1 _ _ ?_ | refine hr1 _ ?_)
      simp only [go_sem, reduceIte, Nat.reduceEqDiff, Nat.reduceBEq, reduceCtorEq, Nat.reduceLT, Nat.reduceLeDiff, Nat.reduceAdd, Nat.reduceSub, Nat.reduceMul, Nat.reduceDiv, Int.reduceAdd, Int.reduceNeg, Int.reduceEq, Int.reduceLT, Int.reduceLE]
      exact ⟨ps, w.pieces, rfl⟩
abbrev PsQ (n : Nat) (es : Es) (out : List Int) (r : AVal) (h' : Heap) : Prop := (∃ ps, IsPieces n es (fun v => (v : Int) ∈ out) ps ∧ r = .own (some 1) (rowsO ps)) ∧ h' = []
theorem ofT_ok {n : Nat} {es : Es} (g : GR n es) (out : List Int) (ho : out.length ≤ 1000000000) :
    ACalls Try.prog [] n_pieces_Of [.imm 1 (rowsI (near n es)), .imm 1 (ints out)] [] (PsQ n es out) := by
  refine ACalls.trim ((of_ok g out ho).mono ?_)
  rintro r h' ⟨ps, h1, rfl, h2⟩
  refine ⟨Nat.zero_le _, ⟨ps, h1, ?_⟩, rfl⟩
  simp only [AVal.ren, rowsO_ren]
theorem without_ok {n : Nat} {es : Es} (g : GR n es) (out : List Int) (ho : out.length ≤ 1000000000) :
    ACalls Try.prog [] n_pieces_Without [.agg [.sc (.int .i64 (n : Int)), .imm 2 (twos (castE es))], .imm 1 (ints out)] [] (PsQ n es out) := by
  refine go_pieces_Without rfl ?_
  unfold c_pieces_Without v_pieces_Without
  refine wlk_sreg fun KY hKY => ?_
  simp only [go_sem, reduceIte, Nat.reduceEqDiff, Nat.reduceBEq, reduceCtorEq, Nat.reduceLT, Nat.reduceLeDiff, Nat.reduceAdd, Nat.reduceSub, Nat.reduceMul, Nat.reduceDiv, Int.reduceAdd, Int.reduceNeg, Int.reduceEq, Int.reduceLT, Int.reduceLE, c_pieces_Without_r0]
  refine hKY _ ?_
  refine wlk_seq fun X1 hn1 he1 hr1 => ?_
  refine wlk_sreg fun KY hKY => ?_
  simp only [go_sem, reduceIte, Nat.reduceEqDiff, Nat.reduceBEq, reduceCtorEq, Nat.reduceLT, Nat.reduceLeDiff, Nat.reduceAdd, Nat.reduceSub, Nat.reduceMul, Nat.reduceDiv, Int.reduceAdd, Int.reduceNeg, Int.reduceEq, Int.reduceLT, Int.reduceLE, c_pieces_Without_r1]
  refine call_view rfl (by simp only [go_sem, reduceIte, Nat.reduceEqDiff, Nat.reduceBEq, reduceCtorEq, Nat.reduceLT, Nat.reduceLeDiff, Nat.reduceAdd, Nat.reduceSub, Nat.reduceMul, Nat.reduceDiv, Int.reduceAdd, Int.reduceNeg, Int.reduceEq, Int.reduceLT, Int.reduceLE] <;> rfl) ((right_ok _ _).mono ?_)
  rintro rr hh ⟨rfl, rfl⟩
  refine ⟨rfl, rfl, rfl, ?_⟩
  simp only [go_sem, reduceIte, Nat.reduceEqDiff, Nat.reduceBEq, reduceCtorEq, Nat.reduceLT, Nat.reduceLeDiff, Nat.reduceAdd, Nat.reduceSub, Nat.reduceMul, Nat.reduceDiv, Int.reduceAdd, Int.reduceNeg, Int.reduceEq, Int.reduceLT, Int.reduceLE, rightB_GR g]
  refine hKY _ ?_
  refine wlk_cond0 (by first | rfl | (simp only [go_sem, reduceIte, Nat.reduceEqDiff, Nat.reduceBEq, reduceCtorEq, Nat.reduceLT, Nat.reduceLeDiff, Nat.reduceAdd, Nat.reduceSub, Nat.reduceMul, Nat.reduceDiv, Int.reduceAdd, Int.reduceNeg, Int.reduceEq, Int.reduceLT, Int.reduceLE]; try simp (disch := omega) only [decide_eq_true, decide_eq_false])) ?_
  refine wlk_skip ?_
  repeat (first | refine hn1 _ ?_ | refine he1 _ _ ?_ | refine hr1 _ ?_)
  refine wlk_sreg fun KY hKY => ?_
  simp only [go_sem, reduceIte, Nat.reduceEqDiff, Nat.reduceBEq, reduceCtorEq, Nat.reduceLT, Nat.reduceLeDiff, Nat.reduceAdd, Nat.reduceSub, Nat.reduceMul, Nat.reduceDiv, Int.reduceAdd, Int.reduceNeg, Int.reduceEq, Int.reduceLT, Int.reduceLE, c_pieces_Without_r3]
  refine call_view rfl (by simp only [go_sem, reduceIte, Nat.reduceEqDiff, Nat.reduceBEq, reduceCtorEq, Nat.reduceLT, Nat.reduceLeDiff, Nat.reduceAdd, Nat.reduceSub, Nat.reduceMul, Nat.reduceDiv, Int.reduceAdd, Int.reduceNeg, Int.reduceEq, Int.reduceLT, Int.reduceLE] <;> rfl) ((lists_ok g).mono ?_)
  rintro rr hh ⟨rfl, rfl⟩
  refine ⟨?_, ?_, ?_, ?_⟩
  iterate 3 (first | rfl | simp only [go_sem, reduceIte, Nat.reduceEqDiff, Nat.reduceBEq, reduceCtorEq, Nat.reduceLT, Nat.reduceLeDiff, Nat.reduceAdd, Nat.reduceSub, Nat.reduceMul, Nat.reduceDiv, Int.reduceAdd, Int.reduceNeg, Int.reduceEq, Int.reduceLT, Int.reduceLE])
  simp only [go_sem, reduceIte, Nat.reduceEqDiff, Nat.reduceBEq, reduceCtorEq, Nat.reduceLT, Nat.reduceLeDiff, Nat.reduceAdd, Nat.reduceSub, Nat.reduceMul, Nat.reduceDiv, Int.reduceAdd, Int.reduceNeg, Int.reduceEq, Int.reduceLT, Int.reduceLE]
  refine call_view rfl (by simp only [go_sem, reduceIte, Nat.reduceEqDiff, Nat.reduceBEq, reduceCtorEq, Nat.reduceLT, Nat.reduceLeDiff, Nat.reduceAdd, Nat.reduceSub, Nat.reduceMul, Nat.reduceDiv, Int.reduceAdd, Int.reduceNeg, Int.reduceEq, Int.reduceLT, Int.reduceLE] <;> rfl) ((ofT_ok g out ho).mono ?_)
  rintro rr hh ⟨⟨ps, hps, rfl⟩, rfl⟩
  refine ⟨?_, ?_, ?_, ?_⟩
  iterate 3 (first | rfl | simp only [go_sem, reduceIte, Nat.reduceEqDiff, Nat.reduceBEq, reduceCtorEq, Nat.reduceLT, Nat.reduceLeDiff, Nat.reduceAdd, Nat.reduceSub, Nat.reduceMul, Nat.reduceDiv, Int.reduceAdd, Int.reduceNeg, Int.reduceEq, Int.reduceLT, Int.reduceLE])
  simp only [go_sem, reduceIte, Nat.reduceEqDiff, Nat.reduceBEq, reduceCtorEq, Nat.reduceLT, Nat.reduceLeDiff, Nat.reduceAdd, Nat.reduceSub, Nat.reduceMul, Nat.reduceDiv, Int.reduceAdd, Int.reduceNeg, Int.reduceEq, Int.reduceLT, Int.reduceLE]
  refine hKY _ ?_
  refine wlk_ret ?_
  repeat (first | refine hn1 _ ?_ | refine he1 _ _ ?_ | refine hr1 _ ?_)
  simp only [go_sem, reduceIte, Nat.reduceEqDiff, Nat.reduceBEq, reduceCtorEq, Nat.reduceLT, Nat.reduceLeDiff, Nat.reduceAdd, Nat.reduceSub, Nat.reduceMul, Nat.reduceDiv, Int.reduceAdd, Int.reduceNeg, Int.reduceEq, Int.reduceLT, Int.reduceLE]
  exact ⟨⟨ps, hps, rfl⟩, rfl⟩
theorem all_ok {n : Nat} {es : Es} (g : GR n es) : ACalls Try.prog [] n_pieces_All [.agg [.sc (.int .i64 (n : Int)), .imm 2 (twos (castE es))]] [] (PsQ n es []) := by
  refine go_pieces_All rfl ?_
  unfold c_pieces_All v_pieces_All
  refine wlk_sreg fun KY hKY => ?_
  simp only [go_sem, reduceIte, Nat.reduceEqDiff, Nat.reduceBEq, reduceCtorEq, Nat.reduceLT, Nat.reduceLeDiff, Nat.reduceAdd, Nat.reduceSub, Nat.reduceMul, Nat.reduceDiv, Int.reduceAdd, Int.reduceNeg, Int.reduceEq, Int.reduceLT, Int.reduceLE, c_pieces_All_r0]
  refine hKY _ ?_
  refine wlk_sreg fun KY hKY => ?_
  simp only [go_sem, reduceIte, Nat.reduceEqDiff, Nat.reduceBEq, reduceCtorEq, Nat.reduceLT, Nat.reduceLeDiff, Nat.reduceAdd, Nat.reduceSub, Nat.reduceMul, Nat.reduceDiv, Int.reduceAdd, Int.reduceNeg, Int.reduceEq, Int.reduceLT, Int.reduceLE, c_pieces_All_r1]
  refine call_view rfl (by simp only [go_sem, reduceIte, Nat.reduceEqDiff, Nat.reduceBEq, reduceCtorEq, Nat.reduceLT, Nat.reduceLeDiff, Nat.reduceAdd, Nat.reduceSub, Nat.reduceMul, Nat.reduceDiv, Int.reduceAdd, Int.reduceNeg, Int.reduceEq, Int.reduceLT, Int.reduceLE] <;> rfl) (((without_ok g [] (Nat.zero_le _)).sees (.cons (.refl _) (.cons (.imm 1) .nil))).mono ?_)
  rintro rr hh ⟨⟨ps, hps, rfl⟩, rfl⟩
  refine ⟨?_, ?_, ?_, ?_⟩
  iterate 3 (first | rfl | simp only [go_sem, reduceIte, Nat.reduceEqDiff, Nat.reduceBEq, reduceCtorEq, Nat.reduceLT, Nat.reduceLeDiff, Nat.reduceAdd, Nat.reduceSub, Nat.reduceMul, Nat.reduceDiv, Int.reduceAdd, Int.reduceNeg, Int.reduceEq, Int.reduceLT, Int.reduceLE])
  simp only [go_sem, reduceIte, Nat.reduceEqDiff, Nat.reduceBEq, reduceCtorEq, Nat.reduceLT, Nat.reduceLeDiff, Nat.reduceAdd, Nat.reduceSub, Nat.reduceMul, Nat.reduceDiv, Int.reduceAdd, Int.reduceNeg, Int.reduceEq, Int.reduceLT, Int.reduceLE]
  refine hKY _ ?_
  refine wlk_ret ?_
  simp only [go_sem, reduceIte, Nat.reduceEqDiff, Nat.reduceBEq, reduceCtorEq, Nat.reduceLT, Nat.reduceLeDiff, Nat.reduceAdd, Nat.reduceSub, Nat.reduceMul, Nat.reduceDiv, Int.reduceAdd, Int.reduceNeg, Int.reduceEq, Int.reduceLT, Int.reduceLE]
  exact ⟨⟨ps, hps, rfl⟩, rfl⟩
theorem odd_snoc (ps : List (List Nat)) (k : Nat) (p : List Nat) (h : ps[k]? = some p) : oddCount (ps.take (k + 1)) = oddCount (ps.take k) + p.length % 2 := by
  rw [List.take_add_one, h]; simp [oddCount]
theorem odd_le (ps : List (List Nat)) : oddCount ps ≤ ps.length := by
  induction ps with
  | nil => exact Nat.le_refl _
  | cons p ps ih => simp only [oddCount, List.map_cons, List.sum_cons, List.length_cons] at *; omega
theorem odd_ok {n : Nat} {es : Es} (g : GR n es) (out : List Int) (ho : out.length ≤ 1000000000) :
    ACalls Try.prog [] n_pieces_Odd [.agg [.sc (.int .i64 (n : Int)), .imm 2 (twos (castE es))], .imm 1 (ints out)] [] fun r h' => (∃ ps, IsPieces n es (fun v => (v : Int) ∈ out) ps ∧ r = .sc (.int .i64 (oddCount ps : Int))) ∧ h' = [] := by
  have hn := g.hn
  refine go_pieces_Odd rfl ?_
  unfold c_pieces_Odd v_pieces_Odd
  refine wlk_sreg fun KY hKY => ?_
  simp only [go_sem, reduceIte, Nat.reduceEqDiff, Nat.reduceBEq, reduceCtorEq, Nat.reduceLT, Nat.reduceLeDiff, Nat.reduceAdd, Nat.reduceSub, Nat.reduceMul, Nat.reduceDiv, Int.reduceAdd, Int.reduceNeg, Int.reduceEq, Int.reduceLT, Int.reduceLE, c_pieces_Odd_r0]
  refine hKY _ ?_
  refine wlk_sreg fun KY hKY => ?_
  simp only [go_sem, reduceIte, Nat.reduceEqDiff, Nat.reduceBEq, reduceCtorEq, Nat.reduceLT, Nat.reduceLeDiff, Nat.reduceAdd, Nat.reduceSub, Nat.reduceMul, Nat.reduceDiv, Int.reduceAdd, Int.reduceNeg, Int.reduceEq, Int.reduceLT, Int.reduceLE, c_pieces_Odd_r1]
  refine hKY _ ?_
  refine wlk_seq fun X1 hn1 he1 hr1 => ?_
  refine wlk_sreg fun KY hKY => ?_
  simp only [go_sem, reduceIte, Nat.reduceEqDiff, Nat.reduceBEq, reduceCtorEq, Nat.reduceLT, Nat.reduceLeDiff, Nat.reduceAdd, Nat.reduceSub, Nat.reduceMul, Nat.reduceDiv, Int.reduceAdd, Int.reduceNeg, Int.reduceEq, Int.reduceLT, Int.reduceLE, c_pieces_Odd_r2]
  refine call_view rfl (by simp only [go_sem, reduceIte, Nat.reduceEqDiff, Nat.reduceBEq, reduceCtorEq, Nat.reduceLT, Nat.reduceLeDiff, Nat.reduceAdd, Nat.reduceSub, Nat.reduceMul, Nat.reduceDiv, Int.reduceAdd, Int.reduceNeg, Int.reduceEq, Int.reduceLT, Int.reduceLE] <;> rfl) ((without_ok g out ho).mono ?_)
  rintro rr hh ⟨⟨ps, hps, rfl⟩, rfl⟩
  refine ⟨?_, ?_, ?_, ?_⟩
  iterate 3 (first | rfl | simp only [go_sem, reduceIte, Nat.reduceEqDiff, Nat.reduceBEq, reduceCtorEq, Nat.reduceLT, Nat.reduceLeDiff, Nat.reduceAdd, Nat.reduceSub, Nat.reduceMul, Nat.reduceDiv, Int.reduceAdd, Int.reduceNeg, Int.reduceEq, Int.reduceLT, Int.reduceLE])
  have hpl := pieces_len hps
  have hoc : ∀ k, oddCount (ps.take k) ≤ n := fun k => Nat.le_trans (odd_le _) (Nat.le_trans (List.length_take_le' _ _) hpl)
  simp only [go_sem, reduceIte, Nat.reduceEqDiff, Nat.reduceBEq, reduceCtorEq, Nat.reduceLT, Nat.reduceLeDiff, Nat.reduceAdd, Nat.reduceSub, Nat.reduceMul, Nat.reduceDiv, Int.reduceAdd, Int.reduceNeg, Int.reduceEq, Int.reduceLT, Int.reduceLE]
  refine hKY _ ?_
  simp only [go_sem, reduceIte, Nat.reduceEqDiff, Nat.reduceBEq, reduceCtorEq, Nat.reduceLT, Nat.reduceLeDiff, Nat.reduceAdd, Nat.reduceSub, Nat.reduceMul, Nat.reduceDiv, Int.reduceAdd, Int.reduceNeg, Int.reduceEq, Int.reduceLT, Int.reduceLE]
  refine sem_freeze [0, 10] (by simp only [go_sem, reduceIte, Nat.reduceEqDiff, Nat.reduceBEq, reduceCtorEq, Nat.reduceLT, Nat.reduceLeDiff, Nat.reduceAdd, Nat.reduceSub, Nat.reduceMul, Nat.reduceDiv, Int.reduceAdd, Int.reduceNeg, Int.reduceEq, Int.reduceLT, Int.reduceLE]; rfl) ?_
  simp only [go_sem, reduceIte, Nat.reduceEqDiff, Nat.reduceBEq, reduceCtorEq, Nat.reduceLT, Nat.reduceLeDiff, Nat.reduceAdd, Nat.reduceSub, Nat.reduceMul, Nat.reduceDiv, Int.reduceAdd, Int.reduceNeg, Int.reduceEq, Int.reduceLT, Int.reduceLE]
  refine wlk_blk fun X2 hn2 he2 hf2 hr2 => ?_
  try simp only [go_sem, reduceIte, Nat.reduceEqDiff, Nat.reduceBEq, reduceCtorEq, Nat.reduceLT, Nat.reduceLeDiff, Nat.reduceAdd, Nat.reduceSub, Nat.reduceMul, Nat.reduceDiv, Int.reduceAdd, Int.reduceNeg, Int.reduceEq, Int.reduceLT, Int.reduceLE]
  refine wlk_lp (α := Nat) [7, 13] (fun k => [(5, .sc (.int .i64 (oddCount (ps.take k) : Int))), (12, .sc (.int .i64 (k : Int)))]) (fun k => []) (fun k q => k ≤ ps.length ∧ q = ps.length - k) (0) (ps.length) rfl (by first | (simp only [go_sem, reduceIte, Nat.reduceEqDiff, Nat.reduceBEq, reduceCtorEq, Nat.reduceLT, Nat.reduceLeDiff, Nat.reduceAdd, Nat.reduceSub, Nat.reduceMul, Nat.reduceDiv, Int.reduceAdd, Int.reduceNeg, Int.reduceEq, Int.reduceLT, Int.reduceLE, updAll_cons, updAll_nil]; done) | rfl) (⟨by omega, rfl⟩) ?_
  rintro k q ⟨hk, rfl⟩ X3 hn3 he3 hr3
  simp only [go_sem, reduceIte, Nat.reduceEqDiff, Nat.reduceBEq, reduceCtorEq, Nat.reduceLT, Nat.reduceLeDiff, Nat.reduceAdd, Nat.reduceSub, Nat.reduceMul, Nat.reduceDiv, Int.reduceAdd, Int.reduceNeg, Int.reduceEq, Int.reduceLT, Int.reduceLE, updAll_cons, updAll_nil]
  refine wlk_sreg fun KY hKY => ?_
  simp only [go_sem, reduceIte, Nat.reduceEqDiff, Nat.reduceBEq, reduceCtorEq, Nat.reduceLT, Nat.reduceLeDiff, Nat.reduceAdd, Nat.reduceSub, Nat.reduceMul, Nat.reduceDiv, Int.reduceAdd, Int.reduceNeg, Int.reduceEq, Int.reduceLT, Int.reduceLE, c_pieces_Odd_r3]
  refine hKY _ ?_
  refine wlk_seq fun X4 hn4 he4 hr4 => ?_
  by_cases hk2 : k < ps.length
  · refine wlk_cond1 (by first | rfl | (simp only [go_sem, reduceIte, Nat.reduceEqDiff, Nat.reduceBEq, reduceCtorEq, Nat.reduceLT, Nat.reduceLeDiff, Nat.reduceAdd, Nat.reduceSub, Nat.reduceMul, Nat.reduceDiv, Int.reduceAdd, Int.reduceNeg, Int.reduceEq, Int.reduceLT, Int.reduceLE]; try simp (disch := omega) only [decide_eq_true, decide_eq_false])) ?_
    refine wlk_skip ?_
    repeat (first | refine hn4 _ ?_ | refine he4 _ _ ?_ | refine hr4 _ ?_ | refine he3 _ _ ?_ | refine hr3 _ ?_ | refine hn2 _ ?_ | refine he2 _ ?_ | refine hf2 _ _ (by decide) ?_ | refine hr2 _ ?_ | refine hn1 _ ?_ | refine he1 _ _ ?_ | refine hr1 _ ?_)
    refine wlk_seq fun X5 hn5 he5 hr5 => ?_
    refine wlk_blk fun X6 hn6 he6 hf6 hr6 => ?_
    have hx : ps[k]? = some (ps[k]) := List.getElem?_eq_getElem hk2
    have hy : (ps[k]).length ≤ n := piece_len hps (List.getElem_mem hk2)
    generalize ps[k] = p at hx hy
    have hst := odd_snoc ps k p hx
    have h1 := hoc k
    have hm : (p.length : Int).tmod 2 = ((p.length % 2 : Nat) : Int) := by
      rw [Int.tmod_eq_emod_of_nonneg (by omega)]; omega
    have ha : IntKind.i64.wrap ((oddCount (ps.take k) : Int) + ((p.length % 2 : Nat) : Int)) = (oddCount (ps.take (k + 1)) : Int) := by
      rw [IntWalk.i64_in _ (by omega), hst]; omega
    refine wlk_sreg fun KY hKY => ?_
    simp only [go_sem, reduceIte, Nat.reduceEqDiff, Nat.reduceBEq, reduceCtorEq, Nat.reduceLT, Nat.reduceLeDiff, Nat.reduceAdd, Nat.reduceSub, Nat.reduceMul, Nat.reduceDiv, Int.reduceAdd, Int.reduceNeg, Int.reduceEq, Int.reduceLT, Int.reduceLE, c_pieces_Odd_r4, rowsI_get hx, hk2]
    refine hKY _ ?_
    refine wlk_reg fun KY hKY => ?_
    simp only [go_sem, reduceIte, Nat.reduceEqDiff, Nat.reduceBEq, reduceCtorEq, Nat.reduceLT, Nat.reduceLeDiff, Nat.reduceAdd, Nat.reduceSub, Nat.reduceMul, Nat.reduceDiv, Int.reduceAdd, Int.reduceNeg, Int.reduceEq, Int.reduceLT, Int.reduceLE, c_pieces_Odd_r5, hm, ha]
    refine hKY _ ?_
    repeat (first | refine hn6 _ ?_ | refine he6 _ ?_ | refine hf6 _ _ (by decide) ?_ | refine hr6 _ ?_ | refine hn5 _ ?_ | refine he5 _ _ ?_ | refine hr5 _ ?_ | refine hn4 _ ?_ | refine he4 _ _ ?_ | refine hr4 _ ?_ | refine he3 _ _ ?_ | refine hr3 _ ?_ | refine hn2 _ ?_ | refine he2 _ ?_ | refine hf2 _ _ (by decide) ?_ | refine hr2 _ ?_ | refine hn1 _ ?_ | refine he1 _ _ ?_ | refine hr1 _ ?_)
    refine wlk_reg fun KY hKY => ?_
    simp only [go_sem, reduceIte, Nat.reduceEqDiff, Nat.reduceBEq, reduceCtorEq, Nat.reduceLT, Nat.reduceLeDiff, Nat.reduceAdd, Nat.reduceSub, Nat.reduceMul, Nat.reduceDiv, Int.reduceAdd, Int.reduceNeg, Int.reduceEq, Int.reduceLT, Int.reduceLE, c_pieces_Odd_r6, incS (show k < 4611686018427387904 by omega)]
    refine hKY _ ?_
    repeat (first | refine hn6 _ ?_ | refine he6 _ ?_ | refine hf6 _ _ (by decide) ?_ | refine hr6 _ ?_ | refine hn5 _ ?_ | refine he5 _ _ ?_ | refine hr5 _ ?_ | refine hn4 _ ?_ | refine he4 _ _ ?_ | refine hr4 _ ?_ | refine he3 _ _ ?_ | refine hr3 _ ?_ | refine hn2 _ ?_ | refine he2 _ ?_ | refine hf2 _ _ (by decide) ?_ | refine hr2 _ ?_ | refine hn1 _ ?_ | refine he1 _ _ ?_ | refine hr1 _ ?_)
    refine hn3 _ (k + 1) (ps.length - (k + 1)) (by omega) (by first | (simp only [go_sem, reduceIte, Nat.reduceEqDiff, Nat.reduceBEq, reduceCtorEq, Nat.reduceLT, Nat.reduceLeDiff, Nat.reduceAdd, Nat.reduceSub, Nat.reduceMul, Nat.reduceDiv, Int.reduceAdd, Int.reduceNeg, Int.reduceEq, Int.reduceLT, Int.reduceLE, updAll_cons, updAll_nil]; done) | rfl) ?_
    exact ⟨hk2, rfl⟩
  · refine wlk_cond0 (by first | rfl | (simp only [go_sem, reduceIte, Nat.reduceEqDiff, Nat.reduceBEq, reduceCtorEq, Nat.reduceLT, Nat.reduceLeDiff, Nat.reduceAdd, Nat.reduceSub, Nat.reduceMul, Nat.reduceDiv, Int.reduceAdd, Int.reduceNeg, Int.reduceEq, Int.reduceLT, Int.reduceLE]; try simp (disch := omega) only [decide_eq_true, decide_eq_false])) ?_
    refine wlk_exit ?_
    repeat (first | refine hn4 _ ?_ | refine he4 _ _ ?_ | refine hr4 _ ?_ | refine he3 _ _ ?_ | refine hr3 _ ?_ | refine hn2 _ ?_ | refine he2 _ ?_ | refine hf2 _ _ (by decide) ?_ | refine hr2 _ ?_ | refine hn1 _ ?_ | refine he1 _ _ ?_ | refine hr1 _ ?_)
    obtain rfl : k = ps.length := by omega
    rw [List.take_length]
    refine wlk_sreg fun KY hKY => ?_
    simp only [go_sem, reduceIte, Nat.reduceEqDiff, Nat.reduceBEq, reduceCtorEq, Nat.reduceLT, Nat.reduceLeDiff, Nat.reduceAdd, Nat.reduceSub, Nat.reduceMul, Nat.reduceDiv, Int.reduceAdd, Int.reduceNeg, Int.reduceEq, Int.reduceLT, Int.reduceLE, c_pieces_Odd_r7]
    refine hKY _ ?_
    refine wlk_ret ?_
    repeat (first | refine hn4 _ ?_ | refine he4 _ _ ?_ | refine hr4 _ ?_ | refine he3 _ _ ?_ | refine hr3 _ ?_ | refine hn2 _ ?_ | refine he2 _ ?_ | refine hf2 _ _ (by decide) ?_ | refine hr2 _ ?_ | refine hn1 _ ?_ | refine he1 _ _ ?_ | refine hr1 _ ?_)
    simp only [go_sem, reduceIte, Nat.reduceEqDiff, Nat.reduceBEq, reduceCtorEq, Nat.reduceLT, Nat.reduceLeDiff, Nat.reduceAdd, Nat.reduceSub, Nat.reduceMul, Nat.reduceDiv, Int.reduceAdd, Int.reduceNeg, Int.reduceEq, Int.reduceLT, Int.reduceLE]
    exact ⟨ps, hps, rfl⟩
end Go.Proofs.Ytmpbfdakdoicjaa
set_option maxRecDepth 100000
set_option maxHeartbeats 4000000
namespace Go.Proofs.Ytmpbfdakdoicjaa
open Go Go.Ga Go.Ga.Gl
theorem inc (k : Nat) (h : k ≤ 1000000000) : IntKind.i64.wrap ((k : Int) + 1) = ((k + 1 : Nat) : Int) := by rw [IntWalk.i64_in _ (by omega)]; omega
theorem nats_ints (xs : List Nat) : nats xs = ints (xs.map fun (n : Nat) => (n : Int)) := by simp [nats, ints]
theorem ints_at {xs : List Int} {k : Nat} {x : Int} (h : xs[k]? = some x) : (ints xs)[k]? = some (.sc (.int .i64 x)) := by simp [ints, h]
theorem eqi_ok (x y : Int) : ACalls Try.prog [] n_garlandhelp_Plain_int__1 [.sc (.int .i64 x), .sc (.int .i64 y)] [] fun r h' => r = .sc (.bool (decide (x = y))) ∧ h' = [] := by
  refine go_garlandhelp_Plain_int__1 rfl ?_
  unfold c_garlandhelp_Plain_int__1 v_garlandhelp_Plain_int__1
  refine wlk_sreg fun KY hKY => ?_
  simp only [go_sem, reduceIte, Nat.reduceEqDiff, Nat.reduceBEq, reduceCtorEq, Nat.reduceLT, Nat.reduceLeDiff, Nat.reduceAdd, Nat.reduceSub, Nat.reduceMul, Nat.reduceDiv, Int.reduceAdd, Int.reduceNeg, Int.reduceEq, Int.reduceLT, Int.reduceLE, c_garlandhelp_Plain_int__1_r0]
  refine hKY _ ?_
  refine wlk_sreg fun KY hKY => ?_
  simp only [go_sem, reduceIte, Nat.reduceEqDiff, Nat.reduceBEq, reduceCtorEq, Nat.reduceLT, Nat.reduceLeDiff, Nat.reduceAdd, Nat.reduceSub, Nat.reduceMul, Nat.reduceDiv, Int.reduceAdd, Int.reduceNeg, Int.reduceEq, Int.reduceLT, Int.reduceLE, c_garlandhelp_Plain_int__1_r1]
  refine hKY _ ?_
  refine wlk_ret ?_
  simp only [go_sem, reduceIte, Nat.reduceEqDiff, Nat.reduceBEq, reduceCtorEq, Nat.reduceLT, Nat.reduceLeDiff, Nat.reduceAdd, Nat.reduceSub, Nat.reduceMul, Nat.reduceDiv, Int.reduceAdd, Int.reduceNeg, Int.reduceEq, Int.reduceLT, Int.reduceLE]
theorem alike_snoc {α : Type} [DecidableEq α] {xs ys : List α} {k : Nat} {x y : α} (hx : xs[k]? = some x) (hy : ys[k]? = some y) (h : xs.take k = ys.take k) : xs.take (k + 1) = ys.take (k + 1) ↔ x = y := by
  rw [List.take_add_one, List.take_add_one, hx, hy, h]
  simp
theorem samei_ok (xs ys : List Int) (hb : xs.length ≤ 1000000000) : ACalls Try.prog [] n_garlandhelp_Same_int_ [.imm 1 (ints xs), .imm 1 (ints ys), .fn (.func n_garlandhelp_Plain_int__1) [] []] [] fun r h' => r = .sc (.bool (decide (xs = ys))) ∧ h' = [] := by
  refine go_garlandhelp_Same_int_ rfl ?_
  unfold c_garlandhelp_Same_int_ v_garlandhelp_Same_int_
  refine wlk_sreg fun KY hKY => ?_
  simp only [go_sem, reduceIte, Nat.reduceEqDiff, Nat.reduceBEq, reduceCtorEq, Nat.reduceLT, Nat.reduceLeDiff, Nat.reduceAdd, Nat.reduceSub, Nat.reduceMul, Nat.reduceDiv, Int.reduceAdd, Int.reduceNeg, Int.reduceEq, Int.reduceLT, Int.reduceLE, c_garlandhelp_Same_int__r0]
  refine hKY _ ?_
  refine wlk_seq fun X1 hn1 he1 hr1 => ?_
  refine wlk_sreg fun KY hKY => ?_
  simp only [go_sem, reduceIte, Nat.reduceEqDiff, Nat.reduceBEq, reduceCtorEq, Nat.reduceLT, Nat.reduceLeDiff, Nat.reduceAdd, Nat.reduceSub, Nat.reduceMul, Nat.reduceDiv, Int.reduceAdd, Int.reduceNeg, Int.reduceEq, Int.reduceLT, Int.reduceLE, c_garlandhelp_Same_int__r1, Nat.div_one, ints_len]
  refine hKY _ ?_
  simp only [go_sem, reduceIte, Nat.reduceEqDiff, Nat.reduceBEq, reduceCtorEq, Nat.reduceLT, Nat.reduceLeDiff, Nat.reduceAdd, Nat.reduceSub, Nat.reduceMul, Nat.reduceDiv, Int.reduceAdd, Int.reduceNeg, Int.reduceEq, Int.reduceLT, Int.reduceLE]
  by_cases hl : xs.length = ys.length
  case neg =>
    have hl' : decide (((xs.length : Nat) : Int) ≠ ((ys.length : Nat) : Int)) = true := decide_eq_true (by omega)
    refine wlk_cond1 (by simp only [go_sem, reduceIte, Nat.reduceEqDiff, Nat.reduceBEq, reduceCtorEq, Nat.reduceLT, Nat.reduceLeDiff, Nat.reduceAdd, Nat.reduceSub, Nat.reduceMul, Nat.reduceDiv, Int.reduceAdd, Int.reduceNeg, Int.reduceEq, Int.reduceLT, Int.reduceLE, hl']) ?_
    refine wlk_sreg fun KY hKY => ?_
    simp only [go_sem, reduceIte, Nat.reduceEqDiff, Nat.reduceBEq, reduceCtorEq, Nat.reduceLT, Nat.reduceLeDiff, Nat.reduceAdd, Nat.reduceSub, Nat.reduceMul, Nat.reduceDiv, Int.reduceAdd, Int.reduceNeg, Int.reduceEq, Int.reduceLT, Int.reduceLE, c_garlandhelp_Same_int__r2]
    refine hKY _ ?_
    refine wlk_ret (hr1 _ ?_)
    simp only [go_sem, reduceIte, Nat.reduceEqDiff, Nat.reduceBEq, reduceCtorEq, Nat.reduceLT, Nat.reduceLeDiff, Nat.reduceAdd, Nat.reduceSub, Nat.reduceMul, Nat.reduceDiv, Int.reduceAdd, Int.reduceNeg, Int.reduceEq, Int.reduceLT, Int.reduceLE]
    rw [decide_eq_false (fun e : xs = ys => hl (by rw [e]))]
  have hl' : decide (((xs.length : Nat) : Int) ≠ ((ys.length : Nat) : Int)) = false := decide_eq_false (by omega)
  refine wlk_cond0 (by simp only [go_sem, reduceIte, Nat.reduceEqDiff, Nat.reduceBEq, reduceCtorEq, Nat.reduceLT, Nat.reduceLeDiff, Nat.reduceAdd, Nat.reduceSub, Nat.reduceMul, Nat.reduceDiv, Int.reduceAdd, Int.reduceNeg, Int.reduceEq, Int.reduceLT, Int.reduceLE, hl']) (wlk_skip (hn1 _ ?_))
  refine wlk_seq fun X2 hn2 he2 hr2 => ?_
  refine wlk_sreg fun KY hKY => ?_
  simp only [go_sem, reduceIte, Nat.reduceEqDiff, Nat.reduceBEq, reduceCtorEq, Nat.reduceLT, Nat.reduceLeDiff, Nat.reduceAdd, Nat.reduceSub, Nat.reduceMul, Nat.reduceDiv, Int.reduceAdd, Int.reduceNeg, Int.reduceEq, Int.reduceLT, Int.reduceLE, c_garlandhelp_Same_int__r3]
  refine hKY _ ?_
  refine wlk_blk fun X3 hn3 he3 hf3 hr3 => ?_
  refine wlk_loop (fun m s => ∃ (k : Nat) (A16 A29 : AVal), k ≤ xs.length ∧ m = xs.length - k ∧ xs.take k = ys.take k ∧ s = { vs := [(0, .imm 1 (ints xs)), (1, .imm 1 (ints ys)), (2, .fn (.func n_garlandhelp_Plain_int__1) [] []), (6, .sc (.bool false)), (7, .sc (.int .i64 (k : Int))), (12, .sc (.bool (decide (((xs.length : Nat) : Int) ≠ ((ys.length : Nat) : Int))))), (16, A16), (29, A29)], ts := [], h := [] }) xs.length ⟨0, .dead, .dead, Nat.zero_le _, rfl, rfl, ?_⟩ ?_
  · rfl
  rintro m _ ⟨k, A16, A29, hk, rfl, hpre, rfl⟩ X4 hn4 he4 hr4
  refine sem_forget [16, 29] rfl ?_
  simp only [go_sem, reduceIte, Nat.reduceEqDiff, Nat.reduceBEq, reduceCtorEq, Nat.reduceLT, Nat.reduceLeDiff, Nat.reduceAdd, Nat.reduceSub, Nat.reduceMul, Nat.reduceDiv, Int.reduceAdd, Int.reduceNeg, Int.reduceEq, Int.reduceLT, Int.reduceLE]
  refine wlk_seq fun X5 hn5 he5 hr5 => ?_
  refine wlk_seq fun X6 hn6 he6 hr6 => ?_
  refine wlk_reg fun KY hKY => ?_
  simp only [go_sem, reduceIte, Nat.reduceEqDiff, Nat.reduceBEq, reduceCtorEq, Nat.reduceLT, Nat.reduceLeDiff, Nat.reduceAdd, Nat.reduceSub, Nat.reduceMul, Nat.reduceDiv, Int.reduceAdd, Int.reduceNeg, Int.reduceEq, Int.reduceLT, Int.reduceLE, c_garlandhelp_Same_int__r4, Nat.div_one, ints_len]
  refine hKY _ (hn6 _ ?_)
  simp only [go_sem, reduceIte, Nat.reduceEqDiff, Nat.reduceBEq, reduceCtorEq, Nat.reduceLT, Nat.reduceLeDiff, Nat.reduceAdd, Nat.reduceSub, Nat.reduceMul, Nat.reduceDiv, Int.reduceAdd, Int.reduceNeg, Int.reduceEq, Int.reduceLT, Int.reduceLE]
  refine wlk_cond (v := decide ((k : Int) < (xs.length : Int))) rfl (fun h => wlk_skip (hn5 _ ?_)) fun h => wlk_exit (he5 _ _ (he4 _ _ (he3 _ (hn2 _ ?_))))
  · have hlt : k < xs.length := by have := of_decide_eq_true h; omega
    have hlt2 : k < ys.length := by omega
    have hx : xs[k]? = some xs[k] := List.getElem?_eq_getElem hlt
    have hy : ys[k]? = some ys[k] := List.getElem?_eq_getElem hlt2
    have st := alike_snoc hx hy hpre
    refine wlk_seq fun X7 hn7 he7 hr7 => ?_
    refine wlk_blk fun X8 hn8 he8 hf8 hr8 => ?_
    refine wlk_sdraw fun KY hKY => ?_
    simp only [go_sem, reduceIte, Nat.reduceEqDiff, Nat.reduceBEq, reduceCtorEq, Nat.reduceLT, Nat.reduceLeDiff, Nat.reduceAdd, Nat.reduceSub, Nat.reduceMul, Nat.reduceDiv, Int.reduceAdd, Int.reduceNeg, Int.reduceEq, Int.reduceLT, Int.reduceLE, c_garlandhelp_Same_int__r5, ints_len, ints_at hx, ints_at hy, hlt, hlt2]
    refine call_view rfl (by simp only [go_sem, reduceIte, Nat.reduceEqDiff, Nat.reduceBEq, reduceCtorEq, Nat.reduceLT, Nat.reduceLeDiff, Nat.reduceAdd, Nat.reduceSub, Nat.reduceMul, Nat.reduceDiv, Int.reduceAdd, Int.reduceNeg, Int.reduceEq, Int.reduceLT, Int.reduceLE] <;> rfl) ((eqi_ok xs[k] ys[k]).mono ?_)
    rintro rr hh ⟨rfl, rfl⟩
    refine ⟨rfl, rfl, rfl, ?_⟩
    simp only [go_sem, reduceIte, Nat.reduceEqDiff, Nat.reduceBEq, reduceCtorEq, Nat.reduceLT, Nat.reduceLeDiff, Nat.reduceAdd, Nat.reduceSub, Nat.reduceMul, Nat.reduceDiv, Int.reduceAdd, Int.reduceNeg, Int.reduceEq, Int.reduceLT, Int.reduceLE]
    refine hKY _ ?_
    simp only [go_sem, reduceIte, Nat.reduceEqDiff, Nat.reduceBEq, reduceCtorEq, Nat.reduceLT, Nat.reduceLeDiff, Nat.reduceAdd, Nat.reduceSub, Nat.reduceMul, Nat.reduceDiv, Int.reduceAdd, Int.reduceNeg, Int.reduceEq, Int.reduceLT, Int.reduceLE]
    by_cases e : xs[k] = ys[k]
    · refine wlk_cond0 (by simp only [go_sem, reduceIte, Nat.reduceEqDiff, Nat.reduceBEq, reduceCtorEq, Nat.reduceLT, Nat.reduceLeDiff, Nat.reduceAdd, Nat.reduceSub, Nat.reduceMul, Nat.reduceDiv, Int.reduceAdd, Int.reduceNeg, Int.reduceEq, Int.reduceLT, Int.reduceLE, decide_eq_true e]) (wlk_skip (hn8 _ (hn7 _ ?_)))
      refine wlk_reg fun KY hKY => ?_
      simp only [go_sem, reduceIte, Nat.reduceEqDiff, Nat.reduceBEq, reduceCtorEq, Nat.reduceLT, Nat.reduceLeDiff, Nat.reduceAdd, Nat.reduceSub, Nat.reduceMul, Nat.reduceDiv, Int.reduceAdd, Int.reduceNeg, Int.reduceEq, Int.reduceLT, Int.reduceLE, c_garlandhelp_Same_int__r7, inc k (by omega)]
      refine hKY _ (hn4 (xs.length - (k + 1)) _ (by omega) ?_)
      simp only [go_sem, reduceIte, Nat.reduceEqDiff, Nat.reduceBEq, reduceCtorEq, Nat.reduceLT, Nat.reduceLeDiff, Nat.reduceAdd, Nat.reduceSub, Nat.reduceMul, Nat.reduceDiv, Int.reduceAdd, Int.reduceNeg, Int.reduceEq, Int.reduceLT, Int.reduceLE]
      exact ⟨k + 1, _, _, hlt, rfl, st.2 e, rfl⟩
    · refine wlk_cond1 (by simp only [go_sem, reduceIte, Nat.reduceEqDiff, Nat.reduceBEq, reduceCtorEq, Nat.reduceLT, Nat.reduceLeDiff, Nat.reduceAdd, Nat.reduceSub, Nat.reduceMul, Nat.reduceDiv, Int.reduceAdd, Int.reduceNeg, Int.reduceEq, Int.reduceLT, Int.reduceLE, decide_eq_false e]) ?_
      refine wlk_sreg fun KY hKY => ?_
      simp only [go_sem, reduceIte, Nat.reduceEqDiff, Nat.reduceBEq, reduceCtorEq, Nat.reduceLT, Nat.reduceLeDiff, Nat.reduceAdd, Nat.reduceSub, Nat.reduceMul, Nat.reduceDiv, Int.reduceAdd, Int.reduceNeg, Int.reduceEq, Int.reduceLT, Int.reduceLE, c_garlandhelp_Same_int__r6]
      refine hKY _ ?_
      refine wlk_ret (hr8 _ (hr7 _ (hr4 _ (hr3 _ (hr2 _ ?_)))))
      simp only [go_sem, reduceIte, Nat.reduceEqDiff, Nat.reduceBEq, reduceCtorEq, Nat.reduceLT, Nat.reduceLeDiff, Nat.reduceAdd, Nat.reduceSub, Nat.reduceMul, Nat.reduceDiv, Int.reduceAdd, Int.reduceNeg, Int.reduceEq, Int.reduceLT, Int.reduceLE]
      rw [decide_eq_false (fun e' : xs = ys => e (by subst e'; rfl))]
  · have hkn : k = xs.length := by have := of_decide_eq_false h; omega
    refine wlk_sreg fun KY hKY => ?_
    simp only [go_sem, reduceIte, Nat.reduceEqDiff, Nat.reduceBEq, reduceCtorEq, Nat.reduceLT, Nat.reduceLeDiff, Nat.reduceAdd, Nat.reduceSub, Nat.reduceMul, Nat.reduceDiv, Int.reduceAdd, Int.reduceNeg, Int.reduceEq, Int.reduceLT, Int.reduceLE, c_garlandhelp_Same_int__r8]
    refine hKY _ ?_
    refine wlk_ret ?_
    simp only [go_sem, reduceIte, Nat.reduceEqDiff, Nat.reduceBEq, reduceCtorEq, Nat.reduceLT, Nat.reduceLeDiff, Nat.reduceAdd, Nat.reduceSub, Nat.reduceMul, Nat.reduceDiv, Int.reduceAdd, Int.reduceNeg, Int.reduceEq, Int.reduceLT, Int.reduceLE]
    rw [hkn, List.take_length, hl, List.take_length] at hpre
    rw [decide_eq_true hpre]
theorem plaini_ok (xs ys : List Int) (hb : xs.length ≤ 1000000000) : ACalls Try.prog [] n_garlandhelp_Plain_int_ [.imm 1 (ints xs), .imm 1 (ints ys)] [] fun r h' => r = .sc (.bool (decide (xs = ys))) ∧ h' = [] := by
  refine go_garlandhelp_Plain_int_ rfl ?_
  unfold c_garlandhelp_Plain_int_ v_garlandhelp_Plain_int_
  refine wlk_sreg fun KY hKY => ?_
  simp only [go_sem, reduceIte, Nat.reduceEqDiff, Nat.reduceBEq, reduceCtorEq, Nat.reduceLT, Nat.reduceLeDiff, Nat.reduceAdd, Nat.reduceSub, Nat.reduceMul, Nat.reduceDiv, Int.reduceAdd, Int.reduceNeg, Int.reduceEq, Int.reduceLT, Int.reduceLE, c_garlandhelp_Plain_int__r0]
  refine hKY _ ?_
  refine wlk_sreg fun KY hKY => ?_
  simp only [go_sem, reduceIte, Nat.reduceEqDiff, Nat.reduceBEq, reduceCtorEq, Nat.reduceLT, Nat.reduceLeDiff, Nat.reduceAdd, Nat.reduceSub, Nat.reduceMul, Nat.reduceDiv, Int.reduceAdd, Int.reduceNeg, Int.reduceEq, Int.reduceLT, Int.reduceLE, c_garlandhelp_Plain_int__r1]
  refine call_view rfl (by simp only [go_sem, reduceIte, Nat.reduceEqDiff, Nat.reduceBEq, reduceCtorEq, Nat.reduceLT, Nat.reduceLeDiff, Nat.reduceAdd, Nat.reduceSub, Nat.reduceMul, Nat.reduceDiv, Int.reduceAdd, Int.reduceNeg, Int.reduceEq, Int.reduceLT, Int.reduceLE] <;> rfl) ((samei_ok xs ys hb).mono ?_)
  rintro rr hh ⟨rfl, rfl⟩
  refine ⟨rfl, rfl, rfl, ?_⟩
  simp only [go_sem, reduceIte, Nat.reduceEqDiff, Nat.reduceBEq, reduceCtorEq, Nat.reduceLT, Nat.reduceLeDiff, Nat.reduceAdd, Nat.reduceSub, Nat.reduceMul, Nat.reduceDiv, Int.reduceAdd, Int.reduceNeg, Int.reduceEq, Int.reduceLT, Int.reduceLE]
  refine hKY _ ?_
  refine wlk_ret ?_
  simp only [go_sem, reduceIte, Nat.reduceEqDiff, Nat.reduceBEq, reduceCtorEq, Nat.reduceLT, Nat.reduceLeDiff, Nat.reduceAdd, Nat.reduceSub, Nat.reduceMul, Nat.reduceDiv, Int.reduceAdd, Int.reduceNeg, Int.reduceEq, Int.reduceLT, Int.reduceLE]
theorem plainn_ok (xs ys : List Nat) (hb : xs.length ≤ 1000000000) : ACalls Try.prog [] n_garlandhelp_Plain_int_ [.imm 1 (nats xs), .imm 1 (nats ys)] [] fun r h' => r = .sc (.bool (decide (xs = ys))) ∧ h' = [] := by
  rw [nats_ints, nats_ints]
  refine (plaini_ok _ _ (by simpa using hb)).mono fun r h' ⟨h1, h2⟩ => ⟨?_, h2⟩
  rw [h1]
  congr 2
  rw [decide_eq_decide]
  refine ⟨fun h => ?_, fun h => by rw [h]⟩
  exact List.map_inj_right (fun a b hab => by omega) |>.1 h
theorem samer_ok (xs ys : List (List Nat)) (hb : xs.length ≤ 1000000000) (hr : ∀ x ∈ xs, x.length ≤ 1000000000) : ACalls Try.prog [] n_garlandhelp_Same___int_ [.imm 1 (rowsI xs), .imm 1 (rowsI ys), .fn (.func n_garlandhelp_Plain_int_) [] []] [] fun r h' => r = .sc (.bool (decide (xs = ys))) ∧ h' = [] := by
  refine go_garlandhelp_Same___int_ rfl ?_
  unfold c_garlandhelp_Same___int_ v_garlandhelp_Same___int_
  refine wlk_sreg fun KY hKY => ?_
  simp only [go_sem, reduceIte, Nat.reduceEqDiff, Nat.reduceBEq, reduceCtorEq, Nat.reduceLT, Nat.reduceLeDiff, Nat.reduceAdd, Nat.reduceSub, Nat.reduceMul, Nat.reduceDiv, Int.reduceAdd, Int.reduceNeg, Int.reduceEq, Int.reduceLT, Int.reduceLE, c_garlandhelp_Same___int__r0]
  refine hKY _ ?_
  refine wlk_seq fun X1 hn1 he1 hr1 => ?_
  refine wlk_sreg fun KY hKY => ?_
  simp only [go_sem, reduceIte, Nat.reduceEqDiff, Nat.reduceBEq, reduceCtorEq, Nat.reduceLT, Nat.reduceLeDiff, Nat.reduceAdd, Nat.reduceSub, Nat.reduceMul, Nat.reduceDiv, Int.reduceAdd, Int.reduceNeg, Int.reduceEq, Int.reduceLT, Int.reduceLE, c_garlandhelp_Same___int__r1, Nat.div_one, rowsI_len]
  refine hKY _ ?_
  simp only [go_sem, reduceIte, Nat.reduceEqDiff, Nat.reduceBEq, reduceCtorEq, Nat.reduceLT, Nat.reduceLeDiff, Nat.reduceAdd, Nat.reduceSub, Nat.reduceMul, Nat.reduceDiv, Int.reduceAdd, Int.reduceNeg, Int.reduceEq, Int.reduceLT, Int.reduceLE]
  by_cases hl : xs.length = ys.length
  case neg =>
    have hl' : decide (((xs.length : Nat) : Int) ≠ ((ys.length : Nat) : Int)) = true := decide_eq_true (by omega)
    refine wlk_cond1 (by simp only [go_sem, reduceIte, Nat.reduceEqDiff, Nat.reduceBEq, reduceCtorEq, Nat.reduceLT, Nat.reduceLeDiff, Nat.reduceAdd, Nat.reduceSub, Nat.reduceMul, Nat.reduceDiv, Int.reduceAdd, Int.reduceNeg, Int.reduceEq, Int.reduceLT, Int.reduceLE, hl']) ?_
    refine wlk_sreg fun KY hKY => ?_
    simp only [go_sem, reduceIte, Nat.reduceEqDiff, Nat.reduceBEq, reduceCtorEq, Nat.reduceLT, Nat.reduceLeDiff, Nat.reduceAdd, Nat.reduceSub, Nat.reduceMul, Nat.reduceDiv, Int.reduceAdd, Int.reduceNeg, Int.reduceEq, Int.reduceLT, Int.reduceLE, c_garlandhelp_Same___int__r2]
    refine hKY _ ?_
    refine wlk_ret (hr1 _ ?_)
    simp only [go_sem, reduceIte, Nat.reduceEqDiff, Nat.reduceBEq, reduceCtorEq, Nat.reduceLT, Nat.reduceLeDiff, Nat.reduceAdd, Nat.reduceSub, Nat.reduceMul, Nat.reduceDiv, Int.reduceAdd, Int.reduceNeg, Int.reduceEq, Int.reduceLT, Int.reduceLE]
    rw [decide_eq_false (fun e : xs = ys => hl (by rw [e]))]
  have hl' : decide (((xs.length : Nat) : Int) ≠ ((ys.length : Nat) : Int)) = false := decide_eq_false (by omega)
  refine wlk_cond0 (by simp only [go_sem, reduceIte, Nat.reduceEqDiff, Nat.reduceBEq, reduceCtorEq, Nat.reduceLT, Nat.reduceLeDiff, Nat.reduceAdd, Nat.reduceSub, Nat.reduceMul, Nat.reduceDiv, Int.reduceAdd, Int.reduceNeg, Int.reduceEq, Int.reduceLT, Int.reduceLE, hl']) (wlk_skip (hn1 _ ?_))
  refine wlk_seq fun X2 hn2 he2 hr2 => ?_
  refine wlk_sreg fun KY hKY => ?_
  simp only [go_sem, reduceIte, Nat.reduceEqDiff, Nat.reduceBEq, reduceCtorEq, Nat.reduceLT, Nat.reduceLeDiff, Nat.reduceAdd, Nat.reduceSub, Nat.reduceMul, Nat.reduceDiv, Int.reduceAdd, Int.reduceNeg, Int.reduceEq, Int.reduceLT, Int.reduceLE, c_garlandhelp_Same___int__r3]
  refine hKY _ ?_
  refine wlk_blk fun X3 hn3 he3 hf3 hr3 => ?_
  refine wlk_loop (fun m s => ∃ (k : Nat) (A16 A29 : AVal), k ≤ xs.length ∧ m = xs.length - k ∧ xs.take k = ys.take k ∧ s = { vs := [(0, .imm 1 (rowsI xs)), (1, .imm 1 (rowsI ys)), (2, .fn (.func n_garlandhelp_Plain_int_) [] []), (6, .sc (.bool false)), (7, .sc (.int .i64 (k : Int))), (12, .sc (.bool (decide (((xs.length : Nat) : Int) ≠ ((ys.length : Nat) : Int))))), (16, A16), (29, A29)], ts := [], h := [] }) xs.length ⟨0, .dead, .dead, Nat.zero_le _, rfl, rfl, ?_⟩ ?_
  · rfl
  rintro m _ ⟨k, A16, A29, hk, rfl, hpre, rfl⟩ X4 hn4 he4 hr4
  refine sem_forget [16, 29] rfl ?_
  simp only [go_sem, reduceIte, Nat.reduceEqDiff, Nat.reduceBEq, reduceCtorEq, Nat.reduceLT, Nat.reduceLeDiff, Nat.reduceAdd, Nat.reduceSub, Nat.reduceMul, Nat.reduceDiv, Int.reduceAdd, Int.reduceNeg, Int.reduceEq, Int.reduceLT, Int.reduceLE]
  refine wlk_seq fun X5 hn5 he5 hr5 => ?_
  refine wlk_seq fun X6 hn6 he6 hr6 => ?_
  refine wlk_reg fun KY hKY => ?_
  simp only [go_sem, reduceIte, Nat.reduceEqDiff, Nat.reduceBEq, reduceCtorEq, Nat.reduceLT, Nat.reduceLeDiff, Nat.reduceAdd, Nat.reduceSub, Nat.reduceMul, Nat.reduceDiv, Int.reduceAdd, Int.reduceNeg, Int.reduceEq, Int.reduceLT, Int.reduceLE, c_garlandhelp_Same___int__r4, Nat.div_one, rowsI_len]
  refine hKY _ (hn6 _ ?_)
  simp only [go_sem, reduceIte, Nat.reduceEqDiff, Nat.reduceBEq, reduceCtorEq, Nat.reduceLT, Nat.reduceLeDiff, Nat.reduceAdd, Nat.reduceSub, Nat.reduceMul, Nat.reduceDiv, Int.reduceAdd, Int.reduceNeg, Int.reduceEq, Int.reduceLT, Int.reduceLE]
  refine wlk_cond (v := decide ((k : Int) < (xs.length : Int))) rfl (fun h => wlk_skip (hn5 _ ?_)) fun h => wlk_exit (he5 _ _ (he4 _ _ (he3 _ (hn2 _ ?_))))
  · have hlt : k < xs.length := by have := of_decide_eq_true h; omega
    have hlt2 : k < ys.length := by omega
    have hx : xs[k]? = some xs[k] := List.getElem?_eq_getElem hlt
    have hy : ys[k]? = some ys[k] := List.getElem?_eq_getElem hlt2
    have st := alike_snoc hx hy hpre
    refine wlk_seq fun X7 hn7 he7 hr7 => ?_
    refine wlk_blk fun X8 hn8 he8 hf8 hr8 => ?_
    refine wlk_sdraw fun KY hKY => ?_
    simp only [go_sem, reduceIte, Nat.reduceEqDiff, Nat.reduceBEq, reduceCtorEq, Nat.reduceLT, Nat.reduceLeDiff, Nat.reduceAdd, Nat.reduceSub, Nat.reduceMul, Nat.reduceDiv, Int.reduceAdd, Int.reduceNeg, Int.reduceEq, Int.reduceLT, Int.reduceLE, c_garlandhelp_Same___int__r5, rowsI_len, rowsI_get hx, rowsI_get hy, hlt, hlt2]
    refine call_view rfl (by simp only [go_sem, reduceIte, Nat.reduceEqDiff, Nat.reduceBEq, reduceCtorEq, Nat.reduceLT, Nat.reduceLeDiff, Nat.reduceAdd, Nat.reduceSub, Nat.reduceMul, Nat.reduceDiv, Int.reduceAdd, Int.reduceNeg, Int.reduceEq, Int.reduceLT, Int.reduceLE] <;> rfl) ((plainn_ok xs[k] ys[k] (hr _ (List.getElem_mem hlt))).mono ?_)
    rintro rr hh ⟨rfl, rfl⟩
    refine ⟨rfl, rfl, rfl, ?_⟩
    simp only [go_sem, reduceIte, Nat.reduceEqDiff, Nat.reduceBEq, reduceCtorEq, Nat.reduceLT, Nat.reduceLeDiff, Nat.reduceAdd, Nat.reduceSub, Nat.reduceMul, Nat.reduceDiv, Int.reduceAdd, Int.reduceNeg, Int.reduceEq, Int.reduceLT, Int.reduceLE]
    refine hKY _ ?_
    simp only [go_sem, reduceIte, Nat.reduceEqDiff, Nat.reduceBEq, reduceCtorEq, Nat.reduceLT, Nat.reduceLeDiff, Nat.reduceAdd, Nat.reduceSub, Nat.reduceMul, Nat.reduceDiv, Int.reduceAdd, Int.reduceNeg, Int.reduceEq, Int.reduceLT, Int.reduceLE]
    by_cases e : xs[k] = ys[k]
    · refine wlk_cond0 (by simp only [go_sem, reduceIte, Nat.reduceEqDiff, Nat.reduceBEq, reduceCtorEq, Nat.reduceLT, Nat.reduceLeDiff, Nat.reduceAdd, Nat.reduceSub, Nat.reduceMul, Nat.reduceDiv, Int.reduceAdd, Int.reduceNeg, Int.reduceEq, Int.reduceLT, Int.reduceLE, decide_eq_true e]) (wlk_skip (hn8 _ (hn7 _ ?_)))
      refine wlk_reg fun KY hKY => ?_
      simp only [go_sem, reduceIte, Nat.reduceEqDiff, Nat.reduceBEq, reduceCtorEq, Nat.reduceLT, Nat.reduceLeDiff, Nat.reduceAdd, Nat.reduceSub, Nat.reduceMul, Nat.reduceDiv, Int.reduceAdd, Int.reduceNeg, Int.reduceEq, Int.reduceLT, Int.reduceLE, c_garlandhelp_Same___int__r7, inc k (by omega)]
      refine hKY _ (hn4 (xs.length - (k + 1)) _ (by omega) ?_)
      simp only [go_sem, reduceIte, Nat.reduceEqDiff, Nat.reduceBEq, reduceCtorEq, Nat.reduceLT, Nat.reduceLeDiff, Nat.reduceAdd, Nat.reduceSub, Nat.reduceMul, Nat.reduceDiv, Int.reduceAdd, Int.reduceNeg, Int.reduceEq, Int.reduceLT, Int.reduceLE]
      exact ⟨k + 1, _, _, hlt, rfl, st.2 e, rfl⟩
    · refine wlk_cond1 (by simp only [go_sem, reduceIte, Nat.reduceEqDiff, Nat.reduceBEq, reduceCtorEq, Nat.reduceLT, Nat.reduceLeDiff, Nat.reduceAdd, Nat.reduceSub, Nat.reduceMul, Nat.reduceDiv, Int.reduceAdd, Int.reduceNeg, Int.reduceEq, Int.reduceLT, Int.reduceLE, decide_eq_false e]) ?_
      refine wlk_sreg fun KY hKY => ?_
      simp only [go_sem, reduceIte, Nat.reduceEqDiff, Nat.reduceBEq, reduceCtorEq, Nat.reduceLT, Nat.reduceLeDiff, Nat.reduceAdd, Nat.reduceSub, Nat.reduceMul, Nat.reduceDiv, Int.reduceAdd, Int.reduceNeg, Int.reduceEq, Int.reduceLT, Int.reduceLE, c_garlandhelp_Same___int__r6]
      refine hKY _ ?_
      refine wlk_ret (hr8 _ (hr7 _ (hr4 _ (hr3 _ (hr2 _ ?_)))))
      simp only [go_sem, reduceIte, Nat.reduceEqDiff, Nat.reduceBEq, reduceCtorEq, Nat.reduceLT, Nat.reduceLeDiff, Nat.reduceAdd, Nat.reduceSub, Nat.reduceMul, Nat.reduceDiv, Int.reduceAdd, Int.reduceNeg, Int.reduceEq, Int.reduceLT, Int.reduceLE]
      rw [decide_eq_false (fun e' : xs = ys => e (by subst e'; rfl))]
  · have hkn : k = xs.length := by have := of_decide_eq_false h; omega
    refine wlk_sreg fun KY hKY => ?_
    simp only [go_sem, reduceIte, Nat.reduceEqDiff, Nat.reduceBEq, reduceCtorEq, Nat.reduceLT, Nat.reduceLeDiff, Nat.reduceAdd, Nat.reduceSub, Nat.reduceMul, Nat.reduceDiv, Int.reduceAdd, Int.reduceNeg, Int.reduceEq, Int.reduceLT, Int.reduceLE, c_garlandhelp_Same___int__r8]
    refine hKY _ ?_
    refine wlk_ret ?_
    simp only [go_sem, reduceIte, Nat.reduceEqDiff, Nat.reduceBEq, reduceCtorEq, Nat.reduceLT, Nat.reduceLeDiff, Nat.reduceAdd, Nat.reduceSub, Nat.reduceMul, Nat.reduceDiv, Int.reduceAdd, Int.reduceNeg, Int.reduceEq, Int.reduceLT, Int.reduceLE]
    rw [hkn, List.take_length, hl, List.take_length] at hpre
    rw [decide_eq_true hpre]
theorem hlists_ok (xs ys : List (List Nat)) (hb : xs.length ≤ 1000000000) (hr : ∀ x ∈ xs, x.length ≤ 1000000000) : ACalls Try.prog [] n_garlandhelp_Lists [.imm 1 (rowsI xs), .imm 1 (rowsI ys)] [] fun r h' => r = .sc (.bool (decide (xs = ys))) ∧ h' = [] := by
  refine go_garlandhelp_Lists rfl ?_
  unfold c_garlandhelp_Lists v_garlandhelp_Lists
  refine wlk_sreg fun KY hKY => ?_
  simp only [go_sem, reduceIte, Nat.reduceEqDiff, Nat.reduceBEq, reduceCtorEq, Nat.reduceLT, Nat.reduceLeDiff, Nat.reduceAdd, Nat.reduceSub, Nat.reduceMul, Nat.reduceDiv, Int.reduceAdd, Int.reduceNeg, Int.reduceEq, Int.reduceLT, Int.reduceLE, c_garlandhelp_Lists_r0]
  refine hKY _ ?_
  refine wlk_sreg fun KY hKY => ?_
  simp only [go_sem, reduceIte, Nat.reduceEqDiff, Nat.reduceBEq, reduceCtorEq, Nat.reduceLT, Nat.reduceLeDiff, Nat.reduceAdd, Nat.reduceSub, Nat.reduceMul, Nat.reduceDiv, Int.reduceAdd, Int.reduceNeg, Int.reduceEq, Int.reduceLT, Int.reduceLE, c_garlandhelp_Lists_r1]
  refine call_view rfl (by simp only [go_sem, reduceIte, Nat.reduceEqDiff, Nat.reduceBEq, reduceCtorEq, Nat.reduceLT, Nat.reduceLeDiff, Nat.reduceAdd, Nat.reduceSub, Nat.reduceMul, Nat.reduceDiv, Int.reduceAdd, Int.reduceNeg, Int.reduceEq, Int.reduceLT, Int.reduceLE] <;> rfl) ((samer_ok xs ys hb hr).mono ?_)
  rintro rr hh ⟨rfl, rfl⟩
  refine ⟨rfl, rfl, rfl, ?_⟩
  simp only [go_sem, reduceIte, Nat.reduceEqDiff, Nat.reduceBEq, reduceCtorEq, Nat.reduceLT, Nat.reduceLeDiff, Nat.reduceAdd, Nat.reduceSub, Nat.reduceMul, Nat.reduceDiv, Int.reduceAdd, Int.reduceNeg, Int.reduceEq, Int.reduceLT, Int.reduceLE]
  refine hKY _ ?_
  refine wlk_ret ?_
  simp only [go_sem, reduceIte, Nat.reduceEqDiff, Nat.reduceBEq, reduceCtorEq, Nat.reduceLT, Nat.reduceLeDiff, Nat.reduceAdd, Nat.reduceSub, Nat.reduceMul, Nat.reduceDiv, Int.reduceAdd, Int.reduceNeg, Int.reduceEq, Int.reduceLT, Int.reduceLE]
end Go.Proofs.Ytmpbfdakdoicjaa
set_option maxRecDepth 100000
set_option maxHeartbeats 4000000
namespace Go.Proofs.Ytmpbfdakdoicjaa
open Go Go.Ga Go.Ga.Gl
theorem index_ok (xs : List Int) (v : Int) (hb : xs.length ≤ 1000000000) : ACalls Try.prog [] n_slices_Index___int_int_ [.imm 1 (ints xs), .sc (.int .i64 v)] [] fun r h' => (∃ k : Int, r = .sc (.int .i64 k) ∧ (0 ≤ k ↔ ∃ x ∈ xs, v = x)) ∧ h' = [] := by
  refine go_slices_Index___int_int_ rfl ?_
  unfold c_slices_Index___int_int_ v_slices_Index___int_int_
  refine wlk_sreg fun KY hKY => ?_
  simp only [go_sem, reduceIte, Nat.reduceEqDiff, Nat.reduceBEq, reduceCtorEq, Nat.reduceLT, Nat.reduceLeDiff, Nat.reduceAdd, Nat.reduceSub, Nat.reduceMul, Nat.reduceDiv, Int.reduceAdd, Int.reduceNeg, Int.reduceEq, Int.reduceLT, Int.reduceLE, c_slices_Index___int_int__r0]
  refine hKY _ ?_
  refine wlk_seq fun X1 hn1 he1 hr1 => ?_
  refine wlk_sreg fun KY hKY => ?_
  simp only [go_sem, reduceIte, Nat.reduceEqDiff, Nat.reduceBEq, reduceCtorEq, Nat.reduceLT, Nat.reduceLeDiff, Nat.reduceAdd, Nat.reduceSub, Nat.reduceMul, Nat.reduceDiv, Int.reduceAdd, Int.reduceNeg, Int.reduceEq, Int.reduceLT, Int.reduceLE, c_slices_Index___int_int__r1, ints_len]
  refine hKY _ ?_
  refine wlk_blk fun X2 hn2 he2 hf2 hr2 => ?_
  try simp only [go_sem, reduceIte, Nat.reduceEqDiff, Nat.reduceBEq, reduceCtorEq, Nat.reduceLT, Nat.reduceLeDiff, Nat.reduceAdd, Nat.reduceSub, Nat.reduceMul, Nat.reduceDiv, Int.reduceAdd, Int.reduceNeg, Int.reduceEq, Int.reduceLT, Int.reduceLE]
  refine wlk_lp (α := Nat) [5, 9, 16] (fun k => [(8, .sc (.int .i64 (k : Int)))]) (fun k => []) (fun k q => k ≤ xs.length ∧ q = xs.length - k ∧ ∀ j x, j < k → xs[j]? = some x → ¬ v = x) (0) (xs.length) rfl (by first | (simp only [go_sem, reduceIte, Nat.reduceEqDiff, Nat.reduceBEq, reduceCtorEq, Nat.reduceLT, Nat.reduceLeDiff, Nat.reduceAdd, Nat.reduceSub, Nat.reduceMul, Nat.reduceDiv, Int.reduceAdd, Int.reduceNeg, Int.reduceEq, Int.reduceLT, Int.reduceLE, updAll_cons, updAll_nil]; done) | rfl) (⟨by omega, rfl, fun j x h => by omega⟩) ?_
  rintro k q ⟨hk, rfl, hz⟩ X3 hn3 he3 hr3
  simp only [go_sem, reduceIte, Nat.reduceEqDiff, Nat.reduceBEq, reduceCtorEq, Nat.reduceLT, Nat.reduceLeDiff, Nat.reduceAdd, Nat.reduceSub, Nat.reduceMul, Nat.reduceDiv, Int.reduceAdd, Int.reduceNeg, Int.reduceEq, Int.reduceLT, Int.reduceLE, updAll_cons, updAll_nil]
  refine wlk_sreg fun KY hKY => ?_
  simp only [go_sem, reduceIte, Nat.reduceEqDiff, Nat.reduceBEq, reduceCtorEq, Nat.reduceLT, Nat.reduceLeDiff, Nat.reduceAdd, Nat.reduceSub, Nat.reduceMul, Nat.reduceDiv, Int.reduceAdd, Int.reduceNeg, Int.reduceEq, Int.reduceLT, Int.reduceLE, c_slices_Index___int_int__r2]
  refine hKY _ ?_
  refine wlk_seq fun X4 hn4 he4 hr4 => ?_
  by_cases hk2 : k < xs.length
  · refine wlk_cond1 (by first | rfl | (simp only [go_sem, reduceIte, Nat.reduceEqDiff, Nat.reduceBEq, reduceCtorEq, Nat.reduceLT, Nat.reduceLeDiff, Nat.reduceAdd, Nat.reduceSub, Nat.reduceMul, Nat.reduceDiv, Int.reduceAdd, Int.reduceNeg, Int.reduceEq, Int.reduceLT, Int.reduceLE]; try simp (disch := omega) only [decide_eq_true, decide_eq_false])) ?_
    refine wlk_skip ?_
    repeat (first | refine hn4 _ ?_ | refine he4 _ _ ?_ | refine hr4 _ ?_ | refine he3 _ _ ?_ | refine hr3 _ ?_ | refine hn2 _ ?_ | refine he2 _ ?_ | refine hf2 _ _ (by decide) ?_ | refine hr2 _ ?_ | refine hn1 _ ?_ | refine he1 _ _ ?_ | refine hr1 _ ?_)
    refine wlk_seq fun X5 hn5 he5 hr5 => ?_
    refine wlk_blk fun X6 hn6 he6 hf6 hr6 => ?_
    have hx : xs[k]? = some xs[k] := List.getElem?_eq_getElem hk2
    have hmem : xs[k] ∈ xs := List.getElem_mem hk2
    generalize xs[k] = x at hx hmem
    refine wlk_sreg fun KY hKY => ?_
    simp only [go_sem, reduceIte, Nat.reduceEqDiff, Nat.reduceBEq, reduceCtorEq, Nat.reduceLT, Nat.reduceLeDiff, Nat.reduceAdd, Nat.reduceSub, Nat.reduceMul, Nat.reduceDiv, Int.reduceAdd, Int.reduceNeg, Int.reduceEq, Int.reduceLT, Int.reduceLE, c_slices_Index___int_int__r3]
    refine hKY _ ?_
    refine wlk_sreg fun KY hKY => ?_
    simp only [go_sem, reduceIte, Nat.reduceEqDiff, Nat.reduceBEq, reduceCtorEq, Nat.reduceLT, Nat.reduceLeDiff, Nat.reduceAdd, Nat.reduceSub, Nat.reduceMul, Nat.reduceDiv, Int.reduceAdd, Int.reduceNeg, Int.reduceEq, Int.reduceLT, Int.reduceLE, c_slices_Index___int_int__r4, ints_at hx, hk2]
    refine hKY _ ?_
    by_cases hp : v = x
    · refine wlk_cond1 (by first | rfl | (simp only [go_sem, reduceIte, Nat.reduceEqDiff, Nat.reduceBEq, reduceCtorEq, Nat.reduceLT, Nat.reduceLeDiff, Nat.reduceAdd, Nat.reduceSub, Nat.reduceMul, Nat.reduceDiv, Int.reduceAdd, Int.reduceNeg, Int.reduceEq, Int.reduceLT, Int.reduceLE, hp]; try simp (disch := omega) only [decide_eq_true, decide_eq_false])) ?_
      refine wlk_sreg fun KY hKY => ?_
      simp only [go_sem, reduceIte, Nat.reduceEqDiff, Nat.reduceBEq, reduceCtorEq, Nat.reduceLT, Nat.reduceLeDiff, Nat.reduceAdd, Nat.reduceSub, Nat.reduceMul, Nat.reduceDiv, Int.reduceAdd, Int.reduceNeg, Int.reduceEq, Int.reduceLT, Int.reduceLE, c_slices_Index___int_int__r5]
      refine hKY _ ?_
      refine wlk_ret ?_
      repeat (first | refine hn6 _ ?_ | refine he6 _ ?_ | refine hf6 _ _ (by decide) ?_ | refine hr6 _ ?_ | refine hn5 _ ?_ | refine he5 _ _ ?_ | refine hr5 _ ?_ | refine hn4 _ ?_ | refine he4 _ _ ?_ | refine hr4 _ ?_ | refine he3 _ _ ?_ | refine hr3 _ ?_ | refine hn2 _ ?_ | refine he2 _ ?_ | refine hf2 _ _ (by decide) ?_ | refine hr2 _ ?_ | refine hn1 _ ?_ | refine he1 _ _ ?_ | refine hr1 _ ?_)
      simp only [go_sem, reduceIte, Nat.reduceEqDiff, Nat.reduceBEq, reduceCtorEq, Nat.reduceLT, Nat.reduceLeDiff, Nat.reduceAdd, Nat.reduceSub, Nat.reduceMul, Nat.reduceDiv, Int.reduceAdd, Int.reduceNeg, Int.reduceEq, Int.reduceLT, Int.reduceLE]
      exact ⟨(k : Int), rfl, fun _ => ⟨x, hmem, hp⟩, fun _ => by omega⟩
    · refine wlk_cond0 (by first | rfl | (simp only [go_sem, reduceIte, Nat.reduceEqDiff, Nat.reduceBEq, reduceCtorEq, Nat.reduceLT, Nat.reduceLeDiff, Nat.reduceAdd, Nat.reduceSub, Nat.reduceMul, Nat.reduceDiv, Int.reduceAdd, Int.reduceNeg, Int.reduceEq, Int.reduceLT, Int.reduceLE, hp]; try simp (disch := omega) only [decide_eq_true, decide_eq_false])) ?_
      refine wlk_skip ?_
      repeat (first | refine hn6 _ ?_ | refine he6 _ ?_ | refine hf6 _ _ (by decide) ?_ | refine hr6 _ ?_ | refine hn5 _ ?_ | refine he5 _ _ ?_ | refine hr5 _ ?_ | refine hn4 _ ?_ | refine he4 _ _ ?_ | refine hr4 _ ?_ | refine he3 _ _ ?_ | refine hr3 _ ?_ | refine hn2 _ ?_ | refine he2 _ ?_ | refine hf2 _ _ (by decide) ?_ | refine hr2 _ ?_ | refine hn1 _ ?_ | refine he1 _ _ ?_ | refine hr1 _ ?_)
      refine wlk_reg fun KY hKY => ?_
      simp only [go_sem, reduceIte, Nat.reduceEqDiff, Nat.reduceBEq, reduceCtorEq, Nat.reduceLT, Nat.reduceLeDiff, Nat.reduceAdd, Nat.reduceSub, Nat.reduceMul, Nat.reduceDiv, Int.reduceAdd, Int.reduceNeg, Int.reduceEq, Int.reduceLT, Int.reduceLE, c_slices_Index___int_int__r6, inc k (by omega)]
      refine hKY _ ?_
      repeat (first | refine hn6 _ ?_ | refine he6 _ ?_ | refine hf6 _ _ (by decide) ?_ | refine hr6 _ ?_ | refine hn5 _ ?_ | refine he5 _ _ ?_ | refine hr5 _ ?_ | refine hn4 _ ?_ | refine he4 _ _ ?_ | refine hr4 _ ?_ | refine he3 _ _ ?_ | refine hr3 _ ?_ | refine hn2 _ ?_ | refine he2 _ ?_ | refine hf2 _ _ (by decide) ?_ | refine hr2 _ ?_ | refine hn1 _ ?_ | refine he1 _ _ ?_ | refine hr1 _ ?_)
      refine hn3 _ (k + 1) (xs.length - (k + 1)) (by omega) (by first | (simp only [go_sem, reduceIte, Nat.reduceEqDiff, Nat.reduceBEq, reduceCtorEq, Nat.reduceLT, Nat.reduceLeDiff, Nat.reduceAdd, Nat.reduceSub, Nat.reduceMul, Nat.reduceDiv, Int.reduceAdd, Int.reduceNeg, Int.reduceEq, Int.reduceLT, Int.reduceLE, updAll_cons, updAll_nil]; done) | rfl) ?_
      refine ⟨hk2, rfl, fun j y hj hy => ?_⟩
      rcases Nat.lt_or_ge j k with h | h
      · exact hz j y h hy
      · obtain rfl : j = k := by omega
        rw [hx] at hy; cases hy; exact hp
  · refine wlk_cond0 (by first | rfl | (simp only [go_sem, reduceIte, Nat.reduceEqDiff, Nat.reduceBEq, reduceCtorEq, Nat.reduceLT, Nat.reduceLeDiff, Nat.reduceAdd, Nat.reduceSub, Nat.reduceMul, Nat.reduceDiv, Int.reduceAdd, Int.reduceNeg, Int.reduceEq, Int.reduceLT, Int.reduceLE]; try simp (disch := omega) only [decide_eq_true, decide_eq_false])) ?_
    refine wlk_exit ?_
    repeat (first | refine hn4 _ ?_ | refine he4 _ _ ?_ | refine hr4 _ ?_ | refine he3 _ _ ?_ | refine hr3 _ ?_ | refine hn2 _ ?_ | refine he2 _ ?_ | refine hf2 _ _ (by decide) ?_ | refine hr2 _ ?_ | refine hn1 _ ?_ | refine he1 _ _ ?_ | refine hr1 _ ?_)
    refine wlk_sreg fun KY hKY => ?_
    simp only [go_sem, reduceIte, Nat.reduceEqDiff, Nat.reduceBEq, reduceCtorEq, Nat.reduceLT, Nat.reduceLeDiff, Nat.reduceAdd, Nat.reduceSub, Nat.reduceMul, Nat.reduceDiv, Int.reduceAdd, Int.reduceNeg, Int.reduceEq, Int.reduceLT, Int.reduceLE, c_slices_Index___int_int__r7]
    refine hKY _ ?_
    refine wlk_ret ?_
    repeat (first | refine hn4 _ ?_ | refine he4 _ _ ?_ | refine hr4 _ ?_ | refine he3 _ _ ?_ | refine hr3 _ ?_ | refine hn2 _ ?_ | refine he2 _ ?_ | refine hf2 _ _ (by decide) ?_ | refine hr2 _ ?_ | refine hn1 _ ?_ | refine he1 _ _ ?_ | refine hr1 _ ?_)
    simp only [go_sem, reduceIte, Nat.reduceEqDiff, Nat.reduceBEq, reduceCtorEq, Nat.reduceLT, Nat.reduceLeDiff, Nat.reduceAdd, Nat.reduceSub, Nat.reduceMul, Nat.reduceDiv, Int.reduceAdd, Int.reduceNeg, Int.reduceEq, Int.reduceLT, Int.reduceLE]
    refine ⟨-1, rfl, fun h => by omega, fun ⟨x, hx, hp⟩ => ?_⟩
    obtain ⟨j, hj⟩ := List.mem_iff_getElem?.1 hx
    exact (hz j x (by have := (List.getElem?_eq_some_iff.1 hj).1; omega) hj hp).elim
theorem contains_ok (xs : List Int) (v : Int) (hb : xs.length ≤ 1000000000) : ACalls Try.prog [] n_slices_Contains___int_int_ [.imm 1 (ints xs), .sc (.int .i64 v)] [] fun r h' => r = .sc (.bool (decide (v ∈ xs))) ∧ h' = [] := by
  refine go_slices_Contains___int_int_ rfl ?_
  unfold c_slices_Contains___int_int_ v_slices_Contains___int_int_
  refine wlk_sreg fun KY hKY => ?_
  simp only [go_sem, reduceIte, Nat.reduceEqDiff, Nat.reduceBEq, reduceCtorEq, Nat.reduceLT, Nat.reduceLeDiff, Nat.reduceAdd, Nat.reduceSub, Nat.reduceMul, Nat.reduceDiv, Int.reduceAdd, Int.reduceNeg, Int.reduceEq, Int.reduceLT, Int.reduceLE, c_slices_Contains___int_int__r0]
  refine hKY _ ?_
  refine wlk_sreg fun KY hKY => ?_
  simp only [go_sem, reduceIte, Nat.reduceEqDiff, Nat.reduceBEq, reduceCtorEq, Nat.reduceLT, Nat.reduceLeDiff, Nat.reduceAdd, Nat.reduceSub, Nat.reduceMul, Nat.reduceDiv, Int.reduceAdd, Int.reduceNeg, Int.reduceEq, Int.reduceLT, Int.reduceLE, c_slices_Contains___int_int__r1]
  refine call_view rfl (by simp only [go_sem, reduceIte, Nat.reduceEqDiff, Nat.reduceBEq, reduceCtorEq, Nat.reduceLT, Nat.reduceLeDiff, Nat.reduceAdd, Nat.reduceSub, Nat.reduceMul, Nat.reduceDiv, Int.reduceAdd, Int.reduceNeg, Int.reduceEq, Int.reduceLT, Int.reduceLE] <;> rfl) ((index_ok xs v hb).mono ?_)
  rintro rr hh ⟨⟨k, rfl, hk⟩, rfl⟩
  refine ⟨?_, ?_, ?_, ?_⟩
  iterate 3 (first | rfl | simp only [go_sem, reduceIte, Nat.reduceEqDiff, Nat.reduceBEq, reduceCtorEq, Nat.reduceLT, Nat.reduceLeDiff, Nat.reduceAdd, Nat.reduceSub, Nat.reduceMul, Nat.reduceDiv, Int.reduceAdd, Int.reduceNeg, Int.reduceEq, Int.reduceLT, Int.reduceLE])
  simp only [go_sem, reduceIte, Nat.reduceEqDiff, Nat.reduceBEq, reduceCtorEq, Nat.reduceLT, Nat.reduceLeDiff, Nat.reduceAdd, Nat.reduceSub, Nat.reduceMul, Nat.reduceDiv, Int.reduceAdd, Int.reduceNeg, Int.reduceEq, Int.reduceLT, Int.reduceLE]
  refine hKY _ ?_
  refine wlk_ret ?_
  simp only [go_sem, reduceIte, Nat.reduceEqDiff, Nat.reduceBEq, reduceCtorEq, Nat.reduceLT, Nat.reduceLeDiff, Nat.reduceAdd, Nat.reduceSub, Nat.reduceMul, Nat.reduceDiv, Int.reduceAdd, Int.reduceNeg, Int.reduceEq, Int.reduceLT, Int.reduceLE]
  rw [show decide (0 ≤ k) = decide (v ∈ xs) by rw [Bool.eq_iff_iff, decide_eq_true_iff, decide_eq_true_iff, hk]; simp]
def hasI (p : List Nat) (a : Int) : Bool := decide (a ∈ p.map fun n : Nat => (n : Int))
theorem hasI_nat {p : List Nat} {a : Nat} : hasI p (a : Int) = true ↔ a ∈ p := by
  unfold hasI
  rw [decide_eq_true_iff, List.mem_map]
  exact ⟨fun ⟨x, hx, h⟩ => by rw [show a = x by omega]; exact hx, fun h => ⟨a, h, rfl⟩⟩
theorem containsN_ok (xs : List Nat) (v : Int) (hb : xs.length ≤ 1000000000) : ACalls Try.prog [] n_slices_Contains___int_int_ [.imm 1 (nats xs), .sc (.int .i64 v)] [] fun r h' => r = .sc (.bool (hasI xs v)) ∧ h' = [] := by
  rw [nats_ints]
  exact contains_ok _ v (by simpa using hb)
theorem same1_ok (p : List Nat) (a b : Int) (hb : p.length ≤ 1000000000) : ACalls Try.prog [] n_pieces_Same_1 [.imm 1 (nats p), .ptr 0 0, .ptr 1 0] [some [.sc (.int .i64 a)], some [.sc (.int .i64 b)]] fun r h' => r = .sc (.bool (hasI p a && hasI p b)) ∧ h' = [some [.sc (.int .i64 a)], some [.sc (.int .i64 b)]] := by
  refine go_pieces_Same_1 rfl ?_
  unfold c_pieces_Same_1 v_pieces_Same_1
  refine wlk_sreg fun KY hKY => ?_
  simp only [go_sem, reduceIte, Nat.reduceEqDiff, Nat.reduceBEq, reduceCtorEq, Nat.reduceLT, Nat.reduceLeDiff, Nat.reduceAdd, Nat.reduceSub, Nat.reduceMul, Nat.reduceDiv, Int.reduceAdd, Int.reduceNeg, Int.reduceEq, Int.reduceLT, Int.reduceLE, c_pieces_Same_1_r0]
  refine hKY _ ?_
  refine wlk_sreg fun KY hKY => ?_
  simp only [go_sem, reduceIte, Nat.reduceEqDiff, Nat.reduceBEq, reduceCtorEq, Nat.reduceLT, Nat.reduceLeDiff, Nat.reduceAdd, Nat.reduceSub, Nat.reduceMul, Nat.reduceDiv, Int.reduceAdd, Int.reduceNeg, Int.reduceEq, Int.reduceLT, Int.reduceLE, c_pieces_Same_1_r1]
  refine call_view rfl (by simp only [go_sem, reduceIte, Nat.reduceEqDiff, Nat.reduceBEq, reduceCtorEq, Nat.reduceLT, Nat.reduceLeDiff, Nat.reduceAdd, Nat.reduceSub, Nat.reduceMul, Nat.reduceDiv, Int.reduceAdd, Int.reduceNeg, Int.reduceEq, Int.reduceLT, Int.reduceLE] <;> rfl) ((containsN_ok p a hb).mono ?_)
  rintro rr hh ⟨rfl, rfl⟩
  refine ⟨rfl, rfl, rfl, ?_⟩
  cases h : hasI p a with
  | true =>
    simp only [go_sem, reduceIte, Nat.reduceEqDiff, Nat.reduceBEq, reduceCtorEq, Nat.reduceLT, Nat.reduceLeDiff, Nat.reduceAdd, Nat.reduceSub, Nat.reduceMul, Nat.reduceDiv, Int.reduceAdd, Int.reduceNeg, Int.reduceEq, Int.reduceLT, Int.reduceLE, h]
    refine call_view rfl (by simp only [go_sem, reduceIte, Nat.reduceEqDiff, Nat.reduceBEq, reduceCtorEq, Nat.reduceLT, Nat.reduceLeDiff, Nat.reduceAdd, Nat.reduceSub, Nat.reduceMul, Nat.reduceDiv, Int.reduceAdd, Int.reduceNeg, Int.reduceEq, Int.reduceLT, Int.reduceLE] <;> rfl) ((containsN_ok p b hb).mono ?_)
    rintro rr hh ⟨rfl, rfl⟩
    refine ⟨rfl, rfl, rfl, ?_⟩
    simp only [go_sem, reduceIte, Nat.reduceEqDiff, Nat.reduceBEq, reduceCtorEq, Nat.reduceLT, Nat.reduceLeDiff, Nat.reduceAdd, Nat.reduceSub, Nat.reduceMul, Nat.reduceDiv, Int.reduceAdd, Int.reduceNeg, Int.reduceEq, Int.reduceLT, Int.reduceLE]
    refine hKY _ ?_
    refine wlk_ret ?_
    simp only [go_sem, reduceIte, Nat.reduceEqDiff, Nat.reduceBEq, reduceCtorEq, Nat.reduceLT, Nat.reduceLeDiff, Nat.reduceAdd, Nat.reduceSub, Nat.reduceMul, Nat.reduceDiv, Int.reduceAdd, Int.reduceNeg, Int.reduceEq, Int.reduceLT, Int.reduceLE, h]
  | false =>
    simp only [go_sem, reduceIte, Nat.reduceEqDiff, Nat.reduceBEq, reduceCtorEq, Nat.reduceLT, Nat.reduceLeDiff, Nat.reduceAdd, Nat.reduceSub, Nat.reduceMul, Nat.reduceDiv, Int.reduceAdd, Int.reduceNeg, Int.reduceEq, Int.reduceLT, Int.reduceLE, h]
    refine hKY _ ?_
    refine wlk_ret ?_
    simp only [go_sem, reduceIte, Nat.reduceEqDiff, Nat.reduceBEq, reduceCtorEq, Nat.reduceLT, Nat.reduceLeDiff, Nat.reduceAdd, Nat.reduceSub, Nat.reduceMul, Nat.reduceDiv, Int.reduceAdd, Int.reduceNeg, Int.reduceEq, Int.reduceLT, Int.reduceLE, h]
theorem indexF_ok (xs : List (List Nat)) (a b : Int) (hb : xs.length ≤ 1000000000) (hr : ∀ x ∈ xs, x.length ≤ 1000000000) : ACalls Try.prog [] n_slices_IndexFunc_____int___int_ [.imm 1 (rowsI xs), .fn (.func n_pieces_Same_1) [] [.ptr 0 0, .ptr 1 0]] [some [.sc (.int .i64 a)], some [.sc (.int .i64 b)]] fun r h' => (∃ k : Int, r = .sc (.int .i64 k) ∧ (0 ≤ k ↔ ∃ x ∈ xs, (hasI x a && hasI x b) = true)) ∧ h' = [some [.sc (.int .i64 a)], some [.sc (.int .i64 b)]] := by
  refine go_slices_IndexFunc_____int___int_ rfl ?_
  unfold c_slices_IndexFunc_____int___int_ v_slices_IndexFunc_____int___int_
  refine wlk_sreg fun KY hKY => ?_
  simp only [go_sem, reduceIte, Nat.reduceEqDiff, Nat.reduceBEq, reduceCtorEq, Nat.reduceLT, Nat.reduceLeDiff, Nat.reduceAdd, Nat.reduceSub, Nat.reduceMul, Nat.reduceDiv, Int.reduceAdd, Int.reduceNeg, Int.reduceEq, Int.reduceLT, Int.reduceLE, c_slices_IndexFunc_____int___int__r0]
  refine hKY _ ?_
  refine wlk_seq fun X1 hn1 he1 hr1 => ?_
  refine wlk_sreg fun KY hKY => ?_
  simp only [go_sem, reduceIte, Nat.reduceEqDiff, Nat.reduceBEq, reduceCtorEq, Nat.reduceLT, Nat.reduceLeDiff, Nat.reduceAdd, Nat.reduceSub, Nat.reduceMul, Nat.reduceDiv, Int.reduceAdd, Int.reduceNeg, Int.reduceEq, Int.reduceLT, Int.reduceLE, c_slices_IndexFunc_____int___int__r1, rowsI_len]
  refine hKY _ ?_
  refine wlk_blk fun X2 hn2 he2 hf2 hr2 => ?_
  try simp only [go_sem, reduceIte, Nat.reduceEqDiff, Nat.reduceBEq, reduceCtorEq, Nat.reduceLT, Nat.reduceLeDiff, Nat.reduceAdd, Nat.reduceSub, Nat.reduceMul, Nat.reduceDiv, Int.reduceAdd, Int.reduceNeg, Int.reduceEq, Int.reduceLT, Int.reduceLE]
  refine wlk_lp (α := Nat) [5, 9, 16] (fun k => [(8, .sc (.int .i64 (k : Int)))]) (fun k => [some [.sc (.int .i64 a)], some [.sc (.int .i64 b)]]) (fun k q => k ≤ xs.length ∧ q = xs.length - k ∧ ∀ j x, j < k → xs[j]? = some x → ¬ (hasI x a && hasI x b) = true) (0) (xs.length) rfl (by first | (simp only [go_sem, reduceIte, Nat.reduceEqDiff, Nat.reduceBEq, reduceCtorEq, Nat.reduceLT, Nat.reduceLeDiff, Nat.reduceAdd, Nat.reduceSub, Nat.reduceMul, Nat.reduceDiv, Int.reduceAdd, Int.reduceNeg, Int.reduceEq, Int.reduceLT, Int.reduceLE, updAll_cons, updAll_nil]; done) | rfl) (⟨by omega, rfl, fun j x h => by omega⟩) ?_
  rintro k q ⟨hk, rfl, hz⟩ X3 hn3 he3 hr3
  simp only [go_sem, reduceIte, Nat.reduceEqDiff, Nat.reduceBEq, reduceCtorEq, Nat.reduceLT, Nat.reduceLeDiff, Nat.reduceAdd, Nat.reduceSub, Nat.reduceMul, Nat.reduceDiv, Int.reduceAdd, Int.reduceNeg, Int.reduceEq, Int.reduceLT, Int.reduceLE, updAll_cons, updAll_nil]
  refine wlk_sreg fun KY hKY => ?_
  simp only [go_sem, reduceIte, Nat.reduceEqDiff, Nat.reduceBEq, reduceCtorEq, Nat.reduceLT, Nat.reduceLeDiff, Nat.reduceAdd, Nat.reduceSub, Nat.reduceMul, Nat.reduceDiv, Int.reduceAdd, Int.reduceNeg, Int.reduceEq, Int.reduceLT, Int.reduceLE, c_slices_IndexFunc_____int___int__r2]
  refine hKY _ ?_
  refine wlk_seq fun X4 hn4 he4 hr4 => ?_
  by_cases hk2 : k < xs.length
  · refine wlk_cond1 (by first | rfl | (simp only [go_sem, reduceIte, Nat.reduceEqDiff, Nat.reduceBEq, reduceCtorEq, Nat.reduceLT, Nat.reduceLeDiff, Nat.reduceAdd, Nat.reduceSub, Nat.reduceMul, Nat.reduceDiv, Int.reduceAdd, Int.reduceNeg, Int.reduceEq, Int.reduceLT, Int.reduceLE]; try simp (disch := omega) only [decide_eq_true, decide_eq_false])) ?_
    refine wlk_skip ?_
    repeat (first | refine hn4 _ ?_ | refine he4 _ _ ?_ | refine hr4 _ ?_ | refine he3 _ _ ?_ | refine hr3 _ ?_ | refine hn2 _ ?_ | refine he2 _ ?_ | refine hf2 _ _ (by decide) ?_ | refine hr2 _ ?_ | refine hn1 _ ?_ | refine he1 _ _ ?_ | refine hr1 _ ?_)
    refine wlk_seq fun X5 hn5 he5 hr5 => ?_
    refine wlk_blk fun X6 hn6 he6 hf6 hr6 => ?_
    have hx : xs[k]? = some xs[k] := List.getElem?_eq_getElem hk2
    have hmem : xs[k] ∈ xs := List.getElem_mem hk2
    generalize xs[k] = x at hx hmem
    refine wlk_sreg fun KY hKY => ?_
    simp only [go_sem, reduceIte, Nat.reduceEqDiff, Nat.reduceBEq, reduceCtorEq, Nat.reduceLT, Nat.reduceLeDiff, Nat.reduceAdd, Nat.reduceSub, Nat.reduceMul, Nat.reduceDiv, Int.reduceAdd, Int.reduceNeg, Int.reduceEq, Int.reduceLT, Int.reduceLE, c_slices_IndexFunc_____int___int__r3]
    refine hKY _ ?_
    refine wlk_sreg fun KY hKY => ?_
    simp only [go_sem, reduceIte, Nat.reduceEqDiff, Nat.reduceBEq, reduceCtorEq, Nat.reduceLT, Nat.reduceLeDiff, Nat.reduceAdd, Nat.reduceSub, Nat.reduceMul, Nat.reduceDiv, Int.reduceAdd, Int.reduceNeg, Int.reduceEq, Int.reduceLT, Int.reduceLE, c_slices_IndexFunc_____int___int__r4, rowsI_get hx, hk2]
    apply call_gen [] [0, 1] false none rfl
    iterate 8 (first | (simp only [go_sem, reduceIte, Nat.reduceEqDiff, Nat.reduceBEq, reduceCtorEq, Nat.reduceLT, Nat.reduceLeDiff, Nat.reduceAdd, Nat.reduceSub, Nat.reduceMul, Nat.reduceDiv, Int.reduceAdd, Int.reduceNeg, Int.reduceEq, Int.reduceLT, Int.reduceLE, watchIn] <;> rfl) | rfl)
    refine (same1_ok x a b (hr x hmem)).mono ?_
    rintro _ _ ⟨rfl, rfl⟩
    refine ⟨Nat.le_of_ble_eq_true rfl, (fun hh => by cases hh), ?_⟩
    simp only [go_sem, reduceIte, Nat.reduceEqDiff, Nat.reduceBEq, reduceCtorEq, Nat.reduceLT, Nat.reduceLeDiff, Nat.reduceAdd, Nat.reduceSub, Nat.reduceMul, Nat.reduceDiv, Int.reduceAdd, Int.reduceNeg, Int.reduceEq, Int.reduceLT, Int.reduceLE, callOut, AState.after]
    refine hKY _ ?_
    by_cases hp : (hasI x a && hasI x b) = true
    · refine wlk_cond1 (by first | rfl | (simp only [go_sem, reduceIte, Nat.reduceEqDiff, Nat.reduceBEq, reduceCtorEq, Nat.reduceLT, Nat.reduceLeDiff, Nat.reduceAdd, Nat.reduceSub, Nat.reduceMul, Nat.reduceDiv, Int.reduceAdd, Int.reduceNeg, Int.reduceEq, Int.reduceLT, Int.reduceLE, hp]; try simp (disch := omega) only [decide_eq_true, decide_eq_false])) ?_
      refine wlk_sreg fun KY hKY => ?_
      simp only [go_sem, reduceIte, Nat.reduceEqDiff, Nat.reduceBEq, reduceCtorEq, Nat.reduceLT, Nat.reduceLeDiff, Nat.reduceAdd, Nat.reduceSub, Nat.reduceMul, Nat.reduceDiv, Int.reduceAdd, Int.reduceNeg, Int.reduceEq, Int.reduceLT, Int.reduceLE, c_slices_IndexFunc_____int___int__r5]
      refine hKY _ ?_
      refine wlk_ret ?_
      repeat (first | refine hn6 _ ?_ | refine he6 _ ?_ | refine hf6 _ _ (by decide) ?_ | refine hr6 _ ?_ | refine hn5 _ ?_ | refine he5 _ _ ?_ | refine hr5 _ ?_ | refine hn4 _ ?_ | refine he4 _ _ ?_ | refine hr4 _ ?_ | refine he3 _ _ ?_ | refine hr3 _ ?_ | refine hn2 _ ?_ | refine he2 _ ?_ | refine hf2 _ _ (by decide) ?_ | refine hr2 _ ?_ | refine hn1 _ ?_ | refine he1 _ _ ?_ | refine hr1 _ ?_)
      simp only [go_sem, reduceIte, Nat.reduceEqDiff, Nat.reduceBEq, reduceCtorEq, Nat.reduceLT, Nat.reduceLeDiff, Nat.reduceAdd, Nat.reduceSub, Nat.reduceMul, Nat.reduceDiv, Int.reduceAdd, Int.reduceNeg, Int.reduceEq, Int.reduceLT, Int.reduceLE]
      exact ⟨(k : Int), rfl, fun _ => ⟨x, hmem, hp⟩, fun _ => by omega⟩
    · refine wlk_cond0 (by first | rfl | (simp only [go_sem, reduceIte, Nat.reduceEqDiff, Nat.reduceBEq, reduceCtorEq, Nat.reduceLT, Nat.reduceLeDiff, Nat.reduceAdd, Nat.reduceSub, Nat.reduceMul, Nat.reduceDiv, Int.reduceAdd, Int.reduceNeg, Int.reduceEq, Int.reduceLT, Int.reduceLE, hp]; try simp (disch := omega) only [decide_eq_true, decide_eq_false])) ?_
      refine wlk_skip ?_
      repeat (first | refine hn6 _ ?_ | refine he6 _ ?_ | refine hf6 _ _ (by decide) ?_ | refine hr6 _ ?_ | refine hn5 _ ?_ | refine he5 _ _ ?_ | refine hr5 _ ?_ | refine hn4 _ ?_ | refine he4 _ _ ?_ | refine hr4 _ ?_ | refine he3 _ _ ?_ | refine hr3 _ ?_ | refine hn2 _ ?_ | refine he2 _ ?_ | refine hf2 _ _ (by decide) ?_ | refine hr2 _ ?_ | refine hn1 _ ?_ | refine he1 _ _ ?_ | refine hr1 _ ?_)
      refine wlk_reg fun KY hKY => ?_
      simp only [go_sem, reduceIte, Nat.reduceEqDiff, Nat.reduceBEq, reduceCtorEq, Nat.reduceLT, Nat.reduceLeDiff, Nat.reduceAdd, Nat.reduceSub, Nat.reduceMul, Nat.reduceDiv, Int.reduceAdd, Int.reduceNeg, Int.reduceEq, Int.reduceLT, Int.reduceLE, c_slices_IndexFunc_____int___int__r6, inc k (by omega)]
      refine hKY _ ?_
      repeat (first | refine hn6 _ ?_ | refine he6 _ ?_ | refine hf6 _ _ (by decide) ?_ | refine hr6 _ ?_ | refine hn5 _ ?_ | refine he5 _ _ ?_ | refine hr5 _ ?_ | refine hn4 _ ?_ | refine he4 _ _ ?_ | refine hr4 _ ?_ | refine he3 _ _ ?_ | refine hr3 _ ?_ | refine hn2 _ ?_ | refine he2 _ ?_ | refine hf2 _ _ (by decide) ?_ | refine hr2 _ ?_ | refine hn1 _ ?_ | refine he1 _ _ ?_ | refine hr1 _ ?_)
      refine hn3 _ (k + 1) (xs.length - (k + 1)) (by omega) (by first | (simp only [go_sem, reduceIte, Nat.reduceEqDiff, Nat.reduceBEq, reduceCtorEq, Nat.reduceLT, Nat.reduceLeDiff, Nat.reduceAdd, Nat.reduceSub, Nat.reduceMul, Nat.reduceDiv, Int.reduceAdd, Int.reduceNeg, Int.reduceEq, Int.reduceLT, Int.reduceLE, updAll_cons, updAll_nil]; done) | rfl) ?_
      refine ⟨hk2, rfl, fun j y hj hy => ?_⟩
      rcases Nat.lt_or_ge j k with h | h
      · exact hz j y h hy
      · obtain rfl : j = k := by omega
        rw [hx] at hy; cases hy; exact hp
  · refine wlk_cond0 (by first | rfl | (simp only [go_sem, reduceIte, Nat.reduceEqDiff, Nat.reduceBEq, reduceCtorEq, Nat.reduceLT, Nat.reduceLeDiff, Nat.reduceAdd, Nat.reduceSub, Nat.reduceMul, Nat.reduceDiv, Int.reduceAdd, Int.reduceNeg, Int.reduceEq, Int.reduceLT, Int.reduceLE]; try simp (disch := omega) only [decide_eq_true, decide_eq_false])) ?_
    refine wlk_exit ?_
    repeat (first | refine hn4 _ ?_ | refine he4 _ _ ?_ | refine hr4 _ ?_ | refine he3 _ _ ?_ | refine hr3 _ ?_ | refine hn2 _ ?_ | refine he2 _ ?_ | refine hf2 _ _ (by decide) ?_ | refine hr2 _ ?_ | refine hn1 _ ?_ | refine he1 _ _ ?_ | refine hr1 _ ?_)
    refine wlk_sreg fun KY hKY => ?_
    simp only [go_sem, reduceIte, Nat.reduceEqDiff, Nat.reduceBEq, reduceCtorEq, Nat.reduceLT, Nat.reduceLeDiff, Nat.reduceAdd, Nat.reduceSub, Nat.reduceMul, Nat.reduceDiv, Int.reduceAdd, Int.reduceNeg, Int.reduceEq, Int.reduceLT, Int.reduceLE, c_slices_IndexFunc_____int___int__r7]
    refine hKY _ ?_
    refine wlk_ret ?_
    repeat (first | refine hn4 _ ?_ | refine he4 _ _ ?_ | refine hr4 _ ?_ | refine he3 _ _ ?_ | refine hr3 _ ?_ | refine hn2 _ ?_ | refine he2 _ ?_ | refine hf2 _ _ (by decide) ?_ | refine hr2 _ ?_ | refine hn1 _ ?_ | refine he1 _ _ ?_ | refine hr1 _ ?_)
    simp only [go_sem, reduceIte, Nat.reduceEqDiff, Nat.reduceBEq, reduceCtorEq, Nat.reduceLT, Nat.reduceLeDiff, Nat.reduceAdd, Nat.reduceSub, Nat.reduceMul, Nat.reduceDiv, Int.reduceAdd, Int.reduceNeg, Int.reduceEq, Int.reduceLT, Int.reduceLE]
    refine ⟨-1, rfl, fun h => by omega, fun ⟨x, hx, hp⟩ => ?_⟩
    obtain ⟨j, hj⟩ := List.mem_iff_getElem?.1 hx
    exact (hz j x (by have := (List.getElem?_eq_some_iff.1 hj).1; omega) hj hp).elim
theorem containsF_ok (xs : List (List Nat)) (a b : Int) (hb : xs.length ≤ 1000000000) (hr : ∀ x ∈ xs, x.length ≤ 1000000000) : ACalls Try.prog [] n_slices_ContainsFunc_____int___int_ [.imm 1 (rowsI xs), .fn (.func n_pieces_Same_1) [] [.ptr 0 0, .ptr 1 0]] [some [.sc (.int .i64 a)], some [.sc (.int .i64 b)]] fun r h' => r = .sc (.bool (xs.any fun x => hasI x a && hasI x b)) ∧ h' = [some [.sc (.int .i64 a)], some [.sc (.int .i64 b)]] := by
  refine go_slices_ContainsFunc_____int___int_ rfl ?_
  unfold c_slices_ContainsFunc_____int___int_ v_slices_ContainsFunc_____int___int_
  refine wlk_sreg fun KY hKY => ?_
  simp only [go_sem, reduceIte, Nat.reduceEqDiff, Nat.reduceBEq, reduceCtorEq, Nat.reduceLT, Nat.reduceLeDiff, Nat.reduceAdd, Nat.reduceSub, Nat.reduceMul, Nat.reduceDiv, Int.reduceAdd, Int.reduceNeg, Int.reduceEq, Int.reduceLT, Int.reduceLE, c_slices_ContainsFunc_____int___int__r0]
  refine hKY _ ?_
  refine wlk_sreg fun KY hKY => ?_
  simp only [go_sem, reduceIte, Nat.reduceEqDiff, Nat.reduceBEq, reduceCtorEq, Nat.reduceLT, Nat.reduceLeDiff, Nat.reduceAdd, Nat.reduceSub, Nat.reduceMul, Nat.reduceDiv, Int.reduceAdd, Int.reduceNeg, Int.reduceEq, Int.reduceLT, Int.reduceLE, c_slices_ContainsFunc_____int___int__r1]
  apply call_gen [] [0, 1] false none rfl
  iterate 8 (first | (simp only [go_sem, reduceIte, Nat.reduceEqDiff, Nat.reduceBEq, reduceCtorEq, Nat.reduceLT, Nat.reduceLeDiff, Nat.reduceAdd, Nat.reduceSub, Nat.reduceMul, Nat.reduceDiv, Int.reduceAdd, Int.reduceNeg, Int.reduceEq, Int.reduceLT, Int.reduceLE, watchIn] <;> rfl) | rfl)
  refine (indexF_ok xs a b hb hr).mono ?_
  rintro _ _ ⟨⟨k, rfl, hk⟩, rfl⟩
  refine ⟨Nat.le_of_ble_eq_true rfl, (fun hh => by cases hh), ?_⟩
  simp only [go_sem, reduceIte, Nat.reduceEqDiff, Nat.reduceBEq, reduceCtorEq, Nat.reduceLT, Nat.reduceLeDiff, Nat.reduceAdd, Nat.reduceSub, Nat.reduceMul, Nat.reduceDiv, Int.reduceAdd, Int.reduceNeg, Int.reduceEq, Int.reduceLT, Int.reduceLE, callOut, AState.after]
  refine hKY _ ?_
  refine wlk_ret ?_
  simp only [go_sem, reduceIte, Nat.reduceEqDiff, Nat.reduceBEq, reduceCtorEq, Nat.reduceLT, Nat.reduceLeDiff, Nat.reduceAdd, Nat.reduceSub, Nat.reduceMul, Nat.reduceDiv, Int.reduceAdd, Int.reduceNeg, Int.reduceEq, Int.reduceLT, Int.reduceLE]
  rw [show decide (0 ≤ k) = (xs.any fun x => hasI x a && hasI x b) by rw [Bool.eq_iff_iff, decide_eq_true_iff, List.any_eq_true, hk]]
theorem psame_ok {n : Nat} {es : Es} (g : GR n es) (a b : Int) : ACalls Try.prog [] n_pieces_Same [.agg [.sc (.int .i64 (n : Int)), .imm 2 (twos (castE es))], .sc (.int .i64 a), .sc (.int .i64 b)] [] fun r h' => (∃ ps, IsPieces n es (fun v => (v : Int) ∈ []) ps ∧ r = .sc (.bool (ps.any fun x => hasI x a && hasI x b))) ∧ h' = [] := by
  have hn := g.hn
  refine ACalls.trim ?_
  refine go_pieces_Same rfl ?_
  unfold c_pieces_Same v_pieces_Same
  refine wlk_sreg fun KY hKY => ?_
  simp only [go_sem, reduceIte, Nat.reduceEqDiff, Nat.reduceBEq, reduceCtorEq, Nat.reduceLT, Nat.reduceLeDiff, Nat.reduceAdd, Nat.reduceSub, Nat.reduceMul, Nat.reduceDiv, Int.reduceAdd, Int.reduceNeg, Int.reduceEq, Int.reduceLT, Int.reduceLE, c_pieces_Same_r0]
  refine hKY _ ?_
  refine wlk_sreg fun KY hKY => ?_
  simp only [go_sem, reduceIte, Nat.reduceEqDiff, Nat.reduceBEq, reduceCtorEq, Nat.reduceLT, Nat.reduceLeDiff, Nat.reduceAdd, Nat.reduceSub, Nat.reduceMul, Nat.reduceDiv, Int.reduceAdd, Int.reduceNeg, Int.reduceEq, Int.reduceLT, Int.reduceLE, c_pieces_Same_r1]
  refine call_view rfl (by simp only [go_sem, reduceIte, Nat.reduceEqDiff, Nat.reduceBEq, reduceCtorEq, Nat.reduceLT, Nat.reduceLeDiff, Nat.reduceAdd, Nat.reduceSub, Nat.reduceMul, Nat.reduceDiv, Int.reduceAdd, Int.reduceNeg, Int.reduceEq, Int.reduceLT, Int.reduceLE] <;> rfl) ((all_ok g).mono ?_)
  rintro rr hh ⟨⟨ps, hps, rfl⟩, rfl⟩
  refine ⟨?_, ?_, ?_, ?_⟩
  iterate 3 (first | rfl | simp only [go_sem, reduceIte, Nat.reduceEqDiff, Nat.reduceBEq, reduceCtorEq, Nat.reduceLT, Nat.reduceLeDiff, Nat.reduceAdd, Nat.reduceSub, Nat.reduceMul, Nat.reduceDiv, Int.reduceAdd, Int.reduceNeg, Int.reduceEq, Int.reduceLT, Int.reduceLE])
  have h1 := pieces_len hps
  have h2 : ∀ x ∈ ps, x.length ≤ 1000000000 := fun x hx => Nat.le_trans (piece_len hps hx) (by omega)
  simp only [go_sem, reduceIte, Nat.reduceEqDiff, Nat.reduceBEq, reduceCtorEq, Nat.reduceLT, Nat.reduceLeDiff, Nat.reduceAdd, Nat.reduceSub, Nat.reduceMul, Nat.reduceDiv, Int.reduceAdd, Int.reduceNeg, Int.reduceEq, Int.reduceLT, Int.reduceLE]
  apply call_gen [] [0, 1] true none rfl
  iterate 8 (first | (simp only [go_sem, reduceIte, Nat.reduceEqDiff, Nat.reduceBEq, reduceCtorEq, Nat.reduceLT, Nat.reduceLeDiff, Nat.reduceAdd, Nat.reduceSub, Nat.reduceMul, Nat.reduceDiv, Int.reduceAdd, Int.reduceNeg, Int.reduceEq, Int.reduceLT, Int.reduceLE, watchIn] <;> rfl) | rfl)
  refine (containsF_ok ps a b (by omega) h2).mono ?_
  rintro _ _ ⟨rfl, rfl⟩
  refine ⟨Nat.le_of_ble_eq_true rfl, (fun _ => by simp only [go_sem, reduceIte, Nat.reduceEqDiff, Nat.reduceBEq, reduceCtorEq, Nat.reduceLT, Nat.reduceLeDiff, Nat.reduceAdd, Nat.reduceSub, Nat.reduceMul, Nat.reduceDiv, Int.reduceAdd, Int.reduceNeg, Int.reduceEq, Int.reduceLT, Int.reduceLE, flatH, and_self]), ?_⟩
  simp only [go_sem, reduceIte, Nat.reduceEqDiff, Nat.reduceBEq, reduceCtorEq, Nat.reduceLT, Nat.reduceLeDiff, Nat.reduceAdd, Nat.reduceSub, Nat.reduceMul, Nat.reduceDiv, Int.reduceAdd, Int.reduceNeg, Int.reduceEq, Int.reduceLT, Int.reduceLE, callOut, AState.after]
  refine hKY _ ?_
  refine wlk_ret ?_
  simp only [go_sem, reduceIte, Nat.reduceEqDiff, Nat.reduceBEq, reduceCtorEq, Nat.reduceLT, Nat.reduceLeDiff, Nat.reduceAdd, Nat.reduceSub, Nat.reduceMul, Nat.reduceDiv, Int.reduceAdd, Int.reduceNeg, Int.reduceEq, Int.reduceLT, Int.reduceLE]
  exact ⟨ps, hps, rfl⟩
theorem awake_gr : GR 4 [(0, 1), (1, 2)] := GR_rightB (by decide)
theorem awake_ps {O : Nat → Prop} (hO : ∀ v, ¬ O v) {ps : List (List Nat)} (h : IsPieces 4 [(0, 1), (1, 2)] O ps) : ps = [[0, 1, 2], [3]] := by
  refine h.unique awake_gr.adj_lt ⟨fun v => ?_, by simp, by simp, by simp, by simp, ?_, ?_⟩
  · simp only [List.mem_cons, List.not_mem_nil, or_false, exists_eq_or_imp, exists_eq_left]
    constructor
    · rintro ((rfl | rfl | rfl) | rfl) <;> exact ⟨by decide, hO _⟩
    · intro ⟨h, _⟩; omega
  · intro p hp a ha b hab hb hob
    have hab : (a = 0 ∧ b = 1) ∨ (a = 1 ∧ b = 2) ∨ (b = 0 ∧ a = 1) ∨ (b = 1 ∧ a = 2) := by
      simpa [adj, or_assoc] using hab
    simp only [List.mem_cons, List.not_mem_nil, or_false] at hp
    rcases hp with rfl | rfl
    · simp only [List.mem_cons, List.not_mem_nil, or_false] at ha ⊢; omega
    · simp only [List.mem_cons, List.not_mem_nil, or_false] at ha ⊢; omega
  · intro p hp f hf a ha b hb
    have e1 : f 0 = f 1 := hf 0 1 (by simp [adj]) (hO _) (hO _)
    have e2 : f 1 = f 2 := hf 1 2 (by simp [adj]) (hO _) (hO _)
    simp only [List.mem_cons, List.not_mem_nil, or_false] at hp
    rcases hp with rfl | rfl
    · simp only [List.mem_cons, List.not_mem_nil, or_false] at ha hb
      rcases ha with rfl | rfl | rfl <;> rcases hb with rfl | rfl | rfl <;> simp [e1, e2]
    · simp only [List.mem_cons, List.not_mem_nil, or_false] at ha hb
      rw [ha, hb]
theorem awake03_ok : ACalls Try.prog [] n_garlandlaw03_awake [] [] fun r h' => r = .sc (.bool true) ∧ h' = [] := by
  have hO : ∀ v : Nat, ¬ (v : Int) ∈ ([] : List Int) := fun v => by simp
  refine go_garlandlaw03_awake rfl ?_
  unfold c_garlandlaw03_awake v_garlandlaw03_awake
  refine wlk_sreg fun KY hKY => ?_
  simp only [go_sem, reduceIte, Nat.reduceEqDiff, Nat.reduceBEq, reduceCtorEq, Nat.reduceLT, Nat.reduceLeDiff, Nat.reduceAdd, Nat.reduceSub, Nat.reduceMul, Nat.reduceDiv, Int.reduceAdd, Int.reduceNeg, Int.reduceEq, Int.reduceLT, Int.reduceLE, c_garlandlaw03_awake_r0]
  refine hKY _ ?_
  refine wlk_sreg fun KY hKY => ?_
  simp only [go_sem, reduceIte, Nat.reduceEqDiff, Nat.reduceBEq, reduceCtorEq, Nat.reduceLT, Nat.reduceLeDiff, Nat.reduceAdd, Nat.reduceSub, Nat.reduceMul, Nat.reduceDiv, Int.reduceAdd, Int.reduceNeg, Int.reduceEq, Int.reduceLT, Int.reduceLE, c_garlandlaw03_awake_r1]
  refine hKY _ ?_
  simp only [go_sem, reduceIte, Nat.reduceEqDiff, Nat.reduceBEq, reduceCtorEq, Nat.reduceLT, Nat.reduceLeDiff, Nat.reduceAdd, Nat.reduceSub, Nat.reduceMul, Nat.reduceDiv, Int.reduceAdd, Int.reduceNeg, Int.reduceEq, Int.reduceLT, Int.reduceLE]
  refine sem_freeze [0, 1, 1] (by simp only [go_sem, reduceIte, Nat.reduceEqDiff, Nat.reduceBEq, reduceCtorEq, Nat.reduceLT, Nat.reduceLeDiff, Nat.reduceAdd, Nat.reduceSub, Nat.reduceMul, Nat.reduceDiv, Int.reduceAdd, Int.reduceNeg, Int.reduceEq, Int.reduceLT, Int.reduceLE]; rfl) ?_
  simp only [go_sem, reduceIte, Nat.reduceEqDiff, Nat.reduceBEq, reduceCtorEq, Nat.reduceLT, Nat.reduceLeDiff, Nat.reduceAdd, Nat.reduceSub, Nat.reduceMul, Nat.reduceDiv, Int.reduceAdd, Int.reduceNeg, Int.reduceEq, Int.reduceLT, Int.reduceLE]
  refine wlk_sreg fun KY hKY => ?_
  simp only [go_sem, reduceIte, Nat.reduceEqDiff, Nat.reduceBEq, reduceCtorEq, Nat.reduceLT, Nat.reduceLeDiff, Nat.reduceAdd, Nat.reduceSub, Nat.reduceMul, Nat.reduceDiv, Int.reduceAdd, Int.reduceNeg, Int.reduceEq, Int.reduceLT, Int.reduceLE, c_garlandlaw03_awake_r2]
  refine call_view rfl (by simp only [go_sem, reduceIte, Nat.reduceEqDiff, Nat.reduceBEq, reduceCtorEq, Nat.reduceLT, Nat.reduceLeDiff, Nat.reduceAdd, Nat.reduceSub, Nat.reduceMul, Nat.reduceDiv, Int.reduceAdd, Int.reduceNeg, Int.reduceEq, Int.reduceLT, Int.reduceLE] <;> rfl) ((all_ok awake_gr).mono ?_)
  rintro rr hh ⟨⟨ps, hps, rfl⟩, rfl⟩
  refine ⟨?_, ?_, ?_, ?_⟩
  iterate 3 (first | rfl | simp only [go_sem, reduceIte, Nat.reduceEqDiff, Nat.reduceBEq, reduceCtorEq, Nat.reduceLT, Nat.reduceLeDiff, Nat.reduceAdd, Nat.reduceSub, Nat.reduceMul, Nat.reduceDiv, Int.reduceAdd, Int.reduceNeg, Int.reduceEq, Int.reduceLT, Int.reduceLE])
  have := awake_ps hO hps
  subst this
  simp only [go_sem, reduceIte, Nat.reduceEqDiff, Nat.reduceBEq, reduceCtorEq, Nat.reduceLT, Nat.reduceLeDiff, Nat.reduceAdd, Nat.reduceSub, Nat.reduceMul, Nat.reduceDiv, Int.reduceAdd, Int.reduceNeg, Int.reduceEq, Int.reduceLT, Int.reduceLE]
  refine call_view rfl (by simp only [go_sem, reduceIte, Nat.reduceEqDiff, Nat.reduceBEq, reduceCtorEq, Nat.reduceLT, Nat.reduceLeDiff, Nat.reduceAdd, Nat.reduceSub, Nat.reduceMul, Nat.reduceDiv, Int.reduceAdd, Int.reduceNeg, Int.reduceEq, Int.reduceLT, Int.reduceLE] <;> rfl) ((hlists_ok [[0, 1, 2], [3]] [[0, 1, 2], [3]] (by decide) (by decide)).mono ?_)
  rintro rr hh ⟨rfl, rfl⟩
  refine ⟨rfl, rfl, rfl, ?_⟩
  simp only [go_sem, reduceIte, Nat.reduceEqDiff, Nat.reduceBEq, reduceCtorEq, Nat.reduceLT, Nat.reduceLeDiff, Nat.reduceAdd, Nat.reduceSub, Nat.reduceMul, Nat.reduceDiv, Int.reduceAdd, Int.reduceNeg, Int.reduceEq, Int.reduceLT, Int.reduceLE]
  refine call_view rfl (by simp only [go_sem, reduceIte, Nat.reduceEqDiff, Nat.reduceBEq, reduceCtorEq, Nat.reduceLT, Nat.reduceLeDiff, Nat.reduceAdd, Nat.reduceSub, Nat.reduceMul, Nat.reduceDiv, Int.reduceAdd, Int.reduceNeg, Int.reduceEq, Int.reduceLT, Int.reduceLE] <;> rfl) (((odd_ok awake_gr [] (Nat.zero_le _)).sees (.cons (.refl _) (.cons (.imm 1) .nil))).mono ?_)
  rintro rr hh ⟨⟨ps, hps, rfl⟩, rfl⟩
  refine ⟨?_, ?_, ?_, ?_⟩
  iterate 3 (first | rfl | simp only [go_sem, reduceIte, Nat.reduceEqDiff, Nat.reduceBEq, reduceCtorEq, Nat.reduceLT, Nat.reduceLeDiff, Nat.reduceAdd, Nat.reduceSub, Nat.reduceMul, Nat.reduceDiv, Int.reduceAdd, Int.reduceNeg, Int.reduceEq, Int.reduceLT, Int.reduceLE])
  have := awake_ps hO hps
  subst this
  rw [show ((oddCount [[0, 1, 2], [3]] : Nat) : Int) = 2 from rfl]
  simp only [go_sem, reduceIte, Nat.reduceEqDiff, Nat.reduceBEq, reduceCtorEq, Nat.reduceLT, Nat.reduceLeDiff, Nat.reduceAdd, Nat.reduceSub, Nat.reduceMul, Nat.reduceDiv, Int.reduceAdd, Int.reduceNeg, Int.reduceEq, Int.reduceLT, Int.reduceLE]
  refine call_view rfl (by simp only [go_sem, reduceIte, Nat.reduceEqDiff, Nat.reduceBEq, reduceCtorEq, Nat.reduceLT, Nat.reduceLeDiff, Nat.reduceAdd, Nat.reduceSub, Nat.reduceMul, Nat.reduceDiv, Int.reduceAdd, Int.reduceNeg, Int.reduceEq, Int.reduceLT, Int.reduceLE] <;> rfl) ((psame_ok awake_gr 0 2).mono ?_)
  rintro rr hh ⟨⟨ps, hps, rfl⟩, rfl⟩
  refine ⟨?_, ?_, ?_, ?_⟩
  iterate 3 (first | rfl | simp only [go_sem, reduceIte, Nat.reduceEqDiff, Nat.reduceBEq, reduceCtorEq, Nat.reduceLT, Nat.reduceLeDiff, Nat.reduceAdd, Nat.reduceSub, Nat.reduceMul, Nat.reduceDiv, Int.reduceAdd, Int.reduceNeg, Int.reduceEq, Int.reduceLT, Int.reduceLE])
  have := awake_ps hO hps
  subst this
  rw [show (List.any [[0, 1, 2], [3]] fun x => hasI x 0 && hasI x 2) = true by decide]
  simp only [go_sem, reduceIte, Nat.reduceEqDiff, Nat.reduceBEq, reduceCtorEq, Nat.reduceLT, Nat.reduceLeDiff, Nat.reduceAdd, Nat.reduceSub, Nat.reduceMul, Nat.reduceDiv, Int.reduceAdd, Int.reduceNeg, Int.reduceEq, Int.reduceLT, Int.reduceLE]
  refine hKY _ ?_
  refine wlk_ret ?_
  simp only [go_sem, reduceIte, Nat.reduceEqDiff, Nat.reduceBEq, reduceCtorEq, Nat.reduceLT, Nat.reduceLeDiff, Nat.reduceAdd, Nat.reduceSub, Nat.reduceMul, Nat.reduceDiv, Int.reduceAdd, Int.reduceNeg, Int.reduceEq, Int.reduceLT, Int.reduceLE]
end Go.Proofs.Ytmpbfdakdoicjaa
namespace Go.Ga.Gl
open Go Go.Ga
end Go.Ga.Gl
namespace Go.Ga.Gl
open Go Go.Ga
def shiftE (N : Nat) (hs : Es) : Es := hs.map fun e => (e.1 + N, e.2 + N)
def besideE (N : Nat) (es hs : Es) : Es := es ++ shiftE N hs
theorem GR.beside {N M : Nat} {es hs : Es} (g : GR N es) (h : GR M hs) (h1 : N + M ≤ 4096) (h2 : es.length + hs.length ≤ 65536) : GR (N + M) (besideE N es hs) := by
  refine ⟨h1, by simp [besideE, shiftE]; exact h2, ?_, ?_⟩
  · intro e he
    rcases List.mem_append.1 he with he | he
    · have := g.ok e he; exact ⟨this.1, by omega⟩
    · obtain ⟨x, hx, rfl⟩ := List.mem_map.1 he
      have := h.ok x hx
      exact ⟨by simp; exact this.1, by simp; omega⟩
  · refine List.pairwise_append.2 ⟨g.up, List.pairwise_map.2 (h.up.imp fun {a b} h => ?_), fun a ha b hb => ?_⟩
    · unfold lexlt at *; simp only; omega
    · obtain ⟨x, hx, rfl⟩ := List.mem_map.1 hb
      have := g.ok a ha
      unfold lexlt; simp only; omega
theorem adj_shift {N : Nat} {hs : Es} {a b : Nat} : adj (shiftE N hs) a b ↔ ∃ c d, a = c + N ∧ b = d + N ∧ adj hs c d := by
  unfold adj shiftE
  simp only [List.mem_map, Prod.mk.injEq, Prod.exists]
  constructor
  · rintro (⟨c, d, h, h1, h2⟩ | ⟨c, d, h, h1, h2⟩)
    · exact ⟨c, d, h1.symm, h2.symm, .inl h⟩
    · exact ⟨d, c, h2.symm, h1.symm, .inr h⟩
  · rintro ⟨c, d, h1, h2, h | h⟩
    · exact .inl ⟨c, d, h, h1.symm, h2.symm⟩
    · exact .inr ⟨d, c, h, h2.symm, h1.symm⟩
theorem adj_beside {N : Nat} {es hs : Es} {a b : Nat} : adj (besideE N es hs) a b ↔ adj es a b ∨ adj (shiftE N hs) a b := by
  unfold adj besideE
  simp only [List.mem_append]
  constructor
  · rintro ((h | h) | (h | h))
    · exact .inl (.inl h)
    · exact .inr (.inl h)
    · exact .inl (.inr h)
    · exact .inr (.inr h)
  · rintro ((h | h) | (h | h))
    · exact .inl (.inl h)
    · exact .inr (.inl h)
    · exact .inl (.inr h)
    · exact .inr (.inr h)
theorem head_mem {p : List Nat} {a : Nat} (h : a ∈ p.head?) : a ∈ p := by
  cases p with
  | nil => cases h
  | cons b p => have : b = a := by simpa using h
                subst this; exact List.mem_cons_self ..
theorem IsPieces.beside {N M : Nat} {es hs : Es} (g : GR N es) {O : Nat → Prop} (hO : ∀ v, ¬ O v) {ps qs : List (List Nat)} (P : IsPieces N es O ps) (Q : IsPieces M hs O qs) :
    IsPieces (N + M) (besideE N es hs) O (ps ++ qs.map fun q => q.map (· + N)) := by
  have hq : ∀ r, r ∈ (qs.map fun q => q.map (· + N)) ↔ ∃ q ∈ qs, q.map (· + N) = r := fun r => List.mem_map
  have lo : ∀ p ∈ ps, ∀ v ∈ p, v < N := fun p hp v hv => ((P.mem v).1 ⟨p, hp, hv⟩).1
  refine ⟨fun v => ?_, ?_, ?_, ?_, ?_, ?_, ?_⟩
  · constructor
    · rintro ⟨r, hr, hv⟩
      rcases List.mem_append.1 hr with hr | hr
      · exact ⟨by have := lo r hr v hv; omega, hO v⟩
      · obtain ⟨q, h1, rfl⟩ := (hq r).1 hr
        obtain ⟨w, hw, rfl⟩ := List.mem_map.1 hv
        have := ((Q.mem w).1 ⟨q, h1, hw⟩).1
        exact ⟨by omega, hO _⟩
    · rintro ⟨hv, _⟩
      by_cases h : v < N
      · obtain ⟨p, hp, hvp⟩ := (P.mem v).2 ⟨h, hO v⟩
        exact ⟨p, List.mem_append_left _ hp, hvp⟩
      · obtain ⟨q, h1, h2⟩ := (Q.mem (v - N)).2 ⟨by omega, hO _⟩
        exact ⟨q.map (· + N), List.mem_append_right _ ((hq _).2 ⟨q, h1, rfl⟩), List.mem_map.2 ⟨v - N, h2, by omega⟩⟩
  · intro r hr
    rcases List.mem_append.1 hr with hr | hr
    · exact P.ne r hr
    · obtain ⟨q, h1, rfl⟩ := (hq r).1 hr
      have := Q.ne q h1
      simpa using this
  · intro r hr
    rcases List.mem_append.1 hr with hr | hr
    · exact P.inc r hr
    · obtain ⟨q, h1, rfl⟩ := (hq r).1 hr
      exact List.pairwise_map.2 ((Q.inc q h1).imp fun h => by omega)
  · refine List.pairwise_append.2 ⟨P.heads, List.pairwise_map.2 (Q.heads.imp fun {p q} h a ha b hb => ?_), fun p hp r hr a ha b hb => ?_⟩
    · rw [List.head?_map] at ha hb
      obtain ⟨x, hx, rfl⟩ := Option.map_eq_some_iff.1 ha
      obtain ⟨y, hy, rfl⟩ := Option.map_eq_some_iff.1 hb
      have := h x hx y hy; omega
    · obtain ⟨q, h1, rfl⟩ := (hq r).1 hr
      have h2 := lo p hp a (head_mem ha)
      obtain ⟨y, hy, rfl⟩ := List.mem_map.1 (head_mem hb)
      omega
  · refine List.pairwise_append.2 ⟨P.disj, List.pairwise_map.2 (Q.disj.imp fun {p q} h v hv hv' => ?_), fun p hp r hr v hv hv' => ?_⟩
    · obtain ⟨x, hx, rfl⟩ := List.mem_map.1 hv
      obtain ⟨y, hy, e⟩ := List.mem_map.1 hv'
      have : y = x := by omega
      subst this; exact h y hx hy
    · obtain ⟨q, h1, rfl⟩ := (hq r).1 hr
      have h2 := lo p hp v hv
      obtain ⟨y, hy, rfl⟩ := List.mem_map.1 hv'
      omega
  · intro r hr a ha b hab hb hob
    rcases List.mem_append.1 hr with hr | hr
    · rcases adj_beside.1 hab with h | h
      · exact P.edge r hr a ha b h (g.adj_lt a b h).2 hob
      · obtain ⟨c, d, rfl, rfl, _⟩ := adj_shift.1 h
        have := lo r hr _ ha; omega
    · obtain ⟨q, h1, rfl⟩ := (hq r).1 hr
      obtain ⟨x, hx, rfl⟩ := List.mem_map.1 ha
      rcases adj_beside.1 hab with h | h
      · have := (g.adj_lt _ _ h).1; omega
      · obtain ⟨c, d, e1, rfl, h⟩ := adj_shift.1 h
        have : x = c := by omega
        subst this
        exact List.mem_map.2 ⟨d, Q.edge q h1 x hx d h (by omega) (hO d), rfl⟩
  · intro r hr f hf a ha b hb
    rcases List.mem_append.1 hr with hr | hr
    · exact P.conn r hr f (fun x y h hx hy => hf x y (adj_beside.2 (.inl h)) hx hy) a ha b hb
    · obtain ⟨q, h1, rfl⟩ := (hq r).1 hr
      obtain ⟨x, hx, rfl⟩ := List.mem_map.1 ha
      obtain ⟨y, hy, rfl⟩ := List.mem_map.1 hb
      exact Q.conn q h1 (fun v => f (v + N)) (fun x y h _ _ => hf _ _ (adj_beside.2 (.inr (adj_shift.2 ⟨x, y, rfl, rfl, h⟩))) (hO _) (hO _)) x hx y hy
theorem adj_put {es : Es} {x y a b : Nat} : adj (putE es (x, y)) a b ↔ adj es a b ∨ (a = x ∧ b = y) ∨ (a = y ∧ b = x) := by
  unfold adj
  simp only [putE_mem, Prod.mk.injEq]
  constructor
  · rintro ((⟨h1, h2⟩ | h) | (⟨h1, h2⟩ | h))
    · exact .inr (.inl ⟨h1, h2⟩)
    · exact .inl (.inl h)
    · exact .inr (.inr ⟨h2, h1⟩)
    · exact .inl (.inr h)
  · rintro ((h | h) | ⟨h1, h2⟩ | ⟨h1, h2⟩)
    · exact .inl (.inr h)
    · exact .inr (.inr h)
    · exact .inl (.inl ⟨h1, h2⟩)
    · exact .inr (.inl ⟨h2, h1⟩)
theorem IsPieces.put_same {n : Nat} {es : Es} {O : Nat → Prop} {ps : List (List Nat)} (P : IsPieces n es O ps) {x y : Nat} {p : List Nat} (hp : p ∈ ps) (hx : x ∈ p) (hy : y ∈ p) : IsPieces n (putE es (x, y)) O ps :=
  { P with
    edge := fun q hq a ha b hab hb hob => by
      rcases adj_put.1 hab with h | ⟨rfl, rfl⟩ | ⟨rfl, rfl⟩
      · exact P.edge q hq a ha b h hb hob
      · rw [disj_same P.disj hq hp ha hx]; exact hy
      · rw [disj_same P.disj hq hp ha hy]; exact hx
    conn := fun q hq f hf a ha b hb => P.conn q hq f (fun u v h hu hv => hf u v (adj_put.2 (.inl h)) hu hv) a ha b hb }
theorem IsPieces.put_join {n : Nat} {es : Es} {O : Nat → Prop} {ps : List (List Nat)} (P : IsPieces n es O ps) {x y : Nat} {p q : List Nat} (hp : p ∈ ps) (hq : q ∈ ps) (hpq : p ≠ q) (hx : x ∈ p) (hy : y ∈ q)
    (hh : ∀ a ∈ p.head?, ∀ b ∈ q.head?, a < b) : ∃ ps', IsPieces n (putE es (x, y)) O ps' ∧ ps'.length + 1 = ps.length := by
  let m := (List.range n).filter fun v => decide (v ∈ p ∨ v ∈ q)
  have hm : ∀ v, v ∈ m ↔ v ∈ p ∨ v ∈ q := fun v => by
    simp only [m, List.mem_filter, List.mem_range, decide_eq_true_eq]
    constructor
    · exact fun h => h.2
    · rintro (h | h)
      · exact ⟨((P.mem v).1 ⟨p, hp, h⟩).1, .inl h⟩
      · exact ⟨((P.mem v).1 ⟨q, hq, h⟩).1, .inr h⟩
  have hinc : m.Pairwise (· < ·) := List.pairwise_lt_range.filter _
  have first : ∀ {r : List Nat}, r.Pairwise (· < ·) → ∀ a ∈ r.head?, ∀ v ∈ r, a ≤ v := by
    intro r hr a ha v hv
    cases r with
    | nil => cases ha
    | cons b r =>
      have : b = a := by simpa using ha
      subst this
      rcases List.mem_cons.1 hv with e | e
      · omega
      · have := (List.pairwise_cons.1 hr).1 v e; omega
  have hne : m ≠ [] := fun e => by have := (hm x).2 (.inl hx); rw [e] at this; cases this
  have hhead : ∀ a, a ∈ m.head? → a ∈ p.head? := by
    intro a ha
    obtain ⟨b, p', hpe⟩ := List.exists_cons_of_ne_nil (P.ne p hp)
    have hb : b ∈ p.head? := by rw [hpe]; rfl
    have h1 : a ≤ b := first hinc a ha b ((hm b).2 (.inl (head_mem hb)))
    have h2 : b ≤ a := by
      rcases (hm a).1 (head_mem ha) with h | h
      · exact first (P.inc p hp) b hb a h
      · obtain ⟨c, q', hqe⟩ := List.exists_cons_of_ne_nil (P.ne q hq)
        have hc : c ∈ q.head? := by rw [hqe]; rfl
        have := hh b hb c hc
        have := first (P.inc q hq) c hc a h
        omega
    have : a = b := by omega
    rw [this]; exact hb
  let φ := fun r => if r = p then m else r
  have hφ : ∀ r a, a ∈ (φ r).head? → a ∈ r.head? := by
    intro r a ha
    simp only [φ] at ha
    split at ha
    · rename_i e; rw [e]; exact hhead a ha
    · exact ha
  have hmem : ∀ r', r' ∈ (ps.filter fun r => decide (r ≠ q)).map φ ↔ ∃ r ∈ ps, r ≠ q ∧ φ r = r' := fun r' => by
    simp only [List.mem_map, List.mem_filter, decide_eq_true_eq, and_assoc]
  have hin : ∀ r v, r ∈ ps → r ≠ q → (v ∈ φ r ↔ v ∈ r ∨ (r = p ∧ v ∈ q)) := by
    intro r v _ _
    simp only [φ]
    split
    · rename_i e; subst e; rw [hm]; simp
    · rename_i e; simp [e]
  refine ⟨(ps.filter fun r => decide (r ≠ q)).map φ, ⟨fun v => ?_, ?_, ?_, ?_, ?_, ?_, ?_⟩, ?_⟩
  · rw [← P.mem v]
    constructor
    · rintro ⟨r', hr', hv⟩
      obtain ⟨r, hr, hrq, rfl⟩ := (hmem r').1 hr'
      rcases (hin r v hr hrq).1 hv with h | ⟨_, h⟩
      · exact ⟨r, hr, h⟩
      · exact ⟨q, hq, h⟩
    · rintro ⟨r, hr, hv⟩
      by_cases hrq : r = q
      · subst hrq
        exact ⟨φ p, (hmem _).2 ⟨p, hp, hpq, rfl⟩, (hin p v hp hpq).2 (.inr ⟨rfl, hv⟩)⟩
      · exact ⟨φ r, (hmem _).2 ⟨r, hr, hrq, rfl⟩, (hin r v hr hrq).2 (.inl hv)⟩
  · intro r' hr'
    obtain ⟨r, hr, _, rfl⟩ := (hmem r').1 hr'
    simp only [φ]; split
    · exact hne
    · exact P.ne r hr
  · intro r' hr'
    obtain ⟨r, hr, _, rfl⟩ := (hmem r').1 hr'
    simp only [φ]; split
    · exact hinc
    · exact P.inc r hr
  · refine List.pairwise_map.2 ((P.heads.filter _).imp fun {r s} h a ha b hb => h a (hφ r a ha) b (hφ s b hb))
  · refine List.pairwise_map.2 ((P.disj.filter _).imp_of_mem fun {r s} hr hs h v hv hv' => ?_)
    simp only [List.mem_filter, decide_eq_true_eq] at hr hs
    rcases (hin r v hr.1 hr.2).1 hv with h1 | ⟨e1, h1⟩
    · rcases (hin s v hs.1 hs.2).1 hv' with h2 | ⟨_, h2⟩
      · exact h v h1 h2
      · exact hr.2 (disj_same P.disj hr.1 hq h1 h2)
    · rcases (hin s v hs.1 hs.2).1 hv' with h2 | ⟨e2, _⟩
      · exact hs.2 (disj_same P.disj hs.1 hq h2 h1)
      · rw [e1, e2] at h
        exact h x hx hx
  · intro r' hr' a ha b hab hb hob
    obtain ⟨r, hr, hrq, rfl⟩ := (hmem r').1 hr'
    rw [hin r b hr hrq]
    rcases (hin r a hr hrq).1 ha with h1 | ⟨rfl, h1⟩
    · rcases adj_put.1 hab with h | ⟨rfl, rfl⟩ | ⟨rfl, rfl⟩
      · exact .inl (P.edge r hr a h1 b h hb hob)
      · exact .inr ⟨disj_same P.disj hr hp h1 hx, hy⟩
      · exact absurd (disj_same P.disj hr hq h1 hy) hrq
    · rcases adj_put.1 hab with h | ⟨rfl, rfl⟩ | ⟨rfl, rfl⟩
      · exact .inr ⟨rfl, P.edge q hq a h1 b h hb hob⟩
      · exact absurd (disj_same P.disj hp hq hx h1) hpq
      · exact .inl hx
  · intro r' hr' f hf a ha b hb
    obtain ⟨r, hr, hrq, rfl⟩ := (hmem r').1 hr'
    have hf' : Flat es O f := fun u v h hu hv => hf u v (adj_put.2 (.inl h)) hu hv
    have hxy : f x = f y := hf x y (adj_put.2 (.inr (.inl ⟨rfl, rfl⟩))) ((P.mem x).1 ⟨p, hp, hx⟩).2 ((P.mem y).1 ⟨q, hq, hy⟩).2
    have key : ∀ v, v ∈ φ r → (r = p ∧ f v = f x) ∨ (r ≠ p ∧ v ∈ r) := by
      intro v hv
      by_cases e : r = p
      · left; refine ⟨e, ?_⟩
        rcases (hin r v hr hrq).1 hv with h | ⟨_, h⟩
        · rw [e] at h; exact P.conn p hp f hf' v h x hx
        · rw [hxy]; exact P.conn q hq f hf' v h y hy
      · right; refine ⟨e, ?_⟩
        rcases (hin r v hr hrq).1 hv with h | ⟨h, _⟩
        · exact h
        · exact absurd h e
    rcases key a ha with ⟨e, h1⟩ | ⟨e, h1⟩
    · rcases key b hb with ⟨_, h2⟩ | ⟨e', _⟩
      · rw [h1, h2]
      · exact absurd e e'
    · rcases key b hb with ⟨e', _⟩ | ⟨_, h2⟩
      · exact absurd e' e
      · exact P.conn r hr f hf' a h1 b h2
  · rw [List.length_map]
    have nd : ps.Nodup := P.disj.imp_of_mem fun {r s} hr _ h e => by
      subst e
      obtain ⟨v, hv⟩ := List.exists_mem_of_ne_nil r (P.ne r hr)
      exact h v hv hv
    have h1 : (ps.filter fun r => decide (r ≠ q)) = ps.erase q := by
      rw [nd.erase_eq_filter]
      congr 1
      funext r
      by_cases h : r = q <;> simp [h]
    rw [h1, List.length_erase_of_mem hq]
    have := List.length_pos_of_mem hq
    omega
theorem IsPieces.of_adj {n : Nat} {es es' : Es} {O : Nat → Prop} {ps : List (List Nat)} (P : IsPieces n es O ps) (h : ∀ a b, adj es a b ↔ adj es' a b) : IsPieces n es' O ps :=
  { P with
    edge := fun p hp a ha b hab => P.edge p hp a ha b ((h a b).2 hab)
    conn := fun p hp f hf => P.conn p hp f fun a b hab => hf a b ((h a b).1 hab) }
theorem put_count {n : Nat} {es : Es} {O : Nat → Prop} {ps ks : List (List Nat)} {x y : Nat} (hes : ∀ a b, adj (putE es (x, y)) a b → a < n ∧ b < n) (P : IsPieces n es O ps) (K : IsPieces n (putE es (x, y)) O ks) (hx : x < n ∧ ¬ O x) (hy : y < n ∧ ¬ O y) :
    (∃ k ∈ ks, x ∈ k ∧ y ∈ k) ∧ ((∃ p ∈ ps, x ∈ p ∧ y ∈ p) → ks.length = ps.length) ∧ ((¬ ∃ p ∈ ps, x ∈ p ∧ y ∈ p) → ks.length + 1 = ps.length) := by
  refine ⟨?_, ?_, ?_⟩
  · obtain ⟨k, hk, hxk⟩ := (K.mem x).2 hx
    exact ⟨k, hk, hxk, K.edge k hk x hxk y (adj_put.2 (.inr (.inl ⟨rfl, rfl⟩))) hy.1 hy.2⟩
  · rintro ⟨p, hp, h1, h2⟩
    rw [K.unique hes (P.put_same hp h1 h2)]
  · intro hn
    obtain ⟨p, hp, hxp⟩ := (P.mem x).2 hx
    obtain ⟨q, hq, hyq⟩ := (P.mem y).2 hy
    have hpq : p ≠ q := fun e => hn ⟨p, hp, hxp, e ▸ hyq⟩
    obtain ⟨a, p', hpe⟩ := List.exists_cons_of_ne_nil (P.ne p hp)
    obtain ⟨b, q', hqe⟩ := List.exists_cons_of_ne_nil (P.ne q hq)
    have hap : a ∈ p := by rw [hpe]; exact List.mem_cons_self ..
    have hbq : b ∈ q := by rw [hqe]; exact List.mem_cons_self ..
    have hab : a ≠ b := fun e => hpq (disj_same P.disj hp hq hap (e ▸ hbq))
    rcases Nat.lt_or_gt_of_ne hab with h | h
    · obtain ⟨ps', h1, h2⟩ := P.put_join hp hq hpq hxp hyq (by rw [hpe, hqe]; intro u hu v hv; cases hu; cases hv; exact h)
      rw [K.unique hes h1]; exact h2
    · obtain ⟨ps', h1, h2⟩ := P.put_join hq hp (Ne.symm hpq) hyq hxp (by rw [hpe, hqe]; intro u hu v hv; cases hu; cases hv; exact h)
      have h1' : IsPieces n (putE es (x, y)) O ps' := h1.of_adj fun a b => by
        rw [adj_put, adj_put]
        constructor
        · rintro (h | h | h)
          · exact .inl h
          · exact .inr (.inr h)
          · exact .inr (.inl h)
        · rintro (h | h | h)
          · exact .inl h
          · exact .inr (.inr h)
          · exact .inr (.inl h)
      rw [K.unique hes h1']; exact h2
end Go.Ga.Gl
set_option maxRecDepth 100000
set_option maxHeartbeats 8000000
namespace Go.Proofs.Ytmpbfdakdoicjaa
open Go Go.Ga Go.Ga.Gl
theorem shift_snoc {N : Nat} {hs : Es} {k a b : Nat} (h : hs[k]? = some (a, b)) : shiftE N (hs.take (k + 1)) = shiftE N (hs.take k) ++ [(a + N, b + N)] := by
  rw [List.take_add_one, h]; simp [shiftE]
theorem beside_ok {N M : Nat} {es hs : Es} (g : GR N es) (h : GR M hs) : ACalls Try.prog [] n_garlandplay_Beside [.agg [.sc (.int .i64 (N : Int)), .imm 2 (twos (castE es))], .agg [.sc (.int .i64 (M : Int)), .imm 2 (twos (castE hs))]] [] fun r h' => r = .agg [.sc (.int .i64 ((N + M : Nat) : Int)), .imm 2 (twos (castE (besideE N es hs)))] ∧ h' = [] := by
  have g1 := g.hn
  have g2 := g.hm
  have h1 := h.hn
  have h2 := h.hm
  have w0 : IntKind.i64.wrap ((N : Int) + (M : Int)) = ((N + M : Nat) : Int) := by rw [IntWalk.i64_in _ (by omega)]; omega
  have b1 : es.length * 2 * 16 ≤ 140737488355328 := by omega
  refine go_garlandplay_Beside rfl ?_
  unfold c_garlandplay_Beside v_garlandplay_Beside
  refine wlk_sreg fun KY hKY => ?_
  simp only [go_sem, reduceIte, Nat.reduceEqDiff, Nat.reduceBEq, reduceCtorEq, Nat.reduceLT, Nat.reduceLeDiff, Nat.reduceAdd, Nat.reduceSub, Nat.reduceMul, Nat.reduceDiv, Int.reduceAdd, Int.reduceNeg, Int.reduceEq, Int.reduceLT, Int.reduceLE, c_garlandplay_Beside_r0]
  refine hKY _ ?_
  refine wlk_sdraw fun KY hKY => ?_
  simp only [go_sem, reduceIte, Nat.reduceEqDiff, Nat.reduceBEq, reduceCtorEq, Nat.reduceLT, Nat.reduceLeDiff, Nat.reduceAdd, Nat.reduceSub, Nat.reduceMul, Nat.reduceDiv, Int.reduceAdd, Int.reduceNeg, Int.reduceEq, Int.reduceLT, Int.reduceLE, c_garlandplay_Beside_r1, w0, b1, castE_len, twos_cellOk]
  refine (fun H => by refine ⟨⟨hKY _ ?_, hKY _ ?_⟩, hKY _ ?_⟩ <;> (simp only [go_sem, reduceIte, Nat.reduceEqDiff, Nat.reduceBEq, reduceCtorEq, Nat.reduceLT, Nat.reduceLeDiff, Nat.reduceAdd, Nat.reduceSub, Nat.reduceMul, Nat.reduceDiv, Int.reduceAdd, Int.reduceNeg, Int.reduceEq, Int.reduceLT, Int.reduceLE]; exact H)) ?_
  refine wlk_seq fun X1 hn1 he1 hr1 => ?_
  refine wlk_sreg fun KY hKY => ?_
  simp only [go_sem, reduceIte, Nat.reduceEqDiff, Nat.reduceBEq, reduceCtorEq, Nat.reduceLT, Nat.reduceLeDiff, Nat.reduceAdd, Nat.reduceSub, Nat.reduceMul, Nat.reduceDiv, Int.reduceAdd, Int.reduceNeg, Int.reduceEq, Int.reduceLT, Int.reduceLE, c_garlandplay_Beside_r2]
  refine hKY _ ?_
  simp only [go_sem, reduceIte, Nat.reduceEqDiff, Nat.reduceBEq, reduceCtorEq, Nat.reduceLT, Nat.reduceLeDiff, Nat.reduceAdd, Nat.reduceSub, Nat.reduceMul, Nat.reduceDiv, Int.reduceAdd, Int.reduceNeg, Int.reduceEq, Int.reduceLT, Int.reduceLE]
  rw [show castE es = castE (es ++ shiftE N (hs.take 0)) by simp [shiftE]]
  refine wlk_blk fun X2 hn2 he2 hf2 hr2 => ?_
  try simp only [go_sem, reduceIte, Nat.reduceEqDiff, Nat.reduceBEq, reduceCtorEq, Nat.reduceLT, Nat.reduceLeDiff, Nat.reduceAdd, Nat.reduceSub, Nat.reduceMul, Nat.reduceDiv, Int.reduceAdd, Int.reduceNeg, Int.reduceEq, Int.reduceLT, Int.reduceLE]
  refine wlk_lp (α := Nat) [20] (fun k => [(5, .own none [.sc (.int .i64 ((N + M : Nat) : Int)), .own (some 2) (twos (castE (es ++ shiftE N (hs.take k))))]), (6, .sc (.int .i64 (k : Int)))]) (fun k => []) (fun k q => k ≤ hs.length ∧ q = hs.length - k) (0) (hs.length) rfl (by first | (simp only [go_sem, reduceIte, Nat.reduceEqDiff, Nat.reduceBEq, reduceCtorEq, Nat.reduceLT, Nat.reduceLeDiff, Nat.reduceAdd, Nat.reduceSub, Nat.reduceMul, Nat.reduceDiv, Int.reduceAdd, Int.reduceNeg, Int.reduceEq, Int.reduceLT, Int.reduceLE, updAll_cons, updAll_nil]; done) | rfl) (⟨by omega, rfl⟩) ?_
  rintro k q ⟨hk, rfl⟩ X3 hn3 he3 hr3
  simp only [go_sem, reduceIte, Nat.reduceEqDiff, Nat.reduceBEq, reduceCtorEq, Nat.reduceLT, Nat.reduceLeDiff, Nat.reduceAdd, Nat.reduceSub, Nat.reduceMul, Nat.reduceDiv, Int.reduceAdd, Int.reduceNeg, Int.reduceEq, Int.reduceLT, Int.reduceLE, updAll_cons, updAll_nil]
  refine wlk_seq fun X4 hn4 he4 hr4 => ?_
  refine wlk_sreg fun KY hKY => ?_
  simp only [go_sem, reduceIte, Nat.reduceEqDiff, Nat.reduceBEq, reduceCtorEq, Nat.reduceLT, Nat.reduceLeDiff, Nat.reduceAdd, Nat.reduceSub, Nat.reduceMul, Nat.reduceDiv, Int.reduceAdd, Int.reduceNeg, Int.reduceEq, Int.reduceLT, Int.reduceLE, c_garlandplay_Beside_r3, castE_len]
  refine hKY _ ?_
  by_cases hk2 : k < hs.length
  · refine wlk_cond1 (by first | rfl | (simp only [go_sem, reduceIte, Nat.reduceEqDiff, Nat.reduceBEq, reduceCtorEq, Nat.reduceLT, Nat.reduceLeDiff, Nat.reduceAdd, Nat.reduceSub, Nat.reduceMul, Nat.reduceDiv, Int.reduceAdd, Int.reduceNeg, Int.reduceEq, Int.reduceLT, Int.reduceLE]; try simp (disch := omega) only [decide_eq_true, decide_eq_false])) ?_
    refine wlk_skip ?_
    repeat (first | refine hn4 _ ?_ | refine he4 _ _ ?_ | refine hr4 _ ?_ | refine he3 _ _ ?_ | refine hr3 _ ?_ | refine hn2 _ ?_ | refine he2 _ ?_ | refine hf2 _ _ (by decide) ?_ | refine hr2 _ ?_ | refine hn1 _ ?_ | refine he1 _ _ ?_ | refine hr1 _ ?_)
    refine wlk_seq fun X5 hn5 he5 hr5 => ?_
    refine wlk_blk fun X6 hn6 he6 hf6 hr6 => ?_
    have hx : hs[k]? = some hs[k] := List.getElem?_eq_getElem hk2
    have hy := h.ok hs[k] (List.getElem_mem hk2)
    generalize hs[k] = x at hx hy
    obtain ⟨a, b⟩ := x
    simp only at hy
    have hx' := castE_get hx
    have k1 : k * 2 + 1 < hs.length * 2 := by omega
    have k2 : k * 2 < hs.length * 2 := by omega
    have wa : IntKind.i64.wrap ((a : Int) + (N : Int)) = ((a + N : Nat) : Int) := by rw [IntWalk.i64_in _ (by omega)]; omega
    have wb : IntKind.i64.wrap ((b : Int) + (N : Int)) = ((b + N : Nat) : Int) := by rw [IntWalk.i64_in _ (by omega)]; omega
    have hsn : twos (castE (es ++ shiftE N (hs.take k))) ++ [.sc (.int .i64 ((a + N : Nat) : Int)), .sc (.int .i64 ((b + N : Nat) : Int))] = twos (castE (es ++ shiftE N (hs.take (k + 1)))) := by
      rw [shift_snoc hx, ← List.append_assoc, castE_append (es ++ shiftE N (hs.take k)), twos_append]; rfl
    have hl : ((es ++ shiftE N (hs.take k)).length * 2 + 2) * 16 ≤ 140737488355328 := by simp [shiftE]; omega
    refine wlk_draw fun KY hKY => ?_
    simp only [go_sem, reduceIte, Nat.reduceEqDiff, Nat.reduceBEq, reduceCtorEq, Nat.reduceLT, Nat.reduceLeDiff, Nat.reduceAdd, Nat.reduceSub, Nat.reduceMul, Nat.reduceDiv, Int.reduceAdd, Int.reduceNeg, Int.reduceEq, Int.reduceLT, Int.reduceLE, c_garlandplay_Beside_r4, castE_len, hk2, two_get0 hx', two_get1 hx', wa, wb, k1, k2, hsn, hl]
    refine hKY _ ?_
    repeat (first | refine hn6 _ ?_ | refine he6 _ ?_ | refine hf6 _ _ (by decide) ?_ | refine hr6 _ ?_ | refine hn5 _ ?_ | refine he5 _ _ ?_ | refine hr5 _ ?_ | refine hn4 _ ?_ | refine he4 _ _ ?_ | refine hr4 _ ?_ | refine he3 _ _ ?_ | refine hr3 _ ?_ | refine hn2 _ ?_ | refine he2 _ ?_ | refine hf2 _ _ (by decide) ?_ | refine hr2 _ ?_ | refine hn1 _ ?_ | refine he1 _ _ ?_ | refine hr1 _ ?_)
    refine wlk_reg fun KY hKY => ?_
    simp only [go_sem, reduceIte, Nat.reduceEqDiff, Nat.reduceBEq, reduceCtorEq, Nat.reduceLT, Nat.reduceLeDiff, Nat.reduceAdd, Nat.reduceSub, Nat.reduceMul, Nat.reduceDiv, Int.reduceAdd, Int.reduceNeg, Int.reduceEq, Int.reduceLT, Int.reduceLE, c_garlandplay_Beside_r5, inc k (by omega)]
    refine hKY _ ?_
    repeat (first | refine hn6 _ ?_ | refine he6 _ ?_ | refine hf6 _ _ (by decide) ?_ | refine hr6 _ ?_ | refine hn5 _ ?_ | refine he5 _ _ ?_ | refine hr5 _ ?_ | refine hn4 _ ?_ | refine he4 _ _ ?_ | refine hr4 _ ?_ | refine he3 _ _ ?_ | refine hr3 _ ?_ | refine hn2 _ ?_ | refine he2 _ ?_ | refine hf2 _ _ (by decide) ?_ | refine hr2 _ ?_ | refine hn1 _ ?_ | refine he1 _ _ ?_ | refine hr1 _ ?_)
    refine hn3 _ (k + 1) (hs.length - (k + 1)) (by omega) (by first | (simp only [go_sem, reduceIte, Nat.reduceEqDiff, Nat.reduceBEq, reduceCtorEq, Nat.reduceLT, Nat.reduceLeDiff, Nat.reduceAdd, Nat.reduceSub, Nat.reduceMul, Nat.reduceDiv, Int.reduceAdd, Int.reduceNeg, Int.reduceEq, Int.reduceLT, Int.reduceLE, updAll_cons, updAll_nil]; done) | rfl) ?_
    exact ⟨hk2, rfl⟩
  · refine wlk_cond0 (by first | rfl | (simp only [go_sem, reduceIte, Nat.reduceEqDiff, Nat.reduceBEq, reduceCtorEq, Nat.reduceLT, Nat.reduceLeDiff, Nat.reduceAdd, Nat.reduceSub, Nat.reduceMul, Nat.reduceDiv, Int.reduceAdd, Int.reduceNeg, Int.reduceEq, Int.reduceLT, Int.reduceLE]; try simp (disch := omega) only [decide_eq_true, decide_eq_false])) ?_
    refine wlk_exit ?_
    repeat (first | refine hn4 _ ?_ | refine he4 _ _ ?_ | refine hr4 _ ?_ | refine he3 _ _ ?_ | refine hr3 _ ?_ | refine hn2 _ ?_ | refine he2 _ ?_ | refine hf2 _ _ (by decide) ?_ | refine hr2 _ ?_ | refine hn1 _ ?_ | refine he1 _ _ ?_ | refine hr1 _ ?_)
    obtain rfl : k = hs.length := by omega
    rw [List.take_length]
    refine sem_freeze [0, 5, 1] (by simp only [go_sem, reduceIte, Nat.reduceEqDiff, Nat.reduceBEq, reduceCtorEq, Nat.reduceLT, Nat.reduceLeDiff, Nat.reduceAdd, Nat.reduceSub, Nat.reduceMul, Nat.reduceDiv, Int.reduceAdd, Int.reduceNeg, Int.reduceEq, Int.reduceLT, Int.reduceLE]; rfl) ?_
    simp only [go_sem, reduceIte, Nat.reduceEqDiff, Nat.reduceBEq, reduceCtorEq, Nat.reduceLT, Nat.reduceLeDiff, Nat.reduceAdd, Nat.reduceSub, Nat.reduceMul, Nat.reduceDiv, Int.reduceAdd, Int.reduceNeg, Int.reduceEq, Int.reduceLT, Int.reduceLE]
    refine wlk_sreg fun KY hKY => ?_
    simp only [go_sem, reduceIte, Nat.reduceEqDiff, Nat.reduceBEq, reduceCtorEq, Nat.reduceLT, Nat.reduceLeDiff, Nat.reduceAdd, Nat.reduceSub, Nat.reduceMul, Nat.reduceDiv, Int.reduceAdd, Int.reduceNeg, Int.reduceEq, Int.reduceLT, Int.reduceLE, c_garlandplay_Beside_r6]
    refine hKY _ ?_
    refine wlk_ret ?_
    repeat (first | refine hn4 _ ?_ | refine he4 _ _ ?_ | refine hr4 _ ?_ | refine he3 _ _ ?_ | refine hr3 _ ?_ | refine hn2 _ ?_ | refine he2 _ ?_ | refine hf2 _ _ (by decide) ?_ | refine hr2 _ ?_ | refine hn1 _ ?_ | refine he1 _ _ ?_ | refine hr1 _ ?_)
    simp only [go_sem, reduceIte, Nat.reduceEqDiff, Nat.reduceBEq, reduceCtorEq, Nat.reduceLT, Nat.reduceLeDiff, Nat.reduceAdd, Nat.reduceSub, Nat.reduceMul, Nat.reduceDiv, Int.reduceAdd, Int.reduceNeg, Int.reduceEq, Int.reduceLT, Int.reduceLE]
    rfl
theorem shift_ok (l : List Nat) (N : Nat) (hN : N ≤ 4096) (hb : l.length ≤ 1000000) (hl : ∀ v ∈ l, v ≤ 1000000) : ACalls Try.prog [] n_garlandplay_Shift [.imm 1 (nats l), .sc (.int .i64 (N : Int))] [] fun r h' => r = .own (some 1) (nats (l.map (· + N))) ∧ h' = [] := by
  refine go_garlandplay_Shift rfl ?_
  unfold c_garlandplay_Shift v_garlandplay_Shift
  refine wlk_sreg fun KY hKY => ?_
  simp only [go_sem, reduceIte, Nat.reduceEqDiff, Nat.reduceBEq, reduceCtorEq, Nat.reduceLT, Nat.reduceLeDiff, Nat.reduceAdd, Nat.reduceSub, Nat.reduceMul, Nat.reduceDiv, Int.reduceAdd, Int.reduceNeg, Int.reduceEq, Int.reduceLT, Int.reduceLE, c_garlandplay_Shift_r0]
  refine hKY _ ?_
  refine wlk_sreg fun KY hKY => ?_
  simp only [go_sem, reduceIte, Nat.reduceEqDiff, Nat.reduceBEq, reduceCtorEq, Nat.reduceLT, Nat.reduceLeDiff, Nat.reduceAdd, Nat.reduceSub, Nat.reduceMul, Nat.reduceDiv, Int.reduceAdd, Int.reduceNeg, Int.reduceEq, Int.reduceLT, Int.reduceLE, c_garlandplay_Shift_r1]
  refine hKY _ ?_
  simp only [go_sem, reduceIte, Nat.reduceEqDiff, Nat.reduceBEq, reduceCtorEq, Nat.reduceLT, Nat.reduceLeDiff, Nat.reduceAdd, Nat.reduceSub, Nat.reduceMul, Nat.reduceDiv, Int.reduceAdd, Int.reduceNeg, Int.reduceEq, Int.reduceLT, Int.reduceLE]
  refine sem_nil [0, 5] 1 (by simp only [go_sem, reduceIte, Nat.reduceEqDiff, Nat.reduceBEq, reduceCtorEq, Nat.reduceLT, Nat.reduceLeDiff, Nat.reduceAdd, Nat.reduceSub, Nat.reduceMul, Nat.reduceDiv, Int.reduceAdd, Int.reduceNeg, Int.reduceEq, Int.reduceLT, Int.reduceLE]) ?_
  refine wlk_seq fun X1 hn1 he1 hr1 => ?_
  refine wlk_sreg fun KY hKY => ?_
  simp only [go_sem, reduceIte, Nat.reduceEqDiff, Nat.reduceBEq, reduceCtorEq, Nat.reduceLT, Nat.reduceLeDiff, Nat.reduceAdd, Nat.reduceSub, Nat.reduceMul, Nat.reduceDiv, Int.reduceAdd, Int.reduceNeg, Int.reduceEq, Int.reduceLT, Int.reduceLE, c_garlandplay_Shift_r2]
  refine hKY _ ?_
  refine wlk_blk fun X2 hn2 he2 hf2 hr2 => ?_
  try simp only [go_sem, reduceIte, Nat.reduceEqDiff, Nat.reduceBEq, reduceCtorEq, Nat.reduceLT, Nat.reduceLeDiff, Nat.reduceAdd, Nat.reduceSub, Nat.reduceMul, Nat.reduceDiv, Int.reduceAdd, Int.reduceNeg, Int.reduceEq, Int.reduceLT, Int.reduceLE]
  refine wlk_lp (α := Nat) [10] (fun k => [(5, .own (some 1) (nats ((l.take k).map (· + N)))), (6, .sc (.int .i64 (k : Int)))]) (fun k => []) (fun k q => k ≤ l.length ∧ q = l.length - k) (0) (l.length) rfl (by first | (simp only [go_sem, reduceIte, Nat.reduceEqDiff, Nat.reduceBEq, reduceCtorEq, Nat.reduceLT, Nat.reduceLeDiff, Nat.reduceAdd, Nat.reduceSub, Nat.reduceMul, Nat.reduceDiv, Int.reduceAdd, Int.reduceNeg, Int.reduceEq, Int.reduceLT, Int.reduceLE, updAll_cons, updAll_nil]; done) | rfl) (⟨by omega, rfl⟩) ?_
  rintro k q ⟨hk, rfl⟩ X3 hn3 he3 hr3
  simp only [go_sem, reduceIte, Nat.reduceEqDiff, Nat.reduceBEq, reduceCtorEq, Nat.reduceLT, Nat.reduceLeDiff, Nat.reduceAdd, Nat.reduceSub, Nat.reduceMul, Nat.reduceDiv, Int.reduceAdd, Int.reduceNeg, Int.reduceEq, Int.reduceLT, Int.reduceLE, updAll_cons, updAll_nil]
  refine wlk_seq fun X4 hn4 he4 hr4 => ?_
  refine wlk_sreg fun KY hKY => ?_
  simp only [go_sem, reduceIte, Nat.reduceEqDiff, Nat.reduceBEq, reduceCtorEq, Nat.reduceLT, Nat.reduceLeDiff, Nat.reduceAdd, Nat.reduceSub, Nat.reduceMul, Nat.reduceDiv, Int.reduceAdd, Int.reduceNeg, Int.reduceEq, Int.reduceLT, Int.reduceLE, c_garlandplay_Shift_r3]
  refine hKY _ ?_
  by_cases hk2 : k < l.length
  · refine wlk_cond1 (by first | rfl | (simp only [go_sem, reduceIte, Nat.reduceEqDiff, Nat.reduceBEq, reduceCtorEq, Nat.reduceLT, Nat.reduceLeDiff, Nat.reduceAdd, Nat.reduceSub, Nat.reduceMul, Nat.reduceDiv, Int.reduceAdd, Int.reduceNeg, Int.reduceEq, Int.reduceLT, Int.reduceLE]; try simp (disch := omega) only [decide_eq_true, decide_eq_false])) ?_
    refine wlk_skip ?_
    repeat (first | refine hn4 _ ?_ | refine he4 _ _ ?_ | refine hr4 _ ?_ | refine he3 _ _ ?_ | refine hr3 _ ?_ | refine hn2 _ ?_ | refine he2 _ ?_ | refine hf2 _ _ (by decide) ?_ | refine hr2 _ ?_ | refine hn1 _ ?_ | refine he1 _ _ ?_ | refine hr1 _ ?_)
    refine wlk_seq fun X5 hn5 he5 hr5 => ?_
    refine wlk_blk fun X6 hn6 he6 hf6 hr6 => ?_
    have hx : l[k]? = some l[k] := List.getElem?_eq_getElem hk2
    have hv := hl l[k] (List.getElem_mem hk2)
    generalize l[k] = v at hx hv
    have hxn : (nats l)[k]? = some (.sc (.int .i64 (v : Int))) := by simp [nats, hx]
    have w : IntKind.i64.wrap ((v : Int) + (N : Int)) = ((v + N : Nat) : Int) := by rw [IntWalk.i64_in _ (by omega)]; omega
    have hsn : (l.take k).map (· + N) ++ [v + N] = (l.take (k + 1)).map (· + N) := by rw [List.take_add_one, hx]; simp
    have hby : ((l.take k).length + 1) * 8 ≤ 140737488355328 := by simp; omega
    refine wlk_reg fun KY hKY => ?_
    simp only [go_sem, reduceIte, Nat.reduceEqDiff, Nat.reduceBEq, reduceCtorEq, Nat.reduceLT, Nat.reduceLeDiff, Nat.reduceAdd, Nat.reduceSub, Nat.reduceMul, Nat.reduceDiv, Int.reduceAdd, Int.reduceNeg, Int.reduceEq, Int.reduceLT, Int.reduceLE, c_garlandplay_Shift_r4, hxn, hk2, w, nats_snoc, hsn, hby]
    refine hKY _ ?_
    repeat (first | refine hn6 _ ?_ | refine he6 _ ?_ | refine hf6 _ _ (by decide) ?_ | refine hr6 _ ?_ | refine hn5 _ ?_ | refine he5 _ _ ?_ | refine hr5 _ ?_ | refine hn4 _ ?_ | refine he4 _ _ ?_ | refine hr4 _ ?_ | refine he3 _ _ ?_ | refine hr3 _ ?_ | refine hn2 _ ?_ | refine he2 _ ?_ | refine hf2 _ _ (by decide) ?_ | refine hr2 _ ?_ | refine hn1 _ ?_ | refine he1 _ _ ?_ | refine hr1 _ ?_)
    refine wlk_reg fun KY hKY => ?_
    simp only [go_sem, reduceIte, Nat.reduceEqDiff, Nat.reduceBEq, reduceCtorEq, Nat.reduceLT, Nat.reduceLeDiff, Nat.reduceAdd, Nat.reduceSub, Nat.reduceMul, Nat.reduceDiv, Int.reduceAdd, Int.reduceNeg, Int.reduceEq, Int.reduceLT, Int.reduceLE, c_garlandplay_Shift_r5, inc k (by omega)]
    refine hKY _ ?_
    repeat (first | refine hn6 _ ?_ | refine he6 _ ?_ | refine hf6 _ _ (by decide) ?_ | refine hr6 _ ?_ | refine hn5 _ ?_ | refine he5 _ _ ?_ | refine hr5 _ ?_ | refine hn4 _ ?_ | refine he4 _ _ ?_ | refine hr4 _ ?_ | refine he3 _ _ ?_ | refine hr3 _ ?_ | refine hn2 _ ?_ | refine he2 _ ?_ | refine hf2 _ _ (by decide) ?_ | refine hr2 _ ?_ | refine hn1 _ ?_ | refine he1 _ _ ?_ | refine hr1 _ ?_)
    refine hn3 _ (k + 1) (l.length - (k + 1)) (by omega) (by first | (simp only [go_sem, reduceIte, Nat.reduceEqDiff, Nat.reduceBEq, reduceCtorEq, Nat.reduceLT, Nat.reduceLeDiff, Nat.reduceAdd, Nat.reduceSub, Nat.reduceMul, Nat.reduceDiv, Int.reduceAdd, Int.reduceNeg, Int.reduceEq, Int.reduceLT, Int.reduceLE, updAll_cons, updAll_nil]; done) | rfl) ?_
    exact ⟨hk2, rfl⟩
  · refine wlk_cond0 (by first | rfl | (simp only [go_sem, reduceIte, Nat.reduceEqDiff, Nat.reduceBEq, reduceCtorEq, Nat.reduceLT, Nat.reduceLeDiff, Nat.reduceAdd, Nat.reduceSub, Nat.reduceMul, Nat.reduceDiv, Int.reduceAdd, Int.reduceNeg, Int.reduceEq, Int.reduceLT, Int.reduceLE]; try simp (disch := omega) only [decide_eq_true, decide_eq_false])) ?_
    refine wlk_exit ?_
    repeat (first | refine hn4 _ ?_ | refine he4 _ _ ?_ | refine hr4 _ ?_ | refine he3 _ _ ?_ | refine hr3 _ ?_ | refine hn2 _ ?_ | refine he2 _ ?_ | refine hf2 _ _ (by decide) ?_ | refine hr2 _ ?_ | refine hn1 _ ?_ | refine he1 _ _ ?_ | refine hr1 _ ?_)
    obtain rfl : k = l.length := by omega
    rw [List.take_length]
    refine wlk_sreg fun KY hKY => ?_
    simp only [go_sem, reduceIte, Nat.reduceEqDiff, Nat.reduceBEq, reduceCtorEq, Nat.reduceLT, Nat.reduceLeDiff, Nat.reduceAdd, Nat.reduceSub, Nat.reduceMul, Nat.reduceDiv, Int.reduceAdd, Int.reduceNeg, Int.reduceEq, Int.reduceLT, Int.reduceLE, c_garlandplay_Shift_r6]
    refine hKY _ ?_
    refine wlk_ret ?_
    repeat (first | refine hn4 _ ?_ | refine he4 _ _ ?_ | refine hr4 _ ?_ | refine he3 _ _ ?_ | refine hr3 _ ?_ | refine hn2 _ ?_ | refine he2 _ ?_ | refine hf2 _ _ (by decide) ?_ | refine hr2 _ ?_ | refine hn1 _ ?_ | refine he1 _ _ ?_ | refine hr1 _ ?_)
    simp only [go_sem, reduceIte, Nat.reduceEqDiff, Nat.reduceBEq, reduceCtorEq, Nat.reduceLT, Nat.reduceLeDiff, Nat.reduceAdd, Nat.reduceSub, Nat.reduceMul, Nat.reduceDiv, Int.reduceAdd, Int.reduceNeg, Int.reduceEq, Int.reduceLT, Int.reduceLE]
theorem join_ok (n m : Int) (ends more : List Int) (a b : Int) (he : ends.length ≤ 1000000000) (hmo : more.length ≤ 1000000000) : ACalls Try.prog [] n_garlandlaw03_PiecesJoin [.sc (.int .i64 n), .sc (.int .i64 m), .imm 1 (ints ends), .imm 1 (ints more), .sc (.int .i64 a), .sc (.int .i64 b)] [] fun r h' => r = .sc (.bool true) ∧ h' = [] := by
  refine go_garlandlaw03_PiecesJoin rfl ?_
  unfold c_garlandlaw03_PiecesJoin v_garlandlaw03_PiecesJoin
  refine wlk_sreg fun KY hKY => ?_
  simp only [go_sem, reduceIte, Nat.reduceEqDiff, Nat.reduceBEq, reduceCtorEq, Nat.reduceLT, Nat.reduceLeDiff, Nat.reduceAdd, Nat.reduceSub, Nat.reduceMul, Nat.reduceDiv, Int.reduceAdd, Int.reduceNeg, Int.reduceEq, Int.reduceLT, Int.reduceLE, c_garlandlaw03_PiecesJoin_r0]
  refine hKY _ ?_
  refine wlk_sreg fun KY hKY => ?_
  simp only [go_sem, reduceIte, Nat.reduceEqDiff, Nat.reduceBEq, reduceCtorEq, Nat.reduceLT, Nat.reduceLeDiff, Nat.reduceAdd, Nat.reduceSub, Nat.reduceMul, Nat.reduceDiv, Int.reduceAdd, Int.reduceNeg, Int.reduceEq, Int.reduceLT, Int.reduceLE, c_garlandlaw03_PiecesJoin_r1]
  apply call_gen [] [] false none rfl
  iterate 8 (first | (simp only [go_sem, reduceIte, Nat.reduceEqDiff, Nat.reduceBEq, reduceCtorEq, Nat.reduceLT, Nat.reduceLeDiff, Nat.reduceAdd, Nat.reduceSub, Nat.reduceMul, Nat.reduceDiv, Int.reduceAdd, Int.reduceNeg, Int.reduceEq, Int.reduceLT, Int.reduceLE, watchIn] <;> rfl) | rfl)
  refine (small_ok n ends 16 30 (by omega) (by omega) (by omega)).mono ?_
  rintro _ _ ⟨⟨N, es, g, hN, hm, rfl⟩, rfl⟩
  refine ⟨Nat.le_of_ble_eq_true rfl, (fun hh => by cases hh), ?_⟩
  simp only [go_sem, reduceIte, Nat.reduceEqDiff, Nat.reduceBEq, reduceCtorEq, Nat.reduceLT, Nat.reduceLeDiff, Nat.reduceAdd, Nat.reduceSub, Nat.reduceMul, Nat.reduceDiv, Int.reduceAdd, Int.reduceNeg, Int.reduceEq, Int.reduceLT, Int.reduceLE, callOut, AState.after]
  apply call_gen [] [] false none rfl
  iterate 8 (first | (simp only [go_sem, reduceIte, Nat.reduceEqDiff, Nat.reduceBEq, reduceCtorEq, Nat.reduceLT, Nat.reduceLeDiff, Nat.reduceAdd, Nat.reduceSub, Nat.reduceMul, Nat.reduceDiv, Int.reduceAdd, Int.reduceNeg, Int.reduceEq, Int.reduceLT, Int.reduceLE, watchIn] <;> rfl) | rfl)
  refine (small_ok m more 16 30 (by omega) (by omega) (by omega)).mono ?_
  rintro _ _ ⟨⟨M, hs, h, hM, hm2, rfl⟩, rfl⟩
  refine ⟨Nat.le_of_ble_eq_true rfl, (fun hh => by cases hh), ?_⟩
  simp only [go_sem, reduceIte, Nat.reduceEqDiff, Nat.reduceBEq, reduceCtorEq, Nat.reduceLT, Nat.reduceLeDiff, Nat.reduceAdd, Nat.reduceSub, Nat.reduceMul, Nat.reduceDiv, Int.reduceAdd, Int.reduceNeg, Int.reduceEq, Int.reduceLT, Int.reduceLE, callOut, AState.after]
  refine hKY _ ?_
  refine wlk_sdraw fun KY hKY => ?_
  simp only [go_sem, reduceIte, Nat.reduceEqDiff, Nat.reduceBEq, reduceCtorEq, Nat.reduceLT, Nat.reduceLeDiff, Nat.reduceAdd, Nat.reduceSub, Nat.reduceMul, Nat.reduceDiv, Int.reduceAdd, Int.reduceNeg, Int.reduceEq, Int.reduceLT, Int.reduceLE, c_garlandlaw03_PiecesJoin_r2]
  refine call_view rfl (by simp only [go_sem, reduceIte, Nat.reduceEqDiff, Nat.reduceBEq, reduceCtorEq, Nat.reduceLT, Nat.reduceLeDiff, Nat.reduceAdd, Nat.reduceSub, Nat.reduceMul, Nat.reduceDiv, Int.reduceAdd, Int.reduceNeg, Int.reduceEq, Int.reduceLT, Int.reduceLE] <;> rfl) ((all_ok g).mono ?_)
  rintro rr hh ⟨⟨ps, hps, rfl⟩, rfl⟩
  refine ⟨?_, ?_, ?_, ?_⟩
  iterate 3 (first | rfl | simp only [go_sem, reduceIte, Nat.reduceEqDiff, Nat.reduceBEq, reduceCtorEq, Nat.reduceLT, Nat.reduceLeDiff, Nat.reduceAdd, Nat.reduceSub, Nat.reduceMul, Nat.reduceDiv, Int.reduceAdd, Int.reduceNeg, Int.reduceEq, Int.reduceLT, Int.reduceLE])
  simp only [go_sem, reduceIte, Nat.reduceEqDiff, Nat.reduceBEq, reduceCtorEq, Nat.reduceLT, Nat.reduceLeDiff, Nat.reduceAdd, Nat.reduceSub, Nat.reduceMul, Nat.reduceDiv, Int.reduceAdd, Int.reduceNeg, Int.reduceEq, Int.reduceLT, Int.reduceLE]
  refine call_view rfl (by simp only [go_sem, reduceIte, Nat.reduceEqDiff, Nat.reduceBEq, reduceCtorEq, Nat.reduceLT, Nat.reduceLeDiff, Nat.reduceAdd, Nat.reduceSub, Nat.reduceMul, Nat.reduceDiv, Int.reduceAdd, Int.reduceNeg, Int.reduceEq, Int.reduceLT, Int.reduceLE] <;> rfl) ((all_ok h).mono ?_)
  rintro rr hh ⟨⟨qs, hqs, rfl⟩, rfl⟩
  refine ⟨?_, ?_, ?_, ?_⟩
  iterate 3 (first | rfl | simp only [go_sem, reduceIte, Nat.reduceEqDiff, Nat.reduceBEq, reduceCtorEq, Nat.reduceLT, Nat.reduceLeDiff, Nat.reduceAdd, Nat.reduceSub, Nat.reduceMul, Nat.reduceDiv, Int.reduceAdd, Int.reduceNeg, Int.reduceEq, Int.reduceLT, Int.reduceLE])
  simp only [go_sem, reduceIte, Nat.reduceEqDiff, Nat.reduceBEq, reduceCtorEq, Nat.reduceLT, Nat.reduceLeDiff, Nat.reduceAdd, Nat.reduceSub, Nat.reduceMul, Nat.reduceDiv, Int.reduceAdd, Int.reduceNeg, Int.reduceEq, Int.reduceLT, Int.reduceLE]
  apply call_gen [] [] false none rfl
  iterate 8 (first | (simp only [go_sem, reduceIte, Nat.reduceEqDiff, Nat.reduceBEq, reduceCtorEq, Nat.reduceLT, Nat.reduceLeDiff, Nat.reduceAdd, Nat.reduceSub, Nat.reduceMul, Nat.reduceDiv, Int.reduceAdd, Int.reduceNeg, Int.reduceEq, Int.reduceLT, Int.reduceLE, watchIn] <;> rfl) | rfl)
  refine (beside_ok g h).mono ?_
  rintro _ _ ⟨rfl, rfl⟩
  refine ⟨Nat.le_of_ble_eq_true rfl, (fun hh => by cases hh), ?_⟩
  simp only [go_sem, reduceIte, Nat.reduceEqDiff, Nat.reduceBEq, reduceCtorEq, Nat.reduceLT, Nat.reduceLeDiff, Nat.reduceAdd, Nat.reduceSub, Nat.reduceMul, Nat.reduceDiv, Int.reduceAdd, Int.reduceNeg, Int.reduceEq, Int.reduceLT, Int.reduceLE, callOut, AState.after]
  have gb := GR.beside g h (by omega) (by omega)
  refine call_view rfl (by simp only [go_sem, reduceIte, Nat.reduceEqDiff, Nat.reduceBEq, reduceCtorEq, Nat.reduceLT, Nat.reduceLeDiff, Nat.reduceAdd, Nat.reduceSub, Nat.reduceMul, Nat.reduceDiv, Int.reduceAdd, Int.reduceNeg, Int.reduceEq, Int.reduceLT, Int.reduceLE] <;> rfl) ((all_ok gb).mono ?_)
  rintro rr hh ⟨⟨zs, hzs, rfl⟩, rfl⟩
  refine ⟨?_, ?_, ?_, ?_⟩
  iterate 3 (first | rfl | simp only [go_sem, reduceIte, Nat.reduceEqDiff, Nat.reduceBEq, reduceCtorEq, Nat.reduceLT, Nat.reduceLeDiff, Nat.reduceAdd, Nat.reduceSub, Nat.reduceMul, Nat.reduceDiv, Int.reduceAdd, Int.reduceNeg, Int.reduceEq, Int.reduceLT, Int.reduceLE])
  have hO : ∀ v : Nat, ¬ (v : Int) ∈ ([] : List Int) := fun v => by simp
  obtain rfl := hzs.unique gb.adj_lt (hps.beside g hO hqs)
  have hpl := pieces_len hps
  have hql := pieces_len hqs
  simp only [go_sem, reduceIte, Nat.reduceEqDiff, Nat.reduceBEq, reduceCtorEq, Nat.reduceLT, Nat.reduceLeDiff, Nat.reduceAdd, Nat.reduceSub, Nat.reduceMul, Nat.reduceDiv, Int.reduceAdd, Int.reduceNeg, Int.reduceEq, Int.reduceLT, Int.reduceLE]
  refine hKY _ ?_
  simp only [go_sem, reduceIte, Nat.reduceEqDiff, Nat.reduceBEq, reduceCtorEq, Nat.reduceLT, Nat.reduceLeDiff, Nat.reduceAdd, Nat.reduceSub, Nat.reduceMul, Nat.reduceDiv, Int.reduceAdd, Int.reduceNeg, Int.reduceEq, Int.reduceLT, Int.reduceLE]
  refine sem_freeze [0, 15] (by simp only [go_sem, reduceIte, Nat.reduceEqDiff, Nat.reduceBEq, reduceCtorEq, Nat.reduceLT, Nat.reduceLeDiff, Nat.reduceAdd, Nat.reduceSub, Nat.reduceMul, Nat.reduceDiv, Int.reduceAdd, Int.reduceNeg, Int.reduceEq, Int.reduceLT, Int.reduceLE]; rfl) ?_
  simp only [go_sem, reduceIte, Nat.reduceEqDiff, Nat.reduceBEq, reduceCtorEq, Nat.reduceLT, Nat.reduceLeDiff, Nat.reduceAdd, Nat.reduceSub, Nat.reduceMul, Nat.reduceDiv, Int.reduceAdd, Int.reduceNeg, Int.reduceEq, Int.reduceLT, Int.reduceLE]
  refine sem_freeze [0, 16] (by simp only [go_sem, reduceIte, Nat.reduceEqDiff, Nat.reduceBEq, reduceCtorEq, Nat.reduceLT, Nat.reduceLeDiff, Nat.reduceAdd, Nat.reduceSub, Nat.reduceMul, Nat.reduceDiv, Int.reduceAdd, Int.reduceNeg, Int.reduceEq, Int.reduceLT, Int.reduceLE]; rfl) ?_
  simp only [go_sem, reduceIte, Nat.reduceEqDiff, Nat.reduceBEq, reduceCtorEq, Nat.reduceLT, Nat.reduceLeDiff, Nat.reduceAdd, Nat.reduceSub, Nat.reduceMul, Nat.reduceDiv, Int.reduceAdd, Int.reduceNeg, Int.reduceEq, Int.reduceLT, Int.reduceLE]
  refine sem_freeze [0, 17] (by simp only [go_sem, reduceIte, Nat.reduceEqDiff, Nat.reduceBEq, reduceCtorEq, Nat.reduceLT, Nat.reduceLeDiff, Nat.reduceAdd, Nat.reduceSub, Nat.reduceMul, Nat.reduceDiv, Int.reduceAdd, Int.reduceNeg, Int.reduceEq, Int.reduceLT, Int.reduceLE]; rfl) ?_
  simp only [go_sem, reduceIte, Nat.reduceEqDiff, Nat.reduceBEq, reduceCtorEq, Nat.reduceLT, Nat.reduceLeDiff, Nat.reduceAdd, Nat.reduceSub, Nat.reduceMul, Nat.reduceDiv, Int.reduceAdd, Int.reduceNeg, Int.reduceEq, Int.reduceLT, Int.reduceLE]
  refine wlk_seq fun X1 hn1 he1 hr1 => ?_
  refine wlk_sreg fun KY hKY => ?_
  simp only [go_sem, reduceIte, Nat.reduceEqDiff, Nat.reduceBEq, reduceCtorEq, Nat.reduceLT, Nat.reduceLeDiff, Nat.reduceAdd, Nat.reduceSub, Nat.reduceMul, Nat.reduceDiv, Int.reduceAdd, Int.reduceNeg, Int.reduceEq, Int.reduceLT, Int.reduceLE, c_garlandlaw03_PiecesJoin_r3]
  refine call_view rfl (by simp only [go_sem, reduceIte, Nat.reduceEqDiff, Nat.reduceBEq, reduceCtorEq, Nat.reduceLT, Nat.reduceLeDiff, Nat.reduceAdd, Nat.reduceSub, Nat.reduceMul, Nat.reduceDiv, Int.reduceAdd, Int.reduceNeg, Int.reduceEq, Int.reduceLT, Int.reduceLE] <;> rfl) ((awake03_ok).mono ?_)
  rintro rr hh ⟨rfl, rfl⟩
  refine ⟨rfl, rfl, rfl, ?_⟩
  have l1 : ((ps ++ qs.map fun q => q.map (· + N)).length : Int) = ((ps.length + qs.length : Nat) : Int) := by simp
  have w1 : IntKind.i64.wrap ((ps.length : Int) + (qs.length : Int)) = ((ps.length + qs.length : Nat) : Int) := by rw [IntWalk.i64_in _ (by omega)]; omega
  have l2 : (ps ++ qs.map fun q => q.map (· + N)).length = ps.length + qs.length := by simp
  have l3 : ps.length ≤ ps.length + qs.length := by omega
  have l4 : (0:Int) ≤ (ps.length : Int) := by omega
  have cut : cutCells (rowsI (ps ++ qs.map fun q => q.map (· + N))) 1 0 ps.length = rowsI ps := by simp [cutCells, rowsI]
  try simp only [go_sem, reduceIte, Nat.reduceEqDiff, Nat.reduceBEq, reduceCtorEq, Nat.reduceLT, Nat.reduceLeDiff, Nat.reduceAdd, Nat.reduceSub, Nat.reduceMul, Nat.reduceDiv, Int.reduceAdd, Int.reduceNeg, Int.reduceEq, Int.reduceLT, Int.reduceLE, l2, w1, l3, cut]
  repeat (simp (disch := omega) only [if_pos, if_neg, decide_eq_true, decide_eq_false, incS, nats_get, ints_get, l2, w1, l3, cut]; try simp only [go_sem, reduceIte, Nat.reduceEqDiff, Nat.reduceBEq, reduceCtorEq, Nat.reduceLT, Nat.reduceLeDiff, Nat.reduceAdd, Nat.reduceSub, Nat.reduceMul, Nat.reduceDiv, Int.reduceAdd, Int.reduceNeg, Int.reduceEq, Int.reduceLT, Int.reduceLE, l2, w1, l3, cut])
  refine call_view rfl (by simp only [go_sem, reduceIte, Nat.reduceEqDiff, Nat.reduceBEq, reduceCtorEq, Nat.reduceLT, Nat.reduceLeDiff, Nat.reduceAdd, Nat.reduceSub, Nat.reduceMul, Nat.reduceDiv, Int.reduceAdd, Int.reduceNeg, Int.reduceEq, Int.reduceLT, Int.reduceLE] <;> rfl) ((hlists_ok ps ps (by omega) (fun x hx => Nat.le_trans (piece_len hps hx) (by omega))).mono ?_)
  rintro rr hh ⟨rfl, rfl⟩
  refine ⟨rfl, rfl, rfl, ?_⟩
  simp only [go_sem, reduceIte, Nat.reduceEqDiff, Nat.reduceBEq, reduceCtorEq, Nat.reduceLT, Nat.reduceLeDiff, Nat.reduceAdd, Nat.reduceSub, Nat.reduceMul, Nat.reduceDiv, Int.reduceAdd, Int.reduceNeg, Int.reduceEq, Int.reduceLT, Int.reduceLE, eqn]
  refine hKY _ ?_
  refine wlk_cond0 (by first | rfl | (simp only [go_sem, reduceIte, Nat.reduceEqDiff, Nat.reduceBEq, reduceCtorEq, Nat.reduceLT, Nat.reduceLeDiff, Nat.reduceAdd, Nat.reduceSub, Nat.reduceMul, Nat.reduceDiv, Int.reduceAdd, Int.reduceNeg, Int.reduceEq, Int.reduceLT, Int.reduceLE]; try simp (disch := omega) only [decide_eq_true, decide_eq_false])) ?_
  refine wlk_skip ?_
  repeat (first | refine hn1 _ ?_ | refine he1 _ _ ?_ | refine hr1 _ ?_)
  refine wlk_seq fun X2 hn2 he2 hr2 => ?_
  refine wlk_sreg fun KY hKY => ?_
  simp only [go_sem, reduceIte, Nat.reduceEqDiff, Nat.reduceBEq, reduceCtorEq, Nat.reduceLT, Nat.reduceLeDiff, Nat.reduceAdd, Nat.reduceSub, Nat.reduceMul, Nat.reduceDiv, Int.reduceAdd, Int.reduceNeg, Int.reduceEq, Int.reduceLT, Int.reduceLE, c_garlandlaw03_PiecesJoin_r5]
  refine hKY _ ?_
  refine wlk_blk fun X3 hn3 he3 hf3 hr3 => ?_
  try simp only [go_sem, reduceIte, Nat.reduceEqDiff, Nat.reduceBEq, reduceCtorEq, Nat.reduceLT, Nat.reduceLeDiff, Nat.reduceAdd, Nat.reduceSub, Nat.reduceMul, Nat.reduceDiv, Int.reduceAdd, Int.reduceNeg, Int.reduceEq, Int.reduceLT, Int.reduceLE]
  refine wlk_lp (α := Nat) [56, 60, 78] (fun i => [(18, .sc (.int .i64 (i : Int)))]) (fun i => []) (fun i q => i ≤ qs.length ∧ q = qs.length - i) (0) (qs.length) rfl (by first | (simp only [go_sem, reduceIte, Nat.reduceEqDiff, Nat.reduceBEq, reduceCtorEq, Nat.reduceLT, Nat.reduceLeDiff, Nat.reduceAdd, Nat.reduceSub, Nat.reduceMul, Nat.reduceDiv, Int.reduceAdd, Int.reduceNeg, Int.reduceEq, Int.reduceLT, Int.reduceLE, updAll_cons, updAll_nil]; done) | rfl) (⟨by omega, rfl⟩) ?_
  rintro i q ⟨hi, rfl⟩ X4 hn4 he4 hr4
  simp only [go_sem, reduceIte, Nat.reduceEqDiff, Nat.reduceBEq, reduceCtorEq, Nat.reduceLT, Nat.reduceLeDiff, Nat.reduceAdd, Nat.reduceSub, Nat.reduceMul, Nat.reduceDiv, Int.reduceAdd, Int.reduceNeg, Int.reduceEq, Int.reduceLT, Int.reduceLE, updAll_cons, updAll_nil]
  refine wlk_seq fun X5 hn5 he5 hr5 => ?_
  refine wlk_sreg fun KY hKY => ?_
  simp only [go_sem, reduceIte, Nat.reduceEqDiff, Nat.reduceBEq, reduceCtorEq, Nat.reduceLT, Nat.reduceLeDiff, Nat.reduceAdd, Nat.reduceSub, Nat.reduceMul, Nat.reduceDiv, Int.reduceAdd, Int.reduceNeg, Int.reduceEq, Int.reduceLT, Int.reduceLE, c_garlandlaw03_PiecesJoin_r6]
  refine hKY _ ?_
  by_cases hi2 : i < qs.length
  · refine wlk_cond1 (by first | rfl | (simp only [go_sem, reduceIte, Nat.reduceEqDiff, Nat.reduceBEq, reduceCtorEq, Nat.reduceLT, Nat.reduceLeDiff, Nat.reduceAdd, Nat.reduceSub, Nat.reduceMul, Nat.reduceDiv, Int.reduceAdd, Int.reduceNeg, Int.reduceEq, Int.reduceLT, Int.reduceLE]; try simp (disch := omega) only [decide_eq_true, decide_eq_false])) ?_
    refine wlk_skip ?_
    repeat (first | refine hn5 _ ?_ | refine he5 _ _ ?_ | refine hr5 _ ?_ | refine he4 _ _ ?_ | refine hr4 _ ?_ | refine hn3 _ ?_ | refine he3 _ ?_ | refine hf3 _ _ (by decide) ?_ | refine hr3 _ ?_ | refine hn2 _ ?_ | refine he2 _ _ ?_ | refine hr2 _ ?_ | refine hn1 _ ?_ | refine he1 _ _ ?_ | refine hr1 _ ?_)
    refine wlk_seq fun X6 hn6 he6 hr6 => ?_
    refine wlk_blk fun X7 hn7 he7 hf7 hr7 => ?_
    have hx : qs[i]? = some qs[i] := List.getElem?_eq_getElem hi2
    have hxl := piece_len hqs (List.getElem_mem hi2)
    have hxv : ∀ v ∈ qs[i], v ≤ 1000000 := fun v hv => by have := ((hqs.mem v).1 ⟨_, List.getElem_mem hi2, hv⟩).1; omega
    generalize qs[i] = p at hx hxl hxv
    have w2 : IntKind.i64.wrap ((ps.length : Int) + (i : Int)) = ((ps.length + i : Nat) : Int) := by rw [IntWalk.i64_in _ (by omega)]; omega
    have hz : (ps ++ qs.map fun q => q.map (· + N))[ps.length + i]? = some (p.map (· + N)) := by simp [List.getElem?_append_right, hx]
    have l5 : ps.length + i < ps.length + qs.length := by omega
    refine wlk_sdraw fun KY hKY => ?_
    simp only [go_sem, reduceIte, Nat.reduceEqDiff, Nat.reduceBEq, reduceCtorEq, Nat.reduceLT, Nat.reduceLeDiff, Nat.reduceAdd, Nat.reduceSub, Nat.reduceMul, Nat.reduceDiv, Int.reduceAdd, Int.reduceNeg, Int.reduceEq, Int.reduceLT, Int.reduceLE, c_garlandlaw03_PiecesJoin_r7, rowsI_get hx, rowsI_get hz, hi2, w2, l2, l5]
    refine call_view rfl (by simp only [go_sem, reduceIte, Nat.reduceEqDiff, Nat.reduceBEq, reduceCtorEq, Nat.reduceLT, Nat.reduceLeDiff, Nat.reduceAdd, Nat.reduceSub, Nat.reduceMul, Nat.reduceDiv, Int.reduceAdd, Int.reduceNeg, Int.reduceEq, Int.reduceLT, Int.reduceLE] <;> rfl) ((shift_ok p N (by omega) (by omega) hxv).mono ?_)
    rintro rr hh ⟨rfl, rfl⟩
    refine ⟨?_, ?_, ?_, ?_⟩
    iterate 3 (first | rfl | simp only [go_sem, reduceIte, Nat.reduceEqDiff, Nat.reduceBEq, reduceCtorEq, Nat.reduceLT, Nat.reduceLeDiff, Nat.reduceAdd, Nat.reduceSub, Nat.reduceMul, Nat.reduceDiv, Int.reduceAdd, Int.reduceNeg, Int.reduceEq, Int.reduceLT, Int.reduceLE])
    simp only [go_sem, reduceIte, Nat.reduceEqDiff, Nat.reduceBEq, reduceCtorEq, Nat.reduceLT, Nat.reduceLeDiff, Nat.reduceAdd, Nat.reduceSub, Nat.reduceMul, Nat.reduceDiv, Int.reduceAdd, Int.reduceNeg, Int.reduceEq, Int.reduceLT, Int.reduceLE]
    refine call_view rfl (by simp only [go_sem, reduceIte, Nat.reduceEqDiff, Nat.reduceBEq, reduceCtorEq, Nat.reduceLT, Nat.reduceLeDiff, Nat.reduceAdd, Nat.reduceSub, Nat.reduceMul, Nat.reduceDiv, Int.reduceAdd, Int.reduceNeg, Int.reduceEq, Int.reduceLT, Int.reduceLE] <;> rfl) ((plainn_ok (p.map (· + N)) (p.map (· + N)) (by simp; omega)).mono ?_)
    rintro rr hh ⟨rfl, rfl⟩
    refine ⟨rfl, rfl, rfl, ?_⟩
    simp only [go_sem, reduceIte, Nat.reduceEqDiff, Nat.reduceBEq, reduceCtorEq, Nat.reduceLT, Nat.reduceLeDiff, Nat.reduceAdd, Nat.reduceSub, Nat.reduceMul, Nat.reduceDiv, Int.reduceAdd, Int.reduceNeg, Int.reduceEq, Int.reduceLT, Int.reduceLE, eqn]
    refine hKY _ ?_
    refine wlk_cond0 (by first | rfl | (simp only [go_sem, reduceIte, Nat.reduceEqDiff, Nat.reduceBEq, reduceCtorEq, Nat.reduceLT, Nat.reduceLeDiff, Nat.reduceAdd, Nat.reduceSub, Nat.reduceMul, Nat.reduceDiv, Int.reduceAdd, Int.reduceNeg, Int.reduceEq, Int.reduceLT, Int.reduceLE]; try simp (disch := omega) only [decide_eq_true, decide_eq_false])) ?_
    refine wlk_skip ?_
    repeat (first | refine hn7 _ ?_ | refine he7 _ ?_ | refine hf7 _ _ (by decide) ?_ | refine hr7 _ ?_ | refine hn6 _ ?_ | refine he6 _ _ ?_ | refine hr6 _ ?_ | refine hn5 _ ?_ | refine he5 _ _ ?_ | refine hr5 _ ?_ | refine he4 _ _ ?_ | refine hr4 _ ?_ | refine hn3 _ ?_ | refine he3 _ ?_ | refine hf3 _ _ (by decide) ?_ | refine hr3 _ ?_ | refine hn2 _ ?_ | refine he2 _ _ ?_ | refine hr2 _ ?_ | refine hn1 _ ?_ | refine he1 _ _ ?_ | refine hr1 _ ?_)
    refine wlk_reg fun KY hKY => ?_
    simp only [go_sem, reduceIte, Nat.reduceEqDiff, Nat.reduceBEq, reduceCtorEq, Nat.reduceLT, Nat.reduceLeDiff, Nat.reduceAdd, Nat.reduceSub, Nat.reduceMul, Nat.reduceDiv, Int.reduceAdd, Int.reduceNeg, Int.reduceEq, Int.reduceLT, Int.reduceLE, c_garlandlaw03_PiecesJoin_r9, inc i (by omega)]
    refine hKY _ ?_
    repeat (first | refine hn7 _ ?_ | refine he7 _ ?_ | refine hf7 _ _ (by decide) ?_ | refine hr7 _ ?_ | refine hn6 _ ?_ | refine he6 _ _ ?_ | refine hr6 _ ?_ | refine hn5 _ ?_ | refine he5 _ _ ?_ | refine hr5 _ ?_ | refine he4 _ _ ?_ | refine hr4 _ ?_ | refine hn3 _ ?_ | refine he3 _ ?_ | refine hf3 _ _ (by decide) ?_ | refine hr3 _ ?_ | refine hn2 _ ?_ | refine he2 _ _ ?_ | refine hr2 _ ?_ | refine hn1 _ ?_ | refine he1 _ _ ?_ | refine hr1 _ ?_)
    refine hn4 _ (i + 1) (qs.length - (i + 1)) (by omega) (by first | (simp only [go_sem, reduceIte, Nat.reduceEqDiff, Nat.reduceBEq, reduceCtorEq, Nat.reduceLT, Nat.reduceLeDiff, Nat.reduceAdd, Nat.reduceSub, Nat.reduceMul, Nat.reduceDiv, Int.reduceAdd, Int.reduceNeg, Int.reduceEq, Int.reduceLT, Int.reduceLE, updAll_cons, updAll_nil]; done) | rfl) ?_
    exact ⟨hi2, rfl⟩
  · refine wlk_cond0 (by first | rfl | (simp only [go_sem, reduceIte, Nat.reduceEqDiff, Nat.reduceBEq, reduceCtorEq, Nat.reduceLT, Nat.reduceLeDiff, Nat.reduceAdd, Nat.reduceSub, Nat.reduceMul, Nat.reduceDiv, Int.reduceAdd, Int.reduceNeg, Int.reduceEq, Int.reduceLT, Int.reduceLE]; try simp (disch := omega) only [decide_eq_true, decide_eq_false])) ?_
    refine wlk_exit ?_
    repeat (first | refine hn5 _ ?_ | refine he5 _ _ ?_ | refine hr5 _ ?_ | refine he4 _ _ ?_ | refine hr4 _ ?_ | refine hn3 _ ?_ | refine he3 _ ?_ | refine hf3 _ _ (by decide) ?_ | refine hr3 _ ?_ | refine hn2 _ ?_ | refine he2 _ _ ?_ | refine hr2 _ ?_ | refine hn1 _ ?_ | refine he1 _ _ ?_ | refine hr1 _ ?_)
    refine wlk_sreg fun KY hKY => ?_
    simp only [go_sem, reduceIte, Nat.reduceEqDiff, Nat.reduceBEq, reduceCtorEq, Nat.reduceLT, Nat.reduceLeDiff, Nat.reduceAdd, Nat.reduceSub, Nat.reduceMul, Nat.reduceDiv, Int.reduceAdd, Int.reduceNeg, Int.reduceEq, Int.reduceLT, Int.reduceLE, c_garlandlaw03_PiecesJoin_r10]
    apply call_gen [] [] false none rfl
    iterate 8 (first | (simp only [go_sem, reduceIte, Nat.reduceEqDiff, Nat.reduceBEq, reduceCtorEq, Nat.reduceLT, Nat.reduceLeDiff, Nat.reduceAdd, Nat.reduceSub, Nat.reduceMul, Nat.reduceDiv, Int.reduceAdd, Int.reduceNeg, Int.reduceEq, Int.reduceLT, Int.reduceLE, watchIn] <;> rfl) | rfl)
    refine (rput2_ok g a b).mono ?_
    rintro _ _ ⟨⟨x, y, ha, rfl⟩ | ⟨e, he, ha, rfl⟩, rfl⟩
    · refine ⟨Nat.le_of_ble_eq_true rfl, (fun hh => by cases hh), ?_⟩
      simp only [go_sem, reduceIte, Nat.reduceEqDiff, Nat.reduceBEq, reduceCtorEq, Nat.reduceLT, Nat.reduceLeDiff, Nat.reduceAdd, Nat.reduceSub, Nat.reduceMul, Nat.reduceDiv, Int.reduceAdd, Int.reduceNeg, Int.reduceEq, Int.reduceLT, Int.reduceLE, callOut, AState.after]
      refine hKY _ ?_
      have gk := g.put ha.2.1 ha.2.2.1 ha.2.2.2.1 ha.2.2.2.2
      refine wlk_seq fun X8 hn8 he8 hr8 => ?_
      refine wlk_sreg fun KY hKY => ?_
      simp only [go_sem, reduceIte, Nat.reduceEqDiff, Nat.reduceBEq, reduceCtorEq, Nat.reduceLT, Nat.reduceLeDiff, Nat.reduceAdd, Nat.reduceSub, Nat.reduceMul, Nat.reduceDiv, Int.reduceAdd, Int.reduceNeg, Int.reduceEq, Int.reduceLT, Int.reduceLE, c_garlandlaw03_PiecesJoin_r11]
      refine hKY _ ?_
      refine wlk_cond0 (by first | rfl | (simp only [go_sem, reduceIte, Nat.reduceEqDiff, Nat.reduceBEq, reduceCtorEq, Nat.reduceLT, Nat.reduceLeDiff, Nat.reduceAdd, Nat.reduceSub, Nat.reduceMul, Nat.reduceDiv, Int.reduceAdd, Int.reduceNeg, Int.reduceEq, Int.reduceLT, Int.reduceLE]; try simp (disch := omega) only [decide_eq_true, decide_eq_false])) ?_
      refine wlk_skip ?_
      repeat (first | refine hn8 _ ?_ | refine he8 _ _ ?_ | refine hr8 _ ?_ | refine hn5 _ ?_ | refine he5 _ _ ?_ | refine hr5 _ ?_ | refine he4 _ _ ?_ | refine hr4 _ ?_ | refine hn3 _ ?_ | refine he3 _ ?_ | refine hf3 _ _ (by decide) ?_ | refine hr3 _ ?_ | refine hn2 _ ?_ | refine he2 _ _ ?_ | refine hr2 _ ?_ | refine hn1 _ ?_ | refine he1 _ _ ?_ | refine hr1 _ ?_)
      refine wlk_sreg fun KY hKY => ?_
      simp only [go_sem, reduceIte, Nat.reduceEqDiff, Nat.reduceBEq, reduceCtorEq, Nat.reduceLT, Nat.reduceLeDiff, Nat.reduceAdd, Nat.reduceSub, Nat.reduceMul, Nat.reduceDiv, Int.reduceAdd, Int.reduceNeg, Int.reduceEq, Int.reduceLT, Int.reduceLE, c_garlandlaw03_PiecesJoin_r13]
      refine hKY _ ?_
      refine wlk_seq fun X9 hn9 he9 hr9 => ?_
      refine wlk_sreg fun KY hKY => ?_
      simp only [go_sem, reduceIte, Nat.reduceEqDiff, Nat.reduceBEq, reduceCtorEq, Nat.reduceLT, Nat.reduceLeDiff, Nat.reduceAdd, Nat.reduceSub, Nat.reduceMul, Nat.reduceDiv, Int.reduceAdd, Int.reduceNeg, Int.reduceEq, Int.reduceLT, Int.reduceLE, c_garlandlaw03_PiecesJoin_r14]
      refine call_view rfl (by simp only [go_sem, reduceIte, Nat.reduceEqDiff, Nat.reduceBEq, reduceCtorEq, Nat.reduceLT, Nat.reduceLeDiff, Nat.reduceAdd, Nat.reduceSub, Nat.reduceMul, Nat.reduceDiv, Int.reduceAdd, Int.reduceNeg, Int.reduceEq, Int.reduceLT, Int.reduceLE] <;> rfl) ((psame_ok g a b).mono ?_)
      rintro rr hh ⟨⟨ps', hps', rfl⟩, rfl⟩
      refine ⟨?_, ?_, ?_, ?_⟩
      iterate 3 (first | rfl | simp only [go_sem, reduceIte, Nat.reduceEqDiff, Nat.reduceBEq, reduceCtorEq, Nat.reduceLT, Nat.reduceLeDiff, Nat.reduceAdd, Nat.reduceSub, Nat.reduceMul, Nat.reduceDiv, Int.reduceAdd, Int.reduceNeg, Int.reduceEq, Int.reduceLT, Int.reduceLE])
      obtain rfl := hps'.unique g.adj_lt hps
      have hiff : ∀ l : List (List Nat), (l.any fun p => hasI p a && hasI p b) = true ↔ ∃ p ∈ l, x ∈ p ∧ y ∈ p := by
        intro l
        rw [List.any_eq_true]
        have key : ∀ p, (hasI p a && hasI p b) = true ↔ x ∈ p ∧ y ∈ p := by
          intro p
          have hab := ha.1
          unfold turnI at hab
          rw [Bool.and_eq_true]
          split at hab
          · have e1 : b = (x : Int) := congrArg Prod.fst hab
            have e2 : a = (y : Int) := congrArg Prod.snd hab
            rw [e1, e2, hasI_nat, hasI_nat]; exact And.comm
          · have e1 : a = (x : Int) := congrArg Prod.fst hab
            have e2 : b = (y : Int) := congrArg Prod.snd hab
            rw [e1, e2, hasI_nat, hasI_nat]
        constructor
        · rintro ⟨p, hp, h⟩; exact ⟨p, hp, (key p).1 h⟩
        · rintro ⟨p, hp, h⟩; exact ⟨p, hp, (key p).2 h⟩
      have hxN : x < N := by have := ha.2.1; have := ha.2.2.1; omega
      have hyN : y < N := ha.2.2.1
      have hc := fun ks (K : IsPieces N (putE es (x, y)) (fun v => (v : Int) ∈ []) ks) => put_count gk.adj_lt hps K ⟨hxN, hO x⟩ ⟨hyN, hO y⟩
      have hif := hiff ps'
      have hpk := psame_ok gk a b
      have hak := all_ok gk
      clear hps' hm hm2
      cases hs : (ps'.any fun p => hasI p a && hasI p b) with
      | true =>
        simp only [go_sem, reduceIte, Nat.reduceEqDiff, Nat.reduceBEq, reduceCtorEq, Nat.reduceLT, Nat.reduceLeDiff, Nat.reduceAdd, Nat.reduceSub, Nat.reduceMul, Nat.reduceDiv, Int.reduceAdd, Int.reduceNeg, Int.reduceEq, Int.reduceLT, Int.reduceLE, hs]
        refine hKY _ ?_
        refine wlk_cond1 (by first | rfl | (simp only [go_sem, reduceIte, Nat.reduceEqDiff, Nat.reduceBEq, reduceCtorEq, Nat.reduceLT, Nat.reduceLeDiff, Nat.reduceAdd, Nat.reduceSub, Nat.reduceMul, Nat.reduceDiv, Int.reduceAdd, Int.reduceNeg, Int.reduceEq, Int.reduceLT, Int.reduceLE]; try simp (disch := omega) only [decide_eq_true, decide_eq_false])) ?_
        refine wlk_reg fun KY hKY => ?_
        simp only [go_sem, reduceIte, Nat.reduceEqDiff, Nat.reduceBEq, reduceCtorEq, Nat.reduceLT, Nat.reduceLeDiff, Nat.reduceAdd, Nat.reduceSub, Nat.reduceMul, Nat.reduceDiv, Int.reduceAdd, Int.reduceNeg, Int.reduceEq, Int.reduceLT, Int.reduceLE, c_garlandlaw03_PiecesJoin_r15]
        refine hKY _ ?_
        repeat (first | refine hn9 _ ?_ | refine he9 _ _ ?_ | refine hr9 _ ?_ | refine hn8 _ ?_ | refine he8 _ _ ?_ | refine hr8 _ ?_ | refine hn5 _ ?_ | refine he5 _ _ ?_ | refine hr5 _ ?_ | refine he4 _ _ ?_ | refine hr4 _ ?_ | refine hn3 _ ?_ | refine he3 _ ?_ | refine hf3 _ _ (by decide) ?_ | refine hr3 _ ?_ | refine hn2 _ ?_ | refine he2 _ _ ?_ | refine hr2 _ ?_ | refine hn1 _ ?_ | refine he1 _ _ ?_ | refine hr1 _ ?_)
        refine wlk_sreg fun KY hKY => ?_
        simp only [go_sem, reduceIte, Nat.reduceEqDiff, Nat.reduceBEq, reduceCtorEq, Nat.reduceLT, Nat.reduceLeDiff, Nat.reduceAdd, Nat.reduceSub, Nat.reduceMul, Nat.reduceDiv, Int.reduceAdd, Int.reduceNeg, Int.reduceEq, Int.reduceLT, Int.reduceLE, c_garlandlaw03_PiecesJoin_r16]
        refine call_view rfl (by simp only [go_sem, reduceIte, Nat.reduceEqDiff, Nat.reduceBEq, reduceCtorEq, Nat.reduceLT, Nat.reduceLeDiff, Nat.reduceAdd, Nat.reduceSub, Nat.reduceMul, Nat.reduceDiv, Int.reduceAdd, Int.reduceNeg, Int.reduceEq, Int.reduceLT, Int.reduceLE] <;> rfl) ((hak).mono ?_)
        rintro rr hh ⟨⟨ks, hks, rfl⟩, rfl⟩
        refine ⟨?_, ?_, ?_, ?_⟩
        iterate 3 (first | rfl | simp only [go_sem, reduceIte, Nat.reduceEqDiff, Nat.reduceBEq, reduceCtorEq, Nat.reduceLT, Nat.reduceLeDiff, Nat.reduceAdd, Nat.reduceSub, Nat.reduceMul, Nat.reduceDiv, Int.reduceAdd, Int.reduceNeg, Int.reduceEq, Int.reduceLT, Int.reduceLE])
        obtain ⟨c1, c2, _⟩ := hc ks hks
        have hl := c2 (hif.1 hs)
        have w3 : IntKind.i64.wrap ((ps'.length : Int) - 0) = (ks.length : Int) := by rw [IntWalk.i64_in _ (by omega)]; omega
        simp only [go_sem, reduceIte, Nat.reduceEqDiff, Nat.reduceBEq, reduceCtorEq, Nat.reduceLT, Nat.reduceLeDiff, Nat.reduceAdd, Nat.reduceSub, Nat.reduceMul, Nat.reduceDiv, Int.reduceAdd, Int.reduceNeg, Int.reduceEq, Int.reduceLT, Int.reduceLE, w3, eqn]
        refine call_view rfl (by simp only [go_sem, reduceIte, Nat.reduceEqDiff, Nat.reduceBEq, reduceCtorEq, Nat.reduceLT, Nat.reduceLeDiff, Nat.reduceAdd, Nat.reduceSub, Nat.reduceMul, Nat.reduceDiv, Int.reduceAdd, Int.reduceNeg, Int.reduceEq, Int.reduceLT, Int.reduceLE] <;> rfl) ((hpk).mono ?_)
        rintro rr hh ⟨⟨ks', hks', rfl⟩, rfl⟩
        refine ⟨?_, ?_, ?_, ?_⟩
        iterate 3 (first | rfl | simp only [go_sem, reduceIte, Nat.reduceEqDiff, Nat.reduceBEq, reduceCtorEq, Nat.reduceLT, Nat.reduceLeDiff, Nat.reduceAdd, Nat.reduceSub, Nat.reduceMul, Nat.reduceDiv, Int.reduceAdd, Int.reduceNeg, Int.reduceEq, Int.reduceLT, Int.reduceLE])
        obtain ⟨c1, _⟩ := hc ks' hks'
        simp only [go_sem, reduceIte, Nat.reduceEqDiff, Nat.reduceBEq, reduceCtorEq, Nat.reduceLT, Nat.reduceLeDiff, Nat.reduceAdd, Nat.reduceSub, Nat.reduceMul, Nat.reduceDiv, Int.reduceAdd, Int.reduceNeg, Int.reduceEq, Int.reduceLT, Int.reduceLE, (hiff ks').2 c1]
        refine hKY _ ?_
        refine wlk_ret ?_
        repeat (first | refine hn9 _ ?_ | refine he9 _ _ ?_ | refine hr9 _ ?_ | refine hn8 _ ?_ | refine he8 _ _ ?_ | refine hr8 _ ?_ | refine hn5 _ ?_ | refine he5 _ _ ?_ | refine hr5 _ ?_ | refine he4 _ _ ?_ | refine hr4 _ ?_ | refine hn3 _ ?_ | refine he3 _ ?_ | refine hf3 _ _ (by decide) ?_ | refine hr3 _ ?_ | refine hn2 _ ?_ | refine he2 _ _ ?_ | refine hr2 _ ?_ | refine hn1 _ ?_ | refine he1 _ _ ?_ | refine hr1 _ ?_)
        simp only [go_sem, reduceIte, Nat.reduceEqDiff, Nat.reduceBEq, reduceCtorEq, Nat.reduceLT, Nat.reduceLeDiff, Nat.reduceAdd, Nat.reduceSub, Nat.reduceMul, Nat.reduceDiv, Int.reduceAdd, Int.reduceNeg, Int.reduceEq, Int.reduceLT, Int.reduceLE]
      | false =>
        simp only [go_sem, reduceIte, Nat.reduceEqDiff, Nat.reduceBEq, reduceCtorEq, Nat.reduceLT, Nat.reduceLeDiff, Nat.reduceAdd, Nat.reduceSub, Nat.reduceMul, Nat.reduceDiv, Int.reduceAdd, Int.reduceNeg, Int.reduceEq, Int.reduceLT, Int.reduceLE, hs]
        refine hKY _ ?_
        refine wlk_cond0 (by first | rfl | (simp only [go_sem, reduceIte, Nat.reduceEqDiff, Nat.reduceBEq, reduceCtorEq, Nat.reduceLT, Nat.reduceLeDiff, Nat.reduceAdd, Nat.reduceSub, Nat.reduceMul, Nat.reduceDiv, Int.reduceAdd, Int.reduceNeg, Int.reduceEq, Int.reduceLT, Int.reduceLE]; try simp (disch := omega) only [decide_eq_true, decide_eq_false])) ?_
        refine wlk_skip ?_
        repeat (first | refine hn9 _ ?_ | refine he9 _ _ ?_ | refine hr9 _ ?_ | refine hn8 _ ?_ | refine he8 _ _ ?_ | refine hr8 _ ?_ | refine hn5 _ ?_ | refine he5 _ _ ?_ | refine hr5 _ ?_ | refine he4 _ _ ?_ | refine hr4 _ ?_ | refine hn3 _ ?_ | refine he3 _ ?_ | refine hf3 _ _ (by decide) ?_ | refine hr3 _ ?_ | refine hn2 _ ?_ | refine he2 _ _ ?_ | refine hr2 _ ?_ | refine hn1 _ ?_ | refine he1 _ _ ?_ | refine hr1 _ ?_)
        refine wlk_sreg fun KY hKY => ?_
        simp only [go_sem, reduceIte, Nat.reduceEqDiff, Nat.reduceBEq, reduceCtorEq, Nat.reduceLT, Nat.reduceLeDiff, Nat.reduceAdd, Nat.reduceSub, Nat.reduceMul, Nat.reduceDiv, Int.reduceAdd, Int.reduceNeg, Int.reduceEq, Int.reduceLT, Int.reduceLE, c_garlandlaw03_PiecesJoin_r16]
        refine call_view rfl (by simp only [go_sem, reduceIte, Nat.reduceEqDiff, Nat.reduceBEq, reduceCtorEq, Nat.reduceLT, Nat.reduceLeDiff, Nat.reduceAdd, Nat.reduceSub, Nat.reduceMul, Nat.reduceDiv, Int.reduceAdd, Int.reduceNeg, Int.reduceEq, Int.reduceLT, Int.reduceLE] <;> rfl) ((hak).mono ?_)
        rintro rr hh ⟨⟨ks, hks, rfl⟩, rfl⟩
        refine ⟨?_, ?_, ?_, ?_⟩
        iterate 3 (first | rfl | simp only [go_sem, reduceIte, Nat.reduceEqDiff, Nat.reduceBEq, reduceCtorEq, Nat.reduceLT, Nat.reduceLeDiff, Nat.reduceAdd, Nat.reduceSub, Nat.reduceMul, Nat.reduceDiv, Int.reduceAdd, Int.reduceNeg, Int.reduceEq, Int.reduceLT, Int.reduceLE])
        obtain ⟨c1, _, c2⟩ := hc ks hks
        have hl := c2 (fun h => by rw [hif.2 h] at hs; cases hs)
        have w3 : IntKind.i64.wrap ((ps'.length : Int) - 1) = (ks.length : Int) := by rw [IntWalk.i64_in _ (by omega)]; omega
        simp only [go_sem, reduceIte, Nat.reduceEqDiff, Nat.reduceBEq, reduceCtorEq, Nat.reduceLT, Nat.reduceLeDiff, Nat.reduceAdd, Nat.reduceSub, Nat.reduceMul, Nat.reduceDiv, Int.reduceAdd, Int.reduceNeg, Int.reduceEq, Int.reduceLT, Int.reduceLE, w3, eqn]
        refine call_view rfl (by simp only [go_sem, reduceIte, Nat.reduceEqDiff, Nat.reduceBEq, reduceCtorEq, Nat.reduceLT, Nat.reduceLeDiff, Nat.reduceAdd, Nat.reduceSub, Nat.reduceMul, Nat.reduceDiv, Int.reduceAdd, Int.reduceNeg, Int.reduceEq, Int.reduceLT, Int.reduceLE] <;> rfl) ((hpk).mono ?_)
        rintro rr hh ⟨⟨ks', hks', rfl⟩, rfl⟩
        refine ⟨?_, ?_, ?_, ?_⟩
        iterate 3 (first | rfl | simp only [go_sem, reduceIte, Nat.reduceEqDiff, Nat.reduceBEq, reduceCtorEq, Nat.reduceLT, Nat.reduceLeDiff, Nat.reduceAdd, Nat.reduceSub, Nat.reduceMul, Nat.reduceDiv, Int.reduceAdd, Int.reduceNeg, Int.reduceEq, Int.reduceLT, Int.reduceLE])
        obtain ⟨c1, _⟩ := hc ks' hks'
        simp only [go_sem, reduceIte, Nat.reduceEqDiff, Nat.reduceBEq, reduceCtorEq, Nat.reduceLT, Nat.reduceLeDiff, Nat.reduceAdd, Nat.reduceSub, Nat.reduceMul, Nat.reduceDiv, Int.reduceAdd, Int.reduceNeg, Int.reduceEq, Int.reduceLT, Int.reduceLE, (hiff ks').2 c1]
        refine hKY _ ?_
        refine wlk_ret ?_
        repeat (first | refine hn9 _ ?_ | refine he9 _ _ ?_ | refine hr9 _ ?_ | refine hn8 _ ?_ | refine he8 _ _ ?_ | refine hr8 _ ?_ | refine hn5 _ ?_ | refine he5 _ _ ?_ | refine hr5 _ ?_ | refine he4 _ _ ?_ | refine hr4 _ ?_ | refine hn3 _ ?_ | refine he3 _ ?_ | refine hf3 _ _ (by decide) ?_ | refine hr3 _ ?_ | refine hn2 _ ?_ | refine he2 _ _ ?_ | refine hr2 _ ?_ | refine hn1 _ ?_ | refine he1 _ _ ?_ | refine hr1 _ ?_)
        simp only [go_sem, reduceIte, Nat.reduceEqDiff, Nat.reduceBEq, reduceCtorEq, Nat.reduceLT, Nat.reduceLeDiff, Nat.reduceAdd, Nat.reduceSub, Nat.reduceMul, Nat.reduceDiv, Int.reduceAdd, Int.reduceNeg, Int.reduceEq, Int.reduceLT, Int.reduceLE]
    · refine ⟨Nat.le_of_ble_eq_true rfl, (fun hh => by cases hh), ?_⟩
      simp only [go_sem, reduceIte, Nat.reduceEqDiff, Nat.reduceBEq, reduceCtorEq, Nat.reduceLT, Nat.reduceLeDiff, Nat.reduceAdd, Nat.reduceSub, Nat.reduceMul, Nat.reduceDiv, Int.reduceAdd, Int.reduceNeg, Int.reduceEq, Int.reduceLT, Int.reduceLE, callOut, AState.after]
      refine hKY _ ?_
      refine wlk_seq fun X10 hn10 he10 hr10 => ?_
      refine wlk_sreg fun KY hKY => ?_
      simp only [go_sem, reduceIte, Nat.reduceEqDiff, Nat.reduceBEq, reduceCtorEq, Nat.reduceLT, Nat.reduceLeDiff, Nat.reduceAdd, Nat.reduceSub, Nat.reduceMul, Nat.reduceDiv, Int.reduceAdd, Int.reduceNeg, Int.reduceEq, Int.reduceLT, Int.reduceLE, c_garlandlaw03_PiecesJoin_r11]
      refine hKY _ ?_
      refine wlk_cond1 (by first | rfl | (simp only [go_sem, reduceIte, Nat.reduceEqDiff, Nat.reduceBEq, reduceCtorEq, Nat.reduceLT, Nat.reduceLeDiff, Nat.reduceAdd, Nat.reduceSub, Nat.reduceMul, Nat.reduceDiv, Int.reduceAdd, Int.reduceNeg, Int.reduceEq, Int.reduceLT, Int.reduceLE, he, ne_eq, not_false_eq_true]; try simp (disch := omega) only [decide_eq_true, decide_eq_false])) ?_
      refine wlk_sreg fun KY hKY => ?_
      simp only [go_sem, reduceIte, Nat.reduceEqDiff, Nat.reduceBEq, reduceCtorEq, Nat.reduceLT, Nat.reduceLeDiff, Nat.reduceAdd, Nat.reduceSub, Nat.reduceMul, Nat.reduceDiv, Int.reduceAdd, Int.reduceNeg, Int.reduceEq, Int.reduceLT, Int.reduceLE, c_garlandlaw03_PiecesJoin_r12]
      refine hKY _ ?_
      refine wlk_ret ?_
      repeat (first | refine hn10 _ ?_ | refine he10 _ _ ?_ | refine hr10 _ ?_ | refine hn5 _ ?_ | refine he5 _ _ ?_ | refine hr5 _ ?_ | refine he4 _ _ ?_ | refine hr4 _ ?_ | refine hn3 _ ?_ | refine he3 _ ?_ | refine hf3 _ _ (by decide) ?_ | refine hr3 _ ?_ | refine hn2 _ ?_ | refine he2 _ _ ?_ | refine hr2 _ ?_ | refine hn1 _ ?_ | refine he1 _ _ ?_ | refine hr1 _ ?_)
      simp only [go_sem, reduceIte, Nat.reduceEqDiff, Nat.reduceBEq, reduceCtorEq, Nat.reduceLT, Nat.reduceLeDiff, Nat.reduceAdd, Nat.reduceSub, Nat.reduceMul, Nat.reduceDiv, Int.reduceAdd, Int.reduceNeg, Int.reduceEq, Int.reduceLT, Int.reduceLE]
end Go.Proofs.Ytmpbfdakdoicjaa
namespace Go.Proofs.Ytmpbfdakdoicjaa
open Go Go.Ga Go.Ga.Gl
theorem piecesJoin_all (As : List AVal) (b : Nat) (h : SAs Try.prog Try.f6.params.toList As b) (hb : b ≤ 1048576) : ACalls Try.prog [] 6 As [] fun r _ => r = .sc (.bool true) := by
  rw [Try.params6] at h
  obtain ⟨A1, As1, c1, d1, rfl, rfl, h1, h⟩ := sas_cons h
  obtain ⟨A2, As2, c2, d2, rfl, rfl, h2, h⟩ := sas_cons h
  obtain ⟨A3, As3, c3, d3, rfl, rfl, h3, h⟩ := sas_cons h
  obtain ⟨A4, As4, c4, d4, rfl, rfl, h4, h⟩ := sas_cons h
  obtain ⟨A5, As5, c5, d5, rfl, rfl, h5, h⟩ := sas_cons h
  obtain ⟨A6, As6, c6, d6, rfl, rfl, h6, h⟩ := sas_cons h
  obtain rfl := sas_nil h
  obtain ⟨x1, rfl, w1⟩ := sa_int Try.underlying3 h1
  obtain ⟨x2, rfl, w2⟩ := sa_int Try.underlying3 h2
  obtain ⟨x3, rfl, w3, e3⟩ := sa_ints Try.underlying25 Try.underlying3 (by kernel_rfl) h3
  obtain ⟨x4, rfl, w4, e4⟩ := sa_ints Try.underlying25 Try.underlying3 (by kernel_rfl) h4
  obtain ⟨x5, rfl, w5⟩ := sa_int Try.underlying3 h5
  obtain ⟨x6, rfl, w6⟩ := sa_int Try.underlying3 h6
  exact (join_ok x1 x2 x3 x4 x5 x6 (by omega) (by omega)).mono fun _ _ h => h.1
end Go.Proofs.Ytmpbfdakdoicjaa
namespace Go.Proofs.Ytmpbfdakdoicjaa.piecesJoinend
open Go Go.Ga Go.ChangeShapes Go.WideShapes Go.ChangeAt Go.RowKit
theorem own : ownKnob Try.prog.godebug = none := by kernel_rfl
mutual
theorem bulk_at {H : Type} : ∀ d : DataW H, Rows.uptoBulk d = bulk d
  | .lit l => by cases l <;> simp [Rows.uptoBulk, bulk]
  | .nil => by simp [Rows.uptoBulk, bulk]
  | .ptr d => by simp [Rows.uptoBulk, bulk, bulk_at d]
  | .slice e s => by simp [Rows.uptoBulk, bulk, bulk_eq e, bulk_eq s]
  | .agg p => by simp [Rows.uptoBulk, bulk, bulk_eq p]
  | .iface _ d => by simp [Rows.uptoBulk, bulk, bulk_at d]
  | .map e => by simp [Rows.uptoBulk, bulk, bulk_es e]
  | .held _ => by simp [Rows.uptoBulk, bulk]
theorem bulk_eq {H : Type} : ∀ l : List (DataW H), Rows.uptoBulkAll l = bulkL l
  | [] => by simp [Rows.uptoBulkAll, bulkL]
  | d :: r => by simp [Rows.uptoBulkAll, bulkL, bulk_at d, bulk_eq r]
theorem bulk_es {H : Type} : ∀ l : List (Lit × DataW H), Rows.uptoBulkEntries l = bulkE l
  | [] => by simp [Rows.uptoBulkEntries, bulkE]
  | d :: r => by simp [Rows.uptoBulkEntries, bulkE, bulk_e d, bulk_es r]
theorem bulk_e {H : Type} : ∀ d : Lit × DataW H, Rows.uptoBulkEntry d = bulk1 d
  | (l, d) => by cases l <;> simp [Rows.uptoBulkEntry, bulk1, bulk_at d]
end
set_option maxRecDepth 100000 in
theorem plain : Plain Try.prog [3, 25] := plain_of (by kernel_rfl)
set_option maxRecDepth 100000 in
theorem contract (H : Type) (enc : TypeId × Value → H) (W : World) (base : Nat) (args : Array Value) (ds gs : List (DataW H)) (before : List MemPlace)
    (hval : ∀ (j : Nat) t v, Try.f6.params[j]? = some t → args[j]? = some v → Value.okWide Try.prog W .any base t v)
    (hW : DataW.Whole enc Try.prog Try.f6.params.toList Rows.piecesJoinSpec.vars false W args.toList ds gs before) (hk : Rows.uptoSmall H (ds ++ gs) = true) :
    Calls Try.prog 6 args W fun e W' => ∃ v, e = .returned v ∧ Rows.piecesJoinSpec.post enc Try.prog Try.f6 false true false false W args v W' := by
  have hW' := hW
  obtain ⟨p, q, hA, hV, rfl, hfz, hnd⟩ := hW
  obtain ⟨rfl, rfl⟩ := Go.Ga.trodVars_nil hV
  have hb : bulkL (ds ++ []) ≤ 1048576 := by rw [← bulk_eq]; exact of_decide_eq_true hk
  have r0 : DataW.TrodAll enc Try.prog W 0 (fun _ => true) true Try.f6.params.toList args.toList ds p := hA
  rw [Try.params6] at r0
  obtain ⟨v0, vs0, d0, ds0, p0, q0, hv0, rfl, rfl, h0, r1⟩ := trodAll_cons r0
  obtain ⟨v1, vs1, d1, ds1, p1, q1, hv1, rfl, rfl, h1, r2⟩ := trodAll_cons r1
  obtain ⟨v2, vs2, d2, ds2, p2, q2, hv2, rfl, rfl, h2, r3⟩ := trodAll_cons r2
  obtain ⟨v3, vs3, d3, ds3, p3, q3, hv3, rfl, rfl, h3, r4⟩ := trodAll_cons r3
  obtain ⟨v4, vs4, d4, ds4, p4, q4, hv4, rfl, rfl, h4, r5⟩ := trodAll_cons r4
  obtain ⟨v5, vs5, d5, ds5, p5, q5, hv5, rfl, rfl, h5, r6⟩ := trodAll_cons r5
  obtain ⟨rfl, rfl, rfl⟩ := trodAll_nil r6
  exact contract_true plain hval (by rw [Try.params6]; decide) hW' rfl rfl rfl rfl (tb := 4) (by kernel_rfl) Try.underlying4 hb piecesJoin_all
set_option maxRecDepth 100000 in
theorem lifted (os : Os) (started : os.Started) (H : Type) (enc : TypeId × Value → H) (F : Stop.Interp) :
    ReturnsInHanded {} Try.checked os 6 .any ((Rows.OpenSpec.upto Rows.piecesJoinSpec).pre6 enc Try.prog Try.f6 Rows.piecesJoinUptoRow.domain false) (((Rows.OpenSpec.upto Rows.piecesJoinSpec).at F).post enc Try.prog Try.f6 false true false false) := by
  refine returnsInHanded_of_cond (C := Try.checked) (s := Rows.OpenSpec.upto Rows.piecesJoinSpec) (k := Rows.uptoSmall) rfl own started (by kernel_rfl) Try.func6
    (OpenSpec.witness (enc := enc) (C := Try.checked) (s := Rows.OpenSpec.upto Rows.piecesJoinSpec) (k := Rows.uptoSmall) rfl false ⟨#[], #[.int .i64 0, .int .i64 0, .slice none 0 0, .slice none 0 0, .int .i64 0, .int .i64 0], []⟩ 8 (by kernel_rfl) (by kernel_rfl) (by kernel_rfl)
      (x := ([.lit (.int .i64 0), .lit (.int .i64 0), .nil, .nil, .lit (.int .i64 0), .lit (.int .i64 0)], [], [])) (by kernel_rfl) rfl (by kernel_rfl)) ?_
  intro W base args ds gs before hval hW _ hk _
  exact contract H enc W base args ds gs before hval hW hk
theorem holds : Rows.PiecesJoinUptoSaid :=
  OpenClaim.holds_of_cond 6 Try.f6 rfl rfl rfl rfl rfl rfl rfl ⟨rfl, rfl, rfl, rfl, rfl⟩ rfl rfl rfl rfl rfl (by kernel_rfl) Try.func6 (by kernel_rfl)
    (of_decide_eq_true (by kernel_rfl)) (by unfold Func.isWrapper; first | (rw [if_pos (by decide +kernel)]; kernel_rfl) | (rw [if_neg (by decide +kernel)]; exact ⟨rfl, rfl⟩))
    (fun os started H enc _ F => lifted os started H enc F)
end Go.Proofs.Ytmpbfdakdoicjaa.piecesJoinend
