/- PiecesEach: each vertex that is not out is in one piece, no edge joins two pieces; for every input; no condition but the bound of the row that is proved. -/
import Derived.Test.YtmpbfdakdoicjaaPb2
import Derived.Test.YtmpbfdakdoicjaaPb1
import Derived.Test.YtmpbfdakdoicjaaGdkcjld4
import Derived.WalkKit
import Derived.ProofKit
import Derived.OpenShut
import Derived.JoinedCond
set_option linter.all false
set_option maxRecDepth 100000
set_option maxHeartbeats 4000000
namespace Go.Proofs.Ytmpbfdakdoicjaa
open Go Go.Ga Go.Ga.Gl
def outD (n : Nat) (l : List Int) : List Bool := l.foldl (fun D v => if 0 ≤ v ∧ v < (n : Int) then D.set v.toNat true else D) (List.replicate n false)
theorem outD_snoc (n : Nat) (l : List Int) (k : Nat) (v : Int) (h : l[k]? = some v) : outD n (l.take (k + 1)) = if 0 ≤ v ∧ v < (n : Int) then (outD n (l.take k)).set v.toNat true else outD n (l.take k) := by
  rw [List.take_add_one, h]; simp [outD]
theorem outD_ok (n : Nat) (l : List Int) : (outD n l).length = n ∧ ∀ x, x < n → ((outD n l).getD x false = true ↔ (x : Int) ∈ l) := by
  have key : ∀ (l : List Int) (D : List Bool) (P : Nat → Prop), D.length = n → (∀ x, x < n → (D.getD x false = true ↔ P x)) →
      (l.foldl (fun D v => if 0 ≤ v ∧ v < (n : Int) then D.set v.toNat true else D) D).length = n ∧
      ∀ x, x < n → ((l.foldl (fun D v => if 0 ≤ v ∧ v < (n : Int) then D.set v.toNat true else D) D).getD x false = true ↔ P x ∨ (x : Int) ∈ l) := by
    intro l
    induction l with
    | nil => intro D P h1 h2; exact ⟨h1, fun x hx => by simpa using h2 x hx⟩
    | cons v l ih =>
      intro D P h1 h2
      simp only [List.foldl_cons]
      obtain ⟨i1, i2⟩ := ih (if 0 ≤ v ∧ v < (n : Int) then D.set v.toNat true else D) (fun x => P x ∨ (x : Int) = v) (by split <;> simp [h1]) (fun x hx => by
        split
        · rename_i hv
          rw [set_bool, h2 x hx, h1]
          constructor
          · rintro (h | h)
            · exact .inl h
            · exact .inr (by omega)
          · rintro (h | h)
            · exact .inl h
            · exact .inr (by omega)
        · rename_i hv
          rw [h2 x hx]
          constructor
          · exact .inl
          · rintro (h | h)
            · exact h
            · omega)
      refine ⟨i1, fun x hx => ?_⟩
      rw [i2 x hx, List.mem_cons, or_assoc]
  obtain ⟨h1, h2⟩ := key l (List.replicate n false) (fun _ => False) (by simp) (fun x hx => by simp [List.getD_eq_getElem?_getD, hx])
  exact ⟨h1, fun x hx => by rw [outD, h2 x hx]; simp⟩
theorem pieces_le {n : Nat} {es : Es} {O : Nat → Prop} {v : Nat} {D : List Bool} {ps : List (List Nat)} (w : OI n es O v D ps) : ps.length ≤ v := by
  have h : (ps.map fun p => p.headD 0).Pairwise (· < ·) := by
    refine List.pairwise_map.2 ?_
    refine w.heads.imp_of_mem fun {p q} hp hq h => ?_
    have h1 := w.ne p hp; have h2 := w.ne q hq
    cases p with
    | nil => exact absurd rfl h1
    | cons a p => cases q with
      | nil => exact absurd rfl h2
      | cons b q => exact h a rfl b rfl
  have h2 : ∀ x ∈ ps.map fun p => p.headD 0, x ∈ List.range v := by
    intro x hx
    obtain ⟨p, hp, rfl⟩ := List.mem_map.1 hx
    cases p with
    | nil => exact absurd rfl (w.ne _ hp)
    | cons a p => exact List.mem_range.2 (w.low _ hp a rfl)
  have := nodup_le (h.imp fun h => Nat.ne_of_lt h) h2
  simpa using this
theorem of_ok {n : Nat} {es : Es} (g : GR n es) (out : List Int) (ho : out.length ≤ 1000000000) :
    ACalls Try.prog [] n_pieces_Of [.imm 1 (rowsI (near n es)), .imm 1 (ints out)] [] fun r h' => ∃ ps, IsPieces n es (fun v => (v : Int) ∈ out) ps ∧ r = .own (some 1) (rowsO ps) ∧ (h' : Heap).length ≤ 1 := by
  have hn := g.hn
  have hb1 : n * 1 ≤ 140737488355328 := by omega
  have hb0 : (n : Int) ≤ 9223372036854775807 := by omega
  refine go_pieces_Of rfl ?_
  unfold c_pieces_Of v_pieces_Of
  refine wlk_sreg fun KY hKY => ?_
  simp only [go_sem, reduceIte, Nat.reduceEqDiff, Nat.reduceBEq, reduceCtorEq, Nat.reduceLT, Nat.reduceLeDiff, Nat.reduceAdd, Nat.reduceSub, Nat.reduceMul, Nat.reduceDiv, Int.reduceAdd, Int.reduceNeg, Int.reduceEq, Int.reduceLT, Int.reduceLE, c_pieces_Of_r0]
  refine hKY _ ?_
  refine wlk_sreg fun KY hKY => ?_
  simp only [go_sem, reduceIte, Nat.reduceEqDiff, Nat.reduceBEq, reduceCtorEq, Nat.reduceLT, Nat.reduceLeDiff, Nat.reduceAdd, Nat.reduceSub, Nat.reduceMul, Nat.reduceDiv, Int.reduceAdd, Int.reduceNeg, Int.reduceEq, Int.reduceLT, Int.reduceLE, c_pieces_Of_r1, near_len, hb1]
  repeat (simp (disch := omega) only [if_pos, if_neg, decide_eq_true, decide_eq_false, incS, nats_get, ints_get, near_len, hb1]; try simp only [go_sem, reduceIte, Nat.reduceEqDiff, Nat.reduceBEq, reduceCtorEq, Nat.reduceLT, Nat.reduceLeDiff, Nat.reduceAdd, Nat.reduceSub, Nat.reduceMul, Nat.reduceDiv, Int.reduceAdd, Int.reduceNeg, Int.reduceEq, Int.reduceLT, Int.reduceLE, near_len, hb1])
  refine hKY _ ?_
  simp only [go_sem, reduceIte, Nat.reduceEqDiff, Nat.reduceBEq, reduceCtorEq, Nat.reduceLT, Nat.reduceLeDiff, Nat.reduceAdd, Nat.reduceSub, Nat.reduceMul, Nat.reduceDiv, Int.reduceAdd, Int.reduceNeg, Int.reduceEq, Int.reduceLT, Int.reduceLE]
  refine sem_sees [0, 5, 2] .dead (by simp only [go_sem, reduceIte, Nat.reduceEqDiff, Nat.reduceBEq, reduceCtorEq, Nat.reduceLT, Nat.reduceLeDiff, Nat.reduceAdd, Nat.reduceSub, Nat.reduceMul, Nat.reduceDiv, Int.reduceAdd, Int.reduceNeg, Int.reduceEq, Int.reduceLT, Int.reduceLE]; rfl) rfl (Sees.dead _) ?_
  simp only [go_sem, reduceIte, Nat.reduceEqDiff, Nat.reduceBEq, reduceCtorEq, Nat.reduceLT, Nat.reduceLeDiff, Nat.reduceAdd, Nat.reduceSub, Nat.reduceMul, Nat.reduceDiv, Int.reduceAdd, Int.reduceNeg, Int.reduceEq, Int.reduceLT, Int.reduceLE]
  refine sem_nil [0, 5, 3] 1 (by simp only [go_sem, reduceIte, Nat.reduceEqDiff, Nat.reduceBEq, reduceCtorEq, Nat.reduceLT, Nat.reduceLeDiff, Nat.reduceAdd, Nat.reduceSub, Nat.reduceMul, Nat.reduceDiv, Int.reduceAdd, Int.reduceNeg, Int.reduceEq, Int.reduceLT, Int.reduceLE]) ?_
  simp only [go_sem, reduceIte, Nat.reduceEqDiff, Nat.reduceBEq, reduceCtorEq, Nat.reduceLT, Nat.reduceLeDiff, Nat.reduceAdd, Nat.reduceSub, Nat.reduceMul, Nat.reduceDiv, Int.reduceAdd, Int.reduceNeg, Int.reduceEq, Int.reduceLT, Int.reduceLE]
  refine sem_share [0, 5] (by simp only [go_sem, reduceIte, Nat.reduceEqDiff, Nat.reduceBEq, reduceCtorEq, Nat.reduceLT, Nat.reduceLeDiff, Nat.reduceAdd, Nat.reduceSub, Nat.reduceMul, Nat.reduceDiv, Int.reduceAdd, Int.reduceNeg, Int.reduceEq, Int.reduceLT, Int.reduceLE]; rfl) ?_
  simp only [go_sem, reduceIte, Nat.reduceEqDiff, Nat.reduceBEq, reduceCtorEq, Nat.reduceLT, Nat.reduceLeDiff, Nat.reduceAdd, Nat.reduceSub, Nat.reduceMul, Nat.reduceDiv, Int.reduceAdd, Int.reduceNeg, Int.reduceEq, Int.reduceLT, Int.reduceLE]
  refine wlk_seq fun X1 hn1 he1 hr1 => ?_
  refine wlk_sreg fun KY hKY => ?_
  simp only [go_sem, reduceIte, Nat.reduceEqDiff, Nat.reduceBEq, reduceCtorEq, Nat.reduceLT, Nat.reduceLeDiff, Nat.reduceAdd, Nat.reduceSub, Nat.reduceMul, Nat.reduceDiv, Int.reduceAdd, Int.reduceNeg, Int.reduceEq, Int.reduceLT, Int.reduceLE, c_pieces_Of_r2]
  refine hKY _ ?_
  refine wlk_blk fun X2 hn2 he2 hf2 hr2 => ?_
  try simp only [go_sem, reduceIte, Nat.reduceEqDiff, Nat.reduceBEq, reduceCtorEq, Nat.reduceLT, Nat.reduceLeDiff, Nat.reduceAdd, Nat.reduceSub, Nat.reduceMul, Nat.reduceDiv, Int.reduceAdd, Int.reduceNeg, Int.reduceEq, Int.reduceLT, Int.reduceLE]
  refine wlk_lp (α := Nat) [7, 19, 29] (fun k => [(18, .sc (.int .i64 (k : Int)))]) (fun k => [some (pRest (near n es) (outD n (out.take k)))]) (fun k q => k ≤ out.length ∧ q = out.length - k) (0) (out.length) rfl (by first | (simp only [go_sem, reduceIte, Nat.reduceEqDiff, Nat.reduceBEq, reduceCtorEq, Nat.reduceLT, Nat.reduceLeDiff, Nat.reduceAdd, Nat.reduceSub, Nat.reduceMul, Nat.reduceDiv, Int.reduceAdd, Int.reduceNeg, Int.reduceEq, Int.reduceLT, Int.reduceLE, updAll_cons, updAll_nil]; done) | rfl) (⟨by omega, rfl⟩) ?_
  rintro k q ⟨hk, rfl⟩ X3 hn3 he3 hr3
  simp only [go_sem, reduceIte, Nat.reduceEqDiff, Nat.reduceBEq, reduceCtorEq, Nat.reduceLT, Nat.reduceLeDiff, Nat.reduceAdd, Nat.reduceSub, Nat.reduceMul, Nat.reduceDiv, Int.reduceAdd, Int.reduceNeg, Int.reduceEq, Int.reduceLT, Int.reduceLE, updAll_cons, updAll_nil]
  unfold pRest
  refine wlk_sreg fun KY hKY => ?_
  simp only [go_sem, reduceIte, Nat.reduceEqDiff, Nat.reduceBEq, reduceCtorEq, Nat.reduceLT, Nat.reduceLeDiff, Nat.reduceAdd, Nat.reduceSub, Nat.reduceMul, Nat.reduceDiv, Int.reduceAdd, Int.reduceNeg, Int.reduceEq, Int.reduceLT, Int.reduceLE, c_pieces_Of_r3]
  refine hKY _ ?_
  refine wlk_seq fun X4 hn4 he4 hr4 => ?_
  by_cases hk2 : k < out.length
  · refine wlk_cond1 (by first | rfl | (simp only [go_sem, reduceIte, Nat.reduceEqDiff, Nat.reduceBEq, reduceCtorEq, Nat.reduceLT, Nat.reduceLeDiff, Nat.reduceAdd, Nat.reduceSub, Nat.reduceMul, Nat.reduceDiv, Int.reduceAdd, Int.reduceNeg, Int.reduceEq, Int.reduceLT, Int.reduceLE]; try simp (disch := omega) only [decide_eq_true, decide_eq_false])) ?_
    refine wlk_skip ?_
    repeat (first | refine hn4 _ ?_ | refine he4 _ _ ?_ | refine hr4 _ ?_ | refine he3 _ _ ?_ | refine hr3 _ ?_ | refine hn2 _ ?_ | refine he2 _ ?_ | refine hf2 _ _ (by decide) ?_ | refine hr2 _ ?_ | refine hn1 _ ?_ | refine he1 _ _ ?_ | refine hr1 _ ?_)
    refine wlk_seq fun X5 hn5 he5 hr5 => ?_
    refine wlk_blk fun X6 hn6 he6 hf6 hr6 => ?_
    have hx : out[k]? = some (out[k]) := List.getElem?_eq_getElem hk2
    have hxg : out.getD k 0 = out[k] := by simp [List.getD_eq_getElem?_getD, hx]
    generalize out[k] = v at hx hxg
    refine wlk_sreg fun KY hKY => ?_
    simp only [go_sem, reduceIte, Nat.reduceEqDiff, Nat.reduceBEq, reduceCtorEq, Nat.reduceLT, Nat.reduceLeDiff, Nat.reduceAdd, Nat.reduceSub, Nat.reduceMul, Nat.reduceDiv, Int.reduceAdd, Int.reduceNeg, Int.reduceEq, Int.reduceLT, Int.reduceLE, c_pieces_Of_r4, ints_get hk2, hxg, hk2]
    refine hKY _ ?_
    have hst := outD_snoc n out k v hx
    have hlen := (outD_ok n (out.take k)).1
    by_cases hv : 0 ≤ v
    · by_cases hvn : v < n
      · rw [if_pos ⟨hv, hvn⟩] at hst
        refine wlk_sreg fun KY hKY => ?_
        simp only [go_sem, reduceIte, Nat.reduceEqDiff, Nat.reduceBEq, reduceCtorEq, Nat.reduceLT, Nat.reduceLeDiff, Nat.reduceAdd, Nat.reduceSub, Nat.reduceMul, Nat.reduceDiv, Int.reduceAdd, Int.reduceNeg, Int.reduceEq, Int.reduceLT, Int.reduceLE, c_pieces_Of_r5, hv, near_len, hvn]
        refine hKY _ ?_
        refine wlk_cond1 (by first | rfl | (simp only [go_sem, reduceIte, Nat.reduceEqDiff, Nat.reduceBEq, reduceCtorEq, Nat.reduceLT, Nat.reduceLeDiff, Nat.reduceAdd, Nat.reduceSub, Nat.reduceMul, Nat.reduceDiv, Int.reduceAdd, Int.reduceNeg, Int.reduceEq, Int.reduceLT, Int.reduceLE]; try simp (disch := omega) only [decide_eq_true, decide_eq_false])) ?_
        obtain ⟨m, rfl⟩ : ∃ m : Nat, v = m := ⟨v.toNat, by omega⟩
        have hm : m < n := by omega
        rw [Int.toNat_natCast] at hst
        refine wlk_reg fun KY hKY => ?_
        simp only [go_sem, reduceIte, Nat.reduceEqDiff, Nat.reduceBEq, reduceCtorEq, Nat.reduceLT, Nat.reduceLeDiff, Nat.reduceAdd, Nat.reduceSub, Nat.reduceMul, Nat.reduceDiv, Int.reduceAdd, Int.reduceNeg, Int.reduceEq, Int.reduceLT, Int.reduceLE, c_pieces_Of_r6, hlen, hm, ← hst]
        refine hKY _ ?_
        repeat (first | refine hn6 _ ?_ | refine he6 _ ?_ | refine hf6 _ _ (by decide) ?_ | refine hr6 _ ?_ | refine hn5 _ ?_ | refine he5 _ _ ?_ | refine hr5 _ ?_ | refine hn4 _ ?_ | refine he4 _ _ ?_ | refine hr4 _ ?_ | refine he3 _ _ ?_ | refine hr3 _ ?_ | refine hn2 _ ?_ | refine he2 _ ?_ | refine hf2 _ _ (by decide) ?_ | refine hr2 _ ?_ | refine hn1 _ ?_ | refine he1 _ _ ?_ | refine hr1 _ ?_)
        refine wlk_reg fun KY hKY => ?_
        simp only [go_sem, reduceIte, Nat.reduceEqDiff, Nat.reduceBEq, reduceCtorEq, Nat.reduceLT, Nat.reduceLeDiff, Nat.reduceAdd, Nat.reduceSub, Nat.reduceMul, Nat.reduceDiv, Int.reduceAdd, Int.reduceNeg, Int.reduceEq, Int.reduceLT, Int.reduceLE, c_pieces_Of_r7, incS (show k < 4611686018427387904 by omega)]
        refine hKY _ ?_
        repeat (first | refine hn6 _ ?_ | refine he6 _ ?_ | refine hf6 _ _ (by decide) ?_ | refine hr6 _ ?_ | refine hn5 _ ?_ | refine he5 _ _ ?_ | refine hr5 _ ?_ | refine hn4 _ ?_ | refine he4 _ _ ?_ | refine hr4 _ ?_ | refine he3 _ _ ?_ | refine hr3 _ ?_ | refine hn2 _ ?_ | refine he2 _ ?_ | refine hf2 _ _ (by decide) ?_ | refine hr2 _ ?_ | refine hn1 _ ?_ | refine he1 _ _ ?_ | refine hr1 _ ?_)
        refine hn3 _ (k + 1) (out.length - (k + 1)) (by omega) (by first | (simp only [go_sem, reduceIte, Nat.reduceEqDiff, Nat.reduceBEq, reduceCtorEq, Nat.reduceLT, Nat.reduceLeDiff, Nat.reduceAdd, Nat.reduceSub, Nat.reduceMul, Nat.reduceDiv, Int.reduceAdd, Int.reduceNeg, Int.reduceEq, Int.reduceLT, Int.reduceLE, updAll_cons, updAll_nil, pRest]; done) | rfl) ?_
        exact ⟨hk2, rfl⟩
      · rw [if_neg (by omega)] at hst
        refine wlk_sreg fun KY hKY => ?_
        simp only [go_sem, reduceIte, Nat.reduceEqDiff, Nat.reduceBEq, reduceCtorEq, Nat.reduceLT, Nat.reduceLeDiff, Nat.reduceAdd, Nat.reduceSub, Nat.reduceMul, Nat.reduceDiv, Int.reduceAdd, Int.reduceNeg, Int.reduceEq, Int.reduceLT, Int.reduceLE, c_pieces_Of_r5, hv, near_len, hvn]
        refine hKY _ ?_
        refine wlk_cond0 (by first | rfl | (simp only [go_sem, reduceIte, Nat.reduceEqDiff, Nat.reduceBEq, reduceCtorEq, Nat.reduceLT, Nat.reduceLeDiff, Nat.reduceAdd, Nat.reduceSub, Nat.reduceMul, Nat.reduceDiv, Int.reduceAdd, Int.reduceNeg, Int.reduceEq, Int.reduceLT, Int.reduceLE]; try simp (disch := omega) only [decide_eq_true, decide_eq_false])) ?_
        rw [← hst]
        refine wlk_skip ?_
        repeat (first | refine hn6 _ ?_ | refine he6 _ ?_ | refine hf6 _ _ (by decide) ?_ | refine hr6 _ ?_ | refine hn5 _ ?_ | refine he5 _ _ ?_ | refine hr5 _ ?_ | refine hn4 _ ?_ | refine he4 _ _ ?_ | refine hr4 _ ?_ | refine he3 _ _ ?_ | refine hr3 _ ?_ | refine hn2 _ ?_ | refine he2 _ ?_ | refine hf2 _ _ (by decide) ?_ | refine hr2 _ ?_ | refine hn1 _ ?_ | refine he1 _ _ ?_ | refine hr1 _ ?_)
        refine wlk_reg fun KY hKY => ?_
        simp only [go_sem, reduceIte, Nat.reduceEqDiff, Nat.reduceBEq, reduceCtorEq, Nat.reduceLT, Nat.reduceLeDiff, Nat.reduceAdd, Nat.reduceSub, Nat.reduceMul, Nat.reduceDiv, Int.reduceAdd, Int.reduceNeg, Int.reduceEq, Int.reduceLT, Int.reduceLE, c_pieces_Of_r7, incS (show k < 4611686018427387904 by omega)]
        refine hKY _ ?_
        repeat (first | refine hn6 _ ?_ | refine he6 _ ?_ | refine hf6 _ _ (by decide) ?_ | refine hr6 _ ?_ | refine hn5 _ ?_ | refine he5 _ _ ?_ | refine hr5 _ ?_ | refine hn4 _ ?_ | refine he4 _ _ ?_ | refine hr4 _ ?_ | refine he3 _ _ ?_ | refine hr3 _ ?_ | refine hn2 _ ?_ | refine he2 _ ?_ | refine hf2 _ _ (by decide) ?_ | refine hr2 _ ?_ | refine hn1 _ ?_ | refine he1 _ _ ?_ | refine hr1 _ ?_)
        refine hn3 _ (k + 1) (out.length - (k + 1)) (by omega) (by first | (simp only [go_sem, reduceIte, Nat.reduceEqDiff, Nat.reduceBEq, reduceCtorEq, Nat.reduceLT, Nat.reduceLeDiff, Nat.reduceAdd, Nat.reduceSub, Nat.reduceMul, Nat.reduceDiv, Int.reduceAdd, Int.reduceNeg, Int.reduceEq, Int.reduceLT, Int.reduceLE, updAll_cons, updAll_nil, pRest]; done) | rfl) ?_
        exact ⟨hk2, rfl⟩
    · rw [if_neg (by omega)] at hst
      refine wlk_sreg fun KY hKY => ?_
      simp only [go_sem, reduceIte, Nat.reduceEqDiff, Nat.reduceBEq, reduceCtorEq, Nat.reduceLT, Nat.reduceLeDiff, Nat.reduceAdd, Nat.reduceSub, Nat.reduceMul, Nat.reduceDiv, Int.reduceAdd, Int.reduceNeg, Int.reduceEq, Int.reduceLT, Int.reduceLE, c_pieces_Of_r5, hv]
      refine hKY _ ?_
      refine wlk_cond0 (by first | rfl | (simp only [go_sem, reduceIte, Nat.reduceEqDiff, Nat.reduceBEq, reduceCtorEq, Nat.reduceLT, Nat.reduceLeDiff, Nat.reduceAdd, Nat.reduceSub, Nat.reduceMul, Nat.reduceDiv, Int.reduceAdd, Int.reduceNeg, Int.reduceEq, Int.reduceLT, Int.reduceLE]; try simp (disch := omega) only [decide_eq_true, decide_eq_false])) ?_
      rw [← hst]
      refine wlk_skip ?_
      repeat (first | refine hn6 _ ?_ | refine he6 _ ?_ | refine hf6 _ _ (by decide) ?_ | refine hr6 _ ?_ | refine hn5 _ ?_ | refine he5 _ _ ?_ | refine hr5 _ ?_ | refine hn4 _ ?_ | refine he4 _ _ ?_ | refine hr4 _ ?_ | refine he3 _ _ ?_ | refine hr3 _ ?_ | refine hn2 _ ?_ | refine he2 _ ?_ | refine hf2 _ _ (by decide) ?_ | refine hr2 _ ?_ | refine hn1 _ ?_ | refine he1 _ _ ?_ | refine hr1 _ ?_)
      refine wlk_reg fun KY hKY => ?_
      simp only [go_sem, reduceIte, Nat.reduceEqDiff, Nat.reduceBEq, reduceCtorEq, Nat.reduceLT, Nat.reduceLeDiff, Nat.reduceAdd, Nat.reduceSub, Nat.reduceMul, Nat.reduceDiv, Int.reduceAdd, Int.reduceNeg, Int.reduceEq, Int.reduceLT, Int.reduceLE, c_pieces_Of_r7, incS (show k < 4611686018427387904 by omega)]
      refine hKY _ ?_
      repeat (first | refine hn6 _ ?_ | refine he6 _ ?_ | refine hf6 _ _ (by decide) ?_ | refine hr6 _ ?_ | refine hn5 _ ?_ | refine he5 _ _ ?_ | refine hr5 _ ?_ | refine hn4 _ ?_ | refine he4 _ _ ?_ | refine hr4 _ ?_ | refine he3 _ _ ?_ | refine hr3 _ ?_ | refine hn2 _ ?_ | refine he2 _ ?_ | refine hf2 _ _ (by decide) ?_ | refine hr2 _ ?_ | refine hn1 _ ?_ | refine he1 _ _ ?_ | refine hr1 _ ?_)
      refine hn3 _ (k + 1) (out.length - (k + 1)) (by omega) (by first | (simp only [go_sem, reduceIte, Nat.reduceEqDiff, Nat.reduceBEq, reduceCtorEq, Nat.reduceLT, Nat.reduceLeDiff, Nat.reduceAdd, Nat.reduceSub, Nat.reduceMul, Nat.reduceDiv, Int.reduceAdd, Int.reduceNeg, Int.reduceEq, Int.reduceLT, Int.reduceLE, updAll_cons, updAll_nil, pRest]; done) | rfl) ?_
      exact ⟨hk2, rfl⟩
  · refine wlk_cond0 (by first | rfl | (simp only [go_sem, reduceIte, Nat.reduceEqDiff, Nat.reduceBEq, reduceCtorEq, Nat.reduceLT, Nat.reduceLeDiff, Nat.reduceAdd, Nat.reduceSub, Nat.reduceMul, Nat.reduceDiv, Int.reduceAdd, Int.reduceNeg, Int.reduceEq, Int.reduceLT, Int.reduceLE]; try simp (disch := omega) only [decide_eq_true, decide_eq_false])) ?_
    refine wlk_exit ?_
    repeat (first | refine hn4 _ ?_ | refine he4 _ _ ?_ | refine hr4 _ ?_ | refine he3 _ _ ?_ | refine hr3 _ ?_ | refine hn2 _ ?_ | refine he2 _ ?_ | refine hf2 _ _ (by decide) ?_ | refine hr2 _ ?_ | refine hn1 _ ?_ | refine he1 _ _ ?_ | refine hr1 _ ?_)
    obtain rfl : k = out.length := by omega
    rw [List.take_length]
    obtain ⟨hlen, hout⟩ := outD_ok n out
    generalize outD n out = D0 at hlen hout
    refine wlk_sreg fun KY hKY => ?_
    simp only [go_sem, reduceIte, Nat.reduceEqDiff, Nat.reduceBEq, reduceCtorEq, Nat.reduceLT, Nat.reduceLeDiff, Nat.reduceAdd, Nat.reduceSub, Nat.reduceMul, Nat.reduceDiv, Int.reduceAdd, Int.reduceNeg, Int.reduceEq, Int.reduceLT, Int.reduceLE, c_pieces_Of_r8]
    refine hKY _ ?_
    simp only [go_sem, reduceIte, Nat.reduceEqDiff, Nat.reduceBEq, reduceCtorEq, Nat.reduceLT, Nat.reduceLeDiff, Nat.reduceAdd, Nat.reduceSub, Nat.reduceMul, Nat.reduceDiv, Int.reduceAdd, Int.reduceNeg, Int.reduceEq, Int.reduceLT, Int.reduceLE]
    refine sem_nil [0, 8] 1 (by simp only [go_sem, reduceIte, Nat.reduceEqDiff, Nat.reduceBEq, reduceCtorEq, Nat.reduceLT, Nat.reduceLeDiff, Nat.reduceAdd, Nat.reduceSub, Nat.reduceMul, Nat.reduceDiv, Int.reduceAdd, Int.reduceNeg, Int.reduceEq, Int.reduceLT, Int.reduceLE]) ?_
    refine wlk_seq fun X7 hn7 he7 hr7 => ?_
    refine wlk_sreg fun KY hKY => ?_
    simp only [go_sem, reduceIte, Nat.reduceEqDiff, Nat.reduceBEq, reduceCtorEq, Nat.reduceLT, Nat.reduceLeDiff, Nat.reduceAdd, Nat.reduceSub, Nat.reduceMul, Nat.reduceDiv, Int.reduceAdd, Int.reduceNeg, Int.reduceEq, Int.reduceLT, Int.reduceLE, c_pieces_Of_r9, near_len]
    refine hKY _ ?_
    refine wlk_blk fun X8 hn8 he8 hf8 hr8 => ?_
    try simp only [go_sem, reduceIte, Nat.reduceEqDiff, Nat.reduceBEq, reduceCtorEq, Nat.reduceLT, Nat.reduceLeDiff, Nat.reduceAdd, Nat.reduceSub, Nat.reduceMul, Nat.reduceDiv, Int.reduceAdd, Int.reduceNeg, Int.reduceEq, Int.reduceLT, Int.reduceLE]
    refine wlk_lp (α := Nat × List Bool × List (List Nat)) [9, 18, 19, 40, 49] (fun (v, D, ps) => [(8, .own (some 1) (rowsO ps)), (39, .sc (.int .i64 (v : Int)))]) (fun (v, D, ps) => [some (pRest (near n es) D)]) (fun (v, D, ps) q => v ≤ n ∧ q = n - v ∧ OI n es (fun v => (v : Int) ∈ out) v D ps) ((0, D0, [])) (n) rfl (by first | (simp only [go_sem, reduceIte, Nat.reduceEqDiff, Nat.reduceBEq, reduceCtorEq, Nat.reduceLT, Nat.reduceLeDiff, Nat.reduceAdd, Nat.reduceSub, Nat.reduceMul, Nat.reduceDiv, Int.reduceAdd, Int.reduceNeg, Int.reduceEq, Int.reduceLT, Int.reduceLE, updAll_cons, updAll_nil]; done) | rfl) (⟨by omega, rfl, OI.start hlen hout⟩) ?_
    rintro ⟨v, D, ps⟩ q ⟨hv, rfl, w⟩ X9 hn9 he9 hr9
    simp only [go_sem, reduceIte, Nat.reduceEqDiff, Nat.reduceBEq, reduceCtorEq, Nat.reduceLT, Nat.reduceLeDiff, Nat.reduceAdd, Nat.reduceSub, Nat.reduceMul, Nat.reduceDiv, Int.reduceAdd, Int.reduceNeg, Int.reduceEq, Int.reduceLT, Int.reduceLE, updAll_cons, updAll_nil]
    unfold pRest
    refine wlk_sreg fun KY hKY => ?_
    simp only [go_sem, reduceIte, Nat.reduceEqDiff, Nat.reduceBEq, reduceCtorEq, Nat.reduceLT, Nat.reduceLeDiff, Nat.reduceAdd, Nat.reduceSub, Nat.reduceMul, Nat.reduceDiv, Int.reduceAdd, Int.reduceNeg, Int.reduceEq, Int.reduceLT, Int.reduceLE, c_pieces_Of_r10]
    refine hKY _ ?_
    refine wlk_seq fun X10 hn10 he10 hr10 => ?_
    by_cases hv2 : v < n
    · refine wlk_cond1 (by first | rfl | (simp only [go_sem, reduceIte, Nat.reduceEqDiff, Nat.reduceBEq, reduceCtorEq, Nat.reduceLT, Nat.reduceLeDiff, Nat.reduceAdd, Nat.reduceSub, Nat.reduceMul, Nat.reduceDiv, Int.reduceAdd, Int.reduceNeg, Int.reduceEq, Int.reduceLT, Int.reduceLE]; try simp (disch := omega) only [decide_eq_true, decide_eq_false])) ?_
      refine wlk_skip ?_
      repeat (first | refine hn10 _ ?_ | refine he10 _ _ ?_ | refine hr10 _ ?_ | refine he9 _ _ ?_ | refine hr9 _ ?_ | refine hn8 _ ?_ | refine he8 _ ?_ | refine hf8 _ _ (by decide) ?_ | refine hr8 _ ?_ | refine hn7 _ ?_ | refine he7 _ _ ?_ | refine hr7 _ ?_ | refine hn4 _ ?_ | refine he4 _ _ ?_ | refine hr4 _ ?_ | refine he3 _ _ ?_ | refine hr3 _ ?_ | refine hn2 _ ?_ | refine he2 _ ?_ | refine hf2 _ _ (by decide) ?_ | refine hr2 _ ?_ | refine hn1 _ ?_ | refine he1 _ _ ?_ | refine hr1 _ ?_)
      refine wlk_seq fun X11 hn11 he11 hr11 => ?_
      refine wlk_blk fun X12 hn12 he12 hf12 hr12 => ?_
      refine wlk_sreg fun KY hKY => ?_
      simp only [go_sem, reduceIte, Nat.reduceEqDiff, Nat.reduceBEq, reduceCtorEq, Nat.reduceLT, Nat.reduceLeDiff, Nat.reduceAdd, Nat.reduceSub, Nat.reduceMul, Nat.reduceDiv, Int.reduceAdd, Int.reduceNeg, Int.reduceEq, Int.reduceLT, Int.reduceLE, c_pieces_Of_r11]
      refine hKY _ ?_
      have hDl := w.len
      have hvD : v < D.length := by omega
      have hbg := bools_get hvD
      refine wlk_sreg fun KY hKY => ?_
      simp only [go_sem, reduceIte, Nat.reduceEqDiff, Nat.reduceBEq, reduceCtorEq, Nat.reduceLT, Nat.reduceLeDiff, Nat.reduceAdd, Nat.reduceSub, Nat.reduceMul, Nat.reduceDiv, Int.reduceAdd, Int.reduceNeg, Int.reduceEq, Int.reduceLT, Int.reduceLE, c_pieces_Of_r12, hbg, hvD]
      refine hKY _ ?_
      cases hd : D.getD v false with
      | true =>
        refine wlk_cond0 (by first | rfl | (simp only [go_sem, reduceIte, Nat.reduceEqDiff, Nat.reduceBEq, reduceCtorEq, Nat.reduceLT, Nat.reduceLeDiff, Nat.reduceAdd, Nat.reduceSub, Nat.reduceMul, Nat.reduceDiv, Int.reduceAdd, Int.reduceNeg, Int.reduceEq, Int.reduceLT, Int.reduceLE, hd]; try simp (disch := omega) only [decide_eq_true, decide_eq_false])) ?_
        refine wlk_skip ?_
        repeat (first | refine hn12 _ ?_ | refine he12 _ ?_ | refine hf12 _ _ (by decide) ?_ | refine hr12 _ ?_ | refine hn11 _ ?_ | refine he11 _ _ ?_ | refine hr11 _ ?_ | refine hn10 _ ?_ | refine he10 _ _ ?_ | refine hr10 _ ?_ | refine he9 _ _ ?_ | refine hr9 _ ?_ | refine hn8 _ ?_ | refine he8 _ ?_ | refine hf8 _ _ (by decide) ?_ | refine hr8 _ ?_ | refine hn7 _ ?_ | refine he7 _ _ ?_ | refine hr7 _ ?_ | refine hn4 _ ?_ | refine he4 _ _ ?_ | refine hr4 _ ?_ | refine he3 _ _ ?_ | refine hr3 _ ?_ | refine hn2 _ ?_ | refine he2 _ ?_ | refine hf2 _ _ (by decide) ?_ | refine hr2 _ ?_ | refine hn1 _ ?_ | refine he1 _ _ ?_ | refine hr1 _ ?_)
        refine wlk_reg fun KY hKY => ?_
        simp only [go_sem, reduceIte, Nat.reduceEqDiff, Nat.reduceBEq, reduceCtorEq, Nat.reduceLT, Nat.reduceLeDiff, Nat.reduceAdd, Nat.reduceSub, Nat.reduceMul, Nat.reduceDiv, Int.reduceAdd, Int.reduceNeg, Int.reduceEq, Int.reduceLT, Int.reduceLE, c_pieces_Of_r14, incS (show v < 4611686018427387904 by omega)]
        refine hKY _ ?_
        repeat (first | refine hn12 _ ?_ | refine he12 _ ?_ | refine hf12 _ _ (by decide) ?_ | refine hr12 _ ?_ | refine hn11 _ ?_ | refine he11 _ _ ?_ | refine hr11 _ ?_ | refine hn10 _ ?_ | refine he10 _ _ ?_ | refine hr10 _ ?_ | refine he9 _ _ ?_ | refine hr9 _ ?_ | refine hn8 _ ?_ | refine he8 _ ?_ | refine hf8 _ _ (by decide) ?_ | refine hr8 _ ?_ | refine hn7 _ ?_ | refine he7 _ _ ?_ | refine hr7 _ ?_ | refine hn4 _ ?_ | refine he4 _ _ ?_ | refine hr4 _ ?_ | refine he3 _ _ ?_ | refine hr3 _ ?_ | refine hn2 _ ?_ | refine he2 _ ?_ | refine hf2 _ _ (by decide) ?_ | refine hr2 _ ?_ | refine hn1 _ ?_ | refine he1 _ _ ?_ | refine hr1 _ ?_)
        refine hn9 _ ((v + 1, D, ps)) (n - (v + 1)) (by omega) (by first | (simp only [go_sem, reduceIte, Nat.reduceEqDiff, Nat.reduceBEq, reduceCtorEq, Nat.reduceLT, Nat.reduceLeDiff, Nat.reduceAdd, Nat.reduceSub, Nat.reduceMul, Nat.reduceDiv, Int.reduceAdd, Int.reduceNeg, Int.reduceEq, Int.reduceLT, Int.reduceLE, updAll_cons, updAll_nil, pRest]; done) | rfl) ?_
        exact ⟨hv2, rfl, w.skip hd⟩
      | false =>
        refine wlk_cond1 (by first | rfl | (simp only [go_sem, reduceIte, Nat.reduceEqDiff, Nat.reduceBEq, reduceCtorEq, Nat.reduceLT, Nat.reduceLeDiff, Nat.reduceAdd, Nat.reduceSub, Nat.reduceMul, Nat.reduceDiv, Int.reduceAdd, Int.reduceNeg, Int.reduceEq, Int.reduceLT, Int.reduceLE, hd]; try simp (disch := omega) only [decide_eq_true, decide_eq_false])) ?_
        have hps := pieces_le w
        have hby : (ps.length + 1) * 24 ≤ 140737488355328 := by omega
        refine wlk_reg fun KY hKY => ?_
        simp only [go_sem, reduceIte, Nat.reduceEqDiff, Nat.reduceBEq, reduceCtorEq, Nat.reduceLT, Nat.reduceLeDiff, Nat.reduceAdd, Nat.reduceSub, Nat.reduceMul, Nat.reduceDiv, Int.reduceAdd, Int.reduceNeg, Int.reduceEq, Int.reduceLT, Int.reduceLE, c_pieces_Of_r13]
        apply call_gen [] [0] false none rfl
        iterate 8 (first | (simp only [go_sem, reduceIte, Nat.reduceEqDiff, Nat.reduceBEq, reduceCtorEq, Nat.reduceLT, Nat.reduceLeDiff, Nat.reduceAdd, Nat.reduceSub, Nat.reduceMul, Nat.reduceDiv, Int.reduceAdd, Int.reduceNeg, Int.reduceEq, Int.reduceLT, Int.reduceLE, watchIn] <;> rfl) | rfl)
        refine (piece_ok g D hDl v hv2 hd).mono ?_
        rintro _ _ ⟨p, D', hp, rfl, rfl⟩
        unfold pRest
        refine ⟨Nat.le_of_ble_eq_true rfl, (fun hh => by cases hh), ?_⟩
        simp only [go_sem, reduceIte, Nat.reduceEqDiff, Nat.reduceBEq, reduceCtorEq, Nat.reduceLT, Nat.reduceLeDiff, Nat.reduceAdd, Nat.reduceSub, Nat.reduceMul, Nat.reduceDiv, Int.reduceAdd, Int.reduceNeg, Int.reduceEq, Int.reduceLT, Int.reduceLE, callOut, AState.after, rowsO_cellOk, hby, rowsO_snoc]
        refine hKY _ ?_
        repeat (first | refine hn12 _ ?_ | refine he12 _ ?_ | refine hf12 _ _ (by decide) ?_ | refine hr12 _ ?_ | refine hn11 _ ?_ | refine he11 _ _ ?_ | refine hr11 _ ?_ | refine hn10 _ ?_ | refine he10 _ _ ?_ | refine hr10 _ ?_ | refine he9 _ _ ?_ | refine hr9 _ ?_ | refine hn8 _ ?_ | refine he8 _ ?_ | refine hf8 _ _ (by decide) ?_ | refine hr8 _ ?_ | refine hn7 _ ?_ | refine he7 _ _ ?_ | refine hr7 _ ?_ | refine hn4 _ ?_ | refine he4 _ _ ?_ | refine hr4 _ ?_ | refine he3 _ _ ?_ | refine hr3 _ ?_ | refine hn2 _ ?_ | refine he2 _ ?_ | refine hf2 _ _ (by decide) ?_ | refine hr2 _ ?_ | refine hn1 _ ?_ | refine he1 _ _ ?_ | refine hr1 _ ?_)
        refine wlk_reg fun KY hKY => ?_
        simp only [go_sem, reduceIte, Nat.reduceEqDiff, Nat.reduceBEq, reduceCtorEq, Nat.reduceLT, Nat.reduceLeDiff, Nat.reduceAdd, Nat.reduceSub, Nat.reduceMul, Nat.reduceDiv, Int.reduceAdd, Int.reduceNeg, Int.reduceEq, Int.reduceLT, Int.reduceLE, c_pieces_Of_r14, incS (show v < 4611686018427387904 by omega)]
        refine hKY _ ?_
        repeat (first | refine hn12 _ ?_ | refine he12 _ ?_ | refine hf12 _ _ (by decide) ?_ | refine hr12 _ ?_ | refine hn11 _ ?_ | refine he11 _ _ ?_ | refine hr11 _ ?_ | refine hn10 _ ?_ | refine he10 _ _ ?_ | refine hr10 _ ?_ | refine he9 _ _ ?_ | refine hr9 _ ?_ | refine hn8 _ ?_ | refine he8 _ ?_ | refine hf8 _ _ (by decide) ?_ | refine hr8 _ ?_ | refine hn7 _ ?_ | refine he7 _ _ ?_ | refine hr7 _ ?_ | refine hn4 _ ?_ | refine he4 _ _ ?_ | refine hr4 _ ?_ | refine he3 _ _ ?_ | refine hr3 _ ?_ | refine hn2 _ ?_ | refine he2 _ ?_ | refine hf2 _ _ (by decide) ?_ | refine hr2 _ ?_ | refine hn1 _ ?_ | refine he1 _ _ ?_ | refine hr1 _ ?_)
        refine hn9 _ ((v + 1, D', ps ++ [p])) (n - (v + 1)) (by omega) (by first | (simp only [go_sem, reduceIte, Nat.reduceEqDiff, Nat.reduceBEq, reduceCtorEq, Nat.reduceLT, Nat.reduceLeDiff, Nat.reduceAdd, Nat.reduceSub, Nat.reduceMul, Nat.reduceDiv, Int.reduceAdd, Int.reduceNeg, Int.reduceEq, Int.reduceLT, Int.reduceLE, updAll_cons, updAll_nil, pRest]; done) | rfl) ?_
        exact ⟨hv2, rfl, w.take g.adj_lt hp⟩
    · refine wlk_cond0 (by first | rfl | (simp only [go_sem, reduceIte, Nat.reduceEqDiff, Nat.reduceBEq, reduceCtorEq, Nat.reduceLT, Nat.reduceLeDiff, Nat.reduceAdd, Nat.reduceSub, Nat.reduceMul, Nat.reduceDiv, Int.reduceAdd, Int.reduceNeg, Int.reduceEq, Int.reduceLT, Int.reduceLE]; try simp (disch := omega) only [decide_eq_true, decide_eq_false])) ?_
      refine wlk_exit ?_
      repeat (first | refine hn10 _ ?_ | refine he10 _ _ ?_ | refine hr10 _ ?_ | refine he9 _ _ ?_ | refine hr9 _ ?_ | refine hn8 _ ?_ | refine he8 _ ?_ | refine hf8 _ _ (by decide) ?_ | refine hr8 _ ?_ | refine hn7 _ ?_ | refine he7 _ _ ?_ | refine hr7 _ ?_ | refine hn4 _ ?_ | refine he4 _ _ ?_ | refine hr4 _ ?_ | refine he3 _ _ ?_ | refine hr3 _ ?_ | refine hn2 _ ?_ | refine he2 _ ?_ | refine hf2 _ _ (by decide) ?_ | refine hr2 _ ?_ | refine hn1 _ ?_ | refine he1 _ _ ?_ | refine hr1 _ ?_)
      obtain rfl : v = n := by omega
      refine wlk_sreg fun KY hKY => ?_
      simp only [go_sem, reduceIte, Nat.reduceEqDiff, Nat.reduceBEq, reduceCtorEq, Nat.reduceLT, Nat.reduceLeDiff, Nat.reduceAdd, Nat.reduceSub, Nat.reduceMul, Nat.reduceDiv, Int.reduceAdd, Int.reduceNeg, Int.reduceEq, Int.reduceLT, Int.reduceLE, c_pieces_Of_r15]
      refine hKY _ ?_
      refine wlk_ret ?_
      repeat (first | refine hn10 _ ?_ | refine he10 _ _ ?_ | refine hr10 _ ?_ | refine he9 _ _ ?_ | refine hr9 _ ?_ | refine hn8 _ ?_ | refine he8 _ ?_ | refine hf8 _ _ (by decide) ?_ | refine hr8 _ ?_ | refine hn7 _ ?_ | refine he7 _ _ ?_ | refine hr7 _ ?_ | refine hn4 _ ?_ | refine he4 _ _ ?_ | refine hr4 _ ?_ | refine he3 _ _ ?_ | refine hr3 _ ?_ | refine hn2 _ ?_ | refine he2 _ ?_ | refine hf2 _ _ (by decide) ?_ | refine hr2 _ ?_ | refine hn1 _ ?_ | refine he1 _ _ ?_ | refine hr1 _ ?_)
      simp only [go_sem, reduceIte, Nat.reduceEqDiff, Nat.reduceBEq, reduceCtorEq, Nat.reduceLT, Nat.reduceLeDiff, Nat.reduceAdd, Nat.reduceSub, Nat.reduceMul, Nat.reduceDiv, Int.reduceAdd, Int.reduceNeg, Int.reduceEq, Int.reduceLT, Int.reduceLE]
      exact ⟨ps, w.pieces, rfl⟩
abbrev PsQ (n : Nat) (es : Es) (out : List Int) (r : AVal) (h' : Heap) : Prop := (∃ ps, IsPieces n es (fun v => (v : Int) ∈ out) ps ∧ r = .own (some 1) (rowsO ps)) ∧ h' = []
theorem ofT_ok {n : Nat} {es : Es} (g : GR n es) (out : List Int) (ho : out.length ≤ 1000000000) :
    ACalls Try.prog [] n_pieces_Of [.imm 1 (rowsI (near n es)), .imm 1 (ints out)] [] (PsQ n es out) := by
  refine ACalls.trim ((of_ok g out ho).mono ?_)
  rintro r h' ⟨ps, h1, rfl, h2⟩
  refine ⟨Nat.zero_le _, ⟨ps, h1, ?_⟩, rfl⟩
  simp only [AVal.ren, rowsO_ren]
theorem without_ok {n : Nat} {es : Es} (g : GR n es) (out : List Int) (ho : out.length ≤ 1000000000) :
    ACalls Try.prog [] n_pieces_Without [.agg [.sc (.int .i64 (n : Int)), .imm 2 (twos (castE es))], .imm 1 (ints out)] [] (PsQ n es out) := by
  refine go_pieces_Without rfl ?_
  unfold c_pieces_Without v_pieces_Without
  refine wlk_sreg fun KY hKY => ?_
  simp only [go_sem, reduceIte, Nat.reduceEqDiff, Nat.reduceBEq, reduceCtorEq, Nat.reduceLT, Nat.reduceLeDiff, Nat.reduceAdd, Nat.reduceSub, Nat.reduceMul, Nat.reduceDiv, Int.reduceAdd, Int.reduceNeg, Int.reduceEq, Int.reduceLT, Int.reduceLE, c_pieces_Without_r0]
  refine hKY _ ?_
  refine wlk_seq fun X1 hn1 he1 hr1 => ?_
  refine wlk_sreg fun KY hKY => ?_
  simp only [go_sem, reduceIte, Nat.reduceEqDiff, Nat.reduceBEq, reduceCtorEq, Nat.reduceLT, Nat.reduceLeDiff, Nat.reduceAdd, Nat.reduceSub, Nat.reduceMul, Nat.reduceDiv, Int.reduceAdd, Int.reduceNeg, Int.reduceEq, Int.reduceLT, Int.reduceLE, c_pieces_Without_r1]
  refine call_view rfl (by simp only [go_sem, reduceIte, Nat.reduceEqDiff, Nat.reduceBEq, reduceCtorEq, Nat.reduceLT, Nat.reduceLeDiff, Nat.reduceAdd, Nat.reduceSub, Nat.reduceMul, Nat.reduceDiv, Int.reduceAdd, Int.reduceNeg, Int.reduceEq, Int.reduceLT, Int.reduceLE] <;> rfl) ((right_ok _ _).mono ?_)
  rintro rr hh ⟨rfl, rfl⟩
  refine ⟨rfl, rfl, rfl, ?_⟩
  simp only [go_sem, reduceIte, Nat.reduceEqDiff, Nat.reduceBEq, reduceCtorEq, Nat.reduceLT, Nat.reduceLeDiff, Nat.reduceAdd, Nat.reduceSub, Nat.reduceMul, Nat.reduceDiv, Int.reduceAdd, Int.reduceNeg, Int.reduceEq, Int.reduceLT, Int.reduceLE, rightB_GR g]
  refine hKY _ ?_
  refine wlk_cond0 (by first | rfl | (simp only [go_sem, reduceIte, Nat.reduceEqDiff, Nat.reduceBEq, reduceCtorEq, Nat.reduceLT, Nat.reduceLeDiff, Nat.reduceAdd, Nat.reduceSub, Nat.reduceMul, Nat.reduceDiv, Int.reduceAdd, Int.reduceNeg, Int.reduceEq, Int.reduceLT, Int.reduceLE]; try simp (disch := omega) only [decide_eq_true, decide_eq_false])) ?_
  refine wlk_skip ?_
  repeat (first | refine hn1 _ ?_ | refine he1 _ _ ?_ | refine hr1 _ ?_)
  refine wlk_sreg fun KY hKY => ?_
  simp only [go_sem, reduceIte, Nat.reduceEqDiff, Nat.reduceBEq, reduceCtorEq, Nat.reduceLT, Nat.reduceLeDiff, Nat.reduceAdd, Nat.reduceSub, Nat.reduceMul, Nat.reduceDiv, Int.reduceAdd, Int.reduceNeg, Int.reduceEq, Int.reduceLT, Int.reduceLE, c_pieces_Without_r3]
  refine call_view rfl (by simp only [go_sem, reduceIte, Nat.reduceEqDiff, Nat.reduceBEq, reduceCtorEq, Nat.reduceLT, Nat.reduceLeDiff, Nat.reduceAdd, Nat.reduceSub, Nat.reduceMul, Nat.reduceDiv, Int.reduceAdd, Int.reduceNeg, Int.reduceEq, Int.reduceLT, Int.reduceLE] <;> rfl) ((lists_ok g).mono ?_)
  rintro rr hh ⟨rfl, rfl⟩
  refine ⟨?_, ?_, ?_, ?_⟩
  iterate 3 (first | rfl | simp only [go_sem, reduceIte, Nat.reduceEqDiff, Nat.reduceBEq, reduceCtorEq, Nat.reduceLT, Nat.reduceLeDiff, Nat.reduceAdd, Nat.reduceSub, Nat.reduceMul, Nat.reduceDiv, Int.reduceAdd, Int.reduceNeg, Int.reduceEq, Int.reduceLT, Int.reduceLE])
  simp only [go_sem, reduceIte, Nat.reduceEqDiff, Nat.reduceBEq, reduceCtorEq, Nat.reduceLT, Nat.reduceLeDiff, Nat.reduceAdd, Nat.reduceSub, Nat.reduceMul, Nat.reduceDiv, Int.reduceAdd, Int.reduceNeg, Int.reduceEq, Int.reduceLT, Int.reduceLE]
  refine call_view rfl (by simp only [go_sem, reduceIte, Nat.reduceEqDiff, Nat.reduceBEq, reduceCtorEq, Nat.reduceLT, Nat.reduceLeDiff, Nat.reduceAdd, Nat.reduceSub, Nat.reduceMul, Nat.reduceDiv, Int.reduceAdd, Int.reduceNeg, Int.reduceEq, Int.reduceLT, Int.reduceLE] <;> rfl) ((ofT_ok g out ho).mono ?_)
  rintro rr hh ⟨⟨ps, hps, rfl⟩, rfl⟩
  refine ⟨?_, ?_, ?_, ?_⟩
  iterate 3 (first | rfl | simp only [go_sem, reduceIte, Nat.reduceEqDiff, Nat.reduceBEq, reduceCtorEq, Nat.reduceLT, Nat.reduceLeDiff, Nat.reduceAdd, Nat.reduceSub, Nat.reduceMul, Nat.reduceDiv, Int.reduceAdd, Int.reduceNeg, Int.reduceEq, Int.reduceLT, Int.reduceLE])
  simp only [go_sem, reduceIte, Nat.reduceEqDiff, Nat.reduceBEq, reduceCtorEq, Nat.reduceLT, Nat.reduceLeDiff, Nat.reduceAdd, Nat.reduceSub, Nat.reduceMul, Nat.reduceDiv, Int.reduceAdd, Int.reduceNeg, Int.reduceEq, Int.reduceLT, Int.reduceLE]
  refine hKY _ ?_
  refine wlk_ret ?_
  repeat (first | refine hn1 _ ?_ | refine he1 _ _ ?_ | refine hr1 _ ?_)
  simp only [go_sem, reduceIte, Nat.reduceEqDiff, Nat.reduceBEq, reduceCtorEq, Nat.reduceLT, Nat.reduceLeDiff, Nat.reduceAdd, Nat.reduceSub, Nat.reduceMul, Nat.reduceDiv, Int.reduceAdd, Int.reduceNeg, Int.reduceEq, Int.reduceLT, Int.reduceLE]
  exact ⟨⟨ps, hps, rfl⟩, rfl⟩
theorem all_ok {n : Nat} {es : Es} (g : GR n es) : ACalls Try.prog [] n_pieces_All [.agg [.sc (.int .i64 (n : Int)), .imm 2 (twos (castE es))]] [] (PsQ n es []) := by
  refine go_pieces_All rfl ?_
  unfold c_pieces_All v_pieces_All
  refine wlk_sreg fun KY hKY => ?_
  simp only [go_sem, reduceIte, Nat.reduceEqDiff, Nat.reduceBEq, reduceCtorEq, Nat.reduceLT, Nat.reduceLeDiff, Nat.reduceAdd, Nat.reduceSub, Nat.reduceMul, Nat.reduceDiv, Int.reduceAdd, Int.reduceNeg, Int.reduceEq, Int.reduceLT, Int.reduceLE, c_pieces_All_r0]
  refine hKY _ ?_
  refine wlk_sreg fun KY hKY => ?_
  simp only [go_sem, reduceIte, Nat.reduceEqDiff, Nat.reduceBEq, reduceCtorEq, Nat.reduceLT, Nat.reduceLeDiff, Nat.reduceAdd, Nat.reduceSub, Nat.reduceMul, Nat.reduceDiv, Int.reduceAdd, Int.reduceNeg, Int.reduceEq, Int.reduceLT, Int.reduceLE, c_pieces_All_r1]
  refine call_view rfl (by simp only [go_sem, reduceIte, Nat.reduceEqDiff, Nat.reduceBEq, reduceCtorEq, Nat.reduceLT, Nat.reduceLeDiff, Nat.reduceAdd, Nat.reduceSub, Nat.reduceMul, Nat.reduceDiv, Int.reduceAdd, Int.reduceNeg, Int.reduceEq, Int.reduceLT, Int.reduceLE] <;> rfl) (((without_ok g [] (Nat.zero_le _)).sees (.cons (.refl _) (.cons (.imm 1) .nil))).mono ?_)
  rintro rr hh ⟨⟨ps, hps, rfl⟩, rfl⟩
  refine ⟨?_, ?_, ?_, ?_⟩
  iterate 3 (first | rfl | simp only [go_sem, reduceIte, Nat.reduceEqDiff, Nat.reduceBEq, reduceCtorEq, Nat.reduceLT, Nat.reduceLeDiff, Nat.reduceAdd, Nat.reduceSub, Nat.reduceMul, Nat.reduceDiv, Int.reduceAdd, Int.reduceNeg, Int.reduceEq, Int.reduceLT, Int.reduceLE])
  simp only [go_sem, reduceIte, Nat.reduceEqDiff, Nat.reduceBEq, reduceCtorEq, Nat.reduceLT, Nat.reduceLeDiff, Nat.reduceAdd, Nat.reduceSub, Nat.reduceMul, Nat.reduceDiv, Int.reduceAdd, Int.reduceNeg, Int.reduceEq, Int.reduceLT, Int.reduceLE]
  refine hKY _ ?_
  refine wlk_ret ?_
  simp only [go_sem, reduceIte, Nat.reduceEqDiff, Nat.reduceBEq, reduceCtorEq, Nat.reduceLT, Nat.reduceLeDiff, Nat.reduceAdd, Nat.reduceSub, Nat.reduceMul, Nat.reduceDiv, Int.reduceAdd, Int.reduceNeg, Int.reduceEq, Int.reduceLT, Int.reduceLE]
  exact ⟨⟨ps, hps, rfl⟩, rfl⟩
theorem odd_snoc (ps : List (List Nat)) (k : Nat) (p : List Nat) (h : ps[k]? = some p) : oddCount (ps.take (k + 1)) = oddCount (ps.take k) + p.length % 2 := by
  rw [List.take_add_one, h]; simp [oddCount]
theorem odd_le (ps : List (List Nat)) : oddCount ps ≤ ps.length := by
  induction ps with
  | nil => exact Nat.le_refl _
  | cons p ps ih => simp only [oddCount, List.map_cons, List.sum_cons, List.length_cons] at *; omega
theorem odd_ok {n : Nat} {es : Es} (g : GR n es) (out : List Int) (ho : out.length ≤ 1000000000) :
    ACalls Try.prog [] n_pieces_Odd [.agg [.sc (.int .i64 (n : Int)), .imm 2 (twos (castE es))], .imm 1 (ints out)] [] fun r h' => (∃ ps, IsPieces n es (fun v => (v : Int) ∈ out) ps ∧ r = .sc (.int .i64 (oddCount ps : Int))) ∧ h' = [] := by
  have hn := g.hn
  refine go_pieces_Odd rfl ?_
  unfold c_pieces_Odd v_pieces_Odd
  refine wlk_sreg fun KY hKY => ?_
  simp only [go_sem, reduceIte, Nat.reduceEqDiff, Nat.reduceBEq, reduceCtorEq, Nat.reduceLT, Nat.reduceLeDiff, Nat.reduceAdd, Nat.reduceSub, Nat.reduceMul, Nat.reduceDiv, Int.reduceAdd, Int.reduceNeg, Int.reduceEq, Int.reduceLT, Int.reduceLE, c_pieces_Odd_r0]
  refine hKY _ ?_
  refine wlk_sreg fun KY hKY => ?_
  simp only [go_sem, reduceIte, Nat.reduceEqDiff, Nat.reduceBEq, reduceCtorEq, Nat.reduceLT, Nat.reduceLeDiff, Nat.reduceAdd, Nat.reduceSub, Nat.reduceMul, Nat.reduceDiv, Int.reduceAdd, Int.reduceNeg, Int.reduceEq, Int.reduceLT, Int.reduceLE, c_pieces_Odd_r1]
  refine hKY _ ?_
  refine wlk_seq fun X1 hn1 he1 hr1 => ?_
  refine wlk_sreg fun KY hKY => ?_
  simp only [go_sem, reduceIte, Nat.reduceEqDiff, Nat.reduceBEq, reduceCtorEq, Nat.reduceLT, Nat.reduceLeDiff, Nat.reduceAdd, Nat.reduceSub, Nat.reduceMul, Nat.reduceDiv, Int.reduceAdd, Int.reduceNeg, Int.reduceEq, Int.reduceLT, Int.reduceLE, c_pieces_Odd_r2]
  refine call_view rfl (by simp only [go_sem, reduceIte, Nat.reduceEqDiff, Nat.reduceBEq, reduceCtorEq, Nat.reduceLT, Nat.reduceLeDiff, Nat.reduceAdd, Nat.reduceSub, Nat.reduceMul, Nat.reduceDiv, Int.reduceAdd, Int.reduceNeg, Int.reduceEq, Int.reduceLT, Int.reduceLE] <;> rfl) ((without_ok g out ho).mono ?_)
  rintro rr hh ⟨⟨ps, hps, rfl⟩, rfl⟩
  refine ⟨?_, ?_, ?_, ?_⟩
  iterate 3 (first | rfl | simp only [go_sem, reduceIte, Nat.reduceEqDiff, Nat.reduceBEq, reduceCtorEq, Nat.reduceLT, Nat.reduceLeDiff, Nat.reduceAdd, Nat.reduceSub, Nat.reduceMul, Nat.reduceDiv, Int.reduceAdd, Int.reduceNeg, Int.reduceEq, Int.reduceLT, Int.reduceLE])
  have hpl := pieces_len hps
  have hoc : ∀ k, oddCount (ps.take k) ≤ n := fun k => Nat.le_trans (odd_le _) (Nat.le_trans (List.length_take_le' _ _) hpl)
  simp only [go_sem, reduceIte, Nat.reduceEqDiff, Nat.reduceBEq, reduceCtorEq, Nat.reduceLT, Nat.reduceLeDiff, Nat.reduceAdd, Nat.reduceSub, Nat.reduceMul, Nat.reduceDiv, Int.reduceAdd, Int.reduceNeg, Int.reduceEq, Int.reduceLT, Int.reduceLE]
  refine hKY _ ?_
  simp only [go_sem, reduceIte, Nat.reduceEqDiff, Nat.reduceBEq, reduceCtorEq, Nat.reduceLT, Nat.reduceLeDiff, Nat.reduceAdd, Nat.reduceSub, Nat.reduceMul, Nat.reduceDiv, Int.reduceAdd, Int.reduceNeg, Int.reduceEq, Int.reduceLT, Int.reduceLE]
  refine sem_freeze [0, 10] (by simp only [go_sem, reduceIte, Nat.reduceEqDiff, Nat.reduceBEq, reduceCtorEq, Nat.reduceLT, Nat.reduceLeDiff, Nat.reduceAdd, Nat.reduceSub, Nat.reduceMul, Nat.reduceDiv, Int.reduceAdd, Int.reduceNeg, Int.reduceEq, Int.reduceLT, Int.reduceLE]; rfl) ?_
  simp only [go_sem, reduceIte, Nat.reduceEqDiff, Nat.reduceBEq, reduceCtorEq, Nat.reduceLT, Nat.reduceLeDiff, Nat.reduceAdd, Nat.reduceSub, Nat.reduceMul, Nat.reduceDiv, Int.reduceAdd, Int.reduceNeg, Int.reduceEq, Int.reduceLT, Int.reduceLE]
  refine wlk_blk fun X2 hn2 he2 hf2 hr2 => ?_
  try simp only [go_sem, reduceIte, Nat.reduceEqDiff, Nat.reduceBEq, reduceCtorEq, Nat.reduceLT, Nat.reduceLeDiff, Nat.reduceAdd, Nat.reduceSub, Nat.reduceMul, Nat.reduceDiv, Int.reduceAdd, Int.reduceNeg, Int.reduceEq, Int.reduceLT, Int.reduceLE]
  refine wlk_lp (α := Nat) [7, 13] (fun k => [(5, .sc (.int .i64 (oddCount (ps.take k) : Int))), (12, .sc (.int .i64 (k : Int)))]) (fun k => []) (fun k q => k ≤ ps.length ∧ q = ps.length - k) (0) (ps.length) rfl (by first | (simp only [go_sem, reduceIte, Nat.reduceEqDiff, Nat.reduceBEq, reduceCtorEq, Nat.reduceLT, Nat.reduceLeDiff, Nat.reduceAdd, Nat.reduceSub, Nat.reduceMul, Nat.reduceDiv, Int.reduceAdd, Int.reduceNeg, Int.reduceEq, Int.reduceLT, Int.reduceLE, updAll_cons, updAll_nil]; done) | rfl) (⟨by omega, rfl⟩) ?_
  rintro k q ⟨hk, rfl⟩ X3 hn3 he3 hr3
  simp only [go_sem, reduceIte, Nat.reduceEqDiff, Nat.reduceBEq, reduceCtorEq, Nat.reduceLT, Nat.reduceLeDiff, Nat.reduceAdd, Nat.reduceSub, Nat.reduceMul, Nat.reduceDiv, Int.reduceAdd, Int.reduceNeg, Int.reduceEq, Int.reduceLT, Int.reduceLE, updAll_cons, updAll_nil]
  refine wlk_sreg fun KY hKY => ?_
  simp only [go_sem, reduceIte, Nat.reduceEqDiff, Nat.reduceBEq, reduceCtorEq, Nat.reduceLT, Nat.reduceLeDiff, Nat.reduceAdd, Nat.reduceSub, Nat.reduceMul, Nat.reduceDiv, Int.reduceAdd, Int.reduceNeg, Int.reduceEq, Int.reduceLT, Int.reduceLE, c_pieces_Odd_r3]
  refine hKY _ ?_
  refine wlk_seq fun X4 hn4 he4 hr4 => ?_
  by_cases hk2 : k < ps.length
  · refine wlk_cond1 (by first | rfl | (simp only [go_sem, reduceIte, Nat.reduceEqDiff, Nat.reduceBEq, reduceCtorEq, Nat.reduceLT, Nat.reduceLeDiff, Nat.reduceAdd, Nat.reduceSub, Nat.reduceMul, Nat.reduceDiv, Int.reduceAdd, Int.reduceNeg, Int.reduceEq, Int.reduceLT, Int.reduceLE]; try simp (disch := omega) only [decide_eq_true, decide_eq_false])) ?_
    refine wlk_skip ?_
    repeat (first | refine hn4 _ ?_ | refine he4 _ _ ?_ | refine hr4 _ ?_ | refine he3 _ _ ?_ | refine hr3 _ ?_ | refine hn2 _ ?_ | refine he2 _ ?_ | refine hf2 _ _ (by decide) ?_ | refine hr2 _ ?_ | refine hn1 _ ?_ | refine he1 _ _ ?_ | refine hr1 _ ?_)
    refine wlk_seq fun X5 hn5 he5 hr5 => ?_
    refine wlk_blk fun X6 hn6 he6 hf6 hr6 => ?_
    have hx : ps[k]? = some (ps[k]) := List.getElem?_eq_getElem hk2
    have hy : (ps[k]).length ≤ n := piece_len hps (List.getElem_mem hk2)
    generalize ps[k] = p at hx hy
    have hst := odd_snoc ps k p hx
    have h1 := hoc k
    have hm : (p.length : Int).tmod 2 = ((p.length % 2 : Nat) : Int) := by
      rw [Int.tmod_eq_emod_of_nonneg (by omega)]; omega
    have ha : IntKind.i64.wrap ((oddCount (ps.take k) : Int) + ((p.length % 2 : Nat) : Int)) = (oddCount (ps.take (k + 1)) : Int) := by
      rw [IntWalk.i64_in _ (by omega), hst]; omega
    refine wlk_sreg fun KY hKY => ?_
    simp only [go_sem, reduceIte, Nat.reduceEqDiff, Nat.reduceBEq, reduceCtorEq, Nat.reduceLT, Nat.reduceLeDiff, Nat.reduceAdd, Nat.reduceSub, Nat.reduceMul, Nat.reduceDiv, Int.reduceAdd, Int.reduceNeg, Int.reduceEq, Int.reduceLT, Int.reduceLE, c_pieces_Odd_r4, rowsI_get hx, hk2]
    refine hKY _ ?_
    refine wlk_reg fun KY hKY => ?_
    simp only [go_sem, reduceIte, Nat.reduceEqDiff, Nat.reduceBEq, reduceCtorEq, Nat.reduceLT, Nat.reduceLeDiff, Nat.reduceAdd, Nat.reduceSub, Nat.reduceMul, Nat.reduceDiv, Int.reduceAdd, Int.reduceNeg, Int.reduceEq, Int.reduceLT, Int.reduceLE, c_pieces_Odd_r5, hm, ha]
    refine hKY _ ?_
    repeat (first | refine hn6 _ ?_ | refine he6 _ ?_ | refine hf6 _ _ (by decide) ?_ | refine hr6 _ ?_ | refine hn5 _ ?_ | refine he5 _ _ ?_ | refine hr5 _ ?_ | refine hn4 _ ?_ | refine he4 _ _ ?_ | refine hr4 _ ?_ | refine he3 _ _ ?_ | refine hr3 _ ?_ | refine hn2 _ ?_ | refine he2 _ ?_ | refine hf2 _ _ (by decide) ?_ | refine hr2 _ ?_ | refine hn1 _ ?_ | refine he1 _ _ ?_ | refine hr1 _ ?_)
    refine wlk_reg fun KY hKY => ?_
    simp only [go_sem, reduceIte, Nat.reduceEqDiff, Nat.reduceBEq, reduceCtorEq, Nat.reduceLT, Nat.reduceLeDiff, Nat.reduceAdd, Nat.reduceSub, Nat.reduceMul, Nat.reduceDiv, Int.reduceAdd, Int.reduceNeg, Int.reduceEq, Int.reduceLT, Int.reduceLE, c_pieces_Odd_r6, incS (show k < 4611686018427387904 by omega)]
    refine hKY _ ?_
    repeat (first | refine hn6 _ ?_ | refine he6 _ ?_ | refine hf6 _ _ (by decide) ?_ | refine hr6 _ ?_ | refine hn5 _ ?_ | refine he5 _ _ ?_ | refine hr5 _ ?_ | refine hn4 _ ?_ | refine he4 _ _ ?_ | refine hr4 _ ?_ | refine he3 _ _ ?_ | refine hr3 _ ?_ | refine hn2 _ ?_ | refine he2 _ ?_ | refine hf2 _ _ (by decide) ?_ | refine hr2 _ ?_ | refine hn1 _ ?_ | refine he1 _ _ ?_ | refine hr1 _ ?_)
    refine hn3 _ (k + 1) (ps.length - (k + 1)) (by omega) (by first | (simp only [go_sem, reduceIte, Nat.reduceEqDiff, Nat.reduceBEq, reduceCtorEq, Nat.reduceLT, Nat.reduceLeDiff, Nat.reduceAdd, Nat.reduceSub, Nat.reduceMul, Nat.reduceDiv, Int.reduceAdd, Int.reduceNeg, Int.reduceEq, Int.reduceLT, Int.reduceLE, updAll_cons, updAll_nil]; done) | rfl) ?_
    exact ⟨hk2, rfl⟩
  · refine wlk_cond0 (by first | rfl | (simp only [go_sem, reduceIte, Nat.reduceEqDiff, Nat.reduceBEq, reduceCtorEq, Nat.reduceLT, Nat.reduceLeDiff, Nat.reduceAdd, Nat.reduceSub, Nat.reduceMul, Nat.reduceDiv, Int.reduceAdd, Int.reduceNeg, Int.reduceEq, Int.reduceLT, Int.reduceLE]; try simp (disch := omega) only [decide_eq_true, decide_eq_false])) ?_
    refine wlk_exit ?_
    repeat (first | refine hn4 _ ?_ | refine he4 _ _ ?_ | refine hr4 _ ?_ | refine he3 _ _ ?_ | refine hr3 _ ?_ | refine hn2 _ ?_ | refine he2 _ ?_ | refine hf2 _ _ (by decide) ?_ | refine hr2 _ ?_ | refine hn1 _ ?_ | refine he1 _ _ ?_ | refine hr1 _ ?_)
    obtain rfl : k = ps.length := by omega
    rw [List.take_length]
    refine wlk_sreg fun KY hKY => ?_
    simp only [go_sem, reduceIte, Nat.reduceEqDiff, Nat.reduceBEq, reduceCtorEq, Nat.reduceLT, Nat.reduceLeDiff, Nat.reduceAdd, Nat.reduceSub, Nat.reduceMul, Nat.reduceDiv, Int.reduceAdd, Int.reduceNeg, Int.reduceEq, Int.reduceLT, Int.reduceLE, c_pieces_Odd_r7]
    refine hKY _ ?_
    refine wlk_ret ?_
    repeat (first | refine hn4 _ ?_ | refine he4 _ _ ?_ | refine hr4 _ ?_ | refine he3 _ _ ?_ | refine hr3 _ ?_ | refine hn2 _ ?_ | refine he2 _ ?_ | refine hf2 _ _ (by decide) ?_ | refine hr2 _ ?_ | refine hn1 _ ?_ | refine he1 _ _ ?_ | refine hr1 _ ?_)
    simp only [go_sem, reduceIte, Nat.reduceEqDiff, Nat.reduceBEq, reduceCtorEq, Nat.reduceLT, Nat.reduceLeDiff, Nat.reduceAdd, Nat.reduceSub, Nat.reduceMul, Nat.reduceDiv, Int.reduceAdd, Int.reduceNeg, Int.reduceEq, Int.reduceLT, Int.reduceLE]
    exact ⟨ps, hps, rfl⟩
end Go.Proofs.Ytmpbfdakdoicjaa
set_option maxRecDepth 100000
set_option maxHeartbeats 4000000
namespace Go.Proofs.Ytmpbfdakdoicjaa
open Go Go.Ga Go.Ga.Gl
theorem inc (k : Nat) (h : k ≤ 1000000000) : IntKind.i64.wrap ((k : Int) + 1) = ((k + 1 : Nat) : Int) := by rw [IntWalk.i64_in _ (by omega)]; omega
theorem nats_ints (xs : List Nat) : nats xs = ints (xs.map fun (n : Nat) => (n : Int)) := by simp [nats, ints]
theorem ints_at {xs : List Int} {k : Nat} {x : Int} (h : xs[k]? = some x) : (ints xs)[k]? = some (.sc (.int .i64 x)) := by simp [ints, h]
theorem eqi_ok (x y : Int) : ACalls Try.prog [] n_garlandhelp_Plain_int__1 [.sc (.int .i64 x), .sc (.int .i64 y)] [] fun r h' => r = .sc (.bool (decide (x = y))) ∧ h' = [] := by
  refine go_garlandhelp_Plain_int__1 rfl ?_
  unfold c_garlandhelp_Plain_int__1 v_garlandhelp_Plain_int__1
  refine wlk_sreg fun KY hKY => ?_
  simp only [go_sem, reduceIte, Nat.reduceEqDiff, Nat.reduceBEq, reduceCtorEq, Nat.reduceLT, Nat.reduceLeDiff, Nat.reduceAdd, Nat.reduceSub, Nat.reduceMul, Nat.reduceDiv, Int.reduceAdd, Int.reduceNeg, Int.reduceEq, Int.reduceLT, Int.reduceLE, c_garlandhelp_Plain_int__1_r0]
  refine hKY _ ?_
  refine wlk_sreg fun KY hKY => ?_
  simp only [go_sem, reduceIte, Nat.reduceEqDiff, Nat.reduceBEq, reduceCtorEq, Nat.reduceLT, Nat.reduceLeDiff, Nat.reduceAdd, Nat.reduceSub, Nat.reduceMul, Nat.reduceDiv, Int.reduceAdd, Int.reduceNeg, Int.reduceEq, Int.reduceLT, Int.reduceLE, c_garlandhelp_Plain_int__1_r1]
  refine hKY _ ?_
  refine wlk_ret ?_
  simp only [go_sem, reduceIte, Nat.reduceEqDiff, Nat.reduceBEq, reduceCtorEq, Nat.reduceLT, Nat.reduceLeDiff, Nat.reduceAdd, Nat.reduceSub, Nat.reduceMul, Nat.reduceDiv, Int.reduceAdd, Int.reduceNeg, Int.reduceEq, Int.reduceLT, Int.reduceLE]
theorem alike_snoc {α : Type} [DecidableEq α] {xs ys : List α} {k : Nat} {x y : α} (hx : xs[k]? = some x) (hy : ys[k]? = some y) (h : xs.take k = ys.take k) : xs.take (k + 1) = ys.take (k + 1) ↔ x = y := by
  rw [List.take_add_one, List.take_add_one, hx, hy, h]
  simp
theorem samei_ok (xs ys : List Int) (hb : xs.length ≤ 1000000000) : ACalls Try.prog [] n_garlandhelp_Same_int_ [.imm 1 (ints xs), .imm 1 (ints ys), .fn (.func n_garlandhelp_Plain_int__1) [] []] [] fun r h' => r = .sc (.bool (decide (xs = ys))) ∧ h' = [] := by
  refine go_garlandhelp_Same_int_ rfl ?_
  unfold c_garlandhelp_Same_int_ v_garlandhelp_Same_int_
  refine wlk_sreg fun KY hKY => ?_
  simp only [go_sem, reduceIte, Nat.reduceEqDiff, Nat.reduceBEq, reduceCtorEq, Nat.reduceLT, Nat.reduceLeDiff, Nat.reduceAdd, Nat.reduceSub, Nat.reduceMul, Nat.reduceDiv, Int.reduceAdd, Int.reduceNeg, Int.reduceEq, Int.reduceLT, Int.reduceLE, c_garlandhelp_Same_int__r0]
  refine hKY _ ?_
  refine wlk_seq fun X1 hn1 he1 hr1 => ?_
  refine wlk_sreg fun KY hKY => ?_
  simp only [go_sem, reduceIte, Nat.reduceEqDiff, Nat.reduceBEq, reduceCtorEq, Nat.reduceLT, Nat.reduceLeDiff, Nat.reduceAdd, Nat.reduceSub, Nat.reduceMul, Nat.reduceDiv, Int.reduceAdd, Int.reduceNeg, Int.reduceEq, Int.reduceLT, Int.reduceLE, c_garlandhelp_Same_int__r1, Nat.div_one, ints_len]
  refine hKY _ ?_
  simp only [go_sem, reduceIte, Nat.reduceEqDiff, Nat.reduceBEq, reduceCtorEq, Nat.reduceLT, Nat.reduceLeDiff, Nat.reduceAdd, Nat.reduceSub, Nat.reduceMul, Nat.reduceDiv, Int.reduceAdd, Int.reduceNeg, Int.reduceEq, Int.reduceLT, Int.reduceLE]
  by_cases hl : xs.length = ys.length
  case neg =>
    have hl' : decide (((xs.length : Nat) : Int) ≠ ((ys.length : Nat) : Int)) = true := decide_eq_true (by omega)
    refine wlk_cond1 (by simp only [go_sem, reduceIte, Nat.reduceEqDiff, Nat.reduceBEq, reduceCtorEq, Nat.reduceLT, Nat.reduceLeDiff, Nat.reduceAdd, Nat.reduceSub, Nat.reduceMul, Nat.reduceDiv, Int.reduceAdd, Int.reduceNeg, Int.reduceEq, Int.reduceLT, Int.reduceLE, hl']) ?_
    refine wlk_sreg fun KY hKY => ?_
    simp only [go_sem, reduceIte, Nat.reduceEqDiff, Nat.reduceBEq, reduceCtorEq, Nat.reduceLT, Nat.reduceLeDiff, Nat.reduceAdd, Nat.reduceSub, Nat.reduceMul, Nat.reduceDiv, Int.reduceAdd, Int.reduceNeg, Int.reduceEq, Int.reduceLT, Int.reduceLE, c_garlandhelp_Same_int__r2]
    refine hKY _ ?_
    refine wlk_ret (hr1 _ ?_)
    simp only [go_sem, reduceIte, Nat.reduceEqDiff, Nat.reduceBEq, reduceCtorEq, Nat.reduceLT, Nat.reduceLeDiff, Nat.reduceAdd, Nat.reduceSub, Nat.reduceMul, Nat.reduceDiv, Int.reduceAdd, Int.reduceNeg, Int.reduceEq, Int.reduceLT, Int.reduceLE]
    rw [decide_eq_false (fun e : xs = ys => hl (by rw [e]))]
  have hl' : decide (((xs.length : Nat) : Int) ≠ ((ys.length : Nat) : Int)) = false := decide_eq_false (by omega)
  refine wlk_cond0 (by simp only [go_sem, reduceIte, Nat.reduceEqDiff, Nat.reduceBEq, reduceCtorEq, Nat.reduceLT, Nat.reduceLeDiff, Nat.reduceAdd, Nat.reduceSub, Nat.reduceMul, Nat.reduceDiv, Int.reduceAdd, Int.reduceNeg, Int.reduceEq, Int.reduceLT, Int.reduceLE, hl']) (wlk_skip (hn1 _ ?_))
  refine wlk_seq fun X2 hn2 he2 hr2 => ?_
  refine wlk_sreg fun KY hKY => ?_
  simp only [go_sem, reduceIte, Nat.reduceEqDiff, Nat.reduceBEq, reduceCtorEq, Nat.reduceLT, Nat.reduceLeDiff, Nat.reduceAdd, Nat.reduceSub, Nat.reduceMul, Nat.reduceDiv, Int.reduceAdd, Int.reduceNeg, Int.reduceEq, Int.reduceLT, Int.reduceLE, c_garlandhelp_Same_int__r3]
  refine hKY _ ?_
  refine wlk_blk fun X3 hn3 he3 hf3 hr3 => ?_
  refine wlk_loop (fun m s => ∃ (k : Nat) (A16 A29 : AVal), k ≤ xs.length ∧ m = xs.length - k ∧ xs.take k = ys.take k ∧ s = { vs := [(0, .imm 1 (ints xs)), (1, .imm 1 (ints ys)), (2, .fn (.func n_garlandhelp_Plain_int__1) [] []), (6, .sc (.bool false)), (7, .sc (.int .i64 (k : Int))), (12, .sc (.bool (decide (((xs.length : Nat) : Int) ≠ ((ys.length : Nat) : Int))))), (16, A16), (29, A29)], ts := [], h := [] }) xs.length ⟨0, .dead, .dead, Nat.zero_le _, rfl, rfl, ?_⟩ ?_
  · rfl
  rintro m _ ⟨k, A16, A29, hk, rfl, hpre, rfl⟩ X4 hn4 he4 hr4
  refine sem_forget [16, 29] rfl ?_
  simp only [go_sem, reduceIte, Nat.reduceEqDiff, Nat.reduceBEq, reduceCtorEq, Nat.reduceLT, Nat.reduceLeDiff, Nat.reduceAdd, Nat.reduceSub, Nat.reduceMul, Nat.reduceDiv, Int.reduceAdd, Int.reduceNeg, Int.reduceEq, Int.reduceLT, Int.reduceLE]
  refine wlk_seq fun X5 hn5 he5 hr5 => ?_
  refine wlk_seq fun X6 hn6 he6 hr6 => ?_
  refine wlk_reg fun KY hKY => ?_
  simp only [go_sem, reduceIte, Nat.reduceEqDiff, Nat.reduceBEq, reduceCtorEq, Nat.reduceLT, Nat.reduceLeDiff, Nat.reduceAdd, Nat.reduceSub, Nat.reduceMul, Nat.reduceDiv, Int.reduceAdd, Int.reduceNeg, Int.reduceEq, Int.reduceLT, Int.reduceLE, c_garlandhelp_Same_int__r4, Nat.div_one, ints_len]
  refine hKY _ (hn6 _ ?_)
  simp only [go_sem, reduceIte, Nat.reduceEqDiff, Nat.reduceBEq, reduceCtorEq, Nat.reduceLT, Nat.reduceLeDiff, Nat.reduceAdd, Nat.reduceSub, Nat.reduceMul, Nat.reduceDiv, Int.reduceAdd, Int.reduceNeg, Int.reduceEq, Int.reduceLT, Int.reduceLE]
  refine wlk_cond (v := decide ((k : Int) < (xs.length : Int))) rfl (fun h => wlk_skip (hn5 _ ?_)) fun h => wlk_exit (he5 _ _ (he4 _ _ (he3 _ (hn2 _ ?_))))
  · have hlt : k < xs.length := by have := of_decide_eq_true h; omega
    have hlt2 : k < ys.length := by omega
    have hx : xs[k]? = some xs[k] := List.getElem?_eq_getElem hlt
    have hy : ys[k]? = some ys[k] := List.getElem?_eq_getElem hlt2
    have st := alike_snoc hx hy hpre
    refine wlk_seq fun X7 hn7 he7 hr7 => ?_
    refine wlk_blk fun X8 hn8 he8 hf8 hr8 => ?_
    refine wlk_sdraw fun KY hKY => ?_
    simp only [go_sem, reduceIte, Nat.reduceEqDiff, Nat.reduceBEq, reduceCtorEq, Nat.reduceLT, Nat.reduceLeDiff, Nat.reduceAdd, Nat.reduceSub, Nat.reduceMul, Nat.reduceDiv, Int.reduceAdd, Int.reduceNeg, Int.reduceEq, Int.reduceLT, Int.reduceLE, c_garlandhelp_Same_int__r5, ints_len, ints_at hx, ints_at hy, hlt, hlt2]
    refine call_view rfl (by simp only [go_sem, reduceIte, Nat.reduceEqDiff, Nat.reduceBEq, reduceCtorEq, Nat.reduceLT, Nat.reduceLeDiff, Nat.reduceAdd, Nat.reduceSub, Nat.reduceMul, Nat.reduceDiv, Int.reduceAdd, Int.reduceNeg, Int.reduceEq, Int.reduceLT, Int.reduceLE] <;> rfl) ((eqi_ok xs[k] ys[k]).mono ?_)
    rintro rr hh ⟨rfl, rfl⟩
    refine ⟨rfl, rfl, rfl, ?_⟩
    simp only [go_sem, reduceIte, Nat.reduceEqDiff, Nat.reduceBEq, reduceCtorEq, Nat.reduceLT, Nat.reduceLeDiff, Nat.reduceAdd, Nat.reduceSub, Nat.reduceMul, Nat.reduceDiv, Int.reduceAdd, Int.reduceNeg, Int.reduceEq, Int.reduceLT, Int.reduceLE]
    refine hKY _ ?_
    simp only [go_sem, reduceIte, Nat.reduceEqDiff, Nat.reduceBEq, reduceCtorEq, Nat.reduceLT, Nat.reduceLeDiff, Nat.reduceAdd, Nat.reduceSub, Nat.reduceMul, Nat.reduceDiv, Int.reduceAdd, Int.reduceNeg, Int.reduceEq, Int.reduceLT, Int.reduceLE]
    by_cases e : xs[k] = ys[k]
    · refine wlk_cond0 (by simp only [go_sem, reduceIte, Nat.reduceEqDiff, Nat.reduceBEq, reduceCtorEq, Nat.reduceLT, Nat.reduceLeDiff, Nat.reduceAdd, Nat.reduceSub, Nat.reduceMul, Nat.reduceDiv, Int.reduceAdd, Int.reduceNeg, Int.reduceEq, Int.reduceLT, Int.reduceLE, decide_eq_true e]) (wlk_skip (hn8 _ (hn7 _ ?_)))
      refine wlk_reg fun KY hKY => ?_
      simp only [go_sem, reduceIte, Nat.reduceEqDiff, Nat.reduceBEq, reduceCtorEq, Nat.reduceLT, Nat.reduceLeDiff, Nat.reduceAdd, Nat.reduceSub, Nat.reduceMul, Nat.reduceDiv, Int.reduceAdd, Int.reduceNeg, Int.reduceEq, Int.reduceLT, Int.reduceLE, c_garlandhelp_Same_int__r7, inc k (by omega)]
      refine hKY _ (hn4 (xs.length - (k + 1)) _ (by omega) ?_)
      simp only [go_sem, reduceIte, Nat.reduceEqDiff, Nat.reduceBEq, reduceCtorEq, Nat.reduceLT, Nat.reduceLeDiff, Nat.reduceAdd, Nat.reduceSub, Nat.reduceMul, Nat.reduceDiv, Int.reduceAdd, Int.reduceNeg, Int.reduceEq, Int.reduceLT, Int.reduceLE]
      exact ⟨k + 1, _, _, hlt, rfl, st.2 e, rfl⟩
    · refine wlk_cond1 (by simp only [go_sem, reduceIte, Nat.reduceEqDiff, Nat.reduceBEq, reduceCtorEq, Nat.reduceLT, Nat.reduceLeDiff, Nat.reduceAdd, Nat.reduceSub, Nat.reduceMul, Nat.reduceDiv, Int.reduceAdd, Int.reduceNeg, Int.reduceEq, Int.reduceLT, Int.reduceLE, decide_eq_false e]) ?_
      refine wlk_sreg fun KY hKY => ?_
      simp only [go_sem, reduceIte, Nat.reduceEqDiff, Nat.reduceBEq, reduceCtorEq, Nat.reduceLT, Nat.reduceLeDiff, Nat.reduceAdd, Nat.reduceSub, Nat.reduceMul, Nat.reduceDiv, Int.reduceAdd, Int.reduceNeg, Int.reduceEq, Int.reduceLT, Int.reduceLE, c_garlandhelp_Same_int__r6]
      refine hKY _ ?_
      refine wlk_ret (hr8 _ (hr7 _ (hr4 _ (hr3 _ (hr2 _ ?_)))))
      simp only [go_sem, reduceIte, Nat.reduceEqDiff, Nat.reduceBEq, reduceCtorEq, Nat.reduceLT, Nat.reduceLeDiff, Nat.reduceAdd, Nat.reduceSub, Nat.reduceMul, Nat.reduceDiv, Int.reduceAdd, Int.reduceNeg, Int.reduceEq, Int.reduceLT, Int.reduceLE]
      rw [decide_eq_false (fun e' : xs = ys => e (by subst e'; rfl))]
  · have hkn : k = xs.length := by have := of_decide_eq_false h; omega
    refine wlk_sreg fun KY hKY => ?_
    simp only [go_sem, reduceIte, Nat.reduceEqDiff, Nat.reduceBEq, reduceCtorEq, Nat.reduceLT, Nat.reduceLeDiff, Nat.reduceAdd, Nat.reduceSub, Nat.reduceMul, Nat.reduceDiv, Int.reduceAdd, Int.reduceNeg, Int.reduceEq, Int.reduceLT, Int.reduceLE, c_garlandhelp_Same_int__r8]
    refine hKY _ ?_
    refine wlk_ret ?_
    simp only [go_sem, reduceIte, Nat.reduceEqDiff, Nat.reduceBEq, reduceCtorEq, Nat.reduceLT, Nat.reduceLeDiff, Nat.reduceAdd, Nat.reduceSub, Nat.reduceMul, Nat.reduceDiv, Int.reduceAdd, Int.reduceNeg, Int.reduceEq, Int.reduceLT, Int.reduceLE]
    rw [hkn, List.take_length, hl, List.take_length] at hpre
    rw [decide_eq_true hpre]
theorem plaini_ok (xs ys : List Int) (hb : xs.length ≤ 1000000000) : ACalls Try.prog [] n_garlandhelp_Plain_int_ [.imm 1 (ints xs), .imm 1 (ints ys)] [] fun r h' => r = .sc (.bool (decide (xs = ys))) ∧ h' = [] := by
  refine go_garlandhelp_Plain_int_ rfl ?_
  unfold c_garlandhelp_Plain_int_ v_garlandhelp_Plain_int_
  refine wlk_sreg fun KY hKY => ?_
  simp only [go_sem, reduceIte, Nat.reduceEqDiff, Nat.reduceBEq, reduceCtorEq, Nat.reduceLT, Nat.reduceLeDiff, Nat.reduceAdd, Nat.reduceSub, Nat.reduceMul, Nat.reduceDiv, Int.reduceAdd, Int.reduceNeg, Int.reduceEq, Int.reduceLT, Int.reduceLE, c_garlandhelp_Plain_int__r0]
  refine hKY _ ?_
  refine wlk_sreg fun KY hKY => ?_
  simp only [go_sem, reduceIte, Nat.reduceEqDiff, Nat.reduceBEq, reduceCtorEq, Nat.reduceLT, Nat.reduceLeDiff, Nat.reduceAdd, Nat.reduceSub, Nat.reduceMul, Nat.reduceDiv, Int.reduceAdd, Int.reduceNeg, Int.reduceEq, Int.reduceLT, Int.reduceLE, c_garlandhelp_Plain_int__r1]
  refine call_view rfl (by simp only [go_sem, reduceIte, Nat.reduceEqDiff, Nat.reduceBEq, reduceCtorEq, Nat.reduceLT, Nat.reduceLeDiff, Nat.reduceAdd, Nat.reduceSub, Nat.reduceMul, Nat.reduceDiv, Int.reduceAdd, Int.reduceNeg, Int.reduceEq, Int.reduceLT, Int.reduceLE] <;> rfl) ((samei_ok xs ys hb).mono ?_)
  rintro rr hh ⟨rfl, rfl⟩
  refine ⟨rfl, rfl, rfl, ?_⟩
  simp only [go_sem, reduceIte, Nat.reduceEqDiff, Nat.reduceBEq, reduceCtorEq, Nat.reduceLT, Nat.reduceLeDiff, Nat.reduceAdd, Nat.reduceSub, Nat.reduceMul, Nat.reduceDiv, Int.reduceAdd, Int.reduceNeg, Int.reduceEq, Int.reduceLT, Int.reduceLE]
  refine hKY _ ?_
  refine wlk_ret ?_
  simp only [go_sem, reduceIte, Nat.reduceEqDiff, Nat.reduceBEq, reduceCtorEq, Nat.reduceLT, Nat.reduceLeDiff, Nat.reduceAdd, Nat.reduceSub, Nat.reduceMul, Nat.reduceDiv, Int.reduceAdd, Int.reduceNeg, Int.reduceEq, Int.reduceLT, Int.reduceLE]
theorem plainn_ok (xs ys : List Nat) (hb : xs.length ≤ 1000000000) : ACalls Try.prog [] n_garlandhelp_Plain_int_ [.imm 1 (nats xs), .imm 1 (nats ys)] [] fun r h' => r = .sc (.bool (decide (xs = ys))) ∧ h' = [] := by
  rw [nats_ints, nats_ints]
  refine (plaini_ok _ _ (by simpa using hb)).mono fun r h' ⟨h1, h2⟩ => ⟨?_, h2⟩
  rw [h1]
  congr 2
  rw [decide_eq_decide]
  refine ⟨fun h => ?_, fun h => by rw [h]⟩
  exact List.map_inj_right (fun a b hab => by omega) |>.1 h
theorem samer_ok (xs ys : List (List Nat)) (hb : xs.length ≤ 1000000000) (hr : ∀ x ∈ xs, x.length ≤ 1000000000) : ACalls Try.prog [] n_garlandhelp_Same___int_ [.imm 1 (rowsI xs), .imm 1 (rowsI ys), .fn (.func n_garlandhelp_Plain_int_) [] []] [] fun r h' => r = .sc (.bool (decide (xs = ys))) ∧ h' = [] := by
  refine go_garlandhelp_Same___int_ rfl ?_
  unfold c_garlandhelp_Same___int_ v_garlandhelp_Same___int_
  refine wlk_sreg fun KY hKY => ?_
  simp only [go_sem, reduceIte, Nat.reduceEqDiff, Nat.reduceBEq, reduceCtorEq, Nat.reduceLT, Nat.reduceLeDiff, Nat.reduceAdd, Nat.reduceSub, Nat.reduceMul, Nat.reduceDiv, Int.reduceAdd, Int.reduceNeg, Int.reduceEq, Int.reduceLT, Int.reduceLE, c_garlandhelp_Same___int__r0]
  refine hKY _ ?_
  refine wlk_seq fun X1 hn1 he1 hr1 => ?_
  refine wlk_sreg fun KY hKY => ?_
  simp only [go_sem, reduceIte, Nat.reduceEqDiff, Nat.reduceBEq, reduceCtorEq, Nat.reduceLT, Nat.reduceLeDiff, Nat.reduceAdd, Nat.reduceSub, Nat.reduceMul, Nat.reduceDiv, Int.reduceAdd, Int.reduceNeg, Int.reduceEq, Int.reduceLT, Int.reduceLE, c_garlandhelp_Same___int__r1, Nat.div_one, rowsI_len]
  refine hKY _ ?_
  simp only [go_sem, reduceIte, Nat.reduceEqDiff, Nat.reduceBEq, reduceCtorEq, Nat.reduceLT, Nat.reduceLeDiff, Nat.reduceAdd, Nat.reduceSub, Nat.reduceMul, Nat.reduceDiv, Int.reduceAdd, Int.reduceNeg, Int.reduceEq, Int.reduceLT, Int.reduceLE]
  by_cases hl : xs.length = ys.length
  case neg =>
    have hl' : decide (((xs.length : Nat) : Int) ≠ ((ys.length : Nat) : Int)) = true := decide_eq_true (by omega)
    refine wlk_cond1 (by simp only [go_sem, reduceIte, Nat.reduceEqDiff, Nat.reduceBEq, reduceCtorEq, Nat.reduceLT, Nat.reduceLeDiff, Nat.reduceAdd, Nat.reduceSub, Nat.reduceMul, Nat.reduceDiv, Int.reduceAdd, Int.reduceNeg, Int.reduceEq, Int.reduceLT, Int.reduceLE, hl']) ?_
    refine wlk_sreg fun KY hKY => ?_
    simp only [go_sem, reduceIte, Nat.reduceEqDiff, Nat.reduceBEq, reduceCtorEq, Nat.reduceLT, Nat.reduceLeDiff, Nat.reduceAdd, Nat.reduceSub, Nat.reduceMul, Nat.reduceDiv, Int.reduceAdd, Int.reduceNeg, Int.reduceEq, Int.reduceLT, Int.reduceLE, c_garlandhelp_Same___int__r2]
    refine hKY _ ?_
    refine wlk_ret (hr1 _ ?_)
    simp only [go_sem, reduceIte, Nat.reduceEqDiff, Nat.reduceBEq, reduceCtorEq, Nat.reduceLT, Nat.reduceLeDiff, Nat.reduceAdd, Nat.reduceSub, Nat.reduceMul, Nat.reduceDiv, Int.reduceAdd, Int.reduceNeg, Int.reduceEq, Int.reduceLT, Int.reduceLE]
    rw [decide_eq_false (fun e : xs = ys => hl (by rw [e]))]
  have hl' : decide (((xs.length : Nat) : Int) ≠ ((ys.length : Nat) : Int)) = false := decide_eq_false (by omega)
  refine wlk_cond0 (by simp only [go_sem, reduceIte, Nat.reduceEqDiff, Nat.reduceBEq, reduceCtorEq, Nat.reduceLT, Nat.reduceLeDiff, Nat.reduceAdd, Nat.reduceSub, Nat.reduceMul, Nat.reduceDiv, Int.reduceAdd, Int.reduceNeg, Int.reduceEq, Int.reduceLT, Int.reduceLE, hl']) (wlk_skip (hn1 _ ?_))
  refine wlk_seq fun X2 hn2 he2 hr2 => ?_
  refine wlk_sreg fun KY hKY => ?_
  simp only [go_sem, reduceIte, Nat.reduceEqDiff, Nat.reduceBEq, reduceCtorEq, Nat.reduceLT, Nat.reduceLeDiff, Nat.reduceAdd, Nat.reduceSub, Nat.reduceMul, Nat.reduceDiv, Int.reduceAdd, Int.reduceNeg, Int.reduceEq, Int.reduceLT, Int.reduceLE, c_garlandhelp_Same___int__r3]
  refine hKY _ ?_
  refine wlk_blk fun X3 hn3 he3 hf3 hr3 => ?_
  refine wlk_loop (fun m s => ∃ (k : Nat) (A16 A29 : AVal), k ≤ xs.length ∧ m = xs.length - k ∧ xs.take k = ys.take k ∧ s = { vs := [(0, .imm 1 (rowsI xs)), (1, .imm 1 (rowsI ys)), (2, .fn (.func n_garlandhelp_Plain_int_) [] []), (6, .sc (.bool false)), (7, .sc (.int .i64 (k : Int))), (12, .sc (.bool (decide (((xs.length : Nat) : Int) ≠ ((ys.length : Nat) : Int))))), (16, A16), (29, A29)], ts := [], h := [] }) xs.length ⟨0, .dead, .dead, Nat.zero_le _, rfl, rfl, ?_⟩ ?_
  · rfl
  rintro m _ ⟨k, A16, A29, hk, rfl, hpre, rfl⟩ X4 hn4 he4 hr4
  refine sem_forget [16, 29] rfl ?_
  simp only [go_sem, reduceIte, Nat.reduceEqDiff, Nat.reduceBEq, reduceCtorEq, Nat.reduceLT, Nat.reduceLeDiff, Nat.reduceAdd, Nat.reduceSub, Nat.reduceMul, Nat.reduceDiv, Int.reduceAdd, Int.reduceNeg, Int.reduceEq, Int.reduceLT, Int.reduceLE]
  refine wlk_seq fun X5 hn5 he5 hr5 => ?_
  refine wlk_seq fun X6 hn6 he6 hr6 => ?_
  refine wlk_reg fun KY hKY => ?_
  simp only [go_sem, reduceIte, Nat.reduceEqDiff, Nat.reduceBEq, reduceCtorEq, Nat.reduceLT, Nat.reduceLeDiff, Nat.reduceAdd, Nat.reduceSub, Nat.reduceMul, Nat.reduceDiv, Int.reduceAdd, Int.reduceNeg, Int.reduceEq, Int.reduceLT, Int.reduceLE, c_garlandhelp_Same___int__r4, Nat.div_one, rowsI_len]
  refine hKY _ (hn6 _ ?_)
  simp only [go_sem, reduceIte, Nat.reduceEqDiff, Nat.reduceBEq, reduceCtorEq, Nat.reduceLT, Nat.reduceLeDiff, Nat.reduceAdd, Nat.reduceSub, Nat.reduceMul, Nat.reduceDiv, Int.reduceAdd, Int.reduceNeg, Int.reduceEq, Int.reduceLT, Int.reduceLE]
  refine wlk_cond (v := decide ((k : Int) < (xs.length : Int))) rfl (fun h => wlk_skip (hn5 _ ?_)) fun h => wlk_exit (he5 _ _ (he4 _ _ (he3 _ (hn2 _ ?_))))
  · have hlt : k < xs.length := by have := of_decide_eq_true h; omega
    have hlt2 : k < ys.length := by omega
    have hx : xs[k]? = some xs[k] := List.getElem?_eq_getElem hlt
    have hy : ys[k]? = some ys[k] := List.getElem?_eq_getElem hlt2
    have st := alike_snoc hx hy hpre
    refine wlk_seq fun X7 hn7 he7 hr7 => ?_
    refine wlk_blk fun X8 hn8 he8 hf8 hr8 => ?_
    refine wlk_sdraw fun KY hKY => ?_
    simp only [go_sem, reduceIte, Nat.reduceEqDiff, Nat.reduceBEq, reduceCtorEq, Nat.reduceLT, Nat.reduceLeDiff, Nat.reduceAdd, Nat.reduceSub, Nat.reduceMul, Nat.reduceDiv, Int.reduceAdd, Int.reduceNeg, Int.reduceEq, Int.reduceLT, Int.reduceLE, c_garlandhelp_Same___int__r5, rowsI_len, rowsI_get hx, rowsI_get hy, hlt, hlt2]
    refine call_view rfl (by simp only [go_sem, reduceIte, Nat.reduceEqDiff, Nat.reduceBEq, reduceCtorEq, Nat.reduceLT, Nat.reduceLeDiff, Nat.reduceAdd, Nat.reduceSub, Nat.reduceMul, Nat.reduceDiv, Int.reduceAdd, Int.reduceNeg, Int.reduceEq, Int.reduceLT, Int.reduceLE] <;> rfl) ((plainn_ok xs[k] ys[k] (hr _ (List.getElem_mem hlt))).mono ?_)
    rintro rr hh ⟨rfl, rfl⟩
    refine ⟨rfl, rfl, rfl, ?_⟩
    simp only [go_sem, reduceIte, Nat.reduceEqDiff, Nat.reduceBEq, reduceCtorEq, Nat.reduceLT, Nat.reduceLeDiff, Nat.reduceAdd, Nat.reduceSub, Nat.reduceMul, Nat.reduceDiv, Int.reduceAdd, Int.reduceNeg, Int.reduceEq, Int.reduceLT, Int.reduceLE]
    refine hKY _ ?_
    simp only [go_sem, reduceIte, Nat.reduceEqDiff, Nat.reduceBEq, reduceCtorEq, Nat.reduceLT, Nat.reduceLeDiff, Nat.reduceAdd, Nat.reduceSub, Nat.reduceMul, Nat.reduceDiv, Int.reduceAdd, Int.reduceNeg, Int.reduceEq, Int.reduceLT, Int.reduceLE]
    by_cases e : xs[k] = ys[k]
    · refine wlk_cond0 (by simp only [go_sem, reduceIte, Nat.reduceEqDiff, Nat.reduceBEq, reduceCtorEq, Nat.reduceLT, Nat.reduceLeDiff, Nat.reduceAdd, Nat.reduceSub, Nat.reduceMul, Nat.reduceDiv, Int.reduceAdd, Int.reduceNeg, Int.reduceEq, Int.reduceLT, Int.reduceLE, decide_eq_true e]) (wlk_skip (hn8 _ (hn7 _ ?_)))
      refine wlk_reg fun KY hKY => ?_
      simp only [go_sem, reduceIte, Nat.reduceEqDiff, Nat.reduceBEq, reduceCtorEq, Nat.reduceLT, Nat.reduceLeDiff, Nat.reduceAdd, Nat.reduceSub, Nat.reduceMul, Nat.reduceDiv, Int.reduceAdd, Int.reduceNeg, Int.reduceEq, Int.reduceLT, Int.reduceLE, c_garlandhelp_Same___int__r7, inc k (by omega)]
      refine hKY _ (hn4 (xs.length - (k + 1)) _ (by omega) ?_)
      simp only [go_sem, reduceIte, Nat.reduceEqDiff, Nat.reduceBEq, reduceCtorEq, Nat.reduceLT, Nat.reduceLeDiff, Nat.reduceAdd, Nat.reduceSub, Nat.reduceMul, Nat.reduceDiv, Int.reduceAdd, Int.reduceNeg, Int.reduceEq, Int.reduceLT, Int.reduceLE]
      exact ⟨k + 1, _, _, hlt, rfl, st.2 e, rfl⟩
    · refine wlk_cond1 (by simp only [go_sem, reduceIte, Nat.reduceEqDiff, Nat.reduceBEq, reduceCtorEq, Nat.reduceLT, Nat.reduceLeDiff, Nat.reduceAdd, Nat.reduceSub, Nat.reduceMul, Nat.reduceDiv, Int.reduceAdd, Int.reduceNeg, Int.reduceEq, Int.reduceLT, Int.reduceLE, decide_eq_false e]) ?_
      refine wlk_sreg fun KY hKY => ?_
      simp only [go_sem, reduceIte, Nat.reduceEqDiff, Nat.reduceBEq, reduceCtorEq, Nat.reduceLT, Nat.reduceLeDiff, Nat.reduceAdd, Nat.reduceSub, Nat.reduceMul, Nat.reduceDiv, Int.reduceAdd, Int.reduceNeg, Int.reduceEq, Int.reduceLT, Int.reduceLE, c_garlandhelp_Same___int__r6]
      refine hKY _ ?_
      refine wlk_ret (hr8 _ (hr7 _ (hr4 _ (hr3 _ (hr2 _ ?_)))))
      simp only [go_sem, reduceIte, Nat.reduceEqDiff, Nat.reduceBEq, reduceCtorEq, Nat.reduceLT, Nat.reduceLeDiff, Nat.reduceAdd, Nat.reduceSub, Nat.reduceMul, Nat.reduceDiv, Int.reduceAdd, Int.reduceNeg, Int.reduceEq, Int.reduceLT, Int.reduceLE]
      rw [decide_eq_false (fun e' : xs = ys => e (by subst e'; rfl))]
  · have hkn : k = xs.length := by have := of_decide_eq_false h; omega
    refine wlk_sreg fun KY hKY => ?_
    simp only [go_sem, reduceIte, Nat.reduceEqDiff, Nat.reduceBEq, reduceCtorEq, Nat.reduceLT, Nat.reduceLeDiff, Nat.reduceAdd, Nat.reduceSub, Nat.reduceMul, Nat.reduceDiv, Int.reduceAdd, Int.reduceNeg, Int.reduceEq, Int.reduceLT, Int.reduceLE, c_garlandhelp_Same___int__r8]
    refine hKY _ ?_
    refine wlk_ret ?_
    simp only [go_sem, reduceIte, Nat.reduceEqDiff, Nat.reduceBEq, reduceCtorEq, Nat.reduceLT, Nat.reduceLeDiff, Nat.reduceAdd, Nat.reduceSub, Nat.reduceMul, Nat.reduceDiv, Int.reduceAdd, Int.reduceNeg, Int.reduceEq, Int.reduceLT, Int.reduceLE]
    rw [hkn, List.take_length, hl, List.take_length] at hpre
    rw [decide_eq_true hpre]
theorem hlists_ok (xs ys : List (List Nat)) (hb : xs.length ≤ 1000000000) (hr : ∀ x ∈ xs, x.length ≤ 1000000000) : ACalls Try.prog [] n_garlandhelp_Lists [.imm 1 (rowsI xs), .imm 1 (rowsI ys)] [] fun r h' => r = .sc (.bool (decide (xs = ys))) ∧ h' = [] := by
  refine go_garlandhelp_Lists rfl ?_
  unfold c_garlandhelp_Lists v_garlandhelp_Lists
  refine wlk_sreg fun KY hKY => ?_
  simp only [go_sem, reduceIte, Nat.reduceEqDiff, Nat.reduceBEq, reduceCtorEq, Nat.reduceLT, Nat.reduceLeDiff, Nat.reduceAdd, Nat.reduceSub, Nat.reduceMul, Nat.reduceDiv, Int.reduceAdd, Int.reduceNeg, Int.reduceEq, Int.reduceLT, Int.reduceLE, c_garlandhelp_Lists_r0]
  refine hKY _ ?_
  refine wlk_sreg fun KY hKY => ?_
  simp only [go_sem, reduceIte, Nat.reduceEqDiff, Nat.reduceBEq, reduceCtorEq, Nat.reduceLT, Nat.reduceLeDiff, Nat.reduceAdd, Nat.reduceSub, Nat.reduceMul, Nat.reduceDiv, Int.reduceAdd, Int.reduceNeg, Int.reduceEq, Int.reduceLT, Int.reduceLE, c_garlandhelp_Lists_r1]
  refine call_view rfl (by simp only [go_sem, reduceIte, Nat.reduceEqDiff, Nat.reduceBEq, reduceCtorEq, Nat.reduceLT, Nat.reduceLeDiff, Nat.reduceAdd, Nat.reduceSub, Nat.reduceMul, Nat.reduceDiv, Int.reduceAdd, Int.reduceNeg, Int.reduceEq, Int.reduceLT, Int.reduceLE] <;> rfl) ((samer_ok xs ys hb hr).mono ?_)
  rintro rr hh ⟨rfl, rfl⟩
  refine ⟨rfl, rfl, rfl, ?_⟩
  simp only [go_sem, reduceIte, Nat.reduceEqDiff, Nat.reduceBEq, reduceCtorEq, Nat.reduceLT, Nat.reduceLeDiff, Nat.reduceAdd, Nat.reduceSub, Nat.reduceMul, Nat.reduceDiv, Int.reduceAdd, Int.reduceNeg, Int.reduceEq, Int.reduceLT, Int.reduceLE]
  refine hKY _ ?_
  refine wlk_ret ?_
  simp only [go_sem, reduceIte, Nat.reduceEqDiff, Nat.reduceBEq, reduceCtorEq, Nat.reduceLT, Nat.reduceLeDiff, Nat.reduceAdd, Nat.reduceSub, Nat.reduceMul, Nat.reduceDiv, Int.reduceAdd, Int.reduceNeg, Int.reduceEq, Int.reduceLT, Int.reduceLE]
end Go.Proofs.Ytmpbfdakdoicjaa
set_option maxRecDepth 100000
set_option maxHeartbeats 4000000
namespace Go.Proofs.Ytmpbfdakdoicjaa
open Go Go.Ga Go.Ga.Gl
theorem index_ok (xs : List Int) (v : Int) (hb : xs.length ≤ 1000000000) : ACalls Try.prog [] n_slices_Index___int_int_ [.imm 1 (ints xs), .sc (.int .i64 v)] [] fun r h' => (∃ k : Int, r = .sc (.int .i64 k) ∧ (0 ≤ k ↔ ∃ x ∈ xs, v = x)) ∧ h' = [] := by
  refine go_slices_Index___int_int_ rfl ?_
  unfold c_slices_Index___int_int_ v_slices_Index___int_int_
  refine wlk_sreg fun KY hKY => ?_
  simp only [go_sem, reduceIte, Nat.reduceEqDiff, Nat.reduceBEq, reduceCtorEq, Nat.reduceLT, Nat.reduceLeDiff, Nat.reduceAdd, Nat.reduceSub, Nat.reduceMul, Nat.reduceDiv, Int.reduceAdd, Int.reduceNeg, Int.reduceEq, Int.reduceLT, Int.reduceLE, c_slices_Index___int_int__r0]
  refine hKY _ ?_
  refine wlk_seq fun X1 hn1 he1 hr1 => ?_
  refine wlk_sreg fun KY hKY => ?_
  simp only [go_sem, reduceIte, Nat.reduceEqDiff, Nat.reduceBEq, reduceCtorEq, Nat.reduceLT, Nat.reduceLeDiff, Nat.reduceAdd, Nat.reduceSub, Nat.reduceMul, Nat.reduceDiv, Int.reduceAdd, Int.reduceNeg, Int.reduceEq, Int.reduceLT, Int.reduceLE, c_slices_Index___int_int__r1, ints_len]
  refine hKY _ ?_
  refine wlk_blk fun X2 hn2 he2 hf2 hr2 => ?_
  try simp only [go_sem, reduceIte, Nat.reduceEqDiff, Nat.reduceBEq, reduceCtorEq, Nat.reduceLT, Nat.reduceLeDiff, Nat.reduceAdd, Nat.reduceSub, Nat.reduceMul, Nat.reduceDiv, Int.reduceAdd, Int.reduceNeg, Int.reduceEq, Int.reduceLT, Int.reduceLE]
  refine wlk_lp (α := Nat) [5, 9, 16] (fun k => [(8, .sc (.int .i64 (k : Int)))]) (fun k => []) (fun k q => k ≤ xs.length ∧ q = xs.length - k ∧ ∀ j x, j < k → xs[j]? = some x → ¬ v = x) (0) (xs.length) rfl (by first | (simp only [go_sem, reduceIte, Nat.reduceEqDiff, Nat.reduceBEq, reduceCtorEq, Nat.reduceLT, Nat.reduceLeDiff, Nat.reduceAdd, Nat.reduceSub, Nat.reduceMul, Nat.reduceDiv, Int.reduceAdd, Int.reduceNeg, Int.reduceEq, Int.reduceLT, Int.reduceLE, updAll_cons, updAll_nil]; done) | rfl) (⟨by omega, rfl, fun j x h => by omega⟩) ?_
  rintro k q ⟨hk, rfl, hz⟩ X3 hn3 he3 hr3
  simp only [go_sem, reduceIte, Nat.reduceEqDiff, Nat.reduceBEq, reduceCtorEq, Nat.reduceLT, Nat.reduceLeDiff, Nat.reduceAdd, Nat.reduceSub, Nat.reduceMul, Nat.reduceDiv, Int.reduceAdd, Int.reduceNeg, Int.reduceEq, Int.reduceLT, Int.reduceLE, updAll_cons, updAll_nil]
  refine wlk_sreg fun KY hKY => ?_
  simp only [go_sem, reduceIte, Nat.reduceEqDiff, Nat.reduceBEq, reduceCtorEq, Nat.reduceLT, Nat.reduceLeDiff, Nat.reduceAdd, Nat.reduceSub, Nat.reduceMul, Nat.reduceDiv, Int.reduceAdd, Int.reduceNeg, Int.reduceEq, Int.reduceLT, Int.reduceLE, c_slices_Index___int_int__r2]
  refine hKY _ ?_
  refine wlk_seq fun X4 hn4 he4 hr4 => ?_
  by_cases hk2 : k < xs.length
  · refine wlk_cond1 (by first | rfl | (simp only [go_sem, reduceIte, Nat.reduceEqDiff, Nat.reduceBEq, reduceCtorEq, Nat.reduceLT, Nat.reduceLeDiff, Nat.reduceAdd, Nat.reduceSub, Nat.reduceMul, Nat.reduceDiv, Int.reduceAdd, Int.reduceNeg, Int.reduceEq, Int.reduceLT, Int.reduceLE]; try simp (disch := omega) only [decide_eq_true, decide_eq_false])) ?_
    refine wlk_skip ?_
    repeat (first | refine hn4 _ ?_ | refine he4 _ _ ?_ | refine hr4 _ ?_ | refine he3 _ _ ?_ | refine hr3 _ ?_ | refine hn2 _ ?_ | refine he2 _ ?_ | refine hf2 _ _ (by decide) ?_ | refine hr2 _ ?_ | refine hn1 _ ?_ | refine he1 _ _ ?_ | refine hr1 _ ?_)
    refine wlk_seq fun X5 hn5 he5 hr5 => ?_
    refine wlk_blk fun X6 hn6 he6 hf6 hr6 => ?_
    have hx : xs[k]? = some xs[k] := List.getElem?_eq_getElem hk2
    have hmem : xs[k] ∈ xs := List.getElem_mem hk2
    generalize xs[k] = x at hx hmem
    refine wlk_sreg fun KY hKY => ?_
    simp only [go_sem, reduceIte, Nat.reduceEqDiff, Nat.reduceBEq, reduceCtorEq, Nat.reduceLT, Nat.reduceLeDiff, Nat.reduceAdd, Nat.reduceSub, Nat.reduceMul, Nat.reduceDiv, Int.reduceAdd, Int.reduceNeg, Int.reduceEq, Int.reduceLT, Int.reduceLE, c_slices_Index___int_int__r3]
    refine hKY _ ?_
    refine wlk_sreg fun KY hKY => ?_
    simp only [go_sem, reduceIte, Nat.reduceEqDiff, Nat.reduceBEq, reduceCtorEq, Nat.reduceLT, Nat.reduceLeDiff, Nat.reduceAdd, Nat.reduceSub, Nat.reduceMul, Nat.reduceDiv, Int.reduceAdd, Int.reduceNeg, Int.reduceEq, Int.reduceLT, Int.reduceLE, c_slices_Index___int_int__r4, ints_at hx, hk2]
    refine hKY _ ?_
    by_cases hp : v = x
    · refine wlk_cond1 (by first | rfl | (simp only [go_sem, reduceIte, Nat.reduceEqDiff, Nat.reduceBEq, reduceCtorEq, Nat.reduceLT, Nat.reduceLeDiff, Nat.reduceAdd, Nat.reduceSub, Nat.reduceMul, Nat.reduceDiv, Int.reduceAdd, Int.reduceNeg, Int.reduceEq, Int.reduceLT, Int.reduceLE, hp]; try simp (disch := omega) only [decide_eq_true, decide_eq_false])) ?_
      refine wlk_sreg fun KY hKY => ?_
      simp only [go_sem, reduceIte, Nat.reduceEqDiff, Nat.reduceBEq, reduceCtorEq, Nat.reduceLT, Nat.reduceLeDiff, Nat.reduceAdd, Nat.reduceSub, Nat.reduceMul, Nat.reduceDiv, Int.reduceAdd, Int.reduceNeg, Int.reduceEq, Int.reduceLT, Int.reduceLE, c_slices_Index___int_int__r5]
      refine hKY _ ?_
      refine wlk_ret ?_
      repeat (first | refine hn6 _ ?_ | refine he6 _ ?_ | refine hf6 _ _ (by decide) ?_ | refine hr6 _ ?_ | refine hn5 _ ?_ | refine he5 _ _ ?_ | refine hr5 _ ?_ | refine hn4 _ ?_ | refine he4 _ _ ?_ | refine hr4 _ ?_ | refine he3 _ _ ?_ | refine hr3 _ ?_ | refine hn2 _ ?_ | refine he2 _ ?_ | refine hf2 _ _ (by decide) ?_ | refine hr2 _ ?_ | refine hn1 _ ?_ | refine he1 _ _ ?_ | refine hr1 _ ?_)
      simp only [go_sem, reduceIte, Nat.reduceEqDiff, Nat.reduceBEq, reduceCtorEq, Nat.reduceLT, Nat.reduceLeDiff, Nat.reduceAdd, Nat.reduceSub, Nat.reduceMul, Nat.reduceDiv, Int.reduceAdd, Int.reduceNeg, Int.reduceEq, Int.reduceLT, Int.reduceLE]
      exact ⟨(k : Int), rfl, fun _ => ⟨x, hmem, hp⟩, fun _ => by omega⟩
    · refine wlk_cond0 (by first | rfl | (simp only [go_sem, reduceIte, Nat.reduceEqDiff, Nat.reduceBEq, reduceCtorEq, Nat.reduceLT, Nat.reduceLeDiff, Nat.reduceAdd, Nat.reduceSub, Nat.reduceMul, Nat.reduceDiv, Int.reduceAdd, Int.reduceNeg, Int.reduceEq, Int.reduceLT, Int.reduceLE, hp]; try simp (disch := omega) only [decide_eq_true, decide_eq_false])) ?_
      refine wlk_skip ?_
      repeat (first | refine hn6 _ ?_ | refine he6 _ ?_ | refine hf6 _ _ (by decide) ?_ | refine hr6 _ ?_ | refine hn5 _ ?_ | refine he5 _ _ ?_ | refine hr5 _ ?_ | refine hn4 _ ?_ | refine he4 _ _ ?_ | refine hr4 _ ?_ | refine he3 _ _ ?_ | refine hr3 _ ?_ | refine hn2 _ ?_ | refine he2 _ ?_ | refine hf2 _ _ (by decide) ?_ | refine hr2 _ ?_ | refine hn1 _ ?_ | refine he1 _ _ ?_ | refine hr1 _ ?_)
      refine wlk_reg fun KY hKY => ?_
      simp only [go_sem, reduceIte, Nat.reduceEqDiff, Nat.reduceBEq, reduceCtorEq, Nat.reduceLT, Nat.reduceLeDiff, Nat.reduceAdd, Nat.reduceSub, Nat.reduceMul, Nat.reduceDiv, Int.reduceAdd, Int.reduceNeg, Int.reduceEq, Int.reduceLT, Int.reduceLE, c_slices_Index___int_int__r6, inc k (by omega)]
      refine hKY _ ?_
      repeat (first | refine hn6 _ ?_ | refine he6 _ ?_ | refine hf6 _ _ (by decide) ?_ | refine hr6 _ ?_ | refine hn5 _ ?_ | refine he5 _ _ ?_ | refine hr5 _ ?_ | refine hn4 _ ?_ | refine he4 _ _ ?_ | refine hr4 _ ?_ | refine he3 _ _ ?_ | refine hr3 _ ?_ | refine hn2 _ ?_ | refine he2 _ ?_ | refine hf2 _ _ (by decide) ?_ | refine hr2 _ ?_ | refine hn1 _ ?_ | refine he1 _ _ ?_ | refine hr1 _ ?_)
      refine hn3 _ (k + 1) (xs.length - (k + 1)) (by omega) (by first | (simp only [go_sem, reduceIte, Nat.reduceEqDiff, Nat.reduceBEq, reduceCtorEq, Nat.reduceLT, Nat.reduceLeDiff, Nat.reduceAdd, Nat.reduceSub, Nat.reduceMul, Nat.reduceDiv, Int.reduceAdd, Int.reduceNeg, Int.reduceEq, Int.reduceLT, Int.reduceLE, updAll_cons, updAll_nil]; done) | rfl) ?_
      refine ⟨hk2, rfl, fun j y hj hy => ?_⟩
      rcases Nat.lt_or_ge j k with h | h
      · exact hz j y h hy
      · obtain rfl : j = k := by omega
        rw [hx] at hy; cases hy; exact hp
  · refine wlk_cond0 (by first | rfl | (simp only [go_sem, reduceIte, Nat.reduceEqDiff, Nat.reduceBEq, reduceCtorEq, Nat.reduceLT, Nat.reduceLeDiff, Nat.reduceAdd, Nat.reduceSub, Nat.reduceMul, Nat.reduceDiv, Int.reduceAdd, Int.reduceNeg, Int.reduceEq, Int.reduceLT, Int.reduceLE]; try simp (disch := omega) only [decide_eq_true, decide_eq_false])) ?_
    refine wlk_exit ?_
    repeat (first | refine hn4 _ ?_ | refine he4 _ _ ?_ | refine hr4 _ ?_ | refine he3 _ _ ?_ | refine hr3 _ ?_ | refine hn2 _ ?_ | refine he2 _ ?_ | refine hf2 _ _ (by decide) ?_ | refine hr2 _ ?_ | refine hn1 _ ?_ | refine he1 _ _ ?_ | refine hr1 _ ?_)
    refine wlk_sreg fun KY hKY => ?_
    simp only [go_sem, reduceIte, Nat.reduceEqDiff, Nat.reduceBEq, reduceCtorEq, Nat.reduceLT, Nat.reduceLeDiff, Nat.reduceAdd, Nat.reduceSub, Nat.reduceMul, Nat.reduceDiv, Int.reduceAdd, Int.reduceNeg, Int.reduceEq, Int.reduceLT, Int.reduceLE, c_slices_Index___int_int__r7]
    refine hKY _ ?_
    refine wlk_ret ?_
    repeat (first | refine hn4 _ ?_ | refine he4 _ _ ?_ | refine hr4 _ ?_ | refine he3 _ _ ?_ | refine hr3 _ ?_ | refine hn2 _ ?_ | refine he2 _ ?_ | refine hf2 _ _ (by decide) ?_ | refine hr2 _ ?_ | refine hn1 _ ?_ | refine he1 _ _ ?_ | refine hr1 _ ?_)
    simp only [go_sem, reduceIte, Nat.reduceEqDiff, Nat.reduceBEq, reduceCtorEq, Nat.reduceLT, Nat.reduceLeDiff, Nat.reduceAdd, Nat.reduceSub, Nat.reduceMul, Nat.reduceDiv, Int.reduceAdd, Int.reduceNeg, Int.reduceEq, Int.reduceLT, Int.reduceLE]
    refine ⟨-1, rfl, fun h => by omega, fun ⟨x, hx, hp⟩ => ?_⟩
    obtain ⟨j, hj⟩ := List.mem_iff_getElem?.1 hx
    exact (hz j x (by have := (List.getElem?_eq_some_iff.1 hj).1; omega) hj hp).elim
theorem contains_ok (xs : List Int) (v : Int) (hb : xs.length ≤ 1000000000) : ACalls Try.prog [] n_slices_Contains___int_int_ [.imm 1 (ints xs), .sc (.int .i64 v)] [] fun r h' => r = .sc (.bool (decide (v ∈ xs))) ∧ h' = [] := by
  refine go_slices_Contains___int_int_ rfl ?_
  unfold c_slices_Contains___int_int_ v_slices_Contains___int_int_
  refine wlk_sreg fun KY hKY => ?_
  simp only [go_sem, reduceIte, Nat.reduceEqDiff, Nat.reduceBEq, reduceCtorEq, Nat.reduceLT, Nat.reduceLeDiff, Nat.reduceAdd, Nat.reduceSub, Nat.reduceMul, Nat.reduceDiv, Int.reduceAdd, Int.reduceNeg, Int.reduceEq, Int.reduceLT, Int.reduceLE, c_slices_Contains___int_int__r0]
  refine hKY _ ?_
  refine wlk_sreg fun KY hKY => ?_
  simp only [go_sem, reduceIte, Nat.reduceEqDiff, Nat.reduceBEq, reduceCtorEq, Nat.reduceLT, Nat.reduceLeDiff, Nat.reduceAdd, Nat.reduceSub, Nat.reduceMul, Nat.reduceDiv, Int.reduceAdd, Int.reduceNeg, Int.reduceEq, Int.reduceLT, Int.reduceLE, c_slices_Contains___int_int__r1]
  refine call_view rfl (by simp only [go_sem, reduceIte, Nat.reduceEqDiff, Nat.reduceBEq, reduceCtorEq, Nat.reduceLT, Nat.reduceLeDiff, Nat.reduceAdd, Nat.reduceSub, Nat.reduceMul, Nat.reduceDiv, Int.reduceAdd, Int.reduceNeg, Int.reduceEq, Int.reduceLT, Int.reduceLE] <;> rfl) ((index_ok xs v hb).mono ?_)
  rintro rr hh ⟨⟨k, rfl, hk⟩, rfl⟩
  refine ⟨?_, ?_, ?_, ?_⟩
  iterate 3 (first | rfl | simp only [go_sem, reduceIte, Nat.reduceEqDiff, Nat.reduceBEq, reduceCtorEq, Nat.reduceLT, Nat.reduceLeDiff, Nat.reduceAdd, Nat.reduceSub, Nat.reduceMul, Nat.reduceDiv, Int.reduceAdd, Int.reduceNeg, Int.reduceEq, Int.reduceLT, Int.reduceLE])
  simp only [go_sem, reduceIte, Nat.reduceEqDiff, Nat.reduceBEq, reduceCtorEq, Nat.reduceLT, Nat.reduceLeDiff, Nat.reduceAdd, Nat.reduceSub, Nat.reduceMul, Nat.reduceDiv, Int.reduceAdd, Int.reduceNeg, Int.reduceEq, Int.reduceLT, Int.reduceLE]
  refine hKY _ ?_
  refine wlk_ret ?_
  simp only [go_sem, reduceIte, Nat.reduceEqDiff, Nat.reduceBEq, reduceCtorEq, Nat.reduceLT, Nat.reduceLeDiff, Nat.reduceAdd, Nat.reduceSub, Nat.reduceMul, Nat.reduceDiv, Int.reduceAdd, Int.reduceNeg, Int.reduceEq, Int.reduceLT, Int.reduceLE]
  rw [show decide (0 ≤ k) = decide (v ∈ xs) by rw [Bool.eq_iff_iff, decide_eq_true_iff, decide_eq_true_iff, hk]; simp]
def hasI (p : List Nat) (a : Int) : Bool := decide (a ∈ p.map fun n : Nat => (n : Int))
theorem hasI_nat {p : List Nat} {a : Nat} : hasI p (a : Int) = true ↔ a ∈ p := by
  unfold hasI
  rw [decide_eq_true_iff, List.mem_map]
  exact ⟨fun ⟨x, hx, h⟩ => by rw [show a = x by omega]; exact hx, fun h => ⟨a, h, rfl⟩⟩
theorem containsN_ok (xs : List Nat) (v : Int) (hb : xs.length ≤ 1000000000) : ACalls Try.prog [] n_slices_Contains___int_int_ [.imm 1 (nats xs), .sc (.int .i64 v)] [] fun r h' => r = .sc (.bool (hasI xs v)) ∧ h' = [] := by
  rw [nats_ints]
  exact contains_ok _ v (by simpa using hb)
theorem same1_ok (p : List Nat) (a b : Int) (hb : p.length ≤ 1000000000) : ACalls Try.prog [] n_pieces_Same_1 [.imm 1 (nats p), .ptr 0 0, .ptr 1 0] [some [.sc (.int .i64 a)], some [.sc (.int .i64 b)]] fun r h' => r = .sc (.bool (hasI p a && hasI p b)) ∧ h' = [some [.sc (.int .i64 a)], some [.sc (.int .i64 b)]] := by
  refine go_pieces_Same_1 rfl ?_
  unfold c_pieces_Same_1 v_pieces_Same_1
  refine wlk_sreg fun KY hKY => ?_
  simp only [go_sem, reduceIte, Nat.reduceEqDiff, Nat.reduceBEq, reduceCtorEq, Nat.reduceLT, Nat.reduceLeDiff, Nat.reduceAdd, Nat.reduceSub, Nat.reduceMul, Nat.reduceDiv, Int.reduceAdd, Int.reduceNeg, Int.reduceEq, Int.reduceLT, Int.reduceLE, c_pieces_Same_1_r0]
  refine hKY _ ?_
  refine wlk_sreg fun KY hKY => ?_
  simp only [go_sem, reduceIte, Nat.reduceEqDiff, Nat.reduceBEq, reduceCtorEq, Nat.reduceLT, Nat.reduceLeDiff, Nat.reduceAdd, Nat.reduceSub, Nat.reduceMul, Nat.reduceDiv, Int.reduceAdd, Int.reduceNeg, Int.reduceEq, Int.reduceLT, Int.reduceLE, c_pieces_Same_1_r1]
  refine call_view rfl (by simp only [go_sem, reduceIte, Nat.reduceEqDiff, Nat.reduceBEq, reduceCtorEq, Nat.reduceLT, Nat.reduceLeDiff, Nat.reduceAdd, Nat.reduceSub, Nat.reduceMul, Nat.reduceDiv, Int.reduceAdd, Int.reduceNeg, Int.reduceEq, Int.reduceLT, Int.reduceLE] <;> rfl) ((containsN_ok p a hb).mono ?_)
  rintro rr hh ⟨rfl, rfl⟩
  refine ⟨rfl, rfl, rfl, ?_⟩
  cases h : hasI p a with
  | true =>
    simp only [go_sem, reduceIte, Nat.reduceEqDiff, Nat.reduceBEq, reduceCtorEq, Nat.reduceLT, Nat.reduceLeDiff, Nat.reduceAdd, Nat.reduceSub, Nat.reduceMul, Nat.reduceDiv, Int.reduceAdd, Int.reduceNeg, Int.reduceEq, Int.reduceLT, Int.reduceLE, h]
    refine call_view rfl (by simp only [go_sem, reduceIte, Nat.reduceEqDiff, Nat.reduceBEq, reduceCtorEq, Nat.reduceLT, Nat.reduceLeDiff, Nat.reduceAdd, Nat.reduceSub, Nat.reduceMul, Nat.reduceDiv, Int.reduceAdd, Int.reduceNeg, Int.reduceEq, Int.reduceLT, Int.reduceLE] <;> rfl) ((containsN_ok p b hb).mono ?_)
    rintro rr hh ⟨rfl, rfl⟩
    refine ⟨rfl, rfl, rfl, ?_⟩
    simp only [go_sem, reduceIte, Nat.reduceEqDiff, Nat.reduceBEq, reduceCtorEq, Nat.reduceLT, Nat.reduceLeDiff, Nat.reduceAdd, Nat.reduceSub, Nat.reduceMul, Nat.reduceDiv, Int.reduceAdd, Int.reduceNeg, Int.reduceEq, Int.reduceLT, Int.reduceLE]
    refine hKY _ ?_
    refine wlk_ret ?_
    simp only [go_sem, reduceIte, Nat.reduceEqDiff, Nat.reduceBEq, reduceCtorEq, Nat.reduceLT, Nat.reduceLeDiff, Nat.reduceAdd, Nat.reduceSub, Nat.reduceMul, Nat.reduceDiv, Int.reduceAdd, Int.reduceNeg, Int.reduceEq, Int.reduceLT, Int.reduceLE, h]
  | false =>
    simp only [go_sem, reduceIte, Nat.reduceEqDiff, Nat.reduceBEq, reduceCtorEq, Nat.reduceLT, Nat.reduceLeDiff, Nat.reduceAdd, Nat.reduceSub, Nat.reduceMul, Nat.reduceDiv, Int.reduceAdd, Int.reduceNeg, Int.reduceEq, Int.reduceLT, Int.reduceLE, h]
    refine hKY _ ?_
    refine wlk_ret ?_
    simp only [go_sem, reduceIte, Nat.reduceEqDiff, Nat.reduceBEq, reduceCtorEq, Nat.reduceLT, Nat.reduceLeDiff, Nat.reduceAdd, Nat.reduceSub, Nat.reduceMul, Nat.reduceDiv, Int.reduceAdd, Int.reduceNeg, Int.reduceEq, Int.reduceLT, Int.reduceLE, h]
theorem indexF_ok (xs : List (List Nat)) (a b : Int) (hb : xs.length ≤ 1000000000) (hr : ∀ x ∈ xs, x.length ≤ 1000000000) : ACalls Try.prog [] n_slices_IndexFunc_____int___int_ [.imm 1 (rowsI xs), .fn (.func n_pieces_Same_1) [] [.ptr 0 0, .ptr 1 0]] [some [.sc (.int .i64 a)], some [.sc (.int .i64 b)]] fun r h' => (∃ k : Int, r = .sc (.int .i64 k) ∧ (0 ≤ k ↔ ∃ x ∈ xs, (hasI x a && hasI x b) = true)) ∧ h' = [some [.sc (.int .i64 a)], some [.sc (.int .i64 b)]] := by
  refine go_slices_IndexFunc_____int___int_ rfl ?_
  unfold c_slices_IndexFunc_____int___int_ v_slices_IndexFunc_____int___int_
  refine wlk_sreg fun KY hKY => ?_
  simp only [go_sem, reduceIte, Nat.reduceEqDiff, Nat.reduceBEq, reduceCtorEq, Nat.reduceLT, Nat.reduceLeDiff, Nat.reduceAdd, Nat.reduceSub, Nat.reduceMul, Nat.reduceDiv, Int.reduceAdd, Int.reduceNeg, Int.reduceEq, Int.reduceLT, Int.reduceLE, c_slices_IndexFunc_____int___int__r0]
  refine hKY _ ?_
  refine wlk_seq fun X1 hn1 he1 hr1 => ?_
  refine wlk_sreg fun KY hKY => ?_
  simp only [go_sem, reduceIte, Nat.reduceEqDiff, Nat.reduceBEq, reduceCtorEq, Nat.reduceLT, Nat.reduceLeDiff, Nat.reduceAdd, Nat.reduceSub, Nat.reduceMul, Nat.reduceDiv, Int.reduceAdd, Int.reduceNeg, Int.reduceEq, Int.reduceLT, Int.reduceLE, c_slices_IndexFunc_____int___int__r1, rowsI_len]
  refine hKY _ ?_
  refine wlk_blk fun X2 hn2 he2 hf2 hr2 => ?_
  try simp only [go_sem, reduceIte, Nat.reduceEqDiff, Nat.reduceBEq, reduceCtorEq, Nat.reduceLT, Nat.reduceLeDiff, Nat.reduceAdd, Nat.reduceSub, Nat.reduceMul, Nat.reduceDiv, Int.reduceAdd, Int.reduceNeg, Int.reduceEq, Int.reduceLT, Int.reduceLE]
  refine wlk_lp (α := Nat) [5, 9, 16] (fun k => [(8, .sc (.int .i64 (k : Int)))]) (fun k => [some [.sc (.int .i64 a)], some [.sc (.int .i64 b)]]) (fun k q => k ≤ xs.length ∧ q = xs.length - k ∧ ∀ j x, j < k → xs[j]? = some x → ¬ (hasI x a && hasI x b) = true) (0) (xs.length) rfl (by first | (simp only [go_sem, reduceIte, Nat.reduceEqDiff, Nat.reduceBEq, reduceCtorEq, Nat.reduceLT, Nat.reduceLeDiff, Nat.reduceAdd, Nat.reduceSub, Nat.reduceMul, Nat.reduceDiv, Int.reduceAdd, Int.reduceNeg, Int.reduceEq, Int.reduceLT, Int.reduceLE, updAll_cons, updAll_nil]; done) | rfl) (⟨by omega, rfl, fun j x h => by omega⟩) ?_
  rintro k q ⟨hk, rfl, hz⟩ X3 hn3 he3 hr3
  simp only [go_sem, reduceIte, Nat.reduceEqDiff, Nat.reduceBEq, reduceCtorEq, Nat.reduceLT, Nat.reduceLeDiff, Nat.reduceAdd, Nat.reduceSub, Nat.reduceMul, Nat.reduceDiv, Int.reduceAdd, Int.reduceNeg, Int.reduceEq, Int.reduceLT, Int.reduceLE, updAll_cons, updAll_nil]
  refine wlk_sreg fun KY hKY => ?_
  simp only [go_sem, reduceIte, Nat.reduceEqDiff, Nat.reduceBEq, reduceCtorEq, Nat.reduceLT, Nat.reduceLeDiff, Nat.reduceAdd, Nat.reduceSub, Nat.reduceMul, Nat.reduceDiv, Int.reduceAdd, Int.reduceNeg, Int.reduceEq, Int.reduceLT, Int.reduceLE, c_slices_IndexFunc_____int___int__r2]
  refine hKY _ ?_
  refine wlk_seq fun X4 hn4 he4 hr4 => ?_
  by_cases hk2 : k < xs.length
  · refine wlk_cond1 (by first | rfl | (simp only [go_sem, reduceIte, Nat.reduceEqDiff, Nat.reduceBEq, reduceCtorEq, Nat.reduceLT, Nat.reduceLeDiff, Nat.reduceAdd, Nat.reduceSub, Nat.reduceMul, Nat.reduceDiv, Int.reduceAdd, Int.reduceNeg, Int.reduceEq, Int.reduceLT, Int.reduceLE]; try simp (disch := omega) only [decide_eq_true, decide_eq_false])) ?_
    refine wlk_skip ?_
    repeat (first | refine hn4 _ ?_ | refine he4 _ _ ?_ | refine hr4 _ ?_ | refine he3 _ _ ?_ | refine hr3 _ ?_ | refine hn2 _ ?_ | refine he2 _ ?_ | refine hf2 _ _ (by decide) ?_ | refine hr2 _ ?_ | refine hn1 _ ?_ | refine he1 _ _ ?_ | refine hr1 _ ?_)
    refine wlk_seq fun X5 hn5 he5 hr5 => ?_
    refine wlk_blk fun X6 hn6 he6 hf6 hr6 => ?_
    have hx : xs[k]? = some xs[k] := List.getElem?_eq_getElem hk2
    have hmem : xs[k] ∈ xs := List.getElem_mem hk2
    generalize xs[k] = x at hx hmem
    refine wlk_sreg fun KY hKY => ?_
    simp only [go_sem, reduceIte, Nat.reduceEqDiff, Nat.reduceBEq, reduceCtorEq, Nat.reduceLT, Nat.reduceLeDiff, Nat.reduceAdd, Nat.reduceSub, Nat.reduceMul, Nat.reduceDiv, Int.reduceAdd, Int.reduceNeg, Int.reduceEq, Int.reduceLT, Int.reduceLE, c_slices_IndexFunc_____int___int__r3]
    refine hKY _ ?_
    refine wlk_sreg fun KY hKY => ?_
    simp only [go_sem, reduceIte, Nat.reduceEqDiff, Nat.reduceBEq, reduceCtorEq, Nat.reduceLT, Nat.reduceLeDiff, Nat.reduceAdd, Nat.reduceSub, Nat.reduceMul, Nat.reduceDiv, Int.reduceAdd, Int.reduceNeg, Int.reduceEq, Int.reduceLT, Int.reduceLE, c_slices_IndexFunc_____int___int__r4, rowsI_get hx, hk2]
    apply call_gen [] [0, 1] false none rfl
    iterate 8 (first | (simp only [go_sem, reduceIte, Nat.reduceEqDiff, Nat.reduceBEq, reduceCtorEq, Nat.reduceLT, Nat.reduceLeDiff, Nat.reduceAdd, Nat.reduceSub, Nat.reduceMul, Nat.reduceDiv, Int.reduceAdd, Int.reduceNeg, Int.reduceEq, Int.reduceLT, Int.reduceLE, watchIn] <;> rfl) | rfl)
    refine (same1_ok x a b (hr x hmem)).mono ?_
    rintro _ _ ⟨rfl, rfl⟩
    refine ⟨Nat.le_of_ble_eq_true rfl, (fun hh => by cases hh), ?_⟩
    simp only [go_sem, reduceIte, Nat.reduceEqDiff, Nat.reduceBEq, reduceCtorEq, Nat.reduceLT, Nat.reduceLeDiff, Nat.reduceAdd, Nat.reduceSub, Nat.reduceMul, Nat.reduceDiv, Int.reduceAdd, Int.reduceNeg, Int.reduceEq, Int.reduceLT, Int.reduceLE, callOut, AState.after]
    refine hKY _ ?_
    by_cases hp : (hasI x a && hasI x b) = true
    · refine wlk_cond1 (by first | rfl | (simp only [go_sem, reduceIte, Nat.reduceEqDiff, Nat.reduceBEq, reduceCtorEq, Nat.reduceLT, Nat.reduceLeDiff, Nat.reduceAdd, Nat.reduceSub, Nat.reduceMul, Nat.reduceDiv, Int.reduceAdd, Int.reduceNeg, Int.reduceEq, Int.reduceLT, Int.reduceLE, hp]; try simp (disch := omega) only [decide_eq_true, decide_eq_false])) ?_
      refine wlk_sreg fun KY hKY => ?_
      simp only [go_sem, reduceIte, Nat.reduceEqDiff, Nat.reduceBEq, reduceCtorEq, Nat.reduceLT, Nat.reduceLeDiff, Nat.reduceAdd, Nat.reduceSub, Nat.reduceMul, Nat.reduceDiv, Int.reduceAdd, Int.reduceNeg, Int.reduceEq, Int.reduceLT, Int.reduceLE, c_slices_IndexFunc_____int___int__r5]
      refine hKY _ ?_
      refine wlk_ret ?_
      repeat (first | refine hn6 _ ?_ | refine he6 _ ?_ | refine hf6 _ _ (by decide) ?_ | refine hr6 _ ?_ | refine hn5 _ ?_ | refine he5 _ _ ?_ | refine hr5 _ ?_ | refine hn4 _ ?_ | refine he4 _ _ ?_ | refine hr4 _ ?_ | refine he3 _ _ ?_ | refine hr3 _ ?_ | refine hn2 _ ?_ | refine he2 _ ?_ | refine hf2 _ _ (by decide) ?_ | refine hr2 _ ?_ | refine hn1 _ ?_ | refine he1 _ _ ?_ | refine hr1 _ ?_)
      simp only [go_sem, reduceIte, Nat.reduceEqDiff, Nat.reduceBEq, reduceCtorEq, Nat.reduceLT, Nat.reduceLeDiff, Nat.reduceAdd, Nat.reduceSub, Nat.reduceMul, Nat.reduceDiv, Int.reduceAdd, Int.reduceNeg, Int.reduceEq, Int.reduceLT, Int.reduceLE]
      exact ⟨(k : Int), rfl, fun _ => ⟨x, hmem, hp⟩, fun _ => by omega⟩
    · refine wlk_cond0 (by first | rfl | (simp only [go_sem, reduceIte, Nat.reduceEqDiff, Nat.reduceBEq, reduceCtorEq, Nat.reduceLT, Nat.reduceLeDiff, Nat.reduceAdd, Nat.reduceSub, Nat.reduceMul, Nat.reduceDiv, Int.reduceAdd, Int.reduceNeg, Int.reduceEq, Int.reduceLT, Int.reduceLE, hp]; try simp (disch := omega) only [decide_eq_true, decide_eq_false])) ?_
      refine wlk_skip ?_
      repeat (first | refine hn6 _ ?_ | refine he6 _ ?_ | refine hf6 _ _ (by decide) ?_ | refine hr6 _ ?_ | refine hn5 _ ?_ | refine he5 _ _ ?_ | refine hr5 _ ?_ | refine hn4 _ ?_ | refine he4 _ _ ?_ | refine hr4 _ ?_ | refine he3 _ _ ?_ | refine hr3 _ ?_ | refine hn2 _ ?_ | refine he2 _ ?_ | refine hf2 _ _ (by decide) ?_ | refine hr2 _ ?_ | refine hn1 _ ?_ | refine he1 _ _ ?_ | refine hr1 _ ?_)
      refine wlk_reg fun KY hKY => ?_
      simp only [go_sem, reduceIte, Nat.reduceEqDiff, Nat.reduceBEq, reduceCtorEq, Nat.reduceLT, Nat.reduceLeDiff, Nat.reduceAdd, Nat.reduceSub, Nat.reduceMul, Nat.reduceDiv, Int.reduceAdd, Int.reduceNeg, Int.reduceEq, Int.reduceLT, Int.reduceLE, c_slices_IndexFunc_____int___int__r6, inc k (by omega)]
      refine hKY _ ?_
      repeat (first | refine hn6 _ ?_ | refine he6 _ ?_ | refine hf6 _ _ (by decide) ?_ | refine hr6 _ ?_ | refine hn5 _ ?_ | refine he5 _ _ ?_ | refine hr5 _ ?_ | refine hn4 _ ?_ | refine he4 _ _ ?_ | refine hr4 _ ?_ | refine he3 _ _ ?_ | refine hr3 _ ?_ | refine hn2 _ ?_ | refine he2 _ ?_ | refine hf2 _ _ (by decide) ?_ | refine hr2 _ ?_ | refine hn1 _ ?_ | refine he1 _ _ ?_ | refine hr1 _ ?_)
      refine hn3 _ (k + 1) (xs.length - (k + 1)) (by omega) (by first | (simp only [go_sem, reduceIte, Nat.reduceEqDiff, Nat.reduceBEq, reduceCtorEq, Nat.reduceLT, Nat.reduceLeDiff, Nat.reduceAdd, Nat.reduceSub, Nat.reduceMul, Nat.reduceDiv, Int.reduceAdd, Int.reduceNeg, Int.reduceEq, Int.reduceLT, Int.reduceLE, updAll_cons, updAll_nil]; done) | rfl) ?_
      refine ⟨hk2, rfl, fun j y hj hy => ?_⟩
      rcases Nat.lt_or_ge j k with h | h
      · exact hz j y h hy
      · obtain rfl : j = k := by omega
        rw [hx] at hy; cases hy; exact hp
  · refine wlk_cond0 (by first | rfl | (simp only [go_sem, reduceIte, Nat.reduceEqDiff, Nat.reduceBEq, reduceCtorEq, Nat.reduceLT, Nat.reduceLeDiff, Nat.reduceAdd, Nat.reduceSub, Nat.reduceMul, Nat.reduceDiv, Int.reduceAdd, Int.reduceNeg, Int.reduceEq, Int.reduceLT, Int.reduceLE]; try simp (disch := omega) only [decide_eq_true, decide_eq_false])) ?_
    refine wlk_exit ?_
    repeat (first | refine hn4 _ ?_ | refine he4 _ _ ?_ | refine hr4 _ ?_ | refine he3 _ _ ?_ | refine hr3 _ ?_ | refine hn2 _ ?_ | refine he2 _ ?_ | refine hf2 _ _ (by decide) ?_ | refine hr2 _ ?_ | refine hn1 _ ?_ | refine he1 _ _ ?_ | refine hr1 _ ?_)
    refine wlk_sreg fun KY hKY => ?_
    simp only [go_sem, reduceIte, Nat.reduceEqDiff, Nat.reduceBEq, reduceCtorEq, Nat.reduceLT, Nat.reduceLeDiff, Nat.reduceAdd, Nat.reduceSub, Nat.reduceMul, Nat.reduceDiv, Int.reduceAdd, Int.reduceNeg, Int.reduceEq, Int.reduceLT, Int.reduceLE, c_slices_IndexFunc_____int___int__r7]
    refine hKY _ ?_
    refine wlk_ret ?_
    repeat (first | refine hn4 _ ?_ | refine he4 _ _ ?_ | refine hr4 _ ?_ | refine he3 _ _ ?_ | refine hr3 _ ?_ | refine hn2 _ ?_ | refine he2 _ ?_ | refine hf2 _ _ (by decide) ?_ | refine hr2 _ ?_ | refine hn1 _ ?_ | refine he1 _ _ ?_ | refine hr1 _ ?_)
    simp only [go_sem, reduceIte, Nat.reduceEqDiff, Nat.reduceBEq, reduceCtorEq, Nat.reduceLT, Nat.reduceLeDiff, Nat.reduceAdd, Nat.reduceSub, Nat.reduceMul, Nat.reduceDiv, Int.reduceAdd, Int.reduceNeg, Int.reduceEq, Int.reduceLT, Int.reduceLE]
    refine ⟨-1, rfl, fun h => by omega, fun ⟨x, hx, hp⟩ => ?_⟩
    obtain ⟨j, hj⟩ := List.mem_iff_getElem?.1 hx
    exact (hz j x (by have := (List.getElem?_eq_some_iff.1 hj).1; omega) hj hp).elim
theorem containsF_ok (xs : List (List Nat)) (a b : Int) (hb : xs.length ≤ 1000000000) (hr : ∀ x ∈ xs, x.length ≤ 1000000000) : ACalls Try.prog [] n_slices_ContainsFunc_____int___int_ [.imm 1 (rowsI xs), .fn (.func n_pieces_Same_1) [] [.ptr 0 0, .ptr 1 0]] [some [.sc (.int .i64 a)], some [.sc (.int .i64 b)]] fun r h' => r = .sc (.bool (xs.any fun x => hasI x a && hasI x b)) ∧ h' = [some [.sc (.int .i64 a)], some [.sc (.int .i64 b)]] := by
  refine go_slices_ContainsFunc_____int___int_ rfl ?_
  unfold c_slices_ContainsFunc_____int___int_ v_slices_ContainsFunc_____int___int_
  refine wlk_sreg fun KY hKY => ?_
  simp only [go_sem, reduceIte, Nat.reduceEqDiff, Nat.reduceBEq, reduceCtorEq, Nat.reduceLT, Nat.reduceLeDiff, Nat.reduceAdd, Nat.reduceSub, Nat.reduceMul, Nat.reduceDiv, Int.reduceAdd, Int.reduceNeg, Int.reduceEq, Int.reduceLT, Int.reduceLE, c_slices_ContainsFunc_____int___int__r0]
  refine hKY _ ?_
  refine wlk_sreg fun KY hKY => ?_
  simp only [go_sem, reduceIte, Nat.reduceEqDiff, Nat.reduceBEq, reduceCtorEq, Nat.reduceLT, Nat.reduceLeDiff, Nat.reduceAdd, Nat.reduceSub, Nat.reduceMul, Nat.reduceDiv, Int.reduceAdd, Int.reduceNeg, Int.reduceEq, Int.reduceLT, Int.reduceLE, c_slices_ContainsFunc_____int___int__r1]
  apply call_gen [] [0, 1] false none rfl
  iterate 8 (first | (simp only [go_sem, reduceIte, Nat.reduceEqDiff, Nat.reduceBEq, reduceCtorEq, Nat.reduceLT, Nat.reduceLeDiff, Nat.reduceAdd, Nat.reduceSub, Nat.reduceMul, Nat.reduceDiv, Int.reduceAdd, Int.reduceNeg, Int.reduceEq, Int.reduceLT, Int.reduceLE, watchIn] <;> rfl) | rfl)
  refine (indexF_ok xs a b hb hr).mono ?_
  rintro _ _ ⟨⟨k, rfl, hk⟩, rfl⟩
  refine ⟨Nat.le_of_ble_eq_true rfl, (fun hh => by cases hh), ?_⟩
  simp only [go_sem, reduceIte, Nat.reduceEqDiff, Nat.reduceBEq, reduceCtorEq, Nat.reduceLT, Nat.reduceLeDiff, Nat.reduceAdd, Nat.reduceSub, Nat.reduceMul, Nat.reduceDiv, Int.reduceAdd, Int.reduceNeg, Int.reduceEq, Int.reduceLT, Int.reduceLE, callOut, AState.after]
  refine hKY _ ?_
  refine wlk_ret ?_
  simp only [go_sem, reduceIte, Nat.reduceEqDiff, Nat.reduceBEq, reduceCtorEq, Nat.reduceLT, Nat.reduceLeDiff, Nat.reduceAdd, Nat.reduceSub, Nat.reduceMul, Nat.reduceDiv, Int.reduceAdd, Int.reduceNeg, Int.reduceEq, Int.reduceLT, Int.reduceLE]
  rw [show decide (0 ≤ k) = (xs.any fun x => hasI x a && hasI x b) by rw [Bool.eq_iff_iff, decide_eq_true_iff, List.any_eq_true, hk]]
theorem psame_ok {n : Nat} {es : Es} (g : GR n es) (a b : Int) : ACalls Try.prog [] n_pieces_Same [.agg [.sc (.int .i64 (n : Int)), .imm 2 (twos (castE es))], .sc (.int .i64 a), .sc (.int .i64 b)] [] fun r h' => (∃ ps, IsPieces n es (fun v => (v : Int) ∈ []) ps ∧ r = .sc (.bool (ps.any fun x => hasI x a && hasI x b))) ∧ h' = [] := by
  have hn := g.hn
  refine ACalls.trim ?_
  refine go_pieces_Same rfl ?_
  unfold c_pieces_Same v_pieces_Same
  refine wlk_sreg fun KY hKY => ?_
  simp only [go_sem, reduceIte, Nat.reduceEqDiff, Nat.reduceBEq, reduceCtorEq, Nat.reduceLT, Nat.reduceLeDiff, Nat.reduceAdd, Nat.reduceSub, Nat.reduceMul, Nat.reduceDiv, Int.reduceAdd, Int.reduceNeg, Int.reduceEq, Int.reduceLT, Int.reduceLE, c_pieces_Same_r0]
  refine hKY _ ?_
  refine wlk_sreg fun KY hKY => ?_
  simp only [go_sem, reduceIte, Nat.reduceEqDiff, Nat.reduceBEq, reduceCtorEq, Nat.reduceLT, Nat.reduceLeDiff, Nat.reduceAdd, Nat.reduceSub, Nat.reduceMul, Nat.reduceDiv, Int.reduceAdd, Int.reduceNeg, Int.reduceEq, Int.reduceLT, Int.reduceLE, c_pieces_Same_r1]
  refine call_view rfl (by simp only [go_sem, reduceIte, Nat.reduceEqDiff, Nat.reduceBEq, reduceCtorEq, Nat.reduceLT, Nat.reduceLeDiff, Nat.reduceAdd, Nat.reduceSub, Nat.reduceMul, Nat.reduceDiv, Int.reduceAdd, Int.reduceNeg, Int.reduceEq, Int.reduceLT, Int.reduceLE] <;> rfl) ((all_ok g).mono ?_)
  rintro rr hh ⟨⟨ps, hps, rfl⟩, rfl⟩
  refine ⟨?_, ?_, ?_, ?_⟩
  iterate 3 (first | rfl | simp only [go_sem, reduceIte, Nat.reduceEqDiff, Nat.reduceBEq, reduceCtorEq, Nat.reduceLT, Nat.reduceLeDiff, Nat.reduceAdd, Nat.reduceSub, Nat.reduceMul, Nat.reduceDiv, Int.reduceAdd, Int.reduceNeg, Int.reduceEq, Int.reduceLT, Int.reduceLE])
  have h1 := pieces_len hps
  have h2 : ∀ x ∈ ps, x.length ≤ 1000000000 := fun x hx => Nat.le_trans (piece_len hps hx) (by omega)
  simp only [go_sem, reduceIte, Nat.reduceEqDiff, Nat.reduceBEq, reduceCtorEq, Nat.reduceLT, Nat.reduceLeDiff, Nat.reduceAdd, Nat.reduceSub, Nat.reduceMul, Nat.reduceDiv, Int.reduceAdd, Int.reduceNeg, Int.reduceEq, Int.reduceLT, Int.reduceLE]
  apply call_gen [] [0, 1] true none rfl
  iterate 8 (first | (simp only [go_sem, reduceIte, Nat.reduceEqDiff, Nat.reduceBEq, reduceCtorEq, Nat.reduceLT, Nat.reduceLeDiff, Nat.reduceAdd, Nat.reduceSub, Nat.reduceMul, Nat.reduceDiv, Int.reduceAdd, Int.reduceNeg, Int.reduceEq, Int.reduceLT, Int.reduceLE, watchIn] <;> rfl) | rfl)
  refine (containsF_ok ps a b (by omega) h2).mono ?_
  rintro _ _ ⟨rfl, rfl⟩
  refine ⟨Nat.le_of_ble_eq_true rfl, (fun _ => by simp only [go_sem, reduceIte, Nat.reduceEqDiff, Nat.reduceBEq, reduceCtorEq, Nat.reduceLT, Nat.reduceLeDiff, Nat.reduceAdd, Nat.reduceSub, Nat.reduceMul, Nat.reduceDiv, Int.reduceAdd, Int.reduceNeg, Int.reduceEq, Int.reduceLT, Int.reduceLE, flatH, and_self]), ?_⟩
  simp only [go_sem, reduceIte, Nat.reduceEqDiff, Nat.reduceBEq, reduceCtorEq, Nat.reduceLT, Nat.reduceLeDiff, Nat.reduceAdd, Nat.reduceSub, Nat.reduceMul, Nat.reduceDiv, Int.reduceAdd, Int.reduceNeg, Int.reduceEq, Int.reduceLT, Int.reduceLE, callOut, AState.after]
  refine hKY _ ?_
  refine wlk_ret ?_
  simp only [go_sem, reduceIte, Nat.reduceEqDiff, Nat.reduceBEq, reduceCtorEq, Nat.reduceLT, Nat.reduceLeDiff, Nat.reduceAdd, Nat.reduceSub, Nat.reduceMul, Nat.reduceDiv, Int.reduceAdd, Int.reduceNeg, Int.reduceEq, Int.reduceLT, Int.reduceLE]
  exact ⟨ps, hps, rfl⟩
theorem in_ok (xs : List Int) (v : Int) (hb : xs.length ≤ 1000000000) : ACalls Try.prog [] n_garlandhelp_In_int_ [.imm 1 (ints xs), .sc (.int .i64 v)] [] fun r h' => r = .sc (.bool (decide (v ∈ xs))) ∧ h' = [] := by
  refine go_garlandhelp_In_int_ rfl ?_
  unfold c_garlandhelp_In_int_ v_garlandhelp_In_int_
  refine wlk_sreg fun KY hKY => ?_
  simp only [go_sem, reduceIte, Nat.reduceEqDiff, Nat.reduceBEq, reduceCtorEq, Nat.reduceLT, Nat.reduceLeDiff, Nat.reduceAdd, Nat.reduceSub, Nat.reduceMul, Nat.reduceDiv, Int.reduceAdd, Int.reduceNeg, Int.reduceEq, Int.reduceLT, Int.reduceLE, c_garlandhelp_In_int__r0]
  refine hKY _ ?_
  refine wlk_seq fun X1 hn1 he1 hr1 => ?_
  refine wlk_sreg fun KY hKY => ?_
  simp only [go_sem, reduceIte, Nat.reduceEqDiff, Nat.reduceBEq, reduceCtorEq, Nat.reduceLT, Nat.reduceLeDiff, Nat.reduceAdd, Nat.reduceSub, Nat.reduceMul, Nat.reduceDiv, Int.reduceAdd, Int.reduceNeg, Int.reduceEq, Int.reduceLT, Int.reduceLE, c_garlandhelp_In_int__r1]
  refine hKY _ ?_
  refine wlk_blk fun X2 hn2 he2 hf2 hr2 => ?_
  try simp only [go_sem, reduceIte, Nat.reduceEqDiff, Nat.reduceBEq, reduceCtorEq, Nat.reduceLT, Nat.reduceLeDiff, Nat.reduceAdd, Nat.reduceSub, Nat.reduceMul, Nat.reduceDiv, Int.reduceAdd, Int.reduceNeg, Int.reduceEq, Int.reduceLT, Int.reduceLE]
  refine wlk_lp (α := Nat) [9, 17] (fun k => [(5, .sc (.int .i64 (k : Int)))]) (fun k => []) (fun k q => k ≤ xs.length ∧ q = xs.length - k ∧ ∀ j x, j < k → xs[j]? = some x → x ≠ v) (0) (xs.length) rfl (by first | (simp only [go_sem, reduceIte, Nat.reduceEqDiff, Nat.reduceBEq, reduceCtorEq, Nat.reduceLT, Nat.reduceLeDiff, Nat.reduceAdd, Nat.reduceSub, Nat.reduceMul, Nat.reduceDiv, Int.reduceAdd, Int.reduceNeg, Int.reduceEq, Int.reduceLT, Int.reduceLE, updAll_cons, updAll_nil]; done) | rfl) (⟨by omega, rfl, fun j x h => by omega⟩) ?_
  rintro k q ⟨hk, rfl, hz⟩ X3 hn3 he3 hr3
  simp only [go_sem, reduceIte, Nat.reduceEqDiff, Nat.reduceBEq, reduceCtorEq, Nat.reduceLT, Nat.reduceLeDiff, Nat.reduceAdd, Nat.reduceSub, Nat.reduceMul, Nat.reduceDiv, Int.reduceAdd, Int.reduceNeg, Int.reduceEq, Int.reduceLT, Int.reduceLE, updAll_cons, updAll_nil]
  refine wlk_seq fun X4 hn4 he4 hr4 => ?_
  refine wlk_sreg fun KY hKY => ?_
  simp only [go_sem, reduceIte, Nat.reduceEqDiff, Nat.reduceBEq, reduceCtorEq, Nat.reduceLT, Nat.reduceLeDiff, Nat.reduceAdd, Nat.reduceSub, Nat.reduceMul, Nat.reduceDiv, Int.reduceAdd, Int.reduceNeg, Int.reduceEq, Int.reduceLT, Int.reduceLE, c_garlandhelp_In_int__r2, ints_len]
  refine hKY _ ?_
  by_cases hk2 : k < xs.length
  · refine wlk_cond1 (by first | rfl | (simp only [go_sem, reduceIte, Nat.reduceEqDiff, Nat.reduceBEq, reduceCtorEq, Nat.reduceLT, Nat.reduceLeDiff, Nat.reduceAdd, Nat.reduceSub, Nat.reduceMul, Nat.reduceDiv, Int.reduceAdd, Int.reduceNeg, Int.reduceEq, Int.reduceLT, Int.reduceLE]; try simp (disch := omega) only [decide_eq_true, decide_eq_false])) ?_
    refine wlk_skip ?_
    repeat (first | refine hn4 _ ?_ | refine he4 _ _ ?_ | refine hr4 _ ?_ | refine he3 _ _ ?_ | refine hr3 _ ?_ | refine hn2 _ ?_ | refine he2 _ ?_ | refine hf2 _ _ (by decide) ?_ | refine hr2 _ ?_ | refine hn1 _ ?_ | refine he1 _ _ ?_ | refine hr1 _ ?_)
    refine wlk_seq fun X5 hn5 he5 hr5 => ?_
    refine wlk_blk fun X6 hn6 he6 hf6 hr6 => ?_
    have hx : xs[k]? = some xs[k] := List.getElem?_eq_getElem hk2
    have hmem : xs[k] ∈ xs := List.getElem_mem hk2
    generalize xs[k] = x at hx hmem
    refine wlk_sreg fun KY hKY => ?_
    simp only [go_sem, reduceIte, Nat.reduceEqDiff, Nat.reduceBEq, reduceCtorEq, Nat.reduceLT, Nat.reduceLeDiff, Nat.reduceAdd, Nat.reduceSub, Nat.reduceMul, Nat.reduceDiv, Int.reduceAdd, Int.reduceNeg, Int.reduceEq, Int.reduceLT, Int.reduceLE, c_garlandhelp_In_int__r3, ints_at hx, hk2]
    refine hKY _ ?_
    by_cases hp : x = v
    · refine wlk_cond1 (by first | rfl | (simp only [go_sem, reduceIte, Nat.reduceEqDiff, Nat.reduceBEq, reduceCtorEq, Nat.reduceLT, Nat.reduceLeDiff, Nat.reduceAdd, Nat.reduceSub, Nat.reduceMul, Nat.reduceDiv, Int.reduceAdd, Int.reduceNeg, Int.reduceEq, Int.reduceLT, Int.reduceLE, hp]; try simp (disch := omega) only [decide_eq_true, decide_eq_false])) ?_
      refine wlk_sreg fun KY hKY => ?_
      simp only [go_sem, reduceIte, Nat.reduceEqDiff, Nat.reduceBEq, reduceCtorEq, Nat.reduceLT, Nat.reduceLeDiff, Nat.reduceAdd, Nat.reduceSub, Nat.reduceMul, Nat.reduceDiv, Int.reduceAdd, Int.reduceNeg, Int.reduceEq, Int.reduceLT, Int.reduceLE, c_garlandhelp_In_int__r4]
      refine hKY _ ?_
      refine wlk_ret ?_
      repeat (first | refine hn6 _ ?_ | refine he6 _ ?_ | refine hf6 _ _ (by decide) ?_ | refine hr6 _ ?_ | refine hn5 _ ?_ | refine he5 _ _ ?_ | refine hr5 _ ?_ | refine hn4 _ ?_ | refine he4 _ _ ?_ | refine hr4 _ ?_ | refine he3 _ _ ?_ | refine hr3 _ ?_ | refine hn2 _ ?_ | refine he2 _ ?_ | refine hf2 _ _ (by decide) ?_ | refine hr2 _ ?_ | refine hn1 _ ?_ | refine he1 _ _ ?_ | refine hr1 _ ?_)
      simp only [go_sem, reduceIte, Nat.reduceEqDiff, Nat.reduceBEq, reduceCtorEq, Nat.reduceLT, Nat.reduceLeDiff, Nat.reduceAdd, Nat.reduceSub, Nat.reduceMul, Nat.reduceDiv, Int.reduceAdd, Int.reduceNeg, Int.reduceEq, Int.reduceLT, Int.reduceLE]
      rw [decide_eq_true (hp ▸ hmem)]
    · refine wlk_cond0 (by first | rfl | (simp only [go_sem, reduceIte, Nat.reduceEqDiff, Nat.reduceBEq, reduceCtorEq, Nat.reduceLT, Nat.reduceLeDiff, Nat.reduceAdd, Nat.reduceSub, Nat.reduceMul, Nat.reduceDiv, Int.reduceAdd, Int.reduceNeg, Int.reduceEq, Int.reduceLT, Int.reduceLE, hp]; try simp (disch := omega) only [decide_eq_true, decide_eq_false])) ?_
      refine wlk_skip ?_
      repeat (first | refine hn6 _ ?_ | refine he6 _ ?_ | refine hf6 _ _ (by decide) ?_ | refine hr6 _ ?_ | refine hn5 _ ?_ | refine he5 _ _ ?_ | refine hr5 _ ?_ | refine hn4 _ ?_ | refine he4 _ _ ?_ | refine hr4 _ ?_ | refine he3 _ _ ?_ | refine hr3 _ ?_ | refine hn2 _ ?_ | refine he2 _ ?_ | refine hf2 _ _ (by decide) ?_ | refine hr2 _ ?_ | refine hn1 _ ?_ | refine he1 _ _ ?_ | refine hr1 _ ?_)
      refine wlk_reg fun KY hKY => ?_
      simp only [go_sem, reduceIte, Nat.reduceEqDiff, Nat.reduceBEq, reduceCtorEq, Nat.reduceLT, Nat.reduceLeDiff, Nat.reduceAdd, Nat.reduceSub, Nat.reduceMul, Nat.reduceDiv, Int.reduceAdd, Int.reduceNeg, Int.reduceEq, Int.reduceLT, Int.reduceLE, c_garlandhelp_In_int__r5, inc k (by omega)]
      refine hKY _ ?_
      repeat (first | refine hn6 _ ?_ | refine he6 _ ?_ | refine hf6 _ _ (by decide) ?_ | refine hr6 _ ?_ | refine hn5 _ ?_ | refine he5 _ _ ?_ | refine hr5 _ ?_ | refine hn4 _ ?_ | refine he4 _ _ ?_ | refine hr4 _ ?_ | refine he3 _ _ ?_ | refine hr3 _ ?_ | refine hn2 _ ?_ | refine he2 _ ?_ | refine hf2 _ _ (by decide) ?_ | refine hr2 _ ?_ | refine hn1 _ ?_ | refine he1 _ _ ?_ | refine hr1 _ ?_)
      refine hn3 _ (k + 1) (xs.length - (k + 1)) (by omega) (by first | (simp only [go_sem, reduceIte, Nat.reduceEqDiff, Nat.reduceBEq, reduceCtorEq, Nat.reduceLT, Nat.reduceLeDiff, Nat.reduceAdd, Nat.reduceSub, Nat.reduceMul, Nat.reduceDiv, Int.reduceAdd, Int.reduceNeg, Int.reduceEq, Int.reduceLT, Int.reduceLE, updAll_cons, updAll_nil]; done) | rfl) ?_
      refine ⟨hk2, rfl, fun j y hj hy => ?_⟩
      rcases Nat.lt_or_ge j k with h | h
      · exact hz j y h hy
      · obtain rfl : j = k := by omega
        rw [hx] at hy; cases hy; exact hp
  · refine wlk_cond0 (by first | rfl | (simp only [go_sem, reduceIte, Nat.reduceEqDiff, Nat.reduceBEq, reduceCtorEq, Nat.reduceLT, Nat.reduceLeDiff, Nat.reduceAdd, Nat.reduceSub, Nat.reduceMul, Nat.reduceDiv, Int.reduceAdd, Int.reduceNeg, Int.reduceEq, Int.reduceLT, Int.reduceLE]; try simp (disch := omega) only [decide_eq_true, decide_eq_false])) ?_
    refine wlk_exit ?_
    repeat (first | refine hn4 _ ?_ | refine he4 _ _ ?_ | refine hr4 _ ?_ | refine he3 _ _ ?_ | refine hr3 _ ?_ | refine hn2 _ ?_ | refine he2 _ ?_ | refine hf2 _ _ (by decide) ?_ | refine hr2 _ ?_ | refine hn1 _ ?_ | refine he1 _ _ ?_ | refine hr1 _ ?_)
    refine wlk_sreg fun KY hKY => ?_
    simp only [go_sem, reduceIte, Nat.reduceEqDiff, Nat.reduceBEq, reduceCtorEq, Nat.reduceLT, Nat.reduceLeDiff, Nat.reduceAdd, Nat.reduceSub, Nat.reduceMul, Nat.reduceDiv, Int.reduceAdd, Int.reduceNeg, Int.reduceEq, Int.reduceLT, Int.reduceLE, c_garlandhelp_In_int__r6]
    refine hKY _ ?_
    refine wlk_ret ?_
    repeat (first | refine hn4 _ ?_ | refine he4 _ _ ?_ | refine hr4 _ ?_ | refine he3 _ _ ?_ | refine hr3 _ ?_ | refine hn2 _ ?_ | refine he2 _ ?_ | refine hf2 _ _ (by decide) ?_ | refine hr2 _ ?_ | refine hn1 _ ?_ | refine he1 _ _ ?_ | refine hr1 _ ?_)
    simp only [go_sem, reduceIte, Nat.reduceEqDiff, Nat.reduceBEq, reduceCtorEq, Nat.reduceLT, Nat.reduceLeDiff, Nat.reduceAdd, Nat.reduceSub, Nat.reduceMul, Nat.reduceDiv, Int.reduceAdd, Int.reduceNeg, Int.reduceEq, Int.reduceLT, Int.reduceLE]
    rw [decide_eq_false]
    intro hx
    obtain ⟨j, hj⟩ := List.mem_iff_getElem?.1 hx
    exact hz j v (by have := (List.getElem?_eq_some_iff.1 hj).1; omega) hj rfl
theorem inN_ok (xs : List Nat) (v : Int) (hb : xs.length ≤ 1000000000) : ACalls Try.prog [] n_garlandhelp_In_int_ [.imm 1 (nats xs), .sc (.int .i64 v)] [] fun r h' => r = .sc (.bool (hasI xs v)) ∧ h' = [] := by
  rw [nats_ints]
  exact in_ok _ v (by simpa using hb)
theorem some_ok {n : Nat} (hn : n ≤ 4096) (A : AVal) (hA : A.copyable = true) (bits : Int) : ACalls Try.prog [] n_garlandplay_Some [.agg [.sc (.int .i64 (n : Int)), A], .sc (.int .u64 bits)] [] fun r h' => (∃ l : List Nat, l.Pairwise (· < ·) ∧ (∀ v ∈ l, v < n) ∧ r = .own (some 1) (nats l)) ∧ h' = [] := by
  refine go_garlandplay_Some rfl ?_
  unfold c_garlandplay_Some v_garlandplay_Some
  refine wlk_sreg fun KY hKY => ?_
  simp only [go_sem, reduceIte, Nat.reduceEqDiff, Nat.reduceBEq, reduceCtorEq, Nat.reduceLT, Nat.reduceLeDiff, Nat.reduceAdd, Nat.reduceSub, Nat.reduceMul, Nat.reduceDiv, Int.reduceAdd, Int.reduceNeg, Int.reduceEq, Int.reduceLT, Int.reduceLE, c_garlandplay_Some_r0, hA]
  refine hKY _ ?_
  refine wlk_sreg fun KY hKY => ?_
  simp only [go_sem, reduceIte, Nat.reduceEqDiff, Nat.reduceBEq, reduceCtorEq, Nat.reduceLT, Nat.reduceLeDiff, Nat.reduceAdd, Nat.reduceSub, Nat.reduceMul, Nat.reduceDiv, Int.reduceAdd, Int.reduceNeg, Int.reduceEq, Int.reduceLT, Int.reduceLE, c_garlandplay_Some_r1]
  refine hKY _ ?_
  simp only [go_sem, reduceIte, Nat.reduceEqDiff, Nat.reduceBEq, reduceCtorEq, Nat.reduceLT, Nat.reduceLeDiff, Nat.reduceAdd, Nat.reduceSub, Nat.reduceMul, Nat.reduceDiv, Int.reduceAdd, Int.reduceNeg, Int.reduceEq, Int.reduceLT, Int.reduceLE]
  refine sem_nil [0, 5] 1 (by simp only [go_sem, reduceIte, Nat.reduceEqDiff, Nat.reduceBEq, reduceCtorEq, Nat.reduceLT, Nat.reduceLeDiff, Nat.reduceAdd, Nat.reduceSub, Nat.reduceMul, Nat.reduceDiv, Int.reduceAdd, Int.reduceNeg, Int.reduceEq, Int.reduceLT, Int.reduceLE]) ?_
  simp only [go_sem, reduceIte, Nat.reduceEqDiff, Nat.reduceBEq, reduceCtorEq, Nat.reduceLT, Nat.reduceLeDiff, Nat.reduceAdd, Nat.reduceSub, Nat.reduceMul, Nat.reduceDiv, Int.reduceAdd, Int.reduceNeg, Int.reduceEq, Int.reduceLT, Int.reduceLE]
  refine wlk_seq fun X1 hn1 he1 hr1 => ?_
  refine wlk_sreg fun KY hKY => ?_
  simp only [go_sem, reduceIte, Nat.reduceEqDiff, Nat.reduceBEq, reduceCtorEq, Nat.reduceLT, Nat.reduceLeDiff, Nat.reduceAdd, Nat.reduceSub, Nat.reduceMul, Nat.reduceDiv, Int.reduceAdd, Int.reduceNeg, Int.reduceEq, Int.reduceLT, Int.reduceLE, c_garlandplay_Some_r2]
  refine hKY _ ?_
  refine wlk_blk fun X2 hn2 he2 hf2 hr2 => ?_
  try simp only [go_sem, reduceIte, Nat.reduceEqDiff, Nat.reduceBEq, reduceCtorEq, Nat.reduceLT, Nat.reduceLeDiff, Nat.reduceAdd, Nat.reduceSub, Nat.reduceMul, Nat.reduceDiv, Int.reduceAdd, Int.reduceNeg, Int.reduceEq, Int.reduceLT, Int.reduceLE]
  refine wlk_lp (α := Nat × List Nat) [14, 22] (fun (v, l) => [(5, .own (some 1) (nats l)), (6, .sc (.int .i64 (v : Int)))]) (fun (v, l) => []) (fun (v, l) q => v ≤ n ∧ v ≤ 64 ∧ q = n - v ∧ l.Pairwise (· < ·) ∧ (∀ x ∈ l, x < v)) ((0, [])) (n) rfl (by first | (simp only [go_sem, reduceIte, Nat.reduceEqDiff, Nat.reduceBEq, reduceCtorEq, Nat.reduceLT, Nat.reduceLeDiff, Nat.reduceAdd, Nat.reduceSub, Nat.reduceMul, Nat.reduceDiv, Int.reduceAdd, Int.reduceNeg, Int.reduceEq, Int.reduceLT, Int.reduceLE, updAll_cons, updAll_nil]; done) | rfl) (⟨by omega, by omega, rfl, .nil, by simp⟩) ?_
  rintro ⟨v, l⟩ q ⟨hv, hv6, rfl, h1, h2⟩ X3 hn3 he3 hr3
  simp only [go_sem, reduceIte, Nat.reduceEqDiff, Nat.reduceBEq, reduceCtorEq, Nat.reduceLT, Nat.reduceLeDiff, Nat.reduceAdd, Nat.reduceSub, Nat.reduceMul, Nat.reduceDiv, Int.reduceAdd, Int.reduceNeg, Int.reduceEq, Int.reduceLT, Int.reduceLE, updAll_cons, updAll_nil]
  refine wlk_seq fun X4 hn4 he4 hr4 => ?_
  by_cases hvn : v < n
  · have d1 : decide ((v : Int) < (n : Int)) = true := decide_eq_true (by omega)
    by_cases hv64 : v < 64
    · have d2 : decide ((v : Int) < 64) = true := decide_eq_true (by omega)
      refine wlk_sreg fun KY hKY => ?_
      simp only [go_sem, reduceIte, Nat.reduceEqDiff, Nat.reduceBEq, reduceCtorEq, Nat.reduceLT, Nat.reduceLeDiff, Nat.reduceAdd, Nat.reduceSub, Nat.reduceMul, Nat.reduceDiv, Int.reduceAdd, Int.reduceNeg, Int.reduceEq, Int.reduceLT, Int.reduceLE, c_garlandplay_Some_r3, d1, d2]
      refine hKY _ ?_
      refine wlk_cond1 (by first | rfl | (simp only [go_sem, reduceIte, Nat.reduceEqDiff, Nat.reduceBEq, reduceCtorEq, Nat.reduceLT, Nat.reduceLeDiff, Nat.reduceAdd, Nat.reduceSub, Nat.reduceMul, Nat.reduceDiv, Int.reduceAdd, Int.reduceNeg, Int.reduceEq, Int.reduceLT, Int.reduceLE]; try simp (disch := omega) only [decide_eq_true, decide_eq_false])) ?_
      refine wlk_skip ?_
      repeat (first | refine hn4 _ ?_ | refine he4 _ _ ?_ | refine hr4 _ ?_ | refine he3 _ _ ?_ | refine hr3 _ ?_ | refine hn2 _ ?_ | refine he2 _ ?_ | refine hf2 _ _ (by decide) ?_ | refine hr2 _ ?_ | refine hn1 _ ?_ | refine he1 _ _ ?_ | refine hr1 _ ?_)
      refine wlk_seq fun X5 hn5 he5 hr5 => ?_
      refine wlk_blk fun X6 hn6 he6 hf6 hr6 => ?_
      have hs : ¬ IntKind.u64.wrap (v : Int) < 0 := by rw [IntKind.wrap_u64]; omega
      refine wlk_sreg fun KY hKY => ?_
      simp only [go_sem, reduceIte, Nat.reduceEqDiff, Nat.reduceBEq, reduceCtorEq, Nat.reduceLT, Nat.reduceLeDiff, Nat.reduceAdd, Nat.reduceSub, Nat.reduceMul, Nat.reduceDiv, Int.reduceAdd, Int.reduceNeg, Int.reduceEq, Int.reduceLT, Int.reduceLE, c_garlandplay_Some_r4, shiftBin, hs]
      refine hKY _ ?_
      simp only [go_sem, reduceIte, Nat.reduceEqDiff, Nat.reduceBEq, reduceCtorEq, Nat.reduceLT, Nat.reduceLeDiff, Nat.reduceAdd, Nat.reduceSub, Nat.reduceMul, Nat.reduceDiv, Int.reduceAdd, Int.reduceNeg, Int.reduceEq, Int.reduceLT, Int.reduceLE]
      have hll : l.length ≤ 4096 := Nat.le_trans (nodup_le (h1.imp fun h => Nat.ne_of_lt h) (m := List.range v) fun x hx => List.mem_range.2 (h2 x hx)) (by simp; omega)
      have hby : (l.length + 1) * 8 ≤ 140737488355328 := by omega
      refine wlk_cond rfl (fun _ => ?_) fun _ => ?_
      · refine wlk_reg fun KY hKY => ?_
        simp only [go_sem, reduceIte, Nat.reduceEqDiff, Nat.reduceBEq, reduceCtorEq, Nat.reduceLT, Nat.reduceLeDiff, Nat.reduceAdd, Nat.reduceSub, Nat.reduceMul, Nat.reduceDiv, Int.reduceAdd, Int.reduceNeg, Int.reduceEq, Int.reduceLT, Int.reduceLE, c_garlandplay_Some_r5, nats_snoc, hby]
        refine hKY _ ?_
        repeat (first | refine hn6 _ ?_ | refine he6 _ ?_ | refine hf6 _ _ (by decide) ?_ | refine hr6 _ ?_ | refine hn5 _ ?_ | refine he5 _ _ ?_ | refine hr5 _ ?_ | refine hn4 _ ?_ | refine he4 _ _ ?_ | refine hr4 _ ?_ | refine he3 _ _ ?_ | refine hr3 _ ?_ | refine hn2 _ ?_ | refine he2 _ ?_ | refine hf2 _ _ (by decide) ?_ | refine hr2 _ ?_ | refine hn1 _ ?_ | refine he1 _ _ ?_ | refine hr1 _ ?_)
        refine wlk_reg fun KY hKY => ?_
        simp only [go_sem, reduceIte, Nat.reduceEqDiff, Nat.reduceBEq, reduceCtorEq, Nat.reduceLT, Nat.reduceLeDiff, Nat.reduceAdd, Nat.reduceSub, Nat.reduceMul, Nat.reduceDiv, Int.reduceAdd, Int.reduceNeg, Int.reduceEq, Int.reduceLT, Int.reduceLE, c_garlandplay_Some_r6, inc v (by omega)]
        refine hKY _ ?_
        repeat (first | refine hn6 _ ?_ | refine he6 _ ?_ | refine hf6 _ _ (by decide) ?_ | refine hr6 _ ?_ | refine hn5 _ ?_ | refine he5 _ _ ?_ | refine hr5 _ ?_ | refine hn4 _ ?_ | refine he4 _ _ ?_ | refine hr4 _ ?_ | refine he3 _ _ ?_ | refine hr3 _ ?_ | refine hn2 _ ?_ | refine he2 _ ?_ | refine hf2 _ _ (by decide) ?_ | refine hr2 _ ?_ | refine hn1 _ ?_ | refine he1 _ _ ?_ | refine hr1 _ ?_)
        refine hn3 _ ((v + 1, l ++ [v])) (n - (v + 1)) (by omega) (by first | (simp only [go_sem, reduceIte, Nat.reduceEqDiff, Nat.reduceBEq, reduceCtorEq, Nat.reduceLT, Nat.reduceLeDiff, Nat.reduceAdd, Nat.reduceSub, Nat.reduceMul, Nat.reduceDiv, Int.reduceAdd, Int.reduceNeg, Int.reduceEq, Int.reduceLT, Int.reduceLE, updAll_cons, updAll_nil]; done) | rfl) ?_
        refine ⟨hvn, by omega, rfl, List.pairwise_append.2 ⟨h1, by simp, fun x hx y hy => ?_⟩, fun x hx => ?_⟩
        · simp at hy; subst hy; exact h2 x hx
        · rcases List.mem_append.1 hx with h | h
          · exact Nat.lt_succ_of_lt (h2 x h)
          · simp at h; omega
      · refine wlk_skip ?_
        repeat (first | refine hn6 _ ?_ | refine he6 _ ?_ | refine hf6 _ _ (by decide) ?_ | refine hr6 _ ?_ | refine hn5 _ ?_ | refine he5 _ _ ?_ | refine hr5 _ ?_ | refine hn4 _ ?_ | refine he4 _ _ ?_ | refine hr4 _ ?_ | refine he3 _ _ ?_ | refine hr3 _ ?_ | refine hn2 _ ?_ | refine he2 _ ?_ | refine hf2 _ _ (by decide) ?_ | refine hr2 _ ?_ | refine hn1 _ ?_ | refine he1 _ _ ?_ | refine hr1 _ ?_)
        refine wlk_reg fun KY hKY => ?_
        simp only [go_sem, reduceIte, Nat.reduceEqDiff, Nat.reduceBEq, reduceCtorEq, Nat.reduceLT, Nat.reduceLeDiff, Nat.reduceAdd, Nat.reduceSub, Nat.reduceMul, Nat.reduceDiv, Int.reduceAdd, Int.reduceNeg, Int.reduceEq, Int.reduceLT, Int.reduceLE, c_garlandplay_Some_r6, inc v (by omega)]
        refine hKY _ ?_
        repeat (first | refine hn6 _ ?_ | refine he6 _ ?_ | refine hf6 _ _ (by decide) ?_ | refine hr6 _ ?_ | refine hn5 _ ?_ | refine he5 _ _ ?_ | refine hr5 _ ?_ | refine hn4 _ ?_ | refine he4 _ _ ?_ | refine hr4 _ ?_ | refine he3 _ _ ?_ | refine hr3 _ ?_ | refine hn2 _ ?_ | refine he2 _ ?_ | refine hf2 _ _ (by decide) ?_ | refine hr2 _ ?_ | refine hn1 _ ?_ | refine he1 _ _ ?_ | refine hr1 _ ?_)
        refine hn3 _ ((v + 1, l)) (n - (v + 1)) (by omega) (by first | (simp only [go_sem, reduceIte, Nat.reduceEqDiff, Nat.reduceBEq, reduceCtorEq, Nat.reduceLT, Nat.reduceLeDiff, Nat.reduceAdd, Nat.reduceSub, Nat.reduceMul, Nat.reduceDiv, Int.reduceAdd, Int.reduceNeg, Int.reduceEq, Int.reduceLT, Int.reduceLE, updAll_cons, updAll_nil]; done) | rfl) ?_
        exact ⟨hvn, by omega, rfl, h1, fun x hx => Nat.lt_succ_of_lt (h2 x hx)⟩
    · have d2 : decide ((v : Int) < 64) = false := decide_eq_false (by omega)
      refine wlk_sreg fun KY hKY => ?_
      simp only [go_sem, reduceIte, Nat.reduceEqDiff, Nat.reduceBEq, reduceCtorEq, Nat.reduceLT, Nat.reduceLeDiff, Nat.reduceAdd, Nat.reduceSub, Nat.reduceMul, Nat.reduceDiv, Int.reduceAdd, Int.reduceNeg, Int.reduceEq, Int.reduceLT, Int.reduceLE, c_garlandplay_Some_r3, d1, d2]
      refine hKY _ ?_
      refine wlk_cond0 (by first | rfl | (simp only [go_sem, reduceIte, Nat.reduceEqDiff, Nat.reduceBEq, reduceCtorEq, Nat.reduceLT, Nat.reduceLeDiff, Nat.reduceAdd, Nat.reduceSub, Nat.reduceMul, Nat.reduceDiv, Int.reduceAdd, Int.reduceNeg, Int.reduceEq, Int.reduceLT, Int.reduceLE]; try simp (disch := omega) only [decide_eq_true, decide_eq_false])) ?_
      refine wlk_exit ?_
      repeat (first | refine hn4 _ ?_ | refine he4 _ _ ?_ | refine hr4 _ ?_ | refine he3 _ _ ?_ | refine hr3 _ ?_ | refine hn2 _ ?_ | refine he2 _ ?_ | refine hf2 _ _ (by decide) ?_ | refine hr2 _ ?_ | refine hn1 _ ?_ | refine he1 _ _ ?_ | refine hr1 _ ?_)
      refine wlk_sreg fun KY hKY => ?_
      simp only [go_sem, reduceIte, Nat.reduceEqDiff, Nat.reduceBEq, reduceCtorEq, Nat.reduceLT, Nat.reduceLeDiff, Nat.reduceAdd, Nat.reduceSub, Nat.reduceMul, Nat.reduceDiv, Int.reduceAdd, Int.reduceNeg, Int.reduceEq, Int.reduceLT, Int.reduceLE, c_garlandplay_Some_r7]
      refine hKY _ ?_
      refine wlk_ret ?_
      repeat (first | refine hn4 _ ?_ | refine he4 _ _ ?_ | refine hr4 _ ?_ | refine he3 _ _ ?_ | refine hr3 _ ?_ | refine hn2 _ ?_ | refine he2 _ ?_ | refine hf2 _ _ (by decide) ?_ | refine hr2 _ ?_ | refine hn1 _ ?_ | refine he1 _ _ ?_ | refine hr1 _ ?_)
      simp only [go_sem, reduceIte, Nat.reduceEqDiff, Nat.reduceBEq, reduceCtorEq, Nat.reduceLT, Nat.reduceLeDiff, Nat.reduceAdd, Nat.reduceSub, Nat.reduceMul, Nat.reduceDiv, Int.reduceAdd, Int.reduceNeg, Int.reduceEq, Int.reduceLT, Int.reduceLE]
      exact ⟨l, h1, fun x hx => by have := h2 x hx; omega, rfl⟩
  · have d1 : decide ((v : Int) < (n : Int)) = false := decide_eq_false (by omega)
    refine wlk_sreg fun KY hKY => ?_
    simp only [go_sem, reduceIte, Nat.reduceEqDiff, Nat.reduceBEq, reduceCtorEq, Nat.reduceLT, Nat.reduceLeDiff, Nat.reduceAdd, Nat.reduceSub, Nat.reduceMul, Nat.reduceDiv, Int.reduceAdd, Int.reduceNeg, Int.reduceEq, Int.reduceLT, Int.reduceLE, c_garlandplay_Some_r3, d1]
    refine hKY _ ?_
    refine wlk_cond0 (by first | rfl | (simp only [go_sem, reduceIte, Nat.reduceEqDiff, Nat.reduceBEq, reduceCtorEq, Nat.reduceLT, Nat.reduceLeDiff, Nat.reduceAdd, Nat.reduceSub, Nat.reduceMul, Nat.reduceDiv, Int.reduceAdd, Int.reduceNeg, Int.reduceEq, Int.reduceLT, Int.reduceLE]; try simp (disch := omega) only [decide_eq_true, decide_eq_false])) ?_
    refine wlk_exit ?_
    repeat (first | refine hn4 _ ?_ | refine he4 _ _ ?_ | refine hr4 _ ?_ | refine he3 _ _ ?_ | refine hr3 _ ?_ | refine hn2 _ ?_ | refine he2 _ ?_ | refine hf2 _ _ (by decide) ?_ | refine hr2 _ ?_ | refine hn1 _ ?_ | refine he1 _ _ ?_ | refine hr1 _ ?_)
    refine wlk_sreg fun KY hKY => ?_
    simp only [go_sem, reduceIte, Nat.reduceEqDiff, Nat.reduceBEq, reduceCtorEq, Nat.reduceLT, Nat.reduceLeDiff, Nat.reduceAdd, Nat.reduceSub, Nat.reduceMul, Nat.reduceDiv, Int.reduceAdd, Int.reduceNeg, Int.reduceEq, Int.reduceLT, Int.reduceLE, c_garlandplay_Some_r7]
    refine hKY _ ?_
    refine wlk_ret ?_
    repeat (first | refine hn4 _ ?_ | refine he4 _ _ ?_ | refine hr4 _ ?_ | refine he3 _ _ ?_ | refine hr3 _ ?_ | refine hn2 _ ?_ | refine he2 _ ?_ | refine hf2 _ _ (by decide) ?_ | refine hr2 _ ?_ | refine hn1 _ ?_ | refine he1 _ _ ?_ | refine hr1 _ ?_)
    simp only [go_sem, reduceIte, Nat.reduceEqDiff, Nat.reduceBEq, reduceCtorEq, Nat.reduceLT, Nat.reduceLeDiff, Nat.reduceAdd, Nat.reduceSub, Nat.reduceMul, Nat.reduceDiv, Int.reduceAdd, Int.reduceNeg, Int.reduceEq, Int.reduceLT, Int.reduceLE]
    exact ⟨l, h1, fun x hx => by have := h2 x hx; omega, rfl⟩
theorem awake_gr : GR 4 [(0, 1), (1, 2)] := GR_rightB (by decide)
theorem awake_ps {O : Nat → Prop} (hO : ∀ v, ¬ O v) {ps : List (List Nat)} (h : IsPieces 4 [(0, 1), (1, 2)] O ps) : ps = [[0, 1, 2], [3]] := by
  refine h.unique awake_gr.adj_lt ⟨fun v => ?_, by simp, by simp, by simp, by simp, ?_, ?_⟩
  · simp only [List.mem_cons, List.not_mem_nil, or_false, exists_eq_or_imp, exists_eq_left]
    constructor
    · rintro ((rfl | rfl | rfl) | rfl) <;> exact ⟨by decide, hO _⟩
    · intro ⟨h, _⟩; omega
  · intro p hp a ha b hab hb hob
    have hab : (a = 0 ∧ b = 1) ∨ (a = 1 ∧ b = 2) ∨ (b = 0 ∧ a = 1) ∨ (b = 1 ∧ a = 2) := by
      simpa [adj, or_assoc] using hab
    simp only [List.mem_cons, List.not_mem_nil, or_false] at hp
    rcases hp with rfl | rfl
    · simp only [List.mem_cons, List.not_mem_nil, or_false] at ha ⊢; omega
    · simp only [List.mem_cons, List.not_mem_nil, or_false] at ha ⊢; omega
  · intro p hp f hf a ha b hb
    have e1 : f 0 = f 1 := hf 0 1 (by simp [adj]) (hO _) (hO _)
    have e2 : f 1 = f 2 := hf 1 2 (by simp [adj]) (hO _) (hO _)
    simp only [List.mem_cons, List.not_mem_nil, or_false] at hp
    rcases hp with rfl | rfl
    · simp only [List.mem_cons, List.not_mem_nil, or_false] at ha hb
      rcases ha with rfl | rfl | rfl <;> rcases hb with rfl | rfl | rfl <;> simp [e1, e2]
    · simp only [List.mem_cons, List.not_mem_nil, or_false] at ha hb
      rw [ha, hb]
theorem awake03_ok : ACalls Try.prog [] n_garlandlaw03_awake [] [] fun r h' => r = .sc (.bool true) ∧ h' = [] := by
  have hO : ∀ v : Nat, ¬ (v : Int) ∈ ([] : List Int) := fun v => by simp
  refine go_garlandlaw03_awake rfl ?_
  unfold c_garlandlaw03_awake v_garlandlaw03_awake
  refine wlk_sreg fun KY hKY => ?_
  simp only [go_sem, reduceIte, Nat.reduceEqDiff, Nat.reduceBEq, reduceCtorEq, Nat.reduceLT, Nat.reduceLeDiff, Nat.reduceAdd, Nat.reduceSub, Nat.reduceMul, Nat.reduceDiv, Int.reduceAdd, Int.reduceNeg, Int.reduceEq, Int.reduceLT, Int.reduceLE, c_garlandlaw03_awake_r0]
  refine hKY _ ?_
  refine wlk_sreg fun KY hKY => ?_
  simp only [go_sem, reduceIte, Nat.reduceEqDiff, Nat.reduceBEq, reduceCtorEq, Nat.reduceLT, Nat.reduceLeDiff, Nat.reduceAdd, Nat.reduceSub, Nat.reduceMul, Nat.reduceDiv, Int.reduceAdd, Int.reduceNeg, Int.reduceEq, Int.reduceLT, Int.reduceLE, c_garlandlaw03_awake_r1]
  refine hKY _ ?_
  simp only [go_sem, reduceIte, Nat.reduceEqDiff, Nat.reduceBEq, reduceCtorEq, Nat.reduceLT, Nat.reduceLeDiff, Nat.reduceAdd, Nat.reduceSub, Nat.reduceMul, Nat.reduceDiv, Int.reduceAdd, Int.reduceNeg, Int.reduceEq, Int.reduceLT, Int.reduceLE]
  refine sem_freeze [0, 1, 1] (by simp only [go_sem, reduceIte, Nat.reduceEqDiff, Nat.reduceBEq, reduceCtorEq, Nat.reduceLT, Nat.reduceLeDiff, Nat.reduceAdd, Nat.reduceSub, Nat.reduceMul, Nat.reduceDiv, Int.reduceAdd, Int.reduceNeg, Int.reduceEq, Int.reduceLT, Int.reduceLE]; rfl) ?_
  simp only [go_sem, reduceIte, Nat.reduceEqDiff, Nat.reduceBEq, reduceCtorEq, Nat.reduceLT, Nat.reduceLeDiff, Nat.reduceAdd, Nat.reduceSub, Nat.reduceMul, Nat.reduceDiv, Int.reduceAdd, Int.reduceNeg, Int.reduceEq, Int.reduceLT, Int.reduceLE]
  refine wlk_sreg fun KY hKY => ?_
  simp only [go_sem, reduceIte, Nat.reduceEqDiff, Nat.reduceBEq, reduceCtorEq, Nat.reduceLT, Nat.reduceLeDiff, Nat.reduceAdd, Nat.reduceSub, Nat.reduceMul, Nat.reduceDiv, Int.reduceAdd, Int.reduceNeg, Int.reduceEq, Int.reduceLT, Int.reduceLE, c_garlandlaw03_awake_r2]
  refine call_view rfl (by simp only [go_sem, reduceIte, Nat.reduceEqDiff, Nat.reduceBEq, reduceCtorEq, Nat.reduceLT, Nat.reduceLeDiff, Nat.reduceAdd, Nat.reduceSub, Nat.reduceMul, Nat.reduceDiv, Int.reduceAdd, Int.reduceNeg, Int.reduceEq, Int.reduceLT, Int.reduceLE] <;> rfl) ((all_ok awake_gr).mono ?_)
  rintro rr hh ⟨⟨ps, hps, rfl⟩, rfl⟩
  refine ⟨?_, ?_, ?_, ?_⟩
  iterate 3 (first | rfl | simp only [go_sem, reduceIte, Nat.reduceEqDiff, Nat.reduceBEq, reduceCtorEq, Nat.reduceLT, Nat.reduceLeDiff, Nat.reduceAdd, Nat.reduceSub, Nat.reduceMul, Nat.reduceDiv, Int.reduceAdd, Int.reduceNeg, Int.reduceEq, Int.reduceLT, Int.reduceLE])
  have := awake_ps hO hps
  subst this
  simp only [go_sem, reduceIte, Nat.reduceEqDiff, Nat.reduceBEq, reduceCtorEq, Nat.reduceLT, Nat.reduceLeDiff, Nat.reduceAdd, Nat.reduceSub, Nat.reduceMul, Nat.reduceDiv, Int.reduceAdd, Int.reduceNeg, Int.reduceEq, Int.reduceLT, Int.reduceLE]
  refine call_view rfl (by simp only [go_sem, reduceIte, Nat.reduceEqDiff, Nat.reduceBEq, reduceCtorEq, Nat.reduceLT, Nat.reduceLeDiff, Nat.reduceAdd, Nat.reduceSub, Nat.reduceMul, Nat.reduceDiv, Int.reduceAdd, Int.reduceNeg, Int.reduceEq, Int.reduceLT, Int.reduceLE] <;> rfl) ((hlists_ok [[0, 1, 2], [3]] [[0, 1, 2], [3]] (by decide) (by decide)).mono ?_)
  rintro rr hh ⟨rfl, rfl⟩
  refine ⟨rfl, rfl, rfl, ?_⟩
  simp only [go_sem, reduceIte, Nat.reduceEqDiff, Nat.reduceBEq, reduceCtorEq, Nat.reduceLT, Nat.reduceLeDiff, Nat.reduceAdd, Nat.reduceSub, Nat.reduceMul, Nat.reduceDiv, Int.reduceAdd, Int.reduceNeg, Int.reduceEq, Int.reduceLT, Int.reduceLE]
  refine call_view rfl (by simp only [go_sem, reduceIte, Nat.reduceEqDiff, Nat.reduceBEq, reduceCtorEq, Nat.reduceLT, Nat.reduceLeDiff, Nat.reduceAdd, Nat.reduceSub, Nat.reduceMul, Nat.reduceDiv, Int.reduceAdd, Int.reduceNeg, Int.reduceEq, Int.reduceLT, Int.reduceLE] <;> rfl) (((odd_ok awake_gr [] (Nat.zero_le _)).sees (.cons (.refl _) (.cons (.imm 1) .nil))).mono ?_)
  rintro rr hh ⟨⟨ps, hps, rfl⟩, rfl⟩
  refine ⟨?_, ?_, ?_, ?_⟩
  iterate 3 (first | rfl | simp only [go_sem, reduceIte, Nat.reduceEqDiff, Nat.reduceBEq, reduceCtorEq, Nat.reduceLT, Nat.reduceLeDiff, Nat.reduceAdd, Nat.reduceSub, Nat.reduceMul, Nat.reduceDiv, Int.reduceAdd, Int.reduceNeg, Int.reduceEq, Int.reduceLT, Int.reduceLE])
  have := awake_ps hO hps
  subst this
  rw [show ((oddCount [[0, 1, 2], [3]] : Nat) : Int) = 2 from rfl]
  simp only [go_sem, reduceIte, Nat.reduceEqDiff, Nat.reduceBEq, reduceCtorEq, Nat.reduceLT, Nat.reduceLeDiff, Nat.reduceAdd, Nat.reduceSub, Nat.reduceMul, Nat.reduceDiv, Int.reduceAdd, Int.reduceNeg, Int.reduceEq, Int.reduceLT, Int.reduceLE]
  refine call_view rfl (by simp only [go_sem, reduceIte, Nat.reduceEqDiff, Nat.reduceBEq, reduceCtorEq, Nat.reduceLT, Nat.reduceLeDiff, Nat.reduceAdd, Nat.reduceSub, Nat.reduceMul, Nat.reduceDiv, Int.reduceAdd, Int.reduceNeg, Int.reduceEq, Int.reduceLT, Int.reduceLE] <;> rfl) ((psame_ok awake_gr 0 2).mono ?_)
  rintro rr hh ⟨⟨ps, hps, rfl⟩, rfl⟩
  refine ⟨?_, ?_, ?_, ?_⟩
  iterate 3 (first | rfl | simp only [go_sem, reduceIte, Nat.reduceEqDiff, Nat.reduceBEq, reduceCtorEq, Nat.reduceLT, Nat.reduceLeDiff, Nat.reduceAdd, Nat.reduceSub, Nat.reduceMul, Nat.reduceDiv, Int.reduceAdd, Int.reduceNeg, Int.reduceEq, Int.reduceLT, Int.reduceLE])
  have := awake_ps hO hps
  subst this
  rw [show (List.any [[0, 1, 2], [3]] fun x => hasI x 0 && hasI x 2) = true by decide]
  simp only [go_sem, reduceIte, Nat.reduceEqDiff, Nat.reduceBEq, reduceCtorEq, Nat.reduceLT, Nat.reduceLeDiff, Nat.reduceAdd, Nat.reduceSub, Nat.reduceMul, Nat.reduceDiv, Int.reduceAdd, Int.reduceNeg, Int.reduceEq, Int.reduceLT, Int.reduceLE]
  refine hKY _ ?_
  refine wlk_ret ?_
  simp only [go_sem, reduceIte, Nat.reduceEqDiff, Nat.reduceBEq, reduceCtorEq, Nat.reduceLT, Nat.reduceLeDiff, Nat.reduceAdd, Nat.reduceSub, Nat.reduceMul, Nat.reduceDiv, Int.reduceAdd, Int.reduceNeg, Int.reduceEq, Int.reduceLT, Int.reduceLE]
end Go.Proofs.Ytmpbfdakdoicjaa
namespace Go.Ga.Gl
open Go Go.Ga
def posOf (ps : List (List Nat)) (v : Nat) : Nat := match ps.findIdx? (fun p => p.contains v) with
  | some j => j + 1
  | none => 0
theorem pos_zero {ps : List (List Nat)} {v : Nat} : posOf ps v = 0 ↔ ∀ p ∈ ps, v ∉ p := by
  unfold posOf
  cases h : ps.findIdx? (fun p => p.contains v) with
  | none =>
    rw [List.findIdx?_eq_none_iff] at h
    simp only [true_iff]
    intro p hp hv
    have := h p hp
    simp [hv] at this
  | some j =>
    refine ⟨fun h => by simp at h, fun h2 => ?_⟩
    exfalso
    obtain ⟨hj, h3, _⟩ := List.findIdx?_eq_some_iff_getElem.1 h
    exact h2 _ (List.getElem_mem hj) (by simpa using h3)
theorem pos_succ {ps : List (List Nat)} {v j : Nat} (h : posOf ps v = j + 1) : ∃ p, ps[j]? = some p ∧ v ∈ p := by
  unfold posOf at h
  cases h1 : ps.findIdx? (fun p => p.contains v) with
  | none => rw [h1] at h; simp at h
  | some i =>
    rw [h1] at h
    obtain ⟨hj, h3, _⟩ := List.findIdx?_eq_some_iff_getElem.1 h1
    have : i = j := by simpa using h
    subst this
    exact ⟨_, List.getElem?_eq_getElem hj, by simpa using h3⟩
theorem pos_step {ps : List (List Nat)} {i : Nat} {p : List Nat} (h : ps[i]? = some p) (v : Nat) (hd : v ∈ p → ∀ q ∈ ps.take i, v ∉ q) : posOf (ps.take (i + 1)) v = if v ∈ p then i + 1 else posOf (ps.take i) v := by
  have hi : i < ps.length := (List.getElem?_eq_some_iff.1 h).1
  have hl : (ps.take i).length = i := by simp; omega
  have e : ps.take (i + 1) = ps.take i ++ [p] := by rw [List.take_add_one, h]; rfl
  by_cases hv : v ∈ p
  · have h0 := pos_zero.2 (hd hv)
    unfold posOf at h0 ⊢
    rw [e, List.findIdx?_append]
    cases h1 : (ps.take i).findIdx? (fun p => p.contains v) with
    | some j => rw [h1] at h0; simp at h0
    | none => simp [hv, List.findIdx?_cons, hl]
  · rw [if_neg hv]
    unfold posOf
    rw [e, List.findIdx?_append]
    cases h1 : (ps.take i).findIdx? (fun p => p.contains v) with
    | some j => simp
    | none => simp [hv, List.findIdx?_cons]
theorem set_range {n b y : Nat} {f g : Nat → Nat} (h1 : g b = y) (h2 : ∀ v, v ≠ b → g v = f v) : ((List.range n).map f).set b y = (List.range n).map g := by
  apply List.ext_getElem (by simp)
  intro i h3 h4
  rw [List.getElem_set]
  split
  · rename_i h; subst h; simp [h1]
  · rename_i h; simp [h2 i (Ne.symm h)]
theorem getD_range {n : Nat} {f : Nat → Nat} {v : Nat} (h : v < n) : ((List.range n).map f).getD v 0 = f v := by
  simp [List.getD_eq_getElem?_getD, h]
end Go.Ga.Gl
set_option maxRecDepth 100000
set_option maxHeartbeats 8000000
namespace Go.Proofs.Ytmpbfdakdoicjaa
open Go Go.Ga Go.Ga.Gl
theorem natsG {xs : List Nat} {k : Nat} {x : Nat} (h : xs[k]? = some x) : (nats xs)[k]? = some (.sc (.int .i64 (x : Int))) := by simp [nats, h]
theorem rises_ok (l : List Nat) (h : l.Pairwise (· < ·)) (hb : l.length ≤ 1000000000) : ACalls Try.prog [] n_garlandhelp_Rises [.imm 1 (nats l)] [] fun r h' => r = .sc (.bool true) ∧ h' = [] := by
  refine go_garlandhelp_Rises rfl ?_
  unfold c_garlandhelp_Rises v_garlandhelp_Rises
  refine wlk_sreg fun KY hKY => ?_
  simp only [go_sem, reduceIte, Nat.reduceEqDiff, Nat.reduceBEq, reduceCtorEq, Nat.reduceLT, Nat.reduceLeDiff, Nat.reduceAdd, Nat.reduceSub, Nat.reduceMul, Nat.reduceDiv, Int.reduceAdd, Int.reduceNeg, Int.reduceEq, Int.reduceLT, Int.reduceLE, c_garlandhelp_Rises_r0]
  refine hKY _ ?_
  refine wlk_seq fun X1 hn1 he1 hr1 => ?_
  refine wlk_sreg fun KY hKY => ?_
  simp only [go_sem, reduceIte, Nat.reduceEqDiff, Nat.reduceBEq, reduceCtorEq, Nat.reduceLT, Nat.reduceLeDiff, Nat.reduceAdd, Nat.reduceSub, Nat.reduceMul, Nat.reduceDiv, Int.reduceAdd, Int.reduceNeg, Int.reduceEq, Int.reduceLT, Int.reduceLE, c_garlandhelp_Rises_r1]
  refine hKY _ ?_
  refine wlk_blk fun X2 hn2 he2 hf2 hr2 => ?_
  try simp only [go_sem, reduceIte, Nat.reduceEqDiff, Nat.reduceBEq, reduceCtorEq, Nat.reduceLT, Nat.reduceLeDiff, Nat.reduceAdd, Nat.reduceSub, Nat.reduceMul, Nat.reduceDiv, Int.reduceAdd, Int.reduceNeg, Int.reduceEq, Int.reduceLT, Int.reduceLE]
  refine wlk_lp (α := Nat) [7, 19] (fun k => [(3, .sc (.int .i64 ((k + 1 : Nat) : Int)))]) (fun k => []) (fun k q => q = l.length - k) (0) (l.length) rfl (by first | (simp only [go_sem, reduceIte, Nat.reduceEqDiff, Nat.reduceBEq, reduceCtorEq, Nat.reduceLT, Nat.reduceLeDiff, Nat.reduceAdd, Nat.reduceSub, Nat.reduceMul, Nat.reduceDiv, Int.reduceAdd, Int.reduceNeg, Int.reduceEq, Int.reduceLT, Int.reduceLE, updAll_cons, updAll_nil]; done) | rfl) (rfl) ?_
  rintro k q rfl X3 hn3 he3 hr3
  simp only [go_sem, reduceIte, Nat.reduceEqDiff, Nat.reduceBEq, reduceCtorEq, Nat.reduceLT, Nat.reduceLeDiff, Nat.reduceAdd, Nat.reduceSub, Nat.reduceMul, Nat.reduceDiv, Int.reduceAdd, Int.reduceNeg, Int.reduceEq, Int.reduceLT, Int.reduceLE, updAll_cons, updAll_nil]
  refine wlk_seq fun X4 hn4 he4 hr4 => ?_
  refine wlk_sreg fun KY hKY => ?_
  simp only [go_sem, reduceIte, Nat.reduceEqDiff, Nat.reduceBEq, reduceCtorEq, Nat.reduceLT, Nat.reduceLeDiff, Nat.reduceAdd, Nat.reduceSub, Nat.reduceMul, Nat.reduceDiv, Int.reduceAdd, Int.reduceNeg, Int.reduceEq, Int.reduceLT, Int.reduceLE, c_garlandhelp_Rises_r2]
  refine hKY _ ?_
  by_cases hk2 : k + 1 < l.length
  · refine wlk_cond1 (by first | rfl | (simp only [go_sem, reduceIte, Nat.reduceEqDiff, Nat.reduceBEq, reduceCtorEq, Nat.reduceLT, Nat.reduceLeDiff, Nat.reduceAdd, Nat.reduceSub, Nat.reduceMul, Nat.reduceDiv, Int.reduceAdd, Int.reduceNeg, Int.reduceEq, Int.reduceLT, Int.reduceLE]; try simp (disch := omega) only [decide_eq_true, decide_eq_false])) ?_
    refine wlk_skip ?_
    repeat (first | refine hn4 _ ?_ | refine he4 _ _ ?_ | refine hr4 _ ?_ | refine he3 _ _ ?_ | refine hr3 _ ?_ | refine hn2 _ ?_ | refine he2 _ ?_ | refine hf2 _ _ (by decide) ?_ | refine hr2 _ ?_ | refine hn1 _ ?_ | refine he1 _ _ ?_ | refine hr1 _ ?_)
    refine wlk_seq fun X5 hn5 he5 hr5 => ?_
    refine wlk_blk fun X6 hn6 he6 hf6 hr6 => ?_
    have hx : l[k + 1]? = some l[k + 1] := List.getElem?_eq_getElem hk2
    have hk3 : k < l.length := by omega
    have hy : l[k]? = some l[k] := List.getElem?_eq_getElem hk3
    have hlt := List.pairwise_iff_getElem.1 h k (k + 1) hk3 hk2 (by omega)
    have hnle : ¬ ((l[k + 1] : Nat) : Int) ≤ ((l[k] : Nat) : Int) := by omega
    generalize l[k + 1] = x at hx hnle
    generalize l[k] = y at hy hnle
    refine wlk_sdraw fun KY hKY => ?_
    simp only [go_sem, reduceIte, Nat.reduceEqDiff, Nat.reduceBEq, reduceCtorEq, Nat.reduceLT, Nat.reduceLeDiff, Nat.reduceAdd, Nat.reduceSub, Nat.reduceMul, Nat.reduceDiv, Int.reduceAdd, Int.reduceNeg, Int.reduceEq, Int.reduceLT, Int.reduceLE, c_garlandhelp_Rises_r3, natsG hx, natsG hy, hk2, hk3, decS (show k < 4611686018427387904 by omega), hnle]
    refine hKY _ ?_
    refine wlk_cond0 (by first | rfl | (simp only [go_sem, reduceIte, Nat.reduceEqDiff, Nat.reduceBEq, reduceCtorEq, Nat.reduceLT, Nat.reduceLeDiff, Nat.reduceAdd, Nat.reduceSub, Nat.reduceMul, Nat.reduceDiv, Int.reduceAdd, Int.reduceNeg, Int.reduceEq, Int.reduceLT, Int.reduceLE]; try simp (disch := omega) only [decide_eq_true, decide_eq_false])) ?_
    refine wlk_skip ?_
    repeat (first | refine hn6 _ ?_ | refine he6 _ ?_ | refine hf6 _ _ (by decide) ?_ | refine hr6 _ ?_ | refine hn5 _ ?_ | refine he5 _ _ ?_ | refine hr5 _ ?_ | refine hn4 _ ?_ | refine he4 _ _ ?_ | refine hr4 _ ?_ | refine he3 _ _ ?_ | refine hr3 _ ?_ | refine hn2 _ ?_ | refine he2 _ ?_ | refine hf2 _ _ (by decide) ?_ | refine hr2 _ ?_ | refine hn1 _ ?_ | refine he1 _ _ ?_ | refine hr1 _ ?_)
    refine wlk_reg fun KY hKY => ?_
    simp only [go_sem, reduceIte, Nat.reduceEqDiff, Nat.reduceBEq, reduceCtorEq, Nat.reduceLT, Nat.reduceLeDiff, Nat.reduceAdd, Nat.reduceSub, Nat.reduceMul, Nat.reduceDiv, Int.reduceAdd, Int.reduceNeg, Int.reduceEq, Int.reduceLT, Int.reduceLE, c_garlandhelp_Rises_r5, inc (k + 1) (by omega)]
    refine hKY _ ?_
    repeat (first | refine hn6 _ ?_ | refine he6 _ ?_ | refine hf6 _ _ (by decide) ?_ | refine hr6 _ ?_ | refine hn5 _ ?_ | refine he5 _ _ ?_ | refine hr5 _ ?_ | refine hn4 _ ?_ | refine he4 _ _ ?_ | refine hr4 _ ?_ | refine he3 _ _ ?_ | refine hr3 _ ?_ | refine hn2 _ ?_ | refine he2 _ ?_ | refine hf2 _ _ (by decide) ?_ | refine hr2 _ ?_ | refine hn1 _ ?_ | refine he1 _ _ ?_ | refine hr1 _ ?_)
    refine hn3 _ (k + 1) (l.length - (k + 1)) (by omega) (by first | (simp only [go_sem, reduceIte, Nat.reduceEqDiff, Nat.reduceBEq, reduceCtorEq, Nat.reduceLT, Nat.reduceLeDiff, Nat.reduceAdd, Nat.reduceSub, Nat.reduceMul, Nat.reduceDiv, Int.reduceAdd, Int.reduceNeg, Int.reduceEq, Int.reduceLT, Int.reduceLE, updAll_cons, updAll_nil]; done) | rfl) ?_
    rfl
  · refine wlk_cond0 (by first | rfl | (simp only [go_sem, reduceIte, Nat.reduceEqDiff, Nat.reduceBEq, reduceCtorEq, Nat.reduceLT, Nat.reduceLeDiff, Nat.reduceAdd, Nat.reduceSub, Nat.reduceMul, Nat.reduceDiv, Int.reduceAdd, Int.reduceNeg, Int.reduceEq, Int.reduceLT, Int.reduceLE]; try simp (disch := omega) only [decide_eq_true, decide_eq_false])) ?_
    refine wlk_exit ?_
    repeat (first | refine hn4 _ ?_ | refine he4 _ _ ?_ | refine hr4 _ ?_ | refine he3 _ _ ?_ | refine hr3 _ ?_ | refine hn2 _ ?_ | refine he2 _ ?_ | refine hf2 _ _ (by decide) ?_ | refine hr2 _ ?_ | refine hn1 _ ?_ | refine he1 _ _ ?_ | refine hr1 _ ?_)
    refine wlk_sreg fun KY hKY => ?_
    simp only [go_sem, reduceIte, Nat.reduceEqDiff, Nat.reduceBEq, reduceCtorEq, Nat.reduceLT, Nat.reduceLeDiff, Nat.reduceAdd, Nat.reduceSub, Nat.reduceMul, Nat.reduceDiv, Int.reduceAdd, Int.reduceNeg, Int.reduceEq, Int.reduceLT, Int.reduceLE, c_garlandhelp_Rises_r6]
    refine hKY _ ?_
    refine wlk_ret ?_
    repeat (first | refine hn4 _ ?_ | refine he4 _ _ ?_ | refine hr4 _ ?_ | refine he3 _ _ ?_ | refine hr3 _ ?_ | refine hn2 _ ?_ | refine he2 _ ?_ | refine hf2 _ _ (by decide) ?_ | refine hr2 _ ?_ | refine hn1 _ ?_ | refine he1 _ _ ?_ | refine hr1 _ ?_)
    simp only [go_sem, reduceIte, Nat.reduceEqDiff, Nat.reduceBEq, reduceCtorEq, Nat.reduceLT, Nat.reduceLeDiff, Nat.reduceAdd, Nat.reduceSub, Nat.reduceMul, Nat.reduceDiv, Int.reduceAdd, Int.reduceNeg, Int.reduceEq, Int.reduceLT, Int.reduceLE]
theorem each_ok (n : Int) (ends : List Int) (bits : Int) (he : ends.length ≤ 1000000000) : ACalls Try.prog [] n_garlandlaw03_PiecesEach [.sc (.int .i64 n), .imm 1 (ints ends), .sc (.int .u64 bits)] [] fun r h' => r = .sc (.bool true) ∧ h' = [] := by
  refine go_garlandlaw03_PiecesEach rfl ?_
  unfold c_garlandlaw03_PiecesEach v_garlandlaw03_PiecesEach
  refine wlk_sreg fun KY hKY => ?_
  simp only [go_sem, reduceIte, Nat.reduceEqDiff, Nat.reduceBEq, reduceCtorEq, Nat.reduceLT, Nat.reduceLeDiff, Nat.reduceAdd, Nat.reduceSub, Nat.reduceMul, Nat.reduceDiv, Int.reduceAdd, Int.reduceNeg, Int.reduceEq, Int.reduceLT, Int.reduceLE, c_garlandlaw03_PiecesEach_r0]
  refine hKY _ ?_
  refine wlk_sreg fun KY hKY => ?_
  simp only [go_sem, reduceIte, Nat.reduceEqDiff, Nat.reduceBEq, reduceCtorEq, Nat.reduceLT, Nat.reduceLeDiff, Nat.reduceAdd, Nat.reduceSub, Nat.reduceMul, Nat.reduceDiv, Int.reduceAdd, Int.reduceNeg, Int.reduceEq, Int.reduceLT, Int.reduceLE, c_garlandlaw03_PiecesEach_r1]
  apply call_gen [] [] false none rfl
  iterate 8 (first | (simp only [go_sem, reduceIte, Nat.reduceEqDiff, Nat.reduceBEq, reduceCtorEq, Nat.reduceLT, Nat.reduceLeDiff, Nat.reduceAdd, Nat.reduceSub, Nat.reduceMul, Nat.reduceDiv, Int.reduceAdd, Int.reduceNeg, Int.reduceEq, Int.reduceLT, Int.reduceLE, watchIn] <;> rfl) | rfl)
  refine (small_ok n ends 30 60 (by omega) (by omega) (by omega)).mono ?_
  rintro _ _ ⟨⟨N, es, g, hN, hm, rfl⟩, rfl⟩
  refine ⟨Nat.le_of_ble_eq_true rfl, (fun hh => by cases hh), ?_⟩
  simp only [go_sem, reduceIte, Nat.reduceEqDiff, Nat.reduceBEq, reduceCtorEq, Nat.reduceLT, Nat.reduceLeDiff, Nat.reduceAdd, Nat.reduceSub, Nat.reduceMul, Nat.reduceDiv, Int.reduceAdd, Int.reduceNeg, Int.reduceEq, Int.reduceLT, Int.reduceLE, callOut, AState.after]
  refine hKY _ ?_
  refine wlk_sreg fun KY hKY => ?_
  simp only [go_sem, reduceIte, Nat.reduceEqDiff, Nat.reduceBEq, reduceCtorEq, Nat.reduceLT, Nat.reduceLeDiff, Nat.reduceAdd, Nat.reduceSub, Nat.reduceMul, Nat.reduceDiv, Int.reduceAdd, Int.reduceNeg, Int.reduceEq, Int.reduceLT, Int.reduceLE, c_garlandlaw03_PiecesEach_r2]
  refine call_view rfl (by simp only [go_sem, reduceIte, Nat.reduceEqDiff, Nat.reduceBEq, reduceCtorEq, Nat.reduceLT, Nat.reduceLeDiff, Nat.reduceAdd, Nat.reduceSub, Nat.reduceMul, Nat.reduceDiv, Int.reduceAdd, Int.reduceNeg, Int.reduceEq, Int.reduceLT, Int.reduceLE] <;> rfl) ((some_ok (n := N) (by omega) (.imm 2 (twos (castE es))) (by simp only [go_sem, reduceIte, Nat.reduceEqDiff, Nat.reduceBEq, reduceCtorEq, Nat.reduceLT, Nat.reduceLeDiff, Nat.reduceAdd, Nat.reduceSub, Nat.reduceMul, Nat.reduceDiv, Int.reduceAdd, Int.reduceNeg, Int.reduceEq, Int.reduceLT, Int.reduceLE]) bits).mono ?_)
  rintro rr hh ⟨⟨l, hl1, hl2, rfl⟩, rfl⟩
  refine ⟨?_, ?_, ?_, ?_⟩
  iterate 3 (first | rfl | simp only [go_sem, reduceIte, Nat.reduceEqDiff, Nat.reduceBEq, reduceCtorEq, Nat.reduceLT, Nat.reduceLeDiff, Nat.reduceAdd, Nat.reduceSub, Nat.reduceMul, Nat.reduceDiv, Int.reduceAdd, Int.reduceNeg, Int.reduceEq, Int.reduceLT, Int.reduceLE])
  simp only [go_sem, reduceIte, Nat.reduceEqDiff, Nat.reduceBEq, reduceCtorEq, Nat.reduceLT, Nat.reduceLeDiff, Nat.reduceAdd, Nat.reduceSub, Nat.reduceMul, Nat.reduceDiv, Int.reduceAdd, Int.reduceNeg, Int.reduceEq, Int.reduceLT, Int.reduceLE]
  refine hKY _ ?_
  have hll : l.length ≤ N := Nat.le_trans (nodup_le (hl1.imp fun h => Nat.ne_of_lt h) (m := List.range N) fun x hx => List.mem_range.2 (hl2 x hx)) (by simp)
  have hw := without_ok g (l.map fun n : Nat => (n : Int)) (by simp; omega)
  rw [ints_nats] at hw
  have hO : ∀ v : Nat, ((v : Int) ∈ l.map fun n : Nat => (n : Int)) ↔ v ∈ l := fun v => by
    simp; exact ⟨fun ⟨a, h, e⟩ => by rw [show v = a by omega]; exact h, fun h => ⟨v, h, rfl⟩⟩
  refine wlk_sreg fun KY hKY => ?_
  simp only [go_sem, reduceIte, Nat.reduceEqDiff, Nat.reduceBEq, reduceCtorEq, Nat.reduceLT, Nat.reduceLeDiff, Nat.reduceAdd, Nat.reduceSub, Nat.reduceMul, Nat.reduceDiv, Int.reduceAdd, Int.reduceNeg, Int.reduceEq, Int.reduceLT, Int.reduceLE, c_garlandlaw03_PiecesEach_r3]
  refine call_view rfl (by simp only [go_sem, reduceIte, Nat.reduceEqDiff, Nat.reduceBEq, reduceCtorEq, Nat.reduceLT, Nat.reduceLeDiff, Nat.reduceAdd, Nat.reduceSub, Nat.reduceMul, Nat.reduceDiv, Int.reduceAdd, Int.reduceNeg, Int.reduceEq, Int.reduceLT, Int.reduceLE] <;> rfl) ((hw).mono ?_)
  rintro rr hh ⟨⟨ps, hps, rfl⟩, rfl⟩
  refine ⟨?_, ?_, ?_, ?_⟩
  iterate 3 (first | rfl | simp only [go_sem, reduceIte, Nat.reduceEqDiff, Nat.reduceBEq, reduceCtorEq, Nat.reduceLT, Nat.reduceLeDiff, Nat.reduceAdd, Nat.reduceSub, Nat.reduceMul, Nat.reduceDiv, Int.reduceAdd, Int.reduceNeg, Int.reduceEq, Int.reduceLT, Int.reduceLE])
  have hpl := pieces_len hps
  simp only [go_sem, reduceIte, Nat.reduceEqDiff, Nat.reduceBEq, reduceCtorEq, Nat.reduceLT, Nat.reduceLeDiff, Nat.reduceAdd, Nat.reduceSub, Nat.reduceMul, Nat.reduceDiv, Int.reduceAdd, Int.reduceNeg, Int.reduceEq, Int.reduceLT, Int.reduceLE]
  refine hKY _ ?_
  simp only [go_sem, reduceIte, Nat.reduceEqDiff, Nat.reduceBEq, reduceCtorEq, Nat.reduceLT, Nat.reduceLeDiff, Nat.reduceAdd, Nat.reduceSub, Nat.reduceMul, Nat.reduceDiv, Int.reduceAdd, Int.reduceNeg, Int.reduceEq, Int.reduceLT, Int.reduceLE]
  refine sem_freeze [0, 9] (by simp only [go_sem, reduceIte, Nat.reduceEqDiff, Nat.reduceBEq, reduceCtorEq, Nat.reduceLT, Nat.reduceLeDiff, Nat.reduceAdd, Nat.reduceSub, Nat.reduceMul, Nat.reduceDiv, Int.reduceAdd, Int.reduceNeg, Int.reduceEq, Int.reduceLT, Int.reduceLE]; rfl) ?_
  simp only [go_sem, reduceIte, Nat.reduceEqDiff, Nat.reduceBEq, reduceCtorEq, Nat.reduceLT, Nat.reduceLeDiff, Nat.reduceAdd, Nat.reduceSub, Nat.reduceMul, Nat.reduceDiv, Int.reduceAdd, Int.reduceNeg, Int.reduceEq, Int.reduceLT, Int.reduceLE]
  refine sem_freeze [0, 8] (by simp only [go_sem, reduceIte, Nat.reduceEqDiff, Nat.reduceBEq, reduceCtorEq, Nat.reduceLT, Nat.reduceLeDiff, Nat.reduceAdd, Nat.reduceSub, Nat.reduceMul, Nat.reduceDiv, Int.reduceAdd, Int.reduceNeg, Int.reduceEq, Int.reduceLT, Int.reduceLE]; rfl) ?_
  simp only [go_sem, reduceIte, Nat.reduceEqDiff, Nat.reduceBEq, reduceCtorEq, Nat.reduceLT, Nat.reduceLeDiff, Nat.reduceAdd, Nat.reduceSub, Nat.reduceMul, Nat.reduceDiv, Int.reduceAdd, Int.reduceNeg, Int.reduceEq, Int.reduceLT, Int.reduceLE]
  refine wlk_seq fun X1 hn1 he1 hr1 => ?_
  refine wlk_sreg fun KY hKY => ?_
  simp only [go_sem, reduceIte, Nat.reduceEqDiff, Nat.reduceBEq, reduceCtorEq, Nat.reduceLT, Nat.reduceLeDiff, Nat.reduceAdd, Nat.reduceSub, Nat.reduceMul, Nat.reduceDiv, Int.reduceAdd, Int.reduceNeg, Int.reduceEq, Int.reduceLT, Int.reduceLE, c_garlandlaw03_PiecesEach_r4]
  refine call_view rfl (by simp only [go_sem, reduceIte, Nat.reduceEqDiff, Nat.reduceBEq, reduceCtorEq, Nat.reduceLT, Nat.reduceLeDiff, Nat.reduceAdd, Nat.reduceSub, Nat.reduceMul, Nat.reduceDiv, Int.reduceAdd, Int.reduceNeg, Int.reduceEq, Int.reduceLT, Int.reduceLE] <;> rfl) ((awake03_ok).mono ?_)
  rintro rr hh ⟨rfl, rfl⟩
  refine ⟨rfl, rfl, rfl, ?_⟩
  simp only [go_sem, reduceIte, Nat.reduceEqDiff, Nat.reduceBEq, reduceCtorEq, Nat.reduceLT, Nat.reduceLeDiff, Nat.reduceAdd, Nat.reduceSub, Nat.reduceMul, Nat.reduceDiv, Int.reduceAdd, Int.reduceNeg, Int.reduceEq, Int.reduceLT, Int.reduceLE]
  refine hKY _ ?_
  refine wlk_cond0 (by first | rfl | (simp only [go_sem, reduceIte, Nat.reduceEqDiff, Nat.reduceBEq, reduceCtorEq, Nat.reduceLT, Nat.reduceLeDiff, Nat.reduceAdd, Nat.reduceSub, Nat.reduceMul, Nat.reduceDiv, Int.reduceAdd, Int.reduceNeg, Int.reduceEq, Int.reduceLT, Int.reduceLE]; try simp (disch := omega) only [decide_eq_true, decide_eq_false])) ?_
  refine wlk_skip ?_
  repeat (first | refine hn1 _ ?_ | refine he1 _ _ ?_ | refine hr1 _ ?_)
  have hby : N * 8 ≤ 140737488355328 := by omega
  have hb0 : (N : Int) ≤ 9223372036854775807 := by omega
  refine wlk_sreg fun KY hKY => ?_
  simp only [go_sem, reduceIte, Nat.reduceEqDiff, Nat.reduceBEq, reduceCtorEq, Nat.reduceLT, Nat.reduceLeDiff, Nat.reduceAdd, Nat.reduceSub, Nat.reduceMul, Nat.reduceDiv, Int.reduceAdd, Int.reduceNeg, Int.reduceEq, Int.reduceLT, Int.reduceLE, c_garlandlaw03_PiecesEach_r6, nats_zero, hby, hb0]
  repeat (simp (disch := omega) only [if_pos, if_neg, decide_eq_true, decide_eq_false, incS, nats_get, ints_get, nats_zero, hby, hb0]; try simp only [go_sem, reduceIte, Nat.reduceEqDiff, Nat.reduceBEq, reduceCtorEq, Nat.reduceLT, Nat.reduceLeDiff, Nat.reduceAdd, Nat.reduceSub, Nat.reduceMul, Nat.reduceDiv, Int.reduceAdd, Int.reduceNeg, Int.reduceEq, Int.reduceLT, Int.reduceLE, nats_zero, hby, hb0])
  refine hKY _ ?_
  refine wlk_seq fun X2 hn2 he2 hr2 => ?_
  refine wlk_sreg fun KY hKY => ?_
  simp only [go_sem, reduceIte, Nat.reduceEqDiff, Nat.reduceBEq, reduceCtorEq, Nat.reduceLT, Nat.reduceLeDiff, Nat.reduceAdd, Nat.reduceSub, Nat.reduceMul, Nat.reduceDiv, Int.reduceAdd, Int.reduceNeg, Int.reduceEq, Int.reduceLT, Int.reduceLE, c_garlandlaw03_PiecesEach_r7]
  refine hKY _ ?_
  have f0 : List.replicate N 0 = (List.range N).map (posOf []) := by
    apply List.ext_getElem (by simp)
    intro i h1 h2
    simp [posOf]
  rw [f0]
  simp only [go_sem, reduceIte, Nat.reduceEqDiff, Nat.reduceBEq, reduceCtorEq, Nat.reduceLT, Nat.reduceLeDiff, Nat.reduceAdd, Nat.reduceSub, Nat.reduceMul, Nat.reduceDiv, Int.reduceAdd, Int.reduceNeg, Int.reduceEq, Int.reduceLT, Int.reduceLE]
  refine wlk_blk fun X3 hn3 he3 hf3 hr3 => ?_
  try simp only [go_sem, reduceIte, Nat.reduceEqDiff, Nat.reduceBEq, reduceCtorEq, Nat.reduceLT, Nat.reduceLeDiff, Nat.reduceAdd, Nat.reduceSub, Nat.reduceMul, Nat.reduceDiv, Int.reduceAdd, Int.reduceNeg, Int.reduceEq, Int.reduceLT, Int.reduceLE]
  refine wlk_lp (α := Nat) [12, 13, 28, 35, 71, 78, 107] (fun i => [(10, .own (some 1) (nats ((List.range N).map (posOf (ps.take i))))), (11, .sc (.int .i64 (i : Int)))]) (fun i => []) (fun i q => i ≤ ps.length ∧ q = ps.length - i) (0) (ps.length) rfl (by first | (simp only [go_sem, reduceIte, Nat.reduceEqDiff, Nat.reduceBEq, reduceCtorEq, Nat.reduceLT, Nat.reduceLeDiff, Nat.reduceAdd, Nat.reduceSub, Nat.reduceMul, Nat.reduceDiv, Int.reduceAdd, Int.reduceNeg, Int.reduceEq, Int.reduceLT, Int.reduceLE, updAll_cons, updAll_nil]; done) | rfl) (⟨by omega, rfl⟩) ?_
  rintro i q ⟨hi, rfl⟩ X4 hn4 he4 hr4
  simp only [go_sem, reduceIte, Nat.reduceEqDiff, Nat.reduceBEq, reduceCtorEq, Nat.reduceLT, Nat.reduceLeDiff, Nat.reduceAdd, Nat.reduceSub, Nat.reduceMul, Nat.reduceDiv, Int.reduceAdd, Int.reduceNeg, Int.reduceEq, Int.reduceLT, Int.reduceLE, updAll_cons, updAll_nil]
  refine wlk_seq fun X5 hn5 he5 hr5 => ?_
  refine wlk_sreg fun KY hKY => ?_
  simp only [go_sem, reduceIte, Nat.reduceEqDiff, Nat.reduceBEq, reduceCtorEq, Nat.reduceLT, Nat.reduceLeDiff, Nat.reduceAdd, Nat.reduceSub, Nat.reduceMul, Nat.reduceDiv, Int.reduceAdd, Int.reduceNeg, Int.reduceEq, Int.reduceLT, Int.reduceLE, c_garlandlaw03_PiecesEach_r8]
  refine hKY _ ?_
  by_cases hi2 : i < ps.length
  · refine wlk_cond1 (by first | rfl | (simp only [go_sem, reduceIte, Nat.reduceEqDiff, Nat.reduceBEq, reduceCtorEq, Nat.reduceLT, Nat.reduceLeDiff, Nat.reduceAdd, Nat.reduceSub, Nat.reduceMul, Nat.reduceDiv, Int.reduceAdd, Int.reduceNeg, Int.reduceEq, Int.reduceLT, Int.reduceLE]; try simp (disch := omega) only [decide_eq_true, decide_eq_false])) ?_
    refine wlk_skip ?_
    repeat (first | refine hn5 _ ?_ | refine he5 _ _ ?_ | refine hr5 _ ?_ | refine he4 _ _ ?_ | refine hr4 _ ?_ | refine hn3 _ ?_ | refine he3 _ ?_ | refine hf3 _ _ (by decide) ?_ | refine hr3 _ ?_ | refine hn2 _ ?_ | refine he2 _ _ ?_ | refine hr2 _ ?_ | refine hn1 _ ?_ | refine he1 _ _ ?_ | refine hr1 _ ?_)
    refine wlk_seq fun X6 hn6 he6 hr6 => ?_
    refine wlk_blk fun X7 hn7 he7 hf7 hr7 => ?_
    have hp : ps[i]? = some ps[i] := List.getElem?_eq_getElem hi2
    have hpm : ps[i] ∈ ps := List.getElem_mem hi2
    generalize ps[i] = p at hp hpm
    have hinc := hps.inc p hpm
    have hne := hps.ne p hpm
    have hplen := piece_len hps hpm
    obtain ⟨a, p', rfl⟩ := List.exists_cons_of_ne_nil hne
    have hp0 : ¬ ((p'.length + 1 : Nat) : Int) = 0 := by omega
    have hg0 : (nats (a :: p'))[0]? = some (.sc (.int .i64 (a : Int))) := rfl
    have hpos : 0 < p'.length + 1 := by omega
    refine wlk_seq fun X8 hn8 he8 hr8 => ?_
    have hrow := rowsI_get hp
    have hcase : decide (0 < (i : Int)) = false ∨ ∃ (m b : Nat) (q' : List Nat), decide (0 < (i : Int)) = true ∧ IntKind.i64.wrap ((i : Int) - 1) = (m : Int) ∧ m < ps.length ∧ (rowsI ps)[m]? = some (.imm 1 (nats (b :: q'))) ∧ ¬ ((a : Int) ≤ (b : Int)) ∧ (nats (b :: q'))[0]? = some (.sc (.int .i64 (b : Int))) ∧ 0 < q'.length + 1 := by
      by_cases hi0 : i = 0
      · exact .inl (decide_eq_false (by omega))
      · right
        obtain ⟨m, hmi⟩ : ∃ m, i = m + 1 := ⟨i - 1, by omega⟩
        have hm2 : m < ps.length := by omega
        have hq : ps[m]? = some ps[m] := List.getElem?_eq_getElem hm2
        have hqne := hps.ne _ (List.getElem_mem hm2)
        have hh := List.pairwise_iff_getElem.1 hps.heads m i hm2 hi2 (by omega)
        rw [(List.getElem?_eq_some_iff.1 hp).2] at hh
        generalize ps[m] = b at hq hqne hh
        obtain ⟨b, q', rfl⟩ := List.exists_cons_of_ne_nil hqne
        exact ⟨m, b, q', decide_eq_true (by omega), by rw [IntWalk.i64_in _ (by omega)]; omega, hm2, rowsI_get hq, by have := hh b rfl a rfl; omega, rfl, by omega⟩
    have hrises := rises_ok (a :: p') hinc (by omega)
    refine wlk_sdraw fun KY hKY => ?_
    apply meet
    · intro H
      rcases hcase with d0 | ⟨m, b, q', d0, hdec, hm2, hrow2, hba, hg1, hpos2⟩
      · simp only [go_sem, reduceIte, Nat.reduceEqDiff, Nat.reduceBEq, reduceCtorEq, Nat.reduceLT, Nat.reduceLeDiff, Nat.reduceAdd, Nat.reduceSub, Nat.reduceMul, Nat.reduceDiv, Int.reduceAdd, Int.reduceNeg, Int.reduceEq, Int.reduceLT, Int.reduceLE, c_garlandlaw03_PiecesEach_r9, hrow, hi2, hp0, gt_iff_lt, d0]
        refine call_view rfl (by simp only [go_sem, reduceIte, Nat.reduceEqDiff, Nat.reduceBEq, reduceCtorEq, Nat.reduceLT, Nat.reduceLeDiff, Nat.reduceAdd, Nat.reduceSub, Nat.reduceMul, Nat.reduceDiv, Int.reduceAdd, Int.reduceNeg, Int.reduceEq, Int.reduceLT, Int.reduceLE] <;> rfl) ((hrises).mono ?_)
        rintro rr hh ⟨rfl, rfl⟩
        refine ⟨rfl, rfl, rfl, ?_⟩
        simp only [go_sem, reduceIte, Nat.reduceEqDiff, Nat.reduceBEq, reduceCtorEq, Nat.reduceLT, Nat.reduceLeDiff, Nat.reduceAdd, Nat.reduceSub, Nat.reduceMul, Nat.reduceDiv, Int.reduceAdd, Int.reduceNeg, Int.reduceEq, Int.reduceLT, Int.reduceLE, gt_iff_lt, d0]
        refine hKY _ ?_
        repeat (first | refine hn8 _ ?_ | refine he8 _ _ ?_ | refine hr8 _ ?_ | refine hn7 _ ?_ | refine he7 _ ?_ | refine hf7 _ _ (by decide) ?_ | refine hr7 _ ?_ | refine hn6 _ ?_ | refine he6 _ _ ?_ | refine hr6 _ ?_ | refine hn5 _ ?_ | refine he5 _ _ ?_ | refine hr5 _ ?_ | refine he4 _ _ ?_ | refine hr4 _ ?_ | refine hn3 _ ?_ | refine he3 _ ?_ | refine hf3 _ _ (by decide) ?_ | refine hr3 _ ?_ | refine hn2 _ ?_ | refine he2 _ _ ?_ | refine hr2 _ ?_ | refine hn1 _ ?_ | refine he1 _ _ ?_ | refine hr1 _ ?_)
        simp only [go_sem, reduceIte, Nat.reduceEqDiff, Nat.reduceBEq, reduceCtorEq, Nat.reduceLT, Nat.reduceLeDiff, Nat.reduceAdd, Nat.reduceSub, Nat.reduceMul, Nat.reduceDiv, Int.reduceAdd, Int.reduceNeg, Int.reduceEq, Int.reduceLT, Int.reduceLE]
        exact H
      · simp only [go_sem, reduceIte, Nat.reduceEqDiff, Nat.reduceBEq, reduceCtorEq, Nat.reduceLT, Nat.reduceLeDiff, Nat.reduceAdd, Nat.reduceSub, Nat.reduceMul, Nat.reduceDiv, Int.reduceAdd, Int.reduceNeg, Int.reduceEq, Int.reduceLT, Int.reduceLE, c_garlandlaw03_PiecesEach_r9, hrow, hi2, hp0, gt_iff_lt, d0]
        refine call_view rfl (by simp only [go_sem, reduceIte, Nat.reduceEqDiff, Nat.reduceBEq, reduceCtorEq, Nat.reduceLT, Nat.reduceLeDiff, Nat.reduceAdd, Nat.reduceSub, Nat.reduceMul, Nat.reduceDiv, Int.reduceAdd, Int.reduceNeg, Int.reduceEq, Int.reduceLT, Int.reduceLE] <;> rfl) ((hrises).mono ?_)
        rintro rr hh ⟨rfl, rfl⟩
        refine ⟨rfl, rfl, rfl, ?_⟩
        simp only [go_sem, reduceIte, Nat.reduceEqDiff, Nat.reduceBEq, reduceCtorEq, Nat.reduceLT, Nat.reduceLeDiff, Nat.reduceAdd, Nat.reduceSub, Nat.reduceMul, Nat.reduceDiv, Int.reduceAdd, Int.reduceNeg, Int.reduceEq, Int.reduceLT, Int.reduceLE, hdec, hba, hrow, hrow2, hi2, hm2, hg0, hg1, hpos, hpos2, gt_iff_lt, d0]
        refine hKY _ ?_
        repeat (first | refine hn8 _ ?_ | refine he8 _ _ ?_ | refine hr8 _ ?_ | refine hn7 _ ?_ | refine he7 _ ?_ | refine hf7 _ _ (by decide) ?_ | refine hr7 _ ?_ | refine hn6 _ ?_ | refine he6 _ _ ?_ | refine hr6 _ ?_ | refine hn5 _ ?_ | refine he5 _ _ ?_ | refine hr5 _ ?_ | refine he4 _ _ ?_ | refine hr4 _ ?_ | refine hn3 _ ?_ | refine he3 _ ?_ | refine hf3 _ _ (by decide) ?_ | refine hr3 _ ?_ | refine hn2 _ ?_ | refine he2 _ _ ?_ | refine hr2 _ ?_ | refine hn1 _ ?_ | refine he1 _ _ ?_ | refine hr1 _ ?_)
        simp only [go_sem, reduceIte, Nat.reduceEqDiff, Nat.reduceBEq, reduceCtorEq, Nat.reduceLT, Nat.reduceLeDiff, Nat.reduceAdd, Nat.reduceSub, Nat.reduceMul, Nat.reduceDiv, Int.reduceAdd, Int.reduceNeg, Int.reduceEq, Int.reduceLT, Int.reduceLE]
        exact H
    have hdis : ∀ v ∈ (a :: p'), ∀ q ∈ ps.take i, v ∉ q := by
      intro v hv q hq hvq
      obtain ⟨j, hj⟩ := List.mem_iff_getElem?.1 hq
      rw [List.getElem?_take] at hj
      split at hj
      · rename_i hji
        obtain ⟨h1, h2⟩ := List.getElem?_eq_some_iff.1 hj
        have := List.pairwise_iff_getElem.1 hps.disj j i h1 hi2 hji
        rw [h2, (List.getElem?_eq_some_iff.1 hp).2] at this
        exact this v hvq hv
      · cases hj
    have hout : ∀ v ∈ (a :: p'), v < N ∧ v ∉ l := fun v hv => by
      have := (hps.mem v).1 ⟨_, hpm, hv⟩
      exact ⟨this.1, fun h => this.2 ((hO v).2 h)⟩
    generalize a :: p' = p at hp hpm hinc hplen hrow hdis hout
    clear hp0 hg0 hpos
    refine wlk_cond0 (by first | rfl | (simp only [go_sem, reduceIte, Nat.reduceEqDiff, Nat.reduceBEq, reduceCtorEq, Nat.reduceLT, Nat.reduceLeDiff, Nat.reduceAdd, Nat.reduceSub, Nat.reduceMul, Nat.reduceDiv, Int.reduceAdd, Int.reduceNeg, Int.reduceEq, Int.reduceLT, Int.reduceLE]; try simp (disch := omega) only [decide_eq_true, decide_eq_false])) ?_
    refine wlk_skip ?_
    repeat (first | refine hn8 _ ?_ | refine he8 _ _ ?_ | refine hr8 _ ?_ | refine hn7 _ ?_ | refine he7 _ ?_ | refine hf7 _ _ (by decide) ?_ | refine hr7 _ ?_ | refine hn6 _ ?_ | refine he6 _ _ ?_ | refine hr6 _ ?_ | refine hn5 _ ?_ | refine he5 _ _ ?_ | refine hr5 _ ?_ | refine he4 _ _ ?_ | refine hr4 _ ?_ | refine hn3 _ ?_ | refine he3 _ ?_ | refine hf3 _ _ (by decide) ?_ | refine hr3 _ ?_ | refine hn2 _ ?_ | refine he2 _ _ ?_ | refine hr2 _ ?_ | refine hn1 _ ?_ | refine he1 _ _ ?_ | refine hr1 _ ?_)
    refine wlk_sreg fun KY hKY => ?_
    simp only [go_sem, reduceIte, Nat.reduceEqDiff, Nat.reduceBEq, reduceCtorEq, Nat.reduceLT, Nat.reduceLeDiff, Nat.reduceAdd, Nat.reduceSub, Nat.reduceMul, Nat.reduceDiv, Int.reduceAdd, Int.reduceNeg, Int.reduceEq, Int.reduceLT, Int.reduceLE, c_garlandlaw03_PiecesEach_r11]
    refine hKY _ ?_
    rw [show (List.range N).map (posOf (ps.take i)) = (List.range N).map (fun v => if v ∈ p.take 0 then i + 1 else posOf (ps.take i) v) by simp]
    simp only [go_sem, reduceIte, Nat.reduceEqDiff, Nat.reduceBEq, reduceCtorEq, Nat.reduceLT, Nat.reduceLeDiff, Nat.reduceAdd, Nat.reduceSub, Nat.reduceMul, Nat.reduceDiv, Int.reduceAdd, Int.reduceNeg, Int.reduceEq, Int.reduceLT, Int.reduceLE]
    refine wlk_blk fun X9 hn9 he9 hf9 hr9 => ?_
    try simp only [go_sem, reduceIte, Nat.reduceEqDiff, Nat.reduceBEq, reduceCtorEq, Nat.reduceLT, Nat.reduceLeDiff, Nat.reduceAdd, Nat.reduceSub, Nat.reduceMul, Nat.reduceDiv, Int.reduceAdd, Int.reduceNeg, Int.reduceEq, Int.reduceLT, Int.reduceLE]
    refine wlk_lp (α := Nat) [13, 78, 107] (fun k => [(10, .own (some 1) (nats ((List.range N).map (fun v => if v ∈ p.take k then i + 1 else posOf (ps.take i) v)))), (12, .sc (.int .i64 (k : Int)))]) (fun k => []) (fun k q => k ≤ p.length ∧ q = p.length - k) (0) (p.length) rfl (by first | (simp only [go_sem, reduceIte, Nat.reduceEqDiff, Nat.reduceBEq, reduceCtorEq, Nat.reduceLT, Nat.reduceLeDiff, Nat.reduceAdd, Nat.reduceSub, Nat.reduceMul, Nat.reduceDiv, Int.reduceAdd, Int.reduceNeg, Int.reduceEq, Int.reduceLT, Int.reduceLE, updAll_cons, updAll_nil]; done) | rfl) (⟨by omega, rfl⟩) ?_
    rintro k q ⟨hk, rfl⟩ X10 hn10 he10 hr10
    simp only [go_sem, reduceIte, Nat.reduceEqDiff, Nat.reduceBEq, reduceCtorEq, Nat.reduceLT, Nat.reduceLeDiff, Nat.reduceAdd, Nat.reduceSub, Nat.reduceMul, Nat.reduceDiv, Int.reduceAdd, Int.reduceNeg, Int.reduceEq, Int.reduceLT, Int.reduceLE, updAll_cons, updAll_nil]
    refine wlk_seq fun X11 hn11 he11 hr11 => ?_
    refine wlk_sreg fun KY hKY => ?_
    simp only [go_sem, reduceIte, Nat.reduceEqDiff, Nat.reduceBEq, reduceCtorEq, Nat.reduceLT, Nat.reduceLeDiff, Nat.reduceAdd, Nat.reduceSub, Nat.reduceMul, Nat.reduceDiv, Int.reduceAdd, Int.reduceNeg, Int.reduceEq, Int.reduceLT, Int.reduceLE, c_garlandlaw03_PiecesEach_r12, hrow, hi2]
    refine hKY _ ?_
    by_cases hk2 : k < p.length
    · refine wlk_cond1 (by first | rfl | (simp only [go_sem, reduceIte, Nat.reduceEqDiff, Nat.reduceBEq, reduceCtorEq, Nat.reduceLT, Nat.reduceLeDiff, Nat.reduceAdd, Nat.reduceSub, Nat.reduceMul, Nat.reduceDiv, Int.reduceAdd, Int.reduceNeg, Int.reduceEq, Int.reduceLT, Int.reduceLE]; try simp (disch := omega) only [decide_eq_true, decide_eq_false])) ?_
      refine wlk_skip ?_
      repeat (first | refine hn11 _ ?_ | refine he11 _ _ ?_ | refine hr11 _ ?_ | refine he10 _ _ ?_ | refine hr10 _ ?_ | refine hn9 _ ?_ | refine he9 _ ?_ | refine hf9 _ _ (by decide) ?_ | refine hr9 _ ?_ | refine hn8 _ ?_ | refine he8 _ _ ?_ | refine hr8 _ ?_ | refine hn7 _ ?_ | refine he7 _ ?_ | refine hf7 _ _ (by decide) ?_ | refine hr7 _ ?_ | refine hn6 _ ?_ | refine he6 _ _ ?_ | refine hr6 _ ?_ | refine hn5 _ ?_ | refine he5 _ _ ?_ | refine hr5 _ ?_ | refine he4 _ _ ?_ | refine hr4 _ ?_ | refine hn3 _ ?_ | refine he3 _ ?_ | refine hf3 _ _ (by decide) ?_ | refine hr3 _ ?_ | refine hn2 _ ?_ | refine he2 _ _ ?_ | refine hr2 _ ?_ | refine hn1 _ ?_ | refine he1 _ _ ?_ | refine hr1 _ ?_)
      refine wlk_seq fun X12 hn12 he12 hr12 => ?_
      refine wlk_blk fun X13 hn13 he13 hf13 hr13 => ?_
      have hx : p[k]? = some p[k] := List.getElem?_eq_getElem hk2
      have hxm : p[k] ∈ p := List.getElem_mem hk2
      have hxt : p[k] ∉ p.take k := by
        intro h
        obtain ⟨j, hj⟩ := List.mem_iff_getElem?.1 h
        rw [List.getElem?_take] at hj
        split at hj
        · rename_i hjk
          obtain ⟨h1, h2⟩ := List.getElem?_eq_some_iff.1 hj
          have := List.pairwise_iff_getElem.1 hinc j k h1 hk2 hjk
          omega
        · cases hj
      generalize p[k] = v at hx hxm hxt
      obtain ⟨hvN, hvl⟩ := hout v hxm
      refine wlk_sreg fun KY hKY => ?_
      simp only [go_sem, reduceIte, Nat.reduceEqDiff, Nat.reduceBEq, reduceCtorEq, Nat.reduceLT, Nat.reduceLeDiff, Nat.reduceAdd, Nat.reduceSub, Nat.reduceMul, Nat.reduceDiv, Int.reduceAdd, Int.reduceNeg, Int.reduceEq, Int.reduceLT, Int.reduceLE, c_garlandlaw03_PiecesEach_r13, hrow, hi2, natsG hx, hk2]
      refine hKY _ ?_
      refine wlk_seq fun X14 hn14 he14 hr14 => ?_
      have v0 : ¬ ((v : Int) < 0) := by omega
      have v1 : ¬ ((N : Int) ≤ (v : Int)) := by omega
      have hz : posOf (ps.take i) v = 0 := pos_zero.2 (hdis v hxm)
      have hg2 : (nats ((List.range N).map (fun v => if v ∈ p.take k then i + 1 else posOf (ps.take i) v)))[v]? = some (.sc (.int .i64 0)) := by
        rw [nats_get (by simpa using hvN), getD_range hvN, if_neg hxt, hz]; rfl
      have hvl2 : hasI l (v : Int) = false := by rw [Bool.eq_false_iff]; exact fun h => hvl (hasI_nat.1 h)
      refine wlk_sreg fun KY hKY => ?_
      simp only [go_sem, reduceIte, Nat.reduceEqDiff, Nat.reduceBEq, reduceCtorEq, Nat.reduceLT, Nat.reduceLeDiff, Nat.reduceAdd, Nat.reduceSub, Nat.reduceMul, Nat.reduceDiv, Int.reduceAdd, Int.reduceNeg, Int.reduceEq, Int.reduceLT, Int.reduceLE, c_garlandlaw03_PiecesEach_r14, v0, v1, hg2, hvN]
      refine call_view rfl (by simp only [go_sem, reduceIte, Nat.reduceEqDiff, Nat.reduceBEq, reduceCtorEq, Nat.reduceLT, Nat.reduceLeDiff, Nat.reduceAdd, Nat.reduceSub, Nat.reduceMul, Nat.reduceDiv, Int.reduceAdd, Int.reduceNeg, Int.reduceEq, Int.reduceLT, Int.reduceLE] <;> rfl) ((inN_ok l (v : Int) (by omega)).mono ?_)
      rintro rr hh ⟨rfl, rfl⟩
      refine ⟨rfl, rfl, rfl, ?_⟩
      simp only [go_sem, reduceIte, Nat.reduceEqDiff, Nat.reduceBEq, reduceCtorEq, Nat.reduceLT, Nat.reduceLeDiff, Nat.reduceAdd, Nat.reduceSub, Nat.reduceMul, Nat.reduceDiv, Int.reduceAdd, Int.reduceNeg, Int.reduceEq, Int.reduceLT, Int.reduceLE, hvl2]
      refine hKY _ ?_
      refine wlk_cond0 (by first | rfl | (simp only [go_sem, reduceIte, Nat.reduceEqDiff, Nat.reduceBEq, reduceCtorEq, Nat.reduceLT, Nat.reduceLeDiff, Nat.reduceAdd, Nat.reduceSub, Nat.reduceMul, Nat.reduceDiv, Int.reduceAdd, Int.reduceNeg, Int.reduceEq, Int.reduceLT, Int.reduceLE]; try simp (disch := omega) only [decide_eq_true, decide_eq_false])) ?_
      refine wlk_skip ?_
      repeat (first | refine hn14 _ ?_ | refine he14 _ _ ?_ | refine hr14 _ ?_ | refine hn13 _ ?_ | refine he13 _ ?_ | refine hf13 _ _ (by decide) ?_ | refine hr13 _ ?_ | refine hn12 _ ?_ | refine he12 _ _ ?_ | refine hr12 _ ?_ | refine hn11 _ ?_ | refine he11 _ _ ?_ | refine hr11 _ ?_ | refine he10 _ _ ?_ | refine hr10 _ ?_ | refine hn9 _ ?_ | refine he9 _ ?_ | refine hf9 _ _ (by decide) ?_ | refine hr9 _ ?_ | refine hn8 _ ?_ | refine he8 _ _ ?_ | refine hr8 _ ?_ | refine hn7 _ ?_ | refine he7 _ ?_ | refine hf7 _ _ (by decide) ?_ | refine hr7 _ ?_ | refine hn6 _ ?_ | refine he6 _ _ ?_ | refine hr6 _ ?_ | refine hn5 _ ?_ | refine he5 _ _ ?_ | refine hr5 _ ?_ | refine he4 _ _ ?_ | refine hr4 _ ?_ | refine hn3 _ ?_ | refine he3 _ ?_ | refine hf3 _ _ (by decide) ?_ | refine hr3 _ ?_ | refine hn2 _ ?_ | refine he2 _ _ ?_ | refine hr2 _ ?_ | refine hn1 _ ?_ | refine he1 _ _ ?_ | refine hr1 _ ?_)
      have hset : ((List.range N).map (fun v => if v ∈ p.take k then i + 1 else posOf (ps.take i) v)).set v (i + 1) = (List.range N).map (fun v => if v ∈ p.take (k + 1) then i + 1 else posOf (ps.take i) v) := by
        have hmem : ∀ w, w ∈ p.take (k + 1) ↔ w ∈ p.take k ∨ w = v := fun w => by rw [List.take_add_one, hx]; simp
        refine set_range (by rw [if_pos ((hmem v).2 (.inr rfl))]) (fun w hw => ?_)
        by_cases h : w ∈ p.take k
        · rw [if_pos h, if_pos ((hmem w).2 (.inl h))]
        · rw [if_neg h, if_neg (fun h' => ((hmem w).1 h').elim h hw)]
      refine wlk_reg fun KY hKY => ?_
      simp only [go_sem, reduceIte, Nat.reduceEqDiff, Nat.reduceBEq, reduceCtorEq, Nat.reduceLT, Nat.reduceLeDiff, Nat.reduceAdd, Nat.reduceSub, Nat.reduceMul, Nat.reduceDiv, Int.reduceAdd, Int.reduceNeg, Int.reduceEq, Int.reduceLT, Int.reduceLE, c_garlandlaw03_PiecesEach_r16, inc i (by omega), hvN, hset]
      refine hKY _ ?_
      repeat (first | refine hn14 _ ?_ | refine he14 _ _ ?_ | refine hr14 _ ?_ | refine hn13 _ ?_ | refine he13 _ ?_ | refine hf13 _ _ (by decide) ?_ | refine hr13 _ ?_ | refine hn12 _ ?_ | refine he12 _ _ ?_ | refine hr12 _ ?_ | refine hn11 _ ?_ | refine he11 _ _ ?_ | refine hr11 _ ?_ | refine he10 _ _ ?_ | refine hr10 _ ?_ | refine hn9 _ ?_ | refine he9 _ ?_ | refine hf9 _ _ (by decide) ?_ | refine hr9 _ ?_ | refine hn8 _ ?_ | refine he8 _ _ ?_ | refine hr8 _ ?_ | refine hn7 _ ?_ | refine he7 _ ?_ | refine hf7 _ _ (by decide) ?_ | refine hr7 _ ?_ | refine hn6 _ ?_ | refine he6 _ _ ?_ | refine hr6 _ ?_ | refine hn5 _ ?_ | refine he5 _ _ ?_ | refine hr5 _ ?_ | refine he4 _ _ ?_ | refine hr4 _ ?_ | refine hn3 _ ?_ | refine he3 _ ?_ | refine hf3 _ _ (by decide) ?_ | refine hr3 _ ?_ | refine hn2 _ ?_ | refine he2 _ _ ?_ | refine hr2 _ ?_ | refine hn1 _ ?_ | refine he1 _ _ ?_ | refine hr1 _ ?_)
      refine wlk_reg fun KY hKY => ?_
      simp only [go_sem, reduceIte, Nat.reduceEqDiff, Nat.reduceBEq, reduceCtorEq, Nat.reduceLT, Nat.reduceLeDiff, Nat.reduceAdd, Nat.reduceSub, Nat.reduceMul, Nat.reduceDiv, Int.reduceAdd, Int.reduceNeg, Int.reduceEq, Int.reduceLT, Int.reduceLE, c_garlandlaw03_PiecesEach_r17, inc k (by omega)]
      refine hKY _ ?_
      repeat (first | refine hn14 _ ?_ | refine he14 _ _ ?_ | refine hr14 _ ?_ | refine hn13 _ ?_ | refine he13 _ ?_ | refine hf13 _ _ (by decide) ?_ | refine hr13 _ ?_ | refine hn12 _ ?_ | refine he12 _ _ ?_ | refine hr12 _ ?_ | refine hn11 _ ?_ | refine he11 _ _ ?_ | refine hr11 _ ?_ | refine he10 _ _ ?_ | refine hr10 _ ?_ | refine hn9 _ ?_ | refine he9 _ ?_ | refine hf9 _ _ (by decide) ?_ | refine hr9 _ ?_ | refine hn8 _ ?_ | refine he8 _ _ ?_ | refine hr8 _ ?_ | refine hn7 _ ?_ | refine he7 _ ?_ | refine hf7 _ _ (by decide) ?_ | refine hr7 _ ?_ | refine hn6 _ ?_ | refine he6 _ _ ?_ | refine hr6 _ ?_ | refine hn5 _ ?_ | refine he5 _ _ ?_ | refine hr5 _ ?_ | refine he4 _ _ ?_ | refine hr4 _ ?_ | refine hn3 _ ?_ | refine he3 _ ?_ | refine hf3 _ _ (by decide) ?_ | refine hr3 _ ?_ | refine hn2 _ ?_ | refine he2 _ _ ?_ | refine hr2 _ ?_ | refine hn1 _ ?_ | refine he1 _ _ ?_ | refine hr1 _ ?_)
      refine hn10 _ (k + 1) (p.length - (k + 1)) (by omega) (by first | (simp only [go_sem, reduceIte, Nat.reduceEqDiff, Nat.reduceBEq, reduceCtorEq, Nat.reduceLT, Nat.reduceLeDiff, Nat.reduceAdd, Nat.reduceSub, Nat.reduceMul, Nat.reduceDiv, Int.reduceAdd, Int.reduceNeg, Int.reduceEq, Int.reduceLT, Int.reduceLE, updAll_cons, updAll_nil]; done) | rfl) ?_
      exact ⟨hk2, rfl⟩
    · refine wlk_cond0 (by first | rfl | (simp only [go_sem, reduceIte, Nat.reduceEqDiff, Nat.reduceBEq, reduceCtorEq, Nat.reduceLT, Nat.reduceLeDiff, Nat.reduceAdd, Nat.reduceSub, Nat.reduceMul, Nat.reduceDiv, Int.reduceAdd, Int.reduceNeg, Int.reduceEq, Int.reduceLT, Int.reduceLE]; try simp (disch := omega) only [decide_eq_true, decide_eq_false])) ?_
      refine wlk_exit ?_
      repeat (first | refine hn11 _ ?_ | refine he11 _ _ ?_ | refine hr11 _ ?_ | refine he10 _ _ ?_ | refine hr10 _ ?_ | refine hn9 _ ?_ | refine he9 _ ?_ | refine hf9 _ _ (by decide) ?_ | refine hr9 _ ?_ | refine hn8 _ ?_ | refine he8 _ _ ?_ | refine hr8 _ ?_ | refine hn7 _ ?_ | refine he7 _ ?_ | refine hf7 _ _ (by decide) ?_ | refine hr7 _ ?_ | refine hn6 _ ?_ | refine he6 _ _ ?_ | refine hr6 _ ?_ | refine hn5 _ ?_ | refine he5 _ _ ?_ | refine hr5 _ ?_ | refine he4 _ _ ?_ | refine hr4 _ ?_ | refine hn3 _ ?_ | refine he3 _ ?_ | refine hf3 _ _ (by decide) ?_ | refine hr3 _ ?_ | refine hn2 _ ?_ | refine he2 _ _ ?_ | refine hr2 _ ?_ | refine hn1 _ ?_ | refine he1 _ _ ?_ | refine hr1 _ ?_)
      obtain rfl : k = p.length := by omega
      have hfin : (List.range N).map (fun v => if v ∈ p.take p.length then i + 1 else posOf (ps.take i) v) = (List.range N).map (posOf (ps.take (i + 1))) := by
        apply List.map_congr_left
        intro v _
        rw [List.take_length, pos_step hp v (hdis v)]
      rw [hfin]
      refine wlk_reg fun KY hKY => ?_
      simp only [go_sem, reduceIte, Nat.reduceEqDiff, Nat.reduceBEq, reduceCtorEq, Nat.reduceLT, Nat.reduceLeDiff, Nat.reduceAdd, Nat.reduceSub, Nat.reduceMul, Nat.reduceDiv, Int.reduceAdd, Int.reduceNeg, Int.reduceEq, Int.reduceLT, Int.reduceLE, c_garlandlaw03_PiecesEach_r18, inc i (by omega)]
      refine hKY _ ?_
      repeat (first | refine hn11 _ ?_ | refine he11 _ _ ?_ | refine hr11 _ ?_ | refine he10 _ _ ?_ | refine hr10 _ ?_ | refine hn9 _ ?_ | refine he9 _ ?_ | refine hf9 _ _ (by decide) ?_ | refine hr9 _ ?_ | refine hn8 _ ?_ | refine he8 _ _ ?_ | refine hr8 _ ?_ | refine hn7 _ ?_ | refine he7 _ ?_ | refine hf7 _ _ (by decide) ?_ | refine hr7 _ ?_ | refine hn6 _ ?_ | refine he6 _ _ ?_ | refine hr6 _ ?_ | refine hn5 _ ?_ | refine he5 _ _ ?_ | refine hr5 _ ?_ | refine he4 _ _ ?_ | refine hr4 _ ?_ | refine hn3 _ ?_ | refine he3 _ ?_ | refine hf3 _ _ (by decide) ?_ | refine hr3 _ ?_ | refine hn2 _ ?_ | refine he2 _ _ ?_ | refine hr2 _ ?_ | refine hn1 _ ?_ | refine he1 _ _ ?_ | refine hr1 _ ?_)
      refine hn4 _ (i + 1) (ps.length - (i + 1)) (by omega) (by first | (simp only [go_sem, reduceIte, Nat.reduceEqDiff, Nat.reduceBEq, reduceCtorEq, Nat.reduceLT, Nat.reduceLeDiff, Nat.reduceAdd, Nat.reduceSub, Nat.reduceMul, Nat.reduceDiv, Int.reduceAdd, Int.reduceNeg, Int.reduceEq, Int.reduceLT, Int.reduceLE, updAll_cons, updAll_nil]; done) | rfl) ?_
      exact ⟨hi2, rfl⟩
  · refine wlk_cond0 (by first | rfl | (simp only [go_sem, reduceIte, Nat.reduceEqDiff, Nat.reduceBEq, reduceCtorEq, Nat.reduceLT, Nat.reduceLeDiff, Nat.reduceAdd, Nat.reduceSub, Nat.reduceMul, Nat.reduceDiv, Int.reduceAdd, Int.reduceNeg, Int.reduceEq, Int.reduceLT, Int.reduceLE]; try simp (disch := omega) only [decide_eq_true, decide_eq_false])) ?_
    refine wlk_exit ?_
    repeat (first | refine hn5 _ ?_ | refine he5 _ _ ?_ | refine hr5 _ ?_ | refine he4 _ _ ?_ | refine hr4 _ ?_ | refine hn3 _ ?_ | refine he3 _ ?_ | refine hf3 _ _ (by decide) ?_ | refine hr3 _ ?_ | refine hn2 _ ?_ | refine he2 _ _ ?_ | refine hr2 _ ?_ | refine hn1 _ ?_ | refine he1 _ _ ?_ | refine hr1 _ ?_)
    obtain rfl : i = ps.length := by omega
    rw [List.take_length]
    have hpos0 : ∀ v, v < N → (posOf ps v = 0 ↔ v ∈ l) := fun v hv => by
      rw [pos_zero]
      constructor
      · intro h
        by_cases hvl : v ∈ l
        · exact hvl
        · obtain ⟨p, hp, hvp⟩ := (hps.mem v).2 ⟨hv, fun h' => hvl ((hO v).1 h')⟩
          exact absurd hvp (h p hp)
      · intro h p hp hvp
        exact ((hps.mem v).1 ⟨p, hp, hvp⟩).2 ((hO v).2 h)
    refine wlk_seq fun X15 hn15 he15 hr15 => ?_
    refine wlk_sreg fun KY hKY => ?_
    simp only [go_sem, reduceIte, Nat.reduceEqDiff, Nat.reduceBEq, reduceCtorEq, Nat.reduceLT, Nat.reduceLeDiff, Nat.reduceAdd, Nat.reduceSub, Nat.reduceMul, Nat.reduceDiv, Int.reduceAdd, Int.reduceNeg, Int.reduceEq, Int.reduceLT, Int.reduceLE, c_garlandlaw03_PiecesEach_r19]
    refine hKY _ ?_
    refine wlk_blk fun X16 hn16 he16 hf16 hr16 => ?_
    try simp only [go_sem, reduceIte, Nat.reduceEqDiff, Nat.reduceBEq, reduceCtorEq, Nat.reduceLT, Nat.reduceLeDiff, Nat.reduceAdd, Nat.reduceSub, Nat.reduceMul, Nat.reduceDiv, Int.reduceAdd, Int.reduceNeg, Int.reduceEq, Int.reduceLT, Int.reduceLE]
    refine wlk_lp (α := Nat) [12, 13, 28, 35, 71, 78, 107, 116, 127] (fun v => [(14, .sc (.int .i64 (v : Int)))]) (fun v => []) (fun v q => v ≤ N ∧ q = N - v) (0) (N) rfl (by first | (simp only [go_sem, reduceIte, Nat.reduceEqDiff, Nat.reduceBEq, reduceCtorEq, Nat.reduceLT, Nat.reduceLeDiff, Nat.reduceAdd, Nat.reduceSub, Nat.reduceMul, Nat.reduceDiv, Int.reduceAdd, Int.reduceNeg, Int.reduceEq, Int.reduceLT, Int.reduceLE, updAll_cons, updAll_nil]; done) | rfl) (⟨by omega, rfl⟩) ?_
    rintro v q ⟨hv, rfl⟩ X17 hn17 he17 hr17
    simp only [go_sem, reduceIte, Nat.reduceEqDiff, Nat.reduceBEq, reduceCtorEq, Nat.reduceLT, Nat.reduceLeDiff, Nat.reduceAdd, Nat.reduceSub, Nat.reduceMul, Nat.reduceDiv, Int.reduceAdd, Int.reduceNeg, Int.reduceEq, Int.reduceLT, Int.reduceLE, updAll_cons, updAll_nil]
    refine wlk_seq fun X18 hn18 he18 hr18 => ?_
    refine wlk_sreg fun KY hKY => ?_
    simp only [go_sem, reduceIte, Nat.reduceEqDiff, Nat.reduceBEq, reduceCtorEq, Nat.reduceLT, Nat.reduceLeDiff, Nat.reduceAdd, Nat.reduceSub, Nat.reduceMul, Nat.reduceDiv, Int.reduceAdd, Int.reduceNeg, Int.reduceEq, Int.reduceLT, Int.reduceLE, c_garlandlaw03_PiecesEach_r20]
    refine hKY _ ?_
    by_cases hv2 : v < N
    · refine wlk_cond1 (by first | rfl | (simp only [go_sem, reduceIte, Nat.reduceEqDiff, Nat.reduceBEq, reduceCtorEq, Nat.reduceLT, Nat.reduceLeDiff, Nat.reduceAdd, Nat.reduceSub, Nat.reduceMul, Nat.reduceDiv, Int.reduceAdd, Int.reduceNeg, Int.reduceEq, Int.reduceLT, Int.reduceLE]; try simp (disch := omega) only [decide_eq_true, decide_eq_false])) ?_
      refine wlk_skip ?_
      repeat (first | refine hn18 _ ?_ | refine he18 _ _ ?_ | refine hr18 _ ?_ | refine he17 _ _ ?_ | refine hr17 _ ?_ | refine hn16 _ ?_ | refine he16 _ ?_ | refine hf16 _ _ (by decide) ?_ | refine hr16 _ ?_ | refine hn15 _ ?_ | refine he15 _ _ ?_ | refine hr15 _ ?_ | refine hn5 _ ?_ | refine he5 _ _ ?_ | refine hr5 _ ?_ | refine he4 _ _ ?_ | refine hr4 _ ?_ | refine hn3 _ ?_ | refine he3 _ ?_ | refine hf3 _ _ (by decide) ?_ | refine hr3 _ ?_ | refine hn2 _ ?_ | refine he2 _ _ ?_ | refine hr2 _ ?_ | refine hn1 _ ?_ | refine he1 _ _ ?_ | refine hr1 _ ?_)
      refine wlk_seq fun X19 hn19 he19 hr19 => ?_
      refine wlk_blk fun X20 hn20 he20 hf20 hr20 => ?_
      have hgv : (nats ((List.range N).map (posOf ps)))[v]? = some (.sc (.int .i64 ((posOf ps v : Nat) : Int))) := by
        rw [nats_get (by simpa using hv2), getD_range hv2]
      have hiff : decide (((posOf ps v : Nat) : Int) = 0) = hasI l (v : Int) := by
        rw [Bool.eq_iff_iff, decide_eq_true_iff, hasI_nat, ← hpos0 v hv2]; omega
      refine wlk_sdraw fun KY hKY => ?_
      simp only [go_sem, reduceIte, Nat.reduceEqDiff, Nat.reduceBEq, reduceCtorEq, Nat.reduceLT, Nat.reduceLeDiff, Nat.reduceAdd, Nat.reduceSub, Nat.reduceMul, Nat.reduceDiv, Int.reduceAdd, Int.reduceNeg, Int.reduceEq, Int.reduceLT, Int.reduceLE, c_garlandlaw03_PiecesEach_r21, hgv, hv2]
      refine call_view rfl (by simp only [go_sem, reduceIte, Nat.reduceEqDiff, Nat.reduceBEq, reduceCtorEq, Nat.reduceLT, Nat.reduceLeDiff, Nat.reduceAdd, Nat.reduceSub, Nat.reduceMul, Nat.reduceDiv, Int.reduceAdd, Int.reduceNeg, Int.reduceEq, Int.reduceLT, Int.reduceLE] <;> rfl) ((inN_ok l (v : Int) (by omega)).mono ?_)
      rintro rr hh ⟨rfl, rfl⟩
      refine ⟨rfl, rfl, rfl, ?_⟩
      simp only [go_sem, reduceIte, Nat.reduceEqDiff, Nat.reduceBEq, reduceCtorEq, Nat.reduceLT, Nat.reduceLeDiff, Nat.reduceAdd, Nat.reduceSub, Nat.reduceMul, Nat.reduceDiv, Int.reduceAdd, Int.reduceNeg, Int.reduceEq, Int.reduceLT, Int.reduceLE, hiff, bne_self_eq_false]
      refine hKY _ ?_
      refine wlk_cond0 (by first | rfl | (simp only [go_sem, reduceIte, Nat.reduceEqDiff, Nat.reduceBEq, reduceCtorEq, Nat.reduceLT, Nat.reduceLeDiff, Nat.reduceAdd, Nat.reduceSub, Nat.reduceMul, Nat.reduceDiv, Int.reduceAdd, Int.reduceNeg, Int.reduceEq, Int.reduceLT, Int.reduceLE]; try simp (disch := omega) only [decide_eq_true, decide_eq_false])) ?_
      refine wlk_skip ?_
      repeat (first | refine hn20 _ ?_ | refine he20 _ ?_ | refine hf20 _ _ (by decide) ?_ | refine hr20 _ ?_ | refine hn19 _ ?_ | refine he19 _ _ ?_ | refine hr19 _ ?_ | refine hn18 _ ?_ | refine he18 _ _ ?_ | refine hr18 _ ?_ | refine he17 _ _ ?_ | refine hr17 _ ?_ | refine hn16 _ ?_ | refine he16 _ ?_ | refine hf16 _ _ (by decide) ?_ | refine hr16 _ ?_ | refine hn15 _ ?_ | refine he15 _ _ ?_ | refine hr15 _ ?_ | refine hn5 _ ?_ | refine he5 _ _ ?_ | refine hr5 _ ?_ | refine he4 _ _ ?_ | refine hr4 _ ?_ | refine hn3 _ ?_ | refine he3 _ ?_ | refine hf3 _ _ (by decide) ?_ | refine hr3 _ ?_ | refine hn2 _ ?_ | refine he2 _ _ ?_ | refine hr2 _ ?_ | refine hn1 _ ?_ | refine he1 _ _ ?_ | refine hr1 _ ?_)
      refine wlk_reg fun KY hKY => ?_
      simp only [go_sem, reduceIte, Nat.reduceEqDiff, Nat.reduceBEq, reduceCtorEq, Nat.reduceLT, Nat.reduceLeDiff, Nat.reduceAdd, Nat.reduceSub, Nat.reduceMul, Nat.reduceDiv, Int.reduceAdd, Int.reduceNeg, Int.reduceEq, Int.reduceLT, Int.reduceLE, c_garlandlaw03_PiecesEach_r23, inc v (by omega)]
      refine hKY _ ?_
      repeat (first | refine hn20 _ ?_ | refine he20 _ ?_ | refine hf20 _ _ (by decide) ?_ | refine hr20 _ ?_ | refine hn19 _ ?_ | refine he19 _ _ ?_ | refine hr19 _ ?_ | refine hn18 _ ?_ | refine he18 _ _ ?_ | refine hr18 _ ?_ | refine he17 _ _ ?_ | refine hr17 _ ?_ | refine hn16 _ ?_ | refine he16 _ ?_ | refine hf16 _ _ (by decide) ?_ | refine hr16 _ ?_ | refine hn15 _ ?_ | refine he15 _ _ ?_ | refine hr15 _ ?_ | refine hn5 _ ?_ | refine he5 _ _ ?_ | refine hr5 _ ?_ | refine he4 _ _ ?_ | refine hr4 _ ?_ | refine hn3 _ ?_ | refine he3 _ ?_ | refine hf3 _ _ (by decide) ?_ | refine hr3 _ ?_ | refine hn2 _ ?_ | refine he2 _ _ ?_ | refine hr2 _ ?_ | refine hn1 _ ?_ | refine he1 _ _ ?_ | refine hr1 _ ?_)
      refine hn17 _ (v + 1) (N - (v + 1)) (by omega) (by first | (simp only [go_sem, reduceIte, Nat.reduceEqDiff, Nat.reduceBEq, reduceCtorEq, Nat.reduceLT, Nat.reduceLeDiff, Nat.reduceAdd, Nat.reduceSub, Nat.reduceMul, Nat.reduceDiv, Int.reduceAdd, Int.reduceNeg, Int.reduceEq, Int.reduceLT, Int.reduceLE, updAll_cons, updAll_nil]; done) | rfl) ?_
      exact ⟨hv2, rfl⟩
    · refine wlk_cond0 (by first | rfl | (simp only [go_sem, reduceIte, Nat.reduceEqDiff, Nat.reduceBEq, reduceCtorEq, Nat.reduceLT, Nat.reduceLeDiff, Nat.reduceAdd, Nat.reduceSub, Nat.reduceMul, Nat.reduceDiv, Int.reduceAdd, Int.reduceNeg, Int.reduceEq, Int.reduceLT, Int.reduceLE]; try simp (disch := omega) only [decide_eq_true, decide_eq_false])) ?_
      refine wlk_exit ?_
      repeat (first | refine hn18 _ ?_ | refine he18 _ _ ?_ | refine hr18 _ ?_ | refine he17 _ _ ?_ | refine hr17 _ ?_ | refine hn16 _ ?_ | refine he16 _ ?_ | refine hf16 _ _ (by decide) ?_ | refine hr16 _ ?_ | refine hn15 _ ?_ | refine he15 _ _ ?_ | refine hr15 _ ?_ | refine hn5 _ ?_ | refine he5 _ _ ?_ | refine hr5 _ ?_ | refine he4 _ _ ?_ | refine hr4 _ ?_ | refine hn3 _ ?_ | refine he3 _ ?_ | refine hf3 _ _ (by decide) ?_ | refine hr3 _ ?_ | refine hn2 _ ?_ | refine he2 _ _ ?_ | refine hr2 _ ?_ | refine hn1 _ ?_ | refine he1 _ _ ?_ | refine hr1 _ ?_)
      refine wlk_seq fun X21 hn21 he21 hr21 => ?_
      refine wlk_sreg fun KY hKY => ?_
      simp only [go_sem, reduceIte, Nat.reduceEqDiff, Nat.reduceBEq, reduceCtorEq, Nat.reduceLT, Nat.reduceLeDiff, Nat.reduceAdd, Nat.reduceSub, Nat.reduceMul, Nat.reduceDiv, Int.reduceAdd, Int.reduceNeg, Int.reduceEq, Int.reduceLT, Int.reduceLE, c_garlandlaw03_PiecesEach_r24]
      refine hKY _ ?_
      refine wlk_blk fun X22 hn22 he22 hf22 hr22 => ?_
      try simp only [go_sem, reduceIte, Nat.reduceEqDiff, Nat.reduceBEq, reduceCtorEq, Nat.reduceLT, Nat.reduceLeDiff, Nat.reduceAdd, Nat.reduceSub, Nat.reduceMul, Nat.reduceDiv, Int.reduceAdd, Int.reduceNeg, Int.reduceEq, Int.reduceLT, Int.reduceLE]
      refine wlk_lp (α := Nat) [12, 13, 28, 35, 71, 78, 107, 116, 127, 14, 16, 17, 132, 163] (fun k => [(15, .sc (.int .i64 (k : Int)))]) (fun k => []) (fun k q => k ≤ es.length ∧ q = es.length - k) (0) (es.length) rfl (by first | (simp only [go_sem, reduceIte, Nat.reduceEqDiff, Nat.reduceBEq, reduceCtorEq, Nat.reduceLT, Nat.reduceLeDiff, Nat.reduceAdd, Nat.reduceSub, Nat.reduceMul, Nat.reduceDiv, Int.reduceAdd, Int.reduceNeg, Int.reduceEq, Int.reduceLT, Int.reduceLE, updAll_cons, updAll_nil]; done) | rfl) (⟨by omega, rfl⟩) ?_
      rintro k q ⟨hk, rfl⟩ X23 hn23 he23 hr23
      simp only [go_sem, reduceIte, Nat.reduceEqDiff, Nat.reduceBEq, reduceCtorEq, Nat.reduceLT, Nat.reduceLeDiff, Nat.reduceAdd, Nat.reduceSub, Nat.reduceMul, Nat.reduceDiv, Int.reduceAdd, Int.reduceNeg, Int.reduceEq, Int.reduceLT, Int.reduceLE, updAll_cons, updAll_nil]
      refine wlk_seq fun X24 hn24 he24 hr24 => ?_
      refine wlk_sreg fun KY hKY => ?_
      simp only [go_sem, reduceIte, Nat.reduceEqDiff, Nat.reduceBEq, reduceCtorEq, Nat.reduceLT, Nat.reduceLeDiff, Nat.reduceAdd, Nat.reduceSub, Nat.reduceMul, Nat.reduceDiv, Int.reduceAdd, Int.reduceNeg, Int.reduceEq, Int.reduceLT, Int.reduceLE, c_garlandlaw03_PiecesEach_r25, castE_len]
      refine hKY _ ?_
      by_cases hk2 : k < es.length
      · refine wlk_cond1 (by first | rfl | (simp only [go_sem, reduceIte, Nat.reduceEqDiff, Nat.reduceBEq, reduceCtorEq, Nat.reduceLT, Nat.reduceLeDiff, Nat.reduceAdd, Nat.reduceSub, Nat.reduceMul, Nat.reduceDiv, Int.reduceAdd, Int.reduceNeg, Int.reduceEq, Int.reduceLT, Int.reduceLE]; try simp (disch := omega) only [decide_eq_true, decide_eq_false])) ?_
        refine wlk_skip ?_
        repeat (first | refine hn24 _ ?_ | refine he24 _ _ ?_ | refine hr24 _ ?_ | refine he23 _ _ ?_ | refine hr23 _ ?_ | refine hn22 _ ?_ | refine he22 _ ?_ | refine hf22 _ _ (by decide) ?_ | refine hr22 _ ?_ | refine hn21 _ ?_ | refine he21 _ _ ?_ | refine hr21 _ ?_ | refine hn18 _ ?_ | refine he18 _ _ ?_ | refine hr18 _ ?_ | refine he17 _ _ ?_ | refine hr17 _ ?_ | refine hn16 _ ?_ | refine he16 _ ?_ | refine hf16 _ _ (by decide) ?_ | refine hr16 _ ?_ | refine hn15 _ ?_ | refine he15 _ _ ?_ | refine hr15 _ ?_ | refine hn5 _ ?_ | refine he5 _ _ ?_ | refine hr5 _ ?_ | refine he4 _ _ ?_ | refine hr4 _ ?_ | refine hn3 _ ?_ | refine he3 _ ?_ | refine hf3 _ _ (by decide) ?_ | refine hr3 _ ?_ | refine hn2 _ ?_ | refine he2 _ _ ?_ | refine hr2 _ ?_ | refine hn1 _ ?_ | refine he1 _ _ ?_ | refine hr1 _ ?_)
        refine wlk_seq fun X25 hn25 he25 hr25 => ?_
        refine wlk_blk fun X26 hn26 he26 hf26 hr26 => ?_
        have hx : es[k]? = some es[k] := List.getElem?_eq_getElem hk2
        have hy := g.ok es[k] (List.getElem_mem hk2)
        have hxm : es[k] ∈ es := List.getElem_mem hk2
        generalize es[k] = x at hx hy hxm
        obtain ⟨a, b⟩ := x
        simp only at hy
        have hx' := castE_get hx
        have haN : a < N := by omega
        have hbN : b < N := hy.2
        have hga : (nats ((List.range N).map (posOf ps)))[a]? = some (.sc (.int .i64 ((posOf ps a : Nat) : Int))) := by
          rw [nats_get (by simpa using haN), getD_range haN]
        have hgb : (nats ((List.range N).map (posOf ps)))[b]? = some (.sc (.int .i64 ((posOf ps b : Nat) : Int))) := by
          rw [nats_get (by simpa using hbN), getD_range hbN]
        have hb1 : k * 2 + 1 < es.length * 2 := by omega
        have hb2 : k * 2 < es.length * 2 := by omega
        refine wlk_sdraw fun KY hKY => ?_
        simp only [go_sem, reduceIte, Nat.reduceEqDiff, Nat.reduceBEq, reduceCtorEq, Nat.reduceLT, Nat.reduceLeDiff, Nat.reduceAdd, Nat.reduceSub, Nat.reduceMul, Nat.reduceDiv, Int.reduceAdd, Int.reduceNeg, Int.reduceEq, Int.reduceLT, Int.reduceLE, c_garlandlaw03_PiecesEach_r26, castE_len, hk2, two_get0 hx', two_get1 hx', hga, hgb, haN, hbN, hb1, hb2]
        refine hKY _ ?_
        have hsame : 0 < posOf ps a → 0 < posOf ps b → posOf ps a = posOf ps b := by
          intro h1 h2
          obtain ⟨j, hj⟩ : ∃ j, posOf ps a = j + 1 := ⟨posOf ps a - 1, by omega⟩
          obtain ⟨j2, hj2⟩ : ∃ j, posOf ps b = j + 1 := ⟨posOf ps b - 1, by omega⟩
          obtain ⟨p, hp, hap⟩ := pos_succ hj
          obtain ⟨p2, hp2, hbp⟩ := pos_succ hj2
          have hpm : p ∈ ps := List.mem_iff_getElem?.2 ⟨j, hp⟩
          have hpm2 : p2 ∈ ps := List.mem_iff_getElem?.2 ⟨j2, hp2⟩
          have hbp' := hps.edge p hpm a hap b (.inl hxm) hbN ((hps.mem b).1 ⟨p2, hpm2, hbp⟩).2
          rcases Nat.lt_trichotomy j j2 with h | h | h
          · obtain ⟨q1, q2⟩ := List.getElem?_eq_some_iff.1 hp
            obtain ⟨q3, q4⟩ := List.getElem?_eq_some_iff.1 hp2
            have := List.pairwise_iff_getElem.1 hps.disj j j2 q1 q3 h
            rw [q2, q4] at this
            exact absurd hbp (this b hbp')
          · omega
          · obtain ⟨q1, q2⟩ := List.getElem?_eq_some_iff.1 hp
            obtain ⟨q3, q4⟩ := List.getElem?_eq_some_iff.1 hp2
            have := List.pairwise_iff_getElem.1 hps.disj j2 j q3 q1 h
            rw [q2, q4] at this
            exact absurd hbp' (this b hbp)
        have hcase : decide (0 < ((posOf ps a : Nat) : Int)) = false ∨ (decide (0 < ((posOf ps a : Nat) : Int)) = true ∧ decide (0 < ((posOf ps b : Nat) : Int)) = false) ∨ (decide (0 < ((posOf ps a : Nat) : Int)) = true ∧ decide (0 < ((posOf ps b : Nat) : Int)) = true ∧ decide (((posOf ps a : Nat) : Int) ≠ ((posOf ps b : Nat) : Int)) = false) := by
          by_cases h1 : 0 < posOf ps a
          · by_cases h2 : 0 < posOf ps b
            · exact .inr (.inr ⟨decide_eq_true (by omega), decide_eq_true (by omega), decide_eq_false (by have := hsame h1 h2; omega)⟩)
            · exact .inr (.inl ⟨decide_eq_true (by omega), decide_eq_false (by omega)⟩)
          · exact .inl (decide_eq_false (by omega))
        refine wlk_sreg fun KY hKY => ?_
        apply meet
        · intro H
          rcases hcase with c1 | ⟨c1, c2⟩ | ⟨c1, c2, c3⟩
          · simp only [go_sem, reduceIte, Nat.reduceEqDiff, Nat.reduceBEq, reduceCtorEq, Nat.reduceLT, Nat.reduceLeDiff, Nat.reduceAdd, Nat.reduceSub, Nat.reduceMul, Nat.reduceDiv, Int.reduceAdd, Int.reduceNeg, Int.reduceEq, Int.reduceLT, Int.reduceLE, c_garlandlaw03_PiecesEach_r27, gt_iff_lt, c1]
            refine hKY _ ?_
            repeat (first | refine hn26 _ ?_ | refine he26 _ ?_ | refine hf26 _ _ (by decide) ?_ | refine hr26 _ ?_ | refine hn25 _ ?_ | refine he25 _ _ ?_ | refine hr25 _ ?_ | refine hn24 _ ?_ | refine he24 _ _ ?_ | refine hr24 _ ?_ | refine he23 _ _ ?_ | refine hr23 _ ?_ | refine hn22 _ ?_ | refine he22 _ ?_ | refine hf22 _ _ (by decide) ?_ | refine hr22 _ ?_ | refine hn21 _ ?_ | refine he21 _ _ ?_ | refine hr21 _ ?_ | refine hn18 _ ?_ | refine he18 _ _ ?_ | refine hr18 _ ?_ | refine he17 _ _ ?_ | refine hr17 _ ?_ | refine hn16 _ ?_ | refine he16 _ ?_ | refine hf16 _ _ (by decide) ?_ | refine hr16 _ ?_ | refine hn15 _ ?_ | refine he15 _ _ ?_ | refine hr15 _ ?_ | refine hn5 _ ?_ | refine he5 _ _ ?_ | refine hr5 _ ?_ | refine he4 _ _ ?_ | refine hr4 _ ?_ | refine hn3 _ ?_ | refine he3 _ ?_ | refine hf3 _ _ (by decide) ?_ | refine hr3 _ ?_ | refine hn2 _ ?_ | refine he2 _ _ ?_ | refine hr2 _ ?_ | refine hn1 _ ?_ | refine he1 _ _ ?_ | refine hr1 _ ?_)
            simp only [go_sem, reduceIte, Nat.reduceEqDiff, Nat.reduceBEq, reduceCtorEq, Nat.reduceLT, Nat.reduceLeDiff, Nat.reduceAdd, Nat.reduceSub, Nat.reduceMul, Nat.reduceDiv, Int.reduceAdd, Int.reduceNeg, Int.reduceEq, Int.reduceLT, Int.reduceLE]
            exact H
          · simp only [go_sem, reduceIte, Nat.reduceEqDiff, Nat.reduceBEq, reduceCtorEq, Nat.reduceLT, Nat.reduceLeDiff, Nat.reduceAdd, Nat.reduceSub, Nat.reduceMul, Nat.reduceDiv, Int.reduceAdd, Int.reduceNeg, Int.reduceEq, Int.reduceLT, Int.reduceLE, c_garlandlaw03_PiecesEach_r27, gt_iff_lt, c1, c2]
            refine hKY _ ?_
            repeat (first | refine hn26 _ ?_ | refine he26 _ ?_ | refine hf26 _ _ (by decide) ?_ | refine hr26 _ ?_ | refine hn25 _ ?_ | refine he25 _ _ ?_ | refine hr25 _ ?_ | refine hn24 _ ?_ | refine he24 _ _ ?_ | refine hr24 _ ?_ | refine he23 _ _ ?_ | refine hr23 _ ?_ | refine hn22 _ ?_ | refine he22 _ ?_ | refine hf22 _ _ (by decide) ?_ | refine hr22 _ ?_ | refine hn21 _ ?_ | refine he21 _ _ ?_ | refine hr21 _ ?_ | refine hn18 _ ?_ | refine he18 _ _ ?_ | refine hr18 _ ?_ | refine he17 _ _ ?_ | refine hr17 _ ?_ | refine hn16 _ ?_ | refine he16 _ ?_ | refine hf16 _ _ (by decide) ?_ | refine hr16 _ ?_ | refine hn15 _ ?_ | refine he15 _ _ ?_ | refine hr15 _ ?_ | refine hn5 _ ?_ | refine he5 _ _ ?_ | refine hr5 _ ?_ | refine he4 _ _ ?_ | refine hr4 _ ?_ | refine hn3 _ ?_ | refine he3 _ ?_ | refine hf3 _ _ (by decide) ?_ | refine hr3 _ ?_ | refine hn2 _ ?_ | refine he2 _ _ ?_ | refine hr2 _ ?_ | refine hn1 _ ?_ | refine he1 _ _ ?_ | refine hr1 _ ?_)
            simp only [go_sem, reduceIte, Nat.reduceEqDiff, Nat.reduceBEq, reduceCtorEq, Nat.reduceLT, Nat.reduceLeDiff, Nat.reduceAdd, Nat.reduceSub, Nat.reduceMul, Nat.reduceDiv, Int.reduceAdd, Int.reduceNeg, Int.reduceEq, Int.reduceLT, Int.reduceLE]
            exact H
          · simp only [go_sem, reduceIte, Nat.reduceEqDiff, Nat.reduceBEq, reduceCtorEq, Nat.reduceLT, Nat.reduceLeDiff, Nat.reduceAdd, Nat.reduceSub, Nat.reduceMul, Nat.reduceDiv, Int.reduceAdd, Int.reduceNeg, Int.reduceEq, Int.reduceLT, Int.reduceLE, c_garlandlaw03_PiecesEach_r27, gt_iff_lt, c1, c2, c3]
            refine hKY _ ?_
            repeat (first | refine hn26 _ ?_ | refine he26 _ ?_ | refine hf26 _ _ (by decide) ?_ | refine hr26 _ ?_ | refine hn25 _ ?_ | refine he25 _ _ ?_ | refine hr25 _ ?_ | refine hn24 _ ?_ | refine he24 _ _ ?_ | refine hr24 _ ?_ | refine he23 _ _ ?_ | refine hr23 _ ?_ | refine hn22 _ ?_ | refine he22 _ ?_ | refine hf22 _ _ (by decide) ?_ | refine hr22 _ ?_ | refine hn21 _ ?_ | refine he21 _ _ ?_ | refine hr21 _ ?_ | refine hn18 _ ?_ | refine he18 _ _ ?_ | refine hr18 _ ?_ | refine he17 _ _ ?_ | refine hr17 _ ?_ | refine hn16 _ ?_ | refine he16 _ ?_ | refine hf16 _ _ (by decide) ?_ | refine hr16 _ ?_ | refine hn15 _ ?_ | refine he15 _ _ ?_ | refine hr15 _ ?_ | refine hn5 _ ?_ | refine he5 _ _ ?_ | refine hr5 _ ?_ | refine he4 _ _ ?_ | refine hr4 _ ?_ | refine hn3 _ ?_ | refine he3 _ ?_ | refine hf3 _ _ (by decide) ?_ | refine hr3 _ ?_ | refine hn2 _ ?_ | refine he2 _ _ ?_ | refine hr2 _ ?_ | refine hn1 _ ?_ | refine he1 _ _ ?_ | refine hr1 _ ?_)
            simp only [go_sem, reduceIte, Nat.reduceEqDiff, Nat.reduceBEq, reduceCtorEq, Nat.reduceLT, Nat.reduceLeDiff, Nat.reduceAdd, Nat.reduceSub, Nat.reduceMul, Nat.reduceDiv, Int.reduceAdd, Int.reduceNeg, Int.reduceEq, Int.reduceLT, Int.reduceLE]
            exact H
        refine wlk_cond0 (by first | rfl | (simp only [go_sem, reduceIte, Nat.reduceEqDiff, Nat.reduceBEq, reduceCtorEq, Nat.reduceLT, Nat.reduceLeDiff, Nat.reduceAdd, Nat.reduceSub, Nat.reduceMul, Nat.reduceDiv, Int.reduceAdd, Int.reduceNeg, Int.reduceEq, Int.reduceLT, Int.reduceLE]; try simp (disch := omega) only [decide_eq_true, decide_eq_false])) ?_
        refine wlk_skip ?_
        repeat (first | refine hn26 _ ?_ | refine he26 _ ?_ | refine hf26 _ _ (by decide) ?_ | refine hr26 _ ?_ | refine hn25 _ ?_ | refine he25 _ _ ?_ | refine hr25 _ ?_ | refine hn24 _ ?_ | refine he24 _ _ ?_ | refine hr24 _ ?_ | refine he23 _ _ ?_ | refine hr23 _ ?_ | refine hn22 _ ?_ | refine he22 _ ?_ | refine hf22 _ _ (by decide) ?_ | refine hr22 _ ?_ | refine hn21 _ ?_ | refine he21 _ _ ?_ | refine hr21 _ ?_ | refine hn18 _ ?_ | refine he18 _ _ ?_ | refine hr18 _ ?_ | refine he17 _ _ ?_ | refine hr17 _ ?_ | refine hn16 _ ?_ | refine he16 _ ?_ | refine hf16 _ _ (by decide) ?_ | refine hr16 _ ?_ | refine hn15 _ ?_ | refine he15 _ _ ?_ | refine hr15 _ ?_ | refine hn5 _ ?_ | refine he5 _ _ ?_ | refine hr5 _ ?_ | refine he4 _ _ ?_ | refine hr4 _ ?_ | refine hn3 _ ?_ | refine he3 _ ?_ | refine hf3 _ _ (by decide) ?_ | refine hr3 _ ?_ | refine hn2 _ ?_ | refine he2 _ _ ?_ | refine hr2 _ ?_ | refine hn1 _ ?_ | refine he1 _ _ ?_ | refine hr1 _ ?_)
        refine wlk_reg fun KY hKY => ?_
        simp only [go_sem, reduceIte, Nat.reduceEqDiff, Nat.reduceBEq, reduceCtorEq, Nat.reduceLT, Nat.reduceLeDiff, Nat.reduceAdd, Nat.reduceSub, Nat.reduceMul, Nat.reduceDiv, Int.reduceAdd, Int.reduceNeg, Int.reduceEq, Int.reduceLT, Int.reduceLE, c_garlandlaw03_PiecesEach_r29, inc k (by omega)]
        refine hKY _ ?_
        repeat (first | refine hn26 _ ?_ | refine he26 _ ?_ | refine hf26 _ _ (by decide) ?_ | refine hr26 _ ?_ | refine hn25 _ ?_ | refine he25 _ _ ?_ | refine hr25 _ ?_ | refine hn24 _ ?_ | refine he24 _ _ ?_ | refine hr24 _ ?_ | refine he23 _ _ ?_ | refine hr23 _ ?_ | refine hn22 _ ?_ | refine he22 _ ?_ | refine hf22 _ _ (by decide) ?_ | refine hr22 _ ?_ | refine hn21 _ ?_ | refine he21 _ _ ?_ | refine hr21 _ ?_ | refine hn18 _ ?_ | refine he18 _ _ ?_ | refine hr18 _ ?_ | refine he17 _ _ ?_ | refine hr17 _ ?_ | refine hn16 _ ?_ | refine he16 _ ?_ | refine hf16 _ _ (by decide) ?_ | refine hr16 _ ?_ | refine hn15 _ ?_ | refine he15 _ _ ?_ | refine hr15 _ ?_ | refine hn5 _ ?_ | refine he5 _ _ ?_ | refine hr5 _ ?_ | refine he4 _ _ ?_ | refine hr4 _ ?_ | refine hn3 _ ?_ | refine he3 _ ?_ | refine hf3 _ _ (by decide) ?_ | refine hr3 _ ?_ | refine hn2 _ ?_ | refine he2 _ _ ?_ | refine hr2 _ ?_ | refine hn1 _ ?_ | refine he1 _ _ ?_ | refine hr1 _ ?_)
        refine hn23 _ (k + 1) (es.length - (k + 1)) (by omega) (by first | (simp only [go_sem, reduceIte, Nat.reduceEqDiff, Nat.reduceBEq, reduceCtorEq, Nat.reduceLT, Nat.reduceLeDiff, Nat.reduceAdd, Nat.reduceSub, Nat.reduceMul, Nat.reduceDiv, Int.reduceAdd, Int.reduceNeg, Int.reduceEq, Int.reduceLT, Int.reduceLE, updAll_cons, updAll_nil]; done) | rfl) ?_
        exact ⟨hk2, rfl⟩
      · refine wlk_cond0 (by first | rfl | (simp only [go_sem, reduceIte, Nat.reduceEqDiff, Nat.reduceBEq, reduceCtorEq, Nat.reduceLT, Nat.reduceLeDiff, Nat.reduceAdd, Nat.reduceSub, Nat.reduceMul, Nat.reduceDiv, Int.reduceAdd, Int.reduceNeg, Int.reduceEq, Int.reduceLT, Int.reduceLE]; try simp (disch := omega) only [decide_eq_true, decide_eq_false])) ?_
        refine wlk_exit ?_
        repeat (first | refine hn24 _ ?_ | refine he24 _ _ ?_ | refine hr24 _ ?_ | refine he23 _ _ ?_ | refine hr23 _ ?_ | refine hn22 _ ?_ | refine he22 _ ?_ | refine hf22 _ _ (by decide) ?_ | refine hr22 _ ?_ | refine hn21 _ ?_ | refine he21 _ _ ?_ | refine hr21 _ ?_ | refine hn18 _ ?_ | refine he18 _ _ ?_ | refine hr18 _ ?_ | refine he17 _ _ ?_ | refine hr17 _ ?_ | refine hn16 _ ?_ | refine he16 _ ?_ | refine hf16 _ _ (by decide) ?_ | refine hr16 _ ?_ | refine hn15 _ ?_ | refine he15 _ _ ?_ | refine hr15 _ ?_ | refine hn5 _ ?_ | refine he5 _ _ ?_ | refine hr5 _ ?_ | refine he4 _ _ ?_ | refine hr4 _ ?_ | refine hn3 _ ?_ | refine he3 _ ?_ | refine hf3 _ _ (by decide) ?_ | refine hr3 _ ?_ | refine hn2 _ ?_ | refine he2 _ _ ?_ | refine hr2 _ ?_ | refine hn1 _ ?_ | refine he1 _ _ ?_ | refine hr1 _ ?_)
        refine wlk_sreg fun KY hKY => ?_
        simp only [go_sem, reduceIte, Nat.reduceEqDiff, Nat.reduceBEq, reduceCtorEq, Nat.reduceLT, Nat.reduceLeDiff, Nat.reduceAdd, Nat.reduceSub, Nat.reduceMul, Nat.reduceDiv, Int.reduceAdd, Int.reduceNeg, Int.reduceEq, Int.reduceLT, Int.reduceLE, c_garlandlaw03_PiecesEach_r30]
        refine hKY _ ?_
        refine wlk_ret ?_
        repeat (first | refine hn24 _ ?_ | refine he24 _ _ ?_ | refine hr24 _ ?_ | refine he23 _ _ ?_ | refine hr23 _ ?_ | refine hn22 _ ?_ | refine he22 _ ?_ | refine hf22 _ _ (by decide) ?_ | refine hr22 _ ?_ | refine hn21 _ ?_ | refine he21 _ _ ?_ | refine hr21 _ ?_ | refine hn18 _ ?_ | refine he18 _ _ ?_ | refine hr18 _ ?_ | refine he17 _ _ ?_ | refine hr17 _ ?_ | refine hn16 _ ?_ | refine he16 _ ?_ | refine hf16 _ _ (by decide) ?_ | refine hr16 _ ?_ | refine hn15 _ ?_ | refine he15 _ _ ?_ | refine hr15 _ ?_ | refine hn5 _ ?_ | refine he5 _ _ ?_ | refine hr5 _ ?_ | refine he4 _ _ ?_ | refine hr4 _ ?_ | refine hn3 _ ?_ | refine he3 _ ?_ | refine hf3 _ _ (by decide) ?_ | refine hr3 _ ?_ | refine hn2 _ ?_ | refine he2 _ _ ?_ | refine hr2 _ ?_ | refine hn1 _ ?_ | refine he1 _ _ ?_ | refine hr1 _ ?_)
        simp only [go_sem, reduceIte, Nat.reduceEqDiff, Nat.reduceBEq, reduceCtorEq, Nat.reduceLT, Nat.reduceLeDiff, Nat.reduceAdd, Nat.reduceSub, Nat.reduceMul, Nat.reduceDiv, Int.reduceAdd, Int.reduceNeg, Int.reduceEq, Int.reduceLT, Int.reduceLE]
end Go.Proofs.Ytmpbfdakdoicjaa
namespace Go.Proofs.Ytmpbfdakdoicjaa
open Go Go.Ga Go.Ga.Gl
theorem piecesEach_all (As : List AVal) (b : Nat) (h : SAs Try.prog Try.f4.params.toList As b) (hb : b ≤ 1048576) : ACalls Try.prog [] 4 As [] fun r _ => r = .sc (.bool true) := by
  rw [Try.params4] at h
  obtain ⟨A1, As1, c1, d1, rfl, rfl, h1, h⟩ := sas_cons h
  obtain ⟨A2, As2, c2, d2, rfl, rfl, h2, h⟩ := sas_cons h
  obtain ⟨A3, As3, c3, d3, rfl, rfl, h3, h⟩ := sas_cons h
  obtain rfl := sas_nil h
  obtain ⟨x1, rfl, w1⟩ := sa_int Try.underlying3 h1
  obtain ⟨x2, rfl, w2, e2⟩ := sa_ints Try.underlying25 Try.underlying3 (by kernel_rfl) h2
  obtain ⟨x3, rfl, w3⟩ := sa_int Try.underlying36 h3
  exact (each_ok x1 x2 x3 (by omega)).mono fun _ _ h => h.1
end Go.Proofs.Ytmpbfdakdoicjaa
namespace Go.Proofs.Ytmpbfdakdoicjaa.piecesEachend
open Go Go.Ga Go.ChangeShapes Go.WideShapes Go.ChangeAt Go.RowKit
theorem own : ownKnob Try.prog.godebug = none := by kernel_rfl
mutual
theorem bulk_at {H : Type} : ∀ d : DataW H, Rows.uptoBulk d = bulk d
  | .lit l => by cases l <;> simp [Rows.uptoBulk, bulk]
  | .nil => by simp [Rows.uptoBulk, bulk]
  | .ptr d => by simp [Rows.uptoBulk, bulk, bulk_at d]
  | .slice e s => by simp [Rows.uptoBulk, bulk, bulk_eq e, bulk_eq s]
  | .agg p => by simp [Rows.uptoBulk, bulk, bulk_eq p]
  | .iface _ d => by simp [Rows.uptoBulk, bulk, bulk_at d]
  | .map e => by simp [Rows.uptoBulk, bulk, bulk_es e]
  | .held _ => by simp [Rows.uptoBulk, bulk]
theorem bulk_eq {H : Type} : ∀ l : List (DataW H), Rows.uptoBulkAll l = bulkL l
  | [] => by simp [Rows.uptoBulkAll, bulkL]
  | d :: r => by simp [Rows.uptoBulkAll, bulkL, bulk_at d, bulk_eq r]
theorem bulk_es {H : Type} : ∀ l : List (Lit × DataW H), Rows.uptoBulkEntries l = bulkE l
  | [] => by simp [Rows.uptoBulkEntries, bulkE]
  | d :: r => by simp [Rows.uptoBulkEntries, bulkE, bulk_e d, bulk_es r]
theorem bulk_e {H : Type} : ∀ d : Lit × DataW H, Rows.uptoBulkEntry d = bulk1 d
  | (l, d) => by cases l <;> simp [Rows.uptoBulkEntry, bulk1, bulk_at d]
end
set_option maxRecDepth 100000 in
theorem plain : Plain Try.prog [3, 25, 36] := plain_of (by kernel_rfl)
set_option maxRecDepth 100000 in
theorem contract (H : Type) (enc : TypeId × Value → H) (W : World) (base : Nat) (args : Array Value) (ds gs : List (DataW H)) (before : List MemPlace)
    (hval : ∀ (j : Nat) t v, Try.f4.params[j]? = some t → args[j]? = some v → Value.okWide Try.prog W .any base t v)
    (hW : DataW.Whole enc Try.prog Try.f4.params.toList Rows.piecesEachSpec.vars false W args.toList ds gs before) (hk : Rows.uptoSmall H (ds ++ gs) = true) :
    Calls Try.prog 4 args W fun e W' => ∃ v, e = .returned v ∧ Rows.piecesEachSpec.post enc Try.prog Try.f4 false true false false W args v W' := by
  have hW' := hW
  obtain ⟨p, q, hA, hV, rfl, hfz, hnd⟩ := hW
  obtain ⟨rfl, rfl⟩ := Go.Ga.trodVars_nil hV
  have hb : bulkL (ds ++ []) ≤ 1048576 := by rw [← bulk_eq]; exact of_decide_eq_true hk
  have r0 : DataW.TrodAll enc Try.prog W 0 (fun _ => true) true Try.f4.params.toList args.toList ds p := hA
  rw [Try.params4] at r0
  obtain ⟨v0, vs0, d0, ds0, p0, q0, hv0, rfl, rfl, h0, r1⟩ := trodAll_cons r0
  obtain ⟨v1, vs1, d1, ds1, p1, q1, hv1, rfl, rfl, h1, r2⟩ := trodAll_cons r1
  obtain ⟨v2, vs2, d2, ds2, p2, q2, hv2, rfl, rfl, h2, r3⟩ := trodAll_cons r2
  obtain ⟨rfl, rfl, rfl⟩ := trodAll_nil r3
  exact contract_true plain hval (by rw [Try.params4]; decide) hW' rfl rfl rfl rfl (tb := 4) (by kernel_rfl) Try.underlying4 hb piecesEach_all
set_option maxRecDepth 100000 in
theorem lifted (os : Os) (started : os.Started) (H : Type) (enc : TypeId × Value → H) (F : Stop.Interp) :
    ReturnsInHanded {} Try.checked os 4 .any ((Rows.OpenSpec.upto Rows.piecesEachSpec).pre6 enc Try.prog Try.f4 Rows.piecesEachUptoRow.domain false) (((Rows.OpenSpec.upto Rows.piecesEachSpec).at F).post enc Try.prog Try.f4 false true false false) := by
  refine returnsInHanded_of_cond (C := Try.checked) (s := Rows.OpenSpec.upto Rows.piecesEachSpec) (k := Rows.uptoSmall) rfl own started (by kernel_rfl) Try.func4
    (OpenSpec.witness (enc := enc) (C := Try.checked) (s := Rows.OpenSpec.upto Rows.piecesEachSpec) (k := Rows.uptoSmall) rfl false ⟨#[], #[.int .i64 0, .slice none 0 0, .int .u64 0], []⟩ 8 (by kernel_rfl) (by kernel_rfl) (by kernel_rfl)
      (x := ([.lit (.int .i64 0), .nil, .lit (.int .u64 0)], [], [])) (by kernel_rfl) rfl (by kernel_rfl)) ?_
  intro W base args ds gs before hval hW _ hk _
  exact contract H enc W base args ds gs before hval hW hk
theorem holds : Rows.PiecesEachUptoSaid :=
  OpenClaim.holds_of_cond 4 Try.f4 rfl rfl rfl rfl rfl rfl rfl ⟨rfl, rfl, rfl, rfl, rfl⟩ rfl rfl rfl rfl rfl (by kernel_rfl) Try.func4 (by kernel_rfl)
    (of_decide_eq_true (by kernel_rfl)) (by unfold Func.isWrapper; first | (rw [if_pos (by decide +kernel)]; kernel_rfl) | (rw [if_neg (by decide +kernel)]; exact ⟨rfl, rfl⟩))
    (fun os started H enc _ F => lifted os started H enc F)
end Go.Proofs.Ytmpbfdakdoicjaa.piecesEachend
