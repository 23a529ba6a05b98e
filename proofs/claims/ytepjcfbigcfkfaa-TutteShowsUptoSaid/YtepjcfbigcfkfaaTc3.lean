/- That where edges are a factor no pair lacks anything is proved for every input of the given size. -/
import Derived.Test.YtepjcfbigcfkfaaTc2
import Derived.Test.YtepjcfbigcfkfaaTc1
set_option linter.all false
set_option maxRecDepth 100000
set_option maxHeartbeats 4000000
namespace Go.Proofs.Ytepjcfbigcfkfaa
open Go Go.Ga Go.Ga.Gl
def outD (n : Nat) (l : List Int) : List Bool := l.foldl (fun D v => if 0 ≤ v ∧ v < (n : Int) then D.set v.toNat true else D) (List.replicate n false)
theorem outD_snoc (n : Nat) (l : List Int) (k : Nat) (v : Int) (h : l[k]? = some v) : outD n (l.take (k + 1)) = if 0 ≤ v ∧ v < (n : Int) then (outD n (l.take k)).set v.toNat true else outD n (l.take k) := by
  rw [List.take_add_one, h]; simp [outD]
theorem outD_ok (n : Nat) (l : List Int) : (outD n l).length = n ∧ ∀ x, x < n → ((outD n l).getD x false = true ↔ (x : Int) ∈ l) := by
  have key : ∀ (l : List Int) (D : List Bool) (P : Nat → Prop), D.length = n → (∀ x, x < n → (D.getD x false = true ↔ P x)) →
      (l.foldl (fun D v => if 0 ≤ v ∧ v < (n : Int) then D.set v.toNat true else D) D).length = n ∧
      ∀ x, x < n → ((l.foldl (fun D v => if 0 ≤ v ∧ v < (n : Int) then D.set v.toNat true else D) D).getD x false = true ↔ P x ∨ (x : Int) ∈ l) := by
    intro l
    induction l with
    | nil => intro D P h1 h2; exact ⟨h1, fun x hx => by simpa using h2 x hx⟩
    | cons v l ih =>
      intro D P h1 h2
      simp only [List.foldl_cons]
      obtain ⟨i1, i2⟩ := ih (if 0 ≤ v ∧ v < (n : Int) then D.set v.toNat true else D) (fun x => P x ∨ (x : Int) = v) (by split <;> simp [h1]) (fun x hx => by
        split
        · rename_i hv
          rw [set_bool, h2 x hx, h1]
          constructor
          · rintro (h | h)
            · exact .inl h
            · exact .inr (by omega)
          · rintro (h | h)
            · exact .inl h
            · exact .inr (by omega)
        · rename_i hv
          rw [h2 x hx]
          constructor
          · exact .inl
          · rintro (h | h)
            · exact h
            · omega)
      refine ⟨i1, fun x hx => ?_⟩
      rw [i2 x hx, List.mem_cons, or_assoc]
  obtain ⟨h1, h2⟩ := key l (List.replicate n false) (fun _ => False) (by simp) (fun x hx => by simp [List.getD_eq_getElem?_getD, hx])
  exact ⟨h1, fun x hx => by rw [outD, h2 x hx]; simp⟩
theorem pieces_le {n : Nat} {es : Es} {O : Nat → Prop} {v : Nat} {D : List Bool} {ps : List (List Nat)} (w : OI n es O v D ps) : ps.length ≤ v := by
  have h : (ps.map fun p => p.headD 0).Pairwise (· < ·) := by
    refine List.pairwise_map.2 ?_
    refine w.heads.imp_of_mem fun {p q} hp hq h => ?_
    have h1 := w.ne p hp; have h2 := w.ne q hq
    cases p with
    | nil => exact absurd rfl h1
    | cons a p => cases q with
      | nil => exact absurd rfl h2
      | cons b q => exact h a rfl b rfl
  have h2 : ∀ x ∈ ps.map fun p => p.headD 0, x ∈ List.range v := by
    intro x hx
    obtain ⟨p, hp, rfl⟩ := List.mem_map.1 hx
    cases p with
    | nil => exact absurd rfl (w.ne _ hp)
    | cons a p => exact List.mem_range.2 (w.low _ hp a rfl)
  have := nodup_le (h.imp fun h => Nat.ne_of_lt h) h2
  simpa using this
theorem of_ok {n : Nat} {es : Es} (g : GR n es) (out : List Int) (ho : out.length ≤ 1000000000) :
    ACalls Try.prog [] n_pieces_Of [.imm 1 (rowsI (near n es)), .imm 1 (ints out)] [] fun r h' => ∃ ps, IsPieces n es (fun v => (v : Int) ∈ out) ps ∧ r = .own (some 1) (rowsO ps) ∧ (h' : Heap).length ≤ 1 := by
  have hn := g.hn
  have hb1 : n * 1 ≤ 140737488355328 := by omega
  have hb0 : (n : Int) ≤ 9223372036854775807 := by omega
  refine go_pieces_Of rfl ?_
  unfold c_pieces_Of v_pieces_Of
  refine wlk_sreg fun KY hKY => ?_
  simp only [go_sem, reduceIte, Nat.reduceEqDiff, Nat.reduceBEq, reduceCtorEq, Nat.reduceLT, Nat.reduceLeDiff, Nat.reduceAdd, Nat.reduceSub, Nat.reduceMul, Nat.reduceDiv, Int.reduceAdd, Int.reduceNeg, Int.reduceEq, Int.reduceLT, Int.reduceLE, c_pieces_Of_r0]
  refine hKY _ ?_
  refine wlk_sreg fun KY hKY => ?_
  simp only [go_sem, reduceIte, Nat.reduceEqDiff, Nat.reduceBEq, reduceCtorEq, Nat.reduceLT, Nat.reduceLeDiff, Nat.reduceAdd, Nat.reduceSub, Nat.reduceMul, Nat.reduceDiv, Int.reduceAdd, Int.reduceNeg, Int.reduceEq, Int.reduceLT, Int.reduceLE, c_pieces_Of_r1, near_len, hb1]
  repeat (simp (disch := omega) only [if_pos, if_neg, decide_eq_true, decide_eq_false, incS, nats_get, ints_get, near_len, hb1]; try simp only [go_sem, reduceIte, Nat.reduceEqDiff, Nat.reduceBEq, reduceCtorEq, Nat.reduceLT, Nat.reduceLeDiff, Nat.reduceAdd, Nat.reduceSub, Nat.reduceMul, Nat.reduceDiv, Int.reduceAdd, Int.reduceNeg, Int.reduceEq, Int.reduceLT, Int.reduceLE, near_len, hb1])
  refine hKY _ ?_
  simp only [go_sem, reduceIte, Nat.reduceEqDiff, Nat.reduceBEq, reduceCtorEq, Nat.reduceLT, Nat.reduceLeDiff, Nat.reduceAdd, Nat.reduceSub, Nat.reduceMul, Nat.reduceDiv, Int.reduceAdd, Int.reduceNeg, Int.reduceEq, Int.reduceLT, Int.reduceLE]
  refine sem_sees [0, 5, 2] .dead (by simp only [go_sem, reduceIte, Nat.reduceEqDiff, Nat.reduceBEq, reduceCtorEq, Nat.reduceLT, Nat.reduceLeDiff, Nat.reduceAdd, Nat.reduceSub, Nat.reduceMul, Nat.reduceDiv, Int.reduceAdd, Int.reduceNeg, Int.reduceEq, Int.reduceLT, Int.reduceLE]; rfl) rfl (Sees.dead _) ?_
  simp only [go_sem, reduceIte, Nat.reduceEqDiff, Nat.reduceBEq, reduceCtorEq, Nat.reduceLT, Nat.reduceLeDiff, Nat.reduceAdd, Nat.reduceSub, Nat.reduceMul, Nat.reduceDiv, Int.reduceAdd, Int.reduceNeg, Int.reduceEq, Int.reduceLT, Int.reduceLE]
  refine sem_nil [0, 5, 3] 1 (by simp only [go_sem, reduceIte, Nat.reduceEqDiff, Nat.reduceBEq, reduceCtorEq, Nat.reduceLT, Nat.reduceLeDiff, Nat.reduceAdd, Nat.reduceSub, Nat.reduceMul, Nat.reduceDiv, Int.reduceAdd, Int.reduceNeg, Int.reduceEq, Int.reduceLT, Int.reduceLE]) ?_
  simp only [go_sem, reduceIte, Nat.reduceEqDiff, Nat.reduceBEq, reduceCtorEq, Nat.reduceLT, Nat.reduceLeDiff, Nat.reduceAdd, Nat.reduceSub, Nat.reduceMul, Nat.reduceDiv, Int.reduceAdd, Int.reduceNeg, Int.reduceEq, Int.reduceLT, Int.reduceLE]
  refine sem_share [0, 5] (by simp only [go_sem, reduceIte, Nat.reduceEqDiff, Nat.reduceBEq, reduceCtorEq, Nat.reduceLT, Nat.reduceLeDiff, Nat.reduceAdd, Nat.reduceSub, Nat.reduceMul, Nat.reduceDiv, Int.reduceAdd, Int.reduceNeg, Int.reduceEq, Int.reduceLT, Int.reduceLE]; rfl) ?_
  simp only [go_sem, reduceIte, Nat.reduceEqDiff, Nat.reduceBEq, reduceCtorEq, Nat.reduceLT, Nat.reduceLeDiff, Nat.reduceAdd, Nat.reduceSub, Nat.reduceMul, Nat.reduceDiv, Int.reduceAdd, Int.reduceNeg, Int.reduceEq, Int.reduceLT, Int.reduceLE]
  refine wlk_seq fun X1 hn1 he1 hr1 => ?_
  refine wlk_sreg fun KY hKY => ?_
  simp only [go_sem, reduceIte, Nat.reduceEqDiff, Nat.reduceBEq, reduceCtorEq, Nat.reduceLT, Nat.reduceLeDiff, Nat.reduceAdd, Nat.reduceSub, Nat.reduceMul, Nat.reduceDiv, Int.reduceAdd, Int.reduceNeg, Int.reduceEq, Int.reduceLT, Int.reduceLE, c_pieces_Of_r2]
  refine hKY _ ?_
  refine wlk_blk fun X2 hn2 he2 hf2 hr2 => ?_
  try simp only [go_sem, reduceIte, Nat.reduceEqDiff, Nat.reduceBEq, reduceCtorEq, Nat.reduceLT, Nat.reduceLeDiff, Nat.reduceAdd, Nat.reduceSub, Nat.reduceMul, Nat.reduceDiv, Int.reduceAdd, Int.reduceNeg, Int.reduceEq, Int.reduceLT, Int.reduceLE]
  refine wlk_lp (α := Nat) [7, 19, 29] (fun k => [(18, .sc (.int .i64 (k : Int)))]) (fun k => [some (pRest (near n es) (outD n (out.take k)))]) (fun k q => k ≤ out.length ∧ q = out.length - k) (0) (out.length) rfl (by first | (simp only [go_sem, reduceIte, Nat.reduceEqDiff, Nat.reduceBEq, reduceCtorEq, Nat.reduceLT, Nat.reduceLeDiff, Nat.reduceAdd, Nat.reduceSub, Nat.reduceMul, Nat.reduceDiv, Int.reduceAdd, Int.reduceNeg, Int.reduceEq, Int.reduceLT, Int.reduceLE, updAll_cons, updAll_nil]; done) | with_reducible rfl | rfl) (⟨by omega, rfl⟩) ?_
  rintro k q ⟨hk, rfl⟩ X3 hn3 he3 hr3
  simp only [go_sem, reduceIte, Nat.reduceEqDiff, Nat.reduceBEq, reduceCtorEq, Nat.reduceLT, Nat.reduceLeDiff, Nat.reduceAdd, Nat.reduceSub, Nat.reduceMul, Nat.reduceDiv, Int.reduceAdd, Int.reduceNeg, Int.reduceEq, Int.reduceLT, Int.reduceLE, updAll_cons, updAll_nil]
  unfold pRest
  refine wlk_sreg fun KY hKY => ?_
  simp only [go_sem, reduceIte, Nat.reduceEqDiff, Nat.reduceBEq, reduceCtorEq, Nat.reduceLT, Nat.reduceLeDiff, Nat.reduceAdd, Nat.reduceSub, Nat.reduceMul, Nat.reduceDiv, Int.reduceAdd, Int.reduceNeg, Int.reduceEq, Int.reduceLT, Int.reduceLE, c_pieces_Of_r3]
  refine hKY _ ?_
  refine wlk_seq fun X4 hn4 he4 hr4 => ?_
  by_cases hk2 : k < out.length
  · refine wlk_cond1 (by first | rfl | (simp only [go_sem, reduceIte, Nat.reduceEqDiff, Nat.reduceBEq, reduceCtorEq, Nat.reduceLT, Nat.reduceLeDiff, Nat.reduceAdd, Nat.reduceSub, Nat.reduceMul, Nat.reduceDiv, Int.reduceAdd, Int.reduceNeg, Int.reduceEq, Int.reduceLT, Int.reduceLE]; try simp (disch := omega) only [decide_eq_true, decide_eq_false])) ?_
    refine wlk_skip ?_
    repeat (first | refine hn4 _ ?_ | refine he4 _ _ ?_ | refine hr4 _ ?_ | refine he3 _ _ ?_ | refine hr3 _ ?_ | refine hn2 _ ?_ | refine he2 _ ?_ | refine hf2 _ _ (by decide) ?_ | refine hr2 _ ?_ | refine hn1 _ ?_ | refine he1 _ _ ?_ | refine hr1 _ ?_)
    refine wlk_seq fun X5 hn5 he5 hr5 => ?_
    refine wlk_blk fun X6 hn6 he6 hf6 hr6 => ?_
    have hx : out[k]? = some (out[k]) := List.getElem?_eq_getElem hk2
    have hxg : out.getD k 0 = out[k] := by simp [List.getD_eq_getElem?_getD, hx]
    generalize out[k] = v at hx hxg
    refine wlk_sreg fun KY hKY => ?_
    simp only [go_sem, reduceIte, Nat.reduceEqDiff, Nat.reduceBEq, reduceCtorEq, Nat.reduceLT, Nat.reduceLeDiff, Nat.reduceAdd, Nat.reduceSub, Nat.reduceMul, Nat.reduceDiv, Int.reduceAdd, Int.reduceNeg, Int.reduceEq, Int.reduceLT, Int.reduceLE, c_pieces_Of_r4, ints_get hk2, hxg, hk2]
    refine hKY _ ?_
    have hst := outD_snoc n out k v hx
    have hlen := (outD_ok n (out.take k)).1
    by_cases hv : 0 ≤ v
    · by_cases hvn : v < n
      · rw [if_pos ⟨hv, hvn⟩] at hst
        refine wlk_sreg fun KY hKY => ?_
        simp only [go_sem, reduceIte, Nat.reduceEqDiff, Nat.reduceBEq, reduceCtorEq, Nat.reduceLT, Nat.reduceLeDiff, Nat.reduceAdd, Nat.reduceSub, Nat.reduceMul, Nat.reduceDiv, Int.reduceAdd, Int.reduceNeg, Int.reduceEq, Int.reduceLT, Int.reduceLE, c_pieces_Of_r5, hv, near_len, hvn]
        refine hKY _ ?_
        refine wlk_cond1 (by first | rfl | (simp only [go_sem, reduceIte, Nat.reduceEqDiff, Nat.reduceBEq, reduceCtorEq, Nat.reduceLT, Nat.reduceLeDiff, Nat.reduceAdd, Nat.reduceSub, Nat.reduceMul, Nat.reduceDiv, Int.reduceAdd, Int.reduceNeg, Int.reduceEq, Int.reduceLT, Int.reduceLE]; try simp (disch := omega) only [decide_eq_true, decide_eq_false])) ?_
        obtain ⟨m, rfl⟩ : ∃ m : Nat, v = m := ⟨v.toNat, by omega⟩
        have hm : m < n := by omega
        rw [Int.toNat_natCast] at hst
        refine wlk_reg fun KY hKY => ?_
        simp only [go_sem, reduceIte, Nat.reduceEqDiff, Nat.reduceBEq, reduceCtorEq, Nat.reduceLT, Nat.reduceLeDiff, Nat.reduceAdd, Nat.reduceSub, Nat.reduceMul, Nat.reduceDiv, Int.reduceAdd, Int.reduceNeg, Int.reduceEq, Int.reduceLT, Int.reduceLE, c_pieces_Of_r6, hlen, hm, ← hst]
        refine hKY _ ?_
        repeat (first | refine hn6 _ ?_ | refine he6 _ ?_ | refine hf6 _ _ (by decide) ?_ | refine hr6 _ ?_ | refine hn5 _ ?_ | refine he5 _ _ ?_ | refine hr5 _ ?_ | refine hn4 _ ?_ | refine he4 _ _ ?_ | refine hr4 _ ?_ | refine he3 _ _ ?_ | refine hr3 _ ?_ | refine hn2 _ ?_ | refine he2 _ ?_ | refine hf2 _ _ (by decide) ?_ | refine hr2 _ ?_ | refine hn1 _ ?_ | refine he1 _ _ ?_ | refine hr1 _ ?_)
        refine wlk_reg fun KY hKY => ?_
        simp only [go_sem, reduceIte, Nat.reduceEqDiff, Nat.reduceBEq, reduceCtorEq, Nat.reduceLT, Nat.reduceLeDiff, Nat.reduceAdd, Nat.reduceSub, Nat.reduceMul, Nat.reduceDiv, Int.reduceAdd, Int.reduceNeg, Int.reduceEq, Int.reduceLT, Int.reduceLE, c_pieces_Of_r7, incS (show k < 4611686018427387904 by omega)]
        refine hKY _ ?_
        repeat (first | refine hn6 _ ?_ | refine he6 _ ?_ | refine hf6 _ _ (by decide) ?_ | refine hr6 _ ?_ | refine hn5 _ ?_ | refine he5 _ _ ?_ | refine hr5 _ ?_ | refine hn4 _ ?_ | refine he4 _ _ ?_ | refine hr4 _ ?_ | refine he3 _ _ ?_ | refine hr3 _ ?_ | refine hn2 _ ?_ | refine he2 _ ?_ | refine hf2 _ _ (by decide) ?_ | refine hr2 _ ?_ | refine hn1 _ ?_ | refine he1 _ _ ?_ | refine hr1 _ ?_)
        refine hn3 _ (k + 1) (out.length - (k + 1)) (by omega) (by first | (simp only [go_sem, reduceIte, Nat.reduceEqDiff, Nat.reduceBEq, reduceCtorEq, Nat.reduceLT, Nat.reduceLeDiff, Nat.reduceAdd, Nat.reduceSub, Nat.reduceMul, Nat.reduceDiv, Int.reduceAdd, Int.reduceNeg, Int.reduceEq, Int.reduceLT, Int.reduceLE, updAll_cons, updAll_nil, pRest]; done) | with_reducible rfl | rfl) ?_
        exact ⟨hk2, rfl⟩
      · rw [if_neg (by omega)] at hst
        refine wlk_sreg fun KY hKY => ?_
        simp only [go_sem, reduceIte, Nat.reduceEqDiff, Nat.reduceBEq, reduceCtorEq, Nat.reduceLT, Nat.reduceLeDiff, Nat.reduceAdd, Nat.reduceSub, Nat.reduceMul, Nat.reduceDiv, Int.reduceAdd, Int.reduceNeg, Int.reduceEq, Int.reduceLT, Int.reduceLE, c_pieces_Of_r5, hv, near_len, hvn]
        refine hKY _ ?_
        refine wlk_cond0 (by first | rfl | (simp only [go_sem, reduceIte, Nat.reduceEqDiff, Nat.reduceBEq, reduceCtorEq, Nat.reduceLT, Nat.reduceLeDiff, Nat.reduceAdd, Nat.reduceSub, Nat.reduceMul, Nat.reduceDiv, Int.reduceAdd, Int.reduceNeg, Int.reduceEq, Int.reduceLT, Int.reduceLE]; try simp (disch := omega) only [decide_eq_true, decide_eq_false])) ?_
        rw [← hst]
        refine wlk_skip ?_
        repeat (first | refine hn6 _ ?_ | refine he6 _ ?_ | refine hf6 _ _ (by decide) ?_ | refine hr6 _ ?_ | refine hn5 _ ?_ | refine he5 _ _ ?_ | refine hr5 _ ?_ | refine hn4 _ ?_ | refine he4 _ _ ?_ | refine hr4 _ ?_ | refine he3 _ _ ?_ | refine hr3 _ ?_ | refine hn2 _ ?_ | refine he2 _ ?_ | refine hf2 _ _ (by decide) ?_ | refine hr2 _ ?_ | refine hn1 _ ?_ | refine he1 _ _ ?_ | refine hr1 _ ?_)
        refine wlk_reg fun KY hKY => ?_
        simp only [go_sem, reduceIte, Nat.reduceEqDiff, Nat.reduceBEq, reduceCtorEq, Nat.reduceLT, Nat.reduceLeDiff, Nat.reduceAdd, Nat.reduceSub, Nat.reduceMul, Nat.reduceDiv, Int.reduceAdd, Int.reduceNeg, Int.reduceEq, Int.reduceLT, Int.reduceLE, c_pieces_Of_r7, incS (show k < 4611686018427387904 by omega)]
        refine hKY _ ?_
        repeat (first | refine hn6 _ ?_ | refine he6 _ ?_ | refine hf6 _ _ (by decide) ?_ | refine hr6 _ ?_ | refine hn5 _ ?_ | refine he5 _ _ ?_ | refine hr5 _ ?_ | refine hn4 _ ?_ | refine he4 _ _ ?_ | refine hr4 _ ?_ | refine he3 _ _ ?_ | refine hr3 _ ?_ | refine hn2 _ ?_ | refine he2 _ ?_ | refine hf2 _ _ (by decide) ?_ | refine hr2 _ ?_ | refine hn1 _ ?_ | refine he1 _ _ ?_ | refine hr1 _ ?_)
        refine hn3 _ (k + 1) (out.length - (k + 1)) (by omega) (by first | (simp only [go_sem, reduceIte, Nat.reduceEqDiff, Nat.reduceBEq, reduceCtorEq, Nat.reduceLT, Nat.reduceLeDiff, Nat.reduceAdd, Nat.reduceSub, Nat.reduceMul, Nat.reduceDiv, Int.reduceAdd, Int.reduceNeg, Int.reduceEq, Int.reduceLT, Int.reduceLE, updAll_cons, updAll_nil, pRest]; done) | with_reducible rfl | rfl) ?_
        exact ⟨hk2, rfl⟩
    · rw [if_neg (by omega)] at hst
      refine wlk_sreg fun KY hKY => ?_
      simp only [go_sem, reduceIte, Nat.reduceEqDiff, Nat.reduceBEq, reduceCtorEq, Nat.reduceLT, Nat.reduceLeDiff, Nat.reduceAdd, Nat.reduceSub, Nat.reduceMul, Nat.reduceDiv, Int.reduceAdd, Int.reduceNeg, Int.reduceEq, Int.reduceLT, Int.reduceLE, c_pieces_Of_r5, hv]
      refine hKY _ ?_
      refine wlk_cond0 (by first | rfl | (simp only [go_sem, reduceIte, Nat.reduceEqDiff, Nat.reduceBEq, reduceCtorEq, Nat.reduceLT, Nat.reduceLeDiff, Nat.reduceAdd, Nat.reduceSub, Nat.reduceMul, Nat.reduceDiv, Int.reduceAdd, Int.reduceNeg, Int.reduceEq, Int.reduceLT, Int.reduceLE]; try simp (disch := omega) only [decide_eq_true, decide_eq_false])) ?_
      rw [← hst]
      refine wlk_skip ?_
      repeat (first | refine hn6 _ ?_ | refine he6 _ ?_ | refine hf6 _ _ (by decide) ?_ | refine hr6 _ ?_ | refine hn5 _ ?_ | refine he5 _ _ ?_ | refine hr5 _ ?_ | refine hn4 _ ?_ | refine he4 _ _ ?_ | refine hr4 _ ?_ | refine he3 _ _ ?_ | refine hr3 _ ?_ | refine hn2 _ ?_ | refine he2 _ ?_ | refine hf2 _ _ (by decide) ?_ | refine hr2 _ ?_ | refine hn1 _ ?_ | refine he1 _ _ ?_ | refine hr1 _ ?_)
      refine wlk_reg fun KY hKY => ?_
      simp only [go_sem, reduceIte, Nat.reduceEqDiff, Nat.reduceBEq, reduceCtorEq, Nat.reduceLT, Nat.reduceLeDiff, Nat.reduceAdd, Nat.reduceSub, Nat.reduceMul, Nat.reduceDiv, Int.reduceAdd, Int.reduceNeg, Int.reduceEq, Int.reduceLT, Int.reduceLE, c_pieces_Of_r7, incS (show k < 4611686018427387904 by omega)]
      refine hKY _ ?_
      repeat (first | refine hn6 _ ?_ | refine he6 _ ?_ | refine hf6 _ _ (by decide) ?_ | refine hr6 _ ?_ | refine hn5 _ ?_ | refine he5 _ _ ?_ | refine hr5 _ ?_ | refine hn4 _ ?_ | refine he4 _ _ ?_ | refine hr4 _ ?_ | refine he3 _ _ ?_ | refine hr3 _ ?_ | refine hn2 _ ?_ | refine he2 _ ?_ | refine hf2 _ _ (by decide) ?_ | refine hr2 _ ?_ | refine hn1 _ ?_ | refine he1 _ _ ?_ | refine hr1 _ ?_)
      refine hn3 _ (k + 1) (out.length - (k + 1)) (by omega) (by first | (simp only [go_sem, reduceIte, Nat.reduceEqDiff, Nat.reduceBEq, reduceCtorEq, Nat.reduceLT, Nat.reduceLeDiff, Nat.reduceAdd, Nat.reduceSub, Nat.reduceMul, Nat.reduceDiv, Int.reduceAdd, Int.reduceNeg, Int.reduceEq, Int.reduceLT, Int.reduceLE, updAll_cons, updAll_nil, pRest]; done) | with_reducible rfl | rfl) ?_
      exact ⟨hk2, rfl⟩
  · refine wlk_cond0 (by first | rfl | (simp only [go_sem, reduceIte, Nat.reduceEqDiff, Nat.reduceBEq, reduceCtorEq, Nat.reduceLT, Nat.reduceLeDiff, Nat.reduceAdd, Nat.reduceSub, Nat.reduceMul, Nat.reduceDiv, Int.reduceAdd, Int.reduceNeg, Int.reduceEq, Int.reduceLT, Int.reduceLE]; try simp (disch := omega) only [decide_eq_true, decide_eq_false])) ?_
    refine wlk_exit ?_
    repeat (first | refine hn4 _ ?_ | refine he4 _ _ ?_ | refine hr4 _ ?_ | refine he3 _ _ ?_ | refine hr3 _ ?_ | refine hn2 _ ?_ | refine he2 _ ?_ | refine hf2 _ _ (by decide) ?_ | refine hr2 _ ?_ | refine hn1 _ ?_ | refine he1 _ _ ?_ | refine hr1 _ ?_)
    obtain rfl : k = out.length := by omega
    rw [List.take_length]
    obtain ⟨hlen, hout⟩ := outD_ok n out
    generalize outD n out = D0 at hlen hout
    refine wlk_sreg fun KY hKY => ?_
    simp only [go_sem, reduceIte, Nat.reduceEqDiff, Nat.reduceBEq, reduceCtorEq, Nat.reduceLT, Nat.reduceLeDiff, Nat.reduceAdd, Nat.reduceSub, Nat.reduceMul, Nat.reduceDiv, Int.reduceAdd, Int.reduceNeg, Int.reduceEq, Int.reduceLT, Int.reduceLE, c_pieces_Of_r8]
    refine hKY _ ?_
    simp only [go_sem, reduceIte, Nat.reduceEqDiff, Nat.reduceBEq, reduceCtorEq, Nat.reduceLT, Nat.reduceLeDiff, Nat.reduceAdd, Nat.reduceSub, Nat.reduceMul, Nat.reduceDiv, Int.reduceAdd, Int.reduceNeg, Int.reduceEq, Int.reduceLT, Int.reduceLE]
    refine sem_nil [0, 8] 1 (by simp only [go_sem, reduceIte, Nat.reduceEqDiff, Nat.reduceBEq, reduceCtorEq, Nat.reduceLT, Nat.reduceLeDiff, Nat.reduceAdd, Nat.reduceSub, Nat.reduceMul, Nat.reduceDiv, Int.reduceAdd, Int.reduceNeg, Int.reduceEq, Int.reduceLT, Int.reduceLE]) ?_
    refine wlk_seq fun X7 hn7 he7 hr7 => ?_
    refine wlk_sreg fun KY hKY => ?_
    simp only [go_sem, reduceIte, Nat.reduceEqDiff, Nat.reduceBEq, reduceCtorEq, Nat.reduceLT, Nat.reduceLeDiff, Nat.reduceAdd, Nat.reduceSub, Nat.reduceMul, Nat.reduceDiv, Int.reduceAdd, Int.reduceNeg, Int.reduceEq, Int.reduceLT, Int.reduceLE, c_pieces_Of_r9, near_len]
    refine hKY _ ?_
    refine wlk_blk fun X8 hn8 he8 hf8 hr8 => ?_
    try simp only [go_sem, reduceIte, Nat.reduceEqDiff, Nat.reduceBEq, reduceCtorEq, Nat.reduceLT, Nat.reduceLeDiff, Nat.reduceAdd, Nat.reduceSub, Nat.reduceMul, Nat.reduceDiv, Int.reduceAdd, Int.reduceNeg, Int.reduceEq, Int.reduceLT, Int.reduceLE]
    refine wlk_lp (α := Nat × List Bool × List (List Nat)) [9, 18, 19, 40, 49] (fun (v, D, ps) => [(8, .own (some 1) (rowsO ps)), (39, .sc (.int .i64 (v : Int)))]) (fun (v, D, ps) => [some (pRest (near n es) D)]) (fun (v, D, ps) q => v ≤ n ∧ q = n - v ∧ OI n es (fun v => (v : Int) ∈ out) v D ps) ((0, D0, [])) (n) rfl (by first | (simp only [go_sem, reduceIte, Nat.reduceEqDiff, Nat.reduceBEq, reduceCtorEq, Nat.reduceLT, Nat.reduceLeDiff, Nat.reduceAdd, Nat.reduceSub, Nat.reduceMul, Nat.reduceDiv, Int.reduceAdd, Int.reduceNeg, Int.reduceEq, Int.reduceLT, Int.reduceLE, updAll_cons, updAll_nil]; done) | with_reducible rfl | rfl) (⟨by omega, rfl, OI.start hlen hout⟩) ?_
    rintro ⟨v, D, ps⟩ q ⟨hv, rfl, w⟩ X9 hn9 he9 hr9
    simp only [go_sem, reduceIte, Nat.reduceEqDiff, Nat.reduceBEq, reduceCtorEq, Nat.reduceLT, Nat.reduceLeDiff, Nat.reduceAdd, Nat.reduceSub, Nat.reduceMul, Nat.reduceDiv, Int.reduceAdd, Int.reduceNeg, Int.reduceEq, Int.reduceLT, Int.reduceLE, updAll_cons, updAll_nil]
    unfold pRest
    refine wlk_sreg fun KY hKY => ?_
    simp only [go_sem, reduceIte, Nat.reduceEqDiff, Nat.reduceBEq, reduceCtorEq, Nat.reduceLT, Nat.reduceLeDiff, Nat.reduceAdd, Nat.reduceSub, Nat.reduceMul, Nat.reduceDiv, Int.reduceAdd, Int.reduceNeg, Int.reduceEq, Int.reduceLT, Int.reduceLE, c_pieces_Of_r10]
    refine hKY _ ?_
    refine wlk_seq fun X10 hn10 he10 hr10 => ?_
    by_cases hv2 : v < n
    · refine wlk_cond1 (by first | rfl | (simp only [go_sem, reduceIte, Nat.reduceEqDiff, Nat.reduceBEq, reduceCtorEq, Nat.reduceLT, Nat.reduceLeDiff, Nat.reduceAdd, Nat.reduceSub, Nat.reduceMul, Nat.reduceDiv, Int.reduceAdd, Int.reduceNeg, Int.reduceEq, Int.reduceLT, Int.reduceLE]; try simp (disch := omega) only [decide_eq_true, decide_eq_false])) ?_
      refine wlk_skip ?_
      repeat (first | refine hn10 _ ?_ | refine he10 _ _ ?_ | refine hr10 _ ?_ | refine he9 _ _ ?_ | refine hr9 _ ?_ | refine hn8 _ ?_ | refine he8 _ ?_ | refine hf8 _ _ (by decide) ?_ | refine hr8 _ ?_ | refine hn7 _ ?_ | refine he7 _ _ ?_ | refine hr7 _ ?_ | refine hn4 _ ?_ | refine he4 _ _ ?_ | refine hr4 _ ?_ | refine he3 _ _ ?_ | refine hr3 _ ?_ | refine hn2 _ ?_ | refine he2 _ ?_ | refine hf2 _ _ (by decide) ?_ | refine hr2 _ ?_ | refine hn1 _ ?_ | refine he1 _ _ ?_ | refine hr1 _ ?_)
      refine wlk_seq fun X11 hn11 he11 hr11 => ?_
      refine wlk_blk fun X12 hn12 he12 hf12 hr12 => ?_
      refine wlk_sreg fun KY hKY => ?_
      simp only [go_sem, reduceIte, Nat.reduceEqDiff, Nat.reduceBEq, reduceCtorEq, Nat.reduceLT, Nat.reduceLeDiff, Nat.reduceAdd, Nat.reduceSub, Nat.reduceMul, Nat.reduceDiv, Int.reduceAdd, Int.reduceNeg, Int.reduceEq, Int.reduceLT, Int.reduceLE, c_pieces_Of_r11]
      refine hKY _ ?_
      have hDl := w.len
      have hvD : v < D.length := by omega
      have hbg := bools_get hvD
      refine wlk_sreg fun KY hKY => ?_
      simp only [go_sem, reduceIte, Nat.reduceEqDiff, Nat.reduceBEq, reduceCtorEq, Nat.reduceLT, Nat.reduceLeDiff, Nat.reduceAdd, Nat.reduceSub, Nat.reduceMul, Nat.reduceDiv, Int.reduceAdd, Int.reduceNeg, Int.reduceEq, Int.reduceLT, Int.reduceLE, c_pieces_Of_r12, hbg, hvD]
      refine hKY _ ?_
      cases hd : D.getD v false with
      | true =>
        refine wlk_cond0 (by first | rfl | (simp only [go_sem, reduceIte, Nat.reduceEqDiff, Nat.reduceBEq, reduceCtorEq, Nat.reduceLT, Nat.reduceLeDiff, Nat.reduceAdd, Nat.reduceSub, Nat.reduceMul, Nat.reduceDiv, Int.reduceAdd, Int.reduceNeg, Int.reduceEq, Int.reduceLT, Int.reduceLE, hd]; try simp (disch := omega) only [decide_eq_true, decide_eq_false])) ?_
        refine wlk_skip ?_
        repeat (first | refine hn12 _ ?_ | refine he12 _ ?_ | refine hf12 _ _ (by decide) ?_ | refine hr12 _ ?_ | refine hn11 _ ?_ | refine he11 _ _ ?_ | refine hr11 _ ?_ | refine hn10 _ ?_ | refine he10 _ _ ?_ | refine hr10 _ ?_ | refine he9 _ _ ?_ | refine hr9 _ ?_ | refine hn8 _ ?_ | refine he8 _ ?_ | refine hf8 _ _ (by decide) ?_ | refine hr8 _ ?_ | refine hn7 _ ?_ | refine he7 _ _ ?_ | refine hr7 _ ?_ | refine hn4 _ ?_ | refine he4 _ _ ?_ | refine hr4 _ ?_ | refine he3 _ _ ?_ | refine hr3 _ ?_ | refine hn2 _ ?_ | refine he2 _ ?_ | refine hf2 _ _ (by decide) ?_ | refine hr2 _ ?_ | refine hn1 _ ?_ | refine he1 _ _ ?_ | refine hr1 _ ?_)
        refine wlk_reg fun KY hKY => ?_
        simp only [go_sem, reduceIte, Nat.reduceEqDiff, Nat.reduceBEq, reduceCtorEq, Nat.reduceLT, Nat.reduceLeDiff, Nat.reduceAdd, Nat.reduceSub, Nat.reduceMul, Nat.reduceDiv, Int.reduceAdd, Int.reduceNeg, Int.reduceEq, Int.reduceLT, Int.reduceLE, c_pieces_Of_r14, incS (show v < 4611686018427387904 by omega)]
        refine hKY _ ?_
        repeat (first | refine hn12 _ ?_ | refine he12 _ ?_ | refine hf12 _ _ (by decide) ?_ | refine hr12 _ ?_ | refine hn11 _ ?_ | refine he11 _ _ ?_ | refine hr11 _ ?_ | refine hn10 _ ?_ | refine he10 _ _ ?_ | refine hr10 _ ?_ | refine he9 _ _ ?_ | refine hr9 _ ?_ | refine hn8 _ ?_ | refine he8 _ ?_ | refine hf8 _ _ (by decide) ?_ | refine hr8 _ ?_ | refine hn7 _ ?_ | refine he7 _ _ ?_ | refine hr7 _ ?_ | refine hn4 _ ?_ | refine he4 _ _ ?_ | refine hr4 _ ?_ | refine he3 _ _ ?_ | refine hr3 _ ?_ | refine hn2 _ ?_ | refine he2 _ ?_ | refine hf2 _ _ (by decide) ?_ | refine hr2 _ ?_ | refine hn1 _ ?_ | refine he1 _ _ ?_ | refine hr1 _ ?_)
        refine hn9 _ ((v + 1, D, ps)) (n - (v + 1)) (by omega) (by first | (simp only [go_sem, reduceIte, Nat.reduceEqDiff, Nat.reduceBEq, reduceCtorEq, Nat.reduceLT, Nat.reduceLeDiff, Nat.reduceAdd, Nat.reduceSub, Nat.reduceMul, Nat.reduceDiv, Int.reduceAdd, Int.reduceNeg, Int.reduceEq, Int.reduceLT, Int.reduceLE, updAll_cons, updAll_nil, pRest]; done) | with_reducible rfl | rfl) ?_
        exact ⟨hv2, rfl, w.skip hd⟩
      | false =>
        refine wlk_cond1 (by first | rfl | (simp only [go_sem, reduceIte, Nat.reduceEqDiff, Nat.reduceBEq, reduceCtorEq, Nat.reduceLT, Nat.reduceLeDiff, Nat.reduceAdd, Nat.reduceSub, Nat.reduceMul, Nat.reduceDiv, Int.reduceAdd, Int.reduceNeg, Int.reduceEq, Int.reduceLT, Int.reduceLE, hd]; try simp (disch := omega) only [decide_eq_true, decide_eq_false])) ?_
        have hps := pieces_le w
        have hby : (ps.length + 1) * 24 ≤ 140737488355328 := by omega
        refine wlk_reg fun KY hKY => ?_
        simp only [go_sem, reduceIte, Nat.reduceEqDiff, Nat.reduceBEq, reduceCtorEq, Nat.reduceLT, Nat.reduceLeDiff, Nat.reduceAdd, Nat.reduceSub, Nat.reduceMul, Nat.reduceDiv, Int.reduceAdd, Int.reduceNeg, Int.reduceEq, Int.reduceLT, Int.reduceLE, c_pieces_Of_r13]
        apply call_gen [] [0] false none rfl
        iterate 8 (first | (simp only [go_sem, reduceIte, Nat.reduceEqDiff, Nat.reduceBEq, reduceCtorEq, Nat.reduceLT, Nat.reduceLeDiff, Nat.reduceAdd, Nat.reduceSub, Nat.reduceMul, Nat.reduceDiv, Int.reduceAdd, Int.reduceNeg, Int.reduceEq, Int.reduceLT, Int.reduceLE, watchIn] <;> rfl) | rfl)
        refine (piece_ok g D hDl v hv2 hd).mono ?_
        rintro _ _ ⟨p, D', hp, rfl, rfl⟩
        unfold pRest
        refine ⟨Nat.le_of_ble_eq_true rfl, (fun hh => by cases hh), ?_⟩
        simp only [go_sem, reduceIte, Nat.reduceEqDiff, Nat.reduceBEq, reduceCtorEq, Nat.reduceLT, Nat.reduceLeDiff, Nat.reduceAdd, Nat.reduceSub, Nat.reduceMul, Nat.reduceDiv, Int.reduceAdd, Int.reduceNeg, Int.reduceEq, Int.reduceLT, Int.reduceLE, callOut, AState.after, rowsO_cellOk, hby, rowsO_snoc]
        refine hKY _ ?_
        repeat (first | refine hn12 _ ?_ | refine he12 _ ?_ | refine hf12 _ _ (by decide) ?_ | refine hr12 _ ?_ | refine hn11 _ ?_ | refine he11 _ _ ?_ | refine hr11 _ ?_ | refine hn10 _ ?_ | refine he10 _ _ ?_ | refine hr10 _ ?_ | refine he9 _ _ ?_ | refine hr9 _ ?_ | refine hn8 _ ?_ | refine he8 _ ?_ | refine hf8 _ _ (by decide) ?_ | refine hr8 _ ?_ | refine hn7 _ ?_ | refine he7 _ _ ?_ | refine hr7 _ ?_ | refine hn4 _ ?_ | refine he4 _ _ ?_ | refine hr4 _ ?_ | refine he3 _ _ ?_ | refine hr3 _ ?_ | refine hn2 _ ?_ | refine he2 _ ?_ | refine hf2 _ _ (by decide) ?_ | refine hr2 _ ?_ | refine hn1 _ ?_ | refine he1 _ _ ?_ | refine hr1 _ ?_)
        refine wlk_reg fun KY hKY => ?_
        simp only [go_sem, reduceIte, Nat.reduceEqDiff, Nat.reduceBEq, reduceCtorEq, Nat.reduceLT, Nat.reduceLeDiff, Nat.reduceAdd, Nat.reduceSub, Nat.reduceMul, Nat.reduceDiv, Int.reduceAdd, Int.reduceNeg, Int.reduceEq, Int.reduceLT, Int.reduceLE, c_pieces_Of_r14, incS (show v < 4611686018427387904 by omega)]
        refine hKY _ ?_
        repeat (first | refine hn12 _ ?_ | refine he12 _ ?_ | refine hf12 _ _ (by decide) ?_ | refine hr12 _ ?_ | refine hn11 _ ?_ | refine he11 _ _ ?_ | refine hr11 _ ?_ | refine hn10 _ ?_ | refine he10 _ _ ?_ | refine hr10 _ ?_ | refine he9 _ _ ?_ | refine hr9 _ ?_ | refine hn8 _ ?_ | refine he8 _ ?_ | refine hf8 _ _ (by decide) ?_ | refine hr8 _ ?_ | refine hn7 _ ?_ | refine he7 _ _ ?_ | refine hr7 _ ?_ | refine hn4 _ ?_ | refine he4 _ _ ?_ | refine hr4 _ ?_ | refine he3 _ _ ?_ | refine hr3 _ ?_ | refine hn2 _ ?_ | refine he2 _ ?_ | refine hf2 _ _ (by decide) ?_ | refine hr2 _ ?_ | refine hn1 _ ?_ | refine he1 _ _ ?_ | refine hr1 _ ?_)
        refine hn9 _ ((v + 1, D', ps ++ [p])) (n - (v + 1)) (by omega) (by first | (simp only [go_sem, reduceIte, Nat.reduceEqDiff, Nat.reduceBEq, reduceCtorEq, Nat.reduceLT, Nat.reduceLeDiff, Nat.reduceAdd, Nat.reduceSub, Nat.reduceMul, Nat.reduceDiv, Int.reduceAdd, Int.reduceNeg, Int.reduceEq, Int.reduceLT, Int.reduceLE, updAll_cons, updAll_nil, pRest]; done) | with_reducible rfl | rfl) ?_
        exact ⟨hv2, rfl, w.take g.adj_lt hp⟩
    · refine wlk_cond0 (by first | rfl | (simp only [go_sem, reduceIte, Nat.reduceEqDiff, Nat.reduceBEq, reduceCtorEq, Nat.reduceLT, Nat.reduceLeDiff, Nat.reduceAdd, Nat.reduceSub, Nat.reduceMul, Nat.reduceDiv, Int.reduceAdd, Int.reduceNeg, Int.reduceEq, Int.reduceLT, Int.reduceLE]; try simp (disch := omega) only [decide_eq_true, decide_eq_false])) ?_
      refine wlk_exit ?_
      repeat (first | refine hn10 _ ?_ | refine he10 _ _ ?_ | refine hr10 _ ?_ | refine he9 _ _ ?_ | refine hr9 _ ?_ | refine hn8 _ ?_ | refine he8 _ ?_ | refine hf8 _ _ (by decide) ?_ | refine hr8 _ ?_ | refine hn7 _ ?_ | refine he7 _ _ ?_ | refine hr7 _ ?_ | refine hn4 _ ?_ | refine he4 _ _ ?_ | refine hr4 _ ?_ | refine he3 _ _ ?_ | refine hr3 _ ?_ | refine hn2 _ ?_ | refine he2 _ ?_ | refine hf2 _ _ (by decide) ?_ | refine hr2 _ ?_ | refine hn1 _ ?_ | refine he1 _ _ ?_ | refine hr1 _ ?_)
      obtain rfl : v = n := by omega
      refine wlk_sreg fun KY hKY => ?_
      simp only [go_sem, reduceIte, Nat.reduceEqDiff, Nat.reduceBEq, reduceCtorEq, Nat.reduceLT, Nat.reduceLeDiff, Nat.reduceAdd, Nat.reduceSub, Nat.reduceMul, Nat.reduceDiv, Int.reduceAdd, Int.reduceNeg, Int.reduceEq, Int.reduceLT, Int.reduceLE, c_pieces_Of_r15]
      refine hKY _ ?_
      refine wlk_ret ?_
      repeat (first | refine hn10 _ ?_ | refine he10 _ _ ?_ | refine hr10 _ ?_ | refine he9 _ _ ?_ | refine hr9 _ ?_ | refine hn8 _ ?_ | refine he8 _ ?_ | refine hf8 _ _ (by decide) ?_ | refine hr8 _ ?_ | refine hn7 _ ?_ | refine he7 _ _ ?_ | refine hr7 _ ?_ | refine hn4 _ ?_ | refine he4 _ _ ?_ | refine hr4 _ ?_ | refine he3 _ _ ?_ | refine hr3 _ ?_ | refine hn2 _ ?_ | refine he2 _ ?_ | refine hf2 _ _ (by decide) ?_ | refine hr2 _ ?_ | refine hn1 _ ?_ | refine he1 _ _ ?_ | refine hr1 _ ?_)
      simp only [go_sem, reduceIte, Nat.reduceEqDiff, Nat.reduceBEq, reduceCtorEq, Nat.reduceLT, Nat.reduceLeDiff, Nat.reduceAdd, Nat.reduceSub, Nat.reduceMul, Nat.reduceDiv, Int.reduceAdd, Int.reduceNeg, Int.reduceEq, Int.reduceLT, Int.reduceLE]
      exact ⟨ps, w.pieces, rfl⟩
abbrev PsQ (n : Nat) (es : Es) (out : List Int) (r : AVal) (h' : Heap) : Prop := (∃ ps, IsPieces n es (fun v => (v : Int) ∈ out) ps ∧ r = .own (some 1) (rowsO ps)) ∧ h' = []
theorem ofT_ok {n : Nat} {es : Es} (g : GR n es) (out : List Int) (ho : out.length ≤ 1000000000) :
    ACalls Try.prog [] n_pieces_Of [.imm 1 (rowsI (near n es)), .imm 1 (ints out)] [] (PsQ n es out) := by
  refine ACalls.trim ((of_ok g out ho).mono ?_)
  rintro r h' ⟨ps, h1, rfl, h2⟩
  refine ⟨Nat.zero_le _, ⟨ps, h1, ?_⟩, rfl⟩
  simp only [AVal.ren, rowsO_ren]
end Go.Proofs.Ytepjcfbigcfkfaa
set_option maxRecDepth 100000
set_option maxHeartbeats 4000000
namespace Go.Proofs.Ytepjcfbigcfkfaa
open Go Go.Ga Go.Ga.Gl
theorem inc (k : Nat) (h : k ≤ 1000000000) : IntKind.i64.wrap ((k : Int) + 1) = ((k + 1 : Nat) : Int) := by rw [IntWalk.i64_in _ (by omega)]; omega
theorem nats_ints (xs : List Nat) : nats xs = ints (xs.map fun (n : Nat) => (n : Int)) := by simp [nats, ints]
theorem ints_at {xs : List Int} {k : Nat} {x : Int} (h : xs[k]? = some x) : (ints xs)[k]? = some (.sc (.int .i64 x)) := by simp [ints, h]
end Go.Proofs.Ytepjcfbigcfkfaa
set_option maxRecDepth 100000
set_option maxHeartbeats 4000000
namespace Go.Proofs.Ytepjcfbigcfkfaa
open Go Go.Ga Go.Ga.Gl
end Go.Proofs.Ytepjcfbigcfkfaa
namespace Go.Ga.Gl
open Go Go.Ga
end Go.Ga.Gl
namespace Go.Ga.Gl
open Go Go.Ga
theorem head_mem {p : List Nat} {a : Nat} (h : a ∈ p.head?) : a ∈ p := by
  cases p with
  | nil => cases h
  | cons b p => have : b = a := by simpa using h
                subst this; exact List.mem_cons_self ..
end Go.Ga.Gl
namespace Go.Ga.Gl
open Go Go.Ga
structure LI (n : Nat) (es : Es) (O : Nat → Prop) (lab : List Int) : Prop where
  len : lab.length = n
  out : ∀ v, v < n → (lab.getD v 0 < 0 ↔ O v)
  low : ∀ v, v < n → ¬ O v → 0 ≤ lab.getD v 0 ∧ lab.getD v 0 ≤ v ∧ ¬ O (lab.getD v 0).toNat
  conn : ∀ f, Flat es O f → ∀ v, v < n → ¬ O v → f v = f (lab.getD v 0).toNat
theorem getD_set (l : List Int) (v w : Nat) (k : Int) (h : v < l.length) : (l.set v k).getD w 0 = if w = v then k else l.getD w 0 := by
  simp only [List.getD_eq_getElem?_getD, List.getElem?_set]
  by_cases e : v = w
  · subst e; simp [h]
  · simp [e, Ne.symm e]
def lab2 (lab : List Int) (a b : Nat) : List Int := (lab.set a (min (lab.getD a 0) (lab.getD b 0))).set b (min (lab.getD a 0) (lab.getD b 0))
theorem lab2_get {lab : List Int} {a b w : Nat} (ha : a < lab.length) (hb : b < lab.length) : (lab2 lab a b).getD w 0 = if w = a ∨ w = b then min (lab.getD a 0) (lab.getD b 0) else lab.getD w 0 := by
  unfold lab2
  rw [getD_set _ _ _ _ (by simpa using hb), getD_set _ _ _ _ ha]
  by_cases h1 : w = b
  · simp [h1]
  · by_cases h2 : w = a
    · simp [h2]
    · simp [h1, h2]
theorem LI.step {n : Nat} {es : Es} {O : Nat → Prop} {lab : List Int} (w : LI n es O lab) {a b : Nat} (hab : adj es a b) (han : a < n) (hbn : b < n) (h1 : ¬ lab.getD a 0 < 0) (h2 : ¬ lab.getD b 0 < 0) : LI n es O (lab2 lab a b) := by
  have oa : ¬ O a := fun h => h1 ((w.out a han).2 h)
  have ob : ¬ O b := fun h => h2 ((w.out b hbn).2 h)
  have la := w.low a han oa
  have lb := w.low b hbn ob
  have hal : a < lab.length := by rw [w.len]; exact han
  have hbl : b < lab.length := by rw [w.len]; exact hbn
  have hk : ∃ c, (c = a ∨ c = b) ∧ min (lab.getD a 0) (lab.getD b 0) = lab.getD c 0 := by
    rcases Int.le_total (lab.getD a 0) (lab.getD b 0) with h | h
    · exact ⟨a, .inl rfl, Int.min_eq_left h⟩
    · exact ⟨b, .inr rfl, Int.min_eq_right h⟩
  refine ⟨by unfold lab2; simp [w.len], fun v hv => ?_, fun v hv ho => ?_, fun f hf v hv ho => ?_⟩
  · rw [lab2_get hal hbl]
    split
    · rename_i h
      rcases h with rfl | rfl
      · constructor
        · intro h; omega
        · intro h; exact absurd h oa
      · constructor
        · intro h; omega
        · intro h; exact absurd h ob
    · exact w.out v hv
  · rw [lab2_get hal hbl]
    split
    · rename_i h
      obtain ⟨c, hc, e⟩ := hk
      refine ⟨by omega, by rcases h with rfl | rfl <;> omega, ?_⟩
      rw [e]
      rcases hc with rfl | rfl
      · exact la.2.2
      · exact lb.2.2
    · exact w.low v hv ho
  · rw [lab2_get hal hbl]
    split
    · rename_i h
      obtain ⟨c, hc, e⟩ := hk
      rw [e]
      have e1 := hf a b hab oa ob
      have ea := w.conn f hf a han oa
      have eb := w.conn f hf b hbn ob
      rcases h with rfl | rfl <;> rcases hc with rfl | rfl
      · exact ea
      · rw [e1, eb]
      · rw [← e1, ea]
      · exact eb
    · exact w.conn f hf v hv ho
theorem LI.start {n : Nat} {es : Es} {O : Nat → Prop} {lab : List Int} (hl : lab.length = n) (h : ∀ v, v < n → (O v → lab.getD v 0 = -1) ∧ (¬ O v → lab.getD v 0 = (v : Int))) : LI n es O lab := by
  refine ⟨hl, fun v hv => ?_, fun v hv ho => ?_, fun f _ v hv ho => ?_⟩
  · constructor
    · intro h1
      by_cases ho : O v
      · exact ho
      · have := (h v hv).2 ho; omega
    · intro ho; have := (h v hv).1 ho; omega
  · rw [(h v hv).2 ho]; exact ⟨by omega, by omega, by simpa using ho⟩
  · rw [(h v hv).2 ho]; simp
def byLabel (n : Nat) (lab : List Int) (m : Nat) : List (List Nat) := ((List.range m).filter fun v : Nat => decide (lab.getD v 0 = (v : Int))).map fun v : Nat => (List.range n).filter fun w => decide (lab.getD w 0 = (v : Int))
theorem mem_byLabel {n : Nat} {lab : List Int} {m : Nat} {p : List Nat} : p ∈ byLabel n lab m ↔ ∃ v : Nat, v < m ∧ lab.getD v 0 = (v : Int) ∧ (List.range n).filter (fun w => decide (lab.getD w 0 = (v : Int))) = p := by
  simp only [byLabel, List.mem_map, List.mem_filter, List.mem_range, decide_eq_true_eq, and_assoc]
theorem LI.pieces {n : Nat} {es : Es} {O : Nat → Prop} {lab : List Int} (hes : ∀ a b, adj es a b → a < n ∧ b < n) (W : LI n es O lab) (hfix : ∀ e ∈ es, lab.getD e.1 0 < 0 ∨ lab.getD e.2 0 < 0 ∨ lab.getD e.1 0 = lab.getD e.2 0) : IsPieces n es O (byLabel n lab n) := by
  have hflat : ∀ a b, adj es a b → ¬ O a → ¬ O b → lab.getD a 0 = lab.getD b 0 := by
    intro a b hab ha hb
    have hl := hes a b hab
    have h1 := W.low a hl.1 ha
    have h2 := W.low b hl.2 hb
    rcases hab with h | h
    · rcases hfix _ h with h | h | h
      · exact absurd h (by simp only; omega)
      · exact absurd h (by simp only; omega)
      · exact h
    · rcases hfix _ h with h | h | h
      · exact absurd h (by simp only; omega)
      · exact absurd h (by simp only; omega)
      · exact h.symm
  have hfl : Flat es O (fun v => (lab.getD v 0).toNat) := fun a b hab ha hb => by
    show (lab.getD a 0).toNat = (lab.getD b 0).toNat
    rw [hflat a b hab ha hb]
  have hid : ∀ v, v < n → ¬ O v → lab.getD (lab.getD v 0).toNat 0 = lab.getD v 0 := by
    intro v hv ho
    have h1 := W.low v hv ho
    have h2 := W.conn _ hfl v hv ho
    have h3 := W.low (lab.getD v 0).toNat (by omega) h1.2.2
    have h2 : (lab.getD v 0).toNat = (lab.getD (lab.getD v 0).toNat 0).toNat := h2
    omega
  have hm : ∀ (v w : Nat), w ∈ (List.range n).filter (fun w => decide (lab.getD w 0 = (v : Int))) ↔ w < n ∧ lab.getD w 0 = (v : Int) := fun v w => by
    simp only [List.mem_filter, List.mem_range, decide_eq_true_eq]
  have hno : ∀ (v w : Nat), w < n → lab.getD w 0 = (v : Int) → ¬ O w := fun v w hw h ho => by
    have := (W.out w hw).2 ho; omega
  have hle : ∀ (v w : Nat), w < n → lab.getD w 0 = (v : Int) → v ≤ w := fun v w hw h => by
    have := (W.low w hw (hno v w hw h)).2.1; omega
  have hfirst : ∀ v : Nat, v < n → lab.getD v 0 = (v : Int) → ∀ a ∈ ((List.range n).filter fun w => decide (lab.getD w 0 = (v : Int))).head?, a = v := by
    intro v hv h a ha
    have h1 := (hm v a).1 (head_mem ha)
    have h2 := hle v a h1.1 h1.2
    have h3 : a ≤ v := by
      have hpw : ((List.range n).filter fun w => decide (lab.getD w 0 = (v : Int))).Pairwise (· < ·) := List.pairwise_lt_range.filter _
      have hvm := (hm v v).2 ⟨hv, h⟩
      generalize (List.range n).filter (fun w => decide (lab.getD w 0 = (v : Int))) = r at ha hpw hvm
      cases r with
      | nil => cases ha
      | cons b r =>
        have : b = a := by simpa using ha
        subst this
        rcases List.mem_cons.1 hvm with e | e
        · omega
        · have := (List.pairwise_cons.1 hpw).1 v e; omega
    omega
  refine ⟨fun v => ?_, ?_, ?_, ?_, ?_, ?_, ?_⟩
  · constructor
    · rintro ⟨p, hp, hv⟩
      obtain ⟨k, _, _, rfl⟩ := mem_byLabel.1 hp
      have := (hm k v).1 hv
      exact ⟨this.1, hno k v this.1 this.2⟩
    · rintro ⟨hv, ho⟩
      have h1 := W.low v hv ho
      have h2 := hid v hv ho
      refine ⟨_, mem_byLabel.2 ⟨(lab.getD v 0).toNat, by omega, by rw [h2]; omega, rfl⟩, (hm _ v).2 ⟨hv, by omega⟩⟩
  · intro p hp
    obtain ⟨k, hk, h, rfl⟩ := mem_byLabel.1 hp
    exact List.ne_nil_of_mem ((hm k k).2 ⟨hk, h⟩)
  · intro p hp
    obtain ⟨k, _, _, rfl⟩ := mem_byLabel.1 hp
    exact List.pairwise_lt_range.filter _
  · unfold byLabel
    refine List.pairwise_map.2 ((List.pairwise_lt_range.filter _).imp_of_mem fun {u v} hu hv h a ha b hb => ?_)
    simp only [List.mem_filter, List.mem_range, decide_eq_true_eq] at hu hv
    rw [hfirst u hu.1 hu.2 a ha, hfirst v hv.1 hv.2 b hb]; exact h
  · unfold byLabel
    refine List.pairwise_map.2 ((List.pairwise_lt_range.filter _).imp fun {u v} h w hw hw' => ?_)
    have h1 := ((hm u w).1 hw).2
    have h2 := ((hm v w).1 hw').2
    omega
  · intro p hp a ha b hab hb hob
    obtain ⟨k, _, _, rfl⟩ := mem_byLabel.1 hp
    have h1 := (hm k a).1 ha
    exact (hm k b).2 ⟨hb, by rw [← hflat a b hab (hno k a h1.1 h1.2) hob]; exact h1.2⟩
  · intro p hp f hf a ha b hb
    obtain ⟨k, _, _, rfl⟩ := mem_byLabel.1 hp
    have h1 := (hm k a).1 ha
    have h2 := (hm k b).1 hb
    rw [W.conn f hf a h1.1 (hno k a h1.1 h1.2), W.conn f hf b h2.1 (hno k b h2.1 h2.2), h1.2, h2.2]
end Go.Ga.Gl
set_option maxRecDepth 100000
set_option maxHeartbeats 2000000
namespace Go.Proofs.Ytepjcfbigcfkfaa
open Go Go.Ga Go.Ga.Gl
theorem ints_zero (n : Nat) : zeroCellsA [.int .i64 0] n = ints (List.replicate n 0) := by
  rw [nats_zero, nats_ints]; simp
end Go.Proofs.Ytepjcfbigcfkfaa
set_option maxRecDepth 100000
set_option maxHeartbeats 2000000
namespace Go.Proofs.Ytepjcfbigcfkfaa
open Go Go.Ga Go.Ga.Gl
def PsOf (n : Int) (es : List (Int × Int)) (out : List Int) (ps : List (List Nat)) : Prop :=
  (rightB n es = true ∧ ∃ (N : Nat) (es' : Es), n = N ∧ es = castE es' ∧ GR N es' ∧ IsPieces N es' (fun v => (v : Int) ∈ out) ps) ∨ (rightB n es = false ∧ ps = [])
theorem castE_inj : ∀ {l m : Es}, castE l = castE m → l = m
  | [], [], _ => rfl
  | [], _ :: _, h => by simp [castE] at h
  | _ :: _, [], h => by simp [castE] at h
  | (a, b) :: l, (c, d) :: m, h => by
    simp only [castE, List.map_cons, List.cons.injEq, Prod.mk.injEq] at h
    obtain ⟨⟨h1, h2⟩, h3⟩ := h
    rw [castE_inj (l := l) (m := m) h3, show a = c by omega, show b = d by omega]
theorem PsOf.unique {n : Int} {es : List (Int × Int)} {out : List Int} {ps qs : List (List Nat)} (h : PsOf n es out ps) (h' : PsOf n es out qs) : ps = qs := by
  rcases h with ⟨r, N, es', rfl, rfl, g, P⟩ | ⟨r, rfl⟩
  · rcases h' with ⟨_, N', es'', e1, e2, _, Q⟩ | ⟨r', _⟩
    · obtain rfl : N = N' := by omega
      rw [← castE_inj e2] at Q
      exact P.unique g.adj_lt Q
    · rw [r] at r'; cases r'
  · rcases h' with ⟨r', _⟩ | ⟨_, rfl⟩
    · rw [r] at r'; cases r'
    · rfl
theorem PsOf.len {n : Int} {es : List (Int × Int)} {out : List Int} {ps : List (List Nat)} (h : PsOf n es out ps) : ps.length ≤ 4096 ∧ ∀ p ∈ ps, p.length ≤ 4096 := by
  rcases h with ⟨_, N, es', _, _, g, P⟩ | ⟨_, rfl⟩
  · have := g.hn
    exact ⟨Nat.le_trans (pieces_len P) this, fun p hp => Nat.le_trans (piece_len P hp) this⟩
  · exact ⟨by simp, fun p hp => by simp at hp⟩
theorem PsOf.disj {n : Int} {es : List (Int × Int)} {out : List Int} {ps : List (List Nat)} (h : PsOf n es out ps) : ps.Pairwise fun p q => ∀ v ∈ p, v ∉ q := by
  rcases h with ⟨_, N, es', _, _, g, P⟩ | ⟨_, rfl⟩
  · exact P.disj
  · exact .nil
end Go.Proofs.Ytepjcfbigcfkfaa
set_option maxRecDepth 100000
set_option maxHeartbeats 2000000
namespace Go.Proofs.Ytepjcfbigcfkfaa
open Go Go.Ga Go.Ga.Gl
end Go.Proofs.Ytepjcfbigcfkfaa
set_option maxRecDepth 100000
set_option maxHeartbeats 2000000
namespace Go.Proofs.Ytepjcfbigcfkfaa
open Go Go.Ga Go.Ga.Gl
def sumAt (fs : List Int) (l : List Nat) : Int := (l.map fun v => fs.getD v 0).sum
theorem sumAt_snoc (fs : List Int) {l : List Nat} {k v : Nat} (h : l[k]? = some v) : sumAt fs (l.take (k + 1)) = sumAt fs (l.take k) + fs.getD v 0 := by
  unfold sumAt
  rw [List.take_add_one, h]
  simp
theorem sumAt_bound {fs : List Int} (hf : ∀ x ∈ fs, 0 ≤ x ∧ x ≤ 4096) (l : List Nat) : 0 ≤ sumAt fs l ∧ sumAt fs l ≤ 4096 * l.length := by
  induction l with
  | nil => simp [sumAt]
  | cons v l ih =>
    have : 0 ≤ fs.getD v 0 ∧ fs.getD v 0 ≤ 4096 := by
      rw [List.getD_eq_getElem?_getD]
      cases h : fs[v]? with
      | none => simp
      | some x => exact hf x (List.mem_of_getElem? h)
    simp only [sumAt, List.map_cons, List.sum_cons, List.length_cons] at ih ⊢
    omega
theorem nats_at {xs : List Nat} {k x : Nat} (h : xs[k]? = some x) : (nats xs)[k]? = some (.sc (.int .i64 (x : Int))) := by simp [nats, h]
theorem sum_ok (fs : List Int) (l : List Nat) (hf : ∀ x ∈ fs, 0 ≤ x ∧ x ≤ 4096) (hv : ∀ v ∈ l, v < fs.length) (hl : l.length ≤ 1000000) : ACalls Try.prog [] n_tutte_degrees_sum [.imm 1 (ints fs), .imm 1 (nats l)] [] fun r h' => r = .sc (.int .i64 (sumAt fs l)) ∧ h' = [] := by
  refine go_tutte_degrees_sum rfl ?_
  unfold c_tutte_degrees_sum v_tutte_degrees_sum
  refine wlk_sreg fun KY hKY => ?_
  simp only [go_sem, reduceIte, Nat.reduceEqDiff, Nat.reduceBEq, reduceCtorEq, Nat.reduceLT, Nat.reduceLeDiff, Nat.reduceAdd, Nat.reduceSub, Nat.reduceMul, Nat.reduceDiv, Int.reduceAdd, Int.reduceNeg, Int.reduceEq, Int.reduceLT, Int.reduceLE, c_tutte_degrees_sum_r0]
  refine hKY _ ?_
  refine wlk_sreg fun KY hKY => ?_
  simp only [go_sem, reduceIte, Nat.reduceEqDiff, Nat.reduceBEq, reduceCtorEq, Nat.reduceLT, Nat.reduceLeDiff, Nat.reduceAdd, Nat.reduceSub, Nat.reduceMul, Nat.reduceDiv, Int.reduceAdd, Int.reduceNeg, Int.reduceEq, Int.reduceLT, Int.reduceLE, c_tutte_degrees_sum_r1]
  refine hKY _ ?_
  refine wlk_seq fun X1 hn1 he1 hr1 => ?_
  refine wlk_sreg fun KY hKY => ?_
  simp only [go_sem, reduceIte, Nat.reduceEqDiff, Nat.reduceBEq, reduceCtorEq, Nat.reduceLT, Nat.reduceLeDiff, Nat.reduceAdd, Nat.reduceSub, Nat.reduceMul, Nat.reduceDiv, Int.reduceAdd, Int.reduceNeg, Int.reduceEq, Int.reduceLT, Int.reduceLE, c_tutte_degrees_sum_r2]
  refine hKY _ ?_
  refine wlk_blk fun X2 hn2 he2 hf2 hr2 => ?_
  try simp only [go_sem, reduceIte, Nat.reduceEqDiff, Nat.reduceBEq, reduceCtorEq, Nat.reduceLT, Nat.reduceLeDiff, Nat.reduceAdd, Nat.reduceSub, Nat.reduceMul, Nat.reduceDiv, Int.reduceAdd, Int.reduceNeg, Int.reduceEq, Int.reduceLT, Int.reduceLE]
  refine wlk_lp (α := Nat) [7, 11] (fun k => [(5, .sc (.int .i64 (sumAt fs (l.take k)))), (10, .sc (.int .i64 (k : Int)))]) (fun k => []) (fun k q => k ≤ l.length ∧ q = l.length - k) (0) (l.length) rfl (by first | (simp only [go_sem, reduceIte, Nat.reduceEqDiff, Nat.reduceBEq, reduceCtorEq, Nat.reduceLT, Nat.reduceLeDiff, Nat.reduceAdd, Nat.reduceSub, Nat.reduceMul, Nat.reduceDiv, Int.reduceAdd, Int.reduceNeg, Int.reduceEq, Int.reduceLT, Int.reduceLE, updAll_cons, updAll_nil]; done) | with_reducible rfl | rfl) (⟨by omega, rfl⟩) ?_
  rintro k q ⟨hk, rfl⟩ X3 hn3 he3 hr3
  simp only [go_sem, reduceIte, Nat.reduceEqDiff, Nat.reduceBEq, reduceCtorEq, Nat.reduceLT, Nat.reduceLeDiff, Nat.reduceAdd, Nat.reduceSub, Nat.reduceMul, Nat.reduceDiv, Int.reduceAdd, Int.reduceNeg, Int.reduceEq, Int.reduceLT, Int.reduceLE, updAll_cons, updAll_nil]
  refine wlk_sreg fun KY hKY => ?_
  simp only [go_sem, reduceIte, Nat.reduceEqDiff, Nat.reduceBEq, reduceCtorEq, Nat.reduceLT, Nat.reduceLeDiff, Nat.reduceAdd, Nat.reduceSub, Nat.reduceMul, Nat.reduceDiv, Int.reduceAdd, Int.reduceNeg, Int.reduceEq, Int.reduceLT, Int.reduceLE, c_tutte_degrees_sum_r3]
  refine hKY _ ?_
  refine wlk_seq fun X4 hn4 he4 hr4 => ?_
  by_cases hk2 : k < l.length
  · refine wlk_cond1 (by first | rfl | (simp only [go_sem, reduceIte, Nat.reduceEqDiff, Nat.reduceBEq, reduceCtorEq, Nat.reduceLT, Nat.reduceLeDiff, Nat.reduceAdd, Nat.reduceSub, Nat.reduceMul, Nat.reduceDiv, Int.reduceAdd, Int.reduceNeg, Int.reduceEq, Int.reduceLT, Int.reduceLE]; try simp (disch := omega) only [decide_eq_true, decide_eq_false])) ?_
    refine wlk_skip ?_
    repeat (first | refine hn4 _ ?_ | refine he4 _ _ ?_ | refine hr4 _ ?_ | refine he3 _ _ ?_ | refine hr3 _ ?_ | refine hn2 _ ?_ | refine he2 _ ?_ | refine hf2 _ _ (by decide) ?_ | refine hr2 _ ?_ | refine hn1 _ ?_ | refine he1 _ _ ?_ | refine hr1 _ ?_)
    refine wlk_seq fun X5 hn5 he5 hr5 => ?_
    refine wlk_blk fun X6 hn6 he6 hf6 hr6 => ?_
    have hx : l[k]? = some l[k] := List.getElem?_eq_getElem hk2
    have hm : l[k] ∈ l := List.getElem_mem hk2
    generalize l[k] = v at hx hm
    have hvl := hv v hm
    have hb := sumAt_bound hf (l.take k)
    have hs := sumAt_snoc fs hx
    have hb2 := sumAt_bound hf (l.take (k + 1))
    have hlk : (l.take k).length ≤ l.length := by simp; omega
    have hlk2 : (l.take (k + 1)).length ≤ l.length := by simp; omega
    have hw : IntKind.i64.wrap (sumAt fs (l.take k) + fs.getD v 0) = sumAt fs (l.take (k + 1)) := by rw [hs, IntWalk.i64_in _ (by omega)]
    refine wlk_sreg fun KY hKY => ?_
    simp only [go_sem, reduceIte, Nat.reduceEqDiff, Nat.reduceBEq, reduceCtorEq, Nat.reduceLT, Nat.reduceLeDiff, Nat.reduceAdd, Nat.reduceSub, Nat.reduceMul, Nat.reduceDiv, Int.reduceAdd, Int.reduceNeg, Int.reduceEq, Int.reduceLT, Int.reduceLE, c_tutte_degrees_sum_r4, nats_at hx, nats_len, hk2]
    refine hKY _ ?_
    refine wlk_reg fun KY hKY => ?_
    simp only [go_sem, reduceIte, Nat.reduceEqDiff, Nat.reduceBEq, reduceCtorEq, Nat.reduceLT, Nat.reduceLeDiff, Nat.reduceAdd, Nat.reduceSub, Nat.reduceMul, Nat.reduceDiv, Int.reduceAdd, Int.reduceNeg, Int.reduceEq, Int.reduceLT, Int.reduceLE, c_tutte_degrees_sum_r5, ints_get hvl, ints_len, hvl, hw]
    refine hKY _ ?_
    repeat (first | refine hn6 _ ?_ | refine he6 _ ?_ | refine hf6 _ _ (by decide) ?_ | refine hr6 _ ?_ | refine hn5 _ ?_ | refine he5 _ _ ?_ | refine hr5 _ ?_ | refine hn4 _ ?_ | refine he4 _ _ ?_ | refine hr4 _ ?_ | refine he3 _ _ ?_ | refine hr3 _ ?_ | refine hn2 _ ?_ | refine he2 _ ?_ | refine hf2 _ _ (by decide) ?_ | refine hr2 _ ?_ | refine hn1 _ ?_ | refine he1 _ _ ?_ | refine hr1 _ ?_)
    refine wlk_reg fun KY hKY => ?_
    simp only [go_sem, reduceIte, Nat.reduceEqDiff, Nat.reduceBEq, reduceCtorEq, Nat.reduceLT, Nat.reduceLeDiff, Nat.reduceAdd, Nat.reduceSub, Nat.reduceMul, Nat.reduceDiv, Int.reduceAdd, Int.reduceNeg, Int.reduceEq, Int.reduceLT, Int.reduceLE, c_tutte_degrees_sum_r6, incS (show k < 4611686018427387904 by omega)]
    refine hKY _ ?_
    repeat (first | refine hn6 _ ?_ | refine he6 _ ?_ | refine hf6 _ _ (by decide) ?_ | refine hr6 _ ?_ | refine hn5 _ ?_ | refine he5 _ _ ?_ | refine hr5 _ ?_ | refine hn4 _ ?_ | refine he4 _ _ ?_ | refine hr4 _ ?_ | refine he3 _ _ ?_ | refine hr3 _ ?_ | refine hn2 _ ?_ | refine he2 _ ?_ | refine hf2 _ _ (by decide) ?_ | refine hr2 _ ?_ | refine hn1 _ ?_ | refine he1 _ _ ?_ | refine hr1 _ ?_)
    refine hn3 _ (k + 1) (l.length - (k + 1)) (by omega) (by first | (simp only [go_sem, reduceIte, Nat.reduceEqDiff, Nat.reduceBEq, reduceCtorEq, Nat.reduceLT, Nat.reduceLeDiff, Nat.reduceAdd, Nat.reduceSub, Nat.reduceMul, Nat.reduceDiv, Int.reduceAdd, Int.reduceNeg, Int.reduceEq, Int.reduceLT, Int.reduceLE, updAll_cons, updAll_nil]; done) | with_reducible rfl) ?_
    exact ⟨hk2, rfl⟩
  · refine wlk_cond0 (by first | rfl | (simp only [go_sem, reduceIte, Nat.reduceEqDiff, Nat.reduceBEq, reduceCtorEq, Nat.reduceLT, Nat.reduceLeDiff, Nat.reduceAdd, Nat.reduceSub, Nat.reduceMul, Nat.reduceDiv, Int.reduceAdd, Int.reduceNeg, Int.reduceEq, Int.reduceLT, Int.reduceLE]; try simp (disch := omega) only [decide_eq_true, decide_eq_false])) ?_
    refine wlk_exit ?_
    repeat (first | refine hn4 _ ?_ | refine he4 _ _ ?_ | refine hr4 _ ?_ | refine he3 _ _ ?_ | refine hr3 _ ?_ | refine hn2 _ ?_ | refine he2 _ ?_ | refine hf2 _ _ (by decide) ?_ | refine hr2 _ ?_ | refine hn1 _ ?_ | refine he1 _ _ ?_ | refine hr1 _ ?_)
    obtain rfl : k = l.length := by omega
    rw [List.take_length]
    refine wlk_sreg fun KY hKY => ?_
    simp only [go_sem, reduceIte, Nat.reduceEqDiff, Nat.reduceBEq, reduceCtorEq, Nat.reduceLT, Nat.reduceLeDiff, Nat.reduceAdd, Nat.reduceSub, Nat.reduceMul, Nat.reduceDiv, Int.reduceAdd, Int.reduceNeg, Int.reduceEq, Int.reduceLT, Int.reduceLE, c_tutte_degrees_sum_r7]
    refine hKY _ ?_
    refine wlk_ret ?_
    repeat (first | refine hn4 _ ?_ | refine he4 _ _ ?_ | refine hr4 _ ?_ | refine he3 _ _ ?_ | refine hr3 _ ?_ | refine hn2 _ ?_ | refine he2 _ ?_ | refine hf2 _ _ (by decide) ?_ | refine hr2 _ ?_ | refine hn1 _ ?_ | refine he1 _ _ ?_ | refine hr1 _ ?_)
    simp only [go_sem, reduceIte, Nat.reduceEqDiff, Nat.reduceBEq, reduceCtorEq, Nat.reduceLT, Nat.reduceLeDiff, Nat.reduceAdd, Nat.reduceSub, Nat.reduceMul, Nat.reduceDiv, Int.reduceAdd, Int.reduceNeg, Int.reduceEq, Int.reduceLT, Int.reduceLE]
theorem any_ok (g : Nat) (φ : Int → Bool) (l : List Int) (hl : l.length ≤ 1000000000) (hg : ∀ x ∈ l, ACalls Try.prog [] g [.sc (.int .i64 x)] [] fun r h' => r = .sc (.bool (φ x)) ∧ h' = []) : ACalls Try.prog [] n_slices_IndexFunc___int_int_ [.imm 1 (ints l), .fn (.func g) [] []] [] fun r h' => (∃ k : Int, r = .sc (.int .i64 k) ∧ (0 ≤ k ↔ ∃ x ∈ l, φ x = true)) ∧ h' = [] := by
  refine go_slices_IndexFunc___int_int_ rfl ?_
  unfold c_slices_IndexFunc___int_int_ v_slices_IndexFunc___int_int_
  refine wlk_sreg fun KY hKY => ?_
  simp only [go_sem, reduceIte, Nat.reduceEqDiff, Nat.reduceBEq, reduceCtorEq, Nat.reduceLT, Nat.reduceLeDiff, Nat.reduceAdd, Nat.reduceSub, Nat.reduceMul, Nat.reduceDiv, Int.reduceAdd, Int.reduceNeg, Int.reduceEq, Int.reduceLT, Int.reduceLE, c_slices_IndexFunc___int_int__r0]
  refine hKY _ ?_
  refine wlk_seq fun X1 hn1 he1 hr1 => ?_
  refine wlk_sreg fun KY hKY => ?_
  simp only [go_sem, reduceIte, Nat.reduceEqDiff, Nat.reduceBEq, reduceCtorEq, Nat.reduceLT, Nat.reduceLeDiff, Nat.reduceAdd, Nat.reduceSub, Nat.reduceMul, Nat.reduceDiv, Int.reduceAdd, Int.reduceNeg, Int.reduceEq, Int.reduceLT, Int.reduceLE, c_slices_IndexFunc___int_int__r1, ints_len]
  refine hKY _ ?_
  refine wlk_blk fun X2 hn2 he2 hf2 hr2 => ?_
  try simp only [go_sem, reduceIte, Nat.reduceEqDiff, Nat.reduceBEq, reduceCtorEq, Nat.reduceLT, Nat.reduceLeDiff, Nat.reduceAdd, Nat.reduceSub, Nat.reduceMul, Nat.reduceDiv, Int.reduceAdd, Int.reduceNeg, Int.reduceEq, Int.reduceLT, Int.reduceLE]
  refine wlk_lp (α := Nat) [5, 9, 16] (fun k => [(8, .sc (.int .i64 (k : Int)))]) (fun k => []) (fun k q => k ≤ l.length ∧ q = l.length - k ∧ ∀ j x, j < k → l[j]? = some x → φ x = false) (0) (l.length) rfl (by first | (simp only [go_sem, reduceIte, Nat.reduceEqDiff, Nat.reduceBEq, reduceCtorEq, Nat.reduceLT, Nat.reduceLeDiff, Nat.reduceAdd, Nat.reduceSub, Nat.reduceMul, Nat.reduceDiv, Int.reduceAdd, Int.reduceNeg, Int.reduceEq, Int.reduceLT, Int.reduceLE, updAll_cons, updAll_nil]; done) | with_reducible rfl | rfl) (⟨by omega, rfl, fun j x h => by omega⟩) ?_
  rintro k q ⟨hk, rfl, hz⟩ X3 hn3 he3 hr3
  simp only [go_sem, reduceIte, Nat.reduceEqDiff, Nat.reduceBEq, reduceCtorEq, Nat.reduceLT, Nat.reduceLeDiff, Nat.reduceAdd, Nat.reduceSub, Nat.reduceMul, Nat.reduceDiv, Int.reduceAdd, Int.reduceNeg, Int.reduceEq, Int.reduceLT, Int.reduceLE, updAll_cons, updAll_nil]
  refine wlk_sreg fun KY hKY => ?_
  simp only [go_sem, reduceIte, Nat.reduceEqDiff, Nat.reduceBEq, reduceCtorEq, Nat.reduceLT, Nat.reduceLeDiff, Nat.reduceAdd, Nat.reduceSub, Nat.reduceMul, Nat.reduceDiv, Int.reduceAdd, Int.reduceNeg, Int.reduceEq, Int.reduceLT, Int.reduceLE, c_slices_IndexFunc___int_int__r2]
  refine hKY _ ?_
  refine wlk_seq fun X4 hn4 he4 hr4 => ?_
  by_cases hk2 : k < l.length
  · refine wlk_cond1 (by first | rfl | (simp only [go_sem, reduceIte, Nat.reduceEqDiff, Nat.reduceBEq, reduceCtorEq, Nat.reduceLT, Nat.reduceLeDiff, Nat.reduceAdd, Nat.reduceSub, Nat.reduceMul, Nat.reduceDiv, Int.reduceAdd, Int.reduceNeg, Int.reduceEq, Int.reduceLT, Int.reduceLE]; try simp (disch := omega) only [decide_eq_true, decide_eq_false])) ?_
    refine wlk_skip ?_
    repeat (first | refine hn4 _ ?_ | refine he4 _ _ ?_ | refine hr4 _ ?_ | refine he3 _ _ ?_ | refine hr3 _ ?_ | refine hn2 _ ?_ | refine he2 _ ?_ | refine hf2 _ _ (by decide) ?_ | refine hr2 _ ?_ | refine hn1 _ ?_ | refine he1 _ _ ?_ | refine hr1 _ ?_)
    refine wlk_seq fun X5 hn5 he5 hr5 => ?_
    refine wlk_blk fun X6 hn6 he6 hf6 hr6 => ?_
    have hx : l[k]? = some l[k] := List.getElem?_eq_getElem hk2
    have hmem : l[k] ∈ l := List.getElem_mem hk2
    generalize l[k] = x at hx hmem
    refine wlk_sreg fun KY hKY => ?_
    simp only [go_sem, reduceIte, Nat.reduceEqDiff, Nat.reduceBEq, reduceCtorEq, Nat.reduceLT, Nat.reduceLeDiff, Nat.reduceAdd, Nat.reduceSub, Nat.reduceMul, Nat.reduceDiv, Int.reduceAdd, Int.reduceNeg, Int.reduceEq, Int.reduceLT, Int.reduceLE, c_slices_IndexFunc___int_int__r3]
    refine hKY _ ?_
    have hgx := hg x hmem
    refine wlk_sreg fun KY hKY => ?_
    simp only [go_sem, reduceIte, Nat.reduceEqDiff, Nat.reduceBEq, reduceCtorEq, Nat.reduceLT, Nat.reduceLeDiff, Nat.reduceAdd, Nat.reduceSub, Nat.reduceMul, Nat.reduceDiv, Int.reduceAdd, Int.reduceNeg, Int.reduceEq, Int.reduceLT, Int.reduceLE, c_slices_IndexFunc___int_int__r4, ints_at hx, hk2, ints_len]
    refine call_view rfl (by simp only [go_sem, reduceIte, Nat.reduceEqDiff, Nat.reduceBEq, reduceCtorEq, Nat.reduceLT, Nat.reduceLeDiff, Nat.reduceAdd, Nat.reduceSub, Nat.reduceMul, Nat.reduceDiv, Int.reduceAdd, Int.reduceNeg, Int.reduceEq, Int.reduceLT, Int.reduceLE] <;> rfl) ((hgx).mono ?_)
    rintro rr hh ⟨rfl, rfl⟩
    refine ⟨rfl, rfl, rfl, ?_⟩
    simp only [go_sem, reduceIte, Nat.reduceEqDiff, Nat.reduceBEq, reduceCtorEq, Nat.reduceLT, Nat.reduceLeDiff, Nat.reduceAdd, Nat.reduceSub, Nat.reduceMul, Nat.reduceDiv, Int.reduceAdd, Int.reduceNeg, Int.reduceEq, Int.reduceLT, Int.reduceLE]
    refine hKY _ ?_
    cases hp : φ x with
    | true =>
      refine wlk_cond1 (by first | rfl | (simp only [go_sem, reduceIte, Nat.reduceEqDiff, Nat.reduceBEq, reduceCtorEq, Nat.reduceLT, Nat.reduceLeDiff, Nat.reduceAdd, Nat.reduceSub, Nat.reduceMul, Nat.reduceDiv, Int.reduceAdd, Int.reduceNeg, Int.reduceEq, Int.reduceLT, Int.reduceLE]; try simp (disch := omega) only [decide_eq_true, decide_eq_false])) ?_
      refine wlk_sreg fun KY hKY => ?_
      simp only [go_sem, reduceIte, Nat.reduceEqDiff, Nat.reduceBEq, reduceCtorEq, Nat.reduceLT, Nat.reduceLeDiff, Nat.reduceAdd, Nat.reduceSub, Nat.reduceMul, Nat.reduceDiv, Int.reduceAdd, Int.reduceNeg, Int.reduceEq, Int.reduceLT, Int.reduceLE, c_slices_IndexFunc___int_int__r5]
      refine hKY _ ?_
      refine wlk_ret ?_
      repeat (first | refine hn6 _ ?_ | refine he6 _ ?_ | refine hf6 _ _ (by decide) ?_ | refine hr6 _ ?_ | refine hn5 _ ?_ | refine he5 _ _ ?_ | refine hr5 _ ?_ | refine hn4 _ ?_ | refine he4 _ _ ?_ | refine hr4 _ ?_ | refine he3 _ _ ?_ | refine hr3 _ ?_ | refine hn2 _ ?_ | refine he2 _ ?_ | refine hf2 _ _ (by decide) ?_ | refine hr2 _ ?_ | refine hn1 _ ?_ | refine he1 _ _ ?_ | refine hr1 _ ?_)
      simp only [go_sem, reduceIte, Nat.reduceEqDiff, Nat.reduceBEq, reduceCtorEq, Nat.reduceLT, Nat.reduceLeDiff, Nat.reduceAdd, Nat.reduceSub, Nat.reduceMul, Nat.reduceDiv, Int.reduceAdd, Int.reduceNeg, Int.reduceEq, Int.reduceLT, Int.reduceLE]
      exact ⟨(k : Int), rfl, fun _ => ⟨x, hmem, hp⟩, fun _ => by omega⟩
    | false =>
      refine wlk_cond0 (by first | rfl | (simp only [go_sem, reduceIte, Nat.reduceEqDiff, Nat.reduceBEq, reduceCtorEq, Nat.reduceLT, Nat.reduceLeDiff, Nat.reduceAdd, Nat.reduceSub, Nat.reduceMul, Nat.reduceDiv, Int.reduceAdd, Int.reduceNeg, Int.reduceEq, Int.reduceLT, Int.reduceLE]; try simp (disch := omega) only [decide_eq_true, decide_eq_false])) ?_
      refine wlk_skip ?_
      repeat (first | refine hn6 _ ?_ | refine he6 _ ?_ | refine hf6 _ _ (by decide) ?_ | refine hr6 _ ?_ | refine hn5 _ ?_ | refine he5 _ _ ?_ | refine hr5 _ ?_ | refine hn4 _ ?_ | refine he4 _ _ ?_ | refine hr4 _ ?_ | refine he3 _ _ ?_ | refine hr3 _ ?_ | refine hn2 _ ?_ | refine he2 _ ?_ | refine hf2 _ _ (by decide) ?_ | refine hr2 _ ?_ | refine hn1 _ ?_ | refine he1 _ _ ?_ | refine hr1 _ ?_)
      refine wlk_reg fun KY hKY => ?_
      simp only [go_sem, reduceIte, Nat.reduceEqDiff, Nat.reduceBEq, reduceCtorEq, Nat.reduceLT, Nat.reduceLeDiff, Nat.reduceAdd, Nat.reduceSub, Nat.reduceMul, Nat.reduceDiv, Int.reduceAdd, Int.reduceNeg, Int.reduceEq, Int.reduceLT, Int.reduceLE, c_slices_IndexFunc___int_int__r6, incS (show k < 4611686018427387904 by omega)]
      refine hKY _ ?_
      repeat (first | refine hn6 _ ?_ | refine he6 _ ?_ | refine hf6 _ _ (by decide) ?_ | refine hr6 _ ?_ | refine hn5 _ ?_ | refine he5 _ _ ?_ | refine hr5 _ ?_ | refine hn4 _ ?_ | refine he4 _ _ ?_ | refine hr4 _ ?_ | refine he3 _ _ ?_ | refine hr3 _ ?_ | refine hn2 _ ?_ | refine he2 _ ?_ | refine hf2 _ _ (by decide) ?_ | refine hr2 _ ?_ | refine hn1 _ ?_ | refine he1 _ _ ?_ | refine hr1 _ ?_)
      refine hn3 _ (k + 1) (l.length - (k + 1)) (by omega) (by first | (simp only [go_sem, reduceIte, Nat.reduceEqDiff, Nat.reduceBEq, reduceCtorEq, Nat.reduceLT, Nat.reduceLeDiff, Nat.reduceAdd, Nat.reduceSub, Nat.reduceMul, Nat.reduceDiv, Int.reduceAdd, Int.reduceNeg, Int.reduceEq, Int.reduceLT, Int.reduceLE, updAll_cons, updAll_nil]; done) | with_reducible rfl) ?_
      refine ⟨hk2, rfl, fun j y hj hy => ?_⟩
      rcases Nat.lt_or_ge j k with h | h
      · exact hz j y h hy
      · obtain rfl : j = k := by omega
        rw [hx] at hy; cases hy; exact hp
  · refine wlk_cond0 (by first | rfl | (simp only [go_sem, reduceIte, Nat.reduceEqDiff, Nat.reduceBEq, reduceCtorEq, Nat.reduceLT, Nat.reduceLeDiff, Nat.reduceAdd, Nat.reduceSub, Nat.reduceMul, Nat.reduceDiv, Int.reduceAdd, Int.reduceNeg, Int.reduceEq, Int.reduceLT, Int.reduceLE]; try simp (disch := omega) only [decide_eq_true, decide_eq_false])) ?_
    refine wlk_exit ?_
    repeat (first | refine hn4 _ ?_ | refine he4 _ _ ?_ | refine hr4 _ ?_ | refine he3 _ _ ?_ | refine hr3 _ ?_ | refine hn2 _ ?_ | refine he2 _ ?_ | refine hf2 _ _ (by decide) ?_ | refine hr2 _ ?_ | refine hn1 _ ?_ | refine he1 _ _ ?_ | refine hr1 _ ?_)
    refine wlk_sreg fun KY hKY => ?_
    simp only [go_sem, reduceIte, Nat.reduceEqDiff, Nat.reduceBEq, reduceCtorEq, Nat.reduceLT, Nat.reduceLeDiff, Nat.reduceAdd, Nat.reduceSub, Nat.reduceMul, Nat.reduceDiv, Int.reduceAdd, Int.reduceNeg, Int.reduceEq, Int.reduceLT, Int.reduceLE, c_slices_IndexFunc___int_int__r7]
    refine hKY _ ?_
    refine wlk_ret ?_
    repeat (first | refine hn4 _ ?_ | refine he4 _ _ ?_ | refine hr4 _ ?_ | refine he3 _ _ ?_ | refine hr3 _ ?_ | refine hn2 _ ?_ | refine he2 _ ?_ | refine hf2 _ _ (by decide) ?_ | refine hr2 _ ?_ | refine hn1 _ ?_ | refine he1 _ _ ?_ | refine hr1 _ ?_)
    simp only [go_sem, reduceIte, Nat.reduceEqDiff, Nat.reduceBEq, reduceCtorEq, Nat.reduceLT, Nat.reduceLeDiff, Nat.reduceAdd, Nat.reduceSub, Nat.reduceMul, Nat.reduceDiv, Int.reduceAdd, Int.reduceNeg, Int.reduceEq, Int.reduceLT, Int.reduceLE]
    refine ⟨-1, rfl, fun h => by omega, fun ⟨x, hx, hp⟩ => ?_⟩
    obtain ⟨j, hj⟩ := List.mem_iff_getElem?.1 hx
    have := hz j x (by have := (List.getElem?_eq_some_iff.1 hj).1; omega) hj
    rw [this] at hp; cases hp
theorem anyI_ok (g : Nat) (φ : Int → Bool) (l : List Int) (hl : l.length ≤ 1000000000) (hg : ∀ x ∈ l, ACalls Try.prog [] g [.sc (.int .i64 x)] [] fun r h' => r = .sc (.bool (φ x)) ∧ h' = []) : ACalls Try.prog [] n_slices_ContainsFunc___int_int_ [.imm 1 (ints l), .fn (.func g) [] []] [] fun r h' => r = .sc (.bool (l.any φ)) ∧ h' = [] := by
  refine go_slices_ContainsFunc___int_int_ rfl ?_
  unfold c_slices_ContainsFunc___int_int_ v_slices_ContainsFunc___int_int_
  refine wlk_sreg fun KY hKY => ?_
  simp only [go_sem, reduceIte, Nat.reduceEqDiff, Nat.reduceBEq, reduceCtorEq, Nat.reduceLT, Nat.reduceLeDiff, Nat.reduceAdd, Nat.reduceSub, Nat.reduceMul, Nat.reduceDiv, Int.reduceAdd, Int.reduceNeg, Int.reduceEq, Int.reduceLT, Int.reduceLE, c_slices_ContainsFunc___int_int__r0]
  refine hKY _ ?_
  refine wlk_sreg fun KY hKY => ?_
  simp only [go_sem, reduceIte, Nat.reduceEqDiff, Nat.reduceBEq, reduceCtorEq, Nat.reduceLT, Nat.reduceLeDiff, Nat.reduceAdd, Nat.reduceSub, Nat.reduceMul, Nat.reduceDiv, Int.reduceAdd, Int.reduceNeg, Int.reduceEq, Int.reduceLT, Int.reduceLE, c_slices_ContainsFunc___int_int__r1]
  refine call_view rfl (by simp only [go_sem, reduceIte, Nat.reduceEqDiff, Nat.reduceBEq, reduceCtorEq, Nat.reduceLT, Nat.reduceLeDiff, Nat.reduceAdd, Nat.reduceSub, Nat.reduceMul, Nat.reduceDiv, Int.reduceAdd, Int.reduceNeg, Int.reduceEq, Int.reduceLT, Int.reduceLE] <;> rfl) ((any_ok g φ l hl hg).mono ?_)
  rintro rr hh ⟨⟨k, rfl, hk⟩, rfl⟩
  refine ⟨?_, ?_, ?_, ?_⟩
  iterate 3 (first | rfl | simp only [go_sem, reduceIte, Nat.reduceEqDiff, Nat.reduceBEq, reduceCtorEq, Nat.reduceLT, Nat.reduceLeDiff, Nat.reduceAdd, Nat.reduceSub, Nat.reduceMul, Nat.reduceDiv, Int.reduceAdd, Int.reduceNeg, Int.reduceEq, Int.reduceLT, Int.reduceLE])
  have hd : decide (0 ≤ k) = l.any φ := by rw [Bool.eq_iff_iff, decide_eq_true_iff, List.any_eq_true, hk]
  simp only [go_sem, reduceIte, Nat.reduceEqDiff, Nat.reduceBEq, reduceCtorEq, Nat.reduceLT, Nat.reduceLeDiff, Nat.reduceAdd, Nat.reduceSub, Nat.reduceMul, Nat.reduceDiv, Int.reduceAdd, Int.reduceNeg, Int.reduceEq, Int.reduceLT, Int.reduceLE, hd]
  refine hKY _ ?_
  refine wlk_ret ?_
  simp only [go_sem, reduceIte, Nat.reduceEqDiff, Nat.reduceBEq, reduceCtorEq, Nat.reduceLT, Nat.reduceLeDiff, Nat.reduceAdd, Nat.reduceSub, Nat.reduceMul, Nat.reduceDiv, Int.reduceAdd, Int.reduceNeg, Int.reduceEq, Int.reduceLT, Int.reduceLE]
def degsB (n : Int) (fs : List Int) : Bool := decide ((fs.length : Int) = n) && fs.all fun x => decide (0 ≤ x) && decide (x ≤ 4096)
def tErr (n : Int) (es : List (Int × Int)) (fs : List Int) : Int := bif rightB n es then (bif degsB n fs then 0 else 12) else 3
theorem tright1_ok (x : Int) : ACalls Try.prog [] n_tutte_Right_1 [.sc (.int .i64 x)] [] fun r h' => r = .sc (.bool (!(decide (0 ≤ x) && decide (x ≤ 4096)))) ∧ h' = [] := by
  refine go_tutte_Right_1 rfl ?_
  unfold c_tutte_Right_1 v_tutte_Right_1
  refine wlk_sreg fun KY hKY => ?_
  simp only [go_sem, reduceIte, Nat.reduceEqDiff, Nat.reduceBEq, reduceCtorEq, Nat.reduceLT, Nat.reduceLeDiff, Nat.reduceAdd, Nat.reduceSub, Nat.reduceMul, Nat.reduceDiv, Int.reduceAdd, Int.reduceNeg, Int.reduceEq, Int.reduceLT, Int.reduceLE, c_tutte_Right_1_r0]
  refine hKY _ ?_
  by_cases h1 : x < 0
  · have d1 : decide (x < 0) = true := decide_eq_true h1
    refine wlk_sreg fun KY hKY => ?_
    simp only [go_sem, reduceIte, Nat.reduceEqDiff, Nat.reduceBEq, reduceCtorEq, Nat.reduceLT, Nat.reduceLeDiff, Nat.reduceAdd, Nat.reduceSub, Nat.reduceMul, Nat.reduceDiv, Int.reduceAdd, Int.reduceNeg, Int.reduceEq, Int.reduceLT, Int.reduceLE, c_tutte_Right_1_r1, d1]
    refine hKY _ ?_
    refine wlk_ret ?_
    simp only [go_sem, reduceIte, Nat.reduceEqDiff, Nat.reduceBEq, reduceCtorEq, Nat.reduceLT, Nat.reduceLeDiff, Nat.reduceAdd, Nat.reduceSub, Nat.reduceMul, Nat.reduceDiv, Int.reduceAdd, Int.reduceNeg, Int.reduceEq, Int.reduceLT, Int.reduceLE]
    rw [decide_eq_false (show ¬ 0 ≤ x by omega)]; rfl
  · have d1 : decide (x < 0) = false := decide_eq_false h1
    refine wlk_sreg fun KY hKY => ?_
    simp only [go_sem, reduceIte, Nat.reduceEqDiff, Nat.reduceBEq, reduceCtorEq, Nat.reduceLT, Nat.reduceLeDiff, Nat.reduceAdd, Nat.reduceSub, Nat.reduceMul, Nat.reduceDiv, Int.reduceAdd, Int.reduceNeg, Int.reduceEq, Int.reduceLT, Int.reduceLE, c_tutte_Right_1_r1, d1]
    refine hKY _ ?_
    refine wlk_ret ?_
    simp only [go_sem, reduceIte, Nat.reduceEqDiff, Nat.reduceBEq, reduceCtorEq, Nat.reduceLT, Nat.reduceLeDiff, Nat.reduceAdd, Nat.reduceSub, Nat.reduceMul, Nat.reduceDiv, Int.reduceAdd, Int.reduceNeg, Int.reduceEq, Int.reduceLT, Int.reduceLE]
    rw [decide_eq_true (show 0 ≤ x by omega)]
    congr 2
    rw [Bool.eq_iff_iff]; simp
theorem tright_ok (n : Int) (es : List (Int × Int)) (fs : List Int) (hl : fs.length ≤ 1000000000) : ACalls Try.prog [] n_tutte_Right [.agg [.sc (.int .i64 n), .imm 2 (twos es)], .imm 1 (ints fs)] [] fun r h' => r = .sc (.int .i64 (tErr n es fs)) ∧ h' = [] := by
  refine ACalls.trim ?_
  refine go_tutte_Right rfl ?_
  unfold c_tutte_Right v_tutte_Right
  refine wlk_sreg fun KY hKY => ?_
  simp only [go_sem, reduceIte, Nat.reduceEqDiff, Nat.reduceBEq, reduceCtorEq, Nat.reduceLT, Nat.reduceLeDiff, Nat.reduceAdd, Nat.reduceSub, Nat.reduceMul, Nat.reduceDiv, Int.reduceAdd, Int.reduceNeg, Int.reduceEq, Int.reduceLT, Int.reduceLE, c_tutte_Right_r0]
  refine hKY _ ?_
  refine wlk_seq fun X1 hn1 he1 hr1 => ?_
  refine wlk_sreg fun KY hKY => ?_
  simp only [go_sem, reduceIte, Nat.reduceEqDiff, Nat.reduceBEq, reduceCtorEq, Nat.reduceLT, Nat.reduceLeDiff, Nat.reduceAdd, Nat.reduceSub, Nat.reduceMul, Nat.reduceDiv, Int.reduceAdd, Int.reduceNeg, Int.reduceEq, Int.reduceLT, Int.reduceLE, c_tutte_Right_r1]
  refine call_view rfl (by simp only [go_sem, reduceIte, Nat.reduceEqDiff, Nat.reduceBEq, reduceCtorEq, Nat.reduceLT, Nat.reduceLeDiff, Nat.reduceAdd, Nat.reduceSub, Nat.reduceMul, Nat.reduceDiv, Int.reduceAdd, Int.reduceNeg, Int.reduceEq, Int.reduceLT, Int.reduceLE] <;> rfl) ((right_ok n es).mono ?_)
  rintro rr hh ⟨rfl, rfl⟩
  refine ⟨rfl, rfl, rfl, ?_⟩
  simp only [go_sem, reduceIte, Nat.reduceEqDiff, Nat.reduceBEq, reduceCtorEq, Nat.reduceLT, Nat.reduceLeDiff, Nat.reduceAdd, Nat.reduceSub, Nat.reduceMul, Nat.reduceDiv, Int.reduceAdd, Int.reduceNeg, Int.reduceEq, Int.reduceLT, Int.reduceLE]
  refine hKY _ ?_
  cases hr : rightB n es with
  | false =>
    refine wlk_cond1 (by first | rfl | (simp only [go_sem, reduceIte, Nat.reduceEqDiff, Nat.reduceBEq, reduceCtorEq, Nat.reduceLT, Nat.reduceLeDiff, Nat.reduceAdd, Nat.reduceSub, Nat.reduceMul, Nat.reduceDiv, Int.reduceAdd, Int.reduceNeg, Int.reduceEq, Int.reduceLT, Int.reduceLE]; try simp (disch := omega) only [decide_eq_true, decide_eq_false])) ?_
    refine wlk_sreg fun KY hKY => ?_
    simp only [go_sem, reduceIte, Nat.reduceEqDiff, Nat.reduceBEq, reduceCtorEq, Nat.reduceLT, Nat.reduceLeDiff, Nat.reduceAdd, Nat.reduceSub, Nat.reduceMul, Nat.reduceDiv, Int.reduceAdd, Int.reduceNeg, Int.reduceEq, Int.reduceLT, Int.reduceLE, c_tutte_Right_r2]
    refine hKY _ ?_
    refine wlk_ret ?_
    repeat (first | refine hn1 _ ?_ | refine he1 _ _ ?_ | refine hr1 _ ?_)
    simp only [go_sem, reduceIte, Nat.reduceEqDiff, Nat.reduceBEq, reduceCtorEq, Nat.reduceLT, Nat.reduceLeDiff, Nat.reduceAdd, Nat.reduceSub, Nat.reduceMul, Nat.reduceDiv, Int.reduceAdd, Int.reduceNeg, Int.reduceEq, Int.reduceLT, Int.reduceLE]
    simp [tErr, hr]
  | true =>
    refine wlk_cond0 (by first | rfl | (simp only [go_sem, reduceIte, Nat.reduceEqDiff, Nat.reduceBEq, reduceCtorEq, Nat.reduceLT, Nat.reduceLeDiff, Nat.reduceAdd, Nat.reduceSub, Nat.reduceMul, Nat.reduceDiv, Int.reduceAdd, Int.reduceNeg, Int.reduceEq, Int.reduceLT, Int.reduceLE]; try simp (disch := omega) only [decide_eq_true, decide_eq_false])) ?_
    refine wlk_skip ?_
    repeat (first | refine hn1 _ ?_ | refine he1 _ _ ?_ | refine hr1 _ ?_)
    refine wlk_seq fun X2 hn2 he2 hr2 => ?_
    by_cases h1 : (fs.length : Int) = n
    · have d1 : decide ((fs.length : Int) ≠ n) = false := decide_eq_false (fun h => h h1)
      refine wlk_sreg fun KY hKY => ?_
      simp only [go_sem, reduceIte, Nat.reduceEqDiff, Nat.reduceBEq, reduceCtorEq, Nat.reduceLT, Nat.reduceLeDiff, Nat.reduceAdd, Nat.reduceSub, Nat.reduceMul, Nat.reduceDiv, Int.reduceAdd, Int.reduceNeg, Int.reduceEq, Int.reduceLT, Int.reduceLE, c_tutte_Right_r3, d1, ints_len]
      refine call_view rfl (by simp only [go_sem, reduceIte, Nat.reduceEqDiff, Nat.reduceBEq, reduceCtorEq, Nat.reduceLT, Nat.reduceLeDiff, Nat.reduceAdd, Nat.reduceSub, Nat.reduceMul, Nat.reduceDiv, Int.reduceAdd, Int.reduceNeg, Int.reduceEq, Int.reduceLT, Int.reduceLE] <;> rfl) ((anyI_ok n_tutte_Right_1 (fun x => !(decide (0 ≤ x) && decide (x ≤ 4096))) fs hl (fun x _ => tright1_ok x)).mono ?_)
      rintro rr hh ⟨rfl, rfl⟩
      refine ⟨rfl, rfl, rfl, ?_⟩
      simp only [go_sem, reduceIte, Nat.reduceEqDiff, Nat.reduceBEq, reduceCtorEq, Nat.reduceLT, Nat.reduceLeDiff, Nat.reduceAdd, Nat.reduceSub, Nat.reduceMul, Nat.reduceDiv, Int.reduceAdd, Int.reduceNeg, Int.reduceEq, Int.reduceLT, Int.reduceLE]
      refine hKY _ ?_
      cases ha : fs.any (fun x => !(decide (0 ≤ x) && decide (x ≤ 4096))) with
      | true =>
        refine wlk_cond1 (by first | rfl | (simp only [go_sem, reduceIte, Nat.reduceEqDiff, Nat.reduceBEq, reduceCtorEq, Nat.reduceLT, Nat.reduceLeDiff, Nat.reduceAdd, Nat.reduceSub, Nat.reduceMul, Nat.reduceDiv, Int.reduceAdd, Int.reduceNeg, Int.reduceEq, Int.reduceLT, Int.reduceLE]; try simp (disch := omega) only [decide_eq_true, decide_eq_false])) ?_
        refine wlk_sreg fun KY hKY => ?_
        simp only [go_sem, reduceIte, Nat.reduceEqDiff, Nat.reduceBEq, reduceCtorEq, Nat.reduceLT, Nat.reduceLeDiff, Nat.reduceAdd, Nat.reduceSub, Nat.reduceMul, Nat.reduceDiv, Int.reduceAdd, Int.reduceNeg, Int.reduceEq, Int.reduceLT, Int.reduceLE, c_tutte_Right_r4]
        refine hKY _ ?_
        refine wlk_ret ?_
        repeat (first | refine hn2 _ ?_ | refine he2 _ _ ?_ | refine hr2 _ ?_ | refine hn1 _ ?_ | refine he1 _ _ ?_ | refine hr1 _ ?_)
        simp only [go_sem, reduceIte, Nat.reduceEqDiff, Nat.reduceBEq, reduceCtorEq, Nat.reduceLT, Nat.reduceLeDiff, Nat.reduceAdd, Nat.reduceSub, Nat.reduceMul, Nat.reduceDiv, Int.reduceAdd, Int.reduceNeg, Int.reduceEq, Int.reduceLT, Int.reduceLE]
        have : degsB n fs = false := by
          unfold degsB
          rw [List.any_eq_true] at ha
          obtain ⟨x, hx, h2⟩ := ha
          rw [Bool.and_eq_false_iff]; right
          rw [List.all_eq_false]
          exact ⟨x, hx, by rw [Bool.not_eq_true'] at h2; simp only [h2]; exact Bool.false_ne_true⟩
        simp [tErr, hr, this]
      | false =>
        refine wlk_cond0 (by first | rfl | (simp only [go_sem, reduceIte, Nat.reduceEqDiff, Nat.reduceBEq, reduceCtorEq, Nat.reduceLT, Nat.reduceLeDiff, Nat.reduceAdd, Nat.reduceSub, Nat.reduceMul, Nat.reduceDiv, Int.reduceAdd, Int.reduceNeg, Int.reduceEq, Int.reduceLT, Int.reduceLE]; try simp (disch := omega) only [decide_eq_true, decide_eq_false])) ?_
        refine wlk_skip ?_
        repeat (first | refine hn2 _ ?_ | refine he2 _ _ ?_ | refine hr2 _ ?_ | refine hn1 _ ?_ | refine he1 _ _ ?_ | refine hr1 _ ?_)
        refine wlk_sreg fun KY hKY => ?_
        simp only [go_sem, reduceIte, Nat.reduceEqDiff, Nat.reduceBEq, reduceCtorEq, Nat.reduceLT, Nat.reduceLeDiff, Nat.reduceAdd, Nat.reduceSub, Nat.reduceMul, Nat.reduceDiv, Int.reduceAdd, Int.reduceNeg, Int.reduceEq, Int.reduceLT, Int.reduceLE, c_tutte_Right_r5]
        refine hKY _ ?_
        refine wlk_ret ?_
        repeat (first | refine hn2 _ ?_ | refine he2 _ _ ?_ | refine hr2 _ ?_ | refine hn1 _ ?_ | refine he1 _ _ ?_ | refine hr1 _ ?_)
        simp only [go_sem, reduceIte, Nat.reduceEqDiff, Nat.reduceBEq, reduceCtorEq, Nat.reduceLT, Nat.reduceLeDiff, Nat.reduceAdd, Nat.reduceSub, Nat.reduceMul, Nat.reduceDiv, Int.reduceAdd, Int.reduceNeg, Int.reduceEq, Int.reduceLT, Int.reduceLE]
        have : degsB n fs = true := by
          unfold degsB
          rw [decide_eq_true h1, Bool.true_and, List.all_eq_true]
          intro x hx
          rw [List.any_eq_false] at ha
          simpa using ha x hx
        simp [tErr, hr, this]
    · have d1 : decide ((fs.length : Int) ≠ n) = true := decide_eq_true h1
      refine wlk_sreg fun KY hKY => ?_
      simp only [go_sem, reduceIte, Nat.reduceEqDiff, Nat.reduceBEq, reduceCtorEq, Nat.reduceLT, Nat.reduceLeDiff, Nat.reduceAdd, Nat.reduceSub, Nat.reduceMul, Nat.reduceDiv, Int.reduceAdd, Int.reduceNeg, Int.reduceEq, Int.reduceLT, Int.reduceLE, c_tutte_Right_r3, d1, ints_len]
      refine hKY _ ?_
      refine wlk_cond1 (by first | rfl | (simp only [go_sem, reduceIte, Nat.reduceEqDiff, Nat.reduceBEq, reduceCtorEq, Nat.reduceLT, Nat.reduceLeDiff, Nat.reduceAdd, Nat.reduceSub, Nat.reduceMul, Nat.reduceDiv, Int.reduceAdd, Int.reduceNeg, Int.reduceEq, Int.reduceLT, Int.reduceLE]; try simp (disch := omega) only [decide_eq_true, decide_eq_false])) ?_
      refine wlk_sreg fun KY hKY => ?_
      simp only [go_sem, reduceIte, Nat.reduceEqDiff, Nat.reduceBEq, reduceCtorEq, Nat.reduceLT, Nat.reduceLeDiff, Nat.reduceAdd, Nat.reduceSub, Nat.reduceMul, Nat.reduceDiv, Int.reduceAdd, Int.reduceNeg, Int.reduceEq, Int.reduceLT, Int.reduceLE, c_tutte_Right_r4]
      refine hKY _ ?_
      refine wlk_ret ?_
      repeat (first | refine hn2 _ ?_ | refine he2 _ _ ?_ | refine hr2 _ ?_ | refine hn1 _ ?_ | refine he1 _ _ ?_ | refine hr1 _ ?_)
      simp only [go_sem, reduceIte, Nat.reduceEqDiff, Nat.reduceBEq, reduceCtorEq, Nat.reduceLT, Nat.reduceLeDiff, Nat.reduceAdd, Nat.reduceSub, Nat.reduceMul, Nat.reduceDiv, Int.reduceAdd, Int.reduceNeg, Int.reduceEq, Int.reduceLT, Int.reduceLE]
      simp [tErr, hr, degsB, h1]
end Go.Proofs.Ytepjcfbigcfkfaa
set_option maxRecDepth 100000
set_option maxHeartbeats 2000000
namespace Go.Proofs.Ytepjcfbigcfkfaa
open Go Go.Ga Go.Ga.Gl
def upB (N : Nat) (l : List Int) : Bool := (l.all fun v => decide (0 ≤ v) && decide (v < N)) && decide (l.Pairwise (· < ·))
def okPB (N : Nat) (S T : List Int) : Bool := upB N S && upB N T && S.all fun v => decide (v ∉ T)
def atL (N : Nat) (S T : List Int) : List Int := (List.range N).map fun v : Nat => if (v : Int) ∈ S then 1 else if (v : Int) ∈ T then 2 else 0
theorem up_snoc {N : Nat} {l : List Int} {i : Nat} {v : Int} (h : upB N (l.take i) = true) (hx : l[i]? = some v) (h0 : 0 ≤ v) (h1 : v < N) (hf : v ∉ l.take i) (hl : 0 < i → ∀ u, l[i - 1]? = some u → u ≤ v) : upB N (l.take (i + 1)) = true := by
  unfold upB at h ⊢
  rw [Bool.and_eq_true, decide_eq_true_iff, List.all_eq_true] at h ⊢
  rw [List.take_add_one, hx]
  refine ⟨fun x hx => ?_, ?_⟩
  · rcases List.mem_append.1 hx with h' | h'
    · exact h.1 x h'
    · simp at h'; subst h'; simp [h0, h1]
  · show ((l.take i) ++ [v]).Pairwise (· < ·)
    rw [List.pairwise_append]
    refine ⟨h.2, by simp, fun x hx' y hy => ?_⟩
    simp at hy; subst hy
    have hne : x ≠ y := fun e => hf (e ▸ hx')
    have : x ≤ y := by
      obtain ⟨j, hj, rfl⟩ := List.mem_iff_getElem.1 hx'
      have hji : j < i := by simp at hj; omega
      have hil : i ≤ l.length := by have := (List.getElem?_eq_some_iff.1 hx).1; omega
      have hlast := hl (by omega) (l[i - 1]'(by omega)) (List.getElem?_eq_getElem (by omega))
      rcases Nat.lt_or_ge j (i - 1) with h2 | h2
      · have := List.pairwise_iff_getElem.1 h.2 j (i - 1) (by simp; omega) (by simp; omega) h2
        simp only [List.getElem_take] at this ⊢
        omega
      · have : j = i - 1 := by omega
        subst this
        simp only [List.getElem_take]; exact hlast
    omega
theorem up_none {N : Nat} {l : List Int} {i : Nat} {v : Int} (hx : l[i]? = some v) (h : upB N l = true) : 0 ≤ v ∧ v < N ∧ v ∉ l.take i ∧ (0 < i → ∀ u, l[i - 1]? = some u → u ≤ v) := by
  unfold upB at h
  rw [Bool.and_eq_true, decide_eq_true_iff, List.all_eq_true] at h
  obtain ⟨hi, rfl⟩ := List.getElem?_eq_some_iff.1 hx
  have h1 := h.1 _ (List.getElem_mem hi)
  simp only [Bool.and_eq_true, decide_eq_true_iff] at h1
  refine ⟨h1.1, h1.2, fun hm => ?_, fun h0 u hu => ?_⟩
  · obtain ⟨j, hj, e⟩ := List.mem_iff_getElem.1 hm
    rw [List.getElem_take] at e
    have := List.pairwise_iff_getElem.1 h.2 j i (by simp at hj; omega) hi (by simp at hj; omega)
    omega
  · obtain ⟨hu1, rfl⟩ := List.getElem?_eq_some_iff.1 hu
    have := List.pairwise_iff_getElem.1 h.2 (i - 1) i hu1 hi (by omega)
    omega
def atM (N : Nat) (base : Nat → Int) (l : List Int) (m : Int) : List Int := (List.range N).map fun v : Nat => if (v : Int) ∈ l then m else base v
theorem atM_len (N : Nat) (base : Nat → Int) (l : List Int) (m : Int) : (atM N base l m).length = N := by simp [atM]
theorem atM_get {N : Nat} (base : Nat → Int) (l : List Int) (m : Int) {v : Nat} (h : v < N) : (atM N base l m).getD v 0 = if (v : Int) ∈ l then m else base v := by
  simp [atM, h]
theorem atM_set {N : Nat} (base : Nat → Int) (l : List Int) (m : Int) (v : Nat) {w : Int} (hw : w = v) : (atM N base l m).set v m = atM N base (l ++ [w]) m := by
  subst hw
  apply List.ext_getElem
  · simp [atM]
  · intro j h1 h2
    simp only [atM, List.getElem_set, List.getElem_map, List.getElem_range, List.mem_append, List.mem_singleton]
    by_cases e : v = j
    · subst e; simp
    · rw [if_neg e]
      have : ¬ ((j : Int) = (v : Int)) := by omega
      simp [this]
theorem okP_S {N : Nat} {S T : List Int} (h : okPB N S T = true) : upB N S = true := by
  unfold okPB at h; simp only [Bool.and_eq_true] at h; exact h.1.1
theorem okP_T {N : Nat} {S T : List Int} (h : okPB N S T = true) : upB N T = true := by
  unfold okPB at h; simp only [Bool.and_eq_true] at h; exact h.1.2
theorem okP_D {N : Nat} {S T : List Int} (h : okPB N S T = true) {v : Int} (hs : v ∈ S) : v ∉ T := by
  unfold okPB at h; simp only [Bool.and_eq_true, List.all_eq_true, decide_eq_true_iff] at h; exact h.2 v hs
theorem placed_ok (N : Nat) (S T : List Int) (hN : N ≤ 4096) (hS : S.length ≤ 1000000) (hT : T.length ≤ 1000000) : ACalls Try.prog [] n_tutte_placed [.sc (.int .i64 (N : Int)), .agg [.imm 1 (ints S), .imm 1 (ints T)]] [] fun r h' => r = (bif okPB N S T then .tup [.own (some 1) (ints (atL N S T)), .sc (.bool true)] else .tup [.sc (.slice none 0 0), .sc (.bool false)]) ∧ h' = [] := by
  refine go_tutte_placed rfl ?_
  unfold c_tutte_placed v_tutte_placed
  refine wlk_sreg fun KY hKY => ?_
  simp only [go_sem, reduceIte, Nat.reduceEqDiff, Nat.reduceBEq, reduceCtorEq, Nat.reduceLT, Nat.reduceLeDiff, Nat.reduceAdd, Nat.reduceSub, Nat.reduceMul, Nat.reduceDiv, Int.reduceAdd, Int.reduceNeg, Int.reduceEq, Int.reduceLT, Int.reduceLE, c_tutte_placed_r0]
  refine hKY _ ?_
  refine wlk_sreg fun KY hKY => ?_
  simp only [go_sem, reduceIte, Nat.reduceEqDiff, Nat.reduceBEq, reduceCtorEq, Nat.reduceLT, Nat.reduceLeDiff, Nat.reduceAdd, Nat.reduceSub, Nat.reduceMul, Nat.reduceDiv, Int.reduceAdd, Int.reduceNeg, Int.reduceEq, Int.reduceLT, Int.reduceLE, c_tutte_placed_r1, (show 8 * N ≤ 140737488355328 by omega), ints_zero, (show (N : Int) ≤ (N : Int) from Int.le_refl _), (show (N : Int) ≤ 9223372036854775807 by omega)]
  refine hKY _ ?_
  rw [show List.replicate N (0 : Int) = atM N (fun _ => 0) [] 1 from List.ext_getElem (by simp [atM]) (by simp [atM])]
  refine wlk_seq fun X1 hn1 he1 hr1 => ?_
  refine wlk_sreg fun KY hKY => ?_
  simp only [go_sem, reduceIte, Nat.reduceEqDiff, Nat.reduceBEq, reduceCtorEq, Nat.reduceLT, Nat.reduceLeDiff, Nat.reduceAdd, Nat.reduceSub, Nat.reduceMul, Nat.reduceDiv, Int.reduceAdd, Int.reduceNeg, Int.reduceEq, Int.reduceLT, Int.reduceLE, c_tutte_placed_r2]
  refine hKY _ ?_
  refine wlk_blk fun X2 hn2 he2 hf2 hr2 => ?_
  try simp only [go_sem, reduceIte, Nat.reduceEqDiff, Nat.reduceBEq, reduceCtorEq, Nat.reduceLT, Nat.reduceLeDiff, Nat.reduceAdd, Nat.reduceSub, Nat.reduceMul, Nat.reduceDiv, Int.reduceAdd, Int.reduceNeg, Int.reduceEq, Int.reduceLT, Int.reduceLE]
  refine wlk_lp (α := Nat) [7, 8, 9, 10, 20, 24, 25, 26, 27, 57] (fun k => [(6, .own (some 1) (ints (bif k == 0 then atM N (fun _ => 0) [] 1 else bif k == 1 then atM N (fun _ => 0) S 1 else atM N (fun v => if (v : Int) ∈ S then 1 else 0) T 2))), (19, .sc (.int .i64 (k : Int)))]) (fun k => []) (fun k q => k ≤ 2 ∧ q = 2 - k ∧ (0 < k → upB N S = true) ∧ (1 < k → upB N T = true ∧ ∀ v : Nat, (v : Int) ∈ T → (v : Int) ∉ S)) (0) (2) rfl (by first | (simp only [go_sem, reduceIte, Nat.reduceEqDiff, Nat.reduceBEq, reduceCtorEq, Nat.reduceLT, Nat.reduceLeDiff, Nat.reduceAdd, Nat.reduceSub, Nat.reduceMul, Nat.reduceDiv, Int.reduceAdd, Int.reduceNeg, Int.reduceEq, Int.reduceLT, Int.reduceLE, updAll_cons, updAll_nil]; done) | with_reducible rfl | rfl) (⟨by omega, rfl, by omega, by omega⟩) ?_
  rintro k q ⟨hk, rfl, hA, hB⟩ X3 hn3 he3 hr3
  simp only [go_sem, reduceIte, Nat.reduceEqDiff, Nat.reduceBEq, reduceCtorEq, Nat.reduceLT, Nat.reduceLeDiff, Nat.reduceAdd, Nat.reduceSub, Nat.reduceMul, Nat.reduceDiv, Int.reduceAdd, Int.reduceNeg, Int.reduceEq, Int.reduceLT, Int.reduceLE, updAll_cons, updAll_nil]
  refine wlk_sreg fun KY hKY => ?_
  simp only [go_sem, reduceIte, Nat.reduceEqDiff, Nat.reduceBEq, reduceCtorEq, Nat.reduceLT, Nat.reduceLeDiff, Nat.reduceAdd, Nat.reduceSub, Nat.reduceMul, Nat.reduceDiv, Int.reduceAdd, Int.reduceNeg, Int.reduceEq, Int.reduceLT, Int.reduceLE, c_tutte_placed_r3]
  refine hKY _ ?_
  refine wlk_seq fun X4 hn4 he4 hr4 => ?_
  by_cases hk0 : k = 0
  · subst hk0
    refine wlk_cond1 (by first | rfl | (simp only [go_sem, reduceIte, Nat.reduceEqDiff, Nat.reduceBEq, reduceCtorEq, Nat.reduceLT, Nat.reduceLeDiff, Nat.reduceAdd, Nat.reduceSub, Nat.reduceMul, Nat.reduceDiv, Int.reduceAdd, Int.reduceNeg, Int.reduceEq, Int.reduceLT, Int.reduceLE]; try simp (disch := omega) only [decide_eq_true, decide_eq_false])) ?_
    refine wlk_skip ?_
    repeat (first | refine hn4 _ ?_ | refine he4 _ _ ?_ | refine hr4 _ ?_ | refine he3 _ _ ?_ | refine hr3 _ ?_ | refine hn2 _ ?_ | refine he2 _ ?_ | refine hf2 _ _ (by decide) ?_ | refine hr2 _ ?_ | refine hn1 _ ?_ | refine he1 _ _ ?_ | refine hr1 _ ?_)
    generalize hb : (fun _ : Nat => (0 : Int)) = base
    refine wlk_seq fun X5 hn5 he5 hr5 => ?_
    refine wlk_blk fun X6 hn6 he6 hf6 hr6 => ?_
    refine wlk_sreg fun KY hKY => ?_
    simp only [go_sem, reduceIte, Nat.reduceEqDiff, Nat.reduceBEq, reduceCtorEq, Nat.reduceLT, Nat.reduceLeDiff, Nat.reduceAdd, Nat.reduceSub, Nat.reduceMul, Nat.reduceDiv, Int.reduceAdd, Int.reduceNeg, Int.reduceEq, Int.reduceLT, Int.reduceLE, c_tutte_placed_r4]
    refine hKY _ ?_
    refine wlk_sreg fun KY hKY => ?_
    simp only [go_sem, reduceIte, Nat.reduceEqDiff, Nat.reduceBEq, reduceCtorEq, Nat.reduceLT, Nat.reduceLeDiff, Nat.reduceAdd, Nat.reduceSub, Nat.reduceMul, Nat.reduceDiv, Int.reduceAdd, Int.reduceNeg, Int.reduceEq, Int.reduceLT, Int.reduceLE, c_tutte_placed_r5, ints_len]
    refine hKY _ ?_
    refine wlk_blk fun X7 hn7 he7 hf7 hr7 => ?_
    try simp only [go_sem, reduceIte, Nat.reduceEqDiff, Nat.reduceBEq, reduceCtorEq, Nat.reduceLT, Nat.reduceLeDiff, Nat.reduceAdd, Nat.reduceSub, Nat.reduceMul, Nat.reduceDiv, Int.reduceAdd, Int.reduceNeg, Int.reduceEq, Int.reduceLT, Int.reduceLE]
    refine wlk_lp (α := Nat) [9, 10, 27, 57] (fun i => [(6, .own (some 1) (ints (atM N base ((S).take i) (1)))), (26, .sc (.int .i64 (i : Int)))]) (fun i => []) (fun i q => i ≤ (S).length ∧ q = (S).length - i ∧ upB N ((S).take i) = true ∧ ∀ v : Nat, (v : Int) ∈ (S).take i → base v = 0) (0) ((S).length) rfl (by first | (simp only [go_sem, reduceIte, Nat.reduceEqDiff, Nat.reduceBEq, reduceCtorEq, Nat.reduceLT, Nat.reduceLeDiff, Nat.reduceAdd, Nat.reduceSub, Nat.reduceMul, Nat.reduceDiv, Int.reduceAdd, Int.reduceNeg, Int.reduceEq, Int.reduceLT, Int.reduceLE, updAll_cons, updAll_nil]; done) | with_reducible rfl | rfl) (⟨by omega, rfl, by simp [upB], by simp⟩) ?_
    rintro i q ⟨hi, rfl, hu, hfree⟩ X8 hn8 he8 hr8
    simp only [go_sem, reduceIte, Nat.reduceEqDiff, Nat.reduceBEq, reduceCtorEq, Nat.reduceLT, Nat.reduceLeDiff, Nat.reduceAdd, Nat.reduceSub, Nat.reduceMul, Nat.reduceDiv, Int.reduceAdd, Int.reduceNeg, Int.reduceEq, Int.reduceLT, Int.reduceLE, updAll_cons, updAll_nil]
    refine wlk_sreg fun KY hKY => ?_
    simp only [go_sem, reduceIte, Nat.reduceEqDiff, Nat.reduceBEq, reduceCtorEq, Nat.reduceLT, Nat.reduceLeDiff, Nat.reduceAdd, Nat.reduceSub, Nat.reduceMul, Nat.reduceDiv, Int.reduceAdd, Int.reduceNeg, Int.reduceEq, Int.reduceLT, Int.reduceLE, c_tutte_placed_r6]
    refine hKY _ ?_
    refine wlk_seq fun X9 hn9 he9 hr9 => ?_
    by_cases hi2 : i < (S).length
    · refine wlk_cond1 (by first | rfl | (simp only [go_sem, reduceIte, Nat.reduceEqDiff, Nat.reduceBEq, reduceCtorEq, Nat.reduceLT, Nat.reduceLeDiff, Nat.reduceAdd, Nat.reduceSub, Nat.reduceMul, Nat.reduceDiv, Int.reduceAdd, Int.reduceNeg, Int.reduceEq, Int.reduceLT, Int.reduceLE]; try simp (disch := omega) only [decide_eq_true, decide_eq_false])) ?_
      refine wlk_skip ?_
      repeat (first | refine hn9 _ ?_ | refine he9 _ _ ?_ | refine hr9 _ ?_ | refine he8 _ _ ?_ | refine hr8 _ ?_ | refine hn7 _ ?_ | refine he7 _ ?_ | refine hf7 _ _ (by decide) ?_ | refine hr7 _ ?_ | refine hn6 _ ?_ | refine he6 _ ?_ | refine hf6 _ _ (by decide) ?_ | refine hr6 _ ?_ | refine hn5 _ ?_ | refine he5 _ _ ?_ | refine hr5 _ ?_ | refine hn4 _ ?_ | refine he4 _ _ ?_ | refine hr4 _ ?_ | refine he3 _ _ ?_ | refine hr3 _ ?_ | refine hn2 _ ?_ | refine he2 _ ?_ | refine hf2 _ _ (by decide) ?_ | refine hr2 _ ?_ | refine hn1 _ ?_ | refine he1 _ _ ?_ | refine hr1 _ ?_)
      refine wlk_seq fun X10 hn10 he10 hr10 => ?_
      refine wlk_blk fun X11 hn11 he11 hf11 hr11 => ?_
      have hx : (S)[i]? = some (S)[i] := List.getElem?_eq_getElem hi2
      have hprev : 0 < i → ∃ u, (S)[i - 1]? = some u := fun h => ⟨(S)[i - 1], List.getElem?_eq_getElem (by omega)⟩
      generalize (S)[i] = v at hx
      refine wlk_sreg fun KY hKY => ?_
      simp only [go_sem, reduceIte, Nat.reduceEqDiff, Nat.reduceBEq, reduceCtorEq, Nat.reduceLT, Nat.reduceLeDiff, Nat.reduceAdd, Nat.reduceSub, Nat.reduceMul, Nat.reduceDiv, Int.reduceAdd, Int.reduceNeg, Int.reduceEq, Int.reduceLT, Int.reduceLE, c_tutte_placed_r7, ints_at hx, hi2, ints_len]
      refine hKY _ ?_
      refine wlk_seq fun X12 hn12 he12 hr12 => ?_
      have hgood : okPB N S T = true → (0 ≤ v ∧ v < N ∧ v ∉ (S).take i ∧ (0 < i → ∀ u, (S)[i - 1]? = some u → u ≤ v)) ∧ ∀ w : Nat, v = w → base w = 0 := fun h => ⟨up_none hx (okP_S h), fun _ _ => by rw [← hb]⟩
      by_cases h1 : v < 0
      · have d1 : decide (v < 0) = true := decide_eq_true h1
        have hf : okPB N S T = false := by rw [Bool.eq_false_iff]; intro h; have := (hgood h).1.1; omega
        refine wlk_sreg fun KY hKY => ?_
        simp only [go_sem, reduceIte, Nat.reduceEqDiff, Nat.reduceBEq, reduceCtorEq, Nat.reduceLT, Nat.reduceLeDiff, Nat.reduceAdd, Nat.reduceSub, Nat.reduceMul, Nat.reduceDiv, Int.reduceAdd, Int.reduceNeg, Int.reduceEq, Int.reduceLT, Int.reduceLE, c_tutte_placed_r8, d1]
        refine hKY _ ?_
        refine wlk_cond1 (by first | rfl | (simp only [go_sem, reduceIte, Nat.reduceEqDiff, Nat.reduceBEq, reduceCtorEq, Nat.reduceLT, Nat.reduceLeDiff, Nat.reduceAdd, Nat.reduceSub, Nat.reduceMul, Nat.reduceDiv, Int.reduceAdd, Int.reduceNeg, Int.reduceEq, Int.reduceLT, Int.reduceLE]; try simp (disch := omega) only [decide_eq_true, decide_eq_false])) ?_
        refine wlk_sreg fun KY hKY => ?_
        simp only [go_sem, reduceIte, Nat.reduceEqDiff, Nat.reduceBEq, reduceCtorEq, Nat.reduceLT, Nat.reduceLeDiff, Nat.reduceAdd, Nat.reduceSub, Nat.reduceMul, Nat.reduceDiv, Int.reduceAdd, Int.reduceNeg, Int.reduceEq, Int.reduceLT, Int.reduceLE, c_tutte_placed_r9]
        refine hKY _ ?_
        refine wlk_ret ?_
        repeat (first | refine hn12 _ ?_ | refine he12 _ _ ?_ | refine hr12 _ ?_ | refine hn11 _ ?_ | refine he11 _ ?_ | refine hf11 _ _ (by decide) ?_ | refine hr11 _ ?_ | refine hn10 _ ?_ | refine he10 _ _ ?_ | refine hr10 _ ?_ | refine hn9 _ ?_ | refine he9 _ _ ?_ | refine hr9 _ ?_ | refine he8 _ _ ?_ | refine hr8 _ ?_ | refine hn7 _ ?_ | refine he7 _ ?_ | refine hf7 _ _ (by decide) ?_ | refine hr7 _ ?_ | refine hn6 _ ?_ | refine he6 _ ?_ | refine hf6 _ _ (by decide) ?_ | refine hr6 _ ?_ | refine hn5 _ ?_ | refine he5 _ _ ?_ | refine hr5 _ ?_ | refine hn4 _ ?_ | refine he4 _ _ ?_ | refine hr4 _ ?_ | refine he3 _ _ ?_ | refine hr3 _ ?_ | refine hn2 _ ?_ | refine he2 _ ?_ | refine hf2 _ _ (by decide) ?_ | refine hr2 _ ?_ | refine hn1 _ ?_ | refine he1 _ _ ?_ | refine hr1 _ ?_)
        simp only [go_sem, reduceIte, Nat.reduceEqDiff, Nat.reduceBEq, reduceCtorEq, Nat.reduceLT, Nat.reduceLeDiff, Nat.reduceAdd, Nat.reduceSub, Nat.reduceMul, Nat.reduceDiv, Int.reduceAdd, Int.reduceNeg, Int.reduceEq, Int.reduceLT, Int.reduceLE, hf, cond_false]
      have d1 : decide (v < 0) = false := decide_eq_false h1
      by_cases h2 : (N : Int) ≤ v
      · have d2 : decide ((N : Int) ≤ v) = true := decide_eq_true h2
        have hf : okPB N S T = false := by rw [Bool.eq_false_iff]; intro h; have := (hgood h).1.2.1; omega
        refine wlk_sreg fun KY hKY => ?_
        simp only [go_sem, reduceIte, Nat.reduceEqDiff, Nat.reduceBEq, reduceCtorEq, Nat.reduceLT, Nat.reduceLeDiff, Nat.reduceAdd, Nat.reduceSub, Nat.reduceMul, Nat.reduceDiv, Int.reduceAdd, Int.reduceNeg, Int.reduceEq, Int.reduceLT, Int.reduceLE, c_tutte_placed_r8, d1, d2]
        refine hKY _ ?_
        refine wlk_cond1 (by first | rfl | (simp only [go_sem, reduceIte, Nat.reduceEqDiff, Nat.reduceBEq, reduceCtorEq, Nat.reduceLT, Nat.reduceLeDiff, Nat.reduceAdd, Nat.reduceSub, Nat.reduceMul, Nat.reduceDiv, Int.reduceAdd, Int.reduceNeg, Int.reduceEq, Int.reduceLT, Int.reduceLE]; try simp (disch := omega) only [decide_eq_true, decide_eq_false])) ?_
        refine wlk_sreg fun KY hKY => ?_
        simp only [go_sem, reduceIte, Nat.reduceEqDiff, Nat.reduceBEq, reduceCtorEq, Nat.reduceLT, Nat.reduceLeDiff, Nat.reduceAdd, Nat.reduceSub, Nat.reduceMul, Nat.reduceDiv, Int.reduceAdd, Int.reduceNeg, Int.reduceEq, Int.reduceLT, Int.reduceLE, c_tutte_placed_r9]
        refine hKY _ ?_
        refine wlk_ret ?_
        repeat (first | refine hn12 _ ?_ | refine he12 _ _ ?_ | refine hr12 _ ?_ | refine hn11 _ ?_ | refine he11 _ ?_ | refine hf11 _ _ (by decide) ?_ | refine hr11 _ ?_ | refine hn10 _ ?_ | refine he10 _ _ ?_ | refine hr10 _ ?_ | refine hn9 _ ?_ | refine he9 _ _ ?_ | refine hr9 _ ?_ | refine he8 _ _ ?_ | refine hr8 _ ?_ | refine hn7 _ ?_ | refine he7 _ ?_ | refine hf7 _ _ (by decide) ?_ | refine hr7 _ ?_ | refine hn6 _ ?_ | refine he6 _ ?_ | refine hf6 _ _ (by decide) ?_ | refine hr6 _ ?_ | refine hn5 _ ?_ | refine he5 _ _ ?_ | refine hr5 _ ?_ | refine hn4 _ ?_ | refine he4 _ _ ?_ | refine hr4 _ ?_ | refine he3 _ _ ?_ | refine hr3 _ ?_ | refine hn2 _ ?_ | refine he2 _ ?_ | refine hf2 _ _ (by decide) ?_ | refine hr2 _ ?_ | refine hn1 _ ?_ | refine he1 _ _ ?_ | refine hr1 _ ?_)
        simp only [go_sem, reduceIte, Nat.reduceEqDiff, Nat.reduceBEq, reduceCtorEq, Nat.reduceLT, Nat.reduceLeDiff, Nat.reduceAdd, Nat.reduceSub, Nat.reduceMul, Nat.reduceDiv, Int.reduceAdd, Int.reduceNeg, Int.reduceEq, Int.reduceLT, Int.reduceLE, hf, cond_false]
      have d2 : decide ((N : Int) ≤ v) = false := decide_eq_false h2
      obtain ⟨w, rfl⟩ : ∃ w : Nat, v = w := ⟨v.toNat, by omega⟩
      have hwN : w < N := by omega
      have hg : (ints (atM N base ((S).take i) (1)))[w]? = some (.sc (.int .i64 (if (w : Int) ∈ (S).take i then (1) else base w))) := by rw [ints_get (by rw [atM_len]; exact hwN), atM_get _ _ _ hwN]
      have hat := atM_len N base ((S).take i) (1)
      by_cases h3 : (w : Int) ∈ (S).take i
      · have hf : okPB N S T = false := by rw [Bool.eq_false_iff]; intro h; exact (hgood h).1.2.2.1 h3
        rw [if_pos h3] at hg
        refine wlk_sreg fun KY hKY => ?_
        simp only [go_sem, reduceIte, Nat.reduceEqDiff, Nat.reduceBEq, reduceCtorEq, Nat.reduceLT, Nat.reduceLeDiff, Nat.reduceAdd, Nat.reduceSub, Nat.reduceMul, Nat.reduceDiv, Int.reduceAdd, Int.reduceNeg, Int.reduceEq, Int.reduceLT, Int.reduceLE, c_tutte_placed_r8, d1, d2, hg, ints_len, hat, hwN, (show decide ((1 : Int) ≠ 0) = true from rfl)]
        refine hKY _ ?_
        refine wlk_cond1 (by first | rfl | (simp only [go_sem, reduceIte, Nat.reduceEqDiff, Nat.reduceBEq, reduceCtorEq, Nat.reduceLT, Nat.reduceLeDiff, Nat.reduceAdd, Nat.reduceSub, Nat.reduceMul, Nat.reduceDiv, Int.reduceAdd, Int.reduceNeg, Int.reduceEq, Int.reduceLT, Int.reduceLE]; try simp (disch := omega) only [decide_eq_true, decide_eq_false])) ?_
        refine wlk_sreg fun KY hKY => ?_
        simp only [go_sem, reduceIte, Nat.reduceEqDiff, Nat.reduceBEq, reduceCtorEq, Nat.reduceLT, Nat.reduceLeDiff, Nat.reduceAdd, Nat.reduceSub, Nat.reduceMul, Nat.reduceDiv, Int.reduceAdd, Int.reduceNeg, Int.reduceEq, Int.reduceLT, Int.reduceLE, c_tutte_placed_r9]
        refine hKY _ ?_
        refine wlk_ret ?_
        repeat (first | refine hn12 _ ?_ | refine he12 _ _ ?_ | refine hr12 _ ?_ | refine hn11 _ ?_ | refine he11 _ ?_ | refine hf11 _ _ (by decide) ?_ | refine hr11 _ ?_ | refine hn10 _ ?_ | refine he10 _ _ ?_ | refine hr10 _ ?_ | refine hn9 _ ?_ | refine he9 _ _ ?_ | refine hr9 _ ?_ | refine he8 _ _ ?_ | refine hr8 _ ?_ | refine hn7 _ ?_ | refine he7 _ ?_ | refine hf7 _ _ (by decide) ?_ | refine hr7 _ ?_ | refine hn6 _ ?_ | refine he6 _ ?_ | refine hf6 _ _ (by decide) ?_ | refine hr6 _ ?_ | refine hn5 _ ?_ | refine he5 _ _ ?_ | refine hr5 _ ?_ | refine hn4 _ ?_ | refine he4 _ _ ?_ | refine hr4 _ ?_ | refine he3 _ _ ?_ | refine hr3 _ ?_ | refine hn2 _ ?_ | refine he2 _ ?_ | refine hf2 _ _ (by decide) ?_ | refine hr2 _ ?_ | refine hn1 _ ?_ | refine he1 _ _ ?_ | refine hr1 _ ?_)
        simp only [go_sem, reduceIte, Nat.reduceEqDiff, Nat.reduceBEq, reduceCtorEq, Nat.reduceLT, Nat.reduceLeDiff, Nat.reduceAdd, Nat.reduceSub, Nat.reduceMul, Nat.reduceDiv, Int.reduceAdd, Int.reduceNeg, Int.reduceEq, Int.reduceLT, Int.reduceLE, hf, cond_false]
      rw [if_neg h3] at hg
      by_cases h4 : base w = 0
      · rw [h4] at hg
        by_cases h5 : 0 < i
        · obtain ⟨u, hu2⟩ := hprev h5
          have hp : IntKind.i64.wrap ((i : Int) - 1) = ((i - 1 : Nat) : Int) := by rw [IntWalk.i64_in _ (by omega)]; omega
          have d3 : decide (0 < (i : Int)) = true := decide_eq_true (by omega)
          have hil : i - 1 < (S).length := by omega
          by_cases h6 : (w : Int) < u
          · have d4 : decide ((w : Int) < u) = true := decide_eq_true h6
            have hf : okPB N S T = false := by rw [Bool.eq_false_iff]; intro h; have := (hgood h).1.2.2.2 h5 u hu2; omega
            refine wlk_sreg fun KY hKY => ?_
            simp only [go_sem, reduceIte, Nat.reduceEqDiff, Nat.reduceBEq, reduceCtorEq, Nat.reduceLT, Nat.reduceLeDiff, Nat.reduceAdd, Nat.reduceSub, Nat.reduceMul, Nat.reduceDiv, Int.reduceAdd, Int.reduceNeg, Int.reduceEq, Int.reduceLT, Int.reduceLE, c_tutte_placed_r8, d1, d2, hg, ints_len, hat, hwN, d3, hp, ints_at hu2, hil, d4]
            refine hKY _ ?_
            refine wlk_cond1 (by first | rfl | (simp only [go_sem, reduceIte, Nat.reduceEqDiff, Nat.reduceBEq, reduceCtorEq, Nat.reduceLT, Nat.reduceLeDiff, Nat.reduceAdd, Nat.reduceSub, Nat.reduceMul, Nat.reduceDiv, Int.reduceAdd, Int.reduceNeg, Int.reduceEq, Int.reduceLT, Int.reduceLE]; try simp (disch := omega) only [decide_eq_true, decide_eq_false])) ?_
            refine wlk_sreg fun KY hKY => ?_
            simp only [go_sem, reduceIte, Nat.reduceEqDiff, Nat.reduceBEq, reduceCtorEq, Nat.reduceLT, Nat.reduceLeDiff, Nat.reduceAdd, Nat.reduceSub, Nat.reduceMul, Nat.reduceDiv, Int.reduceAdd, Int.reduceNeg, Int.reduceEq, Int.reduceLT, Int.reduceLE, c_tutte_placed_r9]
            refine hKY _ ?_
            refine wlk_ret ?_
            repeat (first | refine hn12 _ ?_ | refine he12 _ _ ?_ | refine hr12 _ ?_ | refine hn11 _ ?_ | refine he11 _ ?_ | refine hf11 _ _ (by decide) ?_ | refine hr11 _ ?_ | refine hn10 _ ?_ | refine he10 _ _ ?_ | refine hr10 _ ?_ | refine hn9 _ ?_ | refine he9 _ _ ?_ | refine hr9 _ ?_ | refine he8 _ _ ?_ | refine hr8 _ ?_ | refine hn7 _ ?_ | refine he7 _ ?_ | refine hf7 _ _ (by decide) ?_ | refine hr7 _ ?_ | refine hn6 _ ?_ | refine he6 _ ?_ | refine hf6 _ _ (by decide) ?_ | refine hr6 _ ?_ | refine hn5 _ ?_ | refine he5 _ _ ?_ | refine hr5 _ ?_ | refine hn4 _ ?_ | refine he4 _ _ ?_ | refine hr4 _ ?_ | refine he3 _ _ ?_ | refine hr3 _ ?_ | refine hn2 _ ?_ | refine he2 _ ?_ | refine hf2 _ _ (by decide) ?_ | refine hr2 _ ?_ | refine hn1 _ ?_ | refine he1 _ _ ?_ | refine hr1 _ ?_)
            simp only [go_sem, reduceIte, Nat.reduceEqDiff, Nat.reduceBEq, reduceCtorEq, Nat.reduceLT, Nat.reduceLeDiff, Nat.reduceAdd, Nat.reduceSub, Nat.reduceMul, Nat.reduceDiv, Int.reduceAdd, Int.reduceNeg, Int.reduceEq, Int.reduceLT, Int.reduceLE, hf, cond_false]
          · have d4 : decide ((w : Int) < u) = false := decide_eq_false h6
            have hup := up_snoc hu hx (by omega) (by omega) h3 (fun _ u' hu' => by rw [hu2] at hu'; cases hu'; omega)
            refine wlk_sreg fun KY hKY => ?_
            simp only [go_sem, reduceIte, Nat.reduceEqDiff, Nat.reduceBEq, reduceCtorEq, Nat.reduceLT, Nat.reduceLeDiff, Nat.reduceAdd, Nat.reduceSub, Nat.reduceMul, Nat.reduceDiv, Int.reduceAdd, Int.reduceNeg, Int.reduceEq, Int.reduceLT, Int.reduceLE, c_tutte_placed_r8, d1, d2, hg, ints_len, hat, hwN, d3, hp, ints_at hu2, hil, d4]
            refine hKY _ ?_
            refine wlk_cond0 (by first | rfl | (simp only [go_sem, reduceIte, Nat.reduceEqDiff, Nat.reduceBEq, reduceCtorEq, Nat.reduceLT, Nat.reduceLeDiff, Nat.reduceAdd, Nat.reduceSub, Nat.reduceMul, Nat.reduceDiv, Int.reduceAdd, Int.reduceNeg, Int.reduceEq, Int.reduceLT, Int.reduceLE]; try simp (disch := omega) only [decide_eq_true, decide_eq_false])) ?_
            refine wlk_skip ?_
            repeat (first | refine hn12 _ ?_ | refine he12 _ _ ?_ | refine hr12 _ ?_ | refine hn11 _ ?_ | refine he11 _ ?_ | refine hf11 _ _ (by decide) ?_ | refine hr11 _ ?_ | refine hn10 _ ?_ | refine he10 _ _ ?_ | refine hr10 _ ?_ | refine hn9 _ ?_ | refine he9 _ _ ?_ | refine hr9 _ ?_ | refine he8 _ _ ?_ | refine hr8 _ ?_ | refine hn7 _ ?_ | refine he7 _ ?_ | refine hf7 _ _ (by decide) ?_ | refine hr7 _ ?_ | refine hn6 _ ?_ | refine he6 _ ?_ | refine hf6 _ _ (by decide) ?_ | refine hr6 _ ?_ | refine hn5 _ ?_ | refine he5 _ _ ?_ | refine hr5 _ ?_ | refine hn4 _ ?_ | refine he4 _ _ ?_ | refine hr4 _ ?_ | refine he3 _ _ ?_ | refine hr3 _ ?_ | refine hn2 _ ?_ | refine he2 _ ?_ | refine hf2 _ _ (by decide) ?_ | refine hr2 _ ?_ | refine hn1 _ ?_ | refine he1 _ _ ?_ | refine hr1 _ ?_)
            refine wlk_reg fun KY hKY => ?_
            simp only [go_sem, reduceIte, Nat.reduceEqDiff, Nat.reduceBEq, reduceCtorEq, Nat.reduceLT, Nat.reduceLeDiff, Nat.reduceAdd, Nat.reduceSub, Nat.reduceMul, Nat.reduceDiv, Int.reduceAdd, Int.reduceNeg, Int.reduceEq, Int.reduceLT, Int.reduceLE, c_tutte_placed_r10, hat, hwN, ints_len, (show IntKind.i64.wrap 1 = 1 by decide), (show IntKind.i64.wrap 2 = 2 by decide), atM_set base ((S).take i) 1 w rfl, (show (S).take i ++ [(w : Int)] = (S).take (i + 1) by rw [List.take_add_one, hx]; rfl)]
            refine hKY _ ?_
            repeat (first | refine hn12 _ ?_ | refine he12 _ _ ?_ | refine hr12 _ ?_ | refine hn11 _ ?_ | refine he11 _ ?_ | refine hf11 _ _ (by decide) ?_ | refine hr11 _ ?_ | refine hn10 _ ?_ | refine he10 _ _ ?_ | refine hr10 _ ?_ | refine hn9 _ ?_ | refine he9 _ _ ?_ | refine hr9 _ ?_ | refine he8 _ _ ?_ | refine hr8 _ ?_ | refine hn7 _ ?_ | refine he7 _ ?_ | refine hf7 _ _ (by decide) ?_ | refine hr7 _ ?_ | refine hn6 _ ?_ | refine he6 _ ?_ | refine hf6 _ _ (by decide) ?_ | refine hr6 _ ?_ | refine hn5 _ ?_ | refine he5 _ _ ?_ | refine hr5 _ ?_ | refine hn4 _ ?_ | refine he4 _ _ ?_ | refine hr4 _ ?_ | refine he3 _ _ ?_ | refine hr3 _ ?_ | refine hn2 _ ?_ | refine he2 _ ?_ | refine hf2 _ _ (by decide) ?_ | refine hr2 _ ?_ | refine hn1 _ ?_ | refine he1 _ _ ?_ | refine hr1 _ ?_)
            refine wlk_reg fun KY hKY => ?_
            simp only [go_sem, reduceIte, Nat.reduceEqDiff, Nat.reduceBEq, reduceCtorEq, Nat.reduceLT, Nat.reduceLeDiff, Nat.reduceAdd, Nat.reduceSub, Nat.reduceMul, Nat.reduceDiv, Int.reduceAdd, Int.reduceNeg, Int.reduceEq, Int.reduceLT, Int.reduceLE, c_tutte_placed_r11, incS (show i < 4611686018427387904 by omega)]
            refine hKY _ ?_
            repeat (first | refine hn12 _ ?_ | refine he12 _ _ ?_ | refine hr12 _ ?_ | refine hn11 _ ?_ | refine he11 _ ?_ | refine hf11 _ _ (by decide) ?_ | refine hr11 _ ?_ | refine hn10 _ ?_ | refine he10 _ _ ?_ | refine hr10 _ ?_ | refine hn9 _ ?_ | refine he9 _ _ ?_ | refine hr9 _ ?_ | refine he8 _ _ ?_ | refine hr8 _ ?_ | refine hn7 _ ?_ | refine he7 _ ?_ | refine hf7 _ _ (by decide) ?_ | refine hr7 _ ?_ | refine hn6 _ ?_ | refine he6 _ ?_ | refine hf6 _ _ (by decide) ?_ | refine hr6 _ ?_ | refine hn5 _ ?_ | refine he5 _ _ ?_ | refine hr5 _ ?_ | refine hn4 _ ?_ | refine he4 _ _ ?_ | refine hr4 _ ?_ | refine he3 _ _ ?_ | refine hr3 _ ?_ | refine hn2 _ ?_ | refine he2 _ ?_ | refine hf2 _ _ (by decide) ?_ | refine hr2 _ ?_ | refine hn1 _ ?_ | refine he1 _ _ ?_ | refine hr1 _ ?_)
            refine hn8 _ (i + 1) ((S).length - (i + 1)) (by omega) (by first | (simp only [go_sem, reduceIte, Nat.reduceEqDiff, Nat.reduceBEq, reduceCtorEq, Nat.reduceLT, Nat.reduceLeDiff, Nat.reduceAdd, Nat.reduceSub, Nat.reduceMul, Nat.reduceDiv, Int.reduceAdd, Int.reduceNeg, Int.reduceEq, Int.reduceLT, Int.reduceLE, updAll_cons, updAll_nil]; done) | with_reducible rfl) ?_
            refine ⟨hi2, rfl, hup, fun x hx2 => ?_⟩
            rw [List.take_add_one, hx] at hx2
            rcases List.mem_append.1 hx2 with h | h
            · exact hfree x h
            · simp at h; rw [show x = w by omega]; exact h4
        · have d3 : decide (0 < (i : Int)) = false := decide_eq_false (by omega)
          have hup := up_snoc hu hx (by omega) (by omega) h3 (fun h => absurd h h5)
          refine wlk_sreg fun KY hKY => ?_
          simp only [go_sem, reduceIte, Nat.reduceEqDiff, Nat.reduceBEq, reduceCtorEq, Nat.reduceLT, Nat.reduceLeDiff, Nat.reduceAdd, Nat.reduceSub, Nat.reduceMul, Nat.reduceDiv, Int.reduceAdd, Int.reduceNeg, Int.reduceEq, Int.reduceLT, Int.reduceLE, c_tutte_placed_r8, d1, d2, hg, ints_len, hat, hwN, d3]
          refine hKY _ ?_
          refine wlk_cond0 (by first | rfl | (simp only [go_sem, reduceIte, Nat.reduceEqDiff, Nat.reduceBEq, reduceCtorEq, Nat.reduceLT, Nat.reduceLeDiff, Nat.reduceAdd, Nat.reduceSub, Nat.reduceMul, Nat.reduceDiv, Int.reduceAdd, Int.reduceNeg, Int.reduceEq, Int.reduceLT, Int.reduceLE]; try simp (disch := omega) only [decide_eq_true, decide_eq_false])) ?_
          refine wlk_skip ?_
          repeat (first | refine hn12 _ ?_ | refine he12 _ _ ?_ | refine hr12 _ ?_ | refine hn11 _ ?_ | refine he11 _ ?_ | refine hf11 _ _ (by decide) ?_ | refine hr11 _ ?_ | refine hn10 _ ?_ | refine he10 _ _ ?_ | refine hr10 _ ?_ | refine hn9 _ ?_ | refine he9 _ _ ?_ | refine hr9 _ ?_ | refine he8 _ _ ?_ | refine hr8 _ ?_ | refine hn7 _ ?_ | refine he7 _ ?_ | refine hf7 _ _ (by decide) ?_ | refine hr7 _ ?_ | refine hn6 _ ?_ | refine he6 _ ?_ | refine hf6 _ _ (by decide) ?_ | refine hr6 _ ?_ | refine hn5 _ ?_ | refine he5 _ _ ?_ | refine hr5 _ ?_ | refine hn4 _ ?_ | refine he4 _ _ ?_ | refine hr4 _ ?_ | refine he3 _ _ ?_ | refine hr3 _ ?_ | refine hn2 _ ?_ | refine he2 _ ?_ | refine hf2 _ _ (by decide) ?_ | refine hr2 _ ?_ | refine hn1 _ ?_ | refine he1 _ _ ?_ | refine hr1 _ ?_)
          refine wlk_reg fun KY hKY => ?_
          simp only [go_sem, reduceIte, Nat.reduceEqDiff, Nat.reduceBEq, reduceCtorEq, Nat.reduceLT, Nat.reduceLeDiff, Nat.reduceAdd, Nat.reduceSub, Nat.reduceMul, Nat.reduceDiv, Int.reduceAdd, Int.reduceNeg, Int.reduceEq, Int.reduceLT, Int.reduceLE, c_tutte_placed_r10, hat, hwN, ints_len, (show IntKind.i64.wrap 1 = 1 by decide), (show IntKind.i64.wrap 2 = 2 by decide), atM_set base ((S).take i) 1 w rfl, (show (S).take i ++ [(w : Int)] = (S).take (i + 1) by rw [List.take_add_one, hx]; rfl)]
          refine hKY _ ?_
          repeat (first | refine hn12 _ ?_ | refine he12 _ _ ?_ | refine hr12 _ ?_ | refine hn11 _ ?_ | refine he11 _ ?_ | refine hf11 _ _ (by decide) ?_ | refine hr11 _ ?_ | refine hn10 _ ?_ | refine he10 _ _ ?_ | refine hr10 _ ?_ | refine hn9 _ ?_ | refine he9 _ _ ?_ | refine hr9 _ ?_ | refine he8 _ _ ?_ | refine hr8 _ ?_ | refine hn7 _ ?_ | refine he7 _ ?_ | refine hf7 _ _ (by decide) ?_ | refine hr7 _ ?_ | refine hn6 _ ?_ | refine he6 _ ?_ | refine hf6 _ _ (by decide) ?_ | refine hr6 _ ?_ | refine hn5 _ ?_ | refine he5 _ _ ?_ | refine hr5 _ ?_ | refine hn4 _ ?_ | refine he4 _ _ ?_ | refine hr4 _ ?_ | refine he3 _ _ ?_ | refine hr3 _ ?_ | refine hn2 _ ?_ | refine he2 _ ?_ | refine hf2 _ _ (by decide) ?_ | refine hr2 _ ?_ | refine hn1 _ ?_ | refine he1 _ _ ?_ | refine hr1 _ ?_)
          refine wlk_reg fun KY hKY => ?_
          simp only [go_sem, reduceIte, Nat.reduceEqDiff, Nat.reduceBEq, reduceCtorEq, Nat.reduceLT, Nat.reduceLeDiff, Nat.reduceAdd, Nat.reduceSub, Nat.reduceMul, Nat.reduceDiv, Int.reduceAdd, Int.reduceNeg, Int.reduceEq, Int.reduceLT, Int.reduceLE, c_tutte_placed_r11, incS (show i < 4611686018427387904 by omega)]
          refine hKY _ ?_
          repeat (first | refine hn12 _ ?_ | refine he12 _ _ ?_ | refine hr12 _ ?_ | refine hn11 _ ?_ | refine he11 _ ?_ | refine hf11 _ _ (by decide) ?_ | refine hr11 _ ?_ | refine hn10 _ ?_ | refine he10 _ _ ?_ | refine hr10 _ ?_ | refine hn9 _ ?_ | refine he9 _ _ ?_ | refine hr9 _ ?_ | refine he8 _ _ ?_ | refine hr8 _ ?_ | refine hn7 _ ?_ | refine he7 _ ?_ | refine hf7 _ _ (by decide) ?_ | refine hr7 _ ?_ | refine hn6 _ ?_ | refine he6 _ ?_ | refine hf6 _ _ (by decide) ?_ | refine hr6 _ ?_ | refine hn5 _ ?_ | refine he5 _ _ ?_ | refine hr5 _ ?_ | refine hn4 _ ?_ | refine he4 _ _ ?_ | refine hr4 _ ?_ | refine he3 _ _ ?_ | refine hr3 _ ?_ | refine hn2 _ ?_ | refine he2 _ ?_ | refine hf2 _ _ (by decide) ?_ | refine hr2 _ ?_ | refine hn1 _ ?_ | refine he1 _ _ ?_ | refine hr1 _ ?_)
          refine hn8 _ (i + 1) ((S).length - (i + 1)) (by omega) (by first | (simp only [go_sem, reduceIte, Nat.reduceEqDiff, Nat.reduceBEq, reduceCtorEq, Nat.reduceLT, Nat.reduceLeDiff, Nat.reduceAdd, Nat.reduceSub, Nat.reduceMul, Nat.reduceDiv, Int.reduceAdd, Int.reduceNeg, Int.reduceEq, Int.reduceLT, Int.reduceLE, updAll_cons, updAll_nil]; done) | with_reducible rfl) ?_
          refine ⟨hi2, rfl, hup, fun x hx2 => ?_⟩
          rw [List.take_add_one, hx] at hx2
          rcases List.mem_append.1 hx2 with h | h
          · exact hfree x h
          · simp at h; rw [show x = w by omega]; exact h4
      · have hf : okPB N S T = false := by rw [Bool.eq_false_iff]; intro h; exact h4 ((hgood h).2 w rfl)
        refine wlk_sreg fun KY hKY => ?_
        simp only [go_sem, reduceIte, Nat.reduceEqDiff, Nat.reduceBEq, reduceCtorEq, Nat.reduceLT, Nat.reduceLeDiff, Nat.reduceAdd, Nat.reduceSub, Nat.reduceMul, Nat.reduceDiv, Int.reduceAdd, Int.reduceNeg, Int.reduceEq, Int.reduceLT, Int.reduceLE, c_tutte_placed_r8, d1, d2, hg, ints_len, hat, hwN, (show decide (base w ≠ 0) = true from decide_eq_true h4)]
        refine hKY _ ?_
        refine wlk_cond1 (by first | rfl | (simp only [go_sem, reduceIte, Nat.reduceEqDiff, Nat.reduceBEq, reduceCtorEq, Nat.reduceLT, Nat.reduceLeDiff, Nat.reduceAdd, Nat.reduceSub, Nat.reduceMul, Nat.reduceDiv, Int.reduceAdd, Int.reduceNeg, Int.reduceEq, Int.reduceLT, Int.reduceLE]; try simp (disch := omega) only [decide_eq_true, decide_eq_false])) ?_
        refine wlk_sreg fun KY hKY => ?_
        simp only [go_sem, reduceIte, Nat.reduceEqDiff, Nat.reduceBEq, reduceCtorEq, Nat.reduceLT, Nat.reduceLeDiff, Nat.reduceAdd, Nat.reduceSub, Nat.reduceMul, Nat.reduceDiv, Int.reduceAdd, Int.reduceNeg, Int.reduceEq, Int.reduceLT, Int.reduceLE, c_tutte_placed_r9]
        refine hKY _ ?_
        refine wlk_ret ?_
        repeat (first | refine hn12 _ ?_ | refine he12 _ _ ?_ | refine hr12 _ ?_ | refine hn11 _ ?_ | refine he11 _ ?_ | refine hf11 _ _ (by decide) ?_ | refine hr11 _ ?_ | refine hn10 _ ?_ | refine he10 _ _ ?_ | refine hr10 _ ?_ | refine hn9 _ ?_ | refine he9 _ _ ?_ | refine hr9 _ ?_ | refine he8 _ _ ?_ | refine hr8 _ ?_ | refine hn7 _ ?_ | refine he7 _ ?_ | refine hf7 _ _ (by decide) ?_ | refine hr7 _ ?_ | refine hn6 _ ?_ | refine he6 _ ?_ | refine hf6 _ _ (by decide) ?_ | refine hr6 _ ?_ | refine hn5 _ ?_ | refine he5 _ _ ?_ | refine hr5 _ ?_ | refine hn4 _ ?_ | refine he4 _ _ ?_ | refine hr4 _ ?_ | refine he3 _ _ ?_ | refine hr3 _ ?_ | refine hn2 _ ?_ | refine he2 _ ?_ | refine hf2 _ _ (by decide) ?_ | refine hr2 _ ?_ | refine hn1 _ ?_ | refine he1 _ _ ?_ | refine hr1 _ ?_)
        simp only [go_sem, reduceIte, Nat.reduceEqDiff, Nat.reduceBEq, reduceCtorEq, Nat.reduceLT, Nat.reduceLeDiff, Nat.reduceAdd, Nat.reduceSub, Nat.reduceMul, Nat.reduceDiv, Int.reduceAdd, Int.reduceNeg, Int.reduceEq, Int.reduceLT, Int.reduceLE, hf, cond_false]
    · refine wlk_cond0 (by first | rfl | (simp only [go_sem, reduceIte, Nat.reduceEqDiff, Nat.reduceBEq, reduceCtorEq, Nat.reduceLT, Nat.reduceLeDiff, Nat.reduceAdd, Nat.reduceSub, Nat.reduceMul, Nat.reduceDiv, Int.reduceAdd, Int.reduceNeg, Int.reduceEq, Int.reduceLT, Int.reduceLE]; try simp (disch := omega) only [decide_eq_true, decide_eq_false])) ?_
      refine wlk_exit ?_
      repeat (first | refine hn9 _ ?_ | refine he9 _ _ ?_ | refine hr9 _ ?_ | refine he8 _ _ ?_ | refine hr8 _ ?_ | refine hn7 _ ?_ | refine he7 _ ?_ | refine hf7 _ _ (by decide) ?_ | refine hr7 _ ?_ | refine hn6 _ ?_ | refine he6 _ ?_ | refine hf6 _ _ (by decide) ?_ | refine hr6 _ ?_ | refine hn5 _ ?_ | refine he5 _ _ ?_ | refine hr5 _ ?_ | refine hn4 _ ?_ | refine he4 _ _ ?_ | refine hr4 _ ?_ | refine he3 _ _ ?_ | refine hr3 _ ?_ | refine hn2 _ ?_ | refine he2 _ ?_ | refine hf2 _ _ (by decide) ?_ | refine hr2 _ ?_ | refine hn1 _ ?_ | refine he1 _ _ ?_ | refine hr1 _ ?_)
      obtain rfl : i = (S).length := by omega
      rw [List.take_length] at hu hfree ⊢
      subst hb
      refine wlk_reg fun KY hKY => ?_
      simp only [go_sem, reduceIte, Nat.reduceEqDiff, Nat.reduceBEq, reduceCtorEq, Nat.reduceLT, Nat.reduceLeDiff, Nat.reduceAdd, Nat.reduceSub, Nat.reduceMul, Nat.reduceDiv, Int.reduceAdd, Int.reduceNeg, Int.reduceEq, Int.reduceLT, Int.reduceLE, c_tutte_placed_r12, (show IntKind.i64.wrap 1 = 1 by decide), (show IntKind.i64.wrap 2 = 2 by decide)]
      refine hKY _ ?_
      repeat (first | refine hn9 _ ?_ | refine he9 _ _ ?_ | refine hr9 _ ?_ | refine he8 _ _ ?_ | refine hr8 _ ?_ | refine hn7 _ ?_ | refine he7 _ ?_ | refine hf7 _ _ (by decide) ?_ | refine hr7 _ ?_ | refine hn6 _ ?_ | refine he6 _ ?_ | refine hf6 _ _ (by decide) ?_ | refine hr6 _ ?_ | refine hn5 _ ?_ | refine he5 _ _ ?_ | refine hr5 _ ?_ | refine hn4 _ ?_ | refine he4 _ _ ?_ | refine hr4 _ ?_ | refine he3 _ _ ?_ | refine hr3 _ ?_ | refine hn2 _ ?_ | refine he2 _ ?_ | refine hf2 _ _ (by decide) ?_ | refine hr2 _ ?_ | refine hn1 _ ?_ | refine he1 _ _ ?_ | refine hr1 _ ?_)
      refine hn3 _ (1) (2 - 1) (by omega) (by first | (simp only [go_sem, reduceIte, Nat.reduceEqDiff, Nat.reduceBEq, reduceCtorEq, Nat.reduceLT, Nat.reduceLeDiff, Nat.reduceAdd, Nat.reduceSub, Nat.reduceMul, Nat.reduceDiv, Int.reduceAdd, Int.reduceNeg, Int.reduceEq, Int.reduceLT, Int.reduceLE, updAll_cons, updAll_nil, (show ((1 : Nat) : Int) = 1 from rfl), cond_true, cond_false]; done) | with_reducible rfl) ?_
      exact ⟨by omega, rfl, fun _ => hu, fun h => absurd h (by omega)⟩
  by_cases hk1 : k = 1
  · subst hk1
    refine wlk_cond1 (by first | rfl | (simp only [go_sem, reduceIte, Nat.reduceEqDiff, Nat.reduceBEq, reduceCtorEq, Nat.reduceLT, Nat.reduceLeDiff, Nat.reduceAdd, Nat.reduceSub, Nat.reduceMul, Nat.reduceDiv, Int.reduceAdd, Int.reduceNeg, Int.reduceEq, Int.reduceLT, Int.reduceLE]; try simp (disch := omega) only [decide_eq_true, decide_eq_false])) ?_
    refine wlk_skip ?_
    repeat (first | refine hn4 _ ?_ | refine he4 _ _ ?_ | refine hr4 _ ?_ | refine he3 _ _ ?_ | refine hr3 _ ?_ | refine hn2 _ ?_ | refine he2 _ ?_ | refine hf2 _ _ (by decide) ?_ | refine hr2 _ ?_ | refine hn1 _ ?_ | refine he1 _ _ ?_ | refine hr1 _ ?_)
    have hSu := hA (by omega)
    generalize hb : (fun v : Nat => if (v : Int) ∈ S then (1 : Int) else 0) = base
    rw [show atM N (fun _ => 0) S 1 = atM N base [] 2 by subst hb; simp [atM]]
    refine wlk_seq fun X13 hn13 he13 hr13 => ?_
    refine wlk_blk fun X14 hn14 he14 hf14 hr14 => ?_
    refine wlk_sreg fun KY hKY => ?_
    simp only [go_sem, reduceIte, Nat.reduceEqDiff, Nat.reduceBEq, reduceCtorEq, Nat.reduceLT, Nat.reduceLeDiff, Nat.reduceAdd, Nat.reduceSub, Nat.reduceMul, Nat.reduceDiv, Int.reduceAdd, Int.reduceNeg, Int.reduceEq, Int.reduceLT, Int.reduceLE, c_tutte_placed_r4]
    refine hKY _ ?_
    refine wlk_sreg fun KY hKY => ?_
    simp only [go_sem, reduceIte, Nat.reduceEqDiff, Nat.reduceBEq, reduceCtorEq, Nat.reduceLT, Nat.reduceLeDiff, Nat.reduceAdd, Nat.reduceSub, Nat.reduceMul, Nat.reduceDiv, Int.reduceAdd, Int.reduceNeg, Int.reduceEq, Int.reduceLT, Int.reduceLE, c_tutte_placed_r5, ints_len]
    refine hKY _ ?_
    refine wlk_blk fun X15 hn15 he15 hf15 hr15 => ?_
    try simp only [go_sem, reduceIte, Nat.reduceEqDiff, Nat.reduceBEq, reduceCtorEq, Nat.reduceLT, Nat.reduceLeDiff, Nat.reduceAdd, Nat.reduceSub, Nat.reduceMul, Nat.reduceDiv, Int.reduceAdd, Int.reduceNeg, Int.reduceEq, Int.reduceLT, Int.reduceLE]
    refine wlk_lp (α := Nat) [9, 10, 27, 57] (fun i => [(6, .own (some 1) (ints (atM N base ((T).take i) (2)))), (26, .sc (.int .i64 (i : Int)))]) (fun i => []) (fun i q => i ≤ (T).length ∧ q = (T).length - i ∧ upB N ((T).take i) = true ∧ ∀ v : Nat, (v : Int) ∈ (T).take i → base v = 0) (0) ((T).length) rfl (by first | (simp only [go_sem, reduceIte, Nat.reduceEqDiff, Nat.reduceBEq, reduceCtorEq, Nat.reduceLT, Nat.reduceLeDiff, Nat.reduceAdd, Nat.reduceSub, Nat.reduceMul, Nat.reduceDiv, Int.reduceAdd, Int.reduceNeg, Int.reduceEq, Int.reduceLT, Int.reduceLE, updAll_cons, updAll_nil]; done) | with_reducible rfl | rfl) (⟨by omega, rfl, by simp [upB], by simp⟩) ?_
    rintro i q ⟨hi, rfl, hu, hfree⟩ X16 hn16 he16 hr16
    simp only [go_sem, reduceIte, Nat.reduceEqDiff, Nat.reduceBEq, reduceCtorEq, Nat.reduceLT, Nat.reduceLeDiff, Nat.reduceAdd, Nat.reduceSub, Nat.reduceMul, Nat.reduceDiv, Int.reduceAdd, Int.reduceNeg, Int.reduceEq, Int.reduceLT, Int.reduceLE, updAll_cons, updAll_nil]
    refine wlk_sreg fun KY hKY => ?_
    simp only [go_sem, reduceIte, Nat.reduceEqDiff, Nat.reduceBEq, reduceCtorEq, Nat.reduceLT, Nat.reduceLeDiff, Nat.reduceAdd, Nat.reduceSub, Nat.reduceMul, Nat.reduceDiv, Int.reduceAdd, Int.reduceNeg, Int.reduceEq, Int.reduceLT, Int.reduceLE, c_tutte_placed_r6]
    refine hKY _ ?_
    refine wlk_seq fun X17 hn17 he17 hr17 => ?_
    by_cases hi2 : i < (T).length
    · refine wlk_cond1 (by first | rfl | (simp only [go_sem, reduceIte, Nat.reduceEqDiff, Nat.reduceBEq, reduceCtorEq, Nat.reduceLT, Nat.reduceLeDiff, Nat.reduceAdd, Nat.reduceSub, Nat.reduceMul, Nat.reduceDiv, Int.reduceAdd, Int.reduceNeg, Int.reduceEq, Int.reduceLT, Int.reduceLE]; try simp (disch := omega) only [decide_eq_true, decide_eq_false])) ?_
      refine wlk_skip ?_
      repeat (first | refine hn17 _ ?_ | refine he17 _ _ ?_ | refine hr17 _ ?_ | refine he16 _ _ ?_ | refine hr16 _ ?_ | refine hn15 _ ?_ | refine he15 _ ?_ | refine hf15 _ _ (by decide) ?_ | refine hr15 _ ?_ | refine hn14 _ ?_ | refine he14 _ ?_ | refine hf14 _ _ (by decide) ?_ | refine hr14 _ ?_ | refine hn13 _ ?_ | refine he13 _ _ ?_ | refine hr13 _ ?_ | refine hn4 _ ?_ | refine he4 _ _ ?_ | refine hr4 _ ?_ | refine he3 _ _ ?_ | refine hr3 _ ?_ | refine hn2 _ ?_ | refine he2 _ ?_ | refine hf2 _ _ (by decide) ?_ | refine hr2 _ ?_ | refine hn1 _ ?_ | refine he1 _ _ ?_ | refine hr1 _ ?_)
      refine wlk_seq fun X18 hn18 he18 hr18 => ?_
      refine wlk_blk fun X19 hn19 he19 hf19 hr19 => ?_
      have hx : (T)[i]? = some (T)[i] := List.getElem?_eq_getElem hi2
      have hprev : 0 < i → ∃ u, (T)[i - 1]? = some u := fun h => ⟨(T)[i - 1], List.getElem?_eq_getElem (by omega)⟩
      generalize (T)[i] = v at hx
      refine wlk_sreg fun KY hKY => ?_
      simp only [go_sem, reduceIte, Nat.reduceEqDiff, Nat.reduceBEq, reduceCtorEq, Nat.reduceLT, Nat.reduceLeDiff, Nat.reduceAdd, Nat.reduceSub, Nat.reduceMul, Nat.reduceDiv, Int.reduceAdd, Int.reduceNeg, Int.reduceEq, Int.reduceLT, Int.reduceLE, c_tutte_placed_r7, ints_at hx, hi2, ints_len]
      refine hKY _ ?_
      refine wlk_seq fun X20 hn20 he20 hr20 => ?_
      have hgood : okPB N S T = true → (0 ≤ v ∧ v < N ∧ v ∉ (T).take i ∧ (0 < i → ∀ u, (T)[i - 1]? = some u → u ≤ v)) ∧ ∀ w : Nat, v = w → base w = 0 := fun h => ⟨up_none hx (okP_T h), fun w e => by subst hb; exact if_neg fun hs => okP_D h hs (List.mem_of_getElem? (e ▸ hx))⟩
      by_cases h1 : v < 0
      · have d1 : decide (v < 0) = true := decide_eq_true h1
        have hf : okPB N S T = false := by rw [Bool.eq_false_iff]; intro h; have := (hgood h).1.1; omega
        refine wlk_sreg fun KY hKY => ?_
        simp only [go_sem, reduceIte, Nat.reduceEqDiff, Nat.reduceBEq, reduceCtorEq, Nat.reduceLT, Nat.reduceLeDiff, Nat.reduceAdd, Nat.reduceSub, Nat.reduceMul, Nat.reduceDiv, Int.reduceAdd, Int.reduceNeg, Int.reduceEq, Int.reduceLT, Int.reduceLE, c_tutte_placed_r8, d1]
        refine hKY _ ?_
        refine wlk_cond1 (by first | rfl | (simp only [go_sem, reduceIte, Nat.reduceEqDiff, Nat.reduceBEq, reduceCtorEq, Nat.reduceLT, Nat.reduceLeDiff, Nat.reduceAdd, Nat.reduceSub, Nat.reduceMul, Nat.reduceDiv, Int.reduceAdd, Int.reduceNeg, Int.reduceEq, Int.reduceLT, Int.reduceLE]; try simp (disch := omega) only [decide_eq_true, decide_eq_false])) ?_
        refine wlk_sreg fun KY hKY => ?_
        simp only [go_sem, reduceIte, Nat.reduceEqDiff, Nat.reduceBEq, reduceCtorEq, Nat.reduceLT, Nat.reduceLeDiff, Nat.reduceAdd, Nat.reduceSub, Nat.reduceMul, Nat.reduceDiv, Int.reduceAdd, Int.reduceNeg, Int.reduceEq, Int.reduceLT, Int.reduceLE, c_tutte_placed_r9]
        refine hKY _ ?_
        refine wlk_ret ?_
        repeat (first | refine hn20 _ ?_ | refine he20 _ _ ?_ | refine hr20 _ ?_ | refine hn19 _ ?_ | refine he19 _ ?_ | refine hf19 _ _ (by decide) ?_ | refine hr19 _ ?_ | refine hn18 _ ?_ | refine he18 _ _ ?_ | refine hr18 _ ?_ | refine hn17 _ ?_ | refine he17 _ _ ?_ | refine hr17 _ ?_ | refine he16 _ _ ?_ | refine hr16 _ ?_ | refine hn15 _ ?_ | refine he15 _ ?_ | refine hf15 _ _ (by decide) ?_ | refine hr15 _ ?_ | refine hn14 _ ?_ | refine he14 _ ?_ | refine hf14 _ _ (by decide) ?_ | refine hr14 _ ?_ | refine hn13 _ ?_ | refine he13 _ _ ?_ | refine hr13 _ ?_ | refine hn4 _ ?_ | refine he4 _ _ ?_ | refine hr4 _ ?_ | refine he3 _ _ ?_ | refine hr3 _ ?_ | refine hn2 _ ?_ | refine he2 _ ?_ | refine hf2 _ _ (by decide) ?_ | refine hr2 _ ?_ | refine hn1 _ ?_ | refine he1 _ _ ?_ | refine hr1 _ ?_)
        simp only [go_sem, reduceIte, Nat.reduceEqDiff, Nat.reduceBEq, reduceCtorEq, Nat.reduceLT, Nat.reduceLeDiff, Nat.reduceAdd, Nat.reduceSub, Nat.reduceMul, Nat.reduceDiv, Int.reduceAdd, Int.reduceNeg, Int.reduceEq, Int.reduceLT, Int.reduceLE, hf, cond_false]
      have d1 : decide (v < 0) = false := decide_eq_false h1
      by_cases h2 : (N : Int) ≤ v
      · have d2 : decide ((N : Int) ≤ v) = true := decide_eq_true h2
        have hf : okPB N S T = false := by rw [Bool.eq_false_iff]; intro h; have := (hgood h).1.2.1; omega
        refine wlk_sreg fun KY hKY => ?_
        simp only [go_sem, reduceIte, Nat.reduceEqDiff, Nat.reduceBEq, reduceCtorEq, Nat.reduceLT, Nat.reduceLeDiff, Nat.reduceAdd, Nat.reduceSub, Nat.reduceMul, Nat.reduceDiv, Int.reduceAdd, Int.reduceNeg, Int.reduceEq, Int.reduceLT, Int.reduceLE, c_tutte_placed_r8, d1, d2]
        refine hKY _ ?_
        refine wlk_cond1 (by first | rfl | (simp only [go_sem, reduceIte, Nat.reduceEqDiff, Nat.reduceBEq, reduceCtorEq, Nat.reduceLT, Nat.reduceLeDiff, Nat.reduceAdd, Nat.reduceSub, Nat.reduceMul, Nat.reduceDiv, Int.reduceAdd, Int.reduceNeg, Int.reduceEq, Int.reduceLT, Int.reduceLE]; try simp (disch := omega) only [decide_eq_true, decide_eq_false])) ?_
        refine wlk_sreg fun KY hKY => ?_
        simp only [go_sem, reduceIte, Nat.reduceEqDiff, Nat.reduceBEq, reduceCtorEq, Nat.reduceLT, Nat.reduceLeDiff, Nat.reduceAdd, Nat.reduceSub, Nat.reduceMul, Nat.reduceDiv, Int.reduceAdd, Int.reduceNeg, Int.reduceEq, Int.reduceLT, Int.reduceLE, c_tutte_placed_r9]
        refine hKY _ ?_
        refine wlk_ret ?_
        repeat (first | refine hn20 _ ?_ | refine he20 _ _ ?_ | refine hr20 _ ?_ | refine hn19 _ ?_ | refine he19 _ ?_ | refine hf19 _ _ (by decide) ?_ | refine hr19 _ ?_ | refine hn18 _ ?_ | refine he18 _ _ ?_ | refine hr18 _ ?_ | refine hn17 _ ?_ | refine he17 _ _ ?_ | refine hr17 _ ?_ | refine he16 _ _ ?_ | refine hr16 _ ?_ | refine hn15 _ ?_ | refine he15 _ ?_ | refine hf15 _ _ (by decide) ?_ | refine hr15 _ ?_ | refine hn14 _ ?_ | refine he14 _ ?_ | refine hf14 _ _ (by decide) ?_ | refine hr14 _ ?_ | refine hn13 _ ?_ | refine he13 _ _ ?_ | refine hr13 _ ?_ | refine hn4 _ ?_ | refine he4 _ _ ?_ | refine hr4 _ ?_ | refine he3 _ _ ?_ | refine hr3 _ ?_ | refine hn2 _ ?_ | refine he2 _ ?_ | refine hf2 _ _ (by decide) ?_ | refine hr2 _ ?_ | refine hn1 _ ?_ | refine he1 _ _ ?_ | refine hr1 _ ?_)
        simp only [go_sem, reduceIte, Nat.reduceEqDiff, Nat.reduceBEq, reduceCtorEq, Nat.reduceLT, Nat.reduceLeDiff, Nat.reduceAdd, Nat.reduceSub, Nat.reduceMul, Nat.reduceDiv, Int.reduceAdd, Int.reduceNeg, Int.reduceEq, Int.reduceLT, Int.reduceLE, hf, cond_false]
      have d2 : decide ((N : Int) ≤ v) = false := decide_eq_false h2
      obtain ⟨w, rfl⟩ : ∃ w : Nat, v = w := ⟨v.toNat, by omega⟩
      have hwN : w < N := by omega
      have hg : (ints (atM N base ((T).take i) (2)))[w]? = some (.sc (.int .i64 (if (w : Int) ∈ (T).take i then (2) else base w))) := by rw [ints_get (by rw [atM_len]; exact hwN), atM_get _ _ _ hwN]
      have hat := atM_len N base ((T).take i) (2)
      by_cases h3 : (w : Int) ∈ (T).take i
      · have hf : okPB N S T = false := by rw [Bool.eq_false_iff]; intro h; exact (hgood h).1.2.2.1 h3
        rw [if_pos h3] at hg
        refine wlk_sreg fun KY hKY => ?_
        simp only [go_sem, reduceIte, Nat.reduceEqDiff, Nat.reduceBEq, reduceCtorEq, Nat.reduceLT, Nat.reduceLeDiff, Nat.reduceAdd, Nat.reduceSub, Nat.reduceMul, Nat.reduceDiv, Int.reduceAdd, Int.reduceNeg, Int.reduceEq, Int.reduceLT, Int.reduceLE, c_tutte_placed_r8, d1, d2, hg, ints_len, hat, hwN, (show decide ((2 : Int) ≠ 0) = true from rfl)]
        refine hKY _ ?_
        refine wlk_cond1 (by first | rfl | (simp only [go_sem, reduceIte, Nat.reduceEqDiff, Nat.reduceBEq, reduceCtorEq, Nat.reduceLT, Nat.reduceLeDiff, Nat.reduceAdd, Nat.reduceSub, Nat.reduceMul, Nat.reduceDiv, Int.reduceAdd, Int.reduceNeg, Int.reduceEq, Int.reduceLT, Int.reduceLE]; try simp (disch := omega) only [decide_eq_true, decide_eq_false])) ?_
        refine wlk_sreg fun KY hKY => ?_
        simp only [go_sem, reduceIte, Nat.reduceEqDiff, Nat.reduceBEq, reduceCtorEq, Nat.reduceLT, Nat.reduceLeDiff, Nat.reduceAdd, Nat.reduceSub, Nat.reduceMul, Nat.reduceDiv, Int.reduceAdd, Int.reduceNeg, Int.reduceEq, Int.reduceLT, Int.reduceLE, c_tutte_placed_r9]
        refine hKY _ ?_
        refine wlk_ret ?_
        repeat (first | refine hn20 _ ?_ | refine he20 _ _ ?_ | refine hr20 _ ?_ | refine hn19 _ ?_ | refine he19 _ ?_ | refine hf19 _ _ (by decide) ?_ | refine hr19 _ ?_ | refine hn18 _ ?_ | refine he18 _ _ ?_ | refine hr18 _ ?_ | refine hn17 _ ?_ | refine he17 _ _ ?_ | refine hr17 _ ?_ | refine he16 _ _ ?_ | refine hr16 _ ?_ | refine hn15 _ ?_ | refine he15 _ ?_ | refine hf15 _ _ (by decide) ?_ | refine hr15 _ ?_ | refine hn14 _ ?_ | refine he14 _ ?_ | refine hf14 _ _ (by decide) ?_ | refine hr14 _ ?_ | refine hn13 _ ?_ | refine he13 _ _ ?_ | refine hr13 _ ?_ | refine hn4 _ ?_ | refine he4 _ _ ?_ | refine hr4 _ ?_ | refine he3 _ _ ?_ | refine hr3 _ ?_ | refine hn2 _ ?_ | refine he2 _ ?_ | refine hf2 _ _ (by decide) ?_ | refine hr2 _ ?_ | refine hn1 _ ?_ | refine he1 _ _ ?_ | refine hr1 _ ?_)
        simp only [go_sem, reduceIte, Nat.reduceEqDiff, Nat.reduceBEq, reduceCtorEq, Nat.reduceLT, Nat.reduceLeDiff, Nat.reduceAdd, Nat.reduceSub, Nat.reduceMul, Nat.reduceDiv, Int.reduceAdd, Int.reduceNeg, Int.reduceEq, Int.reduceLT, Int.reduceLE, hf, cond_false]
      rw [if_neg h3] at hg
      by_cases h4 : base w = 0
      · rw [h4] at hg
        by_cases h5 : 0 < i
        · obtain ⟨u, hu2⟩ := hprev h5
          have hp : IntKind.i64.wrap ((i : Int) - 1) = ((i - 1 : Nat) : Int) := by rw [IntWalk.i64_in _ (by omega)]; omega
          have d3 : decide (0 < (i : Int)) = true := decide_eq_true (by omega)
          have hil : i - 1 < (T).length := by omega
          by_cases h6 : (w : Int) < u
          · have d4 : decide ((w : Int) < u) = true := decide_eq_true h6
            have hf : okPB N S T = false := by rw [Bool.eq_false_iff]; intro h; have := (hgood h).1.2.2.2 h5 u hu2; omega
            refine wlk_sreg fun KY hKY => ?_
            simp only [go_sem, reduceIte, Nat.reduceEqDiff, Nat.reduceBEq, reduceCtorEq, Nat.reduceLT, Nat.reduceLeDiff, Nat.reduceAdd, Nat.reduceSub, Nat.reduceMul, Nat.reduceDiv, Int.reduceAdd, Int.reduceNeg, Int.reduceEq, Int.reduceLT, Int.reduceLE, c_tutte_placed_r8, d1, d2, hg, ints_len, hat, hwN, d3, hp, ints_at hu2, hil, d4]
            refine hKY _ ?_
            refine wlk_cond1 (by first | rfl | (simp only [go_sem, reduceIte, Nat.reduceEqDiff, Nat.reduceBEq, reduceCtorEq, Nat.reduceLT, Nat.reduceLeDiff, Nat.reduceAdd, Nat.reduceSub, Nat.reduceMul, Nat.reduceDiv, Int.reduceAdd, Int.reduceNeg, Int.reduceEq, Int.reduceLT, Int.reduceLE]; try simp (disch := omega) only [decide_eq_true, decide_eq_false])) ?_
            refine wlk_sreg fun KY hKY => ?_
            simp only [go_sem, reduceIte, Nat.reduceEqDiff, Nat.reduceBEq, reduceCtorEq, Nat.reduceLT, Nat.reduceLeDiff, Nat.reduceAdd, Nat.reduceSub, Nat.reduceMul, Nat.reduceDiv, Int.reduceAdd, Int.reduceNeg, Int.reduceEq, Int.reduceLT, Int.reduceLE, c_tutte_placed_r9]
            refine hKY _ ?_
            refine wlk_ret ?_
            repeat (first | refine hn20 _ ?_ | refine he20 _ _ ?_ | refine hr20 _ ?_ | refine hn19 _ ?_ | refine he19 _ ?_ | refine hf19 _ _ (by decide) ?_ | refine hr19 _ ?_ | refine hn18 _ ?_ | refine he18 _ _ ?_ | refine hr18 _ ?_ | refine hn17 _ ?_ | refine he17 _ _ ?_ | refine hr17 _ ?_ | refine he16 _ _ ?_ | refine hr16 _ ?_ | refine hn15 _ ?_ | refine he15 _ ?_ | refine hf15 _ _ (by decide) ?_ | refine hr15 _ ?_ | refine hn14 _ ?_ | refine he14 _ ?_ | refine hf14 _ _ (by decide) ?_ | refine hr14 _ ?_ | refine hn13 _ ?_ | refine he13 _ _ ?_ | refine hr13 _ ?_ | refine hn4 _ ?_ | refine he4 _ _ ?_ | refine hr4 _ ?_ | refine he3 _ _ ?_ | refine hr3 _ ?_ | refine hn2 _ ?_ | refine he2 _ ?_ | refine hf2 _ _ (by decide) ?_ | refine hr2 _ ?_ | refine hn1 _ ?_ | refine he1 _ _ ?_ | refine hr1 _ ?_)
            simp only [go_sem, reduceIte, Nat.reduceEqDiff, Nat.reduceBEq, reduceCtorEq, Nat.reduceLT, Nat.reduceLeDiff, Nat.reduceAdd, Nat.reduceSub, Nat.reduceMul, Nat.reduceDiv, Int.reduceAdd, Int.reduceNeg, Int.reduceEq, Int.reduceLT, Int.reduceLE, hf, cond_false]
          · have d4 : decide ((w : Int) < u) = false := decide_eq_false h6
            have hup := up_snoc hu hx (by omega) (by omega) h3 (fun _ u' hu' => by rw [hu2] at hu'; cases hu'; omega)
            refine wlk_sreg fun KY hKY => ?_
            simp only [go_sem, reduceIte, Nat.reduceEqDiff, Nat.reduceBEq, reduceCtorEq, Nat.reduceLT, Nat.reduceLeDiff, Nat.reduceAdd, Nat.reduceSub, Nat.reduceMul, Nat.reduceDiv, Int.reduceAdd, Int.reduceNeg, Int.reduceEq, Int.reduceLT, Int.reduceLE, c_tutte_placed_r8, d1, d2, hg, ints_len, hat, hwN, d3, hp, ints_at hu2, hil, d4]
            refine hKY _ ?_
            refine wlk_cond0 (by first | rfl | (simp only [go_sem, reduceIte, Nat.reduceEqDiff, Nat.reduceBEq, reduceCtorEq, Nat.reduceLT, Nat.reduceLeDiff, Nat.reduceAdd, Nat.reduceSub, Nat.reduceMul, Nat.reduceDiv, Int.reduceAdd, Int.reduceNeg, Int.reduceEq, Int.reduceLT, Int.reduceLE]; try simp (disch := omega) only [decide_eq_true, decide_eq_false])) ?_
            refine wlk_skip ?_
            repeat (first | refine hn20 _ ?_ | refine he20 _ _ ?_ | refine hr20 _ ?_ | refine hn19 _ ?_ | refine he19 _ ?_ | refine hf19 _ _ (by decide) ?_ | refine hr19 _ ?_ | refine hn18 _ ?_ | refine he18 _ _ ?_ | refine hr18 _ ?_ | refine hn17 _ ?_ | refine he17 _ _ ?_ | refine hr17 _ ?_ | refine he16 _ _ ?_ | refine hr16 _ ?_ | refine hn15 _ ?_ | refine he15 _ ?_ | refine hf15 _ _ (by decide) ?_ | refine hr15 _ ?_ | refine hn14 _ ?_ | refine he14 _ ?_ | refine hf14 _ _ (by decide) ?_ | refine hr14 _ ?_ | refine hn13 _ ?_ | refine he13 _ _ ?_ | refine hr13 _ ?_ | refine hn4 _ ?_ | refine he4 _ _ ?_ | refine hr4 _ ?_ | refine he3 _ _ ?_ | refine hr3 _ ?_ | refine hn2 _ ?_ | refine he2 _ ?_ | refine hf2 _ _ (by decide) ?_ | refine hr2 _ ?_ | refine hn1 _ ?_ | refine he1 _ _ ?_ | refine hr1 _ ?_)
            refine wlk_reg fun KY hKY => ?_
            simp only [go_sem, reduceIte, Nat.reduceEqDiff, Nat.reduceBEq, reduceCtorEq, Nat.reduceLT, Nat.reduceLeDiff, Nat.reduceAdd, Nat.reduceSub, Nat.reduceMul, Nat.reduceDiv, Int.reduceAdd, Int.reduceNeg, Int.reduceEq, Int.reduceLT, Int.reduceLE, c_tutte_placed_r10, hat, hwN, ints_len, (show IntKind.i64.wrap 1 = 1 by decide), (show IntKind.i64.wrap 2 = 2 by decide), atM_set base ((T).take i) 2 w rfl, (show (T).take i ++ [(w : Int)] = (T).take (i + 1) by rw [List.take_add_one, hx]; rfl)]
            refine hKY _ ?_
            repeat (first | refine hn20 _ ?_ | refine he20 _ _ ?_ | refine hr20 _ ?_ | refine hn19 _ ?_ | refine he19 _ ?_ | refine hf19 _ _ (by decide) ?_ | refine hr19 _ ?_ | refine hn18 _ ?_ | refine he18 _ _ ?_ | refine hr18 _ ?_ | refine hn17 _ ?_ | refine he17 _ _ ?_ | refine hr17 _ ?_ | refine he16 _ _ ?_ | refine hr16 _ ?_ | refine hn15 _ ?_ | refine he15 _ ?_ | refine hf15 _ _ (by decide) ?_ | refine hr15 _ ?_ | refine hn14 _ ?_ | refine he14 _ ?_ | refine hf14 _ _ (by decide) ?_ | refine hr14 _ ?_ | refine hn13 _ ?_ | refine he13 _ _ ?_ | refine hr13 _ ?_ | refine hn4 _ ?_ | refine he4 _ _ ?_ | refine hr4 _ ?_ | refine he3 _ _ ?_ | refine hr3 _ ?_ | refine hn2 _ ?_ | refine he2 _ ?_ | refine hf2 _ _ (by decide) ?_ | refine hr2 _ ?_ | refine hn1 _ ?_ | refine he1 _ _ ?_ | refine hr1 _ ?_)
            refine wlk_reg fun KY hKY => ?_
            simp only [go_sem, reduceIte, Nat.reduceEqDiff, Nat.reduceBEq, reduceCtorEq, Nat.reduceLT, Nat.reduceLeDiff, Nat.reduceAdd, Nat.reduceSub, Nat.reduceMul, Nat.reduceDiv, Int.reduceAdd, Int.reduceNeg, Int.reduceEq, Int.reduceLT, Int.reduceLE, c_tutte_placed_r11, incS (show i < 4611686018427387904 by omega)]
            refine hKY _ ?_
            repeat (first | refine hn20 _ ?_ | refine he20 _ _ ?_ | refine hr20 _ ?_ | refine hn19 _ ?_ | refine he19 _ ?_ | refine hf19 _ _ (by decide) ?_ | refine hr19 _ ?_ | refine hn18 _ ?_ | refine he18 _ _ ?_ | refine hr18 _ ?_ | refine hn17 _ ?_ | refine he17 _ _ ?_ | refine hr17 _ ?_ | refine he16 _ _ ?_ | refine hr16 _ ?_ | refine hn15 _ ?_ | refine he15 _ ?_ | refine hf15 _ _ (by decide) ?_ | refine hr15 _ ?_ | refine hn14 _ ?_ | refine he14 _ ?_ | refine hf14 _ _ (by decide) ?_ | refine hr14 _ ?_ | refine hn13 _ ?_ | refine he13 _ _ ?_ | refine hr13 _ ?_ | refine hn4 _ ?_ | refine he4 _ _ ?_ | refine hr4 _ ?_ | refine he3 _ _ ?_ | refine hr3 _ ?_ | refine hn2 _ ?_ | refine he2 _ ?_ | refine hf2 _ _ (by decide) ?_ | refine hr2 _ ?_ | refine hn1 _ ?_ | refine he1 _ _ ?_ | refine hr1 _ ?_)
            refine hn16 _ (i + 1) ((T).length - (i + 1)) (by omega) (by first | (simp only [go_sem, reduceIte, Nat.reduceEqDiff, Nat.reduceBEq, reduceCtorEq, Nat.reduceLT, Nat.reduceLeDiff, Nat.reduceAdd, Nat.reduceSub, Nat.reduceMul, Nat.reduceDiv, Int.reduceAdd, Int.reduceNeg, Int.reduceEq, Int.reduceLT, Int.reduceLE, updAll_cons, updAll_nil]; done) | with_reducible rfl) ?_
            refine ⟨hi2, rfl, hup, fun x hx2 => ?_⟩
            rw [List.take_add_one, hx] at hx2
            rcases List.mem_append.1 hx2 with h | h
            · exact hfree x h
            · simp at h; rw [show x = w by omega]; exact h4
        · have d3 : decide (0 < (i : Int)) = false := decide_eq_false (by omega)
          have hup := up_snoc hu hx (by omega) (by omega) h3 (fun h => absurd h h5)
          refine wlk_sreg fun KY hKY => ?_
          simp only [go_sem, reduceIte, Nat.reduceEqDiff, Nat.reduceBEq, reduceCtorEq, Nat.reduceLT, Nat.reduceLeDiff, Nat.reduceAdd, Nat.reduceSub, Nat.reduceMul, Nat.reduceDiv, Int.reduceAdd, Int.reduceNeg, Int.reduceEq, Int.reduceLT, Int.reduceLE, c_tutte_placed_r8, d1, d2, hg, ints_len, hat, hwN, d3]
          refine hKY _ ?_
          refine wlk_cond0 (by first | rfl | (simp only [go_sem, reduceIte, Nat.reduceEqDiff, Nat.reduceBEq, reduceCtorEq, Nat.reduceLT, Nat.reduceLeDiff, Nat.reduceAdd, Nat.reduceSub, Nat.reduceMul, Nat.reduceDiv, Int.reduceAdd, Int.reduceNeg, Int.reduceEq, Int.reduceLT, Int.reduceLE]; try simp (disch := omega) only [decide_eq_true, decide_eq_false])) ?_
          refine wlk_skip ?_
          repeat (first | refine hn20 _ ?_ | refine he20 _ _ ?_ | refine hr20 _ ?_ | refine hn19 _ ?_ | refine he19 _ ?_ | refine hf19 _ _ (by decide) ?_ | refine hr19 _ ?_ | refine hn18 _ ?_ | refine he18 _ _ ?_ | refine hr18 _ ?_ | refine hn17 _ ?_ | refine he17 _ _ ?_ | refine hr17 _ ?_ | refine he16 _ _ ?_ | refine hr16 _ ?_ | refine hn15 _ ?_ | refine he15 _ ?_ | refine hf15 _ _ (by decide) ?_ | refine hr15 _ ?_ | refine hn14 _ ?_ | refine he14 _ ?_ | refine hf14 _ _ (by decide) ?_ | refine hr14 _ ?_ | refine hn13 _ ?_ | refine he13 _ _ ?_ | refine hr13 _ ?_ | refine hn4 _ ?_ | refine he4 _ _ ?_ | refine hr4 _ ?_ | refine he3 _ _ ?_ | refine hr3 _ ?_ | refine hn2 _ ?_ | refine he2 _ ?_ | refine hf2 _ _ (by decide) ?_ | refine hr2 _ ?_ | refine hn1 _ ?_ | refine he1 _ _ ?_ | refine hr1 _ ?_)
          refine wlk_reg fun KY hKY => ?_
          simp only [go_sem, reduceIte, Nat.reduceEqDiff, Nat.reduceBEq, reduceCtorEq, Nat.reduceLT, Nat.reduceLeDiff, Nat.reduceAdd, Nat.reduceSub, Nat.reduceMul, Nat.reduceDiv, Int.reduceAdd, Int.reduceNeg, Int.reduceEq, Int.reduceLT, Int.reduceLE, c_tutte_placed_r10, hat, hwN, ints_len, (show IntKind.i64.wrap 1 = 1 by decide), (show IntKind.i64.wrap 2 = 2 by decide), atM_set base ((T).take i) 2 w rfl, (show (T).take i ++ [(w : Int)] = (T).take (i + 1) by rw [List.take_add_one, hx]; rfl)]
          refine hKY _ ?_
          repeat (first | refine hn20 _ ?_ | refine he20 _ _ ?_ | refine hr20 _ ?_ | refine hn19 _ ?_ | refine he19 _ ?_ | refine hf19 _ _ (by decide) ?_ | refine hr19 _ ?_ | refine hn18 _ ?_ | refine he18 _ _ ?_ | refine hr18 _ ?_ | refine hn17 _ ?_ | refine he17 _ _ ?_ | refine hr17 _ ?_ | refine he16 _ _ ?_ | refine hr16 _ ?_ | refine hn15 _ ?_ | refine he15 _ ?_ | refine hf15 _ _ (by decide) ?_ | refine hr15 _ ?_ | refine hn14 _ ?_ | refine he14 _ ?_ | refine hf14 _ _ (by decide) ?_ | refine hr14 _ ?_ | refine hn13 _ ?_ | refine he13 _ _ ?_ | refine hr13 _ ?_ | refine hn4 _ ?_ | refine he4 _ _ ?_ | refine hr4 _ ?_ | refine he3 _ _ ?_ | refine hr3 _ ?_ | refine hn2 _ ?_ | refine he2 _ ?_ | refine hf2 _ _ (by decide) ?_ | refine hr2 _ ?_ | refine hn1 _ ?_ | refine he1 _ _ ?_ | refine hr1 _ ?_)
          refine wlk_reg fun KY hKY => ?_
          simp only [go_sem, reduceIte, Nat.reduceEqDiff, Nat.reduceBEq, reduceCtorEq, Nat.reduceLT, Nat.reduceLeDiff, Nat.reduceAdd, Nat.reduceSub, Nat.reduceMul, Nat.reduceDiv, Int.reduceAdd, Int.reduceNeg, Int.reduceEq, Int.reduceLT, Int.reduceLE, c_tutte_placed_r11, incS (show i < 4611686018427387904 by omega)]
          refine hKY _ ?_
          repeat (first | refine hn20 _ ?_ | refine he20 _ _ ?_ | refine hr20 _ ?_ | refine hn19 _ ?_ | refine he19 _ ?_ | refine hf19 _ _ (by decide) ?_ | refine hr19 _ ?_ | refine hn18 _ ?_ | refine he18 _ _ ?_ | refine hr18 _ ?_ | refine hn17 _ ?_ | refine he17 _ _ ?_ | refine hr17 _ ?_ | refine he16 _ _ ?_ | refine hr16 _ ?_ | refine hn15 _ ?_ | refine he15 _ ?_ | refine hf15 _ _ (by decide) ?_ | refine hr15 _ ?_ | refine hn14 _ ?_ | refine he14 _ ?_ | refine hf14 _ _ (by decide) ?_ | refine hr14 _ ?_ | refine hn13 _ ?_ | refine he13 _ _ ?_ | refine hr13 _ ?_ | refine hn4 _ ?_ | refine he4 _ _ ?_ | refine hr4 _ ?_ | refine he3 _ _ ?_ | refine hr3 _ ?_ | refine hn2 _ ?_ | refine he2 _ ?_ | refine hf2 _ _ (by decide) ?_ | refine hr2 _ ?_ | refine hn1 _ ?_ | refine he1 _ _ ?_ | refine hr1 _ ?_)
          refine hn16 _ (i + 1) ((T).length - (i + 1)) (by omega) (by first | (simp only [go_sem, reduceIte, Nat.reduceEqDiff, Nat.reduceBEq, reduceCtorEq, Nat.reduceLT, Nat.reduceLeDiff, Nat.reduceAdd, Nat.reduceSub, Nat.reduceMul, Nat.reduceDiv, Int.reduceAdd, Int.reduceNeg, Int.reduceEq, Int.reduceLT, Int.reduceLE, updAll_cons, updAll_nil]; done) | with_reducible rfl) ?_
          refine ⟨hi2, rfl, hup, fun x hx2 => ?_⟩
          rw [List.take_add_one, hx] at hx2
          rcases List.mem_append.1 hx2 with h | h
          · exact hfree x h
          · simp at h; rw [show x = w by omega]; exact h4
      · have hf : okPB N S T = false := by rw [Bool.eq_false_iff]; intro h; exact h4 ((hgood h).2 w rfl)
        refine wlk_sreg fun KY hKY => ?_
        simp only [go_sem, reduceIte, Nat.reduceEqDiff, Nat.reduceBEq, reduceCtorEq, Nat.reduceLT, Nat.reduceLeDiff, Nat.reduceAdd, Nat.reduceSub, Nat.reduceMul, Nat.reduceDiv, Int.reduceAdd, Int.reduceNeg, Int.reduceEq, Int.reduceLT, Int.reduceLE, c_tutte_placed_r8, d1, d2, hg, ints_len, hat, hwN, (show decide (base w ≠ 0) = true from decide_eq_true h4)]
        refine hKY _ ?_
        refine wlk_cond1 (by first | rfl | (simp only [go_sem, reduceIte, Nat.reduceEqDiff, Nat.reduceBEq, reduceCtorEq, Nat.reduceLT, Nat.reduceLeDiff, Nat.reduceAdd, Nat.reduceSub, Nat.reduceMul, Nat.reduceDiv, Int.reduceAdd, Int.reduceNeg, Int.reduceEq, Int.reduceLT, Int.reduceLE]; try simp (disch := omega) only [decide_eq_true, decide_eq_false])) ?_
        refine wlk_sreg fun KY hKY => ?_
        simp only [go_sem, reduceIte, Nat.reduceEqDiff, Nat.reduceBEq, reduceCtorEq, Nat.reduceLT, Nat.reduceLeDiff, Nat.reduceAdd, Nat.reduceSub, Nat.reduceMul, Nat.reduceDiv, Int.reduceAdd, Int.reduceNeg, Int.reduceEq, Int.reduceLT, Int.reduceLE, c_tutte_placed_r9]
        refine hKY _ ?_
        refine wlk_ret ?_
        repeat (first | refine hn20 _ ?_ | refine he20 _ _ ?_ | refine hr20 _ ?_ | refine hn19 _ ?_ | refine he19 _ ?_ | refine hf19 _ _ (by decide) ?_ | refine hr19 _ ?_ | refine hn18 _ ?_ | refine he18 _ _ ?_ | refine hr18 _ ?_ | refine hn17 _ ?_ | refine he17 _ _ ?_ | refine hr17 _ ?_ | refine he16 _ _ ?_ | refine hr16 _ ?_ | refine hn15 _ ?_ | refine he15 _ ?_ | refine hf15 _ _ (by decide) ?_ | refine hr15 _ ?_ | refine hn14 _ ?_ | refine he14 _ ?_ | refine hf14 _ _ (by decide) ?_ | refine hr14 _ ?_ | refine hn13 _ ?_ | refine he13 _ _ ?_ | refine hr13 _ ?_ | refine hn4 _ ?_ | refine he4 _ _ ?_ | refine hr4 _ ?_ | refine he3 _ _ ?_ | refine hr3 _ ?_ | refine hn2 _ ?_ | refine he2 _ ?_ | refine hf2 _ _ (by decide) ?_ | refine hr2 _ ?_ | refine hn1 _ ?_ | refine he1 _ _ ?_ | refine hr1 _ ?_)
        simp only [go_sem, reduceIte, Nat.reduceEqDiff, Nat.reduceBEq, reduceCtorEq, Nat.reduceLT, Nat.reduceLeDiff, Nat.reduceAdd, Nat.reduceSub, Nat.reduceMul, Nat.reduceDiv, Int.reduceAdd, Int.reduceNeg, Int.reduceEq, Int.reduceLT, Int.reduceLE, hf, cond_false]
    · refine wlk_cond0 (by first | rfl | (simp only [go_sem, reduceIte, Nat.reduceEqDiff, Nat.reduceBEq, reduceCtorEq, Nat.reduceLT, Nat.reduceLeDiff, Nat.reduceAdd, Nat.reduceSub, Nat.reduceMul, Nat.reduceDiv, Int.reduceAdd, Int.reduceNeg, Int.reduceEq, Int.reduceLT, Int.reduceLE]; try simp (disch := omega) only [decide_eq_true, decide_eq_false])) ?_
      refine wlk_exit ?_
      repeat (first | refine hn17 _ ?_ | refine he17 _ _ ?_ | refine hr17 _ ?_ | refine he16 _ _ ?_ | refine hr16 _ ?_ | refine hn15 _ ?_ | refine he15 _ ?_ | refine hf15 _ _ (by decide) ?_ | refine hr15 _ ?_ | refine hn14 _ ?_ | refine he14 _ ?_ | refine hf14 _ _ (by decide) ?_ | refine hr14 _ ?_ | refine hn13 _ ?_ | refine he13 _ _ ?_ | refine hr13 _ ?_ | refine hn4 _ ?_ | refine he4 _ _ ?_ | refine hr4 _ ?_ | refine he3 _ _ ?_ | refine hr3 _ ?_ | refine hn2 _ ?_ | refine he2 _ ?_ | refine hf2 _ _ (by decide) ?_ | refine hr2 _ ?_ | refine hn1 _ ?_ | refine he1 _ _ ?_ | refine hr1 _ ?_)
      obtain rfl : i = (T).length := by omega
      rw [List.take_length] at hu hfree ⊢
      subst hb
      refine wlk_reg fun KY hKY => ?_
      simp only [go_sem, reduceIte, Nat.reduceEqDiff, Nat.reduceBEq, reduceCtorEq, Nat.reduceLT, Nat.reduceLeDiff, Nat.reduceAdd, Nat.reduceSub, Nat.reduceMul, Nat.reduceDiv, Int.reduceAdd, Int.reduceNeg, Int.reduceEq, Int.reduceLT, Int.reduceLE, c_tutte_placed_r12, (show IntKind.i64.wrap 1 = 1 by decide), (show IntKind.i64.wrap 2 = 2 by decide)]
      refine hKY _ ?_
      repeat (first | refine hn17 _ ?_ | refine he17 _ _ ?_ | refine hr17 _ ?_ | refine he16 _ _ ?_ | refine hr16 _ ?_ | refine hn15 _ ?_ | refine he15 _ ?_ | refine hf15 _ _ (by decide) ?_ | refine hr15 _ ?_ | refine hn14 _ ?_ | refine he14 _ ?_ | refine hf14 _ _ (by decide) ?_ | refine hr14 _ ?_ | refine hn13 _ ?_ | refine he13 _ _ ?_ | refine hr13 _ ?_ | refine hn4 _ ?_ | refine he4 _ _ ?_ | refine hr4 _ ?_ | refine he3 _ _ ?_ | refine hr3 _ ?_ | refine hn2 _ ?_ | refine he2 _ ?_ | refine hf2 _ _ (by decide) ?_ | refine hr2 _ ?_ | refine hn1 _ ?_ | refine he1 _ _ ?_ | refine hr1 _ ?_)
      refine hn3 _ (2) (2 - 2) (by omega) (by first | (simp only [go_sem, reduceIte, Nat.reduceEqDiff, Nat.reduceBEq, reduceCtorEq, Nat.reduceLT, Nat.reduceLeDiff, Nat.reduceAdd, Nat.reduceSub, Nat.reduceMul, Nat.reduceDiv, Int.reduceAdd, Int.reduceNeg, Int.reduceEq, Int.reduceLT, Int.reduceLE, updAll_cons, updAll_nil, (show ((2 : Nat) : Int) = 2 from rfl), cond_true, cond_false]; done) | with_reducible rfl) ?_
      refine ⟨by omega, rfl, fun _ => hSu, fun _ => ⟨hu, fun v hv hs => ?_⟩⟩
      have := hfree v hv
      simp only [hs, if_true] at this
      omega
  · obtain rfl : k = 2 := by omega
    refine wlk_cond0 (by first | rfl | (simp only [go_sem, reduceIte, Nat.reduceEqDiff, Nat.reduceBEq, reduceCtorEq, Nat.reduceLT, Nat.reduceLeDiff, Nat.reduceAdd, Nat.reduceSub, Nat.reduceMul, Nat.reduceDiv, Int.reduceAdd, Int.reduceNeg, Int.reduceEq, Int.reduceLT, Int.reduceLE]; try simp (disch := omega) only [decide_eq_true, decide_eq_false])) ?_
    refine wlk_exit ?_
    repeat (first | refine hn4 _ ?_ | refine he4 _ _ ?_ | refine hr4 _ ?_ | refine he3 _ _ ?_ | refine hr3 _ ?_ | refine hn2 _ ?_ | refine he2 _ ?_ | refine hf2 _ _ (by decide) ?_ | refine hr2 _ ?_ | refine hn1 _ ?_ | refine he1 _ _ ?_ | refine hr1 _ ?_)
    refine wlk_sreg fun KY hKY => ?_
    simp only [go_sem, reduceIte, Nat.reduceEqDiff, Nat.reduceBEq, reduceCtorEq, Nat.reduceLT, Nat.reduceLeDiff, Nat.reduceAdd, Nat.reduceSub, Nat.reduceMul, Nat.reduceDiv, Int.reduceAdd, Int.reduceNeg, Int.reduceEq, Int.reduceLT, Int.reduceLE, c_tutte_placed_r13]
    refine hKY _ ?_
    obtain ⟨hT2, hD⟩ := hB (by omega)
    have hf : okPB N S T = true := by
      unfold okPB
      rw [hA (by omega), hT2, Bool.true_and, Bool.true_and, List.all_eq_true]
      intro v hv
      rw [decide_eq_true_iff]
      intro ht
      have h0 : 0 ≤ v := by
        unfold upB at hT2
        rw [Bool.and_eq_true, List.all_eq_true] at hT2
        have := hT2.1 v ht
        simp at this; exact this.1
      have := hD v.toNat (by rw [show ((v.toNat : Nat) : Int) = v by omega]; exact ht)
      rw [show ((v.toNat : Nat) : Int) = v by omega] at this
      exact this hv
    have hAT : atM N (fun v => if (v : Int) ∈ S then 1 else 0) T 2 = atL N S T := by
      unfold atM atL
      refine List.map_congr_left fun v _ => ?_
      dsimp only
      by_cases h : (v : Int) ∈ T
      · rw [if_pos h, if_neg (hD v h), if_pos h]
      · rw [if_neg h]
        by_cases h' : (v : Int) ∈ S
        · rw [if_pos h', if_pos h']
        · rw [if_neg h', if_neg h', if_neg h]
    refine wlk_ret ?_
    repeat (first | refine hn4 _ ?_ | refine he4 _ _ ?_ | refine hr4 _ ?_ | refine he3 _ _ ?_ | refine hr3 _ ?_ | refine hn2 _ ?_ | refine he2 _ ?_ | refine hf2 _ _ (by decide) ?_ | refine hr2 _ ?_ | refine hn1 _ ?_ | refine he1 _ _ ?_ | refine hr1 _ ?_)
    simp only [go_sem, reduceIte, Nat.reduceEqDiff, Nat.reduceBEq, reduceCtorEq, Nat.reduceLT, Nat.reduceLeDiff, Nat.reduceAdd, Nat.reduceSub, Nat.reduceMul, Nat.reduceDiv, Int.reduceAdd, Int.reduceNeg, Int.reduceEq, Int.reduceLT, Int.reduceLE, hf, cond_true, hAT]
end Go.Proofs.Ytepjcfbigcfkfaa
set_option maxRecDepth 100000
set_option maxHeartbeats 2000000
namespace Go.Proofs.Ytepjcfbigcfkfaa
open Go Go.Ga Go.Ga.Gl
theorem grow_ok (n : Nat) (hn : n ≤ 10000000) : ACalls Try.prog [] n_slices_Grow___int_int_ [.sc (.slice none 0 0), .sc (.int .i64 (n : Int))] [] fun r h' => r = .own (some 1) [] ∧ h' = [] := by
  refine ACalls.seen (Q := fun r h' => (r = .sc (.slice none 0 0) ∨ r = .own (some 1) []) ∧ h' = []) ?_ ?_
  · refine go_slices_Grow___int_int_ rfl ?_
    unfold c_slices_Grow___int_int_ v_slices_Grow___int_int_
    refine wlk_sreg fun KY hKY => ?_
    simp only [go_sem, reduceIte, Nat.reduceEqDiff, Nat.reduceBEq, reduceCtorEq, Nat.reduceLT, Nat.reduceLeDiff, Nat.reduceAdd, Nat.reduceSub, Nat.reduceMul, Nat.reduceDiv, Int.reduceAdd, Int.reduceNeg, Int.reduceEq, Int.reduceLT, Int.reduceLE, c_slices_Grow___int_int__r0]
    refine hKY _ ?_
    refine wlk_seq fun X1 hn1 he1 hr1 => ?_
    refine wlk_sreg fun KY hKY => ?_
    simp only [go_sem, reduceIte, Nat.reduceEqDiff, Nat.reduceBEq, reduceCtorEq, Nat.reduceLT, Nat.reduceLeDiff, Nat.reduceAdd, Nat.reduceSub, Nat.reduceMul, Nat.reduceDiv, Int.reduceAdd, Int.reduceNeg, Int.reduceEq, Int.reduceLT, Int.reduceLE, c_slices_Grow___int_int__r1]
    refine hKY _ ?_
    refine wlk_cond0 (by first | rfl | (simp only [go_sem, reduceIte, Nat.reduceEqDiff, Nat.reduceBEq, reduceCtorEq, Nat.reduceLT, Nat.reduceLeDiff, Nat.reduceAdd, Nat.reduceSub, Nat.reduceMul, Nat.reduceDiv, Int.reduceAdd, Int.reduceNeg, Int.reduceEq, Int.reduceLT, Int.reduceLE]; try simp (disch := omega) only [decide_eq_true, decide_eq_false])) ?_
    refine wlk_skip ?_
    repeat (first | refine hn1 _ ?_ | refine he1 _ _ ?_ | refine hr1 _ ?_)
    refine wlk_seq fun X2 hn2 he2 hr2 => ?_
    have w1 : IntKind.i64.wrap ((n : Int) - IntKind.i64.wrap (0 - 0)) = (n : Int) := by rw [show IntKind.i64.wrap (0 - 0) = 0 by decide, IntWalk.i64_in _ (by omega)]; omega
    refine wlk_sreg fun KY hKY => ?_
    simp only [go_sem, reduceIte, Nat.reduceEqDiff, Nat.reduceBEq, reduceCtorEq, Nat.reduceLT, Nat.reduceLeDiff, Nat.reduceAdd, Nat.reduceSub, Nat.reduceMul, Nat.reduceDiv, Int.reduceAdd, Int.reduceNeg, Int.reduceEq, Int.reduceLT, Int.reduceLE, c_slices_Grow___int_int__r3, w1]
    refine hKY _ ?_
    refine wlk_sreg fun KY hKY => ?_
    simp only [go_sem, reduceIte, Nat.reduceEqDiff, Nat.reduceBEq, reduceCtorEq, Nat.reduceLT, Nat.reduceLeDiff, Nat.reduceAdd, Nat.reduceSub, Nat.reduceMul, Nat.reduceDiv, Int.reduceAdd, Int.reduceNeg, Int.reduceEq, Int.reduceLT, Int.reduceLE, c_slices_Grow___int_int__r4]
    refine hKY _ ?_
    by_cases h : 0 < n
    · refine wlk_cond1 (by first | rfl | (simp only [go_sem, reduceIte, Nat.reduceEqDiff, Nat.reduceBEq, reduceCtorEq, Nat.reduceLT, Nat.reduceLeDiff, Nat.reduceAdd, Nat.reduceSub, Nat.reduceMul, Nat.reduceDiv, Int.reduceAdd, Int.reduceNeg, Int.reduceEq, Int.reduceLT, Int.reduceLE]; try simp (disch := omega) only [decide_eq_true, decide_eq_false])) ?_
      refine wlk_reg fun KY hKY => ?_
      simp only [go_sem, reduceIte, Nat.reduceEqDiff, Nat.reduceBEq, reduceCtorEq, Nat.reduceLT, Nat.reduceLeDiff, Nat.reduceAdd, Nat.reduceSub, Nat.reduceMul, Nat.reduceDiv, Int.reduceAdd, Int.reduceNeg, Int.reduceEq, Int.reduceLT, Int.reduceLE, c_slices_Grow___int_int__r5, (show 0 < (n : Int) by omega), (show (n : Int) ≤ 9223372036854775807 by omega), (show 8 * n ≤ 140737488355328 by omega), Int.toNat_natCast]
      refine hKY _ ?_
      repeat (first | refine hn2 _ ?_ | refine he2 _ _ ?_ | refine hr2 _ ?_ | refine hn1 _ ?_ | refine he1 _ _ ?_ | refine hr1 _ ?_)
      refine wlk_sreg fun KY hKY => ?_
      simp only [go_sem, reduceIte, Nat.reduceEqDiff, Nat.reduceBEq, reduceCtorEq, Nat.reduceLT, Nat.reduceLeDiff, Nat.reduceAdd, Nat.reduceSub, Nat.reduceMul, Nat.reduceDiv, Int.reduceAdd, Int.reduceNeg, Int.reduceEq, Int.reduceLT, Int.reduceLE, c_slices_Grow___int_int__r6]
      refine hKY _ ?_
      refine wlk_ret ?_
      repeat (first | refine hn2 _ ?_ | refine he2 _ _ ?_ | refine hr2 _ ?_ | refine hn1 _ ?_ | refine he1 _ _ ?_ | refine hr1 _ ?_)
      simp only [go_sem, reduceIte, Nat.reduceEqDiff, Nat.reduceBEq, reduceCtorEq, Nat.reduceLT, Nat.reduceLeDiff, Nat.reduceAdd, Nat.reduceSub, Nat.reduceMul, Nat.reduceDiv, Int.reduceAdd, Int.reduceNeg, Int.reduceEq, Int.reduceLT, Int.reduceLE]
      exact .inr (by simp [cutCells])
    · refine wlk_cond0 (by first | rfl | (simp only [go_sem, reduceIte, Nat.reduceEqDiff, Nat.reduceBEq, reduceCtorEq, Nat.reduceLT, Nat.reduceLeDiff, Nat.reduceAdd, Nat.reduceSub, Nat.reduceMul, Nat.reduceDiv, Int.reduceAdd, Int.reduceNeg, Int.reduceEq, Int.reduceLT, Int.reduceLE]; try simp (disch := omega) only [decide_eq_true, decide_eq_false])) ?_
      refine wlk_skip ?_
      repeat (first | refine hn2 _ ?_ | refine he2 _ _ ?_ | refine hr2 _ ?_ | refine hn1 _ ?_ | refine he1 _ _ ?_ | refine hr1 _ ?_)
      refine wlk_sreg fun KY hKY => ?_
      simp only [go_sem, reduceIte, Nat.reduceEqDiff, Nat.reduceBEq, reduceCtorEq, Nat.reduceLT, Nat.reduceLeDiff, Nat.reduceAdd, Nat.reduceSub, Nat.reduceMul, Nat.reduceDiv, Int.reduceAdd, Int.reduceNeg, Int.reduceEq, Int.reduceLT, Int.reduceLE, c_slices_Grow___int_int__r6]
      refine hKY _ ?_
      refine wlk_ret ?_
      repeat (first | refine hn2 _ ?_ | refine he2 _ _ ?_ | refine hr2 _ ?_ | refine hn1 _ ?_ | refine he1 _ _ ?_ | refine hr1 _ ?_)
      simp only [go_sem, reduceIte, Nat.reduceEqDiff, Nat.reduceBEq, reduceCtorEq, Nat.reduceLT, Nat.reduceLeDiff, Nat.reduceAdd, Nat.reduceSub, Nat.reduceMul, Nat.reduceDiv, Int.reduceAdd, Int.reduceNeg, Int.reduceEq, Int.reduceLT, Int.reduceLE]
  · rintro r h' ⟨rfl | rfl, rfl⟩
    · exact ⟨_, Sees.own 1, rfl, rfl⟩
    · exact ⟨_, Sees.refl _, rfl, rfl⟩
theorem concat_ok (A B : List Int) (hA : A.length ≤ 1000000) (hB : B.length ≤ 1000000) : ACalls Try.prog [] n_slices_Concat___int_int_ [.imm 1 [.imm 1 (ints A), .imm 1 (ints B)]] [] fun r h' => r = .own (some 1) (ints (A ++ B)) ∧ h' = [] := by
  refine go_slices_Concat___int_int_ rfl ?_
  unfold c_slices_Concat___int_int_ v_slices_Concat___int_int_
  refine wlk_sreg fun KY hKY => ?_
  simp only [go_sem, reduceIte, Nat.reduceEqDiff, Nat.reduceBEq, reduceCtorEq, Nat.reduceLT, Nat.reduceLeDiff, Nat.reduceAdd, Nat.reduceSub, Nat.reduceMul, Nat.reduceDiv, Int.reduceAdd, Int.reduceNeg, Int.reduceEq, Int.reduceLT, Int.reduceLE, c_slices_Concat___int_int__r0]
  refine hKY _ ?_
  refine wlk_sreg fun KY hKY => ?_
  simp only [go_sem, reduceIte, Nat.reduceEqDiff, Nat.reduceBEq, reduceCtorEq, Nat.reduceLT, Nat.reduceLeDiff, Nat.reduceAdd, Nat.reduceSub, Nat.reduceMul, Nat.reduceDiv, Int.reduceAdd, Int.reduceNeg, Int.reduceEq, Int.reduceLT, Int.reduceLE, c_slices_Concat___int_int__r1]
  refine hKY _ ?_
  refine wlk_seq fun X1 hn1 he1 hr1 => ?_
  refine wlk_sreg fun KY hKY => ?_
  simp only [go_sem, reduceIte, Nat.reduceEqDiff, Nat.reduceBEq, reduceCtorEq, Nat.reduceLT, Nat.reduceLeDiff, Nat.reduceAdd, Nat.reduceSub, Nat.reduceMul, Nat.reduceDiv, Int.reduceAdd, Int.reduceNeg, Int.reduceEq, Int.reduceLT, Int.reduceLE, c_slices_Concat___int_int__r2]
  refine hKY _ ?_
  refine wlk_blk fun X2 hn2 he2 hf2 hr2 => ?_
  try simp only [go_sem, reduceIte, Nat.reduceEqDiff, Nat.reduceBEq, reduceCtorEq, Nat.reduceLT, Nat.reduceLeDiff, Nat.reduceAdd, Nat.reduceSub, Nat.reduceMul, Nat.reduceDiv, Int.reduceAdd, Int.reduceNeg, Int.reduceEq, Int.reduceLT, Int.reduceLE]
  refine wlk_lp (α := Nat) [5, 12, 20] (fun k => [(3, .sc (.int .i64 (bif k == 0 then 0 else bif k == 1 then (A.length : Int) else ((A.length + B.length : Nat) : Int)))), (11, .sc (.int .i64 (k : Int)))]) (fun k => []) (fun k q => k ≤ 2 ∧ q = 2 - k) (0) (2) rfl (by first | (simp only [go_sem, reduceIte, Nat.reduceEqDiff, Nat.reduceBEq, reduceCtorEq, Nat.reduceLT, Nat.reduceLeDiff, Nat.reduceAdd, Nat.reduceSub, Nat.reduceMul, Nat.reduceDiv, Int.reduceAdd, Int.reduceNeg, Int.reduceEq, Int.reduceLT, Int.reduceLE, updAll_cons, updAll_nil]; done) | with_reducible rfl | rfl) (⟨by omega, rfl⟩) ?_
  rintro k q ⟨hk, rfl⟩ X3 hn3 he3 hr3
  simp only [go_sem, reduceIte, Nat.reduceEqDiff, Nat.reduceBEq, reduceCtorEq, Nat.reduceLT, Nat.reduceLeDiff, Nat.reduceAdd, Nat.reduceSub, Nat.reduceMul, Nat.reduceDiv, Int.reduceAdd, Int.reduceNeg, Int.reduceEq, Int.reduceLT, Int.reduceLE, updAll_cons, updAll_nil]
  refine wlk_sreg fun KY hKY => ?_
  simp only [go_sem, reduceIte, Nat.reduceEqDiff, Nat.reduceBEq, reduceCtorEq, Nat.reduceLT, Nat.reduceLeDiff, Nat.reduceAdd, Nat.reduceSub, Nat.reduceMul, Nat.reduceDiv, Int.reduceAdd, Int.reduceNeg, Int.reduceEq, Int.reduceLT, Int.reduceLE, c_slices_Concat___int_int__r3]
  refine hKY _ ?_
  refine wlk_seq fun X4 hn4 he4 hr4 => ?_
  have w2 : IntKind.i64.wrap ((A.length : Int) + (B.length : Int)) = ((A.length + B.length : Nat) : Int) := by rw [IntWalk.i64_in _ (by omega)]; omega
  have w1 : IntKind.i64.wrap (0 + (A.length : Int)) = (A.length : Int) := by rw [IntWalk.i64_in _ (by omega)]; omega
  by_cases hk0 : k = 0
  · subst hk0
    refine wlk_cond1 (by first | rfl | (simp only [go_sem, reduceIte, Nat.reduceEqDiff, Nat.reduceBEq, reduceCtorEq, Nat.reduceLT, Nat.reduceLeDiff, Nat.reduceAdd, Nat.reduceSub, Nat.reduceMul, Nat.reduceDiv, Int.reduceAdd, Int.reduceNeg, Int.reduceEq, Int.reduceLT, Int.reduceLE]; try simp (disch := omega) only [decide_eq_true, decide_eq_false])) ?_
    refine wlk_skip ?_
    repeat (first | refine hn4 _ ?_ | refine he4 _ _ ?_ | refine hr4 _ ?_ | refine he3 _ _ ?_ | refine hr3 _ ?_ | refine hn2 _ ?_ | refine he2 _ ?_ | refine hf2 _ _ (by decide) ?_ | refine hr2 _ ?_ | refine hn1 _ ?_ | refine he1 _ _ ?_ | refine hr1 _ ?_)
    refine wlk_seq fun X5 hn5 he5 hr5 => ?_
    refine wlk_blk fun X6 hn6 he6 hf6 hr6 => ?_
    refine wlk_sreg fun KY hKY => ?_
    simp only [go_sem, reduceIte, Nat.reduceEqDiff, Nat.reduceBEq, reduceCtorEq, Nat.reduceLT, Nat.reduceLeDiff, Nat.reduceAdd, Nat.reduceSub, Nat.reduceMul, Nat.reduceDiv, Int.reduceAdd, Int.reduceNeg, Int.reduceEq, Int.reduceLT, Int.reduceLE, c_slices_Concat___int_int__r4]
    refine hKY _ ?_
    refine wlk_sreg fun KY hKY => ?_
    simp only [go_sem, reduceIte, Nat.reduceEqDiff, Nat.reduceBEq, reduceCtorEq, Nat.reduceLT, Nat.reduceLeDiff, Nat.reduceAdd, Nat.reduceSub, Nat.reduceMul, Nat.reduceDiv, Int.reduceAdd, Int.reduceNeg, Int.reduceEq, Int.reduceLT, Int.reduceLE, c_slices_Concat___int_int__r5, w1, ints_len]
    refine hKY _ ?_
    refine wlk_sreg fun KY hKY => ?_
    simp only [go_sem, reduceIte, Nat.reduceEqDiff, Nat.reduceBEq, reduceCtorEq, Nat.reduceLT, Nat.reduceLeDiff, Nat.reduceAdd, Nat.reduceSub, Nat.reduceMul, Nat.reduceDiv, Int.reduceAdd, Int.reduceNeg, Int.reduceEq, Int.reduceLT, Int.reduceLE, c_slices_Concat___int_int__r6, (show decide ((A.length : Int) < 0) = false from decide_eq_false (by omega))]
    refine hKY _ ?_
    refine wlk_cond0 (by first | rfl | (simp only [go_sem, reduceIte, Nat.reduceEqDiff, Nat.reduceBEq, reduceCtorEq, Nat.reduceLT, Nat.reduceLeDiff, Nat.reduceAdd, Nat.reduceSub, Nat.reduceMul, Nat.reduceDiv, Int.reduceAdd, Int.reduceNeg, Int.reduceEq, Int.reduceLT, Int.reduceLE]; try simp (disch := omega) only [decide_eq_true, decide_eq_false])) ?_
    refine wlk_skip ?_
    repeat (first | refine hn6 _ ?_ | refine he6 _ ?_ | refine hf6 _ _ (by decide) ?_ | refine hr6 _ ?_ | refine hn5 _ ?_ | refine he5 _ _ ?_ | refine hr5 _ ?_ | refine hn4 _ ?_ | refine he4 _ _ ?_ | refine hr4 _ ?_ | refine he3 _ _ ?_ | refine hr3 _ ?_ | refine hn2 _ ?_ | refine he2 _ ?_ | refine hf2 _ _ (by decide) ?_ | refine hr2 _ ?_ | refine hn1 _ ?_ | refine he1 _ _ ?_ | refine hr1 _ ?_)
    refine wlk_reg fun KY hKY => ?_
    simp only [go_sem, reduceIte, Nat.reduceEqDiff, Nat.reduceBEq, reduceCtorEq, Nat.reduceLT, Nat.reduceLeDiff, Nat.reduceAdd, Nat.reduceSub, Nat.reduceMul, Nat.reduceDiv, Int.reduceAdd, Int.reduceNeg, Int.reduceEq, Int.reduceLT, Int.reduceLE, c_slices_Concat___int_int__r8, (show IntKind.i64.wrap 1 = 1 by decide)]
    refine hKY _ ?_
    repeat (first | refine hn6 _ ?_ | refine he6 _ ?_ | refine hf6 _ _ (by decide) ?_ | refine hr6 _ ?_ | refine hn5 _ ?_ | refine he5 _ _ ?_ | refine hr5 _ ?_ | refine hn4 _ ?_ | refine he4 _ _ ?_ | refine hr4 _ ?_ | refine he3 _ _ ?_ | refine hr3 _ ?_ | refine hn2 _ ?_ | refine he2 _ ?_ | refine hf2 _ _ (by decide) ?_ | refine hr2 _ ?_ | refine hn1 _ ?_ | refine he1 _ _ ?_ | refine hr1 _ ?_)
    refine hn3 _ (1) (2 - 1) (by omega) (by first | (simp only [go_sem, reduceIte, Nat.reduceEqDiff, Nat.reduceBEq, reduceCtorEq, Nat.reduceLT, Nat.reduceLeDiff, Nat.reduceAdd, Nat.reduceSub, Nat.reduceMul, Nat.reduceDiv, Int.reduceAdd, Int.reduceNeg, Int.reduceEq, Int.reduceLT, Int.reduceLE, updAll_cons, updAll_nil, (show ((1 : Nat) : Int) = 1 from rfl), cond_true, cond_false]; done) | with_reducible rfl) ?_
    exact ⟨by omega, rfl⟩
  by_cases hk1 : k = 1
  · subst hk1
    refine wlk_cond1 (by first | rfl | (simp only [go_sem, reduceIte, Nat.reduceEqDiff, Nat.reduceBEq, reduceCtorEq, Nat.reduceLT, Nat.reduceLeDiff, Nat.reduceAdd, Nat.reduceSub, Nat.reduceMul, Nat.reduceDiv, Int.reduceAdd, Int.reduceNeg, Int.reduceEq, Int.reduceLT, Int.reduceLE]; try simp (disch := omega) only [decide_eq_true, decide_eq_false])) ?_
    refine wlk_skip ?_
    repeat (first | refine hn4 _ ?_ | refine he4 _ _ ?_ | refine hr4 _ ?_ | refine he3 _ _ ?_ | refine hr3 _ ?_ | refine hn2 _ ?_ | refine he2 _ ?_ | refine hf2 _ _ (by decide) ?_ | refine hr2 _ ?_ | refine hn1 _ ?_ | refine he1 _ _ ?_ | refine hr1 _ ?_)
    refine wlk_seq fun X7 hn7 he7 hr7 => ?_
    refine wlk_blk fun X8 hn8 he8 hf8 hr8 => ?_
    refine wlk_sreg fun KY hKY => ?_
    simp only [go_sem, reduceIte, Nat.reduceEqDiff, Nat.reduceBEq, reduceCtorEq, Nat.reduceLT, Nat.reduceLeDiff, Nat.reduceAdd, Nat.reduceSub, Nat.reduceMul, Nat.reduceDiv, Int.reduceAdd, Int.reduceNeg, Int.reduceEq, Int.reduceLT, Int.reduceLE, c_slices_Concat___int_int__r4]
    refine hKY _ ?_
    refine wlk_sreg fun KY hKY => ?_
    simp only [go_sem, reduceIte, Nat.reduceEqDiff, Nat.reduceBEq, reduceCtorEq, Nat.reduceLT, Nat.reduceLeDiff, Nat.reduceAdd, Nat.reduceSub, Nat.reduceMul, Nat.reduceDiv, Int.reduceAdd, Int.reduceNeg, Int.reduceEq, Int.reduceLT, Int.reduceLE, c_slices_Concat___int_int__r5, w2, ints_len]
    refine hKY _ ?_
    refine wlk_sreg fun KY hKY => ?_
    simp only [go_sem, reduceIte, Nat.reduceEqDiff, Nat.reduceBEq, reduceCtorEq, Nat.reduceLT, Nat.reduceLeDiff, Nat.reduceAdd, Nat.reduceSub, Nat.reduceMul, Nat.reduceDiv, Int.reduceAdd, Int.reduceNeg, Int.reduceEq, Int.reduceLT, Int.reduceLE, c_slices_Concat___int_int__r6, (show decide (((A.length + B.length : Nat) : Int) < 0) = false from decide_eq_false (by omega))]
    refine hKY _ ?_
    refine wlk_cond0 (by first | rfl | (simp only [go_sem, reduceIte, Nat.reduceEqDiff, Nat.reduceBEq, reduceCtorEq, Nat.reduceLT, Nat.reduceLeDiff, Nat.reduceAdd, Nat.reduceSub, Nat.reduceMul, Nat.reduceDiv, Int.reduceAdd, Int.reduceNeg, Int.reduceEq, Int.reduceLT, Int.reduceLE]; try simp (disch := omega) only [decide_eq_true, decide_eq_false])) ?_
    refine wlk_skip ?_
    repeat (first | refine hn8 _ ?_ | refine he8 _ ?_ | refine hf8 _ _ (by decide) ?_ | refine hr8 _ ?_ | refine hn7 _ ?_ | refine he7 _ _ ?_ | refine hr7 _ ?_ | refine hn4 _ ?_ | refine he4 _ _ ?_ | refine hr4 _ ?_ | refine he3 _ _ ?_ | refine hr3 _ ?_ | refine hn2 _ ?_ | refine he2 _ ?_ | refine hf2 _ _ (by decide) ?_ | refine hr2 _ ?_ | refine hn1 _ ?_ | refine he1 _ _ ?_ | refine hr1 _ ?_)
    refine wlk_reg fun KY hKY => ?_
    simp only [go_sem, reduceIte, Nat.reduceEqDiff, Nat.reduceBEq, reduceCtorEq, Nat.reduceLT, Nat.reduceLeDiff, Nat.reduceAdd, Nat.reduceSub, Nat.reduceMul, Nat.reduceDiv, Int.reduceAdd, Int.reduceNeg, Int.reduceEq, Int.reduceLT, Int.reduceLE, c_slices_Concat___int_int__r8, (show IntKind.i64.wrap 2 = 2 by decide)]
    refine hKY _ ?_
    repeat (first | refine hn8 _ ?_ | refine he8 _ ?_ | refine hf8 _ _ (by decide) ?_ | refine hr8 _ ?_ | refine hn7 _ ?_ | refine he7 _ _ ?_ | refine hr7 _ ?_ | refine hn4 _ ?_ | refine he4 _ _ ?_ | refine hr4 _ ?_ | refine he3 _ _ ?_ | refine hr3 _ ?_ | refine hn2 _ ?_ | refine he2 _ ?_ | refine hf2 _ _ (by decide) ?_ | refine hr2 _ ?_ | refine hn1 _ ?_ | refine he1 _ _ ?_ | refine hr1 _ ?_)
    refine hn3 _ (2) (2 - 2) (by omega) (by first | (simp only [go_sem, reduceIte, Nat.reduceEqDiff, Nat.reduceBEq, reduceCtorEq, Nat.reduceLT, Nat.reduceLeDiff, Nat.reduceAdd, Nat.reduceSub, Nat.reduceMul, Nat.reduceDiv, Int.reduceAdd, Int.reduceNeg, Int.reduceEq, Int.reduceLT, Int.reduceLE, updAll_cons, updAll_nil, (show ((2 : Nat) : Int) = 2 from rfl), cond_true, cond_false]; done) | with_reducible rfl) ?_
    exact ⟨by omega, rfl⟩
  · obtain rfl : k = 2 := by omega
    refine wlk_cond0 (by first | rfl | (simp only [go_sem, reduceIte, Nat.reduceEqDiff, Nat.reduceBEq, reduceCtorEq, Nat.reduceLT, Nat.reduceLeDiff, Nat.reduceAdd, Nat.reduceSub, Nat.reduceMul, Nat.reduceDiv, Int.reduceAdd, Int.reduceNeg, Int.reduceEq, Int.reduceLT, Int.reduceLE]; try simp (disch := omega) only [decide_eq_true, decide_eq_false])) ?_
    refine wlk_exit ?_
    repeat (first | refine hn4 _ ?_ | refine he4 _ _ ?_ | refine hr4 _ ?_ | refine he3 _ _ ?_ | refine hr3 _ ?_ | refine hn2 _ ?_ | refine he2 _ ?_ | refine hf2 _ _ (by decide) ?_ | refine hr2 _ ?_ | refine hn1 _ ?_ | refine he1 _ _ ?_ | refine hr1 _ ?_)
    have hgr := grow_ok (A.length + B.length) (by omega)
    refine wlk_sreg fun KY hKY => ?_
    simp only [go_sem, reduceIte, Nat.reduceEqDiff, Nat.reduceBEq, reduceCtorEq, Nat.reduceLT, Nat.reduceLeDiff, Nat.reduceAdd, Nat.reduceSub, Nat.reduceMul, Nat.reduceDiv, Int.reduceAdd, Int.reduceNeg, Int.reduceEq, Int.reduceLT, Int.reduceLE, c_slices_Concat___int_int__r9]
    refine call_view rfl (by simp only [go_sem, reduceIte, Nat.reduceEqDiff, Nat.reduceBEq, reduceCtorEq, Nat.reduceLT, Nat.reduceLeDiff, Nat.reduceAdd, Nat.reduceSub, Nat.reduceMul, Nat.reduceDiv, Int.reduceAdd, Int.reduceNeg, Int.reduceEq, Int.reduceLT, Int.reduceLE] <;> rfl) ((hgr).mono ?_)
    rintro rr hh ⟨rfl, rfl⟩
    refine ⟨rfl, rfl, rfl, ?_⟩
    simp only [go_sem, reduceIte, Nat.reduceEqDiff, Nat.reduceBEq, reduceCtorEq, Nat.reduceLT, Nat.reduceLeDiff, Nat.reduceAdd, Nat.reduceSub, Nat.reduceMul, Nat.reduceDiv, Int.reduceAdd, Int.reduceNeg, Int.reduceEq, Int.reduceLT, Int.reduceLE]
    refine hKY _ ?_
    refine wlk_seq fun X9 hn9 he9 hr9 => ?_
    refine wlk_sreg fun KY hKY => ?_
    simp only [go_sem, reduceIte, Nat.reduceEqDiff, Nat.reduceBEq, reduceCtorEq, Nat.reduceLT, Nat.reduceLeDiff, Nat.reduceAdd, Nat.reduceSub, Nat.reduceMul, Nat.reduceDiv, Int.reduceAdd, Int.reduceNeg, Int.reduceEq, Int.reduceLT, Int.reduceLE, c_slices_Concat___int_int__r10]
    refine hKY _ ?_
    refine wlk_blk fun X10 hn10 he10 hf10 hr10 => ?_
    try simp only [go_sem, reduceIte, Nat.reduceEqDiff, Nat.reduceBEq, reduceCtorEq, Nat.reduceLT, Nat.reduceLeDiff, Nat.reduceAdd, Nat.reduceSub, Nat.reduceMul, Nat.reduceDiv, Int.reduceAdd, Int.reduceNeg, Int.reduceEq, Int.reduceLT, Int.reduceLE]
    refine wlk_lp (α := Nat) [8, 28] (fun j => [(6, .own (some 1) (ints (bif j == 0 then [] else bif j == 1 then A else A ++ B))), (27, .sc (.int .i64 (j : Int)))]) (fun j => []) (fun j q => j ≤ 2 ∧ q = 2 - j) (0) (2) rfl (by first | (simp only [go_sem, reduceIte, Nat.reduceEqDiff, Nat.reduceBEq, reduceCtorEq, Nat.reduceLT, Nat.reduceLeDiff, Nat.reduceAdd, Nat.reduceSub, Nat.reduceMul, Nat.reduceDiv, Int.reduceAdd, Int.reduceNeg, Int.reduceEq, Int.reduceLT, Int.reduceLE, updAll_cons, updAll_nil]; done) | with_reducible rfl | rfl) (⟨by omega, rfl⟩) ?_
    rintro j q ⟨hj, rfl⟩ X11 hn11 he11 hr11
    simp only [go_sem, reduceIte, Nat.reduceEqDiff, Nat.reduceBEq, reduceCtorEq, Nat.reduceLT, Nat.reduceLeDiff, Nat.reduceAdd, Nat.reduceSub, Nat.reduceMul, Nat.reduceDiv, Int.reduceAdd, Int.reduceNeg, Int.reduceEq, Int.reduceLT, Int.reduceLE, updAll_cons, updAll_nil]
    refine wlk_sreg fun KY hKY => ?_
    simp only [go_sem, reduceIte, Nat.reduceEqDiff, Nat.reduceBEq, reduceCtorEq, Nat.reduceLT, Nat.reduceLeDiff, Nat.reduceAdd, Nat.reduceSub, Nat.reduceMul, Nat.reduceDiv, Int.reduceAdd, Int.reduceNeg, Int.reduceEq, Int.reduceLT, Int.reduceLE, c_slices_Concat___int_int__r11]
    refine hKY _ ?_
    refine wlk_seq fun X12 hn12 he12 hr12 => ?_
    by_cases hj0 : j = 0
    · subst hj0
      refine wlk_cond1 (by first | rfl | (simp only [go_sem, reduceIte, Nat.reduceEqDiff, Nat.reduceBEq, reduceCtorEq, Nat.reduceLT, Nat.reduceLeDiff, Nat.reduceAdd, Nat.reduceSub, Nat.reduceMul, Nat.reduceDiv, Int.reduceAdd, Int.reduceNeg, Int.reduceEq, Int.reduceLT, Int.reduceLE]; try simp (disch := omega) only [decide_eq_true, decide_eq_false])) ?_
      refine wlk_skip ?_
      repeat (first | refine hn12 _ ?_ | refine he12 _ _ ?_ | refine hr12 _ ?_ | refine he11 _ _ ?_ | refine hr11 _ ?_ | refine hn10 _ ?_ | refine he10 _ ?_ | refine hf10 _ _ (by decide) ?_ | refine hr10 _ ?_ | refine hn9 _ ?_ | refine he9 _ _ ?_ | refine hr9 _ ?_ | refine hn4 _ ?_ | refine he4 _ _ ?_ | refine hr4 _ ?_ | refine he3 _ _ ?_ | refine hr3 _ ?_ | refine hn2 _ ?_ | refine he2 _ ?_ | refine hf2 _ _ (by decide) ?_ | refine hr2 _ ?_ | refine hn1 _ ?_ | refine he1 _ _ ?_ | refine hr1 _ ?_)
      refine wlk_seq fun X13 hn13 he13 hr13 => ?_
      refine wlk_blk fun X14 hn14 he14 hf14 hr14 => ?_
      refine wlk_sreg fun KY hKY => ?_
      simp only [go_sem, reduceIte, Nat.reduceEqDiff, Nat.reduceBEq, reduceCtorEq, Nat.reduceLT, Nat.reduceLeDiff, Nat.reduceAdd, Nat.reduceSub, Nat.reduceMul, Nat.reduceDiv, Int.reduceAdd, Int.reduceNeg, Int.reduceEq, Int.reduceLT, Int.reduceLE, c_slices_Concat___int_int__r12]
      refine hKY _ ?_
      refine wlk_reg fun KY hKY => ?_
      simp only [go_sem, reduceIte, Nat.reduceEqDiff, Nat.reduceBEq, reduceCtorEq, Nat.reduceLT, Nat.reduceLeDiff, Nat.reduceAdd, Nat.reduceSub, Nat.reduceMul, Nat.reduceDiv, Int.reduceAdd, Int.reduceNeg, Int.reduceEq, Int.reduceLT, Int.reduceLE, c_slices_Concat___int_int__r13, (show A.length * 8 ≤ 140737488355328 by omega), ints_cellOk, (show ints [] ++ ints A = ints A from rfl)]
      refine hKY _ ?_
      repeat (first | refine hn14 _ ?_ | refine he14 _ ?_ | refine hf14 _ _ (by decide) ?_ | refine hr14 _ ?_ | refine hn13 _ ?_ | refine he13 _ _ ?_ | refine hr13 _ ?_ | refine hn12 _ ?_ | refine he12 _ _ ?_ | refine hr12 _ ?_ | refine he11 _ _ ?_ | refine hr11 _ ?_ | refine hn10 _ ?_ | refine he10 _ ?_ | refine hf10 _ _ (by decide) ?_ | refine hr10 _ ?_ | refine hn9 _ ?_ | refine he9 _ _ ?_ | refine hr9 _ ?_ | refine hn4 _ ?_ | refine he4 _ _ ?_ | refine hr4 _ ?_ | refine he3 _ _ ?_ | refine hr3 _ ?_ | refine hn2 _ ?_ | refine he2 _ ?_ | refine hf2 _ _ (by decide) ?_ | refine hr2 _ ?_ | refine hn1 _ ?_ | refine he1 _ _ ?_ | refine hr1 _ ?_)
      refine wlk_reg fun KY hKY => ?_
      simp only [go_sem, reduceIte, Nat.reduceEqDiff, Nat.reduceBEq, reduceCtorEq, Nat.reduceLT, Nat.reduceLeDiff, Nat.reduceAdd, Nat.reduceSub, Nat.reduceMul, Nat.reduceDiv, Int.reduceAdd, Int.reduceNeg, Int.reduceEq, Int.reduceLT, Int.reduceLE, c_slices_Concat___int_int__r14, (show IntKind.i64.wrap 1 = 1 by decide)]
      refine hKY _ ?_
      repeat (first | refine hn14 _ ?_ | refine he14 _ ?_ | refine hf14 _ _ (by decide) ?_ | refine hr14 _ ?_ | refine hn13 _ ?_ | refine he13 _ _ ?_ | refine hr13 _ ?_ | refine hn12 _ ?_ | refine he12 _ _ ?_ | refine hr12 _ ?_ | refine he11 _ _ ?_ | refine hr11 _ ?_ | refine hn10 _ ?_ | refine he10 _ ?_ | refine hf10 _ _ (by decide) ?_ | refine hr10 _ ?_ | refine hn9 _ ?_ | refine he9 _ _ ?_ | refine hr9 _ ?_ | refine hn4 _ ?_ | refine he4 _ _ ?_ | refine hr4 _ ?_ | refine he3 _ _ ?_ | refine hr3 _ ?_ | refine hn2 _ ?_ | refine he2 _ ?_ | refine hf2 _ _ (by decide) ?_ | refine hr2 _ ?_ | refine hn1 _ ?_ | refine he1 _ _ ?_ | refine hr1 _ ?_)
      refine hn11 _ (1) (2 - 1) (by omega) (by first | (simp only [go_sem, reduceIte, Nat.reduceEqDiff, Nat.reduceBEq, reduceCtorEq, Nat.reduceLT, Nat.reduceLeDiff, Nat.reduceAdd, Nat.reduceSub, Nat.reduceMul, Nat.reduceDiv, Int.reduceAdd, Int.reduceNeg, Int.reduceEq, Int.reduceLT, Int.reduceLE, updAll_cons, updAll_nil, (show ((1 : Nat) : Int) = 1 from rfl), cond_true, cond_false]; done) | with_reducible rfl) ?_
      exact ⟨by omega, rfl⟩
    by_cases hj1 : j = 1
    · subst hj1
      refine wlk_cond1 (by first | rfl | (simp only [go_sem, reduceIte, Nat.reduceEqDiff, Nat.reduceBEq, reduceCtorEq, Nat.reduceLT, Nat.reduceLeDiff, Nat.reduceAdd, Nat.reduceSub, Nat.reduceMul, Nat.reduceDiv, Int.reduceAdd, Int.reduceNeg, Int.reduceEq, Int.reduceLT, Int.reduceLE]; try simp (disch := omega) only [decide_eq_true, decide_eq_false])) ?_
      refine wlk_skip ?_
      repeat (first | refine hn12 _ ?_ | refine he12 _ _ ?_ | refine hr12 _ ?_ | refine he11 _ _ ?_ | refine hr11 _ ?_ | refine hn10 _ ?_ | refine he10 _ ?_ | refine hf10 _ _ (by decide) ?_ | refine hr10 _ ?_ | refine hn9 _ ?_ | refine he9 _ _ ?_ | refine hr9 _ ?_ | refine hn4 _ ?_ | refine he4 _ _ ?_ | refine hr4 _ ?_ | refine he3 _ _ ?_ | refine hr3 _ ?_ | refine hn2 _ ?_ | refine he2 _ ?_ | refine hf2 _ _ (by decide) ?_ | refine hr2 _ ?_ | refine hn1 _ ?_ | refine he1 _ _ ?_ | refine hr1 _ ?_)
      refine wlk_seq fun X15 hn15 he15 hr15 => ?_
      refine wlk_blk fun X16 hn16 he16 hf16 hr16 => ?_
      refine wlk_sreg fun KY hKY => ?_
      simp only [go_sem, reduceIte, Nat.reduceEqDiff, Nat.reduceBEq, reduceCtorEq, Nat.reduceLT, Nat.reduceLeDiff, Nat.reduceAdd, Nat.reduceSub, Nat.reduceMul, Nat.reduceDiv, Int.reduceAdd, Int.reduceNeg, Int.reduceEq, Int.reduceLT, Int.reduceLE, c_slices_Concat___int_int__r12]
      refine hKY _ ?_
      refine wlk_reg fun KY hKY => ?_
      simp only [go_sem, reduceIte, Nat.reduceEqDiff, Nat.reduceBEq, reduceCtorEq, Nat.reduceLT, Nat.reduceLeDiff, Nat.reduceAdd, Nat.reduceSub, Nat.reduceMul, Nat.reduceDiv, Int.reduceAdd, Int.reduceNeg, Int.reduceEq, Int.reduceLT, Int.reduceLE, c_slices_Concat___int_int__r13, (show (A.length + B.length) * 8 ≤ 140737488355328 by omega), ints_cellOk, (show ints A ++ ints B = ints (A ++ B) by simp [ints])]
      refine hKY _ ?_
      repeat (first | refine hn16 _ ?_ | refine he16 _ ?_ | refine hf16 _ _ (by decide) ?_ | refine hr16 _ ?_ | refine hn15 _ ?_ | refine he15 _ _ ?_ | refine hr15 _ ?_ | refine hn12 _ ?_ | refine he12 _ _ ?_ | refine hr12 _ ?_ | refine he11 _ _ ?_ | refine hr11 _ ?_ | refine hn10 _ ?_ | refine he10 _ ?_ | refine hf10 _ _ (by decide) ?_ | refine hr10 _ ?_ | refine hn9 _ ?_ | refine he9 _ _ ?_ | refine hr9 _ ?_ | refine hn4 _ ?_ | refine he4 _ _ ?_ | refine hr4 _ ?_ | refine he3 _ _ ?_ | refine hr3 _ ?_ | refine hn2 _ ?_ | refine he2 _ ?_ | refine hf2 _ _ (by decide) ?_ | refine hr2 _ ?_ | refine hn1 _ ?_ | refine he1 _ _ ?_ | refine hr1 _ ?_)
      refine wlk_reg fun KY hKY => ?_
      simp only [go_sem, reduceIte, Nat.reduceEqDiff, Nat.reduceBEq, reduceCtorEq, Nat.reduceLT, Nat.reduceLeDiff, Nat.reduceAdd, Nat.reduceSub, Nat.reduceMul, Nat.reduceDiv, Int.reduceAdd, Int.reduceNeg, Int.reduceEq, Int.reduceLT, Int.reduceLE, c_slices_Concat___int_int__r14, (show IntKind.i64.wrap 2 = 2 by decide)]
      refine hKY _ ?_
      repeat (first | refine hn16 _ ?_ | refine he16 _ ?_ | refine hf16 _ _ (by decide) ?_ | refine hr16 _ ?_ | refine hn15 _ ?_ | refine he15 _ _ ?_ | refine hr15 _ ?_ | refine hn12 _ ?_ | refine he12 _ _ ?_ | refine hr12 _ ?_ | refine he11 _ _ ?_ | refine hr11 _ ?_ | refine hn10 _ ?_ | refine he10 _ ?_ | refine hf10 _ _ (by decide) ?_ | refine hr10 _ ?_ | refine hn9 _ ?_ | refine he9 _ _ ?_ | refine hr9 _ ?_ | refine hn4 _ ?_ | refine he4 _ _ ?_ | refine hr4 _ ?_ | refine he3 _ _ ?_ | refine hr3 _ ?_ | refine hn2 _ ?_ | refine he2 _ ?_ | refine hf2 _ _ (by decide) ?_ | refine hr2 _ ?_ | refine hn1 _ ?_ | refine he1 _ _ ?_ | refine hr1 _ ?_)
      refine hn11 _ (2) (2 - 2) (by omega) (by first | (simp only [go_sem, reduceIte, Nat.reduceEqDiff, Nat.reduceBEq, reduceCtorEq, Nat.reduceLT, Nat.reduceLeDiff, Nat.reduceAdd, Nat.reduceSub, Nat.reduceMul, Nat.reduceDiv, Int.reduceAdd, Int.reduceNeg, Int.reduceEq, Int.reduceLT, Int.reduceLE, updAll_cons, updAll_nil, (show ((2 : Nat) : Int) = 2 from rfl), cond_true, cond_false]; done) | with_reducible rfl) ?_
      exact ⟨by omega, rfl⟩
    · obtain rfl : j = 2 := by omega
      refine wlk_cond0 (by first | rfl | (simp only [go_sem, reduceIte, Nat.reduceEqDiff, Nat.reduceBEq, reduceCtorEq, Nat.reduceLT, Nat.reduceLeDiff, Nat.reduceAdd, Nat.reduceSub, Nat.reduceMul, Nat.reduceDiv, Int.reduceAdd, Int.reduceNeg, Int.reduceEq, Int.reduceLT, Int.reduceLE]; try simp (disch := omega) only [decide_eq_true, decide_eq_false])) ?_
      refine wlk_exit ?_
      repeat (first | refine hn12 _ ?_ | refine he12 _ _ ?_ | refine hr12 _ ?_ | refine he11 _ _ ?_ | refine hr11 _ ?_ | refine hn10 _ ?_ | refine he10 _ ?_ | refine hf10 _ _ (by decide) ?_ | refine hr10 _ ?_ | refine hn9 _ ?_ | refine he9 _ _ ?_ | refine hr9 _ ?_ | refine hn4 _ ?_ | refine he4 _ _ ?_ | refine hr4 _ ?_ | refine he3 _ _ ?_ | refine hr3 _ ?_ | refine hn2 _ ?_ | refine he2 _ ?_ | refine hf2 _ _ (by decide) ?_ | refine hr2 _ ?_ | refine hn1 _ ?_ | refine he1 _ _ ?_ | refine hr1 _ ?_)
      refine wlk_sreg fun KY hKY => ?_
      simp only [go_sem, reduceIte, Nat.reduceEqDiff, Nat.reduceBEq, reduceCtorEq, Nat.reduceLT, Nat.reduceLeDiff, Nat.reduceAdd, Nat.reduceSub, Nat.reduceMul, Nat.reduceDiv, Int.reduceAdd, Int.reduceNeg, Int.reduceEq, Int.reduceLT, Int.reduceLE, c_slices_Concat___int_int__r15]
      refine hKY _ ?_
      refine wlk_ret ?_
      repeat (first | refine hn12 _ ?_ | refine he12 _ _ ?_ | refine hr12 _ ?_ | refine he11 _ _ ?_ | refine hr11 _ ?_ | refine hn10 _ ?_ | refine he10 _ ?_ | refine hf10 _ _ (by decide) ?_ | refine hr10 _ ?_ | refine hn9 _ ?_ | refine he9 _ _ ?_ | refine hr9 _ ?_ | refine hn4 _ ?_ | refine he4 _ _ ?_ | refine hr4 _ ?_ | refine he3 _ _ ?_ | refine hr3 _ ?_ | refine hn2 _ ?_ | refine he2 _ ?_ | refine hf2 _ _ (by decide) ?_ | refine hr2 _ ?_ | refine hn1 _ ?_ | refine he1 _ _ ?_ | refine hr1 _ ?_)
      simp only [go_sem, reduceIte, Nat.reduceEqDiff, Nat.reduceBEq, reduceCtorEq, Nat.reduceLT, Nat.reduceLeDiff, Nat.reduceAdd, Nat.reduceSub, Nat.reduceMul, Nat.reduceDiv, Int.reduceAdd, Int.reduceNeg, Int.reduceEq, Int.reduceLT, Int.reduceLE]
end Go.Proofs.Ytepjcfbigcfkfaa
namespace Go.Ga.Gl
def s1 (f : Nat → Int) (l : List Nat) : Int := (l.map f).sum
def s2 (x : Nat → Nat → Int) (A B : List Nat) : Int := s1 (fun a => s1 (x a) B) A
theorem s1_nil (f : Nat → Int) : s1 f [] = 0 := rfl
theorem s1_cons (f : Nat → Int) (a : Nat) (l : List Nat) : s1 f (a :: l) = f a + s1 f l := by simp [s1]
theorem s1_append (f : Nat → Int) (l m : List Nat) : s1 f (l ++ m) = s1 f l + s1 f m := by simp [s1]
theorem s1_perm {f : Nat → Int} {l m : List Nat} (h : l.Perm m) : s1 f l = s1 f m := by
  induction h with
  | nil => rfl
  | cons a _ ih => rw [s1_cons, s1_cons, ih]
  | swap a b l => simp only [s1_cons]; omega
  | trans _ _ h1 h2 => rw [h1, h2]
theorem s1_congr {f g : Nat → Int} {l : List Nat} (h : ∀ a ∈ l, f a = g a) : s1 f l = s1 g l := by
  induction l with
  | nil => rfl
  | cons a l ih => rw [s1_cons, s1_cons, h a (.head _), ih fun b hb => h b (.tail _ hb)]
theorem s1_zero {f : Nat → Int} {l : List Nat} (h : ∀ a ∈ l, f a = 0) : s1 f l = 0 := by
  rw [s1_congr (g := fun _ => 0) h]
  induction l with
  | nil => rfl
  | cons a l ih => rw [s1_cons, ih fun b hb => h b (.tail _ hb)]; rfl
theorem s1_add (f g : Nat → Int) (l : List Nat) : s1 (fun a => f a + g a) l = s1 f l + s1 g l := by
  induction l with
  | nil => rfl
  | cons a l ih => simp only [s1_cons, ih]; omega
theorem s1_mix (a b c : Nat → Int) (l : List Nat) : s1 (fun v => a v + (b v - c v)) l = s1 a l + s1 b l - s1 c l := by
  induction l with
  | nil => rfl
  | cons v l ih => simp only [s1_cons, ih]; omega
theorem s1_le {f g : Nat → Int} {l : List Nat} (h : ∀ a ∈ l, f a ≤ g a) : s1 f l ≤ s1 g l := by
  induction l with
  | nil => exact Int.le_refl _
  | cons a l ih =>
    have := h a (.head _)
    have := ih fun b hb => h b (.tail _ hb)
    rw [s1_cons, s1_cons]; omega
theorem s2_nil (x : Nat → Nat → Int) (B : List Nat) : s2 x [] B = 0 := rfl
theorem s2_cons (x : Nat → Nat → Int) (a : Nat) (A B : List Nat) : s2 x (a :: A) B = s1 (x a) B + s2 x A B := s1_cons _ _ _
theorem s2_append_r (x : Nat → Nat → Int) (A B B' : List Nat) : s2 x A (B ++ B') = s2 x A B + s2 x A B' := by
  unfold s2
  rw [← s1_add]
  exact s1_congr fun a _ => s1_append _ _ _
theorem s2_nil_r (x : Nat → Nat → Int) (A : List Nat) : s2 x A [] = 0 := s1_zero fun _ _ => rfl
theorem s2_cons_r (x : Nat → Nat → Int) (A : List Nat) (b : Nat) (B : List Nat) : s2 x A (b :: B) = s1 (fun a => x a b) A + s2 x A B := by
  unfold s2
  rw [← s1_add]
  exact s1_congr fun a _ => s1_cons _ _ _
theorem s2_symm {x : Nat → Nat → Int} (h : ∀ a b, x a b = x b a) (A B : List Nat) : s2 x A B = s2 x B A := by
  induction A with
  | nil => rw [s2_nil, s2_nil_r]
  | cons a A ih => rw [s2_cons, s2_cons_r, ih]; congr 1; exact s1_congr fun b _ => h a b
theorem s2_perm {x : Nat → Nat → Int} {A A' B B' : List Nat} (h : A.Perm A') (h' : B.Perm B') : s2 x A B = s2 x A' B' := by
  unfold s2
  rw [s1_perm h]
  exact s1_congr fun a _ => s1_perm h'
theorem s2_zero {x : Nat → Nat → Int} {A B : List Nat} (h : ∀ a ∈ A, ∀ b ∈ B, x a b = 0) : s2 x A B = 0 := s1_zero fun a ha => s1_zero fun b hb => h a ha b hb
theorem s2_le {x y : Nat → Nat → Int} {A B : List Nat} (h : ∀ a ∈ A, ∀ b ∈ B, x a b ≤ y a b) : s2 x A B ≤ s2 y A B := s1_le fun a ha => s1_le fun b hb => h a ha b hb
theorem s2_nonneg {x : Nat → Nat → Int} {A B : List Nat} (h : ∀ a ∈ A, ∀ b ∈ B, 0 ≤ x a b) : 0 ≤ s2 x A B := by
  have := s2_le (x := fun _ _ => 0) (y := x) h
  rwa [s2_zero (x := fun _ _ => 0) fun _ _ _ _ => rfl] at this
theorem s2_even {x : Nat → Nat → Int} (h : ∀ a b, x a b = x b a) (h0 : ∀ a, x a a = 0) (A : List Nat) : s2 x A A % 2 = 0 := by
  induction A with
  | nil => rfl
  | cons a A ih =>
    rw [s2_cons, s1_cons, h0, s2_cons_r, show s1 (fun b => x b a) A = s1 (x a) A from s1_congr fun b _ => h b a]
    omega
def sp (g : List Nat → Int) (ps : List (List Nat)) : Int := (ps.map g).sum
theorem sp_cons (g : List Nat → Int) (p : List Nat) (ps : List (List Nat)) : sp g (p :: ps) = g p + sp g ps := by simp [sp]
theorem sp_s1 (f : Nat → Int) (ps : List (List Nat)) : sp (s1 f) ps = s1 f ps.flatten := by
  induction ps with
  | nil => rfl
  | cons p ps ih => rw [sp_cons, List.flatten_cons, s1_append, ih]
theorem sp_le {g h : List Nat → Int} {ps : List (List Nat)} (H : ∀ p ∈ ps, g p ≤ h p) : sp g ps ≤ sp h ps := by
  induction ps with
  | nil => exact Int.le_refl _
  | cons p ps ih =>
    have := H p (.head _)
    have := ih fun q hq => H q (.tail _ hq)
    rw [sp_cons, sp_cons]; omega
def lackS (x : Nat → Nat → Int) (f : Nat → Int) (V S T : List Nat) (ps : List (List Nat)) : Int :=
  s1 f T - s1 f S - (s2 x T V - s2 x T S) + sp (fun p => (s1 f p + s2 x p T) % 2) ps
theorem lack_shows {x y : Nat → Nat → Int} {V S T : List Nat} {ps : List (List Nat)} (hx : ∀ a b, x a b = x b a) (hy : ∀ a b, y a b = y b a) (h0 : ∀ a, y a a = 0) (hn : ∀ a b, 0 ≤ y a b) (hle : ∀ a b, y a b ≤ x a b)
    (hV : V.Perm (S ++ T ++ ps.flatten)) (hp : ∀ p ∈ ps, s2 y p ps.flatten = s2 y p p) : lackS x (fun v => s1 (y v) V) V S T ps ≤ 0 := by
  have key : ∀ p ∈ ps, (s1 (fun v => s1 (y v) V) p + s2 x p T) % 2 ≤ s1 (fun v => s1 (y v) S + (s1 (x v) T - s1 (y v) T)) p := by
    intro p hpm
    have e : s1 (fun v => s1 (y v) V) p = s2 y p S + s2 y p T + s2 y p p := by
      show s2 y p V = _
      rw [s2_perm (.refl p) hV, s2_append_r, s2_append_r, hp p hpm]
    have ev := s2_even hy h0 p
    have l1 : 0 ≤ s2 y p S := s2_nonneg fun a _ b _ => hn a b
    have l2 : s2 y p T ≤ s2 x p T := s2_le fun a _ b _ => hle a b
    have g : s1 (fun v => s1 (y v) S + (s1 (x v) T - s1 (y v) T)) p = s2 y p S + s2 x p T - s2 y p T := s1_mix _ _ _ _
    rw [e, g]
    omega
  have hsp := sp_le key
  rw [sp_s1 (fun v => s1 (y v) S + (s1 (x v) T - s1 (y v) T)) ps] at hsp
  have g : s1 (fun v => s1 (y v) S + (s1 (x v) T - s1 (y v) T)) ps.flatten = s2 y ps.flatten S + s2 x ps.flatten T - s2 y ps.flatten T := s1_mix _ _ _ _
  rw [g] at hsp
  have t1 : s1 (fun v => s1 (y v) V) T = s2 y T S + s2 y T T + s2 y T ps.flatten := by
    show s2 y T V = _
    rw [s2_perm (.refl T) hV, s2_append_r, s2_append_r]
  have t2 : s1 (fun v => s1 (y v) V) S = s2 y S S + s2 y S T + s2 y S ps.flatten := by
    show s2 y S V = _
    rw [s2_perm (.refl S) hV, s2_append_r, s2_append_r]
  have t3 : s2 x T V = s2 x T S + s2 x T T + s2 x T ps.flatten := by rw [s2_perm (.refl T) hV, s2_append_r, s2_append_r]
  have y1 := s2_symm hy T S
  have y2 := s2_symm hy T ps.flatten
  have y3 := s2_symm hy S ps.flatten
  have x1 := s2_symm hx T ps.flatten
  have le1 : s2 y T T ≤ s2 x T T := s2_le fun a _ b _ => hle a b
  have le2 : 0 ≤ s2 y S S := s2_nonneg fun a _ b _ => hn a b
  unfold lackS
  omega
end Go.Ga.Gl
set_option maxRecDepth 100000
set_option maxHeartbeats 2000000
namespace Go.Proofs.Ytepjcfbigcfkfaa
open Go Go.Ga Go.Ga.Gl
def allNear (es : Es) (T : List Nat) : List Nat := T.flatMap (nearOf es)
def toI (N : Nat) (P : List Nat) : List Int := (List.range N).map fun w => (P.count w : Int)
def lackW (N : Nat) (es : Es) (fs : List Int) (S T : List Nat) (ps : List (List Nat)) : Int :=
  sumAt fs T - sumAt fs S - ((allNear es T).filter fun w => decide (w ∉ S)).length + sp (fun p => (sumAt fs p + sumAt (toI N (allNear es T)) p) % 2) ps
theorem up_len {N : Nat} {l : List Nat} (h1 : ∀ v ∈ l, v < N) (h2 : l.Pairwise (· < ·)) : l.length ≤ N :=
  Nat.le_trans (nodup_le (h2.imp fun h => Nat.ne_of_lt h) (m := List.range N) fun x hx => List.mem_range.2 (h1 x hx)) (by simp)
end Go.Proofs.Ytepjcfbigcfkfaa
