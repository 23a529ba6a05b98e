/- What is no graph is refused. -/
import Derived.Test.YtkjppnofgmpeeaaMc3
import Derived.Test.YtkjppnofgmpeeaaMc2
import Derived.Test.YtkjppnofgmpeeaaGjonmfj5
import Derived.WalkKit
import Derived.ProofKit
import Derived.OpenShut
import Derived.JoinedCond
set_option linter.all false
set_option maxRecDepth 100000
set_option maxHeartbeats 4000000
namespace Go.Proofs.Ytkjppnofgmpeeaa
open Go Go.Ga Go.Ga.Gl
def outD (n : Nat) (l : List Int) : List Bool := l.foldl (fun D v => if 0 ≤ v ∧ v < (n : Int) then D.set v.toNat true else D) (List.replicate n false)
theorem outD_snoc (n : Nat) (l : List Int) (k : Nat) (v : Int) (h : l[k]? = some v) : outD n (l.take (k + 1)) = if 0 ≤ v ∧ v < (n : Int) then (outD n (l.take k)).set v.toNat true else outD n (l.take k) := by
  rw [List.take_add_one, h]; simp [outD]
theorem outD_ok (n : Nat) (l : List Int) : (outD n l).length = n ∧ ∀ x, x < n → ((outD n l).getD x false = true ↔ (x : Int) ∈ l) := by
  have key : ∀ (l : List Int) (D : List Bool) (P : Nat → Prop), D.length = n → (∀ x, x < n → (D.getD x false = true ↔ P x)) →
      (l.foldl (fun D v => if 0 ≤ v ∧ v < (n : Int) then D.set v.toNat true else D) D).length = n ∧
      ∀ x, x < n → ((l.foldl (fun D v => if 0 ≤ v ∧ v < (n : Int) then D.set v.toNat true else D) D).getD x false = true ↔ P x ∨ (x : Int) ∈ l) := by
    intro l
    induction l with
    | nil => intro D P h1 h2; exact ⟨h1, fun x hx => by simpa using h2 x hx⟩
    | cons v l ih =>
      intro D P h1 h2
      simp only [List.foldl_cons]
      obtain ⟨i1, i2⟩ := ih (if 0 ≤ v ∧ v < (n : Int) then D.set v.toNat true else D) (fun x => P x ∨ (x : Int) = v) (by split <;> simp [h1]) (fun x hx => by
        split
        · rename_i hv
          rw [set_bool, h2 x hx, h1]
          constructor
          · rintro (h | h)
            · exact .inl h
            · exact .inr (by omega)
          · rintro (h | h)
            · exact .inl h
            · exact .inr (by omega)
        · rename_i hv
          rw [h2 x hx]
          constructor
          · exact .inl
          · rintro (h | h)
            · exact h
            · omega)
      refine ⟨i1, fun x hx => ?_⟩
      rw [i2 x hx, List.mem_cons, or_assoc]
  obtain ⟨h1, h2⟩ := key l (List.replicate n false) (fun _ => False) (by simp) (fun x hx => by simp [List.getD_eq_getElem?_getD, hx])
  exact ⟨h1, fun x hx => by rw [outD, h2 x hx]; simp⟩
theorem pieces_le {n : Nat} {es : Es} {O : Nat → Prop} {v : Nat} {D : List Bool} {ps : List (List Nat)} (w : OI n es O v D ps) : ps.length ≤ v := by
  have h : (ps.map fun p => p.headD 0).Pairwise (· < ·) := by
    refine List.pairwise_map.2 ?_
    refine w.heads.imp_of_mem fun {p q} hp hq h => ?_
    have h1 := w.ne p hp; have h2 := w.ne q hq
    cases p with
    | nil => exact absurd rfl h1
    | cons a p => cases q with
      | nil => exact absurd rfl h2
      | cons b q => exact h a rfl b rfl
  have h2 : ∀ x ∈ ps.map fun p => p.headD 0, x ∈ List.range v := by
    intro x hx
    obtain ⟨p, hp, rfl⟩ := List.mem_map.1 hx
    cases p with
    | nil => exact absurd rfl (w.ne _ hp)
    | cons a p => exact List.mem_range.2 (w.low _ hp a rfl)
  have := nodup_le (h.imp fun h => Nat.ne_of_lt h) h2
  simpa using this
theorem of_ok {n : Nat} {es : Es} (g : GR n es) (out : List Int) (ho : out.length ≤ 1000000000) :
    ACalls Try.prog [] n_pieces_Of [.imm 1 (rowsI (near n es)), .imm 1 (ints out)] [] fun r h' => ∃ ps, IsPieces n es (fun v => (v : Int) ∈ out) ps ∧ r = .own (some 1) (rowsO ps) ∧ (h' : Heap).length ≤ 1 := by
  have hn := g.hn
  have hb1 : n * 1 ≤ 140737488355328 := by omega
  have hb0 : (n : Int) ≤ 9223372036854775807 := by omega
  refine go_pieces_Of rfl ?_
  unfold c_pieces_Of v_pieces_Of
  refine wlk_sreg fun KY hKY => ?_
  simp only [go_sem, c_pieces_Of_r0]
  refine hKY _ ?_
  refine wlk_sreg fun KY hKY => ?_
  simp only [go_sem, c_pieces_Of_r1, near_len, hb1]
  repeat (simp (disch := omega) only [if_pos, if_neg, decide_eq_true, decide_eq_false, incS, nats_get, ints_get, near_len, hb1]; try simp only [go_sem, near_len, hb1])
  refine hKY _ ?_
  simp only [go_sem]
  refine sem_sees [0, 5, 2] .dead (by simp only [go_sem]; rfl) rfl (Sees.dead _) ?_
  simp only [go_sem]
  refine sem_nil [0, 5, 3] 1 (by simp only [go_sem]) ?_
  simp only [go_sem]
  refine sem_share [0, 5] (by simp only [go_sem]; rfl) ?_
  simp only [go_sem]
  refine wlk_seq fun X1 hn1 he1 hr1 => ?_
  refine wlk_sreg fun KY hKY => ?_
  simp only [go_sem, c_pieces_Of_r2]
  refine hKY _ ?_
  refine wlk_blk fun X2 hn2 he2 hf2 hr2 => ?_
  try simp only [go_sem]
  refine wlk_lp (α := Nat) [7, 19, 29] (fun k => [(18, .sc (.int .i64 (k : Int)))]) (fun k => [some (pRest (near n es) (outD n (out.take k)))]) (fun k q => k ≤ out.length ∧ q = out.length - k) (0) (out.length) rfl (by first | (simp only [go_sem, updAll_cons, updAll_nil]; done) | with_reducible rfl | rfl) (⟨by omega, rfl⟩) ?_
  rintro k q ⟨hk, rfl⟩ X3 hn3 he3 hr3
  simp only [go_sem, updAll_cons, updAll_nil]
  unfold pRest
  refine wlk_sreg fun KY hKY => ?_
  simp only [go_sem, c_pieces_Of_r3]
  refine hKY _ ?_
  refine wlk_seq fun X4 hn4 he4 hr4 => ?_
  by_cases hk2 : k < out.length
  · refine wlk_cond1 (by first | rfl | (simp only [go_sem]; try simp (disch := omega) only [decide_eq_true, decide_eq_false])) ?_
    refine wlk_skip ?_
    repeat (first | refine hn4 _ ?_ | refine he4 _ _ ?_ | refine he3 _ _ ?_ | refine hn2 _ ?_ | refine he2 _ ?_ | refine hf2 _ _ (by decide) ?_ | refine hn1 _ ?_ | refine he1 _ _ ?_)
    refine wlk_seq fun X5 hn5 he5 hr5 => ?_
    refine wlk_blk fun X6 hn6 he6 hf6 hr6 => ?_
    have hx : out[k]? = some (out[k]) := List.getElem?_eq_getElem hk2
    have hxg : out.getD k 0 = out[k] := by simp [List.getD_eq_getElem?_getD, hx]
    generalize out[k] = v at hx hxg
    refine wlk_sreg fun KY hKY => ?_
    simp only [go_sem, c_pieces_Of_r4, ints_get hk2, hxg, hk2]
    refine hKY _ ?_
    have hst := outD_snoc n out k v hx
    have hlen := (outD_ok n (out.take k)).1
    by_cases hv : 0 ≤ v
    · by_cases hvn : v < n
      · rw [if_pos ⟨hv, hvn⟩] at hst
        refine wlk_sreg fun KY hKY => ?_
        simp only [go_sem, c_pieces_Of_r5, hv, near_len, hvn]
        refine hKY _ ?_
        refine wlk_cond1 (by first | rfl | (simp only [go_sem]; try simp (disch := omega) only [decide_eq_true, decide_eq_false])) ?_
        obtain ⟨m, rfl⟩ : ∃ m : Nat, v = m := ⟨v.toNat, by omega⟩
        have hm : m < n := by omega
        rw [Int.toNat_natCast] at hst
        refine wlk_reg fun KY hKY => ?_
        simp only [go_sem, c_pieces_Of_r6, hlen, hm, ← hst]
        refine hKY _ ?_
        repeat (first | refine hn6 _ ?_ | refine he6 _ ?_ | refine hf6 _ _ (by decide) ?_ | refine hn5 _ ?_ | refine he5 _ _ ?_ | refine hn4 _ ?_ | refine he4 _ _ ?_ | refine he3 _ _ ?_ | refine hn2 _ ?_ | refine he2 _ ?_ | refine hf2 _ _ (by decide) ?_ | refine hn1 _ ?_ | refine he1 _ _ ?_)
        refine wlk_reg fun KY hKY => ?_
        simp only [go_sem, c_pieces_Of_r7, incS (show k < 4611686018427387904 by omega)]
        refine hKY _ ?_
        repeat (first | refine hn6 _ ?_ | refine he6 _ ?_ | refine hf6 _ _ (by decide) ?_ | refine hn5 _ ?_ | refine he5 _ _ ?_ | refine hn4 _ ?_ | refine he4 _ _ ?_)
        refine hn3 _ (k + 1) (out.length - (k + 1)) (by omega) (by first | (simp only [go_sem, updAll_cons, updAll_nil, pRest]; done) | with_reducible rfl | rfl) ?_
        exact ⟨hk2, rfl⟩
      · rw [if_neg (by omega)] at hst
        refine wlk_sreg fun KY hKY => ?_
        simp only [go_sem, c_pieces_Of_r5, hv, near_len, hvn]
        refine hKY _ ?_
        refine wlk_cond0 (by first | rfl | (simp only [go_sem]; try simp (disch := omega) only [decide_eq_true, decide_eq_false])) ?_
        rw [← hst]
        refine wlk_skip ?_
        repeat (first | refine hn6 _ ?_ | refine he6 _ ?_ | refine hf6 _ _ (by decide) ?_ | refine hn5 _ ?_ | refine he5 _ _ ?_ | refine hn4 _ ?_ | refine he4 _ _ ?_ | refine he3 _ _ ?_ | refine hn2 _ ?_ | refine he2 _ ?_ | refine hf2 _ _ (by decide) ?_ | refine hn1 _ ?_ | refine he1 _ _ ?_)
        refine wlk_reg fun KY hKY => ?_
        simp only [go_sem, c_pieces_Of_r7, incS (show k < 4611686018427387904 by omega)]
        refine hKY _ ?_
        repeat (first | refine hn6 _ ?_ | refine he6 _ ?_ | refine hf6 _ _ (by decide) ?_ | refine hn5 _ ?_ | refine he5 _ _ ?_ | refine hn4 _ ?_ | refine he4 _ _ ?_)
        refine hn3 _ (k + 1) (out.length - (k + 1)) (by omega) (by first | (simp only [go_sem, updAll_cons, updAll_nil, pRest]; done) | with_reducible rfl | rfl) ?_
        exact ⟨hk2, rfl⟩
    · rw [if_neg (by omega)] at hst
      refine wlk_sreg fun KY hKY => ?_
      simp only [go_sem, c_pieces_Of_r5, hv]
      refine hKY _ ?_
      refine wlk_cond0 (by first | rfl | (simp only [go_sem]; try simp (disch := omega) only [decide_eq_true, decide_eq_false])) ?_
      rw [← hst]
      refine wlk_skip ?_
      repeat (first | refine hn6 _ ?_ | refine he6 _ ?_ | refine hf6 _ _ (by decide) ?_ | refine hn5 _ ?_ | refine he5 _ _ ?_ | refine hn4 _ ?_ | refine he4 _ _ ?_ | refine he3 _ _ ?_ | refine hn2 _ ?_ | refine he2 _ ?_ | refine hf2 _ _ (by decide) ?_ | refine hn1 _ ?_ | refine he1 _ _ ?_)
      refine wlk_reg fun KY hKY => ?_
      simp only [go_sem, c_pieces_Of_r7, incS (show k < 4611686018427387904 by omega)]
      refine hKY _ ?_
      repeat (first | refine hn6 _ ?_ | refine he6 _ ?_ | refine hf6 _ _ (by decide) ?_ | refine hn5 _ ?_ | refine he5 _ _ ?_ | refine hn4 _ ?_ | refine he4 _ _ ?_)
      refine hn3 _ (k + 1) (out.length - (k + 1)) (by omega) (by first | (simp only [go_sem, updAll_cons, updAll_nil, pRest]; done) | with_reducible rfl | rfl) ?_
      exact ⟨hk2, rfl⟩
  · refine wlk_cond0 (by first | rfl | (simp only [go_sem]; try simp (disch := omega) only [decide_eq_true, decide_eq_false])) ?_
    refine wlk_exit ?_
    repeat (first | refine hn4 _ ?_ | refine he4 _ _ ?_ | refine he3 _ _ ?_ | refine hn2 _ ?_ | refine he2 _ ?_ | refine hf2 _ _ (by decide) ?_ | refine hn1 _ ?_ | refine he1 _ _ ?_)
    obtain rfl : k = out.length := by omega
    rw [List.take_length]
    obtain ⟨hlen, hout⟩ := outD_ok n out
    generalize outD n out = D0 at hlen hout
    refine wlk_sreg fun KY hKY => ?_
    simp only [go_sem, c_pieces_Of_r8]
    refine hKY _ ?_
    simp only [go_sem]
    refine sem_nil [0, 8] 1 (by simp only [go_sem]) ?_
    refine wlk_seq fun X7 hn7 he7 hr7 => ?_
    refine wlk_sreg fun KY hKY => ?_
    simp only [go_sem, c_pieces_Of_r9, near_len]
    refine hKY _ ?_
    refine wlk_blk fun X8 hn8 he8 hf8 hr8 => ?_
    try simp only [go_sem]
    refine wlk_lp (α := Nat × List Bool × List (List Nat)) [9, 18, 19, 40, 49] (fun (v, D, ps) => [(8, .own (some 1) (rowsO ps)), (39, .sc (.int .i64 (v : Int)))]) (fun (v, D, ps) => [some (pRest (near n es) D)]) (fun (v, D, ps) q => v ≤ n ∧ q = n - v ∧ OI n es (fun v => (v : Int) ∈ out) v D ps) ((0, D0, [])) (n) rfl (by first | (simp only [go_sem, updAll_cons, updAll_nil]; done) | with_reducible rfl | rfl) (⟨by omega, rfl, OI.start hlen hout⟩) ?_
    rintro ⟨v, D, ps⟩ q ⟨hv, rfl, w⟩ X9 hn9 he9 hr9
    simp only [go_sem, updAll_cons, updAll_nil]
    unfold pRest
    refine wlk_sreg fun KY hKY => ?_
    simp only [go_sem, c_pieces_Of_r10]
    refine hKY _ ?_
    refine wlk_seq fun X10 hn10 he10 hr10 => ?_
    by_cases hv2 : v < n
    · refine wlk_cond1 (by first | rfl | (simp only [go_sem]; try simp (disch := omega) only [decide_eq_true, decide_eq_false])) ?_
      refine wlk_skip ?_
      repeat (first | refine hn10 _ ?_ | refine he10 _ _ ?_ | refine he9 _ _ ?_ | refine hn8 _ ?_ | refine he8 _ ?_ | refine hf8 _ _ (by decide) ?_ | refine hn7 _ ?_ | refine he7 _ _ ?_ | refine hn4 _ ?_ | refine he4 _ _ ?_)
      refine wlk_seq fun X11 hn11 he11 hr11 => ?_
      refine wlk_blk fun X12 hn12 he12 hf12 hr12 => ?_
      refine wlk_sreg fun KY hKY => ?_
      simp only [go_sem, c_pieces_Of_r11]
      refine hKY _ ?_
      have hDl := w.len
      have hvD : v < D.length := by omega
      have hbg := bools_get hvD
      refine wlk_sreg fun KY hKY => ?_
      simp only [go_sem, c_pieces_Of_r12, hbg, hvD]
      refine hKY _ ?_
      cases hd : D.getD v false with
      | true =>
        refine wlk_cond0 (by first | rfl | (simp only [go_sem, hd]; try simp (disch := omega) only [decide_eq_true, decide_eq_false])) ?_
        refine wlk_skip ?_
        repeat (first | refine hn12 _ ?_ | refine he12 _ ?_ | refine hf12 _ _ (by decide) ?_ | refine hn11 _ ?_ | refine he11 _ _ ?_ | refine hn10 _ ?_ | refine he10 _ _ ?_ | refine he9 _ _ ?_ | refine hn8 _ ?_ | refine he8 _ ?_ | refine hf8 _ _ (by decide) ?_ | refine hn7 _ ?_ | refine he7 _ _ ?_ | refine hn4 _ ?_ | refine he4 _ _ ?_)
        refine wlk_reg fun KY hKY => ?_
        simp only [go_sem, c_pieces_Of_r14, incS (show v < 4611686018427387904 by omega)]
        refine hKY _ ?_
        repeat (first | refine hn12 _ ?_ | refine he12 _ ?_ | refine hf12 _ _ (by decide) ?_ | refine hn11 _ ?_ | refine he11 _ _ ?_ | refine hn10 _ ?_ | refine he10 _ _ ?_)
        refine hn9 _ ((v + 1, D, ps)) (n - (v + 1)) (by omega) (by first | (simp only [go_sem, updAll_cons, updAll_nil, pRest]; done) | with_reducible rfl | rfl) ?_
        exact ⟨hv2, rfl, w.skip hd⟩
      | false =>
        refine wlk_cond1 (by first | rfl | (simp only [go_sem, hd]; try simp (disch := omega) only [decide_eq_true, decide_eq_false])) ?_
        have hps := pieces_le w
        have hby : (ps.length + 1) * 24 ≤ 140737488355328 := by omega
        refine wlk_reg fun KY hKY => ?_
        simp only [go_sem, c_pieces_Of_r13]
        apply call_gen [] [0] false none rfl
        iterate 8 (first | (simp only [go_sem, watchIn] <;> rfl) | rfl)
        refine (piece_ok g D hDl v hv2 hd).mono ?_
        rintro _ _ ⟨p, D', hp, rfl, rfl⟩
        unfold pRest
        refine ⟨Nat.le_of_ble_eq_true rfl, (fun hh => by cases hh), ?_⟩
        simp only [go_sem, callOut, AState.after, rowsO_cellOk, hby, rowsO_snoc]
        refine hKY _ ?_
        repeat (first | refine hn12 _ ?_ | refine he12 _ ?_ | refine hf12 _ _ (by decide) ?_ | refine hn11 _ ?_ | refine he11 _ _ ?_ | refine hn10 _ ?_ | refine he10 _ _ ?_ | refine he9 _ _ ?_ | refine hn8 _ ?_ | refine he8 _ ?_ | refine hf8 _ _ (by decide) ?_ | refine hn7 _ ?_ | refine he7 _ _ ?_ | refine hn4 _ ?_ | refine he4 _ _ ?_)
        refine wlk_reg fun KY hKY => ?_
        simp only [go_sem, c_pieces_Of_r14, incS (show v < 4611686018427387904 by omega)]
        refine hKY _ ?_
        repeat (first | refine hn12 _ ?_ | refine he12 _ ?_ | refine hf12 _ _ (by decide) ?_ | refine hn11 _ ?_ | refine he11 _ _ ?_ | refine hn10 _ ?_ | refine he10 _ _ ?_)
        refine hn9 _ ((v + 1, D', ps ++ [p])) (n - (v + 1)) (by omega) (by first | (simp only [go_sem, updAll_cons, updAll_nil, pRest]; done) | with_reducible rfl | rfl) ?_
        exact ⟨hv2, rfl, w.take g.adj_lt hp⟩
    · refine wlk_cond0 (by first | rfl | (simp only [go_sem]; try simp (disch := omega) only [decide_eq_true, decide_eq_false])) ?_
      refine wlk_exit ?_
      repeat (first | refine hn10 _ ?_ | refine he10 _ _ ?_ | refine he9 _ _ ?_ | refine hn8 _ ?_ | refine he8 _ ?_ | refine hf8 _ _ (by decide) ?_ | refine hn7 _ ?_ | refine he7 _ _ ?_ | refine hn4 _ ?_ | refine he4 _ _ ?_ | refine he3 _ _ ?_ | refine hn2 _ ?_ | refine he2 _ ?_ | refine hf2 _ _ (by decide) ?_ | refine hn1 _ ?_ | refine he1 _ _ ?_)
      obtain rfl : v = n := by omega
      refine wlk_sreg fun KY hKY => ?_
      simp only [go_sem, c_pieces_Of_r15]
      refine hKY _ ?_
      refine wlk_ret ?_
      repeat (first | refine hr10 _ ?_ | refine hr9 _ ?_ | refine hr8 _ ?_ | refine hr7 _ ?_ | refine hr4 _ ?_ | refine hr3 _ ?_ | refine hr2 _ ?_ | refine hr1 _ ?_)
      simp only [go_sem]
      exact ⟨ps, w.pieces, rfl⟩
abbrev PsQ (n : Nat) (es : Es) (out : List Int) (r : AVal) (h' : Heap) : Prop := (∃ ps, IsPieces n es (fun v => (v : Int) ∈ out) ps ∧ r = .own (some 1) (rowsO ps)) ∧ h' = []
theorem ofT_ok {n : Nat} {es : Es} (g : GR n es) (out : List Int) (ho : out.length ≤ 1000000000) :
    ACalls Try.prog [] n_pieces_Of [.imm 1 (rowsI (near n es)), .imm 1 (ints out)] [] (PsQ n es out) := by
  refine ACalls.trim ((of_ok g out ho).mono ?_)
  rintro r h' ⟨ps, h1, rfl, h2⟩
  refine ⟨Nat.zero_le _, ⟨ps, h1, ?_⟩, rfl⟩
  simp only [AVal.ren, rowsO_ren]
theorem without_ok {n : Nat} {es : Es} (g : GR n es) (out : List Int) (ho : out.length ≤ 1000000000) :
    ACalls Try.prog [] n_pieces_Without [.agg [.sc (.int .i64 (n : Int)), .imm 2 (twos (castE es))], .imm 1 (ints out)] [] (PsQ n es out) := by
  refine go_pieces_Without rfl ?_
  unfold c_pieces_Without v_pieces_Without
  refine wlk_sreg fun KY hKY => ?_
  simp only [go_sem, c_pieces_Without_r0]
  refine hKY _ ?_
  refine wlk_seq fun X1 hn1 he1 hr1 => ?_
  refine wlk_sreg fun KY hKY => ?_
  simp only [go_sem, c_pieces_Without_r1]
  refine call_view rfl (by simp only [go_sem] <;> rfl) ((right_ok _ _).mono ?_)
  rintro rr hh ⟨rfl, rfl⟩
  refine ⟨rfl, rfl, rfl, ?_⟩
  simp only [go_sem, rightB_GR g]
  refine hKY _ ?_
  refine wlk_cond0 (by first | rfl | (simp only [go_sem]; try simp (disch := omega) only [decide_eq_true, decide_eq_false])) ?_
  refine wlk_skip ?_
  repeat (first | refine hn1 _ ?_ | refine he1 _ _ ?_)
  refine wlk_sreg fun KY hKY => ?_
  simp only [go_sem, c_pieces_Without_r3]
  refine call_view rfl (by simp only [go_sem] <;> rfl) ((lists_ok g).mono ?_)
  rintro rr hh ⟨rfl, rfl⟩
  refine ⟨?_, ?_, ?_, ?_⟩
  iterate 3 (first | rfl | simp only [go_sem])
  simp only [go_sem]
  refine call_view rfl (by simp only [go_sem] <;> rfl) ((ofT_ok g out ho).mono ?_)
  rintro rr hh ⟨⟨ps, hps, rfl⟩, rfl⟩
  refine ⟨?_, ?_, ?_, ?_⟩
  iterate 3 (first | rfl | simp only [go_sem])
  simp only [go_sem]
  refine hKY _ ?_
  refine wlk_ret ?_
  repeat (first | refine hr1 _ ?_)
  simp only [go_sem]
  exact ⟨⟨ps, hps, rfl⟩, rfl⟩
end Go.Proofs.Ytkjppnofgmpeeaa
set_option maxRecDepth 100000
set_option maxHeartbeats 4000000
namespace Go.Proofs.Ytkjppnofgmpeeaa
open Go Go.Ga Go.Ga.Gl
end Go.Proofs.Ytkjppnofgmpeeaa
set_option maxRecDepth 100000
set_option maxHeartbeats 2000000
namespace Go.Proofs.Ytkjppnofgmpeeaa
open Go Go.Ga Go.Ga.Gl
end Go.Proofs.Ytkjppnofgmpeeaa
set_option maxRecDepth 100000
set_option maxHeartbeats 2000000
namespace Go.Proofs.Ytkjppnofgmpeeaa
open Go Go.Ga Go.Ga.Gl
def PsOf (n : Int) (es : List (Int × Int)) (out : List Int) (ps : List (List Nat)) : Prop :=
  (rightB n es = true ∧ ∃ (N : Nat) (es' : Es), n = N ∧ es = castE es' ∧ GR N es' ∧ IsPieces N es' (fun v => (v : Int) ∈ out) ps) ∨ (rightB n es = false ∧ ps = [])
theorem PsOf.len {n : Int} {es : List (Int × Int)} {out : List Int} {ps : List (List Nat)} (h : PsOf n es out ps) : ps.length ≤ 4096 ∧ ∀ p ∈ ps, p.length ≤ 4096 := by
  rcases h with ⟨_, N, es', _, _, g, P⟩ | ⟨_, rfl⟩
  · have := g.hn
    exact ⟨Nat.le_trans (pieces_len P) this, fun p hp => Nat.le_trans (piece_len P hp) this⟩
  · exact ⟨by simp, fun p hp => by simp at hp⟩
theorem PsOf.disj {n : Int} {es : List (Int × Int)} {out : List Int} {ps : List (List Nat)} (h : PsOf n es out ps) : ps.Pairwise fun p q => ∀ v ∈ p, v ∉ q := by
  rcases h with ⟨_, N, es', _, _, g, P⟩ | ⟨_, rfl⟩
  · exact P.disj
  · exact .nil
end Go.Proofs.Ytkjppnofgmpeeaa
set_option maxRecDepth 100000
set_option maxHeartbeats 2000000
namespace Go.Proofs.Ytkjppnofgmpeeaa
open Go Go.Ga Go.Ga.Gl
end Go.Proofs.Ytkjppnofgmpeeaa
set_option maxRecDepth 100000
set_option maxHeartbeats 4000000
namespace Go.Proofs.Ytkjppnofgmpeeaa
open Go Go.Ga Go.Ga.Gl
def mOk (es : Es) (m : List Int) (v : Nat) : Bool := decide (m.getD v 0 = -1) || (decide (turnI (v : Int) (m.getD v 0) ∈ castE es) && decide (m.getD (m.getD v 0).toNat 0 = (v : Int)))
theorem turn_mem {N : Nat} {es : Es} (g : GR N es) {v : Nat} {w : Int} (h : turnI (v : Int) w ∈ castE es) : ∃ u : Nat, w = u ∧ u < N ∧ v < N ∧ u ≠ v := by
  obtain ⟨⟨a, b⟩, hm, e⟩ := List.mem_map.1 h
  have hok := g.ok _ hm
  simp only at hok
  unfold turnI at e
  split at e
  · simp only [Prod.mk.injEq] at e
    exact ⟨a, by omega, by omega, by omega, by omega⟩
  · simp only [Prod.mk.injEq] at e
    exact ⟨b, by omega, by omega, by omega, by omega⟩
theorem all_no {N k : Nat} {φ : Nat → Bool} (h : k < N) (hf : φ k = false) : ((List.range N).all fun v => φ v) = false := by
  rw [Bool.eq_false_iff]; intro h'
  rw [List.all_eq_true] at h'
  rw [h' k (List.mem_range.2 h)] at hf; cases hf
end Go.Proofs.Ytkjppnofgmpeeaa
set_option maxRecDepth 100000
set_option maxHeartbeats 4000000
namespace Go.Proofs.Ytkjppnofgmpeeaa
open Go Go.Ga Go.Ga.Gl
def jAt (m : List Int) (l : Es) (v : Nat) : Bool := l.any fun e => (decide (e.1 = v) || decide (e.2 = v)) && (decide (m.getD e.1 0 = (e.2 : Int)) && decide (m.getD e.2 0 = (e.1 : Int)))
theorem jAt_ok {N : Nat} {es : Es} (g : GR N es) (m : List Int) {v : Nat} (hw : m.getD v 0 ≠ -1) : jAt m es v = mOk es m v := by
  rw [Bool.eq_iff_iff]
  unfold jAt mOk
  rw [List.any_eq_true, decide_eq_false hw, Bool.false_or, Bool.and_eq_true, decide_eq_true_iff, decide_eq_true_iff]
  constructor
  · rintro ⟨⟨a, b⟩, he, h⟩
    have hok := g.ok _ he
    simp only [Bool.and_eq_true, Bool.or_eq_true, decide_eq_true_eq] at h hok
    obtain ⟨rfl | rfl, h1, h2⟩ := h
    · rw [h1]
      refine ⟨?_, by rw [Int.toNat_natCast]; exact h2⟩
      unfold turnI; rw [if_neg (by omega)]; exact castE_mem.2 he
    · rw [h2]
      refine ⟨?_, by rw [Int.toNat_natCast]; exact h1⟩
      unfold turnI; rw [if_pos (by omega)]; exact castE_mem.2 he
  · rintro ⟨h1, h2⟩
    obtain ⟨u, hu, _, _, hne⟩ := turn_mem g h1
    rw [hu] at h1 h2
    rw [Int.toNat_natCast] at h2
    unfold turnI at h1
    split at h1
    · exact ⟨(u, v), castE_mem.1 h1, by simp only [hu, h2, decide_true, Bool.or_true, Bool.true_or, Bool.and_self]⟩
    · exact ⟨(v, u), castE_mem.1 h1, by simp only [hu, h2, decide_true, Bool.or_true, Bool.true_or, Bool.and_self]⟩
def jL (N : Nat) (m : List Int) (l : Es) : List Bool := (List.range N).map (jAt m l)
theorem jL_len (N : Nat) (m : List Int) (l : Es) : (jL N m l).length = N := by simp [jL]
theorem jL_get {N : Nat} (m : List Int) (l : Es) {v : Nat} (h : v < N) : (jL N m l).getD v false = jAt m l v := by simp [jL, h]
theorem jL_no {N : Nat} (m : List Int) (l : Es) {a b : Nat} (h : ¬ (m.getD a 0 = (b : Int) ∧ m.getD b 0 = (a : Int))) : jL N m (l ++ [(a, b)]) = jL N m l := by
  refine List.map_congr_left fun v _ => ?_
  unfold jAt
  rw [List.any_append]
  have : (decide (m.getD a 0 = (b : Int)) && decide (m.getD b 0 = (a : Int))) = false := by
    rw [Bool.eq_false_iff]; intro h'; rw [Bool.and_eq_true, decide_eq_true_iff, decide_eq_true_iff] at h'; exact h h'
  simp only [List.any_cons, List.any_nil, this, Bool.and_false, Bool.or_false]
theorem jL_yes {N : Nat} (m : List Int) (l : Es) {a b : Nat} (h : m.getD a 0 = (b : Int) ∧ m.getD b 0 = (a : Int)) : ((jL N m l).set a true).set b true = jL N m (l ++ [(a, b)]) := by
  apply List.ext_getElem
  · simp [jL]
  · intro i h1 h2
    have hi : i < N := by rw [jL_len] at h2; exact h2
    have e : jAt m (l ++ [(a, b)]) i = (jAt m l i || (decide (a = i) || decide (b = i))) := by
      unfold jAt
      rw [List.any_append]
      simp only [List.any_cons, List.any_nil, h.1, h.2, decide_true, Bool.and_true, Bool.or_false]
    simp only [jL, List.getElem_set, List.getElem_map, List.getElem_range, e]
    by_cases hb : b = i
    · simp [hb]
    · by_cases ha : a = i
      · simp [ha, hb]
      · simp [ha, hb]
theorem mright_yes {N : Nat} {es : Es} (g : GR N es) (m : List Int) (hl : m.length = N) : ACalls Try.prog [] n_mates_Right [.agg [.sc (.int .i64 (N : Int)), .imm 2 (twos (castE es))], .imm 1 (ints m)] [] fun r h' => r = .sc (.bool ((List.range N).all fun v => mOk es m v)) ∧ h' = [] := by
  refine ACalls.trim ?_
  have hN := g.hn
  have hem := g.hm
  have hr := rightB_GR g
  have hd : decide ((m.length : Int) ≠ (N : Int)) = false := decide_eq_false (by omega)
  have h0 : List.replicate N false = jL N m (es.take 0) := by
    apply List.ext_getElem
    · simp [jL]
    · intro i h1 h2; simp [jL, jAt]
  refine go_mates_Right rfl ?_
  unfold c_mates_Right v_mates_Right
  refine wlk_sreg fun KY hKY => ?_
  simp only [go_sem, c_mates_Right_r0]
  refine hKY _ ?_
  refine wlk_seq fun X1 hn1 he1 hr1 => ?_
  refine wlk_sreg fun KY hKY => ?_
  simp only [go_sem, c_mates_Right_r1]
  refine call_view rfl (by simp only [go_sem] <;> rfl) ((right_ok N (castE es)).mono ?_)
  rintro rr hh ⟨rfl, rfl⟩
  refine ⟨rfl, rfl, rfl, ?_⟩
  simp only [go_sem, hr, ints_len, hd]
  refine hKY _ ?_
  refine wlk_cond0 (by first | rfl | (simp only [go_sem]; try simp (disch := omega) only [decide_eq_true, decide_eq_false])) ?_
  refine wlk_skip ?_
  repeat (first | refine hn1 _ ?_ | refine he1 _ _ ?_)
  refine wlk_sreg fun KY hKY => ?_
  simp only [go_sem, c_mates_Right_r3, (show N ≤ 140737488355328 by omega), (show 1 * N ≤ 140737488355328 by omega), (show (N : Int) ≤ (N : Int) from Int.le_refl _), (show (N : Int) ≤ 9223372036854775807 by omega), h0]
  refine hKY _ ?_
  refine wlk_seq fun X2 hn2 he2 hr2 => ?_
  refine wlk_sreg fun KY hKY => ?_
  simp only [go_sem, c_mates_Right_r4, twos_len, mul2, castE_len]
  refine hKY _ ?_
  refine wlk_blk fun X3 hn3 he3 hf3 hr3 => ?_
  try simp only [go_sem]
  refine wlk_lp (α := Nat) [7, 27, 47] (fun k => [(5, .own (some 1) (bools (jL N m (es.take k)))), (26, .sc (.int .i64 (k : Int)))]) (fun k => []) (fun k q => k ≤ es.length ∧ q = es.length - k) (0) (es.length) rfl (by first | (simp only [go_sem, updAll_cons, updAll_nil]; done) | with_reducible rfl | rfl) (⟨by omega, rfl⟩) ?_
  rintro k q ⟨hk, rfl⟩ X4 hn4 he4 hr4
  simp only [go_sem, updAll_cons, updAll_nil]
  rcases Nat.lt_or_ge k es.length with hk2 | hk2
  · have hdy : decide ((k : Int) < (es.length : Int)) = true := decide_eq_true (by omega)
    refine wlk_sreg fun KY hKY => ?_
    simp only [go_sem, c_mates_Right_r5, hdy]
    refine hKY _ ?_
    refine wlk_seq fun X5 hn5 he5 hr5 => ?_
    refine wlk_cond1 (by first | rfl | (simp only [go_sem]; try simp (disch := omega) only [decide_eq_true, decide_eq_false])) ?_
    refine wlk_skip ?_
    repeat (first | refine hn5 _ ?_ | refine he5 _ _ ?_ | refine he4 _ _ ?_ | refine hn3 _ ?_ | refine he3 _ ?_ | refine hf3 _ _ (by decide) ?_ | refine hn2 _ ?_ | refine he2 _ _ ?_ | refine hn1 _ ?_ | refine he1 _ _ ?_)
    refine wlk_seq fun X6 hn6 he6 hr6 => ?_
    refine wlk_blk fun X7 hn7 he7 hf7 hr7 => ?_
    have hx : es[k]? = some es[k] := List.getElem?_eq_getElem hk2
    have hxm : es[k] ∈ es := List.getElem_mem hk2
    generalize es[k] = x at hx hxm
    obtain ⟨a, b⟩ := x
    have hxc := castE_get hx
    have hok := g.ok (a, b) hxm
    simp only at hok
    have htk : es.take (k + 1) = es.take k ++ [(a, b)] := by rw [List.take_add_one, hx]; rfl
    have haN : a < N := by omega
    have hbN : b < N := hok.2
    refine wlk_sreg fun KY hKY => ?_
    simp only [go_sem, c_mates_Right_r6, (show k * 2 + 1 < es.length * 2 by omega), (show 1 < es.length * 2 - k * 2 by omega), two_cells hxc, List.length_drop, twos_len, castE_len]
    refine hKY _ ?_
    by_cases h1 : m.getD a 0 = (b : Int)
    · have d1 : decide (m.getD a 0 = (b : Int)) = true := decide_eq_true h1
      by_cases h2 : m.getD b 0 = (a : Int)
      · have d2 : decide (m.getD b 0 = (a : Int)) = true := decide_eq_true h2
        have hst := jL_yes (N := N) m (es.take k) ⟨h1, h2⟩
        rw [← htk] at hst
        refine wlk_sdraw fun KY hKY => ?_
        simp only [go_sem, c_mates_Right_r7, ints_get (show a < m.length by omega), ints_get (show b < m.length by omega), ints_len, hl, haN, hbN, d1, d2]
        refine hKY _ ?_
        refine wlk_cond1 (by first | rfl | (simp only [go_sem]; try simp (disch := omega) only [decide_eq_true, decide_eq_false])) ?_
        refine wlk_draw fun KY hKY => ?_
        simp only [go_sem, c_mates_Right_r8, bools_len, jL_len, haN, hbN, List.length_set, hst, (show ([0, 5] == [0, 7]) = false from rfl), Bool.not_false]
        refine hKY _ ?_
        repeat (first | refine hn7 _ ?_ | refine he7 _ ?_ | refine hf7 _ _ (by decide) ?_ | refine hn6 _ ?_ | refine he6 _ _ ?_ | refine hn5 _ ?_ | refine he5 _ _ ?_ | refine he4 _ _ ?_ | refine hn3 _ ?_ | refine he3 _ ?_ | refine hf3 _ _ (by decide) ?_ | refine hn2 _ ?_ | refine he2 _ _ ?_ | refine hn1 _ ?_ | refine he1 _ _ ?_)
        refine wlk_reg fun KY hKY => ?_
        simp only [go_sem, c_mates_Right_r9, incS (show k < 4611686018427387904 by omega)]
        refine hKY _ ?_
        repeat (first | refine hn7 _ ?_ | refine he7 _ ?_ | refine hf7 _ _ (by decide) ?_ | refine hn6 _ ?_ | refine he6 _ _ ?_ | refine hn5 _ ?_ | refine he5 _ _ ?_)
        refine hn4 _ (k + 1) (es.length - (k + 1)) (by omega) (by first | (simp only [go_sem, updAll_cons, updAll_nil]; done) | with_reducible rfl | rfl) ?_
        exact ⟨hk2, rfl⟩
      · have d2 : decide (m.getD b 0 = (a : Int)) = false := decide_eq_false h2
        have hst := jL_no (N := N) m (es.take k) (a := a) (b := b) fun h => h2 h.2
        rw [← htk] at hst
        refine wlk_sdraw fun KY hKY => ?_
        simp only [go_sem, c_mates_Right_r7, ints_get (show a < m.length by omega), ints_get (show b < m.length by omega), ints_len, hl, haN, hbN, d1, d2]
        refine hKY _ ?_
        refine wlk_cond0 (by first | rfl | (simp only [go_sem]; try simp (disch := omega) only [decide_eq_true, decide_eq_false])) ?_
        refine wlk_skip ?_
        repeat (first | refine hn7 _ ?_ | refine he7 _ ?_ | refine hf7 _ _ (by decide) ?_ | refine hn6 _ ?_ | refine he6 _ _ ?_ | refine hn5 _ ?_ | refine he5 _ _ ?_ | refine he4 _ _ ?_ | refine hn3 _ ?_ | refine he3 _ ?_ | refine hf3 _ _ (by decide) ?_ | refine hn2 _ ?_ | refine he2 _ _ ?_ | refine hn1 _ ?_ | refine he1 _ _ ?_)
        refine wlk_reg fun KY hKY => ?_
        simp only [go_sem, c_mates_Right_r9, incS (show k < 4611686018427387904 by omega)]
        refine hKY _ ?_
        repeat (first | refine hn7 _ ?_ | refine he7 _ ?_ | refine hf7 _ _ (by decide) ?_ | refine hn6 _ ?_ | refine he6 _ _ ?_ | refine hn5 _ ?_ | refine he5 _ _ ?_)
        refine hn4 _ (k + 1) (es.length - (k + 1)) (by omega) (by first | (simp only [go_sem, updAll_cons, updAll_nil, hst]; done) | with_reducible rfl | rfl) ?_
        exact ⟨hk2, rfl⟩
    · have d1 : decide (m.getD a 0 = (b : Int)) = false := decide_eq_false h1
      have hst := jL_no (N := N) m (es.take k) (a := a) (b := b) fun h => h1 h.1
      rw [← htk] at hst
      refine wlk_sdraw fun KY hKY => ?_
      simp only [go_sem, c_mates_Right_r7, ints_get (show a < m.length by omega), ints_len, hl, haN, hbN, d1]
      refine hKY _ ?_
      refine wlk_cond0 (by first | rfl | (simp only [go_sem]; try simp (disch := omega) only [decide_eq_true, decide_eq_false])) ?_
      refine wlk_skip ?_
      repeat (first | refine hn7 _ ?_ | refine he7 _ ?_ | refine hf7 _ _ (by decide) ?_ | refine hn6 _ ?_ | refine he6 _ _ ?_ | refine hn5 _ ?_ | refine he5 _ _ ?_ | refine he4 _ _ ?_ | refine hn3 _ ?_ | refine he3 _ ?_ | refine hf3 _ _ (by decide) ?_ | refine hn2 _ ?_ | refine he2 _ _ ?_ | refine hn1 _ ?_ | refine he1 _ _ ?_)
      refine wlk_reg fun KY hKY => ?_
      simp only [go_sem, c_mates_Right_r9, incS (show k < 4611686018427387904 by omega)]
      refine hKY _ ?_
      repeat (first | refine hn7 _ ?_ | refine he7 _ ?_ | refine hf7 _ _ (by decide) ?_ | refine hn6 _ ?_ | refine he6 _ _ ?_ | refine hn5 _ ?_ | refine he5 _ _ ?_)
      refine hn4 _ (k + 1) (es.length - (k + 1)) (by omega) (by first | (simp only [go_sem, updAll_cons, updAll_nil, hst]; done) | with_reducible rfl | rfl) ?_
      exact ⟨hk2, rfl⟩
  have hdx : decide ((k : Int) < (es.length : Int)) = false := decide_eq_false (by omega)
  refine wlk_sreg fun KY hKY => ?_
  simp only [go_sem, c_mates_Right_r5, hdx]
  refine hKY _ ?_
  refine wlk_seq fun X8 hn8 he8 hr8 => ?_
  refine wlk_cond0 (by first | rfl | (simp only [go_sem]; try simp (disch := omega) only [decide_eq_true, decide_eq_false])) ?_
  refine wlk_exit ?_
  repeat (first | refine hn8 _ ?_ | refine he8 _ _ ?_ | refine he4 _ _ ?_ | refine hn3 _ ?_ | refine he3 _ ?_ | refine hf3 _ _ (by decide) ?_ | refine hn2 _ ?_ | refine he2 _ _ ?_ | refine hn1 _ ?_ | refine he1 _ _ ?_)
  obtain rfl : k = es.length := by omega
  rw [List.take_length]
  refine wlk_seq fun X9 hn9 he9 hr9 => ?_
  refine wlk_sreg fun KY hKY => ?_
  simp only [go_sem, c_mates_Right_r10, ints_len, hl]
  refine hKY _ ?_
  refine wlk_blk fun X10 hn10 he10 hf10 hr10 => ?_
  try simp only [go_sem]
  refine wlk_lp (α := Nat) [8, 9, 60, 72] (fun v => [(59, .sc (.int .i64 (v : Int)))]) (fun v => []) (fun v q => v ≤ N ∧ q = N - v ∧ (∀ u, u < v → mOk es m u = true)) (0) (N) rfl (by first | (simp only [go_sem, updAll_cons, updAll_nil]; done) | with_reducible rfl | rfl) (⟨by omega, rfl, fun v h => by omega⟩) ?_
  rintro v q ⟨hv, rfl, hz⟩ X11 hn11 he11 hr11
  simp only [go_sem, updAll_cons, updAll_nil]
  rcases Nat.lt_or_ge v N with hv2 | hv2
  · have hdy : decide ((v : Int) < (N : Int)) = true := decide_eq_true (by omega)
    refine wlk_sreg fun KY hKY => ?_
    simp only [go_sem, c_mates_Right_r11, hdy]
    refine hKY _ ?_
    refine wlk_seq fun X12 hn12 he12 hr12 => ?_
    refine wlk_cond1 (by first | rfl | (simp only [go_sem]; try simp (disch := omega) only [decide_eq_true, decide_eq_false])) ?_
    refine wlk_skip ?_
    repeat (first | refine hn12 _ ?_ | refine he12 _ _ ?_ | refine he11 _ _ ?_ | refine hn10 _ ?_ | refine he10 _ ?_ | refine hf10 _ _ (by decide) ?_ | refine hn9 _ ?_ | refine he9 _ _ ?_ | refine hn8 _ ?_ | refine he8 _ _ ?_)
    refine wlk_seq fun X13 hn13 he13 hr13 => ?_
    refine wlk_blk fun X14 hn14 he14 hf14 hr14 => ?_
    refine wlk_sreg fun KY hKY => ?_
    simp only [go_sem, c_mates_Right_r12, ints_get (show v < m.length by omega), ints_len, hl, hv2]
    refine hKY _ ?_
    by_cases hw : m.getD v 0 = -1
    · have d1 : decide (m.getD v 0 ≠ -1) = false := decide_eq_false fun h => h hw
      have hok : mOk es m v = true := by unfold mOk; rw [decide_eq_true hw]; rfl
      refine wlk_sreg fun KY hKY => ?_
      simp only [go_sem, c_mates_Right_r13, d1]
      refine hKY _ ?_
      refine wlk_cond0 (by first | rfl | (simp only [go_sem]; try simp (disch := omega) only [decide_eq_true, decide_eq_false])) ?_
      refine wlk_skip ?_
      repeat (first | refine hn14 _ ?_ | refine he14 _ ?_ | refine hf14 _ _ (by decide) ?_ | refine hn13 _ ?_ | refine he13 _ _ ?_ | refine hn12 _ ?_ | refine he12 _ _ ?_ | refine he11 _ _ ?_ | refine hn10 _ ?_ | refine he10 _ ?_ | refine hf10 _ _ (by decide) ?_ | refine hn9 _ ?_ | refine he9 _ _ ?_ | refine hn8 _ ?_ | refine he8 _ _ ?_)
      refine wlk_reg fun KY hKY => ?_
      simp only [go_sem, c_mates_Right_r15, incS (show v < 4611686018427387904 by omega)]
      refine hKY _ ?_
      repeat (first | refine hn14 _ ?_ | refine he14 _ ?_ | refine hf14 _ _ (by decide) ?_ | refine hn13 _ ?_ | refine he13 _ _ ?_ | refine hn12 _ ?_ | refine he12 _ _ ?_)
      refine hn11 _ (v + 1) (N - (v + 1)) (by omega) (by first | (simp only [go_sem, updAll_cons, updAll_nil]; done) | with_reducible rfl | rfl) ?_
      refine ⟨hv2, rfl, fun u hu => ?_⟩
      rcases Nat.lt_or_ge u v with h3 | h3
      · exact hz u h3
      · obtain rfl : u = v := by omega
        exact hok
    · have d1 : decide (m.getD v 0 ≠ -1) = true := decide_eq_true hw
      have hj := jAt_ok g m hw
      have hjl := jL_len N m es
      have hg := bools_get (show v < (jL N m es).length by omega)
      rw [jL_get m es hv2, hj] at hg
      cases hok : mOk es m v with
      | true =>
        rw [hok] at hg
        refine wlk_sreg fun KY hKY => ?_
        simp only [go_sem, c_mates_Right_r13, d1, hg, bools_len, hjl, hv2]
        refine hKY _ ?_
        refine wlk_cond0 (by first | rfl | (simp only [go_sem]; try simp (disch := omega) only [decide_eq_true, decide_eq_false])) ?_
        refine wlk_skip ?_
        repeat (first | refine hn14 _ ?_ | refine he14 _ ?_ | refine hf14 _ _ (by decide) ?_ | refine hn13 _ ?_ | refine he13 _ _ ?_ | refine hn12 _ ?_ | refine he12 _ _ ?_ | refine he11 _ _ ?_ | refine hn10 _ ?_ | refine he10 _ ?_ | refine hf10 _ _ (by decide) ?_ | refine hn9 _ ?_ | refine he9 _ _ ?_ | refine hn8 _ ?_ | refine he8 _ _ ?_)
        refine wlk_reg fun KY hKY => ?_
        simp only [go_sem, c_mates_Right_r15, incS (show v < 4611686018427387904 by omega)]
        refine hKY _ ?_
        repeat (first | refine hn14 _ ?_ | refine he14 _ ?_ | refine hf14 _ _ (by decide) ?_ | refine hn13 _ ?_ | refine he13 _ _ ?_ | refine hn12 _ ?_ | refine he12 _ _ ?_)
        refine hn11 _ (v + 1) (N - (v + 1)) (by omega) (by first | (simp only [go_sem, updAll_cons, updAll_nil]; done) | with_reducible rfl | rfl) ?_
        refine ⟨hv2, rfl, fun u hu => ?_⟩
        rcases Nat.lt_or_ge u v with h3 | h3
        · exact hz u h3
        · obtain rfl : u = v := by omega
          exact hok
      | false =>
        rw [hok] at hg
        refine wlk_sreg fun KY hKY => ?_
        simp only [go_sem, c_mates_Right_r13, d1, hg, bools_len, hjl, hv2]
        refine hKY _ ?_
        refine wlk_cond1 (by first | rfl | (simp only [go_sem]; try simp (disch := omega) only [decide_eq_true, decide_eq_false])) ?_
        refine wlk_sreg fun KY hKY => ?_
        simp only [go_sem, c_mates_Right_r14]
        refine hKY _ ?_
        refine wlk_ret ?_
        repeat (first | refine hr14 _ ?_ | refine hr13 _ ?_ | refine hr12 _ ?_ | refine hr11 _ ?_ | refine hr10 _ ?_ | refine hr9 _ ?_ | refine hr8 _ ?_ | refine hr4 _ ?_ | refine hr3 _ ?_ | refine hr2 _ ?_ | refine hr1 _ ?_)
        simp only [go_sem]
        rw [all_no hv2 hok]
  have hdz : decide ((v : Int) < (N : Int)) = false := decide_eq_false (by omega)
  refine wlk_sreg fun KY hKY => ?_
  simp only [go_sem, c_mates_Right_r11, hdz]
  refine hKY _ ?_
  refine wlk_seq fun X15 hn15 he15 hr15 => ?_
  refine wlk_cond0 (by first | rfl | (simp only [go_sem]; try simp (disch := omega) only [decide_eq_true, decide_eq_false])) ?_
  refine wlk_exit ?_
  repeat (first | refine hn15 _ ?_ | refine he15 _ _ ?_ | refine he11 _ _ ?_ | refine hn10 _ ?_ | refine he10 _ ?_ | refine hf10 _ _ (by decide) ?_ | refine hn9 _ ?_ | refine he9 _ _ ?_ | refine hn8 _ ?_ | refine he8 _ _ ?_ | refine he4 _ _ ?_ | refine hn3 _ ?_ | refine he3 _ ?_ | refine hf3 _ _ (by decide) ?_ | refine hn2 _ ?_ | refine he2 _ _ ?_ | refine hn1 _ ?_ | refine he1 _ _ ?_)
  obtain rfl : v = N := by omega
  refine wlk_sreg fun KY hKY => ?_
  simp only [go_sem, c_mates_Right_r16]
  refine hKY _ ?_
  refine wlk_ret ?_
  repeat (first | refine hr15 _ ?_ | refine hr11 _ ?_ | refine hr10 _ ?_ | refine hr9 _ ?_ | refine hr8 _ ?_ | refine hr4 _ ?_ | refine hr3 _ ?_ | refine hr2 _ ?_ | refine hr1 _ ?_)
  simp only [go_sem]
  rw [show ((List.range v).all fun v => mOk es m v) = true from List.all_eq_true.2 fun u hu => hz u (List.mem_range.1 hu)]
end Go.Proofs.Ytkjppnofgmpeeaa

namespace Go.Ga.Gl
open Go Go.Ga
structure Fc (n : Nat) (E : Nat → Nat → Prop) (mt : Nat → Int) (D A : Nat → Bool) (bs : Nat → Nat) : Prop where
  m : Mf n E mt
  c : Cert n E mt D A bs
  d : ∀ v, D v = true → ∃ mt', Mf n E mt' ∧ fre n mt' ≤ fre n mt ∧ mt' v = -1
  a : ∀ v, A v = true → ∃ w, D w = true ∧ E v w
theorem done_fc {n : Nat} {E : Nat → Nat → Prop} {mt : Nat → Int} {S : FS} (M : Mf n E mt) (I : Inv n E mt S) (L : Lk E S []) : Fc n E mt S.out (odd2 S) S.bs where
  m := M
  c := I.cert M L
  d := fun v hv => miss M I hv
  a := fun v hv => by
    obtain ⟨h1, h2⟩ := odd2_iff.1 hv
    obtain ⟨_, x, k1, k2, k3, k4, k5, k6⟩ := I.od v h1
    exact ⟨S.pr v, k4, k5⟩
theorem Fc.dm {n : Nat} {E : Nat → Nat → Prop} {mt : Nat → Int} {D A : Nat → Bool} {bs : Nat → Nat} (F : Fc n E mt D A bs) (v : Nat) : D v = true ↔ Dm n E v := F.c.dm_iff F.m F.d v
theorem Fc.lab {n : Nat} {E : Nat → Nat → Prop} {mt : Nat → Int} {D A : Nat → Bool} {bs : Nat → Nat} (F : Fc n E mt D A bs) (v : Nat) : glab n E v = if D v = true then 1 else if A v = true then 2 else 0 := by
  unfold glab
  by_cases h : D v = true
  · rw [if_pos h, if_pos ((F.dm v).1 h)]
  · rw [if_neg h, if_neg (fun e => h ((F.dm v).2 e))]
    by_cases h2 : A v = true
    · obtain ⟨w, h3, h4⟩ := F.a v h2
      rw [if_pos h2, if_pos ⟨w, (F.dm w).1 h3, h4⟩]
    · rw [if_neg h2, if_neg]
      rintro ⟨w, h3, h4⟩
      rcases F.c.ed w v ((F.dm w).2 h3) (F.m.es _ _ h4) with h5 | ⟨h5, _⟩
      · exact h2 h5
      · exact h h5
theorem Mf.mono {n : Nat} {E E' : Nat → Nat → Prop} {mt : Nat → Int} (M : Mf n E mt) (h : ∀ v w, E v w → E' v w) (hs : ∀ v w, E' v w → E' w v) (hl : ∀ v w, E' v w → v < n ∧ w < n ∧ v ≠ w) : Mf n E' mt :=
  ⟨M.at_, M.big, M.sy, fun v w e => ⟨(M.ne v w e).1, h _ _ (M.ne v w e).2⟩, hs, hl⟩
theorem Fc.more {n : Nat} {E E' : Nat → Nat → Prop} {mt : Nat → Int} {D A : Nat → Bool} {bs : Nat → Nat} (F : Fc n E mt D A bs) (h : ∀ v w, E v w → E' v w) (hs : ∀ v w, E' v w → E' w v) (hl : ∀ v w, E' v w → v < n ∧ w < n ∧ v ≠ w) (he : ∀ v w, D v = true → E' v w → A w = true ∨ (D w = true ∧ bs w = bs v)) : Fc n E' mt D A bs where
  m := F.m.mono h hs hl
  c := ⟨F.c.dn, F.c.an, he, F.c.db, F.c.fr, F.c.am, F.c.dm, F.c.bb⟩
  d := fun v hv => by
    obtain ⟨mt', h1, h2, h3⟩ := F.d v hv
    exact ⟨mt', h1.mono h hs hl, h2, h3⟩
  a := fun v hv => by
    obtain ⟨w, h1, h2⟩ := F.a v hv
    exact ⟨w, h1, h _ _ h2⟩
structure Bsd (N M : Nat) (E1 E2 E : Nat → Nat → Prop) : Prop where
  lo : ∀ v w, v < N → (E v w ↔ E1 v w)
  hi : ∀ v w, ¬ v < N → (E v w ↔ N ≤ w ∧ E2 (v - N) (w - N))
end Go.Ga.Gl

namespace Go.Ga.Gl
open Go Go.Ga
noncomputable def prt (n : Nat) (E : Nat → Nat → Prop) (x : Nat) : List Nat := (List.range n).filter fun v => decide (glab n E v = x)
end Go.Ga.Gl
set_option maxRecDepth 100000
set_option maxHeartbeats 4000000
namespace Go.Proofs.Ytkjppnofgmpeeaa
open Go Go.Ga Go.Ga.Gl
noncomputable def glabs (N : Nat) (es : Es) : List Int := (List.range N).map fun v => (glab N (adj es) v : Int)
theorem labs_glabs {N : Nat} {es : Es} {m : List Int} {S : FS} (M : Mf N (adj es) (mf m)) (I : Inv N (adj es) (mf m) S) (L : Lk (adj es) S []) : labs N S = glabs N es := by
  apply List.map_congr_left
  intro v _
  have := done_lab M I L v
  unfold fLb
  rw [← this]
  split <;> rfl
theorem glabs_sel (N : Nat) (es : Es) (x : Nat) : ((List.range (glabs N es).length).filter fun v => decide ((glabs N es).getD v 0 = (x : Int))) = prt N (adj es) x := by
  have hl : (glabs N es).length = N := by simp [glabs]
  rw [hl]
  refine List.filter_congr fun v hv => ?_
  have hv := List.mem_range.1 hv
  have : (glabs N es).getD v 0 = (glab N (adj es) v : Int) := by simp [glabs, hv]
  rw [this]
  exact decide_eq_decide.2 ⟨fun h => by omega, fun h => by omega⟩
theorem mOk_mf {N : Nat} {es : Es} (g : GR N es) {m : List Int} (M : Mf N (adj es) (mf m)) (hml : m.length = N) : ((List.range N).all fun v => mOk es m v) = true := by
  rw [List.all_eq_true]
  intro v hv
  have hv := List.mem_range.1 hv
  unfold mOk
  rw [mf_get (by omega)]
  rcases M.at_ v hv with h | ⟨w, h, hw⟩
  · rw [h]; rfl
  · have hs := M.sy v w h
    have hadj := (M.ne v w h).2
    obtain ⟨_, _, hne⟩ := M.el v w hadj
    rw [h, Int.toNat_natCast, mf_get (by omega), hs, decide_eq_true (rfl : (v : Int) = v), Bool.and_true]
    have hmem : turnI (v : Int) (w : Int) ∈ castE es := by
      unfold turnI
      have lt : ∀ a b : Nat, (a, b) ∈ es → a < b := fun a b h => by
        exact (g.ok _ h).1
      rcases hadj with h | h
      · have := lt _ _ h
        rw [if_neg (by omega)]
        exact List.mem_map.2 ⟨(v, w), h, rfl⟩
      · have := lt _ _ h
        rw [if_pos (by omega)]
        exact List.mem_map.2 ⟨(w, v), h, rfl⟩
    rw [decide_eq_true hmem, Bool.or_true]
theorem Lg.no {N : Nat} {E : Nat → Nat → Prop} {mt : Nat → Int} (L : Lg N E mt) {l : List Nat} (A : Aug N E mt l) : False := by
  obtain ⟨M2, hfr, r, hrn, hr1, hr2⟩ := turn_mf L.1 A (mt' := fun u => if u ∈ l then (par l u : Int) else mt u) (fun u hu => if_pos hu) (fun u hu => if_neg hu)
  have h1 := fre_less hrn hr1 hr2 hfr
  have h2 := L.2 _ M2
  omega
theorem path_ok {N : Nat} {es : Es} (g : GR N es) (m : List Int) (hml : m.length = N) (hL : Lg N (adj es) (mf m)) : ACalls Try.prog [] n_single_Path [.agg [.sc (.int .i64 (N : Int)), .imm 2 (twos (castE es))], .imm 1 (ints m)] [] fun r h' => r = .tup [.sc (.slice none 0 0), .own (some 1) (ints (glabs N es)), .sc (.int .i64 0)] ∧ h' = [] := by
  have hN := g.hn
  have hr := rightB_GR g
  have M := hL.1
  have hm := mOk_mf g M hml
  have hS : ACalls Try.prog [] n_single_Search [.imm 1 (rowsI (near N es)), .imm 1 (ints m)] [] fun r h' => h' = [] ∧ ∃ lk : Int, r = .tup [.sc (.slice none 0 0), .own (some 1) (ints (glabs N es)), .sc (.int .i64 lk)] := by
    refine (search_ok (near N es) (near_len N es) hml hN (near_r g) M (near_e es)).mono ?_
    rintro r h' ⟨rfl, lk, ⟨l, hA, rfl⟩ | ⟨S, hI, hLk, rfl⟩⟩
    · exact (Lg.no hL hA).elim
    · exact ⟨rfl, lk, by rw [labs_glabs M hI hLk]⟩
  refine go_single_Path rfl ?_
  unfold c_single_Path v_single_Path
  refine wlk_sreg fun KY hKY => ?_
  simp only [go_sem, c_single_Path_r0]
  refine hKY _ ?_
  refine wlk_seq fun X1 hn1 he1 hr1 => ?_
  refine wlk_blk fun X2 hn2 he2 hf2 hr2 => ?_
  refine wlk_sreg fun KY hKY => ?_
  simp only [go_sem, c_single_Path_r1]
  refine call_view rfl (by simp only [go_sem] <;> rfl) ((right_ok N (castE es)).mono ?_)
  rintro rr hh ⟨rfl, rfl⟩
  refine ⟨rfl, rfl, rfl, ?_⟩
  simp only [go_sem, hr]
  refine hKY _ ?_
  refine wlk_cond0 (by first | rfl | (simp only [go_sem]; try simp (disch := omega) only [decide_eq_true, decide_eq_false])) ?_
  refine wlk_sreg fun KY hKY => ?_
  simp only [go_sem, c_single_Path_r3]
  refine call_view rfl (by simp only [go_sem] <;> rfl) ((mright_yes g m hml).mono ?_)
  rintro rr hh ⟨rfl, rfl⟩
  refine ⟨rfl, rfl, rfl, ?_⟩
  simp only [go_sem, hm]
  refine hKY _ ?_
  refine wlk_cond0 (by first | rfl | (simp only [go_sem]; try simp (disch := omega) only [decide_eq_true, decide_eq_false])) ?_
  refine wlk_skip ?_
  repeat (first | refine hn2 _ ?_ | refine he2 _ ?_ | refine hf2 _ _ (by decide) ?_ | refine hn1 _ ?_ | refine he1 _ _ ?_)
  refine wlk_sreg fun KY hKY => ?_
  simp only [go_sem, c_single_Path_r5]
  apply call_gen [] [] true none rfl
  iterate 8 (first | (simp only [go_sem, watchIn] <;> rfl) | rfl)
  refine (lists_ok g).mono ?_
  rintro _ _ ⟨rfl, rfl⟩
  refine ⟨Nat.le_of_ble_eq_true rfl, (fun _ => by simp only [go_sem, flatH, and_self]), ?_⟩
  simp only [go_sem, callOut, AState.after]
  apply call_gen [] [] true none rfl
  iterate 8 (first | (simp only [go_sem, watchIn] <;> rfl) | rfl)
  refine (hS).mono ?_
  rintro _ _ ⟨rfl, lk, rfl⟩
  refine ⟨Nat.le_of_ble_eq_true rfl, (fun _ => by simp only [go_sem, flatH, and_self]), ?_⟩
  simp only [go_sem, callOut, AState.after]
  refine hKY _ ?_
  refine wlk_sreg fun KY hKY => ?_
  simp only [go_sem, c_single_Path_r6]
  refine hKY _ ?_
  refine wlk_ret ?_
  repeat (first | refine hr2 _ ?_ | refine hr1 _ ?_)
  simp only [go_sem]
end Go.Proofs.Ytkjppnofgmpeeaa
set_option maxRecDepth 100000
set_option maxHeartbeats 4000000
namespace Go.Proofs.Ytkjppnofgmpeeaa
open Go Go.Ga Go.Ga.Gl
def sel (φ : Nat → Bool) (k : Nat) : List Nat := (List.range k).filter φ
theorem sel_len (φ : Nat → Bool) (k : Nat) : (sel φ k).length ≤ k := Nat.le_trans (List.length_filter_le _ _) (by simp)
theorem sel_step (φ : Nat → Bool) (k : Nat) : sel φ (k + 1) = sel φ k ++ if φ k = true then [k] else [] := by
  unfold sel
  rw [List.range_succ, List.filter_append]; congr 1; simp [List.filter_cons]
end Go.Proofs.Ytkjppnofgmpeeaa
set_option maxRecDepth 100000
set_option maxHeartbeats 4000000
namespace Go.Proofs.Ytkjppnofgmpeeaa
open Go Go.Ga Go.Ga.Gl
theorem blabels_no (n : Int) (es : List (Int × Int)) (h : rightB n es = false) : ACalls Try.prog [] n_barrier_Labels [.agg [.sc (.int .i64 n), .imm 2 (twos es)]] [] fun r h' => r = .tup [.sc (.slice none 0 0), .sc (.slice none 0 0), .sc (.int .i64 3)] ∧ h' = [] := by
  refine go_barrier_Labels rfl ?_
  unfold c_barrier_Labels v_barrier_Labels
  refine wlk_sreg fun KY hKY => ?_
  simp only [go_sem, c_barrier_Labels_r0]
  refine hKY _ ?_
  refine wlk_sreg fun KY hKY => ?_
  simp only [go_sem, c_barrier_Labels_r1]
  apply call_gen [] [] false none rfl
  iterate 8 (first | (simp only [go_sem, watchIn] <;> rfl) | rfl)
  refine (largest_no n es h).mono ?_
  rintro _ _ ⟨rfl, rfl⟩
  refine ⟨Nat.le_of_ble_eq_true rfl, (fun hh => by cases hh), ?_⟩
  simp only [go_sem, callOut, AState.after]
  refine hKY _ ?_
  refine wlk_seq fun X1 hn1 he1 hr1 => ?_
  refine wlk_sreg fun KY hKY => ?_
  simp only [go_sem, c_barrier_Labels_r2]
  refine hKY _ ?_
  refine wlk_cond1 (by first | rfl | (simp only [go_sem]; try simp (disch := omega) only [decide_eq_true, decide_eq_false])) ?_
  refine wlk_sreg fun KY hKY => ?_
  simp only [go_sem, c_barrier_Labels_r3]
  refine hKY _ ?_
  refine wlk_ret ?_
  repeat (first | refine hr1 _ ?_)
  simp only [go_sem]
theorem blabels_ok {N : Nat} {es : Es} (g : GR N es) : ACalls Try.prog [] n_barrier_Labels [.agg [.sc (.int .i64 (N : Int)), .imm 2 (twos (castE es))]] [] fun r h' => ∃ (m : List Int), m.length = N ∧ (∃ D A bs, Fc N (adj es) (mf m) D A bs) ∧ ((N = 0 ∧ r = .tup [.own (some 1) (ints (glabs N es)), .own (some 1) [], .sc (.int .i64 0)] ∧ h' = []) ∨ (0 < N ∧ r = .tup [.own (some 1) (ints (glabs N es)), .sl 0 0 N 1, .sc (.int .i64 0)] ∧ h' = [some (ints m)])) := by
  have hP := fun m hml hL => path_ok g m hml hL
  refine go_barrier_Labels rfl ?_
  unfold c_barrier_Labels v_barrier_Labels
  refine wlk_sreg fun KY hKY => ?_
  simp only [go_sem, c_barrier_Labels_r0]
  refine hKY _ ?_
  refine wlk_sreg fun KY hKY => ?_
  simp only [go_sem, c_barrier_Labels_r1]
  apply call_gen [] [] false none rfl
  iterate 8 (first | (simp only [go_sem, watchIn] <;> rfl) | rfl)
  refine (largest_ok g).mono ?_
  rintro _ _ ⟨m, S, a, b, hml, M, I, L, ⟨h0, rfl, rfl⟩ | ⟨h0, rfl, rfl⟩⟩
  · have hLg := done_lg M I L
    have hm0 : ints m = [] := by
      rw [List.length_eq_zero_iff.1 (hml.trans h0)]; rfl
    have hP1 := hP m hml hLg
    rw [hm0] at hP1
    refine ⟨Nat.le_of_ble_eq_true rfl, (fun hh => by cases hh), ?_⟩
    simp only [go_sem, callOut, AState.after]
    refine hKY _ ?_
    refine wlk_seq fun X1 hn1 he1 hr1 => ?_
    refine wlk_sreg fun KY hKY => ?_
    simp only [go_sem, c_barrier_Labels_r2]
    refine hKY _ ?_
    refine wlk_cond0 (by first | rfl | (simp only [go_sem]; try simp (disch := omega) only [decide_eq_true, decide_eq_false])) ?_
    refine wlk_skip ?_
    repeat (first | refine hn1 _ ?_ | refine he1 _ _ ?_)
    refine wlk_sreg fun KY hKY => ?_
    simp only [go_sem, c_barrier_Labels_r4]
    apply call_gen [] [] true none rfl
    iterate 8 (first | (simp only [go_sem, watchIn] <;> rfl) | rfl)
    refine (hP1).mono ?_
    rintro _ _ ⟨rfl, rfl⟩
    refine ⟨Nat.le_of_ble_eq_true rfl, (fun _ => by simp only [go_sem, flatH, and_self]), ?_⟩
    simp only [go_sem, callOut, AState.after]
    refine hKY _ ?_
    refine wlk_sreg fun KY hKY => ?_
    simp only [go_sem, c_barrier_Labels_r5]
    refine hKY _ ?_
    refine wlk_ret ?_
    repeat (first | refine hr1 _ ?_)
    simp only [go_sem]
    exact ⟨m, hml, ⟨_, _, _, done_fc M I L⟩, .inl h0⟩
  · have hLg := done_lg M I L
    have hP1 := hP m hml hLg
    have htk : List.take N (ints m) = ints m := List.take_of_length_le (by rw [ints_len]; omega)
    refine ⟨Nat.le_of_ble_eq_true rfl, (fun hh => by cases hh), ?_⟩
    simp only [go_sem, callOut, AState.after]
    refine hKY _ ?_
    refine wlk_seq fun X2 hn2 he2 hr2 => ?_
    refine wlk_sreg fun KY hKY => ?_
    simp only [go_sem, c_barrier_Labels_r2]
    refine hKY _ ?_
    refine wlk_cond0 (by first | rfl | (simp only [go_sem]; try simp (disch := omega) only [decide_eq_true, decide_eq_false])) ?_
    refine wlk_skip ?_
    repeat (first | refine hn2 _ ?_ | refine he2 _ _ ?_)
    refine wlk_sreg fun KY hKY => ?_
    simp only [go_sem, c_barrier_Labels_r4]
    refine call_view rfl (by simp only [go_sem, hml, Nat.le_refl, htk] <;> rfl) ((hP1).mono ?_)
    rintro rr hh ⟨rfl, rfl⟩
    refine ⟨?_, ?_, ?_, ?_⟩
    iterate 3 (first | rfl | simp only [go_sem])
    simp only [go_sem]
    refine hKY _ ?_
    refine wlk_sreg fun KY hKY => ?_
    simp only [go_sem, c_barrier_Labels_r5]
    refine hKY _ ?_
    refine wlk_ret ?_
    repeat (first | refine hr2 _ ?_)
    simp only [go_sem]
    exact ⟨m, hml, ⟨_, _, _, done_fc M I L⟩, .inr ⟨h0, rfl⟩⟩
def selZ (l : List Int) (x : Int) : List Nat := sel (fun v => decide (l.getD v 0 = x)) l.length
theorem bsuch_ok (l : List Int) (x : Int) (hl : l.length ≤ 100000) : ACalls Try.prog [] n_barrier_Such [.imm 1 (ints l), .sc (.int .i64 x)] [] fun r h' => r = .own (some 1) (nats (selZ l x)) ∧ h' = [] := by
  refine go_barrier_Such rfl ?_
  unfold c_barrier_Such v_barrier_Such
  refine wlk_sreg fun KY hKY => ?_
  simp only [go_sem, c_barrier_Such_r0]
  refine hKY _ ?_
  refine wlk_sreg fun KY hKY => ?_
  simp only [go_sem, c_barrier_Such_r1]
  refine hKY _ ?_
  refine sem_nil [0, 5] 1 (by simp only [go_sem]) ?_
  simp only [go_sem]
  rw [show AVal.own (some 1) [] = .own (some 1) (nats (sel (fun v => decide (l.getD v 0 = x)) 0)) from rfl]
  refine wlk_seq fun X1 hn1 he1 hr1 => ?_
  refine wlk_sreg fun KY hKY => ?_
  simp only [go_sem, c_barrier_Such_r2, ints_len]
  refine hKY _ ?_
  refine wlk_blk fun X2 hn2 he2 hf2 hr2 => ?_
  try simp only [go_sem]
  refine wlk_lp (α := Nat) [6, 7, 11, 17] (fun k => [(5, .own (some 1) (nats (sel (fun v => decide (l.getD v 0 = x)) k))), (10, .sc (.int .i64 (k : Int)))]) (fun k => []) (fun k q => k ≤ l.length ∧ q = l.length - k) (0) (l.length) rfl (by first | (simp only [go_sem, updAll_cons, updAll_nil]; done) | with_reducible rfl | rfl) (⟨Nat.zero_le _, rfl⟩) ?_
  rintro k q ⟨hk, rfl⟩ X3 hn3 he3 hr3
  simp only [go_sem, updAll_cons, updAll_nil]
  have hsl := sel_len (fun v => decide (l.getD v 0 = x)) k
  have hst := sel_step (fun v => decide (l.getD v 0 = x)) k
  rcases Nat.lt_or_ge k l.length with hk2 | hk2
  · have hdx : decide ((k : Int) < (l.length : Int)) = true := decide_eq_true (by omega)
    have hg : (ints l)[k]? = some (.sc (.int .i64 (l.getD k 0))) := ints_get hk2
    refine wlk_sreg fun KY hKY => ?_
    simp only [go_sem, c_barrier_Such_r3, hdx]
    refine hKY _ ?_
    refine wlk_seq fun X4 hn4 he4 hr4 => ?_
    refine wlk_cond1 (by first | rfl | (simp only [go_sem]; try simp (disch := omega) only [decide_eq_true, decide_eq_false])) ?_
    refine wlk_skip ?_
    repeat (first | refine hn4 _ ?_ | refine he4 _ _ ?_ | refine he3 _ _ ?_ | refine hn2 _ ?_ | refine he2 _ ?_ | refine hf2 _ _ (by decide) ?_ | refine hn1 _ ?_ | refine he1 _ _ ?_)
    refine wlk_seq fun X5 hn5 he5 hr5 => ?_
    refine wlk_blk fun X6 hn6 he6 hf6 hr6 => ?_
    refine wlk_sreg fun KY hKY => ?_
    simp only [go_sem, c_barrier_Such_r4, hg, ints_len, hk2]
    refine hKY _ ?_
    by_cases hx : l.getD k 0 = x
    · have hd : decide (l.getD k 0 = x) = true := decide_eq_true hx
      rw [hd, if_pos rfl] at hst
      refine wlk_sreg fun KY hKY => ?_
      simp only [go_sem, c_barrier_Such_r5, hd]
      refine hKY _ ?_
      refine wlk_cond1 (by first | rfl | (simp only [go_sem]; try simp (disch := omega) only [decide_eq_true, decide_eq_false])) ?_
      refine wlk_reg fun KY hKY => ?_
      simp only [go_sem, c_barrier_Such_r6, nats_snoc, nats_len, ← hst, (show ((sel (fun v => decide (l.getD v 0 = x)) k).length + 1) * 8 ≤ 140737488355328 by omega)]
      refine hKY _ ?_
      repeat (first | refine hn6 _ ?_ | refine he6 _ ?_ | refine hf6 _ _ (by decide) ?_ | refine hn5 _ ?_ | refine he5 _ _ ?_ | refine hn4 _ ?_ | refine he4 _ _ ?_ | refine he3 _ _ ?_ | refine hn2 _ ?_ | refine he2 _ ?_ | refine hf2 _ _ (by decide) ?_ | refine hn1 _ ?_ | refine he1 _ _ ?_)
      refine wlk_reg fun KY hKY => ?_
      simp only [go_sem, c_barrier_Such_r7, incS (show k < 4611686018427387904 by omega)]
      refine hKY _ ?_
      repeat (first | refine hn6 _ ?_ | refine he6 _ ?_ | refine hf6 _ _ (by decide) ?_ | refine hn5 _ ?_ | refine he5 _ _ ?_ | refine hn4 _ ?_ | refine he4 _ _ ?_)
      refine hn3 _ (k + 1) (l.length - (k + 1)) (by omega) (by first | (simp only [go_sem, updAll_cons, updAll_nil]; done) | with_reducible rfl) ?_
      exact ⟨hk2, rfl⟩
    · have hd : decide (l.getD k 0 = x) = false := decide_eq_false hx
      rw [hd, if_neg (by simp), List.append_nil] at hst
      refine wlk_sreg fun KY hKY => ?_
      simp only [go_sem, c_barrier_Such_r5, hd]
      refine hKY _ ?_
      refine wlk_cond0 (by first | rfl | (simp only [go_sem]; try simp (disch := omega) only [decide_eq_true, decide_eq_false])) ?_
      refine wlk_skip ?_
      repeat (first | refine hn6 _ ?_ | refine he6 _ ?_ | refine hf6 _ _ (by decide) ?_ | refine hn5 _ ?_ | refine he5 _ _ ?_ | refine hn4 _ ?_ | refine he4 _ _ ?_ | refine he3 _ _ ?_ | refine hn2 _ ?_ | refine he2 _ ?_ | refine hf2 _ _ (by decide) ?_ | refine hn1 _ ?_ | refine he1 _ _ ?_)
      refine wlk_reg fun KY hKY => ?_
      simp only [go_sem, c_barrier_Such_r7, incS (show k < 4611686018427387904 by omega)]
      refine hKY _ ?_
      repeat (first | refine hn6 _ ?_ | refine he6 _ ?_ | refine hf6 _ _ (by decide) ?_ | refine hn5 _ ?_ | refine he5 _ _ ?_ | refine hn4 _ ?_ | refine he4 _ _ ?_)
      refine hn3 _ (k + 1) (l.length - (k + 1)) (by omega) (by first | (simp only [go_sem, updAll_cons, updAll_nil, hst]; done) | with_reducible rfl) ?_
      exact ⟨hk2, rfl⟩
  have hdx : decide ((k : Int) < (l.length : Int)) = false := decide_eq_false (by omega)
  obtain rfl : k = l.length := by omega
  refine wlk_sreg fun KY hKY => ?_
  simp only [go_sem, c_barrier_Such_r3, hdx]
  refine hKY _ ?_
  refine wlk_seq fun X7 hn7 he7 hr7 => ?_
  refine wlk_cond0 (by first | rfl | (simp only [go_sem]; try simp (disch := omega) only [decide_eq_true, decide_eq_false])) ?_
  refine wlk_exit ?_
  repeat (first | refine hn7 _ ?_ | refine he7 _ _ ?_ | refine he3 _ _ ?_ | refine hn2 _ ?_ | refine he2 _ ?_ | refine hf2 _ _ (by decide) ?_ | refine hn1 _ ?_ | refine he1 _ _ ?_)
  refine wlk_sreg fun KY hKY => ?_
  simp only [go_sem, c_barrier_Such_r8]
  refine hKY _ ?_
  refine wlk_ret ?_
  repeat (first | refine hr7 _ ?_ | refine hr3 _ ?_ | refine hr2 _ ?_ | refine hr1 _ ?_)
  simp only [go_sem]
  rfl
theorem lsuch_ok (l : List Int) (x : Int) (hl : l.length ≤ 100000) : ACalls Try.prog [] n_gallai_labels_such [.imm 1 (ints l), .sc (.int .i64 x)] [] fun r h' => r = .own (some 1) (nats (selZ l x)) ∧ h' = [] := by
  refine go_gallai_labels_such rfl ?_
  unfold c_gallai_labels_such v_gallai_labels_such
  refine wlk_sreg fun KY hKY => ?_
  simp only [go_sem, c_gallai_labels_such_r0]
  refine hKY _ ?_
  refine wlk_sreg fun KY hKY => ?_
  simp only [go_sem, c_gallai_labels_such_r1]
  apply call_gen [] [] false none rfl
  iterate 8 (first | (simp only [go_sem, watchIn] <;> rfl) | rfl)
  refine (bsuch_ok l x hl).mono ?_
  rintro _ _ ⟨rfl, rfl⟩
  refine ⟨Nat.le_of_ble_eq_true rfl, (fun hh => by cases hh), ?_⟩
  simp only [go_sem, callOut, AState.after]
  refine hKY _ ?_
  refine wlk_ret ?_
  simp only [go_sem]
theorem gof_no (n : Int) (es : List (Int × Int)) (h : rightB n es = false) : ACalls Try.prog [] n_gallai_Of [.agg [.sc (.int .i64 n), .imm 2 (twos es)]] [] fun r h' => r = .tup [.agg [.sc (.slice none 0 0), .sc (.slice none 0 0), .sc (.slice none 0 0)], .sc (.int .i64 3)] ∧ h' = [] := by
  refine go_gallai_Of rfl ?_
  unfold c_gallai_Of v_gallai_Of
  refine wlk_sreg fun KY hKY => ?_
  simp only [go_sem, c_gallai_Of_r0]
  refine hKY _ ?_
  refine wlk_sreg fun KY hKY => ?_
  simp only [go_sem, c_gallai_Of_r1]
  apply call_gen [] [] false none rfl
  iterate 8 (first | (simp only [go_sem, watchIn] <;> rfl) | rfl)
  refine (blabels_no n es h).mono ?_
  rintro _ _ ⟨rfl, rfl⟩
  refine ⟨Nat.le_of_ble_eq_true rfl, (fun hh => by cases hh), ?_⟩
  simp only [go_sem, callOut, AState.after]
  refine hKY _ ?_
  refine wlk_seq fun X1 hn1 he1 hr1 => ?_
  refine wlk_sreg fun KY hKY => ?_
  simp only [go_sem, c_gallai_Of_r2]
  refine hKY _ ?_
  refine wlk_cond1 (by first | rfl | (simp only [go_sem]; try simp (disch := omega) only [decide_eq_true, decide_eq_false])) ?_
  refine wlk_sreg fun KY hKY => ?_
  simp only [go_sem, c_gallai_Of_r3]
  refine hKY _ ?_
  refine wlk_ret ?_
  repeat (first | refine hr1 _ ?_)
  simp only [go_sem]
theorem gof_ok {N : Nat} {es : Es} (g : GR N es) : ACalls Try.prog [] n_gallai_Of [.agg [.sc (.int .i64 (N : Int)), .imm 2 (twos (castE es))]] [] fun r h' => r = .tup [.agg [.imm 1 (nats (prt N (adj es) 1)), .imm 1 (nats (prt N (adj es) 2)), .imm 1 (nats (prt N (adj es) 0))], .sc (.int .i64 0)] ∧ (∃ mt D A bs, Fc N (adj es) mt D A bs) ∧ h' = [] := by
  refine ACalls.trim ?_
  have hN := g.hn
  have hl : (glabs N es).length ≤ 100000 := by simp [glabs]; omega
  have h1 := lsuch_ok (glabs N es) (1 : Nat) hl
  have h2 := lsuch_ok (glabs N es) (2 : Nat) hl
  have hC := lsuch_ok (glabs N es) (0 : Nat) hl
  rw [show selZ (glabs N es) (1 : Nat) = prt N (adj es) 1 from glabs_sel N es 1] at h1
  rw [show selZ (glabs N es) (2 : Nat) = prt N (adj es) 2 from glabs_sel N es 2] at h2
  rw [show selZ (glabs N es) (0 : Nat) = prt N (adj es) 0 from glabs_sel N es 0] at hC
  refine go_gallai_Of rfl ?_
  unfold c_gallai_Of v_gallai_Of
  refine wlk_sreg fun KY hKY => ?_
  simp only [go_sem, c_gallai_Of_r0]
  refine hKY _ ?_
  refine wlk_sreg fun KY hKY => ?_
  simp only [go_sem, c_gallai_Of_r1]
  apply call_gen [] [] false none rfl
  iterate 8 (first | (simp only [go_sem, watchIn] <;> rfl) | rfl)
  refine (blabels_ok g).mono ?_
  rintro _ _ ⟨m, hml, ⟨D, A, bs, hF⟩, ⟨h0, rfl, rfl⟩ | ⟨h0, rfl, rfl⟩⟩
  · refine ⟨Nat.le_of_ble_eq_true rfl, (fun hh => by cases hh), ?_⟩
    simp only [go_sem, callOut, AState.after]
    refine hKY _ ?_
    refine wlk_seq fun X1 hn1 he1 hr1 => ?_
    refine wlk_sreg fun KY hKY => ?_
    simp only [go_sem, c_gallai_Of_r2]
    refine hKY _ ?_
    refine wlk_cond0 (by first | rfl | (simp only [go_sem]; try simp (disch := omega) only [decide_eq_true, decide_eq_false])) ?_
    refine wlk_skip ?_
    repeat (first | refine hn1 _ ?_ | refine he1 _ _ ?_)
    refine sem_freeze [0, 4] (by simp only [go_sem]; rfl) ?_
    simp only [go_sem]
    refine wlk_sreg fun KY hKY => ?_
    simp only [go_sem, c_gallai_Of_r4]
    refine hKY _ ?_
    refine wlk_sreg fun KY hKY => ?_
    simp only [go_sem, c_gallai_Of_r5]
    apply call_gen [] [] false none rfl
    iterate 8 (first | (simp only [go_sem, watchIn] <;> rfl) | rfl)
    refine (h1).mono ?_
    rintro _ _ ⟨rfl, rfl⟩
    refine ⟨Nat.le_of_ble_eq_true rfl, (fun hh => by cases hh), ?_⟩
    simp only [go_sem, callOut, AState.after]
    apply call_gen [] [] false none rfl
    iterate 8 (first | (simp only [go_sem, watchIn] <;> rfl) | rfl)
    refine (h2).mono ?_
    rintro _ _ ⟨rfl, rfl⟩
    refine ⟨Nat.le_of_ble_eq_true rfl, (fun hh => by cases hh), ?_⟩
    simp only [go_sem, callOut, AState.after]
    apply call_gen [] [] false none rfl
    iterate 8 (first | (simp only [go_sem, watchIn] <;> rfl) | rfl)
    refine (hC).mono ?_
    rintro _ _ ⟨rfl, rfl⟩
    refine ⟨Nat.le_of_ble_eq_true rfl, (fun hh => by cases hh), ?_⟩
    simp only [go_sem, callOut, AState.after]
    refine hKY _ ?_
    refine sem_freeze [0, 2, 0] (by simp only [go_sem]; rfl) ?_
    simp only [go_sem]
    refine sem_freeze [0, 2, 1] (by simp only [go_sem]; rfl) ?_
    simp only [go_sem]
    refine sem_freeze [0, 2, 2] (by simp only [go_sem]; rfl) ?_
    simp only [go_sem]
    refine wlk_ret ?_
    repeat (first | refine hr1 _ ?_)
    simp only [go_sem]
    exact ⟨_, _, _, _, hF⟩
  · refine ⟨Nat.le_of_ble_eq_true rfl, (fun hh => by cases hh), ?_⟩
    simp only [go_sem, callOut, AState.after]
    refine hKY _ ?_
    refine wlk_seq fun X2 hn2 he2 hr2 => ?_
    refine wlk_sreg fun KY hKY => ?_
    simp only [go_sem, c_gallai_Of_r2]
    refine hKY _ ?_
    refine wlk_cond0 (by first | rfl | (simp only [go_sem]; try simp (disch := omega) only [decide_eq_true, decide_eq_false])) ?_
    refine wlk_skip ?_
    repeat (first | refine hn2 _ ?_ | refine he2 _ _ ?_)
    refine sem_freeze [0, 4] (by simp only [go_sem]; rfl) ?_
    simp only [go_sem]
    refine wlk_sreg fun KY hKY => ?_
    simp only [go_sem, c_gallai_Of_r4]
    refine hKY _ ?_
    refine wlk_sreg fun KY hKY => ?_
    simp only [go_sem, c_gallai_Of_r5]
    apply call_gen [] [] false none rfl
    iterate 8 (first | (simp only [go_sem, watchIn] <;> rfl) | rfl)
    refine (h1).mono ?_
    rintro _ _ ⟨rfl, rfl⟩
    refine ⟨Nat.le_of_ble_eq_true rfl, (fun hh => by cases hh), ?_⟩
    simp only [go_sem, callOut, AState.after]
    apply call_gen [] [] false none rfl
    iterate 8 (first | (simp only [go_sem, watchIn] <;> rfl) | rfl)
    refine (h2).mono ?_
    rintro _ _ ⟨rfl, rfl⟩
    refine ⟨Nat.le_of_ble_eq_true rfl, (fun hh => by cases hh), ?_⟩
    simp only [go_sem, callOut, AState.after]
    apply call_gen [] [] false none rfl
    iterate 8 (first | (simp only [go_sem, watchIn] <;> rfl) | rfl)
    refine (hC).mono ?_
    rintro _ _ ⟨rfl, rfl⟩
    refine ⟨Nat.le_of_ble_eq_true rfl, (fun hh => by cases hh), ?_⟩
    simp only [go_sem, callOut, AState.after]
    refine hKY _ ?_
    refine sem_freeze [0, 2, 0] (by simp only [go_sem]; rfl) ?_
    simp only [go_sem]
    refine sem_freeze [0, 2, 1] (by simp only [go_sem]; rfl) ?_
    simp only [go_sem]
    refine sem_freeze [0, 2, 2] (by simp only [go_sem]; rfl) ?_
    simp only [go_sem]
    refine wlk_ret ?_
    repeat (first | refine hr2 _ ?_)
    simp only [go_sem]
    exact ⟨_, _, _, _, hF⟩
end Go.Proofs.Ytkjppnofgmpeeaa
set_option maxRecDepth 100000
set_option maxHeartbeats 8000000
namespace Go.Proofs.Ytkjppnofgmpeeaa
open Go Go.Ga Go.Ga.Gl
end Go.Proofs.Ytkjppnofgmpeeaa
set_option maxRecDepth 100000
set_option maxHeartbeats 4000000
namespace Go.Proofs.Ytkjppnofgmpeeaa
open Go Go.Ga Go.Ga.Gl
theorem htriple_ok (d1 a1 c1 d2 a2 c2 : List Nat) (h1 : d1.length ≤ 1000000000) (h2 : a1.length ≤ 1000000000) (h3 : c1.length ≤ 1000000000) :
    ACalls Try.prog [] n_garlandhelp_Triple [.agg [.imm 1 (nats d1), .imm 1 (nats a1), .imm 1 (nats c1)], .agg [.imm 1 (nats d2), .imm 1 (nats a2), .imm 1 (nats c2)]] [] fun r h' => r = .sc (.bool (decide (d1 = d2) && decide (a1 = a2) && decide (c1 = c2))) ∧ h' = [] := by
  have p1 := plainn_ok d1 d2 h1
  have p2 := plainn_ok a1 a2 h2
  have p3 := plainn_ok c1 c2 h3
  generalize decide (d1 = d2) = x at p1 ⊢
  generalize decide (a1 = a2) = y at p2 ⊢
  generalize decide (c1 = c2) = z at p3 ⊢
  refine go_garlandhelp_Triple rfl ?_
  unfold c_garlandhelp_Triple v_garlandhelp_Triple
  refine wlk_sreg fun KY hKY => ?_
  simp only [go_sem, c_garlandhelp_Triple_r0]
  refine hKY _ ?_
  refine wlk_sreg fun KY hKY => ?_
  simp only [go_sem, c_garlandhelp_Triple_r1]
  refine call_view rfl (by simp only [go_sem] <;> rfl) ((p1).mono ?_)
  rintro rr hh ⟨rfl, rfl⟩
  refine ⟨rfl, rfl, rfl, ?_⟩
  simp only [go_sem]
  cases x with
  | false =>
    simp only [go_sem]
    refine hKY _ ?_
    refine wlk_ret ?_
    simp only [go_sem]
  | true =>
    simp only [go_sem]
    refine call_view rfl (by simp only [go_sem] <;> rfl) ((p2).mono ?_)
    rintro rr hh ⟨rfl, rfl⟩
    refine ⟨rfl, rfl, rfl, ?_⟩
    simp only [go_sem]
    cases y with
    | false =>
      simp only [go_sem]
      refine hKY _ ?_
      refine wlk_ret ?_
      simp only [go_sem]
    | true =>
      simp only [go_sem]
      refine call_view rfl (by simp only [go_sem] <;> rfl) ((p3).mono ?_)
      rintro rr hh ⟨rfl, rfl⟩
      refine ⟨rfl, rfl, rfl, ?_⟩
      simp only [go_sem]
      refine hKY _ ?_
      refine wlk_ret ?_
      simp only [go_sem]
def starE : Es := [(0, 1), (0, 2)]
theorem star_gr : GR 3 starE := GR_rightB (by decide)
def starM (x : Nat) (u : Nat) : Int := if u = 0 then (x : Int) else if u = x then 0 else -1
theorem star_m {x : Nat} (hx : x = 1 ∨ x = 2) : Mf 3 (adj starE) (starM x) := by
  have M0 : Mf 3 (adj starE) (fun _ => -1) := star_gr.none fun _ => rfl
  refine M0.add (v := 0) (w := x) rfl rfl ?_ (if_pos rfl) ?_ fun u h1 h2 => ?_
  · rcases hx with rfl | rfl <;> simp [adj, starE]
  · show (if x = 0 then (x : Int) else if x = x then 0 else -1) = ((0 : Nat) : Int)
    rw [if_neg (by omega), if_pos rfl]; rfl
  · show (if u = 0 then (x : Int) else if u = x then 0 else -1) = -1
    rw [if_neg h1, if_neg h2]
theorem star_fc : Fc 3 (adj starE) (starM 1) (fun v => decide (v = 1 ∨ v = 2)) (fun v => decide (v = 0)) (fun v => v) where
  m := star_m (.inl rfl)
  c := {
    dn := fun v h => by have := of_decide_eq_true h; omega
    an := fun v h => by
      have := of_decide_eq_true h
      subst this
      exact ⟨by omega, by decide⟩
    ed := fun v w h hE => by
      have hv := of_decide_eq_true h
      refine .inl (decide_eq_true ?_)
      simp [adj, starE] at hE
      omega
    db := fun v h => ⟨h, rfl⟩
    fr := fun v hv h => by
      refine ⟨decide_eq_true ?_, rfl⟩
      unfold starM at h
      by_cases h0 : v = 0
      · rw [if_pos h0] at h; omega
      · omega
    am := fun a h => by
      have := of_decide_eq_true h
      subst this
      exact ⟨1, rfl, by decide, rfl⟩
    dm := fun v h hb => absurd rfl hb
    bb := fun b m h hb hm => by
      have hv := of_decide_eq_true h
      refine decide_eq_true ?_
      unfold starM at hm
      rcases hv with rfl | rfl
      · simp at hm; omega
      · simp at hm }
  d := fun v h => by
    have hv := of_decide_eq_true h
    rcases hv with rfl | rfl
    · exact ⟨starM 2, star_m (.inr rfl), by decide, rfl⟩
    · exact ⟨starM 1, star_m (.inl rfl), by decide, rfl⟩
  a := fun v h => by
    have := of_decide_eq_true h
    subst this
    exact ⟨1, by decide, by simp [adj, starE]⟩
theorem star_prt (k : Nat) : prt 3 (adj starE) k = (List.range 3).filter fun v => decide ((if decide (v = 1 ∨ v = 2) = true then 1 else if decide (v = 0) = true then 2 else 0) = k) :=
  List.filter_congr fun v _ => by rw [star_fc.lab v]
theorem awake14_ok : ACalls Try.prog [] n_garlandlaw14_awake [] [] fun r h' => r = .sc (.bool true) ∧ h' = [] := by
  have hG := gof_ok star_gr
  rw [star_prt 1, star_prt 2, star_prt 0, show ((List.range 3).filter fun v => decide ((if decide (v = 1 ∨ v = 2) = true then 1 else if decide (v = 0) = true then 2 else 0) = 1)) = [1, 2] by decide, show ((List.range 3).filter fun v => decide ((if decide (v = 1 ∨ v = 2) = true then 1 else if decide (v = 0) = true then 2 else 0) = 2)) = [0] by decide, show ((List.range 3).filter fun v => decide ((if decide (v = 1 ∨ v = 2) = true then 1 else if decide (v = 0) = true then 2 else 0) = 0)) = [] by decide] at hG
  have hT := (htriple_ok [1, 2] [0] [] [1, 2] [0] [] (by simp) (by simp) (by simp)).sees (.cons (.refl _) (.cons ((SeesL.cons (.refl _) (.cons (.refl _) (.cons (.imm 1) .nil))).agg) .nil))
  rw [show ((3 : Nat) : Int) = 3 from rfl, show twos (castE starE) = [.sc (.int .i64 0), .sc (.int .i64 1), .sc (.int .i64 0), .sc (.int .i64 2)] from rfl] at hG
  rw [show nats [1, 2] = [.sc (.int .i64 1), .sc (.int .i64 2)] from rfl, show nats [0] = [.sc (.int .i64 0)] from rfl] at hG hT
  refine go_garlandlaw14_awake rfl ?_
  unfold c_garlandlaw14_awake v_garlandlaw14_awake
  refine wlk_sreg fun KY hKY => ?_
  simp only [go_sem, c_garlandlaw14_awake_r0]
  refine hKY _ ?_
  refine wlk_sreg fun KY hKY => ?_
  simp only [go_sem, c_garlandlaw14_awake_r1]
  have hG2 : ACalls Try.prog [] n_gallai_Of [.agg [.sc (.int .i64 3), .own (some 2) [.sc (.int .i64 0), .sc (.int .i64 1), .sc (.int .i64 0), .sc (.int .i64 2)]]] [] _ := ACalls.fzArgs hG
  apply call_gen [.mv] [] false none rfl
  iterate 8 (first | (simp only [go_sem, watchIn] <;> rfl) | rfl)
  refine (hG2).mono ?_
  rintro _ _ ⟨rfl, _, rfl⟩
  refine ⟨Nat.le_of_ble_eq_true rfl, (fun hh => by cases hh), ?_⟩
  simp only [go_sem, callOut, AState.after]
  refine hKY _ ?_
  refine wlk_sreg fun KY hKY => ?_
  simp only [go_sem, c_garlandlaw14_awake_r2]
  refine call_view rfl (by simp only [go_sem] <;> rfl) ((hT).mono ?_)
  rintro rr hh ⟨rfl, rfl⟩
  refine ⟨rfl, rfl, rfl, ?_⟩
  simp only [go_sem, (show decide (([1, 2] : List Nat) = [1, 2]) = true from rfl), (show decide (([0] : List Nat) = [0]) = true from rfl), (show decide (([] : List Nat) = []) = true from rfl)]
  refine hKY _ ?_
  refine wlk_ret ?_
  simp only [go_sem]
end Go.Proofs.Ytkjppnofgmpeeaa
set_option maxRecDepth 100000
set_option maxHeartbeats 4000000
namespace Go.Proofs.Ytkjppnofgmpeeaa
open Go Go.Ga Go.Ga.Gl
theorem prt_len (N : Nat) (E : Nat → Nat → Prop) (k : Nat) : (prt N E k).length ≤ N := by
  unfold prt
  exact Nat.le_trans (List.length_filter_le _ _) (by simp)
end Go.Proofs.Ytkjppnofgmpeeaa
set_option maxRecDepth 100000
set_option maxHeartbeats 4000000
namespace Go.Proofs.Ytkjppnofgmpeeaa
open Go Go.Ga Go.Ga.Gl
theorem sgrow_ok (n : Nat) (hn : n ≤ 10000000) : ACalls Try.prog [] n_slices_Grow___int_int_ [.sc (.slice none 0 0), .sc (.int .i64 (n : Int))] [] fun r h' => r = .own (some 1) [] ∧ h' = [] := by
  refine ACalls.seen (Q := fun r h' => (r = .sc (.slice none 0 0) ∨ r = .own (some 1) []) ∧ h' = []) ?_ ?_
  · refine go_slices_Grow___int_int_ rfl ?_
    unfold c_slices_Grow___int_int_ v_slices_Grow___int_int_
    refine wlk_sreg fun KY hKY => ?_
    simp only [go_sem, c_slices_Grow___int_int__r0]
    refine hKY _ ?_
    refine wlk_seq fun X1 hn1 he1 hr1 => ?_
    refine wlk_sreg fun KY hKY => ?_
    simp only [go_sem, c_slices_Grow___int_int__r1]
    refine hKY _ ?_
    refine wlk_cond0 (by first | rfl | (simp only [go_sem]; try simp (disch := omega) only [decide_eq_true, decide_eq_false])) ?_
    refine wlk_skip ?_
    repeat (first | refine hn1 _ ?_ | refine he1 _ _ ?_)
    refine wlk_seq fun X2 hn2 he2 hr2 => ?_
    have w1 : IntKind.i64.wrap ((n : Int) - IntKind.i64.wrap (0 - 0)) = (n : Int) := by rw [show IntKind.i64.wrap (0 - 0) = 0 by decide, IntWalk.i64_in _ (by omega)]; omega
    refine wlk_sreg fun KY hKY => ?_
    simp only [go_sem, c_slices_Grow___int_int__r3, w1]
    refine hKY _ ?_
    refine wlk_sreg fun KY hKY => ?_
    simp only [go_sem, c_slices_Grow___int_int__r4]
    refine hKY _ ?_
    by_cases h : 0 < n
    · refine wlk_cond1 (by first | rfl | (simp only [go_sem]; try simp (disch := omega) only [decide_eq_true, decide_eq_false])) ?_
      refine wlk_reg fun KY hKY => ?_
      simp only [go_sem, c_slices_Grow___int_int__r5, (show 0 < (n : Int) by omega), (show (n : Int) ≤ 9223372036854775807 by omega), (show 8 * n ≤ 140737488355328 by omega), Int.toNat_natCast]
      refine hKY _ ?_
      repeat (first | refine hn2 _ ?_ | refine he2 _ _ ?_ | refine hn1 _ ?_ | refine he1 _ _ ?_)
      refine wlk_sreg fun KY hKY => ?_
      simp only [go_sem, c_slices_Grow___int_int__r6]
      refine hKY _ ?_
      refine wlk_ret ?_
      repeat (first | refine hr2 _ ?_ | refine hr1 _ ?_)
      simp only [go_sem]
      exact .inr (by simp [cutCells])
    · refine wlk_cond0 (by first | rfl | (simp only [go_sem]; try simp (disch := omega) only [decide_eq_true, decide_eq_false])) ?_
      refine wlk_skip ?_
      repeat (first | refine hn2 _ ?_ | refine he2 _ _ ?_ | refine hn1 _ ?_ | refine he1 _ _ ?_)
      refine wlk_sreg fun KY hKY => ?_
      simp only [go_sem, c_slices_Grow___int_int__r6]
      refine hKY _ ?_
      refine wlk_ret ?_
      repeat (first | refine hr2 _ ?_ | refine hr1 _ ?_)
      simp only [go_sem]
  · rintro r h' ⟨rfl | rfl, rfl⟩
    · exact ⟨_, Sees.own 1, rfl, rfl⟩
    · exact ⟨_, Sees.refl _, rfl, rfl⟩
theorem concat_ok (A B : List Int) (hA : A.length ≤ 1000000) (hB : B.length ≤ 1000000) : ACalls Try.prog [] n_slices_Concat___int_int_ [.imm 1 [.imm 1 (ints A), .imm 1 (ints B)]] [] fun r h' => r = .own (some 1) (ints (A ++ B)) ∧ h' = [] := by
  refine go_slices_Concat___int_int_ rfl ?_
  unfold c_slices_Concat___int_int_ v_slices_Concat___int_int_
  refine wlk_sreg fun KY hKY => ?_
  simp only [go_sem, c_slices_Concat___int_int__r0]
  refine hKY _ ?_
  refine wlk_sreg fun KY hKY => ?_
  simp only [go_sem, c_slices_Concat___int_int__r1]
  refine hKY _ ?_
  refine wlk_seq fun X1 hn1 he1 hr1 => ?_
  refine wlk_sreg fun KY hKY => ?_
  simp only [go_sem, c_slices_Concat___int_int__r2]
  refine hKY _ ?_
  refine wlk_blk fun X2 hn2 he2 hf2 hr2 => ?_
  try simp only [go_sem]
  refine wlk_lp (α := Nat) [5, 12, 20] (fun k => [(3, .sc (.int .i64 (bif k == 0 then 0 else bif k == 1 then (A.length : Int) else ((A.length + B.length : Nat) : Int)))), (11, .sc (.int .i64 (k : Int)))]) (fun k => []) (fun k q => k ≤ 2 ∧ q = 2 - k) (0) (2) rfl (by first | (simp only [go_sem, updAll_cons, updAll_nil]; done) | with_reducible rfl | rfl) (⟨by omega, rfl⟩) ?_
  rintro k q ⟨hk, rfl⟩ X3 hn3 he3 hr3
  simp only [go_sem, updAll_cons, updAll_nil]
  refine wlk_sreg fun KY hKY => ?_
  simp only [go_sem, c_slices_Concat___int_int__r3]
  refine hKY _ ?_
  refine wlk_seq fun X4 hn4 he4 hr4 => ?_
  have w2 : IntKind.i64.wrap ((A.length : Int) + (B.length : Int)) = ((A.length + B.length : Nat) : Int) := by rw [IntWalk.i64_in _ (by omega)]; omega
  have w1 : IntKind.i64.wrap (0 + (A.length : Int)) = (A.length : Int) := by rw [IntWalk.i64_in _ (by omega)]; omega
  by_cases hk0 : k = 0
  · subst hk0
    refine wlk_cond1 (by first | rfl | (simp only [go_sem]; try simp (disch := omega) only [decide_eq_true, decide_eq_false])) ?_
    refine wlk_skip ?_
    repeat (first | refine hn4 _ ?_ | refine he4 _ _ ?_ | refine he3 _ _ ?_ | refine hn2 _ ?_ | refine he2 _ ?_ | refine hf2 _ _ (by decide) ?_ | refine hn1 _ ?_ | refine he1 _ _ ?_)
    refine wlk_seq fun X5 hn5 he5 hr5 => ?_
    refine wlk_blk fun X6 hn6 he6 hf6 hr6 => ?_
    refine wlk_sreg fun KY hKY => ?_
    simp only [go_sem, c_slices_Concat___int_int__r4]
    refine hKY _ ?_
    refine wlk_sreg fun KY hKY => ?_
    simp only [go_sem, c_slices_Concat___int_int__r5, w1, ints_len]
    refine hKY _ ?_
    refine wlk_sreg fun KY hKY => ?_
    simp only [go_sem, c_slices_Concat___int_int__r6, (show decide ((A.length : Int) < 0) = false from decide_eq_false (by omega))]
    refine hKY _ ?_
    refine wlk_cond0 (by first | rfl | (simp only [go_sem]; try simp (disch := omega) only [decide_eq_true, decide_eq_false])) ?_
    refine wlk_skip ?_
    repeat (first | refine hn6 _ ?_ | refine he6 _ ?_ | refine hf6 _ _ (by decide) ?_ | refine hn5 _ ?_ | refine he5 _ _ ?_ | refine hn4 _ ?_ | refine he4 _ _ ?_ | refine he3 _ _ ?_ | refine hn2 _ ?_ | refine he2 _ ?_ | refine hf2 _ _ (by decide) ?_ | refine hn1 _ ?_ | refine he1 _ _ ?_)
    refine wlk_reg fun KY hKY => ?_
    simp only [go_sem, c_slices_Concat___int_int__r8, (show IntKind.i64.wrap 1 = 1 by decide)]
    refine hKY _ ?_
    repeat (first | refine hn6 _ ?_ | refine he6 _ ?_ | refine hf6 _ _ (by decide) ?_ | refine hn5 _ ?_ | refine he5 _ _ ?_ | refine hn4 _ ?_ | refine he4 _ _ ?_)
    refine hn3 _ (1) (2 - 1) (by omega) (by first | (simp only [go_sem, updAll_cons, updAll_nil, (show ((1 : Nat) : Int) = 1 from rfl), cond_true, cond_false]; done) | with_reducible rfl) ?_
    exact ⟨by omega, rfl⟩
  by_cases hk1 : k = 1
  · subst hk1
    refine wlk_cond1 (by first | rfl | (simp only [go_sem]; try simp (disch := omega) only [decide_eq_true, decide_eq_false])) ?_
    refine wlk_skip ?_
    repeat (first | refine hn4 _ ?_ | refine he4 _ _ ?_ | refine he3 _ _ ?_ | refine hn2 _ ?_ | refine he2 _ ?_ | refine hf2 _ _ (by decide) ?_ | refine hn1 _ ?_ | refine he1 _ _ ?_)
    refine wlk_seq fun X7 hn7 he7 hr7 => ?_
    refine wlk_blk fun X8 hn8 he8 hf8 hr8 => ?_
    refine wlk_sreg fun KY hKY => ?_
    simp only [go_sem, c_slices_Concat___int_int__r4]
    refine hKY _ ?_
    refine wlk_sreg fun KY hKY => ?_
    simp only [go_sem, c_slices_Concat___int_int__r5, w2, ints_len]
    refine hKY _ ?_
    refine wlk_sreg fun KY hKY => ?_
    simp only [go_sem, c_slices_Concat___int_int__r6, (show decide (((A.length + B.length : Nat) : Int) < 0) = false from decide_eq_false (by omega))]
    refine hKY _ ?_
    refine wlk_cond0 (by first | rfl | (simp only [go_sem]; try simp (disch := omega) only [decide_eq_true, decide_eq_false])) ?_
    refine wlk_skip ?_
    repeat (first | refine hn8 _ ?_ | refine he8 _ ?_ | refine hf8 _ _ (by decide) ?_ | refine hn7 _ ?_ | refine he7 _ _ ?_ | refine hn4 _ ?_ | refine he4 _ _ ?_ | refine he3 _ _ ?_ | refine hn2 _ ?_ | refine he2 _ ?_ | refine hf2 _ _ (by decide) ?_ | refine hn1 _ ?_ | refine he1 _ _ ?_)
    refine wlk_reg fun KY hKY => ?_
    simp only [go_sem, c_slices_Concat___int_int__r8, (show IntKind.i64.wrap 2 = 2 by decide)]
    refine hKY _ ?_
    repeat (first | refine hn8 _ ?_ | refine he8 _ ?_ | refine hf8 _ _ (by decide) ?_ | refine hn7 _ ?_ | refine he7 _ _ ?_ | refine hn4 _ ?_ | refine he4 _ _ ?_)
    refine hn3 _ (2) (2 - 2) (by omega) (by first | (simp only [go_sem, updAll_cons, updAll_nil, (show ((2 : Nat) : Int) = 2 from rfl), cond_true, cond_false]; done) | with_reducible rfl) ?_
    exact ⟨by omega, rfl⟩
  · obtain rfl : k = 2 := by omega
    refine wlk_cond0 (by first | rfl | (simp only [go_sem]; try simp (disch := omega) only [decide_eq_true, decide_eq_false])) ?_
    refine wlk_exit ?_
    repeat (first | refine hn4 _ ?_ | refine he4 _ _ ?_ | refine he3 _ _ ?_ | refine hn2 _ ?_ | refine he2 _ ?_ | refine hf2 _ _ (by decide) ?_ | refine hn1 _ ?_ | refine he1 _ _ ?_)
    have hgr := sgrow_ok (A.length + B.length) (by omega)
    refine wlk_sreg fun KY hKY => ?_
    simp only [go_sem, c_slices_Concat___int_int__r9]
    refine call_view rfl (by simp only [go_sem] <;> rfl) ((hgr).mono ?_)
    rintro rr hh ⟨rfl, rfl⟩
    refine ⟨rfl, rfl, rfl, ?_⟩
    simp only [go_sem]
    refine hKY _ ?_
    refine wlk_seq fun X9 hn9 he9 hr9 => ?_
    refine wlk_sreg fun KY hKY => ?_
    simp only [go_sem, c_slices_Concat___int_int__r10]
    refine hKY _ ?_
    refine wlk_blk fun X10 hn10 he10 hf10 hr10 => ?_
    try simp only [go_sem]
    refine wlk_lp (α := Nat) [8, 28] (fun j => [(6, .own (some 1) (ints (bif j == 0 then [] else bif j == 1 then A else A ++ B))), (27, .sc (.int .i64 (j : Int)))]) (fun j => []) (fun j q => j ≤ 2 ∧ q = 2 - j) (0) (2) rfl (by first | (simp only [go_sem, updAll_cons, updAll_nil]; done) | with_reducible rfl | rfl) (⟨by omega, rfl⟩) ?_
    rintro j q ⟨hj, rfl⟩ X11 hn11 he11 hr11
    simp only [go_sem, updAll_cons, updAll_nil]
    refine wlk_sreg fun KY hKY => ?_
    simp only [go_sem, c_slices_Concat___int_int__r11]
    refine hKY _ ?_
    refine wlk_seq fun X12 hn12 he12 hr12 => ?_
    by_cases hj0 : j = 0
    · subst hj0
      refine wlk_cond1 (by first | rfl | (simp only [go_sem]; try simp (disch := omega) only [decide_eq_true, decide_eq_false])) ?_
      refine wlk_skip ?_
      repeat (first | refine hn12 _ ?_ | refine he12 _ _ ?_ | refine he11 _ _ ?_ | refine hn10 _ ?_ | refine he10 _ ?_ | refine hf10 _ _ (by decide) ?_ | refine hn9 _ ?_ | refine he9 _ _ ?_ | refine hn4 _ ?_ | refine he4 _ _ ?_)
      refine wlk_seq fun X13 hn13 he13 hr13 => ?_
      refine wlk_blk fun X14 hn14 he14 hf14 hr14 => ?_
      refine wlk_sreg fun KY hKY => ?_
      simp only [go_sem, c_slices_Concat___int_int__r12]
      refine hKY _ ?_
      refine wlk_reg fun KY hKY => ?_
      simp only [go_sem, c_slices_Concat___int_int__r13, (show A.length * 8 ≤ 140737488355328 by omega), ints_cellOk, (show ints [] ++ ints A = ints A from rfl)]
      refine hKY _ ?_
      repeat (first | refine hn14 _ ?_ | refine he14 _ ?_ | refine hf14 _ _ (by decide) ?_ | refine hn13 _ ?_ | refine he13 _ _ ?_ | refine hn12 _ ?_ | refine he12 _ _ ?_ | refine he11 _ _ ?_ | refine hn10 _ ?_ | refine he10 _ ?_ | refine hf10 _ _ (by decide) ?_ | refine hn9 _ ?_ | refine he9 _ _ ?_ | refine hn4 _ ?_ | refine he4 _ _ ?_)
      refine wlk_reg fun KY hKY => ?_
      simp only [go_sem, c_slices_Concat___int_int__r14, (show IntKind.i64.wrap 1 = 1 by decide)]
      refine hKY _ ?_
      repeat (first | refine hn14 _ ?_ | refine he14 _ ?_ | refine hf14 _ _ (by decide) ?_ | refine hn13 _ ?_ | refine he13 _ _ ?_ | refine hn12 _ ?_ | refine he12 _ _ ?_)
      refine hn11 _ (1) (2 - 1) (by omega) (by first | (simp only [go_sem, updAll_cons, updAll_nil, (show ((1 : Nat) : Int) = 1 from rfl), cond_true, cond_false]; done) | with_reducible rfl) ?_
      exact ⟨by omega, rfl⟩
    by_cases hj1 : j = 1
    · subst hj1
      refine wlk_cond1 (by first | rfl | (simp only [go_sem]; try simp (disch := omega) only [decide_eq_true, decide_eq_false])) ?_
      refine wlk_skip ?_
      repeat (first | refine hn12 _ ?_ | refine he12 _ _ ?_ | refine he11 _ _ ?_ | refine hn10 _ ?_ | refine he10 _ ?_ | refine hf10 _ _ (by decide) ?_ | refine hn9 _ ?_ | refine he9 _ _ ?_ | refine hn4 _ ?_ | refine he4 _ _ ?_)
      refine wlk_seq fun X15 hn15 he15 hr15 => ?_
      refine wlk_blk fun X16 hn16 he16 hf16 hr16 => ?_
      refine wlk_sreg fun KY hKY => ?_
      simp only [go_sem, c_slices_Concat___int_int__r12]
      refine hKY _ ?_
      refine wlk_reg fun KY hKY => ?_
      simp only [go_sem, c_slices_Concat___int_int__r13, (show (A.length + B.length) * 8 ≤ 140737488355328 by omega), ints_cellOk, (show ints A ++ ints B = ints (A ++ B) by simp [ints])]
      refine hKY _ ?_
      repeat (first | refine hn16 _ ?_ | refine he16 _ ?_ | refine hf16 _ _ (by decide) ?_ | refine hn15 _ ?_ | refine he15 _ _ ?_ | refine hn12 _ ?_ | refine he12 _ _ ?_ | refine he11 _ _ ?_ | refine hn10 _ ?_ | refine he10 _ ?_ | refine hf10 _ _ (by decide) ?_ | refine hn9 _ ?_ | refine he9 _ _ ?_ | refine hn4 _ ?_ | refine he4 _ _ ?_)
      refine wlk_reg fun KY hKY => ?_
      simp only [go_sem, c_slices_Concat___int_int__r14, (show IntKind.i64.wrap 2 = 2 by decide)]
      refine hKY _ ?_
      repeat (first | refine hn16 _ ?_ | refine he16 _ ?_ | refine hf16 _ _ (by decide) ?_ | refine hn15 _ ?_ | refine he15 _ _ ?_ | refine hn12 _ ?_ | refine he12 _ _ ?_)
      refine hn11 _ (2) (2 - 2) (by omega) (by first | (simp only [go_sem, updAll_cons, updAll_nil, (show ((2 : Nat) : Int) = 2 from rfl), cond_true, cond_false]; done) | with_reducible rfl) ?_
      exact ⟨by omega, rfl⟩
    · obtain rfl : j = 2 := by omega
      refine wlk_cond0 (by first | rfl | (simp only [go_sem]; try simp (disch := omega) only [decide_eq_true, decide_eq_false])) ?_
      refine wlk_exit ?_
      repeat (first | refine hn12 _ ?_ | refine he12 _ _ ?_ | refine he11 _ _ ?_ | refine hn10 _ ?_ | refine he10 _ ?_ | refine hf10 _ _ (by decide) ?_ | refine hn9 _ ?_ | refine he9 _ _ ?_ | refine hn4 _ ?_ | refine he4 _ _ ?_ | refine he3 _ _ ?_ | refine hn2 _ ?_ | refine he2 _ ?_ | refine hf2 _ _ (by decide) ?_ | refine hn1 _ ?_ | refine he1 _ _ ?_)
      refine wlk_sreg fun KY hKY => ?_
      simp only [go_sem, c_slices_Concat___int_int__r15]
      refine hKY _ ?_
      refine wlk_ret ?_
      repeat (first | refine hr12 _ ?_ | refine hr11 _ ?_ | refine hr10 _ ?_ | refine hr9 _ ?_ | refine hr4 _ ?_ | refine hr3 _ ?_ | refine hr2 _ ?_ | refine hr1 _ ?_)
      simp only [go_sem]
end Go.Proofs.Ytkjppnofgmpeeaa
set_option maxRecDepth 100000
set_option maxHeartbeats 4000000
namespace Go.Proofs.Ytkjppnofgmpeeaa
open Go Go.Ga Go.Ga.Gl
def castN (l : List Nat) : List Int := l.map fun x : Nat => (x : Int)
theorem nats_cast (l : List Nat) : nats l = ints (castN l) := nats_ints l
theorem gpieces_no (n : Int) (es : List (Int × Int)) (h : rightB n es = false) : ACalls Try.prog [] n_gallai_Pieces [.agg [.sc (.int .i64 n), .imm 2 (twos es)]] [] fun r h' => r = .tup [.sc (.slice none 0 0), .sc (.int .i64 3)] ∧ h' = [] := by
  refine go_gallai_Pieces rfl ?_
  unfold c_gallai_Pieces v_gallai_Pieces
  refine wlk_sreg fun KY hKY => ?_
  simp only [go_sem, c_gallai_Pieces_r0]
  refine hKY _ ?_
  refine wlk_sreg fun KY hKY => ?_
  simp only [go_sem, c_gallai_Pieces_r1]
  apply call_gen [] [] false none rfl
  iterate 8 (first | (simp only [go_sem, watchIn] <;> rfl) | rfl)
  refine (gof_no n es h).mono ?_
  rintro _ _ ⟨rfl, rfl⟩
  refine ⟨Nat.le_of_ble_eq_true rfl, (fun hh => by cases hh), ?_⟩
  simp only [go_sem, callOut, AState.after]
  refine hKY _ ?_
  refine wlk_seq fun X1 hn1 he1 hr1 => ?_
  refine wlk_sreg fun KY hKY => ?_
  simp only [go_sem, c_gallai_Pieces_r2]
  refine hKY _ ?_
  refine wlk_cond1 (by first | rfl | (simp only [go_sem]; try simp (disch := omega) only [decide_eq_true, decide_eq_false])) ?_
  refine wlk_sreg fun KY hKY => ?_
  simp only [go_sem, c_gallai_Pieces_r3]
  refine hKY _ ?_
  refine wlk_ret ?_
  repeat (first | refine hr1 _ ?_)
  simp only [go_sem]
theorem gpieces_ok {N : Nat} {es : Es} (g : GR N es) : ACalls Try.prog [] n_gallai_Pieces [.agg [.sc (.int .i64 (N : Int)), .imm 2 (twos (castE es))]] [] fun r h' => (∃ ps, IsPieces N es (fun v => (v : Int) ∈ castN (prt N (adj es) 2) ++ castN (prt N (adj es) 0)) ps ∧ r = .tup [.own (some 1) (rowsO ps), .sc (.int .i64 0)]) ∧ h' = [] := by
  have hN := g.hn
  have l2 := prt_len N (adj es) 2
  have l0 := prt_len N (adj es) 0
  have hC := concat_ok (castN (prt N (adj es) 2)) (castN (prt N (adj es) 0)) (by simp [castN]; omega) (by simp [castN]; omega)
  have hC2 : ACalls Try.prog [] n_slices_Concat___int_int_ [.own (some 1) [.imm 1 (ints (castN (prt N (adj es) 2))), .imm 1 (ints (castN (prt N (adj es) 0)))]] [] _ := ACalls.fzArgs (by
    simp only [List.map, AVal.freeze, AVal.freezeL, ints_freeze]
    exact hC)
  have hW := without_ok g (castN (prt N (adj es) 2) ++ castN (prt N (adj es) 0)) (by simp [castN]; omega)
  refine go_gallai_Pieces rfl ?_
  unfold c_gallai_Pieces v_gallai_Pieces
  refine wlk_sreg fun KY hKY => ?_
  simp only [go_sem, c_gallai_Pieces_r0]
  refine hKY _ ?_
  refine wlk_sreg fun KY hKY => ?_
  simp only [go_sem, c_gallai_Pieces_r1]
  apply call_gen [] [] false none rfl
  iterate 8 (first | (simp only [go_sem, watchIn] <;> rfl) | rfl)
  refine (gof_ok g).mono ?_
  rintro _ _ ⟨rfl, _, rfl⟩
  rw [nats_cast (prt N (adj es) 2), nats_cast (prt N (adj es) 0)]
  refine ⟨Nat.le_of_ble_eq_true rfl, (fun hh => by cases hh), ?_⟩
  simp only [go_sem, callOut, AState.after]
  refine hKY _ ?_
  refine wlk_seq fun X1 hn1 he1 hr1 => ?_
  refine wlk_sreg fun KY hKY => ?_
  simp only [go_sem, c_gallai_Pieces_r2]
  refine hKY _ ?_
  refine wlk_cond0 (by first | rfl | (simp only [go_sem]; try simp (disch := omega) only [decide_eq_true, decide_eq_false])) ?_
  refine wlk_skip ?_
  repeat (first | refine hn1 _ ?_ | refine he1 _ _ ?_)
  refine wlk_sdraw fun KY hKY => ?_
  simp only [go_sem, c_gallai_Pieces_r4]
  apply call_gen [.mv] [] false none rfl
  iterate 8 (first | (simp only [go_sem, watchIn] <;> rfl) | rfl)
  refine (hC2).mono ?_
  rintro _ _ ⟨rfl, rfl⟩
  refine ⟨Nat.le_of_ble_eq_true rfl, (fun hh => by cases hh), ?_⟩
  simp only [go_sem, callOut, AState.after]
  apply call_gen [] [] true none rfl
  iterate 8 (first | (simp only [go_sem, watchIn] <;> rfl) | rfl)
  refine (hW).mono ?_
  rintro _ _ ⟨⟨ps, hps, rfl⟩, rfl⟩
  refine ⟨Nat.le_of_ble_eq_true rfl, (fun _ => by simp only [go_sem, flatH, and_self]), ?_⟩
  simp only [go_sem, callOut, AState.after]
  refine hKY _ ?_
  refine wlk_ret ?_
  repeat (first | refine hr1 _ ?_)
  simp only [go_sem]
  exact ⟨ps, hps, rfl⟩
end Go.Proofs.Ytkjppnofgmpeeaa
set_option maxRecDepth 100000
set_option maxHeartbeats 4000000
namespace Go.Proofs.Ytkjppnofgmpeeaa
open Go Go.Ga Go.Ga.Gl
theorem prt_sum {N : Nat} {E : Nat → Nat → Prop} {mt : Nat → Int} {D A : Nat → Bool} {bs : Nat → Nat} (F : Fc N E mt D A bs) : (prt N E 1).length + (prt N E 2).length + (prt N E 0).length = N := by
  have e1 : (prt N E 1).length = num N D := by
    unfold prt num
    congr 1
    refine List.filter_congr fun v _ => ?_
    rw [F.lab v]
    cases hd : D v with
    | true => simp
    | false => cases ha : A v <;> simp
  have e2 : (prt N E 2).length = num N (fun v => !D v && A v) := by
    unfold prt num
    congr 1
    refine List.filter_congr fun v _ => ?_
    rw [F.lab v]
    cases hd : D v with
    | true => simp
    | false => cases ha : A v <;> simp
  have e0 : (prt N E 0).length = num N (fun v => !D v && !A v) := by
    unfold prt num
    congr 1
    refine List.filter_congr fun v _ => ?_
    rw [F.lab v]
    cases hd : D v with
    | true => simp
    | false => cases ha : A v <;> simp
  have h1 := num_split N D
  have h2 := num_and N (fun v => !D v) A
  omega
theorem grefuses_ok (n : Int) (es : List (Int × Int)) : ACalls Try.prog [] n_garlandlaw14_GallaiRefuses [.agg [.sc (.int .i64 n), .imm 2 (twos es)]] [] fun r h' => r = .sc (.bool true) ∧ h' = [] := by
  refine go_garlandlaw14_GallaiRefuses rfl ?_
  unfold c_garlandlaw14_GallaiRefuses v_garlandlaw14_GallaiRefuses
  refine wlk_sreg fun KY hKY => ?_
  simp only [go_sem, c_garlandlaw14_GallaiRefuses_r0]
  refine hKY _ ?_
  refine wlk_seq fun X1 hn1 he1 hr1 => ?_
  by_cases h1 : 60 < (es.length : Int)
  · have d1 : decide (60 < (es.length : Int)) = true := decide_eq_true h1
    refine wlk_sreg fun KY hKY => ?_
    simp only [go_sem, c_garlandlaw14_GallaiRefuses_r1, twos_len, mul2, d1]
    refine hKY _ ?_
    refine wlk_cond1 (by first | rfl | (simp only [go_sem]; try simp (disch := omega) only [decide_eq_true, decide_eq_false])) ?_
    refine wlk_sreg fun KY hKY => ?_
    simp only [go_sem, c_garlandlaw14_GallaiRefuses_r2]
    refine call_view rfl (by simp only [go_sem] <;> rfl) ((awake14_ok).mono ?_)
    rintro rr hh ⟨rfl, rfl⟩
    refine ⟨rfl, rfl, rfl, ?_⟩
    simp only [go_sem]
    refine hKY _ ?_
    refine wlk_ret ?_
    repeat (first | refine hr1 _ ?_)
    simp only [go_sem]
  have d1 : decide (60 < (es.length : Int)) = false := decide_eq_false h1
  by_cases h2 : 60 < n
  · have d2 : decide (60 < n) = true := decide_eq_true h2
    refine wlk_sreg fun KY hKY => ?_
    simp only [go_sem, c_garlandlaw14_GallaiRefuses_r1, twos_len, mul2, d1, d2]
    refine hKY _ ?_
    refine wlk_cond1 (by first | rfl | (simp only [go_sem]; try simp (disch := omega) only [decide_eq_true, decide_eq_false])) ?_
    refine wlk_sreg fun KY hKY => ?_
    simp only [go_sem, c_garlandlaw14_GallaiRefuses_r2]
    refine call_view rfl (by simp only [go_sem] <;> rfl) ((awake14_ok).mono ?_)
    rintro rr hh ⟨rfl, rfl⟩
    refine ⟨rfl, rfl, rfl, ?_⟩
    simp only [go_sem]
    refine hKY _ ?_
    refine wlk_ret ?_
    repeat (first | refine hr1 _ ?_)
    simp only [go_sem]
  have d2 : decide (60 < n) = false := decide_eq_false h2
  refine wlk_sreg fun KY hKY => ?_
  simp only [go_sem, c_garlandlaw14_GallaiRefuses_r1, twos_len, mul2, d1, d2]
  refine hKY _ ?_
  refine wlk_cond0 (by first | rfl | (simp only [go_sem]; try simp (disch := omega) only [decide_eq_true, decide_eq_false])) ?_
  refine wlk_skip ?_
  repeat (first | refine hn1 _ ?_ | refine he1 _ _ ?_)
  cases hr : rightB n es with
  | true =>
    obtain ⟨N, es', rfl, rfl, g⟩ := right_nat hr
    refine wlk_sreg fun KY hKY => ?_
    simp only [go_sem, c_garlandlaw14_GallaiRefuses_r3]
    apply call_gen [] [] false none rfl
    iterate 8 (first | (simp only [go_sem, watchIn] <;> rfl) | rfl)
    refine (gof_ok g).mono ?_
    rintro _ _ ⟨rfl, ⟨mt, D, A, bs, F⟩, rfl⟩
    refine ⟨Nat.le_of_ble_eq_true rfl, (fun hh => by cases hh), ?_⟩
    simp only [go_sem, callOut, AState.after]
    refine hKY _ ?_
    refine wlk_sreg fun KY hKY => ?_
    simp only [go_sem, c_garlandlaw14_GallaiRefuses_r4]
    apply call_gen [] [] false none rfl
    iterate 8 (first | (simp only [go_sem, watchIn] <;> rfl) | rfl)
    refine (gpieces_ok g).mono ?_
    rintro _ _ ⟨⟨ps, hps, rfl⟩, rfl⟩
    refine ⟨Nat.le_of_ble_eq_true rfl, (fun hh => by cases hh), ?_⟩
    simp only [go_sem, callOut, AState.after]
    refine hKY _ ?_
    have hN := g.hn
    have hsum := prt_sum F
    have w1 : IntKind.i64.wrap (((prt N (adj es') 1).length : Int) + ((prt N (adj es') 2).length : Int)) = (((prt N (adj es') 1).length + (prt N (adj es') 2).length : Nat) : Int) := by rw [IntWalk.i64_in _ (by omega)]; omega
    have w2 : IntKind.i64.wrap ((((prt N (adj es') 1).length + (prt N (adj es') 2).length : Nat) : Int) + ((prt N (adj es') 0).length : Int)) = (N : Int) := by rw [IntWalk.i64_in _ (by omega)]; omega
    refine wlk_seq fun X2 hn2 he2 hr2 => ?_
    refine wlk_sreg fun KY hKY => ?_
    simp only [go_sem, c_garlandlaw14_GallaiRefuses_r5]
    refine call_view rfl (by simp only [go_sem] <;> rfl) ((rright_ok N (castE es')).mono ?_)
    rintro rr hh ⟨rfl, rfl⟩
    refine ⟨rfl, rfl, rfl, ?_⟩
    simp only [go_sem, hr]
    refine hKY _ ?_
    refine wlk_cond1 (by first | rfl | (simp only [go_sem]; try simp (disch := omega) only [decide_eq_true, decide_eq_false])) ?_
    refine wlk_sreg fun KY hKY => ?_
    simp only [go_sem, c_garlandlaw14_GallaiRefuses_r6]
    refine call_view rfl (by simp only [go_sem] <;> rfl) ((awake14_ok).mono ?_)
    rintro rr hh ⟨rfl, rfl⟩
    refine ⟨rfl, rfl, rfl, ?_⟩
    simp only [go_sem, nats_len, w1, w2]
    refine hKY _ ?_
    refine wlk_ret ?_
    repeat (first | refine hr2 _ ?_ | refine hr1 _ ?_)
    simp only [go_sem]
  | false =>
    have hT := (htriple_ok [] [] [] [] [] [] (by simp) (by simp) (by simp)).sees (.cons ((SeesL.cons (.imm 1) (.cons (.imm 1) (.cons (.imm 1) .nil))).agg) (.cons ((SeesL.cons (.imm 1) (.cons (.imm 1) (.cons (.imm 1) .nil))).agg) .nil))
    rw [decide_eq_true rfl] at hT
    refine wlk_sreg fun KY hKY => ?_
    simp only [go_sem, c_garlandlaw14_GallaiRefuses_r3]
    apply call_gen [] [] false none rfl
    iterate 8 (first | (simp only [go_sem, watchIn] <;> rfl) | rfl)
    refine (gof_no n es hr).mono ?_
    rintro _ _ ⟨rfl, rfl⟩
    refine ⟨Nat.le_of_ble_eq_true rfl, (fun hh => by cases hh), ?_⟩
    simp only [go_sem, callOut, AState.after]
    refine hKY _ ?_
    refine wlk_sreg fun KY hKY => ?_
    simp only [go_sem, c_garlandlaw14_GallaiRefuses_r4]
    apply call_gen [] [] false none rfl
    iterate 8 (first | (simp only [go_sem, watchIn] <;> rfl) | rfl)
    refine (gpieces_no n es hr).mono ?_
    rintro _ _ ⟨rfl, rfl⟩
    refine ⟨Nat.le_of_ble_eq_true rfl, (fun hh => by cases hh), ?_⟩
    simp only [go_sem, callOut, AState.after]
    refine hKY _ ?_
    refine wlk_seq fun X3 hn3 he3 hr3 => ?_
    refine wlk_sreg fun KY hKY => ?_
    simp only [go_sem, c_garlandlaw14_GallaiRefuses_r5]
    refine call_view rfl (by simp only [go_sem] <;> rfl) ((rright_ok n es).mono ?_)
    rintro rr hh ⟨rfl, rfl⟩
    refine ⟨rfl, rfl, rfl, ?_⟩
    simp only [go_sem, hr]
    refine hKY _ ?_
    refine wlk_cond0 (by first | rfl | (simp only [go_sem]; try simp (disch := omega) only [decide_eq_true, decide_eq_false])) ?_
    refine wlk_skip ?_
    repeat (first | refine hn3 _ ?_ | refine he3 _ _ ?_ | refine hn1 _ ?_ | refine he1 _ _ ?_)
    refine wlk_sreg fun KY hKY => ?_
    simp only [go_sem, c_garlandlaw14_GallaiRefuses_r7]
    refine call_view rfl (by simp only [go_sem] <;> rfl) ((awake14_ok).mono ?_)
    rintro rr hh ⟨rfl, rfl⟩
    refine ⟨rfl, rfl, rfl, ?_⟩
    simp only [go_sem]
    refine call_view rfl (by simp only [go_sem] <;> rfl) ((hT).mono ?_)
    rintro rr hh ⟨rfl, rfl⟩
    refine ⟨rfl, rfl, rfl, ?_⟩
    simp only [go_sem]
    refine hKY _ ?_
    refine wlk_ret ?_
    repeat (first | refine hr3 _ ?_ | refine hr1 _ ?_)
    simp only [go_sem]
end Go.Proofs.Ytkjppnofgmpeeaa
namespace Go.Proofs.Ytkjppnofgmpeeaa
open Go Go.Ga Go.Ga.Gl
theorem gallaiRefuses_all (As : List AVal) (b : Nat) (h : SAs Try.prog Try.f7.params.toList As b) (hb : b ≤ 1048576) : ACalls Try.prog [] 7 As [] fun r _ => r = .sc (.bool true) := by
  rw [Try.params7] at h
  obtain ⟨A1, As1, c1, d1, rfl, rfl, h1, h⟩ := sas_cons h
  obtain rfl := sas_nil h
  obtain ⟨n1, x1, rfl, y1, w1, e1⟩ := sa_graph Try.underlying25 rfl Try.underlying3 Try.underlying23 Try.underlying35 rfl Try.underlying3 Try.underlying3 (by kernel_rfl) h1
  exact (grefuses_ok n1 x1).mono fun _ _ h => h.1
end Go.Proofs.Ytkjppnofgmpeeaa
namespace Go.Proofs.Ytkjppnofgmpeeaa.gallaiRefusesend
open Go Go.Ga Go.ChangeShapes Go.WideShapes Go.ChangeAt Go.RowKit
theorem own : ownKnob Try.prog.godebug = none := by kernel_rfl
mutual
theorem bulk_at {H : Type} : ∀ d : DataW H, Rows.uptoBulk d = bulk d
  | .lit l => by cases l <;> simp [Rows.uptoBulk, bulk]
  | .nil => by simp [Rows.uptoBulk, bulk]
  | .ptr d => by simp [Rows.uptoBulk, bulk, bulk_at d]
  | .slice e s => by simp [Rows.uptoBulk, bulk, bulk_eq e, bulk_eq s]
  | .agg p => by simp [Rows.uptoBulk, bulk, bulk_eq p]
  | .iface _ d => by simp [Rows.uptoBulk, bulk, bulk_at d]
  | .map e => by simp [Rows.uptoBulk, bulk, bulk_es e]
  | .held _ => by simp [Rows.uptoBulk, bulk]
theorem bulk_eq {H : Type} : ∀ l : List (DataW H), Rows.uptoBulkAll l = bulkL l
  | [] => by simp [Rows.uptoBulkAll, bulkL]
  | d :: r => by simp [Rows.uptoBulkAll, bulkL, bulk_at d, bulk_eq r]
theorem bulk_es {H : Type} : ∀ l : List (Lit × DataW H), Rows.uptoBulkEntries l = bulkE l
  | [] => by simp [Rows.uptoBulkEntries, bulkE]
  | d :: r => by simp [Rows.uptoBulkEntries, bulkE, bulk_e d, bulk_es r]
theorem bulk_e {H : Type} : ∀ d : Lit × DataW H, Rows.uptoBulkEntry d = bulk1 d
  | (l, d) => by cases l <;> simp [Rows.uptoBulkEntry, bulk1, bulk_at d]
end
set_option maxRecDepth 100000 in
theorem plain : Plain Try.prog [3, 23, 25, 35] := plain_of (by kernel_rfl)
set_option maxRecDepth 100000 in
theorem contract (H : Type) (enc : TypeId × Value → H) (W : World) (base : Nat) (args : Array Value) (ds gs : List (DataW H)) (before : List MemPlace)
    (hval : ∀ (j : Nat) t v, Try.f7.params[j]? = some t → args[j]? = some v → Value.okWide Try.prog W .any base t v)
    (hW : DataW.Whole enc Try.prog Try.f7.params.toList Rows.gallaiRefusesSpec.vars false W args.toList ds gs before) (hk : Rows.uptoSmall H (ds ++ gs) = true) :
    Calls Try.prog 7 args W fun e W' => ∃ v, e = .returned v ∧ Rows.gallaiRefusesSpec.post enc Try.prog Try.f7 false true false false W args v W' := by
  have hW' := hW
  obtain ⟨p, q, hA, hV, rfl, hfz, hnd⟩ := hW
  obtain ⟨rfl, rfl⟩ := Go.Ga.trodVars_nil hV
  have hb : bulkL (ds ++ []) ≤ 1048576 := by rw [← bulk_eq]; exact of_decide_eq_true hk
  have r0 : DataW.TrodAll enc Try.prog W 0 (fun _ => true) true Try.f7.params.toList args.toList ds p := hA
  rw [Try.params7] at r0
  obtain ⟨v0, vs0, d0, ds0, p0, q0, hv0, rfl, rfl, h0, r1⟩ := trodAll_cons r0
  obtain ⟨rfl, rfl, rfl⟩ := trodAll_nil r1
  exact contract_true plain hval (by rw [Try.params7]; decide) hW' rfl rfl rfl rfl (tb := 4) (by kernel_rfl) Try.underlying4 hb gallaiRefuses_all
set_option maxRecDepth 100000 in
theorem lifted (os : Os) (started : os.Started) (H : Type) (enc : TypeId × Value → H) (F : Stop.Interp) :
    ReturnsInHanded {} Try.checked os 7 .any ((Rows.OpenSpec.upto Rows.gallaiRefusesSpec).pre6 enc Try.prog Try.f7 Rows.gallaiRefusesUptoRow.domain false) (((Rows.OpenSpec.upto Rows.gallaiRefusesSpec).at F).post enc Try.prog Try.f7 false true false false) := by
  refine returnsInHanded_of_cond (C := Try.checked) (s := Rows.OpenSpec.upto Rows.gallaiRefusesSpec) (k := Rows.uptoSmall) rfl own started (by kernel_rfl) Try.func7
    (OpenSpec.witness (enc := enc) (C := Try.checked) (s := Rows.OpenSpec.upto Rows.gallaiRefusesSpec) (k := Rows.uptoSmall) rfl false ⟨#[], #[.agg #[.int .i64 0, .slice none 0 0]], []⟩ 8 (by kernel_rfl) (by kernel_rfl) (by kernel_rfl)
      (x := ([.agg [.lit (.int .i64 0), .nil]], [], [])) (by kernel_rfl) rfl (by kernel_rfl)) ?_
  intro W base args ds gs before hval hW _ hk _
  exact contract H enc W base args ds gs before hval hW hk
theorem holds : Rows.GallaiRefusesUptoSaid :=
  OpenClaim.holds_of_cond 7 Try.f7 rfl rfl rfl rfl rfl rfl rfl ⟨rfl, rfl, rfl, rfl, rfl⟩ rfl rfl rfl rfl rfl (by kernel_rfl) Try.func7 (by kernel_rfl)
    (of_decide_eq_true (by kernel_rfl)) (by unfold Func.isWrapper; first | (rw [if_pos (by decide +kernel)]; kernel_rfl) | (rw [if_neg (by decide +kernel)]; exact ⟨rfl, rfl⟩))
    (fun os started H enc _ F => lifted os started H enc F)
end Go.Proofs.Ytkjppnofgmpeeaa.gallaiRefusesend
