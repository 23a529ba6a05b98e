/- The pieces between two matchings: walked. -/
import Derived.Test.YtoefhbfgmceikaaWe2
import Derived.Test.YtoefhbfgmceikaaWe1
set_option linter.all false
set_option maxRecDepth 100000
set_option maxHeartbeats 4000000
namespace Go.Proofs.Ytoefhbfgmceikaa
open Go Go.Ga Go.Ga.Gl
theorem ints_nats (l : List Nat) : ints (l.map fun n : Nat => (n : Int)) = nats l := by simp [ints, nats]
theorem sort_ok (nw : List Nat) (h : nw.length ≤ 1000000) : ACalls Try.prog [] n_slices_Sort___int_int_ [.sl 0 0 nw.length 1] [some (nats nw)] fun r h' => r = .tup [] ∧ h' = [some (nats (nw.mergeSort fun x y => decide (x ≤ y)))] := by
  have e : (nw.mergeSort fun x y => decide (x ≤ y)).map (fun n : Nat => (n : Int)) = (nw.map fun n : Nat => (n : Int)).mergeSort fun x y => decide (x ≤ y) :=
    List.map_mergeSort fun a _ b _ => by simp
  have := acalls_row (P := Try.prog) (f := n_slices_Sort___int_int_) (by kernel_rfl) (fun zs => zs.mergeSort fun x y => decide (x ≤ y)) (fun zs => by simp) (nw.map fun n : Nat => (n : Int))
    (fun blk off cap w hH hb => Go.Proofs.Try.slices_Sort_int blk off cap _ w hH hb (by simp; omega))
  rw [ints_nats, ← e, ints_nats, List.length_map] at this
  exact this
def pRest (nr : List (List Nat)) (D : List Bool) : List AVal := [.imm 1 (rowsI nr), .own (some 1) (bools D), .dead, .own (some 1) []]
theorem piece_ok {n : Nat} {es : Es} (g : GR n es) (D : List Bool) (hD : D.length = n) (v : Nat) (hv : v < n) (hDv : D.getD v false = false) :
    ACalls Try.prog [] n_pieces_walk_piece [.ptr 0 0, .sc (.int .i64 (v : Int))] [some (pRest (near n es) D)] fun r h' => ∃ p D', PieceOf n es D v D' p ∧ r = .own (some 1) (nats p) ∧ h' = [some (pRest (near n es) D')] := by
  have hn := g.hn
  have hes := g.adj_lt
  unfold pRest
  refine go_pieces_walk_piece rfl ?_
  unfold c_pieces_walk_piece v_pieces_walk_piece
  refine wlk_sreg fun KY hKY => ?_
  simp only [go_sem, reduceIte, Nat.reduceEqDiff, Nat.reduceBEq, reduceCtorEq, Nat.reduceLT, Nat.reduceLeDiff, Nat.reduceAdd, Nat.reduceSub, Nat.reduceMul, Nat.reduceDiv, Int.reduceAdd, Int.reduceNeg, Int.reduceEq, Int.reduceLT, Int.reduceLE, c_pieces_walk_piece_r0]
  refine hKY _ ?_
  refine wlk_sreg fun KY hKY => ?_
  simp only [go_sem, reduceIte, Nat.reduceEqDiff, Nat.reduceBEq, reduceCtorEq, Nat.reduceLT, Nat.reduceLeDiff, Nat.reduceAdd, Nat.reduceSub, Nat.reduceMul, Nat.reduceDiv, Int.reduceAdd, Int.reduceNeg, Int.reduceEq, Int.reduceLT, Int.reduceLE, c_pieces_walk_piece_r1]
  refine hKY _ ?_
  refine wlk_sreg fun KY hKY => ?_
  simp only [go_sem, reduceIte, Nat.reduceEqDiff, Nat.reduceBEq, reduceCtorEq, Nat.reduceLT, Nat.reduceLeDiff, Nat.reduceAdd, Nat.reduceSub, Nat.reduceMul, Nat.reduceDiv, Int.reduceAdd, Int.reduceNeg, Int.reduceEq, Int.reduceLT, Int.reduceLE, c_pieces_walk_piece_r2]
  refine hKY _ ?_
  simp only [go_sem, reduceIte, Nat.reduceEqDiff, Nat.reduceBEq, reduceCtorEq, Nat.reduceLT, Nat.reduceLeDiff, Nat.reduceAdd, Nat.reduceSub, Nat.reduceMul, Nat.reduceDiv, Int.reduceAdd, Int.reduceNeg, Int.reduceEq, Int.reduceLT, Int.reduceLE]
  refine sem_nil [1, 0, 2] 1 (by simp only [go_sem, reduceIte, Nat.reduceEqDiff, Nat.reduceBEq, reduceCtorEq, Nat.reduceLT, Nat.reduceLeDiff, Nat.reduceAdd, Nat.reduceSub, Nat.reduceMul, Nat.reduceDiv, Int.reduceAdd, Int.reduceNeg, Int.reduceEq, Int.reduceLT, Int.reduceLE]) ?_
  refine wlk_sreg fun KY hKY => ?_
  simp only [go_sem, reduceIte, Nat.reduceEqDiff, Nat.reduceBEq, reduceCtorEq, Nat.reduceLT, Nat.reduceLeDiff, Nat.reduceAdd, Nat.reduceSub, Nat.reduceMul, Nat.reduceDiv, Int.reduceAdd, Int.reduceNeg, Int.reduceEq, Int.reduceLT, Int.reduceLE, c_pieces_walk_piece_r3]
  apply call_gen [] [0] false none rfl
  iterate 8 (first | (simp only [go_sem, reduceIte, Nat.reduceEqDiff, Nat.reduceBEq, reduceCtorEq, Nat.reduceLT, Nat.reduceLeDiff, Nat.reduceAdd, Nat.reduceSub, Nat.reduceMul, Nat.reduceDiv, Int.reduceAdd, Int.reduceNeg, Int.reduceEq, Int.reduceLT, Int.reduceLE, watchIn] <;> rfl) | rfl)
  refine (come_ok (near n es) (D, [], []) v (by rw [hD]; exact hv) (Nat.zero_le _) (Nat.zero_le _)).mono ?_
  rintro _ _ ⟨rfl, rfl⟩
  unfold pObj
  refine ⟨Nat.le_of_ble_eq_true rfl, (fun hh => by cases hh), ?_⟩
  simp only [go_sem, reduceIte, Nat.reduceEqDiff, Nat.reduceBEq, reduceCtorEq, Nat.reduceLT, Nat.reduceLeDiff, Nat.reduceAdd, Nat.reduceSub, Nat.reduceMul, Nat.reduceDiv, Int.reduceAdd, Int.reduceNeg, Int.reduceEq, Int.reduceLT, Int.reduceLE, callOut, AState.after]
  refine hKY _ ?_
  refine wlk_seq fun X1 hn1 he1 hr1 => ?_
  refine wlk_blk fun X2 hn2 he2 hf2 hr2 => ?_
  try simp only [go_sem, reduceIte, Nat.reduceEqDiff, Nat.reduceBEq, reduceCtorEq, Nat.reduceLT, Nat.reduceLeDiff, Nat.reduceAdd, Nat.reduceSub, Nat.reduceMul, Nat.reduceDiv, Int.reduceAdd, Int.reduceNeg, Int.reduceEq, Int.reduceLT, Int.reduceLE]
  refine wlk_lp (α := DS) [6, 8, 22, 55, 56, 57, 58] (fun s => []) (fun s => [some (pObj (near n es) s)]) (fun s q => q = 2 * undone s.1 + s.2.2.length ∧ WJ n es D v s) (come (D, [], []) v) (2 * undone (come (D, [], []) v).1 + (come (D, [], []) v).2.2.length) rfl (by first | (simp only [go_sem, reduceIte, Nat.reduceEqDiff, Nat.reduceBEq, reduceCtorEq, Nat.reduceLT, Nat.reduceLeDiff, Nat.reduceAdd, Nat.reduceSub, Nat.reduceMul, Nat.reduceDiv, Int.reduceAdd, Int.reduceNeg, Int.reduceEq, Int.reduceLT, Int.reduceLE, updAll_cons, updAll_nil]; done) | with_reducible rfl | rfl) (⟨rfl, WJ.start hD hv hDv⟩) ?_
  rintro s q ⟨hq, w⟩ X3 hn3 he3 hr3
  simp only [go_sem, reduceIte, Nat.reduceEqDiff, Nat.reduceBEq, reduceCtorEq, Nat.reduceLT, Nat.reduceLeDiff, Nat.reduceAdd, Nat.reduceSub, Nat.reduceMul, Nat.reduceDiv, Int.reduceAdd, Int.reduceNeg, Int.reduceEq, Int.reduceLT, Int.reduceLE, updAll_cons, updAll_nil]
  have hsz := w.size
  have hrl := w.rl
  have hwd := w.len
  unfold pObj
  obtain ⟨d, nw, r⟩ := s
  simp only at hsz hrl hq hwd
  simp only [go_sem, reduceIte, Nat.reduceEqDiff, Nat.reduceBEq, reduceCtorEq, Nat.reduceLT, Nat.reduceLeDiff, Nat.reduceAdd, Nat.reduceSub, Nat.reduceMul, Nat.reduceDiv, Int.reduceAdd, Int.reduceNeg, Int.reduceEq, Int.reduceLT, Int.reduceLE]
  refine wlk_seq fun X4 hn4 he4 hr4 => ?_
  rcases List.eq_nil_or_concat r with rfl | ⟨r', u, rfl⟩
  · refine wlk_sreg fun KY hKY => ?_
    simp only [go_sem, reduceIte, Nat.reduceEqDiff, Nat.reduceBEq, reduceCtorEq, Nat.reduceLT, Nat.reduceLeDiff, Nat.reduceAdd, Nat.reduceSub, Nat.reduceMul, Nat.reduceDiv, Int.reduceAdd, Int.reduceNeg, Int.reduceEq, Int.reduceLT, Int.reduceLE, c_pieces_walk_piece_r4, show ((0:Nat):Int) = 0 from rfl, Int.lt_irrefl, List.length_nil]
    refine hKY _ ?_
    refine wlk_cond0 (by first | rfl | (simp only [go_sem, reduceIte, Nat.reduceEqDiff, Nat.reduceBEq, reduceCtorEq, Nat.reduceLT, Nat.reduceLeDiff, Nat.reduceAdd, Nat.reduceSub, Nat.reduceMul, Nat.reduceDiv, Int.reduceAdd, Int.reduceNeg, Int.reduceEq, Int.reduceLT, Int.reduceLE]; try simp (disch := omega) only [decide_eq_true, decide_eq_false])) ?_
    refine wlk_exit ?_
    repeat (first | refine hn4 _ ?_ | refine he4 _ _ ?_ | refine he3 _ _ ?_ | refine hn2 _ ?_ | refine he2 _ ?_ | refine hf2 _ _ (by decide) ?_ | refine hn1 _ ?_ | refine he1 _ _ ?_)
    have hnw : 0 < nw.length := List.length_pos_of_mem w.self
    refine wlk_sreg fun KY hKY => ?_
    simp only [go_sem, reduceIte, Nat.reduceEqDiff, Nat.reduceBEq, reduceCtorEq, Nat.reduceLT, Nat.reduceLeDiff, Nat.reduceAdd, Nat.reduceSub, Nat.reduceMul, Nat.reduceDiv, Int.reduceAdd, Int.reduceNeg, Int.reduceEq, Int.reduceLT, Int.reduceLE, c_pieces_walk_piece_r12]
    apply call_gen [.bo] [] false (some [1, 0, 2]) rfl
    iterate 8 (first | (simp only [go_sem, reduceIte, Nat.reduceEqDiff, Nat.reduceBEq, reduceCtorEq, Nat.reduceLT, Nat.reduceLeDiff, Nat.reduceAdd, Nat.reduceSub, Nat.reduceMul, Nat.reduceDiv, Int.reduceAdd, Int.reduceNeg, Int.reduceEq, Int.reduceLT, Int.reduceLE, watchIn, hnw] <;> rfl) | rfl)
    refine (sort_ok nw (by omega)).mono ?_
    rintro _ _ ⟨rfl, rfl⟩
    refine ⟨Nat.le_of_ble_eq_true rfl, (fun hh => by cases hh), ?_⟩
    simp only [go_sem, reduceIte, Nat.reduceEqDiff, Nat.reduceBEq, reduceCtorEq, Nat.reduceLT, Nat.reduceLeDiff, Nat.reduceAdd, Nat.reduceSub, Nat.reduceMul, Nat.reduceDiv, Int.reduceAdd, Int.reduceNeg, Int.reduceEq, Int.reduceLT, Int.reduceLE, callOut, AState.after, List.length_mergeSort]
    refine hKY _ ?_
    refine wlk_sreg fun KY hKY => ?_
    simp only [go_sem, reduceIte, Nat.reduceEqDiff, Nat.reduceBEq, reduceCtorEq, Nat.reduceLT, Nat.reduceLeDiff, Nat.reduceAdd, Nat.reduceSub, Nat.reduceMul, Nat.reduceDiv, Int.reduceAdd, Int.reduceNeg, Int.reduceEq, Int.reduceLT, Int.reduceLE, c_pieces_walk_piece_r13]
    refine hKY _ ?_
    refine wlk_ret ?_
    repeat (first | refine hr4 _ ?_ | refine hr3 _ ?_ | refine hr2 _ ?_ | refine hr1 _ ?_)
    simp only [go_sem, reduceIte, Nat.reduceEqDiff, Nat.reduceBEq, reduceCtorEq, Nat.reduceLT, Nat.reduceLeDiff, Nat.reduceAdd, Nat.reduceSub, Nat.reduceMul, Nat.reduceDiv, Int.reduceAdd, Int.reduceNeg, Int.reduceEq, Int.reduceLT, Int.reduceLE]
    refine ⟨nw.mergeSort fun x y => decide (x ≤ y), d, w.piece (List.mergeSort_perm _ _) ?_, rfl, rfl⟩
    have := List.pairwise_mergeSort (le := fun x y => decide (x ≤ y)) (fun a b c h1 h2 => by simp at *; omega) (fun a b => by simp; omega) nw
    exact this.imp fun h => by simpa using h
  · rw [List.concat_eq_append] at *
    have hlen : (r' ++ [u]).length = r'.length + 1 := by simp
    have hpos : (0 : Int) < ((r'.length + 1 : Nat) : Int) := by omega
    have hget : (nats (r' ++ [u]))[r'.length]? = some (.sc (.int .i64 (u : Int))) := by simp [nats]
    have hcut : cutCells (nats (r' ++ [u])) 1 0 r'.length = nats r' := by rw [cut_nats]; simp
    have hun : u < n := (w.now u (w.rest u (by simp))).1
    have hll : r'.length < r'.length + 1 := Nat.lt_succ_self _
    have hll2 : r'.length ≤ r'.length + 1 := Nat.le_succ _
    have hdec := decS (show r'.length < 4611686018427387904 by omega)
    refine wlk_sreg fun KY hKY => ?_
    simp only [go_sem, reduceIte, Nat.reduceEqDiff, Nat.reduceBEq, reduceCtorEq, Nat.reduceLT, Nat.reduceLeDiff, Nat.reduceAdd, Nat.reduceSub, Nat.reduceMul, Nat.reduceDiv, Int.reduceAdd, Int.reduceNeg, Int.reduceEq, Int.reduceLT, Int.reduceLE, c_pieces_walk_piece_r4, hlen, hpos]
    refine hKY _ ?_
    refine wlk_cond1 (by first | rfl | (simp only [go_sem, reduceIte, Nat.reduceEqDiff, Nat.reduceBEq, reduceCtorEq, Nat.reduceLT, Nat.reduceLeDiff, Nat.reduceAdd, Nat.reduceSub, Nat.reduceMul, Nat.reduceDiv, Int.reduceAdd, Int.reduceNeg, Int.reduceEq, Int.reduceLT, Int.reduceLE]; try simp (disch := omega) only [decide_eq_true, decide_eq_false])) ?_
    refine wlk_skip ?_
    repeat (first | refine hn4 _ ?_ | refine he4 _ _ ?_ | refine he3 _ _ ?_ | refine hn2 _ ?_ | refine he2 _ ?_ | refine hf2 _ _ (by decide) ?_ | refine hn1 _ ?_ | refine he1 _ _ ?_)
    refine wlk_blk fun X5 hn5 he5 hf5 hr5 => ?_
    refine wlk_sdraw fun KY hKY => ?_
    simp only [go_sem, reduceIte, Nat.reduceEqDiff, Nat.reduceBEq, reduceCtorEq, Nat.reduceLT, Nat.reduceLeDiff, Nat.reduceAdd, Nat.reduceSub, Nat.reduceMul, Nat.reduceDiv, Int.reduceAdd, Int.reduceNeg, Int.reduceEq, Int.reduceLT, Int.reduceLE, c_pieces_walk_piece_r5, hlen, hdec, hget, hll]
    refine hKY _ ?_
    refine wlk_sdraw fun KY hKY => ?_
    simp only [go_sem, reduceIte, Nat.reduceEqDiff, Nat.reduceBEq, reduceCtorEq, Nat.reduceLT, Nat.reduceLeDiff, Nat.reduceAdd, Nat.reduceSub, Nat.reduceMul, Nat.reduceDiv, Int.reduceAdd, Int.reduceNeg, Int.reduceEq, Int.reduceLT, Int.reduceLE, c_pieces_walk_piece_r6, hlen, hdec, hcut, hll2]
    refine hKY _ ?_
    have hnr := rowsI_get (near_get (es := es) hun)
    refine wlk_sreg fun KY hKY => ?_
    simp only [go_sem, reduceIte, Nat.reduceEqDiff, Nat.reduceBEq, reduceCtorEq, Nat.reduceLT, Nat.reduceLeDiff, Nat.reduceAdd, Nat.reduceSub, Nat.reduceMul, Nat.reduceDiv, Int.reduceAdd, Int.reduceNeg, Int.reduceEq, Int.reduceLT, Int.reduceLE, c_pieces_walk_piece_r7, hnr, near_len, hun]
    refine hKY _ ?_
    obtain ⟨w1, hm1⟩ := w.step hes
    have w2 : WI n es D v (d, nw, r') := ⟨w.len, w.done, w.nd, w.now, fun x h => w.rest x (List.mem_append_left _ h), by have := w.rl; simp at this ⊢; omega, w.conn⟩
    have hu : u ∈ nw := w.rest u (List.mem_append_right _ (List.mem_singleton.2 rfl))
    have hgo : Gone es (fun x => x = u) (d, nw, r') := fun x hx hr hne y hy => w.gone x hx (fun e => by
      rcases List.mem_append.1 e with e | e
      · exact hr e
      · simp at e; exact hne e) (fun e => e) y hy
    have hco := comes_ok hes w2 hu hgo
    have hrow : (nearOf es u).length ≤ 131072 := by
      have h1 := low_len es u
      have h2 := high_len es u
      have := g.hm
      simp only [nearOf, List.length_append]; omega
    refine wlk_blk fun X6 hn6 he6 hf6 hr6 => ?_
    try simp only [go_sem, reduceIte, Nat.reduceEqDiff, Nat.reduceBEq, reduceCtorEq, Nat.reduceLT, Nat.reduceLeDiff, Nat.reduceAdd, Nat.reduceSub, Nat.reduceMul, Nat.reduceDiv, Int.reduceAdd, Int.reduceNeg, Int.reduceEq, Int.reduceLT, Int.reduceLE]
    refine wlk_lp (α := Nat) [8, 58] (fun k => [(57, .sc (.int .i64 (k : Int)))]) (fun k => [some (pObj (near n es) (comes (d, nw, r') ((nearOf es u).take k)))]) (fun k q => q = (nearOf es u).length - k ∧ k ≤ (nearOf es u).length) (0) ((nearOf es u).length) rfl (by first | (simp only [go_sem, reduceIte, Nat.reduceEqDiff, Nat.reduceBEq, reduceCtorEq, Nat.reduceLT, Nat.reduceLeDiff, Nat.reduceAdd, Nat.reduceSub, Nat.reduceMul, Nat.reduceDiv, Int.reduceAdd, Int.reduceNeg, Int.reduceEq, Int.reduceLT, Int.reduceLE, updAll_cons, updAll_nil]; done) | with_reducible rfl | rfl) (⟨by omega, by omega⟩) ?_
    rintro k q ⟨hq2, hk⟩ X7 hn7 he7 hr7
    simp only [go_sem, reduceIte, Nat.reduceEqDiff, Nat.reduceBEq, reduceCtorEq, Nat.reduceLT, Nat.reduceLeDiff, Nat.reduceAdd, Nat.reduceSub, Nat.reduceMul, Nat.reduceDiv, Int.reduceAdd, Int.reduceNeg, Int.reduceEq, Int.reduceLT, Int.reduceLE, updAll_cons, updAll_nil]
    obtain ⟨x1, x2, x3, x4, x5, x6⟩ := hco k hk
    refine wlk_sreg fun KY hKY => ?_
    simp only [go_sem, reduceIte, Nat.reduceEqDiff, Nat.reduceBEq, reduceCtorEq, Nat.reduceLT, Nat.reduceLeDiff, Nat.reduceAdd, Nat.reduceSub, Nat.reduceMul, Nat.reduceDiv, Int.reduceAdd, Int.reduceNeg, Int.reduceEq, Int.reduceLT, Int.reduceLE, c_pieces_walk_piece_r8]
    refine hKY _ ?_
    refine wlk_seq fun X8 hn8 he8 hr8 => ?_
    by_cases hk2 : k < (nearOf es u).length
    · refine wlk_cond1 (by first | rfl | (simp only [go_sem, reduceIte, Nat.reduceEqDiff, Nat.reduceBEq, reduceCtorEq, Nat.reduceLT, Nat.reduceLeDiff, Nat.reduceAdd, Nat.reduceSub, Nat.reduceMul, Nat.reduceDiv, Int.reduceAdd, Int.reduceNeg, Int.reduceEq, Int.reduceLT, Int.reduceLE]; try simp (disch := omega) only [decide_eq_true, decide_eq_false])) ?_
      refine wlk_skip ?_
      repeat (first | refine hn8 _ ?_ | refine he8 _ _ ?_ | refine he7 _ _ ?_ | refine hn6 _ ?_ | refine he6 _ ?_ | refine hf6 _ _ (by decide) ?_ | refine hn5 _ ?_ | refine he5 _ ?_ | refine hf5 _ _ (by decide) ?_ | refine hn4 _ ?_ | refine he4 _ _ ?_)
      refine wlk_seq fun X9 hn9 he9 hr9 => ?_
      refine wlk_blk fun X10 hn10 he10 hf10 hr10 => ?_
      have hx : (nearOf es u)[k]? = some ((nearOf es u)[k]) := List.getElem?_eq_getElem hk2
      have hxn : (nats (nearOf es u))[k]? = some (.sc (.int .i64 (((nearOf es u)[k] : Nat) : Int))) := by simp [nats, hx]
      have hxl : (nearOf es u)[k] < n := (hes u _ (nearOf_mem.1 (List.getElem_mem hk2))).2
      have hcs := comes_snoc (d, nw, r') _ _ _ hx
      generalize (nearOf es u)[k] = x at hx hxn hxl hcs
      refine wlk_sreg fun KY hKY => ?_
      simp only [go_sem, reduceIte, Nat.reduceEqDiff, Nat.reduceBEq, reduceCtorEq, Nat.reduceLT, Nat.reduceLeDiff, Nat.reduceAdd, Nat.reduceSub, Nat.reduceMul, Nat.reduceDiv, Int.reduceAdd, Int.reduceNeg, Int.reduceEq, Int.reduceLT, Int.reduceLE, c_pieces_walk_piece_r9, hxn, hk2]
      refine hKY _ ?_
      refine wlk_reg fun KY hKY => ?_
      simp only [go_sem, reduceIte, Nat.reduceEqDiff, Nat.reduceBEq, reduceCtorEq, Nat.reduceLT, Nat.reduceLeDiff, Nat.reduceAdd, Nat.reduceSub, Nat.reduceMul, Nat.reduceDiv, Int.reduceAdd, Int.reduceNeg, Int.reduceEq, Int.reduceLT, Int.reduceLE, c_pieces_walk_piece_r10]
      unfold pObj
      have y1 := x1.size
      have y2 := x1.rl
      apply call_gen [] [0] false none rfl
      iterate 8 (first | (simp only [go_sem, reduceIte, Nat.reduceEqDiff, Nat.reduceBEq, reduceCtorEq, Nat.reduceLT, Nat.reduceLeDiff, Nat.reduceAdd, Nat.reduceSub, Nat.reduceMul, Nat.reduceDiv, Int.reduceAdd, Int.reduceNeg, Int.reduceEq, Int.reduceLT, Int.reduceLE, watchIn] <;> rfl) | rfl)
      refine (come_ok (near n es) (comes (d, nw, r') ((nearOf es u).take k)) x (by rw [x1.len]; exact hxl) (by omega) (by omega)).mono ?_
      rintro _ _ ⟨rfl, rfl⟩
      rw [← hcs]
      unfold pObj
      refine ⟨Nat.le_of_ble_eq_true rfl, (fun hh => by cases hh), ?_⟩
      simp only [go_sem, reduceIte, Nat.reduceEqDiff, Nat.reduceBEq, reduceCtorEq, Nat.reduceLT, Nat.reduceLeDiff, Nat.reduceAdd, Nat.reduceSub, Nat.reduceMul, Nat.reduceDiv, Int.reduceAdd, Int.reduceNeg, Int.reduceEq, Int.reduceLT, Int.reduceLE, callOut, AState.after]
      refine hKY _ ?_
      repeat (first | refine hn10 _ ?_ | refine he10 _ ?_ | refine hf10 _ _ (by decide) ?_ | refine hn9 _ ?_ | refine he9 _ _ ?_ | refine hn8 _ ?_ | refine he8 _ _ ?_ | refine he7 _ _ ?_ | refine hn6 _ ?_ | refine he6 _ ?_ | refine hf6 _ _ (by decide) ?_ | refine hn5 _ ?_ | refine he5 _ ?_ | refine hf5 _ _ (by decide) ?_ | refine hn4 _ ?_ | refine he4 _ _ ?_)
      refine wlk_reg fun KY hKY => ?_
      simp only [go_sem, reduceIte, Nat.reduceEqDiff, Nat.reduceBEq, reduceCtorEq, Nat.reduceLT, Nat.reduceLeDiff, Nat.reduceAdd, Nat.reduceSub, Nat.reduceMul, Nat.reduceDiv, Int.reduceAdd, Int.reduceNeg, Int.reduceEq, Int.reduceLT, Int.reduceLE, c_pieces_walk_piece_r11, incS (show k < 4611686018427387904 by omega)]
      refine hKY _ ?_
      repeat (first | refine hn10 _ ?_ | refine he10 _ ?_ | refine hf10 _ _ (by decide) ?_ | refine hn9 _ ?_ | refine he9 _ _ ?_ | refine hn8 _ ?_ | refine he8 _ _ ?_)
      refine hn7 _ (k + 1) ((nearOf es u).length - (k + 1)) (by omega) (by first | (simp only [go_sem, reduceIte, Nat.reduceEqDiff, Nat.reduceBEq, reduceCtorEq, Nat.reduceLT, Nat.reduceLeDiff, Nat.reduceAdd, Nat.reduceSub, Nat.reduceMul, Nat.reduceDiv, Int.reduceAdd, Int.reduceNeg, Int.reduceEq, Int.reduceLT, Int.reduceLE, updAll_cons, updAll_nil, pObj]; done) | with_reducible rfl | rfl) ?_
      exact ⟨rfl, hk2⟩
    · refine wlk_cond0 (by first | rfl | (simp only [go_sem, reduceIte, Nat.reduceEqDiff, Nat.reduceBEq, reduceCtorEq, Nat.reduceLT, Nat.reduceLeDiff, Nat.reduceAdd, Nat.reduceSub, Nat.reduceMul, Nat.reduceDiv, Int.reduceAdd, Int.reduceNeg, Int.reduceEq, Int.reduceLT, Int.reduceLE]; try simp (disch := omega) only [decide_eq_true, decide_eq_false])) ?_
      refine wlk_exit ?_
      repeat (first | refine hn8 _ ?_ | refine he8 _ _ ?_ | refine he7 _ _ ?_ | refine hn6 _ ?_ | refine he6 _ ?_ | refine hf6 _ _ (by decide) ?_ | refine hn5 _ ?_ | refine he5 _ ?_ | refine hf5 _ _ (by decide) ?_ | refine hn4 _ ?_ | refine he4 _ _ ?_ | refine he3 _ _ ?_ | refine hn2 _ ?_ | refine he2 _ ?_ | refine hf2 _ _ (by decide) ?_ | refine hn1 _ ?_ | refine he1 _ _ ?_)
      obtain rfl : k = (nearOf es u).length := by omega
      rw [List.take_length] at *
      repeat (first | refine hn8 _ ?_ | refine he8 _ _ ?_ | refine he7 _ _ ?_ | refine hn6 _ ?_ | refine he6 _ ?_ | refine hf6 _ _ (by decide) ?_ | refine hn5 _ ?_ | refine he5 _ ?_ | refine hf5 _ _ (by decide) ?_ | refine hn4 _ ?_ | refine he4 _ _ ?_)
      refine hn3 _ (comes (d, nw, r') (nearOf es u)) (2 * undone (comes (d, nw, r') (nearOf es u)).1 + (comes (d, nw, r') (nearOf es u)).2.2.length) (by omega) (by first | (simp only [go_sem, reduceIte, Nat.reduceEqDiff, Nat.reduceBEq, reduceCtorEq, Nat.reduceLT, Nat.reduceLeDiff, Nat.reduceAdd, Nat.reduceSub, Nat.reduceMul, Nat.reduceDiv, Int.reduceAdd, Int.reduceNeg, Int.reduceEq, Int.reduceLT, Int.reduceLE, updAll_cons, updAll_nil]; done) | with_reducible rfl | rfl) ?_
      exact ⟨rfl, w1⟩
end Go.Proofs.Ytoefhbfgmceikaa
set_option maxRecDepth 100000
set_option maxHeartbeats 4000000
namespace Go.Proofs.Ytoefhbfgmceikaa
open Go Go.Ga Go.Ga.Gl
def outD (n : Nat) (l : List Int) : List Bool := l.foldl (fun D v => if 0 ≤ v ∧ v < (n : Int) then D.set v.toNat true else D) (List.replicate n false)
theorem outD_snoc (n : Nat) (l : List Int) (k : Nat) (v : Int) (h : l[k]? = some v) : outD n (l.take (k + 1)) = if 0 ≤ v ∧ v < (n : Int) then (outD n (l.take k)).set v.toNat true else outD n (l.take k) := by
  rw [List.take_add_one, h]; simp [outD]
theorem outD_ok (n : Nat) (l : List Int) : (outD n l).length = n ∧ ∀ x, x < n → ((outD n l).getD x false = true ↔ (x : Int) ∈ l) := by
  have key : ∀ (l : List Int) (D : List Bool) (P : Nat → Prop), D.length = n → (∀ x, x < n → (D.getD x false = true ↔ P x)) →
      (l.foldl (fun D v => if 0 ≤ v ∧ v < (n : Int) then D.set v.toNat true else D) D).length = n ∧
      ∀ x, x < n → ((l.foldl (fun D v => if 0 ≤ v ∧ v < (n : Int) then D.set v.toNat true else D) D).getD x false = true ↔ P x ∨ (x : Int) ∈ l) := by
    intro l
    induction l with
    | nil => intro D P h1 h2; exact ⟨h1, fun x hx => by simpa using h2 x hx⟩
    | cons v l ih =>
      intro D P h1 h2
      simp only [List.foldl_cons]
      obtain ⟨i1, i2⟩ := ih (if 0 ≤ v ∧ v < (n : Int) then D.set v.toNat true else D) (fun x => P x ∨ (x : Int) = v) (by split <;> simp [h1]) (fun x hx => by
        split
        · rename_i hv
          rw [set_bool, h2 x hx, h1]
          constructor
          · rintro (h | h)
            · exact .inl h
            · exact .inr (by omega)
          · rintro (h | h)
            · exact .inl h
            · exact .inr (by omega)
        · rename_i hv
          rw [h2 x hx]
          constructor
          · exact .inl
          · rintro (h | h)
            · exact h
            · omega)
      refine ⟨i1, fun x hx => ?_⟩
      rw [i2 x hx, List.mem_cons, or_assoc]
  obtain ⟨h1, h2⟩ := key l (List.replicate n false) (fun _ => False) (by simp) (fun x hx => by simp [List.getD_eq_getElem?_getD, hx])
  exact ⟨h1, fun x hx => by rw [outD, h2 x hx]; simp⟩
theorem pieces_le {n : Nat} {es : Es} {O : Nat → Prop} {v : Nat} {D : List Bool} {ps : List (List Nat)} (w : OI n es O v D ps) : ps.length ≤ v := by
  have h : (ps.map fun p => p.headD 0).Pairwise (· < ·) := by
    refine List.pairwise_map.2 ?_
    refine w.heads.imp_of_mem fun {p q} hp hq h => ?_
    have h1 := w.ne p hp; have h2 := w.ne q hq
    cases p with
    | nil => exact absurd rfl h1
    | cons a p => cases q with
      | nil => exact absurd rfl h2
      | cons b q => exact h a rfl b rfl
  have h2 : ∀ x ∈ ps.map fun p => p.headD 0, x ∈ List.range v := by
    intro x hx
    obtain ⟨p, hp, rfl⟩ := List.mem_map.1 hx
    cases p with
    | nil => exact absurd rfl (w.ne _ hp)
    | cons a p => exact List.mem_range.2 (w.low _ hp a rfl)
  have := nodup_le (h.imp fun h => Nat.ne_of_lt h) h2
  simpa using this
theorem of_ok {n : Nat} {es : Es} (g : GR n es) (out : List Int) (ho : out.length ≤ 1000000000) :
    ACalls Try.prog [] n_pieces_Of [.imm 1 (rowsI (near n es)), .imm 1 (ints out)] [] fun r h' => ∃ ps, IsPieces n es (fun v => (v : Int) ∈ out) ps ∧ r = .own (some 1) (rowsO ps) ∧ (h' : Heap).length ≤ 1 := by
  have hn := g.hn
  have hb1 : n * 1 ≤ 140737488355328 := by omega
  have hb0 : (n : Int) ≤ 9223372036854775807 := by omega
  refine go_pieces_Of rfl ?_
  unfold c_pieces_Of v_pieces_Of
  refine wlk_sreg fun KY hKY => ?_
  simp only [go_sem, reduceIte, Nat.reduceEqDiff, Nat.reduceBEq, reduceCtorEq, Nat.reduceLT, Nat.reduceLeDiff, Nat.reduceAdd, Nat.reduceSub, Nat.reduceMul, Nat.reduceDiv, Int.reduceAdd, Int.reduceNeg, Int.reduceEq, Int.reduceLT, Int.reduceLE, c_pieces_Of_r0]
  refine hKY _ ?_
  refine wlk_sreg fun KY hKY => ?_
  simp only [go_sem, reduceIte, Nat.reduceEqDiff, Nat.reduceBEq, reduceCtorEq, Nat.reduceLT, Nat.reduceLeDiff, Nat.reduceAdd, Nat.reduceSub, Nat.reduceMul, Nat.reduceDiv, Int.reduceAdd, Int.reduceNeg, Int.reduceEq, Int.reduceLT, Int.reduceLE, c_pieces_Of_r1, near_len, hb1]
  repeat (simp (disch := omega) only [if_pos, if_neg, decide_eq_true, decide_eq_false, incS, nats_get, ints_get, near_len, hb1]; try simp only [go_sem, reduceIte, Nat.reduceEqDiff, Nat.reduceBEq, reduceCtorEq, Nat.reduceLT, Nat.reduceLeDiff, Nat.reduceAdd, Nat.reduceSub, Nat.reduceMul, Nat.reduceDiv, Int.reduceAdd, Int.reduceNeg, Int.reduceEq, Int.reduceLT, Int.reduceLE, near_len, hb1])
  refine hKY _ ?_
  simp only [go_sem, reduceIte, Nat.reduceEqDiff, Nat.reduceBEq, reduceCtorEq, Nat.reduceLT, Nat.reduceLeDiff, Nat.reduceAdd, Nat.reduceSub, Nat.reduceMul, Nat.reduceDiv, Int.reduceAdd, Int.reduceNeg, Int.reduceEq, Int.reduceLT, Int.reduceLE]
  refine sem_sees [0, 5, 2] .dead (by simp only [go_sem, reduceIte, Nat.reduceEqDiff, Nat.reduceBEq, reduceCtorEq, Nat.reduceLT, Nat.reduceLeDiff, Nat.reduceAdd, Nat.reduceSub, Nat.reduceMul, Nat.reduceDiv, Int.reduceAdd, Int.reduceNeg, Int.reduceEq, Int.reduceLT, Int.reduceLE]; rfl) rfl (Sees.dead _) ?_
  simp only [go_sem, reduceIte, Nat.reduceEqDiff, Nat.reduceBEq, reduceCtorEq, Nat.reduceLT, Nat.reduceLeDiff, Nat.reduceAdd, Nat.reduceSub, Nat.reduceMul, Nat.reduceDiv, Int.reduceAdd, Int.reduceNeg, Int.reduceEq, Int.reduceLT, Int.reduceLE]
  refine sem_nil [0, 5, 3] 1 (by simp only [go_sem, reduceIte, Nat.reduceEqDiff, Nat.reduceBEq, reduceCtorEq, Nat.reduceLT, Nat.reduceLeDiff, Nat.reduceAdd, Nat.reduceSub, Nat.reduceMul, Nat.reduceDiv, Int.reduceAdd, Int.reduceNeg, Int.reduceEq, Int.reduceLT, Int.reduceLE]) ?_
  simp only [go_sem, reduceIte, Nat.reduceEqDiff, Nat.reduceBEq, reduceCtorEq, Nat.reduceLT, Nat.reduceLeDiff, Nat.reduceAdd, Nat.reduceSub, Nat.reduceMul, Nat.reduceDiv, Int.reduceAdd, Int.reduceNeg, Int.reduceEq, Int.reduceLT, Int.reduceLE]
  refine sem_share [0, 5] (by simp only [go_sem, reduceIte, Nat.reduceEqDiff, Nat.reduceBEq, reduceCtorEq, Nat.reduceLT, Nat.reduceLeDiff, Nat.reduceAdd, Nat.reduceSub, Nat.reduceMul, Nat.reduceDiv, Int.reduceAdd, Int.reduceNeg, Int.reduceEq, Int.reduceLT, Int.reduceLE]; rfl) ?_
  simp only [go_sem, reduceIte, Nat.reduceEqDiff, Nat.reduceBEq, reduceCtorEq, Nat.reduceLT, Nat.reduceLeDiff, Nat.reduceAdd, Nat.reduceSub, Nat.reduceMul, Nat.reduceDiv, Int.reduceAdd, Int.reduceNeg, Int.reduceEq, Int.reduceLT, Int.reduceLE]
  refine wlk_seq fun X1 hn1 he1 hr1 => ?_
  refine wlk_sreg fun KY hKY => ?_
  simp only [go_sem, reduceIte, Nat.reduceEqDiff, Nat.reduceBEq, reduceCtorEq, Nat.reduceLT, Nat.reduceLeDiff, Nat.reduceAdd, Nat.reduceSub, Nat.reduceMul, Nat.reduceDiv, Int.reduceAdd, Int.reduceNeg, Int.reduceEq, Int.reduceLT, Int.reduceLE, c_pieces_Of_r2]
  refine hKY _ ?_
  refine wlk_blk fun X2 hn2 he2 hf2 hr2 => ?_
  try simp only [go_sem, reduceIte, Nat.reduceEqDiff, Nat.reduceBEq, reduceCtorEq, Nat.reduceLT, Nat.reduceLeDiff, Nat.reduceAdd, Nat.reduceSub, Nat.reduceMul, Nat.reduceDiv, Int.reduceAdd, Int.reduceNeg, Int.reduceEq, Int.reduceLT, Int.reduceLE]
  refine wlk_lp (α := Nat) [7, 19, 29] (fun k => [(18, .sc (.int .i64 (k : Int)))]) (fun k => [some (pRest (near n es) (outD n (out.take k)))]) (fun k q => k ≤ out.length ∧ q = out.length - k) (0) (out.length) rfl (by first | (simp only [go_sem, reduceIte, Nat.reduceEqDiff, Nat.reduceBEq, reduceCtorEq, Nat.reduceLT, Nat.reduceLeDiff, Nat.reduceAdd, Nat.reduceSub, Nat.reduceMul, Nat.reduceDiv, Int.reduceAdd, Int.reduceNeg, Int.reduceEq, Int.reduceLT, Int.reduceLE, updAll_cons, updAll_nil]; done) | with_reducible rfl | rfl) (⟨by omega, rfl⟩) ?_
  rintro k q ⟨hk, rfl⟩ X3 hn3 he3 hr3
  simp only [go_sem, reduceIte, Nat.reduceEqDiff, Nat.reduceBEq, reduceCtorEq, Nat.reduceLT, Nat.reduceLeDiff, Nat.reduceAdd, Nat.reduceSub, Nat.reduceMul, Nat.reduceDiv, Int.reduceAdd, Int.reduceNeg, Int.reduceEq, Int.reduceLT, Int.reduceLE, updAll_cons, updAll_nil]
  unfold pRest
  refine wlk_sreg fun KY hKY => ?_
  simp only [go_sem, reduceIte, Nat.reduceEqDiff, Nat.reduceBEq, reduceCtorEq, Nat.reduceLT, Nat.reduceLeDiff, Nat.reduceAdd, Nat.reduceSub, Nat.reduceMul, Nat.reduceDiv, Int.reduceAdd, Int.reduceNeg, Int.reduceEq, Int.reduceLT, Int.reduceLE, c_pieces_Of_r3]
  refine hKY _ ?_
  refine wlk_seq fun X4 hn4 he4 hr4 => ?_
  by_cases hk2 : k < out.length
  · refine wlk_cond1 (by first | rfl | (simp only [go_sem, reduceIte, Nat.reduceEqDiff, Nat.reduceBEq, reduceCtorEq, Nat.reduceLT, Nat.reduceLeDiff, Nat.reduceAdd, Nat.reduceSub, Nat.reduceMul, Nat.reduceDiv, Int.reduceAdd, Int.reduceNeg, Int.reduceEq, Int.reduceLT, Int.reduceLE]; try simp (disch := omega) only [decide_eq_true, decide_eq_false])) ?_
    refine wlk_skip ?_
    repeat (first | refine hn4 _ ?_ | refine he4 _ _ ?_ | refine he3 _ _ ?_ | refine hn2 _ ?_ | refine he2 _ ?_ | refine hf2 _ _ (by decide) ?_ | refine hn1 _ ?_ | refine he1 _ _ ?_)
    refine wlk_seq fun X5 hn5 he5 hr5 => ?_
    refine wlk_blk fun X6 hn6 he6 hf6 hr6 => ?_
    have hx : out[k]? = some (out[k]) := List.getElem?_eq_getElem hk2
    have hxg : out.getD k 0 = out[k] := by simp [List.getD_eq_getElem?_getD, hx]
    generalize out[k] = v at hx hxg
    refine wlk_sreg fun KY hKY => ?_
    simp only [go_sem, reduceIte, Nat.reduceEqDiff, Nat.reduceBEq, reduceCtorEq, Nat.reduceLT, Nat.reduceLeDiff, Nat.reduceAdd, Nat.reduceSub, Nat.reduceMul, Nat.reduceDiv, Int.reduceAdd, Int.reduceNeg, Int.reduceEq, Int.reduceLT, Int.reduceLE, c_pieces_Of_r4, ints_get hk2, hxg, hk2]
    refine hKY _ ?_
    have hst := outD_snoc n out k v hx
    have hlen := (outD_ok n (out.take k)).1
    by_cases hv : 0 ≤ v
    · by_cases hvn : v < n
      · rw [if_pos ⟨hv, hvn⟩] at hst
        refine wlk_sreg fun KY hKY => ?_
        simp only [go_sem, reduceIte, Nat.reduceEqDiff, Nat.reduceBEq, reduceCtorEq, Nat.reduceLT, Nat.reduceLeDiff, Nat.reduceAdd, Nat.reduceSub, Nat.reduceMul, Nat.reduceDiv, Int.reduceAdd, Int.reduceNeg, Int.reduceEq, Int.reduceLT, Int.reduceLE, c_pieces_Of_r5, hv, near_len, hvn]
        refine hKY _ ?_
        refine wlk_cond1 (by first | rfl | (simp only [go_sem, reduceIte, Nat.reduceEqDiff, Nat.reduceBEq, reduceCtorEq, Nat.reduceLT, Nat.reduceLeDiff, Nat.reduceAdd, Nat.reduceSub, Nat.reduceMul, Nat.reduceDiv, Int.reduceAdd, Int.reduceNeg, Int.reduceEq, Int.reduceLT, Int.reduceLE]; try simp (disch := omega) only [decide_eq_true, decide_eq_false])) ?_
        obtain ⟨m, rfl⟩ : ∃ m : Nat, v = m := ⟨v.toNat, by omega⟩
        have hm : m < n := by omega
        rw [Int.toNat_natCast] at hst
        refine wlk_reg fun KY hKY => ?_
        simp only [go_sem, reduceIte, Nat.reduceEqDiff, Nat.reduceBEq, reduceCtorEq, Nat.reduceLT, Nat.reduceLeDiff, Nat.reduceAdd, Nat.reduceSub, Nat.reduceMul, Nat.reduceDiv, Int.reduceAdd, Int.reduceNeg, Int.reduceEq, Int.reduceLT, Int.reduceLE, c_pieces_Of_r6, hlen, hm, ← hst]
        refine hKY _ ?_
        repeat (first | refine hn6 _ ?_ | refine he6 _ ?_ | refine hf6 _ _ (by decide) ?_ | refine hn5 _ ?_ | refine he5 _ _ ?_ | refine hn4 _ ?_ | refine he4 _ _ ?_ | refine he3 _ _ ?_ | refine hn2 _ ?_ | refine he2 _ ?_ | refine hf2 _ _ (by decide) ?_ | refine hn1 _ ?_ | refine he1 _ _ ?_)
        refine wlk_reg fun KY hKY => ?_
        simp only [go_sem, reduceIte, Nat.reduceEqDiff, Nat.reduceBEq, reduceCtorEq, Nat.reduceLT, Nat.reduceLeDiff, Nat.reduceAdd, Nat.reduceSub, Nat.reduceMul, Nat.reduceDiv, Int.reduceAdd, Int.reduceNeg, Int.reduceEq, Int.reduceLT, Int.reduceLE, c_pieces_Of_r7, incS (show k < 4611686018427387904 by omega)]
        refine hKY _ ?_
        repeat (first | refine hn6 _ ?_ | refine he6 _ ?_ | refine hf6 _ _ (by decide) ?_ | refine hn5 _ ?_ | refine he5 _ _ ?_ | refine hn4 _ ?_ | refine he4 _ _ ?_)
        refine hn3 _ (k + 1) (out.length - (k + 1)) (by omega) (by first | (simp only [go_sem, reduceIte, Nat.reduceEqDiff, Nat.reduceBEq, reduceCtorEq, Nat.reduceLT, Nat.reduceLeDiff, Nat.reduceAdd, Nat.reduceSub, Nat.reduceMul, Nat.reduceDiv, Int.reduceAdd, Int.reduceNeg, Int.reduceEq, Int.reduceLT, Int.reduceLE, updAll_cons, updAll_nil, pRest]; done) | with_reducible rfl | rfl) ?_
        exact ⟨hk2, rfl⟩
      · rw [if_neg (by omega)] at hst
        refine wlk_sreg fun KY hKY => ?_
        simp only [go_sem, reduceIte, Nat.reduceEqDiff, Nat.reduceBEq, reduceCtorEq, Nat.reduceLT, Nat.reduceLeDiff, Nat.reduceAdd, Nat.reduceSub, Nat.reduceMul, Nat.reduceDiv, Int.reduceAdd, Int.reduceNeg, Int.reduceEq, Int.reduceLT, Int.reduceLE, c_pieces_Of_r5, hv, near_len, hvn]
        refine hKY _ ?_
        refine wlk_cond0 (by first | rfl | (simp only [go_sem, reduceIte, Nat.reduceEqDiff, Nat.reduceBEq, reduceCtorEq, Nat.reduceLT, Nat.reduceLeDiff, Nat.reduceAdd, Nat.reduceSub, Nat.reduceMul, Nat.reduceDiv, Int.reduceAdd, Int.reduceNeg, Int.reduceEq, Int.reduceLT, Int.reduceLE]; try simp (disch := omega) only [decide_eq_true, decide_eq_false])) ?_
        rw [← hst]
        refine wlk_skip ?_
        repeat (first | refine hn6 _ ?_ | refine he6 _ ?_ | refine hf6 _ _ (by decide) ?_ | refine hn5 _ ?_ | refine he5 _ _ ?_ | refine hn4 _ ?_ | refine he4 _ _ ?_ | refine he3 _ _ ?_ | refine hn2 _ ?_ | refine he2 _ ?_ | refine hf2 _ _ (by decide) ?_ | refine hn1 _ ?_ | refine he1 _ _ ?_)
        refine wlk_reg fun KY hKY => ?_
        simp only [go_sem, reduceIte, Nat.reduceEqDiff, Nat.reduceBEq, reduceCtorEq, Nat.reduceLT, Nat.reduceLeDiff, Nat.reduceAdd, Nat.reduceSub, Nat.reduceMul, Nat.reduceDiv, Int.reduceAdd, Int.reduceNeg, Int.reduceEq, Int.reduceLT, Int.reduceLE, c_pieces_Of_r7, incS (show k < 4611686018427387904 by omega)]
        refine hKY _ ?_
        repeat (first | refine hn6 _ ?_ | refine he6 _ ?_ | refine hf6 _ _ (by decide) ?_ | refine hn5 _ ?_ | refine he5 _ _ ?_ | refine hn4 _ ?_ | refine he4 _ _ ?_)
        refine hn3 _ (k + 1) (out.length - (k + 1)) (by omega) (by first | (simp only [go_sem, reduceIte, Nat.reduceEqDiff, Nat.reduceBEq, reduceCtorEq, Nat.reduceLT, Nat.reduceLeDiff, Nat.reduceAdd, Nat.reduceSub, Nat.reduceMul, Nat.reduceDiv, Int.reduceAdd, Int.reduceNeg, Int.reduceEq, Int.reduceLT, Int.reduceLE, updAll_cons, updAll_nil, pRest]; done) | with_reducible rfl | rfl) ?_
        exact ⟨hk2, rfl⟩
    · rw [if_neg (by omega)] at hst
      refine wlk_sreg fun KY hKY => ?_
      simp only [go_sem, reduceIte, Nat.reduceEqDiff, Nat.reduceBEq, reduceCtorEq, Nat.reduceLT, Nat.reduceLeDiff, Nat.reduceAdd, Nat.reduceSub, Nat.reduceMul, Nat.reduceDiv, Int.reduceAdd, Int.reduceNeg, Int.reduceEq, Int.reduceLT, Int.reduceLE, c_pieces_Of_r5, hv]
      refine hKY _ ?_
      refine wlk_cond0 (by first | rfl | (simp only [go_sem, reduceIte, Nat.reduceEqDiff, Nat.reduceBEq, reduceCtorEq, Nat.reduceLT, Nat.reduceLeDiff, Nat.reduceAdd, Nat.reduceSub, Nat.reduceMul, Nat.reduceDiv, Int.reduceAdd, Int.reduceNeg, Int.reduceEq, Int.reduceLT, Int.reduceLE]; try simp (disch := omega) only [decide_eq_true, decide_eq_false])) ?_
      rw [← hst]
      refine wlk_skip ?_
      repeat (first | refine hn6 _ ?_ | refine he6 _ ?_ | refine hf6 _ _ (by decide) ?_ | refine hn5 _ ?_ | refine he5 _ _ ?_ | refine hn4 _ ?_ | refine he4 _ _ ?_ | refine he3 _ _ ?_ | refine hn2 _ ?_ | refine he2 _ ?_ | refine hf2 _ _ (by decide) ?_ | refine hn1 _ ?_ | refine he1 _ _ ?_)
      refine wlk_reg fun KY hKY => ?_
      simp only [go_sem, reduceIte, Nat.reduceEqDiff, Nat.reduceBEq, reduceCtorEq, Nat.reduceLT, Nat.reduceLeDiff, Nat.reduceAdd, Nat.reduceSub, Nat.reduceMul, Nat.reduceDiv, Int.reduceAdd, Int.reduceNeg, Int.reduceEq, Int.reduceLT, Int.reduceLE, c_pieces_Of_r7, incS (show k < 4611686018427387904 by omega)]
      refine hKY _ ?_
      repeat (first | refine hn6 _ ?_ | refine he6 _ ?_ | refine hf6 _ _ (by decide) ?_ | refine hn5 _ ?_ | refine he5 _ _ ?_ | refine hn4 _ ?_ | refine he4 _ _ ?_)
      refine hn3 _ (k + 1) (out.length - (k + 1)) (by omega) (by first | (simp only [go_sem, reduceIte, Nat.reduceEqDiff, Nat.reduceBEq, reduceCtorEq, Nat.reduceLT, Nat.reduceLeDiff, Nat.reduceAdd, Nat.reduceSub, Nat.reduceMul, Nat.reduceDiv, Int.reduceAdd, Int.reduceNeg, Int.reduceEq, Int.reduceLT, Int.reduceLE, updAll_cons, updAll_nil, pRest]; done) | with_reducible rfl | rfl) ?_
      exact ⟨hk2, rfl⟩
  · refine wlk_cond0 (by first | rfl | (simp only [go_sem, reduceIte, Nat.reduceEqDiff, Nat.reduceBEq, reduceCtorEq, Nat.reduceLT, Nat.reduceLeDiff, Nat.reduceAdd, Nat.reduceSub, Nat.reduceMul, Nat.reduceDiv, Int.reduceAdd, Int.reduceNeg, Int.reduceEq, Int.reduceLT, Int.reduceLE]; try simp (disch := omega) only [decide_eq_true, decide_eq_false])) ?_
    refine wlk_exit ?_
    repeat (first | refine hn4 _ ?_ | refine he4 _ _ ?_ | refine he3 _ _ ?_ | refine hn2 _ ?_ | refine he2 _ ?_ | refine hf2 _ _ (by decide) ?_ | refine hn1 _ ?_ | refine he1 _ _ ?_)
    obtain rfl : k = out.length := by omega
    rw [List.take_length]
    obtain ⟨hlen, hout⟩ := outD_ok n out
    generalize outD n out = D0 at hlen hout
    refine wlk_sreg fun KY hKY => ?_
    simp only [go_sem, reduceIte, Nat.reduceEqDiff, Nat.reduceBEq, reduceCtorEq, Nat.reduceLT, Nat.reduceLeDiff, Nat.reduceAdd, Nat.reduceSub, Nat.reduceMul, Nat.reduceDiv, Int.reduceAdd, Int.reduceNeg, Int.reduceEq, Int.reduceLT, Int.reduceLE, c_pieces_Of_r8]
    refine hKY _ ?_
    simp only [go_sem, reduceIte, Nat.reduceEqDiff, Nat.reduceBEq, reduceCtorEq, Nat.reduceLT, Nat.reduceLeDiff, Nat.reduceAdd, Nat.reduceSub, Nat.reduceMul, Nat.reduceDiv, Int.reduceAdd, Int.reduceNeg, Int.reduceEq, Int.reduceLT, Int.reduceLE]
    refine sem_nil [0, 8] 1 (by simp only [go_sem, reduceIte, Nat.reduceEqDiff, Nat.reduceBEq, reduceCtorEq, Nat.reduceLT, Nat.reduceLeDiff, Nat.reduceAdd, Nat.reduceSub, Nat.reduceMul, Nat.reduceDiv, Int.reduceAdd, Int.reduceNeg, Int.reduceEq, Int.reduceLT, Int.reduceLE]) ?_
    refine wlk_seq fun X7 hn7 he7 hr7 => ?_
    refine wlk_sreg fun KY hKY => ?_
    simp only [go_sem, reduceIte, Nat.reduceEqDiff, Nat.reduceBEq, reduceCtorEq, Nat.reduceLT, Nat.reduceLeDiff, Nat.reduceAdd, Nat.reduceSub, Nat.reduceMul, Nat.reduceDiv, Int.reduceAdd, Int.reduceNeg, Int.reduceEq, Int.reduceLT, Int.reduceLE, c_pieces_Of_r9, near_len]
    refine hKY _ ?_
    refine wlk_blk fun X8 hn8 he8 hf8 hr8 => ?_
    try simp only [go_sem, reduceIte, Nat.reduceEqDiff, Nat.reduceBEq, reduceCtorEq, Nat.reduceLT, Nat.reduceLeDiff, Nat.reduceAdd, Nat.reduceSub, Nat.reduceMul, Nat.reduceDiv, Int.reduceAdd, Int.reduceNeg, Int.reduceEq, Int.reduceLT, Int.reduceLE]
    refine wlk_lp (α := Nat × List Bool × List (List Nat)) [9, 18, 19, 40, 49] (fun (v, D, ps) => [(8, .own (some 1) (rowsO ps)), (39, .sc (.int .i64 (v : Int)))]) (fun (v, D, ps) => [some (pRest (near n es) D)]) (fun (v, D, ps) q => v ≤ n ∧ q = n - v ∧ OI n es (fun v => (v : Int) ∈ out) v D ps) ((0, D0, [])) (n) rfl (by first | (simp only [go_sem, reduceIte, Nat.reduceEqDiff, Nat.reduceBEq, reduceCtorEq, Nat.reduceLT, Nat.reduceLeDiff, Nat.reduceAdd, Nat.reduceSub, Nat.reduceMul, Nat.reduceDiv, Int.reduceAdd, Int.reduceNeg, Int.reduceEq, Int.reduceLT, Int.reduceLE, updAll_cons, updAll_nil]; done) | with_reducible rfl | rfl) (⟨by omega, rfl, OI.start hlen hout⟩) ?_
    rintro ⟨v, D, ps⟩ q ⟨hv, rfl, w⟩ X9 hn9 he9 hr9
    simp only [go_sem, reduceIte, Nat.reduceEqDiff, Nat.reduceBEq, reduceCtorEq, Nat.reduceLT, Nat.reduceLeDiff, Nat.reduceAdd, Nat.reduceSub, Nat.reduceMul, Nat.reduceDiv, Int.reduceAdd, Int.reduceNeg, Int.reduceEq, Int.reduceLT, Int.reduceLE, updAll_cons, updAll_nil]
    unfold pRest
    refine wlk_sreg fun KY hKY => ?_
    simp only [go_sem, reduceIte, Nat.reduceEqDiff, Nat.reduceBEq, reduceCtorEq, Nat.reduceLT, Nat.reduceLeDiff, Nat.reduceAdd, Nat.reduceSub, Nat.reduceMul, Nat.reduceDiv, Int.reduceAdd, Int.reduceNeg, Int.reduceEq, Int.reduceLT, Int.reduceLE, c_pieces_Of_r10]
    refine hKY _ ?_
    refine wlk_seq fun X10 hn10 he10 hr10 => ?_
    by_cases hv2 : v < n
    · refine wlk_cond1 (by first | rfl | (simp only [go_sem, reduceIte, Nat.reduceEqDiff, Nat.reduceBEq, reduceCtorEq, Nat.reduceLT, Nat.reduceLeDiff, Nat.reduceAdd, Nat.reduceSub, Nat.reduceMul, Nat.reduceDiv, Int.reduceAdd, Int.reduceNeg, Int.reduceEq, Int.reduceLT, Int.reduceLE]; try simp (disch := omega) only [decide_eq_true, decide_eq_false])) ?_
      refine wlk_skip ?_
      repeat (first | refine hn10 _ ?_ | refine he10 _ _ ?_ | refine he9 _ _ ?_ | refine hn8 _ ?_ | refine he8 _ ?_ | refine hf8 _ _ (by decide) ?_ | refine hn7 _ ?_ | refine he7 _ _ ?_ | refine hn4 _ ?_ | refine he4 _ _ ?_)
      refine wlk_seq fun X11 hn11 he11 hr11 => ?_
      refine wlk_blk fun X12 hn12 he12 hf12 hr12 => ?_
      refine wlk_sreg fun KY hKY => ?_
      simp only [go_sem, reduceIte, Nat.reduceEqDiff, Nat.reduceBEq, reduceCtorEq, Nat.reduceLT, Nat.reduceLeDiff, Nat.reduceAdd, Nat.reduceSub, Nat.reduceMul, Nat.reduceDiv, Int.reduceAdd, Int.reduceNeg, Int.reduceEq, Int.reduceLT, Int.reduceLE, c_pieces_Of_r11]
      refine hKY _ ?_
      have hDl := w.len
      have hvD : v < D.length := by omega
      have hbg := bools_get hvD
      refine wlk_sreg fun KY hKY => ?_
      simp only [go_sem, reduceIte, Nat.reduceEqDiff, Nat.reduceBEq, reduceCtorEq, Nat.reduceLT, Nat.reduceLeDiff, Nat.reduceAdd, Nat.reduceSub, Nat.reduceMul, Nat.reduceDiv, Int.reduceAdd, Int.reduceNeg, Int.reduceEq, Int.reduceLT, Int.reduceLE, c_pieces_Of_r12, hbg, hvD]
      refine hKY _ ?_
      cases hd : D.getD v false with
      | true =>
        refine wlk_cond0 (by first | rfl | (simp only [go_sem, reduceIte, Nat.reduceEqDiff, Nat.reduceBEq, reduceCtorEq, Nat.reduceLT, Nat.reduceLeDiff, Nat.reduceAdd, Nat.reduceSub, Nat.reduceMul, Nat.reduceDiv, Int.reduceAdd, Int.reduceNeg, Int.reduceEq, Int.reduceLT, Int.reduceLE, hd]; try simp (disch := omega) only [decide_eq_true, decide_eq_false])) ?_
        refine wlk_skip ?_
        repeat (first | refine hn12 _ ?_ | refine he12 _ ?_ | refine hf12 _ _ (by decide) ?_ | refine hn11 _ ?_ | refine he11 _ _ ?_ | refine hn10 _ ?_ | refine he10 _ _ ?_ | refine he9 _ _ ?_ | refine hn8 _ ?_ | refine he8 _ ?_ | refine hf8 _ _ (by decide) ?_ | refine hn7 _ ?_ | refine he7 _ _ ?_ | refine hn4 _ ?_ | refine he4 _ _ ?_)
        refine wlk_reg fun KY hKY => ?_
        simp only [go_sem, reduceIte, Nat.reduceEqDiff, Nat.reduceBEq, reduceCtorEq, Nat.reduceLT, Nat.reduceLeDiff, Nat.reduceAdd, Nat.reduceSub, Nat.reduceMul, Nat.reduceDiv, Int.reduceAdd, Int.reduceNeg, Int.reduceEq, Int.reduceLT, Int.reduceLE, c_pieces_Of_r14, incS (show v < 4611686018427387904 by omega)]
        refine hKY _ ?_
        repeat (first | refine hn12 _ ?_ | refine he12 _ ?_ | refine hf12 _ _ (by decide) ?_ | refine hn11 _ ?_ | refine he11 _ _ ?_ | refine hn10 _ ?_ | refine he10 _ _ ?_)
        refine hn9 _ ((v + 1, D, ps)) (n - (v + 1)) (by omega) (by first | (simp only [go_sem, reduceIte, Nat.reduceEqDiff, Nat.reduceBEq, reduceCtorEq, Nat.reduceLT, Nat.reduceLeDiff, Nat.reduceAdd, Nat.reduceSub, Nat.reduceMul, Nat.reduceDiv, Int.reduceAdd, Int.reduceNeg, Int.reduceEq, Int.reduceLT, Int.reduceLE, updAll_cons, updAll_nil, pRest]; done) | with_reducible rfl | rfl) ?_
        exact ⟨hv2, rfl, w.skip hd⟩
      | false =>
        refine wlk_cond1 (by first | rfl | (simp only [go_sem, reduceIte, Nat.reduceEqDiff, Nat.reduceBEq, reduceCtorEq, Nat.reduceLT, Nat.reduceLeDiff, Nat.reduceAdd, Nat.reduceSub, Nat.reduceMul, Nat.reduceDiv, Int.reduceAdd, Int.reduceNeg, Int.reduceEq, Int.reduceLT, Int.reduceLE, hd]; try simp (disch := omega) only [decide_eq_true, decide_eq_false])) ?_
        have hps := pieces_le w
        have hby : (ps.length + 1) * 24 ≤ 140737488355328 := by omega
        refine wlk_reg fun KY hKY => ?_
        simp only [go_sem, reduceIte, Nat.reduceEqDiff, Nat.reduceBEq, reduceCtorEq, Nat.reduceLT, Nat.reduceLeDiff, Nat.reduceAdd, Nat.reduceSub, Nat.reduceMul, Nat.reduceDiv, Int.reduceAdd, Int.reduceNeg, Int.reduceEq, Int.reduceLT, Int.reduceLE, c_pieces_Of_r13]
        apply call_gen [] [0] false none rfl
        iterate 8 (first | (simp only [go_sem, reduceIte, Nat.reduceEqDiff, Nat.reduceBEq, reduceCtorEq, Nat.reduceLT, Nat.reduceLeDiff, Nat.reduceAdd, Nat.reduceSub, Nat.reduceMul, Nat.reduceDiv, Int.reduceAdd, Int.reduceNeg, Int.reduceEq, Int.reduceLT, Int.reduceLE, watchIn] <;> rfl) | rfl)
        refine (piece_ok g D hDl v hv2 hd).mono ?_
        rintro _ _ ⟨p, D', hp, rfl, rfl⟩
        unfold pRest
        refine ⟨Nat.le_of_ble_eq_true rfl, (fun hh => by cases hh), ?_⟩
        simp only [go_sem, reduceIte, Nat.reduceEqDiff, Nat.reduceBEq, reduceCtorEq, Nat.reduceLT, Nat.reduceLeDiff, Nat.reduceAdd, Nat.reduceSub, Nat.reduceMul, Nat.reduceDiv, Int.reduceAdd, Int.reduceNeg, Int.reduceEq, Int.reduceLT, Int.reduceLE, callOut, AState.after, rowsO_cellOk, hby, rowsO_snoc]
        refine hKY _ ?_
        repeat (first | refine hn12 _ ?_ | refine he12 _ ?_ | refine hf12 _ _ (by decide) ?_ | refine hn11 _ ?_ | refine he11 _ _ ?_ | refine hn10 _ ?_ | refine he10 _ _ ?_ | refine he9 _ _ ?_ | refine hn8 _ ?_ | refine he8 _ ?_ | refine hf8 _ _ (by decide) ?_ | refine hn7 _ ?_ | refine he7 _ _ ?_ | refine hn4 _ ?_ | refine he4 _ _ ?_)
        refine wlk_reg fun KY hKY => ?_
        simp only [go_sem, reduceIte, Nat.reduceEqDiff, Nat.reduceBEq, reduceCtorEq, Nat.reduceLT, Nat.reduceLeDiff, Nat.reduceAdd, Nat.reduceSub, Nat.reduceMul, Nat.reduceDiv, Int.reduceAdd, Int.reduceNeg, Int.reduceEq, Int.reduceLT, Int.reduceLE, c_pieces_Of_r14, incS (show v < 4611686018427387904 by omega)]
        refine hKY _ ?_
        repeat (first | refine hn12 _ ?_ | refine he12 _ ?_ | refine hf12 _ _ (by decide) ?_ | refine hn11 _ ?_ | refine he11 _ _ ?_ | refine hn10 _ ?_ | refine he10 _ _ ?_)
        refine hn9 _ ((v + 1, D', ps ++ [p])) (n - (v + 1)) (by omega) (by first | (simp only [go_sem, reduceIte, Nat.reduceEqDiff, Nat.reduceBEq, reduceCtorEq, Nat.reduceLT, Nat.reduceLeDiff, Nat.reduceAdd, Nat.reduceSub, Nat.reduceMul, Nat.reduceDiv, Int.reduceAdd, Int.reduceNeg, Int.reduceEq, Int.reduceLT, Int.reduceLE, updAll_cons, updAll_nil, pRest]; done) | with_reducible rfl | rfl) ?_
        exact ⟨hv2, rfl, w.take g.adj_lt hp⟩
    · refine wlk_cond0 (by first | rfl | (simp only [go_sem, reduceIte, Nat.reduceEqDiff, Nat.reduceBEq, reduceCtorEq, Nat.reduceLT, Nat.reduceLeDiff, Nat.reduceAdd, Nat.reduceSub, Nat.reduceMul, Nat.reduceDiv, Int.reduceAdd, Int.reduceNeg, Int.reduceEq, Int.reduceLT, Int.reduceLE]; try simp (disch := omega) only [decide_eq_true, decide_eq_false])) ?_
      refine wlk_exit ?_
      repeat (first | refine hn10 _ ?_ | refine he10 _ _ ?_ | refine he9 _ _ ?_ | refine hn8 _ ?_ | refine he8 _ ?_ | refine hf8 _ _ (by decide) ?_ | refine hn7 _ ?_ | refine he7 _ _ ?_ | refine hn4 _ ?_ | refine he4 _ _ ?_ | refine he3 _ _ ?_ | refine hn2 _ ?_ | refine he2 _ ?_ | refine hf2 _ _ (by decide) ?_ | refine hn1 _ ?_ | refine he1 _ _ ?_)
      obtain rfl : v = n := by omega
      refine wlk_sreg fun KY hKY => ?_
      simp only [go_sem, reduceIte, Nat.reduceEqDiff, Nat.reduceBEq, reduceCtorEq, Nat.reduceLT, Nat.reduceLeDiff, Nat.reduceAdd, Nat.reduceSub, Nat.reduceMul, Nat.reduceDiv, Int.reduceAdd, Int.reduceNeg, Int.reduceEq, Int.reduceLT, Int.reduceLE, c_pieces_Of_r15]
      refine hKY _ ?_
      refine wlk_ret ?_
      repeat (first | refine hr10 _ ?_ | refine hr9 _ ?_ | refine hr8 _ ?_ | refine hr7 _ ?_ | refine hr4 _ ?_ | refine hr3 _ ?_ | refine hr2 _ ?_ | refine hr1 _ ?_)
      simp only [go_sem, reduceIte, Nat.reduceEqDiff, Nat.reduceBEq, reduceCtorEq, Nat.reduceLT, Nat.reduceLeDiff, Nat.reduceAdd, Nat.reduceSub, Nat.reduceMul, Nat.reduceDiv, Int.reduceAdd, Int.reduceNeg, Int.reduceEq, Int.reduceLT, Int.reduceLE]
      exact ⟨ps, w.pieces, rfl⟩
abbrev PsQ (n : Nat) (es : Es) (out : List Int) (r : AVal) (h' : Heap) : Prop := (∃ ps, IsPieces n es (fun v => (v : Int) ∈ out) ps ∧ r = .own (some 1) (rowsO ps)) ∧ h' = []
theorem ofT_ok {n : Nat} {es : Es} (g : GR n es) (out : List Int) (ho : out.length ≤ 1000000000) :
    ACalls Try.prog [] n_pieces_Of [.imm 1 (rowsI (near n es)), .imm 1 (ints out)] [] (PsQ n es out) := by
  refine ACalls.trim ((of_ok g out ho).mono ?_)
  rintro r h' ⟨ps, h1, rfl, h2⟩
  refine ⟨Nat.zero_le _, ⟨ps, h1, ?_⟩, rfl⟩
  simp only [AVal.ren, rowsO_ren]
theorem without_ok {n : Nat} {es : Es} (g : GR n es) (out : List Int) (ho : out.length ≤ 1000000000) :
    ACalls Try.prog [] n_pieces_Without [.agg [.sc (.int .i64 (n : Int)), .imm 2 (twos (castE es))], .imm 1 (ints out)] [] (PsQ n es out) := by
  refine go_pieces_Without rfl ?_
  unfold c_pieces_Without v_pieces_Without
  refine wlk_sreg fun KY hKY => ?_
  simp only [go_sem, reduceIte, Nat.reduceEqDiff, Nat.reduceBEq, reduceCtorEq, Nat.reduceLT, Nat.reduceLeDiff, Nat.reduceAdd, Nat.reduceSub, Nat.reduceMul, Nat.reduceDiv, Int.reduceAdd, Int.reduceNeg, Int.reduceEq, Int.reduceLT, Int.reduceLE, c_pieces_Without_r0]
  refine hKY _ ?_
  refine wlk_seq fun X1 hn1 he1 hr1 => ?_
  refine wlk_sreg fun KY hKY => ?_
  simp only [go_sem, reduceIte, Nat.reduceEqDiff, Nat.reduceBEq, reduceCtorEq, Nat.reduceLT, Nat.reduceLeDiff, Nat.reduceAdd, Nat.reduceSub, Nat.reduceMul, Nat.reduceDiv, Int.reduceAdd, Int.reduceNeg, Int.reduceEq, Int.reduceLT, Int.reduceLE, c_pieces_Without_r1]
  refine call_view rfl (by simp only [go_sem, reduceIte, Nat.reduceEqDiff, Nat.reduceBEq, reduceCtorEq, Nat.reduceLT, Nat.reduceLeDiff, Nat.reduceAdd, Nat.reduceSub, Nat.reduceMul, Nat.reduceDiv, Int.reduceAdd, Int.reduceNeg, Int.reduceEq, Int.reduceLT, Int.reduceLE] <;> rfl) ((right_ok _ _).mono ?_)
  rintro rr hh ⟨rfl, rfl⟩
  refine ⟨rfl, rfl, rfl, ?_⟩
  simp only [go_sem, reduceIte, Nat.reduceEqDiff, Nat.reduceBEq, reduceCtorEq, Nat.reduceLT, Nat.reduceLeDiff, Nat.reduceAdd, Nat.reduceSub, Nat.reduceMul, Nat.reduceDiv, Int.reduceAdd, Int.reduceNeg, Int.reduceEq, Int.reduceLT, Int.reduceLE, rightB_GR g]
  refine hKY _ ?_
  refine wlk_cond0 (by first | rfl | (simp only [go_sem, reduceIte, Nat.reduceEqDiff, Nat.reduceBEq, reduceCtorEq, Nat.reduceLT, Nat.reduceLeDiff, Nat.reduceAdd, Nat.reduceSub, Nat.reduceMul, Nat.reduceDiv, Int.reduceAdd, Int.reduceNeg, Int.reduceEq, Int.reduceLT, Int.reduceLE]; try simp (disch := omega) only [decide_eq_true, decide_eq_false])) ?_
  refine wlk_skip ?_
  repeat (first | refine hn1 _ ?_ | refine he1 _ _ ?_)
  refine wlk_sreg fun KY hKY => ?_
  simp only [go_sem, reduceIte, Nat.reduceEqDiff, Nat.reduceBEq, reduceCtorEq, Nat.reduceLT, Nat.reduceLeDiff, Nat.reduceAdd, Nat.reduceSub, Nat.reduceMul, Nat.reduceDiv, Int.reduceAdd, Int.reduceNeg, Int.reduceEq, Int.reduceLT, Int.reduceLE, c_pieces_Without_r3]
  refine call_view rfl (by simp only [go_sem, reduceIte, Nat.reduceEqDiff, Nat.reduceBEq, reduceCtorEq, Nat.reduceLT, Nat.reduceLeDiff, Nat.reduceAdd, Nat.reduceSub, Nat.reduceMul, Nat.reduceDiv, Int.reduceAdd, Int.reduceNeg, Int.reduceEq, Int.reduceLT, Int.reduceLE] <;> rfl) ((lists_ok g).mono ?_)
  rintro rr hh ⟨rfl, rfl⟩
  refine ⟨?_, ?_, ?_, ?_⟩
  iterate 3 (first | rfl | simp only [go_sem, reduceIte, Nat.reduceEqDiff, Nat.reduceBEq, reduceCtorEq, Nat.reduceLT, Nat.reduceLeDiff, Nat.reduceAdd, Nat.reduceSub, Nat.reduceMul, Nat.reduceDiv, Int.reduceAdd, Int.reduceNeg, Int.reduceEq, Int.reduceLT, Int.reduceLE])
  simp only [go_sem, reduceIte, Nat.reduceEqDiff, Nat.reduceBEq, reduceCtorEq, Nat.reduceLT, Nat.reduceLeDiff, Nat.reduceAdd, Nat.reduceSub, Nat.reduceMul, Nat.reduceDiv, Int.reduceAdd, Int.reduceNeg, Int.reduceEq, Int.reduceLT, Int.reduceLE]
  refine call_view rfl (by simp only [go_sem, reduceIte, Nat.reduceEqDiff, Nat.reduceBEq, reduceCtorEq, Nat.reduceLT, Nat.reduceLeDiff, Nat.reduceAdd, Nat.reduceSub, Nat.reduceMul, Nat.reduceDiv, Int.reduceAdd, Int.reduceNeg, Int.reduceEq, Int.reduceLT, Int.reduceLE] <;> rfl) ((ofT_ok g out ho).mono ?_)
  rintro rr hh ⟨⟨ps, hps, rfl⟩, rfl⟩
  refine ⟨?_, ?_, ?_, ?_⟩
  iterate 3 (first | rfl | simp only [go_sem, reduceIte, Nat.reduceEqDiff, Nat.reduceBEq, reduceCtorEq, Nat.reduceLT, Nat.reduceLeDiff, Nat.reduceAdd, Nat.reduceSub, Nat.reduceMul, Nat.reduceDiv, Int.reduceAdd, Int.reduceNeg, Int.reduceEq, Int.reduceLT, Int.reduceLE])
  simp only [go_sem, reduceIte, Nat.reduceEqDiff, Nat.reduceBEq, reduceCtorEq, Nat.reduceLT, Nat.reduceLeDiff, Nat.reduceAdd, Nat.reduceSub, Nat.reduceMul, Nat.reduceDiv, Int.reduceAdd, Int.reduceNeg, Int.reduceEq, Int.reduceLT, Int.reduceLE]
  refine hKY _ ?_
  refine wlk_ret ?_
  repeat (first | refine hr1 _ ?_)
  simp only [go_sem, reduceIte, Nat.reduceEqDiff, Nat.reduceBEq, reduceCtorEq, Nat.reduceLT, Nat.reduceLeDiff, Nat.reduceAdd, Nat.reduceSub, Nat.reduceMul, Nat.reduceDiv, Int.reduceAdd, Int.reduceNeg, Int.reduceEq, Int.reduceLT, Int.reduceLE]
  exact ⟨⟨ps, hps, rfl⟩, rfl⟩
theorem all_ok {n : Nat} {es : Es} (g : GR n es) : ACalls Try.prog [] n_pieces_All [.agg [.sc (.int .i64 (n : Int)), .imm 2 (twos (castE es))]] [] (PsQ n es []) := by
  refine go_pieces_All rfl ?_
  unfold c_pieces_All v_pieces_All
  refine wlk_sreg fun KY hKY => ?_
  simp only [go_sem, reduceIte, Nat.reduceEqDiff, Nat.reduceBEq, reduceCtorEq, Nat.reduceLT, Nat.reduceLeDiff, Nat.reduceAdd, Nat.reduceSub, Nat.reduceMul, Nat.reduceDiv, Int.reduceAdd, Int.reduceNeg, Int.reduceEq, Int.reduceLT, Int.reduceLE, c_pieces_All_r0]
  refine hKY _ ?_
  refine wlk_sreg fun KY hKY => ?_
  simp only [go_sem, reduceIte, Nat.reduceEqDiff, Nat.reduceBEq, reduceCtorEq, Nat.reduceLT, Nat.reduceLeDiff, Nat.reduceAdd, Nat.reduceSub, Nat.reduceMul, Nat.reduceDiv, Int.reduceAdd, Int.reduceNeg, Int.reduceEq, Int.reduceLT, Int.reduceLE, c_pieces_All_r1]
  refine call_view rfl (by simp only [go_sem, reduceIte, Nat.reduceEqDiff, Nat.reduceBEq, reduceCtorEq, Nat.reduceLT, Nat.reduceLeDiff, Nat.reduceAdd, Nat.reduceSub, Nat.reduceMul, Nat.reduceDiv, Int.reduceAdd, Int.reduceNeg, Int.reduceEq, Int.reduceLT, Int.reduceLE] <;> rfl) (((without_ok g [] (Nat.zero_le _)).sees (.cons (.refl _) (.cons (.imm 1) .nil))).mono ?_)
  rintro rr hh ⟨⟨ps, hps, rfl⟩, rfl⟩
  refine ⟨?_, ?_, ?_, ?_⟩
  iterate 3 (first | rfl | simp only [go_sem, reduceIte, Nat.reduceEqDiff, Nat.reduceBEq, reduceCtorEq, Nat.reduceLT, Nat.reduceLeDiff, Nat.reduceAdd, Nat.reduceSub, Nat.reduceMul, Nat.reduceDiv, Int.reduceAdd, Int.reduceNeg, Int.reduceEq, Int.reduceLT, Int.reduceLE])
  simp only [go_sem, reduceIte, Nat.reduceEqDiff, Nat.reduceBEq, reduceCtorEq, Nat.reduceLT, Nat.reduceLeDiff, Nat.reduceAdd, Nat.reduceSub, Nat.reduceMul, Nat.reduceDiv, Int.reduceAdd, Int.reduceNeg, Int.reduceEq, Int.reduceLT, Int.reduceLE]
  refine hKY _ ?_
  refine wlk_ret ?_
  simp only [go_sem, reduceIte, Nat.reduceEqDiff, Nat.reduceBEq, reduceCtorEq, Nat.reduceLT, Nat.reduceLeDiff, Nat.reduceAdd, Nat.reduceSub, Nat.reduceMul, Nat.reduceDiv, Int.reduceAdd, Int.reduceNeg, Int.reduceEq, Int.reduceLT, Int.reduceLE]
  exact ⟨⟨ps, hps, rfl⟩, rfl⟩
theorem odd_le (ps : List (List Nat)) : oddCount ps ≤ ps.length := by
  induction ps with
  | nil => exact Nat.le_refl _
  | cons p ps ih => simp only [oddCount, List.map_cons, List.sum_cons, List.length_cons] at *; omega
end Go.Proofs.Ytoefhbfgmceikaa
set_option maxRecDepth 100000
set_option maxHeartbeats 4000000
namespace Go.Proofs.Ytoefhbfgmceikaa
open Go Go.Ga Go.Ga.Gl
theorem inc (k : Nat) (h : k ≤ 1000000000) : IntKind.i64.wrap ((k : Int) + 1) = ((k + 1 : Nat) : Int) := by rw [IntWalk.i64_in _ (by omega)]; omega
theorem nats_ints (xs : List Nat) : nats xs = ints (xs.map fun (n : Nat) => (n : Int)) := by simp [nats, ints]
theorem ints_at {xs : List Int} {k : Nat} {x : Int} (h : xs[k]? = some x) : (ints xs)[k]? = some (.sc (.int .i64 x)) := by simp [ints, h]
theorem eqi_ok (x y : Int) : ACalls Try.prog [] n_garlandhelp_Plain_int__1 [.sc (.int .i64 x), .sc (.int .i64 y)] [] fun r h' => r = .sc (.bool (decide (x = y))) ∧ h' = [] := by
  refine go_garlandhelp_Plain_int__1 rfl ?_
  unfold c_garlandhelp_Plain_int__1 v_garlandhelp_Plain_int__1
  refine wlk_sreg fun KY hKY => ?_
  simp only [go_sem, reduceIte, Nat.reduceEqDiff, Nat.reduceBEq, reduceCtorEq, Nat.reduceLT, Nat.reduceLeDiff, Nat.reduceAdd, Nat.reduceSub, Nat.reduceMul, Nat.reduceDiv, Int.reduceAdd, Int.reduceNeg, Int.reduceEq, Int.reduceLT, Int.reduceLE, c_garlandhelp_Plain_int__1_r0]
  refine hKY _ ?_
  refine wlk_sreg fun KY hKY => ?_
  simp only [go_sem, reduceIte, Nat.reduceEqDiff, Nat.reduceBEq, reduceCtorEq, Nat.reduceLT, Nat.reduceLeDiff, Nat.reduceAdd, Nat.reduceSub, Nat.reduceMul, Nat.reduceDiv, Int.reduceAdd, Int.reduceNeg, Int.reduceEq, Int.reduceLT, Int.reduceLE, c_garlandhelp_Plain_int__1_r1]
  refine hKY _ ?_
  refine wlk_ret ?_
  simp only [go_sem, reduceIte, Nat.reduceEqDiff, Nat.reduceBEq, reduceCtorEq, Nat.reduceLT, Nat.reduceLeDiff, Nat.reduceAdd, Nat.reduceSub, Nat.reduceMul, Nat.reduceDiv, Int.reduceAdd, Int.reduceNeg, Int.reduceEq, Int.reduceLT, Int.reduceLE]
theorem alike_snoc {α : Type} [DecidableEq α] {xs ys : List α} {k : Nat} {x y : α} (hx : xs[k]? = some x) (hy : ys[k]? = some y) (h : xs.take k = ys.take k) : xs.take (k + 1) = ys.take (k + 1) ↔ x = y := by
  rw [List.take_add_one, List.take_add_one, hx, hy, h]
  simp
theorem samei_ok (xs ys : List Int) (hb : xs.length ≤ 1000000000) : ACalls Try.prog [] n_garlandhelp_Same_int_ [.imm 1 (ints xs), .imm 1 (ints ys), .fn (.func n_garlandhelp_Plain_int__1) [] []] [] fun r h' => r = .sc (.bool (decide (xs = ys))) ∧ h' = [] := by
  refine go_garlandhelp_Same_int_ rfl ?_
  unfold c_garlandhelp_Same_int_ v_garlandhelp_Same_int_
  refine wlk_sreg fun KY hKY => ?_
  simp only [go_sem, reduceIte, Nat.reduceEqDiff, Nat.reduceBEq, reduceCtorEq, Nat.reduceLT, Nat.reduceLeDiff, Nat.reduceAdd, Nat.reduceSub, Nat.reduceMul, Nat.reduceDiv, Int.reduceAdd, Int.reduceNeg, Int.reduceEq, Int.reduceLT, Int.reduceLE, c_garlandhelp_Same_int__r0]
  refine hKY _ ?_
  refine wlk_seq fun X1 hn1 he1 hr1 => ?_
  refine wlk_sreg fun KY hKY => ?_
  simp only [go_sem, reduceIte, Nat.reduceEqDiff, Nat.reduceBEq, reduceCtorEq, Nat.reduceLT, Nat.reduceLeDiff, Nat.reduceAdd, Nat.reduceSub, Nat.reduceMul, Nat.reduceDiv, Int.reduceAdd, Int.reduceNeg, Int.reduceEq, Int.reduceLT, Int.reduceLE, c_garlandhelp_Same_int__r1, Nat.div_one, ints_len]
  refine hKY _ ?_
  simp only [go_sem, reduceIte, Nat.reduceEqDiff, Nat.reduceBEq, reduceCtorEq, Nat.reduceLT, Nat.reduceLeDiff, Nat.reduceAdd, Nat.reduceSub, Nat.reduceMul, Nat.reduceDiv, Int.reduceAdd, Int.reduceNeg, Int.reduceEq, Int.reduceLT, Int.reduceLE]
  by_cases hl : xs.length = ys.length
  case neg =>
    have hl' : decide (((xs.length : Nat) : Int) ≠ ((ys.length : Nat) : Int)) = true := decide_eq_true (by omega)
    refine wlk_cond1 (by simp only [go_sem, reduceIte, Nat.reduceEqDiff, Nat.reduceBEq, reduceCtorEq, Nat.reduceLT, Nat.reduceLeDiff, Nat.reduceAdd, Nat.reduceSub, Nat.reduceMul, Nat.reduceDiv, Int.reduceAdd, Int.reduceNeg, Int.reduceEq, Int.reduceLT, Int.reduceLE, hl']) ?_
    refine wlk_sreg fun KY hKY => ?_
    simp only [go_sem, reduceIte, Nat.reduceEqDiff, Nat.reduceBEq, reduceCtorEq, Nat.reduceLT, Nat.reduceLeDiff, Nat.reduceAdd, Nat.reduceSub, Nat.reduceMul, Nat.reduceDiv, Int.reduceAdd, Int.reduceNeg, Int.reduceEq, Int.reduceLT, Int.reduceLE, c_garlandhelp_Same_int__r2]
    refine hKY _ ?_
    refine wlk_ret (hr1 _ ?_)
    simp only [go_sem, reduceIte, Nat.reduceEqDiff, Nat.reduceBEq, reduceCtorEq, Nat.reduceLT, Nat.reduceLeDiff, Nat.reduceAdd, Nat.reduceSub, Nat.reduceMul, Nat.reduceDiv, Int.reduceAdd, Int.reduceNeg, Int.reduceEq, Int.reduceLT, Int.reduceLE]
    rw [decide_eq_false (fun e : xs = ys => hl (by rw [e]))]
  have hl' : decide (((xs.length : Nat) : Int) ≠ ((ys.length : Nat) : Int)) = false := decide_eq_false (by omega)
  refine wlk_cond0 (by simp only [go_sem, reduceIte, Nat.reduceEqDiff, Nat.reduceBEq, reduceCtorEq, Nat.reduceLT, Nat.reduceLeDiff, Nat.reduceAdd, Nat.reduceSub, Nat.reduceMul, Nat.reduceDiv, Int.reduceAdd, Int.reduceNeg, Int.reduceEq, Int.reduceLT, Int.reduceLE, hl']) (wlk_skip (hn1 _ ?_))
  refine wlk_seq fun X2 hn2 he2 hr2 => ?_
  refine wlk_sreg fun KY hKY => ?_
  simp only [go_sem, reduceIte, Nat.reduceEqDiff, Nat.reduceBEq, reduceCtorEq, Nat.reduceLT, Nat.reduceLeDiff, Nat.reduceAdd, Nat.reduceSub, Nat.reduceMul, Nat.reduceDiv, Int.reduceAdd, Int.reduceNeg, Int.reduceEq, Int.reduceLT, Int.reduceLE, c_garlandhelp_Same_int__r3]
  refine hKY _ ?_
  refine wlk_blk fun X3 hn3 he3 hf3 hr3 => ?_
  refine wlk_loop (fun m s => ∃ (k : Nat) (A16 A29 : AVal), k ≤ xs.length ∧ m = xs.length - k ∧ xs.take k = ys.take k ∧ s = { vs := [(0, .imm 1 (ints xs)), (1, .imm 1 (ints ys)), (2, .fn (.func n_garlandhelp_Plain_int__1) [] []), (6, .sc (.bool false)), (7, .sc (.int .i64 (k : Int))), (12, .sc (.bool (decide (((xs.length : Nat) : Int) ≠ ((ys.length : Nat) : Int))))), (16, A16), (29, A29)], ts := [], h := [] }) xs.length ⟨0, .dead, .dead, Nat.zero_le _, rfl, rfl, ?_⟩ ?_
  · rfl
  rintro m _ ⟨k, A16, A29, hk, rfl, hpre, rfl⟩ X4 hn4 he4 hr4
  refine sem_forget [16, 29] rfl ?_
  simp only [go_sem, reduceIte, Nat.reduceEqDiff, Nat.reduceBEq, reduceCtorEq, Nat.reduceLT, Nat.reduceLeDiff, Nat.reduceAdd, Nat.reduceSub, Nat.reduceMul, Nat.reduceDiv, Int.reduceAdd, Int.reduceNeg, Int.reduceEq, Int.reduceLT, Int.reduceLE]
  refine wlk_seq fun X5 hn5 he5 hr5 => ?_
  refine wlk_seq fun X6 hn6 he6 hr6 => ?_
  refine wlk_reg fun KY hKY => ?_
  simp only [go_sem, reduceIte, Nat.reduceEqDiff, Nat.reduceBEq, reduceCtorEq, Nat.reduceLT, Nat.reduceLeDiff, Nat.reduceAdd, Nat.reduceSub, Nat.reduceMul, Nat.reduceDiv, Int.reduceAdd, Int.reduceNeg, Int.reduceEq, Int.reduceLT, Int.reduceLE, c_garlandhelp_Same_int__r4, Nat.div_one, ints_len]
  refine hKY _ (hn6 _ ?_)
  simp only [go_sem, reduceIte, Nat.reduceEqDiff, Nat.reduceBEq, reduceCtorEq, Nat.reduceLT, Nat.reduceLeDiff, Nat.reduceAdd, Nat.reduceSub, Nat.reduceMul, Nat.reduceDiv, Int.reduceAdd, Int.reduceNeg, Int.reduceEq, Int.reduceLT, Int.reduceLE]
  refine wlk_cond (v := decide ((k : Int) < (xs.length : Int))) rfl (fun h => wlk_skip (hn5 _ ?_)) fun h => wlk_exit (he5 _ _ (he4 _ _ (he3 _ (hn2 _ ?_))))
  · have hlt : k < xs.length := by have := of_decide_eq_true h; omega
    have hlt2 : k < ys.length := by omega
    have hx : xs[k]? = some xs[k] := List.getElem?_eq_getElem hlt
    have hy : ys[k]? = some ys[k] := List.getElem?_eq_getElem hlt2
    have st := alike_snoc hx hy hpre
    refine wlk_seq fun X7 hn7 he7 hr7 => ?_
    refine wlk_blk fun X8 hn8 he8 hf8 hr8 => ?_
    refine wlk_sdraw fun KY hKY => ?_
    simp only [go_sem, reduceIte, Nat.reduceEqDiff, Nat.reduceBEq, reduceCtorEq, Nat.reduceLT, Nat.reduceLeDiff, Nat.reduceAdd, Nat.reduceSub, Nat.reduceMul, Nat.reduceDiv, Int.reduceAdd, Int.reduceNeg, Int.reduceEq, Int.reduceLT, Int.reduceLE, c_garlandhelp_Same_int__r5, ints_len, ints_at hx, ints_at hy, hlt, hlt2]
    refine call_view rfl (by simp only [go_sem, reduceIte, Nat.reduceEqDiff, Nat.reduceBEq, reduceCtorEq, Nat.reduceLT, Nat.reduceLeDiff, Nat.reduceAdd, Nat.reduceSub, Nat.reduceMul, Nat.reduceDiv, Int.reduceAdd, Int.reduceNeg, Int.reduceEq, Int.reduceLT, Int.reduceLE] <;> rfl) ((eqi_ok xs[k] ys[k]).mono ?_)
    rintro rr hh ⟨rfl, rfl⟩
    refine ⟨rfl, rfl, rfl, ?_⟩
    simp only [go_sem, reduceIte, Nat.reduceEqDiff, Nat.reduceBEq, reduceCtorEq, Nat.reduceLT, Nat.reduceLeDiff, Nat.reduceAdd, Nat.reduceSub, Nat.reduceMul, Nat.reduceDiv, Int.reduceAdd, Int.reduceNeg, Int.reduceEq, Int.reduceLT, Int.reduceLE]
    refine hKY _ ?_
    simp only [go_sem, reduceIte, Nat.reduceEqDiff, Nat.reduceBEq, reduceCtorEq, Nat.reduceLT, Nat.reduceLeDiff, Nat.reduceAdd, Nat.reduceSub, Nat.reduceMul, Nat.reduceDiv, Int.reduceAdd, Int.reduceNeg, Int.reduceEq, Int.reduceLT, Int.reduceLE]
    by_cases e : xs[k] = ys[k]
    · refine wlk_cond0 (by simp only [go_sem, reduceIte, Nat.reduceEqDiff, Nat.reduceBEq, reduceCtorEq, Nat.reduceLT, Nat.reduceLeDiff, Nat.reduceAdd, Nat.reduceSub, Nat.reduceMul, Nat.reduceDiv, Int.reduceAdd, Int.reduceNeg, Int.reduceEq, Int.reduceLT, Int.reduceLE, decide_eq_true e]) (wlk_skip (hn8 _ (hn7 _ ?_)))
      refine wlk_reg fun KY hKY => ?_
      simp only [go_sem, reduceIte, Nat.reduceEqDiff, Nat.reduceBEq, reduceCtorEq, Nat.reduceLT, Nat.reduceLeDiff, Nat.reduceAdd, Nat.reduceSub, Nat.reduceMul, Nat.reduceDiv, Int.reduceAdd, Int.reduceNeg, Int.reduceEq, Int.reduceLT, Int.reduceLE, c_garlandhelp_Same_int__r7, inc k (by omega)]
      refine hKY _ (hn4 (xs.length - (k + 1)) _ (by omega) ?_)
      simp only [go_sem, reduceIte, Nat.reduceEqDiff, Nat.reduceBEq, reduceCtorEq, Nat.reduceLT, Nat.reduceLeDiff, Nat.reduceAdd, Nat.reduceSub, Nat.reduceMul, Nat.reduceDiv, Int.reduceAdd, Int.reduceNeg, Int.reduceEq, Int.reduceLT, Int.reduceLE]
      exact ⟨k + 1, _, _, hlt, rfl, st.2 e, rfl⟩
    · refine wlk_cond1 (by simp only [go_sem, reduceIte, Nat.reduceEqDiff, Nat.reduceBEq, reduceCtorEq, Nat.reduceLT, Nat.reduceLeDiff, Nat.reduceAdd, Nat.reduceSub, Nat.reduceMul, Nat.reduceDiv, Int.reduceAdd, Int.reduceNeg, Int.reduceEq, Int.reduceLT, Int.reduceLE, decide_eq_false e]) ?_
      refine wlk_sreg fun KY hKY => ?_
      simp only [go_sem, reduceIte, Nat.reduceEqDiff, Nat.reduceBEq, reduceCtorEq, Nat.reduceLT, Nat.reduceLeDiff, Nat.reduceAdd, Nat.reduceSub, Nat.reduceMul, Nat.reduceDiv, Int.reduceAdd, Int.reduceNeg, Int.reduceEq, Int.reduceLT, Int.reduceLE, c_garlandhelp_Same_int__r6]
      refine hKY _ ?_
      refine wlk_ret (hr8 _ (hr7 _ (hr4 _ (hr3 _ (hr2 _ ?_)))))
      simp only [go_sem, reduceIte, Nat.reduceEqDiff, Nat.reduceBEq, reduceCtorEq, Nat.reduceLT, Nat.reduceLeDiff, Nat.reduceAdd, Nat.reduceSub, Nat.reduceMul, Nat.reduceDiv, Int.reduceAdd, Int.reduceNeg, Int.reduceEq, Int.reduceLT, Int.reduceLE]
      rw [decide_eq_false (fun e' : xs = ys => e (by subst e'; rfl))]
  · have hkn : k = xs.length := by have := of_decide_eq_false h; omega
    refine wlk_sreg fun KY hKY => ?_
    simp only [go_sem, reduceIte, Nat.reduceEqDiff, Nat.reduceBEq, reduceCtorEq, Nat.reduceLT, Nat.reduceLeDiff, Nat.reduceAdd, Nat.reduceSub, Nat.reduceMul, Nat.reduceDiv, Int.reduceAdd, Int.reduceNeg, Int.reduceEq, Int.reduceLT, Int.reduceLE, c_garlandhelp_Same_int__r8]
    refine hKY _ ?_
    refine wlk_ret ?_
    simp only [go_sem, reduceIte, Nat.reduceEqDiff, Nat.reduceBEq, reduceCtorEq, Nat.reduceLT, Nat.reduceLeDiff, Nat.reduceAdd, Nat.reduceSub, Nat.reduceMul, Nat.reduceDiv, Int.reduceAdd, Int.reduceNeg, Int.reduceEq, Int.reduceLT, Int.reduceLE]
    rw [hkn, List.take_length, hl, List.take_length] at hpre
    rw [decide_eq_true hpre]
theorem plaini_ok (xs ys : List Int) (hb : xs.length ≤ 1000000000) : ACalls Try.prog [] n_garlandhelp_Plain_int_ [.imm 1 (ints xs), .imm 1 (ints ys)] [] fun r h' => r = .sc (.bool (decide (xs = ys))) ∧ h' = [] := by
  refine go_garlandhelp_Plain_int_ rfl ?_
  unfold c_garlandhelp_Plain_int_ v_garlandhelp_Plain_int_
  refine wlk_sreg fun KY hKY => ?_
  simp only [go_sem, reduceIte, Nat.reduceEqDiff, Nat.reduceBEq, reduceCtorEq, Nat.reduceLT, Nat.reduceLeDiff, Nat.reduceAdd, Nat.reduceSub, Nat.reduceMul, Nat.reduceDiv, Int.reduceAdd, Int.reduceNeg, Int.reduceEq, Int.reduceLT, Int.reduceLE, c_garlandhelp_Plain_int__r0]
  refine hKY _ ?_
  refine wlk_sreg fun KY hKY => ?_
  simp only [go_sem, reduceIte, Nat.reduceEqDiff, Nat.reduceBEq, reduceCtorEq, Nat.reduceLT, Nat.reduceLeDiff, Nat.reduceAdd, Nat.reduceSub, Nat.reduceMul, Nat.reduceDiv, Int.reduceAdd, Int.reduceNeg, Int.reduceEq, Int.reduceLT, Int.reduceLE, c_garlandhelp_Plain_int__r1]
  refine call_view rfl (by simp only [go_sem, reduceIte, Nat.reduceEqDiff, Nat.reduceBEq, reduceCtorEq, Nat.reduceLT, Nat.reduceLeDiff, Nat.reduceAdd, Nat.reduceSub, Nat.reduceMul, Nat.reduceDiv, Int.reduceAdd, Int.reduceNeg, Int.reduceEq, Int.reduceLT, Int.reduceLE] <;> rfl) ((samei_ok xs ys hb).mono ?_)
  rintro rr hh ⟨rfl, rfl⟩
  refine ⟨rfl, rfl, rfl, ?_⟩
  simp only [go_sem, reduceIte, Nat.reduceEqDiff, Nat.reduceBEq, reduceCtorEq, Nat.reduceLT, Nat.reduceLeDiff, Nat.reduceAdd, Nat.reduceSub, Nat.reduceMul, Nat.reduceDiv, Int.reduceAdd, Int.reduceNeg, Int.reduceEq, Int.reduceLT, Int.reduceLE]
  refine hKY _ ?_
  refine wlk_ret ?_
  simp only [go_sem, reduceIte, Nat.reduceEqDiff, Nat.reduceBEq, reduceCtorEq, Nat.reduceLT, Nat.reduceLeDiff, Nat.reduceAdd, Nat.reduceSub, Nat.reduceMul, Nat.reduceDiv, Int.reduceAdd, Int.reduceNeg, Int.reduceEq, Int.reduceLT, Int.reduceLE]
end Go.Proofs.Ytoefhbfgmceikaa
set_option maxRecDepth 100000
set_option maxHeartbeats 4000000
namespace Go.Proofs.Ytoefhbfgmceikaa
open Go Go.Ga Go.Ga.Gl
theorem in_ok (xs : List Int) (v : Int) (hb : xs.length ≤ 1000000000) : ACalls Try.prog [] n_garlandhelp_In_int_ [.imm 1 (ints xs), .sc (.int .i64 v)] [] fun r h' => r = .sc (.bool (decide (v ∈ xs))) ∧ h' = [] := by
  refine go_garlandhelp_In_int_ rfl ?_
  unfold c_garlandhelp_In_int_ v_garlandhelp_In_int_
  refine wlk_sreg fun KY hKY => ?_
  simp only [go_sem, reduceIte, Nat.reduceEqDiff, Nat.reduceBEq, reduceCtorEq, Nat.reduceLT, Nat.reduceLeDiff, Nat.reduceAdd, Nat.reduceSub, Nat.reduceMul, Nat.reduceDiv, Int.reduceAdd, Int.reduceNeg, Int.reduceEq, Int.reduceLT, Int.reduceLE, c_garlandhelp_In_int__r0]
  refine hKY _ ?_
  refine wlk_seq fun X1 hn1 he1 hr1 => ?_
  refine wlk_sreg fun KY hKY => ?_
  simp only [go_sem, reduceIte, Nat.reduceEqDiff, Nat.reduceBEq, reduceCtorEq, Nat.reduceLT, Nat.reduceLeDiff, Nat.reduceAdd, Nat.reduceSub, Nat.reduceMul, Nat.reduceDiv, Int.reduceAdd, Int.reduceNeg, Int.reduceEq, Int.reduceLT, Int.reduceLE, c_garlandhelp_In_int__r1]
  refine hKY _ ?_
  refine wlk_blk fun X2 hn2 he2 hf2 hr2 => ?_
  try simp only [go_sem, reduceIte, Nat.reduceEqDiff, Nat.reduceBEq, reduceCtorEq, Nat.reduceLT, Nat.reduceLeDiff, Nat.reduceAdd, Nat.reduceSub, Nat.reduceMul, Nat.reduceDiv, Int.reduceAdd, Int.reduceNeg, Int.reduceEq, Int.reduceLT, Int.reduceLE]
  refine wlk_lp (α := Nat) [9, 17] (fun k => [(5, .sc (.int .i64 (k : Int)))]) (fun k => []) (fun k q => k ≤ xs.length ∧ q = xs.length - k ∧ ∀ j x, j < k → xs[j]? = some x → x ≠ v) (0) (xs.length) rfl (by first | (simp only [go_sem, reduceIte, Nat.reduceEqDiff, Nat.reduceBEq, reduceCtorEq, Nat.reduceLT, Nat.reduceLeDiff, Nat.reduceAdd, Nat.reduceSub, Nat.reduceMul, Nat.reduceDiv, Int.reduceAdd, Int.reduceNeg, Int.reduceEq, Int.reduceLT, Int.reduceLE, updAll_cons, updAll_nil]; done) | with_reducible rfl | rfl) (⟨by omega, rfl, fun j x h => by omega⟩) ?_
  rintro k q ⟨hk, rfl, hz⟩ X3 hn3 he3 hr3
  simp only [go_sem, reduceIte, Nat.reduceEqDiff, Nat.reduceBEq, reduceCtorEq, Nat.reduceLT, Nat.reduceLeDiff, Nat.reduceAdd, Nat.reduceSub, Nat.reduceMul, Nat.reduceDiv, Int.reduceAdd, Int.reduceNeg, Int.reduceEq, Int.reduceLT, Int.reduceLE, updAll_cons, updAll_nil]
  refine wlk_seq fun X4 hn4 he4 hr4 => ?_
  refine wlk_sreg fun KY hKY => ?_
  simp only [go_sem, reduceIte, Nat.reduceEqDiff, Nat.reduceBEq, reduceCtorEq, Nat.reduceLT, Nat.reduceLeDiff, Nat.reduceAdd, Nat.reduceSub, Nat.reduceMul, Nat.reduceDiv, Int.reduceAdd, Int.reduceNeg, Int.reduceEq, Int.reduceLT, Int.reduceLE, c_garlandhelp_In_int__r2, ints_len]
  refine hKY _ ?_
  by_cases hk2 : k < xs.length
  · refine wlk_cond1 (by first | rfl | (simp only [go_sem, reduceIte, Nat.reduceEqDiff, Nat.reduceBEq, reduceCtorEq, Nat.reduceLT, Nat.reduceLeDiff, Nat.reduceAdd, Nat.reduceSub, Nat.reduceMul, Nat.reduceDiv, Int.reduceAdd, Int.reduceNeg, Int.reduceEq, Int.reduceLT, Int.reduceLE]; try simp (disch := omega) only [decide_eq_true, decide_eq_false])) ?_
    refine wlk_skip ?_
    repeat (first | refine hn4 _ ?_ | refine he4 _ _ ?_ | refine he3 _ _ ?_ | refine hn2 _ ?_ | refine he2 _ ?_ | refine hf2 _ _ (by decide) ?_ | refine hn1 _ ?_ | refine he1 _ _ ?_)
    refine wlk_seq fun X5 hn5 he5 hr5 => ?_
    refine wlk_blk fun X6 hn6 he6 hf6 hr6 => ?_
    have hx : xs[k]? = some xs[k] := List.getElem?_eq_getElem hk2
    have hmem : xs[k] ∈ xs := List.getElem_mem hk2
    generalize xs[k] = x at hx hmem
    refine wlk_sreg fun KY hKY => ?_
    simp only [go_sem, reduceIte, Nat.reduceEqDiff, Nat.reduceBEq, reduceCtorEq, Nat.reduceLT, Nat.reduceLeDiff, Nat.reduceAdd, Nat.reduceSub, Nat.reduceMul, Nat.reduceDiv, Int.reduceAdd, Int.reduceNeg, Int.reduceEq, Int.reduceLT, Int.reduceLE, c_garlandhelp_In_int__r3, ints_at hx, hk2]
    refine hKY _ ?_
    by_cases hp : x = v
    · refine wlk_cond1 (by first | rfl | (simp only [go_sem, reduceIte, Nat.reduceEqDiff, Nat.reduceBEq, reduceCtorEq, Nat.reduceLT, Nat.reduceLeDiff, Nat.reduceAdd, Nat.reduceSub, Nat.reduceMul, Nat.reduceDiv, Int.reduceAdd, Int.reduceNeg, Int.reduceEq, Int.reduceLT, Int.reduceLE, hp]; try simp (disch := omega) only [decide_eq_true, decide_eq_false])) ?_
      refine wlk_sreg fun KY hKY => ?_
      simp only [go_sem, reduceIte, Nat.reduceEqDiff, Nat.reduceBEq, reduceCtorEq, Nat.reduceLT, Nat.reduceLeDiff, Nat.reduceAdd, Nat.reduceSub, Nat.reduceMul, Nat.reduceDiv, Int.reduceAdd, Int.reduceNeg, Int.reduceEq, Int.reduceLT, Int.reduceLE, c_garlandhelp_In_int__r4]
      refine hKY _ ?_
      refine wlk_ret ?_
      repeat (first | refine hr6 _ ?_ | refine hr5 _ ?_ | refine hr4 _ ?_ | refine hr3 _ ?_ | refine hr2 _ ?_ | refine hr1 _ ?_)
      simp only [go_sem, reduceIte, Nat.reduceEqDiff, Nat.reduceBEq, reduceCtorEq, Nat.reduceLT, Nat.reduceLeDiff, Nat.reduceAdd, Nat.reduceSub, Nat.reduceMul, Nat.reduceDiv, Int.reduceAdd, Int.reduceNeg, Int.reduceEq, Int.reduceLT, Int.reduceLE]
      rw [decide_eq_true (hp ▸ hmem)]
    · refine wlk_cond0 (by first | rfl | (simp only [go_sem, reduceIte, Nat.reduceEqDiff, Nat.reduceBEq, reduceCtorEq, Nat.reduceLT, Nat.reduceLeDiff, Nat.reduceAdd, Nat.reduceSub, Nat.reduceMul, Nat.reduceDiv, Int.reduceAdd, Int.reduceNeg, Int.reduceEq, Int.reduceLT, Int.reduceLE, hp]; try simp (disch := omega) only [decide_eq_true, decide_eq_false])) ?_
      refine wlk_skip ?_
      repeat (first | refine hn6 _ ?_ | refine he6 _ ?_ | refine hf6 _ _ (by decide) ?_ | refine hn5 _ ?_ | refine he5 _ _ ?_ | refine hn4 _ ?_ | refine he4 _ _ ?_ | refine he3 _ _ ?_ | refine hn2 _ ?_ | refine he2 _ ?_ | refine hf2 _ _ (by decide) ?_ | refine hn1 _ ?_ | refine he1 _ _ ?_)
      refine wlk_reg fun KY hKY => ?_
      simp only [go_sem, reduceIte, Nat.reduceEqDiff, Nat.reduceBEq, reduceCtorEq, Nat.reduceLT, Nat.reduceLeDiff, Nat.reduceAdd, Nat.reduceSub, Nat.reduceMul, Nat.reduceDiv, Int.reduceAdd, Int.reduceNeg, Int.reduceEq, Int.reduceLT, Int.reduceLE, c_garlandhelp_In_int__r5, inc k (by omega)]
      refine hKY _ ?_
      repeat (first | refine hn6 _ ?_ | refine he6 _ ?_ | refine hf6 _ _ (by decide) ?_ | refine hn5 _ ?_ | refine he5 _ _ ?_ | refine hn4 _ ?_ | refine he4 _ _ ?_)
      refine hn3 _ (k + 1) (xs.length - (k + 1)) (by omega) (by first | (simp only [go_sem, reduceIte, Nat.reduceEqDiff, Nat.reduceBEq, reduceCtorEq, Nat.reduceLT, Nat.reduceLeDiff, Nat.reduceAdd, Nat.reduceSub, Nat.reduceMul, Nat.reduceDiv, Int.reduceAdd, Int.reduceNeg, Int.reduceEq, Int.reduceLT, Int.reduceLE, updAll_cons, updAll_nil]; done) | with_reducible rfl | rfl) ?_
      refine ⟨hk2, rfl, fun j y hj hy => ?_⟩
      rcases Nat.lt_or_ge j k with h | h
      · exact hz j y h hy
      · obtain rfl : j = k := by omega
        rw [hx] at hy; cases hy; exact hp
  · refine wlk_cond0 (by first | rfl | (simp only [go_sem, reduceIte, Nat.reduceEqDiff, Nat.reduceBEq, reduceCtorEq, Nat.reduceLT, Nat.reduceLeDiff, Nat.reduceAdd, Nat.reduceSub, Nat.reduceMul, Nat.reduceDiv, Int.reduceAdd, Int.reduceNeg, Int.reduceEq, Int.reduceLT, Int.reduceLE]; try simp (disch := omega) only [decide_eq_true, decide_eq_false])) ?_
    refine wlk_exit ?_
    repeat (first | refine hn4 _ ?_ | refine he4 _ _ ?_ | refine he3 _ _ ?_ | refine hn2 _ ?_ | refine he2 _ ?_ | refine hf2 _ _ (by decide) ?_ | refine hn1 _ ?_ | refine he1 _ _ ?_)
    refine wlk_sreg fun KY hKY => ?_
    simp only [go_sem, reduceIte, Nat.reduceEqDiff, Nat.reduceBEq, reduceCtorEq, Nat.reduceLT, Nat.reduceLeDiff, Nat.reduceAdd, Nat.reduceSub, Nat.reduceMul, Nat.reduceDiv, Int.reduceAdd, Int.reduceNeg, Int.reduceEq, Int.reduceLT, Int.reduceLE, c_garlandhelp_In_int__r6]
    refine hKY _ ?_
    refine wlk_ret ?_
    repeat (first | refine hr4 _ ?_ | refine hr3 _ ?_ | refine hr2 _ ?_ | refine hr1 _ ?_)
    simp only [go_sem, reduceIte, Nat.reduceEqDiff, Nat.reduceBEq, reduceCtorEq, Nat.reduceLT, Nat.reduceLeDiff, Nat.reduceAdd, Nat.reduceSub, Nat.reduceMul, Nat.reduceDiv, Int.reduceAdd, Int.reduceNeg, Int.reduceEq, Int.reduceLT, Int.reduceLE]
    rw [decide_eq_false]
    intro hx
    obtain ⟨j, hj⟩ := List.mem_iff_getElem?.1 hx
    exact hz j v (by have := (List.getElem?_eq_some_iff.1 hj).1; omega) hj rfl
end Go.Proofs.Ytoefhbfgmceikaa

namespace Go.Ga.Gl
open Go Go.Ga
end Go.Ga.Gl

namespace Go.Ga.Gl
open Go Go.Ga
theorem head_mem {p : List Nat} {a : Nat} (h : a ∈ p.head?) : a ∈ p := by
  cases p with
  | nil => cases h
  | cons b p => have : b = a := by simpa using h
                subst this; exact List.mem_cons_self ..
end Go.Ga.Gl

namespace Go.Ga.Gl
open Go Go.Ga
structure LI (n : Nat) (es : Es) (O : Nat → Prop) (lab : List Int) : Prop where
  len : lab.length = n
  out : ∀ v, v < n → (lab.getD v 0 < 0 ↔ O v)
  low : ∀ v, v < n → ¬ O v → 0 ≤ lab.getD v 0 ∧ lab.getD v 0 ≤ v ∧ ¬ O (lab.getD v 0).toNat
  conn : ∀ f, Flat es O f → ∀ v, v < n → ¬ O v → f v = f (lab.getD v 0).toNat
theorem getD_set (l : List Int) (v w : Nat) (k : Int) (h : v < l.length) : (l.set v k).getD w 0 = if w = v then k else l.getD w 0 := by
  simp only [List.getD_eq_getElem?_getD, List.getElem?_set]
  by_cases e : v = w
  · subst e; simp [h]
  · simp [e, Ne.symm e]
def lab2 (lab : List Int) (a b : Nat) : List Int := (lab.set a (min (lab.getD a 0) (lab.getD b 0))).set b (min (lab.getD a 0) (lab.getD b 0))
theorem lab2_get {lab : List Int} {a b w : Nat} (ha : a < lab.length) (hb : b < lab.length) : (lab2 lab a b).getD w 0 = if w = a ∨ w = b then min (lab.getD a 0) (lab.getD b 0) else lab.getD w 0 := by
  unfold lab2
  rw [getD_set _ _ _ _ (by simpa using hb), getD_set _ _ _ _ ha]
  by_cases h1 : w = b
  · simp [h1]
  · by_cases h2 : w = a
    · simp [h2]
    · simp [h1, h2]
theorem LI.step {n : Nat} {es : Es} {O : Nat → Prop} {lab : List Int} (w : LI n es O lab) {a b : Nat} (hab : adj es a b) (han : a < n) (hbn : b < n) (h1 : ¬ lab.getD a 0 < 0) (h2 : ¬ lab.getD b 0 < 0) : LI n es O (lab2 lab a b) := by
  have oa : ¬ O a := fun h => h1 ((w.out a han).2 h)
  have ob : ¬ O b := fun h => h2 ((w.out b hbn).2 h)
  have la := w.low a han oa
  have lb := w.low b hbn ob
  have hal : a < lab.length := by rw [w.len]; exact han
  have hbl : b < lab.length := by rw [w.len]; exact hbn
  have hk : ∃ c, (c = a ∨ c = b) ∧ min (lab.getD a 0) (lab.getD b 0) = lab.getD c 0 := by
    rcases Int.le_total (lab.getD a 0) (lab.getD b 0) with h | h
    · exact ⟨a, .inl rfl, Int.min_eq_left h⟩
    · exact ⟨b, .inr rfl, Int.min_eq_right h⟩
  refine ⟨by unfold lab2; simp [w.len], fun v hv => ?_, fun v hv ho => ?_, fun f hf v hv ho => ?_⟩
  · rw [lab2_get hal hbl]
    split
    · rename_i h
      rcases h with rfl | rfl
      · constructor
        · intro h; omega
        · intro h; exact absurd h oa
      · constructor
        · intro h; omega
        · intro h; exact absurd h ob
    · exact w.out v hv
  · rw [lab2_get hal hbl]
    split
    · rename_i h
      obtain ⟨c, hc, e⟩ := hk
      refine ⟨by omega, by rcases h with rfl | rfl <;> omega, ?_⟩
      rw [e]
      rcases hc with rfl | rfl
      · exact la.2.2
      · exact lb.2.2
    · exact w.low v hv ho
  · rw [lab2_get hal hbl]
    split
    · rename_i h
      obtain ⟨c, hc, e⟩ := hk
      rw [e]
      have e1 := hf a b hab oa ob
      have ea := w.conn f hf a han oa
      have eb := w.conn f hf b hbn ob
      rcases h with rfl | rfl <;> rcases hc with rfl | rfl
      · exact ea
      · rw [e1, eb]
      · rw [← e1, ea]
      · exact eb
    · exact w.conn f hf v hv ho
theorem LI.start {n : Nat} {es : Es} {O : Nat → Prop} {lab : List Int} (hl : lab.length = n) (h : ∀ v, v < n → (O v → lab.getD v 0 = -1) ∧ (¬ O v → lab.getD v 0 = (v : Int))) : LI n es O lab := by
  refine ⟨hl, fun v hv => ?_, fun v hv ho => ?_, fun f _ v hv ho => ?_⟩
  · constructor
    · intro h1
      by_cases ho : O v
      · exact ho
      · have := (h v hv).2 ho; omega
    · intro ho; have := (h v hv).1 ho; omega
  · rw [(h v hv).2 ho]; exact ⟨by omega, by omega, by simpa using ho⟩
  · rw [(h v hv).2 ho]; simp
def byLabel (n : Nat) (lab : List Int) (m : Nat) : List (List Nat) := ((List.range m).filter fun v : Nat => decide (lab.getD v 0 = (v : Int))).map fun v : Nat => (List.range n).filter fun w => decide (lab.getD w 0 = (v : Int))
theorem mem_byLabel {n : Nat} {lab : List Int} {m : Nat} {p : List Nat} : p ∈ byLabel n lab m ↔ ∃ v : Nat, v < m ∧ lab.getD v 0 = (v : Int) ∧ (List.range n).filter (fun w => decide (lab.getD w 0 = (v : Int))) = p := by
  simp only [byLabel, List.mem_map, List.mem_filter, List.mem_range, decide_eq_true_eq, and_assoc]
theorem LI.pieces {n : Nat} {es : Es} {O : Nat → Prop} {lab : List Int} (hes : ∀ a b, adj es a b → a < n ∧ b < n) (W : LI n es O lab) (hfix : ∀ e ∈ es, lab.getD e.1 0 < 0 ∨ lab.getD e.2 0 < 0 ∨ lab.getD e.1 0 = lab.getD e.2 0) : IsPieces n es O (byLabel n lab n) := by
  have hflat : ∀ a b, adj es a b → ¬ O a → ¬ O b → lab.getD a 0 = lab.getD b 0 := by
    intro a b hab ha hb
    have hl := hes a b hab
    have h1 := W.low a hl.1 ha
    have h2 := W.low b hl.2 hb
    rcases hab with h | h
    · rcases hfix _ h with h | h | h
      · exact absurd h (by simp only; omega)
      · exact absurd h (by simp only; omega)
      · exact h
    · rcases hfix _ h with h | h | h
      · exact absurd h (by simp only; omega)
      · exact absurd h (by simp only; omega)
      · exact h.symm
  have hfl : Flat es O (fun v => (lab.getD v 0).toNat) := fun a b hab ha hb => by
    show (lab.getD a 0).toNat = (lab.getD b 0).toNat
    rw [hflat a b hab ha hb]
  have hid : ∀ v, v < n → ¬ O v → lab.getD (lab.getD v 0).toNat 0 = lab.getD v 0 := by
    intro v hv ho
    have h1 := W.low v hv ho
    have h2 := W.conn _ hfl v hv ho
    have h3 := W.low (lab.getD v 0).toNat (by omega) h1.2.2
    have h2 : (lab.getD v 0).toNat = (lab.getD (lab.getD v 0).toNat 0).toNat := h2
    omega
  have hm : ∀ (v w : Nat), w ∈ (List.range n).filter (fun w => decide (lab.getD w 0 = (v : Int))) ↔ w < n ∧ lab.getD w 0 = (v : Int) := fun v w => by
    simp only [List.mem_filter, List.mem_range, decide_eq_true_eq]
  have hno : ∀ (v w : Nat), w < n → lab.getD w 0 = (v : Int) → ¬ O w := fun v w hw h ho => by
    have := (W.out w hw).2 ho; omega
  have hle : ∀ (v w : Nat), w < n → lab.getD w 0 = (v : Int) → v ≤ w := fun v w hw h => by
    have := (W.low w hw (hno v w hw h)).2.1; omega
  have hfirst : ∀ v : Nat, v < n → lab.getD v 0 = (v : Int) → ∀ a ∈ ((List.range n).filter fun w => decide (lab.getD w 0 = (v : Int))).head?, a = v := by
    intro v hv h a ha
    have h1 := (hm v a).1 (head_mem ha)
    have h2 := hle v a h1.1 h1.2
    have h3 : a ≤ v := by
      have hpw : ((List.range n).filter fun w => decide (lab.getD w 0 = (v : Int))).Pairwise (· < ·) := List.pairwise_lt_range.filter _
      have hvm := (hm v v).2 ⟨hv, h⟩
      generalize (List.range n).filter (fun w => decide (lab.getD w 0 = (v : Int))) = r at ha hpw hvm
      cases r with
      | nil => cases ha
      | cons b r =>
        have : b = a := by simpa using ha
        subst this
        rcases List.mem_cons.1 hvm with e | e
        · omega
        · have := (List.pairwise_cons.1 hpw).1 v e; omega
    omega
  refine ⟨fun v => ?_, ?_, ?_, ?_, ?_, ?_, ?_⟩
  · constructor
    · rintro ⟨p, hp, hv⟩
      obtain ⟨k, _, _, rfl⟩ := mem_byLabel.1 hp
      have := (hm k v).1 hv
      exact ⟨this.1, hno k v this.1 this.2⟩
    · rintro ⟨hv, ho⟩
      have h1 := W.low v hv ho
      have h2 := hid v hv ho
      refine ⟨_, mem_byLabel.2 ⟨(lab.getD v 0).toNat, by omega, by rw [h2]; omega, rfl⟩, (hm _ v).2 ⟨hv, by omega⟩⟩
  · intro p hp
    obtain ⟨k, hk, h, rfl⟩ := mem_byLabel.1 hp
    exact List.ne_nil_of_mem ((hm k k).2 ⟨hk, h⟩)
  · intro p hp
    obtain ⟨k, _, _, rfl⟩ := mem_byLabel.1 hp
    exact List.pairwise_lt_range.filter _
  · unfold byLabel
    refine List.pairwise_map.2 ((List.pairwise_lt_range.filter _).imp_of_mem fun {u v} hu hv h a ha b hb => ?_)
    simp only [List.mem_filter, List.mem_range, decide_eq_true_eq] at hu hv
    rw [hfirst u hu.1 hu.2 a ha, hfirst v hv.1 hv.2 b hb]; exact h
  · unfold byLabel
    refine List.pairwise_map.2 ((List.pairwise_lt_range.filter _).imp fun {u v} h w hw hw' => ?_)
    have h1 := ((hm u w).1 hw).2
    have h2 := ((hm v w).1 hw').2
    omega
  · intro p hp a ha b hab hb hob
    obtain ⟨k, _, _, rfl⟩ := mem_byLabel.1 hp
    have h1 := (hm k a).1 ha
    exact (hm k b).2 ⟨hb, by rw [← hflat a b hab (hno k a h1.1 h1.2) hob]; exact h1.2⟩
  · intro p hp f hf a ha b hb
    obtain ⟨k, _, _, rfl⟩ := mem_byLabel.1 hp
    have h1 := (hm k a).1 ha
    have h2 := (hm k b).1 hb
    rw [W.conn f hf a h1.1 (hno k a h1.1 h1.2), W.conn f hf b h2.1 (hno k b h2.1 h2.2), h1.2, h2.2]
end Go.Ga.Gl
set_option maxRecDepth 100000
set_option maxHeartbeats 2000000
namespace Go.Proofs.Ytoefhbfgmceikaa
open Go Go.Ga Go.Ga.Gl
theorem ints_zero (n : Nat) : zeroCellsA [.int .i64 0] n = ints (List.replicate n 0) := by
  rw [nats_zero, nats_ints]; simp
theorem set_rangeI {n b : Nat} {y : Int} {f g : Nat → Int} (h1 : g b = y) (h2 : ∀ v, v ≠ b → g v = f v) : ((List.range n).map f).set b y = (List.range n).map g := by
  apply List.ext_getElem (by simp)
  intro i h3 h4
  rw [List.getElem_set]
  split
  · rename_i h; subst h; simp [h1]
  · rename_i h; simp [h2 i (Ne.symm h)]
end Go.Proofs.Ytoefhbfgmceikaa
set_option maxRecDepth 100000
set_option maxHeartbeats 2000000
namespace Go.Proofs.Ytoefhbfgmceikaa
open Go Go.Ga Go.Ga.Gl
def PsOf (n : Int) (es : List (Int × Int)) (out : List Int) (ps : List (List Nat)) : Prop :=
  (rightB n es = true ∧ ∃ (N : Nat) (es' : Es), n = N ∧ es = castE es' ∧ GR N es' ∧ IsPieces N es' (fun v => (v : Int) ∈ out) ps) ∨ (rightB n es = false ∧ ps = [])
theorem castE_inj : ∀ {l m : Es}, castE l = castE m → l = m
  | [], [], _ => rfl
  | [], _ :: _, h => by simp [castE] at h
  | _ :: _, [], h => by simp [castE] at h
  | (a, b) :: l, (c, d) :: m, h => by
    simp only [castE, List.map_cons, List.cons.injEq, Prod.mk.injEq] at h
    obtain ⟨⟨h1, h2⟩, h3⟩ := h
    rw [castE_inj (l := l) (m := m) h3, show a = c by omega, show b = d by omega]
theorem PsOf.unique {n : Int} {es : List (Int × Int)} {out : List Int} {ps qs : List (List Nat)} (h : PsOf n es out ps) (h' : PsOf n es out qs) : ps = qs := by
  rcases h with ⟨r, N, es', rfl, rfl, g, P⟩ | ⟨r, rfl⟩
  · rcases h' with ⟨_, N', es'', e1, e2, _, Q⟩ | ⟨r', _⟩
    · obtain rfl : N = N' := by omega
      rw [← castE_inj e2] at Q
      exact P.unique g.adj_lt Q
    · rw [r] at r'; cases r'
  · rcases h' with ⟨r', _⟩ | ⟨_, rfl⟩
    · rw [r] at r'; cases r'
    · rfl
theorem PsOf.len {n : Int} {es : List (Int × Int)} {out : List Int} {ps : List (List Nat)} (h : PsOf n es out ps) : ps.length ≤ 4096 ∧ ∀ p ∈ ps, p.length ≤ 4096 := by
  rcases h with ⟨_, N, es', _, _, g, P⟩ | ⟨_, rfl⟩
  · have := g.hn
    exact ⟨Nat.le_trans (pieces_len P) this, fun p hp => Nat.le_trans (piece_len P hp) this⟩
  · exact ⟨by simp, fun p hp => by simp at hp⟩
theorem odd_le2 (ps : List (List Nat)) (k : Nat) (h : ps.length ≤ 4096) : oddCount (ps.take k) ≤ 4096 := Nat.le_trans (odd_le _) (Nat.le_trans (List.length_take_le' _ _) h)
theorem PsOf.disj {n : Int} {es : List (Int × Int)} {out : List Int} {ps : List (List Nat)} (h : PsOf n es out ps) : ps.Pairwise fun p q => ∀ v ∈ p, v ∉ q := by
  rcases h with ⟨_, N, es', _, _, g, P⟩ | ⟨_, rfl⟩
  · exact P.disj
  · exact .nil
end Go.Proofs.Ytoefhbfgmceikaa
set_option maxRecDepth 100000
set_option maxHeartbeats 2000000
namespace Go.Proofs.Ytoefhbfgmceikaa
open Go Go.Ga Go.Ga.Gl
end Go.Proofs.Ytoefhbfgmceikaa
set_option maxRecDepth 100000
set_option maxHeartbeats 4000000
namespace Go.Proofs.Ytoefhbfgmceikaa
open Go Go.Ga Go.Ga.Gl
def mOk (es : Es) (m : List Int) (v : Nat) : Bool := decide (m.getD v 0 = -1) || (decide (turnI (v : Int) (m.getD v 0) ∈ castE es) && decide (m.getD (m.getD v 0).toNat 0 = (v : Int)))
def mateB (n : Int) (es : List (Int × Int)) (m : List Int) : Bool := rightB n es && decide ((m.length : Int) = n) && (List.range m.length).all fun v => decide (m.getD v 0 = -1) || (decide (turnI (v : Int) (m.getD v 0) ∈ es) && decide (m.getD (m.getD v 0).toNat 0 = (v : Int)))
theorem turn_mem {N : Nat} {es : Es} (g : GR N es) {v : Nat} {w : Int} (h : turnI (v : Int) w ∈ castE es) : ∃ u : Nat, w = u ∧ u < N ∧ v < N ∧ u ≠ v := by
  obtain ⟨⟨a, b⟩, hm, e⟩ := List.mem_map.1 h
  have hok := g.ok _ hm
  simp only at hok
  unfold turnI at e
  split at e
  · simp only [Prod.mk.injEq] at e
    exact ⟨a, by omega, by omega, by omega, by omega⟩
  · simp only [Prod.mk.injEq] at e
    exact ⟨b, by omega, by omega, by omega, by omega⟩
theorem all_no {N k : Nat} {φ : Nat → Bool} (h : k < N) (hf : φ k = false) : ((List.range N).all fun v => φ v) = false := by
  rw [Bool.eq_false_iff]; intro h'
  rw [List.all_eq_true] at h'
  rw [h' k (List.mem_range.2 h)] at hf; cases hf
end Go.Proofs.Ytoefhbfgmceikaa
set_option maxRecDepth 100000
set_option maxHeartbeats 4000000
namespace Go.Proofs.Ytoefhbfgmceikaa
open Go Go.Ga Go.Ga.Gl
def jAt (m : List Int) (l : Es) (v : Nat) : Bool := l.any fun e => (decide (e.1 = v) || decide (e.2 = v)) && (decide (m.getD e.1 0 = (e.2 : Int)) && decide (m.getD e.2 0 = (e.1 : Int)))
theorem jAt_ok {N : Nat} {es : Es} (g : GR N es) (m : List Int) {v : Nat} (hw : m.getD v 0 ≠ -1) : jAt m es v = mOk es m v := by
  rw [Bool.eq_iff_iff]
  unfold jAt mOk
  rw [List.any_eq_true, decide_eq_false hw, Bool.false_or, Bool.and_eq_true, decide_eq_true_iff, decide_eq_true_iff]
  constructor
  · rintro ⟨⟨a, b⟩, he, h⟩
    have hok := g.ok _ he
    simp only [Bool.and_eq_true, Bool.or_eq_true, decide_eq_true_eq] at h hok
    obtain ⟨rfl | rfl, h1, h2⟩ := h
    · rw [h1]
      refine ⟨?_, by rw [Int.toNat_natCast]; exact h2⟩
      unfold turnI; rw [if_neg (by omega)]; exact castE_mem.2 he
    · rw [h2]
      refine ⟨?_, by rw [Int.toNat_natCast]; exact h1⟩
      unfold turnI; rw [if_pos (by omega)]; exact castE_mem.2 he
  · rintro ⟨h1, h2⟩
    obtain ⟨u, hu, _, _, hne⟩ := turn_mem g h1
    rw [hu] at h1 h2
    rw [Int.toNat_natCast] at h2
    unfold turnI at h1
    split at h1
    · exact ⟨(u, v), castE_mem.1 h1, by simp only [hu, h2, decide_true, Bool.or_true, Bool.true_or, Bool.and_self]⟩
    · exact ⟨(v, u), castE_mem.1 h1, by simp only [hu, h2, decide_true, Bool.or_true, Bool.true_or, Bool.and_self]⟩
def jL (N : Nat) (m : List Int) (l : Es) : List Bool := (List.range N).map (jAt m l)
theorem jL_len (N : Nat) (m : List Int) (l : Es) : (jL N m l).length = N := by simp [jL]
theorem jL_get {N : Nat} (m : List Int) (l : Es) {v : Nat} (h : v < N) : (jL N m l).getD v false = jAt m l v := by simp [jL, h]
theorem jL_no {N : Nat} (m : List Int) (l : Es) {a b : Nat} (h : ¬ (m.getD a 0 = (b : Int) ∧ m.getD b 0 = (a : Int))) : jL N m (l ++ [(a, b)]) = jL N m l := by
  refine List.map_congr_left fun v _ => ?_
  unfold jAt
  rw [List.any_append]
  have : (decide (m.getD a 0 = (b : Int)) && decide (m.getD b 0 = (a : Int))) = false := by
    rw [Bool.eq_false_iff]; intro h'; rw [Bool.and_eq_true, decide_eq_true_iff, decide_eq_true_iff] at h'; exact h h'
  simp only [List.any_cons, List.any_nil, this, Bool.and_false, Bool.or_false]
theorem jL_yes {N : Nat} (m : List Int) (l : Es) {a b : Nat} (h : m.getD a 0 = (b : Int) ∧ m.getD b 0 = (a : Int)) : ((jL N m l).set a true).set b true = jL N m (l ++ [(a, b)]) := by
  apply List.ext_getElem
  · simp [jL]
  · intro i h1 h2
    have hi : i < N := by rw [jL_len] at h2; exact h2
    have e : jAt m (l ++ [(a, b)]) i = (jAt m l i || (decide (a = i) || decide (b = i))) := by
      unfold jAt
      rw [List.any_append]
      simp only [List.any_cons, List.any_nil, h.1, h.2, decide_true, Bool.and_true, Bool.or_false]
    simp only [jL, List.getElem_set, List.getElem_map, List.getElem_range, e]
    by_cases hb : b = i
    · simp [hb]
    · by_cases ha : a = i
      · simp [ha, hb]
      · simp [ha, hb]
theorem mright_no (n : Int) (es : List (Int × Int)) (m : List Int) (h : (rightB n es && decide ((m.length : Int) = n)) = false) : ACalls Try.prog [] n_mates_Right [.agg [.sc (.int .i64 n), .imm 2 (twos es)], .imm 1 (ints m)] [] fun r h' => r = .sc (.bool false) ∧ h' = [] := by
  refine ACalls.trim ?_
  refine go_mates_Right rfl ?_
  unfold c_mates_Right v_mates_Right
  refine wlk_sreg fun KY hKY => ?_
  simp only [go_sem, reduceIte, Nat.reduceEqDiff, Nat.reduceBEq, reduceCtorEq, Nat.reduceLT, Nat.reduceLeDiff, Nat.reduceAdd, Nat.reduceSub, Nat.reduceMul, Nat.reduceDiv, Int.reduceAdd, Int.reduceNeg, Int.reduceEq, Int.reduceLT, Int.reduceLE, c_mates_Right_r0]
  refine hKY _ ?_
  refine wlk_seq fun X1 hn1 he1 hr1 => ?_
  cases hr : rightB n es with
  | false =>
    refine wlk_sreg fun KY hKY => ?_
    simp only [go_sem, reduceIte, Nat.reduceEqDiff, Nat.reduceBEq, reduceCtorEq, Nat.reduceLT, Nat.reduceLeDiff, Nat.reduceAdd, Nat.reduceSub, Nat.reduceMul, Nat.reduceDiv, Int.reduceAdd, Int.reduceNeg, Int.reduceEq, Int.reduceLT, Int.reduceLE, c_mates_Right_r1]
    refine call_view rfl (by simp only [go_sem, reduceIte, Nat.reduceEqDiff, Nat.reduceBEq, reduceCtorEq, Nat.reduceLT, Nat.reduceLeDiff, Nat.reduceAdd, Nat.reduceSub, Nat.reduceMul, Nat.reduceDiv, Int.reduceAdd, Int.reduceNeg, Int.reduceEq, Int.reduceLT, Int.reduceLE] <;> rfl) ((right_ok n es).mono ?_)
    rintro rr hh ⟨rfl, rfl⟩
    refine ⟨rfl, rfl, rfl, ?_⟩
    simp only [go_sem, reduceIte, Nat.reduceEqDiff, Nat.reduceBEq, reduceCtorEq, Nat.reduceLT, Nat.reduceLeDiff, Nat.reduceAdd, Nat.reduceSub, Nat.reduceMul, Nat.reduceDiv, Int.reduceAdd, Int.reduceNeg, Int.reduceEq, Int.reduceLT, Int.reduceLE, hr]
    refine hKY _ ?_
    refine wlk_cond1 (by first | rfl | (simp only [go_sem, reduceIte, Nat.reduceEqDiff, Nat.reduceBEq, reduceCtorEq, Nat.reduceLT, Nat.reduceLeDiff, Nat.reduceAdd, Nat.reduceSub, Nat.reduceMul, Nat.reduceDiv, Int.reduceAdd, Int.reduceNeg, Int.reduceEq, Int.reduceLT, Int.reduceLE]; try simp (disch := omega) only [decide_eq_true, decide_eq_false])) ?_
    refine wlk_sreg fun KY hKY => ?_
    simp only [go_sem, reduceIte, Nat.reduceEqDiff, Nat.reduceBEq, reduceCtorEq, Nat.reduceLT, Nat.reduceLeDiff, Nat.reduceAdd, Nat.reduceSub, Nat.reduceMul, Nat.reduceDiv, Int.reduceAdd, Int.reduceNeg, Int.reduceEq, Int.reduceLT, Int.reduceLE, c_mates_Right_r2]
    refine hKY _ ?_
    refine wlk_ret ?_
    repeat (first | refine hr1 _ ?_)
    simp only [go_sem, reduceIte, Nat.reduceEqDiff, Nat.reduceBEq, reduceCtorEq, Nat.reduceLT, Nat.reduceLeDiff, Nat.reduceAdd, Nat.reduceSub, Nat.reduceMul, Nat.reduceDiv, Int.reduceAdd, Int.reduceNeg, Int.reduceEq, Int.reduceLT, Int.reduceLE]
  | true =>
    rw [hr, Bool.true_and, decide_eq_false_iff_not] at h
    have hd : decide ((m.length : Int) ≠ n) = true := decide_eq_true h
    refine wlk_sreg fun KY hKY => ?_
    simp only [go_sem, reduceIte, Nat.reduceEqDiff, Nat.reduceBEq, reduceCtorEq, Nat.reduceLT, Nat.reduceLeDiff, Nat.reduceAdd, Nat.reduceSub, Nat.reduceMul, Nat.reduceDiv, Int.reduceAdd, Int.reduceNeg, Int.reduceEq, Int.reduceLT, Int.reduceLE, c_mates_Right_r1]
    refine call_view rfl (by simp only [go_sem, reduceIte, Nat.reduceEqDiff, Nat.reduceBEq, reduceCtorEq, Nat.reduceLT, Nat.reduceLeDiff, Nat.reduceAdd, Nat.reduceSub, Nat.reduceMul, Nat.reduceDiv, Int.reduceAdd, Int.reduceNeg, Int.reduceEq, Int.reduceLT, Int.reduceLE] <;> rfl) ((right_ok n es).mono ?_)
    rintro rr hh ⟨rfl, rfl⟩
    refine ⟨rfl, rfl, rfl, ?_⟩
    simp only [go_sem, reduceIte, Nat.reduceEqDiff, Nat.reduceBEq, reduceCtorEq, Nat.reduceLT, Nat.reduceLeDiff, Nat.reduceAdd, Nat.reduceSub, Nat.reduceMul, Nat.reduceDiv, Int.reduceAdd, Int.reduceNeg, Int.reduceEq, Int.reduceLT, Int.reduceLE, hr, ints_len, hd]
    refine hKY _ ?_
    refine wlk_cond1 (by first | rfl | (simp only [go_sem, reduceIte, Nat.reduceEqDiff, Nat.reduceBEq, reduceCtorEq, Nat.reduceLT, Nat.reduceLeDiff, Nat.reduceAdd, Nat.reduceSub, Nat.reduceMul, Nat.reduceDiv, Int.reduceAdd, Int.reduceNeg, Int.reduceEq, Int.reduceLT, Int.reduceLE]; try simp (disch := omega) only [decide_eq_true, decide_eq_false])) ?_
    refine wlk_sreg fun KY hKY => ?_
    simp only [go_sem, reduceIte, Nat.reduceEqDiff, Nat.reduceBEq, reduceCtorEq, Nat.reduceLT, Nat.reduceLeDiff, Nat.reduceAdd, Nat.reduceSub, Nat.reduceMul, Nat.reduceDiv, Int.reduceAdd, Int.reduceNeg, Int.reduceEq, Int.reduceLT, Int.reduceLE, c_mates_Right_r2]
    refine hKY _ ?_
    refine wlk_ret ?_
    repeat (first | refine hr1 _ ?_)
    simp only [go_sem, reduceIte, Nat.reduceEqDiff, Nat.reduceBEq, reduceCtorEq, Nat.reduceLT, Nat.reduceLeDiff, Nat.reduceAdd, Nat.reduceSub, Nat.reduceMul, Nat.reduceDiv, Int.reduceAdd, Int.reduceNeg, Int.reduceEq, Int.reduceLT, Int.reduceLE]
theorem mright_yes {N : Nat} {es : Es} (g : GR N es) (m : List Int) (hl : m.length = N) : ACalls Try.prog [] n_mates_Right [.agg [.sc (.int .i64 (N : Int)), .imm 2 (twos (castE es))], .imm 1 (ints m)] [] fun r h' => r = .sc (.bool ((List.range N).all fun v => mOk es m v)) ∧ h' = [] := by
  refine ACalls.trim ?_
  have hN := g.hn
  have hem := g.hm
  have hr := rightB_GR g
  have hd : decide ((m.length : Int) ≠ (N : Int)) = false := decide_eq_false (by omega)
  have h0 : List.replicate N false = jL N m (es.take 0) := by
    apply List.ext_getElem
    · simp [jL]
    · intro i h1 h2; simp [jL, jAt]
  refine go_mates_Right rfl ?_
  unfold c_mates_Right v_mates_Right
  refine wlk_sreg fun KY hKY => ?_
  simp only [go_sem, reduceIte, Nat.reduceEqDiff, Nat.reduceBEq, reduceCtorEq, Nat.reduceLT, Nat.reduceLeDiff, Nat.reduceAdd, Nat.reduceSub, Nat.reduceMul, Nat.reduceDiv, Int.reduceAdd, Int.reduceNeg, Int.reduceEq, Int.reduceLT, Int.reduceLE, c_mates_Right_r0]
  refine hKY _ ?_
  refine wlk_seq fun X1 hn1 he1 hr1 => ?_
  refine wlk_sreg fun KY hKY => ?_
  simp only [go_sem, reduceIte, Nat.reduceEqDiff, Nat.reduceBEq, reduceCtorEq, Nat.reduceLT, Nat.reduceLeDiff, Nat.reduceAdd, Nat.reduceSub, Nat.reduceMul, Nat.reduceDiv, Int.reduceAdd, Int.reduceNeg, Int.reduceEq, Int.reduceLT, Int.reduceLE, c_mates_Right_r1]
  refine call_view rfl (by simp only [go_sem, reduceIte, Nat.reduceEqDiff, Nat.reduceBEq, reduceCtorEq, Nat.reduceLT, Nat.reduceLeDiff, Nat.reduceAdd, Nat.reduceSub, Nat.reduceMul, Nat.reduceDiv, Int.reduceAdd, Int.reduceNeg, Int.reduceEq, Int.reduceLT, Int.reduceLE] <;> rfl) ((right_ok N (castE es)).mono ?_)
  rintro rr hh ⟨rfl, rfl⟩
  refine ⟨rfl, rfl, rfl, ?_⟩
  simp only [go_sem, reduceIte, Nat.reduceEqDiff, Nat.reduceBEq, reduceCtorEq, Nat.reduceLT, Nat.reduceLeDiff, Nat.reduceAdd, Nat.reduceSub, Nat.reduceMul, Nat.reduceDiv, Int.reduceAdd, Int.reduceNeg, Int.reduceEq, Int.reduceLT, Int.reduceLE, hr, ints_len, hd]
  refine hKY _ ?_
  refine wlk_cond0 (by first | rfl | (simp only [go_sem, reduceIte, Nat.reduceEqDiff, Nat.reduceBEq, reduceCtorEq, Nat.reduceLT, Nat.reduceLeDiff, Nat.reduceAdd, Nat.reduceSub, Nat.reduceMul, Nat.reduceDiv, Int.reduceAdd, Int.reduceNeg, Int.reduceEq, Int.reduceLT, Int.reduceLE]; try simp (disch := omega) only [decide_eq_true, decide_eq_false])) ?_
  refine wlk_skip ?_
  repeat (first | refine hn1 _ ?_ | refine he1 _ _ ?_)
  refine wlk_sreg fun KY hKY => ?_
  simp only [go_sem, reduceIte, Nat.reduceEqDiff, Nat.reduceBEq, reduceCtorEq, Nat.reduceLT, Nat.reduceLeDiff, Nat.reduceAdd, Nat.reduceSub, Nat.reduceMul, Nat.reduceDiv, Int.reduceAdd, Int.reduceNeg, Int.reduceEq, Int.reduceLT, Int.reduceLE, c_mates_Right_r3, (show N ≤ 140737488355328 by omega), (show 1 * N ≤ 140737488355328 by omega), (show (N : Int) ≤ (N : Int) from Int.le_refl _), (show (N : Int) ≤ 9223372036854775807 by omega), h0]
  refine hKY _ ?_
  refine wlk_seq fun X2 hn2 he2 hr2 => ?_
  refine wlk_sreg fun KY hKY => ?_
  simp only [go_sem, reduceIte, Nat.reduceEqDiff, Nat.reduceBEq, reduceCtorEq, Nat.reduceLT, Nat.reduceLeDiff, Nat.reduceAdd, Nat.reduceSub, Nat.reduceMul, Nat.reduceDiv, Int.reduceAdd, Int.reduceNeg, Int.reduceEq, Int.reduceLT, Int.reduceLE, c_mates_Right_r4, twos_len, mul2, castE_len]
  refine hKY _ ?_
  refine wlk_blk fun X3 hn3 he3 hf3 hr3 => ?_
  try simp only [go_sem, reduceIte, Nat.reduceEqDiff, Nat.reduceBEq, reduceCtorEq, Nat.reduceLT, Nat.reduceLeDiff, Nat.reduceAdd, Nat.reduceSub, Nat.reduceMul, Nat.reduceDiv, Int.reduceAdd, Int.reduceNeg, Int.reduceEq, Int.reduceLT, Int.reduceLE]
  refine wlk_lp (α := Nat) [7, 27, 47] (fun k => [(5, .own (some 1) (bools (jL N m (es.take k)))), (26, .sc (.int .i64 (k : Int)))]) (fun k => []) (fun k q => k ≤ es.length ∧ q = es.length - k) (0) (es.length) rfl (by first | (simp only [go_sem, reduceIte, Nat.reduceEqDiff, Nat.reduceBEq, reduceCtorEq, Nat.reduceLT, Nat.reduceLeDiff, Nat.reduceAdd, Nat.reduceSub, Nat.reduceMul, Nat.reduceDiv, Int.reduceAdd, Int.reduceNeg, Int.reduceEq, Int.reduceLT, Int.reduceLE, updAll_cons, updAll_nil]; done) | with_reducible rfl | rfl) (⟨by omega, rfl⟩) ?_
  rintro k q ⟨hk, rfl⟩ X4 hn4 he4 hr4
  simp only [go_sem, reduceIte, Nat.reduceEqDiff, Nat.reduceBEq, reduceCtorEq, Nat.reduceLT, Nat.reduceLeDiff, Nat.reduceAdd, Nat.reduceSub, Nat.reduceMul, Nat.reduceDiv, Int.reduceAdd, Int.reduceNeg, Int.reduceEq, Int.reduceLT, Int.reduceLE, updAll_cons, updAll_nil]
  rcases Nat.lt_or_ge k es.length with hk2 | hk2
  · have hdy : decide ((k : Int) < (es.length : Int)) = true := decide_eq_true (by omega)
    refine wlk_sreg fun KY hKY => ?_
    simp only [go_sem, reduceIte, Nat.reduceEqDiff, Nat.reduceBEq, reduceCtorEq, Nat.reduceLT, Nat.reduceLeDiff, Nat.reduceAdd, Nat.reduceSub, Nat.reduceMul, Nat.reduceDiv, Int.reduceAdd, Int.reduceNeg, Int.reduceEq, Int.reduceLT, Int.reduceLE, c_mates_Right_r5, hdy]
    refine hKY _ ?_
    refine wlk_seq fun X5 hn5 he5 hr5 => ?_
    refine wlk_cond1 (by first | rfl | (simp only [go_sem, reduceIte, Nat.reduceEqDiff, Nat.reduceBEq, reduceCtorEq, Nat.reduceLT, Nat.reduceLeDiff, Nat.reduceAdd, Nat.reduceSub, Nat.reduceMul, Nat.reduceDiv, Int.reduceAdd, Int.reduceNeg, Int.reduceEq, Int.reduceLT, Int.reduceLE]; try simp (disch := omega) only [decide_eq_true, decide_eq_false])) ?_
    refine wlk_skip ?_
    repeat (first | refine hn5 _ ?_ | refine he5 _ _ ?_ | refine he4 _ _ ?_ | refine hn3 _ ?_ | refine he3 _ ?_ | refine hf3 _ _ (by decide) ?_ | refine hn2 _ ?_ | refine he2 _ _ ?_ | refine hn1 _ ?_ | refine he1 _ _ ?_)
    refine wlk_seq fun X6 hn6 he6 hr6 => ?_
    refine wlk_blk fun X7 hn7 he7 hf7 hr7 => ?_
    have hx : es[k]? = some es[k] := List.getElem?_eq_getElem hk2
    have hxm : es[k] ∈ es := List.getElem_mem hk2
    generalize es[k] = x at hx hxm
    obtain ⟨a, b⟩ := x
    have hxc := castE_get hx
    have hok := g.ok (a, b) hxm
    simp only at hok
    have htk : es.take (k + 1) = es.take k ++ [(a, b)] := by rw [List.take_add_one, hx]; rfl
    have haN : a < N := by omega
    have hbN : b < N := hok.2
    refine wlk_sreg fun KY hKY => ?_
    simp only [go_sem, reduceIte, Nat.reduceEqDiff, Nat.reduceBEq, reduceCtorEq, Nat.reduceLT, Nat.reduceLeDiff, Nat.reduceAdd, Nat.reduceSub, Nat.reduceMul, Nat.reduceDiv, Int.reduceAdd, Int.reduceNeg, Int.reduceEq, Int.reduceLT, Int.reduceLE, c_mates_Right_r6, (show k * 2 + 1 < es.length * 2 by omega), (show 1 < es.length * 2 - k * 2 by omega), two_cells hxc, List.length_drop, twos_len, castE_len]
    refine hKY _ ?_
    by_cases h1 : m.getD a 0 = (b : Int)
    · have d1 : decide (m.getD a 0 = (b : Int)) = true := decide_eq_true h1
      by_cases h2 : m.getD b 0 = (a : Int)
      · have d2 : decide (m.getD b 0 = (a : Int)) = true := decide_eq_true h2
        have hst := jL_yes (N := N) m (es.take k) ⟨h1, h2⟩
        rw [← htk] at hst
        refine wlk_sdraw fun KY hKY => ?_
        simp only [go_sem, reduceIte, Nat.reduceEqDiff, Nat.reduceBEq, reduceCtorEq, Nat.reduceLT, Nat.reduceLeDiff, Nat.reduceAdd, Nat.reduceSub, Nat.reduceMul, Nat.reduceDiv, Int.reduceAdd, Int.reduceNeg, Int.reduceEq, Int.reduceLT, Int.reduceLE, c_mates_Right_r7, ints_get (show a < m.length by omega), ints_get (show b < m.length by omega), ints_len, hl, haN, hbN, d1, d2]
        refine hKY _ ?_
        refine wlk_cond1 (by first | rfl | (simp only [go_sem, reduceIte, Nat.reduceEqDiff, Nat.reduceBEq, reduceCtorEq, Nat.reduceLT, Nat.reduceLeDiff, Nat.reduceAdd, Nat.reduceSub, Nat.reduceMul, Nat.reduceDiv, Int.reduceAdd, Int.reduceNeg, Int.reduceEq, Int.reduceLT, Int.reduceLE]; try simp (disch := omega) only [decide_eq_true, decide_eq_false])) ?_
        refine wlk_draw fun KY hKY => ?_
        simp only [go_sem, reduceIte, Nat.reduceEqDiff, Nat.reduceBEq, reduceCtorEq, Nat.reduceLT, Nat.reduceLeDiff, Nat.reduceAdd, Nat.reduceSub, Nat.reduceMul, Nat.reduceDiv, Int.reduceAdd, Int.reduceNeg, Int.reduceEq, Int.reduceLT, Int.reduceLE, c_mates_Right_r8, bools_len, jL_len, haN, hbN, List.length_set, hst, (show ([0, 5] == [0, 7]) = false from rfl), Bool.not_false]
        refine hKY _ ?_
        repeat (first | refine hn7 _ ?_ | refine he7 _ ?_ | refine hf7 _ _ (by decide) ?_ | refine hn6 _ ?_ | refine he6 _ _ ?_ | refine hn5 _ ?_ | refine he5 _ _ ?_ | refine he4 _ _ ?_ | refine hn3 _ ?_ | refine he3 _ ?_ | refine hf3 _ _ (by decide) ?_ | refine hn2 _ ?_ | refine he2 _ _ ?_ | refine hn1 _ ?_ | refine he1 _ _ ?_)
        refine wlk_reg fun KY hKY => ?_
        simp only [go_sem, reduceIte, Nat.reduceEqDiff, Nat.reduceBEq, reduceCtorEq, Nat.reduceLT, Nat.reduceLeDiff, Nat.reduceAdd, Nat.reduceSub, Nat.reduceMul, Nat.reduceDiv, Int.reduceAdd, Int.reduceNeg, Int.reduceEq, Int.reduceLT, Int.reduceLE, c_mates_Right_r9, incS (show k < 4611686018427387904 by omega)]
        refine hKY _ ?_
        repeat (first | refine hn7 _ ?_ | refine he7 _ ?_ | refine hf7 _ _ (by decide) ?_ | refine hn6 _ ?_ | refine he6 _ _ ?_ | refine hn5 _ ?_ | refine he5 _ _ ?_)
        refine hn4 _ (k + 1) (es.length - (k + 1)) (by omega) (by first | (simp only [go_sem, reduceIte, Nat.reduceEqDiff, Nat.reduceBEq, reduceCtorEq, Nat.reduceLT, Nat.reduceLeDiff, Nat.reduceAdd, Nat.reduceSub, Nat.reduceMul, Nat.reduceDiv, Int.reduceAdd, Int.reduceNeg, Int.reduceEq, Int.reduceLT, Int.reduceLE, updAll_cons, updAll_nil]; done) | with_reducible rfl | rfl) ?_
        exact ⟨hk2, rfl⟩
      · have d2 : decide (m.getD b 0 = (a : Int)) = false := decide_eq_false h2
        have hst := jL_no (N := N) m (es.take k) (a := a) (b := b) fun h => h2 h.2
        rw [← htk] at hst
        refine wlk_sdraw fun KY hKY => ?_
        simp only [go_sem, reduceIte, Nat.reduceEqDiff, Nat.reduceBEq, reduceCtorEq, Nat.reduceLT, Nat.reduceLeDiff, Nat.reduceAdd, Nat.reduceSub, Nat.reduceMul, Nat.reduceDiv, Int.reduceAdd, Int.reduceNeg, Int.reduceEq, Int.reduceLT, Int.reduceLE, c_mates_Right_r7, ints_get (show a < m.length by omega), ints_get (show b < m.length by omega), ints_len, hl, haN, hbN, d1, d2]
        refine hKY _ ?_
        refine wlk_cond0 (by first | rfl | (simp only [go_sem, reduceIte, Nat.reduceEqDiff, Nat.reduceBEq, reduceCtorEq, Nat.reduceLT, Nat.reduceLeDiff, Nat.reduceAdd, Nat.reduceSub, Nat.reduceMul, Nat.reduceDiv, Int.reduceAdd, Int.reduceNeg, Int.reduceEq, Int.reduceLT, Int.reduceLE]; try simp (disch := omega) only [decide_eq_true, decide_eq_false])) ?_
        refine wlk_skip ?_
        repeat (first | refine hn7 _ ?_ | refine he7 _ ?_ | refine hf7 _ _ (by decide) ?_ | refine hn6 _ ?_ | refine he6 _ _ ?_ | refine hn5 _ ?_ | refine he5 _ _ ?_ | refine he4 _ _ ?_ | refine hn3 _ ?_ | refine he3 _ ?_ | refine hf3 _ _ (by decide) ?_ | refine hn2 _ ?_ | refine he2 _ _ ?_ | refine hn1 _ ?_ | refine he1 _ _ ?_)
        refine wlk_reg fun KY hKY => ?_
        simp only [go_sem, reduceIte, Nat.reduceEqDiff, Nat.reduceBEq, reduceCtorEq, Nat.reduceLT, Nat.reduceLeDiff, Nat.reduceAdd, Nat.reduceSub, Nat.reduceMul, Nat.reduceDiv, Int.reduceAdd, Int.reduceNeg, Int.reduceEq, Int.reduceLT, Int.reduceLE, c_mates_Right_r9, incS (show k < 4611686018427387904 by omega)]
        refine hKY _ ?_
        repeat (first | refine hn7 _ ?_ | refine he7 _ ?_ | refine hf7 _ _ (by decide) ?_ | refine hn6 _ ?_ | refine he6 _ _ ?_ | refine hn5 _ ?_ | refine he5 _ _ ?_)
        refine hn4 _ (k + 1) (es.length - (k + 1)) (by omega) (by first | (simp only [go_sem, reduceIte, Nat.reduceEqDiff, Nat.reduceBEq, reduceCtorEq, Nat.reduceLT, Nat.reduceLeDiff, Nat.reduceAdd, Nat.reduceSub, Nat.reduceMul, Nat.reduceDiv, Int.reduceAdd, Int.reduceNeg, Int.reduceEq, Int.reduceLT, Int.reduceLE, updAll_cons, updAll_nil, hst]; done) | with_reducible rfl | rfl) ?_
        exact ⟨hk2, rfl⟩
    · have d1 : decide (m.getD a 0 = (b : Int)) = false := decide_eq_false h1
      have hst := jL_no (N := N) m (es.take k) (a := a) (b := b) fun h => h1 h.1
      rw [← htk] at hst
      refine wlk_sdraw fun KY hKY => ?_
      simp only [go_sem, reduceIte, Nat.reduceEqDiff, Nat.reduceBEq, reduceCtorEq, Nat.reduceLT, Nat.reduceLeDiff, Nat.reduceAdd, Nat.reduceSub, Nat.reduceMul, Nat.reduceDiv, Int.reduceAdd, Int.reduceNeg, Int.reduceEq, Int.reduceLT, Int.reduceLE, c_mates_Right_r7, ints_get (show a < m.length by omega), ints_len, hl, haN, hbN, d1]
      refine hKY _ ?_
      refine wlk_cond0 (by first | rfl | (simp only [go_sem, reduceIte, Nat.reduceEqDiff, Nat.reduceBEq, reduceCtorEq, Nat.reduceLT, Nat.reduceLeDiff, Nat.reduceAdd, Nat.reduceSub, Nat.reduceMul, Nat.reduceDiv, Int.reduceAdd, Int.reduceNeg, Int.reduceEq, Int.reduceLT, Int.reduceLE]; try simp (disch := omega) only [decide_eq_true, decide_eq_false])) ?_
      refine wlk_skip ?_
      repeat (first | refine hn7 _ ?_ | refine he7 _ ?_ | refine hf7 _ _ (by decide) ?_ | refine hn6 _ ?_ | refine he6 _ _ ?_ | refine hn5 _ ?_ | refine he5 _ _ ?_ | refine he4 _ _ ?_ | refine hn3 _ ?_ | refine he3 _ ?_ | refine hf3 _ _ (by decide) ?_ | refine hn2 _ ?_ | refine he2 _ _ ?_ | refine hn1 _ ?_ | refine he1 _ _ ?_)
      refine wlk_reg fun KY hKY => ?_
      simp only [go_sem, reduceIte, Nat.reduceEqDiff, Nat.reduceBEq, reduceCtorEq, Nat.reduceLT, Nat.reduceLeDiff, Nat.reduceAdd, Nat.reduceSub, Nat.reduceMul, Nat.reduceDiv, Int.reduceAdd, Int.reduceNeg, Int.reduceEq, Int.reduceLT, Int.reduceLE, c_mates_Right_r9, incS (show k < 4611686018427387904 by omega)]
      refine hKY _ ?_
      repeat (first | refine hn7 _ ?_ | refine he7 _ ?_ | refine hf7 _ _ (by decide) ?_ | refine hn6 _ ?_ | refine he6 _ _ ?_ | refine hn5 _ ?_ | refine he5 _ _ ?_)
      refine hn4 _ (k + 1) (es.length - (k + 1)) (by omega) (by first | (simp only [go_sem, reduceIte, Nat.reduceEqDiff, Nat.reduceBEq, reduceCtorEq, Nat.reduceLT, Nat.reduceLeDiff, Nat.reduceAdd, Nat.reduceSub, Nat.reduceMul, Nat.reduceDiv, Int.reduceAdd, Int.reduceNeg, Int.reduceEq, Int.reduceLT, Int.reduceLE, updAll_cons, updAll_nil, hst]; done) | with_reducible rfl | rfl) ?_
      exact ⟨hk2, rfl⟩
  have hdx : decide ((k : Int) < (es.length : Int)) = false := decide_eq_false (by omega)
  refine wlk_sreg fun KY hKY => ?_
  simp only [go_sem, reduceIte, Nat.reduceEqDiff, Nat.reduceBEq, reduceCtorEq, Nat.reduceLT, Nat.reduceLeDiff, Nat.reduceAdd, Nat.reduceSub, Nat.reduceMul, Nat.reduceDiv, Int.reduceAdd, Int.reduceNeg, Int.reduceEq, Int.reduceLT, Int.reduceLE, c_mates_Right_r5, hdx]
  refine hKY _ ?_
  refine wlk_seq fun X8 hn8 he8 hr8 => ?_
  refine wlk_cond0 (by first | rfl | (simp only [go_sem, reduceIte, Nat.reduceEqDiff, Nat.reduceBEq, reduceCtorEq, Nat.reduceLT, Nat.reduceLeDiff, Nat.reduceAdd, Nat.reduceSub, Nat.reduceMul, Nat.reduceDiv, Int.reduceAdd, Int.reduceNeg, Int.reduceEq, Int.reduceLT, Int.reduceLE]; try simp (disch := omega) only [decide_eq_true, decide_eq_false])) ?_
  refine wlk_exit ?_
  repeat (first | refine hn8 _ ?_ | refine he8 _ _ ?_ | refine he4 _ _ ?_ | refine hn3 _ ?_ | refine he3 _ ?_ | refine hf3 _ _ (by decide) ?_ | refine hn2 _ ?_ | refine he2 _ _ ?_ | refine hn1 _ ?_ | refine he1 _ _ ?_)
  obtain rfl : k = es.length := by omega
  rw [List.take_length]
  refine wlk_seq fun X9 hn9 he9 hr9 => ?_
  refine wlk_sreg fun KY hKY => ?_
  simp only [go_sem, reduceIte, Nat.reduceEqDiff, Nat.reduceBEq, reduceCtorEq, Nat.reduceLT, Nat.reduceLeDiff, Nat.reduceAdd, Nat.reduceSub, Nat.reduceMul, Nat.reduceDiv, Int.reduceAdd, Int.reduceNeg, Int.reduceEq, Int.reduceLT, Int.reduceLE, c_mates_Right_r10, ints_len, hl]
  refine hKY _ ?_
  refine wlk_blk fun X10 hn10 he10 hf10 hr10 => ?_
  try simp only [go_sem, reduceIte, Nat.reduceEqDiff, Nat.reduceBEq, reduceCtorEq, Nat.reduceLT, Nat.reduceLeDiff, Nat.reduceAdd, Nat.reduceSub, Nat.reduceMul, Nat.reduceDiv, Int.reduceAdd, Int.reduceNeg, Int.reduceEq, Int.reduceLT, Int.reduceLE]
  refine wlk_lp (α := Nat) [8, 9, 60, 72] (fun v => [(59, .sc (.int .i64 (v : Int)))]) (fun v => []) (fun v q => v ≤ N ∧ q = N - v ∧ (∀ u, u < v → mOk es m u = true)) (0) (N) rfl (by first | (simp only [go_sem, reduceIte, Nat.reduceEqDiff, Nat.reduceBEq, reduceCtorEq, Nat.reduceLT, Nat.reduceLeDiff, Nat.reduceAdd, Nat.reduceSub, Nat.reduceMul, Nat.reduceDiv, Int.reduceAdd, Int.reduceNeg, Int.reduceEq, Int.reduceLT, Int.reduceLE, updAll_cons, updAll_nil]; done) | with_reducible rfl | rfl) (⟨by omega, rfl, fun v h => by omega⟩) ?_
  rintro v q ⟨hv, rfl, hz⟩ X11 hn11 he11 hr11
  simp only [go_sem, reduceIte, Nat.reduceEqDiff, Nat.reduceBEq, reduceCtorEq, Nat.reduceLT, Nat.reduceLeDiff, Nat.reduceAdd, Nat.reduceSub, Nat.reduceMul, Nat.reduceDiv, Int.reduceAdd, Int.reduceNeg, Int.reduceEq, Int.reduceLT, Int.reduceLE, updAll_cons, updAll_nil]
  rcases Nat.lt_or_ge v N with hv2 | hv2
  · have hdy : decide ((v : Int) < (N : Int)) = true := decide_eq_true (by omega)
    refine wlk_sreg fun KY hKY => ?_
    simp only [go_sem, reduceIte, Nat.reduceEqDiff, Nat.reduceBEq, reduceCtorEq, Nat.reduceLT, Nat.reduceLeDiff, Nat.reduceAdd, Nat.reduceSub, Nat.reduceMul, Nat.reduceDiv, Int.reduceAdd, Int.reduceNeg, Int.reduceEq, Int.reduceLT, Int.reduceLE, c_mates_Right_r11, hdy]
    refine hKY _ ?_
    refine wlk_seq fun X12 hn12 he12 hr12 => ?_
    refine wlk_cond1 (by first | rfl | (simp only [go_sem, reduceIte, Nat.reduceEqDiff, Nat.reduceBEq, reduceCtorEq, Nat.reduceLT, Nat.reduceLeDiff, Nat.reduceAdd, Nat.reduceSub, Nat.reduceMul, Nat.reduceDiv, Int.reduceAdd, Int.reduceNeg, Int.reduceEq, Int.reduceLT, Int.reduceLE]; try simp (disch := omega) only [decide_eq_true, decide_eq_false])) ?_
    refine wlk_skip ?_
    repeat (first | refine hn12 _ ?_ | refine he12 _ _ ?_ | refine he11 _ _ ?_ | refine hn10 _ ?_ | refine he10 _ ?_ | refine hf10 _ _ (by decide) ?_ | refine hn9 _ ?_ | refine he9 _ _ ?_ | refine hn8 _ ?_ | refine he8 _ _ ?_)
    refine wlk_seq fun X13 hn13 he13 hr13 => ?_
    refine wlk_blk fun X14 hn14 he14 hf14 hr14 => ?_
    refine wlk_sreg fun KY hKY => ?_
    simp only [go_sem, reduceIte, Nat.reduceEqDiff, Nat.reduceBEq, reduceCtorEq, Nat.reduceLT, Nat.reduceLeDiff, Nat.reduceAdd, Nat.reduceSub, Nat.reduceMul, Nat.reduceDiv, Int.reduceAdd, Int.reduceNeg, Int.reduceEq, Int.reduceLT, Int.reduceLE, c_mates_Right_r12, ints_get (show v < m.length by omega), ints_len, hl, hv2]
    refine hKY _ ?_
    by_cases hw : m.getD v 0 = -1
    · have d1 : decide (m.getD v 0 ≠ -1) = false := decide_eq_false fun h => h hw
      have hok : mOk es m v = true := by unfold mOk; rw [decide_eq_true hw]; rfl
      refine wlk_sreg fun KY hKY => ?_
      simp only [go_sem, reduceIte, Nat.reduceEqDiff, Nat.reduceBEq, reduceCtorEq, Nat.reduceLT, Nat.reduceLeDiff, Nat.reduceAdd, Nat.reduceSub, Nat.reduceMul, Nat.reduceDiv, Int.reduceAdd, Int.reduceNeg, Int.reduceEq, Int.reduceLT, Int.reduceLE, c_mates_Right_r13, d1]
      refine hKY _ ?_
      refine wlk_cond0 (by first | rfl | (simp only [go_sem, reduceIte, Nat.reduceEqDiff, Nat.reduceBEq, reduceCtorEq, Nat.reduceLT, Nat.reduceLeDiff, Nat.reduceAdd, Nat.reduceSub, Nat.reduceMul, Nat.reduceDiv, Int.reduceAdd, Int.reduceNeg, Int.reduceEq, Int.reduceLT, Int.reduceLE]; try simp (disch := omega) only [decide_eq_true, decide_eq_false])) ?_
      refine wlk_skip ?_
      repeat (first | refine hn14 _ ?_ | refine he14 _ ?_ | refine hf14 _ _ (by decide) ?_ | refine hn13 _ ?_ | refine he13 _ _ ?_ | refine hn12 _ ?_ | refine he12 _ _ ?_ | refine he11 _ _ ?_ | refine hn10 _ ?_ | refine he10 _ ?_ | refine hf10 _ _ (by decide) ?_ | refine hn9 _ ?_ | refine he9 _ _ ?_ | refine hn8 _ ?_ | refine he8 _ _ ?_)
      refine wlk_reg fun KY hKY => ?_
      simp only [go_sem, reduceIte, Nat.reduceEqDiff, Nat.reduceBEq, reduceCtorEq, Nat.reduceLT, Nat.reduceLeDiff, Nat.reduceAdd, Nat.reduceSub, Nat.reduceMul, Nat.reduceDiv, Int.reduceAdd, Int.reduceNeg, Int.reduceEq, Int.reduceLT, Int.reduceLE, c_mates_Right_r15, incS (show v < 4611686018427387904 by omega)]
      refine hKY _ ?_
      repeat (first | refine hn14 _ ?_ | refine he14 _ ?_ | refine hf14 _ _ (by decide) ?_ | refine hn13 _ ?_ | refine he13 _ _ ?_ | refine hn12 _ ?_ | refine he12 _ _ ?_)
      refine hn11 _ (v + 1) (N - (v + 1)) (by omega) (by first | (simp only [go_sem, reduceIte, Nat.reduceEqDiff, Nat.reduceBEq, reduceCtorEq, Nat.reduceLT, Nat.reduceLeDiff, Nat.reduceAdd, Nat.reduceSub, Nat.reduceMul, Nat.reduceDiv, Int.reduceAdd, Int.reduceNeg, Int.reduceEq, Int.reduceLT, Int.reduceLE, updAll_cons, updAll_nil]; done) | with_reducible rfl | rfl) ?_
      refine ⟨hv2, rfl, fun u hu => ?_⟩
      rcases Nat.lt_or_ge u v with h3 | h3
      · exact hz u h3
      · obtain rfl : u = v := by omega
        exact hok
    · have d1 : decide (m.getD v 0 ≠ -1) = true := decide_eq_true hw
      have hj := jAt_ok g m hw
      have hjl := jL_len N m es
      have hg := bools_get (show v < (jL N m es).length by omega)
      rw [jL_get m es hv2, hj] at hg
      cases hok : mOk es m v with
      | true =>
        rw [hok] at hg
        refine wlk_sreg fun KY hKY => ?_
        simp only [go_sem, reduceIte, Nat.reduceEqDiff, Nat.reduceBEq, reduceCtorEq, Nat.reduceLT, Nat.reduceLeDiff, Nat.reduceAdd, Nat.reduceSub, Nat.reduceMul, Nat.reduceDiv, Int.reduceAdd, Int.reduceNeg, Int.reduceEq, Int.reduceLT, Int.reduceLE, c_mates_Right_r13, d1, hg, bools_len, hjl, hv2]
        refine hKY _ ?_
        refine wlk_cond0 (by first | rfl | (simp only [go_sem, reduceIte, Nat.reduceEqDiff, Nat.reduceBEq, reduceCtorEq, Nat.reduceLT, Nat.reduceLeDiff, Nat.reduceAdd, Nat.reduceSub, Nat.reduceMul, Nat.reduceDiv, Int.reduceAdd, Int.reduceNeg, Int.reduceEq, Int.reduceLT, Int.reduceLE]; try simp (disch := omega) only [decide_eq_true, decide_eq_false])) ?_
        refine wlk_skip ?_
        repeat (first | refine hn14 _ ?_ | refine he14 _ ?_ | refine hf14 _ _ (by decide) ?_ | refine hn13 _ ?_ | refine he13 _ _ ?_ | refine hn12 _ ?_ | refine he12 _ _ ?_ | refine he11 _ _ ?_ | refine hn10 _ ?_ | refine he10 _ ?_ | refine hf10 _ _ (by decide) ?_ | refine hn9 _ ?_ | refine he9 _ _ ?_ | refine hn8 _ ?_ | refine he8 _ _ ?_)
        refine wlk_reg fun KY hKY => ?_
        simp only [go_sem, reduceIte, Nat.reduceEqDiff, Nat.reduceBEq, reduceCtorEq, Nat.reduceLT, Nat.reduceLeDiff, Nat.reduceAdd, Nat.reduceSub, Nat.reduceMul, Nat.reduceDiv, Int.reduceAdd, Int.reduceNeg, Int.reduceEq, Int.reduceLT, Int.reduceLE, c_mates_Right_r15, incS (show v < 4611686018427387904 by omega)]
        refine hKY _ ?_
        repeat (first | refine hn14 _ ?_ | refine he14 _ ?_ | refine hf14 _ _ (by decide) ?_ | refine hn13 _ ?_ | refine he13 _ _ ?_ | refine hn12 _ ?_ | refine he12 _ _ ?_)
        refine hn11 _ (v + 1) (N - (v + 1)) (by omega) (by first | (simp only [go_sem, reduceIte, Nat.reduceEqDiff, Nat.reduceBEq, reduceCtorEq, Nat.reduceLT, Nat.reduceLeDiff, Nat.reduceAdd, Nat.reduceSub, Nat.reduceMul, Nat.reduceDiv, Int.reduceAdd, Int.reduceNeg, Int.reduceEq, Int.reduceLT, Int.reduceLE, updAll_cons, updAll_nil]; done) | with_reducible rfl | rfl) ?_
        refine ⟨hv2, rfl, fun u hu => ?_⟩
        rcases Nat.lt_or_ge u v with h3 | h3
        · exact hz u h3
        · obtain rfl : u = v := by omega
          exact hok
      | false =>
        rw [hok] at hg
        refine wlk_sreg fun KY hKY => ?_
        simp only [go_sem, reduceIte, Nat.reduceEqDiff, Nat.reduceBEq, reduceCtorEq, Nat.reduceLT, Nat.reduceLeDiff, Nat.reduceAdd, Nat.reduceSub, Nat.reduceMul, Nat.reduceDiv, Int.reduceAdd, Int.reduceNeg, Int.reduceEq, Int.reduceLT, Int.reduceLE, c_mates_Right_r13, d1, hg, bools_len, hjl, hv2]
        refine hKY _ ?_
        refine wlk_cond1 (by first | rfl | (simp only [go_sem, reduceIte, Nat.reduceEqDiff, Nat.reduceBEq, reduceCtorEq, Nat.reduceLT, Nat.reduceLeDiff, Nat.reduceAdd, Nat.reduceSub, Nat.reduceMul, Nat.reduceDiv, Int.reduceAdd, Int.reduceNeg, Int.reduceEq, Int.reduceLT, Int.reduceLE]; try simp (disch := omega) only [decide_eq_true, decide_eq_false])) ?_
        refine wlk_sreg fun KY hKY => ?_
        simp only [go_sem, reduceIte, Nat.reduceEqDiff, Nat.reduceBEq, reduceCtorEq, Nat.reduceLT, Nat.reduceLeDiff, Nat.reduceAdd, Nat.reduceSub, Nat.reduceMul, Nat.reduceDiv, Int.reduceAdd, Int.reduceNeg, Int.reduceEq, Int.reduceLT, Int.reduceLE, c_mates_Right_r14]
        refine hKY _ ?_
        refine wlk_ret ?_
        repeat (first | refine hr14 _ ?_ | refine hr13 _ ?_ | refine hr12 _ ?_ | refine hr11 _ ?_ | refine hr10 _ ?_ | refine hr9 _ ?_ | refine hr8 _ ?_ | refine hr4 _ ?_ | refine hr3 _ ?_ | refine hr2 _ ?_ | refine hr1 _ ?_)
        simp only [go_sem, reduceIte, Nat.reduceEqDiff, Nat.reduceBEq, reduceCtorEq, Nat.reduceLT, Nat.reduceLeDiff, Nat.reduceAdd, Nat.reduceSub, Nat.reduceMul, Nat.reduceDiv, Int.reduceAdd, Int.reduceNeg, Int.reduceEq, Int.reduceLT, Int.reduceLE]
        rw [all_no hv2 hok]
  have hdz : decide ((v : Int) < (N : Int)) = false := decide_eq_false (by omega)
  refine wlk_sreg fun KY hKY => ?_
  simp only [go_sem, reduceIte, Nat.reduceEqDiff, Nat.reduceBEq, reduceCtorEq, Nat.reduceLT, Nat.reduceLeDiff, Nat.reduceAdd, Nat.reduceSub, Nat.reduceMul, Nat.reduceDiv, Int.reduceAdd, Int.reduceNeg, Int.reduceEq, Int.reduceLT, Int.reduceLE, c_mates_Right_r11, hdz]
  refine hKY _ ?_
  refine wlk_seq fun X15 hn15 he15 hr15 => ?_
  refine wlk_cond0 (by first | rfl | (simp only [go_sem, reduceIte, Nat.reduceEqDiff, Nat.reduceBEq, reduceCtorEq, Nat.reduceLT, Nat.reduceLeDiff, Nat.reduceAdd, Nat.reduceSub, Nat.reduceMul, Nat.reduceDiv, Int.reduceAdd, Int.reduceNeg, Int.reduceEq, Int.reduceLT, Int.reduceLE]; try simp (disch := omega) only [decide_eq_true, decide_eq_false])) ?_
  refine wlk_exit ?_
  repeat (first | refine hn15 _ ?_ | refine he15 _ _ ?_ | refine he11 _ _ ?_ | refine hn10 _ ?_ | refine he10 _ ?_ | refine hf10 _ _ (by decide) ?_ | refine hn9 _ ?_ | refine he9 _ _ ?_ | refine hn8 _ ?_ | refine he8 _ _ ?_ | refine he4 _ _ ?_ | refine hn3 _ ?_ | refine he3 _ ?_ | refine hf3 _ _ (by decide) ?_ | refine hn2 _ ?_ | refine he2 _ _ ?_ | refine hn1 _ ?_ | refine he1 _ _ ?_)
  obtain rfl : v = N := by omega
  refine wlk_sreg fun KY hKY => ?_
  simp only [go_sem, reduceIte, Nat.reduceEqDiff, Nat.reduceBEq, reduceCtorEq, Nat.reduceLT, Nat.reduceLeDiff, Nat.reduceAdd, Nat.reduceSub, Nat.reduceMul, Nat.reduceDiv, Int.reduceAdd, Int.reduceNeg, Int.reduceEq, Int.reduceLT, Int.reduceLE, c_mates_Right_r16]
  refine hKY _ ?_
  refine wlk_ret ?_
  repeat (first | refine hr15 _ ?_ | refine hr11 _ ?_ | refine hr10 _ ?_ | refine hr9 _ ?_ | refine hr8 _ ?_ | refine hr4 _ ?_ | refine hr3 _ ?_ | refine hr2 _ ?_ | refine hr1 _ ?_)
  simp only [go_sem, reduceIte, Nat.reduceEqDiff, Nat.reduceBEq, reduceCtorEq, Nat.reduceLT, Nat.reduceLeDiff, Nat.reduceAdd, Nat.reduceSub, Nat.reduceMul, Nat.reduceDiv, Int.reduceAdd, Int.reduceNeg, Int.reduceEq, Int.reduceLT, Int.reduceLE]
  rw [show ((List.range v).all fun v => mOk es m v) = true from List.all_eq_true.2 fun u hu => hz u (List.mem_range.1 hu)]
end Go.Proofs.Ytoefhbfgmceikaa
set_option maxRecDepth 100000
set_option maxHeartbeats 4000000
namespace Go.Proofs.Ytoefhbfgmceikaa
open Go Go.Ga Go.Ga.Gl
def pairB (l : List Int) (v : Nat) : Bool := decide (0 ≤ l.getD v 0) && (decide (l.getD v 0 < l.length) && (decide (l.getD v 0 ≠ (v : Int)) && decide (l.getD (l.getD v 0).toNat 0 = (v : Int))))
def upP (l : List Int) (v : Nat) : Bool := decide ((v : Int) < l.getD v 0) && (decide (l.getD v 0 < l.length) && decide (l.getD (l.getD v 0).toNat 0 = (v : Int)))
theorem pair_up {l : List Int} {v : Nat} : pairB l v = true ↔ ∃ w : Nat, l.getD v 0 = w ∧ w < l.length ∧ w ≠ v ∧ l.getD w 0 = v := by
  unfold pairB
  simp only [Bool.and_eq_true, decide_eq_true_eq]
  refine ⟨fun ⟨h1, h2, h3, h4⟩ => ⟨(l.getD v 0).toNat, by omega, by omega, by omega, h4⟩, fun ⟨w, h1, h2, h3, h4⟩ => ?_⟩
  rw [h1, Int.toNat_natCast]
  exact ⟨by omega, by omega, by omega, h4⟩
theorem up_up {l : List Int} {v : Nat} : upP l v = true ↔ ∃ w : Nat, l.getD v 0 = w ∧ w < l.length ∧ v < w ∧ l.getD w 0 = v := by
  unfold upP
  simp only [Bool.and_eq_true, decide_eq_true_eq]
  refine ⟨fun ⟨h1, h2, h4⟩ => ⟨(l.getD v 0).toNat, by omega, by omega, by omega, h4⟩, fun ⟨w, h1, h2, h3, h4⟩ => ?_⟩
  rw [h1, Int.toNat_natCast]
  exact ⟨by omega, by omega, h4⟩
theorem pair_count (l : List Int) : ((List.range l.length).filter (pairB l)).length = 2 * ((List.range l.length).filter (upP l)).length := by
  have hp : ((List.range l.length).filter (pairB l)).Perm ((List.range l.length).filter (upP l) ++ ((List.range l.length).filter (upP l)).map fun v => (l.getD v 0).toNat) := by
    refine (List.perm_ext_iff_of_nodup (List.nodup_range.filter _) ?_).2 fun v => ?_
    · refine List.nodup_append.2 ⟨List.nodup_range.filter _, ?_, ?_⟩
      · refine List.pairwise_map.2 ((List.nodup_range (n := l.length)).filter (upP l) |>.imp_of_mem ?_)
        intro a b ha hb hne he
        obtain ⟨w, h1, _, _, h4⟩ := up_up.1 (List.mem_filter.1 ha).2
        obtain ⟨u, g1, _, _, g4⟩ := up_up.1 (List.mem_filter.1 hb).2
        rw [h1, g1, Int.toNat_natCast, Int.toNat_natCast] at he
        subst he; omega
      · intro a ha b hb hab
        subst hab
        obtain ⟨w, h1, _, h3, h4⟩ := up_up.1 (List.mem_filter.1 ha).2
        obtain ⟨u, hu, rfl⟩ := List.mem_map.1 hb
        obtain ⟨x, g1, _, g3, g4⟩ := up_up.1 (List.mem_filter.1 hu).2
        simp only [g1, Int.toNat_natCast] at h1 h3 h4
        omega
    · rw [List.mem_append, List.mem_filter, List.mem_filter, List.mem_map, List.mem_range, pair_up, up_up]
      constructor
      · rintro ⟨hv, w, h1, h2, h3, h4⟩
        rcases Nat.lt_or_ge v w with h | h
        · exact .inl ⟨hv, w, h1, h2, h, h4⟩
        · refine .inr ⟨w, List.mem_filter.2 ⟨List.mem_range.2 h2, up_up.2 ⟨v, h4, hv, by omega, h1⟩⟩, by rw [h4]; rfl⟩
      · rintro (⟨hv, w, h1, h2, h3, h4⟩ | ⟨u, hu, rfl⟩)
        · exact ⟨hv, w, h1, h2, by omega, h4⟩
        · obtain ⟨hu1, hu2⟩ := List.mem_filter.1 hu
          obtain ⟨x, g1, g2, g3, g4⟩ := up_up.1 hu2
          rw [g1, Int.toNat_natCast]
          exact ⟨g2, u, g4, List.mem_range.1 hu1, by omega, g1⟩
  rw [hp.length_eq, List.length_append, List.length_map]; omega
def sel (φ : Nat → Bool) (k : Nat) : List Nat := (List.range k).filter φ
theorem sel_len (φ : Nat → Bool) (k : Nat) : (sel φ k).length ≤ k := Nat.le_trans (List.length_filter_le _ _) (by simp)
theorem sel_step (φ : Nat → Bool) (k : Nat) : sel φ (k + 1) = sel φ k ++ if φ k = true then [k] else [] := by
  unfold sel
  rw [List.range_succ, List.filter_append]; congr 1; simp [List.filter_cons]
def prs (l : List Int) (k : Nat) : List (Int × Int) := (sel (upP l) k).map fun v : Nat => ((v : Int), l.getD v 0)
theorem prs_len (l : List Int) (k : Nat) : (prs l k).length = (sel (upP l) k).length := by simp [prs]
theorem r8edges_ok (l : List Int) (hl : l.length ≤ 1000000000) : ACalls Try.prog [] n_garlandref08_Edges [.imm 1 (ints l)] [] fun r h' => r = .own (some 2) (twos (prs l l.length)) ∧ h' = [] := by
  refine go_garlandref08_Edges rfl ?_
  unfold c_garlandref08_Edges v_garlandref08_Edges
  refine wlk_sreg fun KY hKY => ?_
  simp only [go_sem, reduceIte, Nat.reduceEqDiff, Nat.reduceBEq, reduceCtorEq, Nat.reduceLT, Nat.reduceLeDiff, Nat.reduceAdd, Nat.reduceSub, Nat.reduceMul, Nat.reduceDiv, Int.reduceAdd, Int.reduceNeg, Int.reduceEq, Int.reduceLT, Int.reduceLE, c_garlandref08_Edges_r0]
  refine hKY _ ?_
  refine wlk_sreg fun KY hKY => ?_
  simp only [go_sem, reduceIte, Nat.reduceEqDiff, Nat.reduceBEq, reduceCtorEq, Nat.reduceLT, Nat.reduceLeDiff, Nat.reduceAdd, Nat.reduceSub, Nat.reduceMul, Nat.reduceDiv, Int.reduceAdd, Int.reduceNeg, Int.reduceEq, Int.reduceLT, Int.reduceLE, c_garlandref08_Edges_r1]
  refine hKY _ ?_
  refine sem_nil [0, 3] 2 (by simp only [go_sem, reduceIte, Nat.reduceEqDiff, Nat.reduceBEq, reduceCtorEq, Nat.reduceLT, Nat.reduceLeDiff, Nat.reduceAdd, Nat.reduceSub, Nat.reduceMul, Nat.reduceDiv, Int.reduceAdd, Int.reduceNeg, Int.reduceEq, Int.reduceLT, Int.reduceLE]) ?_
  simp only [go_sem, reduceIte, Nat.reduceEqDiff, Nat.reduceBEq, reduceCtorEq, Nat.reduceLT, Nat.reduceLeDiff, Nat.reduceAdd, Nat.reduceSub, Nat.reduceMul, Nat.reduceDiv, Int.reduceAdd, Int.reduceNeg, Int.reduceEq, Int.reduceLT, Int.reduceLE]
  refine wlk_seq fun X1 hn1 he1 hr1 => ?_
  refine wlk_sreg fun KY hKY => ?_
  simp only [go_sem, reduceIte, Nat.reduceEqDiff, Nat.reduceBEq, reduceCtorEq, Nat.reduceLT, Nat.reduceLeDiff, Nat.reduceAdd, Nat.reduceSub, Nat.reduceMul, Nat.reduceDiv, Int.reduceAdd, Int.reduceNeg, Int.reduceEq, Int.reduceLT, Int.reduceLE, c_garlandref08_Edges_r2]
  refine hKY _ ?_
  refine wlk_blk fun X2 hn2 he2 hf2 hr2 => ?_
  try simp only [go_sem, reduceIte, Nat.reduceEqDiff, Nat.reduceBEq, reduceCtorEq, Nat.reduceLT, Nat.reduceLeDiff, Nat.reduceAdd, Nat.reduceSub, Nat.reduceMul, Nat.reduceDiv, Int.reduceAdd, Int.reduceNeg, Int.reduceEq, Int.reduceLT, Int.reduceLE]
  refine wlk_lp (α := Nat) [5, 9, 32] (fun k => [(3, .own (some 2) (twos (prs l k))), (4, .sc (.int .i64 (k : Int)))]) (fun k => []) (fun k q => k ≤ l.length ∧ q = l.length - k) (0) (l.length) rfl (by first | (simp only [go_sem, reduceIte, Nat.reduceEqDiff, Nat.reduceBEq, reduceCtorEq, Nat.reduceLT, Nat.reduceLeDiff, Nat.reduceAdd, Nat.reduceSub, Nat.reduceMul, Nat.reduceDiv, Int.reduceAdd, Int.reduceNeg, Int.reduceEq, Int.reduceLT, Int.reduceLE, updAll_cons, updAll_nil]; done) | with_reducible rfl | rfl) (⟨by omega, rfl⟩) ?_
  rintro k q ⟨hk, rfl⟩ X3 hn3 he3 hr3
  simp only [go_sem, reduceIte, Nat.reduceEqDiff, Nat.reduceBEq, reduceCtorEq, Nat.reduceLT, Nat.reduceLeDiff, Nat.reduceAdd, Nat.reduceSub, Nat.reduceMul, Nat.reduceDiv, Int.reduceAdd, Int.reduceNeg, Int.reduceEq, Int.reduceLT, Int.reduceLE, updAll_cons, updAll_nil]
  refine wlk_seq fun X4 hn4 he4 hr4 => ?_
  rcases Nat.lt_or_ge k l.length with hk2 | hk2
  · refine wlk_sreg fun KY hKY => ?_
    simp only [go_sem, reduceIte, Nat.reduceEqDiff, Nat.reduceBEq, reduceCtorEq, Nat.reduceLT, Nat.reduceLeDiff, Nat.reduceAdd, Nat.reduceSub, Nat.reduceMul, Nat.reduceDiv, Int.reduceAdd, Int.reduceNeg, Int.reduceEq, Int.reduceLT, Int.reduceLE, c_garlandref08_Edges_r3, ints_len]
    refine hKY _ ?_
    refine wlk_cond1 (by first | rfl | (simp only [go_sem, reduceIte, Nat.reduceEqDiff, Nat.reduceBEq, reduceCtorEq, Nat.reduceLT, Nat.reduceLeDiff, Nat.reduceAdd, Nat.reduceSub, Nat.reduceMul, Nat.reduceDiv, Int.reduceAdd, Int.reduceNeg, Int.reduceEq, Int.reduceLT, Int.reduceLE]; try simp (disch := omega) only [decide_eq_true, decide_eq_false])) ?_
    refine wlk_skip ?_
    repeat (first | refine hn4 _ ?_ | refine he4 _ _ ?_ | refine he3 _ _ ?_ | refine hn2 _ ?_ | refine he2 _ ?_ | refine hf2 _ _ (by decide) ?_ | refine hn1 _ ?_ | refine he1 _ _ ?_)
    refine wlk_seq fun X5 hn5 he5 hr5 => ?_
    refine wlk_blk fun X6 hn6 he6 hf6 hr6 => ?_
    refine wlk_sreg fun KY hKY => ?_
    simp only [go_sem, reduceIte, Nat.reduceEqDiff, Nat.reduceBEq, reduceCtorEq, Nat.reduceLT, Nat.reduceLeDiff, Nat.reduceAdd, Nat.reduceSub, Nat.reduceMul, Nat.reduceDiv, Int.reduceAdd, Int.reduceNeg, Int.reduceEq, Int.reduceLT, Int.reduceLE, c_garlandref08_Edges_r4, ints_get hk2, hk2, ints_len]
    refine hKY _ ?_
    have hfl := sel_len (upP l) k
    have hpl := prs_len l k
    have hby : (prs l k).length * 2 * 16 + 31 < 140737488355328 := by omega
    have hst := sel_step (upP l) k
    have hup : upP l k = (decide ((k : Int) < l.getD k 0) && (decide (l.getD k 0 < l.length) && decide (l.getD (l.getD k 0).toNat 0 = (k : Int)))) := rfl
    by_cases h1 : (k : Int) < l.getD k 0
    · have d1 : decide ((k : Int) < l.getD k 0) = true := decide_eq_true h1
      by_cases h2 : l.getD k 0 < l.length
      · have d2 : decide (l.getD k 0 < (l.length : Int)) = true := decide_eq_true h2
        obtain ⟨w, hw⟩ : ∃ w : Nat, l.getD k 0 = w := ⟨(l.getD k 0).toNat, by omega⟩
        have hwl : w < l.length := by omega
        have hgw : l.getD (l.getD k 0).toNat 0 = l.getD w 0 := by rw [hw]; rfl
        by_cases h3 : l.getD w 0 = (k : Int)
        · have d3 : decide (l.getD w 0 = (k : Int)) = true := decide_eq_true h3
          rw [d1, d2, hgw, d3] at hup
          rw [hup] at hst
          have hps : prs l (k + 1) = prs l k ++ [((k : Int), (w : Int))] := by
            unfold prs; rw [hst, if_pos (by simp), List.map_append, ← hw]; rfl
          rw [hw] at d1 d2
          simp only [hw]
          refine wlk_sreg fun KY hKY => ?_
          simp only [go_sem, reduceIte, Nat.reduceEqDiff, Nat.reduceBEq, reduceCtorEq, Nat.reduceLT, Nat.reduceLeDiff, Nat.reduceAdd, Nat.reduceSub, Nat.reduceMul, Nat.reduceDiv, Int.reduceAdd, Int.reduceNeg, Int.reduceEq, Int.reduceLT, Int.reduceLE, c_garlandref08_Edges_r5, d1, d2, d3, ints_len, ints_get hwl, hwl]
          refine hKY _ ?_
          refine wlk_cond1 (by first | rfl | (simp only [go_sem, reduceIte, Nat.reduceEqDiff, Nat.reduceBEq, reduceCtorEq, Nat.reduceLT, Nat.reduceLeDiff, Nat.reduceAdd, Nat.reduceSub, Nat.reduceMul, Nat.reduceDiv, Int.reduceAdd, Int.reduceNeg, Int.reduceEq, Int.reduceLT, Int.reduceLE]; try simp (disch := omega) only [decide_eq_true, decide_eq_false])) ?_
          refine wlk_reg fun KY hKY => ?_
          simp only [go_sem, reduceIte, Nat.reduceEqDiff, Nat.reduceBEq, reduceCtorEq, Nat.reduceLT, Nat.reduceLeDiff, Nat.reduceAdd, Nat.reduceSub, Nat.reduceMul, Nat.reduceDiv, Int.reduceAdd, Int.reduceNeg, Int.reduceEq, Int.reduceLT, Int.reduceLE, c_garlandref08_Edges_r6, twos_len, mul2, hby, twos_snoc, ← hps, Nat.add_mul]
          refine hKY _ ?_
          repeat (first | refine hn6 _ ?_ | refine he6 _ ?_ | refine hf6 _ _ (by decide) ?_ | refine hn5 _ ?_ | refine he5 _ _ ?_ | refine hn4 _ ?_ | refine he4 _ _ ?_ | refine he3 _ _ ?_ | refine hn2 _ ?_ | refine he2 _ ?_ | refine hf2 _ _ (by decide) ?_ | refine hn1 _ ?_ | refine he1 _ _ ?_)
          refine wlk_reg fun KY hKY => ?_
          simp only [go_sem, reduceIte, Nat.reduceEqDiff, Nat.reduceBEq, reduceCtorEq, Nat.reduceLT, Nat.reduceLeDiff, Nat.reduceAdd, Nat.reduceSub, Nat.reduceMul, Nat.reduceDiv, Int.reduceAdd, Int.reduceNeg, Int.reduceEq, Int.reduceLT, Int.reduceLE, c_garlandref08_Edges_r7, incS (show k < 4611686018427387904 by omega)]
          refine hKY _ ?_
          repeat (first | refine hn6 _ ?_ | refine he6 _ ?_ | refine hf6 _ _ (by decide) ?_ | refine hn5 _ ?_ | refine he5 _ _ ?_ | refine hn4 _ ?_ | refine he4 _ _ ?_)
          refine hn3 _ (k + 1) (l.length - (k + 1)) (by omega) (by first | (simp only [go_sem, reduceIte, Nat.reduceEqDiff, Nat.reduceBEq, reduceCtorEq, Nat.reduceLT, Nat.reduceLeDiff, Nat.reduceAdd, Nat.reduceSub, Nat.reduceMul, Nat.reduceDiv, Int.reduceAdd, Int.reduceNeg, Int.reduceEq, Int.reduceLT, Int.reduceLE, updAll_cons, updAll_nil]; done) | with_reducible rfl | rfl) ?_
          exact ⟨hk2, rfl⟩
        · have d3 : decide (l.getD w 0 = (k : Int)) = false := decide_eq_false h3
          rw [d1, d2, hgw, d3] at hup
          rw [hup] at hst
          have hps : prs l (k + 1) = prs l k := by unfold prs; rw [hst, if_neg (by simp), List.append_nil]
          rw [hw] at d1 d2
          simp only [hw]
          refine wlk_sreg fun KY hKY => ?_
          simp only [go_sem, reduceIte, Nat.reduceEqDiff, Nat.reduceBEq, reduceCtorEq, Nat.reduceLT, Nat.reduceLeDiff, Nat.reduceAdd, Nat.reduceSub, Nat.reduceMul, Nat.reduceDiv, Int.reduceAdd, Int.reduceNeg, Int.reduceEq, Int.reduceLT, Int.reduceLE, c_garlandref08_Edges_r5, d1, d2, d3, ints_len, ints_get hwl, hwl]
          refine hKY _ ?_
          refine wlk_cond0 (by first | rfl | (simp only [go_sem, reduceIte, Nat.reduceEqDiff, Nat.reduceBEq, reduceCtorEq, Nat.reduceLT, Nat.reduceLeDiff, Nat.reduceAdd, Nat.reduceSub, Nat.reduceMul, Nat.reduceDiv, Int.reduceAdd, Int.reduceNeg, Int.reduceEq, Int.reduceLT, Int.reduceLE]; try simp (disch := omega) only [decide_eq_true, decide_eq_false])) ?_
          refine wlk_skip ?_
          repeat (first | refine hn6 _ ?_ | refine he6 _ ?_ | refine hf6 _ _ (by decide) ?_ | refine hn5 _ ?_ | refine he5 _ _ ?_ | refine hn4 _ ?_ | refine he4 _ _ ?_ | refine he3 _ _ ?_ | refine hn2 _ ?_ | refine he2 _ ?_ | refine hf2 _ _ (by decide) ?_ | refine hn1 _ ?_ | refine he1 _ _ ?_)
          refine wlk_reg fun KY hKY => ?_
          simp only [go_sem, reduceIte, Nat.reduceEqDiff, Nat.reduceBEq, reduceCtorEq, Nat.reduceLT, Nat.reduceLeDiff, Nat.reduceAdd, Nat.reduceSub, Nat.reduceMul, Nat.reduceDiv, Int.reduceAdd, Int.reduceNeg, Int.reduceEq, Int.reduceLT, Int.reduceLE, c_garlandref08_Edges_r7, incS (show k < 4611686018427387904 by omega)]
          refine hKY _ ?_
          repeat (first | refine hn6 _ ?_ | refine he6 _ ?_ | refine hf6 _ _ (by decide) ?_ | refine hn5 _ ?_ | refine he5 _ _ ?_ | refine hn4 _ ?_ | refine he4 _ _ ?_)
          refine hn3 _ (k + 1) (l.length - (k + 1)) (by omega) (by first | (simp only [go_sem, reduceIte, Nat.reduceEqDiff, Nat.reduceBEq, reduceCtorEq, Nat.reduceLT, Nat.reduceLeDiff, Nat.reduceAdd, Nat.reduceSub, Nat.reduceMul, Nat.reduceDiv, Int.reduceAdd, Int.reduceNeg, Int.reduceEq, Int.reduceLT, Int.reduceLE, updAll_cons, updAll_nil, hps]; done) | with_reducible rfl | rfl) ?_
          exact ⟨hk2, rfl⟩
      · have d2 : decide (l.getD k 0 < (l.length : Int)) = false := decide_eq_false h2
        rw [d1, d2] at hup
        rw [hup] at hst
        have hps : prs l (k + 1) = prs l k := by unfold prs; rw [hst, if_neg (by simp), List.append_nil]
        refine wlk_sreg fun KY hKY => ?_
        simp only [go_sem, reduceIte, Nat.reduceEqDiff, Nat.reduceBEq, reduceCtorEq, Nat.reduceLT, Nat.reduceLeDiff, Nat.reduceAdd, Nat.reduceSub, Nat.reduceMul, Nat.reduceDiv, Int.reduceAdd, Int.reduceNeg, Int.reduceEq, Int.reduceLT, Int.reduceLE, c_garlandref08_Edges_r5, d1, d2, ints_len]
        refine hKY _ ?_
        refine wlk_cond0 (by first | rfl | (simp only [go_sem, reduceIte, Nat.reduceEqDiff, Nat.reduceBEq, reduceCtorEq, Nat.reduceLT, Nat.reduceLeDiff, Nat.reduceAdd, Nat.reduceSub, Nat.reduceMul, Nat.reduceDiv, Int.reduceAdd, Int.reduceNeg, Int.reduceEq, Int.reduceLT, Int.reduceLE]; try simp (disch := omega) only [decide_eq_true, decide_eq_false])) ?_
        refine wlk_skip ?_
        repeat (first | refine hn6 _ ?_ | refine he6 _ ?_ | refine hf6 _ _ (by decide) ?_ | refine hn5 _ ?_ | refine he5 _ _ ?_ | refine hn4 _ ?_ | refine he4 _ _ ?_ | refine he3 _ _ ?_ | refine hn2 _ ?_ | refine he2 _ ?_ | refine hf2 _ _ (by decide) ?_ | refine hn1 _ ?_ | refine he1 _ _ ?_)
        refine wlk_reg fun KY hKY => ?_
        simp only [go_sem, reduceIte, Nat.reduceEqDiff, Nat.reduceBEq, reduceCtorEq, Nat.reduceLT, Nat.reduceLeDiff, Nat.reduceAdd, Nat.reduceSub, Nat.reduceMul, Nat.reduceDiv, Int.reduceAdd, Int.reduceNeg, Int.reduceEq, Int.reduceLT, Int.reduceLE, c_garlandref08_Edges_r7, incS (show k < 4611686018427387904 by omega)]
        refine hKY _ ?_
        repeat (first | refine hn6 _ ?_ | refine he6 _ ?_ | refine hf6 _ _ (by decide) ?_ | refine hn5 _ ?_ | refine he5 _ _ ?_ | refine hn4 _ ?_ | refine he4 _ _ ?_)
        refine hn3 _ (k + 1) (l.length - (k + 1)) (by omega) (by first | (simp only [go_sem, reduceIte, Nat.reduceEqDiff, Nat.reduceBEq, reduceCtorEq, Nat.reduceLT, Nat.reduceLeDiff, Nat.reduceAdd, Nat.reduceSub, Nat.reduceMul, Nat.reduceDiv, Int.reduceAdd, Int.reduceNeg, Int.reduceEq, Int.reduceLT, Int.reduceLE, updAll_cons, updAll_nil, hps]; done) | with_reducible rfl | rfl) ?_
        exact ⟨hk2, rfl⟩
    · have d1 : decide ((k : Int) < l.getD k 0) = false := decide_eq_false h1
      rw [d1] at hup
      rw [hup] at hst
      have hps : prs l (k + 1) = prs l k := by unfold prs; rw [hst, if_neg (by simp), List.append_nil]
      refine wlk_sreg fun KY hKY => ?_
      simp only [go_sem, reduceIte, Nat.reduceEqDiff, Nat.reduceBEq, reduceCtorEq, Nat.reduceLT, Nat.reduceLeDiff, Nat.reduceAdd, Nat.reduceSub, Nat.reduceMul, Nat.reduceDiv, Int.reduceAdd, Int.reduceNeg, Int.reduceEq, Int.reduceLT, Int.reduceLE, c_garlandref08_Edges_r5, d1]
      refine hKY _ ?_
      refine wlk_cond0 (by first | rfl | (simp only [go_sem, reduceIte, Nat.reduceEqDiff, Nat.reduceBEq, reduceCtorEq, Nat.reduceLT, Nat.reduceLeDiff, Nat.reduceAdd, Nat.reduceSub, Nat.reduceMul, Nat.reduceDiv, Int.reduceAdd, Int.reduceNeg, Int.reduceEq, Int.reduceLT, Int.reduceLE]; try simp (disch := omega) only [decide_eq_true, decide_eq_false])) ?_
      refine wlk_skip ?_
      repeat (first | refine hn6 _ ?_ | refine he6 _ ?_ | refine hf6 _ _ (by decide) ?_ | refine hn5 _ ?_ | refine he5 _ _ ?_ | refine hn4 _ ?_ | refine he4 _ _ ?_ | refine he3 _ _ ?_ | refine hn2 _ ?_ | refine he2 _ ?_ | refine hf2 _ _ (by decide) ?_ | refine hn1 _ ?_ | refine he1 _ _ ?_)
      refine wlk_reg fun KY hKY => ?_
      simp only [go_sem, reduceIte, Nat.reduceEqDiff, Nat.reduceBEq, reduceCtorEq, Nat.reduceLT, Nat.reduceLeDiff, Nat.reduceAdd, Nat.reduceSub, Nat.reduceMul, Nat.reduceDiv, Int.reduceAdd, Int.reduceNeg, Int.reduceEq, Int.reduceLT, Int.reduceLE, c_garlandref08_Edges_r7, incS (show k < 4611686018427387904 by omega)]
      refine hKY _ ?_
      repeat (first | refine hn6 _ ?_ | refine he6 _ ?_ | refine hf6 _ _ (by decide) ?_ | refine hn5 _ ?_ | refine he5 _ _ ?_ | refine hn4 _ ?_ | refine he4 _ _ ?_)
      refine hn3 _ (k + 1) (l.length - (k + 1)) (by omega) (by first | (simp only [go_sem, reduceIte, Nat.reduceEqDiff, Nat.reduceBEq, reduceCtorEq, Nat.reduceLT, Nat.reduceLeDiff, Nat.reduceAdd, Nat.reduceSub, Nat.reduceMul, Nat.reduceDiv, Int.reduceAdd, Int.reduceNeg, Int.reduceEq, Int.reduceLT, Int.reduceLE, updAll_cons, updAll_nil, hps]; done) | with_reducible rfl | rfl) ?_
      exact ⟨hk2, rfl⟩
  refine wlk_sreg fun KY hKY => ?_
  simp only [go_sem, reduceIte, Nat.reduceEqDiff, Nat.reduceBEq, reduceCtorEq, Nat.reduceLT, Nat.reduceLeDiff, Nat.reduceAdd, Nat.reduceSub, Nat.reduceMul, Nat.reduceDiv, Int.reduceAdd, Int.reduceNeg, Int.reduceEq, Int.reduceLT, Int.reduceLE, c_garlandref08_Edges_r3, ints_len]
  refine hKY _ ?_
  refine wlk_cond0 (by first | rfl | (simp only [go_sem, reduceIte, Nat.reduceEqDiff, Nat.reduceBEq, reduceCtorEq, Nat.reduceLT, Nat.reduceLeDiff, Nat.reduceAdd, Nat.reduceSub, Nat.reduceMul, Nat.reduceDiv, Int.reduceAdd, Int.reduceNeg, Int.reduceEq, Int.reduceLT, Int.reduceLE]; try simp (disch := omega) only [decide_eq_true, decide_eq_false])) ?_
  refine wlk_exit ?_
  repeat (first | refine hn4 _ ?_ | refine he4 _ _ ?_ | refine he3 _ _ ?_ | refine hn2 _ ?_ | refine he2 _ ?_ | refine hf2 _ _ (by decide) ?_ | refine hn1 _ ?_ | refine he1 _ _ ?_)
  obtain rfl : k = l.length := by omega
  refine wlk_sreg fun KY hKY => ?_
  simp only [go_sem, reduceIte, Nat.reduceEqDiff, Nat.reduceBEq, reduceCtorEq, Nat.reduceLT, Nat.reduceLeDiff, Nat.reduceAdd, Nat.reduceSub, Nat.reduceMul, Nat.reduceDiv, Int.reduceAdd, Int.reduceNeg, Int.reduceEq, Int.reduceLT, Int.reduceLE, c_garlandref08_Edges_r8]
  refine hKY _ ?_
  refine wlk_ret ?_
  repeat (first | refine hr4 _ ?_ | refine hr3 _ ?_ | refine hr2 _ ?_ | refine hr1 _ ?_)
  simp only [go_sem, reduceIte, Nat.reduceEqDiff, Nat.reduceBEq, reduceCtorEq, Nat.reduceLT, Nat.reduceLeDiff, Nat.reduceAdd, Nat.reduceSub, Nat.reduceMul, Nat.reduceDiv, Int.reduceAdd, Int.reduceNeg, Int.reduceEq, Int.reduceLT, Int.reduceLE]
theorem r8size_ok (l : List Int) (hl : l.length ≤ 1000000000) : ACalls Try.prog [] n_garlandref08_Size [.imm 1 (ints l)] [] fun r h' => r = .sc (.int .i64 ((sel (upP l) l.length).length : Nat)) ∧ h' = [] := by
  refine go_garlandref08_Size rfl ?_
  unfold c_garlandref08_Size v_garlandref08_Size
  refine wlk_sreg fun KY hKY => ?_
  simp only [go_sem, reduceIte, Nat.reduceEqDiff, Nat.reduceBEq, reduceCtorEq, Nat.reduceLT, Nat.reduceLeDiff, Nat.reduceAdd, Nat.reduceSub, Nat.reduceMul, Nat.reduceDiv, Int.reduceAdd, Int.reduceNeg, Int.reduceEq, Int.reduceLT, Int.reduceLE, c_garlandref08_Size_r0]
  refine hKY _ ?_
  refine wlk_sreg fun KY hKY => ?_
  simp only [go_sem, reduceIte, Nat.reduceEqDiff, Nat.reduceBEq, reduceCtorEq, Nat.reduceLT, Nat.reduceLeDiff, Nat.reduceAdd, Nat.reduceSub, Nat.reduceMul, Nat.reduceDiv, Int.reduceAdd, Int.reduceNeg, Int.reduceEq, Int.reduceLT, Int.reduceLE, c_garlandref08_Size_r1]
  refine call_view rfl (by simp only [go_sem, reduceIte, Nat.reduceEqDiff, Nat.reduceBEq, reduceCtorEq, Nat.reduceLT, Nat.reduceLeDiff, Nat.reduceAdd, Nat.reduceSub, Nat.reduceMul, Nat.reduceDiv, Int.reduceAdd, Int.reduceNeg, Int.reduceEq, Int.reduceLT, Int.reduceLE] <;> rfl) ((r8edges_ok l hl).mono ?_)
  rintro rr hh ⟨rfl, rfl⟩
  refine ⟨?_, ?_, ?_, ?_⟩
  iterate 3 (first | rfl | simp only [go_sem, reduceIte, Nat.reduceEqDiff, Nat.reduceBEq, reduceCtorEq, Nat.reduceLT, Nat.reduceLeDiff, Nat.reduceAdd, Nat.reduceSub, Nat.reduceMul, Nat.reduceDiv, Int.reduceAdd, Int.reduceNeg, Int.reduceEq, Int.reduceLT, Int.reduceLE])
  simp only [go_sem, reduceIte, Nat.reduceEqDiff, Nat.reduceBEq, reduceCtorEq, Nat.reduceLT, Nat.reduceLeDiff, Nat.reduceAdd, Nat.reduceSub, Nat.reduceMul, Nat.reduceDiv, Int.reduceAdd, Int.reduceNeg, Int.reduceEq, Int.reduceLT, Int.reduceLE, twos_len, mul2, prs_len]
  refine hKY _ ?_
  refine wlk_ret ?_
  simp only [go_sem, reduceIte, Nat.reduceEqDiff, Nat.reduceBEq, reduceCtorEq, Nat.reduceLT, Nat.reduceLeDiff, Nat.reduceAdd, Nat.reduceSub, Nat.reduceMul, Nat.reduceDiv, Int.reduceAdd, Int.reduceNeg, Int.reduceEq, Int.reduceLT, Int.reduceLE]
end Go.Proofs.Ytoefhbfgmceikaa
set_option maxRecDepth 100000
set_option maxHeartbeats 2000000
namespace Go.Proofs.Ytoefhbfgmceikaa
open Go Go.Ga Go.Ga.Gl
theorem clone_ok (l : List Int) (hl : l.length ≤ 1000000000) : ACalls Try.prog [] n_slices_Clone___int_int_ [.imm 1 (ints l)] [] fun r h' => r = .own (some 1) (ints l) ∧ h' = [] := by
  have hby : l.length * 8 ≤ 140737488355328 := by omega
  refine go_slices_Clone___int_int_ rfl ?_
  unfold c_slices_Clone___int_int_ v_slices_Clone___int_int_
  refine wlk_sreg fun KY hKY => ?_
  simp only [go_sem, reduceIte, Nat.reduceEqDiff, Nat.reduceBEq, reduceCtorEq, Nat.reduceLT, Nat.reduceLeDiff, Nat.reduceAdd, Nat.reduceSub, Nat.reduceMul, Nat.reduceDiv, Int.reduceAdd, Int.reduceNeg, Int.reduceEq, Int.reduceLT, Int.reduceLE, c_slices_Clone___int_int__r0]
  refine hKY _ ?_
  refine wlk_seq fun X1 hn1 he1 hr1 => ?_
  cases l with
  | nil =>
    refine wlk_sreg fun KY hKY => ?_
    simp only [go_sem, reduceIte, Nat.reduceEqDiff, Nat.reduceBEq, reduceCtorEq, Nat.reduceLT, Nat.reduceLeDiff, Nat.reduceAdd, Nat.reduceSub, Nat.reduceMul, Nat.reduceDiv, Int.reduceAdd, Int.reduceNeg, Int.reduceEq, Int.reduceLT, Int.reduceLE, c_slices_Clone___int_int__r1, ints, List.map_nil]
    refine ⟨hKY _ ?_, hKY _ ?_⟩
    · refine wlk_cond1 (by first | rfl | (simp only [go_sem, reduceIte, Nat.reduceEqDiff, Nat.reduceBEq, reduceCtorEq, Nat.reduceLT, Nat.reduceLeDiff, Nat.reduceAdd, Nat.reduceSub, Nat.reduceMul, Nat.reduceDiv, Int.reduceAdd, Int.reduceNeg, Int.reduceEq, Int.reduceLT, Int.reduceLE]; try simp (disch := omega) only [decide_eq_true, decide_eq_false])) ?_
      refine wlk_sreg fun KY hKY => ?_
      simp only [go_sem, reduceIte, Nat.reduceEqDiff, Nat.reduceBEq, reduceCtorEq, Nat.reduceLT, Nat.reduceLeDiff, Nat.reduceAdd, Nat.reduceSub, Nat.reduceMul, Nat.reduceDiv, Int.reduceAdd, Int.reduceNeg, Int.reduceEq, Int.reduceLT, Int.reduceLE, c_slices_Clone___int_int__r2]
      refine hKY _ ?_
      refine sem_nil [0, 2] 1 (by simp only [go_sem, reduceIte, Nat.reduceEqDiff, Nat.reduceBEq, reduceCtorEq, Nat.reduceLT, Nat.reduceLeDiff, Nat.reduceAdd, Nat.reduceSub, Nat.reduceMul, Nat.reduceDiv, Int.reduceAdd, Int.reduceNeg, Int.reduceEq, Int.reduceLT, Int.reduceLE]) ?_
      simp only [go_sem, reduceIte, Nat.reduceEqDiff, Nat.reduceBEq, reduceCtorEq, Nat.reduceLT, Nat.reduceLeDiff, Nat.reduceAdd, Nat.reduceSub, Nat.reduceMul, Nat.reduceDiv, Int.reduceAdd, Int.reduceNeg, Int.reduceEq, Int.reduceLT, Int.reduceLE]
      refine wlk_ret ?_
      repeat (first | refine hr1 _ ?_)
      simp only [go_sem, reduceIte, Nat.reduceEqDiff, Nat.reduceBEq, reduceCtorEq, Nat.reduceLT, Nat.reduceLeDiff, Nat.reduceAdd, Nat.reduceSub, Nat.reduceMul, Nat.reduceDiv, Int.reduceAdd, Int.reduceNeg, Int.reduceEq, Int.reduceLT, Int.reduceLE]
      rfl
    · refine wlk_cond0 (by first | rfl | (simp only [go_sem, reduceIte, Nat.reduceEqDiff, Nat.reduceBEq, reduceCtorEq, Nat.reduceLT, Nat.reduceLeDiff, Nat.reduceAdd, Nat.reduceSub, Nat.reduceMul, Nat.reduceDiv, Int.reduceAdd, Int.reduceNeg, Int.reduceEq, Int.reduceLT, Int.reduceLE]; try simp (disch := omega) only [decide_eq_true, decide_eq_false])) ?_
      refine wlk_skip ?_
      repeat (first | refine hn1 _ ?_ | refine he1 _ _ ?_)
      refine wlk_sreg fun KY hKY => ?_
      simp only [go_sem, reduceIte, Nat.reduceEqDiff, Nat.reduceBEq, reduceCtorEq, Nat.reduceLT, Nat.reduceLeDiff, Nat.reduceAdd, Nat.reduceSub, Nat.reduceMul, Nat.reduceDiv, Int.reduceAdd, Int.reduceNeg, Int.reduceEq, Int.reduceLT, Int.reduceLE, c_slices_Clone___int_int__r3, (show zeroCellsA [Value.int IntKind.i64 0] 0 = [] from rfl)]
      refine hKY _ ?_
      refine wlk_ret ?_
      repeat (first | refine hr1 _ ?_)
      simp only [go_sem, reduceIte, Nat.reduceEqDiff, Nat.reduceBEq, reduceCtorEq, Nat.reduceLT, Nat.reduceLeDiff, Nat.reduceAdd, Nat.reduceSub, Nat.reduceMul, Nat.reduceDiv, Int.reduceAdd, Int.reduceNeg, Int.reduceEq, Int.reduceLT, Int.reduceLE]
      rfl
  | cons x l =>
    rw [List.length_cons] at hby
    refine wlk_sreg fun KY hKY => ?_
    simp only [go_sem, reduceIte, Nat.reduceEqDiff, Nat.reduceBEq, reduceCtorEq, Nat.reduceLT, Nat.reduceLeDiff, Nat.reduceAdd, Nat.reduceSub, Nat.reduceMul, Nat.reduceDiv, Int.reduceAdd, Int.reduceNeg, Int.reduceEq, Int.reduceLT, Int.reduceLE, c_slices_Clone___int_int__r1]
    refine hKY _ ?_
    refine wlk_cond0 (by first | rfl | (simp only [go_sem, reduceIte, Nat.reduceEqDiff, Nat.reduceBEq, reduceCtorEq, Nat.reduceLT, Nat.reduceLeDiff, Nat.reduceAdd, Nat.reduceSub, Nat.reduceMul, Nat.reduceDiv, Int.reduceAdd, Int.reduceNeg, Int.reduceEq, Int.reduceLT, Int.reduceLE]; try simp (disch := omega) only [decide_eq_true, decide_eq_false])) ?_
    refine wlk_skip ?_
    repeat (first | refine hn1 _ ?_ | refine he1 _ _ ?_)
    refine wlk_sreg fun KY hKY => ?_
    simp only [go_sem, reduceIte, Nat.reduceEqDiff, Nat.reduceBEq, reduceCtorEq, Nat.reduceLT, Nat.reduceLeDiff, Nat.reduceAdd, Nat.reduceSub, Nat.reduceMul, Nat.reduceDiv, Int.reduceAdd, Int.reduceNeg, Int.reduceEq, Int.reduceLT, Int.reduceLE, c_slices_Clone___int_int__r3, (show zeroCellsA [Value.int IntKind.i64 0] 0 = [] from rfl), hby]
    refine hKY _ ?_
    refine wlk_ret ?_
    repeat (first | refine hr1 _ ?_)
    simp only [go_sem, reduceIte, Nat.reduceEqDiff, Nat.reduceBEq, reduceCtorEq, Nat.reduceLT, Nat.reduceLeDiff, Nat.reduceAdd, Nat.reduceSub, Nat.reduceMul, Nat.reduceDiv, Int.reduceAdd, Int.reduceNeg, Int.reduceEq, Int.reduceLT, Int.reduceLE]
theorem edge_ok (a b : Int) : ACalls Try.prog [] n_graph_edge [.sc (.int .i64 a), .sc (.int .i64 b)] [] fun r h' => r = .agg (two (turnI a b)) ∧ h' = [] := by
  have e : two (turnI a b) = [.sc (.int .i64 (min a b)), .sc (.int .i64 (max a b))] := by
    unfold turnI
    split
    · rw [two_mk, show min a b = b by omega, show max a b = a by omega]
    · rw [two_mk, show min a b = a by omega, show max a b = b by omega]
  rw [e]
  refine go_graph_edge rfl ?_
  unfold c_graph_edge v_graph_edge
  refine wlk_sreg fun KY hKY => ?_
  simp only [go_sem, reduceIte, Nat.reduceEqDiff, Nat.reduceBEq, reduceCtorEq, Nat.reduceLT, Nat.reduceLeDiff, Nat.reduceAdd, Nat.reduceSub, Nat.reduceMul, Nat.reduceDiv, Int.reduceAdd, Int.reduceNeg, Int.reduceEq, Int.reduceLT, Int.reduceLE, c_graph_edge_r0]
  refine hKY _ ?_
  refine wlk_sreg fun KY hKY => ?_
  simp only [go_sem, reduceIte, Nat.reduceEqDiff, Nat.reduceBEq, reduceCtorEq, Nat.reduceLT, Nat.reduceLeDiff, Nat.reduceAdd, Nat.reduceSub, Nat.reduceMul, Nat.reduceDiv, Int.reduceAdd, Int.reduceNeg, Int.reduceEq, Int.reduceLT, Int.reduceLE, c_graph_edge_r1]
  refine hKY _ ?_
  refine wlk_ret ?_
  simp only [go_sem, reduceIte, Nat.reduceEqDiff, Nat.reduceBEq, reduceCtorEq, Nat.reduceLT, Nat.reduceLeDiff, Nat.reduceAdd, Nat.reduceSub, Nat.reduceMul, Nat.reduceDiv, Int.reduceAdd, Int.reduceNeg, Int.reduceEq, Int.reduceLT, Int.reduceLE]
def Ris (es : List (Int × Int)) : Prop := ∀ (i j : Nat) (x y : Int × Int), es[i]? = some x → es[j]? = some y → i < j → cmpE x y < 0
theorem ris_of {n : Int} {es : List (Int × Int)} (h : rightB n es = true) : Ris es := by
  obtain ⟨N, es', rfl, rfl, g⟩ := right_nat h
  intro i j x y hx hy hij
  rw [cmpE_lt]
  unfold castE at hx hy
  rw [List.getElem?_map] at hx hy
  obtain ⟨x', hx', rfl⟩ := Option.map_eq_some_iff.1 hx
  obtain ⟨y', hy', rfl⟩ := Option.map_eq_some_iff.1 hy
  obtain ⟨hi, rfl⟩ := List.getElem?_eq_some_iff.1 hx'
  obtain ⟨hj, rfl⟩ := List.getElem?_eq_some_iff.1 hy'
  have := List.pairwise_iff_getElem.1 g.up i j hi hj hij
  unfold lexlt at this
  simp only; omega
theorem cmpE_anti (a b : Int × Int) : cmpE a b = - cmpE b a := by
  unfold cmpE cmpI
  repeat' split
  all_goals omega
theorem cmpE_trans {a b c : Int × Int} (h1 : cmpE a b < 0) (h2 : cmpE b c < 0) : cmpE a c < 0 := by
  rw [cmpE_lt] at *; omega
theorem bsearch_ok (es : List (Int × Int)) (t : Int × Int) (hr : Ris es) (hl : es.length ≤ 65536) : ACalls Try.prog [] n_slices_BinarySearchFunc___api_Edge_api_Edge_api_Edge_ [.imm 2 (twos es), .agg (two t), .fn (.func n_graph_order_compare) [.agg []] []] [] fun r h' => (∃ k : Nat, r = .tup [.sc (.int .i64 (k : Int)), .sc (.bool (decide (t ∈ es)))]) ∧ h' = [] := by
  refine ACalls.trim ?_
  obtain ⟨ta, tb⟩ := t
  simp only [two_mk]
  refine go_slices_BinarySearchFunc___api_Edge_api_Edge_api_Edge_ rfl ?_
  unfold c_slices_BinarySearchFunc___api_Edge_api_Edge_api_Edge_ v_slices_BinarySearchFunc___api_Edge_api_Edge_api_Edge_
  refine wlk_sreg fun KY hKY => ?_
  simp only [go_sem, reduceIte, Nat.reduceEqDiff, Nat.reduceBEq, reduceCtorEq, Nat.reduceLT, Nat.reduceLeDiff, Nat.reduceAdd, Nat.reduceSub, Nat.reduceMul, Nat.reduceDiv, Int.reduceAdd, Int.reduceNeg, Int.reduceEq, Int.reduceLT, Int.reduceLE, c_slices_BinarySearchFunc___api_Edge_api_Edge_api_Edge__r0]
  refine hKY _ ?_
  refine wlk_sreg fun KY hKY => ?_
  simp only [go_sem, reduceIte, Nat.reduceEqDiff, Nat.reduceBEq, reduceCtorEq, Nat.reduceLT, Nat.reduceLeDiff, Nat.reduceAdd, Nat.reduceSub, Nat.reduceMul, Nat.reduceDiv, Int.reduceAdd, Int.reduceNeg, Int.reduceEq, Int.reduceLT, Int.reduceLE, c_slices_BinarySearchFunc___api_Edge_api_Edge_api_Edge__r1, twos_len, mul2]
  refine hKY _ ?_
  refine wlk_sreg fun KY hKY => ?_
  simp only [go_sem, reduceIte, Nat.reduceEqDiff, Nat.reduceBEq, reduceCtorEq, Nat.reduceLT, Nat.reduceLeDiff, Nat.reduceAdd, Nat.reduceSub, Nat.reduceMul, Nat.reduceDiv, Int.reduceAdd, Int.reduceNeg, Int.reduceEq, Int.reduceLT, Int.reduceLE, c_slices_BinarySearchFunc___api_Edge_api_Edge_api_Edge__r2]
  refine hKY _ ?_
  refine wlk_seq fun X1 hn1 he1 hr1 => ?_
  refine wlk_blk fun X2 hn2 he2 hf2 hr2 => ?_
  try simp only [go_sem, reduceIte, Nat.reduceEqDiff, Nat.reduceBEq, reduceCtorEq, Nat.reduceLT, Nat.reduceLeDiff, Nat.reduceAdd, Nat.reduceSub, Nat.reduceMul, Nat.reduceDiv, Int.reduceAdd, Int.reduceNeg, Int.reduceEq, Int.reduceLT, Int.reduceLE]
  refine wlk_lp (α := Nat × Nat) [11, 17, 31] (fun (i, j) => [(9, .sc (.int .i64 (i : Int))), (10, .sc (.int .i64 (j : Int)))]) (fun (i, j) => []) (fun (i, j) q => i ≤ j ∧ j ≤ es.length ∧ q = j - i ∧ (∀ k x, es[k]? = some x → k < i → cmpE x (ta, tb) < 0) ∧ (∀ k x, es[k]? = some x → j ≤ k → 0 ≤ cmpE x (ta, tb))) ((0, es.length)) (es.length) rfl (by first | (simp only [go_sem, reduceIte, Nat.reduceEqDiff, Nat.reduceBEq, reduceCtorEq, Nat.reduceLT, Nat.reduceLeDiff, Nat.reduceAdd, Nat.reduceSub, Nat.reduceMul, Nat.reduceDiv, Int.reduceAdd, Int.reduceNeg, Int.reduceEq, Int.reduceLT, Int.reduceLE, updAll_cons, updAll_nil]; done) | with_reducible rfl | rfl) (⟨by omega, by omega, rfl, fun k x _ h => by omega, fun k x hx h => by have := (List.getElem?_eq_some_iff.1 hx).1; omega⟩) ?_
  rintro ⟨i, j⟩ q ⟨hij, hjl, rfl, h1, h2⟩ X3 hn3 he3 hr3
  simp only [go_sem, reduceIte, Nat.reduceEqDiff, Nat.reduceBEq, reduceCtorEq, Nat.reduceLT, Nat.reduceLeDiff, Nat.reduceAdd, Nat.reduceSub, Nat.reduceMul, Nat.reduceDiv, Int.reduceAdd, Int.reduceNeg, Int.reduceEq, Int.reduceLT, Int.reduceLE, updAll_cons, updAll_nil]
  refine wlk_seq fun X4 hn4 he4 hr4 => ?_
  by_cases hlt : i < j
  · refine wlk_sreg fun KY hKY => ?_
    simp only [go_sem, reduceIte, Nat.reduceEqDiff, Nat.reduceBEq, reduceCtorEq, Nat.reduceLT, Nat.reduceLeDiff, Nat.reduceAdd, Nat.reduceSub, Nat.reduceMul, Nat.reduceDiv, Int.reduceAdd, Int.reduceNeg, Int.reduceEq, Int.reduceLT, Int.reduceLE, c_slices_BinarySearchFunc___api_Edge_api_Edge_api_Edge__r3]
    refine hKY _ ?_
    refine wlk_cond1 (by first | rfl | (simp only [go_sem, reduceIte, Nat.reduceEqDiff, Nat.reduceBEq, reduceCtorEq, Nat.reduceLT, Nat.reduceLeDiff, Nat.reduceAdd, Nat.reduceSub, Nat.reduceMul, Nat.reduceDiv, Int.reduceAdd, Int.reduceNeg, Int.reduceEq, Int.reduceLT, Int.reduceLE]; try simp (disch := omega) only [decide_eq_true, decide_eq_false])) ?_
    refine wlk_skip ?_
    repeat (first | refine hn4 _ ?_ | refine he4 _ _ ?_ | refine he3 _ _ ?_ | refine hn2 _ ?_ | refine he2 _ ?_ | refine hf2 _ _ (by decide) ?_ | refine hn1 _ ?_ | refine he1 _ _ ?_)
    refine wlk_blk fun X5 hn5 he5 hf5 hr5 => ?_
    have hs : IntKind.i64.wrap ((i : Int) + (j : Int)) = (i : Int) + (j : Int) := by rw [IntWalk.i64_in _ (by omega)]
    have hs2 : IntKind.u64.wrap ((i : Int) + (j : Int)) = (i : Int) + (j : Int) := by rw [IntKind.wrap_u64]; omega
    obtain ⟨h, hh⟩ : ∃ h : Nat, h = (i + j) / 2 := ⟨_, rfl⟩
    have hsh : shiftBin .shr .u64 ((i : Int) + (j : Int)) 1 = some (.int .u64 (h : Int)) := by
      show some (Value.int .u64 (((i : Int) + (j : Int)).fdiv 2)) = _
      rw [Int.fdiv_eq_ediv_of_nonneg _ (by decide)]
      rw [show ((i : Int) + (j : Int)) / 2 = (h : Int) by omega]
    have hs3 : IntKind.i64.wrap (h : Int) = (h : Int) := by rw [IntWalk.i64_in _ (by omega)]
    refine wlk_sreg fun KY hKY => ?_
    simp only [go_sem, reduceIte, Nat.reduceEqDiff, Nat.reduceBEq, reduceCtorEq, Nat.reduceLT, Nat.reduceLeDiff, Nat.reduceAdd, Nat.reduceSub, Nat.reduceMul, Nat.reduceDiv, Int.reduceAdd, Int.reduceNeg, Int.reduceEq, Int.reduceLT, Int.reduceLE, c_slices_BinarySearchFunc___api_Edge_api_Edge_api_Edge__r4, hs, hs2, hsh, hs3]
    refine hKY _ ?_
    have hhl : h < es.length := by omega
    have hx : es[h]? = some es[h] := List.getElem?_eq_getElem hhl
    generalize es[h] = x at hx
    obtain ⟨a, b⟩ := x
    refine wlk_sdraw fun KY hKY => ?_
    simp only [go_sem, reduceIte, Nat.reduceEqDiff, Nat.reduceBEq, reduceCtorEq, Nat.reduceLT, Nat.reduceLeDiff, Nat.reduceAdd, Nat.reduceSub, Nat.reduceMul, Nat.reduceDiv, Int.reduceAdd, Int.reduceNeg, Int.reduceEq, Int.reduceLT, Int.reduceLE, c_slices_BinarySearchFunc___api_Edge_api_Edge_api_Edge__r5, two_cells hx, List.length_drop, twos_len]
    repeat (simp (disch := omega) only [if_pos, if_neg, decide_eq_true, decide_eq_false, incS, nats_get, ints_get, two_cells hx, List.length_drop, twos_len]; try simp only [go_sem, reduceIte, Nat.reduceEqDiff, Nat.reduceBEq, reduceCtorEq, Nat.reduceLT, Nat.reduceLeDiff, Nat.reduceAdd, Nat.reduceSub, Nat.reduceMul, Nat.reduceDiv, Int.reduceAdd, Int.reduceNeg, Int.reduceEq, Int.reduceLT, Int.reduceLE, two_cells hx, List.length_drop, twos_len])
    refine call_view rfl (by simp only [go_sem, reduceIte, Nat.reduceEqDiff, Nat.reduceBEq, reduceCtorEq, Nat.reduceLT, Nat.reduceLeDiff, Nat.reduceAdd, Nat.reduceSub, Nat.reduceMul, Nat.reduceDiv, Int.reduceAdd, Int.reduceNeg, Int.reduceEq, Int.reduceLT, Int.reduceLE] <;> rfl) ((ocompare_ok (a, b) (ta, tb)).mono ?_)
    rintro rr hh ⟨rfl, rfl⟩
    refine ⟨rfl, rfl, rfl, ?_⟩
    simp only [go_sem, reduceIte, Nat.reduceEqDiff, Nat.reduceBEq, reduceCtorEq, Nat.reduceLT, Nat.reduceLeDiff, Nat.reduceAdd, Nat.reduceSub, Nat.reduceMul, Nat.reduceDiv, Int.reduceAdd, Int.reduceNeg, Int.reduceEq, Int.reduceLT, Int.reduceLE]
    refine hKY _ ?_
    by_cases hc : cmpE (a, b) (ta, tb) < 0
    · refine wlk_cond1 (by first | rfl | (simp only [go_sem, reduceIte, Nat.reduceEqDiff, Nat.reduceBEq, reduceCtorEq, Nat.reduceLT, Nat.reduceLeDiff, Nat.reduceAdd, Nat.reduceSub, Nat.reduceMul, Nat.reduceDiv, Int.reduceAdd, Int.reduceNeg, Int.reduceEq, Int.reduceLT, Int.reduceLE]; try simp (disch := omega) only [decide_eq_true, decide_eq_false])) ?_
      refine wlk_reg fun KY hKY => ?_
      simp only [go_sem, reduceIte, Nat.reduceEqDiff, Nat.reduceBEq, reduceCtorEq, Nat.reduceLT, Nat.reduceLeDiff, Nat.reduceAdd, Nat.reduceSub, Nat.reduceMul, Nat.reduceDiv, Int.reduceAdd, Int.reduceNeg, Int.reduceEq, Int.reduceLT, Int.reduceLE, c_slices_BinarySearchFunc___api_Edge_api_Edge_api_Edge__r6, incS (show h < 4611686018427387904 by omega)]
      refine hKY _ ?_
      repeat (first | refine hn5 _ ?_ | refine he5 _ ?_ | refine hf5 _ _ (by decide) ?_ | refine hn4 _ ?_ | refine he4 _ _ ?_)
      refine hn3 _ ((h + 1, j)) (j - (h + 1)) (by omega) (by first | (simp only [go_sem, reduceIte, Nat.reduceEqDiff, Nat.reduceBEq, reduceCtorEq, Nat.reduceLT, Nat.reduceLeDiff, Nat.reduceAdd, Nat.reduceSub, Nat.reduceMul, Nat.reduceDiv, Int.reduceAdd, Int.reduceNeg, Int.reduceEq, Int.reduceLT, Int.reduceLE, updAll_cons, updAll_nil]; done) | with_reducible rfl | rfl) ?_
      refine ⟨by omega, hjl, rfl, fun k y hy hk => ?_, h2⟩
      rcases Nat.lt_or_ge k h with hkh | hkh
      · exact cmpE_trans (hr k h y (a, b) hy hx hkh) hc
      · obtain rfl : k = h := by omega
        rw [hx] at hy; cases hy; exact hc
    · refine wlk_cond0 (by first | rfl | (simp only [go_sem, reduceIte, Nat.reduceEqDiff, Nat.reduceBEq, reduceCtorEq, Nat.reduceLT, Nat.reduceLeDiff, Nat.reduceAdd, Nat.reduceSub, Nat.reduceMul, Nat.reduceDiv, Int.reduceAdd, Int.reduceNeg, Int.reduceEq, Int.reduceLT, Int.reduceLE]; try simp (disch := omega) only [decide_eq_true, decide_eq_false])) ?_
      refine wlk_reg fun KY hKY => ?_
      simp only [go_sem, reduceIte, Nat.reduceEqDiff, Nat.reduceBEq, reduceCtorEq, Nat.reduceLT, Nat.reduceLeDiff, Nat.reduceAdd, Nat.reduceSub, Nat.reduceMul, Nat.reduceDiv, Int.reduceAdd, Int.reduceNeg, Int.reduceEq, Int.reduceLT, Int.reduceLE, c_slices_BinarySearchFunc___api_Edge_api_Edge_api_Edge__r7]
      refine hKY _ ?_
      repeat (first | refine hn5 _ ?_ | refine he5 _ ?_ | refine hf5 _ _ (by decide) ?_ | refine hn4 _ ?_ | refine he4 _ _ ?_)
      refine hn3 _ ((i, h)) (h - i) (by omega) (by first | (simp only [go_sem, reduceIte, Nat.reduceEqDiff, Nat.reduceBEq, reduceCtorEq, Nat.reduceLT, Nat.reduceLeDiff, Nat.reduceAdd, Nat.reduceSub, Nat.reduceMul, Nat.reduceDiv, Int.reduceAdd, Int.reduceNeg, Int.reduceEq, Int.reduceLT, Int.reduceLE, updAll_cons, updAll_nil]; done) | with_reducible rfl | rfl) ?_
      refine ⟨by omega, by omega, rfl, h1, fun k y hy hk => ?_⟩
      rcases Nat.lt_or_ge h k with hkh | hkh
      · have h3 := hr h k (a, b) y hx hy hkh
        have h4 := cmpE_anti (a, b) y
        by_cases h5 : cmpE y (ta, tb) < 0
        · exact absurd (cmpE_trans h3 h5) hc
        · omega
      · obtain rfl : k = h := by omega
        rw [hx] at hy; cases hy; omega
  · refine wlk_sreg fun KY hKY => ?_
    simp only [go_sem, reduceIte, Nat.reduceEqDiff, Nat.reduceBEq, reduceCtorEq, Nat.reduceLT, Nat.reduceLeDiff, Nat.reduceAdd, Nat.reduceSub, Nat.reduceMul, Nat.reduceDiv, Int.reduceAdd, Int.reduceNeg, Int.reduceEq, Int.reduceLT, Int.reduceLE, c_slices_BinarySearchFunc___api_Edge_api_Edge_api_Edge__r3]
    refine hKY _ ?_
    refine wlk_cond0 (by first | rfl | (simp only [go_sem, reduceIte, Nat.reduceEqDiff, Nat.reduceBEq, reduceCtorEq, Nat.reduceLT, Nat.reduceLeDiff, Nat.reduceAdd, Nat.reduceSub, Nat.reduceMul, Nat.reduceDiv, Int.reduceAdd, Int.reduceNeg, Int.reduceEq, Int.reduceLT, Int.reduceLE]; try simp (disch := omega) only [decide_eq_true, decide_eq_false])) ?_
    refine wlk_exit ?_
    repeat (first | refine hn4 _ ?_ | refine he4 _ _ ?_ | refine he3 _ _ ?_ | refine hn2 _ ?_ | refine he2 _ ?_ | refine hf2 _ _ (by decide) ?_ | refine hn1 _ ?_ | refine he1 _ _ ?_)
    obtain rfl : i = j := by omega
    by_cases hil : i < es.length
    · have hx : es[i]? = some es[i] := List.getElem?_eq_getElem hil
      generalize es[i] = x at hx
      obtain ⟨a, b⟩ := x
      have hmem : decide ((ta, tb) ∈ es) = decide (cmpE (a, b) (ta, tb) = 0) := by
        rw [Bool.eq_iff_iff, decide_eq_true_iff, decide_eq_true_iff, cmpE_zero]
        refine ⟨fun hm => ?_, fun e => e ▸ List.mem_of_getElem? hx⟩
        obtain ⟨k, hk⟩ := List.mem_iff_getElem?.1 hm
        have hz : cmpE (ta, tb) (ta, tb) = 0 := (cmpE_zero _ _).2 rfl
        rcases Nat.lt_trichotomy k i with hki | hki | hki
        · have := h1 k _ hk hki; omega
        · subst hki; rw [hk] at hx; exact (Option.some.inj hx).symm
        · have h3 := hr i k _ _ hx hk hki
          have h4 := h2 i _ hx (Nat.le_refl _)
          omega
      refine wlk_sdraw fun KY hKY => ?_
      simp only [go_sem, reduceIte, Nat.reduceEqDiff, Nat.reduceBEq, reduceCtorEq, Nat.reduceLT, Nat.reduceLeDiff, Nat.reduceAdd, Nat.reduceSub, Nat.reduceMul, Nat.reduceDiv, Int.reduceAdd, Int.reduceNeg, Int.reduceEq, Int.reduceLT, Int.reduceLE, c_slices_BinarySearchFunc___api_Edge_api_Edge_api_Edge__r8, two_cells hx, List.length_drop, twos_len]
      repeat (simp (disch := omega) only [if_pos, if_neg, decide_eq_true, decide_eq_false, incS, nats_get, ints_get, two_cells hx, List.length_drop, twos_len]; try simp only [go_sem, reduceIte, Nat.reduceEqDiff, Nat.reduceBEq, reduceCtorEq, Nat.reduceLT, Nat.reduceLeDiff, Nat.reduceAdd, Nat.reduceSub, Nat.reduceMul, Nat.reduceDiv, Int.reduceAdd, Int.reduceNeg, Int.reduceEq, Int.reduceLT, Int.reduceLE, two_cells hx, List.length_drop, twos_len])
      refine call_view rfl (by simp only [go_sem, reduceIte, Nat.reduceEqDiff, Nat.reduceBEq, reduceCtorEq, Nat.reduceLT, Nat.reduceLeDiff, Nat.reduceAdd, Nat.reduceSub, Nat.reduceMul, Nat.reduceDiv, Int.reduceAdd, Int.reduceNeg, Int.reduceEq, Int.reduceLT, Int.reduceLE] <;> rfl) ((ocompare_ok (a, b) (ta, tb)).mono ?_)
      rintro rr hh ⟨rfl, rfl⟩
      refine ⟨rfl, rfl, rfl, ?_⟩
      simp only [go_sem, reduceIte, Nat.reduceEqDiff, Nat.reduceBEq, reduceCtorEq, Nat.reduceLT, Nat.reduceLeDiff, Nat.reduceAdd, Nat.reduceSub, Nat.reduceMul, Nat.reduceDiv, Int.reduceAdd, Int.reduceNeg, Int.reduceEq, Int.reduceLT, Int.reduceLE, ← hmem]
      refine hKY _ ?_
      refine wlk_ret ?_
      repeat (first | refine hr4 _ ?_ | refine hr3 _ ?_ | refine hr2 _ ?_ | refine hr1 _ ?_)
      simp only [go_sem, reduceIte, Nat.reduceEqDiff, Nat.reduceBEq, reduceCtorEq, Nat.reduceLT, Nat.reduceLeDiff, Nat.reduceAdd, Nat.reduceSub, Nat.reduceMul, Nat.reduceDiv, Int.reduceAdd, Int.reduceNeg, Int.reduceEq, Int.reduceLT, Int.reduceLE]
      exact ⟨i, rfl⟩
    · have hmem : decide ((ta, tb) ∈ es) = false := by
        rw [decide_eq_false_iff_not]
        intro hm
        obtain ⟨k, hk⟩ := List.mem_iff_getElem?.1 hm
        have := (List.getElem?_eq_some_iff.1 hk).1
        have hz : cmpE (ta, tb) (ta, tb) = 0 := (cmpE_zero _ _).2 rfl
        have := h1 k _ hk (by omega)
        omega
      refine wlk_sdraw fun KY hKY => ?_
      simp only [go_sem, reduceIte, Nat.reduceEqDiff, Nat.reduceBEq, reduceCtorEq, Nat.reduceLT, Nat.reduceLeDiff, Nat.reduceAdd, Nat.reduceSub, Nat.reduceMul, Nat.reduceDiv, Int.reduceAdd, Int.reduceNeg, Int.reduceEq, Int.reduceLT, Int.reduceLE, c_slices_BinarySearchFunc___api_Edge_api_Edge_api_Edge__r8]
      repeat (simp (disch := omega) only [if_pos, if_neg, decide_eq_true, decide_eq_false, incS, nats_get, ints_get]; try simp only [go_sem, reduceIte, Nat.reduceEqDiff, Nat.reduceBEq, reduceCtorEq, Nat.reduceLT, Nat.reduceLeDiff, Nat.reduceAdd, Nat.reduceSub, Nat.reduceMul, Nat.reduceDiv, Int.reduceAdd, Int.reduceNeg, Int.reduceEq, Int.reduceLT, Int.reduceLE])
      refine hKY _ ?_
      refine wlk_ret ?_
      repeat (first | refine hr4 _ ?_ | refine hr3 _ ?_ | refine hr2 _ ?_ | refine hr1 _ ?_)
      simp only [go_sem, reduceIte, Nat.reduceEqDiff, Nat.reduceBEq, reduceCtorEq, Nat.reduceLT, Nat.reduceLeDiff, Nat.reduceAdd, Nat.reduceSub, Nat.reduceMul, Nat.reduceDiv, Int.reduceAdd, Int.reduceNeg, Int.reduceEq, Int.reduceLT, Int.reduceLE]
      exact ⟨i, by rw [hmem]⟩
theorem gplace_ok (n : Int) (es : List (Int × Int)) (a b : Int) (hr : Ris es) (hl : es.length ≤ 65536) : ACalls Try.prog [] n_graph_place [.agg [.sc (.int .i64 n), .imm 2 (twos es)], .sc (.int .i64 a), .sc (.int .i64 b)] [] fun r h' => (∃ k : Nat, r = .tup [.sc (.int .i64 (k : Int)), .sc (.bool (decide (turnI a b ∈ es)))]) ∧ h' = [] := by
  refine ACalls.trim ?_
  refine go_graph_place rfl ?_
  unfold c_graph_place v_graph_place
  refine wlk_sreg fun KY hKY => ?_
  simp only [go_sem, reduceIte, Nat.reduceEqDiff, Nat.reduceBEq, reduceCtorEq, Nat.reduceLT, Nat.reduceLeDiff, Nat.reduceAdd, Nat.reduceSub, Nat.reduceMul, Nat.reduceDiv, Int.reduceAdd, Int.reduceNeg, Int.reduceEq, Int.reduceLT, Int.reduceLE, c_graph_place_r0]
  refine hKY _ ?_
  refine wlk_sdraw fun KY hKY => ?_
  simp only [go_sem, reduceIte, Nat.reduceEqDiff, Nat.reduceBEq, reduceCtorEq, Nat.reduceLT, Nat.reduceLeDiff, Nat.reduceAdd, Nat.reduceSub, Nat.reduceMul, Nat.reduceDiv, Int.reduceAdd, Int.reduceNeg, Int.reduceEq, Int.reduceLT, Int.reduceLE, c_graph_place_r1]
  refine ⟨?_, ?_, ?_⟩
  · refine call_view rfl (by simp only [go_sem, reduceIte, Nat.reduceEqDiff, Nat.reduceBEq, reduceCtorEq, Nat.reduceLT, Nat.reduceLeDiff, Nat.reduceAdd, Nat.reduceSub, Nat.reduceMul, Nat.reduceDiv, Int.reduceAdd, Int.reduceNeg, Int.reduceEq, Int.reduceLT, Int.reduceLE] <;> rfl) ((edge_ok a b).mono ?_)
    rintro rr hh ⟨rfl, rfl⟩
    refine ⟨rfl, rfl, rfl, ?_⟩
    simp only [go_sem, reduceIte, Nat.reduceEqDiff, Nat.reduceBEq, reduceCtorEq, Nat.reduceLT, Nat.reduceLeDiff, Nat.reduceAdd, Nat.reduceSub, Nat.reduceMul, Nat.reduceDiv, Int.reduceAdd, Int.reduceNeg, Int.reduceEq, Int.reduceLT, Int.reduceLE]
    refine call_view rfl (by simp only [go_sem, reduceIte, Nat.reduceEqDiff, Nat.reduceBEq, reduceCtorEq, Nat.reduceLT, Nat.reduceLeDiff, Nat.reduceAdd, Nat.reduceSub, Nat.reduceMul, Nat.reduceDiv, Int.reduceAdd, Int.reduceNeg, Int.reduceEq, Int.reduceLT, Int.reduceLE] <;> rfl) ((bsearch_ok es (turnI a b) hr hl).mono ?_)
    rintro rr hh ⟨⟨k, rfl⟩, rfl⟩
    refine ⟨?_, ?_, ?_, ?_⟩
    iterate 3 (first | rfl | simp only [go_sem, reduceIte, Nat.reduceEqDiff, Nat.reduceBEq, reduceCtorEq, Nat.reduceLT, Nat.reduceLeDiff, Nat.reduceAdd, Nat.reduceSub, Nat.reduceMul, Nat.reduceDiv, Int.reduceAdd, Int.reduceNeg, Int.reduceEq, Int.reduceLT, Int.reduceLE])
    simp only [go_sem, reduceIte, Nat.reduceEqDiff, Nat.reduceBEq, reduceCtorEq, Nat.reduceLT, Nat.reduceLeDiff, Nat.reduceAdd, Nat.reduceSub, Nat.reduceMul, Nat.reduceDiv, Int.reduceAdd, Int.reduceNeg, Int.reduceEq, Int.reduceLT, Int.reduceLE]
    refine hKY _ ?_
    refine wlk_ret ?_
    simp only [go_sem, reduceIte, Nat.reduceEqDiff, Nat.reduceBEq, reduceCtorEq, Nat.reduceLT, Nat.reduceLeDiff, Nat.reduceAdd, Nat.reduceSub, Nat.reduceMul, Nat.reduceDiv, Int.reduceAdd, Int.reduceNeg, Int.reduceEq, Int.reduceLT, Int.reduceLE]
    exact ⟨k, rfl⟩
  · refine call_view rfl (by simp only [go_sem, reduceIte, Nat.reduceEqDiff, Nat.reduceBEq, reduceCtorEq, Nat.reduceLT, Nat.reduceLeDiff, Nat.reduceAdd, Nat.reduceSub, Nat.reduceMul, Nat.reduceDiv, Int.reduceAdd, Int.reduceNeg, Int.reduceEq, Int.reduceLT, Int.reduceLE] <;> rfl) ((edge_ok a b).mono ?_)
    rintro rr hh ⟨rfl, rfl⟩
    refine ⟨rfl, rfl, rfl, ?_⟩
    simp only [go_sem, reduceIte, Nat.reduceEqDiff, Nat.reduceBEq, reduceCtorEq, Nat.reduceLT, Nat.reduceLeDiff, Nat.reduceAdd, Nat.reduceSub, Nat.reduceMul, Nat.reduceDiv, Int.reduceAdd, Int.reduceNeg, Int.reduceEq, Int.reduceLT, Int.reduceLE]
    refine call_view rfl (by simp only [go_sem, reduceIte, Nat.reduceEqDiff, Nat.reduceBEq, reduceCtorEq, Nat.reduceLT, Nat.reduceLeDiff, Nat.reduceAdd, Nat.reduceSub, Nat.reduceMul, Nat.reduceDiv, Int.reduceAdd, Int.reduceNeg, Int.reduceEq, Int.reduceLT, Int.reduceLE] <;> rfl) ((bsearch_ok es (turnI a b) hr hl).mono ?_)
    rintro rr hh ⟨⟨k, rfl⟩, rfl⟩
    refine ⟨?_, ?_, ?_, ?_⟩
    iterate 3 (first | rfl | simp only [go_sem, reduceIte, Nat.reduceEqDiff, Nat.reduceBEq, reduceCtorEq, Nat.reduceLT, Nat.reduceLeDiff, Nat.reduceAdd, Nat.reduceSub, Nat.reduceMul, Nat.reduceDiv, Int.reduceAdd, Int.reduceNeg, Int.reduceEq, Int.reduceLT, Int.reduceLE])
    simp only [go_sem, reduceIte, Nat.reduceEqDiff, Nat.reduceBEq, reduceCtorEq, Nat.reduceLT, Nat.reduceLeDiff, Nat.reduceAdd, Nat.reduceSub, Nat.reduceMul, Nat.reduceDiv, Int.reduceAdd, Int.reduceNeg, Int.reduceEq, Int.reduceLT, Int.reduceLE]
    refine hKY _ ?_
    refine wlk_ret ?_
    simp only [go_sem, reduceIte, Nat.reduceEqDiff, Nat.reduceBEq, reduceCtorEq, Nat.reduceLT, Nat.reduceLeDiff, Nat.reduceAdd, Nat.reduceSub, Nat.reduceMul, Nat.reduceDiv, Int.reduceAdd, Int.reduceNeg, Int.reduceEq, Int.reduceLT, Int.reduceLE]
    exact ⟨k, rfl⟩
  · refine call_view rfl (by simp only [go_sem, reduceIte, Nat.reduceEqDiff, Nat.reduceBEq, reduceCtorEq, Nat.reduceLT, Nat.reduceLeDiff, Nat.reduceAdd, Nat.reduceSub, Nat.reduceMul, Nat.reduceDiv, Int.reduceAdd, Int.reduceNeg, Int.reduceEq, Int.reduceLT, Int.reduceLE] <;> rfl) ((edge_ok a b).mono ?_)
    rintro rr hh ⟨rfl, rfl⟩
    refine ⟨rfl, rfl, rfl, ?_⟩
    simp only [go_sem, reduceIte, Nat.reduceEqDiff, Nat.reduceBEq, reduceCtorEq, Nat.reduceLT, Nat.reduceLeDiff, Nat.reduceAdd, Nat.reduceSub, Nat.reduceMul, Nat.reduceDiv, Int.reduceAdd, Int.reduceNeg, Int.reduceEq, Int.reduceLT, Int.reduceLE]
    refine call_view rfl (by simp only [go_sem, reduceIte, Nat.reduceEqDiff, Nat.reduceBEq, reduceCtorEq, Nat.reduceLT, Nat.reduceLeDiff, Nat.reduceAdd, Nat.reduceSub, Nat.reduceMul, Nat.reduceDiv, Int.reduceAdd, Int.reduceNeg, Int.reduceEq, Int.reduceLT, Int.reduceLE] <;> rfl) ((bsearch_ok es (turnI a b) hr hl).mono ?_)
    rintro rr hh ⟨⟨k, rfl⟩, rfl⟩
    refine ⟨?_, ?_, ?_, ?_⟩
    iterate 3 (first | rfl | simp only [go_sem, reduceIte, Nat.reduceEqDiff, Nat.reduceBEq, reduceCtorEq, Nat.reduceLT, Nat.reduceLeDiff, Nat.reduceAdd, Nat.reduceSub, Nat.reduceMul, Nat.reduceDiv, Int.reduceAdd, Int.reduceNeg, Int.reduceEq, Int.reduceLT, Int.reduceLE])
    simp only [go_sem, reduceIte, Nat.reduceEqDiff, Nat.reduceBEq, reduceCtorEq, Nat.reduceLT, Nat.reduceLeDiff, Nat.reduceAdd, Nat.reduceSub, Nat.reduceMul, Nat.reduceDiv, Int.reduceAdd, Int.reduceNeg, Int.reduceEq, Int.reduceLT, Int.reduceLE]
    refine hKY _ ?_
    refine wlk_ret ?_
    simp only [go_sem, reduceIte, Nat.reduceEqDiff, Nat.reduceBEq, reduceCtorEq, Nat.reduceLT, Nat.reduceLeDiff, Nat.reduceAdd, Nat.reduceSub, Nat.reduceMul, Nat.reduceDiv, Int.reduceAdd, Int.reduceNeg, Int.reduceEq, Int.reduceLT, Int.reduceLE]
    exact ⟨k, rfl⟩
theorem gindex_ok (n : Int) (es : List (Int × Int)) (a b : Int) : ACalls Try.prog [] n_graph_Index [.agg [.sc (.int .i64 n), .imm 2 (twos es)], .sc (.int .i64 a), .sc (.int .i64 b)] [] fun r h' => (∃ k : Int, r = .sc (.int .i64 k) ∧ (0 ≤ k ↔ rightB n es = true ∧ turnI a b ∈ es)) ∧ h' = [] := by
  refine ACalls.trim ?_
  refine go_graph_Index rfl ?_
  unfold c_graph_Index v_graph_Index
  refine wlk_sreg fun KY hKY => ?_
  simp only [go_sem, reduceIte, Nat.reduceEqDiff, Nat.reduceBEq, reduceCtorEq, Nat.reduceLT, Nat.reduceLeDiff, Nat.reduceAdd, Nat.reduceSub, Nat.reduceMul, Nat.reduceDiv, Int.reduceAdd, Int.reduceNeg, Int.reduceEq, Int.reduceLT, Int.reduceLE, c_graph_Index_r0]
  refine hKY _ ?_
  refine wlk_seq fun X1 hn1 he1 hr1 => ?_
  cases hr : rightB n es with
  | false =>
    refine wlk_sreg fun KY hKY => ?_
    simp only [go_sem, reduceIte, Nat.reduceEqDiff, Nat.reduceBEq, reduceCtorEq, Nat.reduceLT, Nat.reduceLeDiff, Nat.reduceAdd, Nat.reduceSub, Nat.reduceMul, Nat.reduceDiv, Int.reduceAdd, Int.reduceNeg, Int.reduceEq, Int.reduceLT, Int.reduceLE, c_graph_Index_r1]
    refine call_view rfl (by simp only [go_sem, reduceIte, Nat.reduceEqDiff, Nat.reduceBEq, reduceCtorEq, Nat.reduceLT, Nat.reduceLeDiff, Nat.reduceAdd, Nat.reduceSub, Nat.reduceMul, Nat.reduceDiv, Int.reduceAdd, Int.reduceNeg, Int.reduceEq, Int.reduceLT, Int.reduceLE] <;> rfl) ((right_ok n es).mono ?_)
    rintro rr hh ⟨rfl, rfl⟩
    refine ⟨rfl, rfl, rfl, ?_⟩
    simp only [go_sem, reduceIte, Nat.reduceEqDiff, Nat.reduceBEq, reduceCtorEq, Nat.reduceLT, Nat.reduceLeDiff, Nat.reduceAdd, Nat.reduceSub, Nat.reduceMul, Nat.reduceDiv, Int.reduceAdd, Int.reduceNeg, Int.reduceEq, Int.reduceLT, Int.reduceLE, hr]
    refine hKY _ ?_
    refine wlk_cond1 (by first | rfl | (simp only [go_sem, reduceIte, Nat.reduceEqDiff, Nat.reduceBEq, reduceCtorEq, Nat.reduceLT, Nat.reduceLeDiff, Nat.reduceAdd, Nat.reduceSub, Nat.reduceMul, Nat.reduceDiv, Int.reduceAdd, Int.reduceNeg, Int.reduceEq, Int.reduceLT, Int.reduceLE]; try simp (disch := omega) only [decide_eq_true, decide_eq_false])) ?_
    refine wlk_sreg fun KY hKY => ?_
    simp only [go_sem, reduceIte, Nat.reduceEqDiff, Nat.reduceBEq, reduceCtorEq, Nat.reduceLT, Nat.reduceLeDiff, Nat.reduceAdd, Nat.reduceSub, Nat.reduceMul, Nat.reduceDiv, Int.reduceAdd, Int.reduceNeg, Int.reduceEq, Int.reduceLT, Int.reduceLE, c_graph_Index_r2]
    refine hKY _ ?_
    refine wlk_ret ?_
    repeat (first | refine hr1 _ ?_)
    simp only [go_sem, reduceIte, Nat.reduceEqDiff, Nat.reduceBEq, reduceCtorEq, Nat.reduceLT, Nat.reduceLeDiff, Nat.reduceAdd, Nat.reduceSub, Nat.reduceMul, Nat.reduceDiv, Int.reduceAdd, Int.reduceNeg, Int.reduceEq, Int.reduceLT, Int.reduceLE]
    exact ⟨-1, rfl, by omega, fun h => by rw [hr] at h; cases h.1⟩
  | true =>
    have hl : es.length ≤ 65536 := by
      have h := hr
      unfold rightB at h
      simp only [Bool.and_eq_true, decide_eq_true_eq] at h
      exact h.1.2
    refine wlk_sreg fun KY hKY => ?_
    simp only [go_sem, reduceIte, Nat.reduceEqDiff, Nat.reduceBEq, reduceCtorEq, Nat.reduceLT, Nat.reduceLeDiff, Nat.reduceAdd, Nat.reduceSub, Nat.reduceMul, Nat.reduceDiv, Int.reduceAdd, Int.reduceNeg, Int.reduceEq, Int.reduceLT, Int.reduceLE, c_graph_Index_r1]
    refine call_view rfl (by simp only [go_sem, reduceIte, Nat.reduceEqDiff, Nat.reduceBEq, reduceCtorEq, Nat.reduceLT, Nat.reduceLeDiff, Nat.reduceAdd, Nat.reduceSub, Nat.reduceMul, Nat.reduceDiv, Int.reduceAdd, Int.reduceNeg, Int.reduceEq, Int.reduceLT, Int.reduceLE] <;> rfl) ((right_ok n es).mono ?_)
    rintro rr hh ⟨rfl, rfl⟩
    refine ⟨rfl, rfl, rfl, ?_⟩
    simp only [go_sem, reduceIte, Nat.reduceEqDiff, Nat.reduceBEq, reduceCtorEq, Nat.reduceLT, Nat.reduceLeDiff, Nat.reduceAdd, Nat.reduceSub, Nat.reduceMul, Nat.reduceDiv, Int.reduceAdd, Int.reduceNeg, Int.reduceEq, Int.reduceLT, Int.reduceLE, hr]
    refine hKY _ ?_
    refine wlk_cond0 (by first | rfl | (simp only [go_sem, reduceIte, Nat.reduceEqDiff, Nat.reduceBEq, reduceCtorEq, Nat.reduceLT, Nat.reduceLeDiff, Nat.reduceAdd, Nat.reduceSub, Nat.reduceMul, Nat.reduceDiv, Int.reduceAdd, Int.reduceNeg, Int.reduceEq, Int.reduceLT, Int.reduceLE]; try simp (disch := omega) only [decide_eq_true, decide_eq_false])) ?_
    refine wlk_skip ?_
    repeat (first | refine hn1 _ ?_ | refine he1 _ _ ?_)
    refine wlk_sreg fun KY hKY => ?_
    simp only [go_sem, reduceIte, Nat.reduceEqDiff, Nat.reduceBEq, reduceCtorEq, Nat.reduceLT, Nat.reduceLeDiff, Nat.reduceAdd, Nat.reduceSub, Nat.reduceMul, Nat.reduceDiv, Int.reduceAdd, Int.reduceNeg, Int.reduceEq, Int.reduceLT, Int.reduceLE, c_graph_Index_r3]
    refine call_view rfl (by simp only [go_sem, reduceIte, Nat.reduceEqDiff, Nat.reduceBEq, reduceCtorEq, Nat.reduceLT, Nat.reduceLeDiff, Nat.reduceAdd, Nat.reduceSub, Nat.reduceMul, Nat.reduceDiv, Int.reduceAdd, Int.reduceNeg, Int.reduceEq, Int.reduceLT, Int.reduceLE] <;> rfl) ((gplace_ok n es a b (ris_of hr) hl).mono ?_)
    rintro rr hh ⟨⟨k, rfl⟩, rfl⟩
    refine ⟨?_, ?_, ?_, ?_⟩
    iterate 3 (first | rfl | simp only [go_sem, reduceIte, Nat.reduceEqDiff, Nat.reduceBEq, reduceCtorEq, Nat.reduceLT, Nat.reduceLeDiff, Nat.reduceAdd, Nat.reduceSub, Nat.reduceMul, Nat.reduceDiv, Int.reduceAdd, Int.reduceNeg, Int.reduceEq, Int.reduceLT, Int.reduceLE])
    simp only [go_sem, reduceIte, Nat.reduceEqDiff, Nat.reduceBEq, reduceCtorEq, Nat.reduceLT, Nat.reduceLeDiff, Nat.reduceAdd, Nat.reduceSub, Nat.reduceMul, Nat.reduceDiv, Int.reduceAdd, Int.reduceNeg, Int.reduceEq, Int.reduceLT, Int.reduceLE]
    refine hKY _ ?_
    refine wlk_seq fun X2 hn2 he2 hr2 => ?_
    by_cases hm : turnI a b ∈ es
    · have hd : decide (turnI a b ∈ es) = true := decide_eq_true hm
      refine wlk_sreg fun KY hKY => ?_
      simp only [go_sem, reduceIte, Nat.reduceEqDiff, Nat.reduceBEq, reduceCtorEq, Nat.reduceLT, Nat.reduceLeDiff, Nat.reduceAdd, Nat.reduceSub, Nat.reduceMul, Nat.reduceDiv, Int.reduceAdd, Int.reduceNeg, Int.reduceEq, Int.reduceLT, Int.reduceLE, c_graph_Index_r4, hd]
      refine hKY _ ?_
      refine wlk_cond0 (by first | rfl | (simp only [go_sem, reduceIte, Nat.reduceEqDiff, Nat.reduceBEq, reduceCtorEq, Nat.reduceLT, Nat.reduceLeDiff, Nat.reduceAdd, Nat.reduceSub, Nat.reduceMul, Nat.reduceDiv, Int.reduceAdd, Int.reduceNeg, Int.reduceEq, Int.reduceLT, Int.reduceLE]; try simp (disch := omega) only [decide_eq_true, decide_eq_false])) ?_
      refine wlk_skip ?_
      repeat (first | refine hn2 _ ?_ | refine he2 _ _ ?_ | refine hn1 _ ?_ | refine he1 _ _ ?_)
      refine wlk_sreg fun KY hKY => ?_
      simp only [go_sem, reduceIte, Nat.reduceEqDiff, Nat.reduceBEq, reduceCtorEq, Nat.reduceLT, Nat.reduceLeDiff, Nat.reduceAdd, Nat.reduceSub, Nat.reduceMul, Nat.reduceDiv, Int.reduceAdd, Int.reduceNeg, Int.reduceEq, Int.reduceLT, Int.reduceLE, c_graph_Index_r6]
      refine hKY _ ?_
      refine wlk_ret ?_
      repeat (first | refine hr2 _ ?_ | refine hr1 _ ?_)
      simp only [go_sem, reduceIte, Nat.reduceEqDiff, Nat.reduceBEq, reduceCtorEq, Nat.reduceLT, Nat.reduceLeDiff, Nat.reduceAdd, Nat.reduceSub, Nat.reduceMul, Nat.reduceDiv, Int.reduceAdd, Int.reduceNeg, Int.reduceEq, Int.reduceLT, Int.reduceLE]
      exact ⟨(k : Int), rfl, fun _ => ⟨hr, hm⟩, fun _ => by omega⟩
    · have hd : decide (turnI a b ∈ es) = false := decide_eq_false hm
      refine wlk_sreg fun KY hKY => ?_
      simp only [go_sem, reduceIte, Nat.reduceEqDiff, Nat.reduceBEq, reduceCtorEq, Nat.reduceLT, Nat.reduceLeDiff, Nat.reduceAdd, Nat.reduceSub, Nat.reduceMul, Nat.reduceDiv, Int.reduceAdd, Int.reduceNeg, Int.reduceEq, Int.reduceLT, Int.reduceLE, c_graph_Index_r4, hd]
      refine hKY _ ?_
      refine wlk_cond1 (by first | rfl | (simp only [go_sem, reduceIte, Nat.reduceEqDiff, Nat.reduceBEq, reduceCtorEq, Nat.reduceLT, Nat.reduceLeDiff, Nat.reduceAdd, Nat.reduceSub, Nat.reduceMul, Nat.reduceDiv, Int.reduceAdd, Int.reduceNeg, Int.reduceEq, Int.reduceLT, Int.reduceLE]; try simp (disch := omega) only [decide_eq_true, decide_eq_false])) ?_
      refine wlk_sreg fun KY hKY => ?_
      simp only [go_sem, reduceIte, Nat.reduceEqDiff, Nat.reduceBEq, reduceCtorEq, Nat.reduceLT, Nat.reduceLeDiff, Nat.reduceAdd, Nat.reduceSub, Nat.reduceMul, Nat.reduceDiv, Int.reduceAdd, Int.reduceNeg, Int.reduceEq, Int.reduceLT, Int.reduceLE, c_graph_Index_r5]
      refine hKY _ ?_
      refine wlk_ret ?_
      repeat (first | refine hr2 _ ?_ | refine hr1 _ ?_)
      simp only [go_sem, reduceIte, Nat.reduceEqDiff, Nat.reduceBEq, reduceCtorEq, Nat.reduceLT, Nat.reduceLeDiff, Nat.reduceAdd, Nat.reduceSub, Nat.reduceMul, Nat.reduceDiv, Int.reduceAdd, Int.reduceNeg, Int.reduceEq, Int.reduceLT, Int.reduceLE]
      exact ⟨-1, rfl, by omega, fun h => absurd h.2 hm⟩
theorem ghas_ok (n : Int) (es : List (Int × Int)) (a b : Int) : ACalls Try.prog [] n_graph_Has [.agg [.sc (.int .i64 n), .imm 2 (twos es)], .sc (.int .i64 a), .sc (.int .i64 b)] [] fun r h' => r = .sc (.bool (rightB n es && decide (turnI a b ∈ es))) ∧ h' = [] := by
  refine ACalls.trim ?_
  refine go_graph_Has rfl ?_
  unfold c_graph_Has v_graph_Has
  refine wlk_sreg fun KY hKY => ?_
  simp only [go_sem, reduceIte, Nat.reduceEqDiff, Nat.reduceBEq, reduceCtorEq, Nat.reduceLT, Nat.reduceLeDiff, Nat.reduceAdd, Nat.reduceSub, Nat.reduceMul, Nat.reduceDiv, Int.reduceAdd, Int.reduceNeg, Int.reduceEq, Int.reduceLT, Int.reduceLE, c_graph_Has_r0]
  refine hKY _ ?_
  refine wlk_sreg fun KY hKY => ?_
  simp only [go_sem, reduceIte, Nat.reduceEqDiff, Nat.reduceBEq, reduceCtorEq, Nat.reduceLT, Nat.reduceLeDiff, Nat.reduceAdd, Nat.reduceSub, Nat.reduceMul, Nat.reduceDiv, Int.reduceAdd, Int.reduceNeg, Int.reduceEq, Int.reduceLT, Int.reduceLE, c_graph_Has_r1]
  refine call_view rfl (by simp only [go_sem, reduceIte, Nat.reduceEqDiff, Nat.reduceBEq, reduceCtorEq, Nat.reduceLT, Nat.reduceLeDiff, Nat.reduceAdd, Nat.reduceSub, Nat.reduceMul, Nat.reduceDiv, Int.reduceAdd, Int.reduceNeg, Int.reduceEq, Int.reduceLT, Int.reduceLE] <;> rfl) ((gindex_ok n es a b).mono ?_)
  rintro rr hh ⟨⟨k, rfl, hk⟩, rfl⟩
  refine ⟨?_, ?_, ?_, ?_⟩
  iterate 3 (first | rfl | simp only [go_sem, reduceIte, Nat.reduceEqDiff, Nat.reduceBEq, reduceCtorEq, Nat.reduceLT, Nat.reduceLeDiff, Nat.reduceAdd, Nat.reduceSub, Nat.reduceMul, Nat.reduceDiv, Int.reduceAdd, Int.reduceNeg, Int.reduceEq, Int.reduceLT, Int.reduceLE])
  simp only [go_sem, reduceIte, Nat.reduceEqDiff, Nat.reduceBEq, reduceCtorEq, Nat.reduceLT, Nat.reduceLeDiff, Nat.reduceAdd, Nat.reduceSub, Nat.reduceMul, Nat.reduceDiv, Int.reduceAdd, Int.reduceNeg, Int.reduceEq, Int.reduceLT, Int.reduceLE]
  refine hKY _ ?_
  refine wlk_ret ?_
  simp only [go_sem, reduceIte, Nat.reduceEqDiff, Nat.reduceBEq, reduceCtorEq, Nat.reduceLT, Nat.reduceLeDiff, Nat.reduceAdd, Nat.reduceSub, Nat.reduceMul, Nat.reduceDiv, Int.reduceAdd, Int.reduceNeg, Int.reduceEq, Int.reduceLT, Int.reduceLE]
  have : decide (0 ≤ k) = (rightB n es && decide (turnI a b ∈ es)) := by
    rw [Bool.eq_iff_iff]; simp [hk]
  rw [this]
end Go.Proofs.Ytoefhbfgmceikaa
set_option maxRecDepth 100000
set_option maxHeartbeats 4000000
namespace Go.Proofs.Ytoefhbfgmceikaa
open Go Go.Ga Go.Ga.Gl
def pStep (N : Nat) (es : Es) (l : List Int) (i : Nat) : Bool :=
  (decide (0 ≤ l.getD i 0) && decide (l.getD i 0 < (N : Int))) && (decide (l.getD i 0 ∉ l.take i) && (decide (i = 0) || decide (turnI (l.getD (i - 1) 0) (l.getD i 0) ∈ castE es)))
def pathB (N : Nat) (es : Es) (l : List Int) : Bool := decide (0 < l.length) && (List.range l.length).all fun i => pStep N es l i
theorem pathB_no {N : Nat} {es : Es} {l : List Int} {k : Nat} (h : k < l.length) (hf : pStep N es l k = false) : pathB N es l = false := by
  unfold pathB
  have : ((List.range l.length).all fun i => pStep N es l i) = false := by
    rw [Bool.eq_false_iff]; intro h'
    rw [List.all_eq_true] at h'
    rw [h' k (List.mem_range.2 h)] at hf; cases hf
  rw [this, Bool.and_false]
theorem take_getD' {b : List Int} {k : Nat} (h : k < b.length) : b.take (k + 1) = b.take k ++ [b.getD k 0] := by
  rw [List.take_add_one, List.getElem?_eq_getElem h, List.getD_eq_getElem?_getD, List.getElem?_eq_getElem h]; rfl
theorem wpath_ok {N : Nat} {es : Es} (g : GR N es) (A : AVal) (hA : A.copyable = true) (l : List Int) (hl : l.length ≤ 1000000) : ACalls Try.prog [] n_walk_ways_path [.agg [.sc (.int .i64 (N : Int)), .imm 2 (twos (castE es)), A], .imm 1 (ints l)] [] fun r h' => r = .sc (.bool (pathB N es l)) ∧ h' = [] := by
  refine ACalls.trim ?_
  have hr := rightB_GR g
  refine go_walk_ways_path rfl ?_
  unfold c_walk_ways_path v_walk_ways_path
  refine wlk_sreg fun KY hKY => ?_
  simp only [go_sem, reduceIte, Nat.reduceEqDiff, reduceCtorEq, c_walk_ways_path_r0, hA]
  refine hKY _ ?_
  refine wlk_sreg fun KY hKY => ?_
  simp only [go_sem, reduceIte, Nat.reduceEqDiff, reduceCtorEq, c_walk_ways_path_r1]
  refine hKY _ ?_
  refine wlk_seq fun X1 hn1 he1 hr1 => ?_
  refine wlk_sreg fun KY hKY => ?_
  simp only [go_sem, reduceIte, Nat.reduceEqDiff, reduceCtorEq, c_walk_ways_path_r2, ints_len]
  refine hKY _ ?_
  refine wlk_blk fun X2 hn2 he2 hf2 hr2 => ?_
  try simp only [go_sem, reduceIte, Nat.reduceEqDiff, reduceCtorEq]
  refine wlk_lp (α := Nat) [6, 7, 12, 45] (fun k => [(5, .mp (l.take k)), (11, .sc (.int .i64 (k : Int)))]) (fun k => []) (fun k q => k ≤ l.length ∧ q = l.length - k ∧ (∀ i, i < k → pStep N es l i = true)) (0) (l.length) rfl (by first | (simp only [go_sem, reduceIte, Nat.reduceEqDiff, reduceCtorEq, updAll_cons, updAll_nil]; done) | with_reducible rfl | rfl) (⟨by omega, rfl, fun i h => by omega⟩) ?_
  rintro k q ⟨hk, rfl, hz⟩ X3 hn3 he3 hr3
  simp only [go_sem, reduceIte, Nat.reduceEqDiff, reduceCtorEq, updAll_cons, updAll_nil]
  rcases Nat.lt_or_ge k l.length with hk2 | hk2
  · have hdy : decide ((k : Int) < (l.length : Int)) = true := decide_eq_true (by omega)
    refine wlk_sreg fun KY hKY => ?_
    simp only [go_sem, reduceIte, Nat.reduceEqDiff, reduceCtorEq, c_walk_ways_path_r3, hdy]
    refine hKY _ ?_
    refine wlk_seq fun X4 hn4 he4 hr4 => ?_
    refine wlk_cond1 (by first | rfl | (simp only [go_sem, reduceIte, Nat.reduceEqDiff, Nat.reduceBEq, reduceCtorEq, Nat.reduceLT, Nat.reduceLeDiff, Nat.reduceAdd, Nat.reduceSub, Nat.reduceMul, Nat.reduceDiv, Int.reduceAdd, Int.reduceNeg, Int.reduceEq, Int.reduceLT, Int.reduceLE]; try simp (disch := omega) only [decide_eq_true, decide_eq_false])) ?_
    refine wlk_skip ?_
    repeat (first | refine hn4 _ ?_ | refine he4 _ _ ?_ | refine he3 _ _ ?_ | refine hn2 _ ?_ | refine he2 _ ?_ | refine hf2 _ _ (by decide) ?_ | refine hn1 _ ?_ | refine he1 _ _ ?_)
    refine wlk_seq fun X5 hn5 he5 hr5 => ?_
    refine wlk_blk fun X6 hn6 he6 hf6 hr6 => ?_
    refine wlk_sreg fun KY hKY => ?_
    simp only [go_sem, reduceIte, Nat.reduceEqDiff, reduceCtorEq, c_walk_ways_path_r4, ints_get hk2, hk2, ints_len]
    refine hKY _ ?_
    have htk := take_getD' hk2
    refine wlk_seq fun X7 hn7 he7 hr7 => ?_
    by_cases h1 : l.getD k 0 < 0
    · have d1 : decide (l.getD k 0 < 0) = true := decide_eq_true h1
      have hbad : pStep N es l k = false := by unfold pStep; rw [decide_eq_false (show ¬ 0 ≤ l.getD k 0 by omega)]; rfl
      refine wlk_sdraw fun KY hKY => ?_
      simp only [go_sem, reduceIte, Nat.reduceEqDiff, Nat.reduceBEq, reduceCtorEq, c_walk_ways_path_r5, d1]
      refine hKY _ ?_
      refine wlk_cond1 (by first | rfl | (simp only [go_sem, reduceIte, Nat.reduceEqDiff, Nat.reduceBEq, reduceCtorEq, Nat.reduceLT, Nat.reduceLeDiff, Nat.reduceAdd, Nat.reduceSub, Nat.reduceMul, Nat.reduceDiv, Int.reduceAdd, Int.reduceNeg, Int.reduceEq, Int.reduceLT, Int.reduceLE]; try simp (disch := omega) only [decide_eq_true, decide_eq_false])) ?_
      refine wlk_sreg fun KY hKY => ?_
      simp only [go_sem, reduceIte, Nat.reduceEqDiff, reduceCtorEq, c_walk_ways_path_r6]
      refine hKY _ ?_
      refine wlk_ret ?_
      repeat (first | refine hr7 _ ?_ | refine hr6 _ ?_ | refine hr5 _ ?_ | refine hr4 _ ?_ | refine hr3 _ ?_ | refine hr2 _ ?_ | refine hr1 _ ?_)
      simp only [go_sem, reduceIte, Nat.reduceEqDiff, reduceCtorEq]
      rw [pathB_no hk2 hbad]
    · have d1 : decide (l.getD k 0 < 0) = false := decide_eq_false h1
      by_cases h2 : (N : Int) ≤ l.getD k 0
      · have d2 : decide ((N : Int) ≤ l.getD k 0) = true := decide_eq_true h2
        have hbad : pStep N es l k = false := by unfold pStep; rw [decide_eq_false (show ¬ l.getD k 0 < (N : Int) by omega), Bool.and_false]; rfl
        refine wlk_sdraw fun KY hKY => ?_
        simp only [go_sem, reduceIte, Nat.reduceEqDiff, Nat.reduceBEq, reduceCtorEq, c_walk_ways_path_r5, d1, d2]
        refine hKY _ ?_
        refine wlk_cond1 (by first | rfl | (simp only [go_sem, reduceIte, Nat.reduceEqDiff, Nat.reduceBEq, reduceCtorEq, Nat.reduceLT, Nat.reduceLeDiff, Nat.reduceAdd, Nat.reduceSub, Nat.reduceMul, Nat.reduceDiv, Int.reduceAdd, Int.reduceNeg, Int.reduceEq, Int.reduceLT, Int.reduceLE]; try simp (disch := omega) only [decide_eq_true, decide_eq_false])) ?_
        refine wlk_sreg fun KY hKY => ?_
        simp only [go_sem, reduceIte, Nat.reduceEqDiff, reduceCtorEq, c_walk_ways_path_r6]
        refine hKY _ ?_
        refine wlk_ret ?_
        repeat (first | refine hr7 _ ?_ | refine hr6 _ ?_ | refine hr5 _ ?_ | refine hr4 _ ?_ | refine hr3 _ ?_ | refine hr2 _ ?_ | refine hr1 _ ?_)
        simp only [go_sem, reduceIte, Nat.reduceEqDiff, reduceCtorEq]
        rw [pathB_no hk2 hbad]
      · have d2 : decide ((N : Int) ≤ l.getD k 0) = false := decide_eq_false h2
        by_cases h3 : l.getD k 0 ∈ l.take k
        · have d3 : decide (l.getD k 0 ∈ l.take k) = true := decide_eq_true h3
          have hbad : pStep N es l k = false := by unfold pStep; rw [decide_eq_false (show ¬ l.getD k 0 ∉ l.take k from fun h => h h3), Bool.false_and, Bool.and_false]
          refine wlk_sdraw fun KY hKY => ?_
          simp only [go_sem, reduceIte, Nat.reduceEqDiff, Nat.reduceBEq, reduceCtorEq, c_walk_ways_path_r5, d1, d2, d3]
          refine hKY _ ?_
          refine wlk_cond1 (by first | rfl | (simp only [go_sem, reduceIte, Nat.reduceEqDiff, Nat.reduceBEq, reduceCtorEq, Nat.reduceLT, Nat.reduceLeDiff, Nat.reduceAdd, Nat.reduceSub, Nat.reduceMul, Nat.reduceDiv, Int.reduceAdd, Int.reduceNeg, Int.reduceEq, Int.reduceLT, Int.reduceLE]; try simp (disch := omega) only [decide_eq_true, decide_eq_false])) ?_
          refine wlk_sreg fun KY hKY => ?_
          simp only [go_sem, reduceIte, Nat.reduceEqDiff, reduceCtorEq, c_walk_ways_path_r6]
          refine hKY _ ?_
          refine wlk_ret ?_
          repeat (first | refine hr7 _ ?_ | refine hr6 _ ?_ | refine hr5 _ ?_ | refine hr4 _ ?_ | refine hr3 _ ?_ | refine hr2 _ ?_ | refine hr1 _ ?_)
          simp only [go_sem, reduceIte, Nat.reduceEqDiff, reduceCtorEq]
          rw [pathB_no hk2 hbad]
        · have d3 : decide (l.getD k 0 ∈ l.take k) = false := decide_eq_false h3
          have hin : (decide (0 ≤ l.getD k 0) && decide (l.getD k 0 < (N : Int))) = true := by rw [decide_eq_true (by omega), decide_eq_true (by omega)]; rfl
          have hps : pStep N es l k = (decide (k = 0) || decide (turnI (l.getD (k - 1) 0) (l.getD k 0) ∈ castE es)) := by
            unfold pStep; rw [hin, decide_eq_true h3, Bool.true_and, Bool.true_and]
          rcases Nat.eq_zero_or_pos k with hk0 | hk0
          · have d4 : decide ((0 : Int) < (k : Int)) = false := decide_eq_false (by omega)
            have hgood : pStep N es l k = true := by rw [hps, decide_eq_true hk0]; rfl
            refine wlk_sdraw fun KY hKY => ?_
            simp only [go_sem, reduceIte, Nat.reduceEqDiff, Nat.reduceBEq, reduceCtorEq, c_walk_ways_path_r5, d1, d2, d3, d4]
            refine hKY _ ?_
            refine wlk_cond0 (by first | rfl | (simp only [go_sem, reduceIte, Nat.reduceEqDiff, Nat.reduceBEq, reduceCtorEq, Nat.reduceLT, Nat.reduceLeDiff, Nat.reduceAdd, Nat.reduceSub, Nat.reduceMul, Nat.reduceDiv, Int.reduceAdd, Int.reduceNeg, Int.reduceEq, Int.reduceLT, Int.reduceLE]; try simp (disch := omega) only [decide_eq_true, decide_eq_false])) ?_
            refine wlk_skip ?_
            repeat (first | refine hn7 _ ?_ | refine he7 _ _ ?_ | refine hn6 _ ?_ | refine he6 _ ?_ | refine hf6 _ _ (by decide) ?_ | refine hn5 _ ?_ | refine he5 _ _ ?_ | refine hn4 _ ?_ | refine he4 _ _ ?_ | refine he3 _ _ ?_ | refine hn2 _ ?_ | refine he2 _ ?_ | refine hf2 _ _ (by decide) ?_ | refine hn1 _ ?_ | refine he1 _ _ ?_)
            refine wlk_reg fun KY hKY => ?_
            simp only [go_sem, reduceIte, Nat.reduceEqDiff, reduceCtorEq, c_walk_ways_path_r7, d3, ← htk]
            refine hKY _ ?_
            repeat (first | refine hn7 _ ?_ | refine he7 _ _ ?_ | refine hn6 _ ?_ | refine he6 _ ?_ | refine hf6 _ _ (by decide) ?_ | refine hn5 _ ?_ | refine he5 _ _ ?_ | refine hn4 _ ?_ | refine he4 _ _ ?_ | refine he3 _ _ ?_ | refine hn2 _ ?_ | refine he2 _ ?_ | refine hf2 _ _ (by decide) ?_ | refine hn1 _ ?_ | refine he1 _ _ ?_)
            refine wlk_reg fun KY hKY => ?_
            simp only [go_sem, reduceIte, Nat.reduceEqDiff, reduceCtorEq, c_walk_ways_path_r8, incS (show k < 4611686018427387904 by omega)]
            refine hKY _ ?_
            repeat (first | refine hn7 _ ?_ | refine he7 _ _ ?_ | refine hn6 _ ?_ | refine he6 _ ?_ | refine hf6 _ _ (by decide) ?_ | refine hn5 _ ?_ | refine he5 _ _ ?_ | refine hn4 _ ?_ | refine he4 _ _ ?_)
            refine hn3 _ (k + 1) (l.length - (k + 1)) (by omega) (by first | (simp only [go_sem, reduceIte, Nat.reduceEqDiff, reduceCtorEq, updAll_cons, updAll_nil]; done) | with_reducible rfl) ?_
            refine ⟨hk2, rfl, fun i hi => ?_⟩
            rcases Nat.lt_or_ge i (k) with h3 | h3
            · exact hz i h3
            · have : i = k := by omega
              subst this
              exact hgood
          · obtain ⟨m, rfl⟩ : ∃ m, k = m + 1 := ⟨k - 1, by omega⟩
            have hm2 : m < l.length := by omega
            have d4 : decide ((0 : Int) < ((m + 1 : Nat) : Int)) = true := decide_eq_true (by omega)
            rw [decide_eq_false (show ¬ m + 1 = 0 by omega), Bool.false_or, Nat.add_sub_cancel] at hps
            cases hmem : decide (turnI (l.getD m 0) (l.getD (m + 1) 0) ∈ castE es) with
            | true =>
              have hgood : pStep N es l (m + 1) = true := by rw [hps, hmem]
              have hhas : (rightB N (castE es) && decide (turnI (l.getD m 0) (l.getD (m + 1) 0) ∈ castE es)) = true := by rw [hr, hmem]; rfl
              refine wlk_sdraw fun KY hKY => ?_
              simp only [go_sem, reduceIte, Nat.reduceEqDiff, Nat.reduceBEq, reduceCtorEq, Nat.reduceLT, Nat.reduceAdd, c_walk_ways_path_r5, d1, d2, d3, d4, decS (show m < 4611686018427387904 by omega), ints_get hm2, hm2, ints_len]
              refine call_view rfl (by simp only [go_sem, reduceIte, Nat.reduceEqDiff, reduceCtorEq] <;> rfl) ((ghas_ok N (castE es) (l.getD m 0) (l.getD (m + 1) 0)).mono ?_)
              rintro rr hh ⟨rfl, rfl⟩
              refine ⟨rfl, rfl, rfl, ?_⟩
              simp only [go_sem, reduceIte, Nat.reduceEqDiff, reduceCtorEq, hhas]
              refine hKY _ ?_
              refine wlk_cond0 (by first | rfl | (simp only [go_sem, reduceIte, Nat.reduceEqDiff, Nat.reduceBEq, reduceCtorEq, Nat.reduceLT, Nat.reduceLeDiff, Nat.reduceAdd, Nat.reduceSub, Nat.reduceMul, Nat.reduceDiv, Int.reduceAdd, Int.reduceNeg, Int.reduceEq, Int.reduceLT, Int.reduceLE]; try simp (disch := omega) only [decide_eq_true, decide_eq_false])) ?_
              refine wlk_skip ?_
              repeat (first | refine hn7 _ ?_ | refine he7 _ _ ?_ | refine hn6 _ ?_ | refine he6 _ ?_ | refine hf6 _ _ (by decide) ?_ | refine hn5 _ ?_ | refine he5 _ _ ?_ | refine hn4 _ ?_ | refine he4 _ _ ?_ | refine he3 _ _ ?_ | refine hn2 _ ?_ | refine he2 _ ?_ | refine hf2 _ _ (by decide) ?_ | refine hn1 _ ?_ | refine he1 _ _ ?_)
              refine wlk_reg fun KY hKY => ?_
              simp only [go_sem, reduceIte, Nat.reduceEqDiff, reduceCtorEq, c_walk_ways_path_r7, d3, ← htk]
              refine hKY _ ?_
              repeat (first | refine hn7 _ ?_ | refine he7 _ _ ?_ | refine hn6 _ ?_ | refine he6 _ ?_ | refine hf6 _ _ (by decide) ?_ | refine hn5 _ ?_ | refine he5 _ _ ?_ | refine hn4 _ ?_ | refine he4 _ _ ?_ | refine he3 _ _ ?_ | refine hn2 _ ?_ | refine he2 _ ?_ | refine hf2 _ _ (by decide) ?_ | refine hn1 _ ?_ | refine he1 _ _ ?_)
              refine wlk_reg fun KY hKY => ?_
              simp only [go_sem, reduceIte, Nat.reduceEqDiff, reduceCtorEq, c_walk_ways_path_r8, incS (show m + 1 < 4611686018427387904 by omega)]
              refine hKY _ ?_
              repeat (first | refine hn7 _ ?_ | refine he7 _ _ ?_ | refine hn6 _ ?_ | refine he6 _ ?_ | refine hf6 _ _ (by decide) ?_ | refine hn5 _ ?_ | refine he5 _ _ ?_ | refine hn4 _ ?_ | refine he4 _ _ ?_)
              refine hn3 _ (m + 1 + 1) (l.length - (m + 1 + 1)) (by omega) (by first | (simp only [go_sem, reduceIte, Nat.reduceEqDiff, reduceCtorEq, updAll_cons, updAll_nil]; done) | with_reducible rfl) ?_
              refine ⟨hk2, rfl, fun i hi => ?_⟩
              rcases Nat.lt_or_ge i (m + 1) with h3 | h3
              · exact hz i h3
              · have : i = m + 1 := by omega
                subst this
                exact hgood
            | false =>
              have hbad : pStep N es l (m + 1) = false := by rw [hps, hmem]
              have hhas : (rightB N (castE es) && decide (turnI (l.getD m 0) (l.getD (m + 1) 0) ∈ castE es)) = false := by rw [hmem, Bool.and_false]
              refine wlk_sdraw fun KY hKY => ?_
              simp only [go_sem, reduceIte, Nat.reduceEqDiff, Nat.reduceBEq, reduceCtorEq, Nat.reduceLT, Nat.reduceAdd, c_walk_ways_path_r5, d1, d2, d3, d4, decS (show m < 4611686018427387904 by omega), ints_get hm2, hm2, ints_len]
              refine call_view rfl (by simp only [go_sem, reduceIte, Nat.reduceEqDiff, reduceCtorEq] <;> rfl) ((ghas_ok N (castE es) (l.getD m 0) (l.getD (m + 1) 0)).mono ?_)
              rintro rr hh ⟨rfl, rfl⟩
              refine ⟨rfl, rfl, rfl, ?_⟩
              simp only [go_sem, reduceIte, Nat.reduceEqDiff, reduceCtorEq, hhas]
              refine hKY _ ?_
              refine wlk_cond1 (by first | rfl | (simp only [go_sem, reduceIte, Nat.reduceEqDiff, Nat.reduceBEq, reduceCtorEq, Nat.reduceLT, Nat.reduceLeDiff, Nat.reduceAdd, Nat.reduceSub, Nat.reduceMul, Nat.reduceDiv, Int.reduceAdd, Int.reduceNeg, Int.reduceEq, Int.reduceLT, Int.reduceLE]; try simp (disch := omega) only [decide_eq_true, decide_eq_false])) ?_
              refine wlk_sreg fun KY hKY => ?_
              simp only [go_sem, reduceIte, Nat.reduceEqDiff, reduceCtorEq, c_walk_ways_path_r6]
              refine hKY _ ?_
              refine wlk_ret ?_
              repeat (first | refine hr7 _ ?_ | refine hr6 _ ?_ | refine hr5 _ ?_ | refine hr4 _ ?_ | refine hr3 _ ?_ | refine hr2 _ ?_ | refine hr1 _ ?_)
              simp only [go_sem, reduceIte, Nat.reduceEqDiff, reduceCtorEq]
              rw [pathB_no hk2 hbad]
  have hdx : decide ((k : Int) < (l.length : Int)) = false := decide_eq_false (by omega)
  refine wlk_sreg fun KY hKY => ?_
  simp only [go_sem, reduceIte, Nat.reduceEqDiff, reduceCtorEq, c_walk_ways_path_r3, hdx]
  refine hKY _ ?_
  refine wlk_seq fun X8 hn8 he8 hr8 => ?_
  refine wlk_cond0 (by first | rfl | (simp only [go_sem, reduceIte, Nat.reduceEqDiff, Nat.reduceBEq, reduceCtorEq, Nat.reduceLT, Nat.reduceLeDiff, Nat.reduceAdd, Nat.reduceSub, Nat.reduceMul, Nat.reduceDiv, Int.reduceAdd, Int.reduceNeg, Int.reduceEq, Int.reduceLT, Int.reduceLE]; try simp (disch := omega) only [decide_eq_true, decide_eq_false])) ?_
  refine wlk_exit ?_
  repeat (first | refine hn8 _ ?_ | refine he8 _ _ ?_ | refine he3 _ _ ?_ | refine hn2 _ ?_ | refine he2 _ ?_ | refine hf2 _ _ (by decide) ?_ | refine hn1 _ ?_ | refine he1 _ _ ?_)
  obtain rfl : k = l.length := by omega
  refine wlk_sreg fun KY hKY => ?_
  simp only [go_sem, reduceIte, Nat.reduceEqDiff, reduceCtorEq, c_walk_ways_path_r9, ints_len]
  refine hKY _ ?_
  refine wlk_ret ?_
  repeat (first | refine hr8 _ ?_ | refine hr3 _ ?_ | refine hr2 _ ?_ | refine hr1 _ ?_)
  simp only [go_sem, reduceIte, Nat.reduceEqDiff, reduceCtorEq]
  unfold pathB
  rw [show ((List.range l.length).all fun i => pStep N es l i) = true from List.all_eq_true.2 fun i hi => hz i (List.mem_range.1 hi), Bool.and_true]
  congr 2
  rw [decide_eq_decide]; omega
end Go.Proofs.Ytoefhbfgmceikaa
