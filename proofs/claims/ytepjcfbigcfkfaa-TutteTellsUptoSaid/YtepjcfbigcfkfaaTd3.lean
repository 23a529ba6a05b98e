/- That which degrees are right, what any pair lacks, and which edges are a factor, is told right of any graph, and that what is handed in stays, is proved for every input of the given size. -/
import Derived.Test.YtepjcfbigcfkfaaTd2
set_option linter.all false
set_option maxRecDepth 100000
set_option maxHeartbeats 2000000
namespace Go.Proofs.Ytepjcfbigcfkfaa
open Go Go.Ga Go.Ga.Gl
def roomI (l : List Int) (x : Int) (k : Nat) : List Int := l ++ (List.replicate k x ++ List.replicate (3 - k) 0)
theorem roomI_len (l : List Int) (x : Int) (k : Nat) (h : k ≤ 3) : (roomI l x k).length = l.length + 3 := by
  simp [roomI]; omega
theorem roomI_set (l : List Int) (x : Int) (k : Nat) (h : k < 3) : (roomI l x k).set (l.length + k) x = roomI l x (k + 1) := by
  unfold roomI
  rw [List.set_append_right _ _ (by omega)]
  congr 1
  obtain rfl | rfl | rfl : k = 0 ∨ k = 1 ∨ k = 2 := by omega
  all_goals simp [List.replicate]
theorem room_start (l : List Int) (x : Int) : setCells (zeroCellsA [.int .i64 0] (l.length + 3)) 0 (ints l) = ints (roomI l x 0) := by
  rw [ints_zero, setCells_eq _ _ _ (by simp [ints]), List.take_zero, List.nil_append, Nat.zero_add]
  simp [ints, roomI]
theorem room_set (l : List Int) (x : Int) (k : Nat) (h : k < 3) : setCells (ints (roomI l x k)) (l.length + k) [.sc (.int .i64 x)] = ints (roomI l x (k + 1)) := by
  rw [← roomI_set l x k h, ← ints_set]; rfl
theorem own_ok (l : List Int) (x : Int) (hl : l.length ≤ 1000000) : ACalls Try.prog [] n_garlandhelp_Own_int_ [.imm 1 (ints l), .sc (.int .i64 x)] [] fun r h' => r = .sl 0 0 l.length 1 ∧ h' = [some (ints (roomI l x 3))] := by
  have w0 : IntKind.i64.wrap ((l.length : Int) + 3) = ((l.length + 3 : Nat) : Int) := by rw [IntWalk.i64_in _ (by omega)]; omega
  refine go_garlandhelp_Own_int_ rfl ?_
  unfold c_garlandhelp_Own_int_ v_garlandhelp_Own_int_
  refine wlk_sreg fun KY hKY => ?_
  simp only [go_sem, reduceIte, Nat.reduceEqDiff, reduceCtorEq, c_garlandhelp_Own_int__r0]
  refine hKY _ ?_
  refine wlk_sreg fun KY hKY => ?_
  simp only [go_sem, reduceIte, Nat.reduceEqDiff, reduceCtorEq, Int.reduceLE, c_garlandhelp_Own_int__r1, w0, (show 8 * (l.length + 3) ≤ 140737488355328 by omega), (show ((l.length + 3 : Nat) : Int) ≤ 9223372036854775807 by omega)]
  refine hKY _ ?_
  refine wlk_sreg fun KY hKY => ?_
  simp only [go_sem, reduceIte, Nat.reduceEqDiff, reduceCtorEq, c_garlandhelp_Own_int__r2, room_start l x, (show l.length ≤ (zeroCellsA [Value.int IntKind.i64 0] (l.length + 3)).length by rw [ints_zero, ints_len]; simp)]
  refine hKY _ ?_
  refine wlk_sreg fun KY hKY => ?_
  simp only [go_sem, reduceIte, Nat.reduceEqDiff, reduceCtorEq, c_garlandhelp_Own_int__r3, w0, roomI_len l x 0 (by omega), (show l.length + 2 < l.length + 3 by omega), or_true, Nat.sub_zero]
  refine hKY _ ?_
  refine wlk_seq fun X1 hn1 he1 hr1 => ?_
  refine wlk_sreg fun KY hKY => ?_
  simp only [go_sem, reduceIte, Nat.reduceEqDiff, reduceCtorEq, c_garlandhelp_Own_int__r4]
  refine hKY _ ?_
  refine wlk_blk fun X2 hn2 he2 hf2 hr2 => ?_
  try simp only [go_sem, reduceIte, Nat.reduceEqDiff, reduceCtorEq]
  refine wlk_lp (α := Nat) [25] (fun k => [(7, .sc (.int .i64 ((l.length + k : Nat) : Int)))]) (fun k => [some (ints (roomI l x k))]) (fun k q => k ≤ 3 ∧ q = 3 - k) (0) (3) rfl (by first | (simp only [go_sem, reduceIte, Nat.reduceEqDiff, reduceCtorEq, updAll_cons, updAll_nil]; done) | with_reducible rfl | rfl) (⟨by omega, rfl⟩) ?_
  rintro k q ⟨hk, rfl⟩ X3 hn3 he3 hr3
  simp only [go_sem, reduceIte, Nat.reduceEqDiff, reduceCtorEq, updAll_cons, updAll_nil]
  refine wlk_seq fun X4 hn4 he4 hr4 => ?_
  refine wlk_sreg fun KY hKY => ?_
  simp only [go_sem, reduceIte, Nat.reduceEqDiff, reduceCtorEq, c_garlandhelp_Own_int__r5]
  refine hKY _ ?_
  by_cases hk2 : k < 3
  · refine wlk_cond1 (by first | rfl | (simp only [go_sem, reduceIte, Nat.reduceEqDiff, reduceCtorEq]; try simp (disch := omega) only [decide_eq_true])) ?_
    refine wlk_skip ?_
    repeat (first | refine hn4 _ ?_ | refine he4 _ _ ?_ | refine he3 _ _ ?_ | refine hn2 _ ?_ | refine he2 _ ?_ | refine hf2 _ _ (by decide) ?_ | refine hn1 _ ?_ | refine he1 _ _ ?_)
    refine wlk_seq fun X5 hn5 he5 hr5 => ?_
    refine wlk_blk fun X6 hn6 he6 hf6 hr6 => ?_
    refine wlk_reg fun KY hKY => ?_
    simp only [go_sem, reduceIte, Nat.reduceEqDiff, reduceCtorEq, c_garlandhelp_Own_int__r6, (show l.length + k < l.length + 3 by omega), roomI_len l x k hk, room_set l x k hk2]
    refine hKY _ ?_
    repeat (first | refine hn6 _ ?_ | refine he6 _ ?_ | refine hf6 _ _ (by decide) ?_ | refine hn5 _ ?_ | refine he5 _ _ ?_ | refine hn4 _ ?_ | refine he4 _ _ ?_ | refine he3 _ _ ?_ | refine hn2 _ ?_ | refine he2 _ ?_ | refine hf2 _ _ (by decide) ?_ | refine hn1 _ ?_ | refine he1 _ _ ?_)
    refine wlk_reg fun KY hKY => ?_
    simp only [go_sem, reduceIte, Nat.reduceEqDiff, reduceCtorEq, c_garlandhelp_Own_int__r7, incS (show l.length + k < 4611686018427387904 by omega)]
    refine hKY _ ?_
    repeat (first | refine hn6 _ ?_ | refine he6 _ ?_ | refine hf6 _ _ (by decide) ?_ | refine hn5 _ ?_ | refine he5 _ _ ?_ | refine hn4 _ ?_ | refine he4 _ _ ?_)
    refine hn3 _ (k + 1) (3 - (k + 1)) (by omega) (by first | (simp only [go_sem, reduceIte, Nat.reduceEqDiff, reduceCtorEq, updAll_cons, updAll_nil]; done) | with_reducible rfl | rfl) ?_
    exact ⟨hk2, rfl⟩
  · refine wlk_cond0 (by first | rfl | (simp only [go_sem, reduceIte, Nat.reduceEqDiff, reduceCtorEq]; try simp (disch := omega) only [decide_eq_false])) ?_
    refine wlk_exit ?_
    repeat (first | refine hn4 _ ?_ | refine he4 _ _ ?_ | refine he3 _ _ ?_ | refine hn2 _ ?_ | refine he2 _ ?_ | refine hf2 _ _ (by decide) ?_ | refine hn1 _ ?_ | refine he1 _ _ ?_)
    obtain rfl : k = 3 := by omega
    refine wlk_sreg fun KY hKY => ?_
    simp only [go_sem, reduceIte, Nat.reduceEqDiff, reduceCtorEq, c_garlandhelp_Own_int__r8]
    refine hKY _ ?_
    refine wlk_ret ?_
    repeat (first | refine hr4 _ ?_ | refine hr3 _ ?_ | refine hr2 _ ?_ | refine hr1 _ ?_)
    simp only [go_sem, reduceIte, Nat.reduceEqDiff, reduceCtorEq]
theorem room_cut (l : List Int) (x : Int) (k : Nat) : (ints (roomI l x k)).take l.length = ints l := by
  simp [ints, roomI]
theorem room_get (l : List Int) (x : Int) (k : Nat) (h : k < 3) : (ints (roomI l x 3))[l.length + k]? = some (.sc (.int .i64 x)) := by
  have : (roomI l x 3)[l.length + k]? = some x := by
    unfold roomI
    rw [List.getElem?_append_right (by omega)]
    obtain rfl | rfl | rfl : k = 0 ∨ k = 1 ∨ k = 2 := by omega
    all_goals simp [List.replicate]
  exact ints_at this
theorem kept_ok (l : List Int) (x : Int) (hl : l.length ≤ 1000000) : ACalls Try.prog [] n_garlandhelp_Kept_int_ [.sl 0 0 l.length 1, .imm 1 (ints l), .sc (.int .i64 x)] [some (ints (roomI l x 3))] fun r h' => r = .sc (.bool true) ∧ h' = [some (ints (roomI l x 3))] := by
  have w0 : IntKind.i64.wrap ((l.length : Int) + 3) = ((l.length + 3 : Nat) : Int) := by rw [IntWalk.i64_in _ (by omega)]; omega
  have hlen := roomI_len l x 3 (Nat.le_refl _)
  have hcut := room_cut l x 3
  generalize hR : roomI l x 3 = R at hlen hcut
  refine go_garlandhelp_Kept_int_ rfl ?_
  unfold c_garlandhelp_Kept_int_ v_garlandhelp_Kept_int_
  refine wlk_sreg fun KY hKY => ?_
  simp only [go_sem, reduceIte, Nat.reduceEqDiff, reduceCtorEq, c_garlandhelp_Kept_int__r0]
  refine hKY _ ?_
  refine wlk_seq fun X1 hn1 he1 hr1 => ?_
  refine wlk_sreg fun KY hKY => ?_
  simp only [go_sem, reduceIte, Nat.reduceEqDiff, reduceCtorEq, c_garlandhelp_Kept_int__r1]
  have hle : l.length ≤ R.length := by omega
  refine call_view rfl (by simp only [go_sem, reduceIte, Nat.reduceEqDiff, reduceCtorEq, Nat.reduceLT, hcut, ints_len, hle] <;> rfl) ((plaini_ok l l (by omega)).mono ?_)
  rintro rr hh ⟨rfl, rfl⟩
  refine ⟨rfl, rfl, rfl, ?_⟩
  simp only [go_sem, reduceIte, Nat.reduceEqDiff, reduceCtorEq, w0, hlen, ints_len]
  intro n hp1 hp2 hp3
  have hd : decide ((n : Int) < ((l.length + 3 : Nat) : Int)) = false := decide_eq_false (by omega)
  simp only [go_sem, hd]
  refine hKY _ ?_
  refine wlk_cond0 rfl ?_
  refine wlk_skip ?_
  repeat (first | refine hn1 _ ?_ | refine he1 _ _ ?_)
  refine wlk_sreg fun KY hKY => ?_
  simp only [go_sem, reduceIte, Nat.reduceEqDiff, reduceCtorEq, c_garlandhelp_Kept_int__r3, w0, ints_len, hlen, (show l.length + 2 < l.length + 3 by omega), or_true, Nat.sub_zero]
  refine hKY _ ?_
  refine wlk_seq fun X2 hn2 he2 hr2 => ?_
  refine wlk_sreg fun KY hKY => ?_
  simp only [go_sem, reduceIte, Nat.reduceEqDiff, reduceCtorEq, c_garlandhelp_Kept_int__r4]
  refine hKY _ ?_
  refine wlk_blk fun X3 hn3 he3 hf3 hr3 => ?_
  try simp only [go_sem, reduceIte, Nat.reduceEqDiff, reduceCtorEq]
  refine wlk_lp (α := Nat) [31, 39] (fun k => [(8, .sc (.int .i64 ((l.length + k : Nat) : Int)))]) (fun k => [some (ints R)]) (fun k q => k ≤ 3 ∧ q = 3 - k) (0) (3) rfl (by first | (simp only [go_sem, reduceIte, Nat.reduceEqDiff, reduceCtorEq, updAll_cons, updAll_nil]; done) | with_reducible rfl | rfl) (⟨by omega, rfl⟩) ?_
  rintro k q ⟨hk, rfl⟩ X4 hn4 he4 hr4
  simp only [go_sem, reduceIte, Nat.reduceEqDiff, reduceCtorEq, updAll_cons, updAll_nil]
  refine wlk_seq fun X5 hn5 he5 hr5 => ?_
  refine wlk_sreg fun KY hKY => ?_
  simp only [go_sem, reduceIte, Nat.reduceEqDiff, reduceCtorEq, c_garlandhelp_Kept_int__r5]
  refine hKY _ ?_
  by_cases hk2 : k < 3
  · refine wlk_cond1 (by first | rfl | (simp only [go_sem, reduceIte, Nat.reduceEqDiff, reduceCtorEq]; try simp (disch := omega) only [decide_eq_true])) ?_
    refine wlk_skip ?_
    repeat (first | refine hn5 _ ?_ | refine he5 _ _ ?_ | refine he4 _ _ ?_ | refine hn3 _ ?_ | refine he3 _ ?_ | refine hf3 _ _ (by decide) ?_ | refine hn2 _ ?_ | refine he2 _ _ ?_ | refine hn1 _ ?_ | refine he1 _ _ ?_)
    refine wlk_seq fun X6 hn6 he6 hr6 => ?_
    refine wlk_blk fun X7 hn7 he7 hf7 hr7 => ?_
    have hg := room_get l x k hk2
    rw [hR] at hg
    refine wlk_sreg fun KY hKY => ?_
    simp only [go_sem, reduceIte, Nat.reduceEqDiff, reduceCtorEq, c_garlandhelp_Kept_int__r6, (show l.length + k < l.length + 3 by omega), hg]
    refine hKY _ ?_
    refine wlk_cond0 rfl ?_
    refine wlk_skip ?_
    repeat (first | refine hn7 _ ?_ | refine he7 _ ?_ | refine hf7 _ _ (by decide) ?_ | refine hn6 _ ?_ | refine he6 _ _ ?_ | refine hn5 _ ?_ | refine he5 _ _ ?_ | refine he4 _ _ ?_ | refine hn3 _ ?_ | refine he3 _ ?_ | refine hf3 _ _ (by decide) ?_ | refine hn2 _ ?_ | refine he2 _ _ ?_ | refine hn1 _ ?_ | refine he1 _ _ ?_)
    refine wlk_reg fun KY hKY => ?_
    simp only [go_sem, reduceIte, Nat.reduceEqDiff, reduceCtorEq, c_garlandhelp_Kept_int__r8, incS (show l.length + k < 4611686018427387904 by omega)]
    refine hKY _ ?_
    repeat (first | refine hn7 _ ?_ | refine he7 _ ?_ | refine hf7 _ _ (by decide) ?_ | refine hn6 _ ?_ | refine he6 _ _ ?_ | refine hn5 _ ?_ | refine he5 _ _ ?_)
    refine hn4 _ (k + 1) (3 - (k + 1)) (by omega) (by first | (simp only [go_sem, reduceIte, Nat.reduceEqDiff, reduceCtorEq, updAll_cons, updAll_nil]; done) | with_reducible rfl | rfl) ?_
    exact ⟨hk2, rfl⟩
  · refine wlk_cond0 (by first | rfl | (simp only [go_sem, reduceIte, Nat.reduceEqDiff, reduceCtorEq]; try simp (disch := omega) only [decide_eq_false])) ?_
    refine wlk_exit ?_
    repeat (first | refine hn5 _ ?_ | refine he5 _ _ ?_ | refine he4 _ _ ?_ | refine hn3 _ ?_ | refine he3 _ ?_ | refine hf3 _ _ (by decide) ?_ | refine hn2 _ ?_ | refine he2 _ _ ?_ | refine hn1 _ ?_ | refine he1 _ _ ?_)
    obtain rfl : k = 3 := by omega
    refine wlk_sreg fun KY hKY => ?_
    simp only [go_sem, reduceIte, Nat.reduceEqDiff, reduceCtorEq, c_garlandhelp_Kept_int__r9]
    refine hKY _ ?_
    refine wlk_ret ?_
    repeat (first | refine hr5 _ ?_ | refine hr4 _ ?_ | refine hr3 _ ?_ | refine hr2 _ ?_ | refine hr1 _ ?_)
    simp only [go_sem, reduceIte, Nat.reduceEqDiff, reduceCtorEq]
end Go.Proofs.Ytepjcfbigcfkfaa
set_option maxRecDepth 100000
set_option maxHeartbeats 2000000
namespace Go.Proofs.Ytepjcfbigcfkfaa
open Go Go.Ga Go.Ga.Gl
def sumAt (fs : List Int) (l : List Nat) : Int := (l.map fun v => fs.getD v 0).sum
theorem sumAt_snoc (fs : List Int) {l : List Nat} {k v : Nat} (h : l[k]? = some v) : sumAt fs (l.take (k + 1)) = sumAt fs (l.take k) + fs.getD v 0 := by
  unfold sumAt
  rw [List.take_add_one, h]
  simp
theorem sumAt_bound {fs : List Int} (hf : ∀ x ∈ fs, 0 ≤ x ∧ x ≤ 4096) (l : List Nat) : 0 ≤ sumAt fs l ∧ sumAt fs l ≤ 4096 * l.length := by
  induction l with
  | nil => simp [sumAt]
  | cons v l ih =>
    have : 0 ≤ fs.getD v 0 ∧ fs.getD v 0 ≤ 4096 := by
      rw [List.getD_eq_getElem?_getD]
      cases h : fs[v]? with
      | none => simp
      | some x => exact hf x (List.mem_of_getElem? h)
    simp only [sumAt, List.map_cons, List.sum_cons, List.length_cons] at ih ⊢
    omega
theorem nats_at {xs : List Nat} {k x : Nat} (h : xs[k]? = some x) : (nats xs)[k]? = some (.sc (.int .i64 (x : Int))) := by simp [nats, h]
theorem sum_ok (fs : List Int) (l : List Nat) (hf : ∀ x ∈ fs, 0 ≤ x ∧ x ≤ 4096) (hv : ∀ v ∈ l, v < fs.length) (hl : l.length ≤ 1000000) : ACalls Try.prog [] n_tutte_degrees_sum [.imm 1 (ints fs), .imm 1 (nats l)] [] fun r h' => r = .sc (.int .i64 (sumAt fs l)) ∧ h' = [] := by
  refine go_tutte_degrees_sum rfl ?_
  unfold c_tutte_degrees_sum v_tutte_degrees_sum
  refine wlk_sreg fun KY hKY => ?_
  simp only [go_sem, reduceIte, Nat.reduceEqDiff, reduceCtorEq, c_tutte_degrees_sum_r0]
  refine hKY _ ?_
  refine wlk_sreg fun KY hKY => ?_
  simp only [go_sem, reduceIte, Nat.reduceEqDiff, reduceCtorEq, c_tutte_degrees_sum_r1]
  refine hKY _ ?_
  refine wlk_seq fun X1 hn1 he1 hr1 => ?_
  refine wlk_sreg fun KY hKY => ?_
  simp only [go_sem, reduceIte, Nat.reduceEqDiff, reduceCtorEq, c_tutte_degrees_sum_r2]
  refine hKY _ ?_
  refine wlk_blk fun X2 hn2 he2 hf2 hr2 => ?_
  try simp only [go_sem, reduceIte, Nat.reduceEqDiff, reduceCtorEq]
  refine wlk_lp (α := Nat) [7, 11] (fun k => [(5, .sc (.int .i64 (sumAt fs (l.take k)))), (10, .sc (.int .i64 (k : Int)))]) (fun k => []) (fun k q => k ≤ l.length ∧ q = l.length - k) (0) (l.length) rfl (by first | (simp only [go_sem, reduceIte, Nat.reduceEqDiff, reduceCtorEq, updAll_cons, updAll_nil]; done) | with_reducible rfl | rfl) (⟨by omega, rfl⟩) ?_
  rintro k q ⟨hk, rfl⟩ X3 hn3 he3 hr3
  simp only [go_sem, reduceIte, Nat.reduceEqDiff, reduceCtorEq, updAll_cons, updAll_nil]
  refine wlk_sreg fun KY hKY => ?_
  simp only [go_sem, reduceIte, Nat.reduceEqDiff, reduceCtorEq, c_tutte_degrees_sum_r3]
  refine hKY _ ?_
  refine wlk_seq fun X4 hn4 he4 hr4 => ?_
  by_cases hk2 : k < l.length
  · refine wlk_cond1 (by first | rfl | (simp only [go_sem, reduceIte, Nat.reduceEqDiff, reduceCtorEq]; try simp (disch := omega) only [decide_eq_true])) ?_
    refine wlk_skip ?_
    repeat (first | refine hn4 _ ?_ | refine he4 _ _ ?_ | refine he3 _ _ ?_ | refine hn2 _ ?_ | refine he2 _ ?_ | refine hf2 _ _ (by decide) ?_ | refine hn1 _ ?_ | refine he1 _ _ ?_)
    refine wlk_seq fun X5 hn5 he5 hr5 => ?_
    refine wlk_blk fun X6 hn6 he6 hf6 hr6 => ?_
    have hx : l[k]? = some l[k] := List.getElem?_eq_getElem hk2
    have hm : l[k] ∈ l := List.getElem_mem hk2
    generalize l[k] = v at hx hm
    have hvl := hv v hm
    have hb := sumAt_bound hf (l.take k)
    have hs := sumAt_snoc fs hx
    have hb2 := sumAt_bound hf (l.take (k + 1))
    have hlk : (l.take k).length ≤ l.length := by simp; omega
    have hlk2 : (l.take (k + 1)).length ≤ l.length := by simp; omega
    have hw : IntKind.i64.wrap (sumAt fs (l.take k) + fs.getD v 0) = sumAt fs (l.take (k + 1)) := by rw [hs, IntWalk.i64_in _ (by omega)]
    refine wlk_sreg fun KY hKY => ?_
    simp only [go_sem, reduceIte, Nat.reduceEqDiff, reduceCtorEq, c_tutte_degrees_sum_r4, nats_at hx, nats_len, hk2]
    refine hKY _ ?_
    refine wlk_reg fun KY hKY => ?_
    simp only [go_sem, reduceIte, Nat.reduceEqDiff, reduceCtorEq, c_tutte_degrees_sum_r5, ints_get hvl, ints_len, hvl, hw]
    refine hKY _ ?_
    repeat (first | refine hn6 _ ?_ | refine he6 _ ?_ | refine hf6 _ _ (by decide) ?_ | refine hn5 _ ?_ | refine he5 _ _ ?_ | refine hn4 _ ?_ | refine he4 _ _ ?_ | refine he3 _ _ ?_ | refine hn2 _ ?_ | refine he2 _ ?_ | refine hf2 _ _ (by decide) ?_ | refine hn1 _ ?_ | refine he1 _ _ ?_)
    refine wlk_reg fun KY hKY => ?_
    simp only [go_sem, reduceIte, Nat.reduceEqDiff, reduceCtorEq, c_tutte_degrees_sum_r6, incS (show k < 4611686018427387904 by omega)]
    refine hKY _ ?_
    repeat (first | refine hn6 _ ?_ | refine he6 _ ?_ | refine hf6 _ _ (by decide) ?_ | refine hn5 _ ?_ | refine he5 _ _ ?_ | refine hn4 _ ?_ | refine he4 _ _ ?_)
    refine hn3 _ (k + 1) (l.length - (k + 1)) (by omega) (by first | (simp only [go_sem, reduceIte, Nat.reduceEqDiff, reduceCtorEq, updAll_cons, updAll_nil]; done) | with_reducible rfl) ?_
    exact ⟨hk2, rfl⟩
  · refine wlk_cond0 (by first | rfl | (simp only [go_sem, reduceIte, Nat.reduceEqDiff, reduceCtorEq]; try simp (disch := omega) only [decide_eq_false])) ?_
    refine wlk_exit ?_
    repeat (first | refine hn4 _ ?_ | refine he4 _ _ ?_ | refine he3 _ _ ?_ | refine hn2 _ ?_ | refine he2 _ ?_ | refine hf2 _ _ (by decide) ?_ | refine hn1 _ ?_ | refine he1 _ _ ?_)
    obtain rfl : k = l.length := by omega
    rw [List.take_length]
    refine wlk_sreg fun KY hKY => ?_
    simp only [go_sem, reduceIte, Nat.reduceEqDiff, reduceCtorEq, c_tutte_degrees_sum_r7]
    refine hKY _ ?_
    refine wlk_ret ?_
    repeat (first | refine hr4 _ ?_ | refine hr3 _ ?_ | refine hr2 _ ?_ | refine hr1 _ ?_)
    simp only [go_sem, reduceIte, Nat.reduceEqDiff, reduceCtorEq]
theorem any_ok (g : Nat) (φ : Int → Bool) (l : List Int) (hl : l.length ≤ 1000000000) (hg : ∀ x ∈ l, ACalls Try.prog [] g [.sc (.int .i64 x)] [] fun r h' => r = .sc (.bool (φ x)) ∧ h' = []) : ACalls Try.prog [] n_slices_IndexFunc___int_int_ [.imm 1 (ints l), .fn (.func g) [] []] [] fun r h' => (∃ k : Int, r = .sc (.int .i64 k) ∧ (0 ≤ k ↔ ∃ x ∈ l, φ x = true)) ∧ h' = [] := by
  refine go_slices_IndexFunc___int_int_ rfl ?_
  unfold c_slices_IndexFunc___int_int_ v_slices_IndexFunc___int_int_
  refine wlk_sreg fun KY hKY => ?_
  simp only [go_sem, reduceIte, Nat.reduceEqDiff, reduceCtorEq, c_slices_IndexFunc___int_int__r0]
  refine hKY _ ?_
  refine wlk_seq fun X1 hn1 he1 hr1 => ?_
  refine wlk_sreg fun KY hKY => ?_
  simp only [go_sem, reduceIte, Nat.reduceEqDiff, reduceCtorEq, c_slices_IndexFunc___int_int__r1, ints_len]
  refine hKY _ ?_
  refine wlk_blk fun X2 hn2 he2 hf2 hr2 => ?_
  try simp only [go_sem, reduceIte, Nat.reduceEqDiff, reduceCtorEq]
  refine wlk_lp (α := Nat) [5, 9, 16] (fun k => [(8, .sc (.int .i64 (k : Int)))]) (fun k => []) (fun k q => k ≤ l.length ∧ q = l.length - k ∧ ∀ j x, j < k → l[j]? = some x → φ x = false) (0) (l.length) rfl (by first | (simp only [go_sem, reduceIte, Nat.reduceEqDiff, reduceCtorEq, updAll_cons, updAll_nil]; done) | with_reducible rfl | rfl) (⟨by omega, rfl, fun j x h => by omega⟩) ?_
  rintro k q ⟨hk, rfl, hz⟩ X3 hn3 he3 hr3
  simp only [go_sem, reduceIte, Nat.reduceEqDiff, reduceCtorEq, updAll_cons, updAll_nil]
  refine wlk_sreg fun KY hKY => ?_
  simp only [go_sem, reduceIte, Nat.reduceEqDiff, reduceCtorEq, c_slices_IndexFunc___int_int__r2]
  refine hKY _ ?_
  refine wlk_seq fun X4 hn4 he4 hr4 => ?_
  by_cases hk2 : k < l.length
  · refine wlk_cond1 (by first | rfl | (simp only [go_sem, reduceIte, Nat.reduceEqDiff, reduceCtorEq]; try simp (disch := omega) only [decide_eq_true])) ?_
    refine wlk_skip ?_
    repeat (first | refine hn4 _ ?_ | refine he4 _ _ ?_ | refine he3 _ _ ?_ | refine hn2 _ ?_ | refine he2 _ ?_ | refine hf2 _ _ (by decide) ?_ | refine hn1 _ ?_ | refine he1 _ _ ?_)
    refine wlk_seq fun X5 hn5 he5 hr5 => ?_
    refine wlk_blk fun X6 hn6 he6 hf6 hr6 => ?_
    have hx : l[k]? = some l[k] := List.getElem?_eq_getElem hk2
    have hmem : l[k] ∈ l := List.getElem_mem hk2
    generalize l[k] = x at hx hmem
    refine wlk_sreg fun KY hKY => ?_
    simp only [go_sem, reduceIte, Nat.reduceEqDiff, reduceCtorEq, c_slices_IndexFunc___int_int__r3]
    refine hKY _ ?_
    have hgx := hg x hmem
    refine wlk_sreg fun KY hKY => ?_
    simp only [go_sem, reduceIte, Nat.reduceEqDiff, reduceCtorEq, c_slices_IndexFunc___int_int__r4, ints_at hx, hk2, ints_len]
    refine call_view rfl (by simp only [go_sem, reduceIte, Nat.reduceEqDiff, reduceCtorEq] <;> rfl) ((hgx).mono ?_)
    rintro rr hh ⟨rfl, rfl⟩
    refine ⟨rfl, rfl, rfl, ?_⟩
    simp only [go_sem]
    refine hKY _ ?_
    cases hp : φ x with
    | true =>
      refine wlk_cond1 rfl ?_
      refine wlk_sreg fun KY hKY => ?_
      simp only [go_sem, reduceIte, Nat.reduceEqDiff, reduceCtorEq, c_slices_IndexFunc___int_int__r5]
      refine hKY _ ?_
      refine wlk_ret ?_
      repeat (first | refine hr6 _ ?_ | refine hr5 _ ?_ | refine hr4 _ ?_ | refine hr3 _ ?_ | refine hr2 _ ?_ | refine hr1 _ ?_)
      simp only [go_sem, reduceIte, Nat.reduceEqDiff, reduceCtorEq]
      exact ⟨(k : Int), rfl, fun _ => ⟨x, hmem, hp⟩, fun _ => by omega⟩
    | false =>
      refine wlk_cond0 rfl ?_
      refine wlk_skip ?_
      repeat (first | refine hn6 _ ?_ | refine he6 _ ?_ | refine hf6 _ _ (by decide) ?_ | refine hn5 _ ?_ | refine he5 _ _ ?_ | refine hn4 _ ?_ | refine he4 _ _ ?_ | refine he3 _ _ ?_ | refine hn2 _ ?_ | refine he2 _ ?_ | refine hf2 _ _ (by decide) ?_ | refine hn1 _ ?_ | refine he1 _ _ ?_)
      refine wlk_reg fun KY hKY => ?_
      simp only [go_sem, reduceIte, Nat.reduceEqDiff, reduceCtorEq, c_slices_IndexFunc___int_int__r6, incS (show k < 4611686018427387904 by omega)]
      refine hKY _ ?_
      repeat (first | refine hn6 _ ?_ | refine he6 _ ?_ | refine hf6 _ _ (by decide) ?_ | refine hn5 _ ?_ | refine he5 _ _ ?_ | refine hn4 _ ?_ | refine he4 _ _ ?_)
      refine hn3 _ (k + 1) (l.length - (k + 1)) (by omega) (by first | (simp only [go_sem, reduceIte, Nat.reduceEqDiff, reduceCtorEq, updAll_cons, updAll_nil]; done) | with_reducible rfl) ?_
      refine ⟨hk2, rfl, fun j y hj hy => ?_⟩
      rcases Nat.lt_or_ge j k with h | h
      · exact hz j y h hy
      · obtain rfl : j = k := by omega
        rw [hx] at hy; cases hy; exact hp
  · refine wlk_cond0 (by first | rfl | (simp only [go_sem, reduceIte, Nat.reduceEqDiff, reduceCtorEq]; try simp (disch := omega) only [decide_eq_false])) ?_
    refine wlk_exit ?_
    repeat (first | refine hn4 _ ?_ | refine he4 _ _ ?_ | refine he3 _ _ ?_ | refine hn2 _ ?_ | refine he2 _ ?_ | refine hf2 _ _ (by decide) ?_ | refine hn1 _ ?_ | refine he1 _ _ ?_)
    refine wlk_sreg fun KY hKY => ?_
    simp only [go_sem, reduceIte, Nat.reduceEqDiff, reduceCtorEq, Int.reduceAdd, Int.reduceNeg, c_slices_IndexFunc___int_int__r7]
    refine hKY _ ?_
    refine wlk_ret ?_
    repeat (first | refine hr4 _ ?_ | refine hr3 _ ?_ | refine hr2 _ ?_ | refine hr1 _ ?_)
    simp only [go_sem, reduceIte, Nat.reduceEqDiff, reduceCtorEq, Int.reduceNeg]
    refine ⟨-1, rfl, fun h => by omega, fun ⟨x, hx, hp⟩ => ?_⟩
    obtain ⟨j, hj⟩ := List.mem_iff_getElem?.1 hx
    have := hz j x (by have := (List.getElem?_eq_some_iff.1 hj).1; omega) hj
    rw [this] at hp; cases hp
theorem anyI_ok (g : Nat) (φ : Int → Bool) (l : List Int) (hl : l.length ≤ 1000000000) (hg : ∀ x ∈ l, ACalls Try.prog [] g [.sc (.int .i64 x)] [] fun r h' => r = .sc (.bool (φ x)) ∧ h' = []) : ACalls Try.prog [] n_slices_ContainsFunc___int_int_ [.imm 1 (ints l), .fn (.func g) [] []] [] fun r h' => r = .sc (.bool (l.any φ)) ∧ h' = [] := by
  refine go_slices_ContainsFunc___int_int_ rfl ?_
  unfold c_slices_ContainsFunc___int_int_ v_slices_ContainsFunc___int_int_
  refine wlk_sreg fun KY hKY => ?_
  simp only [go_sem, reduceIte, Nat.reduceEqDiff, reduceCtorEq, c_slices_ContainsFunc___int_int__r0]
  refine hKY _ ?_
  refine wlk_sreg fun KY hKY => ?_
  simp only [go_sem, reduceIte, Nat.reduceEqDiff, reduceCtorEq, c_slices_ContainsFunc___int_int__r1]
  refine call_view rfl (by simp only [go_sem, reduceIte, Nat.reduceEqDiff, reduceCtorEq] <;> rfl) ((any_ok g φ l hl hg).mono ?_)
  rintro rr hh ⟨⟨k, rfl, hk⟩, rfl⟩
  refine ⟨?_, ?_, ?_, ?_⟩
  iterate 3 (first | rfl | simp only [go_sem, reduceIte, Nat.reduceEqDiff, Nat.reduceBEq, reduceCtorEq, Nat.reduceLT, Nat.reduceLeDiff, Nat.reduceAdd, Nat.reduceSub, Nat.reduceMul, Nat.reduceDiv, Int.reduceAdd, Int.reduceNeg, Int.reduceEq, Int.reduceLT, Int.reduceLE])
  have hd : decide (0 ≤ k) = l.any φ := by rw [Bool.eq_iff_iff, decide_eq_true_iff, List.any_eq_true, hk]
  simp only [go_sem, reduceIte, Nat.reduceEqDiff, reduceCtorEq, hd]
  refine hKY _ ?_
  refine wlk_ret ?_
  simp only [go_sem, reduceIte, Nat.reduceEqDiff, reduceCtorEq]
def degsB (n : Int) (fs : List Int) : Bool := decide ((fs.length : Int) = n) && fs.all fun x => decide (0 ≤ x) && decide (x ≤ 4096)
def tErr (n : Int) (es : List (Int × Int)) (fs : List Int) : Int := bif rightB n es then (bif degsB n fs then 0 else 12) else 3
theorem tright1_ok (x : Int) : ACalls Try.prog [] n_tutte_Right_1 [.sc (.int .i64 x)] [] fun r h' => r = .sc (.bool (!(decide (0 ≤ x) && decide (x ≤ 4096)))) ∧ h' = [] := by
  refine go_tutte_Right_1 rfl ?_
  unfold c_tutte_Right_1 v_tutte_Right_1
  refine wlk_sreg fun KY hKY => ?_
  simp only [go_sem, reduceIte, reduceCtorEq, c_tutte_Right_1_r0]
  refine hKY _ ?_
  by_cases h1 : x < 0
  · have d1 : decide (x < 0) = true := decide_eq_true h1
    refine wlk_sreg fun KY hKY => ?_
    simp only [go_sem, reduceIte, Nat.reduceEqDiff, reduceCtorEq, c_tutte_Right_1_r1, d1]
    refine hKY _ ?_
    refine wlk_ret ?_
    simp only [go_sem, reduceIte, Nat.reduceEqDiff, reduceCtorEq]
    rw [decide_eq_false (show ¬ 0 ≤ x by omega)]; rfl
  · have d1 : decide (x < 0) = false := decide_eq_false h1
    refine wlk_sreg fun KY hKY => ?_
    simp only [go_sem, reduceIte, Nat.reduceEqDiff, reduceCtorEq, c_tutte_Right_1_r1, d1]
    refine hKY _ ?_
    refine wlk_ret ?_
    simp only [go_sem, reduceIte, Nat.reduceEqDiff, reduceCtorEq]
    rw [decide_eq_true (show 0 ≤ x by omega)]
    congr 2
    rw [Bool.eq_iff_iff]; simp
theorem tright_ok (n : Int) (es : List (Int × Int)) (fs : List Int) (hl : fs.length ≤ 1000000000) : ACalls Try.prog [] n_tutte_Right [.agg [.sc (.int .i64 n), .imm 2 (twos es)], .imm 1 (ints fs)] [] fun r h' => r = .sc (.int .i64 (tErr n es fs)) ∧ h' = [] := by
  refine ACalls.trim ?_
  refine go_tutte_Right rfl ?_
  unfold c_tutte_Right v_tutte_Right
  refine wlk_sreg fun KY hKY => ?_
  simp only [go_sem, reduceIte, Nat.reduceEqDiff, reduceCtorEq, c_tutte_Right_r0]
  refine hKY _ ?_
  refine wlk_seq fun X1 hn1 he1 hr1 => ?_
  refine wlk_sreg fun KY hKY => ?_
  simp only [go_sem, reduceIte, Nat.reduceEqDiff, reduceCtorEq, Nat.reduceLT, Nat.reduceAdd, c_tutte_Right_r1]
  refine call_view rfl (by simp only [go_sem, reduceIte, Nat.reduceEqDiff, reduceCtorEq] <;> rfl) ((right_ok n es).mono ?_)
  rintro rr hh ⟨rfl, rfl⟩
  refine ⟨rfl, rfl, rfl, ?_⟩
  simp only [go_sem, reduceIte, Nat.reduceEqDiff, reduceCtorEq]
  refine hKY _ ?_
  cases hr : rightB n es with
  | false =>
    refine wlk_cond1 rfl ?_
    refine wlk_sreg fun KY hKY => ?_
    simp only [go_sem, reduceIte, Nat.reduceEqDiff, reduceCtorEq, c_tutte_Right_r2]
    refine hKY _ ?_
    refine wlk_ret ?_
    repeat (first | refine hr1 _ ?_)
    simp only [go_sem, reduceIte, Nat.reduceEqDiff, reduceCtorEq]
    simp [tErr, hr]
  | true =>
    refine wlk_cond0 rfl ?_
    refine wlk_skip ?_
    repeat (first | refine hn1 _ ?_ | refine he1 _ _ ?_)
    refine wlk_seq fun X2 hn2 he2 hr2 => ?_
    by_cases h1 : (fs.length : Int) = n
    · have d1 : decide ((fs.length : Int) ≠ n) = false := decide_eq_false (fun h => h h1)
      refine wlk_sreg fun KY hKY => ?_
      simp only [go_sem, reduceIte, Nat.reduceEqDiff, reduceCtorEq, c_tutte_Right_r3, d1, ints_len]
      refine call_view rfl (by simp only [go_sem, reduceIte, Nat.reduceEqDiff, reduceCtorEq] <;> rfl) ((anyI_ok n_tutte_Right_1 (fun x => !(decide (0 ≤ x) && decide (x ≤ 4096))) fs hl (fun x _ => tright1_ok x)).mono ?_)
      rintro rr hh ⟨rfl, rfl⟩
      refine ⟨rfl, rfl, rfl, ?_⟩
      simp only [go_sem, reduceIte, Nat.reduceEqDiff, reduceCtorEq]
      refine hKY _ ?_
      cases ha : fs.any (fun x => !(decide (0 ≤ x) && decide (x ≤ 4096))) with
      | true =>
        refine wlk_cond1 rfl ?_
        refine wlk_sreg fun KY hKY => ?_
        simp only [go_sem, reduceIte, Nat.reduceEqDiff, reduceCtorEq, c_tutte_Right_r4]
        refine hKY _ ?_
        refine wlk_ret ?_
        repeat (first | refine hr2 _ ?_ | refine hr1 _ ?_)
        simp only [go_sem, reduceIte, Nat.reduceEqDiff, reduceCtorEq]
        have : degsB n fs = false := by
          unfold degsB
          rw [List.any_eq_true] at ha
          obtain ⟨x, hx, h2⟩ := ha
          rw [Bool.and_eq_false_iff]; right
          rw [List.all_eq_false]
          exact ⟨x, hx, by rw [Bool.not_eq_true'] at h2; simp only [h2]; exact Bool.false_ne_true⟩
        simp [tErr, hr, this]
      | false =>
        refine wlk_cond0 rfl ?_
        refine wlk_skip ?_
        repeat (first | refine hn2 _ ?_ | refine he2 _ _ ?_ | refine hn1 _ ?_ | refine he1 _ _ ?_)
        refine wlk_sreg fun KY hKY => ?_
        simp only [go_sem, reduceIte, Nat.reduceEqDiff, reduceCtorEq, c_tutte_Right_r5]
        refine hKY _ ?_
        refine wlk_ret ?_
        repeat (first | refine hr2 _ ?_ | refine hr1 _ ?_)
        simp only [go_sem, reduceIte, Nat.reduceEqDiff, reduceCtorEq]
        have : degsB n fs = true := by
          unfold degsB
          rw [decide_eq_true h1, Bool.true_and, List.all_eq_true]
          intro x hx
          rw [List.any_eq_false] at ha
          simpa using ha x hx
        simp [tErr, hr, this]
    · have d1 : decide ((fs.length : Int) ≠ n) = true := decide_eq_true h1
      refine wlk_sreg fun KY hKY => ?_
      simp only [go_sem, reduceIte, Nat.reduceEqDiff, reduceCtorEq, c_tutte_Right_r3, d1, ints_len]
      refine hKY _ ?_
      refine wlk_cond1 rfl ?_
      refine wlk_sreg fun KY hKY => ?_
      simp only [go_sem, reduceIte, Nat.reduceEqDiff, reduceCtorEq, c_tutte_Right_r4]
      refine hKY _ ?_
      refine wlk_ret ?_
      repeat (first | refine hr2 _ ?_ | refine hr1 _ ?_)
      simp only [go_sem, reduceIte, Nat.reduceEqDiff, reduceCtorEq]
      simp [tErr, hr, degsB, h1]
end Go.Proofs.Ytepjcfbigcfkfaa
set_option maxRecDepth 100000
set_option maxHeartbeats 2000000
namespace Go.Proofs.Ytepjcfbigcfkfaa
open Go Go.Ga Go.Ga.Gl
def upB (N : Nat) (l : List Int) : Bool := (l.all fun v => decide (0 ≤ v) && decide (v < N)) && decide (l.Pairwise (· < ·))
def okPB (N : Nat) (S T : List Int) : Bool := upB N S && upB N T && S.all fun v => decide (v ∉ T)
def atL (N : Nat) (S T : List Int) : List Int := (List.range N).map fun v : Nat => if (v : Int) ∈ S then 1 else if (v : Int) ∈ T then 2 else 0
theorem up_snoc {N : Nat} {l : List Int} {i : Nat} {v : Int} (h : upB N (l.take i) = true) (hx : l[i]? = some v) (h0 : 0 ≤ v) (h1 : v < N) (hf : v ∉ l.take i) (hl : 0 < i → ∀ u, l[i - 1]? = some u → u ≤ v) : upB N (l.take (i + 1)) = true := by
  unfold upB at h ⊢
  rw [Bool.and_eq_true, decide_eq_true_iff, List.all_eq_true] at h ⊢
  rw [List.take_add_one, hx]
  refine ⟨fun x hx => ?_, ?_⟩
  · rcases List.mem_append.1 hx with h' | h'
    · exact h.1 x h'
    · simp at h'; subst h'; simp [h0, h1]
  · show ((l.take i) ++ [v]).Pairwise (· < ·)
    rw [List.pairwise_append]
    refine ⟨h.2, by simp, fun x hx' y hy => ?_⟩
    simp at hy; subst hy
    have hne : x ≠ y := fun e => hf (e ▸ hx')
    have : x ≤ y := by
      obtain ⟨j, hj, rfl⟩ := List.mem_iff_getElem.1 hx'
      have hji : j < i := by simp at hj; omega
      have hil : i ≤ l.length := by have := (List.getElem?_eq_some_iff.1 hx).1; omega
      have hlast := hl (by omega) (l[i - 1]'(by omega)) (List.getElem?_eq_getElem (by omega))
      rcases Nat.lt_or_ge j (i - 1) with h2 | h2
      · have := List.pairwise_iff_getElem.1 h.2 j (i - 1) (by simp; omega) (by simp; omega) h2
        simp only [List.getElem_take] at this ⊢
        omega
      · have : j = i - 1 := by omega
        subst this
        simp only [List.getElem_take]; exact hlast
    omega
theorem up_none {N : Nat} {l : List Int} {i : Nat} {v : Int} (hx : l[i]? = some v) (h : upB N l = true) : 0 ≤ v ∧ v < N ∧ v ∉ l.take i ∧ (0 < i → ∀ u, l[i - 1]? = some u → u ≤ v) := by
  unfold upB at h
  rw [Bool.and_eq_true, decide_eq_true_iff, List.all_eq_true] at h
  obtain ⟨hi, rfl⟩ := List.getElem?_eq_some_iff.1 hx
  have h1 := h.1 _ (List.getElem_mem hi)
  simp only [Bool.and_eq_true, decide_eq_true_iff] at h1
  refine ⟨h1.1, h1.2, fun hm => ?_, fun h0 u hu => ?_⟩
  · obtain ⟨j, hj, e⟩ := List.mem_iff_getElem.1 hm
    rw [List.getElem_take] at e
    have := List.pairwise_iff_getElem.1 h.2 j i (by simp at hj; omega) hi (by simp at hj; omega)
    omega
  · obtain ⟨hu1, rfl⟩ := List.getElem?_eq_some_iff.1 hu
    have := List.pairwise_iff_getElem.1 h.2 (i - 1) i hu1 hi (by omega)
    omega
def atM (N : Nat) (base : Nat → Int) (l : List Int) (m : Int) : List Int := (List.range N).map fun v : Nat => if (v : Int) ∈ l then m else base v
theorem atM_len (N : Nat) (base : Nat → Int) (l : List Int) (m : Int) : (atM N base l m).length = N := by simp [atM]
theorem atM_get {N : Nat} (base : Nat → Int) (l : List Int) (m : Int) {v : Nat} (h : v < N) : (atM N base l m).getD v 0 = if (v : Int) ∈ l then m else base v := by
  simp [atM, h]
theorem atM_set {N : Nat} (base : Nat → Int) (l : List Int) (m : Int) (v : Nat) {w : Int} (hw : w = v) : (atM N base l m).set v m = atM N base (l ++ [w]) m := by
  subst hw
  apply List.ext_getElem
  · simp [atM]
  · intro j h1 h2
    simp only [atM, List.getElem_set, List.getElem_map, List.getElem_range, List.mem_append, List.mem_singleton]
    by_cases e : v = j
    · subst e; simp
    · rw [if_neg e]
      have : ¬ ((j : Int) = (v : Int)) := by omega
      simp [this]
theorem okP_S {N : Nat} {S T : List Int} (h : okPB N S T = true) : upB N S = true := by
  unfold okPB at h; simp only [Bool.and_eq_true] at h; exact h.1.1
theorem okP_T {N : Nat} {S T : List Int} (h : okPB N S T = true) : upB N T = true := by
  unfold okPB at h; simp only [Bool.and_eq_true] at h; exact h.1.2
theorem okP_D {N : Nat} {S T : List Int} (h : okPB N S T = true) {v : Int} (hs : v ∈ S) : v ∉ T := by
  unfold okPB at h; simp only [Bool.and_eq_true, List.all_eq_true, decide_eq_true_iff] at h; exact h.2 v hs
theorem placed_ok (N : Nat) (S T : List Int) (hN : N ≤ 4096) (hS : S.length ≤ 1000000) (hT : T.length ≤ 1000000) : ACalls Try.prog [] n_tutte_placed [.sc (.int .i64 (N : Int)), .agg [.imm 1 (ints S), .imm 1 (ints T)]] [] fun r h' => r = (bif okPB N S T then .tup [.own (some 1) (ints (atL N S T)), .sc (.bool true)] else .tup [.sc (.slice none 0 0), .sc (.bool false)]) ∧ h' = [] := by
  refine go_tutte_placed rfl ?_
  unfold c_tutte_placed v_tutte_placed
  refine wlk_sreg fun KY hKY => ?_
  simp only [go_sem, reduceIte, Nat.reduceEqDiff, reduceCtorEq, c_tutte_placed_r0]
  refine hKY _ ?_
  refine wlk_sreg fun KY hKY => ?_
  simp only [go_sem, reduceIte, Nat.reduceEqDiff, reduceCtorEq, c_tutte_placed_r1, (show 8 * N ≤ 140737488355328 by omega), ints_zero, (show (N : Int) ≤ (N : Int) from Int.le_refl _), (show (N : Int) ≤ 9223372036854775807 by omega)]
  refine hKY _ ?_
  rw [show List.replicate N (0 : Int) = atM N (fun _ => 0) [] 1 from List.ext_getElem (by simp [atM]) (by simp [atM])]
  refine wlk_seq fun X1 hn1 he1 hr1 => ?_
  refine wlk_sreg fun KY hKY => ?_
  simp only [go_sem, reduceIte, Nat.reduceEqDiff, reduceCtorEq, Nat.reduceLT, Nat.reduceAdd, c_tutte_placed_r2]
  refine hKY _ ?_
  refine wlk_blk fun X2 hn2 he2 hf2 hr2 => ?_
  try simp only [go_sem, reduceIte, Nat.reduceEqDiff, reduceCtorEq]
  refine wlk_lp (α := Nat) [7, 8, 9, 10, 20, 24, 25, 26, 27, 57] (fun k => [(6, .own (some 1) (ints (bif k == 0 then atM N (fun _ => 0) [] 1 else bif k == 1 then atM N (fun _ => 0) S 1 else atM N (fun v => if (v : Int) ∈ S then 1 else 0) T 2))), (19, .sc (.int .i64 (k : Int)))]) (fun k => []) (fun k q => k ≤ 2 ∧ q = 2 - k ∧ (0 < k → upB N S = true) ∧ (1 < k → upB N T = true ∧ ∀ v : Nat, (v : Int) ∈ T → (v : Int) ∉ S)) (0) (2) rfl (by first | (simp only [go_sem, reduceIte, Nat.reduceEqDiff, Nat.reduceBEq, reduceCtorEq, updAll_cons, updAll_nil]; done) | with_reducible rfl | rfl) (⟨by omega, rfl, by omega, by omega⟩) ?_
  rintro k q ⟨hk, rfl, hA, hB⟩ X3 hn3 he3 hr3
  simp only [go_sem, reduceIte, Nat.reduceEqDiff, reduceCtorEq, updAll_cons, updAll_nil]
  refine wlk_sreg fun KY hKY => ?_
  simp only [go_sem, reduceIte, Nat.reduceEqDiff, reduceCtorEq, c_tutte_placed_r3]
  refine hKY _ ?_
  refine wlk_seq fun X4 hn4 he4 hr4 => ?_
  by_cases hk0 : k = 0
  · subst hk0
    refine wlk_cond1 rfl ?_
    refine wlk_skip ?_
    repeat (first | refine hn4 _ ?_ | refine he4 _ _ ?_ | refine he3 _ _ ?_ | refine hn2 _ ?_ | refine he2 _ ?_ | refine hf2 _ _ (by decide) ?_ | refine hn1 _ ?_ | refine he1 _ _ ?_)
    generalize hb : (fun _ : Nat => (0 : Int)) = base
    refine wlk_seq fun X5 hn5 he5 hr5 => ?_
    refine wlk_blk fun X6 hn6 he6 hf6 hr6 => ?_
    refine wlk_sreg fun KY hKY => ?_
    simp only [go_sem, reduceIte, Nat.reduceEqDiff, Nat.reduceBEq, reduceCtorEq, Nat.reduceLT, Nat.reduceAdd, Int.reduceLT, Int.reduceLE, c_tutte_placed_r4]
    refine hKY _ ?_
    refine wlk_sreg fun KY hKY => ?_
    simp only [go_sem, reduceIte, Nat.reduceEqDiff, reduceCtorEq, c_tutte_placed_r5, ints_len]
    refine hKY _ ?_
    refine wlk_blk fun X7 hn7 he7 hf7 hr7 => ?_
    try simp only [go_sem, reduceIte, Nat.reduceEqDiff, reduceCtorEq]
    refine wlk_lp (α := Nat) [9, 10, 27, 57] (fun i => [(6, .own (some 1) (ints (atM N base ((S).take i) (1)))), (26, .sc (.int .i64 (i : Int)))]) (fun i => []) (fun i q => i ≤ (S).length ∧ q = (S).length - i ∧ upB N ((S).take i) = true ∧ ∀ v : Nat, (v : Int) ∈ (S).take i → base v = 0) (0) ((S).length) rfl (by first | (simp only [go_sem, reduceIte, Nat.reduceEqDiff, reduceCtorEq, updAll_cons, updAll_nil]; done) | with_reducible rfl | rfl) (⟨by omega, rfl, by simp [upB], by simp⟩) ?_
    rintro i q ⟨hi, rfl, hu, hfree⟩ X8 hn8 he8 hr8
    simp only [go_sem, reduceIte, Nat.reduceEqDiff, reduceCtorEq, updAll_cons, updAll_nil]
    refine wlk_sreg fun KY hKY => ?_
    simp only [go_sem, reduceIte, Nat.reduceEqDiff, reduceCtorEq, c_tutte_placed_r6]
    refine hKY _ ?_
    refine wlk_seq fun X9 hn9 he9 hr9 => ?_
    by_cases hi2 : i < (S).length
    · refine wlk_cond1 (by first | rfl | (simp only [go_sem, reduceIte, Nat.reduceEqDiff, reduceCtorEq]; try simp (disch := omega) only [decide_eq_true])) ?_
      refine wlk_skip ?_
      repeat (first | refine hn9 _ ?_ | refine he9 _ _ ?_ | refine he8 _ _ ?_ | refine hn7 _ ?_ | refine he7 _ ?_ | refine hf7 _ _ (by decide) ?_ | refine hn6 _ ?_ | refine he6 _ ?_ | refine hf6 _ _ (by decide) ?_ | refine hn5 _ ?_ | refine he5 _ _ ?_ | refine hn4 _ ?_ | refine he4 _ _ ?_)
      refine wlk_seq fun X10 hn10 he10 hr10 => ?_
      refine wlk_blk fun X11 hn11 he11 hf11 hr11 => ?_
      have hx : (S)[i]? = some (S)[i] := List.getElem?_eq_getElem hi2
      have hprev : 0 < i → ∃ u, (S)[i - 1]? = some u := fun h => ⟨(S)[i - 1], List.getElem?_eq_getElem (by omega)⟩
      generalize (S)[i] = v at hx
      refine wlk_sreg fun KY hKY => ?_
      simp only [go_sem, reduceIte, Nat.reduceEqDiff, reduceCtorEq, c_tutte_placed_r7, ints_at hx, hi2, ints_len]
      refine hKY _ ?_
      refine wlk_seq fun X12 hn12 he12 hr12 => ?_
      have hgood : okPB N S T = true → (0 ≤ v ∧ v < N ∧ v ∉ (S).take i ∧ (0 < i → ∀ u, (S)[i - 1]? = some u → u ≤ v)) ∧ ∀ w : Nat, v = w → base w = 0 := fun h => ⟨up_none hx (okP_S h), fun _ _ => by rw [← hb]⟩
      by_cases h1 : v < 0
      · have d1 : decide (v < 0) = true := decide_eq_true h1
        have hf : okPB N S T = false := by rw [Bool.eq_false_iff]; intro h; have := (hgood h).1.1; omega
        refine wlk_sreg fun KY hKY => ?_
        simp only [go_sem, reduceIte, Nat.reduceEqDiff, reduceCtorEq, c_tutte_placed_r8, d1]
        refine hKY _ ?_
        refine wlk_cond1 rfl ?_
        refine wlk_sreg fun KY hKY => ?_
        simp only [go_sem, reduceIte, Nat.reduceEqDiff, reduceCtorEq, c_tutte_placed_r9]
        refine hKY _ ?_
        refine wlk_ret ?_
        repeat (first | refine hr12 _ ?_ | refine hr11 _ ?_ | refine hr10 _ ?_ | refine hr9 _ ?_ | refine hr8 _ ?_ | refine hr7 _ ?_ | refine hr6 _ ?_ | refine hr5 _ ?_ | refine hr4 _ ?_ | refine hr3 _ ?_ | refine hr2 _ ?_ | refine hr1 _ ?_)
        simp only [go_sem, reduceIte, Nat.reduceEqDiff, reduceCtorEq, hf, cond_false]
      have d1 : decide (v < 0) = false := decide_eq_false h1
      by_cases h2 : (N : Int) ≤ v
      · have d2 : decide ((N : Int) ≤ v) = true := decide_eq_true h2
        have hf : okPB N S T = false := by rw [Bool.eq_false_iff]; intro h; have := (hgood h).1.2.1; omega
        refine wlk_sreg fun KY hKY => ?_
        simp only [go_sem, reduceIte, Nat.reduceEqDiff, reduceCtorEq, c_tutte_placed_r8, d1, d2]
        refine hKY _ ?_
        refine wlk_cond1 rfl ?_
        refine wlk_sreg fun KY hKY => ?_
        simp only [go_sem, reduceIte, Nat.reduceEqDiff, reduceCtorEq, c_tutte_placed_r9]
        refine hKY _ ?_
        refine wlk_ret ?_
        repeat (first | refine hr12 _ ?_ | refine hr11 _ ?_ | refine hr10 _ ?_ | refine hr9 _ ?_ | refine hr8 _ ?_ | refine hr7 _ ?_ | refine hr6 _ ?_ | refine hr5 _ ?_ | refine hr4 _ ?_ | refine hr3 _ ?_ | refine hr2 _ ?_ | refine hr1 _ ?_)
        simp only [go_sem, reduceIte, Nat.reduceEqDiff, reduceCtorEq, hf, cond_false]
      have d2 : decide ((N : Int) ≤ v) = false := decide_eq_false h2
      obtain ⟨w, rfl⟩ : ∃ w : Nat, v = w := ⟨v.toNat, by omega⟩
      have hwN : w < N := by omega
      have hg : (ints (atM N base ((S).take i) (1)))[w]? = some (.sc (.int .i64 (if (w : Int) ∈ (S).take i then (1) else base w))) := by rw [ints_get (by rw [atM_len]; exact hwN), atM_get _ _ _ hwN]
      have hat := atM_len N base ((S).take i) (1)
      by_cases h3 : (w : Int) ∈ (S).take i
      · have hf : okPB N S T = false := by rw [Bool.eq_false_iff]; intro h; exact (hgood h).1.2.2.1 h3
        rw [if_pos h3] at hg
        refine wlk_sreg fun KY hKY => ?_
        simp only [go_sem, reduceIte, Nat.reduceEqDiff, reduceCtorEq, c_tutte_placed_r8, d1, d2, hg, ints_len, hat, hwN, (show decide ((1 : Int) ≠ 0) = true from rfl)]
        refine hKY _ ?_
        refine wlk_cond1 rfl ?_
        refine wlk_sreg fun KY hKY => ?_
        simp only [go_sem, reduceIte, Nat.reduceEqDiff, reduceCtorEq, c_tutte_placed_r9]
        refine hKY _ ?_
        refine wlk_ret ?_
        repeat (first | refine hr12 _ ?_ | refine hr11 _ ?_ | refine hr10 _ ?_ | refine hr9 _ ?_ | refine hr8 _ ?_ | refine hr7 _ ?_ | refine hr6 _ ?_ | refine hr5 _ ?_ | refine hr4 _ ?_ | refine hr3 _ ?_ | refine hr2 _ ?_ | refine hr1 _ ?_)
        simp only [go_sem, reduceIte, Nat.reduceEqDiff, reduceCtorEq, hf, cond_false]
      rw [if_neg h3] at hg
      by_cases h4 : base w = 0
      · rw [h4] at hg
        by_cases h5 : 0 < i
        · obtain ⟨u, hu2⟩ := hprev h5
          have hp : IntKind.i64.wrap ((i : Int) - 1) = ((i - 1 : Nat) : Int) := by rw [IntWalk.i64_in _ (by omega)]; omega
          have d3 : decide (0 < (i : Int)) = true := decide_eq_true (by omega)
          have hil : i - 1 < (S).length := by omega
          by_cases h6 : (w : Int) < u
          · have d4 : decide ((w : Int) < u) = true := decide_eq_true h6
            have hf : okPB N S T = false := by rw [Bool.eq_false_iff]; intro h; have := (hgood h).1.2.2.2 h5 u hu2; omega
            refine wlk_sreg fun KY hKY => ?_
            simp only [go_sem, reduceIte, Nat.reduceEqDiff, reduceCtorEq, c_tutte_placed_r8, d1, d2, hg, ints_len, hat, hwN, d3, hp, ints_at hu2, hil, d4]
            refine hKY _ ?_
            refine wlk_cond1 rfl ?_
            refine wlk_sreg fun KY hKY => ?_
            simp only [go_sem, reduceIte, Nat.reduceEqDiff, reduceCtorEq, c_tutte_placed_r9]
            refine hKY _ ?_
            refine wlk_ret ?_
            repeat (first | refine hr12 _ ?_ | refine hr11 _ ?_ | refine hr10 _ ?_ | refine hr9 _ ?_ | refine hr8 _ ?_ | refine hr7 _ ?_ | refine hr6 _ ?_ | refine hr5 _ ?_ | refine hr4 _ ?_ | refine hr3 _ ?_ | refine hr2 _ ?_ | refine hr1 _ ?_)
            simp only [go_sem, reduceIte, Nat.reduceEqDiff, reduceCtorEq, hf, cond_false]
          · have d4 : decide ((w : Int) < u) = false := decide_eq_false h6
            have hup := up_snoc hu hx (by omega) (by omega) h3 (fun _ u' hu' => by rw [hu2] at hu'; cases hu'; omega)
            refine wlk_sreg fun KY hKY => ?_
            simp only [go_sem, reduceIte, Nat.reduceEqDiff, reduceCtorEq, c_tutte_placed_r8, d1, d2, hg, ints_len, hat, hwN, d3, hp, ints_at hu2, hil, d4]
            refine hKY _ ?_
            refine wlk_cond0 rfl ?_
            refine wlk_skip ?_
            repeat (first | refine hn12 _ ?_ | refine he12 _ _ ?_ | refine hn11 _ ?_ | refine he11 _ ?_ | refine hf11 _ _ (by decide) ?_ | refine hn10 _ ?_ | refine he10 _ _ ?_ | refine hn9 _ ?_ | refine he9 _ _ ?_ | refine he8 _ _ ?_ | refine hn7 _ ?_ | refine he7 _ ?_ | refine hf7 _ _ (by decide) ?_ | refine hn6 _ ?_ | refine he6 _ ?_ | refine hf6 _ _ (by decide) ?_ | refine hn5 _ ?_ | refine he5 _ _ ?_ | refine hn4 _ ?_ | refine he4 _ _ ?_)
            refine wlk_reg fun KY hKY => ?_
            simp only [go_sem, reduceIte, Nat.reduceEqDiff, reduceCtorEq, Int.reduceAdd, c_tutte_placed_r10, hat, hwN, ints_len, (show IntKind.i64.wrap 1 = 1 by decide), atM_set base ((S).take i) 1 w rfl, (show (S).take i ++ [(w : Int)] = (S).take (i + 1) by rw [List.take_add_one, hx]; rfl)]
            refine hKY _ ?_
            repeat (first | refine hn12 _ ?_ | refine he12 _ _ ?_ | refine hn11 _ ?_ | refine he11 _ ?_ | refine hf11 _ _ (by decide) ?_ | refine hn10 _ ?_ | refine he10 _ _ ?_ | refine hn9 _ ?_ | refine he9 _ _ ?_ | refine he8 _ _ ?_ | refine hn7 _ ?_ | refine he7 _ ?_ | refine hf7 _ _ (by decide) ?_ | refine hn6 _ ?_ | refine he6 _ ?_ | refine hf6 _ _ (by decide) ?_ | refine hn5 _ ?_ | refine he5 _ _ ?_ | refine hn4 _ ?_ | refine he4 _ _ ?_)
            refine wlk_reg fun KY hKY => ?_
            simp only [go_sem, reduceIte, Nat.reduceEqDiff, reduceCtorEq, c_tutte_placed_r11, incS (show i < 4611686018427387904 by omega)]
            refine hKY _ ?_
            repeat (first | refine hn12 _ ?_ | refine he12 _ _ ?_ | refine hn11 _ ?_ | refine he11 _ ?_ | refine hf11 _ _ (by decide) ?_ | refine hn10 _ ?_ | refine he10 _ _ ?_ | refine hn9 _ ?_ | refine he9 _ _ ?_)
            refine hn8 _ (i + 1) ((S).length - (i + 1)) (by omega) (by first | (simp only [go_sem, reduceIte, Nat.reduceEqDiff, reduceCtorEq, updAll_cons, updAll_nil]; done) | with_reducible rfl) ?_
            refine ⟨hi2, rfl, hup, fun x hx2 => ?_⟩
            rw [List.take_add_one, hx] at hx2
            rcases List.mem_append.1 hx2 with h | h
            · exact hfree x h
            · simp at h; rw [show x = w by omega]; exact h4
        · have d3 : decide (0 < (i : Int)) = false := decide_eq_false (by omega)
          have hup := up_snoc hu hx (by omega) (by omega) h3 (fun h => absurd h h5)
          refine wlk_sreg fun KY hKY => ?_
          simp only [go_sem, reduceIte, Nat.reduceEqDiff, reduceCtorEq, c_tutte_placed_r8, d1, d2, hg, ints_len, hat, hwN, d3]
          refine hKY _ ?_
          refine wlk_cond0 rfl ?_
          refine wlk_skip ?_
          repeat (first | refine hn12 _ ?_ | refine he12 _ _ ?_ | refine hn11 _ ?_ | refine he11 _ ?_ | refine hf11 _ _ (by decide) ?_ | refine hn10 _ ?_ | refine he10 _ _ ?_ | refine hn9 _ ?_ | refine he9 _ _ ?_ | refine he8 _ _ ?_ | refine hn7 _ ?_ | refine he7 _ ?_ | refine hf7 _ _ (by decide) ?_ | refine hn6 _ ?_ | refine he6 _ ?_ | refine hf6 _ _ (by decide) ?_ | refine hn5 _ ?_ | refine he5 _ _ ?_ | refine hn4 _ ?_ | refine he4 _ _ ?_)
          refine wlk_reg fun KY hKY => ?_
          simp only [go_sem, reduceIte, Nat.reduceEqDiff, reduceCtorEq, Int.reduceAdd, c_tutte_placed_r10, hat, hwN, ints_len, (show IntKind.i64.wrap 1 = 1 by decide), atM_set base ((S).take i) 1 w rfl, (show (S).take i ++ [(w : Int)] = (S).take (i + 1) by rw [List.take_add_one, hx]; rfl)]
          refine hKY _ ?_
          repeat (first | refine hn12 _ ?_ | refine he12 _ _ ?_ | refine hn11 _ ?_ | refine he11 _ ?_ | refine hf11 _ _ (by decide) ?_ | refine hn10 _ ?_ | refine he10 _ _ ?_ | refine hn9 _ ?_ | refine he9 _ _ ?_ | refine he8 _ _ ?_ | refine hn7 _ ?_ | refine he7 _ ?_ | refine hf7 _ _ (by decide) ?_ | refine hn6 _ ?_ | refine he6 _ ?_ | refine hf6 _ _ (by decide) ?_ | refine hn5 _ ?_ | refine he5 _ _ ?_ | refine hn4 _ ?_ | refine he4 _ _ ?_)
          refine wlk_reg fun KY hKY => ?_
          simp only [go_sem, reduceIte, Nat.reduceEqDiff, reduceCtorEq, c_tutte_placed_r11, incS (show i < 4611686018427387904 by omega)]
          refine hKY _ ?_
          repeat (first | refine hn12 _ ?_ | refine he12 _ _ ?_ | refine hn11 _ ?_ | refine he11 _ ?_ | refine hf11 _ _ (by decide) ?_ | refine hn10 _ ?_ | refine he10 _ _ ?_ | refine hn9 _ ?_ | refine he9 _ _ ?_)
          refine hn8 _ (i + 1) ((S).length - (i + 1)) (by omega) (by first | (simp only [go_sem, reduceIte, Nat.reduceEqDiff, reduceCtorEq, updAll_cons, updAll_nil]; done) | with_reducible rfl) ?_
          refine ⟨hi2, rfl, hup, fun x hx2 => ?_⟩
          rw [List.take_add_one, hx] at hx2
          rcases List.mem_append.1 hx2 with h | h
          · exact hfree x h
          · simp at h; rw [show x = w by omega]; exact h4
      · have hf : okPB N S T = false := by rw [Bool.eq_false_iff]; intro h; exact h4 ((hgood h).2 w rfl)
        refine wlk_sreg fun KY hKY => ?_
        simp only [go_sem, reduceIte, Nat.reduceEqDiff, reduceCtorEq, c_tutte_placed_r8, d1, d2, hg, ints_len, hat, hwN, (show decide (base w ≠ 0) = true from decide_eq_true h4)]
        refine hKY _ ?_
        refine wlk_cond1 rfl ?_
        refine wlk_sreg fun KY hKY => ?_
        simp only [go_sem, reduceIte, Nat.reduceEqDiff, reduceCtorEq, c_tutte_placed_r9]
        refine hKY _ ?_
        refine wlk_ret ?_
        repeat (first | refine hr12 _ ?_ | refine hr11 _ ?_ | refine hr10 _ ?_ | refine hr9 _ ?_ | refine hr8 _ ?_ | refine hr7 _ ?_ | refine hr6 _ ?_ | refine hr5 _ ?_ | refine hr4 _ ?_ | refine hr3 _ ?_ | refine hr2 _ ?_ | refine hr1 _ ?_)
        simp only [go_sem, reduceIte, Nat.reduceEqDiff, reduceCtorEq, hf, cond_false]
    · refine wlk_cond0 (by first | rfl | (simp only [go_sem, reduceIte, Nat.reduceEqDiff, reduceCtorEq]; try simp (disch := omega) only [decide_eq_false])) ?_
      refine wlk_exit ?_
      repeat (first | refine hn9 _ ?_ | refine he9 _ _ ?_ | refine he8 _ _ ?_ | refine hn7 _ ?_ | refine he7 _ ?_ | refine hf7 _ _ (by decide) ?_ | refine hn6 _ ?_ | refine he6 _ ?_ | refine hf6 _ _ (by decide) ?_ | refine hn5 _ ?_ | refine he5 _ _ ?_ | refine hn4 _ ?_ | refine he4 _ _ ?_ | refine he3 _ _ ?_ | refine hn2 _ ?_ | refine he2 _ ?_ | refine hf2 _ _ (by decide) ?_ | refine hn1 _ ?_ | refine he1 _ _ ?_)
      obtain rfl : i = (S).length := by omega
      rw [List.take_length] at hu hfree ⊢
      subst hb
      refine wlk_reg fun KY hKY => ?_
      simp only [go_sem, reduceIte, Nat.reduceEqDiff, reduceCtorEq, Int.reduceAdd, c_tutte_placed_r12, (show IntKind.i64.wrap 1 = 1 by decide)]
      refine hKY _ ?_
      repeat (first | refine hn9 _ ?_ | refine he9 _ _ ?_ | refine he8 _ _ ?_ | refine hn7 _ ?_ | refine he7 _ ?_ | refine hf7 _ _ (by decide) ?_ | refine hn6 _ ?_ | refine he6 _ ?_ | refine hf6 _ _ (by decide) ?_ | refine hn5 _ ?_ | refine he5 _ _ ?_ | refine hn4 _ ?_ | refine he4 _ _ ?_)
      refine hn3 _ (1) (2 - 1) (by omega) (by first | (simp only [go_sem, reduceIte, Nat.reduceEqDiff, Nat.reduceBEq, reduceCtorEq, updAll_cons, updAll_nil, (show ((1 : Nat) : Int) = 1 from rfl), cond_true, cond_false]; done) | with_reducible rfl) ?_
      exact ⟨by omega, rfl, fun _ => hu, fun h => absurd h (by omega)⟩
  by_cases hk1 : k = 1
  · subst hk1
    refine wlk_cond1 rfl ?_
    refine wlk_skip ?_
    repeat (first | refine hn4 _ ?_ | refine he4 _ _ ?_ | refine he3 _ _ ?_ | refine hn2 _ ?_ | refine he2 _ ?_ | refine hf2 _ _ (by decide) ?_ | refine hn1 _ ?_ | refine he1 _ _ ?_)
    have hSu := hA (by omega)
    generalize hb : (fun v : Nat => if (v : Int) ∈ S then (1 : Int) else 0) = base
    rw [show atM N (fun _ => 0) S 1 = atM N base [] 2 by subst hb; simp [atM]]
    refine wlk_seq fun X13 hn13 he13 hr13 => ?_
    refine wlk_blk fun X14 hn14 he14 hf14 hr14 => ?_
    refine wlk_sreg fun KY hKY => ?_
    simp only [go_sem, reduceIte, Nat.reduceEqDiff, Nat.reduceBEq, reduceCtorEq, Nat.reduceLT, Nat.reduceAdd, Int.reduceLT, Int.reduceLE, c_tutte_placed_r4]
    refine hKY _ ?_
    refine wlk_sreg fun KY hKY => ?_
    simp only [go_sem, reduceIte, Nat.reduceEqDiff, reduceCtorEq, c_tutte_placed_r5, ints_len]
    refine hKY _ ?_
    refine wlk_blk fun X15 hn15 he15 hf15 hr15 => ?_
    try simp only [go_sem, reduceIte, Nat.reduceEqDiff, reduceCtorEq]
    refine wlk_lp (α := Nat) [9, 10, 27, 57] (fun i => [(6, .own (some 1) (ints (atM N base ((T).take i) (2)))), (26, .sc (.int .i64 (i : Int)))]) (fun i => []) (fun i q => i ≤ (T).length ∧ q = (T).length - i ∧ upB N ((T).take i) = true ∧ ∀ v : Nat, (v : Int) ∈ (T).take i → base v = 0) (0) ((T).length) rfl (by first | (simp only [go_sem, reduceIte, Nat.reduceEqDiff, reduceCtorEq, updAll_cons, updAll_nil]; done) | with_reducible rfl | rfl) (⟨by omega, rfl, by simp [upB], by simp⟩) ?_
    rintro i q ⟨hi, rfl, hu, hfree⟩ X16 hn16 he16 hr16
    simp only [go_sem, reduceIte, Nat.reduceEqDiff, reduceCtorEq, updAll_cons, updAll_nil]
    refine wlk_sreg fun KY hKY => ?_
    simp only [go_sem, reduceIte, Nat.reduceEqDiff, reduceCtorEq, c_tutte_placed_r6]
    refine hKY _ ?_
    refine wlk_seq fun X17 hn17 he17 hr17 => ?_
    by_cases hi2 : i < (T).length
    · refine wlk_cond1 (by first | rfl | (simp only [go_sem, reduceIte, Nat.reduceEqDiff, reduceCtorEq]; try simp (disch := omega) only [decide_eq_true])) ?_
      refine wlk_skip ?_
      repeat (first | refine hn17 _ ?_ | refine he17 _ _ ?_ | refine he16 _ _ ?_ | refine hn15 _ ?_ | refine he15 _ ?_ | refine hf15 _ _ (by decide) ?_ | refine hn14 _ ?_ | refine he14 _ ?_ | refine hf14 _ _ (by decide) ?_ | refine hn13 _ ?_ | refine he13 _ _ ?_ | refine hn4 _ ?_ | refine he4 _ _ ?_)
      refine wlk_seq fun X18 hn18 he18 hr18 => ?_
      refine wlk_blk fun X19 hn19 he19 hf19 hr19 => ?_
      have hx : (T)[i]? = some (T)[i] := List.getElem?_eq_getElem hi2
      have hprev : 0 < i → ∃ u, (T)[i - 1]? = some u := fun h => ⟨(T)[i - 1], List.getElem?_eq_getElem (by omega)⟩
      generalize (T)[i] = v at hx
      refine wlk_sreg fun KY hKY => ?_
      simp only [go_sem, reduceIte, Nat.reduceEqDiff, reduceCtorEq, c_tutte_placed_r7, ints_at hx, hi2, ints_len]
      refine hKY _ ?_
      refine wlk_seq fun X20 hn20 he20 hr20 => ?_
      have hgood : okPB N S T = true → (0 ≤ v ∧ v < N ∧ v ∉ (T).take i ∧ (0 < i → ∀ u, (T)[i - 1]? = some u → u ≤ v)) ∧ ∀ w : Nat, v = w → base w = 0 := fun h => ⟨up_none hx (okP_T h), fun w e => by subst hb; exact if_neg fun hs => okP_D h hs (List.mem_of_getElem? (e ▸ hx))⟩
      by_cases h1 : v < 0
      · have d1 : decide (v < 0) = true := decide_eq_true h1
        have hf : okPB N S T = false := by rw [Bool.eq_false_iff]; intro h; have := (hgood h).1.1; omega
        refine wlk_sreg fun KY hKY => ?_
        simp only [go_sem, reduceIte, Nat.reduceEqDiff, reduceCtorEq, c_tutte_placed_r8, d1]
        refine hKY _ ?_
        refine wlk_cond1 rfl ?_
        refine wlk_sreg fun KY hKY => ?_
        simp only [go_sem, reduceIte, Nat.reduceEqDiff, reduceCtorEq, c_tutte_placed_r9]
        refine hKY _ ?_
        refine wlk_ret ?_
        repeat (first | refine hr20 _ ?_ | refine hr19 _ ?_ | refine hr18 _ ?_ | refine hr17 _ ?_ | refine hr16 _ ?_ | refine hr15 _ ?_ | refine hr14 _ ?_ | refine hr13 _ ?_ | refine hr4 _ ?_ | refine hr3 _ ?_ | refine hr2 _ ?_ | refine hr1 _ ?_)
        simp only [go_sem, reduceIte, Nat.reduceEqDiff, reduceCtorEq, hf, cond_false]
      have d1 : decide (v < 0) = false := decide_eq_false h1
      by_cases h2 : (N : Int) ≤ v
      · have d2 : decide ((N : Int) ≤ v) = true := decide_eq_true h2
        have hf : okPB N S T = false := by rw [Bool.eq_false_iff]; intro h; have := (hgood h).1.2.1; omega
        refine wlk_sreg fun KY hKY => ?_
        simp only [go_sem, reduceIte, Nat.reduceEqDiff, reduceCtorEq, c_tutte_placed_r8, d1, d2]
        refine hKY _ ?_
        refine wlk_cond1 rfl ?_
        refine wlk_sreg fun KY hKY => ?_
        simp only [go_sem, reduceIte, Nat.reduceEqDiff, reduceCtorEq, c_tutte_placed_r9]
        refine hKY _ ?_
        refine wlk_ret ?_
        repeat (first | refine hr20 _ ?_ | refine hr19 _ ?_ | refine hr18 _ ?_ | refine hr17 _ ?_ | refine hr16 _ ?_ | refine hr15 _ ?_ | refine hr14 _ ?_ | refine hr13 _ ?_ | refine hr4 _ ?_ | refine hr3 _ ?_ | refine hr2 _ ?_ | refine hr1 _ ?_)
        simp only [go_sem, reduceIte, Nat.reduceEqDiff, reduceCtorEq, hf, cond_false]
      have d2 : decide ((N : Int) ≤ v) = false := decide_eq_false h2
      obtain ⟨w, rfl⟩ : ∃ w : Nat, v = w := ⟨v.toNat, by omega⟩
      have hwN : w < N := by omega
      have hg : (ints (atM N base ((T).take i) (2)))[w]? = some (.sc (.int .i64 (if (w : Int) ∈ (T).take i then (2) else base w))) := by rw [ints_get (by rw [atM_len]; exact hwN), atM_get _ _ _ hwN]
      have hat := atM_len N base ((T).take i) (2)
      by_cases h3 : (w : Int) ∈ (T).take i
      · have hf : okPB N S T = false := by rw [Bool.eq_false_iff]; intro h; exact (hgood h).1.2.2.1 h3
        rw [if_pos h3] at hg
        refine wlk_sreg fun KY hKY => ?_
        simp only [go_sem, reduceIte, Nat.reduceEqDiff, reduceCtorEq, c_tutte_placed_r8, d1, d2, hg, ints_len, hat, hwN, (show decide ((2 : Int) ≠ 0) = true from rfl)]
        refine hKY _ ?_
        refine wlk_cond1 rfl ?_
        refine wlk_sreg fun KY hKY => ?_
        simp only [go_sem, reduceIte, Nat.reduceEqDiff, reduceCtorEq, c_tutte_placed_r9]
        refine hKY _ ?_
        refine wlk_ret ?_
        repeat (first | refine hr20 _ ?_ | refine hr19 _ ?_ | refine hr18 _ ?_ | refine hr17 _ ?_ | refine hr16 _ ?_ | refine hr15 _ ?_ | refine hr14 _ ?_ | refine hr13 _ ?_ | refine hr4 _ ?_ | refine hr3 _ ?_ | refine hr2 _ ?_ | refine hr1 _ ?_)
        simp only [go_sem, reduceIte, Nat.reduceEqDiff, reduceCtorEq, hf, cond_false]
      rw [if_neg h3] at hg
      by_cases h4 : base w = 0
      · rw [h4] at hg
        by_cases h5 : 0 < i
        · obtain ⟨u, hu2⟩ := hprev h5
          have hp : IntKind.i64.wrap ((i : Int) - 1) = ((i - 1 : Nat) : Int) := by rw [IntWalk.i64_in _ (by omega)]; omega
          have d3 : decide (0 < (i : Int)) = true := decide_eq_true (by omega)
          have hil : i - 1 < (T).length := by omega
          by_cases h6 : (w : Int) < u
          · have d4 : decide ((w : Int) < u) = true := decide_eq_true h6
            have hf : okPB N S T = false := by rw [Bool.eq_false_iff]; intro h; have := (hgood h).1.2.2.2 h5 u hu2; omega
            refine wlk_sreg fun KY hKY => ?_
            simp only [go_sem, reduceIte, Nat.reduceEqDiff, reduceCtorEq, c_tutte_placed_r8, d1, d2, hg, ints_len, hat, hwN, d3, hp, ints_at hu2, hil, d4]
            refine hKY _ ?_
            refine wlk_cond1 rfl ?_
            refine wlk_sreg fun KY hKY => ?_
            simp only [go_sem, reduceIte, Nat.reduceEqDiff, reduceCtorEq, c_tutte_placed_r9]
            refine hKY _ ?_
            refine wlk_ret ?_
            repeat (first | refine hr20 _ ?_ | refine hr19 _ ?_ | refine hr18 _ ?_ | refine hr17 _ ?_ | refine hr16 _ ?_ | refine hr15 _ ?_ | refine hr14 _ ?_ | refine hr13 _ ?_ | refine hr4 _ ?_ | refine hr3 _ ?_ | refine hr2 _ ?_ | refine hr1 _ ?_)
            simp only [go_sem, reduceIte, Nat.reduceEqDiff, reduceCtorEq, hf, cond_false]
          · have d4 : decide ((w : Int) < u) = false := decide_eq_false h6
            have hup := up_snoc hu hx (by omega) (by omega) h3 (fun _ u' hu' => by rw [hu2] at hu'; cases hu'; omega)
            refine wlk_sreg fun KY hKY => ?_
            simp only [go_sem, reduceIte, Nat.reduceEqDiff, reduceCtorEq, c_tutte_placed_r8, d1, d2, hg, ints_len, hat, hwN, d3, hp, ints_at hu2, hil, d4]
            refine hKY _ ?_
            refine wlk_cond0 rfl ?_
            refine wlk_skip ?_
            repeat (first | refine hn20 _ ?_ | refine he20 _ _ ?_ | refine hn19 _ ?_ | refine he19 _ ?_ | refine hf19 _ _ (by decide) ?_ | refine hn18 _ ?_ | refine he18 _ _ ?_ | refine hn17 _ ?_ | refine he17 _ _ ?_ | refine he16 _ _ ?_ | refine hn15 _ ?_ | refine he15 _ ?_ | refine hf15 _ _ (by decide) ?_ | refine hn14 _ ?_ | refine he14 _ ?_ | refine hf14 _ _ (by decide) ?_ | refine hn13 _ ?_ | refine he13 _ _ ?_ | refine hn4 _ ?_ | refine he4 _ _ ?_)
            refine wlk_reg fun KY hKY => ?_
            simp only [go_sem, reduceIte, Nat.reduceEqDiff, reduceCtorEq, Int.reduceAdd, c_tutte_placed_r10, hat, hwN, ints_len, (show IntKind.i64.wrap 2 = 2 by decide), atM_set base ((T).take i) 2 w rfl, (show (T).take i ++ [(w : Int)] = (T).take (i + 1) by rw [List.take_add_one, hx]; rfl)]
            refine hKY _ ?_
            repeat (first | refine hn20 _ ?_ | refine he20 _ _ ?_ | refine hn19 _ ?_ | refine he19 _ ?_ | refine hf19 _ _ (by decide) ?_ | refine hn18 _ ?_ | refine he18 _ _ ?_ | refine hn17 _ ?_ | refine he17 _ _ ?_ | refine he16 _ _ ?_ | refine hn15 _ ?_ | refine he15 _ ?_ | refine hf15 _ _ (by decide) ?_ | refine hn14 _ ?_ | refine he14 _ ?_ | refine hf14 _ _ (by decide) ?_ | refine hn13 _ ?_ | refine he13 _ _ ?_ | refine hn4 _ ?_ | refine he4 _ _ ?_)
            refine wlk_reg fun KY hKY => ?_
            simp only [go_sem, reduceIte, Nat.reduceEqDiff, reduceCtorEq, c_tutte_placed_r11, incS (show i < 4611686018427387904 by omega)]
            refine hKY _ ?_
            repeat (first | refine hn20 _ ?_ | refine he20 _ _ ?_ | refine hn19 _ ?_ | refine he19 _ ?_ | refine hf19 _ _ (by decide) ?_ | refine hn18 _ ?_ | refine he18 _ _ ?_ | refine hn17 _ ?_ | refine he17 _ _ ?_)
            refine hn16 _ (i + 1) ((T).length - (i + 1)) (by omega) (by first | (simp only [go_sem, reduceIte, Nat.reduceEqDiff, reduceCtorEq, updAll_cons, updAll_nil]; done) | with_reducible rfl) ?_
            refine ⟨hi2, rfl, hup, fun x hx2 => ?_⟩
            rw [List.take_add_one, hx] at hx2
            rcases List.mem_append.1 hx2 with h | h
            · exact hfree x h
            · simp at h; rw [show x = w by omega]; exact h4
        · have d3 : decide (0 < (i : Int)) = false := decide_eq_false (by omega)
          have hup := up_snoc hu hx (by omega) (by omega) h3 (fun h => absurd h h5)
          refine wlk_sreg fun KY hKY => ?_
          simp only [go_sem, reduceIte, Nat.reduceEqDiff, reduceCtorEq, c_tutte_placed_r8, d1, d2, hg, ints_len, hat, hwN, d3]
          refine hKY _ ?_
          refine wlk_cond0 rfl ?_
          refine wlk_skip ?_
          repeat (first | refine hn20 _ ?_ | refine he20 _ _ ?_ | refine hn19 _ ?_ | refine he19 _ ?_ | refine hf19 _ _ (by decide) ?_ | refine hn18 _ ?_ | refine he18 _ _ ?_ | refine hn17 _ ?_ | refine he17 _ _ ?_ | refine he16 _ _ ?_ | refine hn15 _ ?_ | refine he15 _ ?_ | refine hf15 _ _ (by decide) ?_ | refine hn14 _ ?_ | refine he14 _ ?_ | refine hf14 _ _ (by decide) ?_ | refine hn13 _ ?_ | refine he13 _ _ ?_ | refine hn4 _ ?_ | refine he4 _ _ ?_)
          refine wlk_reg fun KY hKY => ?_
          simp only [go_sem, reduceIte, Nat.reduceEqDiff, reduceCtorEq, Int.reduceAdd, c_tutte_placed_r10, hat, hwN, ints_len, (show IntKind.i64.wrap 2 = 2 by decide), atM_set base ((T).take i) 2 w rfl, (show (T).take i ++ [(w : Int)] = (T).take (i + 1) by rw [List.take_add_one, hx]; rfl)]
          refine hKY _ ?_
          repeat (first | refine hn20 _ ?_ | refine he20 _ _ ?_ | refine hn19 _ ?_ | refine he19 _ ?_ | refine hf19 _ _ (by decide) ?_ | refine hn18 _ ?_ | refine he18 _ _ ?_ | refine hn17 _ ?_ | refine he17 _ _ ?_ | refine he16 _ _ ?_ | refine hn15 _ ?_ | refine he15 _ ?_ | refine hf15 _ _ (by decide) ?_ | refine hn14 _ ?_ | refine he14 _ ?_ | refine hf14 _ _ (by decide) ?_ | refine hn13 _ ?_ | refine he13 _ _ ?_ | refine hn4 _ ?_ | refine he4 _ _ ?_)
          refine wlk_reg fun KY hKY => ?_
          simp only [go_sem, reduceIte, Nat.reduceEqDiff, reduceCtorEq, c_tutte_placed_r11, incS (show i < 4611686018427387904 by omega)]
          refine hKY _ ?_
          repeat (first | refine hn20 _ ?_ | refine he20 _ _ ?_ | refine hn19 _ ?_ | refine he19 _ ?_ | refine hf19 _ _ (by decide) ?_ | refine hn18 _ ?_ | refine he18 _ _ ?_ | refine hn17 _ ?_ | refine he17 _ _ ?_)
          refine hn16 _ (i + 1) ((T).length - (i + 1)) (by omega) (by first | (simp only [go_sem, reduceIte, Nat.reduceEqDiff, reduceCtorEq, updAll_cons, updAll_nil]; done) | with_reducible rfl) ?_
          refine ⟨hi2, rfl, hup, fun x hx2 => ?_⟩
          rw [List.take_add_one, hx] at hx2
          rcases List.mem_append.1 hx2 with h | h
          · exact hfree x h
          · simp at h; rw [show x = w by omega]; exact h4
      · have hf : okPB N S T = false := by rw [Bool.eq_false_iff]; intro h; exact h4 ((hgood h).2 w rfl)
        refine wlk_sreg fun KY hKY => ?_
        simp only [go_sem, reduceIte, Nat.reduceEqDiff, reduceCtorEq, c_tutte_placed_r8, d1, d2, hg, ints_len, hat, hwN, (show decide (base w ≠ 0) = true from decide_eq_true h4)]
        refine hKY _ ?_
        refine wlk_cond1 rfl ?_
        refine wlk_sreg fun KY hKY => ?_
        simp only [go_sem, reduceIte, Nat.reduceEqDiff, reduceCtorEq, c_tutte_placed_r9]
        refine hKY _ ?_
        refine wlk_ret ?_
        repeat (first | refine hr20 _ ?_ | refine hr19 _ ?_ | refine hr18 _ ?_ | refine hr17 _ ?_ | refine hr16 _ ?_ | refine hr15 _ ?_ | refine hr14 _ ?_ | refine hr13 _ ?_ | refine hr4 _ ?_ | refine hr3 _ ?_ | refine hr2 _ ?_ | refine hr1 _ ?_)
        simp only [go_sem, reduceIte, Nat.reduceEqDiff, reduceCtorEq, hf, cond_false]
    · refine wlk_cond0 (by first | rfl | (simp only [go_sem, reduceIte, Nat.reduceEqDiff, reduceCtorEq]; try simp (disch := omega) only [decide_eq_false])) ?_
      refine wlk_exit ?_
      repeat (first | refine hn17 _ ?_ | refine he17 _ _ ?_ | refine he16 _ _ ?_ | refine hn15 _ ?_ | refine he15 _ ?_ | refine hf15 _ _ (by decide) ?_ | refine hn14 _ ?_ | refine he14 _ ?_ | refine hf14 _ _ (by decide) ?_ | refine hn13 _ ?_ | refine he13 _ _ ?_ | refine hn4 _ ?_ | refine he4 _ _ ?_ | refine he3 _ _ ?_ | refine hn2 _ ?_ | refine he2 _ ?_ | refine hf2 _ _ (by decide) ?_ | refine hn1 _ ?_ | refine he1 _ _ ?_)
      obtain rfl : i = (T).length := by omega
      rw [List.take_length] at hu hfree ⊢
      subst hb
      refine wlk_reg fun KY hKY => ?_
      simp only [go_sem, reduceIte, Nat.reduceEqDiff, reduceCtorEq, Int.reduceAdd, c_tutte_placed_r12, (show IntKind.i64.wrap 2 = 2 by decide)]
      refine hKY _ ?_
      repeat (first | refine hn17 _ ?_ | refine he17 _ _ ?_ | refine he16 _ _ ?_ | refine hn15 _ ?_ | refine he15 _ ?_ | refine hf15 _ _ (by decide) ?_ | refine hn14 _ ?_ | refine he14 _ ?_ | refine hf14 _ _ (by decide) ?_ | refine hn13 _ ?_ | refine he13 _ _ ?_ | refine hn4 _ ?_ | refine he4 _ _ ?_)
      refine hn3 _ (2) (2 - 2) (by omega) (by first | (simp only [go_sem, reduceIte, Nat.reduceEqDiff, Nat.reduceBEq, reduceCtorEq, updAll_cons, updAll_nil, (show ((2 : Nat) : Int) = 2 from rfl), cond_false]; done) | with_reducible rfl) ?_
      refine ⟨by omega, rfl, fun _ => hSu, fun _ => ⟨hu, fun v hv hs => ?_⟩⟩
      have := hfree v hv
      simp only [hs, if_true] at this
      omega
  · obtain rfl : k = 2 := by omega
    refine wlk_cond0 rfl ?_
    refine wlk_exit ?_
    repeat (first | refine hn4 _ ?_ | refine he4 _ _ ?_ | refine he3 _ _ ?_ | refine hn2 _ ?_ | refine he2 _ ?_ | refine hf2 _ _ (by decide) ?_ | refine hn1 _ ?_ | refine he1 _ _ ?_)
    refine wlk_sreg fun KY hKY => ?_
    simp only [go_sem, reduceIte, Nat.reduceEqDiff, Nat.reduceBEq, reduceCtorEq, Int.reduceLT, c_tutte_placed_r13]
    refine hKY _ ?_
    obtain ⟨hT2, hD⟩ := hB (by omega)
    have hf : okPB N S T = true := by
      unfold okPB
      rw [hA (by omega), hT2, Bool.true_and, Bool.true_and, List.all_eq_true]
      intro v hv
      rw [decide_eq_true_iff]
      intro ht
      have h0 : 0 ≤ v := by
        unfold upB at hT2
        rw [Bool.and_eq_true, List.all_eq_true] at hT2
        have := hT2.1 v ht
        simp at this; exact this.1
      have := hD v.toNat (by rw [show ((v.toNat : Nat) : Int) = v by omega]; exact ht)
      rw [show ((v.toNat : Nat) : Int) = v by omega] at this
      exact this hv
    have hAT : atM N (fun v => if (v : Int) ∈ S then 1 else 0) T 2 = atL N S T := by
      unfold atM atL
      refine List.map_congr_left fun v _ => ?_
      dsimp only
      by_cases h : (v : Int) ∈ T
      · rw [if_pos h, if_neg (hD v h), if_pos h]
      · rw [if_neg h]
        by_cases h' : (v : Int) ∈ S
        · rw [if_pos h', if_pos h']
        · rw [if_neg h', if_neg h', if_neg h]
    refine wlk_ret ?_
    repeat (first | refine hr4 _ ?_ | refine hr3 _ ?_ | refine hr2 _ ?_ | refine hr1 _ ?_)
    simp only [go_sem, reduceIte, Nat.reduceEqDiff, reduceCtorEq, hf, cond_true, hAT]
end Go.Proofs.Ytepjcfbigcfkfaa
set_option maxRecDepth 100000
set_option maxHeartbeats 2000000
namespace Go.Proofs.Ytepjcfbigcfkfaa
open Go Go.Ga Go.Ga.Gl
theorem grow_ok (n : Nat) (hn : n ≤ 10000000) : ACalls Try.prog [] n_slices_Grow___int_int_ [.sc (.slice none 0 0), .sc (.int .i64 (n : Int))] [] fun r h' => r = .own (some 1) [] ∧ h' = [] := by
  refine ACalls.seen (Q := fun r h' => (r = .sc (.slice none 0 0) ∨ r = .own (some 1) []) ∧ h' = []) ?_ ?_
  · refine go_slices_Grow___int_int_ rfl ?_
    unfold c_slices_Grow___int_int_ v_slices_Grow___int_int_
    refine wlk_sreg fun KY hKY => ?_
    simp only [go_sem, reduceIte, Nat.reduceEqDiff, reduceCtorEq, c_slices_Grow___int_int__r0]
    refine hKY _ ?_
    refine wlk_seq fun X1 hn1 he1 hr1 => ?_
    refine wlk_sreg fun KY hKY => ?_
    simp only [go_sem, reduceIte, Nat.reduceEqDiff, reduceCtorEq, c_slices_Grow___int_int__r1]
    refine hKY _ ?_
    refine wlk_cond0 rfl ?_
    refine wlk_skip ?_
    repeat (first | refine hn1 _ ?_ | refine he1 _ _ ?_)
    refine wlk_seq fun X2 hn2 he2 hr2 => ?_
    have w1 : IntKind.i64.wrap ((n : Int) - IntKind.i64.wrap (0 - 0)) = (n : Int) := by rw [show IntKind.i64.wrap (0 - 0) = 0 by decide, IntWalk.i64_in _ (by omega)]; omega
    refine wlk_sreg fun KY hKY => ?_
    simp only [go_sem, reduceIte, Nat.reduceEqDiff, reduceCtorEq, c_slices_Grow___int_int__r3, w1]
    refine hKY _ ?_
    refine wlk_sreg fun KY hKY => ?_
    simp only [go_sem, reduceIte, Nat.reduceEqDiff, reduceCtorEq, c_slices_Grow___int_int__r4]
    refine hKY _ ?_
    by_cases h : 0 < n
    · refine wlk_cond1 (by first | rfl | (simp only [go_sem, reduceIte, Nat.reduceEqDiff, reduceCtorEq]; try simp (disch := omega) only [decide_eq_true])) ?_
      refine wlk_reg fun KY hKY => ?_
      simp only [go_sem, reduceIte, Nat.reduceEqDiff, reduceCtorEq, Int.reduceLE, c_slices_Grow___int_int__r5, (show 0 < (n : Int) by omega), (show (n : Int) ≤ 9223372036854775807 by omega), (show 8 * n ≤ 140737488355328 by omega), Int.toNat_natCast]
      refine hKY _ ?_
      repeat (first | refine hn2 _ ?_ | refine he2 _ _ ?_ | refine hn1 _ ?_ | refine he1 _ _ ?_)
      refine wlk_sreg fun KY hKY => ?_
      simp only [go_sem, reduceIte, Nat.reduceEqDiff, reduceCtorEq, c_slices_Grow___int_int__r6]
      refine hKY _ ?_
      refine wlk_ret ?_
      repeat (first | refine hr2 _ ?_ | refine hr1 _ ?_)
      simp only [go_sem, reduceIte, Nat.reduceEqDiff, reduceCtorEq]
      exact .inr (by simp [cutCells])
    · refine wlk_cond0 (by first | rfl | (simp only [go_sem, reduceIte, Nat.reduceEqDiff, reduceCtorEq]; try simp (disch := omega) only [decide_eq_false])) ?_
      refine wlk_skip ?_
      repeat (first | refine hn2 _ ?_ | refine he2 _ _ ?_ | refine hn1 _ ?_ | refine he1 _ _ ?_)
      refine wlk_sreg fun KY hKY => ?_
      simp only [go_sem, reduceIte, Nat.reduceEqDiff, reduceCtorEq, c_slices_Grow___int_int__r6]
      refine hKY _ ?_
      refine wlk_ret ?_
      repeat (first | refine hr2 _ ?_ | refine hr1 _ ?_)
      simp only [go_sem, reduceIte, Nat.reduceEqDiff, reduceCtorEq]
  · rintro r h' ⟨rfl | rfl, rfl⟩
    · exact ⟨_, Sees.own 1, rfl, rfl⟩
    · exact ⟨_, Sees.refl _, rfl, rfl⟩
theorem concat_ok (A B : List Int) (hA : A.length ≤ 1000000) (hB : B.length ≤ 1000000) : ACalls Try.prog [] n_slices_Concat___int_int_ [.imm 1 [.imm 1 (ints A), .imm 1 (ints B)]] [] fun r h' => r = .own (some 1) (ints (A ++ B)) ∧ h' = [] := by
  refine go_slices_Concat___int_int_ rfl ?_
  unfold c_slices_Concat___int_int_ v_slices_Concat___int_int_
  refine wlk_sreg fun KY hKY => ?_
  simp only [go_sem, reduceIte, Nat.reduceEqDiff, reduceCtorEq, c_slices_Concat___int_int__r0]
  refine hKY _ ?_
  refine wlk_sreg fun KY hKY => ?_
  simp only [go_sem, reduceIte, Nat.reduceEqDiff, reduceCtorEq, c_slices_Concat___int_int__r1]
  refine hKY _ ?_
  refine wlk_seq fun X1 hn1 he1 hr1 => ?_
  refine wlk_sreg fun KY hKY => ?_
  simp only [go_sem, reduceIte, Nat.reduceEqDiff, reduceCtorEq, Nat.reduceAdd, c_slices_Concat___int_int__r2]
  refine hKY _ ?_
  refine wlk_blk fun X2 hn2 he2 hf2 hr2 => ?_
  try simp only [go_sem, reduceIte, Nat.reduceEqDiff, reduceCtorEq]
  refine wlk_lp (α := Nat) [5, 12, 20] (fun k => [(3, .sc (.int .i64 (bif k == 0 then 0 else bif k == 1 then (A.length : Int) else ((A.length + B.length : Nat) : Int)))), (11, .sc (.int .i64 (k : Int)))]) (fun k => []) (fun k q => k ≤ 2 ∧ q = 2 - k) (0) (2) rfl (by first | (simp only [go_sem, reduceIte, Nat.reduceEqDiff, Nat.reduceBEq, reduceCtorEq, updAll_cons, updAll_nil]; done) | with_reducible rfl | rfl) (⟨by omega, rfl⟩) ?_
  rintro k q ⟨hk, rfl⟩ X3 hn3 he3 hr3
  simp only [go_sem, reduceIte, Nat.reduceEqDiff, reduceCtorEq, updAll_cons, updAll_nil]
  refine wlk_sreg fun KY hKY => ?_
  simp only [go_sem, reduceIte, Nat.reduceEqDiff, reduceCtorEq, c_slices_Concat___int_int__r3]
  refine hKY _ ?_
  refine wlk_seq fun X4 hn4 he4 hr4 => ?_
  have w2 : IntKind.i64.wrap ((A.length : Int) + (B.length : Int)) = ((A.length + B.length : Nat) : Int) := by rw [IntWalk.i64_in _ (by omega)]; omega
  have w1 : IntKind.i64.wrap (0 + (A.length : Int)) = (A.length : Int) := by rw [IntWalk.i64_in _ (by omega)]; omega
  by_cases hk0 : k = 0
  · subst hk0
    refine wlk_cond1 rfl ?_
    refine wlk_skip ?_
    repeat (first | refine hn4 _ ?_ | refine he4 _ _ ?_ | refine he3 _ _ ?_ | refine hn2 _ ?_ | refine he2 _ ?_ | refine hf2 _ _ (by decide) ?_ | refine hn1 _ ?_ | refine he1 _ _ ?_)
    refine wlk_seq fun X5 hn5 he5 hr5 => ?_
    refine wlk_blk fun X6 hn6 he6 hf6 hr6 => ?_
    refine wlk_sreg fun KY hKY => ?_
    simp only [go_sem, reduceIte, Nat.reduceEqDiff, Nat.reduceBEq, reduceCtorEq, Nat.reduceLT, Nat.reduceAdd, Int.reduceLT, Int.reduceLE, c_slices_Concat___int_int__r4]
    refine hKY _ ?_
    refine wlk_sreg fun KY hKY => ?_
    simp only [go_sem, reduceIte, Nat.reduceEqDiff, reduceCtorEq, c_slices_Concat___int_int__r5, w1, ints_len]
    refine hKY _ ?_
    refine wlk_sreg fun KY hKY => ?_
    simp only [go_sem, reduceIte, Nat.reduceEqDiff, reduceCtorEq, c_slices_Concat___int_int__r6, (show decide ((A.length : Int) < 0) = false from decide_eq_false (by omega))]
    refine hKY _ ?_
    refine wlk_cond0 rfl ?_
    refine wlk_skip ?_
    repeat (first | refine hn6 _ ?_ | refine he6 _ ?_ | refine hf6 _ _ (by decide) ?_ | refine hn5 _ ?_ | refine he5 _ _ ?_ | refine hn4 _ ?_ | refine he4 _ _ ?_ | refine he3 _ _ ?_ | refine hn2 _ ?_ | refine he2 _ ?_ | refine hf2 _ _ (by decide) ?_ | refine hn1 _ ?_ | refine he1 _ _ ?_)
    refine wlk_reg fun KY hKY => ?_
    simp only [go_sem, reduceIte, Nat.reduceEqDiff, reduceCtorEq, Int.reduceAdd, c_slices_Concat___int_int__r8, (show IntKind.i64.wrap 1 = 1 by decide)]
    refine hKY _ ?_
    repeat (first | refine hn6 _ ?_ | refine he6 _ ?_ | refine hf6 _ _ (by decide) ?_ | refine hn5 _ ?_ | refine he5 _ _ ?_ | refine hn4 _ ?_ | refine he4 _ _ ?_)
    refine hn3 _ (1) (2 - 1) (by omega) (by first | (simp only [go_sem, reduceIte, Nat.reduceEqDiff, Nat.reduceBEq, reduceCtorEq, updAll_cons, updAll_nil, (show ((1 : Nat) : Int) = 1 from rfl), cond_true, cond_false]; done) | with_reducible rfl) ?_
    exact ⟨by omega, rfl⟩
  by_cases hk1 : k = 1
  · subst hk1
    refine wlk_cond1 rfl ?_
    refine wlk_skip ?_
    repeat (first | refine hn4 _ ?_ | refine he4 _ _ ?_ | refine he3 _ _ ?_ | refine hn2 _ ?_ | refine he2 _ ?_ | refine hf2 _ _ (by decide) ?_ | refine hn1 _ ?_ | refine he1 _ _ ?_)
    refine wlk_seq fun X7 hn7 he7 hr7 => ?_
    refine wlk_blk fun X8 hn8 he8 hf8 hr8 => ?_
    refine wlk_sreg fun KY hKY => ?_
    simp only [go_sem, reduceIte, Nat.reduceEqDiff, Nat.reduceBEq, reduceCtorEq, Nat.reduceLT, Nat.reduceAdd, Int.reduceLT, Int.reduceLE, c_slices_Concat___int_int__r4]
    refine hKY _ ?_
    refine wlk_sreg fun KY hKY => ?_
    simp only [go_sem, reduceIte, Nat.reduceEqDiff, reduceCtorEq, c_slices_Concat___int_int__r5, w2, ints_len]
    refine hKY _ ?_
    refine wlk_sreg fun KY hKY => ?_
    simp only [go_sem, reduceIte, Nat.reduceEqDiff, reduceCtorEq, c_slices_Concat___int_int__r6, (show decide (((A.length + B.length : Nat) : Int) < 0) = false from decide_eq_false (by omega))]
    refine hKY _ ?_
    refine wlk_cond0 rfl ?_
    refine wlk_skip ?_
    repeat (first | refine hn8 _ ?_ | refine he8 _ ?_ | refine hf8 _ _ (by decide) ?_ | refine hn7 _ ?_ | refine he7 _ _ ?_ | refine hn4 _ ?_ | refine he4 _ _ ?_ | refine he3 _ _ ?_ | refine hn2 _ ?_ | refine he2 _ ?_ | refine hf2 _ _ (by decide) ?_ | refine hn1 _ ?_ | refine he1 _ _ ?_)
    refine wlk_reg fun KY hKY => ?_
    simp only [go_sem, reduceIte, Nat.reduceEqDiff, reduceCtorEq, Int.reduceAdd, c_slices_Concat___int_int__r8, (show IntKind.i64.wrap 2 = 2 by decide)]
    refine hKY _ ?_
    repeat (first | refine hn8 _ ?_ | refine he8 _ ?_ | refine hf8 _ _ (by decide) ?_ | refine hn7 _ ?_ | refine he7 _ _ ?_ | refine hn4 _ ?_ | refine he4 _ _ ?_)
    refine hn3 _ (2) (2 - 2) (by omega) (by first | (simp only [go_sem, reduceIte, Nat.reduceEqDiff, Nat.reduceBEq, reduceCtorEq, updAll_cons, updAll_nil, (show ((2 : Nat) : Int) = 2 from rfl), cond_false]; done) | with_reducible rfl) ?_
    exact ⟨by omega, rfl⟩
  · obtain rfl : k = 2 := by omega
    refine wlk_cond0 rfl ?_
    refine wlk_exit ?_
    repeat (first | refine hn4 _ ?_ | refine he4 _ _ ?_ | refine he3 _ _ ?_ | refine hn2 _ ?_ | refine he2 _ ?_ | refine hf2 _ _ (by decide) ?_ | refine hn1 _ ?_ | refine he1 _ _ ?_)
    have hgr := grow_ok (A.length + B.length) (by omega)
    refine wlk_sreg fun KY hKY => ?_
    simp only [go_sem, reduceIte, Nat.reduceEqDiff, Nat.reduceBEq, reduceCtorEq, Int.reduceLT, c_slices_Concat___int_int__r9]
    refine call_view rfl (by simp only [go_sem, reduceIte, Nat.reduceEqDiff, reduceCtorEq] <;> rfl) ((hgr).mono ?_)
    rintro rr hh ⟨rfl, rfl⟩
    refine ⟨rfl, rfl, rfl, ?_⟩
    simp only [go_sem, reduceIte, Nat.reduceEqDiff, reduceCtorEq]
    refine hKY _ ?_
    refine wlk_seq fun X9 hn9 he9 hr9 => ?_
    refine wlk_sreg fun KY hKY => ?_
    simp only [go_sem, reduceIte, Nat.reduceEqDiff, reduceCtorEq, Nat.reduceAdd, c_slices_Concat___int_int__r10]
    refine hKY _ ?_
    refine wlk_blk fun X10 hn10 he10 hf10 hr10 => ?_
    try simp only [go_sem, reduceIte, Nat.reduceEqDiff, reduceCtorEq]
    refine wlk_lp (α := Nat) [8, 28] (fun j => [(6, .own (some 1) (ints (bif j == 0 then [] else bif j == 1 then A else A ++ B))), (27, .sc (.int .i64 (j : Int)))]) (fun j => []) (fun j q => j ≤ 2 ∧ q = 2 - j) (0) (2) rfl (by first | (simp only [go_sem, reduceIte, Nat.reduceEqDiff, Nat.reduceBEq, reduceCtorEq, updAll_cons, updAll_nil]; done) | with_reducible rfl | rfl) (⟨by omega, rfl⟩) ?_
    rintro j q ⟨hj, rfl⟩ X11 hn11 he11 hr11
    simp only [go_sem, reduceIte, Nat.reduceEqDiff, reduceCtorEq, updAll_cons, updAll_nil]
    refine wlk_sreg fun KY hKY => ?_
    simp only [go_sem, reduceIte, Nat.reduceEqDiff, reduceCtorEq, c_slices_Concat___int_int__r11]
    refine hKY _ ?_
    refine wlk_seq fun X12 hn12 he12 hr12 => ?_
    by_cases hj0 : j = 0
    · subst hj0
      refine wlk_cond1 rfl ?_
      refine wlk_skip ?_
      repeat (first | refine hn12 _ ?_ | refine he12 _ _ ?_ | refine he11 _ _ ?_ | refine hn10 _ ?_ | refine he10 _ ?_ | refine hf10 _ _ (by decide) ?_ | refine hn9 _ ?_ | refine he9 _ _ ?_ | refine hn4 _ ?_ | refine he4 _ _ ?_)
      refine wlk_seq fun X13 hn13 he13 hr13 => ?_
      refine wlk_blk fun X14 hn14 he14 hf14 hr14 => ?_
      refine wlk_sreg fun KY hKY => ?_
      simp only [go_sem, reduceIte, Nat.reduceEqDiff, Nat.reduceBEq, reduceCtorEq, Nat.reduceLT, Nat.reduceAdd, Int.reduceLT, Int.reduceLE, c_slices_Concat___int_int__r12]
      refine hKY _ ?_
      refine wlk_reg fun KY hKY => ?_
      simp only [go_sem, reduceIte, Nat.reduceEqDiff, reduceCtorEq, c_slices_Concat___int_int__r13, (show A.length * 8 ≤ 140737488355328 by omega), ints_cellOk, (show ints [] ++ ints A = ints A from rfl)]
      refine hKY _ ?_
      repeat (first | refine hn14 _ ?_ | refine he14 _ ?_ | refine hf14 _ _ (by decide) ?_ | refine hn13 _ ?_ | refine he13 _ _ ?_ | refine hn12 _ ?_ | refine he12 _ _ ?_ | refine he11 _ _ ?_ | refine hn10 _ ?_ | refine he10 _ ?_ | refine hf10 _ _ (by decide) ?_ | refine hn9 _ ?_ | refine he9 _ _ ?_ | refine hn4 _ ?_ | refine he4 _ _ ?_)
      refine wlk_reg fun KY hKY => ?_
      simp only [go_sem, reduceIte, Nat.reduceEqDiff, reduceCtorEq, Int.reduceAdd, c_slices_Concat___int_int__r14, (show IntKind.i64.wrap 1 = 1 by decide)]
      refine hKY _ ?_
      repeat (first | refine hn14 _ ?_ | refine he14 _ ?_ | refine hf14 _ _ (by decide) ?_ | refine hn13 _ ?_ | refine he13 _ _ ?_ | refine hn12 _ ?_ | refine he12 _ _ ?_)
      refine hn11 _ (1) (2 - 1) (by omega) (by first | (simp only [go_sem, reduceIte, Nat.reduceEqDiff, Nat.reduceBEq, reduceCtorEq, updAll_cons, updAll_nil, (show ((1 : Nat) : Int) = 1 from rfl), cond_true, cond_false]; done) | with_reducible rfl) ?_
      exact ⟨by omega, rfl⟩
    by_cases hj1 : j = 1
    · subst hj1
      refine wlk_cond1 rfl ?_
      refine wlk_skip ?_
      repeat (first | refine hn12 _ ?_ | refine he12 _ _ ?_ | refine he11 _ _ ?_ | refine hn10 _ ?_ | refine he10 _ ?_ | refine hf10 _ _ (by decide) ?_ | refine hn9 _ ?_ | refine he9 _ _ ?_ | refine hn4 _ ?_ | refine he4 _ _ ?_)
      refine wlk_seq fun X15 hn15 he15 hr15 => ?_
      refine wlk_blk fun X16 hn16 he16 hf16 hr16 => ?_
      refine wlk_sreg fun KY hKY => ?_
      simp only [go_sem, reduceIte, Nat.reduceEqDiff, Nat.reduceBEq, reduceCtorEq, Nat.reduceLT, Nat.reduceAdd, Int.reduceLT, Int.reduceLE, c_slices_Concat___int_int__r12]
      refine hKY _ ?_
      refine wlk_reg fun KY hKY => ?_
      simp only [go_sem, reduceIte, Nat.reduceEqDiff, reduceCtorEq, c_slices_Concat___int_int__r13, (show (A.length + B.length) * 8 ≤ 140737488355328 by omega), ints_cellOk, (show ints A ++ ints B = ints (A ++ B) by simp [ints])]
      refine hKY _ ?_
      repeat (first | refine hn16 _ ?_ | refine he16 _ ?_ | refine hf16 _ _ (by decide) ?_ | refine hn15 _ ?_ | refine he15 _ _ ?_ | refine hn12 _ ?_ | refine he12 _ _ ?_ | refine he11 _ _ ?_ | refine hn10 _ ?_ | refine he10 _ ?_ | refine hf10 _ _ (by decide) ?_ | refine hn9 _ ?_ | refine he9 _ _ ?_ | refine hn4 _ ?_ | refine he4 _ _ ?_)
      refine wlk_reg fun KY hKY => ?_
      simp only [go_sem, reduceIte, Nat.reduceEqDiff, reduceCtorEq, Int.reduceAdd, c_slices_Concat___int_int__r14, (show IntKind.i64.wrap 2 = 2 by decide)]
      refine hKY _ ?_
      repeat (first | refine hn16 _ ?_ | refine he16 _ ?_ | refine hf16 _ _ (by decide) ?_ | refine hn15 _ ?_ | refine he15 _ _ ?_ | refine hn12 _ ?_ | refine he12 _ _ ?_)
      refine hn11 _ (2) (2 - 2) (by omega) (by first | (simp only [go_sem, reduceIte, Nat.reduceEqDiff, Nat.reduceBEq, reduceCtorEq, updAll_cons, updAll_nil, (show ((2 : Nat) : Int) = 2 from rfl), cond_false]; done) | with_reducible rfl) ?_
      exact ⟨by omega, rfl⟩
    · obtain rfl : j = 2 := by omega
      refine wlk_cond0 rfl ?_
      refine wlk_exit ?_
      repeat (first | refine hn12 _ ?_ | refine he12 _ _ ?_ | refine he11 _ _ ?_ | refine hn10 _ ?_ | refine he10 _ ?_ | refine hf10 _ _ (by decide) ?_ | refine hn9 _ ?_ | refine he9 _ _ ?_ | refine hn4 _ ?_ | refine he4 _ _ ?_ | refine he3 _ _ ?_ | refine hn2 _ ?_ | refine he2 _ ?_ | refine hf2 _ _ (by decide) ?_ | refine hn1 _ ?_ | refine he1 _ _ ?_)
      refine wlk_sreg fun KY hKY => ?_
      simp only [go_sem, reduceIte, Nat.reduceEqDiff, Nat.reduceBEq, reduceCtorEq, Int.reduceLT, c_slices_Concat___int_int__r15]
      refine hKY _ ?_
      refine wlk_ret ?_
      repeat (first | refine hr12 _ ?_ | refine hr11 _ ?_ | refine hr10 _ ?_ | refine hr9 _ ?_ | refine hr4 _ ?_ | refine hr3 _ ?_ | refine hr2 _ ?_ | refine hr1 _ ?_)
      simp only [go_sem, reduceIte, Nat.reduceEqDiff, reduceCtorEq]
end Go.Proofs.Ytepjcfbigcfkfaa
namespace Go.Ga.Gl
def s1 (f : Nat → Int) (l : List Nat) : Int := (l.map f).sum
def s2 (x : Nat → Nat → Int) (A B : List Nat) : Int := s1 (fun a => s1 (x a) B) A
theorem s1_nil (f : Nat → Int) : s1 f [] = 0 := rfl
theorem s1_cons (f : Nat → Int) (a : Nat) (l : List Nat) : s1 f (a :: l) = f a + s1 f l := by simp [s1]
theorem s1_append (f : Nat → Int) (l m : List Nat) : s1 f (l ++ m) = s1 f l + s1 f m := by simp [s1]
theorem s1_congr {f g : Nat → Int} {l : List Nat} (h : ∀ a ∈ l, f a = g a) : s1 f l = s1 g l := by
  induction l with
  | nil => rfl
  | cons a l ih => rw [s1_cons, s1_cons, h a (.head _), ih fun b hb => h b (.tail _ hb)]
theorem s1_zero {f : Nat → Int} {l : List Nat} (h : ∀ a ∈ l, f a = 0) : s1 f l = 0 := by
  rw [s1_congr (g := fun _ => 0) h]
  induction l with
  | nil => rfl
  | cons a l ih => rw [s1_cons, ih fun b hb => h b (.tail _ hb)]; rfl
theorem s1_add (f g : Nat → Int) (l : List Nat) : s1 (fun a => f a + g a) l = s1 f l + s1 g l := by
  induction l with
  | nil => rfl
  | cons a l ih => simp only [s1_cons, ih]; omega
def sp (g : List Nat → Int) (ps : List (List Nat)) : Int := (ps.map g).sum
theorem sp_cons (g : List Nat → Int) (p : List Nat) (ps : List (List Nat)) : sp g (p :: ps) = g p + sp g ps := by simp [sp]
end Go.Ga.Gl
set_option maxRecDepth 100000
set_option maxHeartbeats 2000000
namespace Go.Proofs.Ytepjcfbigcfkfaa
open Go Go.Ga Go.Ga.Gl
def allNear (es : Es) (T : List Nat) : List Nat := T.flatMap (nearOf es)
def toI (N : Nat) (P : List Nat) : List Int := (List.range N).map fun w => (P.count w : Int)
def lackW (N : Nat) (es : Es) (fs : List Int) (S T : List Nat) (ps : List (List Nat)) : Int :=
  sumAt fs T - sumAt fs S - ((allNear es T).filter fun w => decide (w ∉ S)).length + sp (fun p => (sumAt fs p + sumAt (toI N (allNear es T)) p) % 2) ps
theorem upB_nat {N : Nat} {l : List Int} (h : upB N l = true) : ∃ l' : List Nat, l = l'.map (fun v : Nat => (v : Int)) ∧ (∀ v ∈ l', v < N) ∧ l'.Pairwise (· < ·) := by
  unfold upB at h
  rw [Bool.and_eq_true, List.all_eq_true, decide_eq_true_iff] at h
  refine ⟨l.map Int.toNat, ?_, ?_, ?_⟩
  · rw [List.map_map]
    conv => lhs; rw [← List.map_id l]
    refine List.map_congr_left fun v hv => ?_
    have := h.1 v hv
    simp at this
    show v = ((v.toNat : Nat) : Int)
    omega
  · intro v hv
    obtain ⟨x, hx, rfl⟩ := List.mem_map.1 hv
    have := h.1 x hx
    simp at this
    omega
  · rw [List.pairwise_map]
    refine List.Pairwise.imp_of_mem ?_ h.2
    intro a b ha hb hab
    have h1 := h.1 a ha
    have h2 := h.1 b hb
    simp at h1 h2
    omega
theorem up_len {N : Nat} {l : List Nat} (h1 : ∀ v ∈ l, v < N) (h2 : l.Pairwise (· < ·)) : l.length ≤ N :=
  Nat.le_trans (nodup_le (h2.imp fun h => Nat.ne_of_lt h) (m := List.range N) fun x hx => List.mem_range.2 (h1 x hx)) (by simp)
theorem lackE_ok (n : Int) (es : List (Int × Int)) (fs S T : List Int) (hf : fs.length ≤ 1000000) (hS : S.length ≤ 1000000) (hT : T.length ≤ 1000000) (h : tErr n es fs ≠ 0) : ACalls Try.prog [] n_tutte_Lack [.agg [.sc (.int .i64 n), .imm 2 (twos es)], .imm 1 (ints fs), .agg [.imm 1 (ints S), .imm 1 (ints T)]] [] fun r h' => r = .tup [.sc (.int .i64 0), .sc (.int .i64 (tErr n es fs))] ∧ h' = [] := by
  refine ACalls.trim ?_
  have htr := tright_ok n es fs (by omega)
  have hd : decide (tErr n es fs ≠ 0) = true := decide_eq_true h
  refine go_tutte_Lack rfl ?_
  unfold c_tutte_Lack v_tutte_Lack
  refine wlk_sreg fun KY hKY => ?_
  simp only [go_sem, reduceIte, Nat.reduceEqDiff, reduceCtorEq, c_tutte_Lack_r0]
  refine hKY _ ?_
  refine wlk_seq fun X1 hn1 he1 hr1 => ?_
  refine wlk_sreg fun KY hKY => ?_
  simp only [go_sem, reduceIte, Nat.reduceEqDiff, reduceCtorEq, Nat.reduceLT, Nat.reduceAdd, c_tutte_Lack_r1]
  refine call_view rfl (by simp only [go_sem, reduceIte, Nat.reduceEqDiff, reduceCtorEq] <;> rfl) ((htr).mono ?_)
  rintro rr hh ⟨rfl, rfl⟩
  refine ⟨rfl, rfl, rfl, ?_⟩
  simp only [go_sem, reduceIte, Nat.reduceEqDiff, reduceCtorEq]
  refine hKY _ ?_
  refine wlk_sreg fun KY hKY => ?_
  simp only [go_sem, reduceIte, Nat.reduceEqDiff, reduceCtorEq, c_tutte_Lack_r2, hd]
  refine hKY _ ?_
  refine wlk_cond1 rfl ?_
  refine wlk_sreg fun KY hKY => ?_
  simp only [go_sem, reduceIte, Nat.reduceEqDiff, reduceCtorEq, c_tutte_Lack_r3]
  refine hKY _ ?_
  refine wlk_ret ?_
  repeat (first | refine hr1 _ ?_)
  simp only [go_sem, reduceIte, Nat.reduceEqDiff, reduceCtorEq]
theorem lackP_ok (N : Nat) (es : List (Int × Int)) (fs S T : List Int) (hN : N ≤ 4096) (hf : fs.length ≤ 1000000) (hS : S.length ≤ 1000000) (hT : T.length ≤ 1000000) (h : tErr N es fs = 0) (hp : okPB N S T = false) : ACalls Try.prog [] n_tutte_Lack [.agg [.sc (.int .i64 (N : Int)), .imm 2 (twos es)], .imm 1 (ints fs), .agg [.imm 1 (ints S), .imm 1 (ints T)]] [] fun r h' => r = .tup [.sc (.int .i64 0), .sc (.int .i64 1)] ∧ h' = [] := by
  refine ACalls.trim ?_
  have htr := tright_ok (N : Int) es fs (by omega)
  rw [h] at htr
  have hpl := placed_ok N S T hN hS hT
  rw [hp, cond_false] at hpl
  refine go_tutte_Lack rfl ?_
  unfold c_tutte_Lack v_tutte_Lack
  refine wlk_sreg fun KY hKY => ?_
  simp only [go_sem, reduceIte, Nat.reduceEqDiff, reduceCtorEq, c_tutte_Lack_r0]
  refine hKY _ ?_
  refine wlk_seq fun X1 hn1 he1 hr1 => ?_
  refine wlk_sreg fun KY hKY => ?_
  simp only [go_sem, reduceIte, Nat.reduceEqDiff, reduceCtorEq, Nat.reduceLT, Nat.reduceAdd, c_tutte_Lack_r1]
  refine call_view rfl (by simp only [go_sem, reduceIte, Nat.reduceEqDiff, reduceCtorEq] <;> rfl) ((htr).mono ?_)
  rintro rr hh ⟨rfl, rfl⟩
  refine ⟨rfl, rfl, rfl, ?_⟩
  simp only [go_sem, reduceIte, Nat.reduceEqDiff, reduceCtorEq]
  refine hKY _ ?_
  refine wlk_sreg fun KY hKY => ?_
  simp only [go_sem, reduceIte, Nat.reduceEqDiff, reduceCtorEq, c_tutte_Lack_r2]
  refine hKY _ ?_
  refine wlk_cond0 rfl ?_
  refine wlk_skip ?_
  repeat (first | refine hn1 _ ?_ | refine he1 _ _ ?_)
  refine wlk_sreg fun KY hKY => ?_
  simp only [go_sem, reduceIte, Nat.reduceEqDiff, reduceCtorEq, Nat.reduceLT, Nat.reduceAdd, c_tutte_Lack_r4]
  refine call_view rfl (by simp only [go_sem, reduceIte, Nat.reduceEqDiff, reduceCtorEq] <;> rfl) ((hpl).mono ?_)
  rintro rr hh ⟨rfl, rfl⟩
  refine ⟨?_, ?_, ?_, ?_⟩
  iterate 3 (first | rfl | simp only [go_sem, reduceIte, Nat.reduceEqDiff, Nat.reduceBEq, reduceCtorEq, Nat.reduceLT, Nat.reduceLeDiff, Nat.reduceAdd, Nat.reduceSub, Nat.reduceMul, Nat.reduceDiv, Int.reduceAdd, Int.reduceNeg, Int.reduceEq, Int.reduceLT, Int.reduceLE])
  simp only [go_sem, reduceIte, Nat.reduceEqDiff, Nat.reduceBEq, reduceCtorEq]
  refine hKY _ ?_
  refine wlk_seq fun X2 hn2 he2 hr2 => ?_
  refine wlk_sreg fun KY hKY => ?_
  simp only [go_sem, reduceIte, Nat.reduceEqDiff, reduceCtorEq, c_tutte_Lack_r5]
  refine hKY _ ?_
  refine wlk_cond1 rfl ?_
  refine wlk_sreg fun KY hKY => ?_
  simp only [go_sem, reduceIte, Nat.reduceEqDiff, reduceCtorEq, c_tutte_Lack_r6]
  refine hKY _ ?_
  refine wlk_ret ?_
  repeat (first | refine hr2 _ ?_ | refine hr1 _ ?_)
  simp only [go_sem, reduceIte, Nat.reduceEqDiff, reduceCtorEq]
end Go.Proofs.Ytepjcfbigcfkfaa
set_option maxRecDepth 100000
set_option maxHeartbeats 2000000
namespace Go.Proofs.Ytepjcfbigcfkfaa
open Go Go.Ga Go.Ga.Gl
theorem nearOf_inc {N : Nat} {es : Es} (g : GR N es) (v : Nat) : (nearOf es v).Pairwise (· < ·) := by
  unfold nearOf
  rw [List.pairwise_append]
  refine ⟨?_, ?_, ?_⟩
  · unfold lowOf
    rw [List.pairwise_map]
    refine List.Pairwise.imp_of_mem ?_ (g.up.filter _)
    intro a b ha hb hab
    have h1 := (List.mem_filter.1 ha).2
    have h2 := (List.mem_filter.1 hb).2
    simp at h1 h2
    unfold lexlt at hab
    omega
  · unfold highOf
    rw [List.pairwise_map]
    refine List.Pairwise.imp_of_mem ?_ (g.up.filter _)
    intro a b ha hb hab
    have h1 := (List.mem_filter.1 ha).2
    have h2 := (List.mem_filter.1 hb).2
    simp at h1 h2
    unfold lexlt at hab
    omega
  · intro a ha b hb
    unfold lowOf at ha
    unfold highOf at hb
    obtain ⟨x, hx, rfl⟩ := List.mem_map.1 ha
    obtain ⟨y, hy, rfl⟩ := List.mem_map.1 hb
    have h1 := List.mem_filter.1 hx
    have h2 := List.mem_filter.1 hy
    have h3 := g.ok x h1.1
    have h4 := g.ok y h2.1
    have h5 := h1.2
    have h6 := h2.2
    simp at h5 h6
    omega
theorem count_nodup {l : List Nat} (h : l.Nodup) (w : Nat) : l.count w ≤ 1 := by
  exact List.nodup_iff_count.1 h w
theorem allNear_count {es : Es} (hn : ∀ v, (nearOf es v).Nodup) (w : Nat) : ∀ T : List Nat, (allNear es T).count w ≤ T.length
  | [] => by simp [allNear]
  | v :: T => by
    have h1 := allNear_count hn w T
    have h2 := count_nodup (hn v) w
    simp only [allNear, List.flatMap_cons, List.count_append, List.length_cons] at h1 ⊢
    omega
theorem degs_of {n : Int} {fs : List Int} (h : degsB n fs = true) : (fs.length : Int) = n ∧ ∀ x ∈ fs, 0 ≤ x ∧ x ≤ 4096 := by
  unfold degsB at h
  rw [Bool.and_eq_true, decide_eq_true_iff, List.all_eq_true] at h
  exact ⟨h.1, fun x hx => by have := h.2 x hx; simp at this; exact this⟩
theorem tErr_zero {n : Int} {es : List (Int × Int)} {fs : List Int} (h : tErr n es fs = 0) : rightB n es = true ∧ degsB n fs = true := by
  unfold tErr at h
  cases h1 : rightB n es <;> cases h2 : degsB n fs <;> simp [h1, h2] at h ⊢
theorem nearOf_len {N : Nat} {es : Es} (g : GR N es) (v : Nat) : (nearOf es v).length ≤ 2 * es.length := by
  simp only [nearOf, lowOf, highOf, List.length_append, List.length_map]
  have h1 := List.length_filter_le (fun e : Nat × Nat => decide (e.2 = v)) es
  have h2 := List.length_filter_le (fun e : Nat × Nat => decide (e.1 = v)) es
  omega
theorem allNear_len {N : Nat} {es : Es} (g : GR N es) : ∀ T : List Nat, (allNear es T).length ≤ T.length * 131072
  | [] => by simp [allNear]
  | v :: T => by
    have := allNear_len g T
    have h1 := nearOf_len g v
    have h2 := g.hm
    simp only [allNear, List.flatMap_cons, List.length_append, List.length_cons] at this ⊢
    omega
theorem allNear_snoc (es : Es) {T : List Nat} {k v : Nat} (h : T[k]? = some v) : allNear es (T.take (k + 1)) = allNear es (T.take k) ++ nearOf es v := by
  simp [allNear, List.take_add_one, h]
def lk (fs : List Int) (S T P : List Nat) : Int := sumAt fs T - sumAt fs S - ((P.filter fun w => decide (w ∉ S)).length : Nat)
theorem toI_len (N : Nat) (P : List Nat) : (toI N P).length = N := by simp [toI]
theorem toI_get {N : Nat} (P : List Nat) {w : Nat} (h : w < N) : (toI N P).getD w 0 = (P.count w : Int) := by simp [toI, h]
theorem toI_set {N : Nat} (P : List Nat) (w : Nat) : (toI N P).set w ((P.count w + 1 : Nat) : Int) = toI N (P ++ [w]) := by
  apply List.ext_getElem
  · simp [toI]
  · intro j h1 h2
    simp only [toI, List.getElem_set, List.getElem_map, List.getElem_range, List.count_append, List.count_singleton]
    by_cases e : w = j
    · subst e; simp
    · rw [if_neg e]
      simp [e]
theorem lk_in (fs : List Int) {S T P : List Nat} {w : Nat} (h : w ∈ S) : lk fs S T (P ++ [w]) = lk fs S T P := by simp [lk, h]
theorem lk_out (fs : List Int) {S T P : List Nat} {w : Nat} (h : w ∉ S) : lk fs S T (P ++ [w]) = lk fs S T P - 1 := by simp [lk, h]; omega
theorem mem_castI {w : Nat} {S : List Nat} : ((w : Int) ∈ S.map fun v : Nat => (v : Int)) ↔ w ∈ S :=
  ⟨fun h => by
    obtain ⟨x, hx, e⟩ := List.mem_map.1 h
    have : x = w := by omega
    exact this ▸ hx, fun h => List.mem_map.2 ⟨w, h, rfl⟩⟩
theorem lack_ok {N : Nat} {es : Es} (g : GR N es) (fs : List Int) (S T : List Nat) (hfl : fs.length = N) (hfs : ∀ x ∈ fs, 0 ≤ x ∧ x ≤ 4096) (hSv : ∀ v ∈ S, v < N) (hTv : ∀ v ∈ T, v < N) (hSl : S.length ≤ N) (hTl : T.length ≤ N) (htr : tErr N (castE es) fs = 0) (hp : okPB N (S.map fun v : Nat => (v : Int)) (T.map fun v : Nat => (v : Int)) = true) :
    ACalls Try.prog [] n_tutte_Lack [.agg [.sc (.int .i64 (N : Int)), .imm 2 (twos (castE es))], .imm 1 (ints fs), .agg [.imm 1 (nats S), .imm 1 (nats T)]] [] fun r h' => (∃ ps, IsPieces N es (fun v => (v : Int) ∈ (S ++ T).map fun v : Nat => (v : Int)) ps ∧ r = .tup [.sc (.int .i64 (lackW N es fs S T ps)), .sc (.int .i64 0)]) ∧ h' = [] := by
  have hN := g.hn
  have htr1 := tright_ok (N : Int) (castE es) fs (by omega)
  rw [htr] at htr1
  have hpl := placed_ok N (S.map fun v : Nat => (v : Int)) (T.map fun v : Nat => (v : Int)) hN (by simp; omega) (by simp; omega)
  rw [hp, cond_true, ← nats_ints, ← nats_ints] at hpl
  have hsT := sum_ok fs T hfs (fun v hv => by rw [hfl]; exact hTv v hv) (by omega)
  have hsS := sum_ok fs S hfs (fun v hv => by rw [hfl]; exact hSv v hv) (by omega)
  refine ACalls.trim ?_
  refine go_tutte_Lack rfl ?_
  unfold c_tutte_Lack v_tutte_Lack
  refine wlk_sreg fun KY hKY => ?_
  simp only [go_sem, reduceIte, Nat.reduceEqDiff, reduceCtorEq, c_tutte_Lack_r0]
  refine hKY _ ?_
  refine wlk_seq fun X1 hn1 he1 hr1 => ?_
  refine wlk_sreg fun KY hKY => ?_
  simp only [go_sem, reduceIte, Nat.reduceEqDiff, reduceCtorEq, Nat.reduceLT, Nat.reduceAdd, c_tutte_Lack_r1]
  refine call_view rfl (by simp only [go_sem, reduceIte, Nat.reduceEqDiff, reduceCtorEq] <;> rfl) ((htr1).mono ?_)
  rintro rr hh ⟨rfl, rfl⟩
  refine ⟨rfl, rfl, rfl, ?_⟩
  simp only [go_sem, reduceIte, Nat.reduceEqDiff, reduceCtorEq]
  refine hKY _ ?_
  refine wlk_sreg fun KY hKY => ?_
  simp only [go_sem, reduceIte, Nat.reduceEqDiff, reduceCtorEq, c_tutte_Lack_r2]
  refine hKY _ ?_
  refine wlk_cond0 rfl ?_
  refine wlk_skip ?_
  repeat (first | refine hn1 _ ?_ | refine he1 _ _ ?_)
  refine wlk_sreg fun KY hKY => ?_
  simp only [go_sem, reduceIte, Nat.reduceEqDiff, reduceCtorEq, Nat.reduceLT, Nat.reduceAdd, c_tutte_Lack_r4]
  refine call_view rfl (by simp only [go_sem, reduceIte, Nat.reduceEqDiff, reduceCtorEq] <;> rfl) ((hpl).mono ?_)
  rintro rr hh ⟨rfl, rfl⟩
  refine ⟨?_, ?_, ?_, ?_⟩
  iterate 3 (first | rfl | simp only [go_sem])
  simp only [go_sem, reduceIte, Nat.reduceEqDiff, Nat.reduceBEq, reduceCtorEq]
  refine hKY _ ?_
  refine wlk_seq fun X2 hn2 he2 hr2 => ?_
  refine wlk_sreg fun KY hKY => ?_
  simp only [go_sem, reduceIte, Nat.reduceEqDiff, reduceCtorEq, c_tutte_Lack_r5]
  refine hKY _ ?_
  refine wlk_cond0 rfl ?_
  refine wlk_skip ?_
  repeat (first | refine hn2 _ ?_ | refine he2 _ _ ?_ | refine hn1 _ ?_ | refine he1 _ _ ?_)
  refine wlk_sreg fun KY hKY => ?_
  simp only [go_sem, reduceIte, Nat.reduceEqDiff, reduceCtorEq, c_tutte_Lack_r7]
  refine hKY _ ?_
  refine wlk_sdraw fun KY hKY => ?_
  simp only [go_sem, reduceIte, Nat.reduceEqDiff, Nat.reduceBEq, reduceCtorEq, c_tutte_Lack_r8]
  refine call_view rfl (by simp only [go_sem, reduceIte, Nat.reduceEqDiff, reduceCtorEq] <;> rfl) ((hsT).mono ?_)
  rintro rr hh ⟨rfl, rfl⟩
  refine ⟨rfl, rfl, rfl, ?_⟩
  simp only [go_sem, reduceIte, Nat.reduceBEq, reduceCtorEq]
  refine call_view rfl (by simp only [go_sem, reduceIte, Nat.reduceEqDiff, reduceCtorEq] <;> rfl) ((hsS).mono ?_)
  rintro rr hh ⟨rfl, rfl⟩
  refine ⟨rfl, rfl, rfl, ?_⟩
  simp only [go_sem, reduceIte, Nat.reduceEqDiff, Nat.reduceBEq, reduceCtorEq]
  refine hKY _ ?_
  refine wlk_sreg fun KY hKY => ?_
  simp only [go_sem, reduceIte, Nat.reduceEqDiff, reduceCtorEq, c_tutte_Lack_r9]
  refine call_view rfl (by simp only [go_sem, reduceIte, Nat.reduceEqDiff, reduceCtorEq] <;> rfl) ((lists_ok g).mono ?_)
  rintro rr hh ⟨rfl, rfl⟩
  refine ⟨?_, ?_, ?_, ?_⟩
  iterate 3 (first | rfl | simp only [go_sem])
  simp only [go_sem, reduceIte, Nat.reduceEqDiff, Nat.reduceBEq, reduceCtorEq]
  refine hKY _ ?_
  refine sem_freeze [0, 13] (by simp only [go_sem, reduceIte, Nat.reduceEqDiff, reduceCtorEq]; rfl) ?_
  simp only [go_sem, reduceIte, Nat.reduceEqDiff, reduceCtorEq]
  refine wlk_sreg fun KY hKY => ?_
  simp only [go_sem, reduceIte, Nat.reduceEqDiff, Nat.reduceBEq, reduceCtorEq, c_tutte_Lack_r10, (show 8 * N ≤ 140737488355328 by omega), ints_zero, (show (N : Int) ≤ (N : Int) from Int.le_refl _), (show (N : Int) ≤ 9223372036854775807 by omega)]
  refine hKY _ ?_
  have hat0 := fun w (hw : w < N) => atM_get (N := N) (fun v => if (v : Int) ∈ T.map (fun v : Nat => (v : Int)) then 2 else 0) (S.map fun v : Nat => (v : Int)) 1 hw
  have hatl : (atL N (S.map fun v : Nat => (v : Int)) (T.map fun v : Nat => (v : Int))).length = N := by simp [atL]
  have hrn : (near N es).length = N := near_len N es
  have hlk0 : IntKind.i64.wrap (sumAt fs T - sumAt fs S) = lk fs S T (allNear es (T.take 0)) := by
    have h1 := sumAt_bound hfs T
    have h2 := sumAt_bound hfs S
    rw [IntWalk.i64_in _ (by omega)]; simp [lk, allNear]
  have hto0 : List.replicate N (0 : Int) = toI N (allNear es (T.take 0)) := List.ext_getElem (by simp [toI]) (by simp [toI, allNear])
  rw [hlk0, hto0]
  have hlkb : ∀ P : List Nat, P.length ≤ 1000000000000 → -2000000000000 ≤ lk fs S T P ∧ lk fs S T P ≤ 2000000000000 := by
    intro P hP
    have h1 := sumAt_bound hfs T
    have h2 := sumAt_bound hfs S
    have h3 := List.length_filter_le (fun w => decide (w ∉ S)) P
    unfold lk
    omega
  have hPb : ∀ k, (allNear es (T.take k)).length ≤ 536870912 := by
    intro k
    have h1 := allNear_len g (T.take k)
    have h2 : (T.take k).length ≤ T.length := List.length_take_le' _ _
    omega
  refine wlk_seq fun X3 hn3 he3 hr3 => ?_
  refine wlk_sreg fun KY hKY => ?_
  simp only [go_sem, reduceIte, Nat.reduceEqDiff, reduceCtorEq, c_tutte_Lack_r11]
  refine hKY _ ?_
  refine wlk_blk fun X4 hn4 he4 hf4 hr4 => ?_
  try simp only [go_sem, reduceIte, Nat.reduceEqDiff, reduceCtorEq]
  refine wlk_lp (α := Nat) [16, 18, 59, 65, 66, 67, 68, 81] (fun k => [(12, .sc (.int .i64 (lk fs S T (allNear es (T.take k))))), (14, .own (some 1) (ints (toI N (allNear es (T.take k))))), (58, .sc (.int .i64 (k : Int)))]) (fun k => []) (fun k q => k ≤ T.length ∧ q = T.length - k) (0) (T.length) rfl (by first | (simp only [go_sem, reduceIte, Nat.reduceEqDiff, reduceCtorEq, updAll_cons, updAll_nil]; done) | with_reducible rfl | rfl) (⟨by omega, rfl⟩) ?_
  rintro k q ⟨hk, rfl⟩ X5 hn5 he5 hr5
  simp only [go_sem, reduceIte, Nat.reduceEqDiff, reduceCtorEq, updAll_cons, updAll_nil]
  refine wlk_sreg fun KY hKY => ?_
  simp only [go_sem, reduceIte, Nat.reduceEqDiff, reduceCtorEq, c_tutte_Lack_r12]
  refine hKY _ ?_
  refine wlk_seq fun X6 hn6 he6 hr6 => ?_
  by_cases hk2 : k < T.length
  · refine wlk_cond1 (by first | rfl | (simp only [go_sem, reduceIte, Nat.reduceEqDiff, reduceCtorEq]; try simp (disch := omega) only [decide_eq_true])) ?_
    refine wlk_skip ?_
    repeat (first | refine hn6 _ ?_ | refine he6 _ _ ?_ | refine he5 _ _ ?_ | refine hn4 _ ?_ | refine he4 _ ?_ | refine hf4 _ _ (by decide) ?_ | refine hn3 _ ?_ | refine he3 _ _ ?_ | refine hn2 _ ?_ | refine he2 _ _ ?_ | refine hn1 _ ?_ | refine he1 _ _ ?_)
    refine wlk_seq fun X7 hn7 he7 hr7 => ?_
    refine wlk_blk fun X8 hn8 he8 hf8 hr8 => ?_
    have hx : T[k]? = some T[k] := List.getElem?_eq_getElem hk2
    have hm : T[k] ∈ T := List.getElem_mem hk2
    generalize T[k] = v at hx hm
    have hvN := hTv v hm
    have hnr := rowsI_get (near_get (es := es) hvN)
    have hnl := nearOf_len g v
    have hgm := g.hm
    have hPk := hPb k
    have hsn := allNear_snoc es hx
    generalize allNear es (T.take k) = P at hPk hsn
    refine wlk_sreg fun KY hKY => ?_
    simp only [go_sem, reduceIte, Nat.reduceEqDiff, reduceCtorEq, c_tutte_Lack_r13, nats_at hx, hk2, nats_len]
    refine hKY _ ?_
    refine wlk_sreg fun KY hKY => ?_
    simp only [go_sem, reduceIte, Nat.reduceEqDiff, reduceCtorEq, c_tutte_Lack_r14, hnr, hrn, hvN, nats_len]
    refine hKY _ ?_
    generalize hL : nearOf es v = L at hnl hsn hnr
    have hLN : ∀ w ∈ L, w < N := fun w hw => (g.adj_lt _ _ (nearOf_mem.1 (hL ▸ hw))).2
    rw [show P = P ++ L.take 0 by simp]
    refine wlk_blk fun X9 hn9 he9 hf9 hr9 => ?_
    try simp only [go_sem, reduceIte, Nat.reduceEqDiff, reduceCtorEq]
    refine wlk_lp (α := Nat) [18, 68, 81] (fun j => [(12, .sc (.int .i64 (lk fs S T (P ++ L.take j)))), (14, .own (some 1) (ints (toI N (P ++ L.take j)))), (67, .sc (.int .i64 (j : Int)))]) (fun j => []) (fun j q => j ≤ L.length ∧ q = L.length - j) (0) (L.length) rfl (by first | (simp only [go_sem, reduceIte, Nat.reduceEqDiff, reduceCtorEq, updAll_cons, updAll_nil]; done) | with_reducible rfl | rfl) (⟨by omega, rfl⟩) ?_
    rintro j q ⟨hj, rfl⟩ X10 hn10 he10 hr10
    simp only [go_sem, reduceIte, Nat.reduceEqDiff, reduceCtorEq, updAll_cons, updAll_nil]
    refine wlk_sreg fun KY hKY => ?_
    simp only [go_sem, reduceIte, Nat.reduceEqDiff, reduceCtorEq, c_tutte_Lack_r15]
    refine hKY _ ?_
    refine wlk_seq fun X11 hn11 he11 hr11 => ?_
    by_cases hj2 : j < L.length
    · refine wlk_cond1 (by first | rfl | (simp only [go_sem, reduceIte, Nat.reduceEqDiff, reduceCtorEq]; try simp (disch := omega) only [decide_eq_true])) ?_
      refine wlk_skip ?_
      repeat (first | refine hn11 _ ?_ | refine he11 _ _ ?_ | refine he10 _ _ ?_ | refine hn9 _ ?_ | refine he9 _ ?_ | refine hf9 _ _ (by decide) ?_ | refine hn8 _ ?_ | refine he8 _ ?_ | refine hf8 _ _ (by decide) ?_ | refine hn7 _ ?_ | refine he7 _ _ ?_ | refine hn6 _ ?_ | refine he6 _ _ ?_)
      refine wlk_seq fun X12 hn12 he12 hr12 => ?_
      refine wlk_blk fun X13 hn13 he13 hf13 hr13 => ?_
      have hy : L[j]? = some L[j] := List.getElem?_eq_getElem hj2
      have hmw : L[j] ∈ L := List.getElem_mem hj2
      generalize L[j] = w at hy hmw
      have hwN := hLN w hmw
      have hPj : (P ++ L.take j).length ≤ 600000000 := by
        have : (L.take j).length ≤ L.length := List.length_take_le' _ _
        rw [List.length_append]; omega
      have hPs : P ++ L.take (j + 1) = (P ++ L.take j) ++ [w] := by simp [List.take_add_one, hy]
      generalize P ++ L.take j = M at hPj hPs
      have hcl : M.count w ≤ M.length := List.count_le_length
      have hg : (ints (toI N M))[w]? = some (.sc (.int .i64 (M.count w : Int))) := by rw [ints_get (by rw [toI_len]; exact hwN), toI_get _ hwN]
      have hset := toI_set (N := N) M w
      have hml := toI_len N M
      have hlm := hlkb M (by omega)
      have hga : (ints (atL N (S.map fun v : Nat => (v : Int)) (T.map fun v : Nat => (v : Int))))[w]? = some (.sc (.int .i64 (if w ∈ S then 1 else if w ∈ T then 2 else 0))) := by
        rw [ints_get (by rw [hatl]; exact hwN)]
        congr 3
        simp [-List.mem_map, atL, hwN, mem_castI]
      refine wlk_sreg fun KY hKY => ?_
      simp only [go_sem, reduceIte, Nat.reduceEqDiff, reduceCtorEq, c_tutte_Lack_r16, nats_at hy, hj2, nats_len]
      refine hKY _ ?_
      refine wlk_sreg fun KY hKY => ?_
      simp only [go_sem, reduceIte, Nat.reduceEqDiff, reduceCtorEq, c_tutte_Lack_r17, hg, ints_len, hml, hwN, incS (show M.count w < 4611686018427387904 by omega), hset]
      refine hKY _ ?_
      by_cases hwS : w ∈ S
      · rw [if_pos hwS] at hga
        have hlin := lk_in fs (T := T) (P := M) hwS
        refine wlk_sreg fun KY hKY => ?_
        simp only [go_sem, reduceIte, Nat.reduceEqDiff, reduceCtorEq, c_tutte_Lack_r18, hga, hatl, hwN, ints_len]
        refine hKY _ ?_
        refine wlk_cond0 rfl ?_
        refine wlk_skip ?_
        repeat (first | refine hn13 _ ?_ | refine he13 _ ?_ | refine hf13 _ _ (by decide) ?_ | refine hn12 _ ?_ | refine he12 _ _ ?_ | refine hn11 _ ?_ | refine he11 _ _ ?_ | refine he10 _ _ ?_ | refine hn9 _ ?_ | refine he9 _ ?_ | refine hf9 _ _ (by decide) ?_ | refine hn8 _ ?_ | refine he8 _ ?_ | refine hf8 _ _ (by decide) ?_ | refine hn7 _ ?_ | refine he7 _ _ ?_ | refine hn6 _ ?_ | refine he6 _ _ ?_)
        refine wlk_reg fun KY hKY => ?_
        simp only [go_sem, reduceIte, Nat.reduceEqDiff, reduceCtorEq, c_tutte_Lack_r20, incS (show j < 4611686018427387904 by omega)]
        refine hKY _ ?_
        repeat (first | refine hn13 _ ?_ | refine he13 _ ?_ | refine hf13 _ _ (by decide) ?_ | refine hn12 _ ?_ | refine he12 _ _ ?_ | refine hn11 _ ?_ | refine he11 _ _ ?_)
        refine hn10 _ (j + 1) (L.length - (j + 1)) (by omega) (by first | (simp only [go_sem, reduceIte, Nat.reduceEqDiff, reduceCtorEq, updAll_cons, updAll_nil, hPs, hlin]; done) | with_reducible rfl) ?_
        exact ⟨hj2, rfl⟩
      · rw [if_neg hwS] at hga
        have hlin := lk_out fs (T := T) (P := M) hwS
        have hne : ∀ b : Int, b = (if w ∈ T then 2 else 0) → decide (b ≠ 1) = true := by
          intro b hb; rw [decide_eq_true_iff]; split at hb <;> omega
        generalize (if w ∈ T then (2 : Int) else 0) = b at hga hne
        have hb1 := hne b rfl
        have hw1 : IntKind.i64.wrap (lk fs S T M - 1) = lk fs S T (M ++ [w]) := by rw [hlin, IntWalk.i64_in _ (by omega)]
        refine wlk_sreg fun KY hKY => ?_
        simp only [go_sem, reduceIte, Nat.reduceEqDiff, reduceCtorEq, c_tutte_Lack_r18, hga, hatl, hwN, ints_len, hb1]
        refine hKY _ ?_
        refine wlk_cond1 rfl ?_
        refine wlk_reg fun KY hKY => ?_
        simp only [go_sem, reduceIte, Nat.reduceEqDiff, reduceCtorEq, c_tutte_Lack_r19, hw1]
        refine hKY _ ?_
        repeat (first | refine hn13 _ ?_ | refine he13 _ ?_ | refine hf13 _ _ (by decide) ?_ | refine hn12 _ ?_ | refine he12 _ _ ?_ | refine hn11 _ ?_ | refine he11 _ _ ?_ | refine he10 _ _ ?_ | refine hn9 _ ?_ | refine he9 _ ?_ | refine hf9 _ _ (by decide) ?_ | refine hn8 _ ?_ | refine he8 _ ?_ | refine hf8 _ _ (by decide) ?_ | refine hn7 _ ?_ | refine he7 _ _ ?_ | refine hn6 _ ?_ | refine he6 _ _ ?_)
        refine wlk_reg fun KY hKY => ?_
        simp only [go_sem, reduceIte, Nat.reduceEqDiff, reduceCtorEq, c_tutte_Lack_r20, incS (show j < 4611686018427387904 by omega)]
        refine hKY _ ?_
        repeat (first | refine hn13 _ ?_ | refine he13 _ ?_ | refine hf13 _ _ (by decide) ?_ | refine hn12 _ ?_ | refine he12 _ _ ?_ | refine hn11 _ ?_ | refine he11 _ _ ?_)
        refine hn10 _ (j + 1) (L.length - (j + 1)) (by omega) (by first | (simp only [go_sem, reduceIte, Nat.reduceEqDiff, reduceCtorEq, updAll_cons, updAll_nil, hPs]; done) | with_reducible rfl) ?_
        exact ⟨hj2, rfl⟩
    · refine wlk_cond0 (by first | rfl | (simp only [go_sem, reduceIte, Nat.reduceEqDiff, reduceCtorEq]; try simp (disch := omega) only [decide_eq_false])) ?_
      refine wlk_exit ?_
      repeat (first | refine hn11 _ ?_ | refine he11 _ _ ?_ | refine he10 _ _ ?_ | refine hn9 _ ?_ | refine he9 _ ?_ | refine hf9 _ _ (by decide) ?_ | refine hn8 _ ?_ | refine he8 _ ?_ | refine hf8 _ _ (by decide) ?_ | refine hn7 _ ?_ | refine he7 _ _ ?_ | refine hn6 _ ?_ | refine he6 _ _ ?_ | refine he5 _ _ ?_ | refine hn4 _ ?_ | refine he4 _ ?_ | refine hf4 _ _ (by decide) ?_ | refine hn3 _ ?_ | refine he3 _ _ ?_ | refine hn2 _ ?_ | refine he2 _ _ ?_ | refine hn1 _ ?_ | refine he1 _ _ ?_)
      obtain rfl : j = L.length := by omega
      rw [List.take_length, ← hsn]
      refine wlk_reg fun KY hKY => ?_
      simp only [go_sem, reduceIte, Nat.reduceEqDiff, reduceCtorEq, c_tutte_Lack_r21, incS (show k < 4611686018427387904 by omega)]
      refine hKY _ ?_
      repeat (first | refine hn11 _ ?_ | refine he11 _ _ ?_ | refine he10 _ _ ?_ | refine hn9 _ ?_ | refine he9 _ ?_ | refine hf9 _ _ (by decide) ?_ | refine hn8 _ ?_ | refine he8 _ ?_ | refine hf8 _ _ (by decide) ?_ | refine hn7 _ ?_ | refine he7 _ _ ?_ | refine hn6 _ ?_ | refine he6 _ _ ?_)
      refine hn5 _ (k + 1) (T.length - (k + 1)) (by omega) (by first | (simp only [go_sem, reduceIte, Nat.reduceEqDiff, reduceCtorEq, updAll_cons, updAll_nil]; done) | with_reducible rfl) ?_
      exact ⟨hk2, rfl⟩
  · refine wlk_cond0 (by first | rfl | (simp only [go_sem, reduceIte, Nat.reduceEqDiff, reduceCtorEq]; try simp (disch := omega) only [decide_eq_false])) ?_
    refine wlk_exit ?_
    repeat (first | refine hn6 _ ?_ | refine he6 _ _ ?_ | refine he5 _ _ ?_ | refine hn4 _ ?_ | refine he4 _ ?_ | refine hf4 _ _ (by decide) ?_ | refine hn3 _ ?_ | refine he3 _ _ ?_ | refine hn2 _ ?_ | refine he2 _ _ ?_ | refine hn1 _ ?_ | refine he1 _ _ ?_)
    obtain rfl : k = T.length := by omega
    rw [List.take_length]
    have hcon := concat_ok (S.map fun v : Nat => (v : Int)) (T.map fun v : Nat => (v : Int)) (by simp; omega) (by simp; omega)
    rw [← List.map_append, ← nats_ints, ← nats_ints] at hcon
    have hof := ofT_ok g ((S ++ T).map fun v : Nat => (v : Int)) (by simp; omega)
    refine wlk_seq fun X14 hn14 he14 hr14 => ?_
    refine wlk_sreg fun KY hKY => ?_
    simp only [go_sem, reduceIte, Nat.reduceEqDiff, reduceCtorEq, Nat.reduceLT, Nat.reduceAdd, c_tutte_Lack_r22]
    refine call_view rfl (by simp only [go_sem, reduceIte, Nat.reduceEqDiff, reduceCtorEq] <;> rfl) ((hcon).mono ?_)
    rintro rr hh ⟨rfl, rfl⟩
    refine ⟨?_, ?_, ?_, ?_⟩
    iterate 3 (first | rfl | simp only [go_sem])
    simp only [go_sem]
    refine call_view rfl (by simp only [go_sem, reduceIte, Nat.reduceEqDiff, reduceCtorEq] <;> rfl) ((hof).mono ?_)
    rintro rr hh ⟨⟨ps, hps, rfl⟩, rfl⟩
    refine ⟨?_, ?_, ?_, ?_⟩
    iterate 3 (first | rfl | simp only [go_sem])
    simp only [go_sem, reduceIte, Nat.reduceEqDiff, reduceCtorEq]
    refine hKY _ ?_
    have hcnt := allNear_count (fun v => (nearOf_inc g v).imp fun h => Nat.ne_of_lt h) (es := es)
    have hMb : (allNear es T).length ≤ 600000000 := by have := hPb T.length; rw [List.take_length] at this; omega
    generalize hM : allNear es T = M at hcnt hMb
    have hto : ∀ x ∈ toI N M, 0 ≤ x ∧ x ≤ 4096 := by
      intro x hx
      obtain ⟨w, _, rfl⟩ := List.mem_map.1 hx
      have := hcnt w T
      rw [hM] at this
      omega
    have hpl2 := pieces_len hps
    have hpe := fun p hp => piece_len hps (p := p) hp
    have hpv : ∀ p ∈ ps, ∀ v ∈ p, v < N := fun p hp v hv => ((hps.mem v).1 ⟨p, hp, hv⟩).1
    refine sem_freeze [0, 93] (by simp only [go_sem, reduceIte, Nat.reduceEqDiff, reduceCtorEq]; rfl) ?_
    simp only [go_sem, reduceIte, Nat.reduceEqDiff, reduceCtorEq]
    have hgb : ∀ p : List Nat, 0 ≤ (sumAt fs p + sumAt (toI N M) p) % 2 ∧ (sumAt fs p + sumAt (toI N M) p) % 2 ≤ 1 := fun p => by omega
    have hspb : ∀ l : List (List Nat), 0 ≤ sp (fun p => (sumAt fs p + sumAt (toI N M) p) % 2) l ∧ sp (fun p => (sumAt fs p + sumAt (toI N M) p) % 2) l ≤ l.length := by
      intro l
      induction l with
      | nil => simp [sp]
      | cons p l ih => have := hgb p; rw [sp_cons, List.length_cons]; omega
    have hlM := hlkb M (by omega)
    have hsp0 : lk fs S T M = lk fs S T M + sp (fun p => (sumAt fs p + sumAt (toI N M) p) % 2) (ps.take 0) := by simp [sp]
    rw [hsp0]
    refine wlk_blk fun X15 hn15 he15 hf15 hr15 => ?_
    try simp only [go_sem]
    refine wlk_lp (α := Nat) [20, 96] (fun i => [(12, .sc (.int .i64 (lk fs S T M + sp (fun p => (sumAt fs p + sumAt (toI N M) p) % 2) (ps.take i)))), (95, .sc (.int .i64 (i : Int)))]) (fun i => []) (fun i q => i ≤ ps.length ∧ q = ps.length - i) (0) (ps.length) rfl (by first | (simp only [go_sem, reduceIte, Nat.reduceEqDiff, reduceCtorEq, updAll_cons, updAll_nil]; done) | with_reducible rfl | rfl) (⟨by omega, rfl⟩) ?_
    rintro i q ⟨hi, rfl⟩ X16 hn16 he16 hr16
    simp only [go_sem, reduceIte, Nat.reduceEqDiff, reduceCtorEq, updAll_cons, updAll_nil]
    refine wlk_sreg fun KY hKY => ?_
    simp only [go_sem, reduceIte, Nat.reduceEqDiff, reduceCtorEq, c_tutte_Lack_r23]
    refine hKY _ ?_
    refine wlk_seq fun X17 hn17 he17 hr17 => ?_
    by_cases hi2 : i < ps.length
    · refine wlk_cond1 (by first | rfl | (simp only [go_sem, reduceIte, Nat.reduceEqDiff, reduceCtorEq]; try simp (disch := omega) only [decide_eq_true])) ?_
      refine wlk_skip ?_
      repeat (first | refine hn17 _ ?_ | refine he17 _ _ ?_ | refine he16 _ _ ?_ | refine hn15 _ ?_ | refine he15 _ ?_ | refine hf15 _ _ (by decide) ?_ | refine hn14 _ ?_ | refine he14 _ _ ?_ | refine hn6 _ ?_ | refine he6 _ _ ?_)
      refine wlk_seq fun X18 hn18 he18 hr18 => ?_
      refine wlk_blk fun X19 hn19 he19 hf19 hr19 => ?_
      have hx : ps[i]? = some ps[i] := List.getElem?_eq_getElem hi2
      have hmem : ps[i] ∈ ps := List.getElem_mem hi2
      generalize ps[i] = p at hx hmem
      have hpN : p.length ≤ 4096 := Nat.le_trans (hpe p hmem) hN
      have hs1 := sum_ok fs p hfs (fun v hv => by rw [hfl]; exact hpv p hmem v hv) (by omega)
      have hs2 := sum_ok (toI N M) p hto (fun v hv => by rw [toI_len]; exact hpv p hmem v hv) (by omega)
      have hb1 := sumAt_bound hfs p
      have hb2 := sumAt_bound hto p
      have hbi := hspb (ps.take i)
      have hli : (ps.take i).length ≤ ps.length := List.length_take_le' _ _
      have hsn : sp (fun p => (sumAt fs p + sumAt (toI N M) p) % 2) (ps.take (i + 1)) = sp (fun p => (sumAt fs p + sumAt (toI N M) p) % 2) (ps.take i) + (sumAt fs p + sumAt (toI N M) p) % 2 := by simp [sp, List.take_add_one, hx]
      have hw1 : IntKind.i64.wrap (sumAt fs p + sumAt (toI N M) p) = sumAt fs p + sumAt (toI N M) p := by rw [IntWalk.i64_in _ (by omega)]
      have hw2 : (sumAt fs p + sumAt (toI N M) p).tmod 2 = (sumAt fs p + sumAt (toI N M) p) % 2 := Int.tmod_eq_emod_of_nonneg (by omega)
      have hgp := hgb p
      have hw3 : IntKind.i64.wrap (lk fs S T M + sp (fun p => (sumAt fs p + sumAt (toI N M) p) % 2) (ps.take i) + (sumAt fs p + sumAt (toI N M) p) % 2) = lk fs S T M + sp (fun p => (sumAt fs p + sumAt (toI N M) p) % 2) (ps.take (i + 1)) := by rw [hsn, IntWalk.i64_in _ (by omega)]; omega
      refine wlk_sreg fun KY hKY => ?_
      simp only [go_sem, reduceIte, Nat.reduceEqDiff, reduceCtorEq, c_tutte_Lack_r24, rowsI_get hx, hi2]
      refine hKY _ ?_
      refine wlk_reg fun KY hKY => ?_
      simp only [go_sem, reduceIte, Nat.reduceEqDiff, reduceCtorEq, c_tutte_Lack_r25]
      refine call_view rfl (by simp only [go_sem, reduceIte, Nat.reduceEqDiff, reduceCtorEq] <;> rfl) ((hs1).mono ?_)
      rintro rr hh ⟨rfl, rfl⟩
      refine ⟨rfl, rfl, rfl, ?_⟩
      simp only [go_sem, reduceIte, Nat.reduceEqDiff, reduceCtorEq]
      refine call_view rfl (by simp only [go_sem, reduceIte, Nat.reduceEqDiff, reduceCtorEq] <;> rfl) ((hs2).mono ?_)
      rintro rr hh ⟨rfl, rfl⟩
      refine ⟨rfl, rfl, rfl, ?_⟩
      simp only [go_sem, reduceIte, Nat.reduceEqDiff, Nat.reduceBEq, reduceCtorEq, Int.reduceEq, hw1, hw2, hw3]
      refine hKY _ ?_
      repeat (first | refine hn19 _ ?_ | refine he19 _ ?_ | refine hf19 _ _ (by decide) ?_ | refine hn18 _ ?_ | refine he18 _ _ ?_ | refine hn17 _ ?_ | refine he17 _ _ ?_ | refine he16 _ _ ?_ | refine hn15 _ ?_ | refine he15 _ ?_ | refine hf15 _ _ (by decide) ?_ | refine hn14 _ ?_ | refine he14 _ _ ?_ | refine hn6 _ ?_ | refine he6 _ _ ?_)
      refine wlk_reg fun KY hKY => ?_
      simp only [go_sem, reduceIte, Nat.reduceEqDiff, reduceCtorEq, c_tutte_Lack_r26, incS (show i < 4611686018427387904 by omega)]
      refine hKY _ ?_
      repeat (first | refine hn19 _ ?_ | refine he19 _ ?_ | refine hf19 _ _ (by decide) ?_ | refine hn18 _ ?_ | refine he18 _ _ ?_ | refine hn17 _ ?_ | refine he17 _ _ ?_)
      refine hn16 _ (i + 1) (ps.length - (i + 1)) (by omega) (by first | (simp only [go_sem, reduceIte, Nat.reduceEqDiff, reduceCtorEq, updAll_cons, updAll_nil]; done) | with_reducible rfl) ?_
      exact ⟨hi2, rfl⟩
    · refine wlk_cond0 (by first | rfl | (simp only [go_sem, reduceIte, Nat.reduceEqDiff, reduceCtorEq]; try simp (disch := omega) only [decide_eq_false])) ?_
      refine wlk_exit ?_
      repeat (first | refine hn17 _ ?_ | refine he17 _ _ ?_ | refine he16 _ _ ?_ | refine hn15 _ ?_ | refine he15 _ ?_ | refine hf15 _ _ (by decide) ?_ | refine hn14 _ ?_ | refine he14 _ _ ?_ | refine hn6 _ ?_ | refine he6 _ _ ?_ | refine he5 _ _ ?_ | refine hn4 _ ?_ | refine he4 _ ?_ | refine hf4 _ _ (by decide) ?_ | refine hn3 _ ?_ | refine he3 _ _ ?_ | refine hn2 _ ?_ | refine he2 _ _ ?_ | refine hn1 _ ?_ | refine he1 _ _ ?_)
      obtain rfl : i = ps.length := by omega
      rw [List.take_length]
      refine wlk_sreg fun KY hKY => ?_
      simp only [go_sem, reduceIte, Nat.reduceEqDiff, reduceCtorEq, c_tutte_Lack_r27]
      refine hKY _ ?_
      refine wlk_ret ?_
      repeat (first | refine hr17 _ ?_ | refine hr16 _ ?_ | refine hr15 _ ?_ | refine hr14 _ ?_ | refine hr6 _ ?_ | refine hr5 _ ?_ | refine hr4 _ ?_ | refine hr3 _ ?_ | refine hr2 _ ?_ | refine hr1 _ ?_)
      simp only [go_sem, reduceIte, Nat.reduceEqDiff, reduceCtorEq]
      exact ⟨ps, hps, by simp [lackW, lk, hM]⟩
end Go.Proofs.Ytepjcfbigcfkfaa
set_option maxRecDepth 100000
set_option maxHeartbeats 2000000
namespace Go.Proofs.Ytepjcfbigcfkfaa
open Go Go.Ga Go.Ga.Gl
theorem one_GR : GR 1 [] := ⟨by decide, by decide, (fun _ h => nomatch h), List.Pairwise.nil⟩
theorem one_pieces : IsPieces 1 [] (fun v => (v : Int) ∈ (([] : List Nat) ++ []).map fun v : Nat => (v : Int)) [[0]] where
  mem := fun v => by simp
  ne := by simp
  inc := by simp
  heads := by simp
  disj := by simp
  edge := fun p _ a _ b h => by simp [adj] at h
  conn := fun p hp f _ a ha b hb => by simp at hp; subst hp; simp at ha hb; rw [ha, hb]
theorem lack_one : ACalls Try.prog [] n_tutte_Lack [.agg [.sc (.int .i64 1), .sc (.slice none 0 0)], .imm 1 (ints [1]), .agg [.sc (.slice none 0 0), .sc (.slice none 0 0)]] [] fun r h' => r = .tup [.sc (.int .i64 1), .sc (.int .i64 0)] ∧ h' = [] := by
  refine ((lack_ok one_GR [1] [] [] rfl (by decide) (by simp) (by simp) (by simp) (by simp) (by decide) (by decide)).mono ?_).sees (.cons ((SeesL.cons (.refl _) (.cons (.imm 2) .nil)).agg) (.cons (.refl _) (.cons ((SeesL.cons (.imm 1) (.cons (.imm 1) .nil)).agg) .nil)))
  rintro r h' ⟨⟨ps, hps, rfl⟩, rfl⟩
  obtain rfl := hps.unique one_GR.adj_lt one_pieces
  exact ⟨rfl, rfl⟩
theorem right_one : ACalls Try.prog [] n_tutte_Right [.agg [.sc (.int .i64 1), .sc (.slice none 0 0)], .sc (.slice none 0 0)] [] fun r h' => r = .sc (.int .i64 12) ∧ h' = [] :=
  ((tright_ok 1 [] [] (by simp)).mono fun r h' h => by rw [show tErr 1 [] [] = 12 by decide] at h; exact h).sees (.cons ((SeesL.cons (.refl _) (.cons (.imm 2) .nil)).agg) (.cons (.imm 1) .nil))
theorem awake23_ok : ACalls Try.prog [] n_garlandlaw23_awake [] [] fun r h' => r = .sc (.bool true) ∧ h' = [] := by
  refine go_garlandlaw23_awake rfl ?_
  unfold c_garlandlaw23_awake v_garlandlaw23_awake
  refine wlk_sreg fun KY hKY => ?_
  simp only [go_sem, reduceIte, Nat.reduceEqDiff, reduceCtorEq, c_garlandlaw23_awake_r0]
  refine hKY _ ?_
  refine wlk_sreg fun KY hKY => ?_
  simp only [go_sem, reduceIte, Nat.reduceEqDiff, reduceCtorEq, Nat.reduceLT, Nat.reduceAdd, c_garlandlaw23_awake_r1]
  refine call_view rfl (by simp only [go_sem, reduceIte, Nat.reduceEqDiff, reduceCtorEq] <;> rfl) ((lack_one).mono ?_)
  rintro rr hh ⟨rfl, rfl⟩
  refine ⟨?_, ?_, ?_, ?_⟩
  iterate 3 (first | rfl | simp only [go_sem, reduceIte, Nat.reduceEqDiff, Nat.reduceBEq, reduceCtorEq, Nat.reduceLT, Nat.reduceLeDiff, Nat.reduceAdd, Nat.reduceSub, Nat.reduceMul, Nat.reduceDiv, Int.reduceAdd, Int.reduceNeg, Int.reduceEq, Int.reduceLT, Int.reduceLE])
  simp only [go_sem, reduceIte, Nat.reduceEqDiff, reduceCtorEq]
  refine hKY _ ?_
  refine wlk_sreg fun KY hKY => ?_
  simp only [go_sem, reduceIte, Nat.reduceEqDiff, reduceCtorEq, Nat.reduceLT, Nat.reduceAdd, c_garlandlaw23_awake_r2]
  refine call_view rfl (by simp only [go_sem, reduceIte, Nat.reduceEqDiff, reduceCtorEq] <;> rfl) ((right_one).mono ?_)
  rintro rr hh ⟨rfl, rfl⟩
  refine ⟨rfl, rfl, rfl, ?_⟩
  simp only [go_sem, reduceIte, Nat.reduceEqDiff, reduceCtorEq]
  refine hKY _ ?_
  refine wlk_ret ?_
  simp only [go_sem, reduceIte, Nat.reduceEqDiff, reduceCtorEq]
end Go.Proofs.Ytepjcfbigcfkfaa
set_option maxRecDepth 100000
set_option maxHeartbeats 2000000
namespace Go.Proofs.Ytepjcfbigcfkfaa
open Go Go.Ga Go.Ga.Gl
def DG (N m : Nat) (fs : List Int) : Prop := fs.length = N ∧ ∀ x ∈ fs, 0 ≤ x ∧ x < m
theorem DG.set {N m : Nat} {fs : List Int} (h : DG N m fs) (k : Nat) {x : Nat} (hx : x < m) : DG N m (fs.set k (x : Int)) :=
  ⟨by rw [List.length_set]; exact h.1, fun y hy => by
    rcases List.mem_or_eq_of_mem_set hy with h' | rfl
    · exact h.2 y h'
    · omega⟩
end Go.Proofs.Ytepjcfbigcfkfaa
set_option maxRecDepth 100000
set_option maxHeartbeats 2000000
namespace Go.Proofs.Ytepjcfbigcfkfaa
open Go Go.Ga Go.Ga.Gl
end Go.Proofs.Ytepjcfbigcfkfaa
set_option maxRecDepth 100000
set_option maxHeartbeats 2000000
namespace Go.Proofs.Ytepjcfbigcfkfaa
open Go Go.Ga Go.Ga.Gl
def xE (es : Es) (a b : Nat) : Int := ((nearOf es a).count b : Nat)
theorem xE_01 {N : Nat} {es : Es} (g : GR N es) (a b : Nat) : (adj es a b → xE es a b = 1) ∧ (¬ adj es a b → xE es a b = 0) := by
  have hn : (nearOf es a).Nodup := (nearOf_inc g a).imp fun h => by omega
  unfold xE
  refine ⟨fun h => ?_, fun h => ?_⟩
  · rw [List.Nodup.count hn, if_pos (nearOf_mem.2 h)]; rfl
  · rw [List.Nodup.count hn, if_neg (fun h' => h (nearOf_mem.1 h'))]; rfl
theorem xE_symm {N : Nat} {es : Es} (g : GR N es) (a b : Nat) : xE es a b = xE es b a := by
  by_cases h : adj es a b
  · rw [(xE_01 g a b).1 h, (xE_01 g b a).1 (adj_symm h)]
  · rw [(xE_01 g a b).2 h, (xE_01 g b a).2 fun h' => h (adj_symm h')]
theorem s1_count (l : List Nat) : ∀ {B : List Nat}, B.Nodup → s1 (fun b => (l.count b : Nat)) B = ((l.filter fun b => decide (b ∈ B)).length : Nat) := by
  induction l with
  | nil => intro B _; exact s1_zero fun a _ => by simp
  | cons x l ih =>
    intro B hB
    have e : s1 (fun b => ((x :: l).count b : Nat)) B = s1 (fun b => ((l.count b : Nat) : Int)) B + s1 (fun b => if x = b then 1 else 0) B := by
      rw [← s1_add]
      refine s1_congr fun b _ => ?_
      rw [List.count_cons]; simp only [beq_iff_eq]; split <;> omega
    rw [e, ih hB]
    have e2 : s1 (fun b => if x = b then 1 else 0) B = if x ∈ B then 1 else 0 := by
      clear e ih
      induction B with
      | nil => simp [s1]
      | cons b B ihB =>
        rw [List.nodup_cons] at hB
        rw [s1_cons, ihB hB.2]
        by_cases hx : x = b
        · subst hx; simp [hB.1]
        · simp [hx]
    rw [e2, List.filter_cons]
    by_cases hx : x ∈ B
    · simp [hx]
    · simp [hx]
end Go.Proofs.Ytepjcfbigcfkfaa
set_option maxRecDepth 100000
set_option maxHeartbeats 2000000
namespace Go.Proofs.Ytepjcfbigcfkfaa
open Go Go.Ga Go.Ga.Gl
structure PT (k : Nat) (S T : List Nat) : Prop where
  s : S.Pairwise (· < ·)
  t : T.Pairwise (· < ·)
  sb : ∀ v ∈ S, v < k
  tb : ∀ v ∈ T, v < k
  d : ∀ v ∈ S, v ∉ T
end Go.Proofs.Ytepjcfbigcfkfaa
set_option maxRecDepth 100000
set_option maxHeartbeats 2000000
namespace Go.Proofs.Ytepjcfbigcfkfaa
open Go Go.Ga Go.Ga.Gl
theorem clone_ok (l : List Int) (hl : l.length ≤ 1000000000) : ACalls Try.prog [] n_slices_Clone___int_int_ [.imm 1 (ints l)] [] fun r h' => r = .own (some 1) (ints l) ∧ h' = [] := by
  have hby : l.length * 8 ≤ 140737488355328 := by omega
  refine go_slices_Clone___int_int_ rfl ?_
  unfold c_slices_Clone___int_int_ v_slices_Clone___int_int_
  refine wlk_sreg fun KY hKY => ?_
  simp only [go_sem, reduceIte, Nat.reduceEqDiff, reduceCtorEq, c_slices_Clone___int_int__r0]
  refine hKY _ ?_
  refine wlk_seq fun X1 hn1 he1 hr1 => ?_
  cases l with
  | nil =>
    refine wlk_sreg fun KY hKY => ?_
    simp only [go_sem, reduceIte, Nat.reduceEqDiff, reduceCtorEq, Nat.reduceLT, c_slices_Clone___int_int__r1, ints]
    refine ⟨hKY _ ?_, hKY _ ?_⟩
    · refine wlk_cond1 rfl ?_
      refine wlk_sreg fun KY hKY => ?_
      simp only [go_sem, reduceIte, Nat.reduceEqDiff, reduceCtorEq, c_slices_Clone___int_int__r2]
      refine hKY _ ?_
      refine sem_nil [0, 2] 1 (by simp only [go_sem, reduceIte, Nat.reduceEqDiff, reduceCtorEq]) ?_
      simp only [go_sem, reduceIte, Nat.reduceEqDiff, reduceCtorEq]
      refine wlk_ret ?_
      repeat (first | refine hr1 _ ?_)
      simp only [go_sem, reduceIte, Nat.reduceEqDiff, reduceCtorEq]
      rfl
    · refine wlk_cond0 rfl ?_
      refine wlk_skip ?_
      repeat (first | refine hn1 _ ?_ | refine he1 _ _ ?_)
      refine wlk_sreg fun KY hKY => ?_
      simp only [go_sem, reduceIte, Nat.reduceEqDiff, reduceCtorEq, Nat.reduceMul, c_slices_Clone___int_int__r3, (show zeroCellsA [Value.int IntKind.i64 0] 0 = [] from rfl)]
      refine hKY _ ?_
      refine wlk_ret ?_
      repeat (first | refine hr1 _ ?_)
      simp only [go_sem, reduceIte, Nat.reduceEqDiff, reduceCtorEq]
      rfl
  | cons x l =>
    rw [List.length_cons] at hby
    refine wlk_sreg fun KY hKY => ?_
    simp only [go_sem, reduceIte, Nat.reduceEqDiff, reduceCtorEq, Nat.reduceLT, c_slices_Clone___int_int__r1]
    refine hKY _ ?_
    refine wlk_cond0 rfl ?_
    refine wlk_skip ?_
    repeat (first | refine hn1 _ ?_ | refine he1 _ _ ?_)
    refine wlk_sreg fun KY hKY => ?_
    simp only [go_sem, reduceIte, Nat.reduceEqDiff, reduceCtorEq, c_slices_Clone___int_int__r3, (show zeroCellsA [Value.int IntKind.i64 0] 0 = [] from rfl), hby]
    refine hKY _ ?_
    refine wlk_ret ?_
    repeat (first | refine hr1 _ ?_)
    simp only [go_sem, reduceIte, Nat.reduceEqDiff, reduceCtorEq]
theorem edge_ok (a b : Int) : ACalls Try.prog [] n_graph_edge [.sc (.int .i64 a), .sc (.int .i64 b)] [] fun r h' => r = .agg (two (turnI a b)) ∧ h' = [] := by
  have e : two (turnI a b) = [.sc (.int .i64 (min a b)), .sc (.int .i64 (max a b))] := by
    unfold turnI
    split
    · rw [two_mk, show min a b = b by omega, show max a b = a by omega]
    · rw [two_mk, show min a b = a by omega, show max a b = b by omega]
  rw [e]
  refine go_graph_edge rfl ?_
  unfold c_graph_edge v_graph_edge
  refine wlk_sreg fun KY hKY => ?_
  simp only [go_sem, reduceIte, Nat.reduceEqDiff, reduceCtorEq, c_graph_edge_r0]
  refine hKY _ ?_
  refine wlk_sreg fun KY hKY => ?_
  simp only [go_sem, reduceIte, Nat.reduceEqDiff, reduceCtorEq, Nat.reduceLT, Nat.reduceAdd, c_graph_edge_r1]
  refine hKY _ ?_
  refine wlk_ret ?_
  simp only [go_sem, reduceIte, Nat.reduceEqDiff, reduceCtorEq, Nat.reduceLT, Nat.reduceAdd]
def Ris (es : List (Int × Int)) : Prop := ∀ (i j : Nat) (x y : Int × Int), es[i]? = some x → es[j]? = some y → i < j → cmpE x y < 0
theorem ris_of {n : Int} {es : List (Int × Int)} (h : rightB n es = true) : Ris es := by
  obtain ⟨N, es', rfl, rfl, g⟩ := right_nat h
  intro i j x y hx hy hij
  rw [cmpE_lt]
  unfold castE at hx hy
  rw [List.getElem?_map] at hx hy
  obtain ⟨x', hx', rfl⟩ := Option.map_eq_some_iff.1 hx
  obtain ⟨y', hy', rfl⟩ := Option.map_eq_some_iff.1 hy
  obtain ⟨hi, rfl⟩ := List.getElem?_eq_some_iff.1 hx'
  obtain ⟨hj, rfl⟩ := List.getElem?_eq_some_iff.1 hy'
  have := List.pairwise_iff_getElem.1 g.up i j hi hj hij
  unfold lexlt at this
  simp only; omega
theorem cmpE_anti (a b : Int × Int) : cmpE a b = - cmpE b a := by
  unfold cmpE cmpI
  repeat' split
  all_goals omega
theorem cmpE_trans {a b c : Int × Int} (h1 : cmpE a b < 0) (h2 : cmpE b c < 0) : cmpE a c < 0 := by
  rw [cmpE_lt] at *; omega
theorem bsearch_ok (es : List (Int × Int)) (t : Int × Int) (hr : Ris es) (hl : es.length ≤ 65536) : ACalls Try.prog [] n_slices_BinarySearchFunc___api_Edge_api_Edge_api_Edge_ [.imm 2 (twos es), .agg (two t), .fn (.func n_graph_order_compare) [.agg []] []] [] fun r h' => (∃ k : Nat, r = .tup [.sc (.int .i64 (k : Int)), .sc (.bool (decide (t ∈ es)))]) ∧ h' = [] := by
  refine ACalls.trim ?_
  obtain ⟨ta, tb⟩ := t
  simp only [two_mk]
  refine go_slices_BinarySearchFunc___api_Edge_api_Edge_api_Edge_ rfl ?_
  unfold c_slices_BinarySearchFunc___api_Edge_api_Edge_api_Edge_ v_slices_BinarySearchFunc___api_Edge_api_Edge_api_Edge_
  refine wlk_sreg fun KY hKY => ?_
  simp only [go_sem, reduceIte, Nat.reduceEqDiff, reduceCtorEq, c_slices_BinarySearchFunc___api_Edge_api_Edge_api_Edge__r0]
  refine hKY _ ?_
  refine wlk_sreg fun KY hKY => ?_
  simp only [go_sem, reduceIte, Nat.reduceEqDiff, reduceCtorEq, c_slices_BinarySearchFunc___api_Edge_api_Edge_api_Edge__r1, twos_len, mul2]
  refine hKY _ ?_
  refine wlk_sreg fun KY hKY => ?_
  simp only [go_sem, reduceIte, Nat.reduceEqDiff, reduceCtorEq, c_slices_BinarySearchFunc___api_Edge_api_Edge_api_Edge__r2]
  refine hKY _ ?_
  refine wlk_seq fun X1 hn1 he1 hr1 => ?_
  refine wlk_blk fun X2 hn2 he2 hf2 hr2 => ?_
  try simp only [go_sem, reduceIte, Nat.reduceEqDiff, reduceCtorEq]
  refine wlk_lp (α := Nat × Nat) [11, 17, 31] (fun (i, j) => [(9, .sc (.int .i64 (i : Int))), (10, .sc (.int .i64 (j : Int)))]) (fun (i, j) => []) (fun (i, j) q => i ≤ j ∧ j ≤ es.length ∧ q = j - i ∧ (∀ k x, es[k]? = some x → k < i → cmpE x (ta, tb) < 0) ∧ (∀ k x, es[k]? = some x → j ≤ k → 0 ≤ cmpE x (ta, tb))) ((0, es.length)) (es.length) rfl (by first | (simp only [go_sem, reduceIte, Nat.reduceEqDiff, reduceCtorEq, updAll_cons, updAll_nil]; done) | with_reducible rfl | rfl) (⟨by omega, by omega, rfl, fun k x _ h => by omega, fun k x hx h => by have := (List.getElem?_eq_some_iff.1 hx).1; omega⟩) ?_
  rintro ⟨i, j⟩ q ⟨hij, hjl, rfl, h1, h2⟩ X3 hn3 he3 hr3
  simp only [go_sem, reduceIte, Nat.reduceEqDiff, reduceCtorEq, updAll_cons, updAll_nil]
  refine wlk_seq fun X4 hn4 he4 hr4 => ?_
  by_cases hlt : i < j
  · refine wlk_sreg fun KY hKY => ?_
    simp only [go_sem, reduceIte, Nat.reduceEqDiff, reduceCtorEq, c_slices_BinarySearchFunc___api_Edge_api_Edge_api_Edge__r3]
    refine hKY _ ?_
    refine wlk_cond1 (by first | rfl | (simp only [go_sem, reduceIte, Nat.reduceEqDiff, reduceCtorEq]; try simp (disch := omega) only [decide_eq_true])) ?_
    refine wlk_skip ?_
    repeat (first | refine hn4 _ ?_ | refine he4 _ _ ?_ | refine he3 _ _ ?_ | refine hn2 _ ?_ | refine he2 _ ?_ | refine hf2 _ _ (by decide) ?_ | refine hn1 _ ?_ | refine he1 _ _ ?_)
    refine wlk_blk fun X5 hn5 he5 hf5 hr5 => ?_
    have hs : IntKind.i64.wrap ((i : Int) + (j : Int)) = (i : Int) + (j : Int) := by rw [IntWalk.i64_in _ (by omega)]
    have hs2 : IntKind.u64.wrap ((i : Int) + (j : Int)) = (i : Int) + (j : Int) := by rw [IntKind.wrap_u64]; omega
    obtain ⟨h, hh⟩ : ∃ h : Nat, h = (i + j) / 2 := ⟨_, rfl⟩
    have hsh : shiftBin .shr .u64 ((i : Int) + (j : Int)) 1 = some (.int .u64 (h : Int)) := by
      show some (Value.int .u64 (((i : Int) + (j : Int)).fdiv 2)) = _
      rw [Int.fdiv_eq_ediv_of_nonneg _ (by decide)]
      rw [show ((i : Int) + (j : Int)) / 2 = (h : Int) by omega]
    have hs3 : IntKind.i64.wrap (h : Int) = (h : Int) := by rw [IntWalk.i64_in _ (by omega)]
    refine wlk_sreg fun KY hKY => ?_
    simp only [go_sem, reduceIte, Nat.reduceEqDiff, reduceCtorEq, c_slices_BinarySearchFunc___api_Edge_api_Edge_api_Edge__r4, hs, hs2, hsh, hs3]
    refine hKY _ ?_
    have hhl : h < es.length := by omega
    have hx : es[h]? = some es[h] := List.getElem?_eq_getElem hhl
    generalize es[h] = x at hx
    obtain ⟨a, b⟩ := x
    refine wlk_sdraw fun KY hKY => ?_
    simp only [go_sem, reduceIte, Nat.reduceEqDiff, Nat.reduceBEq, reduceCtorEq, c_slices_BinarySearchFunc___api_Edge_api_Edge_api_Edge__r5, twos_len]
    repeat (simp (disch := omega) only [if_pos, if_neg, decide_eq_true]; try simp only [go_sem, reduceIte, Nat.reduceEqDiff, reduceCtorEq, Nat.reduceLT, Nat.reduceAdd, two_cells hx, List.length_drop, twos_len])
    refine call_view rfl (by simp only [go_sem, reduceIte, Nat.reduceEqDiff, reduceCtorEq] <;> rfl) ((ocompare_ok (a, b) (ta, tb)).mono ?_)
    rintro rr hh ⟨rfl, rfl⟩
    refine ⟨rfl, rfl, rfl, ?_⟩
    simp only [go_sem, reduceIte, Nat.reduceEqDiff, reduceCtorEq]
    refine hKY _ ?_
    by_cases hc : cmpE (a, b) (ta, tb) < 0
    · refine wlk_cond1 (by first | rfl | (simp only [go_sem, reduceIte, Nat.reduceEqDiff, reduceCtorEq]; try simp (disch := omega) only [decide_eq_true])) ?_
      refine wlk_reg fun KY hKY => ?_
      simp only [go_sem, reduceIte, Nat.reduceEqDiff, reduceCtorEq, c_slices_BinarySearchFunc___api_Edge_api_Edge_api_Edge__r6, incS (show h < 4611686018427387904 by omega)]
      refine hKY _ ?_
      repeat (first | refine hn5 _ ?_ | refine he5 _ ?_ | refine hf5 _ _ (by decide) ?_ | refine hn4 _ ?_ | refine he4 _ _ ?_)
      refine hn3 _ ((h + 1, j)) (j - (h + 1)) (by omega) (by first | (simp only [go_sem, reduceIte, Nat.reduceEqDiff, reduceCtorEq, updAll_cons, updAll_nil]; done) | with_reducible rfl) ?_
      refine ⟨by omega, hjl, rfl, fun k y hy hk => ?_, h2⟩
      rcases Nat.lt_or_ge k h with hkh | hkh
      · exact cmpE_trans (hr k h y (a, b) hy hx hkh) hc
      · obtain rfl : k = h := by omega
        rw [hx] at hy; cases hy; exact hc
    · refine wlk_cond0 (by first | rfl | (simp only [go_sem, reduceIte, Nat.reduceEqDiff, reduceCtorEq]; try simp (disch := omega) only [decide_eq_false])) ?_
      refine wlk_reg fun KY hKY => ?_
      simp only [go_sem, reduceIte, Nat.reduceEqDiff, reduceCtorEq, c_slices_BinarySearchFunc___api_Edge_api_Edge_api_Edge__r7]
      refine hKY _ ?_
      repeat (first | refine hn5 _ ?_ | refine he5 _ ?_ | refine hf5 _ _ (by decide) ?_ | refine hn4 _ ?_ | refine he4 _ _ ?_)
      refine hn3 _ ((i, h)) (h - i) (by omega) (by first | (simp only [go_sem, reduceIte, Nat.reduceEqDiff, reduceCtorEq, updAll_cons, updAll_nil]; done) | with_reducible rfl) ?_
      refine ⟨by omega, by omega, rfl, h1, fun k y hy hk => ?_⟩
      rcases Nat.lt_or_ge h k with hkh | hkh
      · have h3 := hr h k (a, b) y hx hy hkh
        have h4 := cmpE_anti (a, b) y
        by_cases h5 : cmpE y (ta, tb) < 0
        · exact absurd (cmpE_trans h3 h5) hc
        · omega
      · obtain rfl : k = h := by omega
        rw [hx] at hy; cases hy; omega
  · refine wlk_sreg fun KY hKY => ?_
    simp only [go_sem, reduceIte, Nat.reduceEqDiff, reduceCtorEq, c_slices_BinarySearchFunc___api_Edge_api_Edge_api_Edge__r3]
    refine hKY _ ?_
    refine wlk_cond0 (by first | rfl | (simp only [go_sem, reduceIte, Nat.reduceEqDiff, reduceCtorEq]; try simp (disch := omega) only [decide_eq_false])) ?_
    refine wlk_exit ?_
    repeat (first | refine hn4 _ ?_ | refine he4 _ _ ?_ | refine he3 _ _ ?_ | refine hn2 _ ?_ | refine he2 _ ?_ | refine hf2 _ _ (by decide) ?_ | refine hn1 _ ?_ | refine he1 _ _ ?_)
    obtain rfl : i = j := by omega
    by_cases hil : i < es.length
    · have hx : es[i]? = some es[i] := List.getElem?_eq_getElem hil
      generalize es[i] = x at hx
      obtain ⟨a, b⟩ := x
      have hmem : decide ((ta, tb) ∈ es) = decide (cmpE (a, b) (ta, tb) = 0) := by
        rw [Bool.eq_iff_iff, decide_eq_true_iff, decide_eq_true_iff, cmpE_zero]
        refine ⟨fun hm => ?_, fun e => e ▸ List.mem_of_getElem? hx⟩
        obtain ⟨k, hk⟩ := List.mem_iff_getElem?.1 hm
        have hz : cmpE (ta, tb) (ta, tb) = 0 := (cmpE_zero _ _).2 rfl
        rcases Nat.lt_trichotomy k i with hki | hki | hki
        · have := h1 k _ hk hki; omega
        · subst hki; rw [hk] at hx; exact (Option.some.inj hx).symm
        · have h3 := hr i k _ _ hx hk hki
          have h4 := h2 i _ hx (Nat.le_refl _)
          omega
      refine wlk_sdraw fun KY hKY => ?_
      simp only [go_sem, reduceIte, Nat.reduceEqDiff, reduceCtorEq, c_slices_BinarySearchFunc___api_Edge_api_Edge_api_Edge__r8]
      repeat (simp (disch := omega) only [if_pos, if_neg, decide_eq_true, decide_eq_false]; try simp only [go_sem, reduceIte, Nat.reduceEqDiff, Nat.reduceBEq, reduceCtorEq, Nat.reduceLT, Nat.reduceAdd, two_cells hx, List.length_drop, twos_len])
      refine call_view rfl (by simp only [go_sem, reduceIte, Nat.reduceEqDiff, reduceCtorEq] <;> rfl) ((ocompare_ok (a, b) (ta, tb)).mono ?_)
      rintro rr hh ⟨rfl, rfl⟩
      refine ⟨rfl, rfl, rfl, ?_⟩
      simp only [go_sem, reduceIte, Nat.reduceEqDiff, Nat.reduceBEq, reduceCtorEq, ← hmem]
      refine hKY _ ?_
      refine wlk_ret ?_
      repeat (first | refine hr4 _ ?_ | refine hr3 _ ?_ | refine hr2 _ ?_ | refine hr1 _ ?_)
      simp only [go_sem, reduceIte, Nat.reduceEqDiff, reduceCtorEq]
      exact ⟨i, rfl⟩
    · have hmem : decide ((ta, tb) ∈ es) = false := by
        rw [decide_eq_false_iff_not]
        intro hm
        obtain ⟨k, hk⟩ := List.mem_iff_getElem?.1 hm
        have := (List.getElem?_eq_some_iff.1 hk).1
        have hz : cmpE (ta, tb) (ta, tb) = 0 := (cmpE_zero _ _).2 rfl
        have := h1 k _ hk (by omega)
        omega
      refine wlk_sdraw fun KY hKY => ?_
      simp only [go_sem, reduceIte, Nat.reduceEqDiff, reduceCtorEq, c_slices_BinarySearchFunc___api_Edge_api_Edge_api_Edge__r8]
      repeat (simp (disch := omega) only [decide_eq_false]; try simp only [go_sem, reduceIte, Nat.reduceEqDiff, Nat.reduceBEq, reduceCtorEq])
      refine hKY _ ?_
      refine wlk_ret ?_
      repeat (first | refine hr4 _ ?_ | refine hr3 _ ?_ | refine hr2 _ ?_ | refine hr1 _ ?_)
      simp only [go_sem, reduceIte, Nat.reduceEqDiff, reduceCtorEq]
      exact ⟨i, by rw [hmem]⟩
theorem gplace_ok (n : Int) (es : List (Int × Int)) (a b : Int) (hr : Ris es) (hl : es.length ≤ 65536) : ACalls Try.prog [] n_graph_place [.agg [.sc (.int .i64 n), .imm 2 (twos es)], .sc (.int .i64 a), .sc (.int .i64 b)] [] fun r h' => (∃ k : Nat, r = .tup [.sc (.int .i64 (k : Int)), .sc (.bool (decide (turnI a b ∈ es)))]) ∧ h' = [] := by
  refine ACalls.trim ?_
  refine go_graph_place rfl ?_
  unfold c_graph_place v_graph_place
  refine wlk_sreg fun KY hKY => ?_
  simp only [go_sem, reduceIte, Nat.reduceEqDiff, reduceCtorEq, c_graph_place_r0]
  refine hKY _ ?_
  refine wlk_sdraw fun KY hKY => ?_
  simp only [go_sem, reduceIte, Nat.reduceEqDiff, Nat.reduceBEq, reduceCtorEq, c_graph_place_r1]
  refine ⟨?_, ?_, ?_⟩
  · refine call_view rfl (by simp only [go_sem, reduceIte, Nat.reduceEqDiff, reduceCtorEq] <;> rfl) ((edge_ok a b).mono ?_)
    rintro rr hh ⟨rfl, rfl⟩
    refine ⟨rfl, rfl, rfl, ?_⟩
    simp only [go_sem, reduceIte, Nat.reduceEqDiff, Nat.reduceBEq, reduceCtorEq]
    refine call_view rfl (by simp only [go_sem, reduceIte, Nat.reduceEqDiff, reduceCtorEq] <;> rfl) ((bsearch_ok es (turnI a b) hr hl).mono ?_)
    rintro rr hh ⟨⟨k, rfl⟩, rfl⟩
    refine ⟨?_, ?_, ?_, ?_⟩
    iterate 3 (first | rfl | simp only [go_sem, reduceIte, Nat.reduceEqDiff, Nat.reduceBEq, reduceCtorEq, Nat.reduceLT, Nat.reduceLeDiff, Nat.reduceAdd, Nat.reduceSub, Nat.reduceMul, Nat.reduceDiv, Int.reduceAdd, Int.reduceNeg, Int.reduceEq, Int.reduceLT, Int.reduceLE])
    simp only [go_sem, reduceIte, Nat.reduceEqDiff, Nat.reduceBEq, reduceCtorEq]
    refine hKY _ ?_
    refine wlk_ret ?_
    simp only [go_sem, reduceIte, Nat.reduceEqDiff, reduceCtorEq]
    exact ⟨k, rfl⟩
  · refine call_view rfl (by simp only [go_sem, reduceIte, Nat.reduceEqDiff, reduceCtorEq] <;> rfl) ((edge_ok a b).mono ?_)
    rintro rr hh ⟨rfl, rfl⟩
    refine ⟨rfl, rfl, rfl, ?_⟩
    simp only [go_sem, reduceIte, Nat.reduceEqDiff, Nat.reduceBEq, reduceCtorEq]
    refine call_view rfl (by simp only [go_sem, reduceIte, Nat.reduceEqDiff, reduceCtorEq] <;> rfl) ((bsearch_ok es (turnI a b) hr hl).mono ?_)
    rintro rr hh ⟨⟨k, rfl⟩, rfl⟩
    refine ⟨?_, ?_, ?_, ?_⟩
    iterate 3 (first | rfl | simp only [go_sem, reduceIte, Nat.reduceEqDiff, Nat.reduceBEq, reduceCtorEq, Nat.reduceLT, Nat.reduceLeDiff, Nat.reduceAdd, Nat.reduceSub, Nat.reduceMul, Nat.reduceDiv, Int.reduceAdd, Int.reduceNeg, Int.reduceEq, Int.reduceLT, Int.reduceLE])
    simp only [go_sem, reduceIte, Nat.reduceEqDiff, Nat.reduceBEq, reduceCtorEq]
    refine hKY _ ?_
    refine wlk_ret ?_
    simp only [go_sem, reduceIte, Nat.reduceEqDiff, reduceCtorEq]
    exact ⟨k, rfl⟩
  · refine call_view rfl (by simp only [go_sem, reduceIte, Nat.reduceEqDiff, reduceCtorEq] <;> rfl) ((edge_ok a b).mono ?_)
    rintro rr hh ⟨rfl, rfl⟩
    refine ⟨rfl, rfl, rfl, ?_⟩
    simp only [go_sem, reduceIte, Nat.reduceBEq, reduceCtorEq]
    refine call_view rfl (by simp only [go_sem, reduceIte, Nat.reduceEqDiff, reduceCtorEq] <;> rfl) ((bsearch_ok es (turnI a b) hr hl).mono ?_)
    rintro rr hh ⟨⟨k, rfl⟩, rfl⟩
    refine ⟨?_, ?_, ?_, ?_⟩
    iterate 3 (first | rfl | simp only [go_sem, reduceIte, Nat.reduceEqDiff, Nat.reduceBEq, reduceCtorEq, Nat.reduceLT, Nat.reduceLeDiff, Nat.reduceAdd, Nat.reduceSub, Nat.reduceMul, Nat.reduceDiv, Int.reduceAdd, Int.reduceNeg, Int.reduceEq, Int.reduceLT, Int.reduceLE])
    simp only [go_sem, reduceIte, Nat.reduceEqDiff, Nat.reduceBEq, reduceCtorEq]
    refine hKY _ ?_
    refine wlk_ret ?_
    simp only [go_sem, reduceIte, Nat.reduceEqDiff, reduceCtorEq]
    exact ⟨k, rfl⟩
theorem gindex_ok (n : Int) (es : List (Int × Int)) (a b : Int) : ACalls Try.prog [] n_graph_Index [.agg [.sc (.int .i64 n), .imm 2 (twos es)], .sc (.int .i64 a), .sc (.int .i64 b)] [] fun r h' => (∃ k : Int, r = .sc (.int .i64 k) ∧ (0 ≤ k ↔ rightB n es = true ∧ turnI a b ∈ es)) ∧ h' = [] := by
  refine ACalls.trim ?_
  refine go_graph_Index rfl ?_
  unfold c_graph_Index v_graph_Index
  refine wlk_sreg fun KY hKY => ?_
  simp only [go_sem, reduceIte, Nat.reduceEqDiff, reduceCtorEq, c_graph_Index_r0]
  refine hKY _ ?_
  refine wlk_seq fun X1 hn1 he1 hr1 => ?_
  cases hr : rightB n es with
  | false =>
    refine wlk_sreg fun KY hKY => ?_
    simp only [go_sem, reduceIte, Nat.reduceEqDiff, reduceCtorEq, Nat.reduceLT, Nat.reduceAdd, c_graph_Index_r1]
    refine call_view rfl (by simp only [go_sem, reduceIte, Nat.reduceEqDiff, reduceCtorEq] <;> rfl) ((right_ok n es).mono ?_)
    rintro rr hh ⟨rfl, rfl⟩
    refine ⟨rfl, rfl, rfl, ?_⟩
    simp only [go_sem, reduceIte, Nat.reduceEqDiff, reduceCtorEq, hr]
    refine hKY _ ?_
    refine wlk_cond1 rfl ?_
    refine wlk_sreg fun KY hKY => ?_
    simp only [go_sem, reduceIte, Nat.reduceEqDiff, reduceCtorEq, Int.reduceAdd, Int.reduceNeg, c_graph_Index_r2]
    refine hKY _ ?_
    refine wlk_ret ?_
    repeat (first | refine hr1 _ ?_)
    simp only [go_sem, reduceIte, Nat.reduceEqDiff, reduceCtorEq, Int.reduceNeg]
    exact ⟨-1, rfl, by omega, fun h => by rw [hr] at h; cases h.1⟩
  | true =>
    have hl : es.length ≤ 65536 := by
      have h := hr
      unfold rightB at h
      simp only [Bool.and_eq_true, decide_eq_true_eq] at h
      exact h.1.2
    refine wlk_sreg fun KY hKY => ?_
    simp only [go_sem, reduceIte, Nat.reduceEqDiff, reduceCtorEq, Nat.reduceLT, Nat.reduceAdd, c_graph_Index_r1]
    refine call_view rfl (by simp only [go_sem, reduceIte, Nat.reduceEqDiff, reduceCtorEq] <;> rfl) ((right_ok n es).mono ?_)
    rintro rr hh ⟨rfl, rfl⟩
    refine ⟨rfl, rfl, rfl, ?_⟩
    simp only [go_sem, reduceIte, Nat.reduceEqDiff, reduceCtorEq, hr]
    refine hKY _ ?_
    refine wlk_cond0 rfl ?_
    refine wlk_skip ?_
    repeat (first | refine hn1 _ ?_ | refine he1 _ _ ?_)
    refine wlk_sreg fun KY hKY => ?_
    simp only [go_sem, reduceIte, Nat.reduceEqDiff, reduceCtorEq, Nat.reduceLT, Nat.reduceAdd, c_graph_Index_r3]
    refine call_view rfl (by simp only [go_sem, reduceIte, Nat.reduceEqDiff, reduceCtorEq] <;> rfl) ((gplace_ok n es a b (ris_of hr) hl).mono ?_)
    rintro rr hh ⟨⟨k, rfl⟩, rfl⟩
    refine ⟨?_, ?_, ?_, ?_⟩
    iterate 3 (first | rfl | simp only [go_sem, reduceIte, Nat.reduceEqDiff, Nat.reduceBEq, reduceCtorEq, Nat.reduceLT, Nat.reduceLeDiff, Nat.reduceAdd, Nat.reduceSub, Nat.reduceMul, Nat.reduceDiv, Int.reduceAdd, Int.reduceNeg, Int.reduceEq, Int.reduceLT, Int.reduceLE])
    simp only [go_sem, reduceIte, Nat.reduceEqDiff, reduceCtorEq]
    refine hKY _ ?_
    refine wlk_seq fun X2 hn2 he2 hr2 => ?_
    by_cases hm : turnI a b ∈ es
    · have hd : decide (turnI a b ∈ es) = true := decide_eq_true hm
      refine wlk_sreg fun KY hKY => ?_
      simp only [go_sem, reduceIte, Nat.reduceEqDiff, reduceCtorEq, c_graph_Index_r4, hd]
      refine hKY _ ?_
      refine wlk_cond0 rfl ?_
      refine wlk_skip ?_
      repeat (first | refine hn2 _ ?_ | refine he2 _ _ ?_ | refine hn1 _ ?_ | refine he1 _ _ ?_)
      refine wlk_sreg fun KY hKY => ?_
      simp only [go_sem, reduceIte, Nat.reduceEqDiff, reduceCtorEq, c_graph_Index_r6]
      refine hKY _ ?_
      refine wlk_ret ?_
      repeat (first | refine hr2 _ ?_ | refine hr1 _ ?_)
      simp only [go_sem, reduceIte, Nat.reduceEqDiff, reduceCtorEq]
      exact ⟨(k : Int), rfl, fun _ => ⟨hr, hm⟩, fun _ => by omega⟩
    · have hd : decide (turnI a b ∈ es) = false := decide_eq_false hm
      refine wlk_sreg fun KY hKY => ?_
      simp only [go_sem, reduceIte, Nat.reduceEqDiff, reduceCtorEq, c_graph_Index_r4, hd]
      refine hKY _ ?_
      refine wlk_cond1 rfl ?_
      refine wlk_sreg fun KY hKY => ?_
      simp only [go_sem, reduceIte, Nat.reduceEqDiff, reduceCtorEq, Int.reduceAdd, Int.reduceNeg, c_graph_Index_r5]
      refine hKY _ ?_
      refine wlk_ret ?_
      repeat (first | refine hr2 _ ?_ | refine hr1 _ ?_)
      simp only [go_sem, reduceIte, Nat.reduceEqDiff, reduceCtorEq, Int.reduceNeg]
      exact ⟨-1, rfl, by omega, fun h => absurd h.2 hm⟩
theorem ghas_ok (n : Int) (es : List (Int × Int)) (a b : Int) : ACalls Try.prog [] n_graph_Has [.agg [.sc (.int .i64 n), .imm 2 (twos es)], .sc (.int .i64 a), .sc (.int .i64 b)] [] fun r h' => r = .sc (.bool (rightB n es && decide (turnI a b ∈ es))) ∧ h' = [] := by
  refine ACalls.trim ?_
  refine go_graph_Has rfl ?_
  unfold c_graph_Has v_graph_Has
  refine wlk_sreg fun KY hKY => ?_
  simp only [go_sem, reduceIte, Nat.reduceEqDiff, reduceCtorEq, c_graph_Has_r0]
  refine hKY _ ?_
  refine wlk_sreg fun KY hKY => ?_
  simp only [go_sem, reduceIte, Nat.reduceEqDiff, reduceCtorEq, Nat.reduceLT, Nat.reduceAdd, c_graph_Has_r1]
  refine call_view rfl (by simp only [go_sem, reduceIte, Nat.reduceEqDiff, reduceCtorEq] <;> rfl) ((gindex_ok n es a b).mono ?_)
  rintro rr hh ⟨⟨k, rfl, hk⟩, rfl⟩
  refine ⟨?_, ?_, ?_, ?_⟩
  iterate 3 (first | rfl | simp only [go_sem, reduceIte, Nat.reduceEqDiff, Nat.reduceBEq, reduceCtorEq, Nat.reduceLT, Nat.reduceLeDiff, Nat.reduceAdd, Nat.reduceSub, Nat.reduceMul, Nat.reduceDiv, Int.reduceAdd, Int.reduceNeg, Int.reduceEq, Int.reduceLT, Int.reduceLE])
  simp only [go_sem, reduceIte, Nat.reduceEqDiff, reduceCtorEq]
  refine hKY _ ?_
  refine wlk_ret ?_
  simp only [go_sem, reduceIte, Nat.reduceEqDiff, reduceCtorEq]
  have : decide (0 ≤ k) = (rightB n es && decide (turnI a b ∈ es)) := by
    rw [Bool.eq_iff_iff]; simp [hk]
  rw [this]
end Go.Proofs.Ytepjcfbigcfkfaa
set_option maxRecDepth 100000
set_option maxHeartbeats 2000000
namespace Go.Proofs.Ytepjcfbigcfkfaa
open Go Go.Ga Go.Ga.Gl
def cntI (l : List (Int × Int)) (v : Int) : Int := (l.map fun e => (if e.1 = v then (1 : Int) else 0) + (if e.2 = v then 1 else 0)).sum
theorem cntI_nil (v : Int) : cntI [] v = 0 := rfl
theorem cntI_snoc (l : List (Int × Int)) (a b v : Int) : cntI (l ++ [(a, b)]) v = cntI l v + ((if a = v then 1 else 0) + (if b = v then 1 else 0)) := by
  simp [cntI]
theorem cntI_bound (l : List (Int × Int)) (v : Int) : 0 ≤ cntI l v ∧ cntI l v ≤ 2 * l.length := by
  induction l with
  | nil => simp [cntI]
  | cons e l ih =>
    simp only [cntI, List.map_cons, List.sum_cons, List.length_cons] at ih ⊢
    split <;> split <;> omega
def accL (N : Nat) (f : Nat → Int) : List Int := (List.range N).map f
theorem accL_len (N : Nat) (f : Nat → Int) : (accL N f).length = N := by simp [accL]
theorem accL_get {N : Nat} (f : Nat → Int) {a : Nat} (h : a < N) : (accL N f).getD a 0 = f a := by simp [accL, h]
theorem accL_set {N : Nat} (f : Nat → Int) (a : Nat) (x : Int) : (accL N f).set a x = accL N fun v => if v = a then x else f v := by
  apply List.ext_getElem
  · simp [accL]
  · intro i h1 h2
    simp only [accL, List.getElem_set, List.getElem_map, List.getElem_range]
    by_cases h : i = a
    · subst h; simp
    · rw [if_neg (fun e => h e.symm), if_neg h]
theorem accL_congr {N : Nat} {f g : Nat → Int} (h : ∀ v, v < N → f v = g v) : accL N f = accL N g := List.map_congr_left fun v hv => h v (List.mem_range.1 hv)
def lftL (N : Nat) (fs : List Int) (l : List (Int × Int)) : List Int := accL N fun v => fs.getD v 0 - cntI l v
theorem lft_len (N : Nat) (fs : List Int) (l : List (Int × Int)) : (lftL N fs l).length = N := accL_len _ _
theorem lft_zero {N : Nat} {fs : List Int} (h : fs.length = N) : lftL N fs [] = fs := by
  apply List.ext_getElem
  · simp [lftL, accL, h]
  · intro i h1 h2
    simp [lftL, accL, cntI_nil, List.getD_eq_getElem?_getD, h2]
theorem lft_step {N : Nat} (fs : List Int) (l : List (Int × Int)) {a b : Nat} (hab : a ≠ b) (hb : b < N) (ha : a < N) :
    ((lftL N fs l).set a (fs.getD a 0 - cntI l a - 1)).getD b 0 = fs.getD b 0 - cntI l b ∧ ((lftL N fs l).set a (fs.getD a 0 - cntI l a - 1)).set b (fs.getD b 0 - cntI l b - 1) = lftL N fs (l ++ [((a : Int), (b : Int))]) := by
  unfold lftL
  rw [accL_set, accL_get _ hb, accL_set]
  refine ⟨by rw [if_neg (fun e => hab e.symm)], accL_congr fun v _ => ?_⟩
  rw [cntI_snoc]
  by_cases h1 : v = b
  · subst h1
    rw [if_pos rfl, if_neg (show ¬ (a : Int) = (v : Int) by omega), if_pos rfl]; omega
  · rw [if_neg h1, if_neg (show ¬ (b : Int) = (v : Int) by omega)]
    by_cases h2 : v = a
    · subst h2
      rw [if_pos rfl, if_pos rfl]; omega
    · rw [if_neg h2, if_neg (show ¬ (a : Int) = (v : Int) by omega)]; omega
def facB (N : Nat) (es : List (Int × Int)) (fs : List Int) (l : List (Int × Int)) : Bool :=
  rightB N l && (l.all fun x => decide (x ∈ es)) && decide (accL N (fun v => cntI l v) = fs)
theorem isfac1_ok (x : Int) : ACalls Try.prog [] n_tutte_IsFactor_1 [.sc (.int .i64 x)] [] fun r h' => r = .sc (.bool (decide (x ≠ 0))) ∧ h' = [] := by
  refine go_tutte_IsFactor_1 rfl ?_
  unfold c_tutte_IsFactor_1 v_tutte_IsFactor_1
  refine wlk_sreg fun KY hKY => ?_
  simp only [go_sem, reduceIte, reduceCtorEq, c_tutte_IsFactor_1_r0]
  refine hKY _ ?_
  refine wlk_sreg fun KY hKY => ?_
  simp only [go_sem, reduceIte, Nat.reduceEqDiff, reduceCtorEq, c_tutte_IsFactor_1_r1]
  refine hKY _ ?_
  refine wlk_ret ?_
  simp only [go_sem, reduceIte, Nat.reduceEqDiff, reduceCtorEq]
theorem isfacE_ok (n : Int) (es l : List (Int × Int)) (fs : List Int) (hfl : fs.length ≤ 1000000000) (h : tErr n es fs ≠ 0) : ACalls Try.prog [] n_tutte_IsFactor [.agg [.sc (.int .i64 n), .imm 2 (twos es)], .imm 1 (ints fs), .imm 2 (twos l)] [] fun r h' => r = .sc (.bool false) ∧ h' = [] := by
  refine ACalls.trim ?_
  have hd : decide (tErr n es fs ≠ 0) = true := decide_eq_true h
  refine go_tutte_IsFactor rfl ?_
  unfold c_tutte_IsFactor v_tutte_IsFactor
  refine wlk_sreg fun KY hKY => ?_
  simp only [go_sem, reduceIte, Nat.reduceEqDiff, reduceCtorEq, c_tutte_IsFactor_r0]
  refine hKY _ ?_
  refine wlk_seq fun X1 hn1 he1 hr1 => ?_
  refine wlk_sreg fun KY hKY => ?_
  simp only [go_sem, reduceIte, Nat.reduceEqDiff, reduceCtorEq, Nat.reduceLT, Nat.reduceAdd, c_tutte_IsFactor_r1]
  refine call_view rfl (by simp only [go_sem, reduceIte, Nat.reduceEqDiff, reduceCtorEq] <;> rfl) ((tright_ok n es fs hfl).mono ?_)
  rintro rr hh ⟨rfl, rfl⟩
  refine ⟨rfl, rfl, rfl, ?_⟩
  simp only [go_sem, reduceIte, Nat.reduceEqDiff, reduceCtorEq, hd]
  refine hKY _ ?_
  refine wlk_cond1 rfl ?_
  refine wlk_sreg fun KY hKY => ?_
  simp only [go_sem, reduceIte, Nat.reduceEqDiff, reduceCtorEq, c_tutte_IsFactor_r2]
  refine hKY _ ?_
  refine wlk_ret ?_
  repeat (first | refine hr1 _ ?_)
  simp only [go_sem, reduceIte, Nat.reduceEqDiff, reduceCtorEq]
theorem nodup_leG {α : Type} [DecidableEq α] : ∀ {l m : List α}, l.Nodup → (∀ x ∈ l, x ∈ m) → l.length ≤ m.length
  | [], _, _, _ => Nat.zero_le _
  | a :: l, m, h, hm => by
    have h' := List.nodup_cons.1 h
    have ha := hm a (List.mem_cons_self ..)
    have := nodup_leG (l := l) (m := m.erase a) h'.2 fun x hx => (List.mem_erase_of_ne fun (e : x = a) => h'.1 (e ▸ hx)).2 (hm x (List.mem_cons_of_mem _ hx))
    rw [List.length_erase_of_mem ha] at this
    have : 0 < m.length := List.length_pos_of_mem ha
    simp only [List.length_cons]; omega
theorem ok_len {N : Nat} {es : Es} (g : GR N es) {l : List (Int × Int)} (hz : ∀ j, j < l.length → okAt N l j = true) (hz2 : ∀ j, j < l.length → l.getD j (0, 0) ∈ castE es) : l.length ≤ es.length := by
  have hp : l.Pairwise fun x y => x.1 < y.1 ∨ x.1 = y.1 ∧ x.2 < y.2 := by
    refine pairwise_of_next (fun a b c h1 h2 => by omega) fun i a b hi hj => ?_
    have h := hz (i + 1) (List.getElem?_eq_some_iff.1 hj).1
    simp only [okAt, Nat.add_sub_cancel, List.getD_eq_getElem?_getD, hi, hj, Option.getD_some, Bool.and_eq_true, Bool.or_eq_true, decide_eq_true_eq] at h
    omega
  have hn : l.Nodup := hp.imp fun {a b} h e => by subst e; omega
  rw [← castE_len]
  refine nodup_leG hn fun x hx => ?_
  obtain ⟨j, hj, rfl⟩ := List.mem_iff_getElem.1 hx
  have := hz2 j hj
  rwa [List.getD_eq_getElem?_getD, List.getElem?_eq_getElem hj] at this
theorem isfac_ok {N : Nat} {es : Es} (g : GR N es) (l : List (Int × Int)) (fs : List Int) (hl : l.length ≤ 1000000) (h : tErr N (castE es) fs = 0) : ACalls Try.prog [] n_tutte_IsFactor [.agg [.sc (.int .i64 (N : Int)), .imm 2 (twos (castE es))], .imm 1 (ints fs), .imm 2 (twos l)] [] fun r h' => r = .sc (.bool (facB N (castE es) fs l)) ∧ h' = [] := by
  refine ACalls.trim ?_
  have hN := g.hn
  obtain ⟨hr, hdB⟩ := tErr_zero h
  obtain ⟨hfl, hfs⟩ := degs_of hdB
  have hfl' : fs.length = N := by omega
  have hd : decide (tErr N (castE es) fs ≠ 0) = false := decide_eq_false (fun e => e h)
  have htr := tright_ok N (castE es) fs (by omega)
  rw [h] at htr
  refine go_tutte_IsFactor rfl ?_
  unfold c_tutte_IsFactor v_tutte_IsFactor
  refine wlk_sreg fun KY hKY => ?_
  simp only [go_sem, reduceIte, Nat.reduceEqDiff, reduceCtorEq, c_tutte_IsFactor_r0]
  refine hKY _ ?_
  refine wlk_seq fun X1 hn1 he1 hr1 => ?_
  refine wlk_sreg fun KY hKY => ?_
  simp only [go_sem, reduceIte, Nat.reduceEqDiff, reduceCtorEq, Nat.reduceLT, Nat.reduceAdd, c_tutte_IsFactor_r1]
  refine call_view rfl (by simp only [go_sem, reduceIte, Nat.reduceEqDiff, reduceCtorEq] <;> rfl) ((htr).mono ?_)
  rintro rr hh ⟨rfl, rfl⟩
  refine ⟨rfl, rfl, rfl, ?_⟩
  simp only [go_sem, reduceIte, Nat.reduceEqDiff, reduceCtorEq]
  refine hKY _ ?_
  refine wlk_cond0 rfl ?_
  refine wlk_skip ?_
  repeat (first | refine hn1 _ ?_ | refine he1 _ _ ?_)
  refine wlk_sreg fun KY hKY => ?_
  simp only [go_sem, reduceIte, Nat.reduceEqDiff, reduceCtorEq, c_tutte_IsFactor_r3]
  refine call_view rfl (by simp only [go_sem, reduceIte, Nat.reduceEqDiff, reduceCtorEq] <;> rfl) ((clone_ok fs (by omega)).mono ?_)
  rintro rr hh ⟨rfl, rfl⟩
  refine ⟨?_, ?_, ?_, ?_⟩
  iterate 3 (first | rfl | simp only [go_sem])
  simp only [go_sem, reduceIte, Nat.reduceEqDiff, reduceCtorEq]
  refine hKY _ ?_
  refine wlk_seq fun X2 hn2 he2 hr2 => ?_
  refine wlk_sreg fun KY hKY => ?_
  simp only [go_sem, reduceIte, Nat.reduceEqDiff, reduceCtorEq, c_tutte_IsFactor_r4, twos_len, mul2]
  refine hKY _ ?_
  refine wlk_blk fun X3 hn3 he3 hf3 hr3 => ?_
  have hlz : ints fs = ints (lftL N fs (l.take 0)) := by rw [List.take_zero, lft_zero hfl']
  rw [hlz]
  try simp only [go_sem, reduceIte, Nat.reduceEqDiff, reduceCtorEq]
  refine wlk_lp (α := Nat) [8, 9, 19, 63] (fun k => [(7, .own (some 1) (ints (lftL N fs (l.take k)))), (18, .sc (.int .i64 (k : Int)))]) (fun k => []) (fun k q => k ≤ l.length ∧ q = l.length - k ∧ (∀ j, j < k → okAt N l j = true) ∧ (∀ j, j < k → l.getD j (0, 0) ∈ castE es)) (0) (l.length) rfl (by first | (simp only [go_sem, reduceIte, Nat.reduceEqDiff, reduceCtorEq, updAll_cons, updAll_nil]; done) | with_reducible rfl | rfl) (⟨by omega, rfl, fun j h => by omega, fun j h => by omega⟩) ?_
  rintro k q ⟨hk, rfl, hz, hz2⟩ X4 hn4 he4 hr4
  simp only [go_sem, reduceIte, Nat.reduceEqDiff, reduceCtorEq, updAll_cons, updAll_nil]
  refine wlk_sreg fun KY hKY => ?_
  simp only [go_sem, reduceIte, Nat.reduceEqDiff, reduceCtorEq, c_tutte_IsFactor_r5]
  refine hKY _ ?_
  refine wlk_seq fun X5 hn5 he5 hr5 => ?_
  by_cases hk2 : k < l.length
  · refine wlk_cond1 (by first | rfl | (simp only [go_sem, reduceIte, Nat.reduceEqDiff, reduceCtorEq]; try simp (disch := omega) only [decide_eq_true])) ?_
    refine wlk_skip ?_
    repeat (first | refine hn5 _ ?_ | refine he5 _ _ ?_ | refine he4 _ _ ?_ | refine hn3 _ ?_ | refine he3 _ ?_ | refine hf3 _ _ (by decide) ?_ | refine hn2 _ ?_ | refine he2 _ _ ?_ | refine hn1 _ ?_ | refine he1 _ _ ?_)
    refine wlk_seq fun X6 hn6 he6 hr6 => ?_
    refine wlk_blk fun X7 hn7 he7 hf7 hr7 => ?_
    have hx : l[k]? = some l[k] := List.getElem?_eq_getElem hk2
    have hxd : l.getD k (0, 0) = l[k] := by simp [List.getD_eq_getElem?_getD, hx]
    have hxm : l[k] ∈ l := List.getElem_mem hk2
    generalize l[k] = x at hx hxd hxm
    obtain ⟨a, b⟩ := x
    refine wlk_sreg fun KY hKY => ?_
    simp only [go_sem, reduceIte, Nat.reduceEqDiff, reduceCtorEq, c_tutte_IsFactor_r6, twos_len]
    repeat (simp (disch := omega) only [if_pos, if_neg, decide_eq_true]; try simp only [go_sem, reduceIte, Nat.reduceEqDiff, reduceCtorEq, Nat.reduceLT, Nat.reduceAdd, two_cells hx, List.length_drop, twos_len])
    refine hKY _ ?_
    refine wlk_seq fun X8 hn8 he8 hr8 => ?_
    have hiff : okAt N l k = true ↔ 0 ≤ a ∧ a < b ∧ b < N ∧ (k = 0 ∨ ((l.getD (k - 1) (0, 0)).1 < a ∨ (l.getD (k - 1) (0, 0)).1 = a ∧ (l.getD (k - 1) (0, 0)).2 < b)) := by
      simp only [okAt, hxd, Bool.and_eq_true, Bool.or_eq_true, decide_eq_true_eq, and_assoc]
    have hbad : okAt N l k = false → facB N (castE es) fs l = false := fun hf => by
      unfold facB; rw [rightB_false hk2 hf]; rfl
    by_cases hab : b < a
    · have hfalse := hbad (by rw [Bool.eq_false_iff]; intro h; have := hiff.1 h; omega)
      refine wlk_sdraw fun KY hKY => ?_
      simp only [go_sem, reduceIte, Nat.reduceEqDiff, Nat.reduceBEq, reduceCtorEq, c_tutte_IsFactor_r7, hab]
      repeat (simp (disch := omega) only [if_pos, if_neg, decide_eq_true, decide_eq_false, incS, nats_get, ints_get, hab]; try simp only [go_sem, reduceIte, Nat.reduceEqDiff, Nat.reduceBEq, reduceCtorEq, Nat.reduceLT, Nat.reduceLeDiff, Nat.reduceAdd, Nat.reduceSub, Nat.reduceMul, Nat.reduceDiv, Int.reduceAdd, Int.reduceNeg, Int.reduceEq, Int.reduceLT, Int.reduceLE, hab])
      refine hKY _ ?_
      refine wlk_cond1 rfl ?_
      refine wlk_sreg fun KY hKY => ?_
      simp only [go_sem, reduceIte, Nat.reduceEqDiff, reduceCtorEq, c_tutte_IsFactor_r8]
      refine hKY _ ?_
      refine wlk_ret ?_
      repeat (first | refine hr8 _ ?_ | refine hr7 _ ?_ | refine hr6 _ ?_ | refine hr5 _ ?_ | refine hr4 _ ?_ | refine hr3 _ ?_ | refine hr2 _ ?_ | refine hr1 _ ?_)
      simp only [go_sem, reduceIte, Nat.reduceEqDiff, reduceCtorEq]
      rw [hfalse]
    · have htn : turnI a b = (a, b) := by unfold turnI; rw [if_neg hab]
      by_cases hin : (a, b) ∈ castE es
      · have hhas : (rightB N (castE es) && decide (turnI a b ∈ castE es)) = true := by rw [hr, htn, decide_eq_true hin]; rfl
        obtain ⟨⟨u, w⟩, hin', e⟩ := List.mem_map.1 hin
        have hok := g.ok _ hin'
        simp only [Prod.mk.injEq] at e
        obtain ⟨rfl, rfl⟩ := e
        simp only at hok
        have han : u < N := by omega
        have hbn : w < N := hok.2
        have htk : l.take (k + 1) = l.take k ++ [((u : Int), (w : Int))] := by rw [List.take_add_one, hx]; rfl
        have hga : (lftL N fs (l.take k)).getD u 0 = fs.getD u 0 - cntI (l.take k) u := accL_get _ han
        have hst := lft_step fs (l.take k) (a := u) (b := w) (by omega) hbn han
        rw [← htk] at hst
        have hb1 := cntI_bound (l.take k) u
        have hb2 := cntI_bound (l.take k) w
        have hlt : (l.take k).length ≤ 1000000 := by rw [List.length_take]; omega
        have hfa : ∀ v, v < N → 0 ≤ fs.getD v 0 ∧ fs.getD v 0 ≤ 4096 := fun v hv => by
          rw [List.getD_eq_getElem?_getD, List.getElem?_eq_getElem (by omega : v < fs.length)]
          exact hfs _ (List.getElem_mem _)
        have ha1 := hfa u han
        have ha2 := hfa w hbn
        have hwa : IntKind.i64.wrap (fs.getD u 0 - cntI (l.take k) u - 1) = fs.getD u 0 - cntI (l.take k) u - 1 := by rw [IntWalk.i64_in _ (by omega)]
        have hwb : IntKind.i64.wrap (fs.getD w 0 - cntI (l.take k) w - 1) = fs.getD w 0 - cntI (l.take k) w - 1 := by rw [IntWalk.i64_in _ (by omega)]
        rcases Nat.eq_zero_or_pos k with hk0 | hk0
        · have hokk : okAt N l k = true := hiff.2 (by omega)
          refine wlk_sdraw fun KY hKY => ?_
          simp only [go_sem, reduceIte, Nat.reduceEqDiff, Nat.reduceBEq, reduceCtorEq, Nat.reduceLT, Nat.reduceAdd, c_tutte_IsFactor_r7, hab]
          repeat (simp (disch := omega) only [if_pos, if_neg, decide_eq_true, decide_eq_false, incS, nats_get, ints_get, hab]; try simp only [go_sem, reduceIte, Nat.reduceEqDiff, Nat.reduceBEq, reduceCtorEq, Nat.reduceLT, Nat.reduceLeDiff, Nat.reduceAdd, Nat.reduceSub, Nat.reduceMul, Nat.reduceDiv, Int.reduceAdd, Int.reduceNeg, Int.reduceEq, Int.reduceLT, Int.reduceLE, hab])
          refine call_view rfl (by simp only [go_sem, reduceIte, Nat.reduceEqDiff, reduceCtorEq] <;> rfl) ((ghas_ok N (castE es) u w).mono ?_)
          rintro rr hh ⟨rfl, rfl⟩
          refine ⟨rfl, rfl, rfl, ?_⟩
          simp only [go_sem, reduceIte, Nat.reduceEqDiff, reduceCtorEq, hhas]
          try simp only [go_sem, reduceIte, Nat.reduceEqDiff, Nat.reduceBEq, reduceCtorEq, Nat.reduceLT, Nat.reduceLeDiff, Nat.reduceAdd, Nat.reduceSub, Nat.reduceMul, Nat.reduceDiv, Int.reduceAdd, Int.reduceNeg, Int.reduceEq, Int.reduceLT, Int.reduceLE]
          repeat (simp (disch := omega) only [decide_eq_false]; try simp only [go_sem, reduceIte, Nat.reduceEqDiff, Nat.reduceBEq, reduceCtorEq])
          refine hKY _ ?_
          refine wlk_cond0 rfl ?_
          refine wlk_skip ?_
          repeat (first | refine hn8 _ ?_ | refine he8 _ _ ?_ | refine hn7 _ ?_ | refine he7 _ ?_ | refine hf7 _ _ (by decide) ?_ | refine hn6 _ ?_ | refine he6 _ _ ?_ | refine hn5 _ ?_ | refine he5 _ _ ?_ | refine he4 _ _ ?_ | refine hn3 _ ?_ | refine he3 _ ?_ | refine hf3 _ _ (by decide) ?_ | refine hn2 _ ?_ | refine he2 _ _ ?_ | refine hn1 _ ?_ | refine he1 _ _ ?_)
          refine wlk_sreg fun KY hKY => ?_
          simp only [go_sem, reduceIte, Nat.reduceEqDiff, Nat.reduceBEq, reduceCtorEq, c_tutte_IsFactor_r9, ints_get (show u < (lftL N fs (l.take (k))).length by rw [lft_len]; omega), lft_len, han, ints_len, hga, hwa]
          refine hKY _ ?_
          refine wlk_reg fun KY hKY => ?_
          simp only [go_sem, reduceIte, Nat.reduceEqDiff, Nat.reduceBEq, reduceCtorEq, c_tutte_IsFactor_r10, ints_get (show w < ((lftL N fs (l.take (k))).set u (fs.getD u 0 - cntI (l.take (k)) u - 1)).length by rw [List.length_set, lft_len]; omega), List.length_set, lft_len, hbn, ints_len, hst.1, hwb, hst.2]
          refine hKY _ ?_
          repeat (first | refine hn8 _ ?_ | refine he8 _ _ ?_ | refine hn7 _ ?_ | refine he7 _ ?_ | refine hf7 _ _ (by decide) ?_ | refine hn6 _ ?_ | refine he6 _ _ ?_ | refine hn5 _ ?_ | refine he5 _ _ ?_ | refine he4 _ _ ?_ | refine hn3 _ ?_ | refine he3 _ ?_ | refine hf3 _ _ (by decide) ?_ | refine hn2 _ ?_ | refine he2 _ _ ?_ | refine hn1 _ ?_ | refine he1 _ _ ?_)
          refine wlk_reg fun KY hKY => ?_
          simp only [go_sem, reduceIte, Nat.reduceEqDiff, reduceCtorEq, c_tutte_IsFactor_r11, incS (show k < 4611686018427387904 by omega)]
          refine hKY _ ?_
          repeat (first | refine hn8 _ ?_ | refine he8 _ _ ?_ | refine hn7 _ ?_ | refine he7 _ ?_ | refine hf7 _ _ (by decide) ?_ | refine hn6 _ ?_ | refine he6 _ _ ?_ | refine hn5 _ ?_ | refine he5 _ _ ?_)
          refine hn4 _ (k + 1) (l.length - (k + 1)) (by omega) (by first | (simp only [go_sem, reduceIte, Nat.reduceEqDiff, reduceCtorEq, updAll_cons, updAll_nil, htk]; done) | with_reducible rfl) ?_
          refine ⟨hk2, rfl, fun j hj => ?_, fun j hj => ?_⟩
          · rcases Nat.lt_or_ge j (k) with h3 | h3
            · exact hz j h3
            · have : j = k := by omega
              subst this
              exact hokk
          · rcases Nat.lt_or_ge j (k) with h3 | h3
            · exact hz2 j h3
            · have : j = k := by omega
              subst this
              rw [hxd]; exact hin
        · obtain ⟨m, rfl⟩ : ∃ m, k = m + 1 := ⟨k - 1, by omega⟩
          have hm : l[m]? = some (l[m]'(by omega)) := List.getElem?_eq_getElem _
          have hmy : l.getD (m + 1 - 1) (0, 0) = l[m]'(by omega) := by simp [List.getD_eq_getElem?_getD, hm]
          generalize l[m]'(by omega) = x at hm hmy
          obtain ⟨c, d⟩ := x
          rw [hmy] at hiff
          have hm0 : ¬ (((m + 1 : Nat) : Int) ≤ 0) := by omega
          have hlt := cmpE_lt (c, d) ((u : Int), (w : Int))
          have hcm : ([cmpI c u, cmpI d w].find? (· ≠ 0)).getD 0 = cmpE (c, d) ((u : Int), (w : Int)) := by
            unfold cmpE
            by_cases h : cmpI c u = 0
            · by_cases h2 : cmpI d w = 0
              · simp [h, h2]
              · simp [h, h2]
            · simp [h]
          simp only at hlt hiff
          by_cases hq : 0 ≤ cmpE (c, d) ((u : Int), (w : Int))
          · have hfalse := hbad (by rw [Bool.eq_false_iff]; intro h; have := hiff.1 h; omega)
            refine wlk_sdraw fun KY hKY => ?_
            simp only [go_sem, reduceIte, Nat.reduceEqDiff, Nat.reduceBEq, reduceCtorEq, Nat.reduceLT, Nat.reduceAdd, c_tutte_IsFactor_r7, hab]
            repeat (simp (disch := omega) only [if_pos, if_neg, decide_eq_true, decide_eq_false, incS, nats_get, ints_get, hab]; try simp only [go_sem, reduceIte, Nat.reduceEqDiff, Nat.reduceBEq, reduceCtorEq, Nat.reduceLT, Nat.reduceLeDiff, Nat.reduceAdd, Nat.reduceSub, Nat.reduceMul, Nat.reduceDiv, Int.reduceAdd, Int.reduceNeg, Int.reduceEq, Int.reduceLT, Int.reduceLE, hab])
            refine call_view rfl (by simp only [go_sem, reduceIte, Nat.reduceEqDiff, reduceCtorEq] <;> rfl) ((ghas_ok N (castE es) u w).mono ?_)
            rintro rr hh ⟨rfl, rfl⟩
            refine ⟨rfl, rfl, rfl, ?_⟩
            simp only [go_sem, reduceIte, Nat.reduceEqDiff, reduceCtorEq, hhas]
            try simp only [go_sem, reduceIte, Nat.reduceEqDiff, Nat.reduceBEq, reduceCtorEq, Nat.reduceLT, Nat.reduceLeDiff, Nat.reduceAdd, Nat.reduceSub, Nat.reduceMul, Nat.reduceDiv, Int.reduceAdd, Int.reduceNeg, Int.reduceEq, Int.reduceLT, Int.reduceLE, decS, two_get0 hm, two_get1 hm, List.length_drop, twos_len]
            repeat (simp (disch := omega) only [if_pos, decide_eq_true, decS]; try simp only [go_sem, reduceIte, Nat.reduceEqDiff, Nat.reduceBEq, reduceCtorEq, two_get0 hm, two_get1 hm, twos_len])
            refine call_view rfl (by simp only [go_sem, reduceIte, Nat.reduceEqDiff, reduceCtorEq] <;> rfl) ((compare_ok _ _).mono ?_)
            rintro rr hh ⟨rfl, rfl⟩
            refine ⟨rfl, rfl, rfl, ?_⟩
            simp only [go_sem, reduceIte, Nat.reduceEqDiff, Nat.reduceBEq, reduceCtorEq]
            refine call_view rfl (by simp only [go_sem, reduceIte, Nat.reduceEqDiff, reduceCtorEq] <;> rfl) ((compare_ok _ _).mono ?_)
            rintro rr hh ⟨rfl, rfl⟩
            refine ⟨rfl, rfl, rfl, ?_⟩
            simp only [go_sem, reduceIte, Nat.reduceEqDiff, reduceCtorEq, Nat.reduceLT, Nat.reduceAdd]
            refine call_view rfl (by simp only [go_sem, reduceIte, Nat.reduceEqDiff, reduceCtorEq] <;> rfl) ((or_ok [cmpI c u, cmpI d w] (Nat.le_of_ble_eq_true rfl)).mono ?_)
            rintro rr hh ⟨rfl, rfl⟩
            refine ⟨rfl, rfl, rfl, ?_⟩
            simp only [go_sem, reduceIte, Nat.reduceEqDiff, reduceCtorEq, hcm]
            simp only [go_sem, hq]
            refine hKY _ ?_
            refine wlk_cond1 rfl ?_
            refine wlk_sreg fun KY hKY => ?_
            simp only [go_sem, reduceIte, Nat.reduceEqDiff, reduceCtorEq, c_tutte_IsFactor_r8]
            refine hKY _ ?_
            refine wlk_ret ?_
            repeat (first | refine hr8 _ ?_ | refine hr7 _ ?_ | refine hr6 _ ?_ | refine hr5 _ ?_ | refine hr4 _ ?_ | refine hr3 _ ?_ | refine hr2 _ ?_ | refine hr1 _ ?_)
            simp only [go_sem, reduceIte, Nat.reduceEqDiff, reduceCtorEq]
            rw [hfalse]
          · have hokk : okAt N l (m + 1) = true := hiff.2 (by omega)
            refine wlk_sdraw fun KY hKY => ?_
            simp only [go_sem, reduceIte, Nat.reduceEqDiff, Nat.reduceBEq, reduceCtorEq, Nat.reduceLT, Nat.reduceAdd, c_tutte_IsFactor_r7, hab]
            repeat (simp (disch := omega) only [if_pos, if_neg, decide_eq_true, decide_eq_false, incS, nats_get, ints_get, hab]; try simp only [go_sem, reduceIte, Nat.reduceEqDiff, Nat.reduceBEq, reduceCtorEq, Nat.reduceLT, Nat.reduceLeDiff, Nat.reduceAdd, Nat.reduceSub, Nat.reduceMul, Nat.reduceDiv, Int.reduceAdd, Int.reduceNeg, Int.reduceEq, Int.reduceLT, Int.reduceLE, hab])
            refine call_view rfl (by simp only [go_sem, reduceIte, Nat.reduceEqDiff, reduceCtorEq] <;> rfl) ((ghas_ok N (castE es) u w).mono ?_)
            rintro rr hh ⟨rfl, rfl⟩
            refine ⟨rfl, rfl, rfl, ?_⟩
            simp only [go_sem, reduceIte, Nat.reduceEqDiff, reduceCtorEq, hhas]
            try simp only [go_sem, reduceIte, Nat.reduceEqDiff, Nat.reduceBEq, reduceCtorEq, Nat.reduceLT, Nat.reduceLeDiff, Nat.reduceAdd, Nat.reduceSub, Nat.reduceMul, Nat.reduceDiv, Int.reduceAdd, Int.reduceNeg, Int.reduceEq, Int.reduceLT, Int.reduceLE, decS, two_get0 hm, two_get1 hm, List.length_drop, twos_len]
            repeat (simp (disch := omega) only [if_pos, decide_eq_true, decS]; try simp only [go_sem, reduceIte, Nat.reduceEqDiff, Nat.reduceBEq, reduceCtorEq, two_get0 hm, two_get1 hm, twos_len])
            refine call_view rfl (by simp only [go_sem, reduceIte, Nat.reduceEqDiff, reduceCtorEq] <;> rfl) ((compare_ok _ _).mono ?_)
            rintro rr hh ⟨rfl, rfl⟩
            refine ⟨rfl, rfl, rfl, ?_⟩
            simp only [go_sem, reduceIte, Nat.reduceEqDiff, Nat.reduceBEq, reduceCtorEq]
            refine call_view rfl (by simp only [go_sem, reduceIte, Nat.reduceEqDiff, reduceCtorEq] <;> rfl) ((compare_ok _ _).mono ?_)
            rintro rr hh ⟨rfl, rfl⟩
            refine ⟨rfl, rfl, rfl, ?_⟩
            simp only [go_sem, reduceIte, Nat.reduceEqDiff, reduceCtorEq, Nat.reduceLT, Nat.reduceAdd]
            refine call_view rfl (by simp only [go_sem, reduceIte, Nat.reduceEqDiff, reduceCtorEq] <;> rfl) ((or_ok [cmpI c u, cmpI d w] (Nat.le_of_ble_eq_true rfl)).mono ?_)
            rintro rr hh ⟨rfl, rfl⟩
            refine ⟨rfl, rfl, rfl, ?_⟩
            simp only [go_sem, reduceIte, Nat.reduceEqDiff, reduceCtorEq, hcm]
            simp only [go_sem, hq]
            refine hKY _ ?_
            refine wlk_cond0 rfl ?_
            refine wlk_skip ?_
            repeat (first | refine hn8 _ ?_ | refine he8 _ _ ?_ | refine hn7 _ ?_ | refine he7 _ ?_ | refine hf7 _ _ (by decide) ?_ | refine hn6 _ ?_ | refine he6 _ _ ?_ | refine hn5 _ ?_ | refine he5 _ _ ?_ | refine he4 _ _ ?_ | refine hn3 _ ?_ | refine he3 _ ?_ | refine hf3 _ _ (by decide) ?_ | refine hn2 _ ?_ | refine he2 _ _ ?_ | refine hn1 _ ?_ | refine he1 _ _ ?_)
            refine wlk_sreg fun KY hKY => ?_
            simp only [go_sem, reduceIte, Nat.reduceEqDiff, Nat.reduceBEq, reduceCtorEq, c_tutte_IsFactor_r9, ints_get (show u < (lftL N fs (l.take ((m + 1)))).length by rw [lft_len]; omega), lft_len, han, ints_len, hga, hwa]
            refine hKY _ ?_
            refine wlk_reg fun KY hKY => ?_
            simp only [go_sem, reduceIte, Nat.reduceEqDiff, Nat.reduceBEq, reduceCtorEq, c_tutte_IsFactor_r10, ints_get (show w < ((lftL N fs (l.take ((m + 1)))).set u (fs.getD u 0 - cntI (l.take ((m + 1))) u - 1)).length by rw [List.length_set, lft_len]; omega), List.length_set, lft_len, hbn, ints_len, hst.1, hwb, hst.2]
            refine hKY _ ?_
            repeat (first | refine hn8 _ ?_ | refine he8 _ _ ?_ | refine hn7 _ ?_ | refine he7 _ ?_ | refine hf7 _ _ (by decide) ?_ | refine hn6 _ ?_ | refine he6 _ _ ?_ | refine hn5 _ ?_ | refine he5 _ _ ?_ | refine he4 _ _ ?_ | refine hn3 _ ?_ | refine he3 _ ?_ | refine hf3 _ _ (by decide) ?_ | refine hn2 _ ?_ | refine he2 _ _ ?_ | refine hn1 _ ?_ | refine he1 _ _ ?_)
            refine wlk_reg fun KY hKY => ?_
            simp only [go_sem, reduceIte, Nat.reduceEqDiff, reduceCtorEq, c_tutte_IsFactor_r11, incS (show (m + 1) < 4611686018427387904 by omega)]
            refine hKY _ ?_
            repeat (first | refine hn8 _ ?_ | refine he8 _ _ ?_ | refine hn7 _ ?_ | refine he7 _ ?_ | refine hf7 _ _ (by decide) ?_ | refine hn6 _ ?_ | refine he6 _ _ ?_ | refine hn5 _ ?_ | refine he5 _ _ ?_)
            refine hn4 _ ((m + 1) + 1) (l.length - ((m + 1) + 1)) (by omega) (by first | (simp only [go_sem, reduceIte, Nat.reduceEqDiff, reduceCtorEq, updAll_cons, updAll_nil, htk]; done) | with_reducible rfl) ?_
            refine ⟨hk2, rfl, fun j hj => ?_, fun j hj => ?_⟩
            · rcases Nat.lt_or_ge j ((m + 1)) with h3 | h3
              · exact hz j h3
              · have : j = (m + 1) := by omega
                subst this
                exact hokk
            · rcases Nat.lt_or_ge j ((m + 1)) with h3 | h3
              · exact hz2 j h3
              · have : j = (m + 1) := by omega
                subst this
                rw [hxd]; exact hin
      · have hfalse : facB N (castE es) fs l = false := by
          unfold facB
          rw [show (l.all fun x => decide (x ∈ castE es)) = false from ?_, Bool.and_false]; rfl
          rw [Bool.eq_false_iff]; intro h
          rw [List.all_eq_true] at h
          exact hin (by simpa using h _ hxm)
        have hhas : (rightB N (castE es) && decide (turnI a b ∈ castE es)) = false := by rw [htn, decide_eq_false hin, Bool.and_false]
        refine wlk_sdraw fun KY hKY => ?_
        simp only [go_sem, reduceIte, Nat.reduceEqDiff, Nat.reduceBEq, reduceCtorEq, Nat.reduceLT, Nat.reduceAdd, c_tutte_IsFactor_r7, hab]
        repeat (simp (disch := omega) only [if_pos, if_neg, decide_eq_true, decide_eq_false, incS, nats_get, ints_get, hab]; try simp only [go_sem, reduceIte, Nat.reduceEqDiff, Nat.reduceBEq, reduceCtorEq, Nat.reduceLT, Nat.reduceLeDiff, Nat.reduceAdd, Nat.reduceSub, Nat.reduceMul, Nat.reduceDiv, Int.reduceAdd, Int.reduceNeg, Int.reduceEq, Int.reduceLT, Int.reduceLE, hab])
        refine call_view rfl (by simp only [go_sem, reduceIte, Nat.reduceEqDiff, reduceCtorEq] <;> rfl) ((ghas_ok N (castE es) a b).mono ?_)
        rintro rr hh ⟨rfl, rfl⟩
        refine ⟨rfl, rfl, rfl, ?_⟩
        simp only [go_sem, reduceIte, Nat.reduceEqDiff, Nat.reduceBEq, reduceCtorEq, hhas]
        refine hKY _ ?_
        refine wlk_cond1 rfl ?_
        refine wlk_sreg fun KY hKY => ?_
        simp only [go_sem, reduceIte, Nat.reduceEqDiff, reduceCtorEq, c_tutte_IsFactor_r8]
        refine hKY _ ?_
        refine wlk_ret ?_
        repeat (first | refine hr8 _ ?_ | refine hr7 _ ?_ | refine hr6 _ ?_ | refine hr5 _ ?_ | refine hr4 _ ?_ | refine hr3 _ ?_ | refine hr2 _ ?_ | refine hr1 _ ?_)
        simp only [go_sem, reduceIte, Nat.reduceEqDiff, reduceCtorEq]
        rw [hfalse]
  · refine wlk_cond0 (by first | rfl | (simp only [go_sem, reduceIte, Nat.reduceEqDiff, reduceCtorEq]; try simp (disch := omega) only [decide_eq_false])) ?_
    refine wlk_exit ?_
    repeat (first | refine hn5 _ ?_ | refine he5 _ _ ?_ | refine he4 _ _ ?_ | refine hn3 _ ?_ | refine he3 _ ?_ | refine hf3 _ _ (by decide) ?_ | refine hn2 _ ?_ | refine he2 _ _ ?_ | refine hn1 _ ?_ | refine he1 _ _ ?_)
    have hkl : k = l.length := by omega
    subst hkl
    rw [List.take_length]
    refine wlk_sreg fun KY hKY => ?_
    simp only [go_sem, reduceIte, Nat.reduceEqDiff, reduceCtorEq, c_tutte_IsFactor_r12]
    refine call_view rfl (by simp only [go_sem, reduceIte, Nat.reduceEqDiff, reduceCtorEq] <;> rfl) ((anyI_ok n_tutte_IsFactor_1 (fun x => decide (x ≠ 0)) (lftL N fs l) (by rw [lftL, accL_len]; omega) (fun x _ => isfac1_ok x)).mono ?_)
    rintro rr hh ⟨rfl, rfl⟩
    refine ⟨?_, ?_, ?_, ?_⟩
    iterate 3 (first | rfl | simp only [go_sem, reduceIte, Nat.reduceEqDiff, Nat.reduceBEq, reduceCtorEq, Nat.reduceLT, Nat.reduceLeDiff, Nat.reduceAdd, Nat.reduceSub, Nat.reduceMul, Nat.reduceDiv, Int.reduceAdd, Int.reduceNeg, Int.reduceEq, Int.reduceLT, Int.reduceLE])
    have hle := ok_len g hz hz2
    have hrl : rightB N l = true := rightB_true (by omega) (by omega) (by have := g.hm; omega) hz
    have hal : (l.all fun x => decide (x ∈ castE es)) = true := by
      rw [List.all_eq_true]
      intro x hx
      obtain ⟨j, hj, rfl⟩ := List.mem_iff_getElem.1 hx
      have := hz2 j hj
      rw [List.getD_eq_getElem?_getD, List.getElem?_eq_getElem hj] at this
      exact decide_eq_true this
    have hres : (!(lftL N fs l).any fun x => decide (x ≠ 0)) = facB N (castE es) fs l := by
      unfold facB
      rw [hrl, hal, Bool.true_and, Bool.true_and, Bool.eq_iff_iff, decide_eq_true_iff, Bool.not_eq_true', Bool.eq_false_iff, Ne, List.any_eq_true]
      refine ⟨fun h => ?_, fun h => ?_⟩
      · apply List.ext_getElem
        · rw [accL_len, hfl']
        · intro i h1 h2
          have hi : i < N := by rw [accL_len] at h1; exact h1
          by_cases hc : fs.getD i 0 - cntI l i = 0
          · rw [List.getD_eq_getElem?_getD, List.getElem?_eq_getElem h2] at hc
            simp only [accL, List.getElem_map, List.getElem_range]
            simp only [Option.getD_some] at hc; omega
          · exact absurd ⟨fs.getD i 0 - cntI l i, List.mem_map.2 ⟨i, List.mem_range.2 hi, rfl⟩, decide_eq_true hc⟩ h
      · rintro ⟨x, hx, hx0⟩
        obtain ⟨i, hi, rfl⟩ := List.mem_map.1 hx
        rw [decide_eq_true_iff] at hx0
        apply hx0
        rw [← h, accL_get _ (List.mem_range.1 hi)]; omega
    simp only [go_sem, reduceIte, Nat.reduceEqDiff, Nat.reduceBEq, reduceCtorEq, hres]
    refine hKY _ ?_
    refine wlk_ret ?_
    repeat (first | refine hr5 _ ?_ | refine hr4 _ ?_ | refine hr3 _ ?_ | refine hr2 _ ?_ | refine hr1 _ ?_)
    simp only [go_sem, reduceIte, Nat.reduceEqDiff, reduceCtorEq]
end Go.Proofs.Ytepjcfbigcfkfaa
set_option maxRecDepth 100000
set_option maxHeartbeats 2000000
namespace Go.Proofs.Ytepjcfbigcfkfaa
open Go Go.Ga Go.Ga.Gl
theorem cnt_step {N : Nat} (l : List (Int × Int)) {a b : Nat} (hab : a ≠ b) (hb : b < N) :
    ((accL N fun v => cntI l v).set a (cntI l a + 1)).getD b 0 = cntI l b ∧ ((accL N fun v => cntI l v).set a (cntI l a + 1)).set b (cntI l b + 1) = accL N fun v => cntI (l ++ [((a : Int), (b : Int))]) v := by
  rw [accL_set, accL_get _ hb, accL_set]
  refine ⟨by rw [if_neg (fun e => hab e.symm)], accL_congr fun v _ => ?_⟩
  rw [cntI_snoc]
  by_cases h1 : v = b
  · subst h1
    rw [if_pos rfl, if_neg (show ¬ (a : Int) = (v : Int) by omega), if_pos rfl]; omega
  · rw [if_neg h1, if_neg (show ¬ (b : Int) = (v : Int) by omega)]
    by_cases h2 : v = a
    · subst h2
      rw [if_pos rfl, if_pos rfl]; omega
    · rw [if_neg h2, if_neg (show ¬ (a : Int) = (v : Int) by omega)]; omega
end Go.Proofs.Ytepjcfbigcfkfaa
set_option maxRecDepth 100000
set_option maxHeartbeats 2000000
namespace Go.Proofs.Ytepjcfbigcfkfaa
open Go Go.Ga Go.Ga.Gl
def degB (x : Int) : Bool := decide (0 ≤ x) && decide (x ≤ 4096)
def degK (n : Int) (fs : List Int) (k : Nat) : Bool := decide ((fs.length : Int) = n) && (fs.take k).all degB
theorem degK_step (n : Int) {fs : List Int} {k : Nat} (h : k < fs.length) : degK n fs (k + 1) = (degK n fs k && degB (fs.getD k 0)) := by
  unfold degK
  rw [List.take_add_one, List.getElem?_eq_getElem h, List.all_append, List.getD_eq_getElem?_getD, List.getElem?_eq_getElem h]
  simp [Bool.and_assoc]
theorem rtright_ok (n : Int) (es : List (Int × Int)) (fs : List Int) (hl : fs.length ≤ 1000000000) : ACalls Try.prog [] n_garlandref23_Right [.agg [.sc (.int .i64 n), .imm 2 (twos es)], .imm 1 (ints fs)] [] fun r h' => r = .sc (.int .i64 (tErr n es fs)) ∧ h' = [] := by
  refine ACalls.trim ?_
  refine go_garlandref23_Right rfl ?_
  unfold c_garlandref23_Right v_garlandref23_Right
  refine wlk_sreg fun KY hKY => ?_
  simp only [go_sem, reduceIte, Nat.reduceEqDiff, reduceCtorEq, c_garlandref23_Right_r0]
  refine hKY _ ?_
  refine wlk_seq fun X1 hn1 he1 hr1 => ?_
  cases hr : rightB n es with
  | false =>
    refine wlk_sreg fun KY hKY => ?_
    simp only [go_sem, reduceIte, Nat.reduceEqDiff, reduceCtorEq, Nat.reduceLT, Nat.reduceAdd, c_garlandref23_Right_r1]
    refine call_view rfl (by simp only [go_sem, reduceIte, Nat.reduceEqDiff, reduceCtorEq] <;> rfl) ((rright_ok n es).mono ?_)
    rintro rr hh ⟨rfl, rfl⟩
    refine ⟨rfl, rfl, rfl, ?_⟩
    simp only [go_sem, reduceIte, Nat.reduceEqDiff, reduceCtorEq, hr]
    refine hKY _ ?_
    refine wlk_cond1 rfl ?_
    refine wlk_sreg fun KY hKY => ?_
    simp only [go_sem, reduceIte, Nat.reduceEqDiff, reduceCtorEq, c_garlandref23_Right_r2]
    refine hKY _ ?_
    refine wlk_ret ?_
    repeat (first | refine hr1 _ ?_)
    simp only [go_sem, reduceIte, Nat.reduceEqDiff, reduceCtorEq]
    simp [tErr, hr]
  | true =>
    refine wlk_sreg fun KY hKY => ?_
    simp only [go_sem, reduceIte, Nat.reduceEqDiff, reduceCtorEq, Nat.reduceLT, Nat.reduceAdd, c_garlandref23_Right_r1]
    refine call_view rfl (by simp only [go_sem, reduceIte, Nat.reduceEqDiff, reduceCtorEq] <;> rfl) ((rright_ok n es).mono ?_)
    rintro rr hh ⟨rfl, rfl⟩
    refine ⟨rfl, rfl, rfl, ?_⟩
    simp only [go_sem, reduceIte, Nat.reduceEqDiff, reduceCtorEq, hr]
    refine hKY _ ?_
    refine wlk_cond0 rfl ?_
    refine wlk_skip ?_
    repeat (first | refine hn1 _ ?_ | refine he1 _ _ ?_)
    have hz : decide ((fs.length : Int) = n) = degK n fs 0 := by simp [degK]
    refine wlk_sreg fun KY hKY => ?_
    simp only [go_sem, reduceIte, Nat.reduceEqDiff, Nat.reduceBEq, reduceCtorEq, c_garlandref23_Right_r3, ints_len, hz]
    refine hKY _ ?_
    refine wlk_seq fun X2 hn2 he2 hr2 => ?_
    refine wlk_sreg fun KY hKY => ?_
    simp only [go_sem, reduceIte, Nat.reduceEqDiff, reduceCtorEq, c_garlandref23_Right_r4]
    refine hKY _ ?_
    refine wlk_blk fun X3 hn3 he3 hf3 hr3 => ?_
    try simp only [go_sem, reduceIte, Nat.reduceEqDiff, reduceCtorEq]
    refine wlk_lp (α := Nat) [18] (fun k => [(5, .sc (.bool (degK n fs k))), (6, .sc (.int .i64 (k : Int)))]) (fun k => []) (fun k q => k ≤ fs.length ∧ q = fs.length - k) (0) (fs.length) rfl (by first | (simp only [go_sem, reduceIte, Nat.reduceEqDiff, reduceCtorEq, updAll_cons, updAll_nil]; done) | with_reducible rfl | rfl) (⟨by omega, rfl⟩) ?_
    rintro k q ⟨hk, rfl⟩ X4 hn4 he4 hr4
    simp only [go_sem, reduceIte, Nat.reduceEqDiff, reduceCtorEq, updAll_cons, updAll_nil]
    refine wlk_seq fun X5 hn5 he5 hr5 => ?_
    by_cases hk2 : k < fs.length
    · refine wlk_sreg fun KY hKY => ?_
      simp only [go_sem, reduceIte, Nat.reduceEqDiff, reduceCtorEq, c_garlandref23_Right_r5, ints_len]
      refine hKY _ ?_
      refine wlk_cond1 (by first | rfl | (simp only [go_sem, reduceIte, Nat.reduceEqDiff, reduceCtorEq]; try simp (disch := omega) only [decide_eq_true])) ?_
      refine wlk_skip ?_
      repeat (first | refine hn5 _ ?_ | refine he5 _ _ ?_ | refine he4 _ _ ?_ | refine hn3 _ ?_ | refine he3 _ ?_ | refine hf3 _ _ (by decide) ?_ | refine hn2 _ ?_ | refine he2 _ _ ?_ | refine hn1 _ ?_ | refine he1 _ _ ?_)
      refine wlk_seq fun X6 hn6 he6 hr6 => ?_
      refine wlk_blk fun X7 hn7 he7 hf7 hr7 => ?_
      have hst := degK_step n hk2
      cases hc : degK n fs k with
      | false =>
        rw [hc, Bool.false_and] at hst
        refine wlk_reg fun KY hKY => ?_
        simp only [go_sem, reduceIte, Nat.reduceEqDiff, reduceCtorEq, c_garlandref23_Right_r6]
        refine hKY _ ?_
        repeat (first | refine hn7 _ ?_ | refine he7 _ ?_ | refine hf7 _ _ (by decide) ?_ | refine hn6 _ ?_ | refine he6 _ _ ?_ | refine hn5 _ ?_ | refine he5 _ _ ?_ | refine he4 _ _ ?_ | refine hn3 _ ?_ | refine he3 _ ?_ | refine hf3 _ _ (by decide) ?_ | refine hn2 _ ?_ | refine he2 _ _ ?_ | refine hn1 _ ?_ | refine he1 _ _ ?_)
        refine wlk_reg fun KY hKY => ?_
        simp only [go_sem, reduceIte, Nat.reduceEqDiff, reduceCtorEq, c_garlandref23_Right_r7, incS (show k < 4611686018427387904 by omega)]
        refine hKY _ ?_
        repeat (first | refine hn7 _ ?_ | refine he7 _ ?_ | refine hf7 _ _ (by decide) ?_ | refine hn6 _ ?_ | refine he6 _ _ ?_ | refine hn5 _ ?_ | refine he5 _ _ ?_)
        refine hn4 _ (k + 1) (fs.length - (k + 1)) (by omega) (by first | (simp only [go_sem, reduceIte, Nat.reduceEqDiff, reduceCtorEq, updAll_cons, updAll_nil, hst]; done) | with_reducible rfl) ?_
        exact ⟨hk2, rfl⟩
      | true =>
        rw [hc, Bool.true_and] at hst
        unfold degB at hst
        by_cases h1 : 0 ≤ fs.getD k 0
        · have d1 : decide (0 ≤ fs.getD k 0) = true := decide_eq_true h1
          rw [d1, Bool.true_and] at hst
          refine wlk_reg fun KY hKY => ?_
          simp only [go_sem, reduceIte, Nat.reduceEqDiff, reduceCtorEq, c_garlandref23_Right_r6, ints_get hk2, hk2, ints_len, d1]
          refine hKY _ ?_
          repeat (first | refine hn7 _ ?_ | refine he7 _ ?_ | refine hf7 _ _ (by decide) ?_ | refine hn6 _ ?_ | refine he6 _ _ ?_ | refine hn5 _ ?_ | refine he5 _ _ ?_ | refine he4 _ _ ?_ | refine hn3 _ ?_ | refine he3 _ ?_ | refine hf3 _ _ (by decide) ?_ | refine hn2 _ ?_ | refine he2 _ _ ?_ | refine hn1 _ ?_ | refine he1 _ _ ?_)
          refine wlk_reg fun KY hKY => ?_
          simp only [go_sem, reduceIte, Nat.reduceEqDiff, reduceCtorEq, c_garlandref23_Right_r7, incS (show k < 4611686018427387904 by omega)]
          refine hKY _ ?_
          repeat (first | refine hn7 _ ?_ | refine he7 _ ?_ | refine hf7 _ _ (by decide) ?_ | refine hn6 _ ?_ | refine he6 _ _ ?_ | refine hn5 _ ?_ | refine he5 _ _ ?_)
          refine hn4 _ (k + 1) (fs.length - (k + 1)) (by omega) (by first | (simp only [go_sem, reduceIte, Nat.reduceEqDiff, reduceCtorEq, updAll_cons, updAll_nil, hst]; done) | with_reducible rfl) ?_
          exact ⟨hk2, rfl⟩
        · have d1 : decide (0 ≤ fs.getD k 0) = false := decide_eq_false h1
          rw [d1, Bool.false_and] at hst
          refine wlk_reg fun KY hKY => ?_
          simp only [go_sem, reduceIte, Nat.reduceEqDiff, reduceCtorEq, c_garlandref23_Right_r6, ints_get hk2, hk2, ints_len, d1]
          refine hKY _ ?_
          repeat (first | refine hn7 _ ?_ | refine he7 _ ?_ | refine hf7 _ _ (by decide) ?_ | refine hn6 _ ?_ | refine he6 _ _ ?_ | refine hn5 _ ?_ | refine he5 _ _ ?_ | refine he4 _ _ ?_ | refine hn3 _ ?_ | refine he3 _ ?_ | refine hf3 _ _ (by decide) ?_ | refine hn2 _ ?_ | refine he2 _ _ ?_ | refine hn1 _ ?_ | refine he1 _ _ ?_)
          refine wlk_reg fun KY hKY => ?_
          simp only [go_sem, reduceIte, Nat.reduceEqDiff, reduceCtorEq, c_garlandref23_Right_r7, incS (show k < 4611686018427387904 by omega)]
          refine hKY _ ?_
          repeat (first | refine hn7 _ ?_ | refine he7 _ ?_ | refine hf7 _ _ (by decide) ?_ | refine hn6 _ ?_ | refine he6 _ _ ?_ | refine hn5 _ ?_ | refine he5 _ _ ?_)
          refine hn4 _ (k + 1) (fs.length - (k + 1)) (by omega) (by first | (simp only [go_sem, reduceIte, Nat.reduceEqDiff, reduceCtorEq, updAll_cons, updAll_nil, hst]; done) | with_reducible rfl) ?_
          exact ⟨hk2, rfl⟩
    · refine wlk_sreg fun KY hKY => ?_
      simp only [go_sem, reduceIte, Nat.reduceEqDiff, reduceCtorEq, c_garlandref23_Right_r5, ints_len]
      refine hKY _ ?_
      refine wlk_cond0 (by first | rfl | (simp only [go_sem, reduceIte, Nat.reduceEqDiff, reduceCtorEq]; try simp (disch := omega) only [decide_eq_false])) ?_
      refine wlk_exit ?_
      repeat (first | refine hn5 _ ?_ | refine he5 _ _ ?_ | refine he4 _ _ ?_ | refine hn3 _ ?_ | refine he3 _ ?_ | refine hf3 _ _ (by decide) ?_ | refine hn2 _ ?_ | refine he2 _ _ ?_ | refine hn1 _ ?_ | refine he1 _ _ ?_)
      have hkl : k = fs.length := by omega
      have hd : degK n fs k = degsB n fs := by subst hkl; unfold degK degsB; rw [List.take_length]; rfl
      refine wlk_seq fun X8 hn8 he8 hr8 => ?_
      cases hdb : degsB n fs with
      | false =>
        rw [hdb] at hd
        refine wlk_sreg fun KY hKY => ?_
        simp only [go_sem, reduceIte, Nat.reduceEqDiff, reduceCtorEq, c_garlandref23_Right_r8, hd]
        refine hKY _ ?_
        refine wlk_cond1 rfl ?_
        refine wlk_sreg fun KY hKY => ?_
        simp only [go_sem, reduceIte, Nat.reduceEqDiff, reduceCtorEq, c_garlandref23_Right_r9]
        refine hKY _ ?_
        refine wlk_ret ?_
        repeat (first | refine hr8 _ ?_ | refine hr5 _ ?_ | refine hr4 _ ?_ | refine hr3 _ ?_ | refine hr2 _ ?_ | refine hr1 _ ?_)
        simp only [go_sem, reduceIte, Nat.reduceEqDiff, reduceCtorEq]
        simp [tErr, hr, hdb]
      | true =>
        rw [hdb] at hd
        refine wlk_sreg fun KY hKY => ?_
        simp only [go_sem, reduceIte, Nat.reduceEqDiff, reduceCtorEq, c_garlandref23_Right_r8, hd]
        refine hKY _ ?_
        refine wlk_cond0 rfl ?_
        refine wlk_skip ?_
        repeat (first | refine hn8 _ ?_ | refine he8 _ _ ?_ | refine hn5 _ ?_ | refine he5 _ _ ?_ | refine he4 _ _ ?_ | refine hn3 _ ?_ | refine he3 _ ?_ | refine hf3 _ _ (by decide) ?_ | refine hn2 _ ?_ | refine he2 _ _ ?_ | refine hn1 _ ?_ | refine he1 _ _ ?_)
        refine wlk_sreg fun KY hKY => ?_
        simp only [go_sem, reduceIte, Nat.reduceEqDiff, reduceCtorEq, c_garlandref23_Right_r10]
        refine hKY _ ?_
        refine wlk_ret ?_
        repeat (first | refine hr8 _ ?_ | refine hr5 _ ?_ | refine hr4 _ ?_ | refine hr3 _ ?_ | refine hr2 _ ?_ | refine hr1 _ ?_)
        simp only [go_sem, reduceIte, Nat.reduceEqDiff, reduceCtorEq]
        simp [tErr, hr, hdb]
end Go.Proofs.Ytepjcfbigcfkfaa
set_option maxRecDepth 100000
set_option maxHeartbeats 2000000
namespace Go.Proofs.Ytepjcfbigcfkfaa
open Go Go.Ga Go.Ga.Gl
theorem risfacE_ok (n : Int) (es l : List (Int × Int)) (fs : List Int) (hfl : fs.length ≤ 1000000000) (h : tErr n es fs ≠ 0) : ACalls Try.prog [] n_garlandref23_IsFactor [.agg [.sc (.int .i64 n), .imm 2 (twos es)], .imm 1 (ints fs), .imm 2 (twos l)] [] fun r h' => r = .sc (.bool false) ∧ h' = [] := by
  refine ACalls.trim ?_
  have hd : decide (tErr n es fs ≠ 0) = true := decide_eq_true h
  refine go_garlandref23_IsFactor rfl ?_
  unfold c_garlandref23_IsFactor v_garlandref23_IsFactor
  refine wlk_sreg fun KY hKY => ?_
  simp only [go_sem, reduceIte, Nat.reduceEqDiff, reduceCtorEq, c_garlandref23_IsFactor_r0]
  refine hKY _ ?_
  refine wlk_seq fun X1 hn1 he1 hr1 => ?_
  refine wlk_sreg fun KY hKY => ?_
  simp only [go_sem, reduceIte, Nat.reduceEqDiff, reduceCtorEq, Nat.reduceLT, Nat.reduceAdd, c_garlandref23_IsFactor_r1]
  refine call_view rfl (by simp only [go_sem, reduceIte, Nat.reduceEqDiff, reduceCtorEq] <;> rfl) ((rtright_ok n es fs hfl).mono ?_)
  rintro rr hh ⟨rfl, rfl⟩
  refine ⟨rfl, rfl, rfl, ?_⟩
  simp only [go_sem, reduceIte, Nat.reduceEqDiff, reduceCtorEq, hd]
  refine hKY _ ?_
  refine wlk_cond1 rfl ?_
  refine wlk_sreg fun KY hKY => ?_
  simp only [go_sem, reduceIte, Nat.reduceEqDiff, reduceCtorEq, c_garlandref23_IsFactor_r2]
  refine hKY _ ?_
  refine wlk_ret ?_
  repeat (first | refine hr1 _ ?_)
  simp only [go_sem, reduceIte, Nat.reduceEqDiff, reduceCtorEq]
theorem risfac_ok {N : Nat} {es : Es} (g : GR N es) (l : List (Int × Int)) (fs : List Int) (h : tErr N (castE es) fs = 0) : ACalls Try.prog [] n_garlandref23_IsFactor [.agg [.sc (.int .i64 (N : Int)), .imm 2 (twos (castE es))], .imm 1 (ints fs), .imm 2 (twos l)] [] fun r h' => r = .sc (.bool (facB N (castE es) fs l)) ∧ h' = [] := by
  refine ACalls.trim ?_
  have hN := g.hn
  obtain ⟨hr, hdB⟩ := tErr_zero h
  obtain ⟨hfl, hfs⟩ := degs_of hdB
  have hfl' : fs.length = N := by omega
  have htr := rtright_ok N (castE es) fs (by omega)
  rw [h] at htr
  refine go_garlandref23_IsFactor rfl ?_
  unfold c_garlandref23_IsFactor v_garlandref23_IsFactor
  refine wlk_sreg fun KY hKY => ?_
  simp only [go_sem, reduceIte, Nat.reduceEqDiff, reduceCtorEq, c_garlandref23_IsFactor_r0]
  refine hKY _ ?_
  refine wlk_seq fun X1 hn1 he1 hr1 => ?_
  cases hrl : rightB N l with
  | false =>
    refine wlk_sreg fun KY hKY => ?_
    simp only [go_sem, reduceIte, Nat.reduceEqDiff, reduceCtorEq, Nat.reduceLT, Nat.reduceAdd, c_garlandref23_IsFactor_r1]
    refine call_view rfl (by simp only [go_sem, reduceIte, Nat.reduceEqDiff, reduceCtorEq] <;> rfl) ((htr).mono ?_)
    rintro rr hh ⟨rfl, rfl⟩
    refine ⟨rfl, rfl, rfl, ?_⟩
    simp only [go_sem, reduceIte, Nat.reduceEqDiff, reduceCtorEq, Nat.reduceLT, Nat.reduceAdd]
    refine call_view rfl (by simp only [go_sem, reduceIte, Nat.reduceEqDiff, reduceCtorEq] <;> rfl) ((rright_ok N l).mono ?_)
    rintro rr hh ⟨rfl, rfl⟩
    refine ⟨rfl, rfl, rfl, ?_⟩
    simp only [go_sem, reduceIte, Nat.reduceEqDiff, reduceCtorEq, hrl]
    refine hKY _ ?_
    refine wlk_cond1 rfl ?_
    refine wlk_sreg fun KY hKY => ?_
    simp only [go_sem, reduceIte, Nat.reduceEqDiff, reduceCtorEq, c_garlandref23_IsFactor_r2]
    refine hKY _ ?_
    refine wlk_ret ?_
    repeat (first | refine hr1 _ ?_)
    simp only [go_sem, reduceIte, Nat.reduceEqDiff, reduceCtorEq]
    simp [facB, hrl]
  | true =>
    refine wlk_sreg fun KY hKY => ?_
    simp only [go_sem, reduceIte, Nat.reduceEqDiff, reduceCtorEq, Nat.reduceLT, Nat.reduceAdd, c_garlandref23_IsFactor_r1]
    refine call_view rfl (by simp only [go_sem, reduceIte, Nat.reduceEqDiff, reduceCtorEq] <;> rfl) ((htr).mono ?_)
    rintro rr hh ⟨rfl, rfl⟩
    refine ⟨rfl, rfl, rfl, ?_⟩
    simp only [go_sem, reduceIte, Nat.reduceEqDiff, reduceCtorEq, Nat.reduceLT, Nat.reduceAdd]
    refine call_view rfl (by simp only [go_sem, reduceIte, Nat.reduceEqDiff, reduceCtorEq] <;> rfl) ((rright_ok N l).mono ?_)
    rintro rr hh ⟨rfl, rfl⟩
    refine ⟨rfl, rfl, rfl, ?_⟩
    simp only [go_sem, reduceIte, Nat.reduceEqDiff, reduceCtorEq, hrl]
    refine hKY _ ?_
    refine wlk_cond0 rfl ?_
    refine wlk_skip ?_
    repeat (first | refine hn1 _ ?_ | refine he1 _ _ ?_)
    obtain ⟨N', C, e1, rfl, gC⟩ := right_nat hrl
    obtain rfl : N = N' := by omega
    have hcm := gC.hm
    have h0 : List.replicate N (0 : Int) = accL N fun v => cntI (castE (C.take 0)) v := by
      apply List.ext_getElem
      · simp [accL]
      · intro i h1 h2; simp [accL, cntI, castE]
    refine wlk_sreg fun KY hKY => ?_
    simp only [go_sem, reduceIte, Nat.reduceEqDiff, Nat.reduceBEq, reduceCtorEq, c_garlandref23_IsFactor_r3, (show 8 * N ≤ 140737488355328 by omega), ints_zero, (show (N : Int) ≤ (N : Int) from Int.le_refl _), (show (N : Int) ≤ 9223372036854775807 by omega)]
    refine hKY _ ?_
    rw [h0]
    refine wlk_seq fun X2 hn2 he2 hr2 => ?_
    refine wlk_sreg fun KY hKY => ?_
    simp only [go_sem, reduceIte, Nat.reduceEqDiff, reduceCtorEq, c_garlandref23_IsFactor_r4]
    refine hKY _ ?_
    refine wlk_blk fun X3 hn3 he3 hf3 hr3 => ?_
    try simp only [go_sem, reduceIte, Nat.reduceEqDiff, reduceCtorEq]
    refine wlk_lp (α := Nat) [28, 43] (fun k => [(7, .own (some 1) (ints (accL N fun v => cntI (castE (C.take k)) v))), (8, .sc (.int .i64 (k : Int)))]) (fun k => []) (fun k q => k ≤ C.length ∧ q = C.length - k ∧ (∀ j e, j < k → C[j]? = some e → e ∈ es)) (0) (C.length) rfl (by first | (simp only [go_sem, reduceIte, Nat.reduceEqDiff, reduceCtorEq, updAll_cons, updAll_nil]; done) | with_reducible rfl | rfl) (⟨by omega, rfl, fun j e h => by omega⟩) ?_
    rintro k q ⟨hk, rfl, hz⟩ X4 hn4 he4 hr4
    simp only [go_sem, reduceIte, Nat.reduceEqDiff, reduceCtorEq, updAll_cons, updAll_nil]
    refine wlk_seq fun X5 hn5 he5 hr5 => ?_
    by_cases hk2 : k < C.length
    · refine wlk_sreg fun KY hKY => ?_
      simp only [go_sem, reduceIte, Nat.reduceEqDiff, reduceCtorEq, c_garlandref23_IsFactor_r5, twos_len, mul2, castE_len]
      refine hKY _ ?_
      refine wlk_cond1 (by first | rfl | (simp only [go_sem, reduceIte, Nat.reduceEqDiff, reduceCtorEq]; try simp (disch := omega) only [decide_eq_true])) ?_
      refine wlk_skip ?_
      repeat (first | refine hn5 _ ?_ | refine he5 _ _ ?_ | refine he4 _ _ ?_ | refine hn3 _ ?_ | refine he3 _ ?_ | refine hf3 _ _ (by decide) ?_ | refine hn2 _ ?_ | refine he2 _ _ ?_ | refine hn1 _ ?_ | refine he1 _ _ ?_)
      refine wlk_seq fun X6 hn6 he6 hr6 => ?_
      refine wlk_blk fun X7 hn7 he7 hf7 hr7 => ?_
      have hx : C[k]? = some C[k] := List.getElem?_eq_getElem hk2
      have hxm : C[k] ∈ C := List.getElem_mem hk2
      generalize C[k] = x at hx hxm
      obtain ⟨a, b⟩ := x
      have hxc := castE_get hx
      have hok := gC.ok (a, b) hxm
      simp only at hok
      have htn : turnI (a : Int) (b : Int) = ((a : Int), (b : Int)) := by unfold turnI; rw [if_neg (by omega)]
      refine wlk_seq fun X8 hn8 he8 hr8 => ?_
      by_cases hin : (a, b) ∈ es
      · have hhas : (rightB N (castE es) && decide (turnI (a : Int) (b : Int) ∈ castE es)) = true := by rw [hr, htn, decide_eq_true (castE_mem.2 hin)]; rfl
        refine wlk_sdraw fun KY hKY => ?_
        simp only [go_sem, reduceIte, Nat.reduceEqDiff, Nat.reduceBEq, reduceCtorEq, Nat.reduceLT, Nat.reduceAdd, c_garlandref23_IsFactor_r6, twos_len, castE_len]
        repeat (simp (disch := omega) only [if_pos, if_neg, decide_eq_true]; try simp only [go_sem, reduceIte, Nat.reduceEqDiff, two_get0 hxc, two_get1 hxc, twos_len, castE_len])
        refine call_view rfl (by simp only [go_sem, reduceIte, Nat.reduceEqDiff, reduceCtorEq] <;> rfl) ((rhas_ok N (castE es) a b).mono ?_)
        rintro rr hh ⟨rfl, rfl⟩
        refine ⟨rfl, rfl, rfl, ?_⟩
        simp only [go_sem, reduceIte, Nat.reduceEqDiff, reduceCtorEq, hhas]
        refine hKY _ ?_
        refine wlk_cond0 rfl ?_
        refine wlk_skip ?_
        repeat (first | refine hn8 _ ?_ | refine he8 _ _ ?_ | refine hn7 _ ?_ | refine he7 _ ?_ | refine hf7 _ _ (by decide) ?_ | refine hn6 _ ?_ | refine he6 _ _ ?_ | refine hn5 _ ?_ | refine he5 _ _ ?_ | refine he4 _ _ ?_ | refine hn3 _ ?_ | refine he3 _ ?_ | refine hf3 _ _ (by decide) ?_ | refine hn2 _ ?_ | refine he2 _ _ ?_ | refine hn1 _ ?_ | refine he1 _ _ ?_)
        have htk : C.take (k + 1) = C.take k ++ [(a, b)] := by rw [List.take_add_one, hx]; rfl
        have hst := cnt_step (N := N) (castE (C.take k)) (a := a) (b := b) (by omega) hok.2
        have hcc : castE (C.take k) ++ [((a : Int), (b : Int))] = castE (C.take (k + 1)) := by rw [htk, castE_append]; rfl
        rw [hcc] at hst
        have hb1 := cntI_bound (castE (C.take k)) a
        have hb2 := cntI_bound (castE (C.take k)) b
        rw [castE_len, List.length_take] at hb1 hb2
        have hga : (accL N fun v => cntI (castE (C.take k)) v).getD a 0 = cntI (castE (C.take k)) a := accL_get _ (by omega)
        have hwa : IntKind.i64.wrap (cntI (castE (C.take k)) a + 1) = cntI (castE (C.take k)) a + 1 := by rw [IntWalk.i64_in _ (by omega)]
        have hwb : IntKind.i64.wrap (cntI (castE (C.take k)) b + 1) = cntI (castE (C.take k)) b + 1 := by rw [IntWalk.i64_in _ (by omega)]
        refine wlk_sreg fun KY hKY => ?_
        simp only [go_sem, reduceIte, Nat.reduceEqDiff, reduceCtorEq, c_garlandref23_IsFactor_r8, (show k * 2 + 1 < C.length * 2 by omega), two_get0 hxc, twos_len, castE_len, ints_get (show a < (accL N fun v => cntI (castE (C.take k)) v).length by rw [accL_len]; omega), accL_len, (show a < N by omega), ints_len, hga, hwa]
        repeat (simp (disch := omega) only [if_pos, if_neg, decide_eq_true, decide_eq_false, incS, nats_get, ints_get, (show k * 2 + 1 < C.length * 2 by omega), two_get0 hxc, two_get1 hxc, List.length_drop, twos_len, castE_len, ints_get (show a < (accL N fun v => cntI (castE (C.take k)) v).length by rw [accL_len]; omega), accL_len, (show a < N by omega), ints_len, hga, hwa]; try simp only [go_sem, reduceIte, Nat.reduceEqDiff, Nat.reduceBEq, reduceCtorEq, Nat.reduceLT, Nat.reduceLeDiff, Nat.reduceAdd, Nat.reduceSub, Nat.reduceMul, Nat.reduceDiv, Int.reduceAdd, Int.reduceNeg, Int.reduceEq, Int.reduceLT, Int.reduceLE, (show k * 2 + 1 < C.length * 2 by omega), two_get0 hxc, two_get1 hxc, List.length_drop, twos_len, castE_len, ints_get (show a < (accL N fun v => cntI (castE (C.take k)) v).length by rw [accL_len]; omega), accL_len, (show a < N by omega), ints_len, hga, hwa])
        refine hKY _ ?_
        refine wlk_reg fun KY hKY => ?_
        simp only [go_sem, reduceIte, Nat.reduceEqDiff, reduceCtorEq, c_garlandref23_IsFactor_r9, (show k * 2 + 1 < C.length * 2 by omega), two_get1 hxc, twos_len, castE_len, ints_get (show b < ((accL N fun v => cntI (castE (C.take k)) v).set a (cntI (castE (C.take k)) a + 1)).length by rw [List.length_set, accL_len]; omega), List.length_set, accL_len, hok.2, ints_len, hst.1, hwb, hst.2]
        repeat (simp (disch := omega) only [if_pos, if_neg, decide_eq_true, decide_eq_false, incS, nats_get, ints_get, (show k * 2 + 1 < C.length * 2 by omega), two_get0 hxc, two_get1 hxc, List.length_drop, twos_len, castE_len, ints_get (show b < ((accL N fun v => cntI (castE (C.take k)) v).set a (cntI (castE (C.take k)) a + 1)).length by rw [List.length_set, accL_len]; omega), List.length_set, accL_len, hok.2, ints_len, hst.1, hwb, hst.2]; try simp only [go_sem, reduceIte, Nat.reduceEqDiff, Nat.reduceBEq, reduceCtorEq, Nat.reduceLT, Nat.reduceLeDiff, Nat.reduceAdd, Nat.reduceSub, Nat.reduceMul, Nat.reduceDiv, Int.reduceAdd, Int.reduceNeg, Int.reduceEq, Int.reduceLT, Int.reduceLE, (show k * 2 + 1 < C.length * 2 by omega), two_get0 hxc, two_get1 hxc, List.length_drop, twos_len, castE_len, ints_get (show b < ((accL N fun v => cntI (castE (C.take k)) v).set a (cntI (castE (C.take k)) a + 1)).length by rw [List.length_set, accL_len]; omega), List.length_set, accL_len, hok.2, ints_len, hst.1, hwb, hst.2])
        refine hKY _ ?_
        repeat (first | refine hn8 _ ?_ | refine he8 _ _ ?_ | refine hn7 _ ?_ | refine he7 _ ?_ | refine hf7 _ _ (by decide) ?_ | refine hn6 _ ?_ | refine he6 _ _ ?_ | refine hn5 _ ?_ | refine he5 _ _ ?_ | refine he4 _ _ ?_ | refine hn3 _ ?_ | refine he3 _ ?_ | refine hf3 _ _ (by decide) ?_ | refine hn2 _ ?_ | refine he2 _ _ ?_ | refine hn1 _ ?_ | refine he1 _ _ ?_)
        refine wlk_reg fun KY hKY => ?_
        simp only [go_sem, reduceIte, Nat.reduceEqDiff, reduceCtorEq, c_garlandref23_IsFactor_r10, incS (show k < 4611686018427387904 by omega)]
        refine hKY _ ?_
        repeat (first | refine hn8 _ ?_ | refine he8 _ _ ?_ | refine hn7 _ ?_ | refine he7 _ ?_ | refine hf7 _ _ (by decide) ?_ | refine hn6 _ ?_ | refine he6 _ _ ?_ | refine hn5 _ ?_ | refine he5 _ _ ?_)
        refine hn4 _ (k + 1) (C.length - (k + 1)) (by omega) (by first | (simp only [go_sem, reduceIte, Nat.reduceEqDiff, reduceCtorEq, updAll_cons, updAll_nil]; done) | with_reducible rfl) ?_
        refine ⟨hk2, rfl, fun j e hj he => ?_⟩
        rcases Nat.lt_or_ge j k with h3 | h3
        · exact hz j e h3 he
        · obtain rfl : j = k := by omega
          rw [hx] at he; cases he; exact hin
      · have hhas : (rightB N (castE es) && decide (turnI (a : Int) (b : Int) ∈ castE es)) = false := by rw [htn, decide_eq_false (fun h => hin (castE_mem.1 h)), Bool.and_false]
        have hfalse : facB N (castE es) fs (castE C) = false := by
          unfold facB
          rw [show ((castE C).all fun x => decide (x ∈ castE es)) = false from ?_, Bool.and_false]; rfl
          rw [Bool.eq_false_iff]; intro h
          rw [List.all_eq_true] at h
          exact hin (castE_mem.1 (of_decide_eq_true (h _ (castE_mem.2 hxm))))
        refine wlk_sdraw fun KY hKY => ?_
        simp only [go_sem, reduceIte, Nat.reduceEqDiff, Nat.reduceBEq, reduceCtorEq, Nat.reduceLT, Nat.reduceAdd, c_garlandref23_IsFactor_r6, twos_len, castE_len]
        repeat (simp (disch := omega) only [if_pos, if_neg, decide_eq_true]; try simp only [go_sem, reduceIte, Nat.reduceEqDiff, two_get0 hxc, two_get1 hxc, twos_len, castE_len])
        refine call_view rfl (by simp only [go_sem, reduceIte, Nat.reduceEqDiff, reduceCtorEq] <;> rfl) ((rhas_ok N (castE es) a b).mono ?_)
        rintro rr hh ⟨rfl, rfl⟩
        refine ⟨rfl, rfl, rfl, ?_⟩
        simp only [go_sem, reduceIte, Nat.reduceEqDiff, reduceCtorEq, hhas]
        refine hKY _ ?_
        refine wlk_cond1 rfl ?_
        refine wlk_sreg fun KY hKY => ?_
        simp only [go_sem, reduceIte, Nat.reduceEqDiff, reduceCtorEq, c_garlandref23_IsFactor_r7]
        refine hKY _ ?_
        refine wlk_ret ?_
        repeat (first | refine hr8 _ ?_ | refine hr7 _ ?_ | refine hr6 _ ?_ | refine hr5 _ ?_ | refine hr4 _ ?_ | refine hr3 _ ?_ | refine hr2 _ ?_ | refine hr1 _ ?_)
        simp only [go_sem, reduceIte, Nat.reduceEqDiff, reduceCtorEq]
        rw [hfalse]
    · refine wlk_sreg fun KY hKY => ?_
      simp only [go_sem, reduceIte, Nat.reduceEqDiff, reduceCtorEq, c_garlandref23_IsFactor_r5, twos_len, mul2, castE_len]
      refine hKY _ ?_
      refine wlk_cond0 (by first | rfl | (simp only [go_sem, reduceIte, Nat.reduceEqDiff, reduceCtorEq]; try simp (disch := omega) only [decide_eq_false])) ?_
      refine wlk_exit ?_
      repeat (first | refine hn5 _ ?_ | refine he5 _ _ ?_ | refine he4 _ _ ?_ | refine hn3 _ ?_ | refine he3 _ ?_ | refine hf3 _ _ (by decide) ?_ | refine hn2 _ ?_ | refine he2 _ _ ?_ | refine hn1 _ ?_ | refine he1 _ _ ?_)
      have hkl : k = C.length := by omega
      subst hkl
      rw [List.take_length]
      have hal : ((castE C).all fun x => decide (x ∈ castE es)) = true := by
        rw [List.all_eq_true]
        intro x hx
        obtain ⟨e, he, rfl⟩ := List.mem_map.1 hx
        obtain ⟨j, hj⟩ := List.mem_iff_getElem?.1 he
        exact decide_eq_true (castE_mem.2 (hz j e (List.getElem?_eq_some_iff.1 hj).1 hj))
      have hd28 : decide (((C.length : Nat) : Int) < ((C.length : Nat) : Int)) = false := decide_eq_false (by omega)
      simp only [go_sem, reduceIte, Nat.reduceEqDiff, reduceCtorEq, hd28]
      refine wlk_seq fun X9 hn9 he9 hr9 => ?_
      refine wlk_sreg fun KY hKY => ?_
      simp only [go_sem, reduceIte, Nat.reduceEqDiff, reduceCtorEq, c_garlandref23_IsFactor_r11]
      refine hKY _ ?_
      refine wlk_blk fun X10 hn10 he10 hf10 hr10 => ?_
      try simp only [go_sem, reduceIte, Nat.reduceEqDiff, reduceCtorEq]
      refine wlk_lp (α := Nat) [67, 78] (fun v => [(9, .sc (.int .i64 (v : Int)))]) (fun v => []) (fun v q => v ≤ N ∧ q = N - v ∧ (∀ w, w < v → (accL N fun v => cntI (castE C) v).getD w 0 = fs.getD w 0)) (0) (N) rfl (by first | (simp only [go_sem, reduceIte, Nat.reduceEqDiff, reduceCtorEq, updAll_cons, updAll_nil]; done) | with_reducible rfl | rfl) (⟨by omega, rfl, fun w h => by omega⟩) ?_
      rintro v q ⟨hv, rfl, hw⟩ X11 hn11 he11 hr11
      simp only [go_sem, reduceIte, Nat.reduceEqDiff, reduceCtorEq, updAll_cons, updAll_nil]
      refine wlk_seq fun X12 hn12 he12 hr12 => ?_
      by_cases hv2 : v < N
      · refine wlk_sreg fun KY hKY => ?_
        simp only [go_sem, reduceIte, Nat.reduceEqDiff, reduceCtorEq, c_garlandref23_IsFactor_r12]
        refine hKY _ ?_
        refine wlk_cond1 (by first | rfl | (simp only [go_sem, reduceIte, Nat.reduceEqDiff, reduceCtorEq]; try simp (disch := omega) only [decide_eq_true])) ?_
        refine wlk_skip ?_
        repeat (first | refine hn12 _ ?_ | refine he12 _ _ ?_ | refine he11 _ _ ?_ | refine hn10 _ ?_ | refine he10 _ ?_ | refine hf10 _ _ (by decide) ?_ | refine hn9 _ ?_ | refine he9 _ _ ?_ | refine hn5 _ ?_ | refine he5 _ _ ?_)
        refine wlk_seq fun X13 hn13 he13 hr13 => ?_
        refine wlk_blk fun X14 hn14 he14 hf14 hr14 => ?_
        by_cases hq : (accL N fun v => cntI (castE C) v).getD v 0 = fs.getD v 0
        · have d : decide ((accL N fun v => cntI (castE C) v).getD v 0 ≠ fs.getD v 0) = false := decide_eq_false fun h => h hq
          refine wlk_sdraw fun KY hKY => ?_
          simp only [go_sem, reduceIte, Nat.reduceEqDiff, reduceCtorEq, c_garlandref23_IsFactor_r13, ints_len, accL_len]
          repeat (simp (disch := omega) only [if_pos, if_neg, decide_eq_true]; try simp only [go_sem, reduceIte, Nat.reduceEqDiff, reduceCtorEq, ints_get (show v < (accL N fun v => cntI (castE C) v).length by rw [accL_len]; omega), ints_get (show v < fs.length by omega), ints_len, hfl', d])
          refine hKY _ ?_
          refine wlk_cond0 rfl ?_
          refine wlk_skip ?_
          repeat (first | refine hn14 _ ?_ | refine he14 _ ?_ | refine hf14 _ _ (by decide) ?_ | refine hn13 _ ?_ | refine he13 _ _ ?_ | refine hn12 _ ?_ | refine he12 _ _ ?_ | refine he11 _ _ ?_ | refine hn10 _ ?_ | refine he10 _ ?_ | refine hf10 _ _ (by decide) ?_ | refine hn9 _ ?_ | refine he9 _ _ ?_ | refine hn5 _ ?_ | refine he5 _ _ ?_)
          refine wlk_reg fun KY hKY => ?_
          simp only [go_sem, reduceIte, Nat.reduceEqDiff, reduceCtorEq, c_garlandref23_IsFactor_r15, incS (show v < 4611686018427387904 by omega)]
          refine hKY _ ?_
          repeat (first | refine hn14 _ ?_ | refine he14 _ ?_ | refine hf14 _ _ (by decide) ?_ | refine hn13 _ ?_ | refine he13 _ _ ?_ | refine hn12 _ ?_ | refine he12 _ _ ?_)
          refine hn11 _ (v + 1) (N - (v + 1)) (by omega) (by first | (simp only [go_sem, reduceIte, Nat.reduceEqDiff, reduceCtorEq, updAll_cons, updAll_nil]; done) | with_reducible rfl) ?_
          refine ⟨hv2, rfl, fun w h => ?_⟩
          rcases Nat.lt_or_ge w v with h3 | h3
          · exact hw w h3
          · obtain rfl : w = v := by omega
            exact hq
        · have d : decide ((accL N fun v => cntI (castE C) v).getD v 0 ≠ fs.getD v 0) = true := decide_eq_true hq
          refine wlk_sdraw fun KY hKY => ?_
          simp only [go_sem, reduceIte, Nat.reduceEqDiff, reduceCtorEq, c_garlandref23_IsFactor_r13, ints_len, accL_len]
          repeat (simp (disch := omega) only [if_pos, if_neg, decide_eq_true]; try simp only [go_sem, reduceIte, Nat.reduceEqDiff, reduceCtorEq, ints_get (show v < (accL N fun v => cntI (castE C) v).length by rw [accL_len]; omega), ints_get (show v < fs.length by omega), ints_len, hfl', d])
          refine hKY _ ?_
          refine wlk_cond1 rfl ?_
          refine wlk_sreg fun KY hKY => ?_
          simp only [go_sem, reduceIte, Nat.reduceEqDiff, reduceCtorEq, c_garlandref23_IsFactor_r14]
          refine hKY _ ?_
          refine wlk_ret ?_
          repeat (first | refine hr14 _ ?_ | refine hr13 _ ?_ | refine hr12 _ ?_ | refine hr11 _ ?_ | refine hr10 _ ?_ | refine hr9 _ ?_ | refine hr5 _ ?_ | refine hr4 _ ?_ | refine hr3 _ ?_ | refine hr2 _ ?_ | refine hr1 _ ?_)
          simp only [go_sem, reduceIte, Nat.reduceEqDiff, reduceCtorEq]
          unfold facB
          rw [decide_eq_false (fun h => hq (by rw [h])), Bool.and_false]
      · refine wlk_sreg fun KY hKY => ?_
        simp only [go_sem, reduceIte, Nat.reduceEqDiff, reduceCtorEq, c_garlandref23_IsFactor_r12]
        refine hKY _ ?_
        refine wlk_cond0 (by first | rfl | (simp only [go_sem, reduceIte, Nat.reduceEqDiff, reduceCtorEq]; try simp (disch := omega) only [decide_eq_false])) ?_
        refine wlk_exit ?_
        repeat (first | refine hn12 _ ?_ | refine he12 _ _ ?_ | refine he11 _ _ ?_ | refine hn10 _ ?_ | refine he10 _ ?_ | refine hf10 _ _ (by decide) ?_ | refine hn9 _ ?_ | refine he9 _ _ ?_ | refine hn5 _ ?_ | refine he5 _ _ ?_ | refine he4 _ _ ?_ | refine hn3 _ ?_ | refine he3 _ ?_ | refine hf3 _ _ (by decide) ?_ | refine hn2 _ ?_ | refine he2 _ _ ?_ | refine hn1 _ ?_ | refine he1 _ _ ?_)
        obtain rfl : v = N := by omega
        refine wlk_sreg fun KY hKY => ?_
        simp only [go_sem, reduceIte, Nat.reduceEqDiff, reduceCtorEq, c_garlandref23_IsFactor_r16]
        refine hKY _ ?_
        refine wlk_ret ?_
        repeat (first | refine hr12 _ ?_ | refine hr11 _ ?_ | refine hr10 _ ?_ | refine hr9 _ ?_ | refine hr5 _ ?_ | refine hr4 _ ?_ | refine hr3 _ ?_ | refine hr2 _ ?_ | refine hr1 _ ?_)
        simp only [go_sem, reduceIte, Nat.reduceEqDiff, reduceCtorEq]
        unfold facB
        rw [hrl, hal, Bool.true_and, Bool.true_and, decide_eq_true]
        apply List.ext_getElem
        · rw [accL_len, hfl']
        · intro i h1 h2
          have := hw i (by rw [accL_len] at h1; exact h1)
          rw [List.getD_eq_getElem?_getD, List.getD_eq_getElem?_getD, List.getElem?_eq_getElem h1, List.getElem?_eq_getElem h2] at this
          simpa using this
end Go.Proofs.Ytepjcfbigcfkfaa
