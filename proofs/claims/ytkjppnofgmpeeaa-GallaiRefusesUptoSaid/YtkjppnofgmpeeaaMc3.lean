/- What is no graph is refused. -/
import Derived.Test.YtkjppnofgmpeeaaMc2
import Derived.Test.YtkjppnofgmpeeaaMc1
import Derived.Shelf.Sort.Plain
import Derived.Test.YtkjppnofgmpeeaaRows
set_option linter.all false
set_option maxRecDepth 100000
set_option maxHeartbeats 4000000
namespace Go.Proofs.Ytkjppnofgmpeeaa
open Go Go.Ga Go.Ga.Gl
def stp {α : Type} (f : Nat → α) (z : α) (n k : Nat) : List α := (List.range n).map fun q => if q < k then f q else z
theorem stp_len {α : Type} (f : Nat → α) (z : α) (n k : Nat) : (stp f z n k).length = n := by simp [stp]
theorem stp_zero {α : Type} (f : Nat → α) (z : α) (n : Nat) : List.replicate n z = stp f z n 0 := by
  apply List.ext_getElem (by simp [stp])
  intro j h1 h2
  simp [stp]
theorem stp_set {α : Type} (f : Nat → α) (z : α) (n k : Nat) {a : α} (h : f k = a) : (stp f z n k).set k a = stp f z n (k + 1) := by
  subst h
  apply List.ext_getElem (by simp [stp])
  intro j h1 h2
  rw [List.getElem_set]
  simp only [stp, List.getElem_map, List.getElem_range]
  by_cases e : k = j
  · subst e; rw [if_pos rfl, if_pos (by omega)]
  · rw [if_neg e]
    by_cases h1 : j < k
    · rw [if_pos h1, if_pos (by omega)]
    · rw [if_neg h1, if_neg (by omega)]
theorem stp_skip {α : Type} (f : Nat → α) (z : α) (n k : Nat) (h : f k = z) : stp f z n k = stp f z n (k + 1) := by
  apply List.map_congr_left
  intro q _
  by_cases h1 : q < k
  · rw [if_pos h1, if_pos (by omega)]
  · rw [if_neg h1]
    by_cases h2 : q < k + 1
    · rw [if_pos h2, show q = k by omega, h]
    · rw [if_neg h2]
theorem stp_get {α : Type} (f : Nat → α) (z d : α) {n k q : Nat} (h : q < n) : (stp f z n k).getD q d = if q < k then f q else z := by simp [stp, h]
theorem rep_set {α : Type} (n k : Nat) (z : α) : (List.replicate n z).set k z = List.replicate n z := by
  apply List.ext_getElem (by simp)
  intro j h1 h2
  rw [List.getElem_set]
  simp
theorem ints_zeroZ (n : Nat) : zeroCellsA [.int .i64 0] n = ints (List.replicate n 0) := by
  simp only [zeroCellsA, List.map]
  induction n with
  | zero => rfl
  | succ n ih => simp only [List.replicate_succ, List.flatten_cons, ih]; rfl
theorem twos_zero (n : Nat) : zeroCellsA [.int .i64 0, .int .i64 0] n = twos (List.replicate n (0, 0)) := by
  induction n with
  | zero => rfl
  | succ n ih =>
    simp only [zeroCellsA, List.replicate_succ, List.flatten_cons, twos, packs] at ih ⊢
    rw [ih]; rfl
def fL (m : List Int) (q : Nat) : Int := if m.getD q 0 = -1 then 1 else 0
def fO (m : List Int) (q : Nat) : Bool := decide (m.getD q 0 = -1)
def fR (m : List Int) (q : Nat) : Int := if m.getD q 0 = -1 then (q : Int) else -1
def fI (q : Nat) : Int := (q : Int)
def fst0 (n : Nat) (m : List Int) (k : Nat) : FD :=
  ⟨stp (fL m) 0 n k, stp (fO m) false n k, List.replicate n 0, List.replicate n 0, List.replicate n 0, stp (fR m) 0 n k, List.replicate n (0, 0), List.replicate n false, stp fI 0 n k, stp fI 0 n k, List.replicate n 0, 0, (List.range k).filter (fO m), 0⟩
theorem fst0_rp {n : Nat} {m : List Int} (hml : m.length = n) : Rp n m (fs0 n (mf m)) (fst0 n m n) := by
  have hmf : ∀ v, v < n → mf m v = m.getD v 0 := fun v hv => (mf_get (by omega)).symm
  have hg : ∀ v, v < n → (if v < n ∧ mf m v = -1 then (1 : Nat) else 0) = if m.getD v 0 = -1 then 1 else 0 := fun v hv => by
    rw [hmf v hv]
    by_cases h : m.getD v 0 = -1
    · rw [if_pos ⟨hv, h⟩, if_pos h]
    · rw [if_neg (fun e => h e.2), if_neg h]
  refine ⟨⟨stp_len _ _ _ _, stp_len _ _ _ _, by simp [fst0], by simp [fst0], by simp [fst0], stp_len _ _ _ _, by simp [fst0], by simp [fst0], stp_len _ _ _ _, stp_len _ _ _ _, by simp [fst0]⟩, hml, fun v hv => ?_, fun v hv => ?_, fun v hv h => ?_, fun v hv => ?_, fun v hv => ?_, fun v hv h => ?_, fun v hv => ?_, ⟨fun u => u, fun _ => 0, ⟨stp_len _ _ _ _, fun v hv => ⟨v, ?_, hv, rfl, fun _ => rfl, fun h => absurd rfl h⟩⟩, fun v hv => ?_, fun u v _ _ => Iff.rfl⟩, fun v hv => ?_, fun x hx => ?_, ?_⟩
  · show (stp _ 0 n n).getD v 0 = ((if v < n ∧ mf m v = -1 then 1 else 0 : Nat) : Int)
    rw [stp_get _ _ _ hv, if_pos hv, hg v hv]
    unfold fL
    split <;> rfl
  · show (stp _ false n n).getD v false = decide (v < n ∧ mf m v = -1)
    rw [hmf v hv]
    rw [stp_get _ _ _ hv, if_pos hv]
    refine decide_eq_decide.2 ⟨fun h => ⟨hv, h⟩, fun h => h.2⟩
  · have h : (if v < n ∧ mf m v = -1 then 1 else 0 : Nat) = 2 := h
    split at h <;> omega
  · show (stp _ 0 n n).getD v 0 = (if v < n ∧ mf m v = -1 then (v : Int) else -1)
    rw [stp_get _ _ _ hv, if_pos hv]
    have h3 : (if v < n ∧ mf m v = -1 then (v : Int) else -1) = if m.getD v 0 = -1 then (v : Int) else -1 := by
      rw [hmf v hv]
      by_cases h : m.getD v 0 = -1
      · rw [if_pos (⟨hv, h⟩ : v < n ∧ m.getD v 0 = -1), if_pos h]
      · rw [if_neg (fun e : v < n ∧ m.getD v 0 = -1 => h e.2), if_neg h]
    exact h3.symm
  · show (if v < n ∧ mf m v = -1 then (v : Int) else -1) = -1 ∨ ∃ r : Nat, (if v < n ∧ mf m v = -1 then (v : Int) else -1) = (r : Int) ∧ r < n
    split
    · exact .inr ⟨v, rfl, hv⟩
    · exact .inl rfl
  · have h : (if v < n ∧ mf m v = -1 then 1 else 0 : Nat) = 2 := h
    split at h <;> omega
  · show (List.replicate n false).getD v false = false
    simp [hv]
  · show (stp fI 0 n n).getD v 0 = (v : Int)
    rw [stp_get _ _ _ hv, if_pos hv]
    rfl
  · show (stp fI 0 n n).getD v 0 = (v : Int)
    rw [stp_get _ _ _ hv, if_pos hv]
    rfl
  · show (List.replicate n (0 : Int)).getD v 0 ≤ 0
    simp [hv]
  · have hx : x ∈ (List.range n).filter (fun q => decide (m.getD q 0 = -1)) := hx
    obtain ⟨h1, h2⟩ := List.mem_filter.1 hx
    have h1 := List.mem_range.1 h1
    exact ⟨h1, decide_eq_true ⟨h1, (hmf x h1).trans (of_decide_eq_true h2)⟩⟩
  · exact List.nodup_range.filter _
theorem fst0_sz (n : Nat) (m : List Int) (k : Nat) : (fst0 n m k).Sz n :=
  ⟨stp_len _ _ _ _, stp_len _ _ _ _, by simp [fst0], by simp [fst0], by simp [fst0], stp_len _ _ _ _, by simp [fst0], by simp [fst0], stp_len _ _ _ _, stp_len _ _ _ _, by simp [fst0]⟩
theorem fst0_free {n : Nat} {m : List Int} {k : Nat} (hk : k < n) (h : m.getD k 0 = -1) : ({ fst0 n m k with up := (fst0 n m k).up.set k (k : Int), bs := (fst0 n m k).bs.set k (k : Int), rt := (fst0 n m k).rt.set k (k : Int) } : FD).raise k 0 1 = fst0 n m (k + 1) := by
  unfold FD.raise fst0
  simp only
  rw [stp_get _ _ _ hk, if_neg (Nat.lt_irrefl k), if_pos rfl, stp_set (fL m) _ _ _ (show fL m k = 1 from if_pos h), stp_set (fO m) _ _ _ (show fO m k = true from decide_eq_true h), stp_set (fR m) _ _ _ (show fR m k = (k : Int) from if_pos h), rep_set, stp_set fI _ _ _ (show fI k = (k : Int) from rfl), List.range_succ, List.filter_append]
  have hf : fO m k = true := decide_eq_true h
  simp [hf]
theorem fst0_not {n : Nat} {m : List Int} {k : Nat} (hk : k < n) (h : m.getD k 0 ≠ -1) : ({ fst0 n m k with up := (fst0 n m k).up.set k (k : Int), bs := (fst0 n m k).bs.set k (k : Int), rt := (fst0 n m k).rt.set k (-1) } : FD) = fst0 n m (k + 1) := by
  unfold fst0
  simp only
  rw [stp_skip (fL m) 0 n k (if_neg h), stp_skip (fO m) false n k (decide_eq_false h), stp_set (fR m) _ _ _ (show fR m k = -1 from if_neg h), stp_set fI _ _ _ (show fI k = (k : Int) from rfl), List.range_succ, List.filter_append]
  have hf : fO m k = false := decide_eq_false h
  simp [hf]
theorem fnew_ok (nr : List (List Nat)) {n : Nat} {m : List Int} (hnr : nr.length = n) (hml : m.length = n) (hn : n ≤ 4096) :
    ACalls Try.prog [] n_forest_New [.imm 1 (rowsI nr), .imm 1 (ints m)] [] fun r h' => r = .ptr 0 0 ∧ h' = [some ((fst0 n m n).obj nr m)] := by
  have hO : ∀ G : FD, G.obj nr m = [.imm 1 (rowsI nr), .imm 1 (ints m), .own (some 1) (ints G.lab), .own (some 1) (bools G.out), .own (some 1) (ints G.ev), .own (some 1) (ints G.od), .own (some 1) (ints G.pr), .own (some 1) (ints G.rt), .own (some 2) (twos G.br), .own (some 1) (bools G.gone), .own (some 1) (ints G.up), .own (some 1) (ints G.bs), .own (some 1) (ints G.mr), .sc (.int .i64 G.tn), .own (some 1) (nats G.wt), .sc (.int .i64 G.lk)] := fun _ => rfl
  have hm1 : 8 * n ≤ 140737488355328 ∧ (n : Int) ≤ 9223372036854775807 := by omega
  have hm2 : 16 * n ≤ 140737488355328 ∧ (n : Int) ≤ 9223372036854775807 := by omega
  have hm3 : 1 * n ≤ 140737488355328 ∧ (n : Int) ≤ 9223372036854775807 := by omega
  refine go_forest_New rfl ?_
  unfold c_forest_New v_forest_New
  refine wlk_sreg fun KY hKY => ?_
  simp only [go_sem, c_forest_New_r0]
  refine hKY _ ?_
  refine wlk_sreg fun KY hKY => ?_
  simp only [go_sem, c_forest_New_r1, rowsI_len, hnr]
  refine hKY _ ?_
  refine wlk_sdraw fun KY hKY => ?_
  simp only [go_sem, c_forest_New_r2, hm1, hm2, hm3, Int.le_refl, ints_zeroZ, bools_zero, twos_zero]
  refine hKY _ ?_
  refine sem_nil [0, 6, 14] 1 (by simp only [go_sem]) ?_
  simp only [go_sem]
  refine sem_share [0, 6] (by simp only [go_sem]; rfl) ?_
  simp only [go_sem]
  refine wlk_seq fun X1 hn1 he1 hr1 => ?_
  refine wlk_sreg fun KY hKY => ?_
  simp only [go_sem, c_forest_New_r3]
  refine hKY _ ?_
  refine wlk_blk fun X2 hn2 he2 hf2 hr2 => ?_
  try simp only [go_sem]
  refine wlk_lp (α := Nat × FD) [7, 38, 64] (fun (k, F) => [(37, .sc (.int .i64 (k : Int)))]) (fun (k, F) => [some [.imm 1 (rowsI nr), .imm 1 (ints m), .own (some 1) (ints F.lab), .own (some 1) (bools F.out), .own (some 1) (ints F.ev), .own (some 1) (ints F.od), .own (some 1) (ints F.pr), .own (some 1) (ints F.rt), .own (some 2) (twos F.br), .own (some 1) (bools F.gone), .own (some 1) (ints F.up), .own (some 1) (ints F.bs), .own (some 1) (ints F.mr), .sc (.int .i64 F.tn), .own (some 1) (nats F.wt), .sc (.int .i64 F.lk)]]) (fun (k, F) q => F = fst0 n m k ∧ k ≤ n ∧ q = n - k) ((0, ⟨List.replicate n 0, List.replicate n false, List.replicate n 0, List.replicate n 0, List.replicate n 0, List.replicate n 0, List.replicate n (0, 0), List.replicate n false, List.replicate n 0, List.replicate n 0, List.replicate n 0, 0, [], 0⟩)) (n) rfl (by first | (simp only [go_sem, updAll_cons, updAll_nil]; done) | with_reducible rfl | rfl) (⟨by unfold fst0; rw [← stp_zero, ← stp_zero, ← stp_zero, ← stp_zero]; rfl, Nat.zero_le _, rfl⟩) ?_
  rintro ⟨k, F⟩ q ⟨hF, hk, rfl⟩ X3 hn3 he3 hr3
  simp only [go_sem, updAll_cons, updAll_nil]
  have Z := fst0_sz n m k
  rw [← hF] at Z
  rcases Nat.lt_or_ge k n with hk2 | hk2
  · have hdx : decide ((k : Int) < (n : Int)) = true := decide_eq_true (by omega)
    have hgk : (ints m)[k]? = some (.sc (.int .i64 (m.getD k 0))) := ints_get (by omega)
    have hrl : F.rt.length = n := Z.rt
    have hul : F.up.length = n := Z.up
    have hbl : F.bs.length = n := Z.bs
    refine wlk_sreg fun KY hKY => ?_
    simp only [go_sem, c_forest_New_r4, hdx]
    refine hKY _ ?_
    refine wlk_seq fun X4 hn4 he4 hr4 => ?_
    refine wlk_cond1 (by first | rfl | (simp only [go_sem]; try simp (disch := omega) only [decide_eq_true, decide_eq_false])) ?_
    refine wlk_skip ?_
    repeat (first | refine hn4 _ ?_ | refine he4 _ _ ?_ | refine he3 _ _ ?_ | refine hn2 _ ?_ | refine he2 _ ?_ | refine hf2 _ _ (by decide) ?_ | refine hn1 _ ?_ | refine he1 _ _ ?_)
    refine wlk_seq fun X5 hn5 he5 hr5 => ?_
    refine wlk_blk fun X6 hn6 he6 hf6 hr6 => ?_
    refine wlk_sreg fun KY hKY => ?_
    simp only [go_sem, c_forest_New_r5]
    refine hKY _ ?_
    refine wlk_sdraw fun KY hKY => ?_
    simp only [go_sem, c_forest_New_r6, ints_len, ints_set, hrl, hul, hbl, hk2]
    refine hKY _ ?_
    by_cases hf : m.getD k 0 = -1
    · have hdf : decide (m.getD k 0 = -1) = true := decide_eq_true hf
      have FF := fst0_free hk2 hf
      rw [← hF] at FF
      have hrs := raise_ok nr m ⟨F.lab, F.out, F.ev, F.od, F.pr, F.rt.set k (k : Int), F.br, F.gone, F.up.set k (k : Int), F.bs.set k (k : Int), F.mr, F.tn, F.wt, F.lk⟩ (n := n) ⟨Z.lab, Z.out, Z.ev, Z.od, Z.pr, by simp [hrl], Z.br, Z.gone, by simp [hul], by simp [hbl], Z.mr⟩ hk2 0 1 (by
        show F.wt.length ≤ 1000000
        rw [hF]
        show ((List.range k).filter (fO m)).length ≤ 1000000
        refine Nat.le_trans (List.length_filter_le _ _) ?_
        rw [List.length_range]; omega)
      rw [show (⟨F.lab, F.out, F.ev, F.od, F.pr, F.rt.set k (k : Int), F.br, F.gone, F.up.set k (k : Int), F.bs.set k (k : Int), F.mr, F.tn, F.wt, F.lk⟩ : FD).raise k 0 1 = fst0 n m (k + 1) from FF] at hrs
      rw [hO (fst0 n m (k + 1))] at hrs
      unfold FD.obj at hrs
      refine wlk_sreg fun KY hKY => ?_
      simp only [go_sem, c_forest_New_r7, hgk, hdf, ints_len, hml, hk2]
      refine hKY _ ?_
      refine wlk_cond1 (by first | rfl | (simp only [go_sem]; try simp (disch := omega) only [decide_eq_true, decide_eq_false])) ?_
      refine wlk_sreg fun KY hKY => ?_
      simp only [go_sem, c_forest_New_r8, ints_len, ints_set, List.length_set, hrl, hk2]
      refine hKY _ ?_
      refine wlk_reg fun KY hKY => ?_
      simp only [go_sem, c_forest_New_r9]
      apply call_gen [] [0] false none rfl
      iterate 8 (first | (simp only [go_sem, watchIn] <;> rfl) | rfl)
      refine (hrs).mono ?_
      rintro _ _ ⟨rfl, rfl⟩
      refine ⟨Nat.le_of_ble_eq_true rfl, (fun hh => by cases hh), ?_⟩
      simp only [go_sem, callOut, AState.after]
      refine hKY _ ?_
      repeat (first | refine hn6 _ ?_ | refine he6 _ ?_ | refine hf6 _ _ (by decide) ?_ | refine hn5 _ ?_ | refine he5 _ _ ?_ | refine hn4 _ ?_ | refine he4 _ _ ?_ | refine he3 _ _ ?_ | refine hn2 _ ?_ | refine he2 _ ?_ | refine hf2 _ _ (by decide) ?_ | refine hn1 _ ?_ | refine he1 _ _ ?_)
      refine wlk_reg fun KY hKY => ?_
      simp only [go_sem, c_forest_New_r10, incS (show k < 4611686018427387904 by omega)]
      refine hKY _ ?_
      repeat (first | refine hn6 _ ?_ | refine he6 _ ?_ | refine hf6 _ _ (by decide) ?_ | refine hn5 _ ?_ | refine he5 _ _ ?_ | refine hn4 _ ?_ | refine he4 _ _ ?_)
      refine hn3 _ ((k + 1, fst0 n m (k + 1))) (n - (k + 1)) (by omega) (by first | (simp only [go_sem, updAll_cons, updAll_nil]; done) | with_reducible rfl) ?_
      exact ⟨rfl, hk2, rfl⟩
    · have hdf : decide (m.getD k 0 = -1) = false := decide_eq_false hf
      have FF := fst0_not hk2 hf
      rw [← hF] at FF
      refine wlk_sreg fun KY hKY => ?_
      simp only [go_sem, c_forest_New_r7, hgk, hdf, ints_len, hml, hk2]
      refine hKY _ ?_
      refine wlk_cond0 (by first | rfl | (simp only [go_sem]; try simp (disch := omega) only [decide_eq_true, decide_eq_false])) ?_
      refine wlk_skip ?_
      repeat (first | refine hn6 _ ?_ | refine he6 _ ?_ | refine hf6 _ _ (by decide) ?_ | refine hn5 _ ?_ | refine he5 _ _ ?_ | refine hn4 _ ?_ | refine he4 _ _ ?_ | refine he3 _ _ ?_ | refine hn2 _ ?_ | refine he2 _ ?_ | refine hf2 _ _ (by decide) ?_ | refine hn1 _ ?_ | refine he1 _ _ ?_)
      refine wlk_reg fun KY hKY => ?_
      simp only [go_sem, c_forest_New_r10, incS (show k < 4611686018427387904 by omega)]
      refine hKY _ ?_
      repeat (first | refine hn6 _ ?_ | refine he6 _ ?_ | refine hf6 _ _ (by decide) ?_ | refine hn5 _ ?_ | refine he5 _ _ ?_ | refine hn4 _ ?_ | refine he4 _ _ ?_)
      refine hn3 _ ((k + 1, ⟨F.lab, F.out, F.ev, F.od, F.pr, F.rt.set k (-1), F.br, F.gone, F.up.set k (k : Int), F.bs.set k (k : Int), F.mr, F.tn, F.wt, F.lk⟩)) (n - (k + 1)) (by omega) (by first | (simp only [go_sem, updAll_cons, updAll_nil]; done) | with_reducible rfl) ?_
      exact ⟨FF, hk2, rfl⟩
  have hdx : decide ((k : Int) < (n : Int)) = false := decide_eq_false (by omega)
  refine wlk_sreg fun KY hKY => ?_
  simp only [go_sem, c_forest_New_r4, hdx]
  refine hKY _ ?_
  refine wlk_seq fun X7 hn7 he7 hr7 => ?_
  refine wlk_cond0 (by first | rfl | (simp only [go_sem]; try simp (disch := omega) only [decide_eq_true, decide_eq_false])) ?_
  refine wlk_exit ?_
  repeat (first | refine hn7 _ ?_ | refine he7 _ _ ?_ | refine he3 _ _ ?_ | refine hn2 _ ?_ | refine he2 _ ?_ | refine hf2 _ _ (by decide) ?_ | refine hn1 _ ?_ | refine he1 _ _ ?_)
  refine wlk_sreg fun KY hKY => ?_
  simp only [go_sem, c_forest_New_r11]
  refine hKY _ ?_
  refine wlk_ret ?_
  repeat (first | refine hr7 _ ?_ | refine hr3 _ ?_ | refine hr2 _ ?_ | refine hr1 _ ?_)
  simp only [go_sem]
  obtain rfl : k = n := by omega
  rw [hF]
  rfl
end Go.Proofs.Ytkjppnofgmpeeaa
set_option maxRecDepth 100000
set_option maxHeartbeats 4000000
namespace Go.Proofs.Ytkjppnofgmpeeaa
open Go Go.Ga Go.Ga.Gl
def fLb (S : FS) (v : Nat) : Int := if S.out v = true then 1 else (S.lab v : Int)
def labs (n : Nat) (S : FS) : List Int := (List.range n).map (fLb S)
theorem labels_ok (nr : List (List Nat)) {n : Nat} {m : List Int} {S : FS} {F : FD} (R : Rp n m S F) (hn : n ≤ 4096) :
    ACalls Try.prog [[1, 0]] n_forest_Forest_Labels [.ptr 0 0] [some (F.obj nr m)] fun r h' => r = .own (some 1) (ints (labs n S)) ∧ h' = [some (F.obj nr m)] := by
  have hm1 : 8 * n ≤ 140737488355328 ∧ (n : Int) ≤ 9223372036854775807 := by omega
  have hO : ∀ G : FD, G.obj nr m = [.imm 1 (rowsI nr), .imm 1 (ints m), .own (some 1) (ints G.lab), .own (some 1) (bools G.out), .own (some 1) (ints G.ev), .own (some 1) (ints G.od), .own (some 1) (ints G.pr), .own (some 1) (ints G.rt), .own (some 2) (twos G.br), .own (some 1) (bools G.gone), .own (some 1) (ints G.up), .own (some 1) (ints G.bs), .own (some 1) (ints G.mr), .sc (.int .i64 G.tn), .own (some 1) (nats G.wt), .sc (.int .i64 G.lk)] := fun _ => rfl
  have hll := R.sz.lab
  have hol := R.sz.out
  rw [hO]
  refine go_forest_Forest_Labels rfl ?_
  unfold c_forest_Forest_Labels v_forest_Forest_Labels
  refine wlk_sreg fun KY hKY => ?_
  simp only [go_sem, c_forest_Forest_Labels_r0, arun_cons, gstep_none, BOp.quiet]
  refine hKY _ ?_
  refine wlk_sreg fun KY hKY => ?_
  simp only [go_sem, c_forest_Forest_Labels_r1, ints_len, hll, hm1, Int.le_refl, ints_zeroZ, arun_cons, gstep_none, BOp.quiet]
  refine hKY _ ?_
  simp only [go_sem]
  rw [show List.replicate n (0 : Int) = stp (fLb S) 0 n 0 from stp_zero _ _ _]
  refine wlk_seq fun X1 hn1 he1 hr1 => ?_
  refine wlk_sreg fun KY hKY => ?_
  simp only [go_sem, c_forest_Forest_Labels_r2, ints_len, stp_len, arun_cons, gstep_none, BOp.quiet]
  refine hKY _ ?_
  refine wlk_blk fun X2 hn2 he2 hf2 hr2 => ?_
  try simp only [go_sem]
  refine wlk_lp (α := Nat) [4, 14, 32] (fun k => [(3, .own (some 1) (ints (stp (fLb S) 0 n k))), (13, .sc (.int .i64 (k : Int)))]) (fun k => [some [.imm 1 (rowsI nr), .imm 1 (ints m), .own (some 1) (ints F.lab), .own (some 1) (bools F.out), .own (some 1) (ints F.ev), .own (some 1) (ints F.od), .own (some 1) (ints F.pr), .own (some 1) (ints F.rt), .own (some 2) (twos F.br), .own (some 1) (bools F.gone), .own (some 1) (ints F.up), .own (some 1) (ints F.bs), .own (some 1) (ints F.mr), .sc (.int .i64 F.tn), .own (some 1) (nats F.wt), .sc (.int .i64 F.lk)]]) (fun k q => k ≤ n ∧ q = n - k) (0) (n) rfl (by first | (simp only [go_sem, updAll_cons, updAll_nil]; done) | with_reducible rfl | rfl) (⟨Nat.zero_le _, rfl⟩) ?_
  rintro k q ⟨hk, rfl⟩ X3 hn3 he3 hr3
  simp only [go_sem, updAll_cons, updAll_nil]
  rcases Nat.lt_or_ge k n with hk2 | hk2
  · have hdx : decide ((k : Int) < (n : Int)) = true := decide_eq_true (by omega)
    have hgl : (ints F.lab)[k]? = some (.sc (.int .i64 (S.lab k : Int))) := by rw [ints_get (by omega), R.lab k hk2]
    have hgo : (bools F.out)[k]? = some (.sc (.bool (S.out k))) := by rw [bools_get (by omega), R.out k hk2]
    have hsl := stp_len (fLb S) 0 n k
    refine wlk_sreg fun KY hKY => ?_
    simp only [go_sem, c_forest_Forest_Labels_r3, hdx, arun_cons, gstep_none, BOp.quiet]
    refine hKY _ ?_
    refine wlk_seq fun X4 hn4 he4 hr4 => ?_
    refine wlk_cond1 (by first | rfl | (simp only [go_sem]; try simp (disch := omega) only [decide_eq_true, decide_eq_false])) ?_
    refine wlk_skip ?_
    repeat (first | refine hn4 _ ?_ | refine he4 _ _ ?_ | refine he3 _ _ ?_ | refine hn2 _ ?_ | refine he2 _ ?_ | refine hf2 _ _ (by decide) ?_ | refine hn1 _ ?_ | refine he1 _ _ ?_)
    refine wlk_seq fun X5 hn5 he5 hr5 => ?_
    refine wlk_blk fun X6 hn6 he6 hf6 hr6 => ?_
    refine wlk_sreg fun KY hKY => ?_
    simp only [go_sem, c_forest_Forest_Labels_r4, arun_cons, gstep_none, BOp.quiet]
    refine hKY _ ?_
    refine wlk_sreg fun KY hKY => ?_
    simp only [go_sem, c_forest_Forest_Labels_r5, hgl, ints_len, hll, hsl, hk2, ints_set, arun_cons, gstep_none, BOp.quiet, (show ([0, 3] == [1, 0]) = false from rfl), Bool.not_false]
    refine hKY _ ?_
    cases ho : S.out k with
    | true =>
      rw [ho] at hgo
      have hst := stp_set (fLb S) 0 n k (a := 1) (if_pos ho)
      refine wlk_sreg fun KY hKY => ?_
      simp only [go_sem, c_forest_Forest_Labels_r6, hgo, bools_len, hol, hk2, arun_cons, gstep_none, BOp.quiet]
      refine hKY _ ?_
      refine wlk_cond1 (by first | rfl | (simp only [go_sem]; try simp (disch := omega) only [decide_eq_true, decide_eq_false])) ?_
      refine wlk_reg fun KY hKY => ?_
      simp only [go_sem, c_forest_Forest_Labels_r7, ints_len, ints_set, List.length_set, hsl, hk2, hst, arun_cons, gstep_none, BOp.quiet, (show ([0, 3] == [1, 0]) = false from rfl), Bool.not_false]
      refine hKY _ ?_
      repeat (first | refine hn6 _ ?_ | refine he6 _ ?_ | refine hf6 _ _ (by decide) ?_ | refine hn5 _ ?_ | refine he5 _ _ ?_ | refine hn4 _ ?_ | refine he4 _ _ ?_ | refine he3 _ _ ?_ | refine hn2 _ ?_ | refine he2 _ ?_ | refine hf2 _ _ (by decide) ?_ | refine hn1 _ ?_ | refine he1 _ _ ?_)
      refine wlk_reg fun KY hKY => ?_
      simp only [go_sem, c_forest_Forest_Labels_r8, incS (show k < 4611686018427387904 by omega), arun_cons, gstep_none, BOp.quiet]
      refine hKY _ ?_
      repeat (first | refine hn6 _ ?_ | refine he6 _ ?_ | refine hf6 _ _ (by decide) ?_ | refine hn5 _ ?_ | refine he5 _ _ ?_ | refine hn4 _ ?_ | refine he4 _ _ ?_)
      refine hn3 _ (k + 1) (n - (k + 1)) (by omega) (by first | (simp only [go_sem, updAll_cons, updAll_nil]; done) | with_reducible rfl) ?_
      exact ⟨hk2, rfl⟩
    | false =>
      rw [ho] at hgo
      have hst := stp_set (fLb S) 0 n k (a := (S.lab k : Int)) (if_neg (by rw [ho]; simp))
      refine wlk_sreg fun KY hKY => ?_
      simp only [go_sem, c_forest_Forest_Labels_r6, hgo, bools_len, hol, hk2, hst, arun_cons, gstep_none, BOp.quiet]
      refine hKY _ ?_
      refine wlk_cond0 (by first | rfl | (simp only [go_sem]; try simp (disch := omega) only [decide_eq_true, decide_eq_false])) ?_
      refine wlk_skip ?_
      repeat (first | refine hn6 _ ?_ | refine he6 _ ?_ | refine hf6 _ _ (by decide) ?_ | refine hn5 _ ?_ | refine he5 _ _ ?_ | refine hn4 _ ?_ | refine he4 _ _ ?_ | refine he3 _ _ ?_ | refine hn2 _ ?_ | refine he2 _ ?_ | refine hf2 _ _ (by decide) ?_ | refine hn1 _ ?_ | refine he1 _ _ ?_)
      refine wlk_reg fun KY hKY => ?_
      simp only [go_sem, c_forest_Forest_Labels_r8, incS (show k < 4611686018427387904 by omega), arun_cons, gstep_none, BOp.quiet]
      refine hKY _ ?_
      repeat (first | refine hn6 _ ?_ | refine he6 _ ?_ | refine hf6 _ _ (by decide) ?_ | refine hn5 _ ?_ | refine he5 _ _ ?_ | refine hn4 _ ?_ | refine he4 _ _ ?_)
      refine hn3 _ (k + 1) (n - (k + 1)) (by omega) (by first | (simp only [go_sem, updAll_cons, updAll_nil, hst]; done) | with_reducible rfl) ?_
      exact ⟨hk2, rfl⟩
  have hdx : decide ((k : Int) < (n : Int)) = false := decide_eq_false (by omega)
  obtain rfl : k = n := by omega
  refine wlk_sreg fun KY hKY => ?_
  simp only [go_sem, c_forest_Forest_Labels_r3, hdx, arun_cons, gstep_none, BOp.quiet]
  refine hKY _ ?_
  refine wlk_seq fun X7 hn7 he7 hr7 => ?_
  refine wlk_cond0 (by first | rfl | (simp only [go_sem]; try simp (disch := omega) only [decide_eq_true, decide_eq_false])) ?_
  refine wlk_exit ?_
  repeat (first | refine hn7 _ ?_ | refine he7 _ _ ?_ | refine he3 _ _ ?_ | refine hn2 _ ?_ | refine he2 _ ?_ | refine hf2 _ _ (by decide) ?_ | refine hn1 _ ?_ | refine he1 _ _ ?_)
  have he : stp (fLb S) 0 k k = labs k S := by
    apply List.map_congr_left
    intro q hq
    rw [if_pos (List.mem_range.1 hq)]
  rw [he]
  refine wlk_sreg fun KY hKY => ?_
  simp only [go_sem, c_forest_Forest_Labels_r9, arun_cons, gstep_none, BOp.quiet]
  refine hKY _ ?_
  refine wlk_ret ?_
  repeat (first | refine hr7 _ ?_ | refine hr3 _ ?_ | refine hr2 _ ?_ | refine hr1 _ ?_)
  simp only [go_sem, ends, aResQ]
end Go.Proofs.Ytkjppnofgmpeeaa
set_option maxRecDepth 100000
set_option maxHeartbeats 4000000
namespace Go.Proofs.Ytkjppnofgmpeeaa
open Go Go.Ga Go.Ga.Gl
theorem fnext_ok (nr : List (List Nat)) (m : List Int) (F : FD) :
    ACalls Try.prog [] n_forest_Forest_Next [.ptr 0 0] [some (F.obj nr m)] fun r h' => r = .tup [.sc (.int .i64 ((F.wt.headD 0 : Nat) : Int)), .sc (.bool (!F.wt.isEmpty))] ∧ h' = [some (({ F with wt := F.wt.tail } : FD).obj nr m)] := by
  cases h : F.wt with
  | nil =>
    refine (next_none nr m F h).mono ?_
    rintro r h' ⟨rfl, rfl⟩
    obtain ⟨lab, out, ev, od, pr, rt, br, gone, up, bs, mr, tn, wt, lk⟩ := F
    simp only at h
    subst h
    exact ⟨rfl, rfl⟩
  | cons c ws => exact next_some nr m F h
theorem bs_ok (nr : List (List Nat)) {n : Nat} {m : List Int} {S : FS} {F : FD} (R : Rp n m S F) {v : Nat} (hv : v < n) :
    ACalls Try.prog [[1, 0]] n_forest_Forest_Base [.ptr 0 0, .sc (.int .i64 (v : Int))] [some (F.obj nr m)] fun r h' => r = .sc (.int .i64 (S.bs v : Int)) ∧ ∃ F' : FD, Rp n m S F' ∧ F'.wt = F.wt ∧ F'.tn = F.tn ∧ h' = [some (F'.obj nr m)] := by
  refine (Base_ok nr R hv).mono ?_
  rintro r h' ⟨rfl, up', R', rfl⟩
  exact ⟨rfl, _, R', rfl, rfl, rfl⟩
structure Pst (n : Nat) (E : Nat → Nat → Prop) (m : List Int) (S : FS) (F : FD) (o : Option Nat) : Prop where
  inv : Inv n E (mf m) S
  rp : Rp n m S F
  t0 : 0 ≤ F.tn
  tn : F.tn + nout n S ≤ n
  lk : (o = none ∧ F.wt = [] ∧ Lk E S []) ∨ ∃ c, o = some c ∧ c < n ∧ S.out c = true ∧ Lk E S (c :: F.wt)
theorem Rp.tail {n : Nat} {m : List Int} {S : FS} {F : FD} (R : Rp n m S F) : Rp n m S { F with wt := F.wt.tail } := by
  obtain ⟨s1, s2, s3, s4, s5, s6, s7, s8, s9, s10, s11⟩ := R.sz
  exact ⟨⟨s1, s2, s3, s4, s5, s6, s7, s8, s9, s10, s11⟩, R.ml, R.lab, R.out, R.pr, R.rt, R.rb, R.br, R.gone, R.uf, R.mr, fun x hx => R.wt x (List.mem_of_mem_tail hx), R.wn.sublist (List.tail_sublist _)⟩
theorem Pst.pop {n : Nat} {E : Nat → Nat → Prop} {m : List Int} {S : FS} {F : FD} (I : Inv n E (mf m) S) (R : Rp n m S F) (t0 : 0 ≤ F.tn) (tn : F.tn + nout n S ≤ n) (L : Lk E S F.wt) : ∃ o, F.wt.headD 0 = o.getD 0 ∧ (!F.wt.isEmpty) = o.isSome ∧ Pst n E m S { F with wt := F.wt.tail } o ∧ nout n S + F.wt.tail.length + (if o.isSome = true then 1 else 0) = nout n S + F.wt.length := by
  have R' := R.tail
  cases h : F.wt with
  | nil =>
    rw [h] at R' L
    exact ⟨none, rfl, rfl, ⟨I, R', t0, tn, .inl ⟨rfl, rfl, L⟩⟩, rfl⟩
  | cons c ws =>
    rw [h] at R' L
    have hc := R.wt c (by rw [h]; simp)
    exact ⟨some c, rfl, rfl, ⟨I, R', t0, tn, .inr ⟨c, rfl, hc.1, hc.2, L⟩⟩, by simp; omega⟩
theorem fst0_lk {n : Nat} {E : Nat → Nat → Prop} {m : List Int} (hml : m.length = n) : Lk E (fs0 n (mf m)) (fst0 n m n).wt := fun v w h1 h2 _ => by
  have h1 : decide (v < n ∧ mf m v = -1) = true := h1
  have h1 := of_decide_eq_true h1
  exact absurd (List.mem_filter.2 ⟨List.mem_range.2 h1.1, decide_eq_true ((mf_get (by omega)).trans h1.2)⟩ : v ∈ (List.range n).filter (fO m)) h2
structure Qst (n : Nat) (E : Nat → Nat → Prop) (m : List Int) (c : Nat) (rest : List Nat) (μ : Nat) (S : FS) (F : FD) : Prop where
  inv : Inv n E (mf m) S
  rp : Rp n m S F
  t0 : 0 ≤ F.tn
  tn : F.tn + nout n S ≤ n
  oc : S.out c = true
  lk : Lc E S F.wt c rest
  me : nout n S + F.wt.length = μ
theorem nout_grow {n : Nat} {E : Nat → Nat → Prop} {mt : Nat → Int} {S : FS} (M : Mf n E mt) (I : Inv n E mt S) {v w x : Nat} (hw : w < n) (hl : S.lab w = 0) (hx : mt w = (x : Int)) : nout n (grown S v w x) + 1 = nout n S := by
  obtain ⟨x', k1, hxN, hlx, hxw, hxo, hwo⟩ := fresh M I hw hl
  obtain rfl : x' = x := by omega
  refine nout_more (us := [x']) (by simp) (fun u hu => ?_) (fun u => ?_)
  · obtain rfl : u = x' := by simpa using hu
    exact ⟨hxN, hxo⟩
  · show (decide (u = x') || S.out u) = true ↔ _
    rw [Bool.or_eq_true, decide_eq_true_iff]
    simp [or_comm]
theorem search_ok (nr : List (List Nat)) {n : Nat} {E : Nat → Nat → Prop} {m : List Int} (hnr : nr.length = n) (hml : m.length = n) (hn : n ≤ 4096) (hrow : ∀ v, v < n → (nr.getD v []).length ≤ 1000000) (M : Mf n E (mf m)) (hE : ∀ v w, v < n → (w ∈ nr.getD v [] ↔ E v w)) :
    ACalls Try.prog [] n_single_Search [.imm 1 (rowsI nr), .imm 1 (ints m)] [] fun r h' => h' = [] ∧ ∃ lk : Int, (∃ l, Aug n E (mf m) l ∧ r = .tup [.own (some 1) (nats l), .sc (.slice none 0 0), .sc (.int .i64 lk)]) ∨ ∃ S, Inv n E (mf m) S ∧ Lk E S [] ∧ r = .tup [.sc (.slice none 0 0), .own (some 1) (ints (labs n S)), .sc (.int .i64 lk)] := by
  have hO : ∀ G : FD, G.obj nr m = [.imm 1 (rowsI nr), .imm 1 (ints m), .own (some 1) (ints G.lab), .own (some 1) (bools G.out), .own (some 1) (ints G.ev), .own (some 1) (ints G.od), .own (some 1) (ints G.pr), .own (some 1) (ints G.rt), .own (some 2) (twos G.br), .own (some 1) (bools G.gone), .own (some 1) (ints G.up), .own (some 1) (ints G.bs), .own (some 1) (ints G.mr), .sc (.int .i64 G.tn), .own (some 1) (nats G.wt), .sc (.int .i64 G.lk)] := fun _ => rfl
  have hN0 := fnew_ok nr hnr hml hn
  have hX0 := fun F : FD => fnext_ok nr m F
  have hLb := fun (S : FS) (F : FD) (R : Rp n m S F) => (labels_ok nr R hn)
  unfold FD.obj at hN0 hX0 hLb
  simp only at hX0
  refine ACalls.trim ?_
  refine go_single_Search rfl ?_
  unfold c_single_Search v_single_Search
  refine wlk_sreg fun KY hKY => ?_
  simp only [go_sem, c_single_Search_r0]
  refine hKY _ ?_
  refine wlk_sreg fun KY hKY => ?_
  simp only [go_sem, c_single_Search_r1]
  apply call_gen [] [] false none rfl
  iterate 8 (first | (simp only [go_sem, watchIn] <;> rfl) | rfl)
  refine (hN0).mono ?_
  rintro _ _ ⟨rfl, rfl⟩
  refine ⟨Nat.le_of_ble_eq_true rfl, (fun hh => by cases hh), ?_⟩
  simp only [go_sem, callOut, AState.after]
  refine hKY _ ?_
  refine wlk_sreg fun KY hKY => ?_
  simp only [go_sem, c_single_Search_r2]
  refine hKY _ ?_
  obtain ⟨o, e1, e2, P0, _⟩ := Pst.pop (fs0_inv n E (mf m)) (fst0_rp hml) (Int.le_refl _) (by show (0 : Int) + (nout n _ : Int) ≤ n; have := nout_le n (fs0 n (mf m)); omega) (fst0_lk hml)
  have hX1 := hX0 (fst0 n m n)
  rw [e1, e2] at hX1
  refine wlk_seq fun X1 hn1 he1 hr1 => ?_
  refine wlk_sreg fun KY hKY => ?_
  simp only [go_sem, c_single_Search_r3]
  apply call_gen [] [0] false none rfl
  iterate 8 (first | (simp only [go_sem, watchIn] <;> rfl) | rfl)
  refine (hX1).mono ?_
  rintro _ _ ⟨rfl, rfl⟩
  refine ⟨Nat.le_of_ble_eq_true rfl, (fun hh => by cases hh), ?_⟩
  simp only [go_sem, callOut, AState.after]
  refine hKY _ ?_
  refine wlk_blk fun X2 hn2 he2 hf2 hr2 => ?_
  try simp only [go_sem]
  refine wlk_lp (α := FS × FD × Option Nat) [12, 13, 24, 33, 34, 35, 36, 42, 43, 49, 57, 63] (fun (S0, F0, o) => [(9, .sc (.int .i64 ((o.getD 0 : Nat) : Int))), (10, .sc (.bool o.isSome))]) (fun (S0, F0, o) => [some [.imm 1 (rowsI nr), .imm 1 (ints m), .own (some 1) (ints F0.lab), .own (some 1) (bools F0.out), .own (some 1) (ints F0.ev), .own (some 1) (ints F0.od), .own (some 1) (ints F0.pr), .own (some 1) (ints F0.rt), .own (some 2) (twos F0.br), .own (some 1) (bools F0.gone), .own (some 1) (ints F0.up), .own (some 1) (ints F0.bs), .own (some 1) (ints F0.mr), .sc (.int .i64 F0.tn), .own (some 1) (nats F0.wt), .sc (.int .i64 F0.lk)]]) (fun (S0, F0, o) q => Pst n E m S0 F0 o ∧ q = nout n S0 + F0.wt.length + (if o.isSome = true then 1 else 0)) ((fs0 n (mf m), { fst0 n m n with wt := (fst0 n m n).wt.tail }, o)) (nout n (fs0 n (mf m)) + (fst0 n m n).wt.tail.length + (if o.isSome = true then 1 else 0)) rfl (by first | (simp only [go_sem, updAll_cons, updAll_nil]; done) | with_reducible rfl | rfl) (⟨P0, rfl⟩) ?_
  rintro ⟨S0, F0, o⟩ q ⟨P1, rfl⟩ X3 hn3 he3 hr3
  simp only [go_sem, updAll_cons, updAll_nil]
  refine wlk_seq fun X4 hn4 he4 hr4 => ?_
  refine wlk_sreg fun KY hKY => ?_
  simp only [go_sem, c_single_Search_r4]
  refine hKY _ ?_
  rcases P1.lk with ⟨rfl, hw0, hL0⟩ | ⟨c, rfl, hcn, hco, hLc⟩
  · refine wlk_cond0 (by first | rfl | (simp only [go_sem]; try simp (disch := omega) only [decide_eq_true, decide_eq_false])) ?_
    refine wlk_exit ?_
    repeat (first | refine hn4 _ ?_ | refine he4 _ _ ?_ | refine he3 _ _ ?_ | refine hn2 _ ?_ | refine he2 _ ?_ | refine hf2 _ _ (by decide) ?_ | refine hn1 _ ?_ | refine he1 _ _ ?_)
    have hLL := hLb S0 F0 P1.rp
    refine wlk_sdraw fun KY hKY => ?_
    simp only [go_sem, c_single_Search_r18]
    apply call_gen [] [0] false none rfl
    iterate 8 (first | (simp only [go_sem, watchIn] <;> rfl) | rfl)
    refine (hLL).mono ?_
    rintro _ _ ⟨rfl, rfl⟩
    refine ⟨Nat.le_of_ble_eq_true rfl, (fun hh => by cases hh), ?_⟩
    simp only [go_sem, callOut, AState.after]
    refine hKY _ ?_
    refine wlk_ret ?_
    repeat (first | refine hr4 _ ?_ | refine hr3 _ ?_ | refine hr2 _ ?_ | refine hr1 _ ?_)
    simp only [go_sem]
    exact ⟨_, .inr ⟨S0, P1.inv, hL0, rfl⟩⟩
  · refine wlk_cond1 (by first | rfl | (simp only [go_sem]; try simp (disch := omega) only [decide_eq_true, decide_eq_false])) ?_
    refine wlk_skip ?_
    repeat (first | refine hn4 _ ?_ | refine he4 _ _ ?_ | refine he3 _ _ ?_ | refine hn2 _ ?_ | refine he2 _ ?_ | refine hf2 _ _ (by decide) ?_ | refine hn1 _ ?_ | refine he1 _ _ ?_)
    refine wlk_seq fun X5 hn5 he5 hr5 => ?_
    refine wlk_blk fun X6 hn6 he6 hf6 hr6 => ?_
    have hgc : nr[c]? = some (nr.getD c []) := by
      rw [List.getD_eq_getElem?_getD, List.getElem?_eq_getElem (by omega)]; rfl
    have hrl := hrow c hcn
    have hEc := fun w => hE c w hcn
    generalize hrw : nr.getD c [] = row at hgc hrl hEc
    refine wlk_sreg fun KY hKY => ?_
    simp only [go_sem, c_single_Search_r5, rowsI_get hgc, rowsI_len, hnr, hcn, nats_len]
    refine hKY _ ?_
    refine wlk_blk fun X7 hn7 he7 hf7 hr7 => ?_
    try simp only [go_sem]
    refine wlk_lp (α := Nat × FS × FD) [12, 13, 36, 42, 43, 49, 57, 63] (fun (k, S, F) => [(35, .sc (.int .i64 (k : Int)))]) (fun (k, S, F) => [some [.imm 1 (rowsI nr), .imm 1 (ints m), .own (some 1) (ints F.lab), .own (some 1) (bools F.out), .own (some 1) (ints F.ev), .own (some 1) (ints F.od), .own (some 1) (ints F.pr), .own (some 1) (ints F.rt), .own (some 2) (twos F.br), .own (some 1) (bools F.gone), .own (some 1) (ints F.up), .own (some 1) (ints F.bs), .own (some 1) (ints F.mr), .sc (.int .i64 F.tn), .own (some 1) (nats F.wt), .sc (.int .i64 F.lk)]]) (fun (k, S, F) q => Qst n E m c (row.drop k) (nout n S0 + F0.wt.length) S F ∧ k ≤ row.length ∧ q = row.length - k) ((0, S0, F0)) (row.length) rfl (by first | (simp only [go_sem, updAll_cons, updAll_nil]; done) | with_reducible rfl | rfl) (⟨⟨P1.inv, P1.rp, P1.t0, P1.tn, hco, hLc.pop hEc M.es, rfl⟩, Nat.zero_le _, rfl⟩) ?_
    rintro ⟨k, S, F⟩ q ⟨Q, hk, rfl⟩ X8 hn8 he8 hr8
    simp only [go_sem, updAll_cons, updAll_nil]
    rcases Nat.lt_or_ge k row.length with hk2 | hk2
    · have hdx : decide ((k : Int) < (row.length : Int)) = true := decide_eq_true (by omega)
      have hx : row[k]? = some (row[k]) := List.getElem?_eq_getElem hk2
      have hxg : (nats row)[k]? = some (.sc (.int .i64 ((row[k] : Nat) : Int))) := by simp [nats, hx]
      have hmem : row[k] ∈ row := List.getElem_mem hk2
      have hdr : row.drop k = row[k] :: row.drop (k + 1) := List.drop_eq_getElem_cons hk2
      have Ql := Q.lk
      generalize hw : row[k] = w at hx hxg hmem hdr
      rw [hdr] at Ql
      have hcw := (hEc w).1 hmem
      have hwn := (M.el c w hcw).2.1
      have hL := look_ok nr Q.rp hcn hwn
      unfold FD.obj FD.upd at hL
      simp only at hL
      have i36 : (k : Int) < 4611686018427387904 := by omega
      by_cases h1 : mf m c = (w : Int)
      · have hk0 : lookN (mf m) S c w = 0 := if_pos h1
        obtain ⟨j1, j2⟩ := Q.inv.mate_same M Q.oc h1
        rw [hk0] at hL
        refine wlk_sreg fun KY hKY => ?_
        simp only [go_sem, c_single_Search_r6, hdx]
        refine hKY _ ?_
        refine wlk_seq fun X9 hn9 he9 hr9 => ?_
        refine wlk_cond1 (by first | rfl | (simp only [go_sem]; try simp (disch := omega) only [decide_eq_true, decide_eq_false])) ?_
        refine wlk_skip ?_
        repeat (first | refine hn9 _ ?_ | refine he9 _ _ ?_ | refine he8 _ _ ?_ | refine hn7 _ ?_ | refine he7 _ ?_ | refine hf7 _ _ (by decide) ?_ | refine hn6 _ ?_ | refine he6 _ ?_ | refine hf6 _ _ (by decide) ?_ | refine hn5 _ ?_ | refine he5 _ _ ?_ | refine hn4 _ ?_ | refine he4 _ _ ?_)
        refine wlk_seq fun X10 hn10 he10 hr10 => ?_
        refine wlk_blk fun X11 hn11 he11 hf11 hr11 => ?_
        refine wlk_sreg fun KY hKY => ?_
        simp only [go_sem, c_single_Search_r7, hxg, nats_len, hk2]
        refine hKY _ ?_
        refine wlk_sreg fun KY hKY => ?_
        simp only [go_sem, c_single_Search_r8]
        apply call_gen [] [0] false none rfl
        iterate 8 (first | (simp only [go_sem, watchIn] <;> rfl) | rfl)
        refine (hL).mono ?_
        rintro _ _ ⟨rfl, up2, lk2, R2, rfl⟩
        refine ⟨Nat.le_of_ble_eq_true rfl, (fun hh => by cases hh), ?_⟩
        simp only [go_sem, callOut, AState.after]
        refine hKY _ ?_
        refine wlk_blk fun X12 hn12 he12 hf12 hr12 => ?_
        refine wlk_sreg fun KY hKY => ?_
        simp only [go_sem, c_single_Search_r9]
        refine hKY _ ?_
        refine wlk_cond0 (by first | rfl | (simp only [go_sem]; try simp (disch := omega) only [decide_eq_true, decide_eq_false])) ?_
        refine wlk_sreg fun KY hKY => ?_
        simp only [go_sem, c_single_Search_r11]
        refine hKY _ ?_
        refine wlk_cond0 (by first | rfl | (simp only [go_sem]; try simp (disch := omega) only [decide_eq_true, decide_eq_false])) ?_
        refine wlk_skip ?_
        repeat (first | refine hn12 _ ?_ | refine he12 _ ?_ | refine hf12 _ _ (by decide) ?_ | refine hn11 _ ?_ | refine he11 _ ?_ | refine hf11 _ _ (by decide) ?_ | refine hn10 _ ?_ | refine he10 _ _ ?_ | refine hn9 _ ?_ | refine he9 _ _ ?_ | refine he8 _ _ ?_ | refine hn7 _ ?_ | refine he7 _ ?_ | refine hf7 _ _ (by decide) ?_ | refine hn6 _ ?_ | refine he6 _ ?_ | refine hf6 _ _ (by decide) ?_ | refine hn5 _ ?_ | refine he5 _ _ ?_ | refine hn4 _ ?_ | refine he4 _ _ ?_)
        refine wlk_reg fun KY hKY => ?_
        simp only [go_sem, c_single_Search_r16, incS (show k < 4611686018427387904 by omega)]
        refine hKY _ ?_
        repeat (first | refine hn12 _ ?_ | refine he12 _ ?_ | refine hf12 _ _ (by decide) ?_ | refine hn11 _ ?_ | refine he11 _ ?_ | refine hf11 _ _ (by decide) ?_ | refine hn10 _ ?_ | refine he10 _ _ ?_ | refine hn9 _ ?_ | refine he9 _ _ ?_)
        refine hn8 _ ((k + 1, S, ⟨F.lab, F.out, F.ev, F.od, F.pr, F.rt, F.br, F.gone, up2, F.bs, F.mr, F.tn, F.wt, lk2⟩)) (row.length - (k + 1)) (by omega) (by first | (simp only [go_sem, updAll_cons, updAll_nil]; done) | with_reducible rfl) ?_
        exact ⟨⟨Q.inv, R2, Q.t0, Q.tn, Q.oc, Ql.step Q.oc (Stp.refl _ _) j1 (fun ho => .inl (j2 ho)), Q.me⟩, hk2, rfl⟩
      · by_cases h2 : S.lab w = 0
        · have hk0 : lookN (mf m) S c w = 1 := by unfold lookN; rw [if_neg h1, if_pos h2]
          obtain ⟨x, hxm, hxn, _⟩ := fresh M Q.inv hwn h2
          obtain ⟨g1, g2, g3⟩ := grow_stp M Q.inv (v := c) (x := x) F.wt hwn h2 hxm
          have hng := nout_grow M Q.inv (v := c) hwn h2 hxm
          have G1 := (grow_inv M Q.inv Q.oc hcw h2 hxm).1
          have hGr := fun (F' : FD) (R' : Rp n m S F') => grow_ok nr M Q.inv R' hn Q.oc hwn h2 hxm
          unfold FD.obj at hGr
          rw [hk0] at hL
          refine wlk_sreg fun KY hKY => ?_
          simp only [go_sem, c_single_Search_r6, hdx]
          refine hKY _ ?_
          refine wlk_seq fun X13 hn13 he13 hr13 => ?_
          refine wlk_cond1 (by first | rfl | (simp only [go_sem]; try simp (disch := omega) only [decide_eq_true, decide_eq_false])) ?_
          refine wlk_skip ?_
          repeat (first | refine hn13 _ ?_ | refine he13 _ _ ?_ | refine he8 _ _ ?_ | refine hn7 _ ?_ | refine he7 _ ?_ | refine hf7 _ _ (by decide) ?_ | refine hn6 _ ?_ | refine he6 _ ?_ | refine hf6 _ _ (by decide) ?_ | refine hn5 _ ?_ | refine he5 _ _ ?_ | refine hn4 _ ?_ | refine he4 _ _ ?_)
          refine wlk_seq fun X14 hn14 he14 hr14 => ?_
          refine wlk_blk fun X15 hn15 he15 hf15 hr15 => ?_
          refine wlk_sreg fun KY hKY => ?_
          simp only [go_sem, c_single_Search_r7, hxg, nats_len, hk2]
          refine hKY _ ?_
          refine wlk_sreg fun KY hKY => ?_
          simp only [go_sem, c_single_Search_r8]
          apply call_gen [] [0] false none rfl
          iterate 8 (first | (simp only [go_sem, watchIn] <;> rfl) | rfl)
          refine (hL).mono ?_
          rintro _ _ ⟨rfl, up2, lk2, R2, rfl⟩
          refine ⟨Nat.le_of_ble_eq_true rfl, (fun hh => by cases hh), ?_⟩
          simp only [go_sem, callOut, AState.after]
          refine hKY _ ?_
          refine wlk_blk fun X16 hn16 he16 hf16 hr16 => ?_
          refine wlk_sreg fun KY hKY => ?_
          simp only [go_sem, c_single_Search_r9]
          refine hKY _ ?_
          refine wlk_cond1 (by first | rfl | (simp only [go_sem]; try simp (disch := omega) only [decide_eq_true, decide_eq_false])) ?_
          refine wlk_reg fun KY hKY => ?_
          simp only [go_sem, c_single_Search_r10]
          apply call_gen [] [0] false none rfl
          iterate 8 (first | (simp only [go_sem, watchIn] <;> rfl) | rfl)
          refine (hGr _ R2).mono ?_
          rintro _ _ ⟨rfl, F3, R3, hw3, ht3, rfl⟩
          refine ⟨Nat.le_of_ble_eq_true rfl, (fun hh => by cases hh), ?_⟩
          simp only [go_sem, callOut, AState.after]
          refine hKY _ ?_
          repeat (first | refine hn16 _ ?_ | refine he16 _ ?_ | refine hf16 _ _ (by decide) ?_ | refine hn15 _ ?_ | refine he15 _ ?_ | refine hf15 _ _ (by decide) ?_ | refine hn14 _ ?_ | refine he14 _ _ ?_ | refine hn13 _ ?_ | refine he13 _ _ ?_ | refine he8 _ _ ?_ | refine hn7 _ ?_ | refine he7 _ ?_ | refine hf7 _ _ (by decide) ?_ | refine hn6 _ ?_ | refine he6 _ ?_ | refine hf6 _ _ (by decide) ?_ | refine hn5 _ ?_ | refine he5 _ _ ?_ | refine hn4 _ ?_ | refine he4 _ _ ?_)
          refine wlk_reg fun KY hKY => ?_
          simp only [go_sem, c_single_Search_r16, incS (show k < 4611686018427387904 by omega)]
          refine hKY _ ?_
          repeat (first | refine hn16 _ ?_ | refine he16 _ ?_ | refine hf16 _ _ (by decide) ?_ | refine hn15 _ ?_ | refine he15 _ ?_ | refine hf15 _ _ (by decide) ?_ | refine hn14 _ ?_ | refine he14 _ _ ?_ | refine hn13 _ ?_ | refine he13 _ _ ?_)
          refine hn8 _ ((k + 1, grown S c w x, F3)) (row.length - (k + 1)) (by omega) (by first | (simp only [go_sem, updAll_cons, updAll_nil]; done) | with_reducible rfl) ?_
          have hw3' : F3.wt = F.wt ++ [x] := hw3
          have ht3' : F3.tn = F.tn := ht3
          rw [← hw3'] at g1
          have Qm := Q.me
          have Qt := Q.tn
          have Q0 := Q.t0
          refine ⟨⟨G1, R3, by omega, by omega, ?_, Ql.step Q.oc g1 g2 (fun ho => by rw [g3] at ho; cases ho), ?_⟩, hk2, rfl⟩
          · show (decide (c = x) || S.out c) = true
            rw [Q.oc, Bool.or_true]
          · rw [hw3', List.length_append, List.length_singleton]; omega
        · by_cases h3 : S.out w = true ∧ S.bs c ≠ S.bs w
          · have hk0 : lookN (mf m) S c w = 2 := by unfold lookN; rw [if_neg h1, if_neg h2, if_pos h3]
            rw [hk0] at hL
            refine wlk_sreg fun KY hKY => ?_
            simp only [go_sem, c_single_Search_r6, hdx]
            refine hKY _ ?_
            refine wlk_seq fun X17 hn17 he17 hr17 => ?_
            refine wlk_cond1 (by first | rfl | (simp only [go_sem]; try simp (disch := omega) only [decide_eq_true, decide_eq_false])) ?_
            refine wlk_skip ?_
            repeat (first | refine hn17 _ ?_ | refine he17 _ _ ?_ | refine he8 _ _ ?_ | refine hn7 _ ?_ | refine he7 _ ?_ | refine hf7 _ _ (by decide) ?_ | refine hn6 _ ?_ | refine he6 _ ?_ | refine hf6 _ _ (by decide) ?_ | refine hn5 _ ?_ | refine he5 _ _ ?_ | refine hn4 _ ?_ | refine he4 _ _ ?_)
            refine wlk_seq fun X18 hn18 he18 hr18 => ?_
            refine wlk_blk fun X19 hn19 he19 hf19 hr19 => ?_
            refine wlk_sreg fun KY hKY => ?_
            simp only [go_sem, c_single_Search_r7, hxg, nats_len, hk2]
            refine hKY _ ?_
            refine wlk_sreg fun KY hKY => ?_
            simp only [go_sem, c_single_Search_r8]
            apply call_gen [] [0] false none rfl
            iterate 8 (first | (simp only [go_sem, watchIn] <;> rfl) | rfl)
            refine (hL).mono ?_
            rintro _ _ ⟨rfl, up2, lk2, R2, rfl⟩
            refine ⟨Nat.le_of_ble_eq_true rfl, (fun hh => by cases hh), ?_⟩
            simp only [go_sem, callOut, AState.after]
            refine hKY _ ?_
            refine wlk_blk fun X20 hn20 he20 hf20 hr20 => ?_
            refine wlk_sreg fun KY hKY => ?_
            simp only [go_sem, c_single_Search_r9]
            refine hKY _ ?_
            refine wlk_cond0 (by first | rfl | (simp only [go_sem]; try simp (disch := omega) only [decide_eq_true, decide_eq_false])) ?_
            refine wlk_sreg fun KY hKY => ?_
            simp only [go_sem, c_single_Search_r11]
            refine hKY _ ?_
            refine wlk_cond1 (by first | rfl | (simp only [go_sem]; try simp (disch := omega) only [decide_eq_true, decide_eq_false])) ?_
            have B1 := bs_ok nr R2 hcn
            have B2 := fun (F' : FD) (R' : Rp n m S F') => bs_ok nr R' hwn
            have hd4 : decide ((S.bs c : Int) = (S.bs w : Int)) = false := decide_eq_false (by have := h3.2; omega)
            unfold FD.obj at B1 B2
            simp only at B1
            have Qm := Q.me
            have Qt := Q.tn
            have Q0 := Q.t0
            have hnl := nout_le n S
            refine wlk_seq fun X21 hn21 he21 hr21 => ?_
            refine wlk_sreg fun KY hKY => ?_
            simp only [go_sem, c_single_Search_r12]
            apply call_gen [] [0] false none rfl
            iterate 8 (first | (simp only [go_sem, watchIn] <;> rfl) | rfl)
            refine (B1.less (by simp)).mono ?_
            rintro _ _ ⟨rfl, F3, R3, hw3, ht3, rfl⟩
            refine ⟨Nat.le_of_ble_eq_true rfl, (fun hh => by cases hh), ?_⟩
            simp only [go_sem, callOut, AState.after]
            apply call_gen [] [0] false none rfl
            iterate 8 (first | (simp only [go_sem, watchIn] <;> rfl) | rfl)
            refine ((B2 F3 R3).less (by simp)).mono ?_
            rintro _ _ ⟨rfl, F4, R4, hw4, ht4, rfl⟩
            refine ⟨Nat.le_of_ble_eq_true rfl, (fun hh => by cases hh), ?_⟩
            simp only [go_sem, callOut, AState.after, hd4]
            refine hKY _ ?_
            refine wlk_cond0 (by first | rfl | (simp only [go_sem]; try simp (disch := omega) only [decide_eq_true, decide_eq_false])) ?_
            refine wlk_skip ?_
            repeat (first | refine hn21 _ ?_ | refine he21 _ _ ?_ | refine hn20 _ ?_ | refine he20 _ ?_ | refine hf20 _ _ (by decide) ?_ | refine hn19 _ ?_ | refine he19 _ ?_ | refine hf19 _ _ (by decide) ?_ | refine hn18 _ ?_ | refine he18 _ _ ?_ | refine hn17 _ ?_ | refine he17 _ _ ?_ | refine he8 _ _ ?_ | refine hn7 _ ?_ | refine he7 _ ?_ | refine hf7 _ _ (by decide) ?_ | refine hn6 _ ?_ | refine he6 _ ?_ | refine hf6 _ _ (by decide) ?_ | refine hn5 _ ?_ | refine he5 _ _ ?_ | refine hn4 _ ?_ | refine he4 _ _ ?_)
            by_cases hrt : S.rt c = S.rt w
            · have J := join_nil nr M Q.inv R4 hn (by omega) Q.oc h3.1 hcw h3.2 hrt
              unfold FD.obj at J
              refine wlk_sreg fun KY hKY => ?_
              simp only [go_sem, c_single_Search_r13]
              apply call_gen [] [0] false none rfl
              iterate 8 (first | (simp only [go_sem, watchIn] <;> rfl) | rfl)
              refine (J).mono ?_
              rintro _ _ ⟨rfl, T, F5, T1, R5, hst, hou, hb, hl, hno, hno1, ht5, rfl⟩
              refine ⟨Nat.le_of_ble_eq_true rfl, (fun hh => by cases hh), ?_⟩
              simp only [go_sem, callOut, AState.after]
              refine hKY _ ?_
              refine wlk_sreg fun KY hKY => ?_
              simp only [go_sem, c_single_Search_r14]
              refine hKY _ ?_
              refine wlk_cond0 (by first | rfl | (simp only [go_sem]; try simp (disch := omega) only [decide_eq_true, decide_eq_false])) ?_
              refine wlk_skip ?_
              repeat (first | refine hn21 _ ?_ | refine he21 _ _ ?_ | refine hn20 _ ?_ | refine he20 _ ?_ | refine hf20 _ _ (by decide) ?_ | refine hn19 _ ?_ | refine he19 _ ?_ | refine hf19 _ _ (by decide) ?_ | refine hn18 _ ?_ | refine he18 _ _ ?_ | refine hn17 _ ?_ | refine he17 _ _ ?_ | refine he8 _ _ ?_ | refine hn7 _ ?_ | refine he7 _ ?_ | refine hf7 _ _ (by decide) ?_ | refine hn6 _ ?_ | refine he6 _ ?_ | refine hf6 _ _ (by decide) ?_ | refine hn5 _ ?_ | refine he5 _ _ ?_ | refine hn4 _ ?_ | refine he4 _ _ ?_)
              refine wlk_reg fun KY hKY => ?_
              simp only [go_sem, c_single_Search_r16, incS (show k < 4611686018427387904 by omega)]
              rw [hw4, hw3] at hst hno
              refine hKY _ ?_
              repeat (first | refine hn21 _ ?_ | refine he21 _ _ ?_ | refine hn20 _ ?_ | refine he20 _ ?_ | refine hf20 _ _ (by decide) ?_ | refine hn19 _ ?_ | refine he19 _ ?_ | refine hf19 _ _ (by decide) ?_ | refine hn18 _ ?_ | refine he18 _ _ ?_ | refine hn17 _ ?_ | refine he17 _ _ ?_)
              refine hn8 _ ((k + 1, T, F5)) (row.length - (k + 1)) (by omega) (by first | (simp only [go_sem, updAll_cons, updAll_nil]; done) | with_reducible rfl) ?_
              exact ⟨⟨T1, R5, by omega, by omega, hou c Q.oc, Ql.step Q.oc hst hl (fun _ => .inl hb.symm), by omega⟩, hk2, rfl⟩
            · have J := join_path nr M Q.inv R4 hn Q.oc h3.1 hcw hrt
              unfold FD.obj at J
              refine wlk_sreg fun KY hKY => ?_
              simp only [go_sem, c_single_Search_r13]
              apply call_gen [] [0] false none rfl
              iterate 8 (first | (simp only [go_sem, watchIn] <;> rfl) | rfl)
              refine (J).mono ?_
              rintro _ _ ⟨l, hA, rfl, F5, rfl⟩
              cases l with
              | nil => obtain ⟨z, hz, _⟩ := hA.fr; simp at hz
              | cons a l =>
                have hnn : nats (a :: l) = .sc (.int .i64 (a : Int)) :: nats l := rfl
                refine ⟨Nat.le_of_ble_eq_true rfl, (fun hh => by cases hh), ?_⟩
                simp only [go_sem, callOut, AState.after]
                refine hKY _ ?_
                refine wlk_sreg fun KY hKY => ?_
                simp only [go_sem, c_single_Search_r14, hnn]
                refine hKY _ ?_
                refine wlk_cond1 (by first | rfl | (simp only [go_sem]; try simp (disch := omega) only [decide_eq_true, decide_eq_false])) ?_
                refine wlk_sdraw fun KY hKY => ?_
                simp only [go_sem, c_single_Search_r15]
                refine hKY _ ?_
                refine wlk_ret ?_
                repeat (first | refine hr21 _ ?_ | refine hr20 _ ?_ | refine hr19 _ ?_ | refine hr18 _ ?_ | refine hr17 _ ?_ | refine hr8 _ ?_ | refine hr7 _ ?_ | refine hr6 _ ?_ | refine hr5 _ ?_ | refine hr4 _ ?_ | refine hr3 _ ?_ | refine hr2 _ ?_ | refine hr1 _ ?_)
                simp only [go_sem]
                exact ⟨_, .inl ⟨a :: l, hA, rfl⟩⟩
          · have hk0 : lookN (mf m) S c w = 0 := by unfold lookN; rw [if_neg h1, if_neg h2, if_neg h3]
            rw [hk0] at hL
            refine wlk_sreg fun KY hKY => ?_
            simp only [go_sem, c_single_Search_r6, hdx]
            refine hKY _ ?_
            refine wlk_seq fun X22 hn22 he22 hr22 => ?_
            refine wlk_cond1 (by first | rfl | (simp only [go_sem]; try simp (disch := omega) only [decide_eq_true, decide_eq_false])) ?_
            refine wlk_skip ?_
            repeat (first | refine hn22 _ ?_ | refine he22 _ _ ?_ | refine he8 _ _ ?_ | refine hn7 _ ?_ | refine he7 _ ?_ | refine hf7 _ _ (by decide) ?_ | refine hn6 _ ?_ | refine he6 _ ?_ | refine hf6 _ _ (by decide) ?_ | refine hn5 _ ?_ | refine he5 _ _ ?_ | refine hn4 _ ?_ | refine he4 _ _ ?_)
            refine wlk_seq fun X23 hn23 he23 hr23 => ?_
            refine wlk_blk fun X24 hn24 he24 hf24 hr24 => ?_
            refine wlk_sreg fun KY hKY => ?_
            simp only [go_sem, c_single_Search_r7, hxg, nats_len, hk2]
            refine hKY _ ?_
            refine wlk_sreg fun KY hKY => ?_
            simp only [go_sem, c_single_Search_r8]
            apply call_gen [] [0] false none rfl
            iterate 8 (first | (simp only [go_sem, watchIn] <;> rfl) | rfl)
            refine (hL).mono ?_
            rintro _ _ ⟨rfl, up2, lk2, R2, rfl⟩
            refine ⟨Nat.le_of_ble_eq_true rfl, (fun hh => by cases hh), ?_⟩
            simp only [go_sem, callOut, AState.after]
            refine hKY _ ?_
            refine wlk_blk fun X25 hn25 he25 hf25 hr25 => ?_
            refine wlk_sreg fun KY hKY => ?_
            simp only [go_sem, c_single_Search_r9]
            refine hKY _ ?_
            refine wlk_cond0 (by first | rfl | (simp only [go_sem]; try simp (disch := omega) only [decide_eq_true, decide_eq_false])) ?_
            refine wlk_sreg fun KY hKY => ?_
            simp only [go_sem, c_single_Search_r11]
            refine hKY _ ?_
            refine wlk_cond0 (by first | rfl | (simp only [go_sem]; try simp (disch := omega) only [decide_eq_true, decide_eq_false])) ?_
            refine wlk_skip ?_
            repeat (first | refine hn25 _ ?_ | refine he25 _ ?_ | refine hf25 _ _ (by decide) ?_ | refine hn24 _ ?_ | refine he24 _ ?_ | refine hf24 _ _ (by decide) ?_ | refine hn23 _ ?_ | refine he23 _ _ ?_ | refine hn22 _ ?_ | refine he22 _ _ ?_ | refine he8 _ _ ?_ | refine hn7 _ ?_ | refine he7 _ ?_ | refine hf7 _ _ (by decide) ?_ | refine hn6 _ ?_ | refine he6 _ ?_ | refine hf6 _ _ (by decide) ?_ | refine hn5 _ ?_ | refine he5 _ _ ?_ | refine hn4 _ ?_ | refine he4 _ _ ?_)
            refine wlk_reg fun KY hKY => ?_
            simp only [go_sem, c_single_Search_r16, incS (show k < 4611686018427387904 by omega)]
            refine hKY _ ?_
            repeat (first | refine hn25 _ ?_ | refine he25 _ ?_ | refine hf25 _ _ (by decide) ?_ | refine hn24 _ ?_ | refine he24 _ ?_ | refine hf24 _ _ (by decide) ?_ | refine hn23 _ ?_ | refine he23 _ _ ?_ | refine hn22 _ ?_ | refine he22 _ _ ?_)
            refine hn8 _ ((k + 1, S, ⟨F.lab, F.out, F.ev, F.od, F.pr, F.rt, F.br, F.gone, up2, F.bs, F.mr, F.tn, F.wt, lk2⟩)) (row.length - (k + 1)) (by omega) (by first | (simp only [go_sem, updAll_cons, updAll_nil]; done) | with_reducible rfl) ?_
            exact ⟨⟨Q.inv, R2, Q.t0, Q.tn, Q.oc, Ql.step Q.oc (Stp.refl _ _) h2 (fun ho => .inl (Decidable.byContradiction fun e => h3 ⟨ho, fun e2 => e e2.symm⟩)), Q.me⟩, hk2, rfl⟩
    have hdx : decide ((k : Int) < (row.length : Int)) = false := decide_eq_false (by omega)
    obtain rfl : k = row.length := by omega
    have QL := Q.lk
    rw [List.drop_length] at QL
    obtain ⟨o, e1, e2, P2, hme⟩ := Pst.pop Q.inv Q.rp Q.t0 Q.tn QL.done
    have hX1 := hX0 F
    rw [e1, e2] at hX1
    have hQm := Q.me
    have hi1 : (if (some c).isSome = true then 1 else 0 : Nat) = 1 := rfl
    refine wlk_sreg fun KY hKY => ?_
    simp only [go_sem, c_single_Search_r6, hdx]
    refine hKY _ ?_
    refine wlk_seq fun X26 hn26 he26 hr26 => ?_
    refine wlk_cond0 (by first | rfl | (simp only [go_sem]; try simp (disch := omega) only [decide_eq_true, decide_eq_false])) ?_
    refine wlk_exit ?_
    repeat (first | refine hn26 _ ?_ | refine he26 _ _ ?_ | refine he8 _ _ ?_ | refine hn7 _ ?_ | refine he7 _ ?_ | refine hf7 _ _ (by decide) ?_ | refine hn6 _ ?_ | refine he6 _ ?_ | refine hf6 _ _ (by decide) ?_ | refine hn5 _ ?_ | refine he5 _ _ ?_ | refine hn4 _ ?_ | refine he4 _ _ ?_ | refine he3 _ _ ?_ | refine hn2 _ ?_ | refine he2 _ ?_ | refine hf2 _ _ (by decide) ?_ | refine hn1 _ ?_ | refine he1 _ _ ?_)
    refine wlk_reg fun KY hKY => ?_
    simp only [go_sem, c_single_Search_r17]
    apply call_gen [] [0] false none rfl
    iterate 8 (first | (simp only [go_sem, watchIn] <;> rfl) | rfl)
    refine (hX1).mono ?_
    rintro _ _ ⟨rfl, rfl⟩
    refine ⟨Nat.le_of_ble_eq_true rfl, (fun hh => by cases hh), ?_⟩
    simp only [go_sem, callOut, AState.after]
    refine hKY _ ?_
    repeat (first | refine hn26 _ ?_ | refine he26 _ _ ?_ | refine he8 _ _ ?_ | refine hn7 _ ?_ | refine he7 _ ?_ | refine hf7 _ _ (by decide) ?_ | refine hn6 _ ?_ | refine he6 _ ?_ | refine hf6 _ _ (by decide) ?_ | refine hn5 _ ?_ | refine he5 _ _ ?_ | refine hn4 _ ?_ | refine he4 _ _ ?_)
    refine hn3 _ ((S, { F with wt := F.wt.tail }, o)) (nout n S + F.wt.tail.length + (if o.isSome = true then 1 else 0)) (by omega) (by first | (simp only [go_sem, updAll_cons, updAll_nil]; done) | with_reducible rfl) ?_
    exact ⟨P2, rfl⟩
end Go.Proofs.Ytkjppnofgmpeeaa

namespace Go.Proofs.Ytkjppnofgmpeeaa
open Go Go.Ga
def c_math_bits_Mul64_r0 : List GOp := [(none, (.asg 4 (.c (.int .u64 0)) true)),
  (none, (.asg 5 (.c (.int .u64 0)) true))]
def c_math_bits_Mul64_r1 : List GOp := [(none, (.r (.mov 14 (.t 0)))),
  (none, (.r (.bin 15 .and 0 (.t 14) (.c (.int .u64 4294967295))))),
  (none, (.asg 6 (.t 15) true))]
def c_math_bits_Mul64_r2 : List GOp := [(none, (.r (.mov 16 (.t 0)))),
  (none, (.r (.bin 17 .shr 0 (.t 16) (.c (.int .u64 32))))),
  (none, (.asg 7 (.t 17) true))]
def c_math_bits_Mul64_r3 : List GOp := [(none, (.r (.mov 18 (.t 1)))),
  (none, (.r (.bin 19 .and 0 (.t 18) (.c (.int .u64 4294967295))))),
  (none, (.asg 8 (.t 19) true))]
def c_math_bits_Mul64_r4 : List GOp := [(none, (.r (.mov 20 (.t 1)))),
  (none, (.r (.bin 21 .shr 0 (.t 20) (.c (.int .u64 32))))),
  (none, (.asg 9 (.t 21) true))]
def c_math_bits_Mul64_r5 : List GOp := [(none, (.r (.mov 22 (.t 6)))),
  (none, (.r (.mov 23 (.t 8)))),
  (none, (.r (.bin 24 .mul 0 (.t 22) (.t 23)))),
  (none, (.asg 10 (.t 24) true))]
def c_math_bits_Mul64_r6 : List GOp := [(none, (.r (.mov 25 (.t 7)))),
  (none, (.r (.mov 26 (.t 8)))),
  (none, (.r (.bin 27 .mul 0 (.t 25) (.t 26)))),
  (none, (.r (.mov 28 (.t 10)))),
  (none, (.r (.bin 29 .shr 0 (.t 28) (.c (.int .u64 32))))),
  (none, (.r (.bin 30 .add 0 (.t 27) (.t 29)))),
  (none, (.asg 11 (.t 30) true))]
def c_math_bits_Mul64_r7 : List GOp := [(none, (.r (.mov 31 (.t 11)))),
  (none, (.r (.bin 32 .and 0 (.t 31) (.c (.int .u64 4294967295))))),
  (none, (.asg 12 (.t 32) true))]
def c_math_bits_Mul64_r8 : List GOp := [(none, (.r (.mov 33 (.t 11)))),
  (none, (.r (.bin 34 .shr 0 (.t 33) (.c (.int .u64 32))))),
  (none, (.asg 13 (.t 34) true))]
def c_math_bits_Mul64_r9 : List GOp := [(none, (.r (.mov 35 (.t 12)))),
  (none, (.r (.mov 36 (.t 6)))),
  (none, (.r (.mov 37 (.t 9)))),
  (none, (.r (.bin 38 .mul 0 (.t 36) (.t 37)))),
  (none, (.r (.bin 39 .add 0 (.t 35) (.t 38)))),
  (none, (.asg 12 (.t 39) true))]
def c_math_bits_Mul64_r10 : List GOp := [(none, (.r (.mov 40 (.t 7)))),
  (none, (.r (.mov 41 (.t 9)))),
  (none, (.r (.bin 42 .mul 0 (.t 40) (.t 41)))),
  (none, (.r (.mov 43 (.t 13)))),
  (none, (.r (.bin 44 .add 0 (.t 42) (.t 43)))),
  (none, (.r (.mov 45 (.t 12)))),
  (none, (.r (.bin 46 .shr 0 (.t 45) (.c (.int .u64 32))))),
  (none, (.r (.bin 47 .add 0 (.t 44) (.t 46)))),
  (none, (.asg 4 (.t 47) true))]
def c_math_bits_Mul64_r11 : List GOp := [(none, (.r (.mov 48 (.t 0)))),
  (none, (.r (.mov 49 (.t 1)))),
  (none, (.r (.bin 50 .mul 0 (.t 48) (.t 49)))),
  (none, (.asg 5 (.t 50) true))]
def v_math_bits_Mul64 : List Nat := [0, 1, 4, 5, 6, 7, 8, 9, 10, 11, 12, 13]
def c_math_bits_Mul64 : ACode :=
  (.seq
  (.reg [0, 1, 4, 5, 6, 7, 8, 9, 10, 11, 12, 13] c_math_bits_Mul64_r0 v_math_bits_Mul64)
  (.seq
  (.reg [0, 1, 4, 5, 6, 7, 8, 9, 10, 11, 12, 13] c_math_bits_Mul64_r1 v_math_bits_Mul64)
  (.seq
  (.reg [0, 1, 4, 5, 6, 7, 8, 9, 10, 11, 12, 13] c_math_bits_Mul64_r2 v_math_bits_Mul64)
  (.seq
  (.reg [0, 1, 4, 5, 6, 7, 8, 9, 10, 11, 12, 13] c_math_bits_Mul64_r3 v_math_bits_Mul64)
  (.seq
  (.reg [0, 1, 4, 5, 6, 7, 8, 9, 10, 11, 12, 13] c_math_bits_Mul64_r4 v_math_bits_Mul64)
  (.seq
  (.reg [0, 1, 4, 5, 6, 7, 8, 9, 10, 11, 12, 13] c_math_bits_Mul64_r5 v_math_bits_Mul64)
  (.seq
  (.reg [0, 1, 4, 5, 6, 7, 8, 9, 10, 11, 12, 13] c_math_bits_Mul64_r6 v_math_bits_Mul64)
  (.seq
  (.reg [0, 1, 4, 5, 6, 7, 8, 9, 10, 11, 12, 13] c_math_bits_Mul64_r7 v_math_bits_Mul64)
  (.seq
  (.reg [0, 1, 4, 5, 6, 7, 8, 9, 10, 11, 12, 13] c_math_bits_Mul64_r8 v_math_bits_Mul64)
  (.seq
  (.reg [0, 1, 4, 5, 6, 7, 8, 9, 10, 11, 12, 13] c_math_bits_Mul64_r9 v_math_bits_Mul64)
  (.seq
  (.reg [0, 1, 4, 5, 6, 7, 8, 9, 10, 11, 12, 13] c_math_bits_Mul64_r10 v_math_bits_Mul64)
  (.seq
  (.reg [0, 1, 4, 5, 6, 7, 8, 9, 10, 11, 12, 13] c_math_bits_Mul64_r11 v_math_bits_Mul64)
  .ret))))))))))))
abbrev n_math_bits_Mul64 : Nat := 88
theorem s_math_bits_Mul64 : stripF Try.prog [4, 5] v_math_bits_Mul64 Try.f88 = some (c_math_bits_Mul64, [(.tmp 4), (.tmp 5)]) := by kernel_rfl
theorem go_math_bits_Mul64 {L : List (List Nat)} {args : List AVal} {h : Heap} {Q : AVal → Heap → Prop} (hl : args.length = 2) (H : Wlk Try.prog [4, 5] Try.f88.ntmps v_math_bits_Mul64 L c_math_bits_Mul64 (ends L [(.tmp 4), (.tmp 5)] Q) (entry v_math_bits_Mul64 args h)) : ACalls Try.prog L n_math_bits_Mul64 args h Q :=
  acalls_of_strip mix Try.func88 s_math_bits_Mul64 (by rw [hl]; exact Nat.le_of_ble_eq_true rfl) H
end Go.Proofs.Ytkjppnofgmpeeaa
set_option maxRecDepth 100000
set_option maxHeartbeats 4000000
namespace Go.Proofs.Ytkjppnofgmpeeaa
open Go Go.Ga Go.Ga.Gl
theorem u64_in (n : Nat) (hn : n ≤ 4096) : IntKind.u64.wrap (n : Int) = (n : Int) := IntWalk.u64_in _ (by omega)
theorem u64_and (n : Nat) (hn : n ≤ 4096) : (BitVec.ofInt 64 (n : Int) &&& BitVec.ofInt 64 4294967295).toNat = n := by
  rw [BitVec.toNat_and, BitVec.toNat_ofInt, BitVec.toNat_ofInt]
  have e1 : ((n : Int) % ((2 ^ 64 : Nat) : Int)).toNat = n := by omega
  have e2 : ((4294967295 : Int) % ((2 ^ 64 : Nat) : Int)).toNat = 2 ^ 32 - 1 := by decide
  rw [e1, e2, Nat.and_two_pow_sub_one_eq_mod]
  omega
theorem u64_shr (n : Nat) (hn : n ≤ 4096) : (n : Int).fdiv (2 ^ 32) = 0 := by
  rw [Int.fdiv_eq_ediv_of_nonneg _ (by decide)]
  omega
def land64 (a b : Int) : Int := IntKind.u64.wrap ((BitVec.ofInt 64 a &&& BitVec.ofInt 64 b).toNat : Int)
theorem and64 (a b : Int) : intBin .and .u64 a b = some (.int .u64 (land64 a b)) := rfl
theorem shr64 (a : Int) : shiftBin .shr .u64 a 32 = some (.int .u64 (a.fdiv (2 ^ 32))) := rfl
theorem land_n (n : Nat) (hn : n ≤ 4096) : land64 (n : Int) 4294967295 = (n : Int) := by
  unfold land64
  rw [u64_and n hn]; exact u64_in n hn
theorem mul64_ok (n : Nat) (hn : n ≤ 4096) : ACalls Try.prog [] n_math_bits_Mul64 [.sc (.int .u64 1), .sc (.int .u64 (n : Int))] [] fun r h' => r = .tup [.sc (.int .u64 0), .sc (.int .u64 (n : Int))] ∧ h' = [] := by
  have s1 : (1 : Int).fdiv (2 ^ 32) = 0 := u64_shr 1 (by omega)
  have sn : (n : Int).fdiv (2 ^ 32) = 0 := u64_shr n hn
  have s0 : (0 : Int).fdiv (2 ^ 32) = 0 := u64_shr 0 (by omega)
  have w0 : IntKind.u64.wrap 0 = 0 := rfl
  have w1 : IntKind.u64.wrap 1 = 1 := rfl
  have wn := u64_in n hn
  have a0 : land64 0 4294967295 = 0 := land_n 0 (by omega)
  have a1 : land64 1 4294967295 = 1 := land_n 1 (by omega)
  have an := land_n n hn
  have m1 : IntKind.u64.wrap (1 * (n : Int)) = (n : Int) := by rw [Int.one_mul]; exact wn
  have m0 : IntKind.u64.wrap (0 * (n : Int)) = 0 := by rw [Int.zero_mul]; exact w0
  have m2 : IntKind.u64.wrap (1 * 0) = 0 := rfl
  have m3 : IntKind.u64.wrap (0 * 0) = 0 := rfl
  have m4 : IntKind.u64.wrap (0 + 0) = 0 := rfl
  refine go_math_bits_Mul64 rfl ?_
  unfold c_math_bits_Mul64 v_math_bits_Mul64
  refine wlk_sreg fun KY hKY => ?_
  simp only [go_sem, c_math_bits_Mul64_r0]
  refine hKY _ ?_
  refine wlk_sreg fun KY hKY => ?_
  simp only [go_sem, c_math_bits_Mul64_r1, ↓and64, a1]
  refine hKY _ ?_
  refine wlk_sreg fun KY hKY => ?_
  simp only [go_sem, c_math_bits_Mul64_r2, ↓shr64, s1]
  refine hKY _ ?_
  refine wlk_sreg fun KY hKY => ?_
  simp only [go_sem, c_math_bits_Mul64_r3, ↓and64, an]
  refine hKY _ ?_
  refine wlk_sreg fun KY hKY => ?_
  simp only [go_sem, c_math_bits_Mul64_r4, ↓shr64, sn]
  refine hKY _ ?_
  refine wlk_sreg fun KY hKY => ?_
  simp only [go_sem, c_math_bits_Mul64_r5, m1, w0, s0, sn, a0, m1, m4, Int.zero_add, Int.add_zero]
  refine hKY _ ?_
  refine wlk_sreg fun KY hKY => ?_
  simp only [go_sem, c_math_bits_Mul64_r6, ↓shr64, sn, m0, m4, w0, s0, sn, a0, m1, m4, Int.zero_add, Int.add_zero]
  refine hKY _ ?_
  refine wlk_sreg fun KY hKY => ?_
  simp only [go_sem, c_math_bits_Mul64_r7, ↓and64, a0, w0, s0, sn, a0, m1, m4, Int.zero_add, Int.add_zero]
  refine hKY _ ?_
  refine wlk_sreg fun KY hKY => ?_
  simp only [go_sem, c_math_bits_Mul64_r8, ↓shr64, s0, w0, s0, sn, a0, m1, m4, Int.zero_add, Int.add_zero]
  refine hKY _ ?_
  refine wlk_sreg fun KY hKY => ?_
  simp only [go_sem, c_math_bits_Mul64_r9, m2, m4, w0, s0, sn, a0, m1, m4, Int.zero_add, Int.add_zero]
  refine hKY _ ?_
  refine wlk_sreg fun KY hKY => ?_
  simp only [go_sem, c_math_bits_Mul64_r10, ↓shr64, s0, m3, m4, w0, s0, sn, a0, m1, m4, Int.zero_add, Int.add_zero]
  refine hKY _ ?_
  refine wlk_sreg fun KY hKY => ?_
  simp only [go_sem, c_math_bits_Mul64_r11, m1, w0, s0, sn, a0, m1, m4, Int.zero_add, Int.add_zero]
  refine hKY _ ?_
  refine wlk_ret ?_
  simp only [go_sem]
theorem mul_ok (n : Nat) (hn : n ≤ 4096) : ACalls Try.prog [] n_math_bits_Mul [.sc (.int .u64 1), .sc (.int .u64 (n : Int))] [] fun r h' => r = .tup [.sc (.int .u64 0), .sc (.int .u64 (n : Int))] ∧ h' = [] := by
  refine go_math_bits_Mul rfl ?_
  unfold c_math_bits_Mul v_math_bits_Mul
  refine wlk_sreg fun KY hKY => ?_
  simp only [go_sem, c_math_bits_Mul_r0]
  refine hKY _ ?_
  refine wlk_seq fun X1 hn1 he1 hr1 => ?_
  refine wlk_cond0 (by first | rfl | (simp only [go_sem]; try simp (disch := omega) only [decide_eq_true, decide_eq_false])) ?_
  refine wlk_skip ?_
  repeat (first | refine hn1 _ ?_ | refine he1 _ _ ?_)
  refine wlk_sreg fun KY hKY => ?_
  simp only [go_sem, c_math_bits_Mul_r3]
  apply call_gen [] [] false none rfl
  iterate 8 (first | (simp only [go_sem, watchIn] <;> rfl) | rfl)
  refine (mul64_ok n hn).mono ?_
  rintro _ _ ⟨rfl, rfl⟩
  refine ⟨Nat.le_of_ble_eq_true rfl, (fun hh => by cases hh), ?_⟩
  simp only [go_sem, callOut, AState.after]
  refine hKY _ ?_
  refine wlk_sreg fun KY hKY => ?_
  simp only [go_sem, c_math_bits_Mul_r4]
  refine hKY _ ?_
  refine wlk_ret ?_
  repeat (first | refine hr1 _ ?_)
  simp only [go_sem]
end Go.Proofs.Ytkjppnofgmpeeaa
set_option maxRecDepth 100000
set_option maxHeartbeats 4000000
namespace Go.Proofs.Ytkjppnofgmpeeaa
open Go Go.Ga Go.Ga.Gl
def rpt (x : Int) (n k : Nat) : List Int := List.replicate k x ++ List.replicate (n - k) 0
theorem rpt_len {x : Int} {n k : Nat} (h : k ≤ n) : (rpt x n k).length = n := by simp [rpt]; omega
theorem repeat_ok (x : Int) (n : Nat) (hn : n ≤ 4096) : ACalls Try.prog [] n_slices_Repeat___int_int_ [.own (some 1) (ints [x]), .sc (.int .i64 (n : Int))] [] fun r h' => (n = 0 ∧ r = .own (some 1) [] ∧ h' = []) ∨ (0 < n ∧ r = .sl 0 0 n 1 ∧ h' = [some (ints (List.replicate n x))]) := by
  have hd1 : decide ((n : Int) < 0) = false := decide_eq_false (by omega)
  have hd2 : decide ((9223372036854775807 : Int) < (n : Int)) = false := decide_eq_false (by omega)
  have w1 : IntKind.u64.wrap 1 = 1 := rfl
  have wn := u64_in n hn
  have wi : IntKind.i64.wrap (n : Int) = (n : Int) := IntWalk.i64_in _ (by omega)
  have hm1 : 8 * n ≤ 140737488355328 ∧ (n : Int) ≤ 9223372036854775807 := by omega
  refine go_slices_Repeat___int_int_ rfl ?_
  unfold c_slices_Repeat___int_int_ v_slices_Repeat___int_int_
  refine wlk_sreg fun KY hKY => ?_
  simp only [go_sem, c_slices_Repeat___int_int__r0]
  refine hKY _ ?_
  refine sem_freeze [0, 0] (by simp only [go_sem]; rfl) ?_
  simp only [go_sem]
  refine wlk_seq fun X1 hn1 he1 hr1 => ?_
  refine wlk_sreg fun KY hKY => ?_
  simp only [go_sem, c_slices_Repeat___int_int__r1, hd1]
  refine hKY _ ?_
  refine wlk_cond0 (by first | rfl | (simp only [go_sem]; try simp (disch := omega) only [decide_eq_true, decide_eq_false])) ?_
  refine wlk_skip ?_
  repeat (first | refine hn1 _ ?_ | refine he1 _ _ ?_)
  refine wlk_sreg fun KY hKY => ?_
  simp only [go_sem, c_slices_Repeat___int_int__r3, ints_len, w1, wn]
  apply call_gen [] [] false none rfl
  iterate 8 (first | (simp only [go_sem, watchIn] <;> rfl) | rfl)
  refine (mul_ok n hn).mono ?_
  rintro _ _ ⟨rfl, rfl⟩
  refine ⟨Nat.le_of_ble_eq_true rfl, (fun hh => by cases hh), ?_⟩
  simp only [go_sem, callOut, AState.after]
  refine hKY _ ?_
  refine wlk_seq fun X2 hn2 he2 hr2 => ?_
  refine wlk_sreg fun KY hKY => ?_
  simp only [go_sem, c_slices_Repeat___int_int__r4, hd2]
  refine hKY _ ?_
  refine wlk_cond0 (by first | rfl | (simp only [go_sem]; try simp (disch := omega) only [decide_eq_true, decide_eq_false])) ?_
  refine wlk_skip ?_
  repeat (first | refine hn2 _ ?_ | refine he2 _ _ ?_ | refine hn1 _ ?_ | refine he1 _ _ ?_)
  refine wlk_sreg fun KY hKY => ?_
  simp only [go_sem, c_slices_Repeat___int_int__r6, wi, hm1, Int.le_refl, ints_zeroZ]
  refine hKY _ ?_
  have e1 : (ints [x]).length / 1 = 1 := by simp [ints]
  rcases Nat.eq_zero_or_pos n with h0 | h0
  · subst h0
    have e0 : ints (List.replicate 0 (0 : Int)) = [] := rfl
    have hdz : decide ((0 : Int) < 0) = false := rfl
    rw [e0]
    refine wlk_sreg fun KY hKY => ?_
    simp only [go_sem, c_slices_Repeat___int_int__r7]
    refine hKY _ ?_
    refine wlk_seq fun X3 hn3 he3 hr3 => ?_
    refine wlk_blk fun X4 hn4 he4 hf4 hr4 => ?_
    try simp only [go_sem]
    refine wlk_lp (α := Unit) [37] (fun u => []) (fun u => []) (fun u q => q = 0) (()) (0) rfl (by first | (simp only [go_sem, updAll_cons, updAll_nil]; done) | with_reducible rfl | rfl) (rfl) ?_
    rintro u q rfl X5 hn5 he5 hr5
    simp only [go_sem, updAll_cons, updAll_nil]
    refine wlk_seq fun X6 hn6 he6 hr6 => ?_
    refine wlk_sreg fun KY hKY => ?_
    simp only [go_sem, c_slices_Repeat___int_int__r8, hdz]
    refine hKY _ ?_
    refine wlk_cond0 (by first | rfl | (simp only [go_sem]; try simp (disch := omega) only [decide_eq_true, decide_eq_false])) ?_
    refine wlk_exit ?_
    repeat (first | refine hn6 _ ?_ | refine he6 _ _ ?_ | refine he5 _ _ ?_ | refine hn4 _ ?_ | refine he4 _ ?_ | refine hf4 _ _ (by decide) ?_ | refine hn3 _ ?_ | refine he3 _ _ ?_ | refine hn2 _ ?_ | refine he2 _ _ ?_ | refine hn1 _ ?_ | refine he1 _ _ ?_)
    refine wlk_sreg fun KY hKY => ?_
    simp only [go_sem, c_slices_Repeat___int_int__r10]
    refine hKY _ ?_
    refine wlk_ret ?_
    repeat (first | refine hr6 _ ?_ | refine hr5 _ ?_ | refine hr4 _ ?_ | refine hr3 _ ?_ | refine hr2 _ ?_ | refine hr1 _ ?_)
    simp only [go_sem]
  · have hne : ints (List.replicate n (0 : Int)) ≠ [] := fun h => by
      have := congrArg List.length h
      simp [ints] at this; omega
    refine sem_shsl [0, 7] (by simp only [go_sem]; rfl) hne ?_
    simp only [go_sem, ints_len, List.length_replicate]
    have c0 : ints ((List.replicate n (0 : Int)).set 0 x) = ints (rpt x n 1) := by
      obtain ⟨k, rfl⟩ : ∃ k, n = k + 1 := ⟨n - 1, by omega⟩
      rfl
    have x1 : ints [x] = [.sc (.int .i64 x)] := rfl
    have hmn : min 1 n = 1 := by omega
    refine wlk_sreg fun KY hKY => ?_
    simp only [go_sem, c_slices_Repeat___int_int__r7, hmn, h0, e1, List.length_replicate, c0, x1, Nat.min_self]
    refine hKY _ ?_
    refine wlk_seq fun X7 hn7 he7 hr7 => ?_
    refine wlk_blk fun X8 hn8 he8 hf8 hr8 => ?_
    try simp only [go_sem]
    refine wlk_lp (α := Nat) [37] (fun k => [(8, .sc (.int .i64 (k : Int)))]) (fun k => [some (ints (rpt x n k))]) (fun k q => 1 ≤ k ∧ k ≤ n ∧ q = n - k) (1) (n - 1) rfl (by first | (simp only [go_sem, updAll_cons, updAll_nil]; done) | with_reducible rfl | rfl) (⟨Nat.le_refl _, h0, rfl⟩) ?_
    rintro k q ⟨hk1, hk, rfl⟩ X9 hn9 he9 hr9
    simp only [go_sem, updAll_cons, updAll_nil]
    rcases Nat.lt_or_ge k n with hk2 | hk2
    · have hdx : decide ((k : Int) < (n : Int)) = true := decide_eq_true (by omega)
      have hlen := rpt_len (x := x) hk
      have hsrc : List.take k (ints (rpt x n k)) = ints (List.replicate k x) := by
        unfold rpt ints
        rw [List.map_append, List.take_append_of_le_length (by simp), List.take_of_length_le (by simp)]
      have hset : setCells (ints (rpt x n k)) k (List.take (min k (n - k)) (ints (List.replicate k x))) = ints (rpt x n (k + min k (n - k))) := by
        rw [setCells_eq _ _ _ (by simp [ints, hlen]; omega)]
        have hl2 : (List.take (min k (n - k)) (ints (List.replicate k x))).length = min k (n - k) := by simp [ints]
        rw [hl2, hsrc]
        have h3 : List.drop (k + min k (n - k)) (ints (rpt x n k)) = ints (List.replicate (n - (k + min k (n - k))) 0) := by
          unfold rpt ints
          rw [List.map_append, List.drop_append, List.drop_of_length_le (by simp)]
          simp
          omega
        rw [h3]
        unfold rpt ints
        rw [← List.map_take, ← List.map_append, ← List.map_append, List.take_replicate]
        congr 2
        rw [List.replicate_append_replicate]
        congr 1
        omega
      have hwk : IntKind.i64.wrap ((k : Int) + ((min k (n - k) : Nat) : Int)) = ((k + min k (n - k) : Nat) : Int) := by rw [IntWalk.i64_in _ (by omega)]; omega
      have hcopy := ints_copyable (List.replicate k x)
      have hlk : k + min k (n - k) ≤ n := by omega
      refine wlk_seq fun X10 hn10 he10 hr10 => ?_
      refine wlk_sreg fun KY hKY => ?_
      simp only [go_sem, c_slices_Repeat___int_int__r8, hdx]
      refine hKY _ ?_
      refine wlk_cond1 (by first | rfl | (simp only [go_sem]; try simp (disch := omega) only [decide_eq_true, decide_eq_false])) ?_
      refine wlk_skip ?_
      repeat (first | refine hn10 _ ?_ | refine he10 _ _ ?_ | refine he9 _ _ ?_ | refine hn8 _ ?_ | refine he8 _ ?_ | refine hf8 _ _ (by decide) ?_ | refine hn7 _ ?_ | refine he7 _ _ ?_ | refine hn2 _ ?_ | refine he2 _ _ ?_ | refine hn1 _ ?_ | refine he1 _ _ ?_)
      refine wlk_blk fun X11 hn11 he11 hf11 hr11 => ?_
      refine wlk_draw fun KY hKY => ?_
      simp only [go_sem, c_slices_Repeat___int_int__r9, hlen, hk, hk2, ints_len, Nat.le_of_lt hk2, hsrc, hset, List.length_replicate, hlk, hwk, Nat.le_refl, Nat.sub_zero]
      refine ⟨?_, ?_⟩
      · refine hKY _ ?_
        repeat (first | refine hn11 _ ?_ | refine he11 _ ?_ | refine hf11 _ _ (by decide) ?_ | refine hn10 _ ?_ | refine he10 _ _ ?_)
        refine hn9 _ (k + min k (n - k)) (n - (k + min k (n - k))) (by omega) (by first | (simp only [go_sem, updAll_cons, updAll_nil]; done) | with_reducible rfl) ?_
        exact ⟨by omega, hlk, rfl⟩
      · refine hKY _ ?_
        repeat (first | refine hn11 _ ?_ | refine he11 _ ?_ | refine hf11 _ _ (by decide) ?_ | refine hn10 _ ?_ | refine he10 _ _ ?_)
        refine hn9 _ (k + min k (n - k)) (n - (k + min k (n - k))) (by omega) (by first | (simp only [go_sem, updAll_cons, updAll_nil]; done) | with_reducible rfl) ?_
        exact ⟨by omega, hlk, rfl⟩
    have hdx : decide ((k : Int) < (n : Int)) = false := decide_eq_false (by omega)
    obtain rfl : k = n := by omega
    refine wlk_seq fun X12 hn12 he12 hr12 => ?_
    refine wlk_sreg fun KY hKY => ?_
    simp only [go_sem, c_slices_Repeat___int_int__r8, hdx]
    refine hKY _ ?_
    refine wlk_cond0 (by first | rfl | (simp only [go_sem]; try simp (disch := omega) only [decide_eq_true, decide_eq_false])) ?_
    refine wlk_exit ?_
    repeat (first | refine hn12 _ ?_ | refine he12 _ _ ?_ | refine he9 _ _ ?_ | refine hn8 _ ?_ | refine he8 _ ?_ | refine hf8 _ _ (by decide) ?_ | refine hn7 _ ?_ | refine he7 _ _ ?_ | refine hn2 _ ?_ | refine he2 _ _ ?_ | refine hn1 _ ?_ | refine he1 _ _ ?_)
    refine wlk_sreg fun KY hKY => ?_
    simp only [go_sem, c_slices_Repeat___int_int__r10]
    refine hKY _ ?_
    refine wlk_ret ?_
    repeat (first | refine hr12 _ ?_ | refine hr9 _ ?_ | refine hr8 _ ?_ | refine hr7 _ ?_ | refine hr2 _ ?_ | refine hr1 _ ?_)
    simp only [go_sem]
    exact .inr ⟨h0, by simp [rpt]⟩
end Go.Proofs.Ytkjppnofgmpeeaa
set_option maxRecDepth 100000
set_option maxHeartbeats 4000000
namespace Go.Proofs.Ytkjppnofgmpeeaa
open Go Go.Ga Go.Ga.Gl
theorem two_mk (a b : Int) : two (a, b) = [.sc (.int .i64 a), .sc (.int .i64 b)] := rfl
def cmpE (a b : Int × Int) : Int := if cmpI a.1 b.1 ≠ 0 then cmpI a.1 b.1 else cmpI a.2 b.2
theorem cmpE_lt (a b : Int × Int) : cmpE a b < 0 ↔ (a.1 < b.1 ∨ a.1 = b.1 ∧ a.2 < b.2) := by
  unfold cmpE cmpI
  repeat' split
  all_goals omega
theorem ocompare_ok (a b : Int × Int) : ACalls Try.prog [] n_graph_order_compare [.agg [], .agg (two a), .agg (two b)] [] fun r h' => r = .sc (.int .i64 (cmpE a b)) ∧ h' = [] := by
  obtain ⟨a1, a2⟩ := a
  obtain ⟨b1, b2⟩ := b
  simp only [two_mk]
  refine go_graph_order_compare rfl ?_
  unfold c_graph_order_compare v_graph_order_compare
  refine wlk_sreg fun KY hKY => ?_
  simp only [go_sem, c_graph_order_compare_r0]
  refine hKY _ ?_
  refine wlk_sdraw fun KY hKY => ?_
  simp only [go_sem, c_graph_order_compare_r1]
  refine call_view rfl (by simp only [go_sem] <;> rfl) ((compare_ok _ _).mono ?_)
  rintro rr hh ⟨rfl, rfl⟩
  refine ⟨rfl, rfl, rfl, ?_⟩
  simp only [go_sem]
  refine call_view rfl (by simp only [go_sem] <;> rfl) ((compare_ok _ _).mono ?_)
  rintro rr hh ⟨rfl, rfl⟩
  refine ⟨rfl, rfl, rfl, ?_⟩
  simp only [go_sem]
  refine call_view rfl (by simp only [go_sem] <;> rfl) ((or_ok [cmpI a1 b1, cmpI a2 b2] (Nat.le_of_ble_eq_true rfl)).mono ?_)
  rintro rr hh ⟨rfl, rfl⟩
  refine ⟨rfl, rfl, rfl, ?_⟩
  simp only [go_sem]
  refine hKY _ ?_
  refine wlk_ret ?_
  simp only [go_sem]
  unfold cmpE
  by_cases h : cmpI a1 b1 = 0
  · by_cases h2 : cmpI a2 b2 = 0
    · simp [h, h2]
    · simp [h, h2]
  · simp [h]
theorem right_ok (n : Int) (es : List (Int × Int)) : ACalls Try.prog [] n_graph_Right [.agg [.sc (.int .i64 n), .imm 2 (twos es)]] [] fun r h' => r = .sc (.bool (rightB n es)) ∧ h' = [] := by
  refine go_graph_Right rfl ?_
  unfold c_graph_Right v_graph_Right
  refine wlk_sreg fun KY hKY => ?_
  simp only [go_sem, c_graph_Right_r0]
  refine hKY _ ?_
  refine wlk_seq fun X1 hn1 he1 hr1 => ?_
  by_cases h : 0 ≤ n ∧ n ≤ 4096 ∧ es.length ≤ 65536
  · obtain ⟨h0, h1, h2⟩ := h
    refine wlk_sreg fun KY hKY => ?_
    simp only [go_sem, c_graph_Right_r1, twos_len, mul2]
    repeat (simp (disch := omega) only [if_pos, if_neg, decide_eq_true, decide_eq_false, incS, nats_get, ints_get, twos_len, mul2]; try simp only [go_sem, twos_len, mul2])
    refine hKY _ ?_
    refine wlk_cond0 (by first | rfl | (simp only [go_sem]; try simp (disch := omega) only [decide_eq_true, decide_eq_false])) ?_
    refine wlk_skip ?_
    repeat (first | refine hn1 _ ?_ | refine he1 _ _ ?_)
    refine wlk_sreg fun KY hKY => ?_
    simp only [go_sem, c_graph_Right_r3]
    refine hKY _ ?_
    refine wlk_seq fun X2 hn2 he2 hr2 => ?_
    refine wlk_sreg fun KY hKY => ?_
    simp only [go_sem, c_graph_Right_r4, twos_len, mul2]
    refine hKY _ ?_
    refine wlk_blk fun X3 hn3 he3 hf3 hr3 => ?_
    try simp only [go_sem]
    refine wlk_lp (α := Nat) [4, 5, 26, 62] (fun k => [(25, .sc (.int .i64 (k : Int)))]) (fun k => []) (fun k q => k ≤ es.length ∧ q = es.length - k ∧ ∀ j, j < k → okAt n es j = true) (0) (es.length) rfl (by first | (simp only [go_sem, updAll_cons, updAll_nil]; done) | with_reducible rfl | rfl) (⟨by omega, rfl, fun j h => by omega⟩) ?_
    rintro k q ⟨hk, rfl, hz⟩ X4 hn4 he4 hr4
    simp only [go_sem, updAll_cons, updAll_nil]
    refine wlk_sreg fun KY hKY => ?_
    simp only [go_sem, c_graph_Right_r5]
    refine hKY _ ?_
    refine wlk_seq fun X5 hn5 he5 hr5 => ?_
    by_cases hk2 : k < es.length
    · refine wlk_cond1 (by first | rfl | (simp only [go_sem]; try simp (disch := omega) only [decide_eq_true, decide_eq_false])) ?_
      refine wlk_skip ?_
      repeat (first | refine hn5 _ ?_ | refine he5 _ _ ?_ | refine he4 _ _ ?_ | refine hn3 _ ?_ | refine he3 _ ?_ | refine hf3 _ _ (by decide) ?_ | refine hn2 _ ?_ | refine he2 _ _ ?_ | refine hn1 _ ?_ | refine he1 _ _ ?_)
      refine wlk_seq fun X6 hn6 he6 hr6 => ?_
      refine wlk_blk fun X7 hn7 he7 hf7 hr7 => ?_
      have hx : es[k]? = some es[k] := List.getElem?_eq_getElem hk2
      have hy : es.getD k (0, 0) = es[k] := by simp [List.getD_eq_getElem?_getD, hx]
      generalize es[k] = x at hx hy
      obtain ⟨a, b⟩ := x
      refine wlk_sreg fun KY hKY => ?_
      simp only [go_sem, c_graph_Right_r6, two_cells hx, List.length_drop]
      repeat (simp (disch := omega) only [if_pos, if_neg, decide_eq_true, decide_eq_false, incS, nats_get, ints_get, two_cells hx, List.length_drop]; try simp only [go_sem, two_cells hx, List.length_drop])
      refine hKY _ ?_
      have hiff : okAt n es k = true ↔ 0 ≤ a ∧ a < b ∧ b < n ∧ (k = 0 ∨ ((es.getD (k - 1) (0, 0)).1 < a ∨ (es.getD (k - 1) (0, 0)).1 = a ∧ (es.getD (k - 1) (0, 0)).2 < b)) := by
        simp only [okAt, hy, Bool.and_eq_true, Bool.or_eq_true, decide_eq_true_eq, and_assoc]
      by_cases ha : a < 0
      · have hf : okAt n es k = false := by rw [Bool.eq_false_iff]; intro h; have := hiff.1 h; omega
        refine wlk_sdraw fun KY hKY => ?_
        simp only [go_sem, c_graph_Right_r7, ha]
        repeat (simp (disch := omega) only [if_pos, if_neg, decide_eq_true, decide_eq_false, incS, nats_get, ints_get, ha]; try simp only [go_sem, ha])
        refine hKY _ ?_
        refine wlk_cond1 (by first | rfl | (simp only [go_sem]; try simp (disch := omega) only [decide_eq_true, decide_eq_false])) ?_
        refine wlk_sreg fun KY hKY => ?_
        simp only [go_sem, c_graph_Right_r8]
        refine hKY _ ?_
        refine wlk_ret ?_
        repeat (first | refine hr7 _ ?_ | refine hr6 _ ?_ | refine hr5 _ ?_ | refine hr4 _ ?_ | refine hr3 _ ?_ | refine hr2 _ ?_ | refine hr1 _ ?_)
        simp only [go_sem]
        rw [rightB_false hk2 hf]
      · by_cases hb : b ≤ a
        · have hf : okAt n es k = false := by rw [Bool.eq_false_iff]; intro h; have := hiff.1 h; omega
          refine wlk_sdraw fun KY hKY => ?_
          simp only [go_sem, c_graph_Right_r7, ha, hb]
          repeat (simp (disch := omega) only [if_pos, if_neg, decide_eq_true, decide_eq_false, incS, nats_get, ints_get, ha, hb]; try simp only [go_sem, ha, hb])
          refine hKY _ ?_
          refine wlk_cond1 (by first | rfl | (simp only [go_sem]; try simp (disch := omega) only [decide_eq_true, decide_eq_false])) ?_
          refine wlk_sreg fun KY hKY => ?_
          simp only [go_sem, c_graph_Right_r8]
          refine hKY _ ?_
          refine wlk_ret ?_
          repeat (first | refine hr7 _ ?_ | refine hr6 _ ?_ | refine hr5 _ ?_ | refine hr4 _ ?_ | refine hr3 _ ?_ | refine hr2 _ ?_ | refine hr1 _ ?_)
          simp only [go_sem]
          rw [rightB_false hk2 hf]
        · by_cases hc : n ≤ b
          · have hf : okAt n es k = false := by rw [Bool.eq_false_iff]; intro h; have := hiff.1 h; omega
            refine wlk_sdraw fun KY hKY => ?_
            simp only [go_sem, c_graph_Right_r7, ha, hb, hc]
            repeat (simp (disch := omega) only [if_pos, if_neg, decide_eq_true, decide_eq_false, incS, nats_get, ints_get, ha, hb, hc]; try simp only [go_sem, ha, hb, hc])
            refine hKY _ ?_
            refine wlk_cond1 (by first | rfl | (simp only [go_sem]; try simp (disch := omega) only [decide_eq_true, decide_eq_false])) ?_
            refine wlk_sreg fun KY hKY => ?_
            simp only [go_sem, c_graph_Right_r8]
            refine hKY _ ?_
            refine wlk_ret ?_
            repeat (first | refine hr7 _ ?_ | refine hr6 _ ?_ | refine hr5 _ ?_ | refine hr4 _ ?_ | refine hr3 _ ?_ | refine hr2 _ ?_ | refine hr1 _ ?_)
            simp only [go_sem]
            rw [rightB_false hk2 hf]
          · cases k with
            | zero =>
              have ht : okAt n es 0 = true := hiff.2 (by omega)
              refine wlk_sdraw fun KY hKY => ?_
              simp only [go_sem, c_graph_Right_r7, ha, hb, hc, show ((0:Nat):Int) = 0 from rfl]
              repeat (simp (disch := omega) only [if_pos, if_neg, decide_eq_true, decide_eq_false, incS, nats_get, ints_get, ha, hb, hc, show ((0:Nat):Int) = 0 from rfl]; try simp only [go_sem, ha, hb, hc, show ((0:Nat):Int) = 0 from rfl])
              refine hKY _ ?_
              refine wlk_cond0 (by first | rfl | (simp only [go_sem]; try simp (disch := omega) only [decide_eq_true, decide_eq_false])) ?_
              refine wlk_skip ?_
              repeat (first | refine hn7 _ ?_ | refine he7 _ ?_ | refine hf7 _ _ (by decide) ?_ | refine hn6 _ ?_ | refine he6 _ _ ?_ | refine hn5 _ ?_ | refine he5 _ _ ?_ | refine he4 _ _ ?_ | refine hn3 _ ?_ | refine he3 _ ?_ | refine hf3 _ _ (by decide) ?_ | refine hn2 _ ?_ | refine he2 _ _ ?_ | refine hn1 _ ?_ | refine he1 _ _ ?_)
              refine wlk_reg fun KY hKY => ?_
              simp only [go_sem, c_graph_Right_r9]
              repeat (simp (disch := omega) only [if_pos, if_neg, decide_eq_true, decide_eq_false, incS, nats_get, ints_get]; try simp only [go_sem])
              refine hKY _ ?_
              repeat (first | refine hn7 _ ?_ | refine he7 _ ?_ | refine hf7 _ _ (by decide) ?_ | refine hn6 _ ?_ | refine he6 _ _ ?_ | refine hn5 _ ?_ | refine he5 _ _ ?_)
              refine hn4 _ (0 + 1) (es.length - (0 + 1)) (by omega) (by first | (simp only [go_sem, updAll_cons, updAll_nil]; done) | with_reducible rfl | rfl) ?_
              refine ⟨hk2, rfl, fun j hj => ?_⟩
              rcases Nat.lt_or_ge j (0) with h3 | h3
              · exact hz j h3
              · have : j = 0 := by omega
                subst this; exact ht
            | succ m =>
              have hm : es[m]? = some (es[m]'(by omega)) := List.getElem?_eq_getElem _
              have hmy : es.getD (m + 1 - 1) (0, 0) = es[m]'(by omega) := by simp [List.getD_eq_getElem?_getD, hm]
              generalize es[m]'(by omega) = x at hm hmy
              obtain ⟨c, d⟩ := x
              rw [hmy] at hiff
              have hm0 : ¬ (((m + 1 : Nat) : Int) ≤ 0) := by omega
              refine wlk_sdraw fun KY hKY => ?_
              simp only [go_sem, c_graph_Right_r7, ha, hb, hc, decS, two_cells hm, List.length_drop]
              repeat (simp (disch := omega) only [if_pos, if_neg, decide_eq_true, decide_eq_false, incS, nats_get, ints_get, ha, hb, hc, decS, two_cells hm, List.length_drop]; try simp only [go_sem, ha, hb, hc, decS, two_cells hm, List.length_drop])
              refine call_view rfl (by simp only [go_sem] <;> rfl) ((ocompare_ok (c, d) (a, b)).mono ?_)
              rintro rr hh ⟨rfl, rfl⟩
              refine ⟨rfl, rfl, rfl, ?_⟩
              have hlt := cmpE_lt (c, d) (a, b)
              simp only at hlt
              by_cases hq : 0 ≤ cmpE (c, d) (a, b)
              · have hf : okAt n es (m + 1) = false := by rw [Bool.eq_false_iff]; intro h; have := (hiff.1 h).2.2.2; simp only at this; omega
                try simp only [go_sem, hq]
                repeat (simp (disch := omega) only [if_pos, if_neg, decide_eq_true, decide_eq_false, incS, nats_get, ints_get, hq]; try simp only [go_sem, hq])
                refine hKY _ ?_
                refine wlk_cond1 (by first | rfl | (simp only [go_sem]; try simp (disch := omega) only [decide_eq_true, decide_eq_false])) ?_
                refine wlk_sreg fun KY hKY => ?_
                simp only [go_sem, c_graph_Right_r8]
                refine hKY _ ?_
                refine wlk_ret ?_
                repeat (first | refine hr7 _ ?_ | refine hr6 _ ?_ | refine hr5 _ ?_ | refine hr4 _ ?_ | refine hr3 _ ?_ | refine hr2 _ ?_ | refine hr1 _ ?_)
                simp only [go_sem]
                rw [rightB_false hk2 hf]
              · have ht : okAt n es (m + 1) = true := hiff.2 (by simp only; omega)
                try simp only [go_sem, hq]
                repeat (simp (disch := omega) only [if_pos, if_neg, decide_eq_true, decide_eq_false, incS, nats_get, ints_get, hq]; try simp only [go_sem, hq])
                refine hKY _ ?_
                refine wlk_cond0 (by first | rfl | (simp only [go_sem]; try simp (disch := omega) only [decide_eq_true, decide_eq_false])) ?_
                refine wlk_skip ?_
                repeat (first | refine hn7 _ ?_ | refine he7 _ ?_ | refine hf7 _ _ (by decide) ?_ | refine hn6 _ ?_ | refine he6 _ _ ?_ | refine hn5 _ ?_ | refine he5 _ _ ?_ | refine he4 _ _ ?_ | refine hn3 _ ?_ | refine he3 _ ?_ | refine hf3 _ _ (by decide) ?_ | refine hn2 _ ?_ | refine he2 _ _ ?_ | refine hn1 _ ?_ | refine he1 _ _ ?_)
                refine wlk_reg fun KY hKY => ?_
                simp only [go_sem, c_graph_Right_r9]
                repeat (simp (disch := omega) only [if_pos, if_neg, decide_eq_true, decide_eq_false, incS, nats_get, ints_get]; try simp only [go_sem])
                refine hKY _ ?_
                repeat (first | refine hn7 _ ?_ | refine he7 _ ?_ | refine hf7 _ _ (by decide) ?_ | refine hn6 _ ?_ | refine he6 _ _ ?_ | refine hn5 _ ?_ | refine he5 _ _ ?_)
                refine hn4 _ (m + 1 + 1) (es.length - (m + 1 + 1)) (by omega) (by first | (simp only [go_sem, updAll_cons, updAll_nil]; done) | with_reducible rfl | rfl) ?_
                refine ⟨hk2, rfl, fun j hj => ?_⟩
                rcases Nat.lt_or_ge j (m + 1) with h3 | h3
                · exact hz j h3
                · have : j = m + 1 := by omega
                  subst this; exact ht
    · refine wlk_cond0 (by first | rfl | (simp only [go_sem]; try simp (disch := omega) only [decide_eq_true, decide_eq_false])) ?_
      refine wlk_exit ?_
      repeat (first | refine hn5 _ ?_ | refine he5 _ _ ?_ | refine he4 _ _ ?_ | refine hn3 _ ?_ | refine he3 _ ?_ | refine hf3 _ _ (by decide) ?_ | refine hn2 _ ?_ | refine he2 _ _ ?_ | refine hn1 _ ?_ | refine he1 _ _ ?_)
      refine wlk_sreg fun KY hKY => ?_
      simp only [go_sem, c_graph_Right_r10]
      refine hKY _ ?_
      refine wlk_ret ?_
      repeat (first | refine hr5 _ ?_ | refine hr4 _ ?_ | refine hr3 _ ?_ | refine hr2 _ ?_ | refine hr1 _ ?_)
      simp only [go_sem]
      rw [rightB_true h0 h1 h2 fun i hi => hz i (by omega)]
  · by_cases h0 : n < 0
    · refine wlk_sreg fun KY hKY => ?_
      simp only [go_sem, c_graph_Right_r1, h0]
      repeat (simp (disch := omega) only [if_pos, if_neg, decide_eq_true, decide_eq_false, incS, nats_get, ints_get, h0]; try simp only [go_sem, h0])
      refine hKY _ ?_
      refine wlk_cond1 (by first | rfl | (simp only [go_sem]; try simp (disch := omega) only [decide_eq_true, decide_eq_false])) ?_
      refine wlk_sreg fun KY hKY => ?_
      simp only [go_sem, c_graph_Right_r2]
      refine hKY _ ?_
      refine wlk_ret ?_
      repeat (first | refine hr1 _ ?_)
      simp only [go_sem]
      rw [show rightB n es = false by rw [Bool.eq_false_iff]; intro h'; simp only [rightB, Bool.and_eq_true, decide_eq_true_eq] at h'; omega]
    · by_cases h1 : 4096 < n
      · refine wlk_sreg fun KY hKY => ?_
        simp only [go_sem, c_graph_Right_r1, h0, h1]
        repeat (simp (disch := omega) only [if_pos, if_neg, decide_eq_true, decide_eq_false, incS, nats_get, ints_get, h0, h1]; try simp only [go_sem, h0, h1])
        refine hKY _ ?_
        refine wlk_cond1 (by first | rfl | (simp only [go_sem]; try simp (disch := omega) only [decide_eq_true, decide_eq_false])) ?_
        refine wlk_sreg fun KY hKY => ?_
        simp only [go_sem, c_graph_Right_r2]
        refine hKY _ ?_
        refine wlk_ret ?_
        repeat (first | refine hr1 _ ?_)
        simp only [go_sem]
        rw [show rightB n es = false by rw [Bool.eq_false_iff]; intro h'; simp only [rightB, Bool.and_eq_true, decide_eq_true_eq] at h'; omega]
      · refine wlk_sreg fun KY hKY => ?_
        simp only [go_sem, c_graph_Right_r1, h0, h1]
        repeat (simp (disch := omega) only [if_pos, if_neg, decide_eq_true, decide_eq_false, incS, nats_get, ints_get, h0, h1]; try simp only [go_sem, h0, h1])
        refine hKY _ ?_
        refine wlk_cond1 (by first | rfl | (simp only [go_sem]; try simp (disch := omega) only [decide_eq_true, decide_eq_false])) ?_
        refine wlk_sreg fun KY hKY => ?_
        simp only [go_sem, c_graph_Right_r2]
        refine hKY _ ?_
        refine wlk_ret ?_
        repeat (first | refine hr1 _ ?_)
        simp only [go_sem]
        rw [show rightB n es = false by rw [Bool.eq_false_iff]; intro h'; simp only [rightB, Bool.and_eq_true, decide_eq_true_eq] at h'; omega]
end Go.Proofs.Ytkjppnofgmpeeaa
set_option maxRecDepth 100000
set_option maxHeartbeats 4000000
namespace Go.Proofs.Ytkjppnofgmpeeaa
open Go Go.Ga Go.Ga.Gl
def aheadI (a b : Int × Int) : Bool := decide (a.1 < b.1 ∨ a.1 = b.1 ∧ a.2 < b.2)
theorem ahead_ok (a b : Int × Int) : ACalls Try.prog [] n_garlandref02_ahead [.agg (two a), .agg (two b)] [] fun r h' => r = .sc (.bool (aheadI a b)) ∧ h' = [] := by
  obtain ⟨a1, a2⟩ := a
  obtain ⟨b1, b2⟩ := b
  simp only [two_mk]
  unfold aheadI
  refine go_garlandref02_ahead rfl ?_
  unfold c_garlandref02_ahead v_garlandref02_ahead
  refine wlk_sreg fun KY hKY => ?_
  simp only [go_sem, c_garlandref02_ahead_r0]
  refine hKY _ ?_
  by_cases h : a1 < b1
  · refine wlk_sreg fun KY hKY => ?_
    simp only [go_sem, c_garlandref02_ahead_r1, h]
    refine hKY _ ?_
    refine wlk_ret ?_
    simp only [go_sem, h, true_or]
  · by_cases h2 : a1 = b1
    · subst h2
      refine wlk_sreg fun KY hKY => ?_
      simp only [go_sem, c_garlandref02_ahead_r1, h, Int.lt_irrefl]
      refine hKY _ ?_
      refine wlk_ret ?_
      simp only [go_sem, h, Int.lt_irrefl, false_or]
    · refine wlk_sreg fun KY hKY => ?_
      simp only [go_sem, c_garlandref02_ahead_r1, h, h2]
      refine hKY _ ?_
      refine wlk_ret ?_
      simp only [go_sem, h, h2, false_and, or_self]
def turnI (a b : Int) : Int × Int := if b < a then (b, a) else (a, b)
theorem rright_ok (n : Int) (es : List (Int × Int)) : ACalls Try.prog [] n_garlandref02_Right [.agg [.sc (.int .i64 n), .imm 2 (twos es)]] [] fun r h' => r = .sc (.bool (rightB n es)) ∧ h' = [] := by
  refine go_garlandref02_Right rfl ?_
  unfold c_garlandref02_Right v_garlandref02_Right
  refine wlk_sreg fun KY hKY => ?_
  simp only [go_sem, c_garlandref02_Right_r0]
  refine hKY _ ?_
  refine wlk_seq fun X1 hn1 he1 hr1 => ?_
  by_cases h : 0 ≤ n ∧ n ≤ 4096 ∧ es.length ≤ 65536
  · obtain ⟨h0, h1, h2⟩ := h
    refine wlk_sreg fun KY hKY => ?_
    simp only [go_sem, c_garlandref02_Right_r1]
    repeat (simp (disch := omega) only [if_pos, if_neg, decide_eq_true, decide_eq_false, incS, nats_get, ints_get]; try simp only [go_sem])
    refine hKY _ ?_
    refine wlk_cond0 (by first | rfl | (simp only [go_sem]; try simp (disch := omega) only [decide_eq_true, decide_eq_false])) ?_
    refine wlk_skip ?_
    repeat (first | refine hn1 _ ?_ | refine he1 _ _ ?_)
    refine wlk_seq fun X2 hn2 he2 hr2 => ?_
    refine wlk_sreg fun KY hKY => ?_
    simp only [go_sem, c_garlandref02_Right_r3]
    refine hKY _ ?_
    refine wlk_blk fun X3 hn3 he3 hf3 hr3 => ?_
    try simp only [go_sem]
    refine wlk_lp (α := Nat) [4, 23, 47, 60] (fun k => [(3, .sc (.int .i64 (k : Int)))]) (fun k => []) (fun k q => k ≤ es.length ∧ q = es.length - k ∧ ∀ j, j < k → okAt n es j = true) (0) (es.length) rfl (by first | (simp only [go_sem, updAll_cons, updAll_nil]; done) | with_reducible rfl | rfl) (⟨by omega, rfl, fun j h => by omega⟩) ?_
    rintro k q ⟨hk, rfl, hz⟩ X4 hn4 he4 hr4
    simp only [go_sem, updAll_cons, updAll_nil]
    refine wlk_seq fun X5 hn5 he5 hr5 => ?_
    refine wlk_sreg fun KY hKY => ?_
    simp only [go_sem, c_garlandref02_Right_r4]
    refine hKY _ ?_
    by_cases hk2 : k < es.length
    · refine wlk_cond1 (by first | rfl | (simp only [go_sem]; try simp (disch := omega) only [decide_eq_true, decide_eq_false])) ?_
      refine wlk_skip ?_
      repeat (first | refine hn5 _ ?_ | refine he5 _ _ ?_ | refine he4 _ _ ?_ | refine hn3 _ ?_ | refine he3 _ ?_ | refine hf3 _ _ (by decide) ?_ | refine hn2 _ ?_ | refine he2 _ _ ?_ | refine hn1 _ ?_ | refine he1 _ _ ?_)
      refine wlk_seq fun X6 hn6 he6 hr6 => ?_
      refine wlk_blk fun X7 hn7 he7 hf7 hr7 => ?_
      have hx : es[k]? = some es[k] := List.getElem?_eq_getElem hk2
      have hy : es.getD k (0, 0) = es[k] := by simp [List.getD_eq_getElem?_getD, hx]
      generalize es[k] = x at hx hy
      obtain ⟨a, b⟩ := x
      refine wlk_sreg fun KY hKY => ?_
      simp only [go_sem, c_garlandref02_Right_r5, two_cells hx, List.length_drop]
      repeat (simp (disch := omega) only [if_pos, if_neg, decide_eq_true, decide_eq_false, incS, nats_get, ints_get, two_cells hx, List.length_drop]; try simp only [go_sem, two_cells hx, List.length_drop])
      refine hKY _ ?_
      have hiff : okAt n es k = true ↔ 0 ≤ a ∧ a < b ∧ b < n ∧ (k = 0 ∨ ((es.getD (k - 1) (0, 0)).1 < a ∨ (es.getD (k - 1) (0, 0)).1 = a ∧ (es.getD (k - 1) (0, 0)).2 < b)) := by
        simp only [okAt, hy, Bool.and_eq_true, Bool.or_eq_true, decide_eq_true_eq, and_assoc]
      refine wlk_seq fun X8 hn8 he8 hr8 => ?_
      by_cases ha : a < 0
      · have hf : okAt n es k = false := by rw [Bool.eq_false_iff]; intro h; have := hiff.1 h; omega
        refine wlk_sreg fun KY hKY => ?_
        simp only [go_sem, c_garlandref02_Right_r6, ha]
        repeat (simp (disch := omega) only [if_pos, if_neg, decide_eq_true, decide_eq_false, incS, nats_get, ints_get, ha]; try simp only [go_sem, ha])
        refine hKY _ ?_
        refine wlk_cond1 (by first | rfl | (simp only [go_sem]; try simp (disch := omega) only [decide_eq_true, decide_eq_false])) ?_
        refine wlk_sreg fun KY hKY => ?_
        simp only [go_sem, c_garlandref02_Right_r7]
        refine hKY _ ?_
        refine wlk_ret ?_
        repeat (first | refine hr8 _ ?_ | refine hr7 _ ?_ | refine hr6 _ ?_ | refine hr5 _ ?_ | refine hr4 _ ?_ | refine hr3 _ ?_ | refine hr2 _ ?_ | refine hr1 _ ?_)
        simp only [go_sem]
        rw [rightB_false hk2 hf]
      · by_cases hb : b ≤ a
        · have hf : okAt n es k = false := by rw [Bool.eq_false_iff]; intro h; have := hiff.1 h; omega
          refine wlk_sreg fun KY hKY => ?_
          simp only [go_sem, c_garlandref02_Right_r6, ha, hb]
          repeat (simp (disch := omega) only [if_pos, if_neg, decide_eq_true, decide_eq_false, incS, nats_get, ints_get, ha, hb]; try simp only [go_sem, ha, hb])
          refine hKY _ ?_
          refine wlk_cond1 (by first | rfl | (simp only [go_sem]; try simp (disch := omega) only [decide_eq_true, decide_eq_false])) ?_
          refine wlk_sreg fun KY hKY => ?_
          simp only [go_sem, c_garlandref02_Right_r7]
          refine hKY _ ?_
          refine wlk_ret ?_
          repeat (first | refine hr8 _ ?_ | refine hr7 _ ?_ | refine hr6 _ ?_ | refine hr5 _ ?_ | refine hr4 _ ?_ | refine hr3 _ ?_ | refine hr2 _ ?_ | refine hr1 _ ?_)
          simp only [go_sem]
          rw [rightB_false hk2 hf]
        · by_cases hc : n ≤ b
          · have hf : okAt n es k = false := by rw [Bool.eq_false_iff]; intro h; have := hiff.1 h; omega
            refine wlk_sreg fun KY hKY => ?_
            simp only [go_sem, c_garlandref02_Right_r6, ha, hb, hc]
            repeat (simp (disch := omega) only [if_pos, if_neg, decide_eq_true, decide_eq_false, incS, nats_get, ints_get, ha, hb, hc]; try simp only [go_sem, ha, hb, hc])
            refine hKY _ ?_
            refine wlk_cond1 (by first | rfl | (simp only [go_sem]; try simp (disch := omega) only [decide_eq_true, decide_eq_false])) ?_
            refine wlk_sreg fun KY hKY => ?_
            simp only [go_sem, c_garlandref02_Right_r7]
            refine hKY _ ?_
            refine wlk_ret ?_
            repeat (first | refine hr8 _ ?_ | refine hr7 _ ?_ | refine hr6 _ ?_ | refine hr5 _ ?_ | refine hr4 _ ?_ | refine hr3 _ ?_ | refine hr2 _ ?_ | refine hr1 _ ?_)
            simp only [go_sem]
            rw [rightB_false hk2 hf]
          · refine wlk_sreg fun KY hKY => ?_
            simp only [go_sem, c_garlandref02_Right_r6, ha, hb, hc]
            repeat (simp (disch := omega) only [if_pos, if_neg, decide_eq_true, decide_eq_false, incS, nats_get, ints_get, ha, hb, hc]; try simp only [go_sem, ha, hb, hc])
            refine hKY _ ?_
            refine wlk_cond0 (by first | rfl | (simp only [go_sem]; try simp (disch := omega) only [decide_eq_true, decide_eq_false])) ?_
            refine wlk_skip ?_
            repeat (first | refine hn8 _ ?_ | refine he8 _ _ ?_ | refine hn7 _ ?_ | refine he7 _ ?_ | refine hf7 _ _ (by decide) ?_ | refine hn6 _ ?_ | refine he6 _ _ ?_ | refine hn5 _ ?_ | refine he5 _ _ ?_ | refine he4 _ _ ?_ | refine hn3 _ ?_ | refine he3 _ ?_ | refine hf3 _ _ (by decide) ?_ | refine hn2 _ ?_ | refine he2 _ _ ?_ | refine hn1 _ ?_ | refine he1 _ _ ?_)
            cases k with
            | zero =>
              have ht : okAt n es 0 = true := hiff.2 (by omega)
              refine wlk_sdraw fun KY hKY => ?_
              simp only [go_sem, c_garlandref02_Right_r8, show ((0:Nat):Int) = 0 from rfl]
              repeat (simp (disch := omega) only [if_pos, if_neg, decide_eq_true, decide_eq_false, incS, nats_get, ints_get, show ((0:Nat):Int) = 0 from rfl]; try simp only [go_sem, show ((0:Nat):Int) = 0 from rfl])
              refine hKY _ ?_
              refine wlk_cond0 (by first | rfl | (simp only [go_sem]; try simp (disch := omega) only [decide_eq_true, decide_eq_false])) ?_
              refine wlk_skip ?_
              repeat (first | refine hn8 _ ?_ | refine he8 _ _ ?_ | refine hn7 _ ?_ | refine he7 _ ?_ | refine hf7 _ _ (by decide) ?_ | refine hn6 _ ?_ | refine he6 _ _ ?_ | refine hn5 _ ?_ | refine he5 _ _ ?_ | refine he4 _ _ ?_ | refine hn3 _ ?_ | refine he3 _ ?_ | refine hf3 _ _ (by decide) ?_ | refine hn2 _ ?_ | refine he2 _ _ ?_ | refine hn1 _ ?_ | refine he1 _ _ ?_)
              refine wlk_reg fun KY hKY => ?_
              simp only [go_sem, c_garlandref02_Right_r10]
              repeat (simp (disch := omega) only [if_pos, if_neg, decide_eq_true, decide_eq_false, incS, nats_get, ints_get]; try simp only [go_sem])
              refine hKY _ ?_
              repeat (first | refine hn8 _ ?_ | refine he8 _ _ ?_ | refine hn7 _ ?_ | refine he7 _ ?_ | refine hf7 _ _ (by decide) ?_ | refine hn6 _ ?_ | refine he6 _ _ ?_ | refine hn5 _ ?_ | refine he5 _ _ ?_)
              refine hn4 _ (0 + 1) (es.length - (0 + 1)) (by omega) (by first | (simp only [go_sem, updAll_cons, updAll_nil]; done) | with_reducible rfl | rfl) ?_
              refine ⟨hk2, rfl, fun j hj => ?_⟩
              rcases Nat.lt_or_ge j (0) with h3 | h3
              · exact hz j h3
              · have : j = 0 := by omega
                subst this; exact ht
            | succ m =>
              have hm : es[m]? = some (es[m]'(by omega)) := List.getElem?_eq_getElem _
              have hmy : es.getD (m + 1 - 1) (0, 0) = es[m]'(by omega) := by simp [List.getD_eq_getElem?_getD, hm]
              generalize es[m]'(by omega) = x at hm hmy
              obtain ⟨c, d⟩ := x
              rw [hmy] at hiff
              have hm0 : ((m + 1 : Nat) : Int) > 0 := by omega
              refine wlk_sdraw fun KY hKY => ?_
              simp only [go_sem, c_garlandref02_Right_r8, decS, two_cells hm, List.length_drop, hm0]
              repeat (simp (disch := omega) only [if_pos, if_neg, decide_eq_true, decide_eq_false, incS, nats_get, ints_get, decS, two_cells hm, List.length_drop, hm0]; try simp only [go_sem, decS, two_cells hm, List.length_drop, hm0])
              refine call_view rfl (by simp only [go_sem] <;> rfl) ((ahead_ok (c, d) (a, b)).mono ?_)
              rintro rr hh ⟨rfl, rfl⟩
              refine ⟨rfl, rfl, rfl, ?_⟩
              cases hq : aheadI (c, d) (a, b) with
              | false =>
                have hq' := of_decide_eq_false hq
                have hf : okAt n es (m + 1) = false := by rw [Bool.eq_false_iff]; intro h; have := (hiff.1 h).2.2.2; simp only at this hq'; omega
                try simp only [go_sem, hq]
                repeat (simp (disch := omega) only [if_pos, if_neg, decide_eq_true, decide_eq_false, incS, nats_get, ints_get, hq]; try simp only [go_sem, hq])
                refine hKY _ ?_
                refine wlk_cond1 (by first | rfl | (simp only [go_sem]; try simp (disch := omega) only [decide_eq_true, decide_eq_false])) ?_
                refine wlk_sreg fun KY hKY => ?_
                simp only [go_sem, c_garlandref02_Right_r9]
                refine hKY _ ?_
                refine wlk_ret ?_
                repeat (first | refine hr8 _ ?_ | refine hr7 _ ?_ | refine hr6 _ ?_ | refine hr5 _ ?_ | refine hr4 _ ?_ | refine hr3 _ ?_ | refine hr2 _ ?_ | refine hr1 _ ?_)
                simp only [go_sem]
                rw [rightB_false hk2 hf]
              | true =>
                have hq' := of_decide_eq_true hq
                have ht : okAt n es (m + 1) = true := hiff.2 (by simp only at hq' ⊢; omega)
                try simp only [go_sem, hq]
                repeat (simp (disch := omega) only [if_pos, if_neg, decide_eq_true, decide_eq_false, incS, nats_get, ints_get, hq]; try simp only [go_sem, hq])
                refine hKY _ ?_
                refine wlk_cond0 (by first | rfl | (simp only [go_sem]; try simp (disch := omega) only [decide_eq_true, decide_eq_false])) ?_
                refine wlk_skip ?_
                repeat (first | refine hn8 _ ?_ | refine he8 _ _ ?_ | refine hn7 _ ?_ | refine he7 _ ?_ | refine hf7 _ _ (by decide) ?_ | refine hn6 _ ?_ | refine he6 _ _ ?_ | refine hn5 _ ?_ | refine he5 _ _ ?_ | refine he4 _ _ ?_ | refine hn3 _ ?_ | refine he3 _ ?_ | refine hf3 _ _ (by decide) ?_ | refine hn2 _ ?_ | refine he2 _ _ ?_ | refine hn1 _ ?_ | refine he1 _ _ ?_)
                refine wlk_reg fun KY hKY => ?_
                simp only [go_sem, c_garlandref02_Right_r10]
                repeat (simp (disch := omega) only [if_pos, if_neg, decide_eq_true, decide_eq_false, incS, nats_get, ints_get]; try simp only [go_sem])
                refine hKY _ ?_
                repeat (first | refine hn8 _ ?_ | refine he8 _ _ ?_ | refine hn7 _ ?_ | refine he7 _ ?_ | refine hf7 _ _ (by decide) ?_ | refine hn6 _ ?_ | refine he6 _ _ ?_ | refine hn5 _ ?_ | refine he5 _ _ ?_)
                refine hn4 _ (m + 1 + 1) (es.length - (m + 1 + 1)) (by omega) (by first | (simp only [go_sem, updAll_cons, updAll_nil]; done) | with_reducible rfl | rfl) ?_
                refine ⟨hk2, rfl, fun j hj => ?_⟩
                rcases Nat.lt_or_ge j (m + 1) with h3 | h3
                · exact hz j h3
                · have : j = m + 1 := by omega
                  subst this; exact ht
    · refine wlk_cond0 (by first | rfl | (simp only [go_sem]; try simp (disch := omega) only [decide_eq_true, decide_eq_false])) ?_
      refine wlk_exit ?_
      repeat (first | refine hn5 _ ?_ | refine he5 _ _ ?_ | refine he4 _ _ ?_ | refine hn3 _ ?_ | refine he3 _ ?_ | refine hf3 _ _ (by decide) ?_ | refine hn2 _ ?_ | refine he2 _ _ ?_ | refine hn1 _ ?_ | refine he1 _ _ ?_)
      refine wlk_sreg fun KY hKY => ?_
      simp only [go_sem, c_garlandref02_Right_r11]
      refine hKY _ ?_
      refine wlk_ret ?_
      repeat (first | refine hr5 _ ?_ | refine hr4 _ ?_ | refine hr3 _ ?_ | refine hr2 _ ?_ | refine hr1 _ ?_)
      simp only [go_sem]
      rw [rightB_true h0 h1 h2 fun i hi => hz i (by omega)]
  · by_cases h0 : n < 0
    · refine wlk_sreg fun KY hKY => ?_
      simp only [go_sem, c_garlandref02_Right_r1, h0]
      repeat (simp (disch := omega) only [if_pos, if_neg, decide_eq_true, decide_eq_false, incS, nats_get, ints_get, h0]; try simp only [go_sem, h0])
      refine hKY _ ?_
      refine wlk_cond1 (by first | rfl | (simp only [go_sem]; try simp (disch := omega) only [decide_eq_true, decide_eq_false])) ?_
      refine wlk_sreg fun KY hKY => ?_
      simp only [go_sem, c_garlandref02_Right_r2]
      refine hKY _ ?_
      refine wlk_ret ?_
      repeat (first | refine hr1 _ ?_)
      simp only [go_sem]
      rw [show rightB n es = false by rw [Bool.eq_false_iff]; intro h'; simp only [rightB, Bool.and_eq_true, decide_eq_true_eq] at h'; omega]
    · by_cases h1 : 4096 < n
      · refine wlk_sreg fun KY hKY => ?_
        simp only [go_sem, c_garlandref02_Right_r1, h0, h1]
        repeat (simp (disch := omega) only [if_pos, if_neg, decide_eq_true, decide_eq_false, incS, nats_get, ints_get, h0, h1]; try simp only [go_sem, h0, h1])
        refine hKY _ ?_
        refine wlk_cond1 (by first | rfl | (simp only [go_sem]; try simp (disch := omega) only [decide_eq_true, decide_eq_false])) ?_
        refine wlk_sreg fun KY hKY => ?_
        simp only [go_sem, c_garlandref02_Right_r2]
        refine hKY _ ?_
        refine wlk_ret ?_
        repeat (first | refine hr1 _ ?_)
        simp only [go_sem]
        rw [show rightB n es = false by rw [Bool.eq_false_iff]; intro h'; simp only [rightB, Bool.and_eq_true, decide_eq_true_eq] at h'; omega]
      · refine wlk_sreg fun KY hKY => ?_
        simp only [go_sem, c_garlandref02_Right_r1, h0, h1]
        repeat (simp (disch := omega) only [if_pos, if_neg, decide_eq_true, decide_eq_false, incS, nats_get, ints_get, h0, h1]; try simp only [go_sem, h0, h1])
        refine hKY _ ?_
        refine wlk_cond1 (by first | rfl | (simp only [go_sem]; try simp (disch := omega) only [decide_eq_true, decide_eq_false])) ?_
        refine wlk_sreg fun KY hKY => ?_
        simp only [go_sem, c_garlandref02_Right_r2]
        refine hKY _ ?_
        refine wlk_ret ?_
        repeat (first | refine hr1 _ ?_)
        simp only [go_sem]
        rw [show rightB n es = false by rw [Bool.eq_false_iff]; intro h'; simp only [rightB, Bool.and_eq_true, decide_eq_true_eq] at h'; omega]
end Go.Proofs.Ytkjppnofgmpeeaa
set_option maxRecDepth 100000
set_option maxHeartbeats 4000000
namespace Go.Proofs.Ytkjppnofgmpeeaa
open Go Go.Ga Go.Ga.Gl
theorem castE_mem {es : Es} {a b : Nat} : ((a : Int), (b : Int)) ∈ castE es ↔ (a, b) ∈ es := by
  simp only [castE, List.mem_map, Prod.mk.injEq]
  constructor
  · rintro ⟨⟨x, y⟩, h, h1, h2⟩
    have e1 : x = a := by omega
    have e2 : y = b := by omega
    rw [← e1, ← e2]; exact h
  · intro h; exact ⟨(a, b), h, rfl, rfl⟩
end Go.Proofs.Ytkjppnofgmpeeaa
set_option maxRecDepth 100000
set_option maxHeartbeats 4000000
namespace Go.Proofs.Ytkjppnofgmpeeaa
open Go Go.Ga Go.Ga.Gl
end Go.Proofs.Ytkjppnofgmpeeaa

namespace Go.Proofs
open Go.Shelf
def Try.lays189_ren : Go.Shelf.Ren := ⟨fun | 189 => 75 | 125 => 86 | 257 => 85 | 128 => 100 | 129 => 101 | 294 => 91 | 295 => 92 | 296 => 93 | 297 => 94 | 298 => 95 | 299 => 96 | 216 => 97 | 300 => 98 | 301 => 99 | 328 => 102 | 329 => 103 | 330 => 104 | 331 => 105 | 332 => 106 | 215 => 76 | 343 => 107 | n => n, fun | 28 => 22 | 3 => 3 | 46 => 33 | 0 => 0 | 51 => 124 | 53 => 127 | 4 => 4 | 183 => 133 | 182 => 132 | 131 => 109 | 5 => 5 | 9 => 9 | 218 => 140 | 222 => 144 | 228 => 146 | 229 => 147 | n => n, fun | n => n⟩
theorem Try.lays189 : Go.Proofs.Lays.n189 Try.prog Try.lays189_ren := {
  mixed := by kernel_rfl
  f125 := Try.func86.trans (congrArg some (by kernel_rfl))
  f128 := Try.func100.trans (congrArg some (by kernel_rfl))
  f129 := Try.func101.trans (congrArg some (by kernel_rfl))
  f189 := Try.func75.trans (congrArg some (by kernel_rfl))
  f215 := Try.func76.trans (congrArg some (by kernel_rfl))
  f216 := Try.func97.trans (congrArg some (by kernel_rfl))
  f257 := Try.func85.trans (congrArg some (by kernel_rfl))
  f294 := Try.func91.trans (congrArg some (by kernel_rfl))
  f295 := Try.func92.trans (congrArg some (by kernel_rfl))
  f296 := Try.func93.trans (congrArg some (by kernel_rfl))
  f297 := Try.func94.trans (congrArg some (by kernel_rfl))
  f298 := Try.func95.trans (congrArg some (by kernel_rfl))
  f299 := Try.func96.trans (congrArg some (by kernel_rfl))
  f300 := Try.func98.trans (congrArg some (by kernel_rfl))
  f301 := Try.func99.trans (congrArg some (by kernel_rfl))
  f328 := Try.func102.trans (congrArg some (by kernel_rfl))
  f329 := Try.func103.trans (congrArg some (by kernel_rfl))
  f330 := Try.func104.trans (congrArg some (by kernel_rfl))
  f331 := Try.func105.trans (congrArg some (by kernel_rfl))
  f332 := Try.func106.trans (congrArg some (by kernel_rfl))
  f343 := Try.func107.trans (congrArg some (by kernel_rfl))
  t0 := Try.underlying0
  a0 := Try.isAgg0
  z0 := Try.sizeOf0
  v0 := Try.zeroValue0
  t3 := Try.underlying3
  a3 := Try.isAgg3
  z3 := Try.sizeOf3
  v3 := Try.zeroValue3
  t4 := Try.underlying4
  a4 := Try.isAgg4
  z4 := Try.sizeOf4
  v4 := Try.zeroValue4
  t5 := Try.underlying5
  a5 := Try.isAgg5
  z5 := Try.sizeOf5
  v5 := Try.zeroValue5
  t9 := Try.underlying9
  a9 := Try.isAgg9
  z9 := Try.sizeOf9
  v9 := Try.zeroValue9
  t28 := Try.underlying22
  a28 := Try.isAgg22
  z28 := Try.sizeOf22
  v28 := Try.zeroValue22
  t46 := Try.underlying33
  a46 := Try.isAgg33
  z46 := Try.sizeOf33
  v46 := Try.zeroValue33
  t51 := Try.underlying124
  a51 := Try.isAgg124
  z51 := Try.sizeOf124
  v51 := Try.zeroValue124
  t53 := Try.underlying127
  a53 := Try.isAgg127
  z53 := Try.sizeOf127
  v53 := Try.zeroValue127
  t131 := Try.underlying109
  a131 := Try.isAgg109
  z131 := Try.sizeOf109
  v131 := Try.zeroValue109
  t182 := Try.underlying132
  a182 := Try.isAgg132
  z182 := Try.sizeOf132
  v182 := Try.zeroValue132
  t183 := Try.underlying133
  a183 := Try.isAgg133
  z183 := Try.sizeOf133
  v183 := Try.zeroValue133
  t218 := Try.underlying140
  a218 := Try.isAgg140
  z218 := Try.sizeOf140
  v218 := Try.zeroValue140
  t222 := Try.underlying144
  a222 := Try.isAgg144
  z222 := Try.sizeOf144
  v222 := Try.zeroValue144
  t228 := Try.underlying146
  a228 := Try.isAgg146
  z228 := Try.sizeOf146
  v228 := Try.zeroValue146
  t229 := Try.underlying147
  a229 := Try.isAgg147
  z229 := Try.sizeOf147
  v229 := Try.zeroValue147 }
open Go.Sort Go.RowKit in
theorem Try.slices_Sort_int (blk off cap : Nat) (zs : List Int) (w : World) (hH : Holds (Value.int .i64) w blk off zs.toArray) (hblk : blk < w.heap.size) (hsz : zs.length < 4611686018427387904) :
    Calls Try.prog 75 #[.slice (some ⟨blk, off, none⟩) zs.length cap] w fun e w' =>
      e = .returned (.tuple #[]) ∧ ∃ n os, w' = grow (putRow (Value.int .i64) (Sort.ahead w n) blk off (zs.mergeSort fun x y => decide (x ≤ y)).toArray) os := Any.slices_Sort_int Try.lays189 blk off cap zs w hH hblk hsz
end Go.Proofs
set_option maxRecDepth 100000
set_option maxHeartbeats 4000000
namespace Go.Proofs.Ytkjppnofgmpeeaa
open Go Go.Ga Go.Ga.Gl
theorem map_set_range {n b : Nat} {f g : Nat → List Nat} {y : List Nat} (h1 : g b = y) (h2 : ∀ v, v ≠ b → g v = f v) : ((List.range n).map f).set b y = (List.range n).map g := by
  apply List.ext_getElem (by simp)
  intro i h3 h4
  rw [List.getElem_set]
  split
  · rename_i h; subst h; simp [h1]
  · rename_i h; simp [h2 i (Ne.symm h)]
theorem low_step {es : Es} {k a b : Nat} (h : es[k]? = some (a, b)) (v : Nat) : lowOf (es.take (k + 1)) v = if v = b then lowOf (es.take k) v ++ [a] else lowOf (es.take k) v := by
  rw [List.take_add_one, h]
  simp only [lowOf, Option.toList_some, List.filter_append, List.map_append]
  by_cases hv : v = b
  · simp [hv]
  · simp [hv, Ne.symm hv]
theorem high_step {es : Es} {k a b : Nat} (h : es[k]? = some (a, b)) (v : Nat) : highOf (es.take (k + 1)) v = if v = a then highOf (es.take k) v ++ [b] else highOf (es.take k) v := by
  rw [List.take_add_one, h]
  simp only [highOf, Option.toList_some, List.filter_append, List.map_append]
  by_cases hv : v = a
  · simp [hv]
  · simp [hv, Ne.symm hv]
theorem low_len (es : Es) (v : Nat) : (lowOf es v).length ≤ es.length := by simp [lowOf]; exact List.length_filter_le _ _
theorem high_len (es : Es) (v : Nat) : (highOf es v).length ≤ es.length := by simp [highOf]; exact List.length_filter_le _ _
theorem lists_ok {n : Nat} {es : Es} (g : GR n es) : ACalls Try.prog [] n_graph_Lists [.sc (.int .i64 (n : Int)), .imm 2 (twos (castE es))] [] fun r h' => r = .own (some 1) (rowsO (near n es)) ∧ h' = [] := by
  have hn := g.hn
  have hm := g.hm
  have hb1 : n * 24 ≤ 140737488355328 := by omega
  refine go_graph_Lists rfl ?_
  unfold c_graph_Lists v_graph_Lists
  refine wlk_sreg fun KY hKY => ?_
  simp only [go_sem, c_graph_Lists_r0]
  refine hKY _ ?_
  refine wlk_sreg fun KY hKY => ?_
  simp only [go_sem, c_graph_Lists_r1, hb1]
  repeat (simp (disch := omega) only [if_pos, if_neg, decide_eq_true, decide_eq_false, incS, nats_get, ints_get, hb1]; try simp only [go_sem, hb1])
  refine hKY _ ?_
  simp only [go_sem]
  have hs0 := sees_rows n
  have e0 : List.replicate n [] = (List.range n).map (lowOf []) := by
    apply List.ext_getElem (by simp)
    intro i h1 h2
    simp [lowOf]
  rw [e0] at hs0
  refine sem_sees [0, 5] _ (by simp only [go_sem]) rfl hs0 ?_
  simp only [go_sem]
  refine wlk_seq fun X1 hn1 he1 hr1 => ?_
  refine wlk_sreg fun KY hKY => ?_
  simp only [go_sem, c_graph_Lists_r2, castE_len]
  refine hKY _ ?_
  refine wlk_blk fun X2 hn2 he2 hf2 hr2 => ?_
  try simp only [go_sem]
  refine wlk_lp (α := Nat) [7, 15] (fun k => [(5, .own (some 1) (rowsO ((List.range n).map (lowOf (es.take k))))), (14, .sc (.int .i64 (k : Int)))]) (fun k => []) (fun k q => k ≤ es.length ∧ q = es.length - k) (0) (es.length) rfl (by first | (simp only [go_sem, updAll_cons, updAll_nil]; done) | with_reducible rfl | rfl) (⟨by omega, rfl⟩) ?_
  rintro k q ⟨hk, rfl⟩ X3 hn3 he3 hr3
  simp only [go_sem, updAll_cons, updAll_nil]
  refine wlk_sreg fun KY hKY => ?_
  simp only [go_sem, c_graph_Lists_r3]
  refine hKY _ ?_
  refine wlk_seq fun X4 hn4 he4 hr4 => ?_
  by_cases hk2 : k < es.length
  · refine wlk_cond1 (by first | rfl | (simp only [go_sem]; try simp (disch := omega) only [decide_eq_true, decide_eq_false])) ?_
    refine wlk_skip ?_
    repeat (first | refine hn4 _ ?_ | refine he4 _ _ ?_ | refine he3 _ _ ?_ | refine hn2 _ ?_ | refine he2 _ ?_ | refine hf2 _ _ (by decide) ?_ | refine hn1 _ ?_ | refine he1 _ _ ?_)
    refine wlk_seq fun X5 hn5 he5 hr5 => ?_
    refine wlk_blk fun X6 hn6 he6 hf6 hr6 => ?_
    have hx : es[k]? = some es[k] := List.getElem?_eq_getElem hk2
    have hy := g.ok es[k] (List.getElem_mem hk2)
    generalize es[k] = x at hx hy
    obtain ⟨a, b⟩ := x
    simp only at hy
    have hx' := castE_get hx
    refine wlk_sreg fun KY hKY => ?_
    simp only [go_sem, c_graph_Lists_r4, two_cells hx', List.length_drop, castE_len]
    repeat (simp (disch := omega) only [if_pos, if_neg, decide_eq_true, decide_eq_false, incS, nats_get, ints_get, two_cells hx', List.length_drop, castE_len]; try simp only [go_sem, two_cells hx', List.length_drop, castE_len])
    refine hKY _ ?_
    have hbn : b < n := hy.2
    have hg : ((List.range n).map (lowOf (es.take k)))[b]? = some (lowOf (es.take k) b) := by simp [hbn]
    have hl1 : (lowOf (es.take k) b).length ≤ es.length := Nat.le_trans (low_len _ _) (by simp; omega)
    have hl2 : ((lowOf (es.take k) b).length + 1) * 8 ≤ 140737488355328 := by omega
    have hset : ((List.range n).map (lowOf (es.take k))).set b (lowOf (es.take k) b ++ [a]) = (List.range n).map (lowOf (es.take (k + 1))) :=
      map_set_range (by rw [low_step hx, if_pos rfl]) (fun v hv => by rw [low_step hx, if_neg hv])
    have hbl : b < ((List.range n).map (lowOf (es.take k))).length := by simpa using hbn
    refine wlk_draw fun KY hKY => ?_
    simp only [go_sem, c_graph_Lists_r5, rowsO_get hg, hbn, hl2, nats_snoc, hset, List.length_range]
    refine hKY _ ?_
    repeat (first | refine hn6 _ ?_ | refine he6 _ ?_ | refine hf6 _ _ (by decide) ?_ | refine hn5 _ ?_ | refine he5 _ _ ?_ | refine hn4 _ ?_ | refine he4 _ _ ?_ | refine he3 _ _ ?_ | refine hn2 _ ?_ | refine he2 _ ?_ | refine hf2 _ _ (by decide) ?_ | refine hn1 _ ?_ | refine he1 _ _ ?_)
    refine wlk_reg fun KY hKY => ?_
    simp only [go_sem, c_graph_Lists_r6, incS (show k < 4611686018427387904 by omega)]
    refine hKY _ ?_
    repeat (first | refine hn6 _ ?_ | refine he6 _ ?_ | refine hf6 _ _ (by decide) ?_ | refine hn5 _ ?_ | refine he5 _ _ ?_ | refine hn4 _ ?_ | refine he4 _ _ ?_)
    refine hn3 _ (k + 1) (es.length - (k + 1)) (by omega) (by first | (simp only [go_sem, updAll_cons, updAll_nil]; done) | with_reducible rfl | rfl) ?_
    exact ⟨hk2, rfl⟩
  · refine wlk_cond0 (by first | rfl | (simp only [go_sem]; try simp (disch := omega) only [decide_eq_true, decide_eq_false])) ?_
    refine wlk_exit ?_
    repeat (first | refine hn4 _ ?_ | refine he4 _ _ ?_ | refine he3 _ _ ?_ | refine hn2 _ ?_ | refine he2 _ ?_ | refine hf2 _ _ (by decide) ?_ | refine hn1 _ ?_ | refine he1 _ _ ?_)
    obtain rfl : k = es.length := by omega
    rw [List.take_length, show (List.range n).map (lowOf es) = (List.range n).map fun v => lowOf es v ++ highOf [] v by simp [highOf]]
    refine wlk_seq fun X7 hn7 he7 hr7 => ?_
    refine wlk_sreg fun KY hKY => ?_
    simp only [go_sem, c_graph_Lists_r7, castE_len]
    refine hKY _ ?_
    refine wlk_blk fun X8 hn8 he8 hf8 hr8 => ?_
    try simp only [go_sem]
    refine wlk_lp (α := Nat) [9, 15, 35] (fun k => [(5, .own (some 1) (rowsO ((List.range n).map fun v => lowOf es v ++ highOf (es.take k) v))), (34, .sc (.int .i64 (k : Int)))]) (fun k => []) (fun k q => k ≤ es.length ∧ q = es.length - k) (0) (es.length) rfl (by first | (simp only [go_sem, updAll_cons, updAll_nil]; done) | with_reducible rfl | rfl) (⟨by omega, rfl⟩) ?_
    rintro k q ⟨hk, rfl⟩ X9 hn9 he9 hr9
    simp only [go_sem, updAll_cons, updAll_nil]
    refine wlk_sreg fun KY hKY => ?_
    simp only [go_sem, c_graph_Lists_r8]
    refine hKY _ ?_
    refine wlk_seq fun X10 hn10 he10 hr10 => ?_
    by_cases hk2 : k < es.length
    · refine wlk_cond1 (by first | rfl | (simp only [go_sem]; try simp (disch := omega) only [decide_eq_true, decide_eq_false])) ?_
      refine wlk_skip ?_
      repeat (first | refine hn10 _ ?_ | refine he10 _ _ ?_ | refine he9 _ _ ?_ | refine hn8 _ ?_ | refine he8 _ ?_ | refine hf8 _ _ (by decide) ?_ | refine hn7 _ ?_ | refine he7 _ _ ?_ | refine hn4 _ ?_ | refine he4 _ _ ?_)
      refine wlk_seq fun X11 hn11 he11 hr11 => ?_
      refine wlk_blk fun X12 hn12 he12 hf12 hr12 => ?_
      have hx : es[k]? = some es[k] := List.getElem?_eq_getElem hk2
      have hy := g.ok es[k] (List.getElem_mem hk2)
      generalize es[k] = x at hx hy
      obtain ⟨a, b⟩ := x
      simp only at hy
      have hx' := castE_get hx
      refine wlk_sreg fun KY hKY => ?_
      simp only [go_sem, c_graph_Lists_r9, two_cells hx', List.length_drop, castE_len]
      repeat (simp (disch := omega) only [if_pos, if_neg, decide_eq_true, decide_eq_false, incS, nats_get, ints_get, two_cells hx', List.length_drop, castE_len]; try simp only [go_sem, two_cells hx', List.length_drop, castE_len])
      refine hKY _ ?_
      have han : a < n := by omega
      have hg : ((List.range n).map fun v => lowOf es v ++ highOf (es.take k) v)[a]? = some (lowOf es a ++ highOf (es.take k) a) := by simp [han]
      have hl1 : (lowOf es a ++ highOf (es.take k) a).length ≤ 2 * es.length := by
        rw [List.length_append]
        have h1 := low_len es a
        have h2 : (highOf (es.take k) a).length ≤ es.length := Nat.le_trans (high_len _ _) (by simp; omega)
        omega
      have hl2 : ((lowOf es a ++ highOf (es.take k) a).length + 1) * 8 ≤ 140737488355328 := by omega
      have hset : ((List.range n).map fun v => lowOf es v ++ highOf (es.take k) v).set a (lowOf es a ++ highOf (es.take k) a ++ [b]) = (List.range n).map fun v => lowOf es v ++ highOf (es.take (k + 1)) v :=
        map_set_range (by rw [high_step hx, if_pos rfl, List.append_assoc]) (fun v hv => by rw [high_step hx, if_neg hv])
      refine wlk_draw fun KY hKY => ?_
      simp only [go_sem, c_graph_Lists_r10, rowsO_get hg, han, hl2, nats_snoc, hset]
      refine hKY _ ?_
      repeat (first | refine hn12 _ ?_ | refine he12 _ ?_ | refine hf12 _ _ (by decide) ?_ | refine hn11 _ ?_ | refine he11 _ _ ?_ | refine hn10 _ ?_ | refine he10 _ _ ?_ | refine he9 _ _ ?_ | refine hn8 _ ?_ | refine he8 _ ?_ | refine hf8 _ _ (by decide) ?_ | refine hn7 _ ?_ | refine he7 _ _ ?_ | refine hn4 _ ?_ | refine he4 _ _ ?_)
      refine wlk_reg fun KY hKY => ?_
      simp only [go_sem, c_graph_Lists_r11, incS (show k < 4611686018427387904 by omega)]
      refine hKY _ ?_
      repeat (first | refine hn12 _ ?_ | refine he12 _ ?_ | refine hf12 _ _ (by decide) ?_ | refine hn11 _ ?_ | refine he11 _ _ ?_ | refine hn10 _ ?_ | refine he10 _ _ ?_)
      refine hn9 _ (k + 1) (es.length - (k + 1)) (by omega) (by first | (simp only [go_sem, updAll_cons, updAll_nil]; done) | with_reducible rfl | rfl) ?_
      exact ⟨hk2, rfl⟩
    · refine wlk_cond0 (by first | rfl | (simp only [go_sem]; try simp (disch := omega) only [decide_eq_true, decide_eq_false])) ?_
      refine wlk_exit ?_
      repeat (first | refine hn10 _ ?_ | refine he10 _ _ ?_ | refine he9 _ _ ?_ | refine hn8 _ ?_ | refine he8 _ ?_ | refine hf8 _ _ (by decide) ?_ | refine hn7 _ ?_ | refine he7 _ _ ?_ | refine hn4 _ ?_ | refine he4 _ _ ?_ | refine he3 _ _ ?_ | refine hn2 _ ?_ | refine he2 _ ?_ | refine hf2 _ _ (by decide) ?_ | refine hn1 _ ?_ | refine he1 _ _ ?_)
      obtain rfl : k = es.length := by omega
      rw [List.take_length]
      refine wlk_sreg fun KY hKY => ?_
      simp only [go_sem, c_graph_Lists_r12]
      refine hKY _ ?_
      refine wlk_ret ?_
      repeat (first | refine hr10 _ ?_ | refine hr9 _ ?_ | refine hr8 _ ?_ | refine hr7 _ ?_ | refine hr4 _ ?_ | refine hr3 _ ?_ | refine hr2 _ ?_ | refine hr1 _ ?_)
      simp only [go_sem]
      rfl
def pObj (nr : List (List Nat)) (s : DS) : List AVal := [.imm 1 (rowsI nr), .own (some 1) (bools s.1), .own (some 1) (nats s.2.1), .own (some 1) (nats s.2.2)]
theorem come_ok (nr : List (List Nat)) (s : DS) (v : Nat) (hv : v < s.1.length) (h1 : s.2.1.length ≤ 100000) (h2 : s.2.2.length ≤ 100000) :
    ACalls Try.prog [] n_pieces_walk_come [.ptr 0 0, .sc (.int .i64 (v : Int))] [some (pObj nr s)] fun r h' => r = .tup [] ∧ h' = [some (pObj nr (come s v))] := by
  obtain ⟨d, nw, r⟩ := s
  simp only at hv h1 h2
  have hb := bools_get hv
  have b1 : (nw.length + 1) * 8 ≤ 140737488355328 := by omega
  have b2 : (r.length + 1) * 8 ≤ 140737488355328 := by omega
  unfold pObj come
  refine go_pieces_walk_come rfl ?_
  unfold c_pieces_walk_come v_pieces_walk_come
  simp only
  refine wlk_sreg fun KY hKY => ?_
  simp only [go_sem, c_pieces_walk_come_r0, hb, hv]
  refine hKY _ ?_
  cases hd : d.getD v false with
  | true =>
    refine wlk_cond0 (by first | rfl | (simp only [go_sem, hd]; try simp (disch := omega) only [decide_eq_true, decide_eq_false])) ?_
    refine wlk_skip ?_
    simp only [go_sem]
  | false =>
    refine wlk_cond1 (by first | rfl | (simp only [go_sem, hd]; try simp (disch := omega) only [decide_eq_true, decide_eq_false])) ?_
    refine wlk_sreg fun KY hKY => ?_
    simp only [go_sem, c_pieces_walk_come_r1, hv]
    refine hKY _ ?_
    refine wlk_sreg fun KY hKY => ?_
    simp only [go_sem, c_pieces_walk_come_r2, nats_snoc, b1]
    refine hKY _ ?_
    refine wlk_reg fun KY hKY => ?_
    simp only [go_sem, c_pieces_walk_come_r3, nats_snoc, b2]
    refine hKY _ ?_
    simp only [go_sem]
end Go.Proofs.Ytkjppnofgmpeeaa

namespace Go.Ga.Gl
open Go Go.Ga
theorem pairs_even (f : Nat → Nat) : ∀ (k : Nat) (l : List Nat), l.length ≤ k → l.Nodup → (∀ x ∈ l, f x ∈ l ∧ f x ≠ x ∧ f (f x) = x) → l.length % 2 = 0 := by
  intro k
  induction k with
  | zero => intro l h _ _; rw [Nat.le_zero.1 h]
  | succ k ih =>
    intro l hk hn h
    match l, hk, hn, h with
    | [], _, _, _ => rfl
    | x :: l, hk, hn, h =>
      obtain ⟨hx, hn'⟩ := List.nodup_cons.1 hn
      obtain ⟨h1, h2, h3⟩ := h x (by simp)
      have hfx : f x ∈ l := (List.mem_cons.1 h1).resolve_left h2
      have hlen := List.length_erase_of_mem hfx
      have hpos := List.length_pos_of_mem hfx
      simp only [List.length_cons] at hk
      have := ih (l.erase (f x)) (by omega) (hn'.erase _) fun y hy => by
        obtain ⟨hyx, hyl⟩ := (hn'.mem_erase_iff).1 hy
        obtain ⟨k1, k2, k3⟩ := h y (List.mem_cons_of_mem _ hyl)
        have n1 : f y ≠ x := fun e => hyx (by rw [← k3, e])
        have n2 : f y ≠ f x := fun e => by
          have : y = x := by rw [← k3, e, h3]
          exact hx (this ▸ hyl)
        exact ⟨(hn'.mem_erase_iff).2 ⟨n2, (List.mem_cons.1 k1).resolve_left n1⟩, k2, k3⟩
      simp only [List.length_cons]
      omega
theorem nodup_mapOn {f : Nat → Nat} : ∀ {l : List Nat}, l.Nodup → (∀ x ∈ l, ∀ y ∈ l, f x = f y → x = y) → (l.map f).Nodup
  | [], _, _ => by simp
  | a :: l, hn, h => by
    obtain ⟨ha, hn⟩ := List.nodup_cons.1 hn
    rw [List.map_cons]
    refine List.nodup_cons.2 ⟨fun hm => ?_, nodup_mapOn hn fun x hx y hy => h x (List.mem_cons_of_mem _ hx) y (List.mem_cons_of_mem _ hy)⟩
    obtain ⟨b, hb, e⟩ := List.mem_map.1 hm
    have := h b (List.mem_cons_of_mem _ hb) a (by simp) e
    exact ha (this ▸ hb)
def num (n : Nat) (p : Nat → Bool) : Nat := ((List.range n).filter p).length
theorem cnt_split (p : Nat → Bool) : ∀ l : List Nat, (l.filter p).length + (l.filter fun x => !p x).length = l.length
  | [] => rfl
  | a :: l => by
    have := cnt_split p l
    cases h : p a <;> simp [h] <;> omega
theorem num_split (n : Nat) (p : Nat → Bool) : num n p + num n (fun x => !p x) = n := by
  have := cnt_split p (List.range n)
  rwa [List.length_range] at this
theorem num_and (n : Nat) (p q : Nat → Bool) : num n (fun x => p x && q x) + num n (fun x => p x && !q x) = num n p := by
  have := cnt_split q ((List.range n).filter p)
  rw [List.filter_filter, List.filter_filter] at this
  unfold num
  rw [← this]
  congr 2 <;> (refine List.filter_congr fun x _ => ?_; exact Bool.and_comm _ _)
theorem num_mem {n : Nat} {p : Nat → Bool} {v : Nat} : v ∈ (List.range n).filter p ↔ v < n ∧ p v = true := by
  rw [List.mem_filter, List.mem_range]
theorem num_pos {n : Nat} {p : Nat → Bool} {v : Nat} (hv : v < n) (hp : p v = true) : 1 ≤ num n p := List.length_pos_of_mem (num_mem.2 ⟨hv, hp⟩)
def isFr (mt : Nat → Int) (v : Nat) : Bool := decide (mt v = -1)
def fre (n : Nat) (mt : Nat → Int) : Nat := num n (isFr mt)
theorem isFr_iff {mt : Nat → Int} {v : Nat} : isFr mt v = true ↔ mt v = -1 := decide_eq_true_iff
theorem fre_parity {n : Nat} {E : Nat → Nat → Prop} {mt : Nat → Int} (M : Mf n E mt) : (n - fre n mt) % 2 = 0 ∧ fre n mt ≤ n := by
  have h := num_split n (isFr mt)
  have h2 := pairs_even (fun v => (mt v).toNat) _ ((List.range n).filter fun x => !isFr mt x) (Nat.le_refl _) (List.nodup_range.filter _) fun x hx => by
    obtain ⟨h1, h3⟩ := num_mem.1 hx
    rcases M.at_ x h1 with h4 | ⟨w, h4, h5⟩
    · have := isFr_iff.2 h4
      rw [this] at h3; cases h3
    · have hs := M.sy x w h4
      have e1 : (mt x).toNat = w := by rw [h4]; rfl
      have e2 : (mt w).toNat = x := by rw [hs]; rfl
      refine ⟨?_, by rw [e1]; exact (M.ne x w h4).1, by rw [e1, e2]⟩
      rw [e1]
      refine num_mem.2 ⟨h5, ?_⟩
      unfold isFr
      rw [hs, decide_eq_false (by omega)]; rfl
  have h2' : num n (fun x => !isFr mt x) % 2 = 0 := h2
  unfold fre
  omega
structure Cert (n : Nat) (E : Nat → Nat → Prop) (mt : Nat → Int) (D A : Nat → Bool) (bs : Nat → Nat) : Prop where
  dn : ∀ v, D v = true → v < n
  an : ∀ v, A v = true → v < n ∧ D v = false
  ed : ∀ v w, D v = true → E v w → A w = true ∨ (D w = true ∧ bs w = bs v)
  db : ∀ v, D v = true → D (bs v) = true ∧ bs (bs v) = bs v
  fr : ∀ v, v < n → mt v = -1 → D v = true ∧ bs v = v
  am : ∀ a, A a = true → ∃ x : Nat, mt a = (x : Int) ∧ D x = true ∧ bs x = x
  dm : ∀ v, D v = true → bs v ≠ v → ∃ w : Nat, mt v = (w : Int) ∧ D w = true ∧ bs w = bs v
  bb : ∀ b m : Nat, D b = true → bs b = b → mt b = (m : Int) → A m = true
def isB (D : Nat → Bool) (bs : Nat → Nat) (v : Nat) : Bool := D v && decide (bs v = v)
theorem isB_iff {D : Nat → Bool} {bs : Nat → Nat} {v : Nat} : isB D bs v = true ↔ D v = true ∧ bs v = v := by
  unfold isB; rw [Bool.and_eq_true, decide_eq_true_iff]
theorem Cert.strong {n : Nat} {E E0 : Nat → Nat → Prop} {mt : Nat → Int} {D A : Nat → Bool} {bs : Nat → Nat} (C : Cert n E mt D A bs) (M : Mf n E0 mt) : num n A + fre n mt = num n (isB D bs) := by
  have hs := M.sy
  refine Nat.le_antisymm ?_ ?_
  · have hA := List.nodup_range.filter (l := List.range n) A
    have hF := List.nodup_range.filter (l := List.range n) (isFr mt)
    have hm : ∀ a ∈ (List.range n).filter A, ∃ x : Nat, mt a = (x : Int) ∧ (mt a).toNat = x ∧ D x = true ∧ bs x = x := fun a ha => by
      obtain ⟨x, h1, h2, h3⟩ := C.am a (num_mem.1 ha).2
      exact ⟨x, h1, by rw [h1]; rfl, h2, h3⟩
    have hAm : (((List.range n).filter A).map fun a => (mt a).toNat).Nodup := nodup_mapOn hA fun a ha b hb e => by
      obtain ⟨x, h1, h2, _⟩ := hm a ha
      obtain ⟨y, k1, k2, _⟩ := hm b hb
      simp only [h2, k2] at e
      subst e
      have := hs a x h1
      have := hs b x k1
      omega
    have := nodup_le (l := ((List.range n).filter A).map (fun a => (mt a).toNat) ++ (List.range n).filter (isFr mt)) (m := (List.range n).filter (isB D bs)) (List.nodup_append.2 ⟨hAm, hF, fun x hx y hy e => ?_⟩) fun x hx => ?_
    · rw [List.length_append, List.length_map] at this
      exact this
    · subst e
      obtain ⟨a, ha, rfl⟩ := List.mem_map.1 hx
      obtain ⟨x, h1, h2, h3, h4⟩ := hm a ha
      have h5 := isFr_iff.1 (num_mem.1 hy).2
      rw [h2, hs a x h1] at h5
      omega
    · rcases List.mem_append.1 hx with hx | hx
      · obtain ⟨a, ha, rfl⟩ := List.mem_map.1 hx
        obtain ⟨x, h1, h2, h3, h4⟩ := hm a ha
        rw [h2]
        exact num_mem.2 ⟨C.dn x h3, isB_iff.2 ⟨h3, h4⟩⟩
      · obtain ⟨h1, h2⟩ := num_mem.1 hx
        exact num_mem.2 ⟨h1, isB_iff.2 (C.fr x h1 (isFr_iff.1 h2))⟩
  · have hB := List.nodup_range.filter (l := List.range n) (isB D bs)
    have hmate : ∀ b ∈ (List.range n).filter (isB D bs), mt b = -1 ∨ ∃ m : Nat, mt b = (m : Int) ∧ A m = true := fun b hb => by
      obtain ⟨k1, k2⟩ := num_mem.1 hb
      obtain ⟨k2, k3⟩ := isB_iff.1 k2
      rcases M.at_ b k1 with h | ⟨m, h, _⟩
      · exact .inl h
      · exact .inr ⟨m, h, C.bb b m k2 k3 h⟩
    have hnd : (((List.range n).filter (isB D bs)).map fun b => if mt b = -1 then b else (mt b).toNat).Nodup := nodup_mapOn hB fun a ha b hb e => by
      have da := (isB_iff.1 (num_mem.1 ha).2).1
      have db := (isB_iff.1 (num_mem.1 hb).2).1
      rcases hmate a ha with h1 | ⟨x, h1, h2⟩ <;> rcases hmate b hb with k1 | ⟨y, k1, k2⟩
      · simpa [h1, k1] using e
      · simp [h1, k1] at e
        subst e
        have := (C.an a k2).2
        rw [da] at this; cases this
      · simp [h1, k1] at e
        subst e
        have := (C.an x h2).2
        rw [db] at this; cases this
      · simp [h1, k1] at e
        subst e
        have := M.sy a x h1
        have := M.sy b x k1
        omega
    have := nodup_le (m := (List.range n).filter A ++ (List.range n).filter (isFr mt)) hnd fun x hx => by
      obtain ⟨b, hb, rfl⟩ := List.mem_map.1 hx
      rcases hmate b hb with h | ⟨m, h1, h2⟩
      · rw [if_pos h]
        exact List.mem_append.2 (.inr (num_mem.2 ⟨(num_mem.1 hb).1, isFr_iff.2 h⟩))
      · rw [if_neg (by omega), h1]
        exact List.mem_append.2 (.inl (num_mem.2 ⟨(C.an m h2).1, h2⟩))
    rw [List.length_append, List.length_map] at this
    exact this
theorem Cert.odd {n : Nat} {E : Nat → Nat → Prop} {mt : Nat → Int} {D A : Nat → Bool} {bs : Nat → Nat} (C : Cert n E mt D A bs) {E0 : Nat → Nat → Prop} (M : Mf n E0 mt) {b : Nat} (h1 : D b = true) (h2 : bs b = b) : num n (fun x => D x && decide (bs x = b)) % 2 = 1 := by
  have hB : ((List.range n).filter (fun x => D x && decide (bs x = b))).Nodup := List.nodup_range.filter _
  have hbm : b ∈ (List.range n).filter (fun x => D x && decide (bs x = b)) := num_mem.2 ⟨C.dn b h1, by simp [h1, h2]⟩
  have hlen := List.length_erase_of_mem hbm
  have hpos := List.length_pos_of_mem hbm
  have := pairs_even (fun v => (mt v).toNat) _ (((List.range n).filter (fun x => D x && decide (bs x = b))).erase b) (Nat.le_refl _) (hB.erase _) fun x hx => by
    obtain ⟨hxb, hxl⟩ := (hB.mem_erase_iff).1 hx
    obtain ⟨hxn, hxp⟩ := num_mem.1 hxl
    simp only [Bool.and_eq_true, decide_eq_true_iff] at hxp
    obtain ⟨w, k1, k2, k3⟩ := C.dm x hxp.1 (by rw [hxp.2]; exact Ne.symm hxb)
    have hs := M.sy x w k1
    have e1 : (mt x).toNat = w := by rw [k1]; rfl
    have e2 : (mt w).toNat = x := by rw [hs]; rfl
    rw [e1, e2]
    refine ⟨(hB.mem_erase_iff).2 ⟨fun e => ?_, num_mem.2 ⟨C.dn w k2, by simp [k2, k3, hxp.2]⟩⟩, (M.ne x w k1).1, rfl⟩
    subst e
    have := (C.an x (C.bb w x h1 h2 hs)).2
    rw [hxp.1] at this; cases this
  unfold num
  omega
theorem Cert.weak {n : Nat} {E : Nat → Nat → Prop} {mt mt' : Nat → Int} {D A : Nat → Bool} {bs : Nat → Nat} (C : Cert n E mt D A bs) {E0 : Nat → Nat → Prop} (M : Mf n E0 mt) (M' : Mf n E mt') : fre n mt + num n (fun v => isFr mt' v && !D v) ≤ fre n mt' := by
  have hst := C.strong M
  let R : Nat → Nat → Prop := fun b y => (D y = true ∧ bs y = b ∧ mt' y = -1) ∨ (A y = true ∧ ∃ x : Nat, mt' y = (x : Int) ∧ D x = true ∧ bs x = b)
  have hex : ∀ b, isB D bs b = true → ∃ y, R b y := by
    intro b hb
    obtain ⟨hb1, hb2⟩ := isB_iff.1 hb
    refine Classical.byContradiction fun hno => ?_
    have hodd := C.odd M hb1 hb2
    have hB := List.nodup_range.filter (l := List.range n) (fun x => D x && decide (bs x = b))
    have := pairs_even (fun v => (mt' v).toNat) _ ((List.range n).filter (fun x => D x && decide (bs x = b))) (Nat.le_refl _) hB fun x hx => by
      obtain ⟨hxn, hxp⟩ := num_mem.1 hx
      simp only [Bool.and_eq_true, decide_eq_true_iff] at hxp
      rcases M'.at_ x hxn with h | ⟨w, h, hwn⟩
      · exact absurd ⟨x, .inl ⟨hxp.1, hxp.2, h⟩⟩ hno
      · have hs := M'.sy x w h
        have e1 : (mt' x).toNat = w := by rw [h]; rfl
        have e2 : (mt' w).toNat = x := by rw [hs]; rfl
        obtain ⟨hwx, hE⟩ := M'.ne x w h
        rcases C.ed x w hxp.1 hE with ha | ⟨hd, hbw⟩
        · exact absurd ⟨w, .inr ⟨ha, x, hs, hxp.1, hxp.2⟩⟩ hno
        · rw [e1, e2]
          exact ⟨num_mem.2 ⟨hwn, by simp [hd, hbw, hxp.2]⟩, hwx, rfl⟩
    unfold num at hodd
    omega
  let g : Nat → Nat := fun b => @dite _ (∃ y, R b y) (Classical.propDecidable _) (fun h => Classical.choose h) (fun _ => 0)
  have hg : ∀ b, isB D bs b = true → R b (g b) := fun b hb => by
    have h := hex b hb
    show R b (@dite _ (∃ y, R b y) (Classical.propDecidable _) (fun h => Classical.choose h) (fun _ => 0))
    rw [dif_pos h]
    exact Classical.choose_spec h
  have hinj : (((List.range n).filter (isB D bs)).map g).Nodup := nodup_mapOn (List.nodup_range.filter _) fun a ha b hb e => by
    have ra := hg a (num_mem.1 ha).2
    have rb := hg b (num_mem.1 hb).2
    rw [← e] at rb
    rcases ra with ⟨k1, k2, k3⟩ | ⟨k1, x, k2, k3, k4⟩ <;> rcases rb with ⟨j1, j2, j3⟩ | ⟨j1, y, j2, j3, j4⟩
    · rw [← k2, j2]
    · have := (C.an _ j1).2
      rw [k1] at this; cases this
    · have := (C.an _ k1).2
      rw [j1] at this; cases this
    · obtain rfl : x = y := by omega
      rw [← k4, j4]
  have hle := nodup_le (m := (List.range n).filter (fun v => isFr mt' v && D v) ++ (List.range n).filter (fun v => A v && !isFr mt' v)) hinj fun x hx => by
    obtain ⟨b, hb, rfl⟩ := List.mem_map.1 hx
    rcases hg b (num_mem.1 hb).2 with ⟨k1, k2, k3⟩ | ⟨k1, x, k2, k3, k4⟩
    · exact List.mem_append.2 (.inl (num_mem.2 ⟨C.dn _ k1, by rw [isFr_iff.2 k3, k1]; rfl⟩))
    · refine List.mem_append.2 (.inr (num_mem.2 ⟨(C.an _ k1).1, ?_⟩))
      have : isFr mt' (g b) = false := decide_eq_false (by omega)
      rw [k1, this]; rfl
  rw [List.length_append, List.length_map] at hle
  have e1 := num_and n (isFr mt') D
  have e2 := num_and n A (isFr mt')
  have hle' : num n (isB D bs) ≤ num n (fun v => isFr mt' v && D v) + num n (fun v => A v && !isFr mt' v) := hle
  unfold fre at *
  omega
theorem Cert.most {n : Nat} {E : Nat → Nat → Prop} {mt mt' : Nat → Int} {D A : Nat → Bool} {bs : Nat → Nat} (C : Cert n E mt D A bs) {E0 : Nat → Nat → Prop} (M : Mf n E0 mt) (M' : Mf n E mt') : fre n mt ≤ fre n mt' := Nat.le_trans (Nat.le_add_right _ _) (C.weak M M')
theorem Cert.less {n : Nat} {E : Nat → Nat → Prop} {mt mt' : Nat → Int} {D A : Nat → Bool} {bs : Nat → Nat} (C : Cert n E mt D A bs) {E0 : Nat → Nat → Prop} (M : Mf n E0 mt) (M' : Mf n E mt') {v : Nat} (hv : v < n) (hD : D v = false) (hm : mt' v = -1) : fre n mt + 2 ≤ fre n mt' := by
  have h1 := C.weak M M'
  have h2 := num_pos (n := n) (p := fun v => isFr mt' v && !D v) hv (by rw [isFr_iff.2 hm, hD]; rfl)
  have h3 := fre_parity M
  have h4 := fre_parity M'
  omega
def Lg (n : Nat) (E : Nat → Nat → Prop) (mt : Nat → Int) : Prop := Mf n E mt ∧ ∀ mt', Mf n E mt' → fre n mt ≤ fre n mt'
def Dm (n : Nat) (E : Nat → Nat → Prop) (v : Nat) : Prop := v < n ∧ ∃ mt, Lg n E mt ∧ mt v = -1
theorem Cert.dm_iff {n : Nat} {E : Nat → Nat → Prop} {mt : Nat → Int} {D A : Nat → Bool} {bs : Nat → Nat} (C : Cert n E mt D A bs) (M : Mf n E mt) (hD : ∀ v, D v = true → ∃ mt', Mf n E mt' ∧ fre n mt' ≤ fre n mt ∧ mt' v = -1) (v : Nat) : D v = true ↔ Dm n E v := by
  constructor
  · intro h
    obtain ⟨mt', h1, h2, h3⟩ := hD v h
    exact ⟨C.dn v h, mt', ⟨h1, fun mt2 h4 => Nat.le_trans h2 (C.most M h4)⟩, h3⟩
  · rintro ⟨hv, mt', ⟨h1, h2⟩, h3⟩
    cases hd : D v with
    | true => rfl
    | false =>
      have := C.less M h1 hv hd h3
      have := h2 mt M
      omega
theorem miss {n : Nat} {E : Nat → Nat → Prop} {mt : Nat → Int} {S : FS} (M : Mf n E mt) (I : Inv n E mt S) {v : Nat} (hv : S.out v = true) : ∃ mt', Mf n E mt' ∧ fre n mt' ≤ fre n mt ∧ mt' v = -1 := by
  obtain ⟨r, ps, hr, hfr, hrn, W, G, nd, hy⟩ := tree_way M I hv
  have hcl := good_closed M.sy G hfr
  obtain ⟨l, hl, hep⟩ : ∃ l, verts ps r = v :: l ∧ EP E l := by
    cases G with
    | nil => exact ⟨[], rfl, trivial⟩
    | cons h1 h2 h3 => exact ⟨_, rfl, EP_good h3 _ h2⟩
  rw [hl] at nd hy hcl
  obtain ⟨hvl, hnl⟩ := List.nodup_cons.1 nd
  have sp := par_spec M.es l hep hnl
  have hrl : r ∈ v :: l := by rw [← hl]; simp [verts]
  have hln : ∀ u ∈ l, u < n := fun u hu => (hy u (List.mem_cons_of_mem _ hu)).2
  let mt' : Nat → Int := fun u => if u = v then -1 else if u ∈ l then (par l u : Int) else mt u
  have m1 : mt' v = -1 := if_pos rfl
  have m2 : ∀ u ∈ l, mt' u = (par l u : Int) := fun u hu => by
    show (if u = v then -1 else if u ∈ l then (par l u : Int) else mt u) = _
    rw [if_neg (fun e : u = v => hvl (e ▸ hu)), if_pos hu]
  have m3 : ∀ u, u ≠ v → u ∉ l → mt' u = mt u := fun u h1 h2 => by
    show (if u = v then -1 else if u ∈ l then (par l u : Int) else mt u) = _
    rw [if_neg h1, if_neg h2]
  have far : ∀ u w : Nat, u ≠ v → u ∉ l → mt u = (w : Int) → w ≠ v ∧ w ∉ l := fun u w h1 h2 h3 => by
    have hs := M.sy u w h3
    have : ∀ z ∈ v :: l, z ≠ w := fun z hz e => by
      subst e
      have := hcl z hz u hs
      rcases List.mem_cons.1 this with e | e
      · exact h1 e
      · exact h2 e
    exact ⟨fun e => this v (by simp) e.symm, fun e => this w (List.mem_cons_of_mem _ e) rfl⟩
  have cases3 : ∀ u, u = v ∨ u ∈ l ∨ (u ≠ v ∧ u ∉ l) := fun u => by
    by_cases h1 : u = v
    · exact .inl h1
    · by_cases h2 : u ∈ l
      · exact .inr (.inl h2)
      · exact .inr (.inr ⟨h1, h2⟩)
  refine ⟨mt', ⟨fun u hu => ?_, fun u hu w h => ?_, fun u w h => ?_, fun u w h => ?_, M.es, M.el⟩, ?_, m1⟩
  · rcases cases3 u with rfl | h | ⟨h1, h2⟩
    · exact .inl m1
    · exact .inr ⟨_, m2 u h, hln _ (sp u h).1⟩
    · rw [m3 u h1 h2]; exact M.at_ u hu
  · rcases cases3 u with rfl | h1 | ⟨h1, h2⟩
    · rw [m1] at h; omega
    · exact hu (hln u h1)
    · rw [m3 u h1 h2] at h; exact M.big u hu w h
  · rcases cases3 u with rfl | h1 | ⟨h1, h2⟩
    · rw [m1] at h; omega
    · rw [m2 u h1] at h
      obtain rfl : par l u = w := by omega
      rw [m2 _ (sp u h1).1, (sp u h1).2.2]
    · rw [m3 u h1 h2] at h
      obtain ⟨k1, k2⟩ := far u w h1 h2 h
      rw [m3 w k1 k2]; exact M.sy u w h
  · rcases cases3 u with rfl | h1 | ⟨h1, h2⟩
    · rw [m1] at h; omega
    · rw [m2 u h1] at h
      obtain rfl : par l u = w := by omega
      exact ⟨(M.el _ _ (sp u h1).2.1).2.2.symm, (sp u h1).2.1⟩
    · rw [m3 u h1 h2] at h; exact M.ne u w h
  · have hnd : (((List.range n).filter (isFr mt')).map fun u => if u = v then r else u).Nodup := nodup_mapOn (List.nodup_range.filter _) fun a ha b hb e => by
      have fa := isFr_iff.1 (num_mem.1 ha).2
      have fb := isFr_iff.1 (num_mem.1 hb).2
      have key : ∀ z, mt' z = -1 → z ≠ v → z ≠ r := fun z hz hzv e => by
        subst e
        have := (List.mem_cons.1 hrl).resolve_left hzv
        rw [m2 z this] at hz; omega
      by_cases h1 : a = v <;> by_cases h2 : b = v
      · rw [h1, h2]
      · simp only [if_pos h1, if_neg h2] at e
        exact absurd e.symm (key b fb h2)
      · simp only [if_neg h1, if_pos h2] at e
        exact absurd e (key a fa h1)
      · simpa only [if_neg h1, if_neg h2] using e
    have := nodup_le (m := (List.range n).filter (isFr mt)) hnd fun x hx => by
      obtain ⟨u, hu, rfl⟩ := List.mem_map.1 hx
      obtain ⟨hun, hu⟩ := num_mem.1 hu
      have hu := isFr_iff.1 hu
      by_cases h1 : u = v
      · rw [if_pos h1]; exact num_mem.2 ⟨hrn, isFr_iff.2 hfr⟩
      · rw [if_neg h1]
        have h2 : u ∉ l := fun h => by rw [m2 u h] at hu; omega
        rw [m3 u h1 h2] at hu
        exact num_mem.2 ⟨hun, isFr_iff.2 hu⟩
    rw [List.length_map] at this
    exact this
def odd2 (S : FS) (v : Nat) : Bool := decide (S.lab v = 2) && !S.out v
theorem odd2_iff {S : FS} {v : Nat} : odd2 S v = true ↔ S.lab v = 2 ∧ S.out v = false := by
  unfold odd2; simp
theorem Inv.cert {n : Nat} {E : Nat → Nat → Prop} {mt : Nat → Int} {S : FS} (M : Mf n E mt) (I : Inv n E mt S) (L : Lk E S []) : Cert n E mt S.out (odd2 S) S.bs where
  dn := fun v h => (I.o1 v h).1
  an := fun v h => ⟨(I.od v (odd2_iff.1 h).1).1, (odd2_iff.1 h).2⟩
  ed := fun v w hv hE => by
    obtain ⟨h1, h2⟩ := L v w hv (by simp) hE
    cases ho : S.out w with
    | true =>
      rcases h2 ho with h | h
      · exact .inr ⟨rfl, h⟩
      · simp at h
    | false =>
      refine .inl (odd2_iff.2 ⟨?_, ho⟩)
      have h3 := I.l2 w
      have h4 : S.lab w ≠ 1 := fun e => by have := I.e1 w e; rw [ho] at this; cases this
      omega
  db := fun v h => ⟨(I.bo v h).1, (I.bo v h).2.2.1⟩
  fr := fun v hv hm => by
    have h1 := (I.fr v hv hm).1
    have ho := I.e1 v h1
    refine ⟨ho, ?_⟩
    obtain ⟨ps, w, _⟩ := I.wy v ho
    generalize S.bs v = b at w
    cases w with
    | here => rfl
    | even _ _ h3 _ _ => omega
    | odd _ _ h3 _ _ _ => omega
  am := fun a h => by
    obtain ⟨h1, h2⟩ := odd2_iff.1 h
    obtain ⟨_, x, k1, k2, _⟩ := I.od a h1
    exact ⟨x, k1, I.e1 x k2, I.bx a x h1 h2 k1⟩
  dm := fun v h hb => by
    have hl := I.l2 v
    have h0 := (I.o1 v h).2
    have main : ∀ w : Nat, mt v = (w : Int) → S.out w = true → ∃ w : Nat, mt v = (w : Int) ∧ S.out w = true ∧ S.bs w = S.bs v := fun w h1 h2 => ⟨w, h1, h2, (I.mate_same M h h1).2 h2⟩
    rcases (show S.lab v = 1 ∨ S.lab v = 2 by omega) with e | e
    · rcases I.ev v e with ⟨k, _⟩ | ⟨m, k1, k2⟩
      · exfalso
        obtain ⟨ps, w, _⟩ := I.wy v h
        generalize S.bs v = b at w hb
        cases w with
        | here => exact hb rfl
        | even _ _ h3 _ _ => omega
        | odd _ _ h3 _ _ _ => omega
      · cases ho : S.out m with
        | true => exact main m k1 ho
        | false => exact absurd (I.bx m v k2 ho (M.sy v m k1)) hb
    · obtain ⟨_, x, k1, k2, _⟩ := I.od v e
      exact main x k1 (I.e1 x k2)
  bb := fun b m h1 h2 hm => by
    rcases I.base M h1 h2 with ⟨h3, _⟩ | ⟨m', h3, h4, h5, _⟩
    · omega
    · obtain rfl : m' = m := by omega
      exact odd2_iff.2 ⟨h4, h5⟩
noncomputable def glab (n : Nat) (E : Nat → Nat → Prop) (v : Nat) : Nat :=
  open Classical in if Dm n E v then 1 else if ∃ w, Dm n E w ∧ E v w then 2 else 0
theorem done_lg {n : Nat} {E : Nat → Nat → Prop} {mt : Nat → Int} {S : FS} (M : Mf n E mt) (I : Inv n E mt S) (L : Lk E S []) : Lg n E mt := ⟨M, fun _ M' => (I.cert M L).most M M'⟩
theorem done_d {n : Nat} {E : Nat → Nat → Prop} {mt : Nat → Int} {S : FS} (M : Mf n E mt) (I : Inv n E mt S) (L : Lk E S []) (v : Nat) : S.out v = true ↔ Dm n E v := (I.cert M L).dm_iff M (fun v hv => miss M I hv) v
theorem done_a {n : Nat} {E : Nat → Nat → Prop} {mt : Nat → Int} {S : FS} (M : Mf n E mt) (I : Inv n E mt S) (L : Lk E S []) (v : Nat) : odd2 S v = true ↔ ¬ Dm n E v ∧ ∃ w, Dm n E w ∧ E v w := by
  have C := I.cert M L
  rw [← done_d M I L v]
  constructor
  · intro h
    obtain ⟨h1, h2⟩ := odd2_iff.1 h
    obtain ⟨_, x, k1, k2, k3, k4, k5, k6⟩ := I.od v h1
    exact ⟨by rw [h2]; simp, S.pr v, (done_d M I L _).1 k4, k5⟩
  · rintro ⟨h1, w, h2, h3⟩
    rcases C.ed w v ((done_d M I L w).2 h2) (M.es _ _ h3) with h | ⟨h, _⟩
    · exact h
    · exact absurd h h1
theorem done_lab {n : Nat} {E : Nat → Nat → Prop} {mt : Nat → Int} {S : FS} (M : Mf n E mt) (I : Inv n E mt S) (L : Lk E S []) (v : Nat) : (if S.out v = true then 1 else S.lab v) = glab n E v := by
  have hd := done_d M I L v
  have ha := done_a M I L v
  unfold glab
  by_cases h : S.out v = true
  · rw [if_pos h, if_pos (hd.1 h)]
  · rw [if_neg h, if_neg (fun e => h (hd.2 e))]
    have ho : S.out v = false := by simpa using h
    have hl := I.l2 v
    have h1 : S.lab v ≠ 1 := fun e => h (I.e1 v e)
    by_cases h2 : S.lab v = 2
    · rw [h2, if_pos (ha.1 (odd2_iff.2 ⟨h2, ho⟩)).2]
    · rw [if_neg]
      · omega
      · intro e
        exact h2 (odd2_iff.1 (ha.2 ⟨fun e2 => h (hd.2 e2), e⟩)).1
end Go.Ga.Gl

namespace Go.Ga.Gl
open Go Go.Ga
theorem Mf.add {n : Nat} {E : Nat → Nat → Prop} {mt mt' : Nat → Int} (M : Mf n E mt) {v w : Nat} (hv : mt v = -1) (hw : mt w = -1) (hE : E v w) (h1 : mt' v = (w : Int)) (h2 : mt' w = (v : Int)) (h3 : ∀ u, u ≠ v → u ≠ w → mt' u = mt u) : Mf n E mt' := by
  obtain ⟨hvn, hwn, hne⟩ := M.el v w hE
  have c3 : ∀ u, u = v ∨ u = w ∨ (u ≠ v ∧ u ≠ w) := fun u => by omega
  have far : ∀ u x : Nat, mt u = (x : Int) → x ≠ v ∧ x ≠ w := fun u x h => by
    have hs := M.sy u x h
    exact ⟨fun e => by subst e; omega, fun e => by subst e; omega⟩
  refine ⟨fun u hu => ?_, fun u hu x h => ?_, fun u x h => ?_, fun u x h => ?_, M.es, M.el⟩
  · rcases c3 u with rfl | rfl | ⟨k1, k2⟩
    · exact .inr ⟨w, h1, hwn⟩
    · exact .inr ⟨v, h2, hvn⟩
    · rw [h3 u k1 k2]; exact M.at_ u hu
  · have k1 : u ≠ v := fun e => hu (e ▸ hvn)
    have k2 : u ≠ w := fun e => hu (e ▸ hwn)
    rw [h3 u k1 k2] at h
    exact M.big u hu x h
  · rcases c3 u with rfl | rfl | ⟨k1, k2⟩
    · obtain rfl : w = x := by omega
      exact h2
    · obtain rfl : v = x := by omega
      exact h1
    · rw [h3 u k1 k2] at h
      obtain ⟨j1, j2⟩ := far u x h
      rw [h3 x j1 j2]; exact M.sy u x h
  · rcases c3 u with rfl | rfl | ⟨k1, k2⟩
    · obtain rfl : w = x := by omega
      exact ⟨Ne.symm hne, hE⟩
    · obtain rfl : v = x := by omega
      exact ⟨hne, M.es _ _ hE⟩
    · rw [h3 u k1 k2] at h; exact M.ne u x h
theorem fre_less {n : Nat} {mt mt' : Nat → Int} {r : Nat} (hr : r < n) (h1 : mt r = -1) (h2 : mt' r ≠ -1) (h3 : ∀ u, mt' u = -1 → mt u = -1) : fre n mt' + 1 ≤ fre n mt := by
  have := nodup_le (l := r :: (List.range n).filter (isFr mt')) (m := (List.range n).filter (isFr mt)) (List.nodup_cons.2 ⟨fun h => h2 (isFr_iff.1 (num_mem.1 h).2), List.nodup_range.filter _⟩) fun x hx => by
    rcases List.mem_cons.1 hx with rfl | hx
    · exact num_mem.2 ⟨hr, isFr_iff.2 h1⟩
    · obtain ⟨k1, k2⟩ := num_mem.1 hx
      exact num_mem.2 ⟨k1, isFr_iff.2 (h3 x (isFr_iff.1 k2))⟩
  rw [List.length_cons] at this
  exact this
theorem GR.mf {N : Nat} {es : Es} (g : GR N es) : (∀ v w, adj es v w → adj es w v) ∧ ∀ v w, adj es v w → v < N ∧ w < N ∧ v ≠ w := by
  refine ⟨fun v w h => adj_symm h, fun v w h => ?_⟩
  rcases h with h | h
  · have := g.ok _ h; simp only at this; omega
  · have := g.ok _ h; simp only at this; omega
theorem GR.none {N : Nat} {es : Es} (g : GR N es) {mt : Nat → Int} (h : ∀ v, mt v = -1) : Mf N (adj es) mt :=
  ⟨fun v _ => .inl (h v), fun v _ w e => by rw [h v] at e; omega, fun v w e => by rw [h v] at e; omega, fun v w e => by rw [h v] at e; omega, g.mf.1, g.mf.2⟩
theorem nearOf_len {N : Nat} {es : Es} (g : GR N es) (v : Nat) : (nearOf es v).length ≤ 131072 := by
  have h1 : (lowOf es v).length ≤ es.length := by simp [lowOf]; exact List.length_filter_le _ _
  have h2 : (highOf es v).length ≤ es.length := by simp [highOf]; exact List.length_filter_le _ _
  have := g.hm
  unfold nearOf
  rw [List.length_append]; omega
end Go.Ga.Gl
set_option maxRecDepth 100000
set_option maxHeartbeats 4000000
namespace Go.Proofs.Ytkjppnofgmpeeaa
open Go Go.Ga Go.Ga.Gl
theorem sfree_ok {n : Nat} (m : List Int) (hml : m.length = n) {v : Nat} (hv : v < n) :
    ACalls Try.prog [] n_greedy_search_free [.agg [.sl 0 0 n 1], .sc (.int .i64 (v : Int))] [some (ints m)] fun r h' => r = .sc (.bool (decide (m.getD v 0 < 0))) ∧ h' = [some (ints m)] := by
  have hg : (ints m)[v]? = some (.sc (.int .i64 (m.getD v 0))) := ints_get (by omega)
  refine go_greedy_search_free rfl ?_
  unfold c_greedy_search_free v_greedy_search_free
  refine wlk_sreg fun KY hKY => ?_
  simp only [go_sem, c_greedy_search_free_r0]
  refine hKY _ ?_
  refine wlk_sreg fun KY hKY => ?_
  simp only [go_sem, c_greedy_search_free_r1, hg, ints_len, hml, hv, Nat.zero_add]
  refine hKY _ ?_
  refine wlk_ret ?_
  simp only [go_sem]
theorem idxfree_ok {n : Nat} (m : List Int) (hml : m.length = n) (row : List Nat) (hr : ∀ x ∈ row, x < n) (hrl : row.length ≤ 1000000000) :
    ACalls Try.prog [] n_slices_IndexFunc___int_int_ [.imm 1 (nats row), .fn (.func n_greedy_search_free) [.agg [.sl 0 0 n 1]] []] [some (ints m)] fun r h' => (∃ z : Int, r = .sc (.int .i64 z) ∧ (z = -1 ∨ ∃ (i x : Nat), z = (i : Int) ∧ row[i]? = some x ∧ m.getD x 0 < 0)) ∧ h' = [some (ints m)] := by
  refine go_slices_IndexFunc___int_int_ rfl ?_
  unfold c_slices_IndexFunc___int_int_ v_slices_IndexFunc___int_int_
  refine wlk_sreg fun KY hKY => ?_
  simp only [go_sem, c_slices_IndexFunc___int_int__r0]
  refine hKY _ ?_
  refine wlk_seq fun X1 hn1 he1 hr1 => ?_
  refine wlk_sreg fun KY hKY => ?_
  simp only [go_sem, c_slices_IndexFunc___int_int__r1, nats_len]
  refine hKY _ ?_
  refine wlk_blk fun X2 hn2 he2 hf2 hr2 => ?_
  try simp only [go_sem]
  refine wlk_lp (α := Nat) [5, 9, 16] (fun k => [(8, .sc (.int .i64 (k : Int)))]) (fun k => [some (ints m)]) (fun k q => k ≤ row.length ∧ q = row.length - k) (0) (row.length) rfl (by first | (simp only [go_sem, updAll_cons, updAll_nil]; done) | with_reducible rfl | rfl) (⟨Nat.zero_le _, rfl⟩) ?_
  rintro k q ⟨hk, rfl⟩ X3 hn3 he3 hr3
  simp only [go_sem, updAll_cons, updAll_nil]
  rcases Nat.lt_or_ge k row.length with hk2 | hk2
  · have hdx : decide ((k : Int) < (row.length : Int)) = true := decide_eq_true (by omega)
    have hx : row[k]? = some (row[k]) := List.getElem?_eq_getElem hk2
    have hxg : (nats row)[k]? = some (.sc (.int .i64 ((row[k] : Nat) : Int))) := by simp [nats, hx]
    have hxn := hr _ (List.getElem_mem hk2)
    generalize row[k] = x at hx hxg hxn
    have hf := sfree_ok m hml hxn
    refine wlk_sreg fun KY hKY => ?_
    simp only [go_sem, c_slices_IndexFunc___int_int__r2, hdx]
    refine hKY _ ?_
    refine wlk_seq fun X4 hn4 he4 hr4 => ?_
    refine wlk_cond1 (by first | rfl | (simp only [go_sem]; try simp (disch := omega) only [decide_eq_true, decide_eq_false])) ?_
    refine wlk_skip ?_
    repeat (first | refine hn4 _ ?_ | refine he4 _ _ ?_ | refine he3 _ _ ?_ | refine hn2 _ ?_ | refine he2 _ ?_ | refine hf2 _ _ (by decide) ?_ | refine hn1 _ ?_ | refine he1 _ _ ?_)
    refine wlk_seq fun X5 hn5 he5 hr5 => ?_
    refine wlk_blk fun X6 hn6 he6 hf6 hr6 => ?_
    refine wlk_sreg fun KY hKY => ?_
    simp only [go_sem, c_slices_IndexFunc___int_int__r3]
    refine hKY _ ?_
    refine wlk_sreg fun KY hKY => ?_
    simp only [go_sem, c_slices_IndexFunc___int_int__r4, hxg, nats_len, hk2]
    apply call_gen [] [0] false none rfl
    iterate 8 (first | (simp only [go_sem, watchIn] <;> rfl) | rfl)
    refine (hf).mono ?_
    rintro _ _ ⟨rfl, rfl⟩
    refine ⟨Nat.le_of_ble_eq_true rfl, (fun hh => by cases hh), ?_⟩
    simp only [go_sem, callOut, AState.after]
    refine hKY _ ?_
    by_cases hm : m.getD x 0 < 0
    · have hdm : decide (m.getD x 0 < 0) = true := decide_eq_true hm
      simp only [go_sem, hdm]
      refine wlk_cond1 (by first | rfl | (simp only [go_sem]; try simp (disch := omega) only [decide_eq_true, decide_eq_false])) ?_
      refine wlk_sreg fun KY hKY => ?_
      simp only [go_sem, c_slices_IndexFunc___int_int__r5]
      refine hKY _ ?_
      refine wlk_ret ?_
      repeat (first | refine hr6 _ ?_ | refine hr5 _ ?_ | refine hr4 _ ?_ | refine hr3 _ ?_ | refine hr2 _ ?_ | refine hr1 _ ?_)
      simp only [go_sem]
      exact ⟨_, rfl, .inr ⟨k, x, rfl, hx, hm⟩⟩
    · have hdm : decide (m.getD x 0 < 0) = false := decide_eq_false hm
      simp only [go_sem, hdm]
      refine wlk_cond0 (by first | rfl | (simp only [go_sem]; try simp (disch := omega) only [decide_eq_true, decide_eq_false])) ?_
      refine wlk_skip ?_
      repeat (first | refine hn6 _ ?_ | refine he6 _ ?_ | refine hf6 _ _ (by decide) ?_ | refine hn5 _ ?_ | refine he5 _ _ ?_ | refine hn4 _ ?_ | refine he4 _ _ ?_ | refine he3 _ _ ?_ | refine hn2 _ ?_ | refine he2 _ ?_ | refine hf2 _ _ (by decide) ?_ | refine hn1 _ ?_ | refine he1 _ _ ?_)
      refine wlk_reg fun KY hKY => ?_
      simp only [go_sem, c_slices_IndexFunc___int_int__r6, incS (show k < 4611686018427387904 by omega)]
      refine hKY _ ?_
      repeat (first | refine hn6 _ ?_ | refine he6 _ ?_ | refine hf6 _ _ (by decide) ?_ | refine hn5 _ ?_ | refine he5 _ _ ?_ | refine hn4 _ ?_ | refine he4 _ _ ?_)
      refine hn3 _ (k + 1) (row.length - (k + 1)) (by omega) (by first | (simp only [go_sem, updAll_cons, updAll_nil]; done) | with_reducible rfl) ?_
      exact ⟨hk2, rfl⟩
  have hdx : decide ((k : Int) < (row.length : Int)) = false := decide_eq_false (by omega)
  refine wlk_sreg fun KY hKY => ?_
  simp only [go_sem, c_slices_IndexFunc___int_int__r2, hdx]
  refine hKY _ ?_
  refine wlk_seq fun X7 hn7 he7 hr7 => ?_
  refine wlk_cond0 (by first | rfl | (simp only [go_sem]; try simp (disch := omega) only [decide_eq_true, decide_eq_false])) ?_
  refine wlk_exit ?_
  repeat (first | refine hn7 _ ?_ | refine he7 _ _ ?_ | refine he3 _ _ ?_ | refine hn2 _ ?_ | refine he2 _ ?_ | refine hf2 _ _ (by decide) ?_ | refine hn1 _ ?_ | refine he1 _ _ ?_)
  refine wlk_sreg fun KY hKY => ?_
  simp only [go_sem, c_slices_IndexFunc___int_int__r7]
  refine hKY _ ?_
  refine wlk_ret ?_
  repeat (first | refine hr7 _ ?_ | refine hr3 _ ?_ | refine hr2 _ ?_ | refine hr1 _ ?_)
  simp only [go_sem]
  exact ⟨_, rfl, .inl rfl⟩
theorem none_ok {N : Nat} {es : Es} (g : GR N es) : ACalls Try.prog [] n_mates_None [.agg [.sc (.int .i64 (N : Int)), .imm 2 (twos (castE es))]] [] fun r h' => (N = 0 ∧ r = .own (some 1) [] ∧ h' = []) ∨ (0 < N ∧ r = .sl 0 0 N 1 ∧ h' = [some (ints (List.replicate N (-1)))]) := by
  have hN := g.hn
  have hr := rightB_GR g
  have hR := repeat_ok (-1) N hN
  rw [show ints [(-1 : Int)] = [.sc (.int .i64 (-1))] from rfl] at hR
  refine go_mates_None rfl ?_
  unfold c_mates_None v_mates_None
  refine wlk_sreg fun KY hKY => ?_
  simp only [go_sem, c_mates_None_r0]
  refine hKY _ ?_
  refine wlk_seq fun X1 hn1 he1 hr1 => ?_
  refine wlk_sreg fun KY hKY => ?_
  simp only [go_sem, c_mates_None_r1]
  refine call_view rfl (by simp only [go_sem] <;> rfl) ((right_ok N (castE es)).mono ?_)
  rintro rr hh ⟨rfl, rfl⟩
  refine ⟨rfl, rfl, rfl, ?_⟩
  simp only [go_sem, hr]
  refine hKY _ ?_
  refine wlk_cond0 (by first | rfl | (simp only [go_sem]; try simp (disch := omega) only [decide_eq_true, decide_eq_false])) ?_
  refine wlk_skip ?_
  repeat (first | refine hn1 _ ?_ | refine he1 _ _ ?_)
  refine wlk_sreg fun KY hKY => ?_
  simp only [go_sem, c_mates_None_r3]
  apply call_gen [.mv] [] false none rfl
  iterate 8 (first | (simp only [go_sem, watchIn] <;> rfl) | rfl)
  refine (hR).mono ?_
  rintro _ _ (⟨h0, rfl, rfl⟩ | ⟨h0, rfl, rfl⟩)
  · refine ⟨Nat.le_of_ble_eq_true rfl, (fun hh => by cases hh), ?_⟩
    simp only [go_sem, callOut, AState.after]
    refine hKY _ ?_
    refine wlk_ret ?_
    repeat (first | refine hr1 _ ?_)
    simp only [go_sem]
    exact .inl h0
  · refine ⟨Nat.le_of_ble_eq_true rfl, (fun hh => by cases hh), ?_⟩
    simp only [go_sem, callOut, AState.after]
    refine hKY _ ?_
    refine wlk_ret ?_
    repeat (first | refine hr1 _ ?_)
    simp only [go_sem]
    exact .inr h0
theorem mf_set {m : List Int} {v : Nat} (hv : v < m.length) (x : Int) (u : Nat) : mf (m.set v x) u = if u = v then x else mf m u := by
  unfold mf
  by_cases e : u = v
  · subst e; simp [hv]
  · simp [List.getElem?_set, Ne.symm e, e]
theorem mf_rep {N : Nat} (v : Nat) : mf (List.replicate N (-1)) v = -1 := by
  unfold mf
  by_cases h : v < N
  · simp [h]
  · simp [List.getElem?_eq_none (show (List.replicate N (-1 : Int)).length ≤ v by simp; omega)]
theorem gfirst_ok {N : Nat} {es : Es} (g : GR N es) : ACalls Try.prog [] n_greedy_First [.agg [.sc (.int .i64 (N : Int)), .imm 2 (twos (castE es))]] [] fun r h' => (N = 0 ∧ r = .sc (.slice none 0 0) ∧ h' = []) ∨ (0 < N ∧ ∃ m : List Int, m.length = N ∧ Mf N (adj es) (mf m) ∧ r = .sl 0 0 N 1 ∧ h' = [some (ints m)]) := by
  have hN := g.hn
  have hem := g.hm
  refine go_greedy_First rfl ?_
  unfold c_greedy_First v_greedy_First
  refine wlk_sreg fun KY hKY => ?_
  simp only [go_sem, c_greedy_First_r0]
  refine hKY _ ?_
  refine wlk_sreg fun KY hKY => ?_
  simp only [go_sem, c_greedy_First_r1]
  apply call_gen [] [] false none rfl
  iterate 8 (first | (simp only [go_sem, watchIn] <;> rfl) | rfl)
  refine (none_ok g).mono ?_
  rintro _ _ (⟨h0, rfl, rfl⟩ | ⟨h0, rfl, rfl⟩)
  · refine ⟨Nat.le_of_ble_eq_true rfl, (fun hh => by cases hh), ?_⟩
    simp only [go_sem, callOut, AState.after]
    refine hKY _ ?_
    refine wlk_seq fun X1 hn1 he1 hr1 => ?_
    refine wlk_sreg fun KY hKY => ?_
    simp only [go_sem, c_greedy_First_r2]
    refine hKY _ ?_
    refine wlk_cond1 (by first | rfl | (simp only [go_sem]; try simp (disch := omega) only [decide_eq_true, decide_eq_false])) ?_
    refine wlk_sreg fun KY hKY => ?_
    simp only [go_sem, c_greedy_First_r3]
    refine hKY _ ?_
    refine wlk_ret ?_
    repeat (first | refine hr1 _ ?_)
    simp only [go_sem]
    exact .inl h0
  · refine ⟨Nat.le_of_ble_eq_true rfl, (fun hh => by cases hh), ?_⟩
    simp only [go_sem, callOut, AState.after]
    refine hKY _ ?_
    have hd0 : decide ((N : Int) = 0) = false := decide_eq_false (by omega)
    refine wlk_seq fun X2 hn2 he2 hr2 => ?_
    refine wlk_sreg fun KY hKY => ?_
    simp only [go_sem, c_greedy_First_r2, hd0]
    refine hKY _ ?_
    refine wlk_cond0 (by first | rfl | (simp only [go_sem]; try simp (disch := omega) only [decide_eq_true, decide_eq_false])) ?_
    refine wlk_skip ?_
    repeat (first | refine hn2 _ ?_ | refine he2 _ _ ?_)
    refine wlk_sreg fun KY hKY => ?_
    simp only [go_sem, c_greedy_First_r4]
    apply call_gen [] [] true none rfl
    iterate 8 (first | (simp only [go_sem, watchIn] <;> rfl) | rfl)
    refine (lists_ok g).mono ?_
    rintro _ _ ⟨rfl, rfl⟩
    refine ⟨Nat.le_of_ble_eq_true rfl, (fun _ => by simp only [go_sem, flatH, and_self]), ?_⟩
    simp only [go_sem, callOut, AState.after]
    refine hKY _ ?_
    refine sem_freeze [0, 4] (by simp only [go_sem]; rfl) ?_
    simp only [go_sem, rowsO_freeze]
    refine wlk_seq fun X3 hn3 he3 hr3 => ?_
    refine wlk_sreg fun KY hKY => ?_
    simp only [go_sem, c_greedy_First_r5, ints_len, List.length_replicate]
    refine hKY _ ?_
    refine wlk_blk fun X4 hn4 he4 hf4 hr4 => ?_
    try simp only [go_sem]
    refine wlk_lp (α := Nat × List Int) [5, 6, 7, 24, 29, 38] (fun (k, m) => [(23, .sc (.int .i64 (k : Int)))]) (fun (k, m) => [some (ints m)]) (fun (k, m) q => m.length = N ∧ Mf N (adj es) (mf m) ∧ k ≤ N ∧ q = N - k) ((0, List.replicate N (-1))) (N) rfl (by first | (simp only [go_sem, updAll_cons, updAll_nil]; done) | with_reducible rfl | rfl) (⟨by simp, g.none mf_rep, Nat.zero_le _, rfl⟩) ?_
    rintro ⟨k, m⟩ q ⟨hml, M, hk, rfl⟩ X5 hn5 he5 hr5
    simp only [go_sem, updAll_cons, updAll_nil]
    rcases Nat.lt_or_ge k N with hk2 | hk2
    · have hdx : decide ((k : Int) < (N : Int)) = true := decide_eq_true (by omega)
      have hfr := sfree_ok m hml hk2
      refine wlk_sreg fun KY hKY => ?_
      simp only [go_sem, c_greedy_First_r6, hdx]
      refine hKY _ ?_
      refine wlk_seq fun X6 hn6 he6 hr6 => ?_
      refine wlk_cond1 (by first | rfl | (simp only [go_sem]; try simp (disch := omega) only [decide_eq_true, decide_eq_false])) ?_
      refine wlk_skip ?_
      repeat (first | refine hn6 _ ?_ | refine he6 _ _ ?_ | refine he5 _ _ ?_ | refine hn4 _ ?_ | refine he4 _ ?_ | refine hf4 _ _ (by decide) ?_ | refine hn3 _ ?_ | refine he3 _ _ ?_ | refine hn2 _ ?_ | refine he2 _ _ ?_)
      refine wlk_seq fun X7 hn7 he7 hr7 => ?_
      refine wlk_blk fun X8 hn8 he8 hf8 hr8 => ?_
      refine wlk_sreg fun KY hKY => ?_
      simp only [go_sem, c_greedy_First_r7]
      refine hKY _ ?_
      by_cases hmk : m.getD k 0 < 0
      · have hd1 : decide (m.getD k 0 < 0) = true := decide_eq_true hmk
        refine wlk_seq fun X9 hn9 he9 hr9 => ?_
        refine wlk_sreg fun KY hKY => ?_
        simp only [go_sem, c_greedy_First_r8]
        apply call_gen [] [0] false none rfl
        iterate 8 (first | (simp only [go_sem, watchIn] <;> rfl) | rfl)
        refine (hfr).mono ?_
        rintro _ _ ⟨rfl, rfl⟩
        refine ⟨Nat.le_of_ble_eq_true rfl, (fun hh => by cases hh), ?_⟩
        simp only [go_sem, callOut, AState.after, hd1]
        refine hKY _ ?_
        refine wlk_cond0 (by first | rfl | (simp only [go_sem]; try simp (disch := omega) only [decide_eq_true, decide_eq_false])) ?_
        refine wlk_skip ?_
        repeat (first | refine hn9 _ ?_ | refine he9 _ _ ?_ | refine hn8 _ ?_ | refine he8 _ ?_ | refine hf8 _ _ (by decide) ?_ | refine hn7 _ ?_ | refine he7 _ _ ?_ | refine hn6 _ ?_ | refine he6 _ _ ?_ | refine he5 _ _ ?_ | refine hn4 _ ?_ | refine he4 _ ?_ | refine hf4 _ _ (by decide) ?_ | refine hn3 _ ?_ | refine he3 _ _ ?_ | refine hn2 _ ?_ | refine he2 _ _ ?_)
        have hnr := rowsI_get (near_get (es := es) hk2)
        have hidx := idxfree_ok m hml (nearOf es k) (fun x hx => (g.mf.2 _ _ (nearOf_mem.1 hx)).2.1) (Nat.le_trans (nearOf_len g k) (by decide))
        refine wlk_sdraw fun KY hKY => ?_
        simp only [go_sem, c_greedy_First_r9, hnr, near_len, hk2, rowsI_len]
        apply call_gen [] [0] false none rfl
        iterate 8 (first | (simp only [go_sem, watchIn] <;> rfl) | rfl)
        refine (hidx).mono ?_
        rintro _ _ ⟨⟨z, rfl, hz⟩, rfl⟩
        refine ⟨Nat.le_of_ble_eq_true rfl, (fun hh => by cases hh), ?_⟩
        simp only [go_sem, callOut, AState.after]
        refine hKY _ ?_
        have hmk1 : mf m k = -1 := by
          rw [mf_get (by omega)] at hmk
          rcases M.at_ k hk2 with h | ⟨w, h, _⟩
          · exact h
          · omega
        rcases hz with rfl | ⟨i, x, rfl, hix, hmx⟩
        · have hd2 : decide ((0 : Int) ≤ -1) = false := rfl
          refine wlk_sreg fun KY hKY => ?_
          simp only [go_sem, c_greedy_First_r10, hd2]
          refine hKY _ ?_
          refine wlk_cond0 (by first | rfl | (simp only [go_sem]; try simp (disch := omega) only [decide_eq_true, decide_eq_false])) ?_
          refine wlk_skip ?_
          repeat (first | refine hn9 _ ?_ | refine he9 _ _ ?_ | refine hn8 _ ?_ | refine he8 _ ?_ | refine hf8 _ _ (by decide) ?_ | refine hn7 _ ?_ | refine he7 _ _ ?_ | refine hn6 _ ?_ | refine he6 _ _ ?_ | refine he5 _ _ ?_ | refine hn4 _ ?_ | refine he4 _ ?_ | refine hf4 _ _ (by decide) ?_ | refine hn3 _ ?_ | refine he3 _ _ ?_ | refine hn2 _ ?_ | refine he2 _ _ ?_)
          refine wlk_reg fun KY hKY => ?_
          simp only [go_sem, c_greedy_First_r13, incS (show k < 4611686018427387904 by omega)]
          refine hKY _ ?_
          repeat (first | refine hn9 _ ?_ | refine he9 _ _ ?_ | refine hn8 _ ?_ | refine he8 _ ?_ | refine hf8 _ _ (by decide) ?_ | refine hn7 _ ?_ | refine he7 _ _ ?_ | refine hn6 _ ?_ | refine he6 _ _ ?_)
          refine hn5 _ ((k + 1, m)) (N - (k + 1)) (by omega) (by first | (simp only [go_sem, updAll_cons, updAll_nil]; done) | with_reducible rfl) ?_
          exact ⟨hml, M, hk2, rfl⟩
        · have hd2 : decide ((0 : Int) ≤ (i : Int)) = true := decide_eq_true (by omega)
          have hil := (List.getElem?_eq_some_iff.1 hix).1
          have hadj : adj es k x := nearOf_mem.1 (List.mem_iff_getElem?.2 ⟨i, hix⟩)
          have hxN := (g.mf.2 _ _ hadj).2.1
          have hxk := (g.mf.2 _ _ hadj).2.2
          have hgx : (nats (nearOf es k))[i]? = some (.sc (.int .i64 (x : Int))) := by simp [nats, hix]
          have hmx1 : mf m x = -1 := by
            rw [mf_get (by omega)] at hmx
            rcases M.at_ x hxN with h | ⟨w, h, _⟩
            · exact h
            · omega
          have hls : ((m.set k (x : Int)).set x (k : Int)).length = N := by simp [hml]
          have M2 : Mf N (adj es) (mf ((m.set k (x : Int)).set x (k : Int))) := by
            refine M.add hmk1 hmx1 hadj ?_ ?_ fun u h1 h2 => ?_
            · rw [mf_set (by simp; omega), if_neg hxk, mf_set (by omega), if_pos rfl]
            · rw [mf_set (by simp; omega), if_pos rfl]
            · rw [mf_set (by simp; omega), if_neg h2, mf_set (by omega), if_neg h1]
          refine wlk_sreg fun KY hKY => ?_
          simp only [go_sem, c_greedy_First_r10, hd2]
          refine hKY _ ?_
          refine wlk_cond1 (by first | rfl | (simp only [go_sem]; try simp (disch := omega) only [decide_eq_true, decide_eq_false])) ?_
          refine wlk_sreg fun KY hKY => ?_
          simp only [go_sem, c_greedy_First_r11, hnr, near_len, hk2, rowsI_len, hgx, nats_len, hil]
          refine hKY _ ?_
          refine wlk_draw fun KY hKY => ?_
          simp only [go_sem, c_greedy_First_r12, ints_len, ints_set, hml, hk2, hxN, List.length_set, Nat.zero_add, (show ([1, 0] == [0, 3]) = false from rfl), Bool.not_false]
          refine hKY _ ?_
          repeat (first | refine hn9 _ ?_ | refine he9 _ _ ?_ | refine hn8 _ ?_ | refine he8 _ ?_ | refine hf8 _ _ (by decide) ?_ | refine hn7 _ ?_ | refine he7 _ _ ?_ | refine hn6 _ ?_ | refine he6 _ _ ?_ | refine he5 _ _ ?_ | refine hn4 _ ?_ | refine he4 _ ?_ | refine hf4 _ _ (by decide) ?_ | refine hn3 _ ?_ | refine he3 _ _ ?_ | refine hn2 _ ?_ | refine he2 _ _ ?_)
          refine wlk_reg fun KY hKY => ?_
          simp only [go_sem, c_greedy_First_r13, incS (show k < 4611686018427387904 by omega)]
          refine hKY _ ?_
          repeat (first | refine hn9 _ ?_ | refine he9 _ _ ?_ | refine hn8 _ ?_ | refine he8 _ ?_ | refine hf8 _ _ (by decide) ?_ | refine hn7 _ ?_ | refine he7 _ _ ?_ | refine hn6 _ ?_ | refine he6 _ _ ?_)
          refine hn5 _ ((k + 1, (m.set k (x : Int)).set x (k : Int))) (N - (k + 1)) (by omega) (by first | (simp only [go_sem, updAll_cons, updAll_nil]; done) | with_reducible rfl) ?_
          exact ⟨hls, M2, hk2, rfl⟩
      · have hd1 : decide (m.getD k 0 < 0) = false := decide_eq_false hmk
        refine wlk_seq fun X10 hn10 he10 hr10 => ?_
        refine wlk_sreg fun KY hKY => ?_
        simp only [go_sem, c_greedy_First_r8]
        apply call_gen [] [0] false none rfl
        iterate 8 (first | (simp only [go_sem, watchIn] <;> rfl) | rfl)
        refine (hfr).mono ?_
        rintro _ _ ⟨rfl, rfl⟩
        refine ⟨Nat.le_of_ble_eq_true rfl, (fun hh => by cases hh), ?_⟩
        simp only [go_sem, callOut, AState.after, hd1]
        refine hKY _ ?_
        refine wlk_cond1 (by first | rfl | (simp only [go_sem]; try simp (disch := omega) only [decide_eq_true, decide_eq_false])) ?_
        refine wlk_exit ?_
        repeat (first | refine hn10 _ ?_ | refine he10 _ _ ?_ | refine hn8 _ ?_ | refine he8 _ ?_ | refine hf8 _ _ (by decide) ?_ | refine hn7 _ ?_ | refine he7 _ _ ?_ | refine hn6 _ ?_ | refine he6 _ _ ?_ | refine he5 _ _ ?_ | refine hn4 _ ?_ | refine he4 _ ?_ | refine hf4 _ _ (by decide) ?_ | refine hn3 _ ?_ | refine he3 _ _ ?_ | refine hn2 _ ?_ | refine he2 _ _ ?_)
        refine wlk_reg fun KY hKY => ?_
        simp only [go_sem, c_greedy_First_r13, incS (show k < 4611686018427387904 by omega)]
        refine hKY _ ?_
        repeat (first | refine hn10 _ ?_ | refine he10 _ _ ?_ | refine hn8 _ ?_ | refine he8 _ ?_ | refine hf8 _ _ (by decide) ?_ | refine hn7 _ ?_ | refine he7 _ _ ?_ | refine hn6 _ ?_ | refine he6 _ _ ?_)
        refine hn5 _ ((k + 1, m)) (N - (k + 1)) (by omega) (by first | (simp only [go_sem, updAll_cons, updAll_nil]; done) | with_reducible rfl) ?_
        exact ⟨hml, M, hk2, rfl⟩
    have hdx : decide ((k : Int) < (N : Int)) = false := decide_eq_false (by omega)
    refine wlk_sreg fun KY hKY => ?_
    simp only [go_sem, c_greedy_First_r6, hdx]
    refine hKY _ ?_
    refine wlk_seq fun X11 hn11 he11 hr11 => ?_
    refine wlk_cond0 (by first | rfl | (simp only [go_sem]; try simp (disch := omega) only [decide_eq_true, decide_eq_false])) ?_
    refine wlk_exit ?_
    repeat (first | refine hn11 _ ?_ | refine he11 _ _ ?_ | refine he5 _ _ ?_ | refine hn4 _ ?_ | refine he4 _ ?_ | refine hf4 _ _ (by decide) ?_ | refine hn3 _ ?_ | refine he3 _ _ ?_ | refine hn2 _ ?_ | refine he2 _ _ ?_)
    refine wlk_sreg fun KY hKY => ?_
    simp only [go_sem, c_greedy_First_r14]
    refine hKY _ ?_
    refine wlk_ret ?_
    repeat (first | refine hr11 _ ?_ | refine hr5 _ ?_ | refine hr4 _ ?_ | refine hr3 _ ?_ | refine hr2 _ ?_)
    simp only [go_sem]
    exact .inr ⟨h0, m, hml, M, rfl⟩
end Go.Proofs.Ytkjppnofgmpeeaa
set_option maxRecDepth 100000
set_option maxHeartbeats 4000000
namespace Go.Proofs.Ytkjppnofgmpeeaa
open Go Go.Ga Go.Ga.Gl
theorem inc (k : Nat) (h : k ≤ 1000000000) : IntKind.i64.wrap ((k : Int) + 1) = ((k + 1 : Nat) : Int) := by rw [IntWalk.i64_in _ (by omega)]; omega
theorem nats_ints (xs : List Nat) : nats xs = ints (xs.map fun (n : Nat) => (n : Int)) := by simp [nats, ints]
theorem ints_at {xs : List Int} {k : Nat} {x : Int} (h : xs[k]? = some x) : (ints xs)[k]? = some (.sc (.int .i64 x)) := by simp [ints, h]
theorem eqi_ok (x y : Int) : ACalls Try.prog [] n_garlandhelp_Plain_int__1 [.sc (.int .i64 x), .sc (.int .i64 y)] [] fun r h' => r = .sc (.bool (decide (x = y))) ∧ h' = [] := by
  refine go_garlandhelp_Plain_int__1 rfl ?_
  unfold c_garlandhelp_Plain_int__1 v_garlandhelp_Plain_int__1
  refine wlk_sreg fun KY hKY => ?_
  simp only [go_sem, c_garlandhelp_Plain_int__1_r0]
  refine hKY _ ?_
  refine wlk_sreg fun KY hKY => ?_
  simp only [go_sem, c_garlandhelp_Plain_int__1_r1]
  refine hKY _ ?_
  refine wlk_ret ?_
  simp only [go_sem]
theorem alike_snoc {α : Type} [DecidableEq α] {xs ys : List α} {k : Nat} {x y : α} (hx : xs[k]? = some x) (hy : ys[k]? = some y) (h : xs.take k = ys.take k) : xs.take (k + 1) = ys.take (k + 1) ↔ x = y := by
  rw [List.take_add_one, List.take_add_one, hx, hy, h]
  simp
theorem samei_ok (xs ys : List Int) (hb : xs.length ≤ 1000000000) : ACalls Try.prog [] n_garlandhelp_Same_int_ [.imm 1 (ints xs), .imm 1 (ints ys), .fn (.func n_garlandhelp_Plain_int__1) [] []] [] fun r h' => r = .sc (.bool (decide (xs = ys))) ∧ h' = [] := by
  refine go_garlandhelp_Same_int_ rfl ?_
  unfold c_garlandhelp_Same_int_ v_garlandhelp_Same_int_
  refine wlk_sreg fun KY hKY => ?_
  simp only [go_sem, c_garlandhelp_Same_int__r0]
  refine hKY _ ?_
  refine wlk_seq fun X1 hn1 he1 hr1 => ?_
  refine wlk_sreg fun KY hKY => ?_
  simp only [go_sem, c_garlandhelp_Same_int__r1, Nat.div_one, ints_len]
  refine hKY _ ?_
  simp only [go_sem]
  by_cases hl : xs.length = ys.length
  case neg =>
    have hl' : decide (((xs.length : Nat) : Int) ≠ ((ys.length : Nat) : Int)) = true := decide_eq_true (by omega)
    refine wlk_cond1 (by simp only [go_sem, hl']) ?_
    refine wlk_sreg fun KY hKY => ?_
    simp only [go_sem, c_garlandhelp_Same_int__r2]
    refine hKY _ ?_
    refine wlk_ret (hr1 _ ?_)
    simp only [go_sem]
    rw [decide_eq_false (fun e : xs = ys => hl (by rw [e]))]
  have hl' : decide (((xs.length : Nat) : Int) ≠ ((ys.length : Nat) : Int)) = false := decide_eq_false (by omega)
  refine wlk_cond0 (by simp only [go_sem, hl']) (wlk_skip (hn1 _ ?_))
  refine wlk_seq fun X2 hn2 he2 hr2 => ?_
  refine wlk_sreg fun KY hKY => ?_
  simp only [go_sem, c_garlandhelp_Same_int__r3]
  refine hKY _ ?_
  refine wlk_blk fun X3 hn3 he3 hf3 hr3 => ?_
  refine wlk_loop (fun m s => ∃ (k : Nat) (A16 A29 : AVal), k ≤ xs.length ∧ m = xs.length - k ∧ xs.take k = ys.take k ∧ s = { vs := [(0, .imm 1 (ints xs)), (1, .imm 1 (ints ys)), (2, .fn (.func n_garlandhelp_Plain_int__1) [] []), (6, .sc (.bool false)), (7, .sc (.int .i64 (k : Int))), (12, .sc (.bool (decide (((xs.length : Nat) : Int) ≠ ((ys.length : Nat) : Int))))), (16, A16), (29, A29)], ts := [], h := [] }) xs.length ⟨0, .dead, .dead, Nat.zero_le _, rfl, rfl, ?_⟩ ?_
  · rfl
  rintro m _ ⟨k, A16, A29, hk, rfl, hpre, rfl⟩ X4 hn4 he4 hr4
  refine sem_forget [16, 29] rfl ?_
  simp only [go_sem]
  refine wlk_seq fun X5 hn5 he5 hr5 => ?_
  refine wlk_seq fun X6 hn6 he6 hr6 => ?_
  refine wlk_reg fun KY hKY => ?_
  simp only [go_sem, c_garlandhelp_Same_int__r4, Nat.div_one, ints_len]
  refine hKY _ (hn6 _ ?_)
  simp only [go_sem]
  refine wlk_cond (v := decide ((k : Int) < (xs.length : Int))) rfl (fun h => wlk_skip (hn5 _ ?_)) fun h => wlk_exit (he5 _ _ (he4 _ _ (he3 _ (hn2 _ ?_))))
  · have hlt : k < xs.length := by have := of_decide_eq_true h; omega
    have hlt2 : k < ys.length := by omega
    have hx : xs[k]? = some xs[k] := List.getElem?_eq_getElem hlt
    have hy : ys[k]? = some ys[k] := List.getElem?_eq_getElem hlt2
    have st := alike_snoc hx hy hpre
    refine wlk_seq fun X7 hn7 he7 hr7 => ?_
    refine wlk_blk fun X8 hn8 he8 hf8 hr8 => ?_
    refine wlk_sdraw fun KY hKY => ?_
    simp only [go_sem, c_garlandhelp_Same_int__r5, ints_len, ints_at hx, ints_at hy, hlt, hlt2]
    refine call_view rfl (by simp only [go_sem] <;> rfl) ((eqi_ok xs[k] ys[k]).mono ?_)
    rintro rr hh ⟨rfl, rfl⟩
    refine ⟨rfl, rfl, rfl, ?_⟩
    simp only [go_sem]
    refine hKY _ ?_
    simp only [go_sem]
    by_cases e : xs[k] = ys[k]
    · refine wlk_cond0 (by simp only [go_sem, decide_eq_true e]) (wlk_skip (hn8 _ (hn7 _ ?_)))
      refine wlk_reg fun KY hKY => ?_
      simp only [go_sem, c_garlandhelp_Same_int__r7, inc k (by omega)]
      refine hKY _ (hn4 (xs.length - (k + 1)) _ (by omega) ?_)
      simp only [go_sem]
      exact ⟨k + 1, _, _, hlt, rfl, st.2 e, rfl⟩
    · refine wlk_cond1 (by simp only [go_sem, decide_eq_false e]) ?_
      refine wlk_sreg fun KY hKY => ?_
      simp only [go_sem, c_garlandhelp_Same_int__r6]
      refine hKY _ ?_
      refine wlk_ret (hr8 _ (hr7 _ (hr4 _ (hr3 _ (hr2 _ ?_)))))
      simp only [go_sem]
      rw [decide_eq_false (fun e' : xs = ys => e (by subst e'; rfl))]
  · have hkn : k = xs.length := by have := of_decide_eq_false h; omega
    refine wlk_sreg fun KY hKY => ?_
    simp only [go_sem, c_garlandhelp_Same_int__r8]
    refine hKY _ ?_
    refine wlk_ret ?_
    simp only [go_sem]
    rw [hkn, List.take_length, hl, List.take_length] at hpre
    rw [decide_eq_true hpre]
theorem plaini_ok (xs ys : List Int) (hb : xs.length ≤ 1000000000) : ACalls Try.prog [] n_garlandhelp_Plain_int_ [.imm 1 (ints xs), .imm 1 (ints ys)] [] fun r h' => r = .sc (.bool (decide (xs = ys))) ∧ h' = [] := by
  refine go_garlandhelp_Plain_int_ rfl ?_
  unfold c_garlandhelp_Plain_int_ v_garlandhelp_Plain_int_
  refine wlk_sreg fun KY hKY => ?_
  simp only [go_sem, c_garlandhelp_Plain_int__r0]
  refine hKY _ ?_
  refine wlk_sreg fun KY hKY => ?_
  simp only [go_sem, c_garlandhelp_Plain_int__r1]
  refine call_view rfl (by simp only [go_sem] <;> rfl) ((samei_ok xs ys hb).mono ?_)
  rintro rr hh ⟨rfl, rfl⟩
  refine ⟨rfl, rfl, rfl, ?_⟩
  simp only [go_sem]
  refine hKY _ ?_
  refine wlk_ret ?_
  simp only [go_sem]
theorem plainn_ok (xs ys : List Nat) (hb : xs.length ≤ 1000000000) : ACalls Try.prog [] n_garlandhelp_Plain_int_ [.imm 1 (nats xs), .imm 1 (nats ys)] [] fun r h' => r = .sc (.bool (decide (xs = ys))) ∧ h' = [] := by
  rw [nats_ints, nats_ints]
  refine (plaini_ok _ _ (by simpa using hb)).mono fun r h' ⟨h1, h2⟩ => ⟨?_, h2⟩
  rw [h1]
  congr 2
  rw [decide_eq_decide]
  refine ⟨fun h => ?_, fun h => by rw [h]⟩
  exact List.map_inj_right (fun a b hab => by omega) |>.1 h
end Go.Proofs.Ytkjppnofgmpeeaa
set_option maxRecDepth 100000
set_option maxHeartbeats 4000000
namespace Go.Proofs.Ytkjppnofgmpeeaa
open Go Go.Ga Go.Ga.Gl
def turnL : List Int → List Int → List Int
  | m, a :: b :: l => turnL ((m.set a.toNat b).set b.toNat a) l
  | m, _ => m
theorem turnL_len : ∀ (l m : List Int), (turnL m l).length = m.length
  | [], m => rfl
  | [_], m => rfl
  | a :: b :: l, m => by unfold turnL; rw [turnL_len l]; simp
theorem turn_step {l : List Int} {k : Nat} {a b : Int} (ha : l[2 * k]? = some a) (hb : l[2 * k + 1]? = some b) : ∀ m0, turnL m0 (l.take (2 * (k + 1))) = ((turnL m0 (l.take (2 * k))).set a.toNat b).set b.toNat a := by
  induction k generalizing l with
  | zero =>
    intro m0
    match l, ha, hb with
    | x :: y :: l, ha, hb =>
      simp at ha hb
      subst ha; subst hb
      simp [turnL]
  | succ k ih =>
    intro m0
    match l, ha, hb with
    | [], ha, _ => simp at ha
    | [x], ha, _ => simp at ha
    | x :: y :: l, ha, hb =>
      have ha' : l[2 * k]? = some a := by rw [show 2 * (k + 1) = 2 * k + 1 + 1 by omega] at ha; simpa using ha
      have hb' : l[2 * k + 1]? = some b := by rw [show 2 * (k + 1) + 1 = (2 * k + 1) + 1 + 1 by omega] at hb; simpa using hb
      rw [show 2 * (k + 1 + 1) = 2 * (k + 1) + 1 + 1 by omega, show 2 * (k + 1) = 2 * k + 1 + 1 by omega]
      simp only [List.take_succ_cons, turnL]
      exact ih ha' hb' _
theorem turn_end : ∀ (k : Nat) (l m : List Int), l.length ≤ 2 * k + 1 → turnL m (l.take (2 * k)) = turnL m l
  | 0, [], m, _ => rfl
  | 0, [x], m, _ => rfl
  | 0, _ :: _ :: _, m, h => by simp at h
  | k + 1, [], m, _ => by simp
  | k + 1, [x], m, _ => by rw [show 2 * (k + 1) = 2 * k + 1 + 1 by omega]; simp
  | k + 1, x :: y :: l, m, h => by
    rw [show 2 * (k + 1) = 2 * k + 1 + 1 by omega]
    simp only [List.take_succ_cons, turnL]
    exact turn_end k l _ (by simp at h; omega)
theorem turn_ok (m l : List Int) (hl : l.length ≤ 1000000) (hm : m.length ≤ 1000000) (hin : ∀ i, i < l.length → ∃ a : Nat, l.getD i 0 = a ∧ a < m.length) : ACalls Try.prog [] n_walk_Turn [.sl 0 0 m.length 1, .imm 1 (ints l)] [some (ints m)] fun r h' => r = .tup [] ∧ h' = [some (ints (turnL m l))] := by
  refine go_walk_Turn rfl ?_
  unfold c_walk_Turn v_walk_Turn
  refine wlk_sreg fun KY hKY => ?_
  simp only [go_sem, c_walk_Turn_r0]
  refine hKY _ ?_
  refine wlk_blk fun X1 hn1 he1 hf1 hr1 => ?_
  have h0 : m = turnL m (l.take (2 * 0)) := by simp [turnL]
  try simp only [go_sem]
  refine wlk_lp (α := Nat) [8] (fun k => [(4, .sc (.int .i64 ((2 * k + 1 : Nat) : Int)))]) (fun k => [some (ints (turnL m (l.take (2 * k))))]) (fun k q => 2 * k ≤ l.length + 1 ∧ q = l.length - k) (0) (l.length) rfl (by first | (simp only [go_sem, updAll_cons, updAll_nil]; done) | with_reducible rfl | rfl) (⟨by omega, rfl⟩) ?_
  rintro k q ⟨hk, rfl⟩ X2 hn2 he2 hr2
  simp only [go_sem, updAll_cons, updAll_nil]
  refine wlk_seq fun X3 hn3 he3 hr3 => ?_
  rcases Nat.lt_or_ge (2 * k + 1) l.length with hk2 | hk2
  · have hdy : decide (((2 * k + 1 : Nat) : Int) < (l.length : Int)) = true := decide_eq_true (by omega)
    refine wlk_sreg fun KY hKY => ?_
    simp only [go_sem, c_walk_Turn_r1, ints_len, hdy]
    refine hKY _ ?_
    refine wlk_cond1 (by first | rfl | (simp only [go_sem]; try simp (disch := omega) only [decide_eq_true, decide_eq_false])) ?_
    refine wlk_skip ?_
    repeat (first | refine hn3 _ ?_ | refine he3 _ _ ?_ | refine he2 _ _ ?_ | refine hn1 _ ?_ | refine he1 _ ?_ | refine hf1 _ _ (by decide) ?_)
    refine wlk_seq fun X4 hn4 he4 hr4 => ?_
    refine wlk_blk fun X5 hn5 he5 hf5 hr5 => ?_
    have hk0 : 2 * k < l.length := by omega
    obtain ⟨a, ha, haN⟩ := hin (2 * k) hk0
    obtain ⟨b, hb, hbN⟩ := hin (2 * k + 1) hk2
    have hd1 : IntKind.i64.wrap (((2 * k + 1 : Nat) : Int) - 1) = ((2 * k : Nat) : Int) := by rw [IntWalk.i64_in _ (by omega)]; omega
    have hga : (ints l)[2 * k]? = some (.sc (.int .i64 (a : Int))) := by rw [ints_get hk0, ha]
    have hgb : (ints l)[2 * k + 1]? = some (.sc (.int .i64 (b : Int))) := by rw [ints_get hk2, hb]
    have hla : l[2 * k]? = some (a : Int) := by rw [← ha, List.getD_eq_getElem?_getD, List.getElem?_eq_getElem hk0]; rfl
    have hlb : l[2 * k + 1]? = some (b : Int) := by rw [← hb, List.getD_eq_getElem?_getD, List.getElem?_eq_getElem hk2]; rfl
    have hst := turn_step hla hlb m
    rw [Int.toNat_natCast, Int.toNat_natCast] at hst
    have hlen := turnL_len (l.take (2 * k)) m
    generalize hM : turnL m (l.take (2 * k)) = M at hst hlen
    refine wlk_draw fun KY hKY => ?_
    simp only [go_sem, c_walk_Turn_r2, hd1, hga, hgb, hk0, hk2, ints_len, haN, hbN, hlen, List.length_set, ← hst]
    refine hKY _ ?_
    repeat (first | refine hn5 _ ?_ | refine he5 _ ?_ | refine hf5 _ _ (by decide) ?_ | refine hn4 _ ?_ | refine he4 _ _ ?_ | refine hn3 _ ?_ | refine he3 _ _ ?_ | refine he2 _ _ ?_ | refine hn1 _ ?_ | refine he1 _ ?_ | refine hf1 _ _ (by decide) ?_)
    have hi2 : IntKind.i64.wrap (((2 * k + 1 : Nat) : Int) + 2) = ((2 * (k + 1) + 1 : Nat) : Int) := by rw [IntWalk.i64_in _ (by omega)]; omega
    refine wlk_reg fun KY hKY => ?_
    simp only [go_sem, c_walk_Turn_r3, hi2]
    refine hKY _ ?_
    repeat (first | refine hn5 _ ?_ | refine he5 _ ?_ | refine hf5 _ _ (by decide) ?_ | refine hn4 _ ?_ | refine he4 _ _ ?_ | refine hn3 _ ?_ | refine he3 _ _ ?_)
    refine hn2 _ (k + 1) (l.length - (k + 1)) (by omega) (by first | (simp only [go_sem, updAll_cons, updAll_nil]; done) | with_reducible rfl) ?_
    exact ⟨by omega, rfl⟩
  have hdx : decide (((2 * k + 1 : Nat) : Int) < (l.length : Int)) = false := decide_eq_false (by omega)
  refine wlk_sreg fun KY hKY => ?_
  simp only [go_sem, c_walk_Turn_r1, ints_len, hdx]
  refine hKY _ ?_
  refine wlk_cond0 (by first | rfl | (simp only [go_sem]; try simp (disch := omega) only [decide_eq_true, decide_eq_false])) ?_
  refine wlk_exit ?_
  repeat (first | refine hn3 _ ?_ | refine he3 _ _ ?_ | refine he2 _ _ ?_ | refine hn1 _ ?_ | refine he1 _ ?_ | refine hf1 _ _ (by decide) ?_)
  rw [turn_end k l m (by omega)]
  simp only [go_sem]
theorem turnL_mf {E : Nat → Nat → Prop} : ∀ (l : List Nat) (m : List Int), EP E l → l.Nodup → (∀ y ∈ l, y < m.length) → ∀ u, mf (turnL m (l.map fun x : Nat => (x : Int))) u = if u ∈ l then (par l u : Int) else mf m u
  | [], m, _, _, _, u => by simp [turnL]
  | [_], m, h, _, _, u => h.elim
  | a :: b :: l, m, h, hn, hl, u => by
    simp only [List.nodup_cons, List.mem_cons, not_or] at hn
    obtain ⟨⟨hab, hal⟩, hbl, hnl⟩ := hn
    have ha := hl a (by simp)
    have hb := hl b (by simp)
    have ih := turnL_mf l ((m.set a (b : Int)).set b (a : Int)) h.2 hnl (fun y hy => by simp; exact hl y (by simp [hy])) u
    simp only [List.map_cons, turnL, Int.toNat_natCast]
    rw [ih]
    have e2 : mf ((m.set a (b : Int)).set b (a : Int)) u = if u = b then (a : Int) else if u = a then (b : Int) else mf m u := by
      rw [mf_set (by simp; omega), mf_set ha]
    have ep : par (a :: b :: l) u = if u = a then b else if u = b then a else par l u := rfl
    rw [ep]
    by_cases h1 : u = a
    · subst h1
      rw [if_neg hal, e2, if_neg hab, if_pos rfl, if_pos (by simp), if_pos rfl]
    · by_cases h2 : u = b
      · subst h2
        rw [if_neg hbl, e2, if_pos rfl, if_pos (by simp), if_neg h1, if_pos rfl]
      · by_cases h3 : u ∈ l
        · rw [if_pos h3, if_pos (by simp [h3]), if_neg h1, if_neg h2]
        · rw [if_neg h3, e2, if_neg h2, if_neg h1, if_neg (by simp [h1, h2, h3])]
theorem enlarge_ok (nr : List (List Nat)) {n : Nat} {E : Nat → Nat → Prop} {m : List Int} (h0 : 0 < n) (hnr : nr.length = n) (hml : m.length = n) (hn : n ≤ 4096) (hrow : ∀ v, v < n → (nr.getD v []).length ≤ 1000000) (M : Mf n E (mf m)) (hE : ∀ v w, v < n → (w ∈ nr.getD v [] ↔ E v w)) :
    ACalls Try.prog [] n_single_Enlarge [.imm 1 (rowsI nr), .sl 0 0 n 1] [some (ints m)] fun r h' => ∃ (m' : List Int) (S : FS) (a b : Int), m'.length = n ∧ Mf n E (mf m') ∧ Inv n E (mf m') S ∧ Lk E S [] ∧ r = .tup [.own (some 1) (ints (labs n S)), .agg [.sc (.int .i64 a), .sc (.int .i64 b)]] ∧ h' = [some (ints m')] := by
  refine go_single_Enlarge rfl ?_
  unfold c_single_Enlarge v_single_Enlarge
  refine wlk_sreg fun KY hKY => ?_
  simp only [go_sem, c_single_Enlarge_r0]
  refine hKY _ ?_
  refine wlk_sreg fun KY hKY => ?_
  simp only [go_sem, c_single_Enlarge_r1]
  refine hKY _ ?_
  refine wlk_blk fun X1 hn1 he1 hf1 hr1 => ?_
  try simp only [go_sem]
  refine wlk_lp (α := List Int × Int × Int) [7, 8, 9, 26] (fun (m, a, b) => [(6, .own none [.sc (.int .i64 a), .sc (.int .i64 b)])]) (fun (m, a, b) => [some (ints m)]) (fun (m, a, b) q => m.length = n ∧ Mf n E (mf m) ∧ q = fre n (mf m)) ((m, 0, 0)) (fre n (mf m)) rfl (by first | (simp only [go_sem, updAll_cons, updAll_nil]; done) | with_reducible rfl | rfl) (⟨hml, M, rfl⟩) ?_
  rintro ⟨m, a, b⟩ q ⟨hml, M, rfl⟩ X2 hn2 he2 hr2
  simp only [go_sem, updAll_cons, updAll_nil]
  have hS := search_ok nr hnr hml hn hrow M hE
  refine wlk_blk fun X3 hn3 he3 hf3 hr3 => ?_
  refine wlk_sreg fun KY hKY => ?_
  simp only [go_sem, c_single_Enlarge_r2]
  have htk : List.take n (ints m) = ints m := List.take_of_length_le (by rw [ints_len]; omega)
  refine call_view rfl (by simp only [go_sem, hml, Nat.le_refl, htk] <;> rfl) (hS.mono ?_)
  rintro rr hh ⟨rfl, lk, ⟨l, hA, rfl⟩ | ⟨S, hI, hL, rfl⟩⟩
  · refine ⟨?_, ?_, ?_, ?_⟩
    iterate 3 (first | rfl | simp only [go_sem])
    have hT := turn_ok m (l.map fun x : Nat => (x : Int)) (by
      have := nodup_le (m := List.range n) hA.nd fun x hx => List.mem_range.2 (hA.lt x hx)
      simp at this ⊢; omega) (by omega) (fun i hi => by
        rw [List.length_map] at hi
        exact ⟨l[i], by simp [hi], by rw [hml]; exact hA.lt _ (List.getElem_mem hi)⟩)
    rw [← nats_ints, hml] at hT
    have hmf := turnL_mf l m hA.ep hA.nd (fun y hy => by rw [hml]; exact hA.lt y hy)
    obtain ⟨M2, hfr, r, hrn, hr1, hr2⟩ := turn_mf M hA (mt' := mf (turnL m (l.map fun x : Nat => (x : Int)))) (fun u hu => by rw [hmf u, if_pos hu]) (fun u hu => by rw [hmf u, if_neg hu])
    have hless := fre_less hrn hr1 hr2 hfr
    have hlen2 : (turnL m (l.map fun x : Nat => (x : Int))).length = n := by rw [turnL_len, hml]
    cases l with
    | nil => obtain ⟨z, hz, _⟩ := hA.fr; simp at hz
    | cons c l =>
      have hnn : nats (c :: l) = .sc (.int .i64 (c : Int)) :: nats l := rfl
      simp only [go_sem]
      refine hKY _ ?_
      refine wlk_sreg fun KY hKY => ?_
      simp only [go_sem, c_single_Enlarge_r3]
      refine hKY _ ?_
      refine wlk_seq fun X4 hn4 he4 hr4 => ?_
      refine wlk_sreg fun KY hKY => ?_
      simp only [go_sem, c_single_Enlarge_r4, hnn]
      refine hKY _ ?_
      refine wlk_cond0 (by first | rfl | (simp only [go_sem]; try simp (disch := omega) only [decide_eq_true, decide_eq_false])) ?_
      refine wlk_skip ?_
      repeat (first | refine hn4 _ ?_ | refine he4 _ _ ?_ | refine hn3 _ ?_ | refine he3 _ ?_ | refine hf3 _ _ (by decide) ?_ | refine he2 _ _ ?_ | refine hn1 _ ?_ | refine he1 _ ?_ | refine hf1 _ _ (by decide) ?_)
      simp only [go_sem]
      rw [← hnn]
      refine wlk_reg fun KY hKY => ?_
      simp only [go_sem, c_single_Enlarge_r6]
      apply call_gen [] [0] true none rfl
      iterate 8 (first | (simp only [go_sem, watchIn] <;> rfl) | rfl)
      refine (hT).mono ?_
      rintro _ _ ⟨rfl, rfl⟩
      refine ⟨Nat.le_of_ble_eq_true rfl, (fun _ => by simp only [go_sem, flatH, and_self]), ?_⟩
      simp only [go_sem, callOut, AState.after]
      have hq2 : fre n (mf (turnL m ((c :: l).map fun x : Nat => (x : Int)))) < fre n (mf m) := hless
      refine hKY _ ?_
      repeat (first | refine hn4 _ ?_ | refine he4 _ _ ?_ | refine hn3 _ ?_ | refine he3 _ ?_ | refine hf3 _ _ (by decide) ?_)
      refine hn2 _ ((turnL m ((c :: l).map fun x : Nat => (x : Int)), IntKind.i64.wrap (a + 1), max b lk)) (fre n (mf (turnL m ((c :: l).map fun x : Nat => (x : Int))))) (by omega) (by first | (simp only [go_sem, updAll_cons, updAll_nil]; done) | with_reducible rfl) ?_
      exact ⟨hlen2, M2, rfl⟩
  · refine ⟨?_, ?_, ?_, ?_⟩
    iterate 3 (first | rfl | simp only [go_sem])
    simp only [go_sem]
    refine hKY _ ?_
    refine wlk_sreg fun KY hKY => ?_
    simp only [go_sem, c_single_Enlarge_r3]
    refine hKY _ ?_
    refine wlk_seq fun X5 hn5 he5 hr5 => ?_
    refine wlk_sreg fun KY hKY => ?_
    simp only [go_sem, c_single_Enlarge_r4]
    refine hKY _ ?_
    refine wlk_cond1 (by first | rfl | (simp only [go_sem]; try simp (disch := omega) only [decide_eq_true, decide_eq_false])) ?_
    refine wlk_sdraw fun KY hKY => ?_
    simp only [go_sem, c_single_Enlarge_r5]
    refine hKY _ ?_
    refine wlk_ret ?_
    repeat (first | refine hr5 _ ?_ | refine hr3 _ ?_ | refine hr2 _ ?_ | refine hr1 _ ?_)
    simp only [go_sem]
    exact ⟨m, S, _, _, hml, M, hI, hL, rfl, rfl⟩
end Go.Proofs.Ytkjppnofgmpeeaa
set_option maxRecDepth 100000
set_option maxHeartbeats 4000000
namespace Go.Proofs.Ytkjppnofgmpeeaa
open Go Go.Ga Go.Ga.Gl
theorem enlarge0_ok {E : Nat → Nat → Prop} (M : Mf 0 E (mf [])) :
    ACalls Try.prog [] n_single_Enlarge [.imm 1 (rowsI []), .imm 1 (ints [])] [] fun r h' => ∃ (S : FS) (a b : Int), Inv 0 E (mf []) S ∧ Lk E S [] ∧ r = .tup [.own (some 1) (ints (labs 0 S)), .agg [.sc (.int .i64 a), .sc (.int .i64 b)]] ∧ h' = [] := by
  have hS := search_ok [] (n := 0) (E := E) (m := []) rfl rfl (by omega) (fun v hv => by omega) M (fun v w hv => by omega)
  refine go_single_Enlarge rfl ?_
  unfold c_single_Enlarge v_single_Enlarge
  refine wlk_sreg fun KY hKY => ?_
  simp only [go_sem, c_single_Enlarge_r0]
  refine hKY _ ?_
  refine wlk_sreg fun KY hKY => ?_
  simp only [go_sem, c_single_Enlarge_r1]
  refine hKY _ ?_
  refine wlk_blk fun X1 hn1 he1 hf1 hr1 => ?_
  try simp only [go_sem]
  refine wlk_lp (α := Int × Int) [7, 8, 9, 26] (fun (a, b) => [(6, .own none [.sc (.int .i64 a), .sc (.int .i64 b)])]) (fun (a, b) => []) (fun (a, b) q => q = 0) ((0, 0)) (0) rfl (by first | (simp only [go_sem, updAll_cons, updAll_nil]; done) | with_reducible rfl | rfl) (rfl) ?_
  rintro ⟨a, b⟩ q rfl X2 hn2 he2 hr2
  simp only [go_sem, updAll_cons, updAll_nil]
  refine wlk_blk fun X3 hn3 he3 hf3 hr3 => ?_
  refine wlk_sreg fun KY hKY => ?_
  simp only [go_sem, c_single_Enlarge_r2]
  refine call_view rfl (by simp only [go_sem] <;> rfl) (hS.mono ?_)
  rintro rr hh ⟨rfl, lk, ⟨l, hA, rfl⟩ | ⟨S, hI, hL, rfl⟩⟩
  · exfalso
    obtain ⟨z, hz, _⟩ := hA.fr
    have := hA.lt z hz
    omega
  · refine ⟨?_, ?_, ?_, ?_⟩
    iterate 3 (first | rfl | simp only [go_sem])
    simp only [go_sem]
    refine hKY _ ?_
    refine wlk_sreg fun KY hKY => ?_
    simp only [go_sem, c_single_Enlarge_r3]
    refine hKY _ ?_
    refine wlk_seq fun X4 hn4 he4 hr4 => ?_
    refine wlk_sreg fun KY hKY => ?_
    simp only [go_sem, c_single_Enlarge_r4]
    refine hKY _ ?_
    refine wlk_cond1 (by first | rfl | (simp only [go_sem]; try simp (disch := omega) only [decide_eq_true, decide_eq_false])) ?_
    refine wlk_sdraw fun KY hKY => ?_
    simp only [go_sem, c_single_Enlarge_r5]
    refine hKY _ ?_
    refine wlk_ret ?_
    repeat (first | refine hr4 _ ?_ | refine hr3 _ ?_ | refine hr2 _ ?_ | refine hr1 _ ?_)
    simp only [go_sem]
    exact ⟨S, _, _, hI, hL, rfl⟩
theorem near_row {N : Nat} (es : Es) {v : Nat} (hv : v < N) : (near N es).getD v [] = nearOf es v := by
  rw [List.getD_eq_getElem?_getD, near_get hv]; rfl
theorem near_e {N : Nat} (es : Es) : ∀ v w, v < N → (w ∈ (near N es).getD v [] ↔ adj es v w) := fun v w hv => by
  rw [near_row es hv]; exact nearOf_mem
theorem near_r {N : Nat} {es : Es} (g : GR N es) : ∀ v, v < N → ((near N es).getD v []).length ≤ 1000000 := fun v hv => by
  rw [near_row es hv]; exact Nat.le_trans (nearOf_len g v) (by decide)
theorem largest_no (n : Int) (es : List (Int × Int)) (h : rightB n es = false) : ACalls Try.prog [] n_single_Largest [.agg [.sc (.int .i64 n), .imm 2 (twos es)]] [] fun r h' => r = .tup [.sc (.slice none 0 0), .agg [.sc (.int .i64 0), .sc (.int .i64 0)], .sc (.int .i64 3)] ∧ h' = [] := by
  refine go_single_Largest rfl ?_
  unfold c_single_Largest v_single_Largest
  refine wlk_sreg fun KY hKY => ?_
  simp only [go_sem, c_single_Largest_r0]
  refine hKY _ ?_
  refine wlk_seq fun X1 hn1 he1 hr1 => ?_
  refine wlk_sreg fun KY hKY => ?_
  simp only [go_sem, c_single_Largest_r1]
  refine call_view rfl (by simp only [go_sem] <;> rfl) ((right_ok n es).mono ?_)
  rintro rr hh ⟨rfl, rfl⟩
  refine ⟨rfl, rfl, rfl, ?_⟩
  simp only [go_sem, h]
  refine hKY _ ?_
  refine wlk_cond1 (by first | rfl | (simp only [go_sem]; try simp (disch := omega) only [decide_eq_true, decide_eq_false])) ?_
  refine wlk_sreg fun KY hKY => ?_
  simp only [go_sem, c_single_Largest_r2]
  refine hKY _ ?_
  refine wlk_ret ?_
  repeat (first | refine hr1 _ ?_)
  simp only [go_sem]
theorem largest_ok {N : Nat} {es : Es} (g : GR N es) : ACalls Try.prog [] n_single_Largest [.agg [.sc (.int .i64 (N : Int)), .imm 2 (twos (castE es))]] [] fun r h' => ∃ (m : List Int) (S : FS) (a b : Int), m.length = N ∧ Mf N (adj es) (mf m) ∧ Inv N (adj es) (mf m) S ∧ Lk (adj es) S [] ∧ ((N = 0 ∧ r = .tup [.own (some 1) [], .agg [.sc (.int .i64 a), .sc (.int .i64 b)], .sc (.int .i64 0)] ∧ h' = []) ∨ (0 < N ∧ r = .tup [.sl 0 0 N 1, .agg [.sc (.int .i64 a), .sc (.int .i64 b)], .sc (.int .i64 0)] ∧ h' = [some (ints m)])) := by
  have hN := g.hn
  have hr := rightB_GR g
  refine go_single_Largest rfl ?_
  unfold c_single_Largest v_single_Largest
  refine wlk_sreg fun KY hKY => ?_
  simp only [go_sem, c_single_Largest_r0]
  refine hKY _ ?_
  refine wlk_seq fun X1 hn1 he1 hr1 => ?_
  refine wlk_sreg fun KY hKY => ?_
  simp only [go_sem, c_single_Largest_r1]
  refine call_view rfl (by simp only [go_sem] <;> rfl) ((right_ok N (castE es)).mono ?_)
  rintro rr hh ⟨rfl, rfl⟩
  refine ⟨rfl, rfl, rfl, ?_⟩
  simp only [go_sem, hr]
  refine hKY _ ?_
  refine wlk_cond0 (by first | rfl | (simp only [go_sem]; try simp (disch := omega) only [decide_eq_true, decide_eq_false])) ?_
  refine wlk_skip ?_
  repeat (first | refine hn1 _ ?_ | refine he1 _ _ ?_)
  refine wlk_sreg fun KY hKY => ?_
  simp only [go_sem, c_single_Largest_r3]
  apply call_gen [] [] false none rfl
  iterate 8 (first | (simp only [go_sem, watchIn] <;> rfl) | rfl)
  refine (gfirst_ok g).mono ?_
  rintro _ _ (⟨h0, rfl, rfl⟩ | ⟨h0, m, hml, M, rfl, rfl⟩)
  · subst h0
    refine ⟨Nat.le_of_ble_eq_true rfl, (fun hh => by cases hh), ?_⟩
    simp only [go_sem, callOut, AState.after]
    refine hKY _ ?_
    refine sem_nil [0, 5] 1 (by simp only [go_sem]) ?_
    simp only [go_sem]
    have M0 : Mf 0 (adj es) (mf []) := g.none fun v => by simp [mf]
    have hE0 := enlarge0_ok M0
    have hnr : near 0 es = [] := rfl
    refine wlk_sreg fun KY hKY => ?_
    simp only [go_sem, c_single_Largest_r4]
    apply call_gen [] [] true none rfl
    iterate 8 (first | (simp only [go_sem, watchIn] <;> rfl) | rfl)
    refine (lists_ok g).mono ?_
    rintro _ _ ⟨rfl, rfl⟩
    refine ⟨Nat.le_of_ble_eq_true rfl, (fun _ => by simp only [go_sem, flatH, and_self, hnr]), ?_⟩
    simp only [go_sem, callOut, AState.after, hnr]
    rw [show AVal.own (some 1) (rowsO []) = .own (some 1) (rowsO []) from rfl]
    apply call_gen [] [] true none rfl
    iterate 8 (first | (simp only [go_sem, watchIn] <;> rfl) | rfl)
    refine (hE0).mono ?_
    rintro _ _ ⟨S, a, b, hI, hL, rfl, rfl⟩
    refine ⟨Nat.le_of_ble_eq_true rfl, (fun _ => by simp only [go_sem, flatH, and_self]), ?_⟩
    simp only [go_sem, callOut, AState.after]
    refine hKY _ ?_
    refine wlk_sdraw fun KY hKY => ?_
    simp only [go_sem, c_single_Largest_r5]
    refine hKY _ ?_
    refine wlk_ret ?_
    repeat (first | refine hr1 _ ?_)
    simp only [go_sem]
    exact ⟨[], S, _, _, rfl, M0, hI, hL, .inl rfl⟩
  · refine ⟨Nat.le_of_ble_eq_true rfl, (fun hh => by cases hh), ?_⟩
    simp only [go_sem, callOut, AState.after]
    refine hKY _ ?_
    have hE1 := enlarge_ok (near N es) h0 (near_len N es) hml hN (near_r g) M (near_e es)
    refine wlk_sreg fun KY hKY => ?_
    simp only [go_sem, c_single_Largest_r4]
    apply call_gen [] [] true none rfl
    iterate 8 (first | (simp only [go_sem, watchIn] <;> rfl) | rfl)
    refine (lists_ok g).mono ?_
    rintro _ _ ⟨rfl, rfl⟩
    refine ⟨Nat.le_of_ble_eq_true rfl, (fun _ => by simp only [go_sem, flatH, and_self]), ?_⟩
    simp only [go_sem, callOut, AState.after]
    apply call_gen [] [0] true none rfl
    iterate 8 (first | (simp only [go_sem, watchIn] <;> rfl) | rfl)
    refine (hE1).mono ?_
    rintro _ _ ⟨m', S, a, b, hml', M', hI, hL, rfl, rfl⟩
    refine ⟨Nat.le_of_ble_eq_true rfl, (fun _ => by simp only [go_sem, flatH, and_self]), ?_⟩
    simp only [go_sem, callOut, AState.after]
    refine hKY _ ?_
    refine wlk_sdraw fun KY hKY => ?_
    simp only [go_sem, c_single_Largest_r5]
    refine hKY _ ?_
    refine wlk_ret ?_
    repeat (first | refine hr1 _ ?_)
    simp only [go_sem]
    exact ⟨m', S, _, _, hml', M', hI, hL, .inr ⟨h0, rfl, rfl⟩⟩
end Go.Proofs.Ytkjppnofgmpeeaa
set_option maxRecDepth 100000
set_option maxHeartbeats 4000000
namespace Go.Proofs.Ytkjppnofgmpeeaa
open Go Go.Ga Go.Ga.Gl
theorem ints_nats (l : List Nat) : ints (l.map fun n : Nat => (n : Int)) = nats l := by simp [ints, nats]
theorem sort_ok (nw : List Nat) (h : nw.length ≤ 1000000) : ACalls Try.prog [] n_slices_Sort___int_int_ [.sl 0 0 nw.length 1] [some (nats nw)] fun r h' => r = .tup [] ∧ h' = [some (nats (nw.mergeSort fun x y => decide (x ≤ y)))] := by
  have e : (nw.mergeSort fun x y => decide (x ≤ y)).map (fun n : Nat => (n : Int)) = (nw.map fun n : Nat => (n : Int)).mergeSort fun x y => decide (x ≤ y) :=
    List.map_mergeSort fun a _ b _ => by simp
  have := acalls_row (P := Try.prog) (f := n_slices_Sort___int_int_) (by kernel_rfl) (fun zs => zs.mergeSort fun x y => decide (x ≤ y)) (fun zs => by simp) (nw.map fun n : Nat => (n : Int))
    (fun blk off cap w hH hb => Go.Proofs.Try.slices_Sort_int blk off cap _ w hH hb (by simp; omega))
  rw [ints_nats, ← e, ints_nats, List.length_map] at this
  exact this
def pRest (nr : List (List Nat)) (D : List Bool) : List AVal := [.imm 1 (rowsI nr), .own (some 1) (bools D), .dead, .own (some 1) []]
theorem piece_ok {n : Nat} {es : Es} (g : GR n es) (D : List Bool) (hD : D.length = n) (v : Nat) (hv : v < n) (hDv : D.getD v false = false) :
    ACalls Try.prog [] n_pieces_walk_piece [.ptr 0 0, .sc (.int .i64 (v : Int))] [some (pRest (near n es) D)] fun r h' => ∃ p D', PieceOf n es D v D' p ∧ r = .own (some 1) (nats p) ∧ h' = [some (pRest (near n es) D')] := by
  have hn := g.hn
  have hes := g.adj_lt
  unfold pRest
  refine go_pieces_walk_piece rfl ?_
  unfold c_pieces_walk_piece v_pieces_walk_piece
  refine wlk_sreg fun KY hKY => ?_
  simp only [go_sem, c_pieces_walk_piece_r0]
  refine hKY _ ?_
  refine wlk_sreg fun KY hKY => ?_
  simp only [go_sem, c_pieces_walk_piece_r1]
  refine hKY _ ?_
  refine wlk_sreg fun KY hKY => ?_
  simp only [go_sem, c_pieces_walk_piece_r2]
  refine hKY _ ?_
  simp only [go_sem]
  refine sem_nil [1, 0, 2] 1 (by simp only [go_sem]) ?_
  refine wlk_sreg fun KY hKY => ?_
  simp only [go_sem, c_pieces_walk_piece_r3]
  apply call_gen [] [0] false none rfl
  iterate 8 (first | (simp only [go_sem, watchIn] <;> rfl) | rfl)
  refine (come_ok (near n es) (D, [], []) v (by rw [hD]; exact hv) (Nat.zero_le _) (Nat.zero_le _)).mono ?_
  rintro _ _ ⟨rfl, rfl⟩
  unfold pObj
  refine ⟨Nat.le_of_ble_eq_true rfl, (fun hh => by cases hh), ?_⟩
  simp only [go_sem, callOut, AState.after]
  refine hKY _ ?_
  refine wlk_seq fun X1 hn1 he1 hr1 => ?_
  refine wlk_blk fun X2 hn2 he2 hf2 hr2 => ?_
  try simp only [go_sem]
  refine wlk_lp (α := DS) [6, 8, 22, 55, 56, 57, 58] (fun s => []) (fun s => [some (pObj (near n es) s)]) (fun s q => q = 2 * undone s.1 + s.2.2.length ∧ WJ n es D v s) (come (D, [], []) v) (2 * undone (come (D, [], []) v).1 + (come (D, [], []) v).2.2.length) rfl (by first | (simp only [go_sem, updAll_cons, updAll_nil]; done) | with_reducible rfl | rfl) (⟨rfl, WJ.start hD hv hDv⟩) ?_
  rintro s q ⟨hq, w⟩ X3 hn3 he3 hr3
  simp only [go_sem, updAll_cons, updAll_nil]
  have hsz := w.size
  have hrl := w.rl
  have hwd := w.len
  unfold pObj
  obtain ⟨d, nw, r⟩ := s
  simp only at hsz hrl hq hwd
  simp only [go_sem]
  refine wlk_seq fun X4 hn4 he4 hr4 => ?_
  rcases List.eq_nil_or_concat r with rfl | ⟨r', u, rfl⟩
  · refine wlk_sreg fun KY hKY => ?_
    simp only [go_sem, c_pieces_walk_piece_r4, show ((0:Nat):Int) = 0 from rfl, Int.lt_irrefl, List.length_nil]
    refine hKY _ ?_
    refine wlk_cond0 (by first | rfl | (simp only [go_sem]; try simp (disch := omega) only [decide_eq_true, decide_eq_false])) ?_
    refine wlk_exit ?_
    repeat (first | refine hn4 _ ?_ | refine he4 _ _ ?_ | refine he3 _ _ ?_ | refine hn2 _ ?_ | refine he2 _ ?_ | refine hf2 _ _ (by decide) ?_ | refine hn1 _ ?_ | refine he1 _ _ ?_)
    have hnw : 0 < nw.length := List.length_pos_of_mem w.self
    refine wlk_sreg fun KY hKY => ?_
    simp only [go_sem, c_pieces_walk_piece_r12]
    apply call_gen [.bo] [] false (some [1, 0, 2]) rfl
    iterate 8 (first | (simp only [go_sem, watchIn, hnw] <;> rfl) | rfl)
    refine (sort_ok nw (by omega)).mono ?_
    rintro _ _ ⟨rfl, rfl⟩
    refine ⟨Nat.le_of_ble_eq_true rfl, (fun hh => by cases hh), ?_⟩
    simp only [go_sem, callOut, AState.after, List.length_mergeSort]
    refine hKY _ ?_
    refine wlk_sreg fun KY hKY => ?_
    simp only [go_sem, c_pieces_walk_piece_r13]
    refine hKY _ ?_
    refine wlk_ret ?_
    repeat (first | refine hr4 _ ?_ | refine hr3 _ ?_ | refine hr2 _ ?_ | refine hr1 _ ?_)
    simp only [go_sem]
    refine ⟨nw.mergeSort fun x y => decide (x ≤ y), d, w.piece (List.mergeSort_perm _ _) ?_, rfl, rfl⟩
    have := List.pairwise_mergeSort (le := fun x y => decide (x ≤ y)) (fun a b c h1 h2 => by simp at *; omega) (fun a b => by simp; omega) nw
    exact this.imp fun h => by simpa using h
  · rw [List.concat_eq_append] at *
    have hlen : (r' ++ [u]).length = r'.length + 1 := by simp
    have hpos : (0 : Int) < ((r'.length + 1 : Nat) : Int) := by omega
    have hget : (nats (r' ++ [u]))[r'.length]? = some (.sc (.int .i64 (u : Int))) := by simp [nats]
    have hcut : cutCells (nats (r' ++ [u])) 1 0 r'.length = nats r' := by rw [cut_nats]; simp
    have hun : u < n := (w.now u (w.rest u (by simp))).1
    have hll : r'.length < r'.length + 1 := Nat.lt_succ_self _
    have hll2 : r'.length ≤ r'.length + 1 := Nat.le_succ _
    have hdec := decS (show r'.length < 4611686018427387904 by omega)
    refine wlk_sreg fun KY hKY => ?_
    simp only [go_sem, c_pieces_walk_piece_r4, hlen, hpos]
    refine hKY _ ?_
    refine wlk_cond1 (by first | rfl | (simp only [go_sem]; try simp (disch := omega) only [decide_eq_true, decide_eq_false])) ?_
    refine wlk_skip ?_
    repeat (first | refine hn4 _ ?_ | refine he4 _ _ ?_ | refine he3 _ _ ?_ | refine hn2 _ ?_ | refine he2 _ ?_ | refine hf2 _ _ (by decide) ?_ | refine hn1 _ ?_ | refine he1 _ _ ?_)
    refine wlk_blk fun X5 hn5 he5 hf5 hr5 => ?_
    refine wlk_sdraw fun KY hKY => ?_
    simp only [go_sem, c_pieces_walk_piece_r5, hlen, hdec, hget, hll]
    refine hKY _ ?_
    refine wlk_sdraw fun KY hKY => ?_
    simp only [go_sem, c_pieces_walk_piece_r6, hlen, hdec, hcut, hll2]
    refine hKY _ ?_
    have hnr := rowsI_get (near_get (es := es) hun)
    refine wlk_sreg fun KY hKY => ?_
    simp only [go_sem, c_pieces_walk_piece_r7, hnr, near_len, hun]
    refine hKY _ ?_
    obtain ⟨w1, hm1⟩ := w.step hes
    have w2 : WI n es D v (d, nw, r') := ⟨w.len, w.done, w.nd, w.now, fun x h => w.rest x (List.mem_append_left _ h), by have := w.rl; simp at this ⊢; omega, w.conn⟩
    have hu : u ∈ nw := w.rest u (List.mem_append_right _ (List.mem_singleton.2 rfl))
    have hgo : Gone es (fun x => x = u) (d, nw, r') := fun x hx hr hne y hy => w.gone x hx (fun e => by
      rcases List.mem_append.1 e with e | e
      · exact hr e
      · simp at e; exact hne e) (fun e => e) y hy
    have hco := comes_ok hes w2 hu hgo
    have hrow : (nearOf es u).length ≤ 131072 := by
      have h1 := low_len es u
      have h2 := high_len es u
      have := g.hm
      simp only [nearOf, List.length_append]; omega
    refine wlk_blk fun X6 hn6 he6 hf6 hr6 => ?_
    try simp only [go_sem]
    refine wlk_lp (α := Nat) [8, 58] (fun k => [(57, .sc (.int .i64 (k : Int)))]) (fun k => [some (pObj (near n es) (comes (d, nw, r') ((nearOf es u).take k)))]) (fun k q => q = (nearOf es u).length - k ∧ k ≤ (nearOf es u).length) (0) ((nearOf es u).length) rfl (by first | (simp only [go_sem, updAll_cons, updAll_nil]; done) | with_reducible rfl | rfl) (⟨by omega, by omega⟩) ?_
    rintro k q ⟨hq2, hk⟩ X7 hn7 he7 hr7
    simp only [go_sem, updAll_cons, updAll_nil]
    obtain ⟨x1, x2, x3, x4, x5, x6⟩ := hco k hk
    refine wlk_sreg fun KY hKY => ?_
    simp only [go_sem, c_pieces_walk_piece_r8]
    refine hKY _ ?_
    refine wlk_seq fun X8 hn8 he8 hr8 => ?_
    by_cases hk2 : k < (nearOf es u).length
    · refine wlk_cond1 (by first | rfl | (simp only [go_sem]; try simp (disch := omega) only [decide_eq_true, decide_eq_false])) ?_
      refine wlk_skip ?_
      repeat (first | refine hn8 _ ?_ | refine he8 _ _ ?_ | refine he7 _ _ ?_ | refine hn6 _ ?_ | refine he6 _ ?_ | refine hf6 _ _ (by decide) ?_ | refine hn5 _ ?_ | refine he5 _ ?_ | refine hf5 _ _ (by decide) ?_ | refine hn4 _ ?_ | refine he4 _ _ ?_)
      refine wlk_seq fun X9 hn9 he9 hr9 => ?_
      refine wlk_blk fun X10 hn10 he10 hf10 hr10 => ?_
      have hx : (nearOf es u)[k]? = some ((nearOf es u)[k]) := List.getElem?_eq_getElem hk2
      have hxn : (nats (nearOf es u))[k]? = some (.sc (.int .i64 (((nearOf es u)[k] : Nat) : Int))) := by simp [nats, hx]
      have hxl : (nearOf es u)[k] < n := (hes u _ (nearOf_mem.1 (List.getElem_mem hk2))).2
      have hcs := comes_snoc (d, nw, r') _ _ _ hx
      generalize (nearOf es u)[k] = x at hx hxn hxl hcs
      refine wlk_sreg fun KY hKY => ?_
      simp only [go_sem, c_pieces_walk_piece_r9, hxn, hk2]
      refine hKY _ ?_
      refine wlk_reg fun KY hKY => ?_
      simp only [go_sem, c_pieces_walk_piece_r10]
      unfold pObj
      have y1 := x1.size
      have y2 := x1.rl
      apply call_gen [] [0] false none rfl
      iterate 8 (first | (simp only [go_sem, watchIn] <;> rfl) | rfl)
      refine (come_ok (near n es) (comes (d, nw, r') ((nearOf es u).take k)) x (by rw [x1.len]; exact hxl) (by omega) (by omega)).mono ?_
      rintro _ _ ⟨rfl, rfl⟩
      rw [← hcs]
      unfold pObj
      refine ⟨Nat.le_of_ble_eq_true rfl, (fun hh => by cases hh), ?_⟩
      simp only [go_sem, callOut, AState.after]
      refine hKY _ ?_
      repeat (first | refine hn10 _ ?_ | refine he10 _ ?_ | refine hf10 _ _ (by decide) ?_ | refine hn9 _ ?_ | refine he9 _ _ ?_ | refine hn8 _ ?_ | refine he8 _ _ ?_ | refine he7 _ _ ?_ | refine hn6 _ ?_ | refine he6 _ ?_ | refine hf6 _ _ (by decide) ?_ | refine hn5 _ ?_ | refine he5 _ ?_ | refine hf5 _ _ (by decide) ?_ | refine hn4 _ ?_ | refine he4 _ _ ?_)
      refine wlk_reg fun KY hKY => ?_
      simp only [go_sem, c_pieces_walk_piece_r11, incS (show k < 4611686018427387904 by omega)]
      refine hKY _ ?_
      repeat (first | refine hn10 _ ?_ | refine he10 _ ?_ | refine hf10 _ _ (by decide) ?_ | refine hn9 _ ?_ | refine he9 _ _ ?_ | refine hn8 _ ?_ | refine he8 _ _ ?_)
      refine hn7 _ (k + 1) ((nearOf es u).length - (k + 1)) (by omega) (by first | (simp only [go_sem, updAll_cons, updAll_nil, pObj]; done) | with_reducible rfl | rfl) ?_
      exact ⟨rfl, hk2⟩
    · refine wlk_cond0 (by first | rfl | (simp only [go_sem]; try simp (disch := omega) only [decide_eq_true, decide_eq_false])) ?_
      refine wlk_exit ?_
      repeat (first | refine hn8 _ ?_ | refine he8 _ _ ?_ | refine he7 _ _ ?_ | refine hn6 _ ?_ | refine he6 _ ?_ | refine hf6 _ _ (by decide) ?_ | refine hn5 _ ?_ | refine he5 _ ?_ | refine hf5 _ _ (by decide) ?_ | refine hn4 _ ?_ | refine he4 _ _ ?_ | refine he3 _ _ ?_ | refine hn2 _ ?_ | refine he2 _ ?_ | refine hf2 _ _ (by decide) ?_ | refine hn1 _ ?_ | refine he1 _ _ ?_)
      obtain rfl : k = (nearOf es u).length := by omega
      rw [List.take_length] at *
      repeat (first | refine hn8 _ ?_ | refine he8 _ _ ?_ | refine he7 _ _ ?_ | refine hn6 _ ?_ | refine he6 _ ?_ | refine hf6 _ _ (by decide) ?_ | refine hn5 _ ?_ | refine he5 _ ?_ | refine hf5 _ _ (by decide) ?_ | refine hn4 _ ?_ | refine he4 _ _ ?_)
      refine hn3 _ (comes (d, nw, r') (nearOf es u)) (2 * undone (comes (d, nw, r') (nearOf es u)).1 + (comes (d, nw, r') (nearOf es u)).2.2.length) (by omega) (by first | (simp only [go_sem, updAll_cons, updAll_nil]; done) | with_reducible rfl | rfl) ?_
      exact ⟨rfl, w1⟩
end Go.Proofs.Ytkjppnofgmpeeaa
