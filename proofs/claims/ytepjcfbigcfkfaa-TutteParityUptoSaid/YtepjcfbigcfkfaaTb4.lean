/- That what a pair lacks is odd, or even, as the sum of all degrees is, is proved for every input of the given size. -/
import Derived.Test.YtepjcfbigcfkfaaTb3
import Derived.Test.YtepjcfbigcfkfaaGcgecoh5
import Derived.WalkKit
import Derived.ProofKit
import Derived.OpenShut
import Derived.JoinedCond
set_option linter.all false
set_option maxRecDepth 100000
set_option maxHeartbeats 2000000
namespace Go.Proofs.Ytepjcfbigcfkfaa
open Go Go.Ga Go.Ga.Gl
def xE (es : Es) (a b : Nat) : Int := ((nearOf es a).count b : Nat)
theorem xE_01 {N : Nat} {es : Es} (g : GR N es) (a b : Nat) : (adj es a b → xE es a b = 1) ∧ (¬ adj es a b → xE es a b = 0) := by
  have hn : (nearOf es a).Nodup := (nearOf_inc g a).imp fun h => by omega
  unfold xE
  refine ⟨fun h => ?_, fun h => ?_⟩
  · rw [List.Nodup.count hn, if_pos (nearOf_mem.2 h)]; rfl
  · rw [List.Nodup.count hn, if_neg (fun h' => h (nearOf_mem.1 h'))]; rfl
theorem xE_symm {N : Nat} {es : Es} (g : GR N es) (a b : Nat) : xE es a b = xE es b a := by
  by_cases h : adj es a b
  · rw [(xE_01 g a b).1 h, (xE_01 g b a).1 (adj_symm h)]
  · rw [(xE_01 g a b).2 h, (xE_01 g b a).2 fun h' => h (adj_symm h')]
theorem xE_self {N : Nat} {es : Es} (g : GR N es) (a : Nat) : xE es a a = 0 := (xE_01 g a a).2 fun h => by
  rcases h with h | h <;> exact absurd (g.ok _ h).1 (by simp)
theorem s1_count (l : List Nat) : ∀ {B : List Nat}, B.Nodup → s1 (fun b => (l.count b : Nat)) B = ((l.filter fun b => decide (b ∈ B)).length : Nat) := by
  induction l with
  | nil => intro B _; exact s1_zero fun a _ => by simp
  | cons x l ih =>
    intro B hB
    have e : s1 (fun b => ((x :: l).count b : Nat)) B = s1 (fun b => ((l.count b : Nat) : Int)) B + s1 (fun b => if x = b then 1 else 0) B := by
      rw [← s1_add]
      refine s1_congr fun b _ => ?_
      rw [List.count_cons]; simp only [beq_iff_eq]; split <;> omega
    rw [e, ih hB]
    have e2 : s1 (fun b => if x = b then 1 else 0) B = if x ∈ B then 1 else 0 := by
      clear e ih
      induction B with
      | nil => simp [s1]
      | cons b B ihB =>
        rw [List.nodup_cons] at hB
        rw [s1_cons, ihB hB.2]
        by_cases hx : x = b
        · subst hx; simp [hB.1]
        · simp [hx]
    rw [e2, List.filter_cons]
    by_cases hx : x ∈ B
    · simp [hx]
    · simp [hx]
theorem range_count {N : Nat} {l : List Nat} (h : ∀ v ∈ l, v < N) : s1 (fun b => (l.count b : Nat)) (List.range N) = (l.length : Nat) := by
  rw [s1_count l List.nodup_range, List.filter_eq_self.2 fun a ha => by simp [h a ha]]
theorem filter_split (l S : List Nat) : ((l.filter fun w => decide (w ∉ S)).length : Int) = (l.length : Int) - ((l.filter fun w => decide (w ∈ S)).length : Nat) := by
  induction l with
  | nil => rfl
  | cons x l ih =>
    by_cases hx : x ∈ S
    · simp only [List.filter_cons, hx, not_true_eq_false, decide_false, decide_true, if_true, List.length_cons]; simp only [Bool.false_eq_true, if_false]; omega
    · simp only [List.filter_cons, hx, not_false_eq_true, decide_false, decide_true, if_true, List.length_cons]; simp only [Bool.false_eq_true, if_false]; omega
theorem lackW_S {N : Nat} {es : Es} (g : GR N es) (fs : List Int) {S T : List Nat} {ps : List (List Nat)} (hS : S.Nodup) (hps : ∀ p ∈ ps, ∀ v ∈ p, v < N) :
    lackW N es fs S T ps = lackS (xE es) (fun v => fs.getD v 0) (List.range N) S T ps := by
  have e1 : s2 (xE es) T (List.range N) - s2 (xE es) T S = ((allNear es T).filter fun w => decide (w ∉ S)).length := by
    induction T with
    | nil => simp [allNear, s2_nil]
    | cons t T ih =>
      rw [s2_cons, s2_cons]
      have ha : allNear es (t :: T) = nearOf es t ++ allNear es T := rfl
      rw [ha, List.filter_append, List.length_append]
      have h1 : s1 (xE es t) (List.range N) = ((nearOf es t).length : Nat) := range_count fun v hv => by
        rcases nearOf_mem.1 hv with h | h
        · exact (g.ok _ h).2
        · exact Nat.lt_trans (g.ok _ h).1 (g.ok _ h).2
      have h2 : s1 (xE es t) S = (((nearOf es t).filter fun b => decide (b ∈ S)).length : Nat) := s1_count _ hS
      have h3 := filter_split (nearOf es t) S
      omega
  have e2 : ∀ p ∈ ps, sumAt (toI N (allNear es T)) p = s2 (xE es) p T := fun p hp => by
    unfold s2 sumAt
    show s1 (fun v => (toI N (allNear es T)).getD v 0) p = _
    refine s1_congr fun v hv => ?_
    rw [toI_get _ (hps p hp v hv)]
    clear e1
    induction T with
    | nil => simp [allNear, s1_nil]
    | cons t T ih =>
      have ha : allNear es (t :: T) = nearOf es t ++ allNear es T := rfl
      rw [ha, List.count_append, s1_cons, ← ih, xE_symm g v t]
      unfold xE; omega
  unfold lackW lackS
  have e3 : sp (fun p => (sumAt fs p + sumAt (toI N (allNear es T)) p) % 2) ps = sp (fun p => (s1 (fun v => fs.getD v 0) p + s2 (xE es) p T) % 2) ps := by
    unfold sp
    refine congrArg List.sum (List.map_congr_left fun p hp => ?_)
    rw [e2 p hp]; rfl
  rw [e3, ← e1]; rfl
theorem pieces_perm {N : Nat} {es : Es} {S T : List Nat} {ps : List (List Nat)} (hp : IsPieces N es (fun v => (v : Int) ∈ (S ++ T).map fun v : Nat => (v : Int)) ps) (hS : S.Nodup) (hT : T.Nodup) (hST : ∀ v ∈ S, v ∉ T) (hSv : ∀ v ∈ S, v < N) (hTv : ∀ v ∈ T, v < N) : (List.range N).Perm (S ++ T ++ ps.flatten) := by
  have hmem : ∀ v, (v ∈ ps.flatten ↔ v < N ∧ ¬ v ∈ S ++ T) := fun v => by
    rw [List.mem_flatten]
    have := hp.mem v
    rw [mem_castI] at this
    exact this
  refine (List.perm_ext_iff_of_nodup List.nodup_range ?_).2 fun v => ?_
  · refine List.nodup_append.2 ⟨List.nodup_append.2 ⟨hS, hT, fun a ha b hb => fun e => hST a ha (e ▸ hb)⟩, ?_, fun a ha b hb => fun e => ((hmem b).1 hb).2 (e ▸ ha)⟩
    refine List.pairwise_flatten.2 ⟨fun p hpp => (hp.inc p hpp).imp fun h => by omega, hp.disj.imp fun h a ha b hb (e : a = b) => h a ha (e ▸ hb)⟩
  · rw [List.mem_range, List.mem_append, hmem]
    by_cases h : v ∈ S ++ T
    · have : v < N := by
        rcases List.mem_append.1 h with h' | h'
        · exact hSv v h'
        · exact hTv v h'
      simp [this, h]
    · simp [h]
end Go.Proofs.Ytepjcfbigcfkfaa
set_option maxRecDepth 100000
set_option maxHeartbeats 2000000
namespace Go.Proofs.Ytepjcfbigcfkfaa
open Go Go.Ga Go.Ga.Gl
structure PT (k : Nat) (S T : List Nat) : Prop where
  s : S.Pairwise (· < ·)
  t : T.Pairwise (· < ·)
  sb : ∀ v ∈ S, v < k
  tb : ∀ v ∈ T, v < k
  d : ∀ v ∈ S, v ∉ T
theorem pt_nil : PT 0 [] [] := ⟨.nil, .nil, by simp, by simp, by simp⟩
theorem pt_skip {k : Nat} {S T : List Nat} (h : PT k S T) : PT (k + 1) S T := ⟨h.s, h.t, fun v hv => Nat.lt_succ_of_lt (h.sb v hv), fun v hv => Nat.lt_succ_of_lt (h.tb v hv), h.d⟩
theorem up_add {k : Nat} {S : List Nat} (h : S.Pairwise (· < ·)) (hb : ∀ v ∈ S, v < k) : (S ++ [k]).Pairwise (· < ·) ∧ ∀ v ∈ S ++ [k], v < k + 1 :=
  ⟨List.pairwise_append.2 ⟨h, by simp, fun x hx y hy => by simp at hy; subst hy; exact hb x hx⟩, fun v hv => by
    rcases List.mem_append.1 hv with h' | h'
    · exact Nat.lt_succ_of_lt (hb v h')
    · simp at h'; omega⟩
theorem pt_s {k : Nat} {S T : List Nat} (h : PT k S T) : PT (k + 1) (S ++ [k]) T := ⟨(up_add h.s h.sb).1, h.t, (up_add h.s h.sb).2, fun v hv => Nat.lt_succ_of_lt (h.tb v hv), fun v hv h' => by
  rcases List.mem_append.1 hv with h2 | h2
  · exact h.d v h2 h'
  · simp at h2; subst h2; exact absurd (h.tb _ h') (Nat.lt_irrefl _)⟩
theorem pt_t {k : Nat} {S T : List Nat} (h : PT k S T) : PT (k + 1) S (T ++ [k]) := ⟨h.s, (up_add h.t h.tb).1, fun v hv => Nat.lt_succ_of_lt (h.sb v hv), (up_add h.t h.tb).2, fun v hv h' => by
  rcases List.mem_append.1 h' with h2 | h2
  · exact h.d v hv h2
  · simp at h2; subst h2; exact absurd (h.sb _ hv) (Nat.lt_irrefl _)⟩
theorem up_upB {N : Nat} {l : List Nat} (h : l.Pairwise (· < ·)) (hb : ∀ v ∈ l, v < N) : upB N (l.map fun v : Nat => (v : Int)) = true := by
  unfold upB
  rw [Bool.and_eq_true, List.all_eq_true, decide_eq_true_iff]
  refine ⟨fun x hx => ?_, List.pairwise_map.2 (h.imp fun h => by omega)⟩
  rw [List.mem_map] at hx
  obtain ⟨v, hv, rfl⟩ := hx
  have := hb v hv
  simp; omega
theorem pt_ok {N : Nat} {S T : List Nat} (h : PT N S T) : okPB N (S.map fun v : Nat => (v : Int)) (T.map fun v : Nat => (v : Int)) = true := by
  unfold okPB
  rw [up_upB h.s h.sb, up_upB h.t h.tb, Bool.true_and, Bool.true_and, List.all_eq_true]
  intro x hx
  rw [List.mem_map] at hx
  obtain ⟨v, hv, rfl⟩ := hx
  rw [decide_eq_true_iff, mem_castI]; exact h.d v hv
theorem pt_lens {N : Nat} {S T : List Nat} (h : PT N S T) : S.length ≤ N ∧ T.length ≤ N := ⟨up_len h.sb h.s, up_len h.tb h.t⟩
theorem pt_perm {N : Nat} {es : Es} {S T : List Nat} {ps : List (List Nat)} (h : PT N S T) (hp : IsPieces N es (fun v => (v : Int) ∈ (S ++ T).map fun v : Nat => (v : Int)) ps) : (List.range N).Perm (S ++ T ++ ps.flatten) :=
  pieces_perm hp (h.s.imp fun h => by omega) (h.t.imp fun h => by omega) h.d h.sb h.tb
theorem pt_lackW {N : Nat} {es : Es} (g : GR N es) (fs : List Int) {S T : List Nat} {ps : List (List Nat)} (h : PT N S T) (hp : IsPieces N es (fun v => (v : Int) ∈ (S ++ T).map fun v : Nat => (v : Int)) ps) : lackW N es fs S T ps = lackS (xE es) (fun v => fs.getD v 0) (List.range N) S T ps :=
  lackW_S g fs (h.s.imp fun h => by omega) fun p hpp v hv => ((hp.mem v).1 ⟨p, hpp, hv⟩).1
theorem wrap_even {x : Int} (h : x % 2 = 0) : (IntKind.i64.wrap x).tmod 2 = 0 := by
  rw [IntKind.wrap_i64]
  exact Int.tmod_eq_zero_of_dvd (Int.dvd_of_emod_eq_zero (by omega))
theorem umod3 (x : Int) : ∃ m : Nat, m < 3 ∧ (IntKind.u64.wrap x).tmod 3 = (m : Int) := by
  rw [IntKind.wrap_u64]
  refine ⟨((x % 18446744073709551616).tmod 3).toNat, ?_, ?_⟩
  · rw [Int.tmod_eq_emod_of_nonneg (by omega)]; omega
  · rw [Int.tmod_eq_emod_of_nonneg (by omega)]; omega
theorem tparity_ok (n : Int) (ends l parts : List Int) (he : ends.length ≤ 1000000000) (hl : l.length ≤ 1000000000) (hpl : parts.length ≤ 1000000000) : ACalls Try.prog [] n_garlandlaw23_TutteParity [.sc (.int .i64 n), .imm 1 (ints ends), .imm 1 (ints l), .imm 1 (ints parts)] [] fun r h' => r = .sc (.bool true) ∧ h' = [] := by
  refine ACalls.trim ?_
  refine go_garlandlaw23_TutteParity rfl ?_
  unfold c_garlandlaw23_TutteParity v_garlandlaw23_TutteParity
  refine wlk_sreg fun KY hKY => ?_
  simp only [go_sem, reduceIte, Nat.reduceEqDiff, Nat.reduceBEq, reduceCtorEq, Nat.reduceLT, Nat.reduceLeDiff, Nat.reduceAdd, Nat.reduceSub, Nat.reduceMul, Nat.reduceDiv, Int.reduceAdd, Int.reduceNeg, Int.reduceEq, Int.reduceLT, Int.reduceLE, c_garlandlaw23_TutteParity_r0]
  refine hKY _ ?_
  refine wlk_sreg fun KY hKY => ?_
  simp only [go_sem, reduceIte, Nat.reduceEqDiff, Nat.reduceBEq, reduceCtorEq, Nat.reduceLT, Nat.reduceLeDiff, Nat.reduceAdd, Nat.reduceSub, Nat.reduceMul, Nat.reduceDiv, Int.reduceAdd, Int.reduceNeg, Int.reduceEq, Int.reduceLT, Int.reduceLE, c_garlandlaw23_TutteParity_r1]
  apply call_gen [] [] false none rfl
  iterate 8 (first | (simp only [go_sem, reduceIte, Nat.reduceEqDiff, Nat.reduceBEq, reduceCtorEq, Nat.reduceLT, Nat.reduceLeDiff, Nat.reduceAdd, Nat.reduceSub, Nat.reduceMul, Nat.reduceDiv, Int.reduceAdd, Int.reduceNeg, Int.reduceEq, Int.reduceLT, Int.reduceLE, watchIn] <;> rfl) | rfl)
  refine (small_ok n ends 20 40 (by omega) (by omega) (by omega)).mono ?_
  rintro _ _ ⟨⟨N, es, g, hN, hm, rfl⟩, rfl⟩
  refine ⟨Nat.le_of_ble_eq_true rfl, (fun hh => by cases hh), ?_⟩
  simp only [go_sem, reduceIte, Nat.reduceEqDiff, Nat.reduceBEq, reduceCtorEq, Nat.reduceLT, Nat.reduceLeDiff, Nat.reduceAdd, Nat.reduceSub, Nat.reduceMul, Nat.reduceDiv, Int.reduceAdd, Int.reduceNeg, Int.reduceEq, Int.reduceLT, Int.reduceLE, callOut, AState.after]
  refine hKY _ ?_
  refine wlk_sreg fun KY hKY => ?_
  simp only [go_sem, reduceIte, Nat.reduceEqDiff, Nat.reduceBEq, reduceCtorEq, Nat.reduceLT, Nat.reduceLeDiff, Nat.reduceAdd, Nat.reduceSub, Nat.reduceMul, Nat.reduceDiv, Int.reduceAdd, Int.reduceNeg, Int.reduceEq, Int.reduceLT, Int.reduceLE, c_garlandlaw23_TutteParity_r2]
  refine call_view rfl (by simp only [go_sem, reduceIte, Nat.reduceEqDiff, Nat.reduceBEq, reduceCtorEq, Nat.reduceLT, Nat.reduceLeDiff, Nat.reduceAdd, Nat.reduceSub, Nat.reduceMul, Nat.reduceDiv, Int.reduceAdd, Int.reduceNeg, Int.reduceEq, Int.reduceLT, Int.reduceLE] <;> rfl) ((degs_ok N (.imm 2 (twos (castE es))) l 5 (by omega) (by omega) (by omega) (by simp only [go_sem, reduceIte, Nat.reduceEqDiff, Nat.reduceBEq, reduceCtorEq, Nat.reduceLT, Nat.reduceLeDiff, Nat.reduceAdd, Nat.reduceSub, Nat.reduceMul, Nat.reduceDiv, Int.reduceAdd, Int.reduceNeg, Int.reduceEq, Int.reduceLT, Int.reduceLE]) hl).mono ?_)
  rintro rr hh ⟨⟨fs, hD, rfl⟩, rfl⟩
  refine ⟨?_, ?_, ?_, ?_⟩
  iterate 3 (first | rfl | simp only [go_sem, reduceIte, Nat.reduceEqDiff, Nat.reduceBEq, reduceCtorEq, Nat.reduceLT, Nat.reduceLeDiff, Nat.reduceAdd, Nat.reduceSub, Nat.reduceMul, Nat.reduceDiv, Int.reduceAdd, Int.reduceNeg, Int.reduceEq, Int.reduceLT, Int.reduceLE])
  simp only [go_sem, reduceIte, Nat.reduceEqDiff, Nat.reduceBEq, reduceCtorEq, Nat.reduceLT, Nat.reduceLeDiff, Nat.reduceAdd, Nat.reduceSub, Nat.reduceMul, Nat.reduceDiv, Int.reduceAdd, Int.reduceNeg, Int.reduceEq, Int.reduceLT, Int.reduceLE]
  refine hKY _ ?_
  have hfs : ∀ x ∈ fs, 0 ≤ x ∧ x ≤ 4096 := fun x hx => ⟨(hD.2 x hx).1, by have := (hD.2 x hx).2; omega⟩
  have hfl := hD.1
  refine wlk_sreg fun KY hKY => ?_
  simp only [go_sem, reduceIte, Nat.reduceEqDiff, Nat.reduceBEq, reduceCtorEq, Nat.reduceLT, Nat.reduceLeDiff, Nat.reduceAdd, Nat.reduceSub, Nat.reduceMul, Nat.reduceDiv, Int.reduceAdd, Int.reduceNeg, Int.reduceEq, Int.reduceLT, Int.reduceLE, c_garlandlaw23_TutteParity_r3]
  refine hKY _ ?_
  refine sem_nil [0, 11, 0] 1 (by simp only [go_sem, reduceIte, Nat.reduceEqDiff, Nat.reduceBEq, reduceCtorEq, Nat.reduceLT, Nat.reduceLeDiff, Nat.reduceAdd, Nat.reduceSub, Nat.reduceMul, Nat.reduceDiv, Int.reduceAdd, Int.reduceNeg, Int.reduceEq, Int.reduceLT, Int.reduceLE]) ?_
  simp only [go_sem, reduceIte, Nat.reduceEqDiff, Nat.reduceBEq, reduceCtorEq, Nat.reduceLT, Nat.reduceLeDiff, Nat.reduceAdd, Nat.reduceSub, Nat.reduceMul, Nat.reduceDiv, Int.reduceAdd, Int.reduceNeg, Int.reduceEq, Int.reduceLT, Int.reduceLE]
  refine sem_nil [0, 11, 1] 1 (by simp only [go_sem, reduceIte, Nat.reduceEqDiff, Nat.reduceBEq, reduceCtorEq, Nat.reduceLT, Nat.reduceLeDiff, Nat.reduceAdd, Nat.reduceSub, Nat.reduceMul, Nat.reduceDiv, Int.reduceAdd, Int.reduceNeg, Int.reduceEq, Int.reduceLT, Int.reduceLE]) ?_
  simp only [go_sem, reduceIte, Nat.reduceEqDiff, Nat.reduceBEq, reduceCtorEq, Nat.reduceLT, Nat.reduceLeDiff, Nat.reduceAdd, Nat.reduceSub, Nat.reduceMul, Nat.reduceDiv, Int.reduceAdd, Int.reduceNeg, Int.reduceEq, Int.reduceLT, Int.reduceLE]
  refine wlk_sreg fun KY hKY => ?_
  simp only [go_sem, reduceIte, Nat.reduceEqDiff, Nat.reduceBEq, reduceCtorEq, Nat.reduceLT, Nat.reduceLeDiff, Nat.reduceAdd, Nat.reduceSub, Nat.reduceMul, Nat.reduceDiv, Int.reduceAdd, Int.reduceNeg, Int.reduceEq, Int.reduceLT, Int.reduceLE, c_garlandlaw23_TutteParity_r4]
  refine hKY _ ?_
  refine wlk_seq fun X1 hn1 he1 hr1 => ?_
  refine wlk_sreg fun KY hKY => ?_
  simp only [go_sem, reduceIte, Nat.reduceEqDiff, Nat.reduceBEq, reduceCtorEq, Nat.reduceLT, Nat.reduceLeDiff, Nat.reduceAdd, Nat.reduceSub, Nat.reduceMul, Nat.reduceDiv, Int.reduceAdd, Int.reduceNeg, Int.reduceEq, Int.reduceLT, Int.reduceLE, c_garlandlaw23_TutteParity_r5]
  refine hKY _ ?_
  refine wlk_blk fun X2 hn2 he2 hf2 hr2 => ?_
  try simp only [go_sem, reduceIte, Nat.reduceEqDiff, Nat.reduceBEq, reduceCtorEq, Nat.reduceLT, Nat.reduceLeDiff, Nat.reduceAdd, Nat.reduceSub, Nat.reduceMul, Nat.reduceDiv, Int.reduceAdd, Int.reduceNeg, Int.reduceEq, Int.reduceLT, Int.reduceLE]
  refine wlk_lp (α := Nat × List Nat × List Nat) [25, 37, 43, 44, 52] (fun (k, S, T) => [(11, .own none [.own (some 1) (nats S), .own (some 1) (nats T)]), (12, .sc (.int .i64 (sumAt fs (List.range k)))), (13, .sc (.int .i64 (k : Int)))]) (fun (k, S, T) => []) (fun (k, S, T) q => k ≤ N ∧ q = N - k ∧ PT k S T) ((0, [], [])) (N) rfl (by first | (simp only [go_sem, reduceIte, Nat.reduceEqDiff, Nat.reduceBEq, reduceCtorEq, Nat.reduceLT, Nat.reduceLeDiff, Nat.reduceAdd, Nat.reduceSub, Nat.reduceMul, Nat.reduceDiv, Int.reduceAdd, Int.reduceNeg, Int.reduceEq, Int.reduceLT, Int.reduceLE, updAll_cons, updAll_nil]; done) | with_reducible rfl | rfl) (⟨by omega, rfl, pt_nil⟩) ?_
  rintro ⟨k, S, T⟩ q ⟨hk, rfl, hP⟩ X3 hn3 he3 hr3
  simp only [go_sem, reduceIte, Nat.reduceEqDiff, Nat.reduceBEq, reduceCtorEq, Nat.reduceLT, Nat.reduceLeDiff, Nat.reduceAdd, Nat.reduceSub, Nat.reduceMul, Nat.reduceDiv, Int.reduceAdd, Int.reduceNeg, Int.reduceEq, Int.reduceLT, Int.reduceLE, updAll_cons, updAll_nil]
  refine wlk_seq fun X4 hn4 he4 hr4 => ?_
  by_cases hk2 : k < N
  · refine wlk_sreg fun KY hKY => ?_
    simp only [go_sem, reduceIte, Nat.reduceEqDiff, Nat.reduceBEq, reduceCtorEq, Nat.reduceLT, Nat.reduceLeDiff, Nat.reduceAdd, Nat.reduceSub, Nat.reduceMul, Nat.reduceDiv, Int.reduceAdd, Int.reduceNeg, Int.reduceEq, Int.reduceLT, Int.reduceLE, c_garlandlaw23_TutteParity_r6]
    refine hKY _ ?_
    refine wlk_cond1 (by first | rfl | (simp only [go_sem, reduceIte, Nat.reduceEqDiff, Nat.reduceBEq, reduceCtorEq, Nat.reduceLT, Nat.reduceLeDiff, Nat.reduceAdd, Nat.reduceSub, Nat.reduceMul, Nat.reduceDiv, Int.reduceAdd, Int.reduceNeg, Int.reduceEq, Int.reduceLT, Int.reduceLE]; try simp (disch := omega) only [decide_eq_true, decide_eq_false])) ?_
    refine wlk_skip ?_
    repeat (first | refine hn4 _ ?_ | refine he4 _ _ ?_ | refine hr4 _ ?_ | refine he3 _ _ ?_ | refine hr3 _ ?_ | refine hn2 _ ?_ | refine he2 _ ?_ | refine hf2 _ _ (by decide) ?_ | refine hr2 _ ?_ | refine hn1 _ ?_ | refine he1 _ _ ?_ | refine hr1 _ ?_)
    refine wlk_seq fun X5 hn5 he5 hr5 => ?_
    refine wlk_blk fun X6 hn6 he6 hf6 hr6 => ?_
    have hsn : sumAt fs (List.range (k + 1)) = sumAt fs (List.range k) + fs.getD k 0 := by rw [List.range_succ]; simp [sumAt]
    have hb := sumAt_bound hfs (List.range k)
    have hb' := sumAt_bound hfs (List.range (k + 1))
    rw [List.length_range] at hb hb'
    have hw : IntKind.i64.wrap (sumAt fs (List.range k) + fs.getD k 0) = sumAt fs (List.range (k + 1)) := by rw [← hsn, IntWalk.i64_in _ (by omega)]
    obtain ⟨hSl, hTl⟩ := pt_lens hP
    have hbS : (S.length + 1) * 8 ≤ 140737488355328 := by omega
    have hbT : (T.length + 1) * 8 ≤ 140737488355328 := by omega
    refine wlk_sreg fun KY hKY => ?_
    simp only [go_sem, reduceIte, Nat.reduceEqDiff, Nat.reduceBEq, reduceCtorEq, Nat.reduceLT, Nat.reduceLeDiff, Nat.reduceAdd, Nat.reduceSub, Nat.reduceMul, Nat.reduceDiv, Int.reduceAdd, Int.reduceNeg, Int.reduceEq, Int.reduceLT, Int.reduceLE, c_garlandlaw23_TutteParity_r7, ints_get (show k < fs.length by omega), (show k < N by omega), hfl, ints_len, hw]
    refine hKY _ ?_
    refine wlk_seq fun X7 hn7 he7 hr7 => ?_
    by_cases hk3 : k < parts.length
    · refine wlk_sreg fun KY hKY => ?_
      simp only [go_sem, reduceIte, Nat.reduceEqDiff, Nat.reduceBEq, reduceCtorEq, Nat.reduceLT, Nat.reduceLeDiff, Nat.reduceAdd, Nat.reduceSub, Nat.reduceMul, Nat.reduceDiv, Int.reduceAdd, Int.reduceNeg, Int.reduceEq, Int.reduceLT, Int.reduceLE, c_garlandlaw23_TutteParity_r8, ints_len]
      refine hKY _ ?_
      refine wlk_cond0 (by first | rfl | (simp only [go_sem, reduceIte, Nat.reduceEqDiff, Nat.reduceBEq, reduceCtorEq, Nat.reduceLT, Nat.reduceLeDiff, Nat.reduceAdd, Nat.reduceSub, Nat.reduceMul, Nat.reduceDiv, Int.reduceAdd, Int.reduceNeg, Int.reduceEq, Int.reduceLT, Int.reduceLE]; try simp (disch := omega) only [decide_eq_true, decide_eq_false])) ?_
      refine wlk_skip ?_
      repeat (first | refine hn7 _ ?_ | refine he7 _ _ ?_ | refine hr7 _ ?_ | refine hn6 _ ?_ | refine he6 _ ?_ | refine hf6 _ _ (by decide) ?_ | refine hr6 _ ?_ | refine hn5 _ ?_ | refine he5 _ _ ?_ | refine hr5 _ ?_ | refine hn4 _ ?_ | refine he4 _ _ ?_ | refine hr4 _ ?_ | refine he3 _ _ ?_ | refine hr3 _ ?_ | refine hn2 _ ?_ | refine he2 _ ?_ | refine hf2 _ _ (by decide) ?_ | refine hr2 _ ?_ | refine hn1 _ ?_ | refine he1 _ _ ?_ | refine hr1 _ ?_)
      obtain ⟨m, hm3, hmw⟩ := umod3 (parts.getD k 0)
      refine wlk_sreg fun KY hKY => ?_
      simp only [go_sem, reduceIte, Nat.reduceEqDiff, Nat.reduceBEq, reduceCtorEq, Nat.reduceLT, Nat.reduceLeDiff, Nat.reduceAdd, Nat.reduceSub, Nat.reduceMul, Nat.reduceDiv, Int.reduceAdd, Int.reduceNeg, Int.reduceEq, Int.reduceLT, Int.reduceLE, c_garlandlaw23_TutteParity_r9, ints_get hk3, hk3, ints_len, hmw]
      refine hKY _ ?_
      refine wlk_blk fun X8 hn8 he8 hf8 hr8 => ?_
      have hm' : m = 0 ∨ m = 1 ∨ m = 2 := by omega
      rcases hm' with rfl | rfl | rfl
      · refine wlk_sreg fun KY hKY => ?_
        simp only [go_sem, reduceIte, Nat.reduceEqDiff, Nat.reduceBEq, reduceCtorEq, Nat.reduceLT, Nat.reduceLeDiff, Nat.reduceAdd, Nat.reduceSub, Nat.reduceMul, Nat.reduceDiv, Int.reduceAdd, Int.reduceNeg, Int.reduceEq, Int.reduceLT, Int.reduceLE, c_garlandlaw23_TutteParity_r10]
        refine hKY _ ?_
        refine wlk_cond1 (by first | rfl | (simp only [go_sem, reduceIte, Nat.reduceEqDiff, Nat.reduceBEq, reduceCtorEq, Nat.reduceLT, Nat.reduceLeDiff, Nat.reduceAdd, Nat.reduceSub, Nat.reduceMul, Nat.reduceDiv, Int.reduceAdd, Int.reduceNeg, Int.reduceEq, Int.reduceLT, Int.reduceLE]; try simp (disch := omega) only [decide_eq_true, decide_eq_false])) ?_
        refine wlk_reg fun KY hKY => ?_
        simp only [go_sem, reduceIte, Nat.reduceEqDiff, Nat.reduceBEq, reduceCtorEq, Nat.reduceLT, Nat.reduceLeDiff, Nat.reduceAdd, Nat.reduceSub, Nat.reduceMul, Nat.reduceDiv, Int.reduceAdd, Int.reduceNeg, Int.reduceEq, Int.reduceLT, Int.reduceLE, c_garlandlaw23_TutteParity_r11, nats_snoc, hbS]
        refine hKY _ ?_
        repeat (first | refine hn8 _ ?_ | refine he8 _ ?_ | refine hf8 _ _ (by decide) ?_ | refine hr8 _ ?_ | refine hn7 _ ?_ | refine he7 _ _ ?_ | refine hr7 _ ?_ | refine hn6 _ ?_ | refine he6 _ ?_ | refine hf6 _ _ (by decide) ?_ | refine hr6 _ ?_ | refine hn5 _ ?_ | refine he5 _ _ ?_ | refine hr5 _ ?_ | refine hn4 _ ?_ | refine he4 _ _ ?_ | refine hr4 _ ?_ | refine he3 _ _ ?_ | refine hr3 _ ?_ | refine hn2 _ ?_ | refine he2 _ ?_ | refine hf2 _ _ (by decide) ?_ | refine hr2 _ ?_ | refine hn1 _ ?_ | refine he1 _ _ ?_ | refine hr1 _ ?_)
        refine wlk_reg fun KY hKY => ?_
        simp only [go_sem, reduceIte, Nat.reduceEqDiff, Nat.reduceBEq, reduceCtorEq, Nat.reduceLT, Nat.reduceLeDiff, Nat.reduceAdd, Nat.reduceSub, Nat.reduceMul, Nat.reduceDiv, Int.reduceAdd, Int.reduceNeg, Int.reduceEq, Int.reduceLT, Int.reduceLE, c_garlandlaw23_TutteParity_r14, incS (show k < 4611686018427387904 by omega)]
        refine hKY _ ?_
        repeat (first | refine hn8 _ ?_ | refine he8 _ ?_ | refine hf8 _ _ (by decide) ?_ | refine hr8 _ ?_ | refine hn7 _ ?_ | refine he7 _ _ ?_ | refine hr7 _ ?_ | refine hn6 _ ?_ | refine he6 _ ?_ | refine hf6 _ _ (by decide) ?_ | refine hr6 _ ?_ | refine hn5 _ ?_ | refine he5 _ _ ?_ | refine hr5 _ ?_ | refine hn4 _ ?_ | refine he4 _ _ ?_ | refine hr4 _ ?_ | refine he3 _ _ ?_ | refine hr3 _ ?_ | refine hn2 _ ?_ | refine he2 _ ?_ | refine hf2 _ _ (by decide) ?_ | refine hr2 _ ?_ | refine hn1 _ ?_ | refine he1 _ _ ?_ | refine hr1 _ ?_)
        refine hn3 _ ((k + 1, S ++ [k], T)) (N - (k + 1)) (by omega) (by first | (simp only [go_sem, reduceIte, Nat.reduceEqDiff, Nat.reduceBEq, reduceCtorEq, Nat.reduceLT, Nat.reduceLeDiff, Nat.reduceAdd, Nat.reduceSub, Nat.reduceMul, Nat.reduceDiv, Int.reduceAdd, Int.reduceNeg, Int.reduceEq, Int.reduceLT, Int.reduceLE, updAll_cons, updAll_nil]; done) | with_reducible rfl) ?_
        exact ⟨hk2, rfl, pt_s hP⟩
      · refine wlk_sreg fun KY hKY => ?_
        simp only [go_sem, reduceIte, Nat.reduceEqDiff, Nat.reduceBEq, reduceCtorEq, Nat.reduceLT, Nat.reduceLeDiff, Nat.reduceAdd, Nat.reduceSub, Nat.reduceMul, Nat.reduceDiv, Int.reduceAdd, Int.reduceNeg, Int.reduceEq, Int.reduceLT, Int.reduceLE, c_garlandlaw23_TutteParity_r10]
        refine hKY _ ?_
        refine wlk_cond0 (by first | rfl | (simp only [go_sem, reduceIte, Nat.reduceEqDiff, Nat.reduceBEq, reduceCtorEq, Nat.reduceLT, Nat.reduceLeDiff, Nat.reduceAdd, Nat.reduceSub, Nat.reduceMul, Nat.reduceDiv, Int.reduceAdd, Int.reduceNeg, Int.reduceEq, Int.reduceLT, Int.reduceLE]; try simp (disch := omega) only [decide_eq_true, decide_eq_false])) ?_
        refine wlk_sreg fun KY hKY => ?_
        simp only [go_sem, reduceIte, Nat.reduceEqDiff, Nat.reduceBEq, reduceCtorEq, Nat.reduceLT, Nat.reduceLeDiff, Nat.reduceAdd, Nat.reduceSub, Nat.reduceMul, Nat.reduceDiv, Int.reduceAdd, Int.reduceNeg, Int.reduceEq, Int.reduceLT, Int.reduceLE, c_garlandlaw23_TutteParity_r12]
        refine hKY _ ?_
        refine wlk_cond1 (by first | rfl | (simp only [go_sem, reduceIte, Nat.reduceEqDiff, Nat.reduceBEq, reduceCtorEq, Nat.reduceLT, Nat.reduceLeDiff, Nat.reduceAdd, Nat.reduceSub, Nat.reduceMul, Nat.reduceDiv, Int.reduceAdd, Int.reduceNeg, Int.reduceEq, Int.reduceLT, Int.reduceLE]; try simp (disch := omega) only [decide_eq_true, decide_eq_false])) ?_
        refine wlk_reg fun KY hKY => ?_
        simp only [go_sem, reduceIte, Nat.reduceEqDiff, Nat.reduceBEq, reduceCtorEq, Nat.reduceLT, Nat.reduceLeDiff, Nat.reduceAdd, Nat.reduceSub, Nat.reduceMul, Nat.reduceDiv, Int.reduceAdd, Int.reduceNeg, Int.reduceEq, Int.reduceLT, Int.reduceLE, c_garlandlaw23_TutteParity_r13, nats_snoc, hbT]
        refine hKY _ ?_
        repeat (first | refine hn8 _ ?_ | refine he8 _ ?_ | refine hf8 _ _ (by decide) ?_ | refine hr8 _ ?_ | refine hn7 _ ?_ | refine he7 _ _ ?_ | refine hr7 _ ?_ | refine hn6 _ ?_ | refine he6 _ ?_ | refine hf6 _ _ (by decide) ?_ | refine hr6 _ ?_ | refine hn5 _ ?_ | refine he5 _ _ ?_ | refine hr5 _ ?_ | refine hn4 _ ?_ | refine he4 _ _ ?_ | refine hr4 _ ?_ | refine he3 _ _ ?_ | refine hr3 _ ?_ | refine hn2 _ ?_ | refine he2 _ ?_ | refine hf2 _ _ (by decide) ?_ | refine hr2 _ ?_ | refine hn1 _ ?_ | refine he1 _ _ ?_ | refine hr1 _ ?_)
        refine wlk_reg fun KY hKY => ?_
        simp only [go_sem, reduceIte, Nat.reduceEqDiff, Nat.reduceBEq, reduceCtorEq, Nat.reduceLT, Nat.reduceLeDiff, Nat.reduceAdd, Nat.reduceSub, Nat.reduceMul, Nat.reduceDiv, Int.reduceAdd, Int.reduceNeg, Int.reduceEq, Int.reduceLT, Int.reduceLE, c_garlandlaw23_TutteParity_r14, incS (show k < 4611686018427387904 by omega)]
        refine hKY _ ?_
        repeat (first | refine hn8 _ ?_ | refine he8 _ ?_ | refine hf8 _ _ (by decide) ?_ | refine hr8 _ ?_ | refine hn7 _ ?_ | refine he7 _ _ ?_ | refine hr7 _ ?_ | refine hn6 _ ?_ | refine he6 _ ?_ | refine hf6 _ _ (by decide) ?_ | refine hr6 _ ?_ | refine hn5 _ ?_ | refine he5 _ _ ?_ | refine hr5 _ ?_ | refine hn4 _ ?_ | refine he4 _ _ ?_ | refine hr4 _ ?_ | refine he3 _ _ ?_ | refine hr3 _ ?_ | refine hn2 _ ?_ | refine he2 _ ?_ | refine hf2 _ _ (by decide) ?_ | refine hr2 _ ?_ | refine hn1 _ ?_ | refine he1 _ _ ?_ | refine hr1 _ ?_)
        refine hn3 _ ((k + 1, S, T ++ [k])) (N - (k + 1)) (by omega) (by first | (simp only [go_sem, reduceIte, Nat.reduceEqDiff, Nat.reduceBEq, reduceCtorEq, Nat.reduceLT, Nat.reduceLeDiff, Nat.reduceAdd, Nat.reduceSub, Nat.reduceMul, Nat.reduceDiv, Int.reduceAdd, Int.reduceNeg, Int.reduceEq, Int.reduceLT, Int.reduceLE, updAll_cons, updAll_nil]; done) | with_reducible rfl) ?_
        exact ⟨hk2, rfl, pt_t hP⟩
      · refine wlk_sreg fun KY hKY => ?_
        simp only [go_sem, reduceIte, Nat.reduceEqDiff, Nat.reduceBEq, reduceCtorEq, Nat.reduceLT, Nat.reduceLeDiff, Nat.reduceAdd, Nat.reduceSub, Nat.reduceMul, Nat.reduceDiv, Int.reduceAdd, Int.reduceNeg, Int.reduceEq, Int.reduceLT, Int.reduceLE, c_garlandlaw23_TutteParity_r10]
        refine hKY _ ?_
        refine wlk_cond0 (by first | rfl | (simp only [go_sem, reduceIte, Nat.reduceEqDiff, Nat.reduceBEq, reduceCtorEq, Nat.reduceLT, Nat.reduceLeDiff, Nat.reduceAdd, Nat.reduceSub, Nat.reduceMul, Nat.reduceDiv, Int.reduceAdd, Int.reduceNeg, Int.reduceEq, Int.reduceLT, Int.reduceLE]; try simp (disch := omega) only [decide_eq_true, decide_eq_false])) ?_
        refine wlk_sreg fun KY hKY => ?_
        simp only [go_sem, reduceIte, Nat.reduceEqDiff, Nat.reduceBEq, reduceCtorEq, Nat.reduceLT, Nat.reduceLeDiff, Nat.reduceAdd, Nat.reduceSub, Nat.reduceMul, Nat.reduceDiv, Int.reduceAdd, Int.reduceNeg, Int.reduceEq, Int.reduceLT, Int.reduceLE, c_garlandlaw23_TutteParity_r12]
        refine hKY _ ?_
        refine wlk_cond0 (by first | rfl | (simp only [go_sem, reduceIte, Nat.reduceEqDiff, Nat.reduceBEq, reduceCtorEq, Nat.reduceLT, Nat.reduceLeDiff, Nat.reduceAdd, Nat.reduceSub, Nat.reduceMul, Nat.reduceDiv, Int.reduceAdd, Int.reduceNeg, Int.reduceEq, Int.reduceLT, Int.reduceLE]; try simp (disch := omega) only [decide_eq_true, decide_eq_false])) ?_
        refine wlk_skip ?_
        repeat (first | refine hn8 _ ?_ | refine he8 _ ?_ | refine hf8 _ _ (by decide) ?_ | refine hr8 _ ?_ | refine hn7 _ ?_ | refine he7 _ _ ?_ | refine hr7 _ ?_ | refine hn6 _ ?_ | refine he6 _ ?_ | refine hf6 _ _ (by decide) ?_ | refine hr6 _ ?_ | refine hn5 _ ?_ | refine he5 _ _ ?_ | refine hr5 _ ?_ | refine hn4 _ ?_ | refine he4 _ _ ?_ | refine hr4 _ ?_ | refine he3 _ _ ?_ | refine hr3 _ ?_ | refine hn2 _ ?_ | refine he2 _ ?_ | refine hf2 _ _ (by decide) ?_ | refine hr2 _ ?_ | refine hn1 _ ?_ | refine he1 _ _ ?_ | refine hr1 _ ?_)
        refine wlk_reg fun KY hKY => ?_
        simp only [go_sem, reduceIte, Nat.reduceEqDiff, Nat.reduceBEq, reduceCtorEq, Nat.reduceLT, Nat.reduceLeDiff, Nat.reduceAdd, Nat.reduceSub, Nat.reduceMul, Nat.reduceDiv, Int.reduceAdd, Int.reduceNeg, Int.reduceEq, Int.reduceLT, Int.reduceLE, c_garlandlaw23_TutteParity_r14, incS (show k < 4611686018427387904 by omega)]
        refine hKY _ ?_
        repeat (first | refine hn8 _ ?_ | refine he8 _ ?_ | refine hf8 _ _ (by decide) ?_ | refine hr8 _ ?_ | refine hn7 _ ?_ | refine he7 _ _ ?_ | refine hr7 _ ?_ | refine hn6 _ ?_ | refine he6 _ ?_ | refine hf6 _ _ (by decide) ?_ | refine hr6 _ ?_ | refine hn5 _ ?_ | refine he5 _ _ ?_ | refine hr5 _ ?_ | refine hn4 _ ?_ | refine he4 _ _ ?_ | refine hr4 _ ?_ | refine he3 _ _ ?_ | refine hr3 _ ?_ | refine hn2 _ ?_ | refine he2 _ ?_ | refine hf2 _ _ (by decide) ?_ | refine hr2 _ ?_ | refine hn1 _ ?_ | refine he1 _ _ ?_ | refine hr1 _ ?_)
        refine hn3 _ ((k + 1, S, T)) (N - (k + 1)) (by omega) (by first | (simp only [go_sem, reduceIte, Nat.reduceEqDiff, Nat.reduceBEq, reduceCtorEq, Nat.reduceLT, Nat.reduceLeDiff, Nat.reduceAdd, Nat.reduceSub, Nat.reduceMul, Nat.reduceDiv, Int.reduceAdd, Int.reduceNeg, Int.reduceEq, Int.reduceLT, Int.reduceLE, updAll_cons, updAll_nil]; done) | with_reducible rfl) ?_
        exact ⟨hk2, rfl, pt_skip hP⟩
    · refine wlk_sreg fun KY hKY => ?_
      simp only [go_sem, reduceIte, Nat.reduceEqDiff, Nat.reduceBEq, reduceCtorEq, Nat.reduceLT, Nat.reduceLeDiff, Nat.reduceAdd, Nat.reduceSub, Nat.reduceMul, Nat.reduceDiv, Int.reduceAdd, Int.reduceNeg, Int.reduceEq, Int.reduceLT, Int.reduceLE, c_garlandlaw23_TutteParity_r8, ints_len]
      refine hKY _ ?_
      refine wlk_cond1 (by first | rfl | (simp only [go_sem, reduceIte, Nat.reduceEqDiff, Nat.reduceBEq, reduceCtorEq, Nat.reduceLT, Nat.reduceLeDiff, Nat.reduceAdd, Nat.reduceSub, Nat.reduceMul, Nat.reduceDiv, Int.reduceAdd, Int.reduceNeg, Int.reduceEq, Int.reduceLT, Int.reduceLE]; try simp (disch := omega) only [decide_eq_true, decide_eq_false])) ?_
      refine wlk_exit ?_
      repeat (first | refine hn7 _ ?_ | refine he7 _ _ ?_ | refine hr7 _ ?_ | refine hn6 _ ?_ | refine he6 _ ?_ | refine hf6 _ _ (by decide) ?_ | refine hr6 _ ?_ | refine hn5 _ ?_ | refine he5 _ _ ?_ | refine hr5 _ ?_ | refine hn4 _ ?_ | refine he4 _ _ ?_ | refine hr4 _ ?_ | refine he3 _ _ ?_ | refine hr3 _ ?_ | refine hn2 _ ?_ | refine he2 _ ?_ | refine hf2 _ _ (by decide) ?_ | refine hr2 _ ?_ | refine hn1 _ ?_ | refine he1 _ _ ?_ | refine hr1 _ ?_)
      refine wlk_reg fun KY hKY => ?_
      simp only [go_sem, reduceIte, Nat.reduceEqDiff, Nat.reduceBEq, reduceCtorEq, Nat.reduceLT, Nat.reduceLeDiff, Nat.reduceAdd, Nat.reduceSub, Nat.reduceMul, Nat.reduceDiv, Int.reduceAdd, Int.reduceNeg, Int.reduceEq, Int.reduceLT, Int.reduceLE, c_garlandlaw23_TutteParity_r14, incS (show k < 4611686018427387904 by omega)]
      refine hKY _ ?_
      repeat (first | refine hn7 _ ?_ | refine he7 _ _ ?_ | refine hr7 _ ?_ | refine hn6 _ ?_ | refine he6 _ ?_ | refine hf6 _ _ (by decide) ?_ | refine hr6 _ ?_ | refine hn5 _ ?_ | refine he5 _ _ ?_ | refine hr5 _ ?_ | refine hn4 _ ?_ | refine he4 _ _ ?_ | refine hr4 _ ?_ | refine he3 _ _ ?_ | refine hr3 _ ?_ | refine hn2 _ ?_ | refine he2 _ ?_ | refine hf2 _ _ (by decide) ?_ | refine hr2 _ ?_ | refine hn1 _ ?_ | refine he1 _ _ ?_ | refine hr1 _ ?_)
      refine hn3 _ ((k + 1, S, T)) (N - (k + 1)) (by omega) (by first | (simp only [go_sem, reduceIte, Nat.reduceEqDiff, Nat.reduceBEq, reduceCtorEq, Nat.reduceLT, Nat.reduceLeDiff, Nat.reduceAdd, Nat.reduceSub, Nat.reduceMul, Nat.reduceDiv, Int.reduceAdd, Int.reduceNeg, Int.reduceEq, Int.reduceLT, Int.reduceLE, updAll_cons, updAll_nil]; done) | with_reducible rfl) ?_
      exact ⟨hk2, rfl, pt_skip hP⟩
  · refine wlk_sreg fun KY hKY => ?_
    simp only [go_sem, reduceIte, Nat.reduceEqDiff, Nat.reduceBEq, reduceCtorEq, Nat.reduceLT, Nat.reduceLeDiff, Nat.reduceAdd, Nat.reduceSub, Nat.reduceMul, Nat.reduceDiv, Int.reduceAdd, Int.reduceNeg, Int.reduceEq, Int.reduceLT, Int.reduceLE, c_garlandlaw23_TutteParity_r6]
    refine hKY _ ?_
    refine wlk_cond0 (by first | rfl | (simp only [go_sem, reduceIte, Nat.reduceEqDiff, Nat.reduceBEq, reduceCtorEq, Nat.reduceLT, Nat.reduceLeDiff, Nat.reduceAdd, Nat.reduceSub, Nat.reduceMul, Nat.reduceDiv, Int.reduceAdd, Int.reduceNeg, Int.reduceEq, Int.reduceLT, Int.reduceLE]; try simp (disch := omega) only [decide_eq_true, decide_eq_false])) ?_
    refine wlk_exit ?_
    repeat (first | refine hn4 _ ?_ | refine he4 _ _ ?_ | refine hr4 _ ?_ | refine he3 _ _ ?_ | refine hr3 _ ?_ | refine hn2 _ ?_ | refine he2 _ ?_ | refine hf2 _ _ (by decide) ?_ | refine hr2 _ ?_ | refine hn1 _ ?_ | refine he1 _ _ ?_ | refine hr1 _ ?_)
    obtain rfl : k = N := by omega
    have hgr : rightB (k : Int) (castE es) = true := rightB_GR g
    have hdB : degsB (k : Int) fs = true := by
      unfold degsB
      rw [Bool.and_eq_true, decide_eq_true_iff, List.all_eq_true]
      refine ⟨by rw [hD.1], fun x hx => ?_⟩
      have := hfs x hx
      rw [Bool.and_eq_true, decide_eq_true_iff, decide_eq_true_iff]; omega
    have hT0 : tErr (k : Int) (castE es) fs = 0 := by simp only [tErr, hgr, hdB, cond_true]
    obtain ⟨hSl, hTl⟩ := pt_lens hP
    refine sem_freeze [0, 11, 0] (by simp only [go_sem, reduceIte, Nat.reduceEqDiff, Nat.reduceBEq, reduceCtorEq, Nat.reduceLT, Nat.reduceLeDiff, Nat.reduceAdd, Nat.reduceSub, Nat.reduceMul, Nat.reduceDiv, Int.reduceAdd, Int.reduceNeg, Int.reduceEq, Int.reduceLT, Int.reduceLE]; rfl) ?_
    simp only [go_sem, reduceIte, Nat.reduceEqDiff, Nat.reduceBEq, reduceCtorEq, Nat.reduceLT, Nat.reduceLeDiff, Nat.reduceAdd, Nat.reduceSub, Nat.reduceMul, Nat.reduceDiv, Int.reduceAdd, Int.reduceNeg, Int.reduceEq, Int.reduceLT, Int.reduceLE]
    refine sem_freeze [0, 11, 1] (by simp only [go_sem, reduceIte, Nat.reduceEqDiff, Nat.reduceBEq, reduceCtorEq, Nat.reduceLT, Nat.reduceLeDiff, Nat.reduceAdd, Nat.reduceSub, Nat.reduceMul, Nat.reduceDiv, Int.reduceAdd, Int.reduceNeg, Int.reduceEq, Int.reduceLT, Int.reduceLE]; rfl) ?_
    simp only [go_sem, reduceIte, Nat.reduceEqDiff, Nat.reduceBEq, reduceCtorEq, Nat.reduceLT, Nat.reduceLeDiff, Nat.reduceAdd, Nat.reduceSub, Nat.reduceMul, Nat.reduceDiv, Int.reduceAdd, Int.reduceNeg, Int.reduceEq, Int.reduceLT, Int.reduceLE]
    refine wlk_sreg fun KY hKY => ?_
    simp only [go_sem, reduceIte, Nat.reduceEqDiff, Nat.reduceBEq, reduceCtorEq, Nat.reduceLT, Nat.reduceLeDiff, Nat.reduceAdd, Nat.reduceSub, Nat.reduceMul, Nat.reduceDiv, Int.reduceAdd, Int.reduceNeg, Int.reduceEq, Int.reduceLT, Int.reduceLE, c_garlandlaw23_TutteParity_r15]
    refine call_view rfl (by simp only [go_sem, reduceIte, Nat.reduceEqDiff, Nat.reduceBEq, reduceCtorEq, Nat.reduceLT, Nat.reduceLeDiff, Nat.reduceAdd, Nat.reduceSub, Nat.reduceMul, Nat.reduceDiv, Int.reduceAdd, Int.reduceNeg, Int.reduceEq, Int.reduceLT, Int.reduceLE] <;> rfl) ((lack_ok g fs S T hfl hfs hP.sb hP.tb hSl hTl hT0 (pt_ok hP)).mono ?_)
    rintro rr hh ⟨⟨ps, hps, rfl⟩, rfl⟩
    refine ⟨?_, ?_, ?_, ?_⟩
    iterate 3 (first | rfl | simp only [go_sem, reduceIte, Nat.reduceEqDiff, Nat.reduceBEq, reduceCtorEq, Nat.reduceLT, Nat.reduceLeDiff, Nat.reduceAdd, Nat.reduceSub, Nat.reduceMul, Nat.reduceDiv, Int.reduceAdd, Int.reduceNeg, Int.reduceEq, Int.reduceLT, Int.reduceLE])
    simp only [go_sem, reduceIte, Nat.reduceEqDiff, Nat.reduceBEq, reduceCtorEq, Nat.reduceLT, Nat.reduceLeDiff, Nat.reduceAdd, Nat.reduceSub, Nat.reduceMul, Nat.reduceDiv, Int.reduceAdd, Int.reduceNeg, Int.reduceEq, Int.reduceLT, Int.reduceLE]
    refine hKY _ ?_
    have hpar := lack_parity (f := fun v => fs.getD v 0) (xE_symm g) (xE_self g) (pt_perm hP hps)
    rw [← pt_lackW g fs hP hps] at hpar
    have hsum : s1 (fun v => fs.getD v 0) (List.range k) = sumAt fs (List.range k) := rfl
    rw [hsum] at hpar
    have hev := wrap_even (x := lackW k es fs S T ps - sumAt fs (List.range k)) (by omega)
    refine wlk_sreg fun KY hKY => ?_
    simp only [go_sem, reduceIte, Nat.reduceEqDiff, Nat.reduceBEq, reduceCtorEq, Nat.reduceLT, Nat.reduceLeDiff, Nat.reduceAdd, Nat.reduceSub, Nat.reduceMul, Nat.reduceDiv, Int.reduceAdd, Int.reduceNeg, Int.reduceEq, Int.reduceLT, Int.reduceLE, c_garlandlaw23_TutteParity_r16]
    refine call_view rfl (by simp only [go_sem, reduceIte, Nat.reduceEqDiff, Nat.reduceBEq, reduceCtorEq, Nat.reduceLT, Nat.reduceLeDiff, Nat.reduceAdd, Nat.reduceSub, Nat.reduceMul, Nat.reduceDiv, Int.reduceAdd, Int.reduceNeg, Int.reduceEq, Int.reduceLT, Int.reduceLE] <;> rfl) ((awake23_ok).mono ?_)
    rintro rr hh ⟨rfl, rfl⟩
    refine ⟨rfl, rfl, rfl, ?_⟩
    simp only [go_sem, reduceIte, Nat.reduceEqDiff, Nat.reduceBEq, reduceCtorEq, Nat.reduceLT, Nat.reduceLeDiff, Nat.reduceAdd, Nat.reduceSub, Nat.reduceMul, Nat.reduceDiv, Int.reduceAdd, Int.reduceNeg, Int.reduceEq, Int.reduceLT, Int.reduceLE, hev]
    refine hKY _ ?_
    refine wlk_ret ?_
    repeat (first | refine hn4 _ ?_ | refine he4 _ _ ?_ | refine hr4 _ ?_ | refine he3 _ _ ?_ | refine hr3 _ ?_ | refine hn2 _ ?_ | refine he2 _ ?_ | refine hf2 _ _ (by decide) ?_ | refine hr2 _ ?_ | refine hn1 _ ?_ | refine he1 _ _ ?_ | refine hr1 _ ?_)
    simp only [go_sem, reduceIte, Nat.reduceEqDiff, Nat.reduceBEq, reduceCtorEq, Nat.reduceLT, Nat.reduceLeDiff, Nat.reduceAdd, Nat.reduceSub, Nat.reduceMul, Nat.reduceDiv, Int.reduceAdd, Int.reduceNeg, Int.reduceEq, Int.reduceLT, Int.reduceLE]
end Go.Proofs.Ytepjcfbigcfkfaa
namespace Go.Proofs.Ytepjcfbigcfkfaa
open Go Go.Ga Go.Ga.Gl
theorem tutteParity_all (As : List AVal) (b : Nat) (h : SAs Try.prog Try.f3.params.toList As b) (hb : b ≤ 1048576) : ACalls Try.prog [] 3 As [] fun r _ => r = .sc (.bool true) := by
  rw [Try.params3] at h
  obtain ⟨A1, As1, c1, d1, rfl, rfl, h1, h⟩ := sas_cons h
  obtain ⟨A2, As2, c2, d2, rfl, rfl, h2, h⟩ := sas_cons h
  obtain ⟨A3, As3, c3, d3, rfl, rfl, h3, h⟩ := sas_cons h
  obtain ⟨A4, As4, c4, d4, rfl, rfl, h4, h⟩ := sas_cons h
  obtain rfl := sas_nil h
  obtain ⟨x1, rfl, w1⟩ := sa_int Try.underlying3 h1
  obtain ⟨x2, rfl, w2, e2⟩ := sa_ints Try.underlying22 Try.underlying3 (by kernel_rfl) h2
  obtain ⟨x3, rfl, w3, e3⟩ := sa_ints Try.underlying22 Try.underlying3 (by kernel_rfl) h3
  obtain ⟨x4, rfl, w4, e4⟩ := sa_ints Try.underlying22 Try.underlying3 (by kernel_rfl) h4
  exact (tparity_ok x1 x2 x3 x4 (by omega) (by omega) (by omega)).mono fun _ _ h => h.1
end Go.Proofs.Ytepjcfbigcfkfaa
namespace Go.Proofs.Ytepjcfbigcfkfaa.tutteParityend
open Go Go.Ga Go.ChangeShapes Go.WideShapes Go.ChangeAt Go.RowKit
theorem own : ownKnob Try.prog.godebug = none := by kernel_rfl
mutual
theorem bulk_at {H : Type} : ∀ d : DataW H, Rows.uptoBulk d = bulk d
  | .lit l => by cases l <;> simp [Rows.uptoBulk, bulk]
  | .nil => by simp [Rows.uptoBulk, bulk]
  | .ptr d => by simp [Rows.uptoBulk, bulk, bulk_at d]
  | .slice e s => by simp [Rows.uptoBulk, bulk, bulk_eq e, bulk_eq s]
  | .agg p => by simp [Rows.uptoBulk, bulk, bulk_eq p]
  | .iface _ d => by simp [Rows.uptoBulk, bulk, bulk_at d]
  | .map e => by simp [Rows.uptoBulk, bulk, bulk_es e]
  | .held _ => by simp [Rows.uptoBulk, bulk]
theorem bulk_eq {H : Type} : ∀ l : List (DataW H), Rows.uptoBulkAll l = bulkL l
  | [] => by simp [Rows.uptoBulkAll, bulkL]
  | d :: r => by simp [Rows.uptoBulkAll, bulkL, bulk_at d, bulk_eq r]
theorem bulk_es {H : Type} : ∀ l : List (Lit × DataW H), Rows.uptoBulkEntries l = bulkE l
  | [] => by simp [Rows.uptoBulkEntries, bulkE]
  | d :: r => by simp [Rows.uptoBulkEntries, bulkE, bulk_e d, bulk_es r]
theorem bulk_e {H : Type} : ∀ d : Lit × DataW H, Rows.uptoBulkEntry d = bulk1 d
  | (l, d) => by cases l <;> simp [Rows.uptoBulkEntry, bulk1, bulk_at d]
end
set_option maxRecDepth 100000 in
theorem plain : Plain Try.prog [3, 22] := plain_of (by kernel_rfl)
set_option maxRecDepth 100000 in
theorem contract (H : Type) (enc : TypeId × Value → H) (W : World) (base : Nat) (args : Array Value) (ds gs : List (DataW H)) (before : List MemPlace)
    (hval : ∀ (j : Nat) t v, Try.f3.params[j]? = some t → args[j]? = some v → Value.okWide Try.prog W .any base t v)
    (hW : DataW.Whole enc Try.prog Try.f3.params.toList Rows.tutteParitySpec.vars false W args.toList ds gs before) (hk : Rows.uptoSmall H (ds ++ gs) = true) :
    Calls Try.prog 3 args W fun e W' => ∃ v, e = .returned v ∧ Rows.tutteParitySpec.post enc Try.prog Try.f3 false true false false W args v W' := by
  have hW' := hW
  obtain ⟨p, q, hA, hV, rfl, hfz, hnd⟩ := hW
  obtain ⟨rfl, rfl⟩ := Go.Ga.trodVars_nil hV
  have hb : bulkL (ds ++ []) ≤ 1048576 := by rw [← bulk_eq]; exact of_decide_eq_true hk
  have r0 : DataW.TrodAll enc Try.prog W 0 (fun _ => true) true Try.f3.params.toList args.toList ds p := hA
  rw [Try.params3] at r0
  obtain ⟨v0, vs0, d0, ds0, p0, q0, hv0, rfl, rfl, h0, r1⟩ := trodAll_cons r0
  obtain ⟨v1, vs1, d1, ds1, p1, q1, hv1, rfl, rfl, h1, r2⟩ := trodAll_cons r1
  obtain ⟨v2, vs2, d2, ds2, p2, q2, hv2, rfl, rfl, h2, r3⟩ := trodAll_cons r2
  obtain ⟨v3, vs3, d3, ds3, p3, q3, hv3, rfl, rfl, h3, r4⟩ := trodAll_cons r3
  obtain ⟨rfl, rfl, rfl⟩ := trodAll_nil r4
  exact contract_true plain hval (by rw [Try.params3]; decide) hW' rfl rfl rfl rfl (tb := 4) (by kernel_rfl) Try.underlying4 hb tutteParity_all
set_option maxRecDepth 100000 in
theorem lifted (os : Os) (started : os.Started) (H : Type) (enc : TypeId × Value → H) (F : Stop.Interp) :
    ReturnsInHanded {} Try.checked os 3 .any ((Rows.OpenSpec.upto Rows.tutteParitySpec).pre6 enc Try.prog Try.f3 Rows.tutteParityUptoRow.domain false) (((Rows.OpenSpec.upto Rows.tutteParitySpec).at F).post enc Try.prog Try.f3 false true false false) := by
  refine returnsInHanded_of_cond (C := Try.checked) (s := Rows.OpenSpec.upto Rows.tutteParitySpec) (k := Rows.uptoSmall) rfl own started (by kernel_rfl) Try.func3
    (OpenSpec.witness (enc := enc) (C := Try.checked) (s := Rows.OpenSpec.upto Rows.tutteParitySpec) (k := Rows.uptoSmall) rfl false ⟨#[], #[.int .i64 0, .slice none 0 0, .slice none 0 0, .slice none 0 0], []⟩ 8 (by kernel_rfl) (by kernel_rfl) (by kernel_rfl)
      (x := ([.lit (.int .i64 0), .nil, .nil, .nil], [], [])) (by kernel_rfl) rfl (by kernel_rfl)) ?_
  intro W base args ds gs before hval hW _ hk _
  exact contract H enc W base args ds gs before hval hW hk
theorem holds : Rows.TutteParityUptoSaid :=
  OpenClaim.holds_of_cond 3 Try.f3 rfl rfl rfl rfl rfl rfl rfl ⟨rfl, rfl, rfl, rfl, rfl⟩ rfl rfl rfl rfl rfl (by kernel_rfl) Try.func3 (by kernel_rfl)
    (of_decide_eq_true (by kernel_rfl)) (by unfold Func.isWrapper; first | (rw [if_pos (by decide +kernel)]; kernel_rfl) | (rw [if_neg (by decide +kernel)]; exact ⟨rfl, rfl⟩))
    (fun os started H enc _ F => lifted os started H enc F)
end Go.Proofs.Ytepjcfbigcfkfaa.tutteParityend
