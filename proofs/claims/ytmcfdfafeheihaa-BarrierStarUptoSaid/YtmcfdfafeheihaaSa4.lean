/- The middle of a star lacks all but one of its leaves; without it nothing is lacked but a parity; one edge is all that matches; what is twice, or no vertex, is refused. -/
import Derived.Test.YtmcfdfafeheihaaSa3
import Derived.Test.YtmcfdfafeheihaaGlhbfno5
import Derived.WalkKit
import Derived.ProofKit
import Derived.OpenShut
import Derived.JoinedCond
set_option linter.all false
set_option maxRecDepth 100000
set_option maxHeartbeats 4000000
namespace Go.Proofs.Ytmcfdfafeheihaa
open Go Go.Ga Go.Ga.Gl
def seenL (N : Nat) (b : List Int) : List Bool := (List.range N).map fun v : Nat => decide ((v : Int) ∈ b)
theorem seenL_len (N : Nat) (b : List Int) : (seenL N b).length = N := by simp [seenL]
theorem seenL_get {N : Nat} (b : List Int) {v : Nat} (h : v < N) : (seenL N b).getD v false = decide ((v : Int) ∈ b) := by simp [seenL, h]
theorem seenL_set {N : Nat} (b : List Int) (v : Nat) : (seenL N b).set v true = seenL N (b ++ [(v : Int)]) := by
 apply List.ext_getElem
 · simp [seenL]
 · intro i h1 h2
   simp only [seenL, List.getElem_set, List.getElem_map, List.getElem_range]
   by_cases h : v = i
   · subst h; simp
   · rw [if_neg h]
     congr 1
     simp [show ¬ (i : Int) = v by omega]
theorem inB {n : Int} {b : List Int} {k : Nat} (h : k < b.length) (hf : ¬ (0 ≤ b.getD k 0 ∧ b.getD k 0 < n)) : (b.all fun v => decide (0 ≤ v) && decide (v < n)) = false := by
 rw [Bool.eq_false_iff]; intro h'
 rw [List.all_eq_true] at h'
 have := h' (b.getD k 0) (by rw [List.getD_eq_getElem?_getD, List.getElem?_eq_getElem h]; exact List.getElem_mem h)
 rw [Bool.and_eq_true, decide_eq_true_iff, decide_eq_true_iff] at this
 exact hf this
theorem inB_all {n : Int} {b : List Int} (h : ∀ k, k < b.length → 0 ≤ b.getD k 0 ∧ b.getD k 0 < n) : (b.all fun v => decide (0 ≤ v) && decide (v < n)) = true := by
 rw [List.all_eq_true]
 intro x hx
 obtain ⟨i, hi, rfl⟩ := List.mem_iff_getElem.1 hx
 have := h i hi
 rw [List.getD_eq_getElem?_getD, List.getElem?_eq_getElem hi] at this
 rw [Bool.and_eq_true, decide_eq_true_iff, decide_eq_true_iff]; exact this
theorem take_getD {b : List Int} {k : Nat} (h : k < b.length) : b.take (k + 1) = b.take k ++ [b.getD k 0] := by
 rw [List.take_add_one, List.getElem?_eq_getElem h, List.getD_eq_getElem?_getD, List.getElem?_eq_getElem h]; rfl
theorem nodup_no {b : List Int} {k : Nat} (h : k < b.length) (hm : b.getD k 0 ∈ b.take k) : ¬ b.Nodup := fun hn => by
 have h1 : (b.take (k + 1)).Nodup := hn.sublist (List.take_sublist _ _)
 rw [take_getD h, List.nodup_append] at h1
 exact h1.2.2 _ hm _ (List.mem_singleton.2 rfl) rfl
theorem nodup_yes {b : List Int} {k : Nat} (h : k < b.length) (hn : (b.take k).Nodup) (hm : b.getD k 0 ∉ b.take k) : (b.take (k + 1)).Nodup := by
 rw [take_getD h, List.nodup_append]
 refine ⟨hn, List.nodup_cons.2 ⟨by simp, List.nodup_nil⟩, fun a ha c hc e => ?_⟩
 rw [List.mem_singleton] at hc
 subst hc; subst e; exact hm ha
theorem black_ok (n : Int) (es : List (Int × Int)) (b : List Int) (hb : b.length ≤ 1000000) : ACalls Try.prog [] n_f11 [.agg [.sc (.int .i64 n), .imm 2 (twos es)], .imm 1 (ints b)] [] fun r h' => (∃ x e, BP n es b x e ∧ r = .tup [.sc (.int .i64 x), .sc (.int .i64 e)]) ∧ h' = [] := by
 refine ACalls.trim ?_
 cases hr : rightB n es with
 | false =>
   have he : bErr n es b = 3 := by simp [bErr, hr]
   refine go_f11 rfl ?_
   unfold c_f11 v_f11
   refine wlk_sreg fun KY hKY => ?_
   simp only [go_sem, c_f11_r0]
   refine hKY _ ?_
   refine wlk_seq fun X1 hn1 he1 hr1 => ?_
   refine wlk_sreg fun KY hKY => ?_
   simp only [go_sem, c_f11_r1]
   refine call_view rfl (by simp only [go_sem] <;> rfl) ((right_ok n es).mono ?_)
   rintro rr hh ⟨rfl, rfl⟩
   refine ⟨rfl, rfl, rfl, ?_⟩
   simp only [go_sem, hr]
   refine hKY _ ?_
   refine wlk_cond1 (by first | rfl | (simp only [go_sem]; try simp (disch := omega) only [decide_eq_true, decide_eq_false])) ?_
   refine wlk_sreg fun KY hKY => ?_
   simp only [go_sem, c_f11_r2]
   refine hKY _ ?_
   refine wlk_ret ?_
   repeat (first | refine hr1 _ ?_)
   simp only [go_sem]
   exact ⟨0, 3, .inl ⟨by rw [he]; decide, rfl, he.symm⟩, rfl⟩
 | true =>
 obtain ⟨N, es, rfl, rfl, g⟩ := right_nat hr
 have hN := g.hn
 refine go_f11 rfl ?_
 unfold c_f11 v_f11
 refine wlk_sreg fun KY hKY => ?_
 simp only [go_sem, c_f11_r0]
 refine hKY _ ?_
 refine wlk_seq fun X2 hn2 he2 hr2 => ?_
 refine wlk_sreg fun KY hKY => ?_
 simp only [go_sem, c_f11_r1]
 refine call_view rfl (by simp only [go_sem] <;> rfl) ((right_ok N (castE es)).mono ?_)
 rintro rr hh ⟨rfl, rfl⟩
 refine ⟨rfl, rfl, rfl, ?_⟩
 simp only [go_sem, hr]
 refine hKY _ ?_
 refine wlk_cond0 (by first | rfl | (simp only [go_sem]; try simp (disch := omega) only [decide_eq_true, decide_eq_false])) ?_
 refine wlk_skip ?_
 repeat (first | refine hn2 _ ?_ | refine he2 _ _ ?_)
 refine wlk_seq fun X3 hn3 he3 hr3 => ?_
 refine wlk_sreg fun KY hKY => ?_
 simp only [go_sem, c_f11_r3, ints_len]
 refine hKY _ ?_
 refine wlk_blk fun X4 hn4 he4 hf4 hr4 => ?_
 try simp only [go_sem]
 refine wlk_lp (α := Nat) [7, 17, 27] (fun k => [(16, .sc (.int .i64 (k : Int)))]) (fun k => []) (fun k q => k ≤ b.length ∧ q = b.length - k ∧ (∀ j, j < k → 0 ≤ b.getD j 0 ∧ b.getD j 0 < N)) (0) (b.length) rfl (by first | (simp only [go_sem, updAll_cons, updAll_nil]; done) | with_reducible rfl | rfl) (⟨by omega, rfl, fun j h => by omega⟩) ?_
 rintro k q ⟨hk, rfl, hz⟩ X5 hn5 he5 hr5
 simp only [go_sem, updAll_cons, updAll_nil]
 rcases Nat.lt_or_ge k b.length with hk2 | hk2
 · have hdy : decide ((k : Int) < (b.length : Int)) = true := decide_eq_true (by omega)
   refine wlk_sreg fun KY hKY => ?_
   simp only [go_sem, c_f11_r4, hdy]
   refine hKY _ ?_
   refine wlk_seq fun X6 hn6 he6 hr6 => ?_
   refine wlk_cond1 (by first | rfl | (simp only [go_sem]; try simp (disch := omega) only [decide_eq_true, decide_eq_false])) ?_
   refine wlk_skip ?_
   repeat (first | refine hn6 _ ?_ | refine he6 _ _ ?_ | refine he5 _ _ ?_ | refine hn4 _ ?_ | refine he4 _ ?_ | refine hf4 _ _ (by decide) ?_ | refine hn3 _ ?_ | refine he3 _ _ ?_ | refine hn2 _ ?_ | refine he2 _ _ ?_)
   refine wlk_seq fun X7 hn7 he7 hr7 => ?_
   refine wlk_blk fun X8 hn8 he8 hf8 hr8 => ?_
   refine wlk_sreg fun KY hKY => ?_
   simp only [go_sem, c_f11_r5, ints_get hk2, hk2, ints_len]
   refine hKY _ ?_
   by_cases h1 : b.getD k 0 < 0
   · have d1 : decide (b.getD k 0 < 0) = true := decide_eq_true h1
     have he : bErr N (castE es) b = 4 := by simp only [bErr, hr, inB hk2 (n := (N : Int)) (by omega), cond_true, cond_false]
     refine wlk_sreg fun KY hKY => ?_
     simp only [go_sem, c_f11_r6, d1]
     refine hKY _ ?_
     refine wlk_cond1 (by first | rfl | (simp only [go_sem]; try simp (disch := omega) only [decide_eq_true, decide_eq_false])) ?_
     refine wlk_sreg fun KY hKY => ?_
     simp only [go_sem, c_f11_r7]
     refine hKY _ ?_
     refine wlk_ret ?_
     repeat (first | refine hr8 _ ?_ | refine hr7 _ ?_ | refine hr6 _ ?_ | refine hr5 _ ?_ | refine hr4 _ ?_ | refine hr3 _ ?_ | refine hr2 _ ?_)
     simp only [go_sem]
     exact ⟨0, 4, .inl ⟨by rw [he]; decide, rfl, he.symm⟩, rfl⟩
   · have d1 : decide (b.getD k 0 < 0) = false := decide_eq_false h1
     by_cases h2 : (N : Int) ≤ b.getD k 0
     · have d2 : decide ((N : Int) ≤ b.getD k 0) = true := decide_eq_true h2
       have he : bErr N (castE es) b = 4 := by simp only [bErr, hr, inB hk2 (n := (N : Int)) (by omega), cond_true, cond_false]
       refine wlk_sreg fun KY hKY => ?_
       simp only [go_sem, c_f11_r6, d1, d2]
       refine hKY _ ?_
       refine wlk_cond1 (by first | rfl | (simp only [go_sem]; try simp (disch := omega) only [decide_eq_true, decide_eq_false])) ?_
       refine wlk_sreg fun KY hKY => ?_
       simp only [go_sem, c_f11_r7]
       refine hKY _ ?_
       refine wlk_ret ?_
       repeat (first | refine hr8 _ ?_ | refine hr7 _ ?_ | refine hr6 _ ?_ | refine hr5 _ ?_ | refine hr4 _ ?_ | refine hr3 _ ?_ | refine hr2 _ ?_)
       simp only [go_sem]
       exact ⟨0, 4, .inl ⟨by rw [he]; decide, rfl, he.symm⟩, rfl⟩
     · have d2 : decide ((N : Int) ≤ b.getD k 0) = false := decide_eq_false h2
       refine wlk_sreg fun KY hKY => ?_
       simp only [go_sem, c_f11_r6, d1, d2]
       refine hKY _ ?_
       refine wlk_cond0 (by first | rfl | (simp only [go_sem]; try simp (disch := omega) only [decide_eq_true, decide_eq_false])) ?_
       refine wlk_skip ?_
       repeat (first | refine hn8 _ ?_ | refine he8 _ ?_ | refine hf8 _ _ (by decide) ?_ | refine hn7 _ ?_ | refine he7 _ _ ?_ | refine hn6 _ ?_ | refine he6 _ _ ?_ | refine he5 _ _ ?_ | refine hn4 _ ?_ | refine he4 _ ?_ | refine hf4 _ _ (by decide) ?_ | refine hn3 _ ?_ | refine he3 _ _ ?_ | refine hn2 _ ?_ | refine he2 _ _ ?_)
       refine wlk_reg fun KY hKY => ?_
       simp only [go_sem, c_f11_r8, incS (show k < 4611686018427387904 by omega)]
       refine hKY _ ?_
       repeat (first | refine hn8 _ ?_ | refine he8 _ ?_ | refine hf8 _ _ (by decide) ?_ | refine hn7 _ ?_ | refine he7 _ _ ?_ | refine hn6 _ ?_ | refine he6 _ _ ?_)
       refine hn5 _ (k + 1) (b.length - (k + 1)) (by omega) (by first | (simp only [go_sem, updAll_cons, updAll_nil]; done) | with_reducible rfl | rfl) ?_
       refine ⟨hk2, rfl, fun j hj => ?_⟩
       rcases Nat.lt_or_ge j k with h3 | h3
       · exact hz j h3
       · obtain rfl : j = k := by omega
         exact ⟨by omega, by omega⟩
 have hdx : decide ((k : Int) < (b.length : Int)) = false := decide_eq_false (by omega)
 refine wlk_sreg fun KY hKY => ?_
 simp only [go_sem, c_f11_r4, hdx]
 refine hKY _ ?_
 refine wlk_seq fun X9 hn9 he9 hr9 => ?_
 refine wlk_cond0 (by first | rfl | (simp only [go_sem]; try simp (disch := omega) only [decide_eq_true, decide_eq_false])) ?_
 refine wlk_exit ?_
 repeat (first | refine hn9 _ ?_ | refine he9 _ _ ?_ | refine he5 _ _ ?_ | refine hn4 _ ?_ | refine he4 _ ?_ | refine hf4 _ _ (by decide) ?_ | refine hn3 _ ?_ | refine he3 _ _ ?_ | refine hn2 _ ?_ | refine he2 _ _ ?_)
 obtain rfl : k = b.length := by omega
 have hall := inB_all (n := (N : Int)) hz
 have h0 : List.replicate N false = seenL N (b.take 0) := by
  apply List.ext_getElem
  · simp [seenL]
  · intro i h1 h2; simp [seenL]
 refine wlk_sreg fun KY hKY => ?_
 simp only [go_sem, c_f11_r9, (show 1 * N ≤ 140737488355328 by omega), (show N ≤ 140737488355328 by omega), (show (N : Int) ≤ (N : Int) from Int.le_refl _), (show (N : Int) ≤ 9223372036854775807 by omega), h0]
 refine hKY _ ?_
 refine wlk_seq fun X10 hn10 he10 hr10 => ?_
 refine wlk_sreg fun KY hKY => ?_
 simp only [go_sem, c_f11_r10, ints_len]
 refine hKY _ ?_
 refine wlk_blk fun X11 hn11 he11 hf11 hr11 => ?_
 try simp only [go_sem]
 refine wlk_lp (α := Nat) [10, 35, 41] (fun k => [(8, .own (some 1) (bools (seenL N (b.take k)))), (34, .sc (.int .i64 (k : Int)))]) (fun k => []) (fun k q => k ≤ b.length ∧ q = b.length - k ∧ (b.take k).Nodup) (0) (b.length) rfl (by first | (simp only [go_sem, updAll_cons, updAll_nil]; done) | with_reducible rfl | rfl) (⟨by omega, rfl, List.nodup_nil⟩) ?_
 rintro k q ⟨hk', rfl, hnd⟩ X12 hn12 he12 hr12
 simp only [go_sem, updAll_cons, updAll_nil]
 rcases Nat.lt_or_ge k b.length with hk2 | hk2
 · have hdy : decide ((k : Int) < (b.length : Int)) = true := decide_eq_true (by omega)
   refine wlk_sreg fun KY hKY => ?_
   simp only [go_sem, c_f11_r11, hdy]
   refine hKY _ ?_
   refine wlk_seq fun X13 hn13 he13 hr13 => ?_
   refine wlk_cond1 (by first | rfl | (simp only [go_sem]; try simp (disch := omega) only [decide_eq_true, decide_eq_false])) ?_
   refine wlk_skip ?_
   repeat (first | refine hn13 _ ?_ | refine he13 _ _ ?_ | refine he12 _ _ ?_ | refine hn11 _ ?_ | refine he11 _ ?_ | refine hf11 _ _ (by decide) ?_ | refine hn10 _ ?_ | refine he10 _ _ ?_ | refine hn9 _ ?_ | refine he9 _ _ ?_)
   refine wlk_seq fun X14 hn14 he14 hr14 => ?_
   refine wlk_blk fun X15 hn15 he15 hf15 hr15 => ?_
   have hzk := hz k hk2
   have htk := take_getD hk2
   obtain ⟨v, hv⟩ : ∃ v : Nat, b.getD k 0 = v := ⟨(b.getD k 0).toNat, by omega⟩
   have hvN : v < N := by omega
   refine wlk_sreg fun KY hKY => ?_
   simp only [go_sem, c_f11_r12, ints_get hk2, hk2, ints_len]
   simp only [hv]
   refine hKY _ ?_
   have hg := bools_get (show v < (seenL N (b.take k)).length by rw [seenL_len]; omega)
   rw [seenL_get _ hvN, ← hv] at hg
   have hsl := seenL_len N (b.take k)
   refine wlk_seq fun X16 hn16 he16 hr16 => ?_
   by_cases hm : b.getD k 0 ∈ b.take k
   · rw [decide_eq_true hm] at hg
     have he : bErr N (castE es) b = 6 := by simp only [bErr, hr, hall, decide_eq_false (nodup_no hk2 hm), cond_true, cond_false]
     refine wlk_sreg fun KY hKY => ?_
     simp only [go_sem, c_f11_r13, hg, bools_len, hsl, hvN]
     refine hKY _ ?_
     refine wlk_cond1 (by first | rfl | (simp only [go_sem]; try simp (disch := omega) only [decide_eq_true, decide_eq_false])) ?_
     refine wlk_sreg fun KY hKY => ?_
     simp only [go_sem, c_f11_r14]
     refine hKY _ ?_
     refine wlk_ret ?_
     repeat (first | refine hr16 _ ?_ | refine hr15 _ ?_ | refine hr14 _ ?_ | refine hr13 _ ?_ | refine hr12 _ ?_ | refine hr11 _ ?_ | refine hr10 _ ?_ | refine hr9 _ ?_ | refine hr5 _ ?_ | refine hr4 _ ?_ | refine hr3 _ ?_ | refine hr2 _ ?_)
     simp only [go_sem]
     exact ⟨0, 6, .inl ⟨by rw [he]; decide, rfl, he.symm⟩, rfl⟩
   · rw [decide_eq_false hm] at hg
     have hst := seenL_set (N := N) (b.take k) v
     rw [← hv, ← htk] at hst
     refine wlk_sreg fun KY hKY => ?_
     simp only [go_sem, c_f11_r13, hg, bools_len, hsl, hvN]
     refine hKY _ ?_
     refine wlk_cond0 (by first | rfl | (simp only [go_sem]; try simp (disch := omega) only [decide_eq_true, decide_eq_false])) ?_
     refine wlk_skip ?_
     repeat (first | refine hn16 _ ?_ | refine he16 _ _ ?_ | refine hn15 _ ?_ | refine he15 _ ?_ | refine hf15 _ _ (by decide) ?_ | refine hn14 _ ?_ | refine he14 _ _ ?_ | refine hn13 _ ?_ | refine he13 _ _ ?_ | refine he12 _ _ ?_ | refine hn11 _ ?_ | refine he11 _ ?_ | refine hf11 _ _ (by decide) ?_ | refine hn10 _ ?_ | refine he10 _ _ ?_ | refine hn9 _ ?_ | refine he9 _ _ ?_)
     refine wlk_reg fun KY hKY => ?_
     simp only [go_sem, c_f11_r15, bools_len, hsl, hvN, hst]
     refine hKY _ ?_
     repeat (first | refine hn16 _ ?_ | refine he16 _ _ ?_ | refine hn15 _ ?_ | refine he15 _ ?_ | refine hf15 _ _ (by decide) ?_ | refine hn14 _ ?_ | refine he14 _ _ ?_ | refine hn13 _ ?_ | refine he13 _ _ ?_ | refine he12 _ _ ?_ | refine hn11 _ ?_ | refine he11 _ ?_ | refine hf11 _ _ (by decide) ?_ | refine hn10 _ ?_ | refine he10 _ _ ?_ | refine hn9 _ ?_ | refine he9 _ _ ?_)
     refine wlk_reg fun KY hKY => ?_
     simp only [go_sem, c_f11_r16, incS (show k < 4611686018427387904 by omega)]
     refine hKY _ ?_
     repeat (first | refine hn16 _ ?_ | refine he16 _ _ ?_ | refine hn15 _ ?_ | refine he15 _ ?_ | refine hf15 _ _ (by decide) ?_ | refine hn14 _ ?_ | refine he14 _ _ ?_ | refine hn13 _ ?_ | refine he13 _ _ ?_)
     refine hn12 _ (k + 1) (b.length - (k + 1)) (by omega) (by first | (simp only [go_sem, updAll_cons, updAll_nil]; done) | with_reducible rfl | rfl) ?_
     exact ⟨hk2, rfl, nodup_yes hk2 hnd hm⟩
 have hdz : decide ((k : Int) < (b.length : Int)) = false := decide_eq_false (by omega)
 refine wlk_sreg fun KY hKY => ?_
 simp only [go_sem, c_f11_r11, hdz]
 refine hKY _ ?_
 refine wlk_seq fun X17 hn17 he17 hr17 => ?_
 refine wlk_cond0 (by first | rfl | (simp only [go_sem]; try simp (disch := omega) only [decide_eq_true, decide_eq_false])) ?_
 refine wlk_exit ?_
 repeat (first | refine hn17 _ ?_ | refine he17 _ _ ?_ | refine he12 _ _ ?_ | refine hn11 _ ?_ | refine he11 _ ?_ | refine hf11 _ _ (by decide) ?_ | refine hn10 _ ?_ | refine he10 _ _ ?_ | refine hn9 _ ?_ | refine he9 _ _ ?_ | refine he5 _ _ ?_ | refine hn4 _ ?_ | refine he4 _ ?_ | refine hf4 _ _ (by decide) ?_ | refine hn3 _ ?_ | refine he3 _ _ ?_ | refine hn2 _ ?_ | refine he2 _ _ ?_)
 obtain rfl : k = b.length := by omega
 rw [List.take_length] at hnd
 have he : bErr N (castE es) b = 0 := by simp only [bErr, hr, hall, decide_eq_true hnd, cond_true]
 refine wlk_sreg fun KY hKY => ?_
 simp only [go_sem, c_f11_r17]
 refine call_view rfl (by simp only [go_sem] <;> rfl) ((lists_ok g).mono ?_)
 rintro rr hh ⟨rfl, rfl⟩
 refine ⟨?_, ?_, ?_, ?_⟩
 iterate 3 (first | rfl | simp only [go_sem])
 simp only [go_sem]
 refine call_view rfl (by simp only [go_sem] <;> rfl) ((lacks_ok g b (by omega)).mono ?_)
 rintro rr hh ⟨⟨ps, hps, rfl⟩, rfl⟩
 refine ⟨?_, ?_, ?_, ?_⟩
 iterate 3 (first | rfl | simp only [go_sem])
 simp only [go_sem]
 refine hKY _ ?_
 refine wlk_ret ?_
 repeat (first | refine hr17 _ ?_ | refine hr12 _ ?_ | refine hr11 _ ?_ | refine hr10 _ ?_ | refine hr9 _ ?_ | refine hr5 _ ?_ | refine hr4 _ ?_ | refine hr3 _ ?_ | refine hr2 _ ?_)
 simp only [go_sem]
 exact ⟨_, 0, .inr ⟨he, ps, .inl ⟨hr, N, es, rfl, rfl, g, hps⟩, rfl, rfl⟩, rfl⟩
end Go.Proofs.Ytmcfdfafeheihaa
set_option maxRecDepth 100000
set_option maxHeartbeats 4000000
namespace Go.Proofs.Ytmcfdfafeheihaa
open Go Go.Ga Go.Ga.Gl
theorem mateB_yes {N : Nat} {es : Es} (g : GR N es) {m : List Int} (h : m.length = N) : mateB N (castE es) m = (List.range N).all fun v => mOk es m v := by
 unfold mateB mOk
 rw [rightB_GR g, decide_eq_true (show (m.length : Int) = (N : Int) by omega), h]; rfl
theorem mright_ok (n : Int) (es : List (Int × Int)) (m : List Int) : ACalls Try.prog [] n_f31 [.agg [.sc (.int .i64 n), .imm 2 (twos es)], .imm 1 (ints m)] [] fun r h' => r = .sc (.bool (mateB n es m)) ∧ h' = [] := by
 cases h : (rightB n es && decide ((m.length : Int) = n)) with
 | false =>
   have : mateB n es m = false := by unfold mateB; rw [h]; rfl
   rw [this]; exact mright_no n es m h
 | true =>
   rw [Bool.and_eq_true, decide_eq_true_iff] at h
   obtain ⟨N, es', rfl, rfl, g⟩ := right_nat h.1
   rw [mateB_yes g (show m.length = N by omega)]
   exact mright_yes g m (by omega)
theorem mateB_len {n : Int} {es : List (Int × Int)} {m : List Int} (h : mateB n es m = true) : rightB n es = true ∧ (m.length : Int) = n := by
 unfold mateB at h
 rw [Bool.and_eq_true, Bool.and_eq_true, decide_eq_true_iff] at h
 exact h.1
theorem BP.bound {n : Int} {es : List (Int × Int)} {b : List Int} {x : Int} (h : BP n es b x 0) : - (b.length : Int) ≤ x ∧ x ≤ 4096 := by
 rcases h with ⟨h1, rfl, h2⟩ | ⟨_, ps, hp, rfl, _⟩
 · exact absurd h2.symm h1
 · have h1 := odd_le2 ps ps.length hp.len.1
   rw [List.take_length] at h1
   omega
def showB (n : Int) (es : List (Int × Int)) (m : List Int) (x e : Int) : Bool := decide (e = 0) && (mateB n es m && decide (2 * ((sel (upP m) m.length).length : Int) = n - x))
theorem showB_e {n : Int} {es : List (Int × Int)} {m : List Int} {x e : Int} (h : e ≠ 0) : showB n es m x e = false := by unfold showB; rw [decide_eq_false h]; rfl
theorem bshows_ok (n : Int) (es : List (Int × Int)) (m b : List Int) (hm : m.length ≤ 1000000) (hb : b.length ≤ 1000000) : ACalls Try.prog [] n_f15 [.agg [.sc (.int .i64 n), .imm 2 (twos es)], .imm 1 (ints m), .imm 1 (ints b)] [] fun r h' => (∃ x e, BP n es b x e ∧ r = .sc (.bool (showB n es m x e))) ∧ h' = [] := by
 refine ACalls.trim ?_
 have hsz := sel_len (upP m) m.length
 have hw2 : IntKind.i64.wrap (2 * ((sel (upP m) m.length).length : Int)) = 2 * ((sel (upP m) m.length).length : Int) := by rw [IntWalk.i64_in _ (by omega)]
 refine go_f15 rfl ?_
 unfold c_f15 v_f15
 refine wlk_sreg fun KY hKY => ?_
 simp only [go_sem, c_f15_r0]
 refine hKY _ ?_
 refine wlk_sreg fun KY hKY => ?_
 simp only [go_sem, c_f15_r1]
 refine call_view rfl (by simp only [go_sem] <;> rfl) ((black_ok n es b hb).mono ?_)
 rintro rr hh ⟨⟨x, e, hxe, rfl⟩, rfl⟩
 refine ⟨?_, ?_, ?_, ?_⟩
 iterate 3 (first | rfl | simp only [go_sem])
 simp only [go_sem]
 refine hKY _ ?_
 by_cases he : e = 0
 · subst he
   have hbx := hxe.bound
   cases hmb : mateB n es m with
   | false =>
     refine wlk_sdraw fun KY hKY => ?_
     simp only [go_sem, c_f15_r2]
     refine call_view rfl (by simp only [go_sem] <;> rfl) ((mright_ok n es m).mono ?_)
     rintro rr hh ⟨rfl, rfl⟩
     refine ⟨rfl, rfl, rfl, ?_⟩
     simp only [go_sem, hmb]
     refine hKY _ ?_
     refine wlk_ret ?_
     simp only [go_sem]
     exact ⟨x, 0, hxe, by unfold showB; rw [hmb]; simp⟩
   | true =>
     obtain ⟨hr, hl⟩ := mateB_len hmb
     have hw : IntKind.i64.wrap (n - x) = n - x := by rw [IntWalk.i64_in _ (by omega)]
     refine wlk_sdraw fun KY hKY => ?_
     simp only [go_sem, c_f15_r2]
     refine call_view rfl (by simp only [go_sem] <;> rfl) ((mright_ok n es m).mono ?_)
     rintro rr hh ⟨rfl, rfl⟩
     refine ⟨rfl, rfl, rfl, ?_⟩
     simp only [go_sem, hmb, hw]
     refine call_view rfl (by simp only [go_sem] <;> rfl) ((msize_ok m (by omega)).mono ?_)
     rintro rr hh ⟨rfl, rfl⟩
     refine ⟨rfl, rfl, rfl, ?_⟩
     simp only [go_sem, hw2]
     refine hKY _ ?_
     refine wlk_ret ?_
     simp only [go_sem]
     exact ⟨x, 0, hxe, by unfold showB; rw [hmb]; simp⟩
 · have hd := decide_eq_false he
   refine wlk_sdraw fun KY hKY => ?_
   simp only [go_sem, c_f15_r2, hd]
   refine hKY _ ?_
   refine wlk_ret ?_
   simp only [go_sem]
   exact ⟨x, e, hxe, by rw [showB_e he]⟩
end Go.Proofs.Ytmcfdfafeheihaa

namespace Go.Ga.Gl
open Go Go.Ga
theorem nodup_mapG {α : Type} {f : α → Nat} : ∀ {l : List α}, l.Nodup → (∀ x ∈ l, ∀ y ∈ l, f x = f y → x = y) → (l.map f).Nodup
 | [], _, _ => by simp
 | a :: l, hn, h => by
   obtain ⟨ha, hn⟩ := List.nodup_cons.1 hn
   rw [List.map_cons]
   refine List.nodup_cons.2 ⟨fun hm => ?_, nodup_mapG hn fun x hx y hy => h x (List.mem_cons_of_mem _ hx) y (List.mem_cons_of_mem _ hy)⟩
   obtain ⟨b, hb, e⟩ := List.mem_map.1 hm
   have := h b (List.mem_cons_of_mem _ hb) a (by simp) e
   exact ha (this ▸ hb)
def isOdd (p : List Nat) : Bool := decide (p.length % 2 = 1)
theorem isOdd_iff {p : List Nat} : isOdd p = true ↔ p.length % 2 = 1 := decide_eq_true_iff
theorem oddCount_eq (ps : List (List Nat)) : oddCount ps = (ps.filter isOdd).length := by
 induction ps with
 | nil => rfl
 | cons p ps ih =>
   have e : oddCount (p :: ps) = p.length % 2 + oddCount ps := by simp [oddCount]
   rw [e, ih]
   by_cases h : p.length % 2 = 1
   · rw [List.filter_cons, if_pos (isOdd_iff.2 h), List.length_cons]; omega
   · rw [List.filter_cons, if_neg (fun h2 => h (isOdd_iff.1 h2))]; omega
theorem inc_nodup {p : List Nat} (h : p.Pairwise (· < ·)) : p.Nodup := h.imp fun h => Nat.ne_of_lt h
theorem IsPieces.same {n : Nat} {es : Es} {O : Nat → Prop} {ps : List (List Nat)} (P : IsPieces n es O ps) {p q : List Nat} (hp : p ∈ ps) (hq : q ∈ ps) {v : Nat} (h1 : v ∈ p) (h2 : v ∈ q) : p = q := by
 have hd := P.disj
 clear P
 induction ps with
 | nil => simp at hp
 | cons a ps ih =>
   obtain ⟨hd1, hd2⟩ := List.pairwise_cons.1 hd
   rcases List.mem_cons.1 hp with e1 | hp'
   · rcases List.mem_cons.1 hq with e2 | hq'
     · rw [e1, e2]
     · rw [e1] at h1
       exact absurd h2 (hd1 q hq' v h1)
   · rcases List.mem_cons.1 hq with e2 | hq'
     · rw [e2] at h2
       exact absurd h1 (hd1 p hp' v h2)
     · exact ih hp' hq' hd2
theorem IsPieces.nodup {n : Nat} {es : Es} {O : Nat → Prop} {ps : List (List Nat)} (P : IsPieces n es O ps) : ps.Nodup := by
 have hd := P.disj
 have hne := P.ne
 clear P
 induction ps with
 | nil => simp
 | cons a ps ih =>
   obtain ⟨hd1, hd2⟩ := List.pairwise_cons.1 hd
   refine List.nodup_cons.2 ⟨fun h => ?_, ih hd2 fun p hp => hne p (List.mem_cons_of_mem _ hp)⟩
   match a, hne a (by simp), hd1 a h with
   | [], h1, _ => exact h1 rfl
   | v :: a, _, h2 => exact h2 v (by simp) (by simp)
theorem lack_weak {n : Nat} {es : Es} {O : Nat → Prop} {ps : List (List Nat)} {mt : Nat → Int} (M : Mf n (adj es) mt) (P : IsPieces n es O ps) {b : List Nat} (hO : ∀ v, O v ↔ v ∈ b) : oddCount ps ≤ b.length + fre n mt := by
 rw [oddCount_eq]
 let R : List Nat → Nat → Prop := fun p y => (y ∈ p ∧ mt y = -1) ∨ (y ∈ b ∧ ∃ x : Nat, mt y = (x : Int) ∧ x ∈ p)
 have hex : ∀ p ∈ ps.filter isOdd, ∃ y, R p y := by
  intro p hp
  obtain ⟨hp1, hp2⟩ := List.mem_filter.1 hp
  refine Classical.byContradiction fun hno => ?_
  have := pairs_even (fun v => (mt v).toNat) _ p (Nat.le_refl _) (inc_nodup (P.inc p hp1)) fun x hx => by
   obtain ⟨hxn, hxO⟩ := (P.mem x).1 ⟨p, hp1, hx⟩
   rcases M.at_ x hxn with h | ⟨w, h, hwn⟩
   · exact absurd ⟨x, .inl ⟨hx, h⟩⟩ hno
   · have hs := M.sy x w h
     have e1 : (mt x).toNat = w := by rw [h]; rfl
     have e2 : (mt w).toNat = x := by rw [hs]; rfl
     obtain ⟨hwx, hE⟩ := M.ne x w h
     by_cases hw : O w
     · exact absurd ⟨w, .inr ⟨(hO w).1 hw, x, hs, hx⟩⟩ hno
     · rw [e1, e2]
       exact ⟨P.edge p hp1 x hx w hE hwn hw, hwx, rfl⟩
  have := isOdd_iff.1 hp2
  omega
 let g : List Nat → Nat := fun p => @dite _ (∃ y, R p y) (Classical.propDecidable _) (fun h => Classical.choose h) (fun _ => 0)
 have hg : ∀ p ∈ ps.filter isOdd, R p (g p) := fun p hp => by
  have h := hex p hp
  show R p (@dite _ (∃ y, R p y) (Classical.propDecidable _) (fun h => Classical.choose h) (fun _ => 0))
  rw [dif_pos h]
  exact Classical.choose_spec h
 have hb : ∀ p ∈ ps, ∀ y ∈ p, y ∉ b := fun p hp y hy h => ((P.mem y).1 ⟨p, hp, hy⟩).2 ((hO y).2 h)
 have hinj : ((ps.filter isOdd).map g).Nodup := nodup_mapG (P.nodup.filter _) fun p hp q hq e => by
  have rp := hg p hp
  have rq := hg q hq
  have hp := (List.mem_filter.1 hp).1
  have hq := (List.mem_filter.1 hq).1
  rw [← e] at rq
  rcases rp with ⟨k1, k2⟩ | ⟨k1, x, k2, k3⟩ <;> rcases rq with ⟨j1, j2⟩ | ⟨j1, y, j2, j3⟩
  · exact P.same hp hq k1 j1
  · exact absurd j1 (hb p hp _ k1)
  · exact absurd k1 (hb q hq _ j1)
  · obtain rfl : x = y := by omega
    exact P.same hp hq k3 j3
 have hle := nodup_le (m := (List.range n).filter (isFr mt) ++ b) hinj fun x hx => by
  obtain ⟨p, hp, rfl⟩ := List.mem_map.1 hx
  rcases hg p hp with ⟨k1, k2⟩ | ⟨k1, _⟩
  · exact List.mem_append.2 (.inl (num_mem.2 ⟨((P.mem _).1 ⟨p, (List.mem_filter.1 hp).1, k1⟩).1, isFr_iff.2 k2⟩))
  · exact List.mem_append.2 (.inr k1)
 rw [List.length_append, List.length_map] at hle
 have : ((List.range n).filter (isFr mt)).length = fre n mt := rfl
 omega
def Cn (E : Nat → Nat → Prop) (D : Nat → Bool) (bs : Nat → Nat) : Prop := ∀ f : Nat → Nat, (∀ x y, E x y → D x = true → D y = true → f x = f y) → ∀ v, D v = true → f v = f (bs v)
theorem good_flat {mt : Nat → Int} {E : Nat → Nat → Prop} {D : Nat → Bool} {f : Nat → Nat} (hf : ∀ x y, E x y → D x = true → D y = true → f x = f y) (hm : ∀ v w : Nat, mt v = (w : Int) → E v w) {v to : Nat} {ps : Prs} (h : Good mt E v ps to) : (∀ y ∈ verts ps to, D y = true) → f v = f to := by
 induction h with
 | nil v => intro _; rfl
 | @cons a c w to ps h1 h2 h3 ih =>
   intro hD
   have ha := hD a (by simp [verts, flatP_cons])
   have hc := hD c (by simp [verts, flatP_cons])
   have hw : D w = true := by
    cases h3 with
    | nil => exact hD _ (by simp [verts])
    | cons _ _ _ => exact hD _ (by simp [verts, flatP_cons])
   have h5 := ih fun y hy => hD y (by
    have : y ∈ flatP ps ++ [to] := hy
    simp only [verts, flatP_cons, List.cons_append, List.mem_cons]
    exact .inr (.inr this))
   exact (hf a c (hm a c h1) ha hc).trans ((hf c w h2 hc hw).trans h5)
theorem Inv.cn {n : Nat} {E : Nat → Nat → Prop} {mt : Nat → Int} {S : FS} (M : Mf n E mt) (I : Inv n E mt S) : Cn E S.out S.bs := fun f hf v hv => by
 obtain ⟨ps, p1, p2, p3, p4⟩ := I.wy v hv
 exact good_flat hf (fun v w h => (M.ne v w h).2) p2 fun y hy => (p4 y hy).1
end Go.Ga.Gl
set_option maxRecDepth 100000
set_option maxHeartbeats 4000000
namespace Go.Proofs.Ytmcfdfafeheihaa
open Go Go.Ga Go.Ga.Gl
theorem size_fre {N : Nat} {E : Nat → Nat → Prop} {m : List Int} (M : Mf N E (mf m)) (hml : m.length = N) : 2 * (sel (upP m) m.length).length + fre N (mf m) = N := by
 have h1 := pair_count m
 have h2 : ((List.range m.length).filter (pairB m)).length = num N (fun v => !isFr (mf m) v) := by
  unfold num
  rw [hml]
  congr 1
  refine List.filter_congr fun v hv => ?_
  have hv := List.mem_range.1 hv
  rcases M.at_ v hv with h | ⟨w, h, hw⟩
  · rw [isFr_iff.2 h]
    cases hp : pairB m v with
    | false => rfl
    | true =>
      obtain ⟨w, k1, _⟩ := pair_up.1 hp
      rw [mf_get (by omega), h] at k1; omega
  · have e : isFr (mf m) v = false := decide_eq_false (by omega)
    rw [e]
    refine pair_up.2 ⟨w, by rw [mf_get (by omega)]; exact h, by omega, (M.ne v w h).1, by rw [mf_get (by omega)]; exact M.sy v w h⟩
 have h3 := num_split N (isFr (mf m))
 have h4 : (sel (upP m) m.length).length = ((List.range m.length).filter (upP m)).length := rfl
 unfold fre
 omega
theorem PsOf.gr {N : Nat} {es : Es} (g : GR N es) {b : List Int} {ps : List (List Nat)} (h : PsOf N (castE es) b ps) : IsPieces N es (fun v => (v : Int) ∈ b) ps := by
 rcases h with ⟨_, N', es', e1, e2, _, h⟩ | ⟨h, _⟩
 · obtain rfl : N = N' := by omega
   obtain rfl := castE_inj e2
   exact h
 · rw [rightB_GR g] at h; cases h
end Go.Proofs.Ytmcfdfafeheihaa
set_option maxRecDepth 100000
set_option maxHeartbeats 4000000
namespace Go.Proofs.Ytmcfdfafeheihaa
open Go Go.Ga Go.Ga.Gl
theorem star_GR : GR 4 [(0, 1), (0, 2), (0, 3)] where
 hn := by decide
 hm := by decide
 ok := by decide
 up := by simp [lexlt]
theorem star_pieces : IsPieces 4 [(0, 1), (0, 2), (0, 3)] (fun v => (v : Int) ∈ ([0] : List Int)) [[1], [2], [3]] where
 mem := fun v => by simp; omega
 ne := by simp
 inc := by simp
 heads := by simp
 disj := by simp
 edge := fun p hp a ha b h hb ho => by
  simp only [adj, List.mem_cons, List.not_mem_nil, or_false, Prod.mk.injEq] at h hp ho
  rcases hp with rfl | rfl | rfl <;> simp only [List.mem_cons, List.not_mem_nil, or_false] at ha <;> subst ha <;> simp at h <;> omega
 conn := fun p hp f _ a ha b hb => by
  simp only [List.mem_cons, List.not_mem_nil, or_false] at hp
  rcases hp with rfl | rfl | rfl <;> simp only [List.mem_cons, List.not_mem_nil, or_false] at ha hb <;> rw [ha, hb]
theorem star_BP {x e : Int} (h : BP 4 [(0, 1), (0, 2), (0, 3)] [0] x e) : x = 2 ∧ e = 0 := by
 have h0 : BP 4 [(0, 1), (0, 2), (0, 3)] [0] 2 0 := .inr ⟨by decide, [[1], [2], [3]], .inl ⟨by decide, 4, [(0, 1), (0, 2), (0, 3)], rfl, rfl, star_GR, star_pieces⟩, rfl, rfl⟩
 exact h.unique h0
theorem awake13_ok : ACalls Try.prog [] n_f13 [] [] fun r h' => r = .sc (.bool true) ∧ h' = [] := by
 refine ACalls.trim ?_
 refine go_f13 rfl ?_
 unfold c_f13 v_f13
 refine wlk_sreg fun KY hKY => ?_
 simp only [go_sem, c_f13_r0]
 refine hKY _ ?_
 refine wlk_sreg fun KY hKY => ?_
 simp only [go_sem, c_f13_r1]
 refine hKY _ ?_
 refine sem_freeze [0, 1, 1] (by simp only [go_sem]; rfl) ?_
 simp only [go_sem]
 have hl := black_ok 4 [(0, 1), (0, 2), (0, 3)] [0] (by decide)
 have hs := bshows_ok 4 [(0, 1), (0, 2), (0, 3)] [1, 0, -1, -1] [0] (by decide) (by decide)
 refine wlk_sreg fun KY hKY => ?_
 simp only [go_sem, c_f13_r2]
 refine call_view rfl (by simp only [go_sem] <;> rfl) ((hl).mono ?_)
 rintro rr hh ⟨⟨x, e, hxe, rfl⟩, rfl⟩
 refine ⟨?_, ?_, ?_, ?_⟩
 iterate 3 (first | rfl | simp only [go_sem])
 obtain ⟨rfl, rfl⟩ := star_BP hxe
 simp only [go_sem]
 refine hKY _ ?_
 refine wlk_sreg fun KY hKY => ?_
 simp only [go_sem, c_f13_r3, (show zeroCellsA [Value.int IntKind.i64 0] 4 = [.sc (.int .i64 0), .sc (.int .i64 0), .sc (.int .i64 0), .sc (.int .i64 0)] from rfl)]
 refine call_view rfl (by simp only [go_sem] <;> rfl) ((hs).mono ?_)
 rintro rr hh ⟨⟨x, e, hxe, rfl⟩, rfl⟩
 refine ⟨?_, ?_, ?_, ?_⟩
 iterate 3 (first | rfl | simp only [go_sem])
 obtain ⟨rfl, rfl⟩ := star_BP hxe
 simp only [go_sem]
 refine hKY _ ?_
 refine wlk_ret ?_
 simp only [go_sem]
 exact congrArg (fun c => AVal.sc (.bool c)) (show showB 4 [(0, 1), (0, 2), (0, 3)] [1, 0, -1, -1] 2 0 = true by decide)
end Go.Proofs.Ytmcfdfafeheihaa
set_option maxRecDepth 100000
set_option maxHeartbeats 4000000
namespace Go.Proofs.Ytmcfdfafeheihaa
open Go Go.Ga Go.Ga.Gl
def Nu (N : Nat) (es : Es) (k : Nat) : Prop := ∃ (m : List Int) (D A : Nat → Bool) (bs : Nat → Nat), m.length = N ∧ Fc N (adj es) (mf m) D A bs ∧ Cn (adj es) D bs ∧ 2 * k + fre N (mf m) = N
theorem bnumber_ok {N : Nat} {es : Es} (g : GR N es) : ACalls Try.prog [] n_f10 [.agg [.sc (.int .i64 (N : Int)), .imm 2 (twos (castE es))]] [] fun r h' => (∃ k : Nat, Nu N es k ∧ r = .tup [.sc (.int .i64 (k : Int)), .sc (.int .i64 0)]) ∧ h' = [] := by
 refine ACalls.trim ?_
 have hN := g.hn
 refine go_f10 rfl ?_
 unfold c_f10 v_f10
 refine wlk_sreg fun KY hKY => ?_
 simp only [go_sem, c_f10_r0]
 refine hKY _ ?_
 refine wlk_sreg fun KY hKY => ?_
 simp only [go_sem, c_f10_r1]
 apply call_gen [] [] false none rfl
 iterate 8 (first | (simp only [go_sem, watchIn] <;> rfl) | rfl)
 refine (largest_ok g).mono ?_
 rintro _ _ ⟨m, S, a, b, hml, M, I, L, ⟨h0, rfl, rfl⟩ | ⟨h0, rfl, rfl⟩⟩
 · have hsz := msize_ok m (by omega)
   have hm0 : ints m = [] := by rw [List.length_eq_zero_iff.1 (hml.trans h0)]; rfl
   rw [hm0] at hsz
   refine ⟨Nat.le_of_ble_eq_true rfl, (fun hh => by cases hh), ?_⟩
   simp only [go_sem, callOut, AState.after]
   refine hKY _ ?_
   refine wlk_sreg fun KY hKY => ?_
   simp only [go_sem, c_f10_r2]
   apply call_gen [] [] true none rfl
   iterate 8 (first | (simp only [go_sem, watchIn] <;> rfl) | rfl)
   refine (hsz).mono ?_
   rintro _ _ ⟨rfl, rfl⟩
   refine ⟨Nat.le_of_ble_eq_true rfl, (fun _ => by simp only [go_sem, flatH, and_self]), ?_⟩
   simp only [go_sem, callOut, AState.after]
   refine hKY _ ?_
   refine wlk_ret ?_
   simp only [go_sem]
   exact ⟨_, ⟨m, _, _, _, hml, done_fc M I L, I.cn M, size_fre M hml⟩, rfl⟩
 · have hsz := msize_ok m (by omega)
   have htk : List.take N (ints m) = ints m := List.take_of_length_le (by rw [ints_len]; omega)
   refine ⟨Nat.le_of_ble_eq_true rfl, (fun hh => by cases hh), ?_⟩
   simp only [go_sem, callOut, AState.after]
   refine hKY _ ?_
   refine wlk_sreg fun KY hKY => ?_
   simp only [go_sem, c_f10_r2]
   refine call_view rfl (by simp only [go_sem, hml, Nat.le_refl, htk] <;> rfl) ((hsz).mono ?_)
   rintro rr hh ⟨rfl, rfl⟩
   refine ⟨?_, ?_, ?_, ?_⟩
   iterate 3 (first | rfl | simp only [go_sem])
   simp only [go_sem]
   refine hKY _ ?_
   refine wlk_ret ?_
   simp only [go_sem]
   exact ⟨_, ⟨m, _, _, _, hml, done_fc M I L, I.cn M, size_fre M hml⟩, rfl⟩
theorem BP.lk {N : Nat} {es : Es} (g : GR N es) {b : List Int} {x e : Int} (h : BP N (castE es) b x e) (h0 : bErr N (castE es) b = 0) : e = 0 ∧ ∃ ps, IsPieces N es (fun v => (v : Int) ∈ b) ps ∧ x = (oddCount ps : Int) - b.length := by
 rcases h with ⟨h1, _, _⟩ | ⟨_, ps, hp, hx, he⟩
 · exact absurd h0 h1
 · exact ⟨he, ps, hp.gr g, hx⟩
theorem bErr_nats {N : Nat} {es : Es} (g : GR N es) {l : List Nat} (hn : l.Nodup) (hl : ∀ v ∈ l, v < N) : bErr N (castE es) (castN l) = 0 := by
 have h1 : (castN l).all (fun v => decide (0 ≤ v) && decide (v < (N : Int))) = true := by
  rw [List.all_eq_true]
  intro x hx
  obtain ⟨v, hv, rfl⟩ := List.mem_map.1 hx
  have := hl v hv
  rw [Bool.and_eq_true, decide_eq_true_iff, decide_eq_true_iff]; omega
 have h2 : (castN l).Nodup := List.pairwise_map.2 (List.Pairwise.imp (fun h e => h (by omega)) hn)
 unfold bErr
 rw [rightB_GR g, h1, decide_eq_true h2]; rfl
end Go.Proofs.Ytmcfdfafeheihaa

namespace Go.Ga.Gl
open Go Go.Ga
def Wi (s : Nat) (mt : Nat → Int) : Prop := ∀ v, s.testBit v = false → mt v = -1
def Best (N : Nat) (E : Nat → Nat → Prop) (s k : Nat) : Prop := (∃ mt, Mf N E mt ∧ Wi s mt ∧ N = fre N mt + 2 * k) ∧ ∀ mt, Mf N E mt → Wi s mt → N ≤ fre N mt + 2 * k
theorem num_two {n v w : Nat} (hv : v < n) (hw : w < n) (hne : v ≠ w) : num n (fun u => decide (u = v ∨ u = w)) = 2 := by
 refine Nat.le_antisymm ?_ ?_
 · have := num_le (n := n) (p := fun u => decide (u = v ∨ u = w)) (l := [v, w]) fun u _ h => by
    have := of_decide_eq_true h
    simpa using this
   simpa using this
 · have := nodup_le (l := [v, w]) (m := (List.range n).filter fun u => decide (u = v ∨ u = w)) (by simp [hne]) fun u hu => by
    have : u = v ∨ u = w := by simpa using hu
    refine num_mem.2 ⟨by rcases this with h | h <;> omega, decide_eq_true this⟩
   exact this
theorem fre_two {n : Nat} {mt mt' : Nat → Int} {v w : Nat} (hv : v < n) (hw : w < n) (hne : v ≠ w) (h1 : mt v = -1) (h2 : mt w = -1) (h3 : mt' v ≠ -1) (h4 : mt' w ≠ -1) (h5 : ∀ u, u ≠ v → u ≠ w → mt' u = mt u) : fre n mt' + 2 = fre n mt := by
 have e := num_and n (isFr mt) (fun u => decide (u = v ∨ u = w))
 have e1 : num n (fun u => isFr mt u && decide (u = v ∨ u = w)) = 2 := by
  rw [← num_two hv hw hne]
  refine num_congr fun u _ => ?_
  by_cases h : u = v ∨ u = w
  · have : mt u = -1 := by rcases h with rfl | rfl <;> assumption
    rw [isFr_iff.2 this, decide_eq_true h]; rfl
  · rw [decide_eq_false h, Bool.and_false]
 have e2 : num n (fun u => isFr mt u && !decide (u = v ∨ u = w)) = num n (isFr mt') := by
  refine num_congr fun u _ => ?_
  by_cases h : u = v ∨ u = w
  · have : isFr mt' u = false := decide_eq_false (by rcases h with rfl | rfl <;> assumption)
    rw [this, decide_eq_true h]; simp
  · rw [decide_eq_false h]
    unfold isFr
    rw [h5 u (fun k => h (.inl k)) (fun k => h (.inr k))]; simp
 unfold fre
 omega
theorem best_zero {N : Nat} {E : Nat → Nat → Prop} (M0 : Mf N E (fun _ => -1)) : Best N E 0 0 := by
 have hf : ∀ mt : Nat → Int, (∀ v, mt v = -1) → fre N mt = N := fun mt h => by
  have e := num_split N (isFr mt)
  have : num N (fun x => !isFr mt x) = 0 := by
   unfold num
   rw [List.length_eq_zero_iff, List.filter_eq_nil_iff]
   intro v _
   rw [isFr_iff.2 (h v)]; simp
  unfold fre
  omega
 exact ⟨⟨_, M0, fun _ _ => rfl, by rw [hf _ fun _ => rfl]; rfl⟩, fun mt _ h => by rw [hf mt fun v => h v (by simp)]; omega⟩
end Go.Ga.Gl
set_option maxRecDepth 100000
set_option maxHeartbeats 4000000
namespace Go.Proofs.Ytmcfdfafeheihaa
open Go Go.Ga Go.Ga.Gl
instance adjDec (es : Es) (a b : Nat) : Decidable (adj es a b) := inferInstanceAs (Decidable ((a, b) ∈ es ∨ (b, a) ∈ es))
end Go.Proofs.Ytmcfdfafeheihaa
set_option maxRecDepth 100000
set_option maxHeartbeats 4000000
namespace Go.Proofs.Ytmcfdfafeheihaa
open Go Go.Ga Go.Ga.Gl
end Go.Proofs.Ytmcfdfafeheihaa

namespace Go.Ga.Gl
open Go Go.Ga
structure Cut (E E' : Nat → Nat → Prop) (v : Nat) : Prop where
 iff : ∀ a b, E' a b ↔ E a b ∧ a ≠ v ∧ b ≠ v
theorem Cut.up {n : Nat} {E E' : Nat → Nat → Prop} {v : Nat} (K : Cut E E' v) {mt0 mt : Nat → Int} (M0 : Mf n E mt0) (M : Mf n E' mt) : Mf n E mt ∧ (v < n → mt v = -1) := by
 refine ⟨M.mono (fun a b h => ((K.iff a b).1 h).1) M0.es M0.el, fun hv => ?_⟩
 rcases M.at_ v hv with h | ⟨w, h, _⟩
 · exact h
 · exact absurd rfl ((K.iff v w).1 (M.ne v w h).2).2.1
theorem GR.filter {N : Nat} {es : Es} (g : GR N es) (p : Nat × Nat → Bool) : GR N (es.filter p) :=
 ⟨g.hn, Nat.le_trans (List.length_filter_le _ _) g.hm, fun e he => g.ok e (List.mem_filter.1 he).1, g.up.filter _⟩
end Go.Ga.Gl
set_option maxRecDepth 100000
set_option maxHeartbeats 4000000
namespace Go.Proofs.Ytmcfdfafeheihaa
open Go Go.Ga Go.Ga.Gl
theorem castE_snoc (l : Es) (a b : Nat) : castE (l ++ [(a, b)]) = castE l ++ [((a : Int), (b : Int))] := by simp [castE]
end Go.Proofs.Ytmcfdfafeheihaa

namespace Go.Ga.Gl
open Go Go.Ga
end Go.Ga.Gl

namespace Go.Ga.Gl
open Go Go.Ga
def stE (n : Nat) : Es := (List.range n).map fun i => (0, i + 1)
theorem stE_len (n : Nat) : (stE n).length = n := by simp [stE]
theorem stE_snoc (n : Nat) : stE (n + 1) = stE n ++ [(0, n + 1)] := by simp [stE, List.range_succ]
theorem stE_mem {n a b : Nat} : (a, b) ∈ stE n ↔ a = 0 ∧ 1 ≤ b ∧ b ≤ n := by
 simp only [stE, List.mem_map, List.mem_range, Prod.mk.injEq]
 constructor
 · rintro ⟨i, h, rfl, rfl⟩; omega
 · rintro ⟨rfl, h1, h2⟩; exact ⟨b - 1, by omega, rfl, by omega⟩
theorem stE_adj {n a b : Nat} : adj (stE n) a b ↔ (a = 0 ∧ 1 ≤ b ∧ b ≤ n) ∨ (b = 0 ∧ 1 ≤ a ∧ a ≤ n) := by
 unfold adj; rw [stE_mem, stE_mem]
theorem stE_gr {n : Nat} (h : n ≤ 1000) : GR (n + 1) (stE n) where
 hn := by omega
 hm := by rw [stE_len]; omega
 ok := fun e he => by
  obtain ⟨a, b⟩ := e
  rw [stE_mem] at he
  simp only; omega
 up := by
  unfold stE
  rw [List.pairwise_map]
  exact (List.pairwise_lt_range (n := n)).imp fun h => .inr ⟨rfl, Nat.succ_lt_succ h⟩
theorem stE_mid {n : Nat} {O : Nat → Prop} (hO : ∀ v, O v ↔ v = 0) : IsPieces (n + 1) (stE n) O ((List.range n).map fun i => [i + 1]) where
 mem := fun v => by
  simp only [List.mem_map, List.mem_range]
  rw [hO]
  constructor
  · rintro ⟨p, ⟨i, hi, rfl⟩, hv⟩
    rw [List.mem_singleton] at hv; omega
  · rintro ⟨h1, h2⟩
    exact ⟨[v], ⟨v - 1, by omega, by congr 1; omega⟩, List.mem_singleton.2 rfl⟩
 ne := fun p hp => by
  obtain ⟨i, _, rfl⟩ := List.mem_map.1 hp; simp
 inc := fun p hp => by
  obtain ⟨i, _, rfl⟩ := List.mem_map.1 hp; simp
 heads := by
  rw [List.pairwise_map]
  exact (List.pairwise_lt_range (n := n)).imp fun h => by simp; omega
 disj := by
  rw [List.pairwise_map]
  exact (List.pairwise_lt_range (n := n)).imp fun h => by simp; omega
 edge := fun p hp a ha b h hb ho => by
  obtain ⟨i, _, rfl⟩ := List.mem_map.1 hp
  rw [List.mem_singleton] at ha
  rw [hO] at ho
  rw [stE_adj] at h
  omega
 conn := fun p hp f _ a ha b hb => by
  obtain ⟨i, _, rfl⟩ := List.mem_map.1 hp
  rw [List.mem_singleton] at ha hb
  rw [ha, hb]
theorem stE_all {n : Nat} {O : Nat → Prop} (hO : ∀ v, ¬ O v) : IsPieces (n + 1) (stE n) O [List.range (n + 1)] where
 mem := fun v => by
  simp only [List.mem_singleton, exists_eq_left, List.mem_range]
  exact ⟨fun h => ⟨h, hO v⟩, fun h => h.1⟩
 ne := fun p hp => by
  rw [List.mem_singleton] at hp; subst hp; simp
 inc := fun p hp => by
  rw [List.mem_singleton] at hp; subst hp; exact List.pairwise_lt_range
 heads := List.pairwise_singleton ..
 disj := List.pairwise_singleton ..
 edge := fun p hp a ha b h hb ho => by
  rw [List.mem_singleton] at hp; subst hp; exact List.mem_range.2 hb
 conn := fun p hp f hf a ha b hb => by
  rw [List.mem_singleton] at hp; subst hp
  have key : ∀ v, v < n + 1 → f v = f 0 := fun v hv => by
   rcases Nat.eq_zero_or_pos v with rfl | h
   · rfl
   · exact hf v 0 (stE_adj.2 (.inr ⟨rfl, h, by omega⟩)) (hO _) (hO _)
  rw [key a (List.mem_range.1 ha), key b (List.mem_range.1 hb)]
theorem stE_odd (n : Nat) : oddCount ((List.range n).map fun i => [i + 1]) = n := by
 rw [oddCount_eq, List.filter_eq_self.2]
 · simp
 · intro p hp
   obtain ⟨i, _, rfl⟩ := List.mem_map.1 hp; rfl
def stM (u : Nat) : Int := if u = 0 then 1 else if u = 1 then 0 else -1
theorem stE_num {n k : Nat} (h1 : 1 ≤ n) (hn : n ≤ 1000) {mt : Nat → Int} (L : Lg (n + 1) (adj (stE n)) mt) (hk : 2 * k + fre (n + 1) mt = n + 1) : k = 1 := by
 have M0 : Mf (n + 1) (adj (stE n)) (fun _ => -1) := (stE_gr hn).none fun _ => rfl
 have M1 : Mf (n + 1) (adj (stE n)) stM := by
  refine M0.add (v := 0) (w := 1) rfl rfl (stE_adj.2 (.inl ⟨rfl, Nat.le_refl 1, h1⟩)) rfl rfl fun u h1 h2 => ?_
  show (if u = 0 then (1 : Int) else if u = 1 then 0 else -1) = -1
  rw [if_neg h1, if_neg h2]
 have f1 := fre_two (n := n + 1) (mt := fun _ => -1) (mt' := stM) (v := 0) (w := 1) (by omega) (by omega) (by omega) rfl rfl (by decide) (by decide) fun u h1 h2 => by
  show (if u = 0 then (1 : Int) else if u = 1 then 0 else -1) = -1
  rw [if_neg h1, if_neg h2]
 obtain ⟨⟨mt0, _, hw, h0⟩, _⟩ := best_zero M0
 have hle : fre (n + 1) (fun _ => -1) ≤ n + 1 := by
  unfold fre num; exact Nat.le_trans (List.length_filter_le _ _) (by simp)
 have h2 := L.2 _ M1
 have h3 := lack_weak L.1 (stE_mid (O := fun v => v = 0) fun v => Iff.rfl) (b := [0]) fun v => by simp
 rw [stE_odd] at h3
 simp only [List.length_cons, List.length_nil] at h3
 omega
end Go.Ga.Gl
set_option maxRecDepth 100000
set_option maxHeartbeats 4000000
namespace Go.Proofs.Ytmcfdfafeheihaa
open Go Go.Ga Go.Ga.Gl
theorem BP.of {N : Nat} {es : Es} (g : GR N es) {b : List Int} {x e : Int} (h : BP N (castE es) b x e) {ps : List (List Nat)} (h0 : bErr N (castE es) b = 0) (P : IsPieces N es (fun v => (v : Int) ∈ b) ps) : x = (oddCount ps : Int) - b.length ∧ e = 0 :=
 h.unique (.inr ⟨h0, ps, .inl ⟨rightB_GR g, N, es, rfl, rfl, g, P⟩, rfl, rfl⟩)
theorem BP.err {n : Int} {es : List (Int × Int)} {b : List Int} {x e k : Int} (h : BP n es b x e) (hk : bErr n es b = k) (h0 : k ≠ 0) : x = 0 ∧ e = k := by
 subst hk
 rcases h with ⟨_, h1, h2⟩ | ⟨h1, _⟩
 · exact ⟨h1, h2⟩
 · exact absurd h1 h0
theorem odd_one (p : List Nat) : oddCount [p] = p.length % 2 := by
 rw [oddCount_eq]
 rcases Nat.mod_two_eq_zero_or_one p.length with h | h <;> simp [isOdd, h]
theorem bstar_ok (n : Int) : ACalls Try.prog [] n_f4 [.sc (.int .i64 n)] [] fun r h' => r = .sc (.bool true) ∧ h' = [] := by
 obtain ⟨a, ha, hna⟩ := umod n 60 (by omega) (by omega)
 have ua : IntKind.u64.wrap ((60 : Nat) : Int) = 60 := by decide
 rw [ua] at hna
 have wa : IntKind.i64.wrap (1 + (a : Int)) = ((a + 1 : Nat) : Int) := by rw [IntWalk.i64_in _ (by omega)]; omega
 obtain ⟨N, hN⟩ : ∃ N, N = a + 1 := ⟨_, rfl⟩
 rw [← hN] at wa
 have hN1 : 1 ≤ N := by omega
 have hN60 : N ≤ 60 := by omega
 clear ha hN
 have wN : IntKind.i64.wrap ((N : Int) + 1) = ((N + 1 : Nat) : Int) := by rw [IntWalk.i64_in _ (by omega)]; omega
 have wM : IntKind.i64.wrap ((N : Int) - 1) = (N : Int) - 1 := by rw [IntWalk.i64_in _ (by omega)]
 have g := stE_gr (n := N) (by omega)
 have P1 : IsPieces (N + 1) (stE N) (fun v => (v : Int) ∈ ([0] : List Int)) _ := stE_mid (n := N) fun v => by simp
 have P2 : IsPieces (N + 1) (stE N) (fun v => (v : Int) ∈ ([] : List Int)) _ := stE_all (n := N) fun v => by simp
 have r0 := rightB_GR g
 have e1 : bErr (N + 1 : Nat) (castE (stE N)) [0] = 0 := bErr_nats g (l := [0]) (by simp) (by simp)
 have e2 : bErr (N + 1 : Nat) (castE (stE N)) [] = 0 := bErr_nats g (l := []) (by simp) (by simp)
 have e3 : bErr (N + 1 : Nat) (castE (stE N)) [0, 0] = 6 := by
  have h1 : ([0, 0] : List Int).all (fun v => decide (0 ≤ v) && decide (v < ((N + 1 : Nat) : Int))) = true := by simp
  unfold bErr
  rw [r0, h1]; rfl
 have e4 : bErr (N + 1 : Nat) (castE (stE N)) [((N + 1 : Nat) : Int)] = 4 := by
  have h1 : ([((N + 1 : Nat) : Int)] : List Int).all (fun v => decide (0 ≤ v) && decide (v < ((N + 1 : Nat) : Int))) = false := by simp
  unfold bErr
  rw [r0, h1]; rfl
 have c1 := black_ok (N + 1 : Nat) (castE (stE N)) [0] (by decide)
 have c2 := (black_ok (N + 1 : Nat) (castE (stE N)) [] (by decide)).sees (.cons (.refl _) (.cons (.imm 1) .nil))
 have c3 := black_ok (N + 1 : Nat) (castE (stE N)) [0, 0] (by decide)
 have c4 := black_ok (N + 1 : Nat) (castE (stE N)) [((N + 1 : Nat) : Int)] (by simp)
 refine go_f4 rfl ?_
 unfold c_f4 v_f4
 refine wlk_sreg fun KY hKY => ?_
 simp only [go_sem, c_f4_r0]
 refine hKY _ ?_
 refine wlk_sreg fun KY hKY => ?_
 simp only [go_sem, c_f4_r1, hna, wa]
 refine hKY _ ?_
 refine wlk_sreg fun KY hKY => ?_
 simp only [go_sem, c_f4_r2, wN]
 refine hKY _ ?_
 refine sem_nil [0, 3, 1] 2 (by simp only [go_sem]) ?_
 simp only [go_sem]
 have e0 : AVal.own (some 2) [] = .own (some 2) (twos (castE (stE 0))) := rfl
 rw [e0]
 refine wlk_seq fun X1 hn1 he1 hr1 => ?_
 refine wlk_sreg fun KY hKY => ?_
 simp only [go_sem, c_f4_r3]
 refine hKY _ ?_
 have hst0 : AVal.sc (.int .i64 1) = .sc (.int .i64 ((0 + 1 : Nat) : Int)) := rfl
 rw [hst0]
 refine wlk_blk fun X2 hn2 he2 hf2 hr2 => ?_
 try simp only [go_sem]
 refine wlk_lp (α := Nat) [25] (fun k => [(3, .own none [.sc (.int .i64 ((N + 1 : Nat) : Int)), .own (some 2) (twos (castE (stE k)))]), (4, .sc (.int .i64 ((k + 1 : Nat) : Int)))]) (fun k => []) (fun k q => k ≤ N ∧ q = N - k) (0) (N) rfl (by first | (simp only [go_sem, updAll_cons, updAll_nil]; done) | with_reducible rfl | rfl) (⟨Nat.zero_le _, rfl⟩) ?_
 rintro k q ⟨hk, rfl⟩ X3 hn3 he3 hr3
 simp only [go_sem, updAll_cons, updAll_nil]
 refine wlk_seq fun X4 hn4 he4 hr4 => ?_
 rcases Nat.lt_or_ge k N with hk2 | hk2
 · have hdx : decide (((k + 1 : Nat) : Int) ≤ (N : Int)) = true := decide_eq_true (by omega)
   have hs : castE (stE k) ++ [((0 : Int), ((k + 1 : Nat) : Int))] = castE (stE (k + 1)) := by rw [stE_snoc, castE_snoc]; rfl
   have hl := stE_len k
   refine wlk_sreg fun KY hKY => ?_
   simp only [go_sem, c_f4_r4, hdx]
   refine hKY _ ?_
   refine wlk_cond1 (by first | rfl | (simp only [go_sem]; try simp (disch := omega) only [decide_eq_true, decide_eq_false])) ?_
   refine wlk_skip ?_
   repeat (first | refine hn4 _ ?_ | refine he4 _ _ ?_ | refine he3 _ _ ?_ | refine hn2 _ ?_ | refine he2 _ ?_ | refine hf2 _ _ (by decide) ?_ | refine hn1 _ ?_ | refine he1 _ _ ?_)
   refine wlk_seq fun X5 hn5 he5 hr5 => ?_
   refine wlk_blk fun X6 hn6 he6 hf6 hr6 => ?_
   refine wlk_reg fun KY hKY => ?_
   simp only [go_sem, c_f4_r5, twos_len, castE_len, hl, twos_snoc, hs, (show (k * 2 + 2) * 16 ≤ 140737488355328 by omega)]
   refine hKY _ ?_
   repeat (first | refine hn6 _ ?_ | refine he6 _ ?_ | refine hf6 _ _ (by decide) ?_ | refine hn5 _ ?_ | refine he5 _ _ ?_ | refine hn4 _ ?_ | refine he4 _ _ ?_ | refine he3 _ _ ?_ | refine hn2 _ ?_ | refine he2 _ ?_ | refine hf2 _ _ (by decide) ?_ | refine hn1 _ ?_ | refine he1 _ _ ?_)
   refine wlk_reg fun KY hKY => ?_
   simp only [go_sem, c_f4_r6, incS (show k + 1 < 4611686018427387904 by omega)]
   refine hKY _ ?_
   repeat (first | refine hn6 _ ?_ | refine he6 _ ?_ | refine hf6 _ _ (by decide) ?_ | refine hn5 _ ?_ | refine he5 _ _ ?_ | refine hn4 _ ?_ | refine he4 _ _ ?_)
   refine hn3 _ (k + 1) (N - (k + 1)) (by omega) (by first | (simp only [go_sem, updAll_cons, updAll_nil, incS (show k + 1 < 4611686018427387904 by omega)]; done) | with_reducible rfl) ?_
   exact ⟨hk2, rfl⟩
 have hdx : decide (((k + 1 : Nat) : Int) ≤ (N : Int)) = false := decide_eq_false (by omega)
 obtain rfl : k = N := by omega
 refine wlk_sreg fun KY hKY => ?_
 simp only [go_sem, c_f4_r4, hdx]
 refine hKY _ ?_
 refine wlk_cond0 (by first | rfl | (simp only [go_sem]; try simp (disch := omega) only [decide_eq_true, decide_eq_false])) ?_
 refine wlk_exit ?_
 repeat (first | refine hn4 _ ?_ | refine he4 _ _ ?_ | refine he3 _ _ ?_ | refine hn2 _ ?_ | refine he2 _ ?_ | refine hf2 _ _ (by decide) ?_ | refine hn1 _ ?_ | refine he1 _ _ ?_)
 refine sem_freeze [0, 3, 1] (by simp only [go_sem]; rfl) ?_
 simp only [go_sem]
 refine wlk_sreg fun KY hKY => ?_
 simp only [go_sem, c_f4_r7]
 refine call_view rfl (by simp only [go_sem] <;> rfl) ((c1).mono ?_)
 rintro rr hh ⟨⟨x, e, hx, rfl⟩, rfl⟩
 refine ⟨?_, ?_, ?_, ?_⟩
 iterate 3 (first | rfl | simp only [go_sem])
 obtain ⟨hx1, rfl⟩ := hx.of g e1 P1
 obtain rfl : x = (k : Int) - 1 := by rw [hx1, stE_odd]; rfl
 simp only [go_sem]
 refine hKY _ ?_
 refine wlk_sreg fun KY hKY => ?_
 simp only [go_sem, c_f4_r8]
 refine call_view rfl (by simp only [go_sem] <;> rfl) ((c2).mono ?_)
 rintro rr hh ⟨⟨x, e, hx, rfl⟩, rfl⟩
 refine ⟨?_, ?_, ?_, ?_⟩
 iterate 3 (first | rfl | simp only [go_sem])
 obtain ⟨hx2, rfl⟩ := hx.of g e2 P2
 obtain rfl : x = (((k + 1 : Nat) : Int)).tmod 2 := by
  rw [hx2, odd_one, List.length_range]; exact Int.sub_zero _
 simp only [go_sem]
 refine hKY _ ?_
 refine wlk_sreg fun KY hKY => ?_
 simp only [go_sem, c_f4_r9]
 apply call_gen [] [] false none rfl
 iterate 8 (first | (simp only [go_sem, watchIn] <;> rfl) | rfl)
 refine (bnumber_ok g).mono ?_
 rintro _ _ ⟨⟨k1, ⟨m, D, A, bs, hml, F, K, hk1⟩, rfl⟩, rfl⟩
 refine ⟨Nat.le_of_ble_eq_true rfl, (fun hh => by cases hh), ?_⟩
 simp only [go_sem, callOut, AState.after]
 refine hKY _ ?_
 refine wlk_sreg fun KY hKY => ?_
 simp only [go_sem, c_f4_r10]
 refine call_view rfl (by simp only [go_sem] <;> rfl) ((c3).mono ?_)
 rintro rr hh ⟨⟨x, e, hx, rfl⟩, rfl⟩
 refine ⟨?_, ?_, ?_, ?_⟩
 iterate 3 (first | rfl | simp only [go_sem])
 obtain ⟨rfl, rfl⟩ := hx.err e3 (by decide)
 simp only [go_sem]
 refine hKY _ ?_
 refine wlk_sreg fun KY hKY => ?_
 simp only [go_sem, c_f4_r11, wN]
 refine call_view rfl (by simp only [go_sem] <;> rfl) ((c4).mono ?_)
 rintro rr hh ⟨⟨x, e, hx, rfl⟩, rfl⟩
 refine ⟨?_, ?_, ?_, ?_⟩
 iterate 3 (first | rfl | simp only [go_sem])
 obtain ⟨rfl, rfl⟩ := hx.err e4 (by decide)
 simp only [go_sem]
 refine hKY _ ?_
 have hk : k1 = 1 := stE_num hN1 (by omega) F.lg hk1
 subst hk
 refine wlk_sreg fun KY hKY => ?_
 simp only [go_sem, c_f4_r12]
 refine call_view rfl (by simp only [go_sem] <;> rfl) ((awake13_ok).mono ?_)
 rintro rr hh ⟨rfl, rfl⟩
 refine ⟨rfl, rfl, rfl, ?_⟩
 simp only [go_sem, wM, wN]
 refine hKY _ ?_
 refine wlk_ret ?_
 repeat (first | refine hr4 _ ?_ | refine hr3 _ ?_ | refine hr2 _ ?_ | refine hr1 _ ?_)
 simp only [go_sem]
end Go.Proofs.Ytmcfdfafeheihaa
namespace Go.Proofs.Ytmcfdfafeheihaa
open Go Go.Ga Go.Ga.Gl
theorem barrierStar_all (As : List AVal) (b : Nat) (h : SAs Try.prog Try.f4.params.toList As b) (hb : b ≤ 1048576) : ACalls Try.prog [] 4 As [] fun r _ => r = .sc (.bool true) := by
 rw [Try.params4] at h
 obtain ⟨A1, As1, c1, d1, rfl, rfl, h1, h⟩ := sas_cons h
 obtain rfl := sas_nil h
 obtain ⟨x1, rfl, w1⟩ := sa_int Try.underlying3 h1
 exact (bstar_ok x1).mono fun _ _ h => h.1
end Go.Proofs.Ytmcfdfafeheihaa
namespace Go.Proofs.Ytmcfdfafeheihaa.barrierStarend
open Go Go.Ga Go.ChangeShapes Go.WideShapes Go.ChangeAt Go.RowKit
theorem own : ownKnob Try.prog.godebug = none := by kernel_rfl
mutual
theorem bulk_at {H : Type} : ∀ d : DataW H, Rows.uptoBulk d = bulk d
 | .lit l => by cases l <;> simp [Rows.uptoBulk, bulk]
 | .nil => by simp [Rows.uptoBulk, bulk]
 | .ptr d => by simp [Rows.uptoBulk, bulk, bulk_at d]
 | .slice e s => by simp [Rows.uptoBulk, bulk, bulk_eq e, bulk_eq s]
 | .agg p => by simp [Rows.uptoBulk, bulk, bulk_eq p]
 | .iface _ d => by simp [Rows.uptoBulk, bulk, bulk_at d]
 | .map e => by simp [Rows.uptoBulk, bulk, bulk_es e]
 | .held _ => by simp [Rows.uptoBulk, bulk]
theorem bulk_eq {H : Type} : ∀ l : List (DataW H), Rows.uptoBulkAll l = bulkL l
 | [] => by simp [Rows.uptoBulkAll, bulkL]
 | d :: r => by simp [Rows.uptoBulkAll, bulkL, bulk_at d, bulk_eq r]
theorem bulk_es {H : Type} : ∀ l : List (Lit × DataW H), Rows.uptoBulkEntries l = bulkE l
 | [] => by simp [Rows.uptoBulkEntries, bulkE]
 | d :: r => by simp [Rows.uptoBulkEntries, bulkE, bulk_e d, bulk_es r]
theorem bulk_e {H : Type} : ∀ d : Lit × DataW H, Rows.uptoBulkEntry d = bulk1 d
 | (l, d) => by cases l <;> simp [Rows.uptoBulkEntry, bulk1, bulk_at d]
end
set_option maxRecDepth 100000 in
theorem plain : Plain Try.prog [3] := plain_of (by kernel_rfl)
set_option maxRecDepth 100000 in
theorem contract (H : Type) (enc : TypeId × Value → H) (W : World) (base : Nat) (args : Array Value) (ds gs : List (DataW H)) (before : List MemPlace)
    (hval : ∀ (j : Nat) t v, Try.f4.params[j]? = some t → args[j]? = some v → Value.okWide Try.prog W .any base t v)
    (hW : DataW.Whole enc Try.prog Try.f4.params.toList Rows.barrierStarSpec.vars false W args.toList ds gs before) (hk : Rows.uptoSmall H (ds ++ gs) = true) :
    Calls Try.prog 4 args W fun e W' => ∃ v, e = .returned v ∧ Rows.barrierStarSpec.post enc Try.prog Try.f4 false true false false W args v W' := by
  have hW' := hW
  obtain ⟨p, q, hA, hV, rfl, hfz, hnd⟩ := hW
  obtain ⟨rfl, rfl⟩ := Go.Ga.trodVars_nil hV
  have hb : bulkL (ds ++ []) ≤ 1048576 := by rw [← bulk_eq]; exact of_decide_eq_true hk
  have r0 : DataW.TrodAll enc Try.prog W 0 (fun _ => true) true Try.f4.params.toList args.toList ds p := hA
  rw [Try.params4] at r0
  obtain ⟨v0, vs0, d0, ds0, p0, q0, hv0, rfl, rfl, h0, r1⟩ := trodAll_cons r0
  obtain ⟨rfl, rfl, rfl⟩ := trodAll_nil r1
  exact contract_true plain hval (by rw [Try.params4]; decide) hW' rfl rfl rfl rfl (tb := 4) (by kernel_rfl) Try.underlying4 hb barrierStar_all
set_option maxRecDepth 100000 in
theorem lifted (os : Os) (started : os.Started) (H : Type) (enc : TypeId × Value → H) (F : Stop.Interp) :
    ReturnsInHanded {} Try.checked os 4 .any ((Rows.OpenSpec.upto Rows.barrierStarSpec).pre6 enc Try.prog Try.f4 Rows.barrierStarUptoRow.domain false) (((Rows.OpenSpec.upto Rows.barrierStarSpec).at F).post enc Try.prog Try.f4 false true false false) := by
  refine returnsInHanded_of_cond (C := Try.checked) (s := Rows.OpenSpec.upto Rows.barrierStarSpec) (k := Rows.uptoSmall) rfl own started (by kernel_rfl) Try.func4
    (OpenSpec.witness (enc := enc) (C := Try.checked) (s := Rows.OpenSpec.upto Rows.barrierStarSpec) (k := Rows.uptoSmall) rfl false ⟨#[], #[.int .i64 0], []⟩ 8 (by kernel_rfl) (by kernel_rfl) (by kernel_rfl)
      (x := ([.lit (.int .i64 0)], [], [])) (by kernel_rfl) rfl (by kernel_rfl)) ?_
  intro W base args ds gs before hval hW _ hk _
  exact contract H enc W base args ds gs before hval hW hk
theorem holds : Rows.BarrierStarUptoSaid :=
 OpenClaim.holds_of_cond 4 Try.f4 rfl rfl rfl rfl rfl rfl rfl ⟨rfl, rfl, rfl, rfl, rfl⟩ rfl rfl rfl rfl rfl (by kernel_rfl) Try.func4 (by kernel_rfl)
  (of_decide_eq_true (by kernel_rfl)) (by unfold Func.isWrapper; first | (rw [if_pos (by decide +kernel)]; kernel_rfl) | (rw [if_neg (by decide +kernel)]; exact ⟨rfl, rfl⟩))
  (fun os started H enc _ F => lifted os started H enc F)
end Go.Proofs.Ytmcfdfafeheihaa.barrierStarend
