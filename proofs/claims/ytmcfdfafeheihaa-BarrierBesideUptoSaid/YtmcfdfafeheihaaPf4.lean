/- Side by side numbers are added, and what both sets lack is, together, what they lack. -/
import Derived.Test.YtmcfdfafeheihaaPf3
import Derived.Test.YtmcfdfafeheihaaPf2
import Derived.Test.YtmcfdfafeheihaaGlkpaph5
import Derived.WalkKit
import Derived.ProofKit
import Derived.OpenShut
import Derived.JoinedCond
set_option linter.all false
set_option maxRecDepth 100000
set_option maxHeartbeats 4000000
namespace Go.Proofs.Ytmcfdfafeheihaa
open Go Go.Ga Go.Ga.Gl
def seenL (N : Nat) (b : List Int) : List Bool := (List.range N).map fun v : Nat => decide ((v : Int) ∈ b)
theorem seenL_len (N : Nat) (b : List Int) : (seenL N b).length = N := by simp [seenL]
theorem seenL_get {N : Nat} (b : List Int) {v : Nat} (h : v < N) : (seenL N b).getD v false = decide ((v : Int) ∈ b) := by simp [seenL, h]
theorem seenL_set {N : Nat} (b : List Int) (v : Nat) : (seenL N b).set v true = seenL N (b ++ [(v : Int)]) := by
 apply List.ext_getElem
 · simp [seenL]
 · intro i h1 h2
   simp only [seenL, List.getElem_set, List.getElem_map, List.getElem_range]
   by_cases h : v = i
   · subst h; simp
   · rw [if_neg h]
     congr 1
     simp [show ¬ (i : Int) = v by omega]
theorem inB {n : Int} {b : List Int} {k : Nat} (h : k < b.length) (hf : ¬ (0 ≤ b.getD k 0 ∧ b.getD k 0 < n)) : (b.all fun v => decide (0 ≤ v) && decide (v < n)) = false := by
 rw [Bool.eq_false_iff]; intro h'
 rw [List.all_eq_true] at h'
 have := h' (b.getD k 0) (by rw [List.getD_eq_getElem?_getD, List.getElem?_eq_getElem h]; exact List.getElem_mem h)
 rw [Bool.and_eq_true, decide_eq_true_iff, decide_eq_true_iff] at this
 exact hf this
theorem inB_all {n : Int} {b : List Int} (h : ∀ k, k < b.length → 0 ≤ b.getD k 0 ∧ b.getD k 0 < n) : (b.all fun v => decide (0 ≤ v) && decide (v < n)) = true := by
 rw [List.all_eq_true]
 intro x hx
 obtain ⟨i, hi, rfl⟩ := List.mem_iff_getElem.1 hx
 have := h i hi
 rw [List.getD_eq_getElem?_getD, List.getElem?_eq_getElem hi] at this
 rw [Bool.and_eq_true, decide_eq_true_iff, decide_eq_true_iff]; exact this
theorem take_getD {b : List Int} {k : Nat} (h : k < b.length) : b.take (k + 1) = b.take k ++ [b.getD k 0] := by
 rw [List.take_add_one, List.getElem?_eq_getElem h, List.getD_eq_getElem?_getD, List.getElem?_eq_getElem h]; rfl
theorem nodup_no {b : List Int} {k : Nat} (h : k < b.length) (hm : b.getD k 0 ∈ b.take k) : ¬ b.Nodup := fun hn => by
 have h1 : (b.take (k + 1)).Nodup := hn.sublist (List.take_sublist _ _)
 rw [take_getD h, List.nodup_append] at h1
 exact h1.2.2 _ hm _ (List.mem_singleton.2 rfl) rfl
theorem nodup_yes {b : List Int} {k : Nat} (h : k < b.length) (hn : (b.take k).Nodup) (hm : b.getD k 0 ∉ b.take k) : (b.take (k + 1)).Nodup := by
 rw [take_getD h, List.nodup_append]
 refine ⟨hn, List.nodup_cons.2 ⟨by simp, List.nodup_nil⟩, fun a ha c hc e => ?_⟩
 rw [List.mem_singleton] at hc
 subst hc; subst e; exact hm ha
theorem black_ok (n : Int) (es : List (Int × Int)) (b : List Int) (hb : b.length ≤ 1000000) : ACalls Try.prog [] n_f11 [.agg [.sc (.int .i64 n), .imm 2 (twos es)], .imm 1 (ints b)] [] fun r h' => (∃ x e, BP n es b x e ∧ r = .tup [.sc (.int .i64 x), .sc (.int .i64 e)]) ∧ h' = [] := by
 refine ACalls.trim ?_
 cases hr : rightB n es with
 | false =>
   have he : bErr n es b = 3 := by simp [bErr, hr]
   refine go_f11 rfl ?_
   unfold c_f11 v_f11
   refine wlk_sreg fun KY hKY => ?_
   simp only [go_sem, c_f11_r0]
   apply hKY
   refine wlk_seq fun X1 hn1 he1 hr1 => ?_
   refine wlk_sreg fun KY hKY => ?_
   simp only [go_sem, c_f11_r1]
   refine call_view rfl (by simp only [go_sem] <;> rfl) ((right_ok n es).mono ?_)
   rintro rr hh ⟨rfl, rfl⟩
   refine ⟨rfl, rfl, rfl, ?_⟩
   simp only [go_sem, hr]
   apply hKY
   refine wc1 ?_
   refine wlk_sreg fun KY hKY => ?_
   simp only [go_sem, c_f11_r2]
   apply hKY
   refine wlk_ret ?_
   repeat (first | refine hr1 _ ?_)
   simp only [go_sem]
   exact ⟨0, 3, .inl ⟨by rw [he]; decide, rfl, he.symm⟩, rfl⟩
 | true =>
 obtain ⟨N, es, rfl, rfl, g⟩ := right_nat hr
 have hN := g.hn
 refine go_f11 rfl ?_
 unfold c_f11 v_f11
 refine wlk_sreg fun KY hKY => ?_
 simp only [go_sem, c_f11_r0]
 apply hKY
 refine wlk_seq fun X2 hn2 he2 hr2 => ?_
 refine wlk_sreg fun KY hKY => ?_
 simp only [go_sem, c_f11_r1]
 refine call_view rfl (by simp only [go_sem] <;> rfl) ((right_ok N (castE es)).mono ?_)
 rintro rr hh ⟨rfl, rfl⟩
 refine ⟨rfl, rfl, rfl, ?_⟩
 simp only [go_sem, hr]
 apply hKY
 refine wc0 ?_
 refine wlk_skip ?_
 repeat (first | refine hn2 _ ?_ | refine he2 _ _ ?_)
 refine wlk_seq fun X3 hn3 he3 hr3 => ?_
 refine wlk_sreg fun KY hKY => ?_
 simp only [go_sem, c_f11_r3, ints_len]
 apply hKY
 refine wlk_blk fun X4 hn4 he4 hf4 hr4 => ?_
 try simp only [go_sem]
 refine wlk_lp (α := Nat) [7, 17, 27] (fun k => [(16, .sc (.int .i64 (k : Int)))]) (fun k => []) (fun k q => k ≤ b.length ∧ q = b.length - k ∧ (∀ j, j < k → 0 ≤ b.getD j 0 ∧ b.getD j 0 < N)) (0) (b.length) rfl (by first | (simp only [go_sem, updAll_cons, updAll_nil]; done) | with_reducible rfl | rfl) (⟨by omega, rfl, fun j h => by omega⟩) ?_
 rintro k q ⟨hk, rfl, hz⟩ X5 hn5 he5 hr5
 simp only [go_sem, updAll_cons, updAll_nil]
 rcases Nat.lt_or_ge k b.length with hk2 | hk2
 · have hdy : decide ((k : Int) < (b.length : Int)) = true := decide_eq_true (by omega)
   refine wlk_sreg fun KY hKY => ?_
   simp only [go_sem, c_f11_r4, hdy]
   apply hKY
   refine wlk_seq fun X6 hn6 he6 hr6 => ?_
   refine wc1 ?_
   refine wlk_skip ?_
   repeat (first | refine hn6 _ ?_ | refine he6 _ _ ?_ | refine he5 _ _ ?_ | refine hn4 _ ?_ | refine he4 _ ?_ | refine hf4 _ _ (by decide) ?_ | refine hn3 _ ?_ | refine he3 _ _ ?_ | refine hn2 _ ?_ | refine he2 _ _ ?_)
   refine wlk_seq fun X7 hn7 he7 hr7 => ?_
   refine wlk_blk fun X8 hn8 he8 hf8 hr8 => ?_
   refine wlk_sreg fun KY hKY => ?_
   simp only [go_sem, c_f11_r5, ints_get hk2, hk2, ints_len]
   apply hKY
   by_cases h1 : b.getD k 0 < 0
   · have d1 : decide (b.getD k 0 < 0) = true := decide_eq_true h1
     have he : bErr N (castE es) b = 4 := by simp only [bErr, hr, inB hk2 (n := (N : Int)) (by omega), cond_true, cond_false]
     refine wlk_sreg fun KY hKY => ?_
     simp only [go_sem, c_f11_r6, d1]
     apply hKY
     refine wc1 ?_
     refine wlk_sreg fun KY hKY => ?_
     simp only [go_sem, c_f11_r7]
     apply hKY
     refine wlk_ret ?_
     repeat (first | refine hr8 _ ?_ | refine hr7 _ ?_ | refine hr6 _ ?_ | refine hr5 _ ?_ | refine hr4 _ ?_ | refine hr3 _ ?_ | refine hr2 _ ?_)
     simp only [go_sem]
     exact ⟨0, 4, .inl ⟨by rw [he]; decide, rfl, he.symm⟩, rfl⟩
   · have d1 : decide (b.getD k 0 < 0) = false := decide_eq_false h1
     by_cases h2 : (N : Int) ≤ b.getD k 0
     · have d2 : decide ((N : Int) ≤ b.getD k 0) = true := decide_eq_true h2
       have he : bErr N (castE es) b = 4 := by simp only [bErr, hr, inB hk2 (n := (N : Int)) (by omega), cond_true, cond_false]
       refine wlk_sreg fun KY hKY => ?_
       simp only [go_sem, c_f11_r6, d1, d2]
       apply hKY
       refine wc1 ?_
       refine wlk_sreg fun KY hKY => ?_
       simp only [go_sem, c_f11_r7]
       apply hKY
       refine wlk_ret ?_
       repeat (first | refine hr8 _ ?_ | refine hr7 _ ?_ | refine hr6 _ ?_ | refine hr5 _ ?_ | refine hr4 _ ?_ | refine hr3 _ ?_ | refine hr2 _ ?_)
       simp only [go_sem]
       exact ⟨0, 4, .inl ⟨by rw [he]; decide, rfl, he.symm⟩, rfl⟩
     · have d2 : decide ((N : Int) ≤ b.getD k 0) = false := decide_eq_false h2
       refine wlk_sreg fun KY hKY => ?_
       simp only [go_sem, c_f11_r6, d1, d2]
       apply hKY
       refine wc0 ?_
       refine wlk_skip ?_
       repeat (first | refine hn8 _ ?_ | refine he8 _ ?_ | refine hf8 _ _ (by decide) ?_ | refine hn7 _ ?_ | refine he7 _ _ ?_ | refine hn6 _ ?_ | refine he6 _ _ ?_ | refine he5 _ _ ?_ | refine hn4 _ ?_ | refine he4 _ ?_ | refine hf4 _ _ (by decide) ?_ | refine hn3 _ ?_ | refine he3 _ _ ?_ | refine hn2 _ ?_ | refine he2 _ _ ?_)
       refine wlk_reg fun KY hKY => ?_
       simp only [go_sem, c_f11_r8, incS (show k < 4611686018427387904 by omega)]
       apply hKY
       repeat (first | refine hn8 _ ?_ | refine he8 _ ?_ | refine hf8 _ _ (by decide) ?_ | refine hn7 _ ?_ | refine he7 _ _ ?_ | refine hn6 _ ?_ | refine he6 _ _ ?_)
       refine hn5 _ (k + 1) (b.length - (k + 1)) (by omega) (by first | (simp only [go_sem, updAll_cons, updAll_nil]; done) | with_reducible rfl | rfl) ?_
       refine ⟨hk2, rfl, fun j hj => ?_⟩
       rcases Nat.lt_or_ge j k with h3 | h3
       · exact hz j h3
       · obtain rfl : j = k := by omega
         exact ⟨by omega, by omega⟩
 have hdx : decide ((k : Int) < (b.length : Int)) = false := decide_eq_false (by omega)
 refine wlk_sreg fun KY hKY => ?_
 simp only [go_sem, c_f11_r4, hdx]
 apply hKY
 refine wlk_seq fun X9 hn9 he9 hr9 => ?_
 refine wc0 ?_
 refine wlk_exit ?_
 repeat (first | refine hn9 _ ?_ | refine he9 _ _ ?_ | refine he5 _ _ ?_ | refine hn4 _ ?_ | refine he4 _ ?_ | refine hf4 _ _ (by decide) ?_ | refine hn3 _ ?_ | refine he3 _ _ ?_ | refine hn2 _ ?_ | refine he2 _ _ ?_)
 obtain rfl : k = b.length := by omega
 have hall := inB_all (n := (N : Int)) hz
 have h0 : List.replicate N false = seenL N (b.take 0) := by
  apply List.ext_getElem
  · simp [seenL]
  · intro i h1 h2; simp [seenL]
 refine wlk_sreg fun KY hKY => ?_
 simp only [go_sem, c_f11_r9, (show 1 * N ≤ 140737488355328 by omega), (show N ≤ 140737488355328 by omega), (show (N : Int) ≤ (N : Int) from Int.le_refl _), (show (N : Int) ≤ 9223372036854775807 by omega), h0]
 apply hKY
 refine wlk_seq fun X10 hn10 he10 hr10 => ?_
 refine wlk_sreg fun KY hKY => ?_
 simp only [go_sem, c_f11_r10, ints_len]
 apply hKY
 refine wlk_blk fun X11 hn11 he11 hf11 hr11 => ?_
 try simp only [go_sem]
 refine wlk_lp (α := Nat) [10, 35, 41] (fun k => [(8, .own (some 1) (bools (seenL N (b.take k)))), (34, .sc (.int .i64 (k : Int)))]) (fun k => []) (fun k q => k ≤ b.length ∧ q = b.length - k ∧ (b.take k).Nodup) (0) (b.length) rfl (by first | (simp only [go_sem, updAll_cons, updAll_nil]; done) | with_reducible rfl | rfl) (⟨by omega, rfl, List.nodup_nil⟩) ?_
 rintro k q ⟨hk', rfl, hnd⟩ X12 hn12 he12 hr12
 simp only [go_sem, updAll_cons, updAll_nil]
 rcases Nat.lt_or_ge k b.length with hk2 | hk2
 · have hdy : decide ((k : Int) < (b.length : Int)) = true := decide_eq_true (by omega)
   refine wlk_sreg fun KY hKY => ?_
   simp only [go_sem, c_f11_r11, hdy]
   apply hKY
   refine wlk_seq fun X13 hn13 he13 hr13 => ?_
   refine wc1 ?_
   refine wlk_skip ?_
   repeat (first | refine hn13 _ ?_ | refine he13 _ _ ?_ | refine he12 _ _ ?_ | refine hn11 _ ?_ | refine he11 _ ?_ | refine hf11 _ _ (by decide) ?_ | refine hn10 _ ?_ | refine he10 _ _ ?_ | refine hn9 _ ?_ | refine he9 _ _ ?_)
   refine wlk_seq fun X14 hn14 he14 hr14 => ?_
   refine wlk_blk fun X15 hn15 he15 hf15 hr15 => ?_
   have hzk := hz k hk2
   have htk := take_getD hk2
   obtain ⟨v, hv⟩ : ∃ v : Nat, b.getD k 0 = v := ⟨(b.getD k 0).toNat, by omega⟩
   have hvN : v < N := by omega
   refine wlk_sreg fun KY hKY => ?_
   simp only [go_sem, c_f11_r12, ints_get hk2, hk2, ints_len]
   simp only [hv]
   apply hKY
   have hg := bools_get (show v < (seenL N (b.take k)).length by rw [seenL_len]; omega)
   rw [seenL_get _ hvN, ← hv] at hg
   have hsl := seenL_len N (b.take k)
   refine wlk_seq fun X16 hn16 he16 hr16 => ?_
   by_cases hm : b.getD k 0 ∈ b.take k
   · rw [decide_eq_true hm] at hg
     have he : bErr N (castE es) b = 6 := by simp only [bErr, hr, hall, decide_eq_false (nodup_no hk2 hm), cond_true, cond_false]
     refine wlk_sreg fun KY hKY => ?_
     simp only [go_sem, c_f11_r13, hg, bools_len, hsl, hvN]
     apply hKY
     refine wc1 ?_
     refine wlk_sreg fun KY hKY => ?_
     simp only [go_sem, c_f11_r14]
     apply hKY
     refine wlk_ret ?_
     repeat (first | refine hr16 _ ?_ | refine hr15 _ ?_ | refine hr14 _ ?_ | refine hr13 _ ?_ | refine hr12 _ ?_ | refine hr11 _ ?_ | refine hr10 _ ?_ | refine hr9 _ ?_ | refine hr5 _ ?_ | refine hr4 _ ?_ | refine hr3 _ ?_ | refine hr2 _ ?_)
     simp only [go_sem]
     exact ⟨0, 6, .inl ⟨by rw [he]; decide, rfl, he.symm⟩, rfl⟩
   · rw [decide_eq_false hm] at hg
     have hst := seenL_set (N := N) (b.take k) v
     rw [← hv, ← htk] at hst
     refine wlk_sreg fun KY hKY => ?_
     simp only [go_sem, c_f11_r13, hg, bools_len, hsl, hvN]
     apply hKY
     refine wc0 ?_
     refine wlk_skip ?_
     repeat (first | refine hn16 _ ?_ | refine he16 _ _ ?_ | refine hn15 _ ?_ | refine he15 _ ?_ | refine hf15 _ _ (by decide) ?_ | refine hn14 _ ?_ | refine he14 _ _ ?_ | refine hn13 _ ?_ | refine he13 _ _ ?_ | refine he12 _ _ ?_ | refine hn11 _ ?_ | refine he11 _ ?_ | refine hf11 _ _ (by decide) ?_ | refine hn10 _ ?_ | refine he10 _ _ ?_ | refine hn9 _ ?_ | refine he9 _ _ ?_)
     refine wlk_reg fun KY hKY => ?_
     simp only [go_sem, c_f11_r15, bools_len, hsl, hvN, hst]
     apply hKY
     repeat (first | refine hn16 _ ?_ | refine he16 _ _ ?_ | refine hn15 _ ?_ | refine he15 _ ?_ | refine hf15 _ _ (by decide) ?_ | refine hn14 _ ?_ | refine he14 _ _ ?_ | refine hn13 _ ?_ | refine he13 _ _ ?_ | refine he12 _ _ ?_ | refine hn11 _ ?_ | refine he11 _ ?_ | refine hf11 _ _ (by decide) ?_ | refine hn10 _ ?_ | refine he10 _ _ ?_ | refine hn9 _ ?_ | refine he9 _ _ ?_)
     refine wlk_reg fun KY hKY => ?_
     simp only [go_sem, c_f11_r16, incS (show k < 4611686018427387904 by omega)]
     apply hKY
     repeat (first | refine hn16 _ ?_ | refine he16 _ _ ?_ | refine hn15 _ ?_ | refine he15 _ ?_ | refine hf15 _ _ (by decide) ?_ | refine hn14 _ ?_ | refine he14 _ _ ?_ | refine hn13 _ ?_ | refine he13 _ _ ?_)
     refine hn12 _ (k + 1) (b.length - (k + 1)) (by omega) (by first | (simp only [go_sem, updAll_cons, updAll_nil]; done) | with_reducible rfl | rfl) ?_
     exact ⟨hk2, rfl, nodup_yes hk2 hnd hm⟩
 have hdz : decide ((k : Int) < (b.length : Int)) = false := decide_eq_false (by omega)
 refine wlk_sreg fun KY hKY => ?_
 simp only [go_sem, c_f11_r11, hdz]
 apply hKY
 refine wlk_seq fun X17 hn17 he17 hr17 => ?_
 refine wc0 ?_
 refine wlk_exit ?_
 repeat (first | refine hn17 _ ?_ | refine he17 _ _ ?_ | refine he12 _ _ ?_ | refine hn11 _ ?_ | refine he11 _ ?_ | refine hf11 _ _ (by decide) ?_ | refine hn10 _ ?_ | refine he10 _ _ ?_ | refine hn9 _ ?_ | refine he9 _ _ ?_ | refine he5 _ _ ?_ | refine hn4 _ ?_ | refine he4 _ ?_ | refine hf4 _ _ (by decide) ?_ | refine hn3 _ ?_ | refine he3 _ _ ?_ | refine hn2 _ ?_ | refine he2 _ _ ?_)
 obtain rfl : k = b.length := by omega
 rw [List.take_length] at hnd
 have he : bErr N (castE es) b = 0 := by simp only [bErr, hr, hall, decide_eq_true hnd, cond_true]
 refine wlk_sreg fun KY hKY => ?_
 simp only [go_sem, c_f11_r17]
 refine call_view rfl (by simp only [go_sem] <;> rfl) ((lists_ok g).mono ?_)
 rintro rr hh ⟨rfl, rfl⟩
 refine ⟨?_, ?_, ?_, ?_⟩
 iterate 3 (first | rfl | simp only [go_sem])
 simp only [go_sem]
 refine call_view rfl (by simp only [go_sem] <;> rfl) ((lacks_ok g b (by omega)).mono ?_)
 rintro rr hh ⟨⟨ps, hps, rfl⟩, rfl⟩
 refine ⟨?_, ?_, ?_, ?_⟩
 iterate 3 (first | rfl | simp only [go_sem])
 simp only [go_sem]
 apply hKY
 refine wlk_ret ?_
 repeat (first | refine hr17 _ ?_ | refine hr12 _ ?_ | refine hr11 _ ?_ | refine hr10 _ ?_ | refine hr9 _ ?_ | refine hr5 _ ?_ | refine hr4 _ ?_ | refine hr3 _ ?_ | refine hr2 _ ?_)
 simp only [go_sem]
 exact ⟨_, 0, .inr ⟨he, ps, .inl ⟨hr, N, es, rfl, rfl, g, hps⟩, rfl, rfl⟩, rfl⟩
theorem mateB_yes {N : Nat} {es : Es} (g : GR N es) {m : List Int} (h : m.length = N) : mateB N (castE es) m = (List.range N).all fun v => mOk es m v := by
 unfold mateB mOk
 rw [rightB_GR g, decide_eq_true (show (m.length : Int) = (N : Int) by omega), h]; rfl
theorem mright_ok (n : Int) (es : List (Int × Int)) (m : List Int) : ACalls Try.prog [] n_f31 [.agg [.sc (.int .i64 n), .imm 2 (twos es)], .imm 1 (ints m)] [] fun r h' => r = .sc (.bool (mateB n es m)) ∧ h' = [] := by
 cases h : (rightB n es && decide ((m.length : Int) = n)) with
 | false =>
   have : mateB n es m = false := by unfold mateB; rw [h]; rfl
   rw [this]; exact mright_no n es m h
 | true =>
   rw [Bool.and_eq_true, decide_eq_true_iff] at h
   obtain ⟨N, es', rfl, rfl, g⟩ := right_nat h.1
   rw [mateB_yes g (show m.length = N by omega)]
   exact mright_yes g m (by omega)
theorem mateB_len {n : Int} {es : List (Int × Int)} {m : List Int} (h : mateB n es m = true) : rightB n es = true ∧ (m.length : Int) = n := by
 unfold mateB at h
 rw [Bool.and_eq_true, Bool.and_eq_true, decide_eq_true_iff] at h
 exact h.1
theorem BP.bound {n : Int} {es : List (Int × Int)} {b : List Int} {x : Int} (h : BP n es b x 0) : - (b.length : Int) ≤ x ∧ x ≤ 4096 := by
 rcases h with ⟨h1, rfl, h2⟩ | ⟨_, ps, hp, rfl, _⟩
 · exact absurd h2.symm h1
 · have h1 := odd_le2 ps ps.length hp.len.1
   rw [List.take_length] at h1
   omega
def showB (n : Int) (es : List (Int × Int)) (m : List Int) (x e : Int) : Bool := decide (e = 0) && (mateB n es m && decide (2 * ((sel (upP m) m.length).length : Int) = n - x))
theorem showB_e {n : Int} {es : List (Int × Int)} {m : List Int} {x e : Int} (h : e ≠ 0) : showB n es m x e = false := by unfold showB; rw [decide_eq_false h]; rfl
theorem bshows_ok (n : Int) (es : List (Int × Int)) (m b : List Int) (hm : m.length ≤ 1000000) (hb : b.length ≤ 1000000) : ACalls Try.prog [] n_f15 [.agg [.sc (.int .i64 n), .imm 2 (twos es)], .imm 1 (ints m), .imm 1 (ints b)] [] fun r h' => (∃ x e, BP n es b x e ∧ r = .sc (.bool (showB n es m x e))) ∧ h' = [] := by
 refine ACalls.trim ?_
 have hsz := sel_len (upP m) m.length
 have hw2 : IntKind.i64.wrap (2 * ((sel (upP m) m.length).length : Int)) = 2 * ((sel (upP m) m.length).length : Int) := by rw [IntWalk.i64_in _ (by omega)]
 refine go_f15 rfl ?_
 unfold c_f15 v_f15
 refine wlk_sreg fun KY hKY => ?_
 simp only [go_sem, c_f15_r0]
 apply hKY
 refine wlk_sreg fun KY hKY => ?_
 simp only [go_sem, c_f15_r1]
 refine call_view rfl (by simp only [go_sem] <;> rfl) ((black_ok n es b hb).mono ?_)
 rintro rr hh ⟨⟨x, e, hxe, rfl⟩, rfl⟩
 refine ⟨?_, ?_, ?_, ?_⟩
 iterate 3 (first | rfl | simp only [go_sem])
 simp only [go_sem]
 apply hKY
 by_cases he : e = 0
 · subst he
   have hbx := hxe.bound
   cases hmb : mateB n es m with
   | false =>
     refine wlk_sdraw fun KY hKY => ?_
     simp only [go_sem, c_f15_r2]
     refine call_view rfl (by simp only [go_sem] <;> rfl) ((mright_ok n es m).mono ?_)
     rintro rr hh ⟨rfl, rfl⟩
     refine ⟨rfl, rfl, rfl, ?_⟩
     simp only [go_sem, hmb]
     apply hKY
     refine wlk_ret ?_
     simp only [go_sem]
     exact ⟨x, 0, hxe, by unfold showB; rw [hmb]; simp⟩
   | true =>
     obtain ⟨hr, hl⟩ := mateB_len hmb
     have hw : IntKind.i64.wrap (n - x) = n - x := by rw [IntWalk.i64_in _ (by omega)]
     refine wlk_sdraw fun KY hKY => ?_
     simp only [go_sem, c_f15_r2]
     refine call_view rfl (by simp only [go_sem] <;> rfl) ((mright_ok n es m).mono ?_)
     rintro rr hh ⟨rfl, rfl⟩
     refine ⟨rfl, rfl, rfl, ?_⟩
     simp only [go_sem, hmb, hw]
     refine call_view rfl (by simp only [go_sem] <;> rfl) ((msize_ok m (by omega)).mono ?_)
     rintro rr hh ⟨rfl, rfl⟩
     refine ⟨rfl, rfl, rfl, ?_⟩
     simp only [go_sem, hw2]
     apply hKY
     refine wlk_ret ?_
     simp only [go_sem]
     exact ⟨x, 0, hxe, by unfold showB; rw [hmb]; simp⟩
 · have hd := decide_eq_false he
   refine wlk_sdraw fun KY hKY => ?_
   simp only [go_sem, c_f15_r2, hd]
   apply hKY
   refine wlk_ret ?_
   simp only [go_sem]
   exact ⟨x, e, hxe, by rw [showB_e he]⟩
end Go.Proofs.Ytmcfdfafeheihaa

namespace Go.Ga.Gl
open Go Go.Ga
def isOdd (p : List Nat) : Bool := decide (p.length % 2 = 1)
theorem isOdd_iff {p : List Nat} : isOdd p = true ↔ p.length % 2 = 1 := decide_eq_true_iff
theorem oddCount_eq (ps : List (List Nat)) : oddCount ps = (ps.filter isOdd).length := by
 induction ps with
 | nil => rfl
 | cons p ps ih =>
   have e : oddCount (p :: ps) = p.length % 2 + oddCount ps := by simp [oddCount]
   rw [e, ih]
   by_cases h : p.length % 2 = 1
   · rw [List.filter_cons, if_pos (isOdd_iff.2 h), List.length_cons]; omega
   · rw [List.filter_cons, if_neg (fun h2 => h (isOdd_iff.1 h2))]; omega
theorem IsPieces.same {n : Nat} {es : Es} {O : Nat → Prop} {ps : List (List Nat)} (P : IsPieces n es O ps) {p q : List Nat} (hp : p ∈ ps) (hq : q ∈ ps) {v : Nat} (h1 : v ∈ p) (h2 : v ∈ q) : p = q := by
 have hd := P.disj
 clear P
 induction ps with
 | nil => simp at hp
 | cons a ps ih =>
   obtain ⟨hd1, hd2⟩ := List.pairwise_cons.1 hd
   rcases List.mem_cons.1 hp with e1 | hp'
   · rcases List.mem_cons.1 hq with e2 | hq'
     · rw [e1, e2]
     · rw [e1] at h1
       exact absurd h2 (hd1 q hq' v h1)
   · rcases List.mem_cons.1 hq with e2 | hq'
     · rw [e2] at h2
       exact absurd h1 (hd1 p hp' v h2)
     · exact ih hp' hq' hd2
theorem IsPieces.nodup {n : Nat} {es : Es} {O : Nat → Prop} {ps : List (List Nat)} (P : IsPieces n es O ps) : ps.Nodup := by
 have hd := P.disj
 have hne := P.ne
 clear P
 induction ps with
 | nil => simp
 | cons a ps ih =>
   obtain ⟨hd1, hd2⟩ := List.pairwise_cons.1 hd
   refine List.nodup_cons.2 ⟨fun h => ?_, ih hd2 fun p hp => hne p (List.mem_cons_of_mem _ hp)⟩
   match a, hne a (by simp), hd1 a h with
   | [], h1, _ => exact h1 rfl
   | v :: a, _, h2 => exact h2 v (by simp) (by simp)
def Cn (E : Nat → Nat → Prop) (D : Nat → Bool) (bs : Nat → Nat) : Prop := ∀ f : Nat → Nat, (∀ x y, E x y → D x = true → D y = true → f x = f y) → ∀ v, D v = true → f v = f (bs v)
theorem good_flat {mt : Nat → Int} {E : Nat → Nat → Prop} {D : Nat → Bool} {f : Nat → Nat} (hf : ∀ x y, E x y → D x = true → D y = true → f x = f y) (hm : ∀ v w : Nat, mt v = (w : Int) → E v w) {v to : Nat} {ps : Prs} (h : Good mt E v ps to) : (∀ y ∈ verts ps to, D y = true) → f v = f to := by
 induction h with
 | nil v => intro _; rfl
 | @cons a c w to ps h1 h2 h3 ih =>
   intro hD
   have ha := hD a (by simp [verts, flatP_cons])
   have hc := hD c (by simp [verts, flatP_cons])
   have hw : D w = true := by
    cases h3 with
    | nil => exact hD _ (by simp [verts])
    | cons _ _ _ => exact hD _ (by simp [verts, flatP_cons])
   have h5 := ih fun y hy => hD y (by
    have : y ∈ flatP ps ++ [to] := hy
    simp only [verts, flatP_cons, List.cons_append, List.mem_cons]
    exact .inr (.inr this))
   exact (hf a c (hm a c h1) ha hc).trans ((hf c w h2 hc hw).trans h5)
theorem Inv.cn {n : Nat} {E : Nat → Nat → Prop} {mt : Nat → Int} {S : FS} (M : Mf n E mt) (I : Inv n E mt S) : Cn E S.out S.bs := fun f hf v hv => by
 obtain ⟨ps, p1, p2, p3, p4⟩ := I.wy v hv
 exact good_flat hf (fun v w h => (M.ne v w h).2) p2 fun y hy => (p4 y hy).1
end Go.Ga.Gl
namespace Go.Proofs.Ytmcfdfafeheihaa
open Go Go.Ga Go.Ga.Gl
theorem size_fre {N : Nat} {E : Nat → Nat → Prop} {m : List Int} (M : Mf N E (mf m)) (hml : m.length = N) : 2 * (sel (upP m) m.length).length + fre N (mf m) = N := by
 have h1 := pair_count m
 have h2 : ((List.range m.length).filter (pairB m)).length = num N (fun v => !isFr (mf m) v) := by
  unfold num
  rw [hml]
  congr 1
  refine List.filter_congr fun v hv => ?_
  have hv := List.mem_range.1 hv
  rcases M.at_ v hv with h | ⟨w, h, hw⟩
  · rw [isFr_iff.2 h]
    cases hp : pairB m v with
    | false => rfl
    | true =>
      obtain ⟨w, k1, _⟩ := pair_up.1 hp
      rw [mf_get (by omega), h] at k1; omega
  · have e : isFr (mf m) v = false := decide_eq_false (by omega)
    rw [e]
    refine pair_up.2 ⟨w, by rw [mf_get (by omega)]; exact h, by omega, (M.ne v w h).1, by rw [mf_get (by omega)]; exact M.sy v w h⟩
 have h3 := num_split N (isFr (mf m))
 have h4 : (sel (upP m) m.length).length = ((List.range m.length).filter (upP m)).length := rfl
 unfold fre
 omega
theorem castN_mem {l : List Nat} {v : Nat} : (v : Int) ∈ castN l ↔ v ∈ l := by
 unfold castN
 rw [List.mem_map]
 constructor
 · rintro ⟨a, h, e⟩
   obtain rfl : a = v := by omega
   exact h
 · intro h
   exact ⟨v, h, rfl⟩
theorem PsOf.gr {N : Nat} {es : Es} (g : GR N es) {b : List Int} {ps : List (List Nat)} (h : PsOf N (castE es) b ps) : IsPieces N es (fun v => (v : Int) ∈ b) ps := by
 rcases h with ⟨_, N', es', e1, e2, _, h⟩ | ⟨h, _⟩
 · obtain rfl : N = N' := by omega
   obtain rfl := castE_inj e2
   exact h
 · rw [rightB_GR g] at h; cases h
theorem star_GR : GR 4 [(0, 1), (0, 2), (0, 3)] where
 hn := by decide
 hm := by decide
 ok := by decide
 up := by simp [lexlt]
theorem star_pieces : IsPieces 4 [(0, 1), (0, 2), (0, 3)] (fun v => (v : Int) ∈ ([0] : List Int)) [[1], [2], [3]] where
 mem := fun v => by simp; omega
 ne := by simp
 inc := by simp
 heads := by simp
 disj := by simp
 edge := fun p hp a ha b h hb ho => by
  simp only [adj, List.mem_cons, List.not_mem_nil, or_false, Prod.mk.injEq] at h hp ho
  rcases hp with rfl | rfl | rfl <;> simp only [List.mem_cons, List.not_mem_nil, or_false] at ha <;> subst ha <;> simp at h <;> omega
 conn := fun p hp f _ a ha b hb => by
  simp only [List.mem_cons, List.not_mem_nil, or_false] at hp
  rcases hp with rfl | rfl | rfl <;> simp only [List.mem_cons, List.not_mem_nil, or_false] at ha hb <;> rw [ha, hb]
theorem star_BP {x e : Int} (h : BP 4 [(0, 1), (0, 2), (0, 3)] [0] x e) : x = 2 ∧ e = 0 := by
 have h0 : BP 4 [(0, 1), (0, 2), (0, 3)] [0] 2 0 := .inr ⟨by decide, [[1], [2], [3]], .inl ⟨by decide, 4, [(0, 1), (0, 2), (0, 3)], rfl, rfl, star_GR, star_pieces⟩, rfl, rfl⟩
 exact h.unique h0
theorem awake13_ok : ACalls Try.prog [] n_f13 [] [] fun r h' => r = .sc (.bool true) ∧ h' = [] := by
 refine ACalls.trim ?_
 refine go_f13 rfl ?_
 unfold c_f13 v_f13
 refine wlk_sreg fun KY hKY => ?_
 simp only [go_sem, c_f13_r0]
 apply hKY
 refine wlk_sreg fun KY hKY => ?_
 simp only [go_sem, c_f13_r1]
 apply hKY
 refine sem_freeze [0, 1, 1] (by simp only [go_sem]; rfl) ?_
 simp only [go_sem]
 have hl := black_ok 4 [(0, 1), (0, 2), (0, 3)] [0] (by decide)
 have hs := bshows_ok 4 [(0, 1), (0, 2), (0, 3)] [1, 0, -1, -1] [0] (by decide) (by decide)
 refine wlk_sreg fun KY hKY => ?_
 simp only [go_sem, c_f13_r2]
 refine call_view rfl (by simp only [go_sem] <;> rfl) ((hl).mono ?_)
 rintro rr hh ⟨⟨x, e, hxe, rfl⟩, rfl⟩
 refine ⟨?_, ?_, ?_, ?_⟩
 iterate 3 (first | rfl | simp only [go_sem])
 obtain ⟨rfl, rfl⟩ := star_BP hxe
 simp only [go_sem]
 apply hKY
 refine wlk_sreg fun KY hKY => ?_
 simp only [go_sem, c_f13_r3, (show zeroCellsA [Value.int IntKind.i64 0] 4 = [.sc (.int .i64 0), .sc (.int .i64 0), .sc (.int .i64 0), .sc (.int .i64 0)] from rfl)]
 refine call_view rfl (by simp only [go_sem] <;> rfl) ((hs).mono ?_)
 rintro rr hh ⟨⟨x, e, hxe, rfl⟩, rfl⟩
 refine ⟨?_, ?_, ?_, ?_⟩
 iterate 3 (first | rfl | simp only [go_sem])
 obtain ⟨rfl, rfl⟩ := star_BP hxe
 simp only [go_sem]
 apply hKY
 refine wlk_ret ?_
 simp only [go_sem]
 exact congrArg (fun c => AVal.sc (.bool c)) (show showB 4 [(0, 1), (0, 2), (0, 3)] [1, 0, -1, -1] 2 0 = true by decide)
def Nu (N : Nat) (es : Es) (k : Nat) : Prop := ∃ (m : List Int) (D A : Nat → Bool) (bs : Nat → Nat), m.length = N ∧ Fc N (adj es) (mf m) D A bs ∧ Cn (adj es) D bs ∧ 2 * k + fre N (mf m) = N
theorem bnumber_ok {N : Nat} {es : Es} (g : GR N es) : ACalls Try.prog [] n_f10 [.agg [.sc (.int .i64 (N : Int)), .imm 2 (twos (castE es))]] [] fun r h' => (∃ k : Nat, Nu N es k ∧ r = .tup [.sc (.int .i64 (k : Int)), .sc (.int .i64 0)]) ∧ h' = [] := by
 refine ACalls.trim ?_
 have hN := g.hn
 refine go_f10 rfl ?_
 unfold c_f10 v_f10
 refine wlk_sreg fun KY hKY => ?_
 simp only [go_sem, c_f10_r0]
 apply hKY
 refine wlk_sreg fun KY hKY => ?_
 simp only [go_sem, c_f10_r1]
 apply call_gen [] [] false none rfl
 iterate 8 (first | (simp only [go_sem, watchIn] <;> rfl) | rfl)
 refine (largest_ok g).mono ?_
 rintro _ _ ⟨m, S, a, b, hml, M, I, L, ⟨h0, rfl, rfl⟩ | ⟨h0, rfl, rfl⟩⟩
 · have hsz := msize_ok m (by omega)
   have hm0 : ints m = [] := by rw [List.length_eq_zero_iff.1 (hml.trans h0)]; rfl
   rw [hm0] at hsz
   refine ⟨Nat.le_of_ble_eq_true rfl, (fun hh => by cases hh), ?_⟩
   simp only [go_sem, callOut, AState.after]
   apply hKY
   refine wlk_sreg fun KY hKY => ?_
   simp only [go_sem, c_f10_r2]
   apply call_gen [] [] true none rfl
   iterate 8 (first | (simp only [go_sem, watchIn] <;> rfl) | rfl)
   refine (hsz).mono ?_
   rintro _ _ ⟨rfl, rfl⟩
   refine ⟨Nat.le_of_ble_eq_true rfl, (fun _ => by simp only [go_sem, flatH, and_self]), ?_⟩
   simp only [go_sem, callOut, AState.after]
   apply hKY
   refine wlk_ret ?_
   simp only [go_sem]
   exact ⟨_, ⟨m, _, _, _, hml, done_fc M I L, I.cn M, size_fre M hml⟩, rfl⟩
 · have hsz := msize_ok m (by omega)
   have htk : List.take N (ints m) = ints m := List.take_of_length_le (by rw [ints_len]; omega)
   refine ⟨Nat.le_of_ble_eq_true rfl, (fun hh => by cases hh), ?_⟩
   simp only [go_sem, callOut, AState.after]
   apply hKY
   refine wlk_sreg fun KY hKY => ?_
   simp only [go_sem, c_f10_r2]
   refine call_view rfl (by simp only [go_sem, hml, Nat.le_refl, htk] <;> rfl) ((hsz).mono ?_)
   rintro rr hh ⟨rfl, rfl⟩
   refine ⟨?_, ?_, ?_, ?_⟩
   iterate 3 (first | rfl | simp only [go_sem])
   simp only [go_sem]
   apply hKY
   refine wlk_ret ?_
   simp only [go_sem]
   exact ⟨_, ⟨m, _, _, _, hml, done_fc M I L, I.cn M, size_fre M hml⟩, rfl⟩
theorem BP.lk {N : Nat} {es : Es} (g : GR N es) {b : List Int} {x e : Int} (h : BP N (castE es) b x e) (h0 : bErr N (castE es) b = 0) : e = 0 ∧ ∃ ps, IsPieces N es (fun v => (v : Int) ∈ b) ps ∧ x = (oddCount ps : Int) - b.length := by
 rcases h with ⟨h1, _, _⟩ | ⟨_, ps, hp, hx, he⟩
 · exact absurd h0 h1
 · exact ⟨he, ps, hp.gr g, hx⟩
theorem bErr_nats {N : Nat} {es : Es} (g : GR N es) {l : List Nat} (hn : l.Nodup) (hl : ∀ v ∈ l, v < N) : bErr N (castE es) (castN l) = 0 := by
 have h1 : (castN l).all (fun v => decide (0 ≤ v) && decide (v < (N : Int))) = true := by
  rw [List.all_eq_true]
  intro x hx
  obtain ⟨v, hv, rfl⟩ := List.mem_map.1 hx
  have := hl v hv
  rw [Bool.and_eq_true, decide_eq_true_iff, decide_eq_true_iff]; omega
 have h2 : (castN l).Nodup := List.pairwise_map.2 (List.Pairwise.imp (fun h e => h (by omega)) hn)
 unfold bErr
 rw [rightB_GR g, h1, decide_eq_true h2]; rfl
end Go.Proofs.Ytmcfdfafeheihaa

namespace Go.Ga.Gl
open Go Go.Ga
end Go.Ga.Gl
namespace Go.Proofs.Ytmcfdfafeheihaa
open Go Go.Ga Go.Ga.Gl
instance adjDec (es : Es) (a b : Nat) : Decidable (adj es a b) := inferInstanceAs (Decidable ((a, b) ∈ es ∨ (b, a) ∈ es))
end Go.Proofs.Ytmcfdfafeheihaa

namespace Go.Ga.Gl
open Go Go.Ga
structure Cut (E E' : Nat → Nat → Prop) (v : Nat) : Prop where
 iff : ∀ a b, E' a b ↔ E a b ∧ a ≠ v ∧ b ≠ v
theorem Cut.up {n : Nat} {E E' : Nat → Nat → Prop} {v : Nat} (K : Cut E E' v) {mt0 mt : Nat → Int} (M0 : Mf n E mt0) (M : Mf n E' mt) : Mf n E mt ∧ (v < n → mt v = -1) := by
 refine ⟨M.mono (fun a b h => ((K.iff a b).1 h).1) M0.es M0.el, fun hv => ?_⟩
 rcases M.at_ v hv with h | ⟨w, h, _⟩
 · exact h
 · exact absurd rfl ((K.iff v w).1 (M.ne v w h).2).2.1
theorem GR.filter {N : Nat} {es : Es} (g : GR N es) (p : Nat × Nat → Bool) : GR N (es.filter p) :=
 ⟨g.hn, Nat.le_trans (List.length_filter_le _ _) g.hm, fun e he => g.ok e (List.mem_filter.1 he).1, g.up.filter _⟩
end Go.Ga.Gl
namespace Go.Proofs.Ytmcfdfafeheihaa
open Go Go.Ga Go.Ga.Gl
end Go.Proofs.Ytmcfdfafeheihaa

namespace Go.Ga.Gl
open Go Go.Ga
theorem IsPieces.besideO {N M : Nat} {es hs : Es} (g : GR N es) {O1 O2 O : Nat → Prop} (h1 : ∀ v, v < N → (O v ↔ O1 v)) (h2 : ∀ v, O (v + N) ↔ O2 v) {ps qs : List (List Nat)} (P : IsPieces N es O1 ps) (Q : IsPieces M hs O2 qs) :
    IsPieces (N + M) (besideE N es hs) O (ps ++ qs.map fun q => q.map (· + N)) := by
  have hq : ∀ r, r ∈ (qs.map fun q => q.map (· + N)) ↔ ∃ q ∈ qs, q.map (· + N) = r := fun r => List.mem_map
  have lo : ∀ p ∈ ps, ∀ v ∈ p, v < N := fun p hp v hv => ((P.mem v).1 ⟨p, hp, hv⟩).1
  refine ⟨fun v => ?_, ?_, ?_, ?_, ?_, ?_, ?_⟩
  · constructor
    · rintro ⟨r, hr, hv⟩
      rcases List.mem_append.1 hr with hr | hr
      · obtain ⟨k1, k2⟩ := (P.mem v).1 ⟨r, hr, hv⟩
        exact ⟨by omega, fun h => k2 ((h1 v k1).1 h)⟩
      · obtain ⟨q, k1, rfl⟩ := (hq r).1 hr
        obtain ⟨w, hw, rfl⟩ := List.mem_map.1 hv
        obtain ⟨k2, k3⟩ := (Q.mem w).1 ⟨q, k1, hw⟩
        exact ⟨by omega, fun h => k3 ((h2 w).1 h)⟩
    · rintro ⟨hv, hO⟩
      by_cases h : v < N
      · obtain ⟨p, hp, hvp⟩ := (P.mem v).2 ⟨h, fun e => hO ((h1 v h).2 e)⟩
        exact ⟨p, List.mem_append_left _ hp, hvp⟩
      · have e : v = v - N + N := by omega
        obtain ⟨q, k1, k2⟩ := (Q.mem (v - N)).2 ⟨by omega, fun k => hO (by rw [e]; exact (h2 _).2 k)⟩
        exact ⟨q.map (· + N), List.mem_append_right _ ((hq _).2 ⟨q, k1, rfl⟩), List.mem_map.2 ⟨v - N, k2, by omega⟩⟩
  · intro r hr
    rcases List.mem_append.1 hr with hr | hr
    · exact P.ne r hr
    · obtain ⟨q, k1, rfl⟩ := (hq r).1 hr
      have := Q.ne q k1
      simpa using this
  · intro r hr
    rcases List.mem_append.1 hr with hr | hr
    · exact P.inc r hr
    · obtain ⟨q, k1, rfl⟩ := (hq r).1 hr
      exact List.pairwise_map.2 ((Q.inc q k1).imp fun h => by omega)
  · refine List.pairwise_append.2 ⟨P.heads, List.pairwise_map.2 (Q.heads.imp fun {p q} h a ha b hb => ?_), fun p hp r hr a ha b hb => ?_⟩
    · rw [List.head?_map] at ha hb
      obtain ⟨x, hx, rfl⟩ := Option.map_eq_some_iff.1 ha
      obtain ⟨y, hy, rfl⟩ := Option.map_eq_some_iff.1 hb
      have := h x hx y hy; omega
    · obtain ⟨q, k1, rfl⟩ := (hq r).1 hr
      have k2 := lo p hp a (head_mem ha)
      obtain ⟨y, hy, rfl⟩ := List.mem_map.1 (head_mem hb)
      omega
  · refine List.pairwise_append.2 ⟨P.disj, List.pairwise_map.2 (Q.disj.imp fun {p q} h v hv hv' => ?_), fun p hp r hr v hv hv' => ?_⟩
    · obtain ⟨x, hx, rfl⟩ := List.mem_map.1 hv
      obtain ⟨y, hy, e⟩ := List.mem_map.1 hv'
      have : y = x := by omega
      subst this; exact h y hx hy
    · obtain ⟨q, k1, rfl⟩ := (hq r).1 hr
      have k2 := lo p hp v hv
      obtain ⟨y, hy, rfl⟩ := List.mem_map.1 hv'
      omega
  · intro r hr a ha b hab hb hob
    rcases List.mem_append.1 hr with hr | hr
    · rcases adj_beside.1 hab with h | h
      · exact P.edge r hr a ha b h (g.adj_lt a b h).2 fun e => hob ((h1 b (g.adj_lt a b h).2).2 e)
      · obtain ⟨c, d, rfl, rfl, _⟩ := adj_shift.1 h
        have := lo r hr _ ha; omega
    · obtain ⟨q, k1, rfl⟩ := (hq r).1 hr
      obtain ⟨x, hx, rfl⟩ := List.mem_map.1 ha
      rcases adj_beside.1 hab with h | h
      · have := (g.adj_lt _ _ h).1; omega
      · obtain ⟨c, d, e1, rfl, h⟩ := adj_shift.1 h
        have : x = c := by omega
        subst this
        exact List.mem_map.2 ⟨d, Q.edge q k1 x hx d h (by omega) (fun e => hob ((h2 d).2 e)), rfl⟩
  · intro r hr f hf a ha b hb
    rcases List.mem_append.1 hr with hr | hr
    · have hfl : Flat es O1 f := fun x y h hx hy => hf x y (adj_beside.2 (.inl h)) (fun e => hx ((h1 x (g.adj_lt x y h).1).1 e)) (fun e => hy ((h1 y (g.adj_lt x y h).2).1 e))
      exact P.conn r hr f hfl a ha b hb
    · obtain ⟨q, k1, rfl⟩ := (hq r).1 hr
      obtain ⟨x, hx, rfl⟩ := List.mem_map.1 ha
      obtain ⟨y, hy, rfl⟩ := List.mem_map.1 hb
      have hfl : Flat hs O2 (fun v => f (v + N)) := fun x y h hx hy => hf _ _ (adj_beside.2 (.inr (adj_shift.2 ⟨x, y, rfl, rfl, h⟩))) (fun e => hx ((h2 x).1 e)) (fun e => hy ((h2 y).1 e))
      exact Q.conn q k1 (fun v => f (v + N)) hfl x hx y hy
theorem odd_beside (ps qs : List (List Nat)) (N : Nat) : oddCount (ps ++ qs.map fun q => q.map (· + N)) = oddCount ps + oddCount qs := by
 unfold oddCount
 rw [List.map_append, List.sum_append, List.map_map]
 congr 2
 exact List.map_congr_left fun q _ => by simp
end Go.Ga.Gl
namespace Go.Proofs.Ytmcfdfafeheihaa
open Go Go.Ga Go.Ga.Gl
theorem BP.of {N : Nat} {es : Es} (g : GR N es) {b : List Int} {x e : Int} (h : BP N (castE es) b x e) {ps : List (List Nat)} (h0 : bErr N (castE es) b = 0) (P : IsPieces N es (fun v => (v : Int) ∈ b) ps) : x = (oddCount ps : Int) - b.length ∧ e = 0 :=
 h.unique (.inr ⟨h0, ps, .inl ⟨rightB_GR g, N, es, rfl, rfl, g, P⟩, rfl, rfl⟩)
theorem bbeside_ok (n m : Int) (ends more : List Int) (a b : Int) (he : ends.length ≤ 1000000000) (hmo : more.length ≤ 1000000000) : ACalls Try.prog [] n_f5 [.sc (.int .i64 n), .sc (.int .i64 m), .imm 1 (ints ends), .imm 1 (ints more), .sc (.int .u64 a), .sc (.int .u64 b)] [] fun r h' => r = .sc (.bool true) ∧ h' = [] := by
 refine go_f5 rfl ?_
 unfold c_f5 v_f5
 refine wlk_sreg fun KY hKY => ?_
 simp only [go_sem, c_f5_r0]
 apply hKY
 refine wlk_sreg fun KY hKY => ?_
 simp only [go_sem, c_f5_r1]
 apply call_gen [] [] false none rfl
 iterate 8 (first | (simp only [go_sem, watchIn] <;> rfl) | rfl)
 refine (small_ok n ends 24 40 (by omega) (by omega) (by omega)).mono ?_
 rintro _ _ ⟨⟨N, es, g, hN, hm, rfl⟩, rfl⟩
 refine ⟨Nat.le_of_ble_eq_true rfl, (fun hh => by cases hh), ?_⟩
 simp only [go_sem, callOut, AState.after]
 apply call_gen [] [] false none rfl
 iterate 8 (first | (simp only [go_sem, watchIn] <;> rfl) | rfl)
 refine (small_ok m more 24 40 (by omega) (by omega) (by omega)).mono ?_
 rintro _ _ ⟨⟨M, hs, h, hM, hm2, rfl⟩, rfl⟩
 refine ⟨Nat.le_of_ble_eq_true rfl, (fun hh => by cases hh), ?_⟩
 simp only [go_sem, callOut, AState.after]
 apply hKY
 have gb := GR.beside g h (by omega) (by omega)
 have B := bsd_adj (M := M) (hs := hs) g
 refine wlk_sreg fun KY hKY => ?_
 simp only [go_sem, c_f5_r2]
 apply call_gen [] [] false none rfl
 iterate 8 (first | (simp only [go_sem, watchIn] <;> rfl) | rfl)
 refine (beside_ok g h).mono ?_
 rintro _ _ ⟨rfl, rfl⟩
 refine ⟨Nat.le_of_ble_eq_true rfl, (fun hh => by cases hh), ?_⟩
 simp only [go_sem, callOut, AState.after]
 apply hKY
 refine wlk_sdraw fun KY hKY => ?_
 simp only [go_sem, c_f5_r3]
 apply call_gen [] [] false none rfl
 iterate 8 (first | (simp only [go_sem, watchIn] <;> rfl) | rfl)
 refine (some_ok (n := N) (by omega) (.imm 2 (twos (castE es))) rfl a).mono ?_
 rintro _ _ ⟨⟨l, hl1, hl2, rfl⟩, rfl⟩
 refine ⟨Nat.le_of_ble_eq_true rfl, (fun hh => by cases hh), ?_⟩
 simp only [go_sem, callOut, AState.after]
 apply call_gen [] [] false none rfl
 iterate 8 (first | (simp only [go_sem, watchIn] <;> rfl) | rfl)
 refine (some_ok (n := M) (by omega) (.imm 2 (twos (castE hs))) rfl b).mono ?_
 rintro _ _ ⟨⟨k, hk1, hk2, rfl⟩, rfl⟩
 refine ⟨Nat.le_of_ble_eq_true rfl, (fun hh => by cases hh), ?_⟩
 simp only [go_sem, callOut, AState.after]
 apply hKY
 refine sem_freeze [0, 16] (by simp only [go_sem]; rfl) ?_
 simp only [go_sem]
 refine sem_freeze [0, 17] (by simp only [go_sem]; rfl) ?_
 simp only [go_sem]
 have hln : l.Nodup := hl1.imp fun h => Nat.ne_of_lt h
 have hkn : k.Nodup := hk1.imp fun h => Nat.ne_of_lt h
 have hll : l.length ≤ N := Nat.le_trans (nodup_le (m := List.range N) hln fun v hv => List.mem_range.2 (hl2 v hv)) (by simp)
 have hkl : k.length ≤ M := Nat.le_trans (nodup_le (m := List.range M) hkn fun v hv => List.mem_range.2 (hk2 v hv)) (by simp)
 have hjn : (l ++ k.map (· + N)).Nodup := by
  rw [List.nodup_append]
  refine ⟨hln, List.pairwise_map.2 (hkn.imp fun h e => h (by omega)), fun x hx y hy => ?_⟩
  obtain ⟨z, hz, rfl⟩ := List.mem_map.1 hy
  have := hl2 x hx
  omega
 have hjl : ∀ v ∈ l ++ k.map (· + N), v < N + M := fun v hv => by
  rcases List.mem_append.1 hv with h1 | h1
  · have := hl2 v h1; omega
  · obtain ⟨z, hz, rfl⟩ := List.mem_map.1 h1
    have := hk2 z hz; omega
 have e1 := bErr_nats g hln hl2
 have e2 := bErr_nats h hkn hk2
 have e3 := bErr_nats gb hjn hjl
 have c1 := black_ok N (castE es) (castN l) (by simp [castN]; omega)
 have c2 := black_ok M (castE hs) (castN k) (by simp [castN]; omega)
 have c3 := black_ok (N + M : Nat) (castE (besideE N es hs)) (castN (l ++ k.map (· + N))) (by simp [castN]; omega)
 rw [← nats_cast] at c1 c2 c3
 have hap : nats l ++ nats (k.map (· + N)) = nats (l ++ k.map (· + N)) := by simp [nats]
 have sh := shift_ok k N (by omega) (by omega) (fun v hv => by have := hk2 v hv; omega)
 refine wlk_sreg fun KY hKY => ?_
 simp only [go_sem, c_f5_r4]
 apply call_gen [] [] false none rfl
 iterate 8 (first | (simp only [go_sem, watchIn] <;> rfl) | rfl)
 refine (bnumber_ok g).mono ?_
 rintro _ _ ⟨⟨n1, ⟨m1, D1, A1, s1, hm1, F1, _, hn1'⟩, rfl⟩, rfl⟩
 refine ⟨Nat.le_of_ble_eq_true rfl, (fun hh => by cases hh), ?_⟩
 simp only [go_sem, callOut, AState.after]
 apply hKY
 refine wlk_sreg fun KY hKY => ?_
 simp only [go_sem, c_f5_r5]
 apply call_gen [] [] false none rfl
 iterate 8 (first | (simp only [go_sem, watchIn] <;> rfl) | rfl)
 refine (bnumber_ok h).mono ?_
 rintro _ _ ⟨⟨n2, ⟨m2, D2, A2, s2, hm2', F2, _, hn2'⟩, rfl⟩, rfl⟩
 refine ⟨Nat.le_of_ble_eq_true rfl, (fun hh => by cases hh), ?_⟩
 simp only [go_sem, callOut, AState.after]
 apply hKY
 refine wlk_sreg fun KY hKY => ?_
 simp only [go_sem, c_f5_r6]
 apply call_gen [] [] false none rfl
 iterate 8 (first | (simp only [go_sem, watchIn] <;> rfl) | rfl)
 refine (bnumber_ok gb).mono ?_
 rintro _ _ ⟨⟨n3, ⟨m3, D3, A3, s3, hm3, F3, _, hn3'⟩, rfl⟩, rfl⟩
 refine ⟨Nat.le_of_ble_eq_true rfl, (fun hh => by cases hh), ?_⟩
 simp only [go_sem, callOut, AState.after]
 apply hKY
 refine wlk_sreg fun KY hKY => ?_
 simp only [go_sem, c_f5_r7]
 apply call_gen [] [] false none rfl
 iterate 8 (first | (simp only [go_sem, watchIn] <;> rfl) | rfl)
 refine (c1).mono ?_
 rintro _ _ ⟨⟨x1, y1, hx1, rfl⟩, rfl⟩
 obtain ⟨rfl, ps, P, hp⟩ := hx1.lk g e1
 refine ⟨Nat.le_of_ble_eq_true rfl, (fun hh => by cases hh), ?_⟩
 simp only [go_sem, callOut, AState.after]
 apply hKY
 refine wlk_sreg fun KY hKY => ?_
 simp only [go_sem, c_f5_r8]
 apply call_gen [] [] false none rfl
 iterate 8 (first | (simp only [go_sem, watchIn] <;> rfl) | rfl)
 refine (c2).mono ?_
 rintro _ _ ⟨⟨x2, y2, hx2, rfl⟩, rfl⟩
 obtain ⟨rfl, qs, Q, hq⟩ := hx2.lk h e2
 refine ⟨Nat.le_of_ble_eq_true rfl, (fun hh => by cases hh), ?_⟩
 simp only [go_sem, callOut, AState.after]
 apply hKY
 have hlA : (castN l).length = l.length := by simp [castN]
 have hlB : (castN k).length = k.length := by simp [castN]
 have hlC : (castN (l ++ k.map (· + N))).length = l.length + k.length := by simp [castN]
 have PQ := IsPieces.besideO (O := fun v => (v : Int) ∈ castN (l ++ k.map (· + N))) g (fun v hv => by
  rw [castN_mem, castN_mem, List.mem_append]
  refine ⟨fun h => h.elim id fun h => ?_, .inl⟩
  obtain ⟨z, _, hz⟩ := List.mem_map.1 h
  omega) (fun v => by
  rw [castN_mem, castN_mem, List.mem_append]
  refine ⟨fun h => h.elim (fun h => ?_) fun h => ?_, fun h => .inr (List.mem_map.2 ⟨v, h, rfl⟩)⟩
  · have := hl2 _ h; omega
  · obtain ⟨z, hz, e⟩ := List.mem_map.1 h
    obtain rfl : z = v := by omega
    exact hz) P Q
 refine wlk_sdraw fun KY hKY => ?_
 simp only [go_sem, c_f5_r9, nats_len, (show l.length * 8 ≤ 140737488355328 by omega)]
 apply call_gen [] [] false none rfl
 iterate 8 (first | (simp only [go_sem, watchIn] <;> rfl) | rfl)
 refine (sh).mono ?_
 rintro _ _ ⟨rfl, rfl⟩
 refine ⟨Nat.le_of_ble_eq_true rfl, (fun hh => by cases hh), ?_⟩
 simp only [go_sem, callOut, AState.after, nats_len, List.length_map, (show (l.length + k.length) * 8 ≤ 140737488355328 by omega), hap]
 refine call_view rfl (by simp only [go_sem] <;> rfl) ((c3).mono ?_)
 rintro rr hh ⟨⟨x3, y3, hx3, rfl⟩, rfl⟩
 refine ⟨?_, ?_, ?_, ?_⟩
 iterate 3 (first | rfl | simp only [go_sem])
 obtain ⟨hr, rfl⟩ := hx3.of gb e3 PQ
 simp only [go_sem]
 apply hKY
 rw [odd_beside, hlC] at hr
 rw [hlA] at hp
 rw [hlB] at hq
 have o1 := pieces_len P
 have o2 := pieces_len Q
 have ob1 : oddCount ps ≤ N := Nat.le_trans (by rw [oddCount_eq]; exact List.length_filter_le _ _) o1
 have ob2 : oddCount qs ≤ M := Nat.le_trans (by rw [oddCount_eq]; exact List.length_filter_le _ _) o2
 have Fb := Fc.beside B F1 F2
 have f1 := Fb.lg.2 _ F3.m
 have f2 := F3.lg.2 _ Fb.m
 have f3 := fre_beside (N := N) (a := mf m1) F2.m
 have w1 : IntKind.i64.wrap ((n1 : Int) + (n2 : Int)) = (n3 : Int) := by rw [IntWalk.i64_in _ (by omega)]; omega
 have w2 : IntKind.i64.wrap (x1 + x2) = x3 := by rw [IntWalk.i64_in _ (by omega)]; omega
 refine wlk_sreg fun KY hKY => ?_
 simp only [go_sem, c_f5_r10]
 refine call_view rfl (by simp only [go_sem] <;> rfl) ((awake13_ok).mono ?_)
 rintro rr hh ⟨rfl, rfl⟩
 refine ⟨rfl, rfl, rfl, ?_⟩
 simp only [go_sem, w1, w2]
 apply hKY
 refine wlk_ret ?_
 simp only [go_sem]
theorem barrierBeside_all (As : List AVal) (b : Nat) (h : SAs Try.prog Try.f5.params.toList As b) (hb : b ≤ 1048576) : ACalls Try.prog [] 5 As [] fun r _ => r = .sc (.bool true) := by
 rw [Try.params5] at h
 obtain ⟨A1, As1, c1, d1, rfl, rfl, h1, h⟩ := sas_cons h
 obtain ⟨A2, As2, c2, d2, rfl, rfl, h2, h⟩ := sas_cons h
 obtain ⟨A3, As3, c3, d3, rfl, rfl, h3, h⟩ := sas_cons h
 obtain ⟨A4, As4, c4, d4, rfl, rfl, h4, h⟩ := sas_cons h
 obtain ⟨A5, As5, c5, d5, rfl, rfl, h5, h⟩ := sas_cons h
 obtain ⟨A6, As6, c6, d6, rfl, rfl, h6, h⟩ := sas_cons h
 obtain rfl := sas_nil h
 obtain ⟨x1, rfl, w1⟩ := sa_int Try.underlying3 h1
 obtain ⟨x2, rfl, w2⟩ := sa_int Try.underlying3 h2
 obtain ⟨x3, rfl, w3, e3⟩ := sa_ints Try.underlying22 Try.underlying3 (by kernel_rfl) h3
 obtain ⟨x4, rfl, w4, e4⟩ := sa_ints Try.underlying22 Try.underlying3 (by kernel_rfl) h4
 obtain ⟨x5, rfl, w5⟩ := sa_int Try.underlying23 h5
 obtain ⟨x6, rfl, w6⟩ := sa_int Try.underlying23 h6
 exact (bbeside_ok x1 x2 x3 x4 x5 x6 (by omega) (by omega)).mono fun _ _ h => h.1
end Go.Proofs.Ytmcfdfafeheihaa
namespace Go.Proofs.Ytmcfdfafeheihaa.barrierBesideend
open Go Go.Ga Go.ChangeShapes Go.WideShapes Go.ChangeAt Go.RowKit
theorem own : ownKnob Try.prog.godebug = none := by kernel_rfl
mutual
theorem bulk_at {H : Type} : ∀ d : DataW H, Rows.uptoBulk d = bulk d
 | .lit l => by cases l <;> simp [Rows.uptoBulk, bulk]
 | .nil => by simp [Rows.uptoBulk, bulk]
 | .ptr d => by simp [Rows.uptoBulk, bulk, bulk_at d]
 | .slice e s => by simp [Rows.uptoBulk, bulk, bulk_eq e, bulk_eq s]
 | .agg p => by simp [Rows.uptoBulk, bulk, bulk_eq p]
 | .iface _ d => by simp [Rows.uptoBulk, bulk, bulk_at d]
 | .map e => by simp [Rows.uptoBulk, bulk, bulk_es e]
 | .held _ => by simp [Rows.uptoBulk, bulk]
theorem bulk_eq {H : Type} : ∀ l : List (DataW H), Rows.uptoBulkAll l = bulkL l
 | [] => by simp [Rows.uptoBulkAll, bulkL]
 | d :: r => by simp [Rows.uptoBulkAll, bulkL, bulk_at d, bulk_eq r]
theorem bulk_es {H : Type} : ∀ l : List (Lit × DataW H), Rows.uptoBulkEntries l = bulkE l
 | [] => by simp [Rows.uptoBulkEntries, bulkE]
 | d :: r => by simp [Rows.uptoBulkEntries, bulkE, bulk_e d, bulk_es r]
theorem bulk_e {H : Type} : ∀ d : Lit × DataW H, Rows.uptoBulkEntry d = bulk1 d
 | (l, d) => by cases l <;> simp [Rows.uptoBulkEntry, bulk1, bulk_at d]
end
set_option maxRecDepth 100000 in
theorem plain : Plain Try.prog [3, 22, 23] := plain_of (by kernel_rfl)
set_option maxRecDepth 100000 in
theorem contract (H : Type) (enc : TypeId × Value → H) (W : World) (base : Nat) (args : Array Value) (ds gs : List (DataW H)) (before : List MemPlace)
    (hval : ∀ (j : Nat) t v, Try.f5.params[j]? = some t → args[j]? = some v → Value.okWide Try.prog W .any base t v)
    (hW : DataW.Whole enc Try.prog Try.f5.params.toList Rows.barrierBesideSpec.vars false W args.toList ds gs before) (hk : Rows.uptoSmall H (ds ++ gs) = true) :
    Calls Try.prog 5 args W fun e W' => ∃ v, e = .returned v ∧ Rows.barrierBesideSpec.post enc Try.prog Try.f5 false true false false W args v W' := by
  have hW' := hW
  obtain ⟨p, q, hA, hV, rfl, hfz, hnd⟩ := hW
  obtain ⟨rfl, rfl⟩ := Go.Ga.trodVars_nil hV
  have hb : bulkL (ds ++ []) ≤ 1048576 := by rw [← bulk_eq]; exact of_decide_eq_true hk
  have r0 : DataW.TrodAll enc Try.prog W 0 (fun _ => true) true Try.f5.params.toList args.toList ds p := hA
  rw [Try.params5] at r0
  obtain ⟨v0, vs0, d0, ds0, p0, q0, hv0, rfl, rfl, h0, r1⟩ := trodAll_cons r0
  obtain ⟨v1, vs1, d1, ds1, p1, q1, hv1, rfl, rfl, h1, r2⟩ := trodAll_cons r1
  obtain ⟨v2, vs2, d2, ds2, p2, q2, hv2, rfl, rfl, h2, r3⟩ := trodAll_cons r2
  obtain ⟨v3, vs3, d3, ds3, p3, q3, hv3, rfl, rfl, h3, r4⟩ := trodAll_cons r3
  obtain ⟨v4, vs4, d4, ds4, p4, q4, hv4, rfl, rfl, h4, r5⟩ := trodAll_cons r4
  obtain ⟨v5, vs5, d5, ds5, p5, q5, hv5, rfl, rfl, h5, r6⟩ := trodAll_cons r5
  obtain ⟨rfl, rfl, rfl⟩ := trodAll_nil r6
  exact contract_true plain hval (by rw [Try.params5]; decide) hW' rfl rfl rfl rfl (tb := 4) (by kernel_rfl) Try.underlying4 hb barrierBeside_all
set_option maxRecDepth 100000 in
theorem lifted (os : Os) (started : os.Started) (H : Type) (enc : TypeId × Value → H) (F : Stop.Interp) :
    ReturnsInHanded {} Try.checked os 5 .any ((Rows.OpenSpec.upto Rows.barrierBesideSpec).pre6 enc Try.prog Try.f5 Rows.barrierBesideUptoRow.domain false) (((Rows.OpenSpec.upto Rows.barrierBesideSpec).at F).post enc Try.prog Try.f5 false true false false) := by
  refine returnsInHanded_of_cond (C := Try.checked) (s := Rows.OpenSpec.upto Rows.barrierBesideSpec) (k := Rows.uptoSmall) rfl own started (by kernel_rfl) Try.func5
    (OpenSpec.witness (enc := enc) (C := Try.checked) (s := Rows.OpenSpec.upto Rows.barrierBesideSpec) (k := Rows.uptoSmall) rfl false ⟨#[], #[.int .i64 0, .int .i64 0, .slice none 0 0, .slice none 0 0, .int .u64 0, .int .u64 0], []⟩ 8 (by kernel_rfl) (by kernel_rfl) (by kernel_rfl)
      (x := ([.lit (.int .i64 0), .lit (.int .i64 0), .nil, .nil, .lit (.int .u64 0), .lit (.int .u64 0)], [], [])) (by kernel_rfl) rfl (by kernel_rfl)) ?_
  intro W base args ds gs before hval hW _ hk _
  exact contract H enc W base args ds gs before hval hW hk
theorem holds : Rows.BarrierBesideUptoSaid :=
 OpenClaim.holds_of_cond 5 Try.f5 rfl rfl rfl rfl rfl rfl rfl ⟨rfl, rfl, rfl, rfl, rfl⟩ rfl rfl rfl rfl rfl (by kernel_rfl) Try.func5 (by kernel_rfl)
  (of_decide_eq_true (by kernel_rfl)) (by unfold Func.isWrapper; first | (rw [if_pos (by decide +kernel)]; kernel_rfl) | (rw [if_neg (by decide +kernel)]; exact ⟨rfl, rfl⟩))
  (fun os started H enc _ F => lifted os started H enc F)
end Go.Proofs.Ytmcfdfafeheihaa.barrierBesideend
