/- A vertex more or less that is taken out: of D a largest matching has as many edges as before, of A and C one less; of A taken out what is in D stays in D. -/
import Derived.Test.YtkjppnofgmpeeaaMg1
set_option linter.all false
set_option maxRecDepth 100000
set_option maxHeartbeats 4000000
namespace Go.Proofs.Ytkjppnofgmpeeaa
open Go Go.Ga Go.Ga.Gl
theorem two_mk (a b : Int) : two (a, b) = [.sc (.int .i64 a), .sc (.int .i64 b)] := rfl
def cmpE (a b : Int × Int) : Int := if cmpI a.1 b.1 ≠ 0 then cmpI a.1 b.1 else cmpI a.2 b.2
theorem cmpE_lt (a b : Int × Int) : cmpE a b < 0 ↔ (a.1 < b.1 ∨ a.1 = b.1 ∧ a.2 < b.2) := by
 unfold cmpE cmpI
 repeat' split
 all_goals omega
theorem ocompare_ok (a b : Int × Int) : ACalls Try.prog [] n_f53 [.agg [], .agg (two a), .agg (two b)] [] fun r h' => r = .sc (.int .i64 (cmpE a b)) ∧ h' = [] := by
 obtain ⟨a1, a2⟩ := a
 obtain ⟨b1, b2⟩ := b
 simp only [two_mk]
 refine go_f53 rfl ?_
 unfold c_f53 v_f53
 refine wlk_sreg fun KY hKY => ?_
 simp only [go_sem, c_f53_r0]
 refine hKY _ ?_
 refine wlk_sdraw fun KY hKY => ?_
 simp only [go_sem, c_f53_r1]
 refine call_view rfl (by simp only [go_sem] <;> rfl) ((compare_ok _ _).mono ?_)
 rintro rr hh ⟨rfl, rfl⟩
 refine ⟨rfl, rfl, rfl, ?_⟩
 simp only [go_sem]
 refine call_view rfl (by simp only [go_sem] <;> rfl) ((compare_ok _ _).mono ?_)
 rintro rr hh ⟨rfl, rfl⟩
 refine ⟨rfl, rfl, rfl, ?_⟩
 simp only [go_sem]
 refine call_view rfl (by simp only [go_sem] <;> rfl) ((or_ok [cmpI a1 b1, cmpI a2 b2] (Nat.le_of_ble_eq_true rfl)).mono ?_)
 rintro rr hh ⟨rfl, rfl⟩
 refine ⟨rfl, rfl, rfl, ?_⟩
 simp only [go_sem]
 refine hKY _ ?_
 refine wlk_ret ?_
 simp only [go_sem]
 unfold cmpE
 by_cases h : cmpI a1 b1 = 0
 · by_cases h2 : cmpI a2 b2 = 0
   · simp [h, h2]
   · simp [h, h2]
 · simp [h]
theorem right_ok (n : Int) (es : List (Int × Int)) : ACalls Try.prog [] n_f38 [.agg [.sc (.int .i64 n), .imm 2 (twos es)]] [] fun r h' => r = .sc (.bool (rightB n es)) ∧ h' = [] := by
 refine go_f38 rfl ?_
 unfold c_f38 v_f38
 refine wlk_sreg fun KY hKY => ?_
 simp only [go_sem, c_f38_r0]
 refine hKY _ ?_
 refine wlk_seq fun X1 hn1 he1 hr1 => ?_
 by_cases h : 0 ≤ n ∧ n ≤ 4096 ∧ es.length ≤ 65536
 · obtain ⟨h0, h1, h2⟩ := h
   refine wlk_sreg fun KY hKY => ?_
   simp only [go_sem, c_f38_r1, twos_len, mul2]
   repeat (simp (disch := omega) only [if_pos, if_neg, decide_eq_true, decide_eq_false, incS, nats_get, ints_get, twos_len, mul2]; try simp only [go_sem, twos_len, mul2])
   refine hKY _ ?_
   refine wlk_cond0 (by first | rfl | (simp only [go_sem]; try simp (disch := omega) only [decide_eq_true, decide_eq_false])) ?_
   refine wlk_skip ?_
   repeat (first | refine hn1 _ ?_ | refine he1 _ _ ?_)
   refine wlk_sreg fun KY hKY => ?_
   simp only [go_sem, c_f38_r3]
   refine hKY _ ?_
   refine wlk_seq fun X2 hn2 he2 hr2 => ?_
   refine wlk_sreg fun KY hKY => ?_
   simp only [go_sem, c_f38_r4, twos_len, mul2]
   refine hKY _ ?_
   refine wlk_blk fun X3 hn3 he3 hf3 hr3 => ?_
   try simp only [go_sem]
   refine wlk_lp (α := Nat) [4, 5, 26, 62] (fun k => [(25, .sc (.int .i64 (k : Int)))]) (fun k => []) (fun k q => k ≤ es.length ∧ q = es.length - k ∧ ∀ j, j < k → okAt n es j = true) (0) (es.length) rfl (by first | (simp only [go_sem, updAll_cons, updAll_nil]; done) | with_reducible rfl | rfl) (⟨by omega, rfl, fun j h => by omega⟩) ?_
   rintro k q ⟨hk, rfl, hz⟩ X4 hn4 he4 hr4
   simp only [go_sem, updAll_cons, updAll_nil]
   refine wlk_sreg fun KY hKY => ?_
   simp only [go_sem, c_f38_r5]
   refine hKY _ ?_
   refine wlk_seq fun X5 hn5 he5 hr5 => ?_
   by_cases hk2 : k < es.length
   · refine wlk_cond1 (by first | rfl | (simp only [go_sem]; try simp (disch := omega) only [decide_eq_true, decide_eq_false])) ?_
     refine wlk_skip ?_
     repeat (first | refine hn5 _ ?_ | refine he5 _ _ ?_ | refine he4 _ _ ?_ | refine hn3 _ ?_ | refine he3 _ ?_ | refine hf3 _ _ (by decide) ?_ | refine hn2 _ ?_ | refine he2 _ _ ?_ | refine hn1 _ ?_ | refine he1 _ _ ?_)
     refine wlk_seq fun X6 hn6 he6 hr6 => ?_
     refine wlk_blk fun X7 hn7 he7 hf7 hr7 => ?_
     have hx : es[k]? = some es[k] := List.getElem?_eq_getElem hk2
     have hy : es.getD k (0, 0) = es[k] := by simp [List.getD_eq_getElem?_getD, hx]
     generalize es[k] = x at hx hy
     obtain ⟨a, b⟩ := x
     refine wlk_sreg fun KY hKY => ?_
     simp only [go_sem, c_f38_r6, two_cells hx, List.length_drop]
     repeat (simp (disch := omega) only [if_pos, if_neg, decide_eq_true, decide_eq_false, incS, nats_get, ints_get, two_cells hx, List.length_drop]; try simp only [go_sem, two_cells hx, List.length_drop])
     refine hKY _ ?_
     have hiff : okAt n es k = true ↔ 0 ≤ a ∧ a < b ∧ b < n ∧ (k = 0 ∨ ((es.getD (k - 1) (0, 0)).1 < a ∨ (es.getD (k - 1) (0, 0)).1 = a ∧ (es.getD (k - 1) (0, 0)).2 < b)) := by
      simp only [okAt, hy, Bool.and_eq_true, Bool.or_eq_true, decide_eq_true_eq, and_assoc]
     by_cases ha : a < 0
     · have hf : okAt n es k = false := by rw [Bool.eq_false_iff]; intro h; have := hiff.1 h; omega
       refine wlk_sdraw fun KY hKY => ?_
       simp only [go_sem, c_f38_r7, ha]
       repeat (simp (disch := omega) only [if_pos, if_neg, decide_eq_true, decide_eq_false, incS, nats_get, ints_get, ha]; try simp only [go_sem, ha])
       refine hKY _ ?_
       refine wlk_cond1 (by first | rfl | (simp only [go_sem]; try simp (disch := omega) only [decide_eq_true, decide_eq_false])) ?_
       refine wlk_sreg fun KY hKY => ?_
       simp only [go_sem, c_f38_r8]
       refine hKY _ ?_
       refine wlk_ret ?_
       repeat (first | refine hr7 _ ?_ | refine hr6 _ ?_ | refine hr5 _ ?_ | refine hr4 _ ?_ | refine hr3 _ ?_ | refine hr2 _ ?_ | refine hr1 _ ?_)
       simp only [go_sem]
       rw [rightB_false hk2 hf]
     · by_cases hb : b ≤ a
       · have hf : okAt n es k = false := by rw [Bool.eq_false_iff]; intro h; have := hiff.1 h; omega
         refine wlk_sdraw fun KY hKY => ?_
         simp only [go_sem, c_f38_r7, ha, hb]
         repeat (simp (disch := omega) only [if_pos, if_neg, decide_eq_true, decide_eq_false, incS, nats_get, ints_get, ha, hb]; try simp only [go_sem, ha, hb])
         refine hKY _ ?_
         refine wlk_cond1 (by first | rfl | (simp only [go_sem]; try simp (disch := omega) only [decide_eq_true, decide_eq_false])) ?_
         refine wlk_sreg fun KY hKY => ?_
         simp only [go_sem, c_f38_r8]
         refine hKY _ ?_
         refine wlk_ret ?_
         repeat (first | refine hr7 _ ?_ | refine hr6 _ ?_ | refine hr5 _ ?_ | refine hr4 _ ?_ | refine hr3 _ ?_ | refine hr2 _ ?_ | refine hr1 _ ?_)
         simp only [go_sem]
         rw [rightB_false hk2 hf]
       · by_cases hc : n ≤ b
         · have hf : okAt n es k = false := by rw [Bool.eq_false_iff]; intro h; have := hiff.1 h; omega
           refine wlk_sdraw fun KY hKY => ?_
           simp only [go_sem, c_f38_r7, ha, hb, hc]
           repeat (simp (disch := omega) only [if_pos, if_neg, decide_eq_true, decide_eq_false, incS, nats_get, ints_get, ha, hb, hc]; try simp only [go_sem, ha, hb, hc])
           refine hKY _ ?_
           refine wlk_cond1 (by first | rfl | (simp only [go_sem]; try simp (disch := omega) only [decide_eq_true, decide_eq_false])) ?_
           refine wlk_sreg fun KY hKY => ?_
           simp only [go_sem, c_f38_r8]
           refine hKY _ ?_
           refine wlk_ret ?_
           repeat (first | refine hr7 _ ?_ | refine hr6 _ ?_ | refine hr5 _ ?_ | refine hr4 _ ?_ | refine hr3 _ ?_ | refine hr2 _ ?_ | refine hr1 _ ?_)
           simp only [go_sem]
           rw [rightB_false hk2 hf]
         · cases k with
           | zero =>
             have ht : okAt n es 0 = true := hiff.2 (by omega)
             refine wlk_sdraw fun KY hKY => ?_
             simp only [go_sem, c_f38_r7, ha, hb, hc, show ((0:Nat):Int) = 0 from rfl]
             repeat (simp (disch := omega) only [if_pos, if_neg, decide_eq_true, decide_eq_false, incS, nats_get, ints_get, ha, hb, hc, show ((0:Nat):Int) = 0 from rfl]; try simp only [go_sem, ha, hb, hc, show ((0:Nat):Int) = 0 from rfl])
             refine hKY _ ?_
             refine wlk_cond0 (by first | rfl | (simp only [go_sem]; try simp (disch := omega) only [decide_eq_true, decide_eq_false])) ?_
             refine wlk_skip ?_
             repeat (first | refine hn7 _ ?_ | refine he7 _ ?_ | refine hf7 _ _ (by decide) ?_ | refine hn6 _ ?_ | refine he6 _ _ ?_ | refine hn5 _ ?_ | refine he5 _ _ ?_ | refine he4 _ _ ?_ | refine hn3 _ ?_ | refine he3 _ ?_ | refine hf3 _ _ (by decide) ?_ | refine hn2 _ ?_ | refine he2 _ _ ?_ | refine hn1 _ ?_ | refine he1 _ _ ?_)
             refine wlk_reg fun KY hKY => ?_
             simp only [go_sem, c_f38_r9]
             repeat (simp (disch := omega) only [if_pos, if_neg, decide_eq_true, decide_eq_false, incS, nats_get, ints_get]; try simp only [go_sem])
             refine hKY _ ?_
             repeat (first | refine hn7 _ ?_ | refine he7 _ ?_ | refine hf7 _ _ (by decide) ?_ | refine hn6 _ ?_ | refine he6 _ _ ?_ | refine hn5 _ ?_ | refine he5 _ _ ?_)
             refine hn4 _ (0 + 1) (es.length - (0 + 1)) (by omega) (by first | (simp only [go_sem, updAll_cons, updAll_nil]; done) | with_reducible rfl | rfl) ?_
             refine ⟨hk2, rfl, fun j hj => ?_⟩
             rcases Nat.lt_or_ge j (0) with h3 | h3
             · exact hz j h3
             · have : j = 0 := by omega
               subst this; exact ht
           | succ m =>
             have hm : es[m]? = some (es[m]'(by omega)) := List.getElem?_eq_getElem _
             have hmy : es.getD (m + 1 - 1) (0, 0) = es[m]'(by omega) := by simp [List.getD_eq_getElem?_getD, hm]
             generalize es[m]'(by omega) = x at hm hmy
             obtain ⟨c, d⟩ := x
             rw [hmy] at hiff
             have hm0 : ¬ (((m + 1 : Nat) : Int) ≤ 0) := by omega
             refine wlk_sdraw fun KY hKY => ?_
             simp only [go_sem, c_f38_r7, ha, hb, hc, decS, two_cells hm, List.length_drop]
             repeat (simp (disch := omega) only [if_pos, if_neg, decide_eq_true, decide_eq_false, incS, nats_get, ints_get, ha, hb, hc, decS, two_cells hm, List.length_drop]; try simp only [go_sem, ha, hb, hc, decS, two_cells hm, List.length_drop])
             refine call_view rfl (by simp only [go_sem] <;> rfl) ((ocompare_ok (c, d) (a, b)).mono ?_)
             rintro rr hh ⟨rfl, rfl⟩
             refine ⟨rfl, rfl, rfl, ?_⟩
             have hlt := cmpE_lt (c, d) (a, b)
             simp only at hlt
             by_cases hq : 0 ≤ cmpE (c, d) (a, b)
             · have hf : okAt n es (m + 1) = false := by rw [Bool.eq_false_iff]; intro h; have := (hiff.1 h).2.2.2; simp only at this; omega
               try simp only [go_sem, hq]
               repeat (simp (disch := omega) only [if_pos, if_neg, decide_eq_true, decide_eq_false, incS, nats_get, ints_get, hq]; try simp only [go_sem, hq])
               refine hKY _ ?_
               refine wlk_cond1 (by first | rfl | (simp only [go_sem]; try simp (disch := omega) only [decide_eq_true, decide_eq_false])) ?_
               refine wlk_sreg fun KY hKY => ?_
               simp only [go_sem, c_f38_r8]
               refine hKY _ ?_
               refine wlk_ret ?_
               repeat (first | refine hr7 _ ?_ | refine hr6 _ ?_ | refine hr5 _ ?_ | refine hr4 _ ?_ | refine hr3 _ ?_ | refine hr2 _ ?_ | refine hr1 _ ?_)
               simp only [go_sem]
               rw [rightB_false hk2 hf]
             · have ht : okAt n es (m + 1) = true := hiff.2 (by simp only; omega)
               try simp only [go_sem, hq]
               repeat (simp (disch := omega) only [if_pos, if_neg, decide_eq_true, decide_eq_false, incS, nats_get, ints_get, hq]; try simp only [go_sem, hq])
               refine hKY _ ?_
               refine wlk_cond0 (by first | rfl | (simp only [go_sem]; try simp (disch := omega) only [decide_eq_true, decide_eq_false])) ?_
               refine wlk_skip ?_
               repeat (first | refine hn7 _ ?_ | refine he7 _ ?_ | refine hf7 _ _ (by decide) ?_ | refine hn6 _ ?_ | refine he6 _ _ ?_ | refine hn5 _ ?_ | refine he5 _ _ ?_ | refine he4 _ _ ?_ | refine hn3 _ ?_ | refine he3 _ ?_ | refine hf3 _ _ (by decide) ?_ | refine hn2 _ ?_ | refine he2 _ _ ?_ | refine hn1 _ ?_ | refine he1 _ _ ?_)
               refine wlk_reg fun KY hKY => ?_
               simp only [go_sem, c_f38_r9]
               repeat (simp (disch := omega) only [if_pos, if_neg, decide_eq_true, decide_eq_false, incS, nats_get, ints_get]; try simp only [go_sem])
               refine hKY _ ?_
               repeat (first | refine hn7 _ ?_ | refine he7 _ ?_ | refine hf7 _ _ (by decide) ?_ | refine hn6 _ ?_ | refine he6 _ _ ?_ | refine hn5 _ ?_ | refine he5 _ _ ?_)
               refine hn4 _ (m + 1 + 1) (es.length - (m + 1 + 1)) (by omega) (by first | (simp only [go_sem, updAll_cons, updAll_nil]; done) | with_reducible rfl | rfl) ?_
               refine ⟨hk2, rfl, fun j hj => ?_⟩
               rcases Nat.lt_or_ge j (m + 1) with h3 | h3
               · exact hz j h3
               · have : j = m + 1 := by omega
                 subst this; exact ht
   · refine wlk_cond0 (by first | rfl | (simp only [go_sem]; try simp (disch := omega) only [decide_eq_true, decide_eq_false])) ?_
     refine wlk_exit ?_
     repeat (first | refine hn5 _ ?_ | refine he5 _ _ ?_ | refine he4 _ _ ?_ | refine hn3 _ ?_ | refine he3 _ ?_ | refine hf3 _ _ (by decide) ?_ | refine hn2 _ ?_ | refine he2 _ _ ?_ | refine hn1 _ ?_ | refine he1 _ _ ?_)
     refine wlk_sreg fun KY hKY => ?_
     simp only [go_sem, c_f38_r10]
     refine hKY _ ?_
     refine wlk_ret ?_
     repeat (first | refine hr5 _ ?_ | refine hr4 _ ?_ | refine hr3 _ ?_ | refine hr2 _ ?_ | refine hr1 _ ?_)
     simp only [go_sem]
     rw [rightB_true h0 h1 h2 fun i hi => hz i (by omega)]
 · by_cases h0 : n < 0
   · refine wlk_sreg fun KY hKY => ?_
     simp only [go_sem, c_f38_r1, h0]
     repeat (simp (disch := omega) only [if_pos, if_neg, decide_eq_true, decide_eq_false, incS, nats_get, ints_get, h0]; try simp only [go_sem, h0])
     refine hKY _ ?_
     refine wlk_cond1 (by first | rfl | (simp only [go_sem]; try simp (disch := omega) only [decide_eq_true, decide_eq_false])) ?_
     refine wlk_sreg fun KY hKY => ?_
     simp only [go_sem, c_f38_r2]
     refine hKY _ ?_
     refine wlk_ret ?_
     repeat (first | refine hr1 _ ?_)
     simp only [go_sem]
     rw [show rightB n es = false by rw [Bool.eq_false_iff]; intro h'; simp only [rightB, Bool.and_eq_true, decide_eq_true_eq] at h'; omega]
   · by_cases h1 : 4096 < n
     · refine wlk_sreg fun KY hKY => ?_
       simp only [go_sem, c_f38_r1, h0, h1]
       repeat (simp (disch := omega) only [if_pos, if_neg, decide_eq_true, decide_eq_false, incS, nats_get, ints_get, h0, h1]; try simp only [go_sem, h0, h1])
       refine hKY _ ?_
       refine wlk_cond1 (by first | rfl | (simp only [go_sem]; try simp (disch := omega) only [decide_eq_true, decide_eq_false])) ?_
       refine wlk_sreg fun KY hKY => ?_
       simp only [go_sem, c_f38_r2]
       refine hKY _ ?_
       refine wlk_ret ?_
       repeat (first | refine hr1 _ ?_)
       simp only [go_sem]
       rw [show rightB n es = false by rw [Bool.eq_false_iff]; intro h'; simp only [rightB, Bool.and_eq_true, decide_eq_true_eq] at h'; omega]
     · refine wlk_sreg fun KY hKY => ?_
       simp only [go_sem, c_f38_r1, h0, h1]
       repeat (simp (disch := omega) only [if_pos, if_neg, decide_eq_true, decide_eq_false, incS, nats_get, ints_get, h0, h1]; try simp only [go_sem, h0, h1])
       refine hKY _ ?_
       refine wlk_cond1 (by first | rfl | (simp only [go_sem]; try simp (disch := omega) only [decide_eq_true, decide_eq_false])) ?_
       refine wlk_sreg fun KY hKY => ?_
       simp only [go_sem, c_f38_r2]
       refine hKY _ ?_
       refine wlk_ret ?_
       repeat (first | refine hr1 _ ?_)
       simp only [go_sem]
       rw [show rightB n es = false by rw [Bool.eq_false_iff]; intro h'; simp only [rightB, Bool.and_eq_true, decide_eq_true_eq] at h'; omega]
end Go.Proofs.Ytkjppnofgmpeeaa
set_option maxRecDepth 100000
set_option maxHeartbeats 4000000
namespace Go.Proofs.Ytkjppnofgmpeeaa
open Go Go.Ga Go.Ga.Gl
theorem inc (k : Nat) (h : k ≤ 1000000000) : IntKind.i64.wrap ((k : Int) + 1) = ((k + 1 : Nat) : Int) := by rw [IntWalk.i64_in _ (by omega)]; omega
theorem nats_ints (xs : List Nat) : nats xs = ints (xs.map fun (n : Nat) => (n : Int)) := by simp [nats, ints]
theorem ints_at {xs : List Int} {k : Nat} {x : Int} (h : xs[k]? = some x) : (ints xs)[k]? = some (.sc (.int .i64 x)) := by simp [ints, h]
theorem eqi_ok (x y : Int) : ACalls Try.prog [] n_f33 [.sc (.int .i64 x), .sc (.int .i64 y)] [] fun r h' => r = .sc (.bool (decide (x = y))) ∧ h' = [] := by
 refine go_f33 rfl ?_
 unfold c_f33 v_f33
 refine wlk_sreg fun KY hKY => ?_
 simp only [go_sem, c_f33_r0]
 refine hKY _ ?_
 refine wlk_sreg fun KY hKY => ?_
 simp only [go_sem, c_f33_r1]
 refine hKY _ ?_
 refine wlk_ret ?_
 simp only [go_sem]
theorem alike_snoc {α : Type} [DecidableEq α] {xs ys : List α} {k : Nat} {x y : α} (hx : xs[k]? = some x) (hy : ys[k]? = some y) (h : xs.take k = ys.take k) : xs.take (k + 1) = ys.take (k + 1) ↔ x = y := by
 rw [List.take_add_one, List.take_add_one, hx, hy, h]
 simp
theorem samei_ok (xs ys : List Int) (hb : xs.length ≤ 1000000000) : ACalls Try.prog [] n_f32 [.imm 1 (ints xs), .imm 1 (ints ys), .fn (.func n_f33) [] []] [] fun r h' => r = .sc (.bool (decide (xs = ys))) ∧ h' = [] := by
 refine go_f32 rfl ?_
 unfold c_f32 v_f32
 refine wlk_sreg fun KY hKY => ?_
 simp only [go_sem, c_f32_r0]
 refine hKY _ ?_
 refine wlk_seq fun X1 hn1 he1 hr1 => ?_
 refine wlk_sreg fun KY hKY => ?_
 simp only [go_sem, c_f32_r1, Nat.div_one, ints_len]
 refine hKY _ ?_
 simp only [go_sem]
 by_cases hl : xs.length = ys.length
 case neg =>
  have hl' : decide (((xs.length : Nat) : Int) ≠ ((ys.length : Nat) : Int)) = true := decide_eq_true (by omega)
  refine wlk_cond1 (by simp only [go_sem, hl']) ?_
  refine wlk_sreg fun KY hKY => ?_
  simp only [go_sem, c_f32_r2]
  refine hKY _ ?_
  refine wlk_ret (hr1 _ ?_)
  simp only [go_sem]
  rw [decide_eq_false (fun e : xs = ys => hl (by rw [e]))]
 have hl' : decide (((xs.length : Nat) : Int) ≠ ((ys.length : Nat) : Int)) = false := decide_eq_false (by omega)
 refine wlk_cond0 (by simp only [go_sem, hl']) (wlk_skip (hn1 _ ?_))
 refine wlk_seq fun X2 hn2 he2 hr2 => ?_
 refine wlk_sreg fun KY hKY => ?_
 simp only [go_sem, c_f32_r3]
 refine hKY _ ?_
 refine wlk_blk fun X3 hn3 he3 hf3 hr3 => ?_
 refine wlk_loop (fun m s => ∃ (k : Nat) (A16 A29 : AVal), k ≤ xs.length ∧ m = xs.length - k ∧ xs.take k = ys.take k ∧ s = { vs := [(0, .imm 1 (ints xs)), (1, .imm 1 (ints ys)), (2, .fn (.func n_f33) [] []), (6, .sc (.bool false)), (7, .sc (.int .i64 (k : Int))), (12, .sc (.bool (decide (((xs.length : Nat) : Int) ≠ ((ys.length : Nat) : Int))))), (16, A16), (29, A29)], ts := [], h := [] }) xs.length ⟨0, .dead, .dead, Nat.zero_le _, rfl, rfl, ?_⟩ ?_
 · rfl
 rintro m _ ⟨k, A16, A29, hk, rfl, hpre, rfl⟩ X4 hn4 he4 hr4
 refine sem_forget [16, 29] rfl ?_
 simp only [go_sem]
 refine wlk_seq fun X5 hn5 he5 hr5 => ?_
 refine wlk_seq fun X6 hn6 he6 hr6 => ?_
 refine wlk_reg fun KY hKY => ?_
 simp only [go_sem, c_f32_r4, Nat.div_one, ints_len]
 refine hKY _ (hn6 _ ?_)
 simp only [go_sem]
 refine wlk_cond (v := decide ((k : Int) < (xs.length : Int))) rfl (fun h => wlk_skip (hn5 _ ?_)) fun h => wlk_exit (he5 _ _ (he4 _ _ (he3 _ (hn2 _ ?_))))
 · have hlt : k < xs.length := by have := of_decide_eq_true h; omega
   have hlt2 : k < ys.length := by omega
   have hx : xs[k]? = some xs[k] := List.getElem?_eq_getElem hlt
   have hy : ys[k]? = some ys[k] := List.getElem?_eq_getElem hlt2
   have st := alike_snoc hx hy hpre
   refine wlk_seq fun X7 hn7 he7 hr7 => ?_
   refine wlk_blk fun X8 hn8 he8 hf8 hr8 => ?_
   refine wlk_sdraw fun KY hKY => ?_
   simp only [go_sem, c_f32_r5, ints_len, ints_at hx, ints_at hy, hlt, hlt2]
   refine call_view rfl (by simp only [go_sem] <;> rfl) ((eqi_ok xs[k] ys[k]).mono ?_)
   rintro rr hh ⟨rfl, rfl⟩
   refine ⟨rfl, rfl, rfl, ?_⟩
   simp only [go_sem]
   refine hKY _ ?_
   simp only [go_sem]
   by_cases e : xs[k] = ys[k]
   · refine wlk_cond0 (by simp only [go_sem, decide_eq_true e]) (wlk_skip (hn8 _ (hn7 _ ?_)))
     refine wlk_reg fun KY hKY => ?_
     simp only [go_sem, c_f32_r7, inc k (by omega)]
     refine hKY _ (hn4 (xs.length - (k + 1)) _ (by omega) ?_)
     simp only [go_sem]
     exact ⟨k + 1, _, _, hlt, rfl, st.2 e, rfl⟩
   · refine wlk_cond1 (by simp only [go_sem, decide_eq_false e]) ?_
     refine wlk_sreg fun KY hKY => ?_
     simp only [go_sem, c_f32_r6]
     refine hKY _ ?_
     refine wlk_ret (hr8 _ (hr7 _ (hr4 _ (hr3 _ (hr2 _ ?_)))))
     simp only [go_sem]
     rw [decide_eq_false (fun e' : xs = ys => e (by subst e'; rfl))]
 · have hkn : k = xs.length := by have := of_decide_eq_false h; omega
   refine wlk_sreg fun KY hKY => ?_
   simp only [go_sem, c_f32_r8]
   refine hKY _ ?_
   refine wlk_ret ?_
   simp only [go_sem]
   rw [hkn, List.take_length, hl, List.take_length] at hpre
   rw [decide_eq_true hpre]
theorem plaini_ok (xs ys : List Int) (hb : xs.length ≤ 1000000000) : ACalls Try.prog [] n_f14 [.imm 1 (ints xs), .imm 1 (ints ys)] [] fun r h' => r = .sc (.bool (decide (xs = ys))) ∧ h' = [] := by
 refine go_f14 rfl ?_
 unfold c_f14 v_f14
 refine wlk_sreg fun KY hKY => ?_
 simp only [go_sem, c_f14_r0]
 refine hKY _ ?_
 refine wlk_sreg fun KY hKY => ?_
 simp only [go_sem, c_f14_r1]
 refine call_view rfl (by simp only [go_sem] <;> rfl) ((samei_ok xs ys hb).mono ?_)
 rintro rr hh ⟨rfl, rfl⟩
 refine ⟨rfl, rfl, rfl, ?_⟩
 simp only [go_sem]
 refine hKY _ ?_
 refine wlk_ret ?_
 simp only [go_sem]
theorem plainn_ok (xs ys : List Nat) (hb : xs.length ≤ 1000000000) : ACalls Try.prog [] n_f14 [.imm 1 (nats xs), .imm 1 (nats ys)] [] fun r h' => r = .sc (.bool (decide (xs = ys))) ∧ h' = [] := by
 rw [nats_ints, nats_ints]
 refine (plaini_ok _ _ (by simpa using hb)).mono fun r h' ⟨h1, h2⟩ => ⟨?_, h2⟩
 rw [h1]
 congr 2
 rw [decide_eq_decide]
 refine ⟨fun h => ?_, fun h => by rw [h]⟩
 exact List.map_inj_right (fun a b hab => by omega) |>.1 h
end Go.Proofs.Ytkjppnofgmpeeaa

namespace Go.Ga.Gl
open Go Go.Ga
end Go.Ga.Gl

namespace Go.Ga.Gl
open Go Go.Ga
end Go.Ga.Gl

namespace Go.Ga.Gl
open Go Go.Ga
structure LI (n : Nat) (es : Es) (O : Nat → Prop) (lab : List Int) : Prop where
 len : lab.length = n
 out : ∀ v, v < n → (lab.getD v 0 < 0 ↔ O v)
 low : ∀ v, v < n → ¬ O v → 0 ≤ lab.getD v 0 ∧ lab.getD v 0 ≤ v ∧ ¬ O (lab.getD v 0).toNat
 conn : ∀ f, Flat es O f → ∀ v, v < n → ¬ O v → f v = f (lab.getD v 0).toNat
theorem getD_set (l : List Int) (v w : Nat) (k : Int) (h : v < l.length) : (l.set v k).getD w 0 = if w = v then k else l.getD w 0 := by
 simp only [List.getD_eq_getElem?_getD, List.getElem?_set]
 by_cases e : v = w
 · subst e; simp [h]
 · simp [e, Ne.symm e]
def lab2 (lab : List Int) (a b : Nat) : List Int := (lab.set a (min (lab.getD a 0) (lab.getD b 0))).set b (min (lab.getD a 0) (lab.getD b 0))
theorem lab2_get {lab : List Int} {a b w : Nat} (ha : a < lab.length) (hb : b < lab.length) : (lab2 lab a b).getD w 0 = if w = a ∨ w = b then min (lab.getD a 0) (lab.getD b 0) else lab.getD w 0 := by
 unfold lab2
 rw [getD_set _ _ _ _ (by simpa using hb), getD_set _ _ _ _ ha]
 by_cases h1 : w = b
 · simp [h1]
 · by_cases h2 : w = a
   · simp [h2]
   · simp [h1, h2]
theorem LI.step {n : Nat} {es : Es} {O : Nat → Prop} {lab : List Int} (w : LI n es O lab) {a b : Nat} (hab : adj es a b) (han : a < n) (hbn : b < n) (h1 : ¬ lab.getD a 0 < 0) (h2 : ¬ lab.getD b 0 < 0) : LI n es O (lab2 lab a b) := by
 have oa : ¬ O a := fun h => h1 ((w.out a han).2 h)
 have ob : ¬ O b := fun h => h2 ((w.out b hbn).2 h)
 have la := w.low a han oa
 have lb := w.low b hbn ob
 have hal : a < lab.length := by rw [w.len]; exact han
 have hbl : b < lab.length := by rw [w.len]; exact hbn
 have hk : ∃ c, (c = a ∨ c = b) ∧ min (lab.getD a 0) (lab.getD b 0) = lab.getD c 0 := by
  rcases Int.le_total (lab.getD a 0) (lab.getD b 0) with h | h
  · exact ⟨a, .inl rfl, Int.min_eq_left h⟩
  · exact ⟨b, .inr rfl, Int.min_eq_right h⟩
 refine ⟨by unfold lab2; simp [w.len], fun v hv => ?_, fun v hv ho => ?_, fun f hf v hv ho => ?_⟩
 · rw [lab2_get hal hbl]
   split
   · rename_i h
     rcases h with rfl | rfl
     · constructor
       · intro h; omega
       · intro h; exact absurd h oa
     · constructor
       · intro h; omega
       · intro h; exact absurd h ob
   · exact w.out v hv
 · rw [lab2_get hal hbl]
   split
   · rename_i h
     obtain ⟨c, hc, e⟩ := hk
     refine ⟨by omega, by rcases h with rfl | rfl <;> omega, ?_⟩
     rw [e]
     rcases hc with rfl | rfl
     · exact la.2.2
     · exact lb.2.2
   · exact w.low v hv ho
 · rw [lab2_get hal hbl]
   split
   · rename_i h
     obtain ⟨c, hc, e⟩ := hk
     rw [e]
     have e1 := hf a b hab oa ob
     have ea := w.conn f hf a han oa
     have eb := w.conn f hf b hbn ob
     rcases h with rfl | rfl <;> rcases hc with rfl | rfl
     · exact ea
     · rw [e1, eb]
     · rw [← e1, ea]
     · exact eb
   · exact w.conn f hf v hv ho
end Go.Ga.Gl

namespace Go.Ga.Gl
open Go Go.Ga
def ow (m : List Int) (x y : Nat) : Bool := decide (m.getD x 0 = (y : Int))
def marks (n : Nat) (l : Es) : List Bool := l.foldl (fun m e => (m.set e.1 true).set e.2 true) (List.replicate n false)
theorem getD_setB (l : List Bool) (v w : Nat) (h : v < l.length) : (l.set v true).getD w false = (decide (v = w) || l.getD w false) := by
 simp only [List.getD_eq_getElem?_getD, List.getElem?_set]
 by_cases e : v = w
 · subst e; simp [h]
 · simp [e]
structure Mt (N : Nat) (es : Es) (m : List Int) : Prop where
 len : m.length = N
 at_ : ∀ v, v < N → m.getD v 0 = -1 ∨ ∃ w : Nat, m.getD v 0 = (w : Int) ∧ w < N ∧ w ≠ v ∧ adj es v w ∧ m.getD w 0 = (v : Int)
theorem Mt.back {N : Nat} {es : Es} {m : List Int} (M : Mt N es m) {v w : Nat} (hv : v < N) (h : m.getD v 0 = (w : Int)) : w < N ∧ w ≠ v ∧ adj es v w ∧ m.getD w 0 = (v : Int) := by
 rcases M.at_ v hv with h1 | ⟨u, h1, h2⟩
 · omega
 · obtain rfl : u = w := by omega
   exact h2
theorem Mt.own {N : Nat} {es : Es} {m : List Int} (M : Mt N es m) {v w : Nat} (hv : v < N) (hw : w < N) : ow m v w = ow m w v := by
 unfold ow
 by_cases h : m.getD v 0 = (w : Int)
 · rw [decide_eq_true h, decide_eq_true (M.back hv h).2.2.2]
 · rw [decide_eq_false h, decide_eq_false]
   intro h2; exact h (M.back hw h2).2.2.2
end Go.Ga.Gl

namespace Go.Ga.Gl
open Go Go.Ga
structure FS where
 lab : Nat → Nat
 out : Nat → Bool
 pr : Nat → Nat
 rt : Nat → Int
 b0 : Nat → Nat
 b1 : Nat → Nat
 bs : Nat → Nat
abbrev Prs := List (Nat × Nat)
def revP (ps : Prs) : Prs := (ps.map Prod.swap).reverse
def flatP (ps : Prs) : List Nat := ps.flatMap fun p => [p.1, p.2]
def verts (ps : Prs) (to : Nat) : List Nat := flatP ps ++ [to]
theorem revP_cons (p : Nat × Nat) (ps : Prs) : revP (p :: ps) = revP ps ++ [p.swap] := by simp [revP]
theorem flatP_cons (p : Nat × Nat) (ps : Prs) : flatP (p :: ps) = p.1 :: p.2 :: flatP ps := rfl
theorem flatP_app (ps qs : Prs) : flatP (ps ++ qs) = flatP ps ++ flatP qs := by simp [flatP]
theorem flatP_rev (ps : Prs) : flatP (revP ps) = (flatP ps).reverse := by
 induction ps with
 | nil => rfl
 | cons p ps ih => rw [revP_cons, flatP_app, ih, flatP_cons]; simp [flatP]
inductive Way (mt : Nat → Int) (S : FS) : Nat → Nat → Prs → Prop
 | here (v : Nat) : Way mt S v v []
 | even {v to m : Nat} {ps : Prs} : v ≠ to → S.lab v = 1 → mt v = (m : Int) → S.lab m = 2 → Way mt S (S.pr m) to ps → Way mt S v to ((v, m) :: ps)
 | odd {v to m : Nat} {ps qs : Prs} : v ≠ to → S.out v = true → S.lab v = 2 → mt v = (m : Int) → Way mt S (S.b0 v) m ps → Way mt S (S.b1 v) to qs → Way mt S v to ((v, m) :: (revP ps ++ qs))
structure Goes (S T : FS) : Prop where
 lab : ∀ x, S.lab x ≠ 0 → T.lab x = S.lab x
 pr : ∀ x, S.lab x = 2 → T.pr x = S.pr x
 out : ∀ x, S.out x = true → T.out x = true
 b0 : ∀ x, S.out x = true → T.b0 x = S.b0 x
 b1 : ∀ x, S.out x = true → T.b1 x = S.b1 x
theorem Way.goes {mt : Nat → Int} {S T : FS} (h : Goes S T) {v to : Nat} {ps : Prs} (w : Way mt S v to ps) : Way mt T v to ps := by
 induction w with
 | here v => exact .here v
 | even h1 h2 h3 h4 _ ih => exact .even h1 (by rw [h.lab _ (by omega)]; exact h2) h3 (by rw [h.lab _ (by omega)]; exact h4) (by rw [h.pr _ h4]; exact ih)
 | odd h1 h2 h3 h4 _ _ ih1 ih2 => exact .odd h1 (h.out _ h2) (by rw [h.lab _ (by omega)]; exact h3) h4 (by rw [h.b0 _ h2]; exact ih1) (by rw [h.b1 _ h2]; exact ih2)
theorem Way.app {mt : Nat → Int} {S : FS} {v x to : Nat} {ps qs : Prs} (w : Way mt S v x ps) (u : Way mt S x to qs) (hn : to ∉ flatP ps) : Way mt S v to (ps ++ qs) := by
 induction w with
 | here v => exact u
 | even h1 h2 h3 h4 _ ih =>
   simp only [flatP_cons, List.mem_cons, not_or] at hn
   exact .even (Ne.symm hn.1) h2 h3 h4 (ih u hn.2.2)
 | odd h1 h2 h3 h4 w1 w2 ih1 ih2 =>
   simp only [flatP_cons, flatP_app, List.mem_cons, List.mem_append, not_or] at hn
   rw [List.cons_append, List.append_assoc]
   exact .odd (Ne.symm hn.1) h2 h3 h4 w1 (ih2 u hn.2.2.2)
theorem Way.first {mt : Nat → Int} {S : FS} {v to : Nat} {ps : Prs} (w : Way mt S v to ps) : v ∈ verts ps to := by
 cases w <;> simp [verts, flatP]
inductive Good (mt : Nat → Int) (E : Nat → Nat → Prop) : Nat → Prs → Nat → Prop
 | nil (v : Nat) : Good mt E v [] v
 | cons {a c w to : Nat} {ps : Prs} : mt a = (c : Int) → E c w → Good mt E w ps to → Good mt E a ((a, c) :: ps) to
theorem Good.app {mt : Nat → Int} {E : Nat → Nat → Prop} {v x to : Nat} {ps qs : Prs} (h : Good mt E v ps x) (k : Good mt E x qs to) : Good mt E v (ps ++ qs) to := by
 induction h with
 | nil v => exact k
 | cons h1 h2 _ ih => exact .cons h1 h2 (ih k)
theorem Good.rev {mt : Nat → Int} {E : Nat → Nat → Prop} (hm : ∀ a c : Nat, mt a = (c : Int) → mt c = (a : Int)) (hE : ∀ a c, E a c → E c a) {s m : Nat} {ps : Prs} (h : Good mt E s ps m) : ∀ {v w to : Nat} {qs : Prs}, mt v = (m : Int) → E s w → Good mt E w qs to → Good mt E v ((v, m) :: (revP ps ++ qs)) to := by
 induction h with
 | nil m => intro v w to qs h1 h2 h3; exact .cons h1 h2 h3
 | cons k1 k2 _ ih =>
   intro v w to qs h1 h2 h3
   rw [revP_cons, List.append_assoc]
   exact ih h1 (hE _ _ k2) (.cons (hm _ _ k1) h2 h3)
inductive Chain (mt : Nat → Int) (S : FS) : Nat → Nat → List Nat → Prop
 | here (b : Nat) : Chain mt S b b []
 | up {x m to : Nat} {xs : List Nat} : x ≠ to → mt x = (m : Int) → Chain mt S (S.bs (S.pr m)) to xs → Chain mt S x to (x :: xs)
structure Inv (N : Nat) (E : Nat → Nat → Prop) (mt : Nat → Int) (S : FS) : Prop where
 o1 : ∀ v, S.out v = true → v < N ∧ S.lab v ≠ 0
 e1 : ∀ v, S.lab v = 1 → S.out v = true
 l2 : ∀ v, S.lab v ≤ 2
 fr : ∀ v, v < N → mt v = -1 → S.lab v = 1 ∧ S.rt v = (v : Int)
 od : ∀ v, S.lab v = 2 → v < N ∧ ∃ x : Nat, mt v = (x : Int) ∧ S.lab x = 1 ∧ S.rt x = S.rt v ∧ S.out (S.pr v) = true ∧ E v (S.pr v) ∧ S.rt (S.pr v) = S.rt v
 ev : ∀ v, S.lab v = 1 → (mt v = -1 ∧ S.rt v = (v : Int)) ∨ ∃ m : Nat, mt v = (m : Int) ∧ S.lab m = 2
 bo : ∀ v, S.out v = true → S.out (S.bs v) = true ∧ S.lab (S.bs v) = 1 ∧ S.bs (S.bs v) = S.bs v ∧ S.rt (S.bs v) = S.rt v
 bn : ∀ v, S.out v = false → S.bs v = v
 bm : ∀ b m : Nat, S.out b = true → S.bs b = b → mt b = (m : Int) → S.out m = false
 bx : ∀ m x : Nat, S.lab m = 2 → S.out m = false → mt m = (x : Int) → S.bs x = x
 dp : ∃ d : Nat → Nat, ∀ b m : Nat, S.out b = true → S.bs b = b → mt b = (m : Int) → d (S.bs (S.pr m)) < d b
 wy : ∀ v, S.out v = true → ∃ ps, Way mt S v (S.bs v) ps ∧ Good mt E v ps (S.bs v) ∧ (verts ps (S.bs v)).Nodup ∧ ∀ x ∈ verts ps (S.bs v), S.out x = true ∧ S.bs x = S.bs v
structure Mf (N : Nat) (E : Nat → Nat → Prop) (mt : Nat → Int) : Prop where
 at_ : ∀ v, v < N → mt v = -1 ∨ ∃ w : Nat, mt v = (w : Int) ∧ w < N
 big : ∀ v, ¬ v < N → ∀ w : Nat, mt v ≠ (w : Int)
 sy : ∀ v w : Nat, mt v = (w : Int) → mt w = (v : Int)
 ne : ∀ v w : Nat, mt v = (w : Int) → w ≠ v ∧ E v w
 es : ∀ v w : Nat, E v w → E w v
 el : ∀ v w : Nat, E v w → v < N ∧ w < N ∧ v ≠ w
def On (mt : Nat → Int) (S : FS) (xs : List Nat) (to : Nat) (y : Nat) : Prop := (S.out y = true ∧ (S.bs y ∈ xs ∨ S.bs y = to)) ∨ (S.out y = false ∧ ∃ x ∈ xs, mt x = (y : Int))
theorem chain_way {N : Nat} {E : Nat → Nat → Prop} {mt : Nat → Int} {S : FS} (M : Mf N E mt) (I : Inv N E mt S) {d : Nat → Nat} (hd : ∀ b m : Nat, S.out b = true → S.bs b = b → mt b = (m : Int) → d (S.bs (S.pr m)) < d b) {c to : Nat} {xs : List Nat} (h : Chain mt S c to xs) :
    (S.bs to = to) → ∀ v, S.out v = true → S.bs v = c → (∀ x ∈ xs, d to < d x ∧ d x ≤ d c ∧ S.out x = true ∧ S.bs x = x) ∧ ∃ ps, Way mt S v to ps ∧ Good mt E v ps to ∧ (verts ps to).Nodup ∧ ∀ y ∈ verts ps to, On mt S xs to y := by
  induction h with
  | here b =>
    intro hb v hv hc
    obtain ⟨ps, h1, h2, h3, h4⟩ := I.wy v hv
    rw [hc] at h1 h2 h3 h4
    exact ⟨by simp, ps, h1, h2, h3, fun y hy => .inl ⟨(h4 y hy).1, .inr (h4 y hy).2⟩⟩
  | @up x m to xs hne hm hch ih =>
    intro hb v hv hc
    obtain ⟨b1, b2, b3, b4⟩ := I.bo v hv
    rw [hc] at b1 b2 b3 b4
    have hmo := I.bm x m b1 b3 hm
    have hl : S.lab m = 2 := by
      rcases I.ev x b2 with h | ⟨m', h1, h2⟩
      · omega
      · obtain rfl : m' = m := by omega
        exact h2
    obtain ⟨_, x', k1, k2, k3, k4, k5, k6⟩ := I.od m hl
    obtain ⟨i1, qs, q1, q2, q3, q4⟩ := ih hb (S.pr m) k4 rfl
    have hdx := hd x m b1 b3 hm
    have hdto : d to ≤ d (S.bs (S.pr m)) := by
      cases hch with
      | here => exact Nat.le_refl _
      | up => exact Nat.le_of_lt (i1 _ (by simp)).1
    have i2 : ∀ y ∈ xs, d y < d x := fun y hy => by have := (i1 y hy).2.1; omega
    obtain ⟨ps, p1, p2, p3, p4⟩ := I.wy v hv
    rw [hc] at p1 p2 p3 p4
    have hmx := M.sy x m hm
    have hxin : x ∉ verts qs to := fun h => by
      rcases q4 x h with ⟨_, h | h⟩ | ⟨h, _⟩
      · rw [b3] at h; have := i2 x h; omega
      · rw [b3] at h; omega
      · rw [b1] at h; cases h
    have hmin : m ∉ verts qs to := fun h => by
      rcases q4 m h with ⟨h, _⟩ | ⟨_, y, hy, h⟩
      · rw [hmo] at h; cases h
      · have := M.sy y m h
        obtain rfl : y = x := by omega
        have := i2 y hy; omega
    have hpq : ∀ y ∈ verts ps x, y ∉ verts qs to := fun y hy h => by
      obtain ⟨y1, y2⟩ := p4 y hy
      rcases q4 y h with ⟨_, h | h⟩ | ⟨h, _⟩
      · rw [y2] at h; have := i2 x h; omega
      · rw [y2] at h; omega
      · rw [y1] at h; cases h
    have hmp : m ∉ verts ps x := fun h => by have := (p4 m h).1; rw [hmo] at this; cases this
    have hto : to ∉ flatP ps := fun h => by
      have := (p4 to (List.mem_append.2 (.inl h))).2
      exact hne (by omega)
    refine ⟨fun y hy => ?_, ps ++ ((x, m) :: qs), p1.app (.even hne b2 hm hl q1) hto, p2.app (.cons hm k5 q2), ?_, ?_⟩
    · rcases List.mem_cons.1 hy with rfl | hy
      · exact ⟨by omega, Nat.le_refl _, b1, b3⟩
      · have := i1 y hy
        exact ⟨this.1, by omega, this.2.2⟩
    · have e : verts (ps ++ ((x, m) :: qs)) to = verts ps x ++ (m :: verts qs to) := by simp [verts, flatP_app, flatP_cons]
      rw [e]
      refine List.nodup_append.2 ⟨p3, List.nodup_cons.2 ⟨hmin, q3⟩, ?_⟩
      intro y hy z hz e
      subst e
      rcases List.mem_cons.1 hz with rfl | hz
      · exact hmp hy
      · exact hpq y hy hz
    · have e : verts (ps ++ ((x, m) :: qs)) to = verts ps x ++ (m :: verts qs to) := by simp [verts, flatP_app, flatP_cons]
      rw [e]
      intro y hy
      rcases List.mem_append.1 hy with hy | hy
      · exact .inl ⟨(p4 y hy).1, .inl (by rw [(p4 y hy).2]; simp)⟩
      · rcases List.mem_cons.1 hy with rfl | hy
        · exact .inr ⟨hmo, x, by simp, hm⟩
        · rcases q4 y hy with ⟨h1, h2 | h2⟩ | ⟨h1, y', h2, h3⟩
          · exact .inl ⟨h1, .inl (List.mem_cons_of_mem _ h2)⟩
          · exact .inl ⟨h1, .inr h2⟩
          · exact .inr ⟨h1, y', List.mem_cons_of_mem _ h2, h3⟩
end Go.Ga.Gl

namespace Go.Ga.Gl
open Go Go.Ga
theorem Inv.base {N : Nat} {E : Nat → Nat → Prop} {mt : Nat → Int} {S : FS} (M : Mf N E mt) (I : Inv N E mt S) {b : Nat} (ho : S.out b = true) (hb : S.bs b = b) : (mt b = -1 ∧ S.rt b = (b : Int)) ∨ ∃ m : Nat, mt b = (m : Int) ∧ S.lab m = 2 ∧ S.out m = false ∧ S.out (S.pr m) = true ∧ E m (S.pr m) ∧ S.rt (S.pr m) = S.rt b ∧ S.rt m = S.rt b := by
 have h1 := (I.bo b ho).2.1
 rw [hb] at h1
 rcases I.ev b h1 with h | ⟨m, h2, h3⟩
 · exact .inl h
 · obtain ⟨_, x, k1, k2, k3, k4, k5, k6⟩ := I.od m h3
   have := M.sy b m h2
   obtain rfl : x = b := by omega
   exact .inr ⟨m, h2, h3, I.bm x m ho hb h2, k4, k5, k6.trans k3.symm, k3.symm⟩
theorem chain_facts {N : Nat} {E : Nat → Nat → Prop} {mt : Nat → Int} {S : FS} (M : Mf N E mt) (I : Inv N E mt S) {d : Nat → Nat} (hd : ∀ b m : Nat, S.out b = true → S.bs b = b → mt b = (m : Int) → d (S.bs (S.pr m)) < d b) {c to : Nat} {xs : List Nat} (h : Chain mt S c to xs) :
    S.out c = true → S.bs c = c → (S.out to = true ∧ S.bs to = to ∧ S.rt to = S.rt c) ∧ ∀ x ∈ xs, d to < d x ∧ d x ≤ d c ∧ S.out x = true ∧ S.bs x = x ∧ S.rt x = S.rt c := by
  induction h with
  | here b => intro h1 h2; exact ⟨⟨h1, h2, rfl⟩, by simp⟩
  | @up x m to xs hne hm hch ih =>
    intro h1 h2
    rcases I.base M h1 h2 with ⟨h3, _⟩ | ⟨m', h3, h4, h5, h6, h7, h8, h9⟩
    · omega
    · obtain rfl : m' = m := by omega
      obtain ⟨k1, k2, k3, k4⟩ := I.bo _ h6
      obtain ⟨⟨j1, j2, j3⟩, j4⟩ := ih k1 k3
      have hdx := hd x m' h1 h2 hm
      have hrt : S.rt (S.bs (S.pr m')) = S.rt x := k4.trans h8
      have hdto : d to ≤ d (S.bs (S.pr m')) := by
        cases hch with
        | here => exact Nat.le_refl _
        | up => exact Nat.le_of_lt (j4 _ (by simp)).1
      refine ⟨⟨j1, j2, j3.trans hrt⟩, fun y hy => ?_⟩
      rcases List.mem_cons.1 hy with rfl | hy
      · exact ⟨by omega, Nat.le_refl _, h1, h2, rfl⟩
      · obtain ⟨i1, i2, i3, i4, i5⟩ := j4 y hy
        exact ⟨i1, by omega, i3, i4, i5.trans hrt⟩
theorem chain_split {N : Nat} {E : Nat → Nat → Prop} {mt : Nat → Int} {S : FS} (M : Mf N E mt) (I : Inv N E mt S) {d : Nat → Nat} (hd : ∀ b m : Nat, S.out b = true → S.bs b = b → mt b = (m : Int) → d (S.bs (S.pr m)) < d b) {c to : Nat} {xs : List Nat} (h : Chain mt S c to xs) :
    S.out c = true → S.bs c = c → ∀ x ∈ xs, ∃ x1 x2, xs = x1 ++ x :: x2 ∧ Chain mt S c x x1 ∧ Chain mt S x to (x :: x2) := by
  induction h with
  | here b => intro _ _ x hx; simp at hx
  | @up x0 m to xs hne hm hch ih =>
    intro h1 h2 x hx
    by_cases e : x = x0
    · subst e
      exact ⟨[], xs, rfl, .here x, .up hne hm hch⟩
    · have hx := (List.mem_cons.1 hx).resolve_left e
      rcases I.base M h1 h2 with ⟨h3, _⟩ | ⟨m', h3, h4, h5, h6, h7, h8, h9⟩
      · omega
      · obtain rfl : m' = m := by omega
        obtain ⟨k1, k2, k3, k4⟩ := I.bo _ h6
        obtain ⟨x1, x2, rfl, j1, j2⟩ := ih k1 k3 x hx
        exact ⟨x0 :: x1, x2, rfl, .up (Ne.symm e) hm j1, j2⟩
def isM (mt : Nat → Int) (xs : List Nat) (u : Nat) : Bool := xs.any fun x => decide (mt x = (u : Int))
theorem isM_iff {mt : Nat → Int} {xs : List Nat} {u : Nat} : isM mt xs u = true ↔ ∃ x ∈ xs, mt x = (u : Int) := by
 unfold isM; simp only [List.any_eq_true, decide_eq_true_eq]
def shr (mt : Nat → Int) (S : FS) (v w b : Nat) (xs : List Nat) : FS :=
 { S with
  out := fun u => S.out u || isM mt xs u
  b0 := fun u => if isM mt xs u = true then v else S.b0 u
  b1 := fun u => if isM mt xs u = true then w else S.b1 u
  bs := fun u => if (decide (S.bs u ∈ xs) || isM mt xs u) = true then b else S.bs u }
def inJ (mt : Nat → Int) (S : FS) (xs ys : List Nat) (u : Nat) : Prop := S.bs u ∈ xs ∨ S.bs u ∈ ys ∨ (∃ x ∈ xs, mt x = (u : Int)) ∨ ∃ x ∈ ys, mt x = (u : Int)
theorem shrink_inv {N : Nat} {E : Nat → Nat → Prop} {mt : Nat → Int} {S : FS} (M : Mf N E mt) (I : Inv N E mt S) {v w b : Nat} {xs ys : List Nat} (hv : S.out v = true) (hw : S.out w = true) (hvw : E v w) (hb : S.bs b = b) (hX : Chain mt S (S.bs v) b xs) (hY : Chain mt S (S.bs w) b ys) (hdj : ∀ x ∈ xs, x ∉ ys) :
    let T := shr mt (shr mt S v w b xs) w v b ys
    Inv N E mt T ∧ Goes S T ∧ (∀ u, T.out u = true ↔ S.out u = true ∨ (∃ x ∈ xs, mt x = (u : Int)) ∨ ∃ x ∈ ys, mt x = (u : Int)) ∧ (∀ u, (inJ mt S xs ys u → T.bs u = b) ∧ (¬ inJ mt S xs ys u → T.bs u = S.bs u)) ∧ T.bs v = b ∧ T.bs w = b := by
  intro T
  obtain ⟨d, hd⟩ := I.dp
  obtain ⟨v1, v2, v3, v4⟩ := I.bo v hv
  obtain ⟨w1, w2, w3, w4⟩ := I.bo w hw
  obtain ⟨⟨bo, _, brv⟩, fX⟩ := chain_facts M I hd hX v1 v3
  obtain ⟨⟨_, _, brw⟩, fY⟩ := chain_facts M I hd hY w1 w3
  have hbX : b ∉ xs := fun h => by have := (fX b h).1; omega
  have hbY : b ∉ ys := fun h => by have := (fY b h).1; omega
  have mate : ∀ (zs : List Nat), (∀ x ∈ zs, S.out x = true ∧ S.bs x = x) → ∀ u x : Nat, x ∈ zs → mt x = (u : Int) → S.out u = false ∧ S.lab u = 2 ∧ S.rt u = S.rt x ∧ S.bs u = u := by
    intro zs hz u x hx hm
    rcases I.base M (hz x hx).1 (hz x hx).2 with ⟨h3, _⟩ | ⟨m', h3, h4, h5, h6, h7, h8, h9⟩
    · omega
    · obtain rfl : m' = u := by omega
      exact ⟨h5, h4, h9, I.bn _ h5⟩
  have mX := mate xs fun x hx => ⟨(fX x hx).2.2.1, (fX x hx).2.2.2.1⟩
  have mY := mate ys fun x hx => ⟨(fY x hx).2.2.1, (fY x hx).2.2.2.1⟩
  have xo : ∀ u, S.bs u ∈ xs → S.out u = true := fun u h => by
    cases ho : S.out u with
    | true => rfl
    | false => rw [I.bn u ho] at h; rw [(fX u h).2.2.1] at ho; cases ho
  have yo : ∀ u, S.bs u ∈ ys → S.out u = true := fun u h => by
    cases ho : S.out u with
    | true => rfl
    | false => rw [I.bn u ho] at h; rw [(fY u h).2.2.1] at ho; cases ho
  have nmX : ∀ u, S.out u = true → isM mt xs u = false := fun u hu => by
    rw [Bool.eq_false_iff]; intro h
    obtain ⟨x, hx, hm⟩ := isM_iff.1 h
    have := (mX u x hx hm).1
    rw [hu] at this; cases this
  have nmY : ∀ u, S.out u = true → isM mt ys u = false := fun u hu => by
    rw [Bool.eq_false_iff]; intro h
    obtain ⟨x, hx, hm⟩ := isM_iff.1 h
    have := (mY u x hx hm).1
    rw [hu] at this; cases this
  have Tout : ∀ u, T.out u = true ↔ S.out u = true ∨ (∃ x ∈ xs, mt x = (u : Int)) ∨ ∃ x ∈ ys, mt x = (u : Int) := fun u => by
    show ((S.out u || isM mt xs u) || isM mt ys u) = true ↔ _
    rw [Bool.or_eq_true, Bool.or_eq_true, isM_iff, isM_iff, or_assoc]
  have Tbs1 : ∀ u, inJ mt S xs ys u → T.bs u = b := fun u h => by
    show (if (decide ((if (decide (S.bs u ∈ xs) || isM mt xs u) = true then b else S.bs u) ∈ ys) || isM mt ys u) = true then b else if (decide (S.bs u ∈ xs) || isM mt xs u) = true then b else S.bs u) = b
    by_cases h2 : (decide (S.bs u ∈ xs) || isM mt xs u) = true
    · rw [if_pos h2]; split <;> rfl
    · rw [if_neg h2]
      rw [Bool.or_eq_true, decide_eq_true_iff, not_or] at h2
      rw [if_pos]
      rw [Bool.or_eq_true, decide_eq_true_iff, isM_iff]
      rcases h with h | h | h | h
      · exact absurd h h2.1
      · exact .inl h
      · exact absurd (isM_iff.2 h) h2.2
      · exact .inr h
  have Tbs2 : ∀ u, ¬ inJ mt S xs ys u → T.bs u = S.bs u := fun u h => by
    have h2 : ¬ (decide (S.bs u ∈ xs) || isM mt xs u) = true := by
      rw [Bool.or_eq_true, decide_eq_true_iff, isM_iff]
      rintro (h1 | h1)
      · exact h (.inl h1)
      · exact h (.inr (.inr (.inl h1)))
    show (if (decide ((if (decide (S.bs u ∈ xs) || isM mt xs u) = true then b else S.bs u) ∈ ys) || isM mt ys u) = true then b else if (decide (S.bs u ∈ xs) || isM mt xs u) = true then b else S.bs u) = S.bs u
    rw [if_neg h2, if_neg]
    rw [Bool.or_eq_true, decide_eq_true_iff, isM_iff]
    rintro (h1 | h1)
    · exact h (.inr (.inl h1))
    · exact h (.inr (.inr (.inr h1)))
  have nJ : ∀ u, S.out u = true → S.bs u ∉ xs → S.bs u ∉ ys → ¬ inJ mt S xs ys u := fun u hu h1 h2 h => by
    rcases h with h | h | h | h
    · exact h1 h
    · exact h2 h
    · have := nmX u hu; rw [isM_iff.2 h] at this; cases this
    · have := nmY u hu; rw [isM_iff.2 h] at this; cases this
  have bJ : ¬ inJ mt S xs ys b := nJ b bo (by rw [hb]; exact hbX) (by rw [hb]; exact hbY)
  have Tb : T.bs b = b := (Tbs2 b bJ).trans hb
  have G : Goes S T := {
    lab := fun _ _ => rfl
    pr := fun _ _ => rfl
    out := fun x h => (Tout x).2 (.inl h)
    b0 := fun x h => by
      show (if isM mt ys x = true then w else if isM mt xs x = true then v else S.b0 x) = S.b0 x
      rw [nmX x h, nmY x h]; rfl
    b1 := fun x h => by
      show (if isM mt ys x = true then v else if isM mt xs x = true then w else S.b1 x) = S.b1 x
      rw [nmX x h, nmY x h]; rfl }
  have Jrt : ∀ u, inJ mt S xs ys u → S.rt u = S.rt b := fun u h => by
    rcases h with h | h | ⟨x, hx, hm⟩ | ⟨x, hx, hm⟩
    · rw [brv, ← (fX _ h).2.2.2.2]; exact (I.bo u (xo u h)).2.2.2.symm
    · rw [brw, ← (fY _ h).2.2.2.2]; exact (I.bo u (yo u h)).2.2.2.symm
    · rw [brv, ← (fX x hx).2.2.2.2]; exact (mX u x hx hm).2.2.1
    · rw [brw, ← (fY x hx).2.2.2.2]; exact (mY u x hx hm).2.2.1
  have nO : ∀ u, T.out u = true → ¬ inJ mt S xs ys u → S.out u = true := fun u h hj => by
    rcases (Tout u).1 h with h | h | h
    · exact h
    · exact absurd (.inr (.inr (.inl h))) hj
    · exact absurd (.inr (.inr (.inr h))) hj
  have onT : ∀ zs, (∀ z ∈ zs, z ∈ xs ∨ z ∈ ys) → ∀ y, On mt S zs b y → T.out y = true ∧ T.bs y = b := by
    intro zs hz y hy
    rcases hy with ⟨h1, h2 | h2⟩ | ⟨h1, x, h2, h3⟩
    · refine ⟨(Tout y).2 (.inl h1), Tbs1 y ?_⟩
      rcases hz _ h2 with h | h
      · exact .inl h
      · exact .inr (.inl h)
    · refine ⟨(Tout y).2 (.inl h1), ?_⟩
      rw [Tbs2 y (nJ y h1 (by rw [h2]; exact hbX) (by rw [h2]; exact hbY))]; exact h2
    · rcases hz _ h2 with h | h
      · exact ⟨(Tout y).2 (.inr (.inl ⟨x, h, h3⟩)), Tbs1 y (.inr (.inr (.inl ⟨x, h, h3⟩)))⟩
      · exact ⟨(Tout y).2 (.inr (.inr ⟨x, h, h3⟩)), Tbs1 y (.inr (.inr (.inr ⟨x, h, h3⟩)))⟩
  have wayM : ∀ (p q : Nat) (zs ts : List Nat), S.out p = true → S.out q = true → E p q → Chain mt S (S.bs p) b zs → Chain mt S (S.bs q) b ts → (∀ x ∈ zs, x ∉ ts) → (∀ z ∈ zs, z ∈ xs ∨ z ∈ ys) → (∀ z ∈ ts, z ∈ xs ∨ z ∈ ys) → ∀ u x : Nat, x ∈ zs → mt x = (u : Int) → T.b0 u = p → T.b1 u = q →
      ∃ ps, Way mt T u b ps ∧ Good mt E u ps b ∧ (verts ps b).Nodup ∧ ∀ y ∈ verts ps b, T.out y = true ∧ T.bs y = b := by
    intro p q zs ts hp hq hpq cz ct hdz hz ht u x hx hm h0 h1
    obtain ⟨p1, p2, p3, p4⟩ := I.bo p hp
    obtain ⟨q1, q2, q3, q4⟩ := I.bo q hq
    obtain ⟨_, fZ⟩ := chain_facts M I hd cz p1 p3
    obtain ⟨_, fT⟩ := chain_facts M I hd ct q1 q3
    obtain ⟨x1, x2, e, c1, c2⟩ := chain_split M I hd cz p1 p3 x hx
    obtain ⟨fo, fb⟩ : S.out x = true ∧ S.bs x = x := ⟨(fZ x hx).2.2.1, (fZ x hx).2.2.2.1⟩
    obtain ⟨e1, ps, a1, a2, a3, a4⟩ := chain_way M I hd c1 fb p hp rfl
    obtain ⟨_, qs, g1, g2, g3, g4⟩ := chain_way M I hd ct hb q hq rfl
    obtain ⟨mo, ml, mr, mb⟩ := mate zs (fun x hx => ⟨(fZ x hx).2.2.1, (fZ x hx).2.2.2.1⟩) u x hx hm
    have hux := M.sy x u hm
    have hub : u ≠ b := fun h => by rw [h, bo] at mo; cases mo
    have hx1 : ∀ z ∈ x1, z ∈ zs ∧ z ≠ x := fun z hz => ⟨by rw [e]; simp [hz], fun h => by have := (e1 z hz).1; subst h; omega⟩
    have hup : u ∉ verts ps x := fun h => by
      rcases a4 u h with ⟨h, _⟩ | ⟨_, z, hz, h⟩
      · rw [mo] at h; cases h
      · have := M.sy z u h
        exact (hx1 z hz).2 (by omega)
    have huq : u ∉ verts qs b := fun h => by
      rcases g4 u h with ⟨h, _⟩ | ⟨_, z, hz, h⟩
      · rw [mo] at h; cases h
      · have := M.sy z u h
        obtain rfl : z = x := by omega
        exact hdz z hx hz
    have hpq' : ∀ y ∈ verts ps x, y ∉ verts qs b := fun y hy h => by
      have hin : (S.out y = true ∧ S.bs y ∈ zs) ∨ (S.out y = false ∧ ∃ z ∈ zs, mt z = (y : Int)) := by
        rcases a4 y hy with ⟨k1, k2 | k2⟩ | ⟨k1, z, k2, k3⟩
        · exact .inl ⟨k1, (hx1 _ k2).1⟩
        · exact .inl ⟨k1, by rw [k2]; exact hx⟩
        · exact .inr ⟨k1, z, (hx1 _ k2).1, k3⟩
      rcases hin with ⟨k1, k2⟩ | ⟨k1, z, k2, k3⟩ <;> rcases g4 y h with ⟨j1, j2 | j2⟩ | ⟨j1, z', j2, j3⟩
      · exact hdz _ k2 j2
      · have := (fZ _ k2).1; rw [j2] at this; omega
      · rw [k1] at j1; cases j1
      · rw [k1] at j1; cases j1
      · rw [k1] at j1; cases j1
      · have s1 := M.sy z y k3
        have s2 := M.sy z' y j3
        obtain rfl : z = z' := by omega
        exact hdz z k2 j2
    have ev : verts ((u, x) :: (revP ps ++ qs)) b = u :: (verts ps x).reverse ++ verts qs b := by
      simp [verts, flatP_cons, flatP_app, flatP_rev]
    refine ⟨(u, x) :: (revP ps ++ qs), .odd hub ((Tout u).2 ?_) ml hux (by rw [h0]; exact a1.goes G) (by rw [h1]; exact g1.goes G), Good.rev M.sy M.es a2 hux hpq g2, ?_, ?_⟩
    · rcases hz x hx with h | h
      · exact .inr (.inl ⟨x, h, hm⟩)
      · exact .inr (.inr ⟨x, h, hm⟩)
    · rw [ev]
      refine List.nodup_append.2 ⟨List.nodup_cons.2 ⟨by rw [List.mem_reverse]; exact hup, ?_⟩, g3, ?_⟩
      · exact (List.reverse_perm _).nodup_iff.2 a3
      · intro y hy z hz' e
        subst e
        rcases List.mem_cons.1 hy with rfl | hy
        · exact huq hz'
        · exact hpq' y (List.mem_reverse.1 hy) hz'
    · rw [ev]
      intro y hy
      rcases List.mem_append.1 hy with hy | hy
      · rcases List.mem_cons.1 hy with rfl | hy
        · exact onT zs hz y (.inr ⟨mo, x, hx, hm⟩)
        · refine onT zs hz y ?_
          rcases a4 y (List.mem_reverse.1 hy) with ⟨k1, k2 | k2⟩ | ⟨k1, z, k2, k3⟩
          · exact .inl ⟨k1, .inl (hx1 _ k2).1⟩
          · exact .inl ⟨k1, .inl (by rw [k2]; exact hx)⟩
          · exact .inr ⟨k1, z, (hx1 _ k2).1, k3⟩
      · exact onT ts ht y (g4 y hy)
  have Tv : ∀ p zs, S.out p = true → Chain mt S (S.bs p) b zs → (∀ z ∈ zs, z ∈ xs ∨ z ∈ ys) → T.bs p = b := by
    intro p zs hp hc hz
    generalize hbp : S.bs p = c at hc
    cases hc with
    | here => rw [Tbs2 p (nJ p hp (by rw [hbp]; exact hbX) (by rw [hbp]; exact hbY))]; exact hbp
    | up =>
      refine Tbs1 p ?_
      rcases hz c (by simp) with h | h
      · exact .inl (by rw [hbp]; exact h)
      · exact .inr (.inl (by rw [hbp]; exact h))
  refine ⟨?_, G, Tout, fun u => ⟨Tbs1 u, Tbs2 u⟩, Tv v xs hv hX fun z h => .inl h, Tv w ys hw hY fun z h => .inr h⟩
  refine ⟨fun u hu => ?_, fun u hu => (Tout u).2 (.inl (I.e1 u hu)), I.l2, I.fr, fun u hu => ?_, I.ev, fun u hu => ?_, fun u hu => ?_, fun c m hc hcb hm => ?_, fun m x hl ho hm => ?_, ⟨d, fun c m hc hcb hm => ?_⟩, fun u hu => ?_⟩
  · rcases (Tout u).1 hu with h | ⟨x, hx, h⟩ | ⟨x, hx, h⟩
    · exact I.o1 u h
    · have := (mX u x hx h).2.1
      exact ⟨(I.od u this).1, by show S.lab u ≠ 0; omega⟩
    · have := (mY u x hx h).2.1
      exact ⟨(I.od u this).1, by show S.lab u ≠ 0; omega⟩
  · obtain ⟨h1, x, k1, k2, k3, k4, k5, k6⟩ := I.od u hu
    exact ⟨h1, x, k1, k2, k3, (Tout _).2 (.inl k4), k5, k6⟩
  · by_cases hj : inJ mt S xs ys u
    · have hbl : S.lab b = 1 := by have := (I.bo b bo).2.1; rwa [hb] at this
      rw [Tbs1 u hj]
      exact ⟨(Tout b).2 (.inl bo), hbl, Tb, (Jrt u hj).symm⟩
    · have ho := nO u hu hj
      obtain ⟨k1, k2, k3, k4⟩ := I.bo u ho
      rw [Tbs2 u hj]
      have hj2 : ¬ inJ mt S xs ys (S.bs u) := nJ _ k1 (by rw [k3]; exact fun h => hj (.inl h)) (by rw [k3]; exact fun h => hj (.inr (.inl h)))
      exact ⟨(Tout _).2 (.inl k1), k2, (Tbs2 _ hj2).trans k3, k4⟩
  · have ho : S.out u = false := by
      cases h : S.out u with
      | false => rfl
      | true => rw [(Tout u).2 (.inl h)] at hu; cases hu
    have hj : ¬ inJ mt S xs ys u := fun h => by
      rcases h with h | h | h | h
      · rw [xo u h] at ho; cases ho
      · rw [yo u h] at ho; cases ho
      · rw [(Tout u).2 (.inr (.inl h))] at hu; cases hu
      · rw [(Tout u).2 (.inr (.inr h))] at hu; cases hu
    exact (Tbs2 u hj).trans (I.bn u ho)
  · have hj : ¬ inJ mt S xs ys c := fun h => by
      have := Tbs1 c h
      rw [hcb] at this
      exact bJ (this ▸ h)
    have ho := nO c hc hj
    have hcb' := (Tbs2 c hj).symm.trans hcb
    have hmo := I.bm c m ho hcb' hm
    cases hT : T.out m with
    | false => rfl
    | true =>
      rcases (Tout m).1 hT with h | ⟨x, hx, h⟩ | ⟨x, hx, h⟩
      · rw [hmo] at h; cases h
      · have s1 := M.sy c m hm
        have s2 := M.sy x m h
        obtain rfl : x = c := by omega
        exact absurd (.inl (by rw [hcb']; exact hx)) hj
      · have s1 := M.sy c m hm
        have s2 := M.sy x m h
        obtain rfl : x = c := by omega
        exact absurd (.inr (.inl (by rw [hcb']; exact hx))) hj
  · have ho' : S.out m = false := by
      cases h : S.out m with
      | false => rfl
      | true => rw [(Tout m).2 (.inl h)] at ho; cases ho
    have hbx := I.bx m x hl ho' hm
    have hmx := M.sy m x hm
    obtain ⟨_, x', k1, k2, _⟩ := I.od m hl
    obtain rfl : x' = x := by omega
    have hxo := I.e1 x' k2
    refine (Tbs2 x' (nJ x' hxo (fun h => ?_) fun h => ?_)).trans hbx
    · rw [hbx] at h; rw [(Tout m).2 (.inr (.inl ⟨x', h, hmx⟩))] at ho; cases ho
    · rw [hbx] at h; rw [(Tout m).2 (.inr (.inr ⟨x', h, hmx⟩))] at ho; cases ho
  · have hj : ¬ inJ mt S xs ys c := fun h => by
      have := Tbs1 c h
      rw [hcb] at this
      exact bJ (this ▸ h)
    have ho := nO c hc hj
    have hcb' := (Tbs2 c hj).symm.trans hcb
    have h1 := hd c m ho hcb' hm
    show d (T.bs (S.pr m)) < d c
    by_cases hp : inJ mt S xs ys (S.pr m)
    · rw [Tbs1 _ hp]
      rcases hp with h | h | ⟨x, hx, h⟩ | ⟨x, hx, h⟩
      · have := (fX _ h).1; omega
      · have := (fY _ h).1; omega
      · have := (mX _ x hx h).1
        rcases I.base M ho hcb' with ⟨h3, _⟩ | ⟨m', h3, h4, h5, h6, _⟩
        · omega
        · obtain rfl : m' = m := by omega
          rw [this] at h6; cases h6
      · have := (mY _ x hx h).1
        rcases I.base M ho hcb' with ⟨h3, _⟩ | ⟨m', h3, h4, h5, h6, _⟩
        · omega
        · obtain rfl : m' = m := by omega
          rw [this] at h6; cases h6
    · rw [Tbs2 _ hp]; exact h1
  · by_cases hj : inJ mt S xs ys u
    · rw [Tbs1 u hj]
      have chainW : ∀ zs c, (∀ z ∈ zs, z ∈ xs ∨ z ∈ ys) → S.out c = true → S.bs c = c → Chain mt S c b zs → S.bs u ∈ zs → S.out u = true → ∃ ps, Way mt T u b ps ∧ Good mt E u ps b ∧ (verts ps b).Nodup ∧ ∀ y ∈ verts ps b, T.out y = true ∧ T.bs y = b := by
        intro zs c hz hc1 hc2 cz hu2 hu3
        obtain ⟨x1, x2, e, c1, c2⟩ := chain_split M I hd cz hc1 hc2 _ hu2
        obtain ⟨_, ps, a1, a2, a3, a4⟩ := chain_way M I hd c2 hb u hu3 rfl
        exact ⟨ps, a1.goes G, a2, a3, fun y hy => onT _ (fun z h => hz z (by rw [e]; exact List.mem_append.2 (.inr h))) y (a4 y hy)⟩
      rcases hj with h | h | ⟨x, hx, h⟩ | ⟨x, hx, h⟩
      · exact chainW xs _ (fun z h => .inl h) v1 v3 hX h (xo u h)
      · exact chainW ys _ (fun z h => .inr h) w1 w3 hY h (yo u h)
      · have hny : isM mt ys u = false := by
          rw [Bool.eq_false_iff]; intro h'
          obtain ⟨x', hx', h'⟩ := isM_iff.1 h'
          have s1 := M.sy x u h
          have s2 := M.sy x' u h'
          obtain rfl : x = x' := by omega
          exact hdj x hx hx'
        have hyx := isM_iff.2 ⟨x, hx, h⟩
        exact wayM v w xs ys hv hw hvw hX hY hdj (fun z h => .inl h) (fun z h => .inr h) u x hx h
          (by show (if isM mt ys u = true then w else if isM mt xs u = true then v else S.b0 u) = v; rw [hny, hyx]; rfl)
          (by show (if isM mt ys u = true then v else if isM mt xs u = true then w else S.b1 u) = w; rw [hny, hyx]; rfl)
      · have hyx := isM_iff.2 ⟨x, hx, h⟩
        exact wayM w v ys xs hw hv (M.es _ _ hvw) hY hX (fun y hy h => hdj y h hy) (fun z h => .inr h) (fun z h => .inl h) u x hx h
          (by show (if isM mt ys u = true then w else if isM mt xs u = true then v else S.b0 u) = w; rw [hyx]; rfl)
          (by show (if isM mt ys u = true then v else if isM mt xs u = true then w else S.b1 u) = v; rw [hyx]; rfl)
    · have ho := nO u hu hj
      obtain ⟨ps, p1, p2, p3, p4⟩ := I.wy u ho
      rw [Tbs2 u hj]
      refine ⟨ps, p1.goes G, p2, p3, fun y hy => ?_⟩
      obtain ⟨y1, y2⟩ := p4 y hy
      refine ⟨(Tout y).2 (.inl y1), ?_⟩
      rw [Tbs2 y (nJ y y1 (by rw [y2]; exact fun h => hj (.inl h)) (by rw [y2]; exact fun h => hj (.inr (.inl h))))]; exact y2
end Go.Ga.Gl

namespace Go.Ga.Gl
open Go Go.Ga
def fs0 (N : Nat) (mt : Nat → Int) : FS where
 lab := fun v => if v < N ∧ mt v = -1 then 1 else 0
 out := fun v => decide (v < N ∧ mt v = -1)
 pr := fun _ => 0
 rt := fun v => if v < N ∧ mt v = -1 then (v : Int) else -1
 b0 := fun _ => 0
 b1 := fun _ => 0
 bs := fun v => v
theorem fs0_inv (N : Nat) (E : Nat → Nat → Prop) (mt : Nat → Int) : Inv N E mt (fs0 N mt) := by
 have ho : ∀ v, (fs0 N mt).out v = true ↔ v < N ∧ mt v = -1 := fun v => decide_eq_true_iff
 have hl : ∀ v, (v < N ∧ mt v = -1 → (fs0 N mt).lab v = 1 ∧ (fs0 N mt).rt v = (v : Int)) ∧ (¬ (v < N ∧ mt v = -1) → (fs0 N mt).lab v = 0) := fun v => by
  refine ⟨fun h => ⟨if_pos h, if_pos h⟩, fun h => if_neg h⟩
 have h1 : ∀ v, (fs0 N mt).lab v = 1 → v < N ∧ mt v = -1 := fun v h => by
  by_cases c : v < N ∧ mt v = -1
  · exact c
  · rw [(hl v).2 c] at h; omega
 have h2 : ∀ v, (fs0 N mt).lab v ≠ 2 := fun v h => by
  by_cases c : v < N ∧ mt v = -1
  · rw [((hl v).1 c).1] at h; omega
  · rw [(hl v).2 c] at h; omega
 refine ⟨fun v h => ?_, fun v h => (ho v).2 (h1 v h), fun v => ?_, fun v a b => (hl v).1 ⟨a, b⟩, fun v h => absurd h (h2 v), fun v h => .inl ⟨(h1 v h).2, ((hl v).1 (h1 v h)).2⟩, fun v h => ?_, fun v _ => rfl, fun b m h _ hm => ?_, fun m x h _ _ => absurd h (h2 m), ⟨fun _ => 0, fun b m h _ hm => ?_⟩, fun v h => ?_⟩
 · have := (ho v).1 h
   exact ⟨this.1, by rw [((hl v).1 this).1]; omega⟩
 · by_cases c : v < N ∧ mt v = -1
   · rw [((hl v).1 c).1]; omega
   · rw [(hl v).2 c]; omega
 · exact ⟨h, ((hl v).1 ((ho v).1 h)).1, rfl, rfl⟩
 · have := ((ho b).1 h).2; omega
 · have := ((ho b).1 h).2; omega
 · refine ⟨[], .here v, .nil v, by simp [verts, flatP], fun x hx => ?_⟩
   have hx' : x ∈ verts [] v := hx
   have : x = v := by simpa [verts, flatP] using hx'
   subst this
   exact ⟨h, rfl⟩
def grown (S : FS) (v w x : Nat) : FS :=
 { S with
  lab := fun u => if u = x then 1 else if u = w then 2 else S.lab u
  out := fun u => decide (u = x) || S.out u
  pr := fun u => if u = w then v else S.pr u
  rt := fun u => if u = x then S.rt v else if u = w then S.rt v else S.rt u }
theorem fresh {N : Nat} {E : Nat → Nat → Prop} {mt : Nat → Int} {S : FS} (M : Mf N E mt) (I : Inv N E mt S) {w : Nat} (hw : w < N) (hl : S.lab w = 0) : ∃ x : Nat, mt w = (x : Int) ∧ x < N ∧ S.lab x = 0 ∧ x ≠ w ∧ S.out x = false ∧ S.out w = false := by
 rcases M.at_ w hw with h | ⟨x, h, hx⟩
 · have := (I.fr w hw h).1; omega
 · have hs := M.sy w x h
   have hlx : S.lab x = 0 := by
    have h2 := I.l2 x
    rcases (show S.lab x = 0 ∨ S.lab x = 1 ∨ S.lab x = 2 by omega) with e | e | e
    · exact e
    · rcases I.ev x e with ⟨k, _⟩ | ⟨m, k1, k2⟩
      · omega
      · obtain rfl : m = w := by omega
        omega
    · obtain ⟨_, y, k1, k2, _⟩ := I.od x e
      obtain rfl : y = w := by omega
      omega
   refine ⟨x, h, hx, hlx, (M.ne w x h).1, ?_, ?_⟩
   · cases e : S.out x with
     | false => rfl
     | true => have := (I.o1 x e).2; omega
   · cases e : S.out w with
     | false => rfl
     | true => have := (I.o1 w e).2; omega
theorem grow_inv {N : Nat} {E : Nat → Nat → Prop} {mt : Nat → Int} {S : FS} (M : Mf N E mt) (I : Inv N E mt S) {v w x : Nat} (hv : S.out v = true) (hvw : E v w) (hl : S.lab w = 0) (hx : mt w = (x : Int)) : Inv N E mt (grown S v w x) ∧ Goes S (grown S v w x) := by
 have hwN := (M.el v w hvw).2.1
 obtain ⟨x', k1, hxN, hlx, hxw, hxo, hwo⟩ := fresh M I hwN hl
 obtain rfl : x' = x := by omega
 have hs := M.sy w x' hx
 have vw : v ≠ w := fun h => by rw [h, hwo] at hv; cases hv
 have vx : v ≠ x' := fun h => by rw [h, hxo] at hv; cases hv
 have Lx : (grown S v w x').lab x' = 1 := if_pos rfl
 have Lw : (grown S v w x').lab w = 2 := by show (if w = x' then 1 else if w = w then 2 else S.lab w) = 2; rw [if_neg (Ne.symm hxw), if_pos rfl]
 have Lo : ∀ u, u ≠ x' → u ≠ w → (grown S v w x').lab u = S.lab u := fun u h1 h2 => by show (if u = x' then 1 else if u = w then 2 else S.lab u) = _; rw [if_neg h1, if_neg h2]
 have L0 : ∀ u, S.lab u ≠ 0 → u ≠ x' ∧ u ≠ w := fun u h => ⟨fun e => h (e ▸ hlx), fun e => h (e ▸ hl)⟩
 have Rx : (grown S v w x').rt x' = S.rt v := if_pos rfl
 have Rw : (grown S v w x').rt w = S.rt v := by show (if w = x' then S.rt v else if w = w then S.rt v else S.rt w) = _; rw [if_pos rfl]; split <;> rfl
 have Ro : ∀ u, u ≠ x' → u ≠ w → (grown S v w x').rt u = S.rt u := fun u h1 h2 => by show (if u = x' then S.rt v else if u = w then S.rt v else S.rt u) = _; rw [if_neg h1, if_neg h2]
 have Oi : ∀ u, (grown S v w x').out u = true ↔ u = x' ∨ S.out u = true := fun u => by
  show (decide (u = x') || S.out u) = true ↔ _
  rw [Bool.or_eq_true, decide_eq_true_iff]
 have O0 : ∀ u, S.out u = true → u ≠ x' ∧ u ≠ w := fun u h => L0 u (I.o1 u h).2
 have Of : ∀ u, (grown S v w x').out u = false → u ≠ x' ∧ S.out u = false := fun u h => by
  constructor
  · intro e; have := (Oi u).2 (.inl e); rw [h] at this; cases this
  · cases e : S.out u with
    | false => rfl
    | true => have := (Oi u).2 (.inr e); rw [h] at this; cases this
 have Pw : (grown S v w x').pr w = v := if_pos rfl
 have Po : ∀ u, u ≠ w → (grown S v w x').pr u = S.pr u := fun u h => if_neg h
 have G : Goes S (grown S v w x') := {
  lab := fun u h => Lo u (L0 u h).1 (L0 u h).2
  pr := fun u h => Po u (L0 u (by omega)).2
  out := fun u h => (Oi u).2 (.inr h)
  b0 := fun _ _ => rfl
  b1 := fun _ _ => rfl }
 obtain ⟨d, hd⟩ := I.dp
 refine ⟨⟨fun u h => ?_, fun u h => ?_, fun u => ?_, fun u hu hm => ?_, fun u h => ?_, fun u h => ?_, fun u h => ?_, fun u h => I.bn u (Of u h).2, fun b m h hb hm => ?_, fun m y h ho hm => ?_, ⟨fun u => if u = x' then d (S.bs v) + 1 else d u, fun b m h hb hm => ?_⟩, fun u h => ?_⟩, G⟩
 · rcases (Oi u).1 h with rfl | h
   · exact ⟨hxN, by rw [Lx]; omega⟩
   · exact ⟨(I.o1 u h).1, by rw [Lo u (O0 u h).1 (O0 u h).2]; exact (I.o1 u h).2⟩
 · by_cases e : u = x'
   · exact (Oi u).2 (.inl e)
   · by_cases e2 : u = w
     · subst e2; rw [Lw] at h; omega
     · rw [Lo u e e2] at h; exact (Oi u).2 (.inr (I.e1 u h))
 · by_cases e : u = x'
   · subst e; rw [Lx]; omega
   · by_cases e2 : u = w
     · subst e2; rw [Lw]; omega
     · rw [Lo u e e2]; exact I.l2 u
 · have h1 : u ≠ x' := fun e => by rw [e] at hm; omega
   have h2 : u ≠ w := fun e => by rw [e] at hm; omega
   rw [Lo u h1 h2, Ro u h1 h2]
   exact I.fr u hu hm
 · by_cases e : u = x'
   · subst e; rw [Lx] at h; omega
   · by_cases e2 : u = w
     · subst e2
       refine ⟨hwN, x', hx, Lx, by rw [Rx, Rw], by rw [Pw]; exact (Oi v).2 (.inr hv), by rw [Pw]; exact M.es _ _ hvw, by rw [Pw, Rw, Ro v vx vw]⟩
     · rw [Lo u e e2] at h
       obtain ⟨h1, y, k1, k2, k3, k4, k5, k6⟩ := I.od u h
       have hy := L0 y (by omega)
       have hp := O0 _ k4
       refine ⟨h1, y, k1, by rw [Lo y hy.1 hy.2]; exact k2, by rw [Ro y hy.1 hy.2, Ro u e e2]; exact k3, by rw [Po u e2]; exact (Oi _).2 (.inr k4), by rw [Po u e2]; exact k5, by rw [Po u e2, Ro _ hp.1 hp.2, Ro u e e2]; exact k6⟩
 · by_cases e : u = x'
   · subst e; exact .inr ⟨w, hs, Lw⟩
   · by_cases e2 : u = w
     · subst e2; rw [Lw] at h; omega
     · rw [Lo u e e2] at h
       rcases I.ev u h with ⟨h1, h2⟩ | ⟨m, h1, h2⟩
       · exact .inl ⟨h1, by rw [Ro u e e2]; exact h2⟩
       · have := L0 m (by omega)
         exact .inr ⟨m, h1, by rw [Lo m this.1 this.2]; exact h2⟩
 · rcases (Oi u).1 h with rfl | h
   · have hbx : S.bs u = u := I.bn u hxo
     show (grown S v w u).out (S.bs u) = true ∧ (grown S v w u).lab (S.bs u) = 1 ∧ S.bs (S.bs u) = S.bs u ∧ (grown S v w u).rt (S.bs u) = _
     rw [hbx, hbx]
     exact ⟨(Oi u).2 (.inl rfl), Lx, rfl, rfl⟩
   · obtain ⟨h1, h2, h3, h4⟩ := I.bo u h
     have hb := O0 _ h1
     have hu := O0 u h
     exact ⟨(Oi _).2 (.inr h1), (Lo _ hb.1 hb.2).trans h2, h3, (Ro _ hb.1 hb.2).trans (h4.trans (Ro u hu.1 hu.2).symm)⟩
 · rcases (Oi b).1 h with rfl | h
   · obtain rfl : m = w := by omega
     cases e : (grown S v m b).out m with
     | false => rfl
     | true => rcases (Oi m).1 e with e | e
               · exact absurd e.symm hxw
               · rw [hwo] at e; cases e
   · have hmo := I.bm b m h hb hm
     have hO := O0 b h
     cases e : (grown S v w x').out m with
     | false => rfl
     | true => rcases (Oi m).1 e with e | e
               · have := M.sy b m hm
                 rw [e] at this
                 exact absurd (show b = w by omega) hO.2
               · rw [hmo] at e; cases e
 · obtain ⟨h1, h2⟩ := Of m ho
   by_cases e2 : m = w
   · subst e2
     obtain rfl : y = x' := by omega
     exact I.bn y hxo
   · rw [Lo m h1 e2] at h
     exact I.bx m y h h2 hm
 · show (if S.bs ((grown S v w x').pr m) = x' then d (S.bs v) + 1 else d (S.bs ((grown S v w x').pr m))) < (if b = x' then d (S.bs v) + 1 else d b)
   rcases (Oi b).1 h with rfl | h
   · obtain rfl : m = w := by omega
     rw [Pw, if_neg (O0 _ (I.bo v hv).1).1, if_pos rfl]; omega
   · rcases I.base M h hb with ⟨h3, _⟩ | ⟨m', h3, h4, h5, h6, _⟩
     · omega
     · obtain rfl : m' = m := by omega
       have hm' := L0 m' (by omega)
       rw [Po m' hm'.2, if_neg (O0 _ (I.bo _ h6).1).1, if_neg (O0 b h).1]
       exact hd b m' h hb hm
 · rcases (Oi u).1 h with rfl | h
   · have hbx : S.bs u = u := I.bn u hxo
     show ∃ ps, Way mt (grown S v w u) u (S.bs u) ps ∧ Good mt E u ps (S.bs u) ∧ (verts ps (S.bs u)).Nodup ∧ ∀ y ∈ verts ps (S.bs u), (grown S v w u).out y = true ∧ S.bs y = S.bs u
     rw [hbx]
     refine ⟨[], .here u, .nil u, by simp [verts, flatP], fun y hy => ?_⟩
     have : y = u := by simpa [verts, flatP] using hy
     subst this
     exact ⟨(Oi y).2 (.inl rfl), hbx⟩
   · obtain ⟨ps, p1, p2, p3, p4⟩ := I.wy u h
     exact ⟨ps, p1.goes G, p2, p3, fun y hy => ⟨(Oi y).2 (.inr (p4 y hy).1), (p4 y hy).2⟩⟩
theorem root_chain {N : Nat} {E : Nat → Nat → Prop} {mt : Nat → Int} {S : FS} (M : Mf N E mt) (I : Inv N E mt S) {d : Nat → Nat} (hd : ∀ b m : Nat, S.out b = true → S.bs b = b → mt b = (m : Int) → d (S.bs (S.pr m)) < d b) :
    ∀ (n c : Nat), d c ≤ n → S.out c = true → S.bs c = c → ∃ r xs, Chain mt S c r xs ∧ S.out r = true ∧ S.bs r = r ∧ mt r = -1 ∧ S.rt c = (r : Int) := by
  intro n
  induction n with
  | zero =>
    intro c h h1 h2
    rcases I.base M h1 h2 with ⟨h3, h4⟩ | ⟨m, h3, _⟩
    · exact ⟨c, [], .here c, h1, h2, h3, h4⟩
    · have := hd c m h1 h2 h3; omega
  | succ n ih =>
    intro c h h1 h2
    rcases I.base M h1 h2 with ⟨h3, h4⟩ | ⟨m, h3, h4, h5, h6, h7, h8, h9⟩
    · exact ⟨c, [], .here c, h1, h2, h3, h4⟩
    · have hlt := hd c m h1 h2 h3
      obtain ⟨k1, k2, k3, k4⟩ := I.bo _ h6
      obtain ⟨r, xs, j1, j2, j3, j4, j5⟩ := ih (S.bs (S.pr m)) (by omega) k1 k3
      refine ⟨r, c :: xs, .up (fun e => by subst e; omega) h3 j1, j2, j3, j4, ?_⟩
      rw [← j5, k4, h8]
theorem tree_way {N : Nat} {E : Nat → Nat → Prop} {mt : Nat → Int} {S : FS} (M : Mf N E mt) (I : Inv N E mt S) {v : Nat} (hv : S.out v = true) : ∃ (r : Nat) (ps : Prs), S.rt v = (r : Int) ∧ mt r = -1 ∧ r < N ∧ Way mt S v r ps ∧ Good mt E v ps r ∧ (verts ps r).Nodup ∧ ∀ y ∈ verts ps r, S.rt y = S.rt v ∧ y < N := by
 obtain ⟨d, hd⟩ := I.dp
 obtain ⟨v1, v2, v3, v4⟩ := I.bo v hv
 obtain ⟨r, xs, h1, h2, h3, h4, h5⟩ := root_chain M I hd _ (S.bs v) (Nat.le_refl _) v1 v3
 obtain ⟨_, ps, p1, p2, p3, p4⟩ := chain_way M I hd h1 h3 v hv rfl
 obtain ⟨⟨_, _, f1⟩, f2⟩ := chain_facts M I hd h1 v1 v3
 refine ⟨r, ps, v4.symm.trans h5, h4, (I.o1 r h2).1, p1, p2, p3, fun y hy => ?_⟩
 rcases p4 y hy with ⟨k1, k2 | k2⟩ | ⟨k1, x, k2, k3⟩
 · exact ⟨by rw [← (I.bo y k1).2.2.2, (f2 _ k2).2.2.2.2, v4], (I.o1 y k1).1⟩
 · exact ⟨by rw [← (I.bo y k1).2.2.2, k2, f1, v4], (I.o1 y k1).1⟩
 · obtain ⟨e1, e2, e3, e4, e5⟩ := f2 x k2
   rcases I.base M e3 e4 with ⟨g3, _⟩ | ⟨m, g3, g4, g5, g6, g7, g8, g9⟩
   · omega
   · obtain rfl : m = y := by omega
     exact ⟨by rw [g9, e5, v4], (I.od m g4).1⟩
end Go.Ga.Gl

namespace Go.Ga.Gl
open Go Go.Ga
def EP (E : Nat → Nat → Prop) : List Nat → Prop
 | a :: b :: l => E a b ∧ EP E l
 | [_] => False
 | [] => True
theorem EP_good {mt : Nat → Int} {E : Nat → Nat → Prop} {w to : Nat} {ps : Prs} (h : Good mt E w ps to) : ∀ x, E x w → EP E (x :: verts ps to) := by
 induction h with
 | nil v => intro x hx; exact ⟨hx, trivial⟩
 | cons h1 h2 _ ih => intro x hx; exact ⟨hx, ih _ h2⟩
theorem EP_back {mt : Nat → Int} {E : Nat → Nat → Prop} (hE : ∀ a c, E a c → E c a) {v r : Nat} {ps : Prs} (h : Good mt E v ps r) : ∀ L, EP E (v :: L) → EP E ((verts ps r).reverse ++ L) := by
 induction h with
 | nil v => intro L hL; simpa [verts, flatP] using hL
 | cons h1 h2 _ ih =>
   intro L hL
   have e : ∀ (a c : Nat) (ps : Prs) (to : Nat), (verts ((a, c) :: ps) to).reverse ++ L = (verts ps to).reverse ++ (c :: a :: L) := fun a c ps to => by simp [verts, flatP_cons]
   rw [e]
   exact ih _ ⟨hE _ _ h2, hL⟩
theorem good_closed {mt : Nat → Int} {E : Nat → Nat → Prop} (hs : ∀ v w : Nat, mt v = (w : Int) → mt w = (v : Int)) {v r : Nat} {ps : Prs} (h : Good mt E v ps r) (hr : mt r = -1) : ∀ y ∈ verts ps r, ∀ z : Nat, mt y = (z : Int) → z ∈ verts ps r := by
 induction h with
 | nil v =>
   intro y hy z hz
   have : y = v := by simpa [verts, flatP] using hy
   subst this; omega
 | @cons a c w to ps h1 h2 _ ih =>
   intro y hy z hz
   have e : verts ((a, c) :: ps) to = a :: c :: verts ps to := rfl
   rw [e] at hy ⊢
   rcases List.mem_cons.1 hy with rfl | hy
   · obtain rfl : z = c := by omega
     simp
   · rcases List.mem_cons.1 hy with rfl | hy
     · have := hs a y h1
       obtain rfl : z = a := by omega
       simp
     · exact List.mem_cons_of_mem _ (List.mem_cons_of_mem _ (ih hr y hy z hz))
structure Aug (N : Nat) (E : Nat → Nat → Prop) (mt : Nat → Int) (l : List Nat) : Prop where
 ep : EP E l
 nd : l.Nodup
 lt : ∀ y ∈ l, y < N
 cl : ∀ y ∈ l, ∀ z : Nat, mt y = (z : Int) → z ∈ l
 fr : ∃ r ∈ l, mt r = -1
theorem join_aug {N : Nat} {E : Nat → Nat → Prop} {mt : Nat → Int} {S : FS} (M : Mf N E mt) (I : Inv N E mt S) {v w : Nat} (hv : S.out v = true) (hw : S.out w = true) (hvw : E v w) (hrt : S.rt v ≠ S.rt w) :
    ∃ (r q : Nat) (ps qs : Prs), S.rt v = (r : Int) ∧ S.rt w = (q : Int) ∧ r < N ∧ q < N ∧ Way mt S v r ps ∧ Way mt S w q qs ∧ (flatP ps).length ≤ N ∧ (flatP qs).length ≤ N ∧ Aug N E mt ((verts ps r).reverse ++ verts qs q) := by
  obtain ⟨r, ps, a1, a2, a3, a4, a5, a6, a7⟩ := tree_way M I hv
  obtain ⟨q, qs, b1, b2, b3, b4, b5, b6, b7⟩ := tree_way M I hw
  have hlen : ∀ l : List Nat, l.Nodup → (∀ y ∈ l, y < N) → l.length ≤ N := fun l h1 h2 => by
    have := nodup_le (m := List.range N) h1 fun y hy => List.mem_range.2 (h2 y hy)
    simpa using this
  have l1 := hlen _ a6 fun y hy => (a7 y hy).2
  have l2 := hlen _ b6 fun y hy => (b7 y hy).2
  refine ⟨r, q, ps, qs, a1, b1, a3, b3, a4, b4, by simp [verts] at l1; omega, by simp [verts] at l2; omega, ⟨?_, ?_, ?_, ?_, r, by simp [verts], a2⟩⟩
  · exact EP_back M.es a5 _ (EP_good b5 v hvw)
  · refine List.nodup_append.2 ⟨(List.reverse_perm _).nodup_iff.2 a6, b6, ?_⟩
    intro y hy z hz e
    subst e
    exact hrt ((a7 y (List.mem_reverse.1 hy)).1.symm.trans (b7 y hz).1)
  · intro y hy
    rcases List.mem_append.1 hy with hy | hy
    · exact (a7 y (List.mem_reverse.1 hy)).2
    · exact (b7 y hy).2
  · intro y hy z hz
    rcases List.mem_append.1 hy with hy | hy
    · exact List.mem_append.2 (.inl (List.mem_reverse.2 (good_closed M.sy a5 a2 y (List.mem_reverse.1 hy) z hz)))
    · exact List.mem_append.2 (.inr (good_closed M.sy b5 b2 y hy z hz))
def par : List Nat → Nat → Nat
 | a :: b :: l, u => if u = a then b else if u = b then a else par l u
 | _, u => u
theorem par_spec {E : Nat → Nat → Prop} (hE : ∀ a c, E a c → E c a) : ∀ (l : List Nat), EP E l → l.Nodup → ∀ u ∈ l, par l u ∈ l ∧ E u (par l u) ∧ par l (par l u) = u
 | [], _, _, u, hu => by simp at hu
 | [_], h, _, _, _ => h.elim
 | a :: b :: l, h, hn, u, hu => by
   simp only [List.nodup_cons, List.mem_cons, not_or] at hn
   obtain ⟨⟨hab, hal⟩, hbl, hnl⟩ := hn
   show (if u = a then b else if u = b then a else par l u) ∈ _ ∧ _
   by_cases e1 : u = a
   · subst e1
     have : par (u :: b :: l) u = b := if_pos rfl
     rw [this, if_pos rfl]
     refine ⟨by simp, h.1, ?_⟩
     show (if b = u then b else if b = b then u else par l b) = u
     rw [if_neg (Ne.symm hab), if_pos rfl]
   · by_cases e2 : u = b
     · subst e2
       have : par (a :: u :: l) u = a := by show (if u = a then u else if u = u then a else par l u) = a; rw [if_neg e1, if_pos rfl]
       rw [this, if_neg e1, if_pos rfl]
       refine ⟨by simp, hE _ _ h.1, ?_⟩
       show (if a = a then u else if a = u then a else par l a) = u
       rw [if_pos rfl]
     · have hul : u ∈ l := by simpa [e1, e2] using hu
       have this : par (a :: b :: l) u = par l u := by show (if u = a then b else if u = b then a else par l u) = _; rw [if_neg e1, if_neg e2]
       rw [this, if_neg e1, if_neg e2]
       obtain ⟨h1, h2, h3⟩ := par_spec hE l h.2 hnl u hul
       refine ⟨by simp [h1], h2, ?_⟩
       show (if par l u = a then b else if par l u = b then a else par l (par l u)) = u
       have n1 : par l u ≠ a := fun e => hal (e ▸ h1)
       have n2 : par l u ≠ b := fun e => hbl (e ▸ h1)
       rw [if_neg n1, if_neg n2]
       exact h3
theorem turn_mf {N : Nat} {E : Nat → Nat → Prop} {mt mt' : Nat → Int} (M : Mf N E mt) {l : List Nat} (A : Aug N E mt l) (h1 : ∀ u ∈ l, mt' u = (par l u : Nat)) (h2 : ∀ u, u ∉ l → mt' u = mt u) : Mf N E mt' ∧ (∀ u, mt' u = -1 → mt u = -1) ∧ ∃ r, r < N ∧ mt r = -1 ∧ mt' r ≠ -1 := by
 have sp := par_spec M.es l A.ep A.nd
 refine ⟨⟨fun v hv => ?_, fun v hv w h => ?_, fun v w h => ?_, fun v w h => ?_, M.es, M.el⟩, fun u h => ?_, ?_⟩
 · by_cases hl : v ∈ l
   · exact .inr ⟨_, h1 v hl, A.lt _ (sp v hl).1⟩
   · rw [h2 v hl]; exact M.at_ v hv
 · by_cases hl : v ∈ l
   · exact hv (A.lt v hl)
   · rw [h2 v hl] at h; exact M.big v hv w h
 · by_cases hl : v ∈ l
   · rw [h1 v hl] at h
     obtain rfl : par l v = w := by omega
     rw [h1 _ (sp v hl).1, (sp v hl).2.2]
   · rw [h2 v hl] at h
     have hs := M.sy v w h
     have hwl : w ∉ l := fun hw => hl (A.cl w hw v hs)
     rw [h2 w hwl]; exact hs
 · by_cases hl : v ∈ l
   · rw [h1 v hl] at h
     obtain rfl : par l v = w := by omega
     exact ⟨(M.el _ _ (sp v hl).2.1).2.2.symm, (sp v hl).2.1⟩
   · rw [h2 v hl] at h; exact M.ne v w h
 · by_cases hl : u ∈ l
   · rw [h1 u hl] at h; omega
   · rw [h2 u hl] at h; exact h
 · obtain ⟨r, hr, hm⟩ := A.fr
   exact ⟨r, A.lt r hr, hm, by rw [h1 r hr]; omega⟩
end Go.Ga.Gl

namespace Go.Ga.Gl
open Go Go.Ga
def Lk (E : Nat → Nat → Prop) (S : FS) (wt : List Nat) : Prop := ∀ v w, S.out v = true → v ∉ wt → E v w → S.lab w ≠ 0 ∧ (S.out w = true → S.bs w = S.bs v ∨ w ∈ wt)
structure Lc (E : Nat → Nat → Prop) (S : FS) (wt : List Nat) (c : Nat) (rest : List Nat) : Prop where
 a : ∀ v w, S.out v = true → v ∉ wt → v ≠ c → E v w → S.lab w ≠ 0 ∧ (S.out w = true → S.bs w = S.bs v ∨ w ∈ wt ∨ (w = c ∧ v ∈ rest))
 b : ∀ w, E c w → w ∉ rest → S.lab w ≠ 0 ∧ (S.out w = true → S.bs w = S.bs c ∨ w ∈ wt)
theorem Lk.pop {E : Nat → Nat → Prop} {S : FS} {c : Nat} {wt near : List Nat} (h : Lk E S (c :: wt)) (hn : ∀ w, w ∈ near ↔ E c w) (hE : ∀ a b, E a b → E b a) : Lc E S wt c near where
 a := fun v w h1 h2 h3 h4 => by
  obtain ⟨k1, k2⟩ := h v w h1 (by simp [h2, h3]) h4
  refine ⟨k1, fun ho => ?_⟩
  rcases k2 ho with k | k
  · exact .inl k
  · rcases List.mem_cons.1 k with rfl | k
    · exact .inr (.inr ⟨rfl, (hn v).2 (hE _ _ h4)⟩)
    · exact .inr (.inl k)
 b := fun w h1 h2 => absurd ((hn w).2 h1) h2
theorem Lc.done {E : Nat → Nat → Prop} {S : FS} {c : Nat} {wt : List Nat} (h : Lc E S wt c []) : Lk E S wt := fun v w h1 h2 h3 => by
 by_cases e : v = c
 · subst e; exact h.b w h3 (by simp)
 · obtain ⟨k1, k2⟩ := h.a v w h1 h2 e h3
   refine ⟨k1, fun ho => ?_⟩
   rcases k2 ho with k | k | ⟨_, k⟩
   · exact .inl k
   · exact .inr k
   · simp at k
structure Stp (S T : FS) (wt wt' : List Nat) : Prop where
 lab : ∀ x, S.lab x ≠ 0 → T.lab x ≠ 0
 out : ∀ x, T.out x = true → S.out x = true ∨ x ∈ wt'
 bs : ∀ x y, S.out x = true → S.out y = true → S.bs x = S.bs y → T.bs x = T.bs y
 wt : ∀ x ∈ wt, x ∈ wt'
theorem Stp.refl (S : FS) (wt : List Nat) : Stp S S wt wt := ⟨fun _ h => h, fun _ h => .inl h, fun _ _ _ _ h => h, fun _ h => h⟩
theorem Lc.step {E : Nat → Nat → Prop} {S T : FS} {c w : Nat} {wt wt' rest : List Nat} (hc : S.out c = true) (h : Lc E S wt c (w :: rest)) (s : Stp S T wt wt') (h1 : T.lab w ≠ 0) (h2 : T.out w = true → T.bs w = T.bs c ∨ w ∈ wt') : Lc E T wt' c rest where
 a := fun v u k1 k2 k3 k4 => by
  have hv := (s.out v k1).resolve_right k2
  obtain ⟨j1, j2⟩ := h.a v u hv (fun e => k2 (s.wt _ e)) k3 k4
  refine ⟨s.lab _ j1, fun ho => ?_⟩
  rcases s.out u ho with hu | hu
  · rcases j2 hu with j | j | ⟨rfl, j⟩
    · exact .inl (s.bs _ _ hu hv j)
    · exact .inr (.inl (s.wt _ j))
    · rcases List.mem_cons.1 j with rfl | j
      · rcases h2 k1 with e | e
        · exact .inl e.symm
        · exact absurd e k2
      · exact .inr (.inr ⟨rfl, j⟩)
  · exact .inr (.inl hu)
 b := fun u k1 k2 => by
  by_cases e : u = w
  · subst e; exact ⟨h1, h2⟩
  · obtain ⟨j1, j2⟩ := h.b u k1 (by simp [e, k2])
    refine ⟨s.lab _ j1, fun ho => ?_⟩
    rcases s.out u ho with hu | hu
    · rcases j2 hu with j | j
      · exact .inl (s.bs _ _ hu hc j)
      · exact .inr (s.wt _ j)
    · exact .inr hu
theorem Inv.mate_same {N : Nat} {E : Nat → Nat → Prop} {mt : Nat → Int} {S : FS} (I : Inv N E mt S) {c w : Nat} (M : Mf N E mt) (hc : S.out c = true) (hm : mt c = (w : Int)) : S.lab w ≠ 0 ∧ (S.out w = true → S.bs w = S.bs c) := by
 have hs := M.sy c w hm
 have main : ∀ p q : Nat, S.out p = true → S.out q = true → mt p = (q : Int) → S.lab p = 2 → S.bs q = S.bs p := by
  intro p q hp hq hpq hl
  obtain ⟨ps, p1, p2, p3, p4⟩ := I.wy p hp
  generalize S.bs p = b at p1 p2 p3 p4
  cases p2 with
  | nil =>
    have := (I.bo p hp).2.1
    have hb := (p4 p (by simp [verts, flatP])).2
    rw [hb] at this; omega
  | cons k1 k2 k3 =>
    rename_i c' _ _
    obtain rfl : c' = q := by omega
    exact (p4 c' (by simp [verts, flatP])).2
 have h2 := I.l2 c
 have h0 := (I.o1 c hc).2
 rcases (show S.lab c = 1 ∨ S.lab c = 2 by omega) with e | e
 · rcases I.ev c e with ⟨k, _⟩ | ⟨m, k1, k2⟩
   · omega
   · obtain rfl : m = w := by omega
     exact ⟨by omega, fun ho => (main m c ho hc hs k2).symm⟩
 · obtain ⟨_, x, k1, k2, _⟩ := I.od c e
   obtain rfl : x = w := by omega
   exact ⟨by omega, fun ho => main c x hc ho hm e⟩
theorem grow_stp {N : Nat} {E : Nat → Nat → Prop} {mt : Nat → Int} {S : FS} (M : Mf N E mt) (I : Inv N E mt S) {v w x : Nat} (wt : List Nat) (hwN : w < N) (hl : S.lab w = 0) (hx : mt w = (x : Int)) : Stp S (grown S v w x) wt (wt ++ [x]) ∧ (grown S v w x).lab w ≠ 0 ∧ (grown S v w x).out w = false := by
 obtain ⟨x', k1, hxN, hlx, hxw, hxo, hwo⟩ := fresh M I hwN hl
 obtain rfl : x' = x := by omega
 refine ⟨⟨fun u h => ?_, fun u h => ?_, fun _ _ _ _ h => h, fun u h => by simp [h]⟩, ?_, ?_⟩
 · show (if u = x' then 1 else if u = w then 2 else S.lab u) ≠ 0
   split
   · omega
   · split
     · omega
     · exact h
 · have h : (decide (u = x') || S.out u) = true := h
   rw [Bool.or_eq_true, decide_eq_true_iff] at h
   rcases h with rfl | h
   · exact .inr (by simp)
   · exact .inl h
 · show (if w = x' then 1 else if w = w then 2 else S.lab w) ≠ 0
   split <;> simp
 · show (decide (w = x') || S.out w) = false
   rw [hwo, decide_eq_false (Ne.symm hxw)]; rfl
theorem shrink_stp {N : Nat} {E : Nat → Nat → Prop} {mt : Nat → Int} {S : FS} (M : Mf N E mt) (I : Inv N E mt S) {v w b : Nat} {xs ys : List Nat} (hv : S.out v = true) (hw : S.out w = true) (hvw : E v w) (hb : S.bs b = b) (hX : Chain mt S (S.bs v) b xs) (hY : Chain mt S (S.bs w) b ys) (hdj : ∀ x ∈ xs, x ∉ ys) {wt wt' : List Nat} (h1 : ∀ x ∈ wt, x ∈ wt') (h2 : ∀ u : Nat, (∃ x ∈ xs, mt x = (u : Int)) ∨ (∃ x ∈ ys, mt x = (u : Int)) → u ∈ wt') :
    Stp S (shr mt (shr mt S v w b xs) w v b ys) wt wt' := by
  obtain ⟨_, G, k1, k2, _⟩ := shrink_inv M I hv hw hvw hb hX hY hdj
  obtain ⟨d, hd⟩ := I.dp
  obtain ⟨v1, v2, v3, v4⟩ := I.bo v hv
  obtain ⟨w1, w2, w3, w4⟩ := I.bo w hw
  obtain ⟨_, fX⟩ := chain_facts M I hd hX v1 v3
  obtain ⟨_, fY⟩ := chain_facts M I hd hY w1 w3
  have no : ∀ (zs : List Nat), (∀ x ∈ zs, S.out x = true ∧ S.bs x = x) → ∀ u : Nat, S.out u = true → ¬ ∃ x ∈ zs, mt x = (u : Int) := by
    rintro zs hz u hu ⟨x, hx, hm⟩
    have := I.bm x u (hz x hx).1 (hz x hx).2 hm
    rw [hu] at this; cases this
  have nX := no xs fun x hx => ⟨(fX x hx).2.2.1, (fX x hx).2.2.2.1⟩
  have nY := no ys fun x hx => ⟨(fY x hx).2.2.1, (fY x hx).2.2.2.1⟩
  refine ⟨fun x h => by rw [G.lab x h]; exact h, fun x h => ?_, fun x y hx hy e => ?_, h1⟩
  · rcases (k1 x).1 h with h | h | h
    · exact .inl h
    · exact .inr (h2 x (.inl h))
    · exact .inr (h2 x (.inr h))
  · by_cases hj : S.bs x ∈ xs ∨ S.bs x ∈ ys
    · have j1 : inJ mt S xs ys x := hj.elim .inl fun h => .inr (.inl h)
      have j2 : inJ mt S xs ys y := by rw [e] at hj; exact hj.elim .inl fun h => .inr (.inl h)
      rw [(k2 x).1 j1, (k2 y).1 j2]
    · have j1 : ¬ inJ mt S xs ys x := by
        rintro (h | h | h | h)
        · exact hj (.inl h)
        · exact hj (.inr h)
        · exact nX x hx h
        · exact nY x hx h
      have j2 : ¬ inJ mt S xs ys y := by
        rw [e] at hj
        rintro (h | h | h | h)
        · exact hj (.inl h)
        · exact hj (.inr h)
        · exact nX y hy h
        · exact nY y hy h
      rw [(k2 x).2 j1, (k2 y).2 j2]; exact e
end Go.Ga.Gl

namespace Go.Ga.Gl
open Go Go.Ga
structure UFh (n : Nat) (up : List Int) (rep h : Nat → Nat) : Prop where
 len : up.length = n
 at_ : ∀ v, v < n → ∃ u : Nat, up.getD v 0 = (u : Int) ∧ u < n ∧ rep u = rep v ∧ (u = v → rep v = v) ∧ (u ≠ v → h u < h v)
theorem UFh.root {n : Nat} {up : List Int} {rep h : Nat → Nat} (U : UFh n up rep h) : ∀ (k v : Nat), h v ≤ k → v < n → rep v < n ∧ up.getD (rep v) 0 = (rep v : Nat) ∧ rep (rep v) = rep v := by
 intro k
 induction k with
 | zero =>
   intro v hk hv
   obtain ⟨u, h1, h2, h3, h4, h5⟩ := U.at_ v hv
   by_cases e : u = v
   · subst e; rw [h4 rfl]; exact ⟨hv, h1, h4 rfl⟩
   · have := h5 e; omega
 | succ k ih =>
   intro v hk hv
   obtain ⟨u, h1, h2, h3, h4, h5⟩ := U.at_ v hv
   by_cases e : u = v
   · subst e; rw [h4 rfl]; exact ⟨hv, h1, h4 rfl⟩
   · have := h5 e
     rw [← h3]
     exact ih u (by omega) h2
theorem UFh.rep_lt {n : Nat} {up : List Int} {rep h : Nat → Nat} (U : UFh n up rep h) {v : Nat} (hv : v < n) : rep v < n := (U.root (h v) v (Nat.le_refl _) hv).1
theorem UFh.rep_rep {n : Nat} {up : List Int} {rep h : Nat → Nat} (U : UFh n up rep h) {v : Nat} (hv : v < n) : rep (rep v) = rep v := (U.root (h v) v (Nat.le_refl _) hv).2.2
theorem UFh.halve {n : Nat} {up : List Int} {rep h : Nat → Nat} (U : UFh n up rep h) {v u w : Nat} (hv : v < n) (h1 : up.getD v 0 = (u : Int)) (hu : u ≠ v) (h2 : up.getD u 0 = (w : Int)) : UFh n (up.set v (w : Int)) rep h ∧ w < n ∧ rep w = rep v ∧ h w < h v := by
 obtain ⟨u', a1, a2, a3, a4, a5⟩ := U.at_ v hv
 obtain rfl : u' = u := by omega
 obtain ⟨w', b1, b2, b3, b4, b5⟩ := U.at_ u' a2
 obtain rfl : w' = w := by omega
 have hlt : h w' < h v := by
  have := a5 hu
  by_cases e : w' = u'
  · subst e; exact this
  · have := b5 e; omega
 refine ⟨⟨by rw [List.length_set]; exact U.len, fun x hx => ?_⟩, b2, b3.trans a3, hlt⟩
 rw [getD_set _ _ _ _ (by rw [U.len]; exact hv)]
 by_cases e : x = v
 · subst e
   rw [if_pos rfl]
   exact ⟨w', rfl, b2, b3.trans a3, fun e => by subst e; omega, fun _ => hlt⟩
 · rw [if_neg e]; exact U.at_ x hx
theorem UFh.unite {n : Nat} {up : List Int} {rep h : Nat → Nat} (U : UFh n up rep h) {v w : Nat} (hv : v < n) (hw : w < n) : UFh n (up.set (rep v) (rep w : Nat)) (fun u => if rep u = rep v then rep w else rep u) (fun u => if rep u = rep v ∧ rep v ≠ rep w then h u + h (rep w) + 1 else h u) := by
 have rv := U.rep_lt hv
 have rw' := U.rep_lt hw
 refine ⟨by rw [List.length_set]; exact U.len, fun x hx => ?_⟩
 rw [getD_set _ _ _ _ (by rw [U.len]; exact rv)]
 by_cases e : x = rep v
 · subst e
   rw [if_pos rfl]
   have hrr := U.rep_rep hv
   have hrw := U.rep_rep hw
   refine ⟨rep w, rfl, rw', ?_, ?_, ?_⟩
   · rw [hrr, if_pos rfl, hrw]
     split <;> rfl
   · intro e
     rw [hrr, if_pos rfl]
     exact e
   · intro e
     rw [hrr, hrw, if_neg (fun e2 => e e2.1), if_pos ⟨rfl, fun e2 => e e2.symm⟩]
     omega
 · rw [if_neg e]
   obtain ⟨u, h1, h2, h3, h4, h5⟩ := U.at_ x hx
   refine ⟨u, h1, h2, by rw [h3], fun e2 => ?_, fun e2 => ?_⟩
   · subst e2
     have := h4 rfl
     rw [this, if_neg (fun e3 => e e3)]
   · rw [h3]
     have := h5 e2
     split <;> omega
end Go.Ga.Gl

namespace Go.Ga.Gl
open Go Go.Ga
theorem chain_end {mt : Nat → Int} {S : FS} {c x : Nat} {xs : List Nat} (h : Chain mt S c x xs) : ∀ {m : Nat}, (∀ y ∈ xs, y ≠ S.bs (S.pr m)) → x ≠ S.bs (S.pr m) → mt x = (m : Int) → Chain mt S c (S.bs (S.pr m)) (xs ++ [x]) := by
 induction h with
 | here b => intro m _ h2 hm; exact .up h2 hm (.here _)
 | up hne hm2 hch ih =>
   intro m h1 h2 hm
   exact .up (h1 _ (by simp)) hm2 (ih (fun y hy => h1 y (List.mem_cons_of_mem _ hy)) h2 hm)
theorem chain_snoc {N : Nat} {E : Nat → Nat → Prop} {mt : Nat → Int} {S : FS} (M : Mf N E mt) (I : Inv N E mt S) {d : Nat → Nat} (hd : ∀ b m : Nat, S.out b = true → S.bs b = b → mt b = (m : Int) → d (S.bs (S.pr m)) < d b) {c x m : Nat} {xs : List Nat} (h : Chain mt S c x xs) (h1 : S.out c = true) (h2 : S.bs c = c) (hm : mt x = (m : Int)) : Chain mt S c (S.bs (S.pr m)) (xs ++ [x]) ∧ d (S.bs (S.pr m)) < d x ∧ m < N ∧ S.lab m = 2 ∧ S.pr m < N ∧ S.bs (S.pr m) < N := by
 obtain ⟨⟨k1, k2, k3⟩, k4⟩ := chain_facts M I hd h h1 h2
 have hlt := hd x m k1 k2 hm
 rcases I.base M k1 k2 with ⟨h3, _⟩ | ⟨m', h3, h4, h5, h6, h7, h8, h9⟩
 · omega
 · obtain rfl : m' = m := by omega
   refine ⟨chain_end h (fun y hy e => by have := (k4 y hy).1; rw [e] at this; omega) (fun e => by rw [← e] at hlt; omega) hm, hlt, (I.od _ h4).1, h4, (I.o1 _ h6).1, (I.o1 _ (I.bo _ h6).1).1⟩
def Wk (mt : Nat → Int) (S : FS) (s : Nat) (p : Int) (P : List Nat) : Prop :=
 (∃ x : Nat, p = (x : Int) ∧ Chain mt S s x P) ∨ (p = -1 ∧ ∃ r P', P = P' ++ [r] ∧ Chain mt S s r P' ∧ mt r = -1)
def dep (d : Nat → Nat) (p : Int) : Nat := if p = -1 then 0 else d p.toNat + 1
theorem meet_at {N : Nat} {E : Nat → Nat → Prop} {mt : Nat → Int} {S : FS} (M : Mf N E mt) (I : Inv N E mt S) {d : Nat → Nat} (hd : ∀ b m : Nat, S.out b = true → S.bs b = b → mt b = (m : Int) → d (S.bs (S.pr m)) < d b) {s t x : Nat} {q : Int} {P Q : List Nat} (hs1 : S.out s = true) (hs2 : S.bs s = s) (ht1 : S.out t = true) (ht2 : S.bs t = t) (hp : Chain mt S s x P) (hq : Wk mt S t q Q) (hx : x ∈ Q) (hdj : ∀ y ∈ P, y ∉ Q) :
    ∃ ys, Chain mt S t x ys ∧ ∀ y ∈ P, y ∉ ys := by
  rcases hq with ⟨z, rfl, hc⟩ | ⟨rfl, r, Q', rfl, hc, hr⟩
  · obtain ⟨y1, y2, e, c1, c2⟩ := chain_split M I hd hc ht1 ht2 x hx
    exact ⟨y1, c1, fun y hy h => hdj y hy (by rw [e]; simp [h])⟩
  · rcases List.mem_append.1 hx with h | h
    · obtain ⟨y1, y2, e, c1, c2⟩ := chain_split M I hd hc ht1 ht2 x h
      exact ⟨y1, c1, fun y hy h => hdj y hy (by rw [e]; simp [h])⟩
    · obtain rfl : x = r := by simpa using h
      exact ⟨Q', hc, fun y hy h => hdj y hy (by simp [h])⟩
theorem not_both {N : Nat} {E : Nat → Nat → Prop} {mt : Nat → Int} {S : FS} (M : Mf N E mt) (I : Inv N E mt S) {s t : Nat} {P Q : List Nat} (hs1 : S.out s = true) (hs2 : S.bs s = s) (ht1 : S.out t = true) (ht2 : S.bs t = t) (hrt : S.rt s = S.rt t) (hp : Wk mt S s (-1) P) (hq : Wk mt S t (-1) Q) (hdj : ∀ y ∈ P, y ∉ Q) : False := by
 obtain ⟨d, hd⟩ := I.dp
 rcases hp with ⟨x, h, _⟩ | ⟨_, r, P', rfl, hc, hr⟩
 · omega
 rcases hq with ⟨x, h, _⟩ | ⟨_, r2, Q', rfl, hc2, hr2⟩
 · omega
 obtain ⟨⟨a1, a2, a3⟩, _⟩ := chain_facts M I hd hc hs1 hs2
 obtain ⟨⟨b1, b2, b3⟩, _⟩ := chain_facts M I hd hc2 ht1 ht2
 have e1 : S.rt r = (r : Int) := by
  rcases I.base M a1 a2 with ⟨_, h⟩ | ⟨m, h, _⟩
  · exact h
  · omega
 have e2 : S.rt r2 = (r2 : Int) := by
  rcases I.base M b1 b2 with ⟨_, h⟩ | ⟨m, h, _⟩
  · exact h
  · omega
 have : r = r2 := by omega
 subst this
 exact hdj r (by simp) (by simp)
theorem wk_new {N : Nat} {E : Nat → Nat → Prop} {mt : Nat → Int} {S : FS} (M : Mf N E mt) (I : Inv N E mt S) {s x : Nat} {P : List Nat} (hs1 : S.out s = true) (hs2 : S.bs s = s) (hp : Chain mt S s x P) : x ∉ P ∧ x < N ∧ S.out x = true ∧ S.bs x = x := by
 obtain ⟨d, hd⟩ := I.dp
 obtain ⟨⟨a1, a2, a3⟩, a4⟩ := chain_facts M I hd hp hs1 hs2
 exact ⟨fun h => by have := (a4 x h).1; omega, (I.o1 x a1).1, a1, a2⟩
end Go.Ga.Gl

namespace Go.Ga.Gl
open Go Go.Ga
theorem pairs_even (f : Nat → Nat) : ∀ (k : Nat) (l : List Nat), l.length ≤ k → l.Nodup → (∀ x ∈ l, f x ∈ l ∧ f x ≠ x ∧ f (f x) = x) → l.length % 2 = 0 := by
 intro k
 induction k with
 | zero => intro l h _ _; rw [Nat.le_zero.1 h]
 | succ k ih =>
   intro l hk hn h
   match l, hk, hn, h with
   | [], _, _, _ => rfl
   | x :: l, hk, hn, h =>
     obtain ⟨hx, hn'⟩ := List.nodup_cons.1 hn
     obtain ⟨h1, h2, h3⟩ := h x (by simp)
     have hfx : f x ∈ l := (List.mem_cons.1 h1).resolve_left h2
     have hlen := List.length_erase_of_mem hfx
     have hpos := List.length_pos_of_mem hfx
     simp only [List.length_cons] at hk
     have := ih (l.erase (f x)) (by omega) (hn'.erase _) fun y hy => by
      obtain ⟨hyx, hyl⟩ := (hn'.mem_erase_iff).1 hy
      obtain ⟨k1, k2, k3⟩ := h y (List.mem_cons_of_mem _ hyl)
      have n1 : f y ≠ x := fun e => hyx (by rw [← k3, e])
      have n2 : f y ≠ f x := fun e => by
       have : y = x := by rw [← k3, e, h3]
       exact hx (this ▸ hyl)
      exact ⟨(hn'.mem_erase_iff).2 ⟨n2, (List.mem_cons.1 k1).resolve_left n1⟩, k2, k3⟩
     simp only [List.length_cons]
     omega
theorem nodup_mapOn {f : Nat → Nat} : ∀ {l : List Nat}, l.Nodup → (∀ x ∈ l, ∀ y ∈ l, f x = f y → x = y) → (l.map f).Nodup
 | [], _, _ => by simp
 | a :: l, hn, h => by
   obtain ⟨ha, hn⟩ := List.nodup_cons.1 hn
   rw [List.map_cons]
   refine List.nodup_cons.2 ⟨fun hm => ?_, nodup_mapOn hn fun x hx y hy => h x (List.mem_cons_of_mem _ hx) y (List.mem_cons_of_mem _ hy)⟩
   obtain ⟨b, hb, e⟩ := List.mem_map.1 hm
   have := h b (List.mem_cons_of_mem _ hb) a (by simp) e
   exact ha (this ▸ hb)
def num (n : Nat) (p : Nat → Bool) : Nat := ((List.range n).filter p).length
theorem cnt_split (p : Nat → Bool) : ∀ l : List Nat, (l.filter p).length + (l.filter fun x => !p x).length = l.length
 | [] => rfl
 | a :: l => by
   have := cnt_split p l
   cases h : p a <;> simp [h] <;> omega
theorem num_split (n : Nat) (p : Nat → Bool) : num n p + num n (fun x => !p x) = n := by
 have := cnt_split p (List.range n)
 rwa [List.length_range] at this
theorem num_and (n : Nat) (p q : Nat → Bool) : num n (fun x => p x && q x) + num n (fun x => p x && !q x) = num n p := by
 have := cnt_split q ((List.range n).filter p)
 rw [List.filter_filter, List.filter_filter] at this
 unfold num
 rw [← this]
 congr 2 <;> (refine List.filter_congr fun x _ => ?_; exact Bool.and_comm _ _)
theorem num_le {n : Nat} {p : Nat → Bool} {l : List Nat} (h : ∀ v, v < n → p v = true → v ∈ l) : num n p ≤ l.length := by
 refine nodup_le (List.nodup_range.filter _) fun x hx => ?_
 obtain ⟨h1, h2⟩ := List.mem_filter.1 hx
 exact h x (List.mem_range.1 h1) h2
theorem num_mem {n : Nat} {p : Nat → Bool} {v : Nat} : v ∈ (List.range n).filter p ↔ v < n ∧ p v = true := by
 rw [List.mem_filter, List.mem_range]
theorem num_congr {n : Nat} {p q : Nat → Bool} (h : ∀ v, v < n → p v = q v) : num n p = num n q := by
 unfold num
 congr 1
 exact List.filter_congr fun x hx => h x (List.mem_range.1 hx)
theorem num_pos {n : Nat} {p : Nat → Bool} {v : Nat} (hv : v < n) (hp : p v = true) : 1 ≤ num n p := List.length_pos_of_mem (num_mem.2 ⟨hv, hp⟩)
def isFr (mt : Nat → Int) (v : Nat) : Bool := decide (mt v = -1)
def fre (n : Nat) (mt : Nat → Int) : Nat := num n (isFr mt)
theorem isFr_iff {mt : Nat → Int} {v : Nat} : isFr mt v = true ↔ mt v = -1 := decide_eq_true_iff
theorem fre_parity {n : Nat} {E : Nat → Nat → Prop} {mt : Nat → Int} (M : Mf n E mt) : (n - fre n mt) % 2 = 0 ∧ fre n mt ≤ n := by
 have h := num_split n (isFr mt)
 have h2 := pairs_even (fun v => (mt v).toNat) _ ((List.range n).filter fun x => !isFr mt x) (Nat.le_refl _) (List.nodup_range.filter _) fun x hx => by
  obtain ⟨h1, h3⟩ := num_mem.1 hx
  rcases M.at_ x h1 with h4 | ⟨w, h4, h5⟩
  · have := isFr_iff.2 h4
    rw [this] at h3; cases h3
  · have hs := M.sy x w h4
    have e1 : (mt x).toNat = w := by rw [h4]; rfl
    have e2 : (mt w).toNat = x := by rw [hs]; rfl
    refine ⟨?_, by rw [e1]; exact (M.ne x w h4).1, by rw [e1, e2]⟩
    rw [e1]
    refine num_mem.2 ⟨h5, ?_⟩
    unfold isFr
    rw [hs, decide_eq_false (by omega)]; rfl
 have h2' : num n (fun x => !isFr mt x) % 2 = 0 := h2
 unfold fre
 omega
structure Cert (n : Nat) (E : Nat → Nat → Prop) (mt : Nat → Int) (D A : Nat → Bool) (bs : Nat → Nat) : Prop where
 dn : ∀ v, D v = true → v < n
 an : ∀ v, A v = true → v < n ∧ D v = false
 ed : ∀ v w, D v = true → E v w → A w = true ∨ (D w = true ∧ bs w = bs v)
 db : ∀ v, D v = true → D (bs v) = true ∧ bs (bs v) = bs v
 fr : ∀ v, v < n → mt v = -1 → D v = true ∧ bs v = v
 am : ∀ a, A a = true → ∃ x : Nat, mt a = (x : Int) ∧ D x = true ∧ bs x = x
 dm : ∀ v, D v = true → bs v ≠ v → ∃ w : Nat, mt v = (w : Int) ∧ D w = true ∧ bs w = bs v
 bb : ∀ b m : Nat, D b = true → bs b = b → mt b = (m : Int) → A m = true
def isB (D : Nat → Bool) (bs : Nat → Nat) (v : Nat) : Bool := D v && decide (bs v = v)
theorem isB_iff {D : Nat → Bool} {bs : Nat → Nat} {v : Nat} : isB D bs v = true ↔ D v = true ∧ bs v = v := by
 unfold isB; rw [Bool.and_eq_true, decide_eq_true_iff]
theorem Cert.strong {n : Nat} {E E0 : Nat → Nat → Prop} {mt : Nat → Int} {D A : Nat → Bool} {bs : Nat → Nat} (C : Cert n E mt D A bs) (M : Mf n E0 mt) : num n A + fre n mt = num n (isB D bs) := by
 have hs := M.sy
 refine Nat.le_antisymm ?_ ?_
 · have hA := List.nodup_range.filter (l := List.range n) A
   have hF := List.nodup_range.filter (l := List.range n) (isFr mt)
   have hm : ∀ a ∈ (List.range n).filter A, ∃ x : Nat, mt a = (x : Int) ∧ (mt a).toNat = x ∧ D x = true ∧ bs x = x := fun a ha => by
    obtain ⟨x, h1, h2, h3⟩ := C.am a (num_mem.1 ha).2
    exact ⟨x, h1, by rw [h1]; rfl, h2, h3⟩
   have hAm : (((List.range n).filter A).map fun a => (mt a).toNat).Nodup := nodup_mapOn hA fun a ha b hb e => by
    obtain ⟨x, h1, h2, _⟩ := hm a ha
    obtain ⟨y, k1, k2, _⟩ := hm b hb
    simp only [h2, k2] at e
    subst e
    have := hs a x h1
    have := hs b x k1
    omega
   have := nodup_le (l := ((List.range n).filter A).map (fun a => (mt a).toNat) ++ (List.range n).filter (isFr mt)) (m := (List.range n).filter (isB D bs)) (List.nodup_append.2 ⟨hAm, hF, fun x hx y hy e => ?_⟩) fun x hx => ?_
   · rw [List.length_append, List.length_map] at this
     exact this
   · subst e
     obtain ⟨a, ha, rfl⟩ := List.mem_map.1 hx
     obtain ⟨x, h1, h2, h3, h4⟩ := hm a ha
     have h5 := isFr_iff.1 (num_mem.1 hy).2
     rw [h2, hs a x h1] at h5
     omega
   · rcases List.mem_append.1 hx with hx | hx
     · obtain ⟨a, ha, rfl⟩ := List.mem_map.1 hx
       obtain ⟨x, h1, h2, h3, h4⟩ := hm a ha
       rw [h2]
       exact num_mem.2 ⟨C.dn x h3, isB_iff.2 ⟨h3, h4⟩⟩
     · obtain ⟨h1, h2⟩ := num_mem.1 hx
       exact num_mem.2 ⟨h1, isB_iff.2 (C.fr x h1 (isFr_iff.1 h2))⟩
 · have hB := List.nodup_range.filter (l := List.range n) (isB D bs)
   have hmate : ∀ b ∈ (List.range n).filter (isB D bs), mt b = -1 ∨ ∃ m : Nat, mt b = (m : Int) ∧ A m = true := fun b hb => by
    obtain ⟨k1, k2⟩ := num_mem.1 hb
    obtain ⟨k2, k3⟩ := isB_iff.1 k2
    rcases M.at_ b k1 with h | ⟨m, h, _⟩
    · exact .inl h
    · exact .inr ⟨m, h, C.bb b m k2 k3 h⟩
   have hnd : (((List.range n).filter (isB D bs)).map fun b => if mt b = -1 then b else (mt b).toNat).Nodup := nodup_mapOn hB fun a ha b hb e => by
    have da := (isB_iff.1 (num_mem.1 ha).2).1
    have db := (isB_iff.1 (num_mem.1 hb).2).1
    rcases hmate a ha with h1 | ⟨x, h1, h2⟩ <;> rcases hmate b hb with k1 | ⟨y, k1, k2⟩
    · simpa [h1, k1] using e
    · simp [h1, k1] at e
      subst e
      have := (C.an a k2).2
      rw [da] at this; cases this
    · simp [h1, k1] at e
      subst e
      have := (C.an x h2).2
      rw [db] at this; cases this
    · simp [h1, k1] at e
      subst e
      have := M.sy a x h1
      have := M.sy b x k1
      omega
   have := nodup_le (m := (List.range n).filter A ++ (List.range n).filter (isFr mt)) hnd fun x hx => by
    obtain ⟨b, hb, rfl⟩ := List.mem_map.1 hx
    rcases hmate b hb with h | ⟨m, h1, h2⟩
    · rw [if_pos h]
      exact List.mem_append.2 (.inr (num_mem.2 ⟨(num_mem.1 hb).1, isFr_iff.2 h⟩))
    · rw [if_neg (by omega), h1]
      exact List.mem_append.2 (.inl (num_mem.2 ⟨(C.an m h2).1, h2⟩))
   rw [List.length_append, List.length_map] at this
   exact this
theorem Cert.odd {n : Nat} {E : Nat → Nat → Prop} {mt : Nat → Int} {D A : Nat → Bool} {bs : Nat → Nat} (C : Cert n E mt D A bs) {E0 : Nat → Nat → Prop} (M : Mf n E0 mt) {b : Nat} (h1 : D b = true) (h2 : bs b = b) : num n (fun x => D x && decide (bs x = b)) % 2 = 1 := by
 have hB : ((List.range n).filter (fun x => D x && decide (bs x = b))).Nodup := List.nodup_range.filter _
 have hbm : b ∈ (List.range n).filter (fun x => D x && decide (bs x = b)) := num_mem.2 ⟨C.dn b h1, by simp [h1, h2]⟩
 have hlen := List.length_erase_of_mem hbm
 have hpos := List.length_pos_of_mem hbm
 have := pairs_even (fun v => (mt v).toNat) _ (((List.range n).filter (fun x => D x && decide (bs x = b))).erase b) (Nat.le_refl _) (hB.erase _) fun x hx => by
  obtain ⟨hxb, hxl⟩ := (hB.mem_erase_iff).1 hx
  obtain ⟨hxn, hxp⟩ := num_mem.1 hxl
  simp only [Bool.and_eq_true, decide_eq_true_iff] at hxp
  obtain ⟨w, k1, k2, k3⟩ := C.dm x hxp.1 (by rw [hxp.2]; exact Ne.symm hxb)
  have hs := M.sy x w k1
  have e1 : (mt x).toNat = w := by rw [k1]; rfl
  have e2 : (mt w).toNat = x := by rw [hs]; rfl
  rw [e1, e2]
  refine ⟨(hB.mem_erase_iff).2 ⟨fun e => ?_, num_mem.2 ⟨C.dn w k2, by simp [k2, k3, hxp.2]⟩⟩, (M.ne x w k1).1, rfl⟩
  subst e
  have := (C.an x (C.bb w x h1 h2 hs)).2
  rw [hxp.1] at this; cases this
 unfold num
 omega
theorem Cert.weak {n : Nat} {E : Nat → Nat → Prop} {mt mt' : Nat → Int} {D A : Nat → Bool} {bs : Nat → Nat} (C : Cert n E mt D A bs) {E0 : Nat → Nat → Prop} (M : Mf n E0 mt) (M' : Mf n E mt') : fre n mt + num n (fun v => isFr mt' v && !D v) ≤ fre n mt' := by
 have hst := C.strong M
 let R : Nat → Nat → Prop := fun b y => (D y = true ∧ bs y = b ∧ mt' y = -1) ∨ (A y = true ∧ ∃ x : Nat, mt' y = (x : Int) ∧ D x = true ∧ bs x = b)
 have hex : ∀ b, isB D bs b = true → ∃ y, R b y := by
  intro b hb
  obtain ⟨hb1, hb2⟩ := isB_iff.1 hb
  refine Classical.byContradiction fun hno => ?_
  have hodd := C.odd M hb1 hb2
  have hB := List.nodup_range.filter (l := List.range n) (fun x => D x && decide (bs x = b))
  have := pairs_even (fun v => (mt' v).toNat) _ ((List.range n).filter (fun x => D x && decide (bs x = b))) (Nat.le_refl _) hB fun x hx => by
   obtain ⟨hxn, hxp⟩ := num_mem.1 hx
   simp only [Bool.and_eq_true, decide_eq_true_iff] at hxp
   rcases M'.at_ x hxn with h | ⟨w, h, hwn⟩
   · exact absurd ⟨x, .inl ⟨hxp.1, hxp.2, h⟩⟩ hno
   · have hs := M'.sy x w h
     have e1 : (mt' x).toNat = w := by rw [h]; rfl
     have e2 : (mt' w).toNat = x := by rw [hs]; rfl
     obtain ⟨hwx, hE⟩ := M'.ne x w h
     rcases C.ed x w hxp.1 hE with ha | ⟨hd, hbw⟩
     · exact absurd ⟨w, .inr ⟨ha, x, hs, hxp.1, hxp.2⟩⟩ hno
     · rw [e1, e2]
       exact ⟨num_mem.2 ⟨hwn, by simp [hd, hbw, hxp.2]⟩, hwx, rfl⟩
  unfold num at hodd
  omega
 let g : Nat → Nat := fun b => @dite _ (∃ y, R b y) (Classical.propDecidable _) (fun h => Classical.choose h) (fun _ => 0)
 have hg : ∀ b, isB D bs b = true → R b (g b) := fun b hb => by
  have h := hex b hb
  show R b (@dite _ (∃ y, R b y) (Classical.propDecidable _) (fun h => Classical.choose h) (fun _ => 0))
  rw [dif_pos h]
  exact Classical.choose_spec h
 have hinj : (((List.range n).filter (isB D bs)).map g).Nodup := nodup_mapOn (List.nodup_range.filter _) fun a ha b hb e => by
  have ra := hg a (num_mem.1 ha).2
  have rb := hg b (num_mem.1 hb).2
  rw [← e] at rb
  rcases ra with ⟨k1, k2, k3⟩ | ⟨k1, x, k2, k3, k4⟩ <;> rcases rb with ⟨j1, j2, j3⟩ | ⟨j1, y, j2, j3, j4⟩
  · rw [← k2, j2]
  · have := (C.an _ j1).2
    rw [k1] at this; cases this
  · have := (C.an _ k1).2
    rw [j1] at this; cases this
  · obtain rfl : x = y := by omega
    rw [← k4, j4]
 have hle := nodup_le (m := (List.range n).filter (fun v => isFr mt' v && D v) ++ (List.range n).filter (fun v => A v && !isFr mt' v)) hinj fun x hx => by
  obtain ⟨b, hb, rfl⟩ := List.mem_map.1 hx
  rcases hg b (num_mem.1 hb).2 with ⟨k1, k2, k3⟩ | ⟨k1, x, k2, k3, k4⟩
  · exact List.mem_append.2 (.inl (num_mem.2 ⟨C.dn _ k1, by rw [isFr_iff.2 k3, k1]; rfl⟩))
  · refine List.mem_append.2 (.inr (num_mem.2 ⟨(C.an _ k1).1, ?_⟩))
    have : isFr mt' (g b) = false := decide_eq_false (by omega)
    rw [k1, this]; rfl
 rw [List.length_append, List.length_map] at hle
 have e1 := num_and n (isFr mt') D
 have e2 := num_and n A (isFr mt')
 have hle' : num n (isB D bs) ≤ num n (fun v => isFr mt' v && D v) + num n (fun v => A v && !isFr mt' v) := hle
 unfold fre at *
 omega
theorem Cert.most {n : Nat} {E : Nat → Nat → Prop} {mt mt' : Nat → Int} {D A : Nat → Bool} {bs : Nat → Nat} (C : Cert n E mt D A bs) {E0 : Nat → Nat → Prop} (M : Mf n E0 mt) (M' : Mf n E mt') : fre n mt ≤ fre n mt' := Nat.le_trans (Nat.le_add_right _ _) (C.weak M M')
theorem Cert.less {n : Nat} {E : Nat → Nat → Prop} {mt mt' : Nat → Int} {D A : Nat → Bool} {bs : Nat → Nat} (C : Cert n E mt D A bs) {E0 : Nat → Nat → Prop} (M : Mf n E0 mt) (M' : Mf n E mt') {v : Nat} (hv : v < n) (hD : D v = false) (hm : mt' v = -1) : fre n mt + 2 ≤ fre n mt' := by
 have h1 := C.weak M M'
 have h2 := num_pos (n := n) (p := fun v => isFr mt' v && !D v) hv (by rw [isFr_iff.2 hm, hD]; rfl)
 have h3 := fre_parity M
 have h4 := fre_parity M'
 omega
def Lg (n : Nat) (E : Nat → Nat → Prop) (mt : Nat → Int) : Prop := Mf n E mt ∧ ∀ mt', Mf n E mt' → fre n mt ≤ fre n mt'
def Dm (n : Nat) (E : Nat → Nat → Prop) (v : Nat) : Prop := v < n ∧ ∃ mt, Lg n E mt ∧ mt v = -1
theorem Cert.dm_iff {n : Nat} {E : Nat → Nat → Prop} {mt : Nat → Int} {D A : Nat → Bool} {bs : Nat → Nat} (C : Cert n E mt D A bs) (M : Mf n E mt) (hD : ∀ v, D v = true → ∃ mt', Mf n E mt' ∧ fre n mt' ≤ fre n mt ∧ mt' v = -1) (v : Nat) : D v = true ↔ Dm n E v := by
 constructor
 · intro h
   obtain ⟨mt', h1, h2, h3⟩ := hD v h
   exact ⟨C.dn v h, mt', ⟨h1, fun mt2 h4 => Nat.le_trans h2 (C.most M h4)⟩, h3⟩
 · rintro ⟨hv, mt', ⟨h1, h2⟩, h3⟩
   cases hd : D v with
   | true => rfl
   | false =>
     have := C.less M h1 hv hd h3
     have := h2 mt M
     omega
theorem miss {n : Nat} {E : Nat → Nat → Prop} {mt : Nat → Int} {S : FS} (M : Mf n E mt) (I : Inv n E mt S) {v : Nat} (hv : S.out v = true) : ∃ mt', Mf n E mt' ∧ fre n mt' ≤ fre n mt ∧ mt' v = -1 := by
 obtain ⟨r, ps, hr, hfr, hrn, W, G, nd, hy⟩ := tree_way M I hv
 have hcl := good_closed M.sy G hfr
 obtain ⟨l, hl, hep⟩ : ∃ l, verts ps r = v :: l ∧ EP E l := by
  cases G with
  | nil => exact ⟨[], rfl, trivial⟩
  | cons h1 h2 h3 => exact ⟨_, rfl, EP_good h3 _ h2⟩
 rw [hl] at nd hy hcl
 obtain ⟨hvl, hnl⟩ := List.nodup_cons.1 nd
 have sp := par_spec M.es l hep hnl
 have hrl : r ∈ v :: l := by rw [← hl]; simp [verts]
 have hln : ∀ u ∈ l, u < n := fun u hu => (hy u (List.mem_cons_of_mem _ hu)).2
 let mt' : Nat → Int := fun u => if u = v then -1 else if u ∈ l then (par l u : Int) else mt u
 have m1 : mt' v = -1 := if_pos rfl
 have m2 : ∀ u ∈ l, mt' u = (par l u : Int) := fun u hu => by
  show (if u = v then -1 else if u ∈ l then (par l u : Int) else mt u) = _
  rw [if_neg (fun e : u = v => hvl (e ▸ hu)), if_pos hu]
 have m3 : ∀ u, u ≠ v → u ∉ l → mt' u = mt u := fun u h1 h2 => by
  show (if u = v then -1 else if u ∈ l then (par l u : Int) else mt u) = _
  rw [if_neg h1, if_neg h2]
 have far : ∀ u w : Nat, u ≠ v → u ∉ l → mt u = (w : Int) → w ≠ v ∧ w ∉ l := fun u w h1 h2 h3 => by
  have hs := M.sy u w h3
  have : ∀ z ∈ v :: l, z ≠ w := fun z hz e => by
   subst e
   have := hcl z hz u hs
   rcases List.mem_cons.1 this with e | e
   · exact h1 e
   · exact h2 e
  exact ⟨fun e => this v (by simp) e.symm, fun e => this w (List.mem_cons_of_mem _ e) rfl⟩
 have cases3 : ∀ u, u = v ∨ u ∈ l ∨ (u ≠ v ∧ u ∉ l) := fun u => by
  by_cases h1 : u = v
  · exact .inl h1
  · by_cases h2 : u ∈ l
    · exact .inr (.inl h2)
    · exact .inr (.inr ⟨h1, h2⟩)
 refine ⟨mt', ⟨fun u hu => ?_, fun u hu w h => ?_, fun u w h => ?_, fun u w h => ?_, M.es, M.el⟩, ?_, m1⟩
 · rcases cases3 u with rfl | h | ⟨h1, h2⟩
   · exact .inl m1
   · exact .inr ⟨_, m2 u h, hln _ (sp u h).1⟩
   · rw [m3 u h1 h2]; exact M.at_ u hu
 · rcases cases3 u with rfl | h1 | ⟨h1, h2⟩
   · rw [m1] at h; omega
   · exact hu (hln u h1)
   · rw [m3 u h1 h2] at h; exact M.big u hu w h
 · rcases cases3 u with rfl | h1 | ⟨h1, h2⟩
   · rw [m1] at h; omega
   · rw [m2 u h1] at h
     obtain rfl : par l u = w := by omega
     rw [m2 _ (sp u h1).1, (sp u h1).2.2]
   · rw [m3 u h1 h2] at h
     obtain ⟨k1, k2⟩ := far u w h1 h2 h
     rw [m3 w k1 k2]; exact M.sy u w h
 · rcases cases3 u with rfl | h1 | ⟨h1, h2⟩
   · rw [m1] at h; omega
   · rw [m2 u h1] at h
     obtain rfl : par l u = w := by omega
     exact ⟨(M.el _ _ (sp u h1).2.1).2.2.symm, (sp u h1).2.1⟩
   · rw [m3 u h1 h2] at h; exact M.ne u w h
 · have hnd : (((List.range n).filter (isFr mt')).map fun u => if u = v then r else u).Nodup := nodup_mapOn (List.nodup_range.filter _) fun a ha b hb e => by
    have fa := isFr_iff.1 (num_mem.1 ha).2
    have fb := isFr_iff.1 (num_mem.1 hb).2
    have key : ∀ z, mt' z = -1 → z ≠ v → z ≠ r := fun z hz hzv e => by
     subst e
     have := (List.mem_cons.1 hrl).resolve_left hzv
     rw [m2 z this] at hz; omega
    by_cases h1 : a = v <;> by_cases h2 : b = v
    · rw [h1, h2]
    · simp only [if_pos h1, if_neg h2] at e
      exact absurd e.symm (key b fb h2)
    · simp only [if_neg h1, if_pos h2] at e
      exact absurd e (key a fa h1)
    · simpa only [if_neg h1, if_neg h2] using e
   have := nodup_le (m := (List.range n).filter (isFr mt)) hnd fun x hx => by
    obtain ⟨u, hu, rfl⟩ := List.mem_map.1 hx
    obtain ⟨hun, hu⟩ := num_mem.1 hu
    have hu := isFr_iff.1 hu
    by_cases h1 : u = v
    · rw [if_pos h1]; exact num_mem.2 ⟨hrn, isFr_iff.2 hfr⟩
    · rw [if_neg h1]
      have h2 : u ∉ l := fun h => by rw [m2 u h] at hu; omega
      rw [m3 u h1 h2] at hu
      exact num_mem.2 ⟨hun, isFr_iff.2 hu⟩
   rw [List.length_map] at this
   exact this
def odd2 (S : FS) (v : Nat) : Bool := decide (S.lab v = 2) && !S.out v
theorem odd2_iff {S : FS} {v : Nat} : odd2 S v = true ↔ S.lab v = 2 ∧ S.out v = false := by
 unfold odd2; simp
theorem Inv.cert {n : Nat} {E : Nat → Nat → Prop} {mt : Nat → Int} {S : FS} (M : Mf n E mt) (I : Inv n E mt S) (L : Lk E S []) : Cert n E mt S.out (odd2 S) S.bs where
 dn := fun v h => (I.o1 v h).1
 an := fun v h => ⟨(I.od v (odd2_iff.1 h).1).1, (odd2_iff.1 h).2⟩
 ed := fun v w hv hE => by
  obtain ⟨h1, h2⟩ := L v w hv (by simp) hE
  cases ho : S.out w with
  | true =>
    rcases h2 ho with h | h
    · exact .inr ⟨rfl, h⟩
    · simp at h
  | false =>
    refine .inl (odd2_iff.2 ⟨?_, ho⟩)
    have h3 := I.l2 w
    have h4 : S.lab w ≠ 1 := fun e => by have := I.e1 w e; rw [ho] at this; cases this
    omega
 db := fun v h => ⟨(I.bo v h).1, (I.bo v h).2.2.1⟩
 fr := fun v hv hm => by
  have h1 := (I.fr v hv hm).1
  have ho := I.e1 v h1
  refine ⟨ho, ?_⟩
  obtain ⟨ps, w, _⟩ := I.wy v ho
  generalize S.bs v = b at w
  cases w with
  | here => rfl
  | even _ _ h3 _ _ => omega
  | odd _ _ h3 _ _ _ => omega
 am := fun a h => by
  obtain ⟨h1, h2⟩ := odd2_iff.1 h
  obtain ⟨_, x, k1, k2, _⟩ := I.od a h1
  exact ⟨x, k1, I.e1 x k2, I.bx a x h1 h2 k1⟩
 dm := fun v h hb => by
  have hl := I.l2 v
  have h0 := (I.o1 v h).2
  have main : ∀ w : Nat, mt v = (w : Int) → S.out w = true → ∃ w : Nat, mt v = (w : Int) ∧ S.out w = true ∧ S.bs w = S.bs v := fun w h1 h2 => ⟨w, h1, h2, (I.mate_same M h h1).2 h2⟩
  rcases (show S.lab v = 1 ∨ S.lab v = 2 by omega) with e | e
  · rcases I.ev v e with ⟨k, _⟩ | ⟨m, k1, k2⟩
    · exfalso
      obtain ⟨ps, w, _⟩ := I.wy v h
      generalize S.bs v = b at w hb
      cases w with
      | here => exact hb rfl
      | even _ _ h3 _ _ => omega
      | odd _ _ h3 _ _ _ => omega
    · cases ho : S.out m with
      | true => exact main m k1 ho
      | false => exact absurd (I.bx m v k2 ho (M.sy v m k1)) hb
  · obtain ⟨_, x, k1, k2, _⟩ := I.od v e
    exact main x k1 (I.e1 x k2)
 bb := fun b m h1 h2 hm => by
  rcases I.base M h1 h2 with ⟨h3, _⟩ | ⟨m', h3, h4, h5, _⟩
  · omega
  · obtain rfl : m' = m := by omega
    exact odd2_iff.2 ⟨h4, h5⟩
noncomputable def glab (n : Nat) (E : Nat → Nat → Prop) (v : Nat) : Nat :=
 open Classical in if Dm n E v then 1 else if ∃ w, Dm n E w ∧ E v w then 2 else 0
theorem done_lg {n : Nat} {E : Nat → Nat → Prop} {mt : Nat → Int} {S : FS} (M : Mf n E mt) (I : Inv n E mt S) (L : Lk E S []) : Lg n E mt := ⟨M, fun _ M' => (I.cert M L).most M M'⟩
theorem done_d {n : Nat} {E : Nat → Nat → Prop} {mt : Nat → Int} {S : FS} (M : Mf n E mt) (I : Inv n E mt S) (L : Lk E S []) (v : Nat) : S.out v = true ↔ Dm n E v := (I.cert M L).dm_iff M (fun v hv => miss M I hv) v
theorem done_a {n : Nat} {E : Nat → Nat → Prop} {mt : Nat → Int} {S : FS} (M : Mf n E mt) (I : Inv n E mt S) (L : Lk E S []) (v : Nat) : odd2 S v = true ↔ ¬ Dm n E v ∧ ∃ w, Dm n E w ∧ E v w := by
 have C := I.cert M L
 rw [← done_d M I L v]
 constructor
 · intro h
   obtain ⟨h1, h2⟩ := odd2_iff.1 h
   obtain ⟨_, x, k1, k2, k3, k4, k5, k6⟩ := I.od v h1
   exact ⟨by rw [h2]; simp, S.pr v, (done_d M I L _).1 k4, k5⟩
 · rintro ⟨h1, w, h2, h3⟩
   rcases C.ed w v ((done_d M I L w).2 h2) (M.es _ _ h3) with h | ⟨h, _⟩
   · exact h
   · exact absurd h h1
theorem done_lab {n : Nat} {E : Nat → Nat → Prop} {mt : Nat → Int} {S : FS} (M : Mf n E mt) (I : Inv n E mt S) (L : Lk E S []) (v : Nat) : (if S.out v = true then 1 else S.lab v) = glab n E v := by
 have hd := done_d M I L v
 have ha := done_a M I L v
 unfold glab
 by_cases h : S.out v = true
 · rw [if_pos h, if_pos (hd.1 h)]
 · rw [if_neg h, if_neg (fun e => h (hd.2 e))]
   have ho : S.out v = false := by simpa using h
   have hl := I.l2 v
   have h1 : S.lab v ≠ 1 := fun e => h (I.e1 v e)
   by_cases h2 : S.lab v = 2
   · rw [h2, if_pos (ha.1 (odd2_iff.2 ⟨h2, ho⟩)).2]
   · rw [if_neg]
     · omega
     · intro e
       exact h2 (odd2_iff.1 (ha.2 ⟨fun e2 => h (hd.2 e2), e⟩)).1
end Go.Ga.Gl

namespace Go.Ga.Gl
open Go Go.Ga
theorem Mf.add {n : Nat} {E : Nat → Nat → Prop} {mt mt' : Nat → Int} (M : Mf n E mt) {v w : Nat} (hv : mt v = -1) (hw : mt w = -1) (hE : E v w) (h1 : mt' v = (w : Int)) (h2 : mt' w = (v : Int)) (h3 : ∀ u, u ≠ v → u ≠ w → mt' u = mt u) : Mf n E mt' := by
 obtain ⟨hvn, hwn, hne⟩ := M.el v w hE
 have c3 : ∀ u, u = v ∨ u = w ∨ (u ≠ v ∧ u ≠ w) := fun u => by omega
 have far : ∀ u x : Nat, mt u = (x : Int) → x ≠ v ∧ x ≠ w := fun u x h => by
  have hs := M.sy u x h
  exact ⟨fun e => by subst e; omega, fun e => by subst e; omega⟩
 refine ⟨fun u hu => ?_, fun u hu x h => ?_, fun u x h => ?_, fun u x h => ?_, M.es, M.el⟩
 · rcases c3 u with rfl | rfl | ⟨k1, k2⟩
   · exact .inr ⟨w, h1, hwn⟩
   · exact .inr ⟨v, h2, hvn⟩
   · rw [h3 u k1 k2]; exact M.at_ u hu
 · have k1 : u ≠ v := fun e => hu (e ▸ hvn)
   have k2 : u ≠ w := fun e => hu (e ▸ hwn)
   rw [h3 u k1 k2] at h
   exact M.big u hu x h
 · rcases c3 u with rfl | rfl | ⟨k1, k2⟩
   · obtain rfl : w = x := by omega
     exact h2
   · obtain rfl : v = x := by omega
     exact h1
   · rw [h3 u k1 k2] at h
     obtain ⟨j1, j2⟩ := far u x h
     rw [h3 x j1 j2]; exact M.sy u x h
 · rcases c3 u with rfl | rfl | ⟨k1, k2⟩
   · obtain rfl : w = x := by omega
     exact ⟨Ne.symm hne, hE⟩
   · obtain rfl : v = x := by omega
     exact ⟨hne, M.es _ _ hE⟩
   · rw [h3 u k1 k2] at h; exact M.ne u x h
theorem fre_less {n : Nat} {mt mt' : Nat → Int} {r : Nat} (hr : r < n) (h1 : mt r = -1) (h2 : mt' r ≠ -1) (h3 : ∀ u, mt' u = -1 → mt u = -1) : fre n mt' + 1 ≤ fre n mt := by
 have := nodup_le (l := r :: (List.range n).filter (isFr mt')) (m := (List.range n).filter (isFr mt)) (List.nodup_cons.2 ⟨fun h => h2 (isFr_iff.1 (num_mem.1 h).2), List.nodup_range.filter _⟩) fun x hx => by
  rcases List.mem_cons.1 hx with rfl | hx
  · exact num_mem.2 ⟨hr, isFr_iff.2 h1⟩
  · obtain ⟨k1, k2⟩ := num_mem.1 hx
    exact num_mem.2 ⟨k1, isFr_iff.2 (h3 x (isFr_iff.1 k2))⟩
 rw [List.length_cons] at this
 exact this
theorem GR.mf {N : Nat} {es : Es} (g : GR N es) : (∀ v w, adj es v w → adj es w v) ∧ ∀ v w, adj es v w → v < N ∧ w < N ∧ v ≠ w := by
 refine ⟨fun v w h => adj_symm h, fun v w h => ?_⟩
 rcases h with h | h
 · have := g.ok _ h; simp only at this; omega
 · have := g.ok _ h; simp only at this; omega
theorem GR.none {N : Nat} {es : Es} (g : GR N es) {mt : Nat → Int} (h : ∀ v, mt v = -1) : Mf N (adj es) mt :=
 ⟨fun v _ => .inl (h v), fun v _ w e => by rw [h v] at e; omega, fun v w e => by rw [h v] at e; omega, fun v w e => by rw [h v] at e; omega, g.mf.1, g.mf.2⟩
theorem nearOf_len {N : Nat} {es : Es} (g : GR N es) (v : Nat) : (nearOf es v).length ≤ 131072 := by
 have h1 : (lowOf es v).length ≤ es.length := by simp [lowOf]; exact List.length_filter_le _ _
 have h2 : (highOf es v).length ≤ es.length := by simp [highOf]; exact List.length_filter_le _ _
 have := g.hm
 unfold nearOf
 rw [List.length_append]; omega
end Go.Ga.Gl

namespace Go.Ga.Gl
open Go Go.Ga
structure Fc (n : Nat) (E : Nat → Nat → Prop) (mt : Nat → Int) (D A : Nat → Bool) (bs : Nat → Nat) : Prop where
 m : Mf n E mt
 c : Cert n E mt D A bs
 d : ∀ v, D v = true → ∃ mt', Mf n E mt' ∧ fre n mt' ≤ fre n mt ∧ mt' v = -1
 a : ∀ v, A v = true → ∃ w, D w = true ∧ E v w
theorem done_fc {n : Nat} {E : Nat → Nat → Prop} {mt : Nat → Int} {S : FS} (M : Mf n E mt) (I : Inv n E mt S) (L : Lk E S []) : Fc n E mt S.out (odd2 S) S.bs where
 m := M
 c := I.cert M L
 d := fun v hv => miss M I hv
 a := fun v hv => by
  obtain ⟨h1, h2⟩ := odd2_iff.1 hv
  obtain ⟨_, x, k1, k2, k3, k4, k5, k6⟩ := I.od v h1
  exact ⟨S.pr v, k4, k5⟩
theorem Fc.lg {n : Nat} {E : Nat → Nat → Prop} {mt : Nat → Int} {D A : Nat → Bool} {bs : Nat → Nat} (F : Fc n E mt D A bs) : Lg n E mt := ⟨F.m, fun _ M' => F.c.most F.m M'⟩
theorem Fc.dm {n : Nat} {E : Nat → Nat → Prop} {mt : Nat → Int} {D A : Nat → Bool} {bs : Nat → Nat} (F : Fc n E mt D A bs) (v : Nat) : D v = true ↔ Dm n E v := F.c.dm_iff F.m F.d v
theorem Fc.lab {n : Nat} {E : Nat → Nat → Prop} {mt : Nat → Int} {D A : Nat → Bool} {bs : Nat → Nat} (F : Fc n E mt D A bs) (v : Nat) : glab n E v = if D v = true then 1 else if A v = true then 2 else 0 := by
 unfold glab
 by_cases h : D v = true
 · rw [if_pos h, if_pos ((F.dm v).1 h)]
 · rw [if_neg h, if_neg (fun e => h ((F.dm v).2 e))]
   by_cases h2 : A v = true
   · obtain ⟨w, h3, h4⟩ := F.a v h2
     rw [if_pos h2, if_pos ⟨w, (F.dm w).1 h3, h4⟩]
   · rw [if_neg h2, if_neg]
     rintro ⟨w, h3, h4⟩
     rcases F.c.ed w v ((F.dm w).2 h3) (F.m.es _ _ h4) with h5 | ⟨h5, _⟩
     · exact h2 h5
     · exact h h5
theorem Mf.mono {n : Nat} {E E' : Nat → Nat → Prop} {mt : Nat → Int} (M : Mf n E mt) (h : ∀ v w, E v w → E' v w) (hs : ∀ v w, E' v w → E' w v) (hl : ∀ v w, E' v w → v < n ∧ w < n ∧ v ≠ w) : Mf n E' mt :=
 ⟨M.at_, M.big, M.sy, fun v w e => ⟨(M.ne v w e).1, h _ _ (M.ne v w e).2⟩, hs, hl⟩
theorem Fc.more {n : Nat} {E E' : Nat → Nat → Prop} {mt : Nat → Int} {D A : Nat → Bool} {bs : Nat → Nat} (F : Fc n E mt D A bs) (h : ∀ v w, E v w → E' v w) (hs : ∀ v w, E' v w → E' w v) (hl : ∀ v w, E' v w → v < n ∧ w < n ∧ v ≠ w) (he : ∀ v w, D v = true → E' v w → A w = true ∨ (D w = true ∧ bs w = bs v)) : Fc n E' mt D A bs where
 m := F.m.mono h hs hl
 c := ⟨F.c.dn, F.c.an, he, F.c.db, F.c.fr, F.c.am, F.c.dm, F.c.bb⟩
 d := fun v hv => by
  obtain ⟨mt', h1, h2, h3⟩ := F.d v hv
  exact ⟨mt', h1.mono h hs hl, h2, h3⟩
 a := fun v hv => by
  obtain ⟨w, h1, h2⟩ := F.a v hv
  exact ⟨w, h1, h _ _ h2⟩
structure Bsd (N M : Nat) (E1 E2 E : Nat → Nat → Prop) : Prop where
 lo : ∀ v w, v < N → (E v w ↔ E1 v w)
 hi : ∀ v w, ¬ v < N → (E v w ↔ N ≤ w ∧ E2 (v - N) (w - N))
end Go.Ga.Gl

namespace Go.Ga.Gl
open Go Go.Ga
def Wi (s : Nat) (mt : Nat → Int) : Prop := ∀ v, s.testBit v = false → mt v = -1
def Best (N : Nat) (E : Nat → Nat → Prop) (s k : Nat) : Prop := (∃ mt, Mf N E mt ∧ Wi s mt ∧ N = fre N mt + 2 * k) ∧ ∀ mt, Mf N E mt → Wi s mt → N ≤ fre N mt + 2 * k
theorem num_two {n v w : Nat} (hv : v < n) (hw : w < n) (hne : v ≠ w) : num n (fun u => decide (u = v ∨ u = w)) = 2 := by
 refine Nat.le_antisymm ?_ ?_
 · have := num_le (n := n) (p := fun u => decide (u = v ∨ u = w)) (l := [v, w]) fun u _ h => by
    have := of_decide_eq_true h
    simpa using this
   simpa using this
 · have := nodup_le (l := [v, w]) (m := (List.range n).filter fun u => decide (u = v ∨ u = w)) (by simp [hne]) fun u hu => by
    have : u = v ∨ u = w := by simpa using hu
    refine num_mem.2 ⟨by rcases this with h | h <;> omega, decide_eq_true this⟩
   exact this
theorem fre_two {n : Nat} {mt mt' : Nat → Int} {v w : Nat} (hv : v < n) (hw : w < n) (hne : v ≠ w) (h1 : mt v = -1) (h2 : mt w = -1) (h3 : mt' v ≠ -1) (h4 : mt' w ≠ -1) (h5 : ∀ u, u ≠ v → u ≠ w → mt' u = mt u) : fre n mt' + 2 = fre n mt := by
 have e := num_and n (isFr mt) (fun u => decide (u = v ∨ u = w))
 have e1 : num n (fun u => isFr mt u && decide (u = v ∨ u = w)) = 2 := by
  rw [← num_two hv hw hne]
  refine num_congr fun u _ => ?_
  by_cases h : u = v ∨ u = w
  · have : mt u = -1 := by rcases h with rfl | rfl <;> assumption
    rw [isFr_iff.2 this, decide_eq_true h]; rfl
  · rw [decide_eq_false h, Bool.and_false]
 have e2 : num n (fun u => isFr mt u && !decide (u = v ∨ u = w)) = num n (isFr mt') := by
  refine num_congr fun u _ => ?_
  by_cases h : u = v ∨ u = w
  · have : isFr mt' u = false := decide_eq_false (by rcases h with rfl | rfl <;> assumption)
    rw [this, decide_eq_true h]; simp
  · rw [decide_eq_false h]
    unfold isFr
    rw [h5 u (fun k => h (.inl k)) (fun k => h (.inr k))]; simp
 unfold fre
 omega
def dlt (mt : Nat → Int) (v w u : Nat) : Int := if u = v ∨ u = w then -1 else mt u
theorem Mf.del {n : Nat} {E : Nat → Nat → Prop} {mt : Nat → Int} (M : Mf n E mt) {v w : Nat} (h : mt v = (w : Int)) : Mf n E (dlt mt v w) := by
 have hs := M.sy v w h
 have c : ∀ u x : Nat, dlt mt v w u = (x : Int) → mt u = (x : Int) ∧ ¬ (u = v ∨ u = w) := fun u x k => by
  unfold Gl.dlt at k
  by_cases e : u = v ∨ u = w
  · rw [if_pos e] at k; omega
  · rw [if_neg e] at k; exact ⟨k, e⟩
 refine ⟨fun u hu => ?_, fun u hu x k => M.big u hu x (c u x k).1, fun u x k => ?_, fun u x k => M.ne u x (c u x k).1, M.es, M.el⟩
 · unfold Gl.dlt
   split
   · exact .inl rfl
   · exact M.at_ u hu
 · obtain ⟨k1, k2⟩ := c u x k
   have k3 := M.sy u x k1
   have : ¬ (x = v ∨ x = w) := fun e => by
    rcases e with rfl | rfl
    · exact k2 (.inr (by omega))
    · exact k2 (.inl (by omega))
   show (if x = v ∨ x = w then -1 else mt x) = (u : Int)
   rw [if_neg this]; exact k3
theorem fre_del {n : Nat} {E : Nat → Nat → Prop} {mt : Nat → Int} (M : Mf n E mt) {v w : Nat} (h : mt v = (w : Int)) : fre n (dlt mt v w) = fre n mt + 2 := by
 obtain ⟨_, hE⟩ := M.ne v w h
 obtain ⟨h1, h2, h3⟩ := M.el v w hE
 have hs := M.sy v w h
 exact (fre_two h1 h2 h3 (if_pos (.inl rfl)) (if_pos (.inr rfl)) (by omega) (by omega) fun u k1 k2 => (if_neg (fun e => e.elim k1 k2)).symm).symm
theorem best_zero {N : Nat} {E : Nat → Nat → Prop} (M0 : Mf N E (fun _ => -1)) : Best N E 0 0 := by
 have hf : ∀ mt : Nat → Int, (∀ v, mt v = -1) → fre N mt = N := fun mt h => by
  have e := num_split N (isFr mt)
  have : num N (fun x => !isFr mt x) = 0 := by
   unfold num
   rw [List.length_eq_zero_iff, List.filter_eq_nil_iff]
   intro v _
   rw [isFr_iff.2 (h v)]; simp
  unfold fre
  omega
 exact ⟨⟨_, M0, fun _ _ => rfl, by rw [hf _ fun _ => rfl]; rfl⟩, fun mt _ h => by rw [hf mt fun v => h v (by simp)]; omega⟩
def Cur (N : Nat) (E : Nat → Nat → Prop) (s v w0 c : Nat) : Prop := (∃ mt, Mf N E mt ∧ Wi s mt ∧ N = fre N mt + 2 * c) ∧ ∀ mt, Mf N E mt → Wi s mt → (mt v = -1 ∨ ∃ w : Nat, w < w0 ∧ mt v = (w : Int)) → N ≤ fre N mt + 2 * c
theorem cur_start {N : Nat} {E : Nat → Nat → Prop} {s v rest c : Nat} (hlow : ∀ u, u < v → s.testBit u = false) (hr : ∀ u, rest.testBit u = (s.testBit u && !decide (u = v))) (B : Best N E rest c) : Cur N E s v (v + 1) c := by
 obtain ⟨⟨mt, M, W, h⟩, B2⟩ := B
 refine ⟨⟨mt, M, fun u hu => W u (by rw [hr, hu]; rfl), h⟩, fun mt M W k => ?_⟩
 have hv : mt v = -1 := by
  rcases k with k | ⟨w, hw, k⟩
  · exact k
  · exfalso
    obtain ⟨hne, _⟩ := M.ne v w k
    have := W w (hlow w (by omega))
    have := M.sy v w k
    omega
 refine B2 mt M fun u hu => ?_
 rw [hr] at hu
 by_cases e : u = v
 · subst e; exact hv
 · rw [decide_eq_false e] at hu
   exact W u (by simpa using hu)
theorem cur_no {N : Nat} {E : Nat → Nat → Prop} {s v rest w0 c : Nat} (hr : ∀ u, rest.testBit u = (s.testBit u && !decide (u = v))) (C : Cur N E s v w0 c) (hno : ¬ (rest.testBit w0 = true ∧ E v w0)) : Cur N E s v (w0 + 1) c := by
 refine ⟨C.1, fun mt M W k => ?_⟩
 rcases k with k | ⟨w, hw, k⟩
 · exact C.2 mt M W (.inl k)
 · by_cases e : w = w0
   · subst e
     exfalso
     obtain ⟨hne, hE⟩ := M.ne v w k
     refine hno ⟨?_, hE⟩
     rw [hr, decide_eq_false hne]
     cases hs : s.testBit w with
     | true => rfl
     | false =>
       have := W w hs
       have := M.sy v w k
       omega
   · exact C.2 mt M W (.inr ⟨w, by omega, k⟩)
theorem cur_yes {N : Nat} {E : Nat → Nat → Prop} {s v rest r2 w0 c k : Nat} (hsv : s.testBit v = true) (hr : ∀ u, rest.testBit u = (s.testBit u && !decide (u = v))) (h2 : ∀ u, r2.testBit u = (rest.testBit u && !decide (u = w0))) (C : Cur N E s v w0 c) (hw : rest.testBit w0 = true) (hE : E v w0) (B : Best N E r2 k) : Cur N E s v (w0 + 1) (max c (1 + k)) := by
 have hw2 : s.testBit w0 = true ∧ w0 ≠ v := by
  rw [hr] at hw
  simpa using hw
 refine ⟨?_, fun mt M W q => ?_⟩
 · rcases Nat.le_total (1 + k) c with h | h
   · rw [Nat.max_eq_left h]; exact C.1
   · rw [Nat.max_eq_right h]
     obtain ⟨mt, M, W, e⟩ := B.1
     have hv1 : mt v = -1 := W v (by rw [h2, hr, decide_eq_true (rfl : v = v)]; simp)
     have hw1 : mt w0 = -1 := W w0 (by rw [h2, decide_eq_true (rfl : w0 = w0)]; simp)
     obtain ⟨k1, k2, k3⟩ := M.el v w0 hE
     let mt' : Nat → Int := fun u => if u = v then (w0 : Int) else if u = w0 then (v : Int) else mt u
     have m1 : mt' v = (w0 : Int) := if_pos rfl
     have m2 : mt' w0 = (v : Int) := by
      show (if w0 = v then (w0 : Int) else if w0 = w0 then (v : Int) else mt w0) = _
      rw [if_neg hw2.2, if_pos rfl]
     have m3 : ∀ u, u ≠ v → u ≠ w0 → mt' u = mt u := fun u a b => by
      show (if u = v then (w0 : Int) else if u = w0 then (v : Int) else mt u) = _
      rw [if_neg a, if_neg b]
     refine ⟨mt', M.add hv1 hw1 hE m1 m2 m3, fun u hu => ?_, ?_⟩
     · have a : u ≠ v := fun e => by rw [e, hsv] at hu; cases hu
       have b : u ≠ w0 := fun e => by rw [e, hw2.1] at hu; cases hu
       rw [m3 u a b]
       exact W u (by rw [h2, hr, hu]; rfl)
     · have := fre_two k1 k2 k3 hv1 hw1 (by rw [m1]; omega) (by rw [m2]; omega) m3
       omega
 · have old : (mt v = -1 ∨ ∃ w : Nat, w < w0 ∧ mt v = (w : Int)) → N ≤ fre N mt + 2 * max c (1 + k) := fun h => by
    have := C.2 mt M W h
    have := Nat.le_max_left c (1 + k)
    omega
   rcases q with q | ⟨w, hwl, q⟩
   · exact old (.inl q)
   · by_cases e : w = w0
     · subst e
       have M2 := M.del q
       have e2 := fre_del M q
       have := B.2 _ M2 fun u hu => by
        show (if u = v ∨ u = w then -1 else mt u) = -1
        by_cases h : u = v ∨ u = w
        · rw [if_pos h]
        · rw [if_neg h]
          refine W u ?_
          rw [h2, hr, decide_eq_false (fun e => h (.inl e)), decide_eq_false (fun e => h (.inr e))] at hu
          simpa using hu
       have := Nat.le_max_right c (1 + k)
       omega
     · exact old (.inr ⟨w, by omega, q⟩)
theorem cur_end {N : Nat} {E : Nat → Nat → Prop} {s v c : Nat} (hv : v < N) (C : Cur N E s v N c) : Best N E s c := ⟨C.1, fun mt M W => C.2 mt M W (by
 rcases M.at_ v hv with h | ⟨w, h, hw⟩
 · exact .inl h
 · exact .inr ⟨w, hw, h⟩)⟩
theorem best_all {N : Nat} {E : Nat → Nat → Prop} {s k : Nat} (B : Best N E s k) (hs : ∀ v, v < N → s.testBit v = true) {mt : Nat → Int} (L : Lg N E mt) (hbig : ∀ v, ¬ v < N → mt v = -1) : N = fre N mt + 2 * k := by
 obtain ⟨⟨mt', M, W, e⟩, B2⟩ := B
 have h1 := B2 mt L.1 fun v hv => by
  by_cases h : v < N
  · rw [hs v h] at hv; cases hv
  · exact hbig v h
 have h2 := L.2 mt' M
 omega
theorem low_bit {s v : Nat} (hv : s.testBit v = true) (hlow : ∀ u, u < v → s.testBit u = false) (u : Nat) : (s &&& (s - 1)).testBit u = (s.testBit u && !decide (u = v)) := by
 have hm : s % 2 ^ (v + 1) = 2 ^ v := by
  apply Nat.eq_of_testBit_eq
  intro j
  rw [Nat.testBit_mod_two_pow, Nat.testBit_two_pow]
  by_cases h : j < v
  · rw [hlow j h, Bool.and_false, decide_eq_false (show ¬ v = j by omega)]
  · by_cases h2 : j = v
    · subst h2; rw [hv, decide_eq_true (show j < j + 1 by omega), decide_eq_true rfl]; rfl
    · rw [decide_eq_false (show ¬ j < v + 1 by omega), decide_eq_false (show ¬ v = j by omega)]; rfl
 have hs : s = 2 ^ (v + 1) * (s / 2 ^ (v + 1)) + 2 ^ v := by
  have := Nat.div_add_mod s (2 ^ (v + 1))
  omega
 have hp : 0 < 2 ^ v := Nat.two_pow_pos v
 have hlt : 2 ^ v < 2 ^ (v + 1) := Nat.pow_lt_pow_right (by omega) (by omega)
 generalize s / 2 ^ (v + 1) = q at hs
 have hs1 : s - 1 = 2 ^ (v + 1) * q + (2 ^ v - 1) := by omega
 rw [Nat.testBit_and, hs1, Nat.testBit_two_pow_mul_add _ (by omega), Nat.testBit_two_pow_sub_one]
 have hsu : s.testBit u = if u < v + 1 then (2 ^ v).testBit u else q.testBit (u - (v + 1)) := by
  conv => lhs; rw [hs]
  exact Nat.testBit_two_pow_mul_add _ hlt u
 rw [hsu, Nat.testBit_two_pow]
 by_cases h : u < v + 1
 · rw [if_pos h, if_pos h]
   by_cases h2 : u = v
   · subst h2; simp
   · have : ¬ v = u := fun e => h2 e.symm
     simp [this]
 · rw [if_neg h, if_neg h]
   have : ¬ u = v := by omega
   simp [this]
end Go.Ga.Gl
set_option maxRecDepth 100000
set_option maxHeartbeats 4000000
namespace Go.Proofs.Ytkjppnofgmpeeaa
open Go Go.Ga Go.Ga.Gl
def bor (a b : Int) : Int := IntKind.i64.wrap ((BitVec.ofInt 64 a ||| BitVec.ofInt 64 b).toNat : Int)
def band (a b : Int) : Int := IntKind.i64.wrap ((BitVec.ofInt 64 a &&& BitVec.ofInt 64 b).toNat : Int)
def bnot (a b : Int) : Int := IntKind.i64.wrap ((BitVec.ofInt 64 a &&& ~~~ BitVec.ofInt 64 b).toNat : Int)
theorem orI (a b : Int) : intBin .or .i64 a b = some (.int .i64 (bor a b)) := rfl
theorem andI (a b : Int) : intBin .and .i64 a b = some (.int .i64 (band a b)) := rfl
theorem notI (a b : Int) : intBin .andNot .i64 a b = some (.int .i64 (bnot a b)) := rfl
theorem bv_nat {a : Nat} (h : a < 2 ^ 62) : (BitVec.ofInt 64 (a : Int)).toNat = a := by
 rw [BitVec.toNat_ofInt]
 omega
theorem bor_nat {a b : Nat} (ha : a < 2 ^ 62) (hb : b < 2 ^ 62) : bor (a : Int) (b : Int) = ((a ||| b : Nat) : Int) := by
 unfold bor
 rw [BitVec.toNat_or, bv_nat ha, bv_nat hb]
 have := Nat.or_lt_two_pow ha hb
 exact IntWalk.i64_in _ (by omega)
theorem band_nat {a b : Nat} (ha : a < 2 ^ 62) (hb : b < 2 ^ 62) : band (a : Int) (b : Int) = ((a &&& b : Nat) : Int) := by
 unfold band
 rw [BitVec.toNat_and, bv_nat ha, bv_nat hb]
 have := Nat.and_lt_two_pow a hb
 exact IntWalk.i64_in _ (by omega)
theorem bnot_nat {a b : Nat} (ha : a < 2 ^ 62) (hb : b < 2 ^ 62) : ∃ r : Nat, bnot (a : Int) (b : Int) = (r : Int) ∧ r ≤ a ∧ ∀ u, r.testBit u = (a.testBit u && !b.testBit u) := by
 have e : (BitVec.ofInt 64 (a : Int) &&& ~~~ BitVec.ofInt 64 (b : Int)).toNat = a &&& (2 ^ 64 - 1 - b) := by
  rw [BitVec.toNat_and, bv_nat ha, BitVec.toNat_not, bv_nat hb]
 have hle : a &&& (2 ^ 64 - 1 - b) ≤ a := Nat.and_le_left
 refine ⟨a &&& (2 ^ 64 - 1 - b), ?_, hle, fun u => ?_⟩
 · unfold bnot
   rw [e]
   exact IntWalk.i64_in _ (by omega)
 · have h64 : b < 2 ^ 64 := by omega
   rw [Nat.testBit_and]
   rw [show 2 ^ 64 - 1 - b = 2 ^ 64 - (b + 1) by omega, Nat.testBit_two_pow_sub_succ h64]
   by_cases hu : u < 64
   · rw [decide_eq_true hu, Bool.true_and]
   · have : a.testBit u = false := Nat.testBit_lt_two_pow (Nat.lt_of_lt_of_le ha (Nat.pow_le_pow_right (by omega) (by omega)))
     rw [this]; rfl
theorem shl_one {w : Nat} (h : w ≤ 40) : shiftBin .shl .i64 1 (w : Int) = some (.int .i64 ((2 ^ w : Nat) : Int)) := by
 have hp : 2 ^ w ≤ 2 ^ 40 := Nat.pow_le_pow_right (by omega) h
 unfold shiftBin
 rw [if_neg (by omega)]
 have e : min ((w : Int).toNat) IntKind.i64.bits = w := by
  show min w 64 = w
  omega
 simp only [e, Int.one_mul]
 have : IntKind.i64.wrap (2 ^ w : Int) = ((2 ^ w : Nat) : Int) := by
  rw [show (2 ^ w : Int) = ((2 ^ w : Nat) : Int) by simp]
  generalize 2 ^ w = p at hp ⊢
  exact IntWalk.i64_in _ (by omega)
 rw [this]
theorem shr_nat {s v : Nat} (h : v ≤ 60) : shiftBin .shr .i64 (s : Int) (v : Int) = some (.int .i64 ((s / 2 ^ v : Nat) : Int)) := by
 unfold shiftBin
 rw [if_neg (by omega)]
 have e : min ((v : Int).toNat) IntKind.i64.bits = v := by
  show min v 64 = v
  omega
 simp only [e]
 rw [Int.fdiv_eq_ediv_of_nonneg _ (Int.le_of_lt (Int.pow_pos (by decide)))]
 simp
theorem bit_one {s v : Nat} (h : s < 2 ^ 62) : band ((s / 2 ^ v : Nat) : Int) 1 = if s.testBit v = true then 1 else 0 := by
 have hl : s / 2 ^ v < 2 ^ 62 := Nat.lt_of_le_of_lt (Nat.div_le_self _ _) h
 rw [show (1 : Int) = ((1 : Nat) : Int) from rfl, band_nat hl (by decide), Nat.and_one_is_mod, Nat.testBit_eq_decide_div_mod_eq]
 by_cases h1 : s / 2 ^ v % 2 = 1
 · rw [decide_eq_true h1, if_pos rfl, h1]
 · rw [decide_eq_false h1, if_neg (by simp)]
   omega
instance adjDec (es : Es) (a b : Nat) : Decidable (adj es a b) := inferInstanceAs (Decidable ((a, b) ∈ es ∨ (b, a) ∈ es))
def masks (es : Es) (nm : List Nat) : Prop := ∀ v, v < nm.length → nm.getD v 0 < 2 ^ nm.length ∧ ∀ u, (nm.getD v 0).testBit u = decide (adj es v u)
theorem masks_step {N : Nat} {es : Es} {k a b : Nat} {nm : List Nat} (hN : nm.length = N) (h : masks (es.take k) nm) (hx : es[k]? = some (a, b)) (hab : a < b) (hb : b < N) : masks (es.take (k + 1)) ((nm.set a (nm.getD a 0 ||| 2 ^ b)).set b ((nm.set a (nm.getD a 0 ||| 2 ^ b)).getD b 0 ||| 2 ^ a)) := by
 have ht : es.take (k + 1) = es.take k ++ [(a, b)] := by
  rw [List.take_add_one, hx]; rfl
 have hadj : ∀ v u, adj (es.take (k + 1)) v u ↔ adj (es.take k) v u ∨ (v = a ∧ u = b) ∨ (v = b ∧ u = a) := fun v u => by
  rw [ht]
  unfold adj
  simp only [List.mem_append, List.mem_singleton, Prod.mk.injEq]
  constructor
  · rintro ((h | h) | (h | ⟨h1, h2⟩))
    · exact .inl (.inl h)
    · exact .inr (.inl h)
    · exact .inl (.inr h)
    · exact .inr (.inr ⟨h2, h1⟩)
  · rintro ((h | h) | h | ⟨h1, h2⟩)
    · exact .inl (.inl h)
    · exact .inr (.inl h)
    · exact .inl (.inr h)
    · exact .inr (.inr ⟨h2, h1⟩)
 have g1 : ∀ v, v < N → ((nm.set a (nm.getD a 0 ||| 2 ^ b)).set b ((nm.set a (nm.getD a 0 ||| 2 ^ b)).getD b 0 ||| 2 ^ a)).getD v 0 = if v = b then nm.getD b 0 ||| 2 ^ a else if v = a then nm.getD a 0 ||| 2 ^ b else nm.getD v 0 := fun v hv => by
  have hab' : a ≠ b := by omega
  by_cases e : v = b
  · subst e
    have : a ≠ v := by omega
    simp [hN, hv, this]
  · by_cases e2 : v = a
    · subst e2
      have : b ≠ v := by omega
      simp [hN, hv, this, e]
    · have h1 : b ≠ v := fun k => e k.symm
      have h2 : a ≠ v := fun k => e2 k.symm
      simp [h1, h2, e, e2, List.getElem?_set]
 intro v hv
 have hlen : ((nm.set a (nm.getD a 0 ||| 2 ^ b)).set b ((nm.set a (nm.getD a 0 ||| 2 ^ b)).getD b 0 ||| 2 ^ a)).length = N := by simp [hN]
 rw [hlen] at hv ⊢
 rw [g1 v hv]
 have hp : ∀ c, c < N → 2 ^ c < 2 ^ N := fun c hc => Nat.pow_lt_pow_right (by omega) hc
 have hn : ∀ c, c < N → nm.getD c 0 < 2 ^ N ∧ ∀ u, (nm.getD c 0).testBit u = decide (adj (es.take k) c u) := fun c hc => by
  have := h c (by omega)
  rw [hN] at this
  exact this
 by_cases e : v = b
 · subst e
   rw [if_pos rfl]
   refine ⟨Nat.or_lt_two_pow (hn v hb).1 (hp a (by omega)), fun u => ?_⟩
   rw [Nat.testBit_or, (hn v hb).2, Nat.testBit_two_pow]
   rw [show decide (adj (es.take (k + 1)) v u) = (decide (adj (es.take k) v u) || decide (a = u)) from by
    rw [← Bool.decide_or]
    refine decide_eq_decide.2 ((hadj v u).trans ?_)
    constructor
    · rintro (h | ⟨h, _⟩ | ⟨_, h⟩)
      · exact .inl h
      · omega
      · exact .inr h.symm
    · rintro (h | h)
      · exact .inl h
      · exact .inr (.inr ⟨rfl, h.symm⟩)]
 · rw [if_neg e]
   by_cases e2 : v = a
   · subst e2
     rw [if_pos rfl]
     refine ⟨Nat.or_lt_two_pow (hn v hv).1 (hp b hb), fun u => ?_⟩
     rw [Nat.testBit_or, (hn v hv).2, Nat.testBit_two_pow]
     rw [show decide (adj (es.take (k + 1)) v u) = (decide (adj (es.take k) v u) || decide (b = u)) from by
      rw [← Bool.decide_or]
      refine decide_eq_decide.2 ((hadj v u).trans ?_)
      constructor
      · rintro (h | ⟨_, h⟩ | ⟨h, _⟩)
        · exact .inl h
        · exact .inr h.symm
        · omega
      · rintro (h | h)
        · exact .inl h
        · exact .inr (.inl ⟨rfl, h.symm⟩)]
   · rw [if_neg e2]
     refine ⟨(hn v hv).1, fun u => ?_⟩
     rw [(hn v hv).2]
     refine decide_eq_decide.2 ((hadj v u).trans ⟨fun h => ?_, fun h => ?_⟩).symm
     · rcases h with h | ⟨h, _⟩ | ⟨h, _⟩
       · exact h
       · exact absurd h e2
       · exact absurd h e
     · exact .inl h
end Go.Proofs.Ytkjppnofgmpeeaa
set_option maxRecDepth 100000
set_option maxHeartbeats 4000000
namespace Go.Proofs.Ytkjppnofgmpeeaa
open Go Go.Ga Go.Ga.Gl
theorem best_le {N : Nat} {E : Nat → Nat → Prop} {s k : Nat} (B : Best N E s k) : k ≤ N := by
 obtain ⟨⟨mt, _, _, h⟩, _⟩ := B
 omega
theorem cur_le {N : Nat} {E : Nat → Nat → Prop} {s v w k : Nat} (B : Cur N E s v w k) : k ≤ N := by
 obtain ⟨⟨mt, _, _, h⟩, _⟩ := B
 omega
theorem masks_zero (es : Es) (N : Nat) : masks (es.take 0) (List.replicate N 0) := fun v hv => by
 rw [List.length_replicate] at hv ⊢
 have e : (List.replicate N 0).getD v 0 = 0 := by simp [hv]
 rw [e]
 refine ⟨Nat.two_pow_pos N, fun u => ?_⟩
 rw [Nat.zero_testBit]
 symm
 rw [decide_eq_false_iff_not]
 unfold adj
 simp
theorem table_ok {N : Nat} {es : Es} (g : GR N es) (hN : N ≤ 12) : ACalls Try.prog [] n_f31 [.agg [.sc (.int .i64 (N : Int)), .imm 2 (twos (castE es))]] [] fun r h' => (∃ t : List Nat, t.length = 2 ^ N ∧ (∀ s, s < 2 ^ N → Best N (adj es) s (t.getD s 0)) ∧ r = .own (some 1) (nats t)) ∧ h' = [] := by
 have hem := g.hm
 have hm1 : 8 * N ≤ 140737488355328 ∧ (N : Int) ≤ 9223372036854775807 := by omega
 have hp : 2 ^ N ≤ 2 ^ 12 := Nat.pow_le_pow_right (by omega) hN
 have hp0 : 1 ≤ 2 ^ N := Nat.two_pow_pos N
 have hM0 : Mf N (adj es) (fun _ => -1) := g.none fun _ => rfl
 have uN : IntKind.u64.wrap (N : Int) = (N : Int) := IntWalk.u64_in _ (by omega)
 have hshN := shl_one (show N ≤ 40 by omega)
 have ub : ∀ x : Nat, x < N → IntKind.u64.wrap (x : Int) = (x : Int) := fun x hx => IntWalk.u64_in _ (by omega)
 have h2p : ∀ x : Nat, x < N → 2 ^ x < 2 ^ 62 := fun x hx => Nat.pow_lt_pow_right (by omega) (by omega)
 obtain ⟨P, hP⟩ : ∃ P, P = 2 ^ N := ⟨_, rfl⟩
 rw [← hP] at hshN hp hp0
 have hm2 : 8 * P ≤ 140737488355328 ∧ (P : Int) ≤ 9223372036854775807 := by omega
 refine go_f31 rfl ?_
 unfold c_f31 v_f31
 refine wlk_sreg fun KY hKY => ?_
 simp only [go_sem, c_f31_r0]
 refine hKY _ ?_
 refine wlk_sreg fun KY hKY => ?_
 simp only [go_sem, c_f31_r1, hm1, Int.le_refl, nats_zero]
 refine hKY _ ?_
 refine wlk_seq fun X1 hn1 he1 hr1 => ?_
 refine wlk_sreg fun KY hKY => ?_
 simp only [go_sem, c_f31_r2]
 refine hKY _ ?_
 refine wlk_blk fun X2 hn2 he2 hf2 hr2 => ?_
 try simp only [go_sem]
 refine wlk_lp (α := Nat × List Nat) [5, 6, 19] (fun (k, nm) => [(3, .own (some 1) (nats nm)), (4, .sc (.int .i64 (k : Int)))]) (fun (k, nm) => []) (fun (k, nm) q => k ≤ es.length ∧ nm.length = N ∧ masks (es.take k) nm ∧ q = es.length - k) ((0, List.replicate N 0)) (es.length) rfl (by first | (simp only [go_sem, updAll_cons, updAll_nil]; done) | with_reducible rfl | rfl) (⟨Nat.zero_le _, by simp, masks_zero es N, rfl⟩) ?_
 rintro ⟨k, nm⟩ q ⟨hk, hnl, hmk, rfl⟩ X3 hn3 he3 hr3
 simp only [go_sem, updAll_cons, updAll_nil]
 refine wlk_seq fun X4 hn4 he4 hr4 => ?_
 rcases Nat.lt_or_ge k es.length with hk2 | hk2
 · have hdx : decide ((k : Int) < (es.length : Int)) = true := decide_eq_true (by omega)
   have hx : es[k]? = some (es[k]) := List.getElem?_eq_getElem hk2
   have hok := g.ok _ (List.getElem_mem hk2)
   generalize es[k] = ab at hx hok
   obtain ⟨a, b⟩ := ab
   simp only at hok
   have hcx : (castE es)[k]? = some ((a : Int), (b : Int)) := by simp [castE, hx]
   have hg0 := two_get0 hcx
   have hg1 := two_get1 hcx
   simp only at hg0 hg1
   have hst := masks_step hnl hmk hx hok.1 hok.2
   have ha := (hmk a (by omega)).1
   have hb := (hmk b (by omega)).1
   rw [hnl, ← hP] at ha hb
   have hga : (nats nm)[a]? = some (.sc (.int .i64 ((nm.getD a 0 : Nat) : Int))) := nats_get (by omega)
   have hor1 := bor_nat (show nm.getD a 0 < 2 ^ 62 by omega) (h2p b hok.2)
   have hl1 : (nm.set a (nm.getD a 0 ||| 2 ^ b)).length = N := by simp [hnl]
   have hb1 : (nm.set a (nm.getD a 0 ||| 2 ^ b)).getD b 0 = nm.getD b 0 := by
    have : a ≠ b := by omega
    simp [this]
   rw [hb1] at hst
   have hgb : (nats (nm.set a (nm.getD a 0 ||| 2 ^ b)))[b]? = some (.sc (.int .i64 ((nm.getD b 0 : Nat) : Int))) := by rw [nats_get (by omega), hb1]
   have hor2 := bor_nat (show nm.getD b 0 < 2 ^ 62 by omega) (h2p a (by omega))
   have hsa := shl_one (show a ≤ 40 by omega)
   have hsb := shl_one (show b ≤ 40 by omega)
   refine wlk_sreg fun KY hKY => ?_
   simp only [go_sem, c_f31_r3, twos_len, mul2, castE_len, hdx]
   refine hKY _ ?_
   refine wlk_cond1 (by first | rfl | (simp only [go_sem]; try simp (disch := omega) only [decide_eq_true, decide_eq_false])) ?_
   refine wlk_skip ?_
   repeat (first | refine hn4 _ ?_ | refine he4 _ _ ?_ | refine he3 _ _ ?_ | refine hn2 _ ?_ | refine he2 _ ?_ | refine hf2 _ _ (by decide) ?_ | refine hn1 _ ?_ | refine he1 _ _ ?_)
   refine wlk_seq fun X5 hn5 he5 hr5 => ?_
   refine wlk_blk fun X6 hn6 he6 hf6 hr6 => ?_
   refine wlk_sdraw fun KY hKY => ?_
   simp only [go_sem, c_f31_r4, hg0, hg1, twos_len, castE_len, mul2, hk2, (show k * 2 + 1 < es.length * 2 by omega), (show k * 2 < es.length * 2 by omega), List.length_drop, (show 1 < es.length * 2 - k * 2 by omega), List.getElem?_drop]
   refine hKY _ ?_
   refine wlk_sreg fun KY hKY => ?_
   simp only [go_sem, c_f31_r5, hga, nats_len, hnl, (show a < N by omega), ub b hok.2, hsb, ↓orI, hor1, nats_set]
   refine hKY _ ?_
   refine wlk_reg fun KY hKY => ?_
   simp only [go_sem, c_f31_r6, hgb, nats_len, hl1, hok.2, ub a (by omega), hsa, ↓orI, hor2, nats_set]
   refine hKY _ ?_
   repeat (first | refine hn6 _ ?_ | refine he6 _ ?_ | refine hf6 _ _ (by decide) ?_ | refine hn5 _ ?_ | refine he5 _ _ ?_ | refine hn4 _ ?_ | refine he4 _ _ ?_ | refine he3 _ _ ?_ | refine hn2 _ ?_ | refine he2 _ ?_ | refine hf2 _ _ (by decide) ?_ | refine hn1 _ ?_ | refine he1 _ _ ?_)
   refine wlk_reg fun KY hKY => ?_
   simp only [go_sem, c_f31_r7, incS (show k < 4611686018427387904 by omega)]
   refine hKY _ ?_
   repeat (first | refine hn6 _ ?_ | refine he6 _ ?_ | refine hf6 _ _ (by decide) ?_ | refine hn5 _ ?_ | refine he5 _ _ ?_ | refine hn4 _ ?_ | refine he4 _ _ ?_)
   refine hn3 _ ((k + 1, (nm.set a (nm.getD a 0 ||| 2 ^ b)).set b (nm.getD b 0 ||| 2 ^ a))) (es.length - (k + 1)) (by omega) (by first | (simp only [go_sem, updAll_cons, updAll_nil]; done) | with_reducible rfl) ?_
   exact ⟨hk2, by simp [hnl], hst, rfl⟩
 have hdx : decide ((k : Int) < (es.length : Int)) = false := decide_eq_false (by omega)
 refine wlk_sreg fun KY hKY => ?_
 simp only [go_sem, c_f31_r3, twos_len, mul2, castE_len, hdx]
 refine hKY _ ?_
 refine wlk_cond0 (by first | rfl | (simp only [go_sem]; try simp (disch := omega) only [decide_eq_true, decide_eq_false])) ?_
 refine wlk_exit ?_
 repeat (first | refine hn4 _ ?_ | refine he4 _ _ ?_ | refine he3 _ _ ?_ | refine hn2 _ ?_ | refine he2 _ ?_ | refine hf2 _ _ (by decide) ?_ | refine hn1 _ ?_ | refine he1 _ _ ?_)
 have hmf : ∀ v, v < N → nm.getD v 0 < P ∧ ∀ u, (nm.getD v 0).testBit u = decide (adj es v u) := fun v hv => by
  have := hmk v (by omega)
  rw [hnl, ← hP, List.take_of_length_le (by omega)] at this
  exact this
 refine wlk_sreg fun KY hKY => ?_
 simp only [go_sem, c_f31_r8, uN, hshN, hm2, Int.le_refl, nats_zero]
 refine hKY _ ?_
 have hb0 : Best N (adj es) 0 0 := best_zero hM0
 clear hk hk2 hdx hmk
 have hst0 : ∀ x, x < 1 → Best N (adj es) x ((List.replicate P 0).getD x 0) := fun x hx => by
  obtain rfl : x = 0 := by omega
  have : (List.replicate P 0).getD 0 0 = 0 := by
   rw [List.getD_eq_getElem?_getD, List.getElem?_replicate]
   split <;> rfl
  rw [this]; exact hb0
 refine wlk_seq fun X7 hn7 he7 hr7 => ?_
 refine wlk_sreg fun KY hKY => ?_
 simp only [go_sem, c_f31_r9]
 refine hKY _ ?_
 refine wlk_blk fun X8 hn8 he8 hf8 hr8 => ?_
 try simp only [go_sem]
 refine wlk_lp (α := Nat × List Nat) [9, 10, 11, 64, 72, 91, 110] (fun (s, t) => [(7, .own (some 1) (nats t)), (8, .sc (.int .i64 (s : Int)))]) (fun (s, t) => []) (fun (s, t) q => 1 ≤ s ∧ s ≤ P ∧ t.length = P ∧ (∀ x, x < s → Best N (adj es) x (t.getD x 0)) ∧ q = P - s) ((1, List.replicate P 0)) (P - 1) rfl (by first | (simp only [go_sem, updAll_cons, updAll_nil]; done) | with_reducible rfl | rfl) (⟨Nat.le_refl _, hp0, by simp, hst0, rfl⟩) ?_
 rintro ⟨s, t⟩ q ⟨hs1, hsP, htl, hbe, rfl⟩ X9 hn9 he9 hr9
 simp only [go_sem, updAll_cons, updAll_nil]
 refine wlk_seq fun X10 hn10 he10 hr10 => ?_
 rcases Nat.lt_or_ge s P with hs2 | hs2
 · have hdx : decide ((s : Int) < (P : Int)) = true := decide_eq_true (by omega)
   have hs62 : s < 2 ^ 62 := by omega
   have htop : ∀ u, N ≤ u → s.testBit u = false := fun u hu => Nat.testBit_lt_two_pow (by rw [hP] at hs2; exact Nat.lt_of_lt_of_le hs2 (Nat.pow_le_pow_right (by omega) hu))
   refine wlk_sreg fun KY hKY => ?_
   simp only [go_sem, c_f31_r10, nats_len, htl, hdx]
   refine hKY _ ?_
   refine wlk_cond1 (by first | rfl | (simp only [go_sem]; try simp (disch := omega) only [decide_eq_true, decide_eq_false])) ?_
   refine wlk_skip ?_
   repeat (first | refine hn10 _ ?_ | refine he10 _ _ ?_ | refine he9 _ _ ?_ | refine hn8 _ ?_ | refine he8 _ ?_ | refine hf8 _ _ (by decide) ?_ | refine hn7 _ ?_ | refine he7 _ _ ?_ | refine hn4 _ ?_ | refine he4 _ _ ?_)
   refine wlk_seq fun X11 hn11 he11 hr11 => ?_
   refine wlk_blk fun X12 hn12 he12 hf12 hr12 => ?_
   refine wlk_sreg fun KY hKY => ?_
   simp only [go_sem, c_f31_r11]
   refine hKY _ ?_
   refine wlk_seq fun X13 hn13 he13 hr13 => ?_
   refine wlk_blk fun X14 hn14 he14 hf14 hr14 => ?_
   try simp only [go_sem]
   refine wlk_lp (α := Nat) [72] (fun v => [(9, .sc (.int .i64 (v : Int)))]) (fun v => []) (fun v q => v ≤ N ∧ (∀ u, u < v → s.testBit u = false) ∧ q = N - v) (0) (N) rfl (by first | (simp only [go_sem, updAll_cons, updAll_nil]; done) | with_reducible rfl | rfl) (⟨Nat.zero_le _, fun u hu => by omega, rfl⟩) ?_
   rintro v q ⟨hv, hlow, rfl⟩ X15 hn15 he15 hr15
   simp only [go_sem, updAll_cons, updAll_nil]
   have hvN : v < N := by
    rcases Nat.lt_or_ge v N with h | h
    · exact h
    · exfalso
      have : s = 0 := Nat.eq_of_testBit_eq fun u => by
       rw [Nat.zero_testBit]
       rcases Nat.lt_or_ge u v with h2 | h2
       · exact hlow u h2
       · exact htop u (by omega)
      omega
   have hsr := shr_nat (s := s) (show v ≤ 60 by omega)
   have hbo := bit_one (v := v) hs62
   refine wlk_seq fun X16 hn16 he16 hr16 => ?_
   cases hvb : s.testBit v with
   | false =>
     rw [hvb, if_neg (by simp)] at hbo
     refine wlk_sreg fun KY hKY => ?_
     simp only [go_sem, c_f31_r12, ub v hvN, hsr, ↓andI, hbo]
     refine hKY _ ?_
     refine wlk_cond1 (by first | rfl | (simp only [go_sem]; try simp (disch := omega) only [decide_eq_true, decide_eq_false])) ?_
     refine wlk_skip ?_
     repeat (first | refine hn16 _ ?_ | refine he16 _ _ ?_ | refine he15 _ _ ?_ | refine hn14 _ ?_ | refine he14 _ ?_ | refine hf14 _ _ (by decide) ?_ | refine hn13 _ ?_ | refine he13 _ _ ?_ | refine hn12 _ ?_ | refine he12 _ ?_ | refine hf12 _ _ (by decide) ?_ | refine hn11 _ ?_ | refine he11 _ _ ?_ | refine hn10 _ ?_ | refine he10 _ _ ?_)
     refine wlk_blk fun X17 hn17 he17 hf17 hr17 => ?_
     refine wlk_reg fun KY hKY => ?_
     simp only [go_sem, c_f31_r13, incS (show v < 4611686018427387904 by omega)]
     refine hKY _ ?_
     repeat (first | refine hn17 _ ?_ | refine he17 _ ?_ | refine hf17 _ _ (by decide) ?_ | refine hn16 _ ?_ | refine he16 _ _ ?_)
     refine hn15 _ (v + 1) (N - (v + 1)) (by omega) (by first | (simp only [go_sem, updAll_cons, updAll_nil]; done) | with_reducible rfl) ?_
     refine ⟨hvN, fun u hu => ?_, rfl⟩
     by_cases e : u = v
     · rw [e]; exact hvb
     · exact hlow u (by omega)
   | true =>
     rw [hvb, if_pos rfl] at hbo
     refine wlk_sreg fun KY hKY => ?_
     simp only [go_sem, c_f31_r12, ub v hvN, hsr, ↓andI, hbo]
     refine hKY _ ?_
     refine wlk_cond0 (by first | rfl | (simp only [go_sem]; try simp (disch := omega) only [decide_eq_true, decide_eq_false])) ?_
     refine wlk_exit ?_
     repeat (first | refine hn16 _ ?_ | refine he16 _ _ ?_ | refine he15 _ _ ?_ | refine hn14 _ ?_ | refine he14 _ ?_ | refine hf14 _ _ (by decide) ?_ | refine hn13 _ ?_ | refine he13 _ _ ?_ | refine hn12 _ ?_ | refine he12 _ ?_ | refine hf12 _ _ (by decide) ?_ | refine hn11 _ ?_ | refine he11 _ _ ?_ | refine hn10 _ ?_ | refine he10 _ _ ?_ | refine he9 _ _ ?_ | refine hn8 _ ?_ | refine he8 _ ?_ | refine hf8 _ _ (by decide) ?_ | refine hn7 _ ?_ | refine he7 _ _ ?_ | refine hn4 _ ?_ | refine he4 _ _ ?_ | refine he3 _ _ ?_ | refine hn2 _ ?_ | refine he2 _ ?_ | refine hf2 _ _ (by decide) ?_ | refine hn1 _ ?_ | refine he1 _ _ ?_)
     obtain ⟨rest, hrest⟩ : ∃ x, x = s &&& (s - 1) := ⟨_, rfl⟩
     have hrb := low_bit hvb hlow
     rw [← hrest] at hrb
     have hrle : rest ≤ s - 1 := by rw [hrest]; exact Nat.and_le_right
     have hw1 : IntKind.i64.wrap ((s : Int) - 1) = ((s - 1 : Nat) : Int) := by rw [IntWalk.i64_in _ (by omega)]; omega
     have hba : band (s : Int) ((s - 1 : Nat) : Int) = (rest : Int) := by rw [band_nat hs62 (by omega), ← hrest]
     have hB0 := hbe rest (by omega)
     have hC0 := cur_start hlow hrb hB0
     have hgr : (nats t)[rest]? = some (.sc (.int .i64 ((t.getD rest 0 : Nat) : Int))) := nats_get (by omega)
     have hr62 : rest < 2 ^ 62 := by omega
     refine wlk_sreg fun KY hKY => ?_
     simp only [go_sem, c_f31_r14, hw1, ↓andI, hba]
     refine hKY _ ?_
     refine wlk_sreg fun KY hKY => ?_
     simp only [go_sem, c_f31_r15, hgr, nats_len, htl, (show rest < P by omega), hs2, nats_set]
     refine hKY _ ?_
     refine wlk_sreg fun KY hKY => ?_
     simp only [go_sem, c_f31_r16, incS (show v < 4611686018427387904 by omega)]
     refine hKY _ ?_
     refine wlk_blk fun X18 hn18 he18 hf18 hr18 => ?_
     try simp only [go_sem]
     refine wlk_lp (α := Nat × Nat) [91, 110] (fun (w, c) => [(7, .own (some 1) (nats (t.set s c))), (11, .sc (.int .i64 (w : Int)))]) (fun (w, c) => []) (fun (w, c) q => v < w ∧ w ≤ N ∧ Cur N (adj es) s v w c ∧ q = N - w) ((v + 1, t.getD rest 0)) (N - (v + 1)) rfl (by first | (simp only [go_sem, updAll_cons, updAll_nil]; done) | with_reducible rfl | rfl) (⟨by omega, hvN, hC0, rfl⟩) ?_
     rintro ⟨w, c⟩ q ⟨hvw, hwN, hC, rfl⟩ X19 hn19 he19 hr19
     simp only [go_sem, updAll_cons, updAll_nil]
     have htl2 : (t.set s c).length = P := by simp [htl]
     refine wlk_seq fun X20 hn20 he20 hr20 => ?_
     rcases Nat.lt_or_ge w N with hw2 | hw2
     · have hdw : decide ((w : Int) < (N : Int)) = true := decide_eq_true (by omega)
       have hsw := shr_nat (s := rest) (show w ≤ 60 by omega)
       have hbw := bit_one (v := w) hr62
       have hmv := hmf v hvN
       have hgv : (nats nm)[v]? = some (.sc (.int .i64 ((nm.getD v 0 : Nat) : Int))) := nats_get (by omega)
       have hsm := shr_nat (s := nm.getD v 0) (show w ≤ 60 by omega)
       have hbm := bit_one (v := w) (show nm.getD v 0 < 2 ^ 62 by omega)
       rw [hmv.2 w] at hbm
       refine wlk_sreg fun KY hKY => ?_
       simp only [go_sem, c_f31_r17, hdw]
       refine hKY _ ?_
       refine wlk_cond1 (by first | rfl | (simp only [go_sem]; try simp (disch := omega) only [decide_eq_true, decide_eq_false])) ?_
       refine wlk_skip ?_
       repeat (first | refine hn20 _ ?_ | refine he20 _ _ ?_ | refine he19 _ _ ?_ | refine hn18 _ ?_ | refine he18 _ ?_ | refine hf18 _ _ (by decide) ?_ | refine hn16 _ ?_ | refine he16 _ _ ?_)
       refine wlk_seq fun X21 hn21 he21 hr21 => ?_
       refine wlk_blk fun X22 hn22 he22 hf22 hr22 => ?_
       cases hrw : rest.testBit w with
       | false =>
         rw [hrw, if_neg (by simp)] at hbw
         have hno := cur_no hrb hC (fun h => by rw [hrw] at h; cases h.1)
         refine wlk_sreg fun KY hKY => ?_
         simp only [go_sem, c_f31_r18, ub w hw2, hsw, ↓andI, hbw]
         refine hKY _ ?_
         refine wlk_cond0 (by first | rfl | (simp only [go_sem]; try simp (disch := omega) only [decide_eq_true, decide_eq_false])) ?_
         refine wlk_skip ?_
         repeat (first | refine hn22 _ ?_ | refine he22 _ ?_ | refine hf22 _ _ (by decide) ?_ | refine hn21 _ ?_ | refine he21 _ _ ?_ | refine hn20 _ ?_ | refine he20 _ _ ?_ | refine he19 _ _ ?_ | refine hn18 _ ?_ | refine he18 _ ?_ | refine hf18 _ _ (by decide) ?_ | refine hn16 _ ?_ | refine he16 _ _ ?_)
         refine wlk_reg fun KY hKY => ?_
         simp only [go_sem, c_f31_r20, incS (show w < 4611686018427387904 by omega)]
         refine hKY _ ?_
         repeat (first | refine hn22 _ ?_ | refine he22 _ ?_ | refine hf22 _ _ (by decide) ?_ | refine hn21 _ ?_ | refine he21 _ _ ?_ | refine hn20 _ ?_ | refine he20 _ _ ?_)
         refine hn19 _ ((w + 1, c)) (N - (w + 1)) (by omega) (by first | (simp only [go_sem, updAll_cons, updAll_nil]; done) | with_reducible rfl) ?_
         exact ⟨by omega, hw2, hno, rfl⟩
       | true =>
         rw [hrw, if_pos rfl] at hbw
         by_cases hadj : adj es v w
         · rw [decide_eq_true hadj, if_pos rfl] at hbm
           obtain ⟨r2, hr2, hr2le, hr2b⟩ := bnot_nat hr62 (h2p w hw2)
           have hr2t : ∀ u, r2.testBit u = (rest.testBit u && !decide (u = w)) := fun u => by
            rw [hr2b, Nat.testBit_two_pow]
            congr 2
            exact decide_eq_decide.2 eq_comm
           have hB2 := hbe r2 (by omega)
           have hyes := cur_yes hvb hrb hr2t hC hrw hadj hB2
           have hk2 := best_le hB2
           have hc2 := cur_le hC
           have hgs : (nats (t.set s c))[s]? = some (.sc (.int .i64 (c : Int))) := by
            rw [nats_get (by omega)]
            have : (t.set s c).getD s 0 = c := by simp [htl, hs2]
            rw [this]
           have hg2 : (nats (t.set s c))[r2]? = some (.sc (.int .i64 ((t.getD r2 0 : Nat) : Int))) := by
            rw [nats_get (by omega)]
            have : (t.set s c).getD r2 0 = t.getD r2 0 := by
             have : s ≠ r2 := by omega
             simp [this]
            rw [this]
           have hw9 : IntKind.i64.wrap (1 + ((t.getD r2 0 : Nat) : Int)) = ((1 + t.getD r2 0 : Nat) : Int) := by rw [IntWalk.i64_in _ (by omega)]; omega
           have hmx : max (c : Int) ((1 + t.getD r2 0 : Nat) : Int) = ((max c (1 + t.getD r2 0) : Nat) : Int) := by omega
           have hslw := shl_one (show w ≤ 40 by omega)
           refine wlk_sreg fun KY hKY => ?_
           simp only [go_sem, c_f31_r18, ub w hw2, hsw, ↓andI, hbw, hgv, nats_len, hnl, hvN, hsm, hbm]
           refine hKY _ ?_
           refine wlk_cond1 (by first | rfl | (simp only [go_sem]; try simp (disch := omega) only [decide_eq_true, decide_eq_false])) ?_
           refine wlk_draw fun KY hKY => ?_
           simp only [go_sem, c_f31_r19, hgs, hg2, nats_len, htl2, hs2, (show r2 < P by omega), ub w hw2, hslw, ↓notI, hr2, hw9, hmx, nats_set, List.set_set]
           refine hKY _ ?_
           repeat (first | refine hn22 _ ?_ | refine he22 _ ?_ | refine hf22 _ _ (by decide) ?_ | refine hn21 _ ?_ | refine he21 _ _ ?_ | refine hn20 _ ?_ | refine he20 _ _ ?_ | refine he19 _ _ ?_ | refine hn18 _ ?_ | refine he18 _ ?_ | refine hf18 _ _ (by decide) ?_ | refine hn16 _ ?_ | refine he16 _ _ ?_)
           refine wlk_reg fun KY hKY => ?_
           simp only [go_sem, c_f31_r20, incS (show w < 4611686018427387904 by omega)]
           refine hKY _ ?_
           repeat (first | refine hn22 _ ?_ | refine he22 _ ?_ | refine hf22 _ _ (by decide) ?_ | refine hn21 _ ?_ | refine he21 _ _ ?_ | refine hn20 _ ?_ | refine he20 _ _ ?_)
           refine hn19 _ ((w + 1, max c (1 + t.getD r2 0))) (N - (w + 1)) (by omega) (by first | (simp only [go_sem, updAll_cons, updAll_nil]; done) | with_reducible rfl) ?_
           exact ⟨by omega, hw2, hyes, rfl⟩
         · rw [decide_eq_false hadj, if_neg (by simp)] at hbm
           have hno := cur_no hrb hC (fun h => hadj h.2)
           refine wlk_sreg fun KY hKY => ?_
           simp only [go_sem, c_f31_r18, ub w hw2, hsw, ↓andI, hbw, hgv, nats_len, hnl, hvN, hsm, hbm]
           refine hKY _ ?_
           refine wlk_cond0 (by first | rfl | (simp only [go_sem]; try simp (disch := omega) only [decide_eq_true, decide_eq_false])) ?_
           refine wlk_skip ?_
           repeat (first | refine hn22 _ ?_ | refine he22 _ ?_ | refine hf22 _ _ (by decide) ?_ | refine hn21 _ ?_ | refine he21 _ _ ?_ | refine hn20 _ ?_ | refine he20 _ _ ?_ | refine he19 _ _ ?_ | refine hn18 _ ?_ | refine he18 _ ?_ | refine hf18 _ _ (by decide) ?_ | refine hn16 _ ?_ | refine he16 _ _ ?_)
           refine wlk_reg fun KY hKY => ?_
           simp only [go_sem, c_f31_r20, incS (show w < 4611686018427387904 by omega)]
           refine hKY _ ?_
           repeat (first | refine hn22 _ ?_ | refine he22 _ ?_ | refine hf22 _ _ (by decide) ?_ | refine hn21 _ ?_ | refine he21 _ _ ?_ | refine hn20 _ ?_ | refine he20 _ _ ?_)
           refine hn19 _ ((w + 1, c)) (N - (w + 1)) (by omega) (by first | (simp only [go_sem, updAll_cons, updAll_nil]; done) | with_reducible rfl) ?_
           exact ⟨by omega, hw2, hno, rfl⟩
     have hdw : decide ((w : Int) < (N : Int)) = false := decide_eq_false (by omega)
     obtain rfl : w = N := by omega
     have hBs := cur_end hvN hC
     refine wlk_sreg fun KY hKY => ?_
     simp only [go_sem, c_f31_r17, hdw]
     refine hKY _ ?_
     refine wlk_cond0 (by first | rfl | (simp only [go_sem]; try simp (disch := omega) only [decide_eq_true, decide_eq_false])) ?_
     refine wlk_exit ?_
     repeat (first | refine hn20 _ ?_ | refine he20 _ _ ?_ | refine he19 _ _ ?_ | refine hn18 _ ?_ | refine he18 _ ?_ | refine hf18 _ _ (by decide) ?_ | refine hn16 _ ?_ | refine he16 _ _ ?_ | refine he15 _ _ ?_ | refine hn14 _ ?_ | refine he14 _ ?_ | refine hf14 _ _ (by decide) ?_ | refine hn13 _ ?_ | refine he13 _ _ ?_ | refine hn12 _ ?_ | refine he12 _ ?_ | refine hf12 _ _ (by decide) ?_ | refine hn11 _ ?_ | refine he11 _ _ ?_ | refine hn10 _ ?_ | refine he10 _ _ ?_ | refine he9 _ _ ?_ | refine hn8 _ ?_ | refine he8 _ ?_ | refine hf8 _ _ (by decide) ?_ | refine hn7 _ ?_ | refine he7 _ _ ?_ | refine hn4 _ ?_ | refine he4 _ _ ?_)
     refine wlk_reg fun KY hKY => ?_
     simp only [go_sem, c_f31_r21, incS (show s < 4611686018427387904 by omega)]
     refine hKY _ ?_
     repeat (first | refine hn20 _ ?_ | refine he20 _ _ ?_ | refine he19 _ _ ?_ | refine hn18 _ ?_ | refine he18 _ ?_ | refine hf18 _ _ (by decide) ?_ | refine hn16 _ ?_ | refine he16 _ _ ?_ | refine he15 _ _ ?_ | refine hn14 _ ?_ | refine he14 _ ?_ | refine hf14 _ _ (by decide) ?_ | refine hn13 _ ?_ | refine he13 _ _ ?_ | refine hn12 _ ?_ | refine he12 _ ?_ | refine hf12 _ _ (by decide) ?_ | refine hn11 _ ?_ | refine he11 _ _ ?_ | refine hn10 _ ?_ | refine he10 _ _ ?_)
     refine hn9 _ ((s + 1, t.set s c)) (P - (s + 1)) (by omega) (by first | (simp only [go_sem, updAll_cons, updAll_nil]; done) | with_reducible rfl) ?_
     refine ⟨by omega, hs2, htl2, fun x hx => ?_, rfl⟩
     by_cases e : x = s
     · have : (t.set s c).getD x 0 = c := by rw [e]; simp [htl, hs2]
       rw [this, e]; exact hBs
     · have : (t.set s c).getD x 0 = t.getD x 0 := by
        have : s ≠ x := fun k => e k.symm
        simp [this]
       rw [this]; exact hbe x (by omega)
 have hdx : decide ((s : Int) < (P : Int)) = false := decide_eq_false (by omega)
 obtain rfl : s = P := by omega
 refine wlk_sreg fun KY hKY => ?_
 simp only [go_sem, c_f31_r10, nats_len, htl, hdx]
 refine hKY _ ?_
 refine wlk_cond0 (by first | rfl | (simp only [go_sem]; try simp (disch := omega) only [decide_eq_true, decide_eq_false])) ?_
 refine wlk_exit ?_
 repeat (first | refine hn10 _ ?_ | refine he10 _ _ ?_ | refine he9 _ _ ?_ | refine hn8 _ ?_ | refine he8 _ ?_ | refine hf8 _ _ (by decide) ?_ | refine hn7 _ ?_ | refine he7 _ _ ?_ | refine hn4 _ ?_ | refine he4 _ _ ?_ | refine he3 _ _ ?_ | refine hn2 _ ?_ | refine he2 _ ?_ | refine hf2 _ _ (by decide) ?_ | refine hn1 _ ?_ | refine he1 _ _ ?_)
 refine wlk_sreg fun KY hKY => ?_
 simp only [go_sem, c_f31_r22]
 refine hKY _ ?_
 refine wlk_ret ?_
 repeat (first | refine hr10 _ ?_ | refine hr9 _ ?_ | refine hr8 _ ?_ | refine hr7 _ ?_ | refine hr4 _ ?_ | refine hr3 _ ?_ | refine hr2 _ ?_ | refine hr1 _ ?_)
 simp only [go_sem]
 exact ⟨t, by rw [htl, hP], fun x hx => hbe x (by rw [hP]; exact hx), rfl⟩
end Go.Proofs.Ytkjppnofgmpeeaa
set_option maxRecDepth 100000
set_option maxHeartbeats 4000000
namespace Go.Proofs.Ytkjppnofgmpeeaa
open Go Go.Ga Go.Ga.Gl
structure FD where
 lab : List Int
 out : List Bool
 ev : List Int
 od : List Int
 pr : List Int
 rt : List Int
 br : List (Int × Int)
 gone : List Bool
 up : List Int
 bs : List Int
 mr : List Int
 tn : Int
 wt : List Nat
 lk : Int
def FD.obj (nr : List (List Nat)) (m : List Int) (F : FD) : List AVal :=
 [.imm 1 (rowsI nr), .imm 1 (ints m), .own (some 1) (ints F.lab), .own (some 1) (bools F.out), .own (some 1) (ints F.ev), .own (some 1) (ints F.od), .own (some 1) (ints F.pr), .own (some 1) (ints F.rt), .own (some 2) (twos F.br), .own (some 1) (bools F.gone), .own (some 1) (ints F.up), .own (some 1) (ints F.bs), .own (some 1) (ints F.mr), .sc (.int .i64 F.tn), .own (some 1) (nats F.wt), .sc (.int .i64 F.lk)]
structure FD.Sz (n : Nat) (F : FD) : Prop where
 lab : F.lab.length = n
 out : F.out.length = n
 ev : F.ev.length = n
 od : F.od.length = n
 pr : F.pr.length = n
 rt : F.rt.length = n
 br : F.br.length = n
 gone : F.gone.length = n
 up : F.up.length = n
 bs : F.bs.length = n
 mr : F.mr.length = n
def FD.raise (F : FD) (v : Nat) (e l : Int) : FD := { F with out := F.out.set v true, ev := F.ev.set v e, lab := if F.lab.getD v 0 = 0 then F.lab.set v l else F.lab, wt := F.wt ++ [v] }
theorem raise_ok (nr : List (List Nat)) (m : List Int) {n : Nat} (F : FD) (S : F.Sz n) {v : Nat} (hv : v < n) (e l : Int) (hw : F.wt.length ≤ 1000000) :
    ACalls Try.prog [] n_f78 [.ptr 0 0, .sc (.int .i64 (v : Int)), .sc (.int .i64 e), .sc (.int .i64 l)] [some (F.obj nr m)] fun r h' => r = .tup [] ∧ h' = [some ((F.raise v e l).obj nr m)] := by
  obtain ⟨lab, out, ev, od, pr, rt, br, gone, up, bs, mr, tn, wt, lk⟩ := F
  obtain ⟨s1, s2, s3, s4, s5, s6, s7, s8, s9, s10, s11⟩ := S
  simp only at s1 s2 s3 s4 s5 s6 s7 s8 s9 s10 s11
  simp only at hw
  unfold FD.obj FD.raise
  refine go_f78 rfl ?_
  unfold c_f78 v_f78
  simp only
  refine wlk_sdraw fun KY hKY => ?_
  simp only [go_sem, c_f78_r0, bools_len, bools_set, ints_len, ints_set, s2, s3, hv]
  refine hKY _ ?_
  refine wlk_seq fun X1 hn1 he1 hr1 => ?_
  by_cases h0 : lab.getD v 0 = 0
  · have hd : decide (lab.getD v 0 = 0) = true := decide_eq_true h0
    refine wlk_sreg fun KY hKY => ?_
    simp only [go_sem, c_f78_r1, ints_get (show v < lab.length by omega), ints_len, s1, hv, hd]
    refine hKY _ ?_
    refine wlk_cond1 (by first | rfl | (simp only [go_sem]; try simp (disch := omega) only [decide_eq_true, decide_eq_false])) ?_
    refine wlk_reg fun KY hKY => ?_
    simp only [go_sem, c_f78_r2, ints_len, s1, hv, ints_set]
    refine hKY _ ?_
    repeat (first | refine hn1 _ ?_ | refine he1 _ _ ?_)
    refine wlk_reg fun KY hKY => ?_
    simp only [go_sem, c_f78_r3, nats_snoc, nats_len, (show (wt.length + 1) * 8 ≤ 140737488355328 by omega)]
    refine hKY _ ?_
    simp only [go_sem, if_pos h0]
  · have hd : decide (lab.getD v 0 = 0) = false := decide_eq_false h0
    refine wlk_sreg fun KY hKY => ?_
    simp only [go_sem, c_f78_r1, ints_get (show v < lab.length by omega), ints_len, s1, hv, hd]
    refine hKY _ ?_
    refine wlk_cond0 (by first | rfl | (simp only [go_sem]; try simp (disch := omega) only [decide_eq_true, decide_eq_false])) ?_
    refine wlk_skip ?_
    repeat (first | refine hn1 _ ?_ | refine he1 _ _ ?_)
    refine wlk_reg fun KY hKY => ?_
    simp only [go_sem, c_f78_r3, nats_snoc, nats_len, (show (wt.length + 1) * 8 ≤ 140737488355328 by omega)]
    refine hKY _ ?_
    simp only [go_sem, if_neg h0]
theorem first_ok (nr : List (List Nat)) (m : List Int) {n : Nat} (F : FD) {rep h : Nat → Nat} (U : UFh n F.up rep h) {v : Nat} (hv : v < n) :
    ACalls Try.prog [[1, 0]] n_f79 [.ptr 0 0, .sc (.int .i64 (v : Int))] [some (F.obj nr m)] fun r h' => r = .sc (.int .i64 (rep v : Nat)) ∧ ∃ up', UFh n up' rep h ∧ h' = [some (({ F with up := up' } : FD).obj nr m)] := by
  obtain ⟨lab, out, ev, od, pr, rt, br, gone, up, bs, mr, tn, wt, lk⟩ := F
  simp only at U
  unfold FD.obj
  refine go_f79 rfl ?_
  unfold c_f79 v_f79
  simp only
  refine wlk_sreg fun KY hKY => ?_
  simp only [go_sem, c_f79_r0, arun_cons, gstep_none, BOp.quiet]
  refine hKY _ ?_
  refine wlk_seq fun X1 hn1 he1 hr1 => ?_
  refine wlk_blk fun X2 hn2 he2 hf2 hr2 => ?_
  try simp only [go_sem]
  refine wlk_lp (α := List Int × Nat) [13] (fun (up', c) => [(1, .sc (.int .i64 (c : Int)))]) (fun (up', c) => [some [.imm 1 (rowsI nr), .imm 1 (ints m), .own (some 1) (ints lab), .own (some 1) (bools out), .own (some 1) (ints ev), .own (some 1) (ints od), .own (some 1) (ints pr), .own (some 1) (ints rt), .own (some 2) (twos br), .own (some 1) (bools gone), .own (some 1) (ints up'), .own (some 1) (ints bs), .own (some 1) (ints mr), .sc (.int .i64 tn), .own (some 1) (nats wt), .sc (.int .i64 lk)]]) (fun (up', c) q => UFh n up' rep h ∧ c < n ∧ rep c = rep v ∧ q = h c) ((up, v)) (h v) rfl (by first | (simp only [go_sem, updAll_cons, updAll_nil]; done) | with_reducible rfl | rfl) (⟨U, hv, rfl, rfl⟩) ?_
  rintro ⟨up', c⟩ q ⟨U', hc, hr, rfl⟩ X3 hn3 he3 hr3
  simp only [go_sem, updAll_cons, updAll_nil]
  obtain ⟨u, h1, h2, h3, h4, h5⟩ := U'.at_ c hc
  have hcl : c < up'.length := by rw [U'.len]; exact hc
  have hul : u < up'.length := by rw [U'.len]; exact h2
  have hgc : (ints up')[c]? = some (.sc (.int .i64 (u : Int))) := by rw [ints_get hcl, h1]
  by_cases e : u = c
  · have hdx : decide ((u : Int) ≠ (c : Int)) = false := decide_eq_false (by omega)
    refine wlk_seq fun X4 hn4 he4 hr4 => ?_
    refine wlk_sreg fun KY hKY => ?_
    simp only [go_sem, c_f79_r1, arun_cons, gstep_none, BOp.quiet, hgc, hcl, ints_len, hdx]
    refine hKY _ ?_
    refine wlk_cond0 (by first | rfl | (simp only [go_sem]; try simp (disch := omega) only [decide_eq_true, decide_eq_false])) ?_
    refine wlk_exit ?_
    repeat (first | refine hn4 _ ?_ | refine he4 _ _ ?_ | refine he3 _ _ ?_ | refine hn2 _ ?_ | refine he2 _ ?_ | refine hf2 _ _ (by decide) ?_ | refine hn1 _ ?_ | refine he1 _ _ ?_)
    refine wlk_sreg fun KY hKY => ?_
    simp only [go_sem, c_f79_r4, arun_cons, gstep_none, BOp.quiet]
    refine hKY _ ?_
    refine wlk_ret ?_
    repeat (first | refine hr4 _ ?_ | refine hr3 _ ?_ | refine hr2 _ ?_ | refine hr1 _ ?_)
    simp only [go_sem, ends, aResQ]
    exact ⟨by rw [← hr, h4 e], up', U', rfl⟩
  · have hdy : decide ((u : Int) ≠ (c : Int)) = true := decide_eq_true (by omega)
    obtain ⟨w, b1, b2, _⟩ := U'.at_ u h2
    obtain ⟨k1, k2, k3, k4⟩ := U'.halve hc h1 e b1
    have hgu : (ints up')[u]? = some (.sc (.int .i64 (w : Int))) := by rw [ints_get hul, b1]
    have hgc2 : (ints (up'.set c (w : Int)))[c]? = some (.sc (.int .i64 (w : Int))) := by rw [ints_get (by rw [List.length_set]; exact hcl), getD_set _ _ _ _ hcl, if_pos rfl]
    refine wlk_seq fun X5 hn5 he5 hr5 => ?_
    refine wlk_sreg fun KY hKY => ?_
    simp only [go_sem, c_f79_r1, arun_cons, gstep_none, BOp.quiet, hgc, hcl, ints_len, hdy]
    refine hKY _ ?_
    refine wlk_cond1 (by first | rfl | (simp only [go_sem]; try simp (disch := omega) only [decide_eq_true, decide_eq_false])) ?_
    refine wlk_skip ?_
    repeat (first | refine hn5 _ ?_ | refine he5 _ _ ?_ | refine he3 _ _ ?_ | refine hn2 _ ?_ | refine he2 _ ?_ | refine hf2 _ _ (by decide) ?_ | refine hn1 _ ?_ | refine he1 _ _ ?_)
    refine wlk_blk fun X6 hn6 he6 hf6 hr6 => ?_
    refine wlk_sdraw fun KY hKY => ?_
    simp only [go_sem, c_f79_r2, hgc, hgu, hcl, hul, ints_len, ints_set]
    refine ⟨rfl, hKY _ ?_⟩
    refine wlk_reg fun KY hKY => ?_
    simp only [go_sem, c_f79_r3, arun_cons, gstep_none, BOp.quiet, hgc2, List.length_set, hcl, ints_len]
    refine hKY _ ?_
    repeat (first | refine hn6 _ ?_ | refine he6 _ ?_ | refine hf6 _ _ (by decide) ?_ | refine hn5 _ ?_ | refine he5 _ _ ?_)
    refine hn3 _ ((up'.set c (w : Int), w)) (h w) (by omega) (by first | (simp only [go_sem, updAll_cons, updAll_nil]; done) | with_reducible rfl) ?_
    exact ⟨k1, k2, k3.trans hr, rfl⟩
theorem base_ok (nr : List (List Nat)) (m : List Int) {n : Nat} (F : FD) {rep h : Nat → Nat} (U : UFh n F.up rep h) (hb : F.bs.length = n) {v : Nat} (hv : v < n) :
    ACalls Try.prog [[1, 0]] n_f68 [.ptr 0 0, .sc (.int .i64 (v : Int))] [some (F.obj nr m)] fun r h' => r = .sc (.int .i64 (F.bs.getD (rep v) 0)) ∧ ∃ up', UFh n up' rep h ∧ h' = [some (({ F with up := up' } : FD).obj nr m)] := by
  have hf := first_ok nr m F U hv
  have hrl := U.rep_lt hv
  obtain ⟨lab, out, ev, od, pr, rt, br, gone, up, bs, mr, tn, wt, lk⟩ := F
  simp only at U hb
  unfold FD.obj at hf ⊢
  simp only at hf
  refine go_f68 rfl ?_
  unfold c_f68 v_f68
  simp only
  refine wlk_sreg fun KY hKY => ?_
  simp only [go_sem, c_f68_r0, arun_cons, gstep_none, BOp.quiet]
  refine hKY _ ?_
  refine wlk_sdraw fun KY hKY => ?_
  simp only [go_sem, c_f68_r1]
  apply call_gen [] [0] false none rfl
  iterate 8 (first | (simp only [go_sem, watchIn] <;> rfl) | rfl)
  refine (hf.less (by simp)).mono ?_
  rintro _ _ ⟨rfl, up', U', rfl⟩
  refine ⟨Nat.le_of_ble_eq_true rfl, (fun hh => by cases hh), ?_⟩
  simp only [go_sem, callOut, AState.after, ints_get (show rep v < bs.length by omega), ints_len, hb, hrl]
  refine hKY _ ?_
  refine wlk_ret ?_
  simp only [go_sem, ends, aResQ]
  exact ⟨up', U', rfl⟩
theorem unite_ok (nr : List (List Nat)) (m : List Int) {n : Nat} (F : FD) {rep h : Nat → Nat} (U : UFh n F.up rep h) (hb : F.bs.length = n) {v w : Nat} (hv : v < n) (hw : w < n) (b : Int) :
    ACalls Try.prog [] n_f90 [.ptr 0 0, .sc (.int .i64 (v : Int)), .sc (.int .i64 (w : Int)), .sc (.int .i64 b)] [some (F.obj nr m)] fun r h' => r = .tup [] ∧ ∃ up' h2, UFh n up' (fun u => if rep u = rep v then rep w else rep u) h2 ∧ h' = [some (({ F with up := up', bs := F.bs.set (rep w) b } : FD).obj nr m)] := by
  have hf := first_ok nr m F U hv
  have hrl := U.rep_lt hw
  have hrv := U.rep_lt hv
  obtain ⟨lab, out, ev, od, pr, rt, br, gone, up, bs, mr, tn, wt, lk⟩ := F
  simp only at U hb
  have hg := fun up' (U' : UFh n up' rep h) => first_ok nr m ⟨lab, out, ev, od, pr, rt, br, gone, up', bs, mr, tn, wt, lk⟩ U' hw
  unfold FD.obj at hf hg ⊢
  simp only at hf hg
  refine go_f90 rfl ?_
  unfold c_f90 v_f90
  simp only
  refine wlk_sreg fun KY hKY => ?_
  simp only [go_sem, c_f90_r0]
  apply call_gen [] [0] false none rfl
  iterate 8 (first | (simp only [go_sem, watchIn] <;> rfl) | rfl)
  refine (hf.less (by simp)).mono ?_
  rintro _ _ ⟨rfl, up', U', rfl⟩
  refine ⟨Nat.le_of_ble_eq_true rfl, (fun hh => by cases hh), ?_⟩
  simp only [go_sem, callOut, AState.after]
  apply call_gen [] [0] false none rfl
  iterate 8 (first | (simp only [go_sem, watchIn] <;> rfl) | rfl)
  refine ((hg up' U').less (by simp)).mono ?_
  rintro _ _ ⟨rfl, up2, U2, rfl⟩
  refine ⟨Nat.le_of_ble_eq_true rfl, (fun hh => by cases hh), ?_⟩
  simp only [go_sem, callOut, AState.after]
  refine hKY _ ?_
  have hul : rep v < up2.length := by rw [U2.len]; exact hrv
  refine wlk_sreg fun KY hKY => ?_
  simp only [go_sem, c_f90_r1, hul, ints_len, ints_set]
  refine hKY _ ?_
  refine wlk_reg fun KY hKY => ?_
  simp only [go_sem, c_f90_r2, hb, hrl, ints_len, ints_set]
  refine hKY _ ?_
  simp only [go_sem]
  exact ⟨_, _, U2.unite hv hw, rfl⟩
theorem next_none (nr : List (List Nat)) (m : List Int) (F : FD) (h : F.wt = []) :
    ACalls Try.prog [] n_f69 [.ptr 0 0] [some (F.obj nr m)] fun r h' => r = .tup [.sc (.int .i64 0), .sc (.bool false)] ∧ h' = [some (F.obj nr m)] := by
  obtain ⟨lab, out, ev, od, pr, rt, br, gone, up, bs, mr, tn, wt, lk⟩ := F
  simp only at h
  subst h
  unfold FD.obj
  refine go_f69 rfl ?_
  unfold c_f69 v_f69
  simp only
  refine wlk_sreg fun KY hKY => ?_
  simp only [go_sem, c_f69_r0]
  refine hKY _ ?_
  refine wlk_seq fun X1 hn1 he1 hr1 => ?_
  refine wlk_sreg fun KY hKY => ?_
  simp only [go_sem, c_f69_r1, nats_len]
  refine hKY _ ?_
  refine wlk_cond1 (by first | rfl | (simp only [go_sem]; try simp (disch := omega) only [decide_eq_true, decide_eq_false])) ?_
  refine wlk_sreg fun KY hKY => ?_
  simp only [go_sem, c_f69_r2]
  refine hKY _ ?_
  refine wlk_ret ?_
  repeat (first | refine hr1 _ ?_)
  simp only [go_sem]
theorem next_some (nr : List (List Nat)) (m : List Int) (F : FD) {c : Nat} {ws : List Nat} (h : F.wt = c :: ws) :
    ACalls Try.prog [] n_f69 [.ptr 0 0] [some (F.obj nr m)] fun r h' => r = .tup [.sc (.int .i64 (c : Int)), .sc (.bool true)] ∧ h' = [some (({ F with wt := ws } : FD).obj nr m)] := by
  obtain ⟨lab, out, ev, od, pr, rt, br, gone, up, bs, mr, tn, wt, lk⟩ := F
  simp only at h
  subst h
  unfold FD.obj
  have hg : (nats (c :: ws))[0]? = some (.sc (.int .i64 (c : Int))) := rfl
  have hl : (nats (c :: ws)).length = ws.length + 1 := by simp [nats]
  have hd : decide (((ws.length + 1 : Nat) : Int) = 0) = false := decide_eq_false (by omega)
  have hcut : cutCells (nats (c :: ws)) 1 1 (ws.length + 1) = nats ws := by
    unfold cutCells
    show (nats ws).take ((ws.length + 1 - 1) * 1) = nats ws
    rw [show (ws.length + 1 - 1) * 1 = (nats ws).length by rw [nats_len]; omega, List.take_length]
  refine go_f69 rfl ?_
  unfold c_f69 v_f69
  simp only
  refine wlk_sreg fun KY hKY => ?_
  simp only [go_sem, c_f69_r0]
  refine hKY _ ?_
  refine wlk_seq fun X1 hn1 he1 hr1 => ?_
  refine wlk_sreg fun KY hKY => ?_
  simp only [go_sem, c_f69_r1, hl, hd]
  refine hKY _ ?_
  refine wlk_cond0 (by first | rfl | (simp only [go_sem]; try simp (disch := omega) only [decide_eq_true, decide_eq_false])) ?_
  refine wlk_skip ?_
  repeat (first | refine hn1 _ ?_ | refine he1 _ _ ?_)
  refine wlk_sreg fun KY hKY => ?_
  simp only [go_sem, c_f69_r3, hg, hl, (show 0 < ws.length + 1 by omega)]
  refine hKY _ ?_
  refine wlk_sreg fun KY hKY => ?_
  simp only [go_sem, c_f69_r4, hl, hcut, Nat.div_one, nats_copyable, (show 0 < ws.length + 1 by omega), (show ws.length < ws.length + 1 by omega), and_self]
  refine hKY _ ?_
  refine wlk_sreg fun KY hKY => ?_
  simp only [go_sem, c_f69_r5]
  refine hKY _ ?_
  refine wlk_ret ?_
  repeat (first | refine hr1 _ ?_)
  simp only [go_sem]
theorem gone_ok (nr : List (List Nat)) (m : List Int) {n : Nat} (F : FD) {rv : Int} (hrt : F.rt.length = n) (hgo : F.gone.length = n) (hg : ∀ v, v < n → F.gone.getD v false = false) {v : Nat} (hv : v < n) (hr : F.rt.getD v 0 = rv) (hrv : rv = -1 ∨ ∃ r : Nat, rv = (r : Int) ∧ r < n) :
    ACalls Try.prog [[1, 0]] n_f80 [.ptr 0 0, .sc (.int .i64 (v : Int))] [some (F.obj nr m)] fun r h' => r = .sc (.bool false) ∧ h' = [some (F.obj nr m)] := by
  obtain ⟨lab, out, ev, od, pr, rt, br, gone, up, bs, mr, tn, wt, lk⟩ := F
  simp only at hrt hgo hg hr
  unfold FD.obj
  have hgr : (ints rt)[v]? = some (.sc (.int .i64 rv)) := by rw [ints_get (by omega), hr]
  refine go_f80 rfl ?_
  unfold c_f80 v_f80
  simp only
  refine wlk_sreg fun KY hKY => ?_
  simp only [go_sem, c_f80_r0, arun_cons, gstep_none, BOp.quiet]
  refine hKY _ ?_
  rcases hrv with rfl | ⟨r, rfl, hrn⟩
  · refine wlk_sdraw fun KY hKY => ?_
    simp only [go_sem, c_f80_r1, hgr, ints_len, hrt, hv]
    refine hKY _ ?_
    refine wlk_ret ?_
    simp only [go_sem, ends, aResQ]
  · have hd : decide ((r : Int) ≠ -1) = true := decide_eq_true (by omega)
    have hgg : (bools gone)[r]? = some (.sc (.bool false)) := by rw [bools_get (by omega), hg r hrn]
    refine wlk_sdraw fun KY hKY => ?_
    simp only [go_sem, c_f80_r1, hgr, ints_len, hrt, hv, hd, hgg, bools_len, hgo, hrn]
    refine hKY _ ?_
    refine wlk_ret ?_
    simp only [go_sem, ends, aResQ]
def swp (l : List Nat) (i : Nat) : List Nat := (List.range l.length).map fun j => if j < i ∨ l.length - 1 - i < j then l.getD (l.length - 1 - j) 0 else l.getD j 0
theorem swp_len (l : List Nat) (i : Nat) : (swp l i).length = l.length := by simp [swp]
theorem swp_get {l : List Nat} {i j : Nat} (h : j < l.length) : (swp l i).getD j 0 = if j < i ∨ l.length - 1 - i < j then l.getD (l.length - 1 - j) 0 else l.getD j 0 := by simp [swp, h]
theorem swp_zero (l : List Nat) : swp l 0 = l := by
 apply List.ext_getElem (by simp [swp])
 intro j h1 h2
 simp only [swp, List.getElem_map, List.getElem_range]
 rw [if_neg (by omega)]
 simp [h2]
theorem swp_end {l : List Nat} {i : Nat} (h : l.length ≤ 2 * i + 1) : swp l i = l.reverse := by
 apply List.ext_getElem (by simp [swp])
 intro j h1 h2
 have hj : j < l.length := by simpa using h2
 simp only [swp, List.getElem_map, List.getElem_range, List.getElem_reverse]
 have e : l[l.length - 1 - j]'(by omega) = l.getD (l.length - 1 - j) 0 := by
  rw [List.getD_eq_getElem?_getD, List.getElem?_eq_getElem (by omega)]; rfl
 rw [e]
 split
 · rfl
 · have : l.length - 1 - j = j := by omega
   rw [this]
theorem swp_step {l : List Nat} {i : Nat} (h : 2 * i + 1 < l.length) : ((swp l i).set i ((swp l i).getD (l.length - 1 - i) 0)).set (l.length - 1 - i) ((swp l i).getD i 0) = swp l (i + 1) := by
 rw [swp_get (by omega), swp_get (by omega), if_neg (by omega), if_neg (by omega)]
 apply List.ext_getElem (by simp [swp])
 intro j h1 h2
 have hj : j < l.length := by simpa [swp] using h2
 rw [List.getElem_set, List.getElem_set]
 simp only [swp, List.getElem_map, List.getElem_range]
 by_cases e1 : l.length - 1 - i = j
 · rw [if_pos e1, if_pos (.inr (by omega)), show l.length - 1 - j = i by omega]
 · rw [if_neg e1]
   by_cases e2 : i = j
   · rw [if_pos e2, if_pos (.inl (by omega)), show l.length - 1 - j = l.length - 1 - i by omega]
   · rw [if_neg e2]
     by_cases e3 : j < i ∨ l.length - 1 - i < j
     · rw [if_pos e3, if_pos (by omega)]
     · rw [if_neg e3, if_neg (by omega)]
theorem ftrn_ok (l : List Nat) (hl : l.length ≤ 1000000) : ACalls Try.prog [] n_f81 [.own (some 1) (nats l)] [] fun r h' => r = .own (some 1) (nats l.reverse) ∧ h' = [] := by
 refine ACalls.trim ?_
 have hw1 : IntKind.i64.wrap ((l.length : Int) - 1) = (l.length : Int) - 1 - ((0 : Nat) : Int) := by rw [IntWalk.i64_in _ (by omega)]; omega
 refine go_f81 rfl ?_
 unfold c_f81 v_f81
 refine wlk_sreg fun KY hKY => ?_
 simp only [go_sem, c_f81_r0]
 refine hKY _ ?_
 refine wlk_seq fun X1 hn1 he1 hr1 => ?_
 refine wlk_sreg fun KY hKY => ?_
 simp only [go_sem, c_f81_r1, nats_len, hw1]
 refine hKY _ ?_
 simp only [go_sem]
 rw [show nats l = nats (swp l 0) by rw [swp_zero]]
 refine wlk_blk fun X2 hn2 he2 hf2 hr2 => ?_
 try simp only [go_sem]
 refine wlk_lp (α := Nat) [10] (fun i => [(0, .own (some 1) (nats (swp l i))), (3, .sc (.int .i64 (i : Int))), (4, .sc (.int .i64 ((l.length : Int) - 1 - (i : Int))))]) (fun i => []) (fun i q => i ≤ l.length ∧ q = l.length - i) (0) (l.length) rfl (by first | (simp only [go_sem, updAll_cons, updAll_nil]; done) | with_reducible rfl | rfl) (⟨by omega, rfl⟩) ?_
 rintro i q ⟨hi, rfl⟩ X3 hn3 he3 hr3
 simp only [go_sem, updAll_cons, updAll_nil]
 rcases Nat.lt_or_ge (2 * i + 1) l.length with hi2 | hi2
 · have hdy : decide ((i : Int) < (l.length : Int) - 1 - (i : Int)) = true := decide_eq_true (by omega)
   have hk : (l.length : Int) - 1 - (i : Int) = ((l.length - 1 - i : Nat) : Int) := by omega
   have hsl := swp_len l i
   have hst := swp_step hi2
   refine wlk_seq fun X4 hn4 he4 hr4 => ?_
   refine wlk_sreg fun KY hKY => ?_
   simp only [go_sem, c_f81_r2, hdy]
   refine hKY _ ?_
   refine wlk_cond1 (by first | rfl | (simp only [go_sem]; try simp (disch := omega) only [decide_eq_true, decide_eq_false])) ?_
   refine wlk_skip ?_
   repeat (first | refine hn4 _ ?_ | refine he4 _ _ ?_ | refine he3 _ _ ?_ | refine hn2 _ ?_ | refine he2 _ ?_ | refine hf2 _ _ (by decide) ?_ | refine hn1 _ ?_ | refine he1 _ _ ?_)
   refine wlk_seq fun X5 hn5 he5 hr5 => ?_
   refine wlk_blk fun X6 hn6 he6 hf6 hr6 => ?_
   rw [hk]
   refine wlk_draw fun KY hKY => ?_
   simp only [go_sem, c_f81_r3, nats_get (show i < (swp l i).length by omega), nats_get (show l.length - 1 - i < (swp l i).length by omega), nats_len, hsl, (show i < l.length by omega), (show l.length - 1 - i < l.length by omega), List.length_set, hst, (show ([0, 0] == [0, 3]) = false from rfl), Bool.not_false]
   refine hKY _ ?_
   repeat (first | refine hn6 _ ?_ | refine he6 _ ?_ | refine hf6 _ _ (by decide) ?_ | refine hn5 _ ?_ | refine he5 _ _ ?_ | refine hn4 _ ?_ | refine he4 _ _ ?_ | refine he3 _ _ ?_ | refine hn2 _ ?_ | refine he2 _ ?_ | refine hf2 _ _ (by decide) ?_ | refine hn1 _ ?_ | refine he1 _ _ ?_)
   have hk2 : IntKind.i64.wrap (((l.length - 1 - i : Nat) : Int) - 1) = (l.length : Int) - 1 - ((i + 1 : Nat) : Int) := by rw [IntWalk.i64_in _ (by omega)]; omega
   refine wlk_reg fun KY hKY => ?_
   simp only [go_sem, c_f81_r4, incS (show i < 4611686018427387904 by omega), hk2]
   refine hKY _ ?_
   repeat (first | refine hn6 _ ?_ | refine he6 _ ?_ | refine hf6 _ _ (by decide) ?_ | refine hn5 _ ?_ | refine he5 _ _ ?_ | refine hn4 _ ?_ | refine he4 _ _ ?_)
   refine hn3 _ (i + 1) (l.length - (i + 1)) (by omega) (by first | (simp only [go_sem, updAll_cons, updAll_nil]; done) | with_reducible rfl) ?_
   exact ⟨by omega, rfl⟩
 have hdx : decide ((i : Int) < (l.length : Int) - 1 - (i : Int)) = false := decide_eq_false (by omega)
 refine wlk_seq fun X7 hn7 he7 hr7 => ?_
 refine wlk_sreg fun KY hKY => ?_
 simp only [go_sem, c_f81_r2, hdx]
 refine hKY _ ?_
 refine wlk_cond0 (by first | rfl | (simp only [go_sem]; try simp (disch := omega) only [decide_eq_true, decide_eq_false])) ?_
 refine wlk_exit ?_
 repeat (first | refine hn7 _ ?_ | refine he7 _ _ ?_ | refine he3 _ _ ?_ | refine hn2 _ ?_ | refine he2 _ ?_ | refine hf2 _ _ (by decide) ?_ | refine hn1 _ ?_ | refine he1 _ _ ?_)
 rw [swp_end hi2]
 refine wlk_sreg fun KY hKY => ?_
 simp only [go_sem, c_f81_r5]
 refine hKY _ ?_
 refine wlk_ret ?_
 repeat (first | refine hr7 _ ?_ | refine hr3 _ ?_ | refine hr2 _ ?_ | refine hr1 _ ?_)
 simp only [go_sem]
end Go.Proofs.Ytkjppnofgmpeeaa
set_option maxRecDepth 100000
set_option maxHeartbeats 4000000
namespace Go.Proofs.Ytkjppnofgmpeeaa
open Go Go.Ga Go.Ga.Gl
def mf (m : List Int) (v : Nat) : Int := m.getD v (-1)
theorem mf_get {m : List Int} {v : Nat} (h : v < m.length) : m.getD v 0 = mf m v := by simp [mf, h]
theorem mints_get {m : List Int} {v : Nat} (h : v < m.length) : (ints m)[v]? = some (.sc (.int .i64 (mf m v))) := by rw [ints_get h, mf_get h]
structure Rp (n : Nat) (m : List Int) (S : FS) (F : FD) : Prop where
 sz : F.Sz n
 ml : m.length = n
 lab : ∀ v, v < n → F.lab.getD v 0 = (S.lab v : Int)
 out : ∀ v, v < n → F.out.getD v false = S.out v
 pr : ∀ v, v < n → S.lab v = 2 → F.pr.getD v 0 = (S.pr v : Int)
 rt : ∀ v, v < n → F.rt.getD v 0 = S.rt v
 rb : ∀ v, v < n → S.rt v = -1 ∨ ∃ r : Nat, S.rt v = (r : Int) ∧ r < n
 br : ∀ v, v < n → S.lab v = 2 → S.out v = true → F.br.getD v (0, 0) = ((S.b0 v : Int), (S.b1 v : Int))
 gone : ∀ v, v < n → F.gone.getD v false = false
 uf : ∃ rep h, UFh n F.up rep h ∧ (∀ v, v < n → F.bs.getD (rep v) 0 = (S.bs v : Int)) ∧ ∀ u v, u < n → v < n → (rep u = rep v ↔ S.bs u = S.bs v)
 mr : ∀ v, v < n → F.mr.getD v 0 ≤ F.tn
 wt : ∀ x ∈ F.wt, x < n ∧ S.out x = true
 wn : F.wt.Nodup
theorem Rp.wl {n : Nat} {m : List Int} {S : FS} {F : FD} (R : Rp n m S F) : F.wt.length ≤ n := by
 have := nodup_le (m := List.range n) R.wn fun x hx => List.mem_range.2 (R.wt x hx).1
 simpa using this
def FD.upd (F : FD) (up : List Int) (lk : Int) : FD := { F with up := up, lk := lk }
theorem Rp.upd {n : Nat} {m : List Int} {S : FS} {F : FD} (R : Rp n m S F) {rep h : Nat → Nat} {up' : List Int} (U' : UFh n up' rep h) (h2 : ∀ v, v < n → F.bs.getD (rep v) 0 = (S.bs v : Int)) (h3 : ∀ u v, u < n → v < n → (rep u = rep v ↔ S.bs u = S.bs v)) (lk : Int) : Rp n m S (F.upd up' lk) := by
 obtain ⟨s1, s2, s3, s4, s5, s6, s7, s8, s9, s10, s11⟩ := R.sz
 exact ⟨⟨s1, s2, s3, s4, s5, s6, s7, s8, U'.len, s10, s11⟩, R.ml, R.lab, R.out, R.pr, R.rt, R.rb, R.br, R.gone, ⟨rep, h, U', h2, h3⟩, R.mr, R.wt, R.wn⟩
theorem Base_ok (nr : List (List Nat)) {n : Nat} {m : List Int} {S : FS} {F : FD} (R : Rp n m S F) {v : Nat} (hv : v < n) :
    ACalls Try.prog [[1, 0]] n_f68 [.ptr 0 0, .sc (.int .i64 (v : Int))] [some (F.obj nr m)] fun r h' => r = .sc (.int .i64 (S.bs v : Int)) ∧ ∃ up', Rp n m S (F.upd up' F.lk) ∧ h' = [some ((F.upd up' F.lk).obj nr m)] := by
  obtain ⟨rep, h, U, h2, h3⟩ := R.uf
  refine (base_ok nr m F U R.sz.bs hv).mono ?_
  rintro r h' ⟨rfl, up', U', rfl⟩
  exact ⟨by rw [h2 v hv], up', R.upd U' h2 h3 F.lk, rfl⟩
theorem above_none (nr : List (List Nat)) {n : Nat} {m : List Int} {S : FS} {F : FD} (R : Rp n m S F) {b : Nat} (hb : b < n) (hm : mf m b = -1) :
    ACalls Try.prog [[1, 0]] n_f89 [.ptr 0 0, .sc (.int .i64 (b : Int))] [some (F.obj nr m)] fun r h' => r = .sc (.int .i64 (-1)) ∧ h' = [some (F.obj nr m)] := by
  have hml := R.ml
  have hg : (ints m)[b]? = some (.sc (.int .i64 (-1))) := by rw [mints_get (by omega), hm]
  unfold FD.obj
  refine go_f89 rfl ?_
  unfold c_f89 v_f89
  refine wlk_sreg fun KY hKY => ?_
  simp only [go_sem, c_f89_r0, arun_cons, gstep_none, BOp.quiet]
  refine hKY _ ?_
  refine wlk_seq fun X1 hn1 he1 hr1 => ?_
  refine wlk_sreg fun KY hKY => ?_
  simp only [go_sem, c_f89_r1, arun_cons, gstep_none, BOp.quiet, hg, ints_len, hml, hb]
  refine hKY _ ?_
  refine wlk_cond1 (by first | rfl | (simp only [go_sem]; try simp (disch := omega) only [decide_eq_true, decide_eq_false])) ?_
  refine wlk_sreg fun KY hKY => ?_
  simp only [go_sem, c_f89_r2, arun_cons, gstep_none, BOp.quiet]
  refine hKY _ ?_
  refine wlk_ret ?_
  repeat (first | refine hr1 _ ?_)
  simp only [go_sem, ends, aResQ]
theorem above_some (nr : List (List Nat)) {n : Nat} {m : List Int} {S : FS} {F : FD} (R : Rp n m S F) {b x : Nat} (hb : b < n) (hm : mf m b = (x : Int)) (hx : x < n) (hl : S.lab x = 2) (hp : S.pr x < n) :
    ACalls Try.prog [] n_f89 [.ptr 0 0, .sc (.int .i64 (b : Int))] [some (F.obj nr m)] fun r h' => r = .sc (.int .i64 (S.bs (S.pr x) : Int)) ∧ ∃ up', Rp n m S (F.upd up' F.lk) ∧ h' = [some ((F.upd up' F.lk).obj nr m)] := by
  have hml := R.ml
  have hB := Base_ok nr R hp
  have hg : (ints m)[b]? = some (.sc (.int .i64 (x : Int))) := by rw [mints_get (by omega), hm]
  have hpl := R.sz.pr
  have hpg : (ints F.pr)[x]? = some (.sc (.int .i64 (S.pr x : Int))) := by rw [ints_get (by omega), R.pr x hx hl]
  have hd : decide ((x : Int) = -1) = false := decide_eq_false (by omega)
  unfold FD.obj at hB ⊢
  refine go_f89 rfl ?_
  unfold c_f89 v_f89
  refine wlk_sreg fun KY hKY => ?_
  simp only [go_sem, c_f89_r0]
  refine hKY _ ?_
  refine wlk_seq fun X1 hn1 he1 hr1 => ?_
  refine wlk_sreg fun KY hKY => ?_
  simp only [go_sem, c_f89_r1, hg, ints_len, hml, hb, hd]
  refine hKY _ ?_
  refine wlk_cond0 (by first | rfl | (simp only [go_sem]; try simp (disch := omega) only [decide_eq_true, decide_eq_false])) ?_
  refine wlk_skip ?_
  repeat (first | refine hn1 _ ?_ | refine he1 _ _ ?_)
  refine wlk_sdraw fun KY hKY => ?_
  simp only [go_sem, c_f89_r3, hg, hpg, ints_len, hml, hb, hx, hpl]
  apply call_gen [] [0] false none rfl
  iterate 8 (first | (simp only [go_sem, watchIn] <;> rfl) | rfl)
  refine (hB.less (by simp)).mono ?_
  rintro _ _ ⟨rfl, up', R', rfl⟩
  refine ⟨Nat.le_of_ble_eq_true rfl, (fun hh => by cases hh), ?_⟩
  simp only [go_sem, callOut, AState.after]
  refine hKY _ ?_
  refine wlk_ret ?_
  repeat (first | refine hr1 _ ?_)
  simp only [go_sem]
  exact ⟨up', R', rfl⟩
def lookN (mt : Nat → Int) (S : FS) (v w : Nat) : Int := if mt v = (w : Int) then 0 else if S.lab w = 0 then 1 else if S.out w = true ∧ S.bs v ≠ S.bs w then 2 else 0
theorem look_ok (nr : List (List Nat)) {n : Nat} {m : List Int} {S : FS} {F : FD} (R : Rp n m S F) {v w : Nat} (hv : v < n) (hw : w < n) :
    ACalls Try.prog [] n_f70 [.ptr 0 0, .sc (.int .i64 (v : Int)), .sc (.int .i64 (w : Int))] [some (F.obj nr m)] fun r h' => r = .sc (.int .i64 (lookN (mf m) S v w)) ∧ ∃ up' lk', Rp n m S (F.upd up' lk') ∧ h' = [some ((F.upd up' lk').obj nr m)] := by
  have hml := R.ml
  obtain ⟨rep, h, U, u2, u3⟩ := R.uf
  have R1 : Rp n m S (F.upd F.up (IntKind.i64.wrap (F.lk + 1))) := R.upd U u2 u3 _
  have hgv : (ints m)[v]? = some (.sc (.int .i64 (mf m v))) := mints_get (by omega)
  have hlg : (ints F.lab)[w]? = some (.sc (.int .i64 (S.lab w : Int))) := by rw [ints_get (by rw [R.sz.lab]; exact hw), R.lab w hw]
  have hll := R.sz.lab
  have hog : (bools F.out)[w]? = some (.sc (.bool (S.out w))) := by rw [bools_get (by rw [R.sz.out]; exact hw), R.out w hw]
  have hol := R.sz.out
  have G1 := gone_ok nr m (F.upd F.up (IntKind.i64.wrap (F.lk + 1))) R.sz.rt R.sz.gone R.gone hv (R.rt v hv) (R.rb v hv)
  have G2 := gone_ok nr m (F.upd F.up (IntKind.i64.wrap (F.lk + 1))) R.sz.rt R.sz.gone R.gone hw (R.rt w hw) (R.rb w hw)
  have B1 := Base_ok nr R1 hv
  have B2 := fun up' (R' : Rp n m S ((F.upd F.up (IntKind.i64.wrap (F.lk + 1))).upd up' (F.upd F.up (IntKind.i64.wrap (F.lk + 1))).lk)) => Base_ok nr R' hw
  unfold FD.upd FD.obj at G1 G2 B1 B2
  unfold FD.obj
  simp only at G1 G2 B1 B2
  have hk : lookN (mf m) S v w = if mf m v = (w : Int) then 0 else if S.lab w = 0 then 1 else if S.out w = true ∧ S.bs v ≠ S.bs w then 2 else 0 := rfl
  generalize lookN (mf m) S v w = k at hk ⊢
  refine go_f70 rfl ?_
  unfold c_f70 v_f70
  refine wlk_sreg fun KY hKY => ?_
  simp only [go_sem, c_f70_r0]
  refine hKY _ ?_
  refine wlk_sreg fun KY hKY => ?_
  simp only [go_sem, c_f70_r1]
  refine hKY _ ?_
  refine wlk_seq fun X1 hn1 he1 hr1 => ?_
  refine wlk_blk fun X2 hn2 he2 hf2 hr2 => ?_
  by_cases h1 : mf m v = (w : Int)
  · have hd1 : decide ((w : Int) = mf m v) = true := decide_eq_true h1.symm
    rw [if_pos h1] at hk
    subst hk
    refine wlk_sreg fun KY hKY => ?_
    simp only [go_sem, c_f70_r2, hgv, ints_len, hml, hv, hd1]
    refine hKY _ ?_
    refine wlk_cond1 (by first | rfl | (simp only [go_sem]; try simp (disch := omega) only [decide_eq_true, decide_eq_false])) ?_
    refine wlk_sreg fun KY hKY => ?_
    simp only [go_sem, c_f70_r3]
    refine hKY _ ?_
    refine wlk_ret ?_
    repeat (first | refine hr2 _ ?_ | refine hr1 _ ?_)
    simp only [go_sem]
    exact ⟨_, _, R1, rfl⟩
  · have hd1 : decide ((w : Int) = mf m v) = false := decide_eq_false (fun e => h1 e.symm)
    rw [if_neg h1] at hk
    refine wlk_sreg fun KY hKY => ?_
    simp only [go_sem, c_f70_r2, hgv, ints_len, hml, hv, hd1]
    apply call_gen [] [0] false none rfl
    iterate 8 (first | (simp only [go_sem, watchIn] <;> rfl) | rfl)
    refine (G1.less (by simp)).mono ?_
    rintro _ _ ⟨rfl, rfl⟩
    refine ⟨Nat.le_of_ble_eq_true rfl, (fun hh => by cases hh), ?_⟩
    simp only [go_sem, callOut, AState.after]
    apply call_gen [] [0] false none rfl
    iterate 8 (first | (simp only [go_sem, watchIn] <;> rfl) | rfl)
    refine (G2.less (by simp)).mono ?_
    rintro _ _ ⟨rfl, rfl⟩
    refine ⟨Nat.le_of_ble_eq_true rfl, (fun hh => by cases hh), ?_⟩
    simp only [go_sem, callOut, AState.after]
    refine hKY _ ?_
    refine wlk_cond0 (by first | rfl | (simp only [go_sem]; try simp (disch := omega) only [decide_eq_true, decide_eq_false])) ?_
    by_cases h2 : S.lab w = 0
    · have hd2 : decide ((S.lab w : Int) = 0) = true := decide_eq_true (by omega)
      rw [if_pos h2] at hk
      subst hk
      refine wlk_sreg fun KY hKY => ?_
      simp only [go_sem, c_f70_r4, hlg, ints_len, hll, hw, hd2]
      refine hKY _ ?_
      refine wlk_cond1 (by first | rfl | (simp only [go_sem]; try simp (disch := omega) only [decide_eq_true, decide_eq_false])) ?_
      refine wlk_sreg fun KY hKY => ?_
      simp only [go_sem, c_f70_r5]
      refine hKY _ ?_
      refine wlk_ret ?_
      repeat (first | refine hr2 _ ?_ | refine hr1 _ ?_)
      simp only [go_sem]
      exact ⟨_, _, R1, rfl⟩
    · have hd2 : decide ((S.lab w : Int) = 0) = false := decide_eq_false (by omega)
      rw [if_neg h2] at hk
      refine wlk_sreg fun KY hKY => ?_
      simp only [go_sem, c_f70_r4, hlg, ints_len, hll, hw, hd2]
      refine hKY _ ?_
      refine wlk_cond0 (by first | rfl | (simp only [go_sem]; try simp (disch := omega) only [decide_eq_true, decide_eq_false])) ?_
      cases h3 : S.out w with
      | false =>
        rw [h3] at hog
        rw [if_neg (by rw [h3]; simp)] at hk
        subst hk
        refine wlk_sreg fun KY hKY => ?_
        simp only [go_sem, c_f70_r6, hog, bools_len, hol, hw]
        refine hKY _ ?_
        refine wlk_cond0 (by first | rfl | (simp only [go_sem]; try simp (disch := omega) only [decide_eq_true, decide_eq_false])) ?_
        refine wlk_skip ?_
        repeat (first | refine hn2 _ ?_ | refine he2 _ ?_ | refine hf2 _ _ (by decide) ?_ | refine hn1 _ ?_ | refine he1 _ _ ?_)
        refine wlk_sreg fun KY hKY => ?_
        simp only [go_sem, c_f70_r8]
        refine hKY _ ?_
        refine wlk_ret ?_
        repeat (first | refine hr2 _ ?_ | refine hr1 _ ?_)
        simp only [go_sem]
        exact ⟨_, _, R1, rfl⟩
      | true =>
        rw [h3] at hog
        by_cases h4 : S.bs v = S.bs w
        · have hd4 : decide ((S.bs v : Int) ≠ (S.bs w : Int)) = false := decide_eq_false (by omega)
          rw [if_neg (by simp [h4])] at hk
          subst hk
          refine wlk_sreg fun KY hKY => ?_
          simp only [go_sem, c_f70_r6, hog, bools_len, hol, hw]
          apply call_gen [] [0] false none rfl
          iterate 8 (first | (simp only [go_sem, watchIn] <;> rfl) | rfl)
          refine (B1.less (by simp)).mono ?_
          rintro _ _ ⟨rfl, up', R', rfl⟩
          refine ⟨Nat.le_of_ble_eq_true rfl, (fun hh => by cases hh), ?_⟩
          simp only [go_sem, callOut, AState.after]
          apply call_gen [] [0] false none rfl
          iterate 8 (first | (simp only [go_sem, watchIn] <;> rfl) | rfl)
          refine ((B2 up' R').less (by simp)).mono ?_
          rintro _ _ ⟨rfl, up2, R2, rfl⟩
          refine ⟨Nat.le_of_ble_eq_true rfl, (fun hh => by cases hh), ?_⟩
          simp only [go_sem, callOut, AState.after, hd4]
          refine hKY _ ?_
          refine wlk_cond0 (by first | rfl | (simp only [go_sem]; try simp (disch := omega) only [decide_eq_true, decide_eq_false])) ?_
          refine wlk_skip ?_
          repeat (first | refine hn2 _ ?_ | refine he2 _ ?_ | refine hf2 _ _ (by decide) ?_ | refine hn1 _ ?_ | refine he1 _ _ ?_)
          refine wlk_sreg fun KY hKY => ?_
          simp only [go_sem, c_f70_r8]
          refine hKY _ ?_
          refine wlk_ret ?_
          repeat (first | refine hr2 _ ?_ | refine hr1 _ ?_)
          simp only [go_sem]
          exact ⟨_, _, R2, rfl⟩
        · have hd4 : decide ((S.bs v : Int) ≠ (S.bs w : Int)) = true := decide_eq_true (by omega)
          rw [if_pos ⟨h3, h4⟩] at hk
          subst hk
          refine wlk_sreg fun KY hKY => ?_
          simp only [go_sem, c_f70_r6, hog, bools_len, hol, hw]
          apply call_gen [] [0] false none rfl
          iterate 8 (first | (simp only [go_sem, watchIn] <;> rfl) | rfl)
          refine (B1.less (by simp)).mono ?_
          rintro _ _ ⟨rfl, up', R', rfl⟩
          refine ⟨Nat.le_of_ble_eq_true rfl, (fun hh => by cases hh), ?_⟩
          simp only [go_sem, callOut, AState.after]
          apply call_gen [] [0] false none rfl
          iterate 8 (first | (simp only [go_sem, watchIn] <;> rfl) | rfl)
          refine ((B2 up' R').less (by simp)).mono ?_
          rintro _ _ ⟨rfl, up2, R2, rfl⟩
          refine ⟨Nat.le_of_ble_eq_true rfl, (fun hh => by cases hh), ?_⟩
          simp only [go_sem, callOut, AState.after, hd4]
          refine hKY _ ?_
          refine wlk_cond1 (by first | rfl | (simp only [go_sem]; try simp (disch := omega) only [decide_eq_true, decide_eq_false])) ?_
          refine wlk_sreg fun KY hKY => ?_
          simp only [go_sem, c_f70_r7]
          refine hKY _ ?_
          refine wlk_ret ?_
          repeat (first | refine hr2 _ ?_ | refine hr1 _ ?_)
          simp only [go_sem]
          exact ⟨_, _, R2, rfl⟩
theorem Rp.grow {n : Nat} {E : Nat → Nat → Prop} {m : List Int} {S : FS} {F : FD} (M : Mf n E (mf m)) (I : Inv n E (mf m) S) (R : Rp n m S F) {v w x : Nat} (hv : S.out v = true) (hw : w < n) (hl : S.lab w = 0) (hx : mf m w = (x : Int)) (a b : Int) :
    Rp n m (grown S v w x) (({ F with lab := F.lab.set w 2, pr := F.pr.set w (v : Int), rt := (F.rt.set w (F.rt.getD v 0)).set x ((F.rt.set w (F.rt.getD v 0)).getD v 0), od := F.od.set w a } : FD).raise x b 1) := by
  have hvn := (I.o1 v hv).1
  obtain ⟨x', k1, hxN, hlx, hxw, hxo, hwo⟩ := fresh M I hw hl
  obtain rfl : x' = x := by omega
  obtain ⟨s1, s2, s3, s4, s5, s6, s7, s8, s9, s10, s11⟩ := R.sz
  have vw : v ≠ w := fun h => by rw [h, hwo] at hv; cases hv
  have hlw : (F.lab.set w 2).getD x' 0 = 0 := by
    rw [getD_set _ _ _ _ (by omega), if_neg hxw, R.lab x' hxN, hlx]; rfl
  have hrv : (F.rt.set w (F.rt.getD v 0)).getD v 0 = S.rt v := by
    rw [getD_set _ _ _ _ (by omega), if_neg vw, R.rt v hvn]
  refine ⟨⟨?_, ?_, ?_, ?_, ?_, ?_, s7, s8, s9, s10, s11⟩, R.ml, fun u hu => ?_, fun u hu => ?_, fun u hu h2 => ?_, fun u hu => ?_, fun u hu => ?_, fun u hu h2 ho => ?_, R.gone, R.uf, R.mr, fun y hy => ?_, ?_⟩
  · show (if (F.lab.set w 2).getD x' 0 = 0 then _ else _ : List Int).length = n
    rw [if_pos hlw]; simp [s1]
  · show (F.out.set x' true).length = n
    simp [s2]
  · show (F.ev.set x' b).length = n
    simp [s3]
  · show (F.od.set w a).length = n
    simp [s4]
  · show (F.pr.set w (v : Int)).length = n
    simp [s5]
  · show ((F.rt.set w (F.rt.getD v 0)).set x' _).length = n
    simp [s6]
  · show (if (F.lab.set w 2).getD x' 0 = 0 then (F.lab.set w 2).set x' 1 else F.lab.set w 2 : List Int).getD u 0 = ((if u = x' then 1 else if u = w then 2 else S.lab u : Nat) : Int)
    rw [if_pos hlw, getD_set _ _ _ _ (by simp; omega), getD_set _ _ _ _ (by omega), R.lab u hu]
    split
    · rfl
    · split <;> rfl
  · show (F.out.set x' true).getD u false = (decide (u = x') || S.out u)
    rw [getD_setB _ _ _ (by omega), R.out u hu]
    by_cases e : x' = u
    · subst e; simp
    · rw [decide_eq_false e, decide_eq_false (Ne.symm e)]
  · show (F.pr.set w (v : Int)).getD u 0 = ((if u = w then v else S.pr u : Nat) : Int)
    rw [getD_set _ _ _ _ (by omega)]
    split
    · rfl
    · rename_i e
      refine R.pr u hu ?_
      have h2 : (if u = x' then 1 else if u = w then 2 else S.lab u) = 2 := h2
      rw [if_neg e] at h2
      split at h2
      · omega
      · exact h2
  · show ((F.rt.set w (F.rt.getD v 0)).set x' ((F.rt.set w (F.rt.getD v 0)).getD v 0)).getD u 0 = (if u = x' then S.rt v else if u = w then S.rt v else S.rt u)
    rw [getD_set _ _ _ _ (by simp; omega), hrv, getD_set _ _ _ _ (by omega), R.rt v hvn, R.rt u hu]
  · show (if u = x' then S.rt v else if u = w then S.rt v else S.rt u) = -1 ∨ ∃ r : Nat, (if u = x' then S.rt v else if u = w then S.rt v else S.rt u) = (r : Int) ∧ r < n
    split
    · exact R.rb v hvn
    · split
      · exact R.rb v hvn
      · exact R.rb u hu
  · have h2 : (if u = x' then 1 else if u = w then 2 else S.lab u) = 2 := h2
    have ho : (decide (u = x') || S.out u) = true := ho
    have hux : u ≠ x' := fun e => by rw [if_pos e] at h2; omega
    rw [decide_eq_false hux, Bool.false_or] at ho
    have huw : u ≠ w := fun e => by rw [e, hwo] at ho; cases ho
    rw [if_neg hux, if_neg huw] at h2
    exact R.br u hu h2 ho
  · have hy : y ∈ F.wt ++ [x'] := hy
    show y < n ∧ (decide (y = x') || S.out y) = true
    rcases List.mem_append.1 hy with hy | hy
    · exact ⟨(R.wt y hy).1, by rw [(R.wt y hy).2, Bool.or_true]⟩
    · obtain rfl : y = x' := by simpa using hy
      exact ⟨hxN, by simp⟩
  · show (F.wt ++ [x']).Nodup
    refine List.nodup_append.2 ⟨R.wn, by simp, fun y hy z hz e => ?_⟩
    obtain rfl : z = x' := by simpa using hz
    subst e
    have := (R.wt y hy).2
    rw [hxo] at this; cases this
theorem grow_ok (nr : List (List Nat)) {n : Nat} {E : Nat → Nat → Prop} {m : List Int} {S : FS} {F : FD} (M : Mf n E (mf m)) (I : Inv n E (mf m) S) (R : Rp n m S F) (hn : n ≤ 4096) {v w x : Nat} (hv : S.out v = true) (hw : w < n) (hl : S.lab w = 0) (hx : mf m w = (x : Int)) :
    ACalls Try.prog [] n_f71 [.ptr 0 0, .sc (.int .i64 (v : Int)), .sc (.int .i64 (w : Int))] [some (F.obj nr m)] fun r h' => r = .tup [] ∧ ∃ F' : FD, Rp n m (grown S v w x) F' ∧ F'.wt = F.wt ++ [x] ∧ F'.tn = F.tn ∧ h' = [some (F'.obj nr m)] := by
  have hvn := (I.o1 v hv).1
  obtain ⟨x', k1, hxN, hlx, hxw, hxo, hwo⟩ := fresh M I hw hl
  obtain rfl : x' = x := by omega
  have hml := R.ml
  have hwl := R.wl
  obtain ⟨s1, s2, s3, s4, s5, s6, s7, s8, s9, s10, s11⟩ := R.sz
  have hgw : (ints m)[w]? = some (.sc (.int .i64 (x' : Int))) := by rw [mints_get (by omega), hx]
  have ha : ∃ a, a = IntKind.i64.wrap (F.ev.getD v 0 + 1) := ⟨_, rfl⟩
  obtain ⟨a, ha⟩ := ha
  obtain ⟨b, hb⟩ : ∃ b, b = IntKind.i64.wrap (F.ev.getD v 0 + 2) := ⟨_, rfl⟩
  have RG := R.grow M I hv hw hl hx a b
  have hrs := raise_ok nr m ({ F with lab := F.lab.set w 2, pr := F.pr.set w (v : Int), rt := (F.rt.set w (F.rt.getD v 0)).set x' ((F.rt.set w (F.rt.getD v 0)).getD v 0), od := F.od.set w a } : FD) (n := n) ⟨by simp [s1], s2, s3, by simp [s4], by simp [s5], by simp [s6], s7, s8, s9, s10, s11⟩ hxN b 1 (by show F.wt.length ≤ _; omega)
  unfold FD.obj at hrs ⊢
  simp only at hrs
  refine go_f71 rfl ?_
  unfold c_f71 v_f71
  refine wlk_sdraw fun KY hKY => ?_
  simp only [go_sem, c_f71_r0, ints_get (show v < F.rt.length by omega), ints_get (show v < F.ev.length by omega), ints_len, s1, s3, s4, s5, s6, hvn, hw, ← ha]
  refine hKY _ ?_
  refine wlk_sreg fun KY hKY => ?_
  simp only [go_sem, c_f71_r1, hgw, ints_len, hml, hw]
  refine hKY _ ?_
  have hrl : (F.rt.set w (F.rt.getD v 0)).length = n := by simp [s6]
  refine wlk_sdraw fun KY hKY => ?_
  simp only [go_sem, c_f71_r2, ints_get (show v < (F.rt.set w (F.rt.getD v 0)).length by omega), ints_len, hrl, hvn, hxN]
  refine hKY _ ?_
  refine wlk_reg fun KY hKY => ?_
  simp only [go_sem, c_f71_r3, ints_get (show v < F.ev.length by omega), ints_len, s3, hvn, ← hb]
  apply call_gen [] [0] false none rfl
  iterate 8 (first | (simp only [go_sem, watchIn] <;> rfl) | rfl)
  refine (hrs).mono ?_
  rintro _ _ ⟨rfl, rfl⟩
  refine ⟨Nat.le_of_ble_eq_true rfl, (fun hh => by cases hh), ?_⟩
  simp only [go_sem, callOut, AState.after]
  refine hKY _ ?_
  simp only [go_sem]
  exact ⟨_, RG, rfl, rfl, rfl⟩
end Go.Proofs.Ytkjppnofgmpeeaa
set_option maxRecDepth 100000
set_option maxHeartbeats 4000000
namespace Go.Proofs.Ytkjppnofgmpeeaa
open Go Go.Ga Go.Ga.Gl
theorem way_start {mt : Nat → Int} {S : FS} {v to : Nat} {ps : Prs} (w : Gl.Way mt S v to ps) : v = to ∨ S.lab v = 1 ∨ S.out v = true := by
 cases w with
 | here => exact .inl rfl
 | even _ h2 _ _ _ => exact .inr (.inl h2)
 | odd _ h2 _ _ _ _ => exact .inr (.inr h2)
theorem nats_app (a b : List Nat) : nats a ++ nats b = nats (a ++ b) := by simp [nats]
theorem flatP_len (ps : Prs) : (flatP ps).length = 2 * ps.length := by
 induction ps with
 | nil => rfl
 | cons p ps ih => rw [flatP_cons]; simp [ih]; omega
theorem revP_len (ps : Prs) : (revP ps).length = ps.length := by simp [revP]
theorem verts_cons (v m : Nat) (ps : Prs) (to : Nat) : verts ((v, m) :: ps) to = v :: m :: verts ps to := rfl
theorem verts_odd (v m : Nat) (ps qs : Prs) (to : Nat) : verts ((v, m) :: (revP ps ++ qs)) to = (v :: (verts ps m).reverse) ++ verts qs to := by
 simp [verts, flatP_cons, flatP_app, flatP_rev]
theorem way_ok (nr : List (List Nat)) {n : Nat} {E : Nat → Nat → Prop} {m : List Int} {S : FS} {F : FD} (M : Mf n E (mf m)) (I : Inv n E (mf m) S) (R : Rp n m S F) (hn : n ≤ 4096) :
    ∀ (k : Nat) {v to : Nat} {ps : Prs}, ps.length ≤ k → ps.length ≤ 5000 → v < n → to < n → Gl.Way (mf m) S v to ps → ACalls Try.prog [] n_f82 [.ptr 0 0, .sc (.int .i64 (v : Int)), .sc (.int .i64 (to : Int))] [some (F.obj nr m)] fun r h' => r = .own (some 1) (nats (verts ps to)) ∧ h' = [some (F.obj nr m)] := by
  intro k
  induction k using Nat.strongRecOn with
  | _ k ih =>
  intro v to ps hk hp5 hvn hton W
  have hml := R.ml
  have hll := R.sz.lab
  have hpl := R.sz.pr
  have hbl := R.sz.br
  unfold FD.obj at ih ⊢
  refine go_f82 rfl ?_
  unfold c_f82 v_f82
  refine wlk_sreg fun KY hKY => ?_
  simp only [go_sem, c_f82_r0]
  refine hKY _ ?_
  refine wlk_sreg fun KY hKY => ?_
  simp only [go_sem, c_f82_r1]
  refine hKY _ ?_
  refine sem_nil [0, 7] 1 (by simp only [go_sem]) ?_
  simp only [go_sem]
  rw [show AVal.own (some 1) [] = .own (some 1) (nats []) from rfl]
  refine wlk_blk fun X1 hn1 he1 hf1 hr1 => ?_
  try simp only [go_sem]
  refine wlk_lp (α := List Nat × Nat × Prs) [8, 36, 41] (fun (l, c, qs) => [(1, .sc (.int .i64 (c : Int))), (7, .own (some 1) (nats l))]) (fun (l, c, qs) => [some [.imm 1 (rowsI nr), .imm 1 (ints m), .own (some 1) (ints F.lab), .own (some 1) (bools F.out), .own (some 1) (ints F.ev), .own (some 1) (ints F.od), .own (some 1) (ints F.pr), .own (some 1) (ints F.rt), .own (some 2) (twos F.br), .own (some 1) (bools F.gone), .own (some 1) (ints F.up), .own (some 1) (ints F.bs), .own (some 1) (ints F.mr), .sc (.int .i64 F.tn), .own (some 1) (nats F.wt), .sc (.int .i64 F.lk)]]) (fun (l, c, qs) q => q = qs.length ∧ c < n ∧ Gl.Way (mf m) S c to qs ∧ l ++ verts qs to = verts ps to ∧ qs.length ≤ ps.length) (([], v, ps)) (ps.length) rfl (by first | (simp only [go_sem, updAll_cons, updAll_nil]; done) | with_reducible rfl | rfl) (⟨rfl, hvn, W, rfl, Nat.le_refl _⟩) ?_
  rintro ⟨l, c, qs⟩ q ⟨rfl, hc, Wc, he, hql⟩ X2 hn2 he2 hr2
  simp only [go_sem, updAll_cons, updAll_nil]
  have hlen : l.length + (2 * qs.length + 1) = 2 * ps.length + 1 := by
    have := congrArg List.length he
    simpa [verts, flatP_len] using this
  have hcl : c < F.lab.length := by omega
  refine wlk_blk fun X3 hn3 he3 hf3 hr3 => ?_
  refine wlk_sreg fun KY hKY => ?_
  simp only [go_sem, c_f82_r2, nats_snoc, nats_len, (show (l.length + 1) * 8 ≤ 140737488355328 by omega)]
  refine hKY _ ?_
  refine wlk_blk fun X4 hn4 he4 hf4 hr4 => ?_
  cases Wc with
  | here =>
    have hd : decide ((to : Int) = (to : Int)) = true := decide_eq_true rfl
    refine wlk_sreg fun KY hKY => ?_
    simp only [go_sem, c_f82_r3, hd]
    refine hKY _ ?_
    refine wlk_cond1 (by first | rfl | (simp only [go_sem]; try simp (disch := omega) only [decide_eq_true, decide_eq_false])) ?_
    refine wlk_sreg fun KY hKY => ?_
    simp only [go_sem, c_f82_r4]
    refine hKY _ ?_
    refine wlk_ret ?_
    repeat (first | refine hr4 _ ?_ | refine hr3 _ ?_ | refine hr2 _ ?_ | refine hr1 _ ?_)
    simp only [go_sem]
    rw [← he]; rfl
  | @even _ _ x qs' hne hl hm hlx W' =>
    have hd : decide ((c : Int) = (to : Int)) = false := decide_eq_false (by omega)
    have hlg : (ints F.lab)[c]? = some (.sc (.int .i64 ((1 : Nat) : Int))) := by rw [ints_get hcl, R.lab c hc, hl]
    have hmg : (ints m)[c]? = some (.sc (.int .i64 (x : Int))) := by rw [mints_get (by omega), hm]
    obtain ⟨hxn, _, _, _, _, hpo, _⟩ := I.od x hlx
    have hpn := (I.o1 _ hpo).1
    have hpg : (ints F.pr)[x]? = some (.sc (.int .i64 (S.pr x : Int))) := by rw [ints_get (by omega), R.pr x hxn hlx]
    refine wlk_sreg fun KY hKY => ?_
    simp only [go_sem, c_f82_r3, hd]
    refine hKY _ ?_
    refine wlk_cond0 (by first | rfl | (simp only [go_sem]; try simp (disch := omega) only [decide_eq_true, decide_eq_false])) ?_
    refine wlk_sreg fun KY hKY => ?_
    simp only [go_sem, c_f82_r5, hlg, ints_len, hll, hc]
    refine hKY _ ?_
    refine wlk_cond1 (by first | rfl | (simp only [go_sem]; try simp (disch := omega) only [decide_eq_true, decide_eq_false])) ?_
    refine wlk_sreg fun KY hKY => ?_
    simp only [go_sem, c_f82_r6, hmg, ints_len, hml, hc, nats_snoc, nats_len, List.length_append, (show (l.length + 1 + 1) * 8 ≤ 140737488355328 by omega)]
    refine hKY _ ?_
    refine wlk_draw fun KY hKY => ?_
    simp only [go_sem, c_f82_r7, hmg, hpg, ints_len, hml, hc, hxn, hpl]
    have hlc : ((c, x) :: qs').length = qs'.length + 1 := rfl
    refine hKY _ ?_
    repeat (first | refine hn4 _ ?_ | refine he4 _ ?_ | refine hf4 _ _ (by decide) ?_ | refine hn3 _ ?_ | refine he3 _ ?_ | refine hf3 _ _ (by decide) ?_)
    refine hn2 _ ((l ++ [c] ++ [x], S.pr x, qs')) (qs'.length) (by omega) (by first | (simp only [go_sem, updAll_cons, updAll_nil]; done) | with_reducible rfl) ?_
    exact ⟨rfl, hpn, W', by rw [← he, verts_cons]; simp, by omega⟩
  | @odd _ _ x p1 qs' hne ho hl hm W1 W2 =>
    have hd : decide ((c : Int) = (to : Int)) = false := decide_eq_false (by omega)
    have hlg : (ints F.lab)[c]? = some (.sc (.int .i64 ((2 : Nat) : Int))) := by rw [ints_get hcl, R.lab c hc, hl]
    have hmg : (ints m)[c]? = some (.sc (.int .i64 (x : Int))) := by rw [mints_get (by omega), hm]
    have hbg : F.br[c]? = some ((S.b0 c : Int), (S.b1 c : Int)) := by
      have h1 := R.br c hc hl ho
      rw [List.getD_eq_getElem?_getD, List.getElem?_eq_getElem (by omega)] at h1
      rw [List.getElem?_eq_getElem (by omega)]
      simpa using h1
    have hq1 : ((c, x) :: (revP p1 ++ qs')).length = p1.length + qs'.length + 1 := by simp [revP_len]
    rw [hq1] at hql hlen
    have hxn : x < n := (M.el _ _ (M.ne c x hm).2).2.1
    have hb0n : S.b0 c < n := by
      rcases way_start W1 with h | h | h
      · rw [h]; exact hxn
      · exact (I.o1 _ (I.e1 _ h)).1
      · exact (I.o1 _ h).1
    have hb1n : S.b1 c < n := by
      rcases way_start W2 with h | h | h
      · rw [h]; exact hton
      · exact (I.o1 _ (I.e1 _ h)).1
      · exact (I.o1 _ h).1
    have t1 : p1.length < k := by omega
    have t2 : p1.length ≤ 5000 := by omega
    have hI := ih p1.length t1 (Nat.le_refl _) t2 hb0n hxn W1
    refine wlk_sreg fun KY hKY => ?_
    simp only [go_sem, c_f82_r3, hd]
    refine hKY _ ?_
    refine wlk_cond0 (by first | rfl | (simp only [go_sem]; try simp (disch := omega) only [decide_eq_true, decide_eq_false])) ?_
    refine wlk_sreg fun KY hKY => ?_
    simp only [go_sem, c_f82_r5, hlg, ints_len, hll, hc]
    refine hKY _ ?_
    refine wlk_cond0 (by first | rfl | (simp only [go_sem]; try simp (disch := omega) only [decide_eq_true, decide_eq_false])) ?_
    refine wlk_sreg fun KY hKY => ?_
    simp only [go_sem, c_f82_r8, two_cells hbg, twos_len, hbl, hc, (show c * 2 + 1 < n * 2 by omega), (show 1 < n * 2 - c * 2 by omega), List.length_drop]
    refine hKY _ ?_
    have hvl : (verts p1 x).length = 2 * p1.length + 1 := by simp [verts, flatP_len]
    refine wlk_sdraw fun KY hKY => ?_
    simp only [go_sem, c_f82_r9, hmg, ints_len, hml, hc]
    apply call_gen [] [0] false none rfl
    iterate 8 (first | (simp only [go_sem, watchIn] <;> rfl) | rfl)
    refine (hI).mono ?_
    rintro _ _ ⟨rfl, rfl⟩
    refine ⟨Nat.le_of_ble_eq_true rfl, (fun hh => by cases hh), ?_⟩
    simp only [go_sem, callOut, AState.after]
    apply call_gen [.mv] [] false none rfl
    iterate 8 (first | (simp only [go_sem, watchIn] <;> rfl) | rfl)
    refine (ftrn_ok (verts p1 x) (by omega)).mono ?_
    rintro _ _ ⟨rfl, rfl⟩
    refine ⟨Nat.le_of_ble_eq_true rfl, (fun hh => by cases hh), ?_⟩
    simp only [go_sem, callOut, AState.after, nats_app, nats_len, List.length_append, List.length_reverse, hvl, List.length_cons, List.length_nil, (show (l.length + 1 + (2 * p1.length + 1)) * 8 ≤ 140737488355328 by omega)]
    refine hKY _ ?_
    refine wlk_reg fun KY hKY => ?_
    simp only [go_sem, c_f82_r10]
    refine hKY _ ?_
    repeat (first | refine hn4 _ ?_ | refine he4 _ ?_ | refine hf4 _ _ (by decide) ?_ | refine hn3 _ ?_ | refine he3 _ ?_ | refine hf3 _ _ (by decide) ?_)
    refine hn2 _ ((l ++ [c] ++ (verts p1 x).reverse, S.b1 c, qs')) (qs'.length) (by omega) (by first | (simp only [go_sem, updAll_cons, updAll_nil]; done) | with_reducible rfl) ?_
    refine ⟨rfl, hb1n, W2, ?_, by omega⟩
    rw [← he, verts_odd]
    simp [List.append_assoc]
end Go.Proofs.Ytkjppnofgmpeeaa
