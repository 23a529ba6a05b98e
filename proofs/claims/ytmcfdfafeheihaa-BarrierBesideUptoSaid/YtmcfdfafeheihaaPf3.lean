/- Side by side numbers are added, and what both sets lack is, together, what they lack. -/
import Derived.Test.YtmcfdfafeheihaaPf2
import Derived.Shelf.Sort.Plain
import Derived.Test.YtmcfdfafeheihaaRows
import Derived.Test.YtmcfdfafeheihaaPf1
import Derived.Test.YtmcfdfafeheihaaGlkpaph5
set_option linter.all false
set_option maxRecDepth 100000
set_option maxHeartbeats 4000000
namespace Go.Proofs.Ytmcfdfafeheihaa
open Go Go.Ga Go.Ga.Gl
theorem rindex_ok (n : Int) (es : List (Int × Int)) (a b : Int) : ACalls Try.prog [] n_f58 [.agg [.sc (.int .i64 n), .imm 2 (twos es)], .sc (.int .i64 a), .sc (.int .i64 b)] [] fun r h' => (∃ k : Int, r = .sc (.int .i64 k) ∧ (0 ≤ k ↔ rightB n es = true ∧ turnI a b ∈ es)) ∧ h' = [] := by
 refine go_f58 rfl ?_
 unfold c_f58 v_f58
 refine wlk_sreg fun KY hKY => ?_
 simp only [go_sem, c_f58_r0]
 apply hKY
 refine wlk_seq fun X1 hn1 he1 hr1 => ?_
 refine wlk_sreg fun KY hKY => ?_
 simp only [go_sem, c_f58_r1]
 refine call_view rfl (by simp only [go_sem] <;> rfl) ((rright_ok _ _).mono ?_)
 rintro rr hh ⟨rfl, rfl⟩
 refine ⟨rfl, rfl, rfl, ?_⟩
 simp only [go_sem]
 apply hKY
 cases hR : rightB n es with
 | false =>
   refine wc1 ?_
   refine wlk_sreg fun KY hKY => ?_
   simp only [go_sem, c_f58_r2]
   apply hKY
   refine wlk_ret ?_
   repeat (first | refine hr1 _ ?_)
   simp only [go_sem]
   exact ⟨-1, rfl, by simp [hR]⟩
 | true =>
   have hlen : es.length ≤ 65536 := by simp only [rightB, Bool.and_eq_true, decide_eq_true_eq] at hR; omega
   refine wc0 ?_
   refine wlk_skip ?_
   repeat (first | refine hn1 _ ?_ | refine he1 _ _ ?_)
   refine wlk_sreg fun KY hKY => ?_
   simp only [go_sem, c_f58_r3]
   refine call_view rfl (by simp only [go_sem] <;> rfl) ((turned_ok _ _).mono ?_)
   rintro rr hh ⟨rfl, rfl⟩
   refine ⟨rfl, rfl, rfl, ?_⟩
   generalize hT : turnI a b = e
   obtain ⟨c, d⟩ := e
   simp only [two_mk]
   simp only [go_sem]
   apply hKY
   refine wlk_seq fun X2 hn2 he2 hr2 => ?_
   refine wlk_sreg fun KY hKY => ?_
   simp only [go_sem, c_f58_r4]
   apply hKY
   refine wlk_blk fun X3 hn3 he3 hf3 hr3 => ?_
   try simp only [go_sem]
   refine wlk_lp (α := Nat) [19, 28] (fun k => [(8, .sc (.int .i64 (k : Int)))]) (fun k => []) (fun k q => k ≤ es.length ∧ q = es.length - k ∧ ∀ j, j < k → es.getD j (0, 0) ≠ (c, d)) (0) (es.length) rfl (by first | (simp only [go_sem, updAll_cons, updAll_nil]; done) | with_reducible rfl | rfl) (⟨by omega, rfl, fun j h => by omega⟩) ?_
   rintro k q ⟨hk, rfl, hz⟩ X4 hn4 he4 hr4
   simp only [go_sem, updAll_cons, updAll_nil]
   refine wlk_seq fun X5 hn5 he5 hr5 => ?_
   refine wlk_sreg fun KY hKY => ?_
   simp only [go_sem, c_f58_r5]
   apply hKY
   by_cases hk2 : k < es.length
   · refine wc1 ?_
     refine wlk_skip ?_
     repeat (first | refine hn5 _ ?_ | refine he5 _ _ ?_ | refine he4 _ _ ?_ | refine hn3 _ ?_ | refine he3 _ ?_ | refine hf3 _ _ (by decide) ?_ | refine hn2 _ ?_ | refine he2 _ _ ?_ | refine hn1 _ ?_ | refine he1 _ _ ?_)
     refine wlk_seq fun X6 hn6 he6 hr6 => ?_
     refine wlk_blk fun X7 hn7 he7 hf7 hr7 => ?_
     have hx : es[k]? = some es[k] := List.getElem?_eq_getElem hk2
     have hy : es.getD k (0, 0) = es[k] := by simp [List.getD_eq_getElem?_getD, hx]
     generalize es[k] = x at hx hy
     obtain ⟨u, v⟩ := x
     refine wlk_sdraw fun KY hKY => ?_
     simp only [go_sem, c_f58_r6, two_cells hx, List.length_drop]
     repeat (simp (disch := omega) only [if_pos, if_neg, decide_eq_true, decide_eq_false, incS, nats_get, ints_get, two_cells hx, List.length_drop]; try simp only [go_sem, two_cells hx, List.length_drop])
     apply hKY
     by_cases h2 : (u, v) = (c, d)
     · refine wlk_cond1 (by first | rfl | (simp only [go_sem, h2]; try simp (disch := omega) only [decide_eq_true, decide_eq_false])) ?_
       refine wlk_sreg fun KY hKY => ?_
       simp only [go_sem, c_f58_r7]
       apply hKY
       refine wlk_ret ?_
       repeat (first | refine hr7 _ ?_ | refine hr6 _ ?_ | refine hr5 _ ?_ | refine hr4 _ ?_ | refine hr3 _ ?_ | refine hr2 _ ?_ | refine hr1 _ ?_)
       simp only [go_sem]
       refine ⟨(k : Int), rfl, ?_⟩
       rw [hT, ← h2]
       exact ⟨fun _ => ⟨hR, List.mem_iff_getElem?.2 ⟨k, hx⟩⟩, fun _ => by omega⟩
     · refine wlk_cond0 (by first | rfl | (simp only [go_sem, h2]; try simp (disch := omega) only [decide_eq_true, decide_eq_false])) ?_
       refine wlk_skip ?_
       repeat (first | refine hn7 _ ?_ | refine he7 _ ?_ | refine hf7 _ _ (by decide) ?_ | refine hn6 _ ?_ | refine he6 _ _ ?_ | refine hn5 _ ?_ | refine he5 _ _ ?_ | refine he4 _ _ ?_ | refine hn3 _ ?_ | refine he3 _ ?_ | refine hf3 _ _ (by decide) ?_ | refine hn2 _ ?_ | refine he2 _ _ ?_ | refine hn1 _ ?_ | refine he1 _ _ ?_)
       refine wlk_reg fun KY hKY => ?_
       simp only [go_sem, c_f58_r8]
       repeat (simp (disch := omega) only [if_pos, if_neg, decide_eq_true, decide_eq_false, incS, nats_get, ints_get]; try simp only [go_sem])
       apply hKY
       repeat (first | refine hn7 _ ?_ | refine he7 _ ?_ | refine hf7 _ _ (by decide) ?_ | refine hn6 _ ?_ | refine he6 _ _ ?_ | refine hn5 _ ?_ | refine he5 _ _ ?_)
       refine hn4 _ (k + 1) (es.length - (k + 1)) (by omega) (by first | (simp only [go_sem, updAll_cons, updAll_nil]; done) | with_reducible rfl | rfl) ?_
       refine ⟨hk2, rfl, fun j hj => ?_⟩
       rcases Nat.lt_or_ge j k with h3 | h3
       · exact hz j h3
       · have : j = k := by omega
         subst this; rw [hy]; exact h2
   · refine wc0 ?_
     refine wlk_exit ?_
     repeat (first | refine hn5 _ ?_ | refine he5 _ _ ?_ | refine he4 _ _ ?_ | refine hn3 _ ?_ | refine he3 _ ?_ | refine hf3 _ _ (by decide) ?_ | refine hn2 _ ?_ | refine he2 _ _ ?_ | refine hn1 _ ?_ | refine he1 _ _ ?_)
     refine wlk_sreg fun KY hKY => ?_
     simp only [go_sem, c_f58_r9]
     apply hKY
     refine wlk_ret ?_
     repeat (first | refine hr5 _ ?_ | refine hr4 _ ?_ | refine hr3 _ ?_ | refine hr2 _ ?_ | refine hr1 _ ?_)
     simp only [go_sem]
     refine ⟨-1, rfl, ?_⟩
     have : ¬ (c, d) ∈ es := by
      intro hm
      obtain ⟨j, hj⟩ := List.mem_iff_getElem?.1 hm
      have hjl := (List.getElem?_eq_some_iff.1 hj).1
      refine hz j (by omega) ?_
      rw [List.getD_eq_getElem?_getD, hj]; rfl
     rw [hT]
     simp [this]
theorem rhas_ok (n : Int) (es : List (Int × Int)) (a b : Int) : ACalls Try.prog [] n_f42 [.agg [.sc (.int .i64 n), .imm 2 (twos es)], .sc (.int .i64 a), .sc (.int .i64 b)] [] fun r h' => r = .sc (.bool (rightB n es && decide (turnI a b ∈ es))) ∧ h' = [] := by
 refine go_f42 rfl ?_
 unfold c_f42 v_f42
 refine wlk_sreg fun KY hKY => ?_
 simp only [go_sem, c_f42_r0]
 apply hKY
 refine wlk_sreg fun KY hKY => ?_
 simp only [go_sem, c_f42_r1]
 refine call_view rfl (by simp only [go_sem] <;> rfl) ((rindex_ok n es a b).mono ?_)
 rintro rr hh ⟨⟨k, rfl, hk⟩, rfl⟩
 refine ⟨?_, ?_, ?_, ?_⟩
 iterate 3 (first | rfl | simp only [go_sem])
 simp only [go_sem]
 apply hKY
 refine wlk_ret ?_
 simp only [go_sem]
 have : decide (0 ≤ k) = (rightB n es && decide (turnI a b ∈ es)) := by
  rw [Bool.eq_iff_iff]; simp [hk]
 rw [this]
theorem castE_mem {es : Es} {a b : Nat} : ((a : Int), (b : Int)) ∈ castE es ↔ (a, b) ∈ es := by
 simp only [castE, List.mem_map, Prod.mk.injEq]
 constructor
 · rintro ⟨⟨x, y⟩, h, h1, h2⟩
   have e1 : x = a := by omega
   have e2 : y = b := by omega
   rw [← e1, ← e2]; exact h
 · intro h; exact ⟨(a, b), h, rfl, rfl⟩
theorem lex_cast (a b : Nat × Nat) : aheadI ((a.1 : Int), (a.2 : Int)) ((b.1 : Int), (b.2 : Int)) = decide (lexlt a b) := by
 have h : aheadI ((a.1 : Int), (a.2 : Int)) ((b.1 : Int), (b.2 : Int)) = true ↔ lexlt a b := by
  unfold aheadI lexlt
  rw [decide_eq_true_iff]
  simp only
  omega
 rw [Bool.eq_iff_iff, h, decide_eq_true_iff]
theorem rput_ok {n : Nat} {es : Es} (g : GR n es) (a b : Nat) (hm : (a, b) ∉ es) : ACalls Try.prog [] n_f43 [.imm 2 (twos (castE es)), .agg [.sc (.int .i64 (a : Int)), .sc (.int .i64 (b : Int))]] [] fun r h' => r = .own (some 2) (twos (castE (putE es (a, b)))) ∧ h' = [] := by
 have hlen := g.hm
 refine go_f43 rfl ?_
 unfold c_f43 v_f43
 refine wlk_sreg fun KY hKY => ?_
 simp only [go_sem, c_f43_r0]
 apply hKY
 refine wlk_sreg fun KY hKY => ?_
 simp only [go_sem, c_f43_r1, castE_len]
 apply hKY
 refine wlk_seq fun X1 hn1 he1 hr1 => ?_
 refine wlk_blk fun X2 hn2 he2 hf2 hr2 => ?_
 try simp only [go_sem]
 refine wlk_lp (α := Nat) [18] (fun k => [(5, .sc (.int .i64 (k : Int)))]) (fun k => []) (fun k q => k ≤ es.length ∧ q = k ∧ ∀ x ∈ es.drop k, ¬ lexlt x (a, b)) (es.length) (es.length) rfl (by first | (simp only [go_sem, updAll_cons, updAll_nil]; done) | with_reducible rfl | rfl) (⟨Nat.le_refl _, rfl, fun x h => by simp at h⟩) ?_
 rintro k q ⟨hk, rfl, hz⟩ X3 hn3 he3 hr3
 simp only [go_sem, updAll_cons, updAll_nil]
 refine wlk_seq fun X4 hn4 he4 hr4 => ?_
 have fin : (∀ x ∈ es.take q, lexlt x (a, b)) → X1 .normal { vs := [(0, .imm 2 (twos (castE es))), (1, .agg [.sc (.int .i64 (a : Int)), .sc (.int .i64 (b : Int))]), (3, .own none [.sc (.int .i64 (a : Int)), .sc (.int .i64 (b : Int))]), (4, .sc (.slice none 0 0)), (5, .sc (.int .i64 (q : Int))), (18, .sc (.bool false))], ts := [], h := [] } := by
  intro hl
  refine hn1 _ ?_
  have e := putE_split hk hl hz
  have by1 : es.length * 2 * 16 ≤ 140737488355328 := by omega
  have hq : (q : Int) ≤ (es.length : Int) := by omega
  have e0 : (castE es).take (q - 0) = castE (es.take q) := by simp [castE]
  have e1 : ((castE es).drop q).take (es.length - q) = castE (es.drop q) := by rw [castE_drop]; exact List.take_of_length_le (by simp [castE])
  have e2 : twos (castE (es.take q)) ++ [.sc (.int .i64 (a : Int)), .sc (.int .i64 (b : Int))] ++ twos (castE (es.drop q)) = twos (castE (putE es (a, b))) := by
   rw [← e, castE_append, twos_append, List.append_assoc]
   rfl
  refine wlk_sdraw fun KY hKY => ?_
  simp only [go_sem, c_f43_r4, castE_len, cut_twos, e0, e1, twos_cellOk, List.length_take, List.length_drop, List.length_append]
  repeat (simp (disch := omega) only [if_pos, if_neg, decide_eq_true, decide_eq_false, incS, nats_get, ints_get, castE_len, cut_twos, e0, e1, twos_cellOk, List.length_take, List.length_drop, List.length_append]; try simp only [go_sem, castE_len, cut_twos, e0, e1, twos_cellOk, List.length_take, List.length_drop, List.length_append])
  refine (fun H => by refine ⟨⟨⟨⟨hKY _ ?_, hKY _ ?_⟩, hKY _ ?_⟩, ⟨⟨⟨hKY _ ?_, hKY _ ?_⟩, hKY _ ?_⟩, ⟨hKY _ ?_, hKY _ ?_⟩⟩⟩, ⟨⟨⟨⟨hKY _ ?_, hKY _ ?_⟩, hKY _ ?_⟩, hKY _ ?_⟩, ⟨⟨hKY _ ?_, hKY _ ?_⟩, hKY _ ?_⟩⟩⟩ <;> (simp only [go_sem]; exact H)) ?_
  refine wlk_ret ?_
  repeat (first | refine hr4 _ ?_ | refine hr3 _ ?_ | refine hr2 _ ?_ | refine hr1 _ ?_)
  simp only [go_sem, e2]
 cases q with
 | zero =>
   refine wlk_sdraw fun KY hKY => ?_
   simp only [go_sem, c_f43_r2, show ((0:Nat):Int) = 0 from rfl, Int.lt_irrefl]
   repeat (simp (disch := omega) only [if_pos, if_neg, decide_eq_true, decide_eq_false, incS, nats_get, ints_get, show ((0:Nat):Int) = 0 from rfl, Int.lt_irrefl]; try simp only [go_sem, show ((0:Nat):Int) = 0 from rfl, Int.lt_irrefl])
   apply hKY
   simp only [go_sem]
   refine wc0 ?_
   exact wlk_exit (he4 _ _ (he3 _ _ (he2 _ (fin (fun x h => by simp at h)))))
 | succ m =>
   have hx : es[m]? = some (es[m]'(by omega)) := List.getElem?_eq_getElem _
   have hy : es[m]'(by omega) ∈ es := List.getElem_mem _
   generalize es[m]'(by omega) = x at hx hy
   obtain ⟨c, d⟩ := x
   have hx' := castE_get hx
   have hm0 : ((m + 1 : Nat) : Int) > 0 := by omega
   refine wlk_sdraw fun KY hKY => ?_
   simp only [go_sem, c_f43_r2, decS, two_cells hx', List.length_drop, castE_len, hm0]
   repeat (simp (disch := omega) only [if_pos, if_neg, decide_eq_true, decide_eq_false, incS, nats_get, ints_get, decS, two_cells hx', List.length_drop, castE_len, hm0]; try simp only [go_sem, decS, two_cells hx', List.length_drop, castE_len, hm0])
   refine call_view rfl (by simp only [go_sem] <;> rfl) ((ahead_ok ((a : Int), (b : Int)) ((c : Int), (d : Int))).mono ?_)
   rintro rr hh ⟨rfl, rfl⟩
   refine ⟨rfl, rfl, rfl, ?_⟩
   try simp only [go_sem, lex_cast (a, b) (c, d)]
   repeat (simp (disch := omega) only [if_pos, if_neg, decide_eq_true, decide_eq_false, incS, nats_get, ints_get, lex_cast (a, b) (c, d)]; try simp only [go_sem, lex_cast (a, b) (c, d)])
   apply hKY
   by_cases hl : lexlt (a, b) (c, d)
   · refine wlk_cond1 (by first | rfl | (simp only [go_sem, hl]; try simp (disch := omega) only [decide_eq_true, decide_eq_false])) ?_
     refine wlk_skip ?_
     repeat (first | refine hn4 _ ?_ | refine he4 _ _ ?_ | refine he3 _ _ ?_ | refine hn2 _ ?_ | refine he2 _ ?_ | refine hf2 _ _ (by decide) ?_ | refine hn1 _ ?_ | refine he1 _ _ ?_)
     refine wlk_blk fun X5 hn5 he5 hf5 hr5 => ?_
     refine wlk_reg fun KY hKY => ?_
     simp only [go_sem, c_f43_r3, decS]
     repeat (simp (disch := omega) only [if_pos, if_neg, decide_eq_true, decide_eq_false, incS, nats_get, ints_get, decS]; try simp only [go_sem, decS])
     apply hKY
     repeat (first | refine hn5 _ ?_ | refine he5 _ ?_ | refine hf5 _ _ (by decide) ?_ | refine hn4 _ ?_ | refine he4 _ _ ?_)
     refine hn3 _ (m) (m) (by omega) (by first | (simp only [go_sem, updAll_cons, updAll_nil]; done) | with_reducible rfl | rfl) ?_
     refine ⟨by omega, rfl, fun x hxm => ?_⟩
     rw [List.drop_eq_getElem_cons (by omega)] at hxm
     rcases List.mem_cons.1 hxm with h | h
     · subst h
       rw [(List.getElem?_eq_some_iff.1 hx).2]
       exact fun h => lexlt_irrefl _ (lexlt_trans _ _ _ hl h)
     · exact hz x h
   · simp only [go_sem, hl]
     refine wc0 ?_
     refine wlk_exit (he4 _ _ (he3 _ _ (he2 _ (fin fun x hxm => ?_))))
     have hcd : lexlt (c, d) (a, b) := by
      have : ¬ (c = a ∧ d = b) := fun h => hm (by rw [← h.1, ← h.2]; exact hy)
      unfold lexlt at *
      simp only at *
      omega
     rw [List.take_add_one, hx] at hxm
     rcases List.mem_append.1 hxm with h | h
     · refine lexlt_trans _ _ _ ?_ hcd
       obtain ⟨j, hj⟩ := List.mem_iff_getElem?.1 h
       rw [List.getElem?_take] at hj
       split at hj
       · rename_i hjm
         obtain ⟨h1, h2⟩ := List.getElem?_eq_some_iff.1 hj
         obtain ⟨h3, h4⟩ := List.getElem?_eq_some_iff.1 hx
         rw [← h2, ← h4]
         exact List.pairwise_iff_getElem.1 g.up j m h1 h3 hjm
       · cases hj
     · simp at h; subst h; exact hcd
theorem rputI_ok {n : Nat} {es : Es} (g : GR n es) (a b : Nat) (hm : (a, b) ∉ es) : ACalls Try.prog [] n_f43 [.imm 2 (twos (castE es)), .agg [.sc (.int .i64 (a : Int)), .sc (.int .i64 (b : Int))]] [] fun r h' => r = .imm 2 (twos (castE (putE es (a, b)))) ∧ h' = [] := by
 refine (rput_ok g a b hm).frz.mono ?_
 rintro r h' ⟨r0, rfl, rfl, rfl⟩
 exact ⟨by simp only [AVal.freeze, twos_freeze], rfl⟩
def Addable (n : Nat) (es : Es) (a b : Int) (x y : Nat) : Prop := turnI a b = ((x : Int), (y : Int)) ∧ x < y ∧ y < n ∧ (x, y) ∉ es ∧ es.length < 65536
def AddQ (n : Nat) (es : Es) (a b : Int) (r : AVal) : Prop :=
 (∃ x y : Nat, Addable n es a b x y ∧ r = .tup [.agg [.sc (.int .i64 (n : Int)), .imm 2 (twos (castE (putE es (x, y))))], .sc (.int .i64 0)]) ∨
 (∃ e : Int, e ≠ 0 ∧ (¬ ∃ x y, Addable n es a b x y) ∧ r = .tup [.agg [.sc (.int .i64 0), .sc (.slice none 0 0)], .sc (.int .i64 e)])
theorem radd_ok {n : Nat} {es : Es} (g : GR n es) (a b : Int) : ACalls Try.prog [] n_f25 [.agg [.sc (.int .i64 (n : Int)), .imm 2 (twos (castE es))], .sc (.int .i64 a), .sc (.int .i64 b)] [] fun r h' => AddQ n es a b r ∧ h' = [] := by
 refine go_f25 rfl ?_
 unfold c_f25 v_f25
 refine wlk_sreg fun KY hKY => ?_
 simp only [go_sem, c_f25_r0]
 apply hKY
 refine wlk_seq fun X1 hn1 he1 hr1 => ?_
 refine wlk_blk fun X2 hn2 he2 hf2 hr2 => ?_
 refine wlk_sreg fun KY hKY => ?_
 simp only [go_sem, c_f25_r1]
 refine call_view rfl (by simp only [go_sem] <;> rfl) ((rright_ok _ _).mono ?_)
 rintro rr hh ⟨rfl, rfl⟩
 refine ⟨rfl, rfl, rfl, ?_⟩
 simp only [go_sem, rightB_GR g]
 apply hKY
 refine wc0 ?_
 by_cases hv : (0 ≤ a ∧ a < n) ∧ (0 ≤ b ∧ b < n)
 · obtain ⟨⟨h1, h2⟩, h3, h4⟩ := hv
   refine wlk_sreg fun KY hKY => ?_
   simp only [go_sem, c_f25_r3]
   repeat (simp (disch := omega) only [if_pos, if_neg, decide_eq_true, decide_eq_false, incS, nats_get, ints_get]; try simp only [go_sem])
   refine call_view rfl (by simp only [go_sem] <;> rfl) ((is_ok _ _ _).mono ?_)
   rintro rr hh ⟨rfl, rfl⟩
   refine ⟨rfl, rfl, rfl, ?_⟩
   try simp only [go_sem, h1, h2]
   repeat (simp (disch := omega) only [if_pos, if_neg, decide_eq_true, decide_eq_false, incS, nats_get, ints_get, h1, h2]; try simp only [go_sem, h1, h2])
   refine call_view rfl (by simp only [go_sem] <;> rfl) ((is_ok _ _ _).mono ?_)
   rintro rr hh ⟨rfl, rfl⟩
   refine ⟨rfl, rfl, rfl, ?_⟩
   try simp only [go_sem, h3, h4]
   repeat (simp (disch := omega) only [if_pos, if_neg, decide_eq_true, decide_eq_false, incS, nats_get, ints_get, h3, h4]; try simp only [go_sem, h3, h4])
   apply hKY
   refine wc0 ?_
   by_cases hab : a = b
   · subst hab
     refine wlk_sreg fun KY hKY => ?_
     simp only [go_sem, c_f25_r5]
     apply hKY
     refine wc1 ?_
     refine wlk_sreg fun KY hKY => ?_
     simp only [go_sem, c_f25_r6]
     apply hKY
     refine wlk_ret ?_
     repeat (first | refine hr2 _ ?_ | refine hr1 _ ?_)
     simp only [go_sem]
     refine .inr ⟨5, by decide, ?_, rfl⟩
     rintro ⟨x, y, h, hxy, _⟩
     unfold turnI at h
     rw [if_neg (by omega)] at h
     have := congrArg Prod.fst h; have := congrArg Prod.snd h; simp only at *; omega
   · refine wlk_sreg fun KY hKY => ?_
     simp only [go_sem, c_f25_r5, hab]
     apply hKY
     refine wc0 ?_
     obtain ⟨x, y, ht, hxy, hyn⟩ : ∃ x y : Nat, turnI a b = ((x : Int), (y : Int)) ∧ x < y ∧ y < n := by
      unfold turnI
      split
      · exact ⟨b.toNat, a.toNat, by rw [Int.toNat_of_nonneg h3, Int.toNat_of_nonneg h1], by omega, by omega⟩
      · exact ⟨a.toNat, b.toNat, by rw [Int.toNat_of_nonneg h3, Int.toNat_of_nonneg h1], by omega, by omega⟩
     refine wlk_sreg fun KY hKY => ?_
     simp only [go_sem, c_f25_r7]
     refine call_view rfl (by simp only [go_sem] <;> rfl) ((rhas_ok _ _ _ _).mono ?_)
     rintro rr hh ⟨rfl, rfl⟩
     refine ⟨rfl, rfl, rfl, ?_⟩
     simp only [go_sem, rightB_GR g, ht, castE_mem]
     apply hKY
     by_cases hm : (x, y) ∈ es
     · refine wlk_cond1 (by first | rfl | (simp only [go_sem, hm]; try simp (disch := omega) only [decide_eq_true, decide_eq_false])) ?_
       refine wlk_sreg fun KY hKY => ?_
       simp only [go_sem, c_f25_r8]
       apply hKY
       refine wlk_ret ?_
       repeat (first | refine hr2 _ ?_ | refine hr1 _ ?_)
       simp only [go_sem]
       refine .inr ⟨6, by decide, ?_, rfl⟩
       rintro ⟨x', y', h, _, _, h', _⟩
       rw [ht] at h
       have e1 := congrArg Prod.fst h; have e2 := congrArg Prod.snd h
       have e3 : x = x' := by simp only at e1; omega
       have e4 : y = y' := by simp only at e2; omega
       rw [← e3, ← e4] at h'; exact h' hm
     · refine wlk_cond0 (by first | rfl | (simp only [go_sem, hm]; try simp (disch := omega) only [decide_eq_true, decide_eq_false])) ?_
       by_cases hl : es.length < 65536
       · refine wlk_sreg fun KY hKY => ?_
         simp only [go_sem, c_f25_r9, castE_len]
         repeat (simp (disch := omega) only [if_pos, if_neg, decide_eq_true, decide_eq_false, incS, nats_get, ints_get, castE_len]; try simp only [go_sem, castE_len])
         apply hKY
         refine wc0 ?_
         refine wlk_skip ?_
         repeat (first | refine hn2 _ ?_ | refine he2 _ ?_ | refine hf2 _ _ (by decide) ?_ | refine hn1 _ ?_ | refine he1 _ _ ?_)
         refine wlk_sdraw fun KY hKY => ?_
         simp only [go_sem, c_f25_r11]
         refine call_view rfl (by simp only [go_sem] <;> rfl) ((turned_ok _ _).mono ?_)
         rintro rr hh ⟨rfl, rfl⟩
         refine ⟨rfl, rfl, rfl, ?_⟩
         simp only [go_sem, ht, two_mk]
         apply call_gen [] [] false none rfl
         iterate 8 (first | (simp only [go_sem, watchIn] <;> rfl) | rfl)
         refine (rputI_ok g x y hm).mono ?_
         rintro _ _ ⟨rfl, rfl⟩
         refine ⟨Nat.le_of_ble_eq_true rfl, (fun hh => by cases hh), ?_⟩
         simp only [go_sem, callOut, AState.after]
         apply hKY
         refine wlk_ret ?_
         repeat (first | refine hr2 _ ?_ | refine hr1 _ ?_)
         simp only [go_sem]
         exact .inl ⟨x, y, ⟨ht, hxy, hyn, hm, hl⟩, rfl⟩
       · refine wlk_sreg fun KY hKY => ?_
         simp only [go_sem, c_f25_r9, castE_len]
         repeat (simp (disch := omega) only [if_pos, if_neg, decide_eq_true, decide_eq_false, incS, nats_get, ints_get, castE_len]; try simp only [go_sem, castE_len])
         apply hKY
         refine wc1 ?_
         refine wlk_sreg fun KY hKY => ?_
         simp only [go_sem, c_f25_r10]
         apply hKY
         refine wlk_ret ?_
         repeat (first | refine hr2 _ ?_ | refine hr1 _ ?_)
         simp only [go_sem]
         exact .inr ⟨8, by decide, fun ⟨_, _, h⟩ => hl h.2.2.2.2, rfl⟩
 · have fin : ¬ ∃ x y, Addable n es a b x y := by
    rintro ⟨x, y, h, h1, h2, _⟩
    unfold turnI at h
    split at h <;> (have e1 := congrArg Prod.fst h; have e2 := congrArg Prod.snd h; simp only at e1 e2; omega)
   by_cases h1 : 0 ≤ a
   · by_cases h2 : a < n
     · refine wlk_sreg fun KY hKY => ?_
       simp only [go_sem, c_f25_r3]
       repeat (simp (disch := omega) only [if_pos, if_neg, decide_eq_true, decide_eq_false, incS, nats_get, ints_get]; try simp only [go_sem])
       refine call_view rfl (by simp only [go_sem] <;> rfl) ((is_ok _ _ _).mono ?_)
       rintro rr hh ⟨rfl, rfl⟩
       refine ⟨rfl, rfl, rfl, ?_⟩
       try simp only [go_sem, h1, h2]
       repeat (simp (disch := omega) only [if_pos, if_neg, decide_eq_true, decide_eq_false, incS, nats_get, ints_get, h1, h2]; try simp only [go_sem, h1, h2])
       refine call_view rfl (by simp only [go_sem] <;> rfl) ((is_ok _ _ _).mono ?_)
       rintro rr hh ⟨rfl, rfl⟩
       refine ⟨rfl, rfl, rfl, ?_⟩
       by_cases h3 : 0 ≤ b
       · try simp only [go_sem, h3]
         repeat (simp (disch := omega) only [if_pos, if_neg, decide_eq_true, decide_eq_false, incS, nats_get, ints_get, h3]; try simp only [go_sem, h3])
         apply hKY
         refine wc1 ?_
         refine wlk_sreg fun KY hKY => ?_
         simp only [go_sem, c_f25_r4]
         apply hKY
         refine wlk_ret ?_
         repeat (first | refine hr2 _ ?_ | refine hr1 _ ?_)
         simp only [go_sem]
         exact .inr ⟨4, by decide, fin, rfl⟩
       · try simp only [go_sem, h3]
         repeat (simp (disch := omega) only [if_pos, if_neg, decide_eq_true, decide_eq_false, incS, nats_get, ints_get, h3]; try simp only [go_sem, h3])
         apply hKY
         refine wc1 ?_
         refine wlk_sreg fun KY hKY => ?_
         simp only [go_sem, c_f25_r4]
         apply hKY
         refine wlk_ret ?_
         repeat (first | refine hr2 _ ?_ | refine hr1 _ ?_)
         simp only [go_sem]
         exact .inr ⟨4, by decide, fin, rfl⟩
     · refine wlk_sreg fun KY hKY => ?_
       simp only [go_sem, c_f25_r3]
       repeat (simp (disch := omega) only [if_pos, if_neg, decide_eq_true, decide_eq_false, incS, nats_get, ints_get]; try simp only [go_sem])
       refine call_view rfl (by simp only [go_sem] <;> rfl) ((is_ok _ _ _).mono ?_)
       rintro rr hh ⟨rfl, rfl⟩
       refine ⟨rfl, rfl, rfl, ?_⟩
       try simp only [go_sem, h1, h2]
       repeat (simp (disch := omega) only [if_pos, if_neg, decide_eq_true, decide_eq_false, incS, nats_get, ints_get, h1, h2]; try simp only [go_sem, h1, h2])
       apply hKY
       refine wc1 ?_
       refine wlk_sreg fun KY hKY => ?_
       simp only [go_sem, c_f25_r4]
       apply hKY
       refine wlk_ret ?_
       repeat (first | refine hr2 _ ?_ | refine hr1 _ ?_)
       simp only [go_sem]
       exact .inr ⟨4, by decide, fin, rfl⟩
   · refine wlk_sreg fun KY hKY => ?_
     simp only [go_sem, c_f25_r3]
     repeat (simp (disch := omega) only [if_pos, if_neg, decide_eq_true, decide_eq_false, incS, nats_get, ints_get]; try simp only [go_sem])
     refine call_view rfl (by simp only [go_sem] <;> rfl) ((is_ok _ _ _).mono ?_)
     rintro rr hh ⟨rfl, rfl⟩
     refine ⟨rfl, rfl, rfl, ?_⟩
     try simp only [go_sem, h1]
     repeat (simp (disch := omega) only [if_pos, if_neg, decide_eq_true, decide_eq_false, incS, nats_get, ints_get, h1]; try simp only [go_sem, h1])
     apply hKY
     refine wc1 ?_
     refine wlk_sreg fun KY hKY => ?_
     simp only [go_sem, c_f25_r4]
     apply hKY
     refine wlk_ret ?_
     repeat (first | refine hr2 _ ?_ | refine hr1 _ ?_)
     simp only [go_sem]
     exact .inr ⟨4, by decide, fin, rfl⟩
theorem umod (n : Int) (k : Nat) (h0 : 0 < k) (h1 : k ≤ 1000000000000) : ∃ m : Nat, m < k ∧ IntKind.i64.wrap ((IntKind.u64.wrap n).tmod (IntKind.u64.wrap (k : Int))) = (m : Int) := by
 have hk : IntKind.u64.wrap (k : Int) = (k : Int) := by rw [IntKind.wrap_u64]; omega
 rw [hk]
 have hw : 0 ≤ IntKind.u64.wrap n := by
  rw [IntKind.wrap_u64]; omega
 have e : (IntKind.u64.wrap n).tmod (k : Int) = (IntKind.u64.wrap n) % (k : Int) := Int.tmod_eq_emod_of_nonneg hw
 have h2 := Int.emod_nonneg (IntKind.u64.wrap n) (show (k : Int) ≠ 0 by omega)
 have h3 := Int.emod_lt_of_pos (IntKind.u64.wrap n) (show (0 : Int) < k by omega)
 refine ⟨((IntKind.u64.wrap n) % (k : Int)).toNat, by omega, ?_⟩
 rw [e, IntWalk.i64_in _ (by omega)]
 omega
theorem u64NN {k : Nat} (h : k < 1000000000000) (h0 : 0 < k) : ¬ IntKind.u64.wrap (k : Int) = 0 := by rw [IntKind.wrap_u64]; omega
theorem small_ok (n : Int) (ends : List Int) (V M : Nat) (hV : V ≤ 4000) (hM : M ≤ 10000) (he : ends.length ≤ 1000000000000) : ACalls Try.prog [] n_f8 [.sc (.int .i64 n), .imm 1 (ints ends), .sc (.int .i64 (V : Int)), .sc (.int .i64 (M : Int))] [] fun r h' => (∃ N es, GR N es ∧ N ≤ V ∧ es.length ≤ M ∧ r = .agg [.sc (.int .i64 (N : Int)), .imm 2 (twos (castE es))]) ∧ h' = [] := by
 obtain ⟨N, hN, hn⟩ := umod n (V + 1) (by omega) (by omega)
 refine go_f8 rfl ?_
 unfold c_f8 v_f8
 refine wlk_sreg fun KY hKY => ?_
 simp only [go_sem, c_f8_r0]
 apply hKY
 refine wlk_sreg fun KY hKY => ?_
 simp only [go_sem, c_f8_r1, u64NN, hn]
 repeat (simp (disch := omega) only [if_pos, if_neg, decide_eq_true, decide_eq_false, incS, nats_get, ints_get, u64NN, hn]; try simp only [go_sem, u64NN, hn])
 apply hKY
 refine wlk_sreg fun KY hKY => ?_
 simp only [go_sem, c_f8_r2]
 apply hKY
 refine wlk_seq fun X1 hn1 he1 hr1 => ?_
 refine wlk_sreg fun KY hKY => ?_
 simp only [go_sem, c_f8_r3]
 apply hKY
 simp only [go_sem]
 refine sem_nil [0, 9, 1] 2 (by simp only [go_sem]) ?_
 simp only [go_sem]
 refine sem_freeze [0, 9, 1] (by simp only [go_sem]; rfl) ?_
 simp only [go_sem]
 refine wlk_blk fun X2 hn2 he2 hf2 hr2 => ?_
 try simp only [go_sem]
 refine wlk_lp (α := Nat × Es) [11, 12, 41, 69] (fun (i, es) => [(10, .sc (.int .i64 (i : Int))), (9, .own none [.sc (.int .i64 (N : Int)), .imm 2 (twos (castE es))])]) (fun (i, es) => []) (fun (i, es) q => i ≤ 401 ∧ q = 402 - i ∧ GR N es ∧ es.length ≤ M) ((0, [])) (402) rfl (by first | (simp only [go_sem, updAll_cons, updAll_nil]; done) | with_reducible rfl | rfl) (⟨by omega, rfl, ⟨by omega, by simp, by simp, .nil⟩, Nat.zero_le _⟩) ?_
 rintro ⟨i, es⟩ q ⟨hi, rfl, g, hm⟩ X3 hn3 he3 hr3
 simp only [go_sem, updAll_cons, updAll_nil]
 refine wlk_seq fun X4 hn4 he4 hr4 => ?_
 by_cases h1 : i + 1 < ends.length
 · by_cases h2 : es.length < M
   · by_cases h3 : 0 < N
     · by_cases h4 : i < 400
       · refine wlk_sreg fun KY hKY => ?_
         simp only [go_sem, c_f8_r4, castE_len]
         repeat (simp (disch := omega) only [if_pos, if_neg, decide_eq_true, decide_eq_false, incS, nats_get, ints_get, castE_len]; try simp only [go_sem, castE_len])
         apply hKY
         refine wc1 ?_
         refine wlk_skip ?_
         repeat (first | refine hn4 _ ?_ | refine he4 _ _ ?_ | refine he3 _ _ ?_ | refine hn2 _ ?_ | refine he2 _ ?_ | refine hf2 _ _ (by decide) ?_ | refine hn1 _ ?_ | refine he1 _ _ ?_)
         refine wlk_seq fun X5 hn5 he5 hr5 => ?_
         refine wlk_blk fun X6 hn6 he6 hf6 hr6 => ?_
         have hx : ends[i]? = some (ends[i]'(by omega)) := List.getElem?_eq_getElem _
         have hx2 : ends[i+1]? = some (ends[i+1]'(by omega)) := List.getElem?_eq_getElem _
         have hN0 : ¬ IntKind.u64.wrap (N : Int) = 0 := u64NN (by omega) h3
         obtain ⟨a, ha, hna⟩ := umod (ends.getD i 0) N h3 (by omega)
         obtain ⟨b, hb, hnb⟩ := umod (ends.getD (i + 1) 0) N h3 (by omega)
         have h1' : i < ends.length := by omega
         have hw : IntKind.i64.wrap ((i : Int) + 2) = ((i + 2 : Nat) : Int) := by rw [IntWalk.i64_in _ (by omega)]; omega
         refine wlk_sdraw fun KY hKY => ?_
         simp only [go_sem, c_f8_r5, hN0, hna, hnb, ints_get h1, ints_get h1', h1, h1', incS (show i < 4611686018427387904 by omega)]
         refine ⟨?_, ?_⟩
         · apply call_gen [] [] false none rfl
           iterate 8 (first | (simp only [go_sem, watchIn] <;> rfl) | rfl)
           refine (radd_ok g (a : Int) (b : Int)).mono ?_
           rintro _ _ ⟨⟨x, y, ha, rfl⟩ | ⟨e, he, ha, rfl⟩, rfl⟩
           · refine ⟨Nat.le_of_ble_eq_true rfl, (fun hh => by cases hh), ?_⟩
             simp only [go_sem, callOut, AState.after]
             apply hKY
             refine wlk_sreg fun KY hKY => ?_
             simp only [go_sem, c_f8_r6]
             apply hKY
             simp only [go_sem]
             refine wc1 ?_
             refine wlk_reg fun KY hKY => ?_
             simp only [go_sem, c_f8_r7]
             apply hKY
             repeat (first | refine hn6 _ ?_ | refine he6 _ ?_ | refine hf6 _ _ (by decide) ?_ | refine hn5 _ ?_ | refine he5 _ _ ?_ | refine hn4 _ ?_ | refine he4 _ _ ?_ | refine he3 _ _ ?_ | refine hn2 _ ?_ | refine he2 _ ?_ | refine hf2 _ _ (by decide) ?_ | refine hn1 _ ?_ | refine he1 _ _ ?_)
             refine wlk_reg fun KY hKY => ?_
             simp only [go_sem, c_f8_r8, hw]
             apply hKY
             repeat (first | refine hn6 _ ?_ | refine he6 _ ?_ | refine hf6 _ _ (by decide) ?_ | refine hn5 _ ?_ | refine he5 _ _ ?_ | refine hn4 _ ?_ | refine he4 _ _ ?_)
             refine hn3 _ ((i + 2, putE es (x, y))) (402 - (i + 2)) (by omega) (by first | (simp only [go_sem, updAll_cons, updAll_nil]; done) | with_reducible rfl | rfl) ?_
             exact ⟨by omega, rfl, g.put ha.2.1 ha.2.2.1 ha.2.2.2.1 ha.2.2.2.2, by rw [putE_len]; omega⟩
           · refine ⟨Nat.le_of_ble_eq_true rfl, (fun hh => by cases hh), ?_⟩
             simp only [go_sem, callOut, AState.after]
             apply hKY
             refine wlk_sreg fun KY hKY => ?_
             simp only [go_sem, c_f8_r6]
             apply hKY
             simp only [go_sem]
             refine wlk_cond0 (by first | rfl | (simp only [go_sem, he]; try simp (disch := omega) only [decide_eq_true, decide_eq_false])) ?_
             refine wlk_skip ?_
             repeat (first | refine hn6 _ ?_ | refine he6 _ ?_ | refine hf6 _ _ (by decide) ?_ | refine hn5 _ ?_ | refine he5 _ _ ?_ | refine hn4 _ ?_ | refine he4 _ _ ?_ | refine he3 _ _ ?_ | refine hn2 _ ?_ | refine he2 _ ?_ | refine hf2 _ _ (by decide) ?_ | refine hn1 _ ?_ | refine he1 _ _ ?_)
             refine wlk_reg fun KY hKY => ?_
             simp only [go_sem, c_f8_r8, hw]
             apply hKY
             repeat (first | refine hn6 _ ?_ | refine he6 _ ?_ | refine hf6 _ _ (by decide) ?_ | refine hn5 _ ?_ | refine he5 _ _ ?_ | refine hn4 _ ?_ | refine he4 _ _ ?_)
             refine hn3 _ ((i + 2, es)) (402 - (i + 2)) (by omega) (by first | (simp only [go_sem, updAll_cons, updAll_nil]; done) | with_reducible rfl | rfl) ?_
             exact ⟨by omega, rfl, g, hm⟩
         · apply call_gen [] [] false none rfl
           iterate 8 (first | (simp only [go_sem, watchIn] <;> rfl) | rfl)
           refine (radd_ok g (a : Int) (b : Int)).mono ?_
           rintro _ _ ⟨⟨x, y, ha, rfl⟩ | ⟨e, he, ha, rfl⟩, rfl⟩
           · refine ⟨Nat.le_of_ble_eq_true rfl, (fun hh => by cases hh), ?_⟩
             simp only [go_sem, callOut, AState.after]
             apply hKY
             refine wlk_sreg fun KY hKY => ?_
             simp only [go_sem, c_f8_r6]
             apply hKY
             simp only [go_sem]
             refine wc1 ?_
             refine wlk_reg fun KY hKY => ?_
             simp only [go_sem, c_f8_r7]
             apply hKY
             repeat (first | refine hn6 _ ?_ | refine he6 _ ?_ | refine hf6 _ _ (by decide) ?_ | refine hn5 _ ?_ | refine he5 _ _ ?_ | refine hn4 _ ?_ | refine he4 _ _ ?_ | refine he3 _ _ ?_ | refine hn2 _ ?_ | refine he2 _ ?_ | refine hf2 _ _ (by decide) ?_ | refine hn1 _ ?_ | refine he1 _ _ ?_)
             refine wlk_reg fun KY hKY => ?_
             simp only [go_sem, c_f8_r8, hw]
             apply hKY
             repeat (first | refine hn6 _ ?_ | refine he6 _ ?_ | refine hf6 _ _ (by decide) ?_ | refine hn5 _ ?_ | refine he5 _ _ ?_ | refine hn4 _ ?_ | refine he4 _ _ ?_)
             refine hn3 _ ((i + 2, putE es (x, y))) (402 - (i + 2)) (by omega) (by first | (simp only [go_sem, updAll_cons, updAll_nil]; done) | with_reducible rfl | rfl) ?_
             exact ⟨by omega, rfl, g.put ha.2.1 ha.2.2.1 ha.2.2.2.1 ha.2.2.2.2, by rw [putE_len]; omega⟩
           · refine ⟨Nat.le_of_ble_eq_true rfl, (fun hh => by cases hh), ?_⟩
             simp only [go_sem, callOut, AState.after]
             apply hKY
             refine wlk_sreg fun KY hKY => ?_
             simp only [go_sem, c_f8_r6]
             apply hKY
             simp only [go_sem]
             refine wlk_cond0 (by first | rfl | (simp only [go_sem, he]; try simp (disch := omega) only [decide_eq_true, decide_eq_false])) ?_
             refine wlk_skip ?_
             repeat (first | refine hn6 _ ?_ | refine he6 _ ?_ | refine hf6 _ _ (by decide) ?_ | refine hn5 _ ?_ | refine he5 _ _ ?_ | refine hn4 _ ?_ | refine he4 _ _ ?_ | refine he3 _ _ ?_ | refine hn2 _ ?_ | refine he2 _ ?_ | refine hf2 _ _ (by decide) ?_ | refine hn1 _ ?_ | refine he1 _ _ ?_)
             refine wlk_reg fun KY hKY => ?_
             simp only [go_sem, c_f8_r8, hw]
             apply hKY
             repeat (first | refine hn6 _ ?_ | refine he6 _ ?_ | refine hf6 _ _ (by decide) ?_ | refine hn5 _ ?_ | refine he5 _ _ ?_ | refine hn4 _ ?_ | refine he4 _ _ ?_)
             refine hn3 _ ((i + 2, es)) (402 - (i + 2)) (by omega) (by first | (simp only [go_sem, updAll_cons, updAll_nil]; done) | with_reducible rfl | rfl) ?_
             exact ⟨by omega, rfl, g, hm⟩
       · refine wlk_sreg fun KY hKY => ?_
         simp only [go_sem, c_f8_r4, castE_len]
         repeat (simp (disch := omega) only [if_pos, if_neg, decide_eq_true, decide_eq_false, incS, nats_get, ints_get, castE_len]; try simp only [go_sem, castE_len])
         apply hKY
         refine wc0 ?_
         refine wlk_exit ?_
         repeat (first | refine hn4 _ ?_ | refine he4 _ _ ?_ | refine he3 _ _ ?_ | refine hn2 _ ?_ | refine he2 _ ?_ | refine hf2 _ _ (by decide) ?_ | refine hn1 _ ?_ | refine he1 _ _ ?_)
         refine wlk_sreg fun KY hKY => ?_
         simp only [go_sem, c_f8_r9]
         apply hKY
         refine wlk_ret ?_
         repeat (first | refine hr4 _ ?_ | refine hr3 _ ?_ | refine hr2 _ ?_ | refine hr1 _ ?_)
         simp only [go_sem]
         exact ⟨N, es, g, by omega, hm, rfl⟩
     · refine wlk_sreg fun KY hKY => ?_
       simp only [go_sem, c_f8_r4, castE_len]
       repeat (simp (disch := omega) only [if_pos, if_neg, decide_eq_true, decide_eq_false, incS, nats_get, ints_get, castE_len]; try simp only [go_sem, castE_len])
       apply hKY
       refine wc0 ?_
       refine wlk_exit ?_
       repeat (first | refine hn4 _ ?_ | refine he4 _ _ ?_ | refine he3 _ _ ?_ | refine hn2 _ ?_ | refine he2 _ ?_ | refine hf2 _ _ (by decide) ?_ | refine hn1 _ ?_ | refine he1 _ _ ?_)
       refine wlk_sreg fun KY hKY => ?_
       simp only [go_sem, c_f8_r9]
       apply hKY
       refine wlk_ret ?_
       repeat (first | refine hr4 _ ?_ | refine hr3 _ ?_ | refine hr2 _ ?_ | refine hr1 _ ?_)
       simp only [go_sem]
       exact ⟨N, es, g, by omega, hm, rfl⟩
   · refine wlk_sreg fun KY hKY => ?_
     simp only [go_sem, c_f8_r4, castE_len]
     repeat (simp (disch := omega) only [if_pos, if_neg, decide_eq_true, decide_eq_false, incS, nats_get, ints_get, castE_len]; try simp only [go_sem, castE_len])
     apply hKY
     refine wc0 ?_
     refine wlk_exit ?_
     repeat (first | refine hn4 _ ?_ | refine he4 _ _ ?_ | refine he3 _ _ ?_ | refine hn2 _ ?_ | refine he2 _ ?_ | refine hf2 _ _ (by decide) ?_ | refine hn1 _ ?_ | refine he1 _ _ ?_)
     refine wlk_sreg fun KY hKY => ?_
     simp only [go_sem, c_f8_r9]
     apply hKY
     refine wlk_ret ?_
     repeat (first | refine hr4 _ ?_ | refine hr3 _ ?_ | refine hr2 _ ?_ | refine hr1 _ ?_)
     simp only [go_sem]
     exact ⟨N, es, g, by omega, hm, rfl⟩
 · refine wlk_sreg fun KY hKY => ?_
   simp only [go_sem, c_f8_r4, castE_len]
   repeat (simp (disch := omega) only [if_pos, if_neg, decide_eq_true, decide_eq_false, incS, nats_get, ints_get, castE_len]; try simp only [go_sem, castE_len])
   apply hKY
   refine wc0 ?_
   refine wlk_exit ?_
   repeat (first | refine hn4 _ ?_ | refine he4 _ _ ?_ | refine he3 _ _ ?_ | refine hn2 _ ?_ | refine he2 _ ?_ | refine hf2 _ _ (by decide) ?_ | refine hn1 _ ?_ | refine he1 _ _ ?_)
   refine wlk_sreg fun KY hKY => ?_
   simp only [go_sem, c_f8_r9]
   apply hKY
   refine wlk_ret ?_
   repeat (first | refine hr4 _ ?_ | refine hr3 _ ?_ | refine hr2 _ ?_ | refine hr1 _ ?_)
   simp only [go_sem]
   exact ⟨N, es, g, by omega, hm, rfl⟩
end Go.Proofs.Ytmcfdfafeheihaa

namespace Go.Proofs
open Go.Shelf
def Try.lays189_ren : Go.Shelf.Ren := ⟨fun | 189 => 72 | 125 => 82 | 257 => 81 | 128 => 96 | 129 => 97 | 294 => 87 | 295 => 88 | 296 => 89 | 297 => 90 | 298 => 91 | 299 => 92 | 216 => 93 | 300 => 94 | 301 => 95 | 328 => 98 | 329 => 99 | 330 => 100 | 331 => 101 | 332 => 102 | 215 => 70 | 343 => 103 | n => n, fun | 28 => 22 | 3 => 3 | 46 => 38 | 0 => 0 | 51 => 121 | 53 => 23 | 4 => 4 | 183 => 129 | 182 => 128 | 131 => 106 | 5 => 5 | 9 => 9 | 218 => 137 | 222 => 141 | 228 => 143 | 229 => 144 | n => n, fun | n => n⟩
theorem Try.lays189 : Go.Proofs.Lays.n189 Try.prog Try.lays189_ren := {
 mixed := by kernel_rfl
 f125 := Try.func82.trans (congrArg some (by kernel_rfl))
 f128 := Try.func96.trans (congrArg some (by kernel_rfl))
 f129 := Try.func97.trans (congrArg some (by kernel_rfl))
 f189 := Try.func72.trans (congrArg some (by kernel_rfl))
 f215 := Try.func70.trans (congrArg some (by kernel_rfl))
 f216 := Try.func93.trans (congrArg some (by kernel_rfl))
 f257 := Try.func81.trans (congrArg some (by kernel_rfl))
 f294 := Try.func87.trans (congrArg some (by kernel_rfl))
 f295 := Try.func88.trans (congrArg some (by kernel_rfl))
 f296 := Try.func89.trans (congrArg some (by kernel_rfl))
 f297 := Try.func90.trans (congrArg some (by kernel_rfl))
 f298 := Try.func91.trans (congrArg some (by kernel_rfl))
 f299 := Try.func92.trans (congrArg some (by kernel_rfl))
 f300 := Try.func94.trans (congrArg some (by kernel_rfl))
 f301 := Try.func95.trans (congrArg some (by kernel_rfl))
 f328 := Try.func98.trans (congrArg some (by kernel_rfl))
 f329 := Try.func99.trans (congrArg some (by kernel_rfl))
 f330 := Try.func100.trans (congrArg some (by kernel_rfl))
 f331 := Try.func101.trans (congrArg some (by kernel_rfl))
 f332 := Try.func102.trans (congrArg some (by kernel_rfl))
 f343 := Try.func103.trans (congrArg some (by kernel_rfl))
 t0 := Try.underlying0
 a0 := Try.isAgg0
 z0 := Try.sizeOf0
 v0 := Try.zeroValue0
 t3 := Try.underlying3
 a3 := Try.isAgg3
 z3 := Try.sizeOf3
 v3 := Try.zeroValue3
 t4 := Try.underlying4
 a4 := Try.isAgg4
 z4 := Try.sizeOf4
 v4 := Try.zeroValue4
 t5 := Try.underlying5
 a5 := Try.isAgg5
 z5 := Try.sizeOf5
 v5 := Try.zeroValue5
 t9 := Try.underlying9
 a9 := Try.isAgg9
 z9 := Try.sizeOf9
 v9 := Try.zeroValue9
 t28 := Try.underlying22
 a28 := Try.isAgg22
 z28 := Try.sizeOf22
 v28 := Try.zeroValue22
 t46 := Try.underlying38
 a46 := Try.isAgg38
 z46 := Try.sizeOf38
 v46 := Try.zeroValue38
 t51 := Try.underlying121
 a51 := Try.isAgg121
 z51 := Try.sizeOf121
 v51 := Try.zeroValue121
 t53 := Try.underlying23
 a53 := Try.isAgg23
 z53 := Try.sizeOf23
 v53 := Try.zeroValue23
 t131 := Try.underlying106
 a131 := Try.isAgg106
 z131 := Try.sizeOf106
 v131 := Try.zeroValue106
 t182 := Try.underlying128
 a182 := Try.isAgg128
 z182 := Try.sizeOf128
 v182 := Try.zeroValue128
 t183 := Try.underlying129
 a183 := Try.isAgg129
 z183 := Try.sizeOf129
 v183 := Try.zeroValue129
 t218 := Try.underlying137
 a218 := Try.isAgg137
 z218 := Try.sizeOf137
 v218 := Try.zeroValue137
 t222 := Try.underlying141
 a222 := Try.isAgg141
 z222 := Try.sizeOf141
 v222 := Try.zeroValue141
 t228 := Try.underlying143
 a228 := Try.isAgg143
 z228 := Try.sizeOf143
 v228 := Try.zeroValue143
 t229 := Try.underlying144
 a229 := Try.isAgg144
 z229 := Try.sizeOf144
 v229 := Try.zeroValue144 }
open Go.Sort Go.RowKit in
theorem Try.slices_Sort_int (blk off cap : Nat) (zs : List Int) (w : World) (hH : Holds (Value.int .i64) w blk off zs.toArray) (hblk : blk < w.heap.size) (hsz : zs.length < 4611686018427387904) :
 Calls Try.prog 72 #[.slice (some ⟨blk, off, none⟩) zs.length cap] w fun e w' =>
  e = .returned (.tuple #[]) ∧ ∃ n os, w' = grow (putRow (Value.int .i64) (Sort.ahead w n) blk off (zs.mergeSort fun x y => decide (x ≤ y)).toArray) os := Any.slices_Sort_int Try.lays189 blk off cap zs w hH hblk hsz
end Go.Proofs
namespace Go.Proofs.Ytmcfdfafeheihaa
open Go Go.Ga Go.Ga.Gl
theorem map_set_range {n b : Nat} {f g : Nat → List Nat} {y : List Nat} (h1 : g b = y) (h2 : ∀ v, v ≠ b → g v = f v) : ((List.range n).map f).set b y = (List.range n).map g := by
 apply List.ext_getElem (by simp)
 intro i h3 h4
 rw [List.getElem_set]
 split
 · rename_i h; subst h; simp [h1]
 · rename_i h; simp [h2 i (Ne.symm h)]
theorem low_step {es : Es} {k a b : Nat} (h : es[k]? = some (a, b)) (v : Nat) : lowOf (es.take (k + 1)) v = if v = b then lowOf (es.take k) v ++ [a] else lowOf (es.take k) v := by
 rw [List.take_add_one, h]
 simp only [lowOf, Option.toList_some, List.filter_append, List.map_append]
 by_cases hv : v = b
 · simp [hv]
 · simp [hv, Ne.symm hv]
theorem high_step {es : Es} {k a b : Nat} (h : es[k]? = some (a, b)) (v : Nat) : highOf (es.take (k + 1)) v = if v = a then highOf (es.take k) v ++ [b] else highOf (es.take k) v := by
 rw [List.take_add_one, h]
 simp only [highOf, Option.toList_some, List.filter_append, List.map_append]
 by_cases hv : v = a
 · simp [hv]
 · simp [hv, Ne.symm hv]
theorem low_len (es : Es) (v : Nat) : (lowOf es v).length ≤ es.length := by simp [lowOf]; exact List.length_filter_le _ _
theorem high_len (es : Es) (v : Nat) : (highOf es v).length ≤ es.length := by simp [highOf]; exact List.length_filter_le _ _
theorem lists_ok {n : Nat} {es : Es} (g : GR n es) : ACalls Try.prog [] n_f29 [.sc (.int .i64 (n : Int)), .imm 2 (twos (castE es))] [] fun r h' => r = .own (some 1) (rowsO (near n es)) ∧ h' = [] := by
 have hn := g.hn
 have hm := g.hm
 have hb1 : n * 24 ≤ 140737488355328 := by omega
 refine go_f29 rfl ?_
 unfold c_f29 v_f29
 refine wlk_sreg fun KY hKY => ?_
 simp only [go_sem, c_f29_r0]
 apply hKY
 refine wlk_sreg fun KY hKY => ?_
 simp only [go_sem, c_f29_r1, hb1]
 repeat (simp (disch := omega) only [if_pos, if_neg, decide_eq_true, decide_eq_false, incS, nats_get, ints_get, hb1]; try simp only [go_sem, hb1])
 apply hKY
 simp only [go_sem]
 have hs0 := sees_rows n
 have e0 : List.replicate n [] = (List.range n).map (lowOf []) := by
  apply List.ext_getElem (by simp)
  intro i h1 h2
  simp [lowOf]
 rw [e0] at hs0
 refine sem_sees [0, 5] _ (by simp only [go_sem]) rfl hs0 ?_
 simp only [go_sem]
 refine wlk_seq fun X1 hn1 he1 hr1 => ?_
 refine wlk_sreg fun KY hKY => ?_
 simp only [go_sem, c_f29_r2, castE_len]
 apply hKY
 refine wlk_blk fun X2 hn2 he2 hf2 hr2 => ?_
 try simp only [go_sem]
 refine wlk_lp (α := Nat) [7, 15] (fun k => [(5, .own (some 1) (rowsO ((List.range n).map (lowOf (es.take k))))), (14, .sc (.int .i64 (k : Int)))]) (fun k => []) (fun k q => k ≤ es.length ∧ q = es.length - k) (0) (es.length) rfl (by first | (simp only [go_sem, updAll_cons, updAll_nil]; done) | with_reducible rfl | rfl) (⟨by omega, rfl⟩) ?_
 rintro k q ⟨hk, rfl⟩ X3 hn3 he3 hr3
 simp only [go_sem, updAll_cons, updAll_nil]
 refine wlk_sreg fun KY hKY => ?_
 simp only [go_sem, c_f29_r3]
 apply hKY
 refine wlk_seq fun X4 hn4 he4 hr4 => ?_
 by_cases hk2 : k < es.length
 · refine wc1 ?_
   refine wlk_skip ?_
   repeat (first | refine hn4 _ ?_ | refine he4 _ _ ?_ | refine he3 _ _ ?_ | refine hn2 _ ?_ | refine he2 _ ?_ | refine hf2 _ _ (by decide) ?_ | refine hn1 _ ?_ | refine he1 _ _ ?_)
   refine wlk_seq fun X5 hn5 he5 hr5 => ?_
   refine wlk_blk fun X6 hn6 he6 hf6 hr6 => ?_
   have hx : es[k]? = some es[k] := List.getElem?_eq_getElem hk2
   have hy := g.ok es[k] (List.getElem_mem hk2)
   generalize es[k] = x at hx hy
   obtain ⟨a, b⟩ := x
   simp only at hy
   have hx' := castE_get hx
   refine wlk_sreg fun KY hKY => ?_
   simp only [go_sem, c_f29_r4, two_cells hx', List.length_drop, castE_len]
   repeat (simp (disch := omega) only [if_pos, if_neg, decide_eq_true, decide_eq_false, incS, nats_get, ints_get, two_cells hx', List.length_drop, castE_len]; try simp only [go_sem, two_cells hx', List.length_drop, castE_len])
   apply hKY
   have hbn : b < n := hy.2
   have hg : ((List.range n).map (lowOf (es.take k)))[b]? = some (lowOf (es.take k) b) := by simp [hbn]
   have hl1 : (lowOf (es.take k) b).length ≤ es.length := Nat.le_trans (low_len _ _) (by simp; omega)
   have hl2 : ((lowOf (es.take k) b).length + 1) * 8 ≤ 140737488355328 := by omega
   have hset : ((List.range n).map (lowOf (es.take k))).set b (lowOf (es.take k) b ++ [a]) = (List.range n).map (lowOf (es.take (k + 1))) :=
    map_set_range (by rw [low_step hx, if_pos rfl]) (fun v hv => by rw [low_step hx, if_neg hv])
   have hbl : b < ((List.range n).map (lowOf (es.take k))).length := by simpa using hbn
   refine wlk_draw fun KY hKY => ?_
   simp only [go_sem, c_f29_r5, rowsO_get hg, hbn, hl2, nats_snoc, hset, List.length_range]
   apply hKY
   repeat (first | refine hn6 _ ?_ | refine he6 _ ?_ | refine hf6 _ _ (by decide) ?_ | refine hn5 _ ?_ | refine he5 _ _ ?_ | refine hn4 _ ?_ | refine he4 _ _ ?_ | refine he3 _ _ ?_ | refine hn2 _ ?_ | refine he2 _ ?_ | refine hf2 _ _ (by decide) ?_ | refine hn1 _ ?_ | refine he1 _ _ ?_)
   refine wlk_reg fun KY hKY => ?_
   simp only [go_sem, c_f29_r6, incS (show k < 4611686018427387904 by omega)]
   apply hKY
   repeat (first | refine hn6 _ ?_ | refine he6 _ ?_ | refine hf6 _ _ (by decide) ?_ | refine hn5 _ ?_ | refine he5 _ _ ?_ | refine hn4 _ ?_ | refine he4 _ _ ?_)
   refine hn3 _ (k + 1) (es.length - (k + 1)) (by omega) (by first | (simp only [go_sem, updAll_cons, updAll_nil]; done) | with_reducible rfl | rfl) ?_
   exact ⟨hk2, rfl⟩
 · refine wc0 ?_
   refine wlk_exit ?_
   repeat (first | refine hn4 _ ?_ | refine he4 _ _ ?_ | refine he3 _ _ ?_ | refine hn2 _ ?_ | refine he2 _ ?_ | refine hf2 _ _ (by decide) ?_ | refine hn1 _ ?_ | refine he1 _ _ ?_)
   obtain rfl : k = es.length := by omega
   rw [List.take_length, show (List.range n).map (lowOf es) = (List.range n).map fun v => lowOf es v ++ highOf [] v by simp [highOf]]
   refine wlk_seq fun X7 hn7 he7 hr7 => ?_
   refine wlk_sreg fun KY hKY => ?_
   simp only [go_sem, c_f29_r7, castE_len]
   apply hKY
   refine wlk_blk fun X8 hn8 he8 hf8 hr8 => ?_
   try simp only [go_sem]
   refine wlk_lp (α := Nat) [9, 15, 35] (fun k => [(5, .own (some 1) (rowsO ((List.range n).map fun v => lowOf es v ++ highOf (es.take k) v))), (34, .sc (.int .i64 (k : Int)))]) (fun k => []) (fun k q => k ≤ es.length ∧ q = es.length - k) (0) (es.length) rfl (by first | (simp only [go_sem, updAll_cons, updAll_nil]; done) | with_reducible rfl | rfl) (⟨by omega, rfl⟩) ?_
   rintro k q ⟨hk, rfl⟩ X9 hn9 he9 hr9
   simp only [go_sem, updAll_cons, updAll_nil]
   refine wlk_sreg fun KY hKY => ?_
   simp only [go_sem, c_f29_r8]
   apply hKY
   refine wlk_seq fun X10 hn10 he10 hr10 => ?_
   by_cases hk2 : k < es.length
   · refine wc1 ?_
     refine wlk_skip ?_
     repeat (first | refine hn10 _ ?_ | refine he10 _ _ ?_ | refine he9 _ _ ?_ | refine hn8 _ ?_ | refine he8 _ ?_ | refine hf8 _ _ (by decide) ?_ | refine hn7 _ ?_ | refine he7 _ _ ?_ | refine hn4 _ ?_ | refine he4 _ _ ?_)
     refine wlk_seq fun X11 hn11 he11 hr11 => ?_
     refine wlk_blk fun X12 hn12 he12 hf12 hr12 => ?_
     have hx : es[k]? = some es[k] := List.getElem?_eq_getElem hk2
     have hy := g.ok es[k] (List.getElem_mem hk2)
     generalize es[k] = x at hx hy
     obtain ⟨a, b⟩ := x
     simp only at hy
     have hx' := castE_get hx
     refine wlk_sreg fun KY hKY => ?_
     simp only [go_sem, c_f29_r9, two_cells hx', List.length_drop, castE_len]
     repeat (simp (disch := omega) only [if_pos, if_neg, decide_eq_true, decide_eq_false, incS, nats_get, ints_get, two_cells hx', List.length_drop, castE_len]; try simp only [go_sem, two_cells hx', List.length_drop, castE_len])
     apply hKY
     have han : a < n := by omega
     have hg : ((List.range n).map fun v => lowOf es v ++ highOf (es.take k) v)[a]? = some (lowOf es a ++ highOf (es.take k) a) := by simp [han]
     have hl1 : (lowOf es a ++ highOf (es.take k) a).length ≤ 2 * es.length := by
      rw [List.length_append]
      have h1 := low_len es a
      have h2 : (highOf (es.take k) a).length ≤ es.length := Nat.le_trans (high_len _ _) (by simp; omega)
      omega
     have hl2 : ((lowOf es a ++ highOf (es.take k) a).length + 1) * 8 ≤ 140737488355328 := by omega
     have hset : ((List.range n).map fun v => lowOf es v ++ highOf (es.take k) v).set a (lowOf es a ++ highOf (es.take k) a ++ [b]) = (List.range n).map fun v => lowOf es v ++ highOf (es.take (k + 1)) v :=
      map_set_range (by rw [high_step hx, if_pos rfl, List.append_assoc]) (fun v hv => by rw [high_step hx, if_neg hv])
     refine wlk_draw fun KY hKY => ?_
     simp only [go_sem, c_f29_r10, rowsO_get hg, han, hl2, nats_snoc, hset]
     apply hKY
     repeat (first | refine hn12 _ ?_ | refine he12 _ ?_ | refine hf12 _ _ (by decide) ?_ | refine hn11 _ ?_ | refine he11 _ _ ?_ | refine hn10 _ ?_ | refine he10 _ _ ?_ | refine he9 _ _ ?_ | refine hn8 _ ?_ | refine he8 _ ?_ | refine hf8 _ _ (by decide) ?_ | refine hn7 _ ?_ | refine he7 _ _ ?_ | refine hn4 _ ?_ | refine he4 _ _ ?_)
     refine wlk_reg fun KY hKY => ?_
     simp only [go_sem, c_f29_r11, incS (show k < 4611686018427387904 by omega)]
     apply hKY
     repeat (first | refine hn12 _ ?_ | refine he12 _ ?_ | refine hf12 _ _ (by decide) ?_ | refine hn11 _ ?_ | refine he11 _ _ ?_ | refine hn10 _ ?_ | refine he10 _ _ ?_)
     refine hn9 _ (k + 1) (es.length - (k + 1)) (by omega) (by first | (simp only [go_sem, updAll_cons, updAll_nil]; done) | with_reducible rfl | rfl) ?_
     exact ⟨hk2, rfl⟩
   · refine wc0 ?_
     refine wlk_exit ?_
     repeat (first | refine hn10 _ ?_ | refine he10 _ _ ?_ | refine he9 _ _ ?_ | refine hn8 _ ?_ | refine he8 _ ?_ | refine hf8 _ _ (by decide) ?_ | refine hn7 _ ?_ | refine he7 _ _ ?_ | refine hn4 _ ?_ | refine he4 _ _ ?_ | refine he3 _ _ ?_ | refine hn2 _ ?_ | refine he2 _ ?_ | refine hf2 _ _ (by decide) ?_ | refine hn1 _ ?_ | refine he1 _ _ ?_)
     obtain rfl : k = es.length := by omega
     rw [List.take_length]
     refine wlk_sreg fun KY hKY => ?_
     simp only [go_sem, c_f29_r12]
     apply hKY
     refine wlk_ret ?_
     repeat (first | refine hr10 _ ?_ | refine hr9 _ ?_ | refine hr8 _ ?_ | refine hr7 _ ?_ | refine hr4 _ ?_ | refine hr3 _ ?_ | refine hr2 _ ?_ | refine hr1 _ ?_)
     simp only [go_sem]
     rfl
def pObj (nr : List (List Nat)) (s : DS) : List AVal := [.imm 1 (rowsI nr), .own (some 1) (bools s.1), .own (some 1) (nats s.2.1), .own (some 1) (nats s.2.2)]
theorem come_ok (nr : List (List Nat)) (s : DS) (v : Nat) (hv : v < s.1.length) (h1 : s.2.1.length ≤ 100000) (h2 : s.2.2.length ≤ 100000) :
    ACalls Try.prog [] n_f71 [.ptr 0 0, .sc (.int .i64 (v : Int))] [some (pObj nr s)] fun r h' => r = .tup [] ∧ h' = [some (pObj nr (come s v))] := by
  obtain ⟨d, nw, r⟩ := s
  simp only at hv h1 h2
  have hb := bools_get hv
  have b1 : (nw.length + 1) * 8 ≤ 140737488355328 := by omega
  have b2 : (r.length + 1) * 8 ≤ 140737488355328 := by omega
  unfold pObj come
  refine go_f71 rfl ?_
  unfold c_f71 v_f71
  simp only
  refine wlk_sreg fun KY hKY => ?_
  simp only [go_sem, c_f71_r0, hb, hv]
  apply hKY
  cases hd : d.getD v false with
  | true =>
    refine wlk_cond0 (by first | rfl | (simp only [go_sem, hd]; try simp (disch := omega) only [decide_eq_true, decide_eq_false])) ?_
    refine wlk_skip ?_
    simp only [go_sem]
  | false =>
    refine wlk_cond1 (by first | rfl | (simp only [go_sem, hd]; try simp (disch := omega) only [decide_eq_true, decide_eq_false])) ?_
    refine wlk_sreg fun KY hKY => ?_
    simp only [go_sem, c_f71_r1, hv]
    apply hKY
    refine wlk_sreg fun KY hKY => ?_
    simp only [go_sem, c_f71_r2, nats_snoc, b1]
    apply hKY
    refine wlk_reg fun KY hKY => ?_
    simp only [go_sem, c_f71_r3, nats_snoc, b2]
    apply hKY
    simp only [go_sem]
end Go.Proofs.Ytmcfdfafeheihaa

namespace Go.Ga.Gl
open Go Go.Ga
theorem pairs_even (f : Nat → Nat) : ∀ (k : Nat) (l : List Nat), l.length ≤ k → l.Nodup → (∀ x ∈ l, f x ∈ l ∧ f x ≠ x ∧ f (f x) = x) → l.length % 2 = 0 := by
 intro k
 induction k with
 | zero => intro l h _ _; rw [Nat.le_zero.1 h]
 | succ k ih =>
   intro l hk hn h
   match l, hk, hn, h with
   | [], _, _, _ => rfl
   | x :: l, hk, hn, h =>
     obtain ⟨hx, hn'⟩ := List.nodup_cons.1 hn
     obtain ⟨h1, h2, h3⟩ := h x (by simp)
     have hfx : f x ∈ l := (List.mem_cons.1 h1).resolve_left h2
     have hlen := List.length_erase_of_mem hfx
     have hpos := List.length_pos_of_mem hfx
     simp only [List.length_cons] at hk
     have := ih (l.erase (f x)) (by omega) (hn'.erase _) fun y hy => by
      obtain ⟨hyx, hyl⟩ := (hn'.mem_erase_iff).1 hy
      obtain ⟨k1, k2, k3⟩ := h y (List.mem_cons_of_mem _ hyl)
      have n1 : f y ≠ x := fun e => hyx (by rw [← k3, e])
      have n2 : f y ≠ f x := fun e => by
       have : y = x := by rw [← k3, e, h3]
       exact hx (this ▸ hyl)
      exact ⟨(hn'.mem_erase_iff).2 ⟨n2, (List.mem_cons.1 k1).resolve_left n1⟩, k2, k3⟩
     simp only [List.length_cons]
     omega
theorem nodup_mapOn {f : Nat → Nat} : ∀ {l : List Nat}, l.Nodup → (∀ x ∈ l, ∀ y ∈ l, f x = f y → x = y) → (l.map f).Nodup
 | [], _, _ => by simp
 | a :: l, hn, h => by
   obtain ⟨ha, hn⟩ := List.nodup_cons.1 hn
   rw [List.map_cons]
   refine List.nodup_cons.2 ⟨fun hm => ?_, nodup_mapOn hn fun x hx y hy => h x (List.mem_cons_of_mem _ hx) y (List.mem_cons_of_mem _ hy)⟩
   obtain ⟨b, hb, e⟩ := List.mem_map.1 hm
   have := h b (List.mem_cons_of_mem _ hb) a (by simp) e
   exact ha (this ▸ hb)
def num (n : Nat) (p : Nat → Bool) : Nat := ((List.range n).filter p).length
theorem cnt_split (p : Nat → Bool) : ∀ l : List Nat, (l.filter p).length + (l.filter fun x => !p x).length = l.length
 | [] => rfl
 | a :: l => by
   have := cnt_split p l
   cases h : p a <;> simp [h] <;> omega
theorem num_split (n : Nat) (p : Nat → Bool) : num n p + num n (fun x => !p x) = n := by
 have := cnt_split p (List.range n)
 rwa [List.length_range] at this
theorem num_and (n : Nat) (p q : Nat → Bool) : num n (fun x => p x && q x) + num n (fun x => p x && !q x) = num n p := by
 have := cnt_split q ((List.range n).filter p)
 rw [List.filter_filter, List.filter_filter] at this
 unfold num
 rw [← this]
 congr 2 <;> (refine List.filter_congr fun x _ => ?_; exact Bool.and_comm _ _)
theorem num_mem {n : Nat} {p : Nat → Bool} {v : Nat} : v ∈ (List.range n).filter p ↔ v < n ∧ p v = true := by
 rw [List.mem_filter, List.mem_range]
theorem num_congr {n : Nat} {p q : Nat → Bool} (h : ∀ v, v < n → p v = q v) : num n p = num n q := by
 unfold num
 congr 1
 exact List.filter_congr fun x hx => h x (List.mem_range.1 hx)
theorem num_pos {n : Nat} {p : Nat → Bool} {v : Nat} (hv : v < n) (hp : p v = true) : 1 ≤ num n p := List.length_pos_of_mem (num_mem.2 ⟨hv, hp⟩)
def isFr (mt : Nat → Int) (v : Nat) : Bool := decide (mt v = -1)
def fre (n : Nat) (mt : Nat → Int) : Nat := num n (isFr mt)
theorem isFr_iff {mt : Nat → Int} {v : Nat} : isFr mt v = true ↔ mt v = -1 := decide_eq_true_iff
theorem fre_parity {n : Nat} {E : Nat → Nat → Prop} {mt : Nat → Int} (M : Mf n E mt) : (n - fre n mt) % 2 = 0 ∧ fre n mt ≤ n := by
 have h := num_split n (isFr mt)
 have h2 := pairs_even (fun v => (mt v).toNat) _ ((List.range n).filter fun x => !isFr mt x) (Nat.le_refl _) (List.nodup_range.filter _) fun x hx => by
  obtain ⟨h1, h3⟩ := num_mem.1 hx
  rcases M.at_ x h1 with h4 | ⟨w, h4, h5⟩
  · have := isFr_iff.2 h4
    rw [this] at h3; cases h3
  · have hs := M.sy x w h4
    have e1 : (mt x).toNat = w := by rw [h4]; rfl
    have e2 : (mt w).toNat = x := by rw [hs]; rfl
    refine ⟨?_, by rw [e1]; exact (M.ne x w h4).1, by rw [e1, e2]⟩
    rw [e1]
    refine num_mem.2 ⟨h5, ?_⟩
    unfold isFr
    rw [hs, decide_eq_false (by omega)]; rfl
 have h2' : num n (fun x => !isFr mt x) % 2 = 0 := h2
 unfold fre
 omega
structure Cert (n : Nat) (E : Nat → Nat → Prop) (mt : Nat → Int) (D A : Nat → Bool) (bs : Nat → Nat) : Prop where
 dn : ∀ v, D v = true → v < n
 an : ∀ v, A v = true → v < n ∧ D v = false
 ed : ∀ v w, D v = true → E v w → A w = true ∨ (D w = true ∧ bs w = bs v)
 db : ∀ v, D v = true → D (bs v) = true ∧ bs (bs v) = bs v
 fr : ∀ v, v < n → mt v = -1 → D v = true ∧ bs v = v
 am : ∀ a, A a = true → ∃ x : Nat, mt a = (x : Int) ∧ D x = true ∧ bs x = x
 dm : ∀ v, D v = true → bs v ≠ v → ∃ w : Nat, mt v = (w : Int) ∧ D w = true ∧ bs w = bs v
 bb : ∀ b m : Nat, D b = true → bs b = b → mt b = (m : Int) → A m = true
def isB (D : Nat → Bool) (bs : Nat → Nat) (v : Nat) : Bool := D v && decide (bs v = v)
theorem isB_iff {D : Nat → Bool} {bs : Nat → Nat} {v : Nat} : isB D bs v = true ↔ D v = true ∧ bs v = v := by
 unfold isB; rw [Bool.and_eq_true, decide_eq_true_iff]
theorem Cert.strong {n : Nat} {E E0 : Nat → Nat → Prop} {mt : Nat → Int} {D A : Nat → Bool} {bs : Nat → Nat} (C : Cert n E mt D A bs) (M : Mf n E0 mt) : num n A + fre n mt = num n (isB D bs) := by
 have hs := M.sy
 refine Nat.le_antisymm ?_ ?_
 · have hA := List.nodup_range.filter (l := List.range n) A
   have hF := List.nodup_range.filter (l := List.range n) (isFr mt)
   have hm : ∀ a ∈ (List.range n).filter A, ∃ x : Nat, mt a = (x : Int) ∧ (mt a).toNat = x ∧ D x = true ∧ bs x = x := fun a ha => by
    obtain ⟨x, h1, h2, h3⟩ := C.am a (num_mem.1 ha).2
    exact ⟨x, h1, by rw [h1]; rfl, h2, h3⟩
   have hAm : (((List.range n).filter A).map fun a => (mt a).toNat).Nodup := nodup_mapOn hA fun a ha b hb e => by
    obtain ⟨x, h1, h2, _⟩ := hm a ha
    obtain ⟨y, k1, k2, _⟩ := hm b hb
    simp only [h2, k2] at e
    subst e
    have := hs a x h1
    have := hs b x k1
    omega
   have := nodup_le (l := ((List.range n).filter A).map (fun a => (mt a).toNat) ++ (List.range n).filter (isFr mt)) (m := (List.range n).filter (isB D bs)) (List.nodup_append.2 ⟨hAm, hF, fun x hx y hy e => ?_⟩) fun x hx => ?_
   · rw [List.length_append, List.length_map] at this
     exact this
   · subst e
     obtain ⟨a, ha, rfl⟩ := List.mem_map.1 hx
     obtain ⟨x, h1, h2, h3, h4⟩ := hm a ha
     have h5 := isFr_iff.1 (num_mem.1 hy).2
     rw [h2, hs a x h1] at h5
     omega
   · rcases List.mem_append.1 hx with hx | hx
     · obtain ⟨a, ha, rfl⟩ := List.mem_map.1 hx
       obtain ⟨x, h1, h2, h3, h4⟩ := hm a ha
       rw [h2]
       exact num_mem.2 ⟨C.dn x h3, isB_iff.2 ⟨h3, h4⟩⟩
     · obtain ⟨h1, h2⟩ := num_mem.1 hx
       exact num_mem.2 ⟨h1, isB_iff.2 (C.fr x h1 (isFr_iff.1 h2))⟩
 · have hB := List.nodup_range.filter (l := List.range n) (isB D bs)
   have hmate : ∀ b ∈ (List.range n).filter (isB D bs), mt b = -1 ∨ ∃ m : Nat, mt b = (m : Int) ∧ A m = true := fun b hb => by
    obtain ⟨k1, k2⟩ := num_mem.1 hb
    obtain ⟨k2, k3⟩ := isB_iff.1 k2
    rcases M.at_ b k1 with h | ⟨m, h, _⟩
    · exact .inl h
    · exact .inr ⟨m, h, C.bb b m k2 k3 h⟩
   have hnd : (((List.range n).filter (isB D bs)).map fun b => if mt b = -1 then b else (mt b).toNat).Nodup := nodup_mapOn hB fun a ha b hb e => by
    have da := (isB_iff.1 (num_mem.1 ha).2).1
    have db := (isB_iff.1 (num_mem.1 hb).2).1
    rcases hmate a ha with h1 | ⟨x, h1, h2⟩ <;> rcases hmate b hb with k1 | ⟨y, k1, k2⟩
    · simpa [h1, k1] using e
    · simp [h1, k1] at e
      subst e
      have := (C.an a k2).2
      rw [da] at this; cases this
    · simp [h1, k1] at e
      subst e
      have := (C.an x h2).2
      rw [db] at this; cases this
    · simp [h1, k1] at e
      subst e
      have := M.sy a x h1
      have := M.sy b x k1
      omega
   have := nodup_le (m := (List.range n).filter A ++ (List.range n).filter (isFr mt)) hnd fun x hx => by
    obtain ⟨b, hb, rfl⟩ := List.mem_map.1 hx
    rcases hmate b hb with h | ⟨m, h1, h2⟩
    · rw [if_pos h]
      exact List.mem_append.2 (.inr (num_mem.2 ⟨(num_mem.1 hb).1, isFr_iff.2 h⟩))
    · rw [if_neg (by omega), h1]
      exact List.mem_append.2 (.inl (num_mem.2 ⟨(C.an m h2).1, h2⟩))
   rw [List.length_append, List.length_map] at this
   exact this
theorem Cert.odd {n : Nat} {E : Nat → Nat → Prop} {mt : Nat → Int} {D A : Nat → Bool} {bs : Nat → Nat} (C : Cert n E mt D A bs) {E0 : Nat → Nat → Prop} (M : Mf n E0 mt) {b : Nat} (h1 : D b = true) (h2 : bs b = b) : num n (fun x => D x && decide (bs x = b)) % 2 = 1 := by
 have hB : ((List.range n).filter (fun x => D x && decide (bs x = b))).Nodup := List.nodup_range.filter _
 have hbm : b ∈ (List.range n).filter (fun x => D x && decide (bs x = b)) := num_mem.2 ⟨C.dn b h1, by simp [h1, h2]⟩
 have hlen := List.length_erase_of_mem hbm
 have hpos := List.length_pos_of_mem hbm
 have := pairs_even (fun v => (mt v).toNat) _ (((List.range n).filter (fun x => D x && decide (bs x = b))).erase b) (Nat.le_refl _) (hB.erase _) fun x hx => by
  obtain ⟨hxb, hxl⟩ := (hB.mem_erase_iff).1 hx
  obtain ⟨hxn, hxp⟩ := num_mem.1 hxl
  simp only [Bool.and_eq_true, decide_eq_true_iff] at hxp
  obtain ⟨w, k1, k2, k3⟩ := C.dm x hxp.1 (by rw [hxp.2]; exact Ne.symm hxb)
  have hs := M.sy x w k1
  have e1 : (mt x).toNat = w := by rw [k1]; rfl
  have e2 : (mt w).toNat = x := by rw [hs]; rfl
  rw [e1, e2]
  refine ⟨(hB.mem_erase_iff).2 ⟨fun e => ?_, num_mem.2 ⟨C.dn w k2, by simp [k2, k3, hxp.2]⟩⟩, (M.ne x w k1).1, rfl⟩
  subst e
  have := (C.an x (C.bb w x h1 h2 hs)).2
  rw [hxp.1] at this; cases this
 unfold num
 omega
theorem Cert.weak {n : Nat} {E : Nat → Nat → Prop} {mt mt' : Nat → Int} {D A : Nat → Bool} {bs : Nat → Nat} (C : Cert n E mt D A bs) {E0 : Nat → Nat → Prop} (M : Mf n E0 mt) (M' : Mf n E mt') : fre n mt + num n (fun v => isFr mt' v && !D v) ≤ fre n mt' := by
 have hst := C.strong M
 let R : Nat → Nat → Prop := fun b y => (D y = true ∧ bs y = b ∧ mt' y = -1) ∨ (A y = true ∧ ∃ x : Nat, mt' y = (x : Int) ∧ D x = true ∧ bs x = b)
 have hex : ∀ b, isB D bs b = true → ∃ y, R b y := by
  intro b hb
  obtain ⟨hb1, hb2⟩ := isB_iff.1 hb
  refine Classical.byContradiction fun hno => ?_
  have hodd := C.odd M hb1 hb2
  have hB := List.nodup_range.filter (l := List.range n) (fun x => D x && decide (bs x = b))
  have := pairs_even (fun v => (mt' v).toNat) _ ((List.range n).filter (fun x => D x && decide (bs x = b))) (Nat.le_refl _) hB fun x hx => by
   obtain ⟨hxn, hxp⟩ := num_mem.1 hx
   simp only [Bool.and_eq_true, decide_eq_true_iff] at hxp
   rcases M'.at_ x hxn with h | ⟨w, h, hwn⟩
   · exact absurd ⟨x, .inl ⟨hxp.1, hxp.2, h⟩⟩ hno
   · have hs := M'.sy x w h
     have e1 : (mt' x).toNat = w := by rw [h]; rfl
     have e2 : (mt' w).toNat = x := by rw [hs]; rfl
     obtain ⟨hwx, hE⟩ := M'.ne x w h
     rcases C.ed x w hxp.1 hE with ha | ⟨hd, hbw⟩
     · exact absurd ⟨w, .inr ⟨ha, x, hs, hxp.1, hxp.2⟩⟩ hno
     · rw [e1, e2]
       exact ⟨num_mem.2 ⟨hwn, by simp [hd, hbw, hxp.2]⟩, hwx, rfl⟩
  unfold num at hodd
  omega
 let g : Nat → Nat := fun b => @dite _ (∃ y, R b y) (Classical.propDecidable _) (fun h => Classical.choose h) (fun _ => 0)
 have hg : ∀ b, isB D bs b = true → R b (g b) := fun b hb => by
  have h := hex b hb
  show R b (@dite _ (∃ y, R b y) (Classical.propDecidable _) (fun h => Classical.choose h) (fun _ => 0))
  rw [dif_pos h]
  exact Classical.choose_spec h
 have hinj : (((List.range n).filter (isB D bs)).map g).Nodup := nodup_mapOn (List.nodup_range.filter _) fun a ha b hb e => by
  have ra := hg a (num_mem.1 ha).2
  have rb := hg b (num_mem.1 hb).2
  rw [← e] at rb
  rcases ra with ⟨k1, k2, k3⟩ | ⟨k1, x, k2, k3, k4⟩ <;> rcases rb with ⟨j1, j2, j3⟩ | ⟨j1, y, j2, j3, j4⟩
  · rw [← k2, j2]
  · have := (C.an _ j1).2
    rw [k1] at this; cases this
  · have := (C.an _ k1).2
    rw [j1] at this; cases this
  · obtain rfl : x = y := by omega
    rw [← k4, j4]
 have hle := nodup_le (m := (List.range n).filter (fun v => isFr mt' v && D v) ++ (List.range n).filter (fun v => A v && !isFr mt' v)) hinj fun x hx => by
  obtain ⟨b, hb, rfl⟩ := List.mem_map.1 hx
  rcases hg b (num_mem.1 hb).2 with ⟨k1, k2, k3⟩ | ⟨k1, x, k2, k3, k4⟩
  · exact List.mem_append.2 (.inl (num_mem.2 ⟨C.dn _ k1, by rw [isFr_iff.2 k3, k1]; rfl⟩))
  · refine List.mem_append.2 (.inr (num_mem.2 ⟨(C.an _ k1).1, ?_⟩))
    have : isFr mt' (g b) = false := decide_eq_false (by omega)
    rw [k1, this]; rfl
 rw [List.length_append, List.length_map] at hle
 have e1 := num_and n (isFr mt') D
 have e2 := num_and n A (isFr mt')
 have hle' : num n (isB D bs) ≤ num n (fun v => isFr mt' v && D v) + num n (fun v => A v && !isFr mt' v) := hle
 unfold fre at *
 omega
theorem Cert.most {n : Nat} {E : Nat → Nat → Prop} {mt mt' : Nat → Int} {D A : Nat → Bool} {bs : Nat → Nat} (C : Cert n E mt D A bs) {E0 : Nat → Nat → Prop} (M : Mf n E0 mt) (M' : Mf n E mt') : fre n mt ≤ fre n mt' := Nat.le_trans (Nat.le_add_right _ _) (C.weak M M')
theorem Cert.less {n : Nat} {E : Nat → Nat → Prop} {mt mt' : Nat → Int} {D A : Nat → Bool} {bs : Nat → Nat} (C : Cert n E mt D A bs) {E0 : Nat → Nat → Prop} (M : Mf n E0 mt) (M' : Mf n E mt') {v : Nat} (hv : v < n) (hD : D v = false) (hm : mt' v = -1) : fre n mt + 2 ≤ fre n mt' := by
 have h1 := C.weak M M'
 have h2 := num_pos (n := n) (p := fun v => isFr mt' v && !D v) hv (by rw [isFr_iff.2 hm, hD]; rfl)
 have h3 := fre_parity M
 have h4 := fre_parity M'
 omega
def Lg (n : Nat) (E : Nat → Nat → Prop) (mt : Nat → Int) : Prop := Mf n E mt ∧ ∀ mt', Mf n E mt' → fre n mt ≤ fre n mt'
def Dm (n : Nat) (E : Nat → Nat → Prop) (v : Nat) : Prop := v < n ∧ ∃ mt, Lg n E mt ∧ mt v = -1
theorem Cert.dm_iff {n : Nat} {E : Nat → Nat → Prop} {mt : Nat → Int} {D A : Nat → Bool} {bs : Nat → Nat} (C : Cert n E mt D A bs) (M : Mf n E mt) (hD : ∀ v, D v = true → ∃ mt', Mf n E mt' ∧ fre n mt' ≤ fre n mt ∧ mt' v = -1) (v : Nat) : D v = true ↔ Dm n E v := by
 constructor
 · intro h
   obtain ⟨mt', h1, h2, h3⟩ := hD v h
   exact ⟨C.dn v h, mt', ⟨h1, fun mt2 h4 => Nat.le_trans h2 (C.most M h4)⟩, h3⟩
 · rintro ⟨hv, mt', ⟨h1, h2⟩, h3⟩
   cases hd : D v with
   | true => rfl
   | false =>
     have := C.less M h1 hv hd h3
     have := h2 mt M
     omega
theorem miss {n : Nat} {E : Nat → Nat → Prop} {mt : Nat → Int} {S : FS} (M : Mf n E mt) (I : Inv n E mt S) {v : Nat} (hv : S.out v = true) : ∃ mt', Mf n E mt' ∧ fre n mt' ≤ fre n mt ∧ mt' v = -1 := by
 obtain ⟨r, ps, hr, hfr, hrn, W, G, nd, hy⟩ := tree_way M I hv
 have hcl := good_closed M.sy G hfr
 obtain ⟨l, hl, hep⟩ : ∃ l, verts ps r = v :: l ∧ EP E l := by
  cases G with
  | nil => exact ⟨[], rfl, trivial⟩
  | cons h1 h2 h3 => exact ⟨_, rfl, EP_good h3 _ h2⟩
 rw [hl] at nd hy hcl
 obtain ⟨hvl, hnl⟩ := List.nodup_cons.1 nd
 have sp := par_spec M.es l hep hnl
 have hrl : r ∈ v :: l := by rw [← hl]; simp [verts]
 have hln : ∀ u ∈ l, u < n := fun u hu => (hy u (List.mem_cons_of_mem _ hu)).2
 let mt' : Nat → Int := fun u => if u = v then -1 else if u ∈ l then (par l u : Int) else mt u
 have m1 : mt' v = -1 := if_pos rfl
 have m2 : ∀ u ∈ l, mt' u = (par l u : Int) := fun u hu => by
  show (if u = v then -1 else if u ∈ l then (par l u : Int) else mt u) = _
  rw [if_neg (fun e : u = v => hvl (e ▸ hu)), if_pos hu]
 have m3 : ∀ u, u ≠ v → u ∉ l → mt' u = mt u := fun u h1 h2 => by
  show (if u = v then -1 else if u ∈ l then (par l u : Int) else mt u) = _
  rw [if_neg h1, if_neg h2]
 have far : ∀ u w : Nat, u ≠ v → u ∉ l → mt u = (w : Int) → w ≠ v ∧ w ∉ l := fun u w h1 h2 h3 => by
  have hs := M.sy u w h3
  have : ∀ z ∈ v :: l, z ≠ w := fun z hz e => by
   subst e
   have := hcl z hz u hs
   rcases List.mem_cons.1 this with e | e
   · exact h1 e
   · exact h2 e
  exact ⟨fun e => this v (by simp) e.symm, fun e => this w (List.mem_cons_of_mem _ e) rfl⟩
 have cases3 : ∀ u, u = v ∨ u ∈ l ∨ (u ≠ v ∧ u ∉ l) := fun u => by
  by_cases h1 : u = v
  · exact .inl h1
  · by_cases h2 : u ∈ l
    · exact .inr (.inl h2)
    · exact .inr (.inr ⟨h1, h2⟩)
 refine ⟨mt', ⟨fun u hu => ?_, fun u hu w h => ?_, fun u w h => ?_, fun u w h => ?_, M.es, M.el⟩, ?_, m1⟩
 · rcases cases3 u with rfl | h | ⟨h1, h2⟩
   · exact .inl m1
   · exact .inr ⟨_, m2 u h, hln _ (sp u h).1⟩
   · rw [m3 u h1 h2]; exact M.at_ u hu
 · rcases cases3 u with rfl | h1 | ⟨h1, h2⟩
   · rw [m1] at h; omega
   · exact hu (hln u h1)
   · rw [m3 u h1 h2] at h; exact M.big u hu w h
 · rcases cases3 u with rfl | h1 | ⟨h1, h2⟩
   · rw [m1] at h; omega
   · rw [m2 u h1] at h
     obtain rfl : par l u = w := by omega
     rw [m2 _ (sp u h1).1, (sp u h1).2.2]
   · rw [m3 u h1 h2] at h
     obtain ⟨k1, k2⟩ := far u w h1 h2 h
     rw [m3 w k1 k2]; exact M.sy u w h
 · rcases cases3 u with rfl | h1 | ⟨h1, h2⟩
   · rw [m1] at h; omega
   · rw [m2 u h1] at h
     obtain rfl : par l u = w := by omega
     exact ⟨(M.el _ _ (sp u h1).2.1).2.2.symm, (sp u h1).2.1⟩
   · rw [m3 u h1 h2] at h; exact M.ne u w h
 · have hnd : (((List.range n).filter (isFr mt')).map fun u => if u = v then r else u).Nodup := nodup_mapOn (List.nodup_range.filter _) fun a ha b hb e => by
    have fa := isFr_iff.1 (num_mem.1 ha).2
    have fb := isFr_iff.1 (num_mem.1 hb).2
    have key : ∀ z, mt' z = -1 → z ≠ v → z ≠ r := fun z hz hzv e => by
     subst e
     have := (List.mem_cons.1 hrl).resolve_left hzv
     rw [m2 z this] at hz; omega
    by_cases h1 : a = v <;> by_cases h2 : b = v
    · rw [h1, h2]
    · simp only [if_pos h1, if_neg h2] at e
      exact absurd e.symm (key b fb h2)
    · simp only [if_neg h1, if_pos h2] at e
      exact absurd e (key a fa h1)
    · simpa only [if_neg h1, if_neg h2] using e
   have := nodup_le (m := (List.range n).filter (isFr mt)) hnd fun x hx => by
    obtain ⟨u, hu, rfl⟩ := List.mem_map.1 hx
    obtain ⟨hun, hu⟩ := num_mem.1 hu
    have hu := isFr_iff.1 hu
    by_cases h1 : u = v
    · rw [if_pos h1]; exact num_mem.2 ⟨hrn, isFr_iff.2 hfr⟩
    · rw [if_neg h1]
      have h2 : u ∉ l := fun h => by rw [m2 u h] at hu; omega
      rw [m3 u h1 h2] at hu
      exact num_mem.2 ⟨hun, isFr_iff.2 hu⟩
   rw [List.length_map] at this
   exact this
def odd2 (S : FS) (v : Nat) : Bool := decide (S.lab v = 2) && !S.out v
theorem odd2_iff {S : FS} {v : Nat} : odd2 S v = true ↔ S.lab v = 2 ∧ S.out v = false := by
 unfold odd2; simp
theorem Inv.cert {n : Nat} {E : Nat → Nat → Prop} {mt : Nat → Int} {S : FS} (M : Mf n E mt) (I : Inv n E mt S) (L : Lk E S []) : Cert n E mt S.out (odd2 S) S.bs where
 dn := fun v h => (I.o1 v h).1
 an := fun v h => ⟨(I.od v (odd2_iff.1 h).1).1, (odd2_iff.1 h).2⟩
 ed := fun v w hv hE => by
  obtain ⟨h1, h2⟩ := L v w hv (by simp) hE
  cases ho : S.out w with
  | true =>
    rcases h2 ho with h | h
    · exact .inr ⟨rfl, h⟩
    · simp at h
  | false =>
    refine .inl (odd2_iff.2 ⟨?_, ho⟩)
    have h3 := I.l2 w
    have h4 : S.lab w ≠ 1 := fun e => by have := I.e1 w e; rw [ho] at this; cases this
    omega
 db := fun v h => ⟨(I.bo v h).1, (I.bo v h).2.2.1⟩
 fr := fun v hv hm => by
  have h1 := (I.fr v hv hm).1
  have ho := I.e1 v h1
  refine ⟨ho, ?_⟩
  obtain ⟨ps, w, _⟩ := I.wy v ho
  generalize S.bs v = b at w
  cases w with
  | here => rfl
  | even _ _ h3 _ _ => omega
  | odd _ _ h3 _ _ _ => omega
 am := fun a h => by
  obtain ⟨h1, h2⟩ := odd2_iff.1 h
  obtain ⟨_, x, k1, k2, _⟩ := I.od a h1
  exact ⟨x, k1, I.e1 x k2, I.bx a x h1 h2 k1⟩
 dm := fun v h hb => by
  have hl := I.l2 v
  have h0 := (I.o1 v h).2
  have main : ∀ w : Nat, mt v = (w : Int) → S.out w = true → ∃ w : Nat, mt v = (w : Int) ∧ S.out w = true ∧ S.bs w = S.bs v := fun w h1 h2 => ⟨w, h1, h2, (I.mate_same M h h1).2 h2⟩
  rcases (show S.lab v = 1 ∨ S.lab v = 2 by omega) with e | e
  · rcases I.ev v e with ⟨k, _⟩ | ⟨m, k1, k2⟩
    · exfalso
      obtain ⟨ps, w, _⟩ := I.wy v h
      generalize S.bs v = b at w hb
      cases w with
      | here => exact hb rfl
      | even _ _ h3 _ _ => omega
      | odd _ _ h3 _ _ _ => omega
    · cases ho : S.out m with
      | true => exact main m k1 ho
      | false => exact absurd (I.bx m v k2 ho (M.sy v m k1)) hb
  · obtain ⟨_, x, k1, k2, _⟩ := I.od v e
    exact main x k1 (I.e1 x k2)
 bb := fun b m h1 h2 hm => by
  rcases I.base M h1 h2 with ⟨h3, _⟩ | ⟨m', h3, h4, h5, _⟩
  · omega
  · obtain rfl : m' = m := by omega
    exact odd2_iff.2 ⟨h4, h5⟩
noncomputable def glab (n : Nat) (E : Nat → Nat → Prop) (v : Nat) : Nat :=
 open Classical in if Dm n E v then 1 else if ∃ w, Dm n E w ∧ E v w then 2 else 0
theorem Mf.add {n : Nat} {E : Nat → Nat → Prop} {mt mt' : Nat → Int} (M : Mf n E mt) {v w : Nat} (hv : mt v = -1) (hw : mt w = -1) (hE : E v w) (h1 : mt' v = (w : Int)) (h2 : mt' w = (v : Int)) (h3 : ∀ u, u ≠ v → u ≠ w → mt' u = mt u) : Mf n E mt' := by
 obtain ⟨hvn, hwn, hne⟩ := M.el v w hE
 have c3 : ∀ u, u = v ∨ u = w ∨ (u ≠ v ∧ u ≠ w) := fun u => by omega
 have far : ∀ u x : Nat, mt u = (x : Int) → x ≠ v ∧ x ≠ w := fun u x h => by
  have hs := M.sy u x h
  exact ⟨fun e => by subst e; omega, fun e => by subst e; omega⟩
 refine ⟨fun u hu => ?_, fun u hu x h => ?_, fun u x h => ?_, fun u x h => ?_, M.es, M.el⟩
 · rcases c3 u with rfl | rfl | ⟨k1, k2⟩
   · exact .inr ⟨w, h1, hwn⟩
   · exact .inr ⟨v, h2, hvn⟩
   · rw [h3 u k1 k2]; exact M.at_ u hu
 · have k1 : u ≠ v := fun e => hu (e ▸ hvn)
   have k2 : u ≠ w := fun e => hu (e ▸ hwn)
   rw [h3 u k1 k2] at h
   exact M.big u hu x h
 · rcases c3 u with rfl | rfl | ⟨k1, k2⟩
   · obtain rfl : w = x := by omega
     exact h2
   · obtain rfl : v = x := by omega
     exact h1
   · rw [h3 u k1 k2] at h
     obtain ⟨j1, j2⟩ := far u x h
     rw [h3 x j1 j2]; exact M.sy u x h
 · rcases c3 u with rfl | rfl | ⟨k1, k2⟩
   · obtain rfl : w = x := by omega
     exact ⟨Ne.symm hne, hE⟩
   · obtain rfl : v = x := by omega
     exact ⟨hne, M.es _ _ hE⟩
   · rw [h3 u k1 k2] at h; exact M.ne u x h
theorem fre_less {n : Nat} {mt mt' : Nat → Int} {r : Nat} (hr : r < n) (h1 : mt r = -1) (h2 : mt' r ≠ -1) (h3 : ∀ u, mt' u = -1 → mt u = -1) : fre n mt' + 1 ≤ fre n mt := by
 have := nodup_le (l := r :: (List.range n).filter (isFr mt')) (m := (List.range n).filter (isFr mt)) (List.nodup_cons.2 ⟨fun h => h2 (isFr_iff.1 (num_mem.1 h).2), List.nodup_range.filter _⟩) fun x hx => by
  rcases List.mem_cons.1 hx with rfl | hx
  · exact num_mem.2 ⟨hr, isFr_iff.2 h1⟩
  · obtain ⟨k1, k2⟩ := num_mem.1 hx
    exact num_mem.2 ⟨k1, isFr_iff.2 (h3 x (isFr_iff.1 k2))⟩
 rw [List.length_cons] at this
 exact this
theorem GR.mf {N : Nat} {es : Es} (g : GR N es) : (∀ v w, adj es v w → adj es w v) ∧ ∀ v w, adj es v w → v < N ∧ w < N ∧ v ≠ w := by
 refine ⟨fun v w h => adj_symm h, fun v w h => ?_⟩
 rcases h with h | h
 · have := g.ok _ h; simp only at this; omega
 · have := g.ok _ h; simp only at this; omega
theorem GR.none {N : Nat} {es : Es} (g : GR N es) {mt : Nat → Int} (h : ∀ v, mt v = -1) : Mf N (adj es) mt :=
 ⟨fun v _ => .inl (h v), fun v _ w e => by rw [h v] at e; omega, fun v w e => by rw [h v] at e; omega, fun v w e => by rw [h v] at e; omega, g.mf.1, g.mf.2⟩
theorem nearOf_len {N : Nat} {es : Es} (g : GR N es) (v : Nat) : (nearOf es v).length ≤ 131072 := by
 have h1 : (lowOf es v).length ≤ es.length := by simp [lowOf]; exact List.length_filter_le _ _
 have h2 : (highOf es v).length ≤ es.length := by simp [highOf]; exact List.length_filter_le _ _
 have := g.hm
 unfold nearOf
 rw [List.length_append]; omega
end Go.Ga.Gl
namespace Go.Proofs.Ytmcfdfafeheihaa
open Go Go.Ga Go.Ga.Gl
theorem sfree_ok {n : Nat} (m : List Int) (hml : m.length = n) {v : Nat} (hv : v < n) :
    ACalls Try.prog [] n_f54 [.agg [.sl 0 0 n 1], .sc (.int .i64 (v : Int))] [some (ints m)] fun r h' => r = .sc (.bool (decide (m.getD v 0 < 0))) ∧ h' = [some (ints m)] := by
  have hg : (ints m)[v]? = some (.sc (.int .i64 (m.getD v 0))) := ints_get (by omega)
  refine go_f54 rfl ?_
  unfold c_f54 v_f54
  refine wlk_sreg fun KY hKY => ?_
  simp only [go_sem, c_f54_r0]
  apply hKY
  refine wlk_sreg fun KY hKY => ?_
  simp only [go_sem, c_f54_r1, hg, ints_len, hml, hv, Nat.zero_add]
  apply hKY
  refine wlk_ret ?_
  simp only [go_sem]
theorem idxfree_ok {n : Nat} (m : List Int) (hml : m.length = n) (row : List Nat) (hr : ∀ x ∈ row, x < n) (hrl : row.length ≤ 1000000000) :
    ACalls Try.prog [] n_f55 [.imm 1 (nats row), .fn (.func n_f54) [.agg [.sl 0 0 n 1]] []] [some (ints m)] fun r h' => (∃ z : Int, r = .sc (.int .i64 z) ∧ (z = -1 ∨ ∃ (i x : Nat), z = (i : Int) ∧ row[i]? = some x ∧ m.getD x 0 < 0)) ∧ h' = [some (ints m)] := by
  refine go_f55 rfl ?_
  unfold c_f55 v_f55
  refine wlk_sreg fun KY hKY => ?_
  simp only [go_sem, c_f55_r0]
  apply hKY
  refine wlk_seq fun X1 hn1 he1 hr1 => ?_
  refine wlk_sreg fun KY hKY => ?_
  simp only [go_sem, c_f55_r1, nats_len]
  apply hKY
  refine wlk_blk fun X2 hn2 he2 hf2 hr2 => ?_
  try simp only [go_sem]
  refine wlk_lp (α := Nat) [5, 9, 16] (fun k => [(8, .sc (.int .i64 (k : Int)))]) (fun k => [some (ints m)]) (fun k q => k ≤ row.length ∧ q = row.length - k) (0) (row.length) rfl (by first | (simp only [go_sem, updAll_cons, updAll_nil]; done) | with_reducible rfl | rfl) (⟨Nat.zero_le _, rfl⟩) ?_
  rintro k q ⟨hk, rfl⟩ X3 hn3 he3 hr3
  simp only [go_sem, updAll_cons, updAll_nil]
  rcases Nat.lt_or_ge k row.length with hk2 | hk2
  · have hdx : decide ((k : Int) < (row.length : Int)) = true := decide_eq_true (by omega)
    have hx : row[k]? = some (row[k]) := List.getElem?_eq_getElem hk2
    have hxg : (nats row)[k]? = some (.sc (.int .i64 ((row[k] : Nat) : Int))) := by simp [nats, hx]
    have hxn := hr _ (List.getElem_mem hk2)
    generalize row[k] = x at hx hxg hxn
    have hf := sfree_ok m hml hxn
    refine wlk_sreg fun KY hKY => ?_
    simp only [go_sem, c_f55_r2, hdx]
    apply hKY
    refine wlk_seq fun X4 hn4 he4 hr4 => ?_
    refine wc1 ?_
    refine wlk_skip ?_
    repeat (first | refine hn4 _ ?_ | refine he4 _ _ ?_ | refine he3 _ _ ?_ | refine hn2 _ ?_ | refine he2 _ ?_ | refine hf2 _ _ (by decide) ?_ | refine hn1 _ ?_ | refine he1 _ _ ?_)
    refine wlk_seq fun X5 hn5 he5 hr5 => ?_
    refine wlk_blk fun X6 hn6 he6 hf6 hr6 => ?_
    refine wlk_sreg fun KY hKY => ?_
    simp only [go_sem, c_f55_r3]
    apply hKY
    refine wlk_sreg fun KY hKY => ?_
    simp only [go_sem, c_f55_r4, hxg, nats_len, hk2]
    apply call_gen [] [0] false none rfl
    iterate 8 (first | (simp only [go_sem, watchIn] <;> rfl) | rfl)
    refine (hf).mono ?_
    rintro _ _ ⟨rfl, rfl⟩
    refine ⟨Nat.le_of_ble_eq_true rfl, (fun hh => by cases hh), ?_⟩
    simp only [go_sem, callOut, AState.after]
    apply hKY
    by_cases hm : m.getD x 0 < 0
    · have hdm : decide (m.getD x 0 < 0) = true := decide_eq_true hm
      simp only [go_sem, hdm]
      refine wc1 ?_
      refine wlk_sreg fun KY hKY => ?_
      simp only [go_sem, c_f55_r5]
      apply hKY
      refine wlk_ret ?_
      repeat (first | refine hr6 _ ?_ | refine hr5 _ ?_ | refine hr4 _ ?_ | refine hr3 _ ?_ | refine hr2 _ ?_ | refine hr1 _ ?_)
      simp only [go_sem]
      exact ⟨_, rfl, .inr ⟨k, x, rfl, hx, hm⟩⟩
    · have hdm : decide (m.getD x 0 < 0) = false := decide_eq_false hm
      simp only [go_sem, hdm]
      refine wc0 ?_
      refine wlk_skip ?_
      repeat (first | refine hn6 _ ?_ | refine he6 _ ?_ | refine hf6 _ _ (by decide) ?_ | refine hn5 _ ?_ | refine he5 _ _ ?_ | refine hn4 _ ?_ | refine he4 _ _ ?_ | refine he3 _ _ ?_ | refine hn2 _ ?_ | refine he2 _ ?_ | refine hf2 _ _ (by decide) ?_ | refine hn1 _ ?_ | refine he1 _ _ ?_)
      refine wlk_reg fun KY hKY => ?_
      simp only [go_sem, c_f55_r6, incS (show k < 4611686018427387904 by omega)]
      apply hKY
      repeat (first | refine hn6 _ ?_ | refine he6 _ ?_ | refine hf6 _ _ (by decide) ?_ | refine hn5 _ ?_ | refine he5 _ _ ?_ | refine hn4 _ ?_ | refine he4 _ _ ?_)
      refine hn3 _ (k + 1) (row.length - (k + 1)) (by omega) (by first | (simp only [go_sem, updAll_cons, updAll_nil]; done) | with_reducible rfl | rfl) ?_
      exact ⟨hk2, rfl⟩
  have hdx : decide ((k : Int) < (row.length : Int)) = false := decide_eq_false (by omega)
  refine wlk_sreg fun KY hKY => ?_
  simp only [go_sem, c_f55_r2, hdx]
  apply hKY
  refine wlk_seq fun X7 hn7 he7 hr7 => ?_
  refine wc0 ?_
  refine wlk_exit ?_
  repeat (first | refine hn7 _ ?_ | refine he7 _ _ ?_ | refine he3 _ _ ?_ | refine hn2 _ ?_ | refine he2 _ ?_ | refine hf2 _ _ (by decide) ?_ | refine hn1 _ ?_ | refine he1 _ _ ?_)
  refine wlk_sreg fun KY hKY => ?_
  simp only [go_sem, c_f55_r7]
  apply hKY
  refine wlk_ret ?_
  repeat (first | refine hr7 _ ?_ | refine hr3 _ ?_ | refine hr2 _ ?_ | refine hr1 _ ?_)
  simp only [go_sem]
  exact ⟨_, rfl, .inl rfl⟩
theorem none_ok {N : Nat} {es : Es} (g : GR N es) : ACalls Try.prog [] n_f53 [.agg [.sc (.int .i64 (N : Int)), .imm 2 (twos (castE es))]] [] fun r h' => (N = 0 ∧ r = .own (some 1) [] ∧ h' = []) ∨ (0 < N ∧ r = .sl 0 0 N 1 ∧ h' = [some (ints (List.replicate N (-1)))]) := by
 have hN := g.hn
 have hr := rightB_GR g
 have hR := repeat_ok (-1) N hN
 rw [show ints [(-1 : Int)] = [.sc (.int .i64 (-1))] from rfl] at hR
 refine go_f53 rfl ?_
 unfold c_f53 v_f53
 refine wlk_sreg fun KY hKY => ?_
 simp only [go_sem, c_f53_r0]
 apply hKY
 refine wlk_seq fun X1 hn1 he1 hr1 => ?_
 refine wlk_sreg fun KY hKY => ?_
 simp only [go_sem, c_f53_r1]
 refine call_view rfl (by simp only [go_sem] <;> rfl) ((right_ok N (castE es)).mono ?_)
 rintro rr hh ⟨rfl, rfl⟩
 refine ⟨rfl, rfl, rfl, ?_⟩
 simp only [go_sem, hr]
 apply hKY
 refine wc0 ?_
 refine wlk_skip ?_
 repeat (first | refine hn1 _ ?_ | refine he1 _ _ ?_)
 refine wlk_sreg fun KY hKY => ?_
 simp only [go_sem, c_f53_r3]
 apply call_gen [.mv] [] false none rfl
 iterate 8 (first | (simp only [go_sem, watchIn] <;> rfl) | rfl)
 refine (hR).mono ?_
 rintro _ _ (⟨h0, rfl, rfl⟩ | ⟨h0, rfl, rfl⟩)
 · refine ⟨Nat.le_of_ble_eq_true rfl, (fun hh => by cases hh), ?_⟩
   simp only [go_sem, callOut, AState.after]
   apply hKY
   refine wlk_ret ?_
   repeat (first | refine hr1 _ ?_)
   simp only [go_sem]
   exact .inl h0
 · refine ⟨Nat.le_of_ble_eq_true rfl, (fun hh => by cases hh), ?_⟩
   simp only [go_sem, callOut, AState.after]
   apply hKY
   refine wlk_ret ?_
   repeat (first | refine hr1 _ ?_)
   simp only [go_sem]
   exact .inr h0
theorem mf_set {m : List Int} {v : Nat} (hv : v < m.length) (x : Int) (u : Nat) : mf (m.set v x) u = if u = v then x else mf m u := by
 unfold mf
 by_cases e : u = v
 · subst e; simp [hv]
 · simp [List.getElem?_set, Ne.symm e, e]
theorem mf_rep {N : Nat} (v : Nat) : mf (List.replicate N (-1)) v = -1 := by
 unfold mf
 by_cases h : v < N
 · simp [h]
 · simp [List.getElem?_eq_none (show (List.replicate N (-1 : Int)).length ≤ v by simp; omega)]
theorem gfirst_ok {N : Nat} {es : Es} (g : GR N es) : ACalls Try.prog [] n_f39 [.agg [.sc (.int .i64 (N : Int)), .imm 2 (twos (castE es))]] [] fun r h' => (N = 0 ∧ r = .sc (.slice none 0 0) ∧ h' = []) ∨ (0 < N ∧ ∃ m : List Int, m.length = N ∧ Mf N (adj es) (mf m) ∧ r = .sl 0 0 N 1 ∧ h' = [some (ints m)]) := by
 have hN := g.hn
 have hem := g.hm
 refine go_f39 rfl ?_
 unfold c_f39 v_f39
 refine wlk_sreg fun KY hKY => ?_
 simp only [go_sem, c_f39_r0]
 apply hKY
 refine wlk_sreg fun KY hKY => ?_
 simp only [go_sem, c_f39_r1]
 apply call_gen [] [] false none rfl
 iterate 8 (first | (simp only [go_sem, watchIn] <;> rfl) | rfl)
 refine (none_ok g).mono ?_
 rintro _ _ (⟨h0, rfl, rfl⟩ | ⟨h0, rfl, rfl⟩)
 · refine ⟨Nat.le_of_ble_eq_true rfl, (fun hh => by cases hh), ?_⟩
   simp only [go_sem, callOut, AState.after]
   apply hKY
   refine wlk_seq fun X1 hn1 he1 hr1 => ?_
   refine wlk_sreg fun KY hKY => ?_
   simp only [go_sem, c_f39_r2]
   apply hKY
   refine wc1 ?_
   refine wlk_sreg fun KY hKY => ?_
   simp only [go_sem, c_f39_r3]
   apply hKY
   refine wlk_ret ?_
   repeat (first | refine hr1 _ ?_)
   simp only [go_sem]
   exact .inl h0
 · refine ⟨Nat.le_of_ble_eq_true rfl, (fun hh => by cases hh), ?_⟩
   simp only [go_sem, callOut, AState.after]
   apply hKY
   have hd0 : decide ((N : Int) = 0) = false := decide_eq_false (by omega)
   refine wlk_seq fun X2 hn2 he2 hr2 => ?_
   refine wlk_sreg fun KY hKY => ?_
   simp only [go_sem, c_f39_r2, hd0]
   apply hKY
   refine wc0 ?_
   refine wlk_skip ?_
   repeat (first | refine hn2 _ ?_ | refine he2 _ _ ?_)
   refine wlk_sreg fun KY hKY => ?_
   simp only [go_sem, c_f39_r4]
   apply call_gen [] [] true none rfl
   iterate 8 (first | (simp only [go_sem, watchIn] <;> rfl) | rfl)
   refine (lists_ok g).mono ?_
   rintro _ _ ⟨rfl, rfl⟩
   refine ⟨Nat.le_of_ble_eq_true rfl, (fun _ => by simp only [go_sem, flatH, and_self]), ?_⟩
   simp only [go_sem, callOut, AState.after]
   apply hKY
   refine sem_freeze [0, 4] (by simp only [go_sem]; rfl) ?_
   simp only [go_sem, rowsO_freeze]
   refine wlk_seq fun X3 hn3 he3 hr3 => ?_
   refine wlk_sreg fun KY hKY => ?_
   simp only [go_sem, c_f39_r5, ints_len, List.length_replicate]
   apply hKY
   refine wlk_blk fun X4 hn4 he4 hf4 hr4 => ?_
   try simp only [go_sem]
   refine wlk_lp (α := Nat × List Int) [5, 6, 7, 24, 29, 38] (fun (k, m) => [(23, .sc (.int .i64 (k : Int)))]) (fun (k, m) => [some (ints m)]) (fun (k, m) q => m.length = N ∧ Mf N (adj es) (mf m) ∧ k ≤ N ∧ q = N - k) ((0, List.replicate N (-1))) (N) rfl (by first | (simp only [go_sem, updAll_cons, updAll_nil]; done) | with_reducible rfl | rfl) (⟨by simp, g.none mf_rep, Nat.zero_le _, rfl⟩) ?_
   rintro ⟨k, m⟩ q ⟨hml, M, hk, rfl⟩ X5 hn5 he5 hr5
   simp only [go_sem, updAll_cons, updAll_nil]
   rcases Nat.lt_or_ge k N with hk2 | hk2
   · have hdx : decide ((k : Int) < (N : Int)) = true := decide_eq_true (by omega)
     have hfr := sfree_ok m hml hk2
     refine wlk_sreg fun KY hKY => ?_
     simp only [go_sem, c_f39_r6, hdx]
     apply hKY
     refine wlk_seq fun X6 hn6 he6 hr6 => ?_
     refine wc1 ?_
     refine wlk_skip ?_
     repeat (first | refine hn6 _ ?_ | refine he6 _ _ ?_ | refine he5 _ _ ?_ | refine hn4 _ ?_ | refine he4 _ ?_ | refine hf4 _ _ (by decide) ?_ | refine hn3 _ ?_ | refine he3 _ _ ?_ | refine hn2 _ ?_ | refine he2 _ _ ?_)
     refine wlk_seq fun X7 hn7 he7 hr7 => ?_
     refine wlk_blk fun X8 hn8 he8 hf8 hr8 => ?_
     refine wlk_sreg fun KY hKY => ?_
     simp only [go_sem, c_f39_r7]
     apply hKY
     by_cases hmk : m.getD k 0 < 0
     · have hd1 : decide (m.getD k 0 < 0) = true := decide_eq_true hmk
       refine wlk_seq fun X9 hn9 he9 hr9 => ?_
       refine wlk_sreg fun KY hKY => ?_
       simp only [go_sem, c_f39_r8]
       apply call_gen [] [0] false none rfl
       iterate 8 (first | (simp only [go_sem, watchIn] <;> rfl) | rfl)
       refine (hfr).mono ?_
       rintro _ _ ⟨rfl, rfl⟩
       refine ⟨Nat.le_of_ble_eq_true rfl, (fun hh => by cases hh), ?_⟩
       simp only [go_sem, callOut, AState.after, hd1]
       apply hKY
       refine wc0 ?_
       refine wlk_skip ?_
       repeat (first | refine hn9 _ ?_ | refine he9 _ _ ?_ | refine hn8 _ ?_ | refine he8 _ ?_ | refine hf8 _ _ (by decide) ?_ | refine hn7 _ ?_ | refine he7 _ _ ?_ | refine hn6 _ ?_ | refine he6 _ _ ?_ | refine he5 _ _ ?_ | refine hn4 _ ?_ | refine he4 _ ?_ | refine hf4 _ _ (by decide) ?_ | refine hn3 _ ?_ | refine he3 _ _ ?_ | refine hn2 _ ?_ | refine he2 _ _ ?_)
       have hnr := rowsI_get (near_get (es := es) hk2)
       have hidx := idxfree_ok m hml (nearOf es k) (fun x hx => (g.mf.2 _ _ (nearOf_mem.1 hx)).2.1) (Nat.le_trans (nearOf_len g k) (by decide))
       refine wlk_sdraw fun KY hKY => ?_
       simp only [go_sem, c_f39_r9, hnr, near_len, hk2, rowsI_len]
       apply call_gen [] [0] false none rfl
       iterate 8 (first | (simp only [go_sem, watchIn] <;> rfl) | rfl)
       refine (hidx).mono ?_
       rintro _ _ ⟨⟨z, rfl, hz⟩, rfl⟩
       refine ⟨Nat.le_of_ble_eq_true rfl, (fun hh => by cases hh), ?_⟩
       simp only [go_sem, callOut, AState.after]
       apply hKY
       have hmk1 : mf m k = -1 := by
        rw [mf_get (by omega)] at hmk
        rcases M.at_ k hk2 with h | ⟨w, h, _⟩
        · exact h
        · omega
       rcases hz with rfl | ⟨i, x, rfl, hix, hmx⟩
       · have hd2 : decide ((0 : Int) ≤ -1) = false := rfl
         refine wlk_sreg fun KY hKY => ?_
         simp only [go_sem, c_f39_r10, hd2]
         apply hKY
         refine wc0 ?_
         refine wlk_skip ?_
         repeat (first | refine hn9 _ ?_ | refine he9 _ _ ?_ | refine hn8 _ ?_ | refine he8 _ ?_ | refine hf8 _ _ (by decide) ?_ | refine hn7 _ ?_ | refine he7 _ _ ?_ | refine hn6 _ ?_ | refine he6 _ _ ?_ | refine he5 _ _ ?_ | refine hn4 _ ?_ | refine he4 _ ?_ | refine hf4 _ _ (by decide) ?_ | refine hn3 _ ?_ | refine he3 _ _ ?_ | refine hn2 _ ?_ | refine he2 _ _ ?_)
         refine wlk_reg fun KY hKY => ?_
         simp only [go_sem, c_f39_r13, incS (show k < 4611686018427387904 by omega)]
         apply hKY
         repeat (first | refine hn9 _ ?_ | refine he9 _ _ ?_ | refine hn8 _ ?_ | refine he8 _ ?_ | refine hf8 _ _ (by decide) ?_ | refine hn7 _ ?_ | refine he7 _ _ ?_ | refine hn6 _ ?_ | refine he6 _ _ ?_)
         refine hn5 _ ((k + 1, m)) (N - (k + 1)) (by omega) (by first | (simp only [go_sem, updAll_cons, updAll_nil]; done) | with_reducible rfl | rfl) ?_
         exact ⟨hml, M, hk2, rfl⟩
       · have hd2 : decide ((0 : Int) ≤ (i : Int)) = true := decide_eq_true (by omega)
         have hil := (List.getElem?_eq_some_iff.1 hix).1
         have hadj : adj es k x := nearOf_mem.1 (List.mem_iff_getElem?.2 ⟨i, hix⟩)
         have hxN := (g.mf.2 _ _ hadj).2.1
         have hxk := (g.mf.2 _ _ hadj).2.2
         have hgx : (nats (nearOf es k))[i]? = some (.sc (.int .i64 (x : Int))) := by simp [nats, hix]
         have hmx1 : mf m x = -1 := by
          rw [mf_get (by omega)] at hmx
          rcases M.at_ x hxN with h | ⟨w, h, _⟩
          · exact h
          · omega
         have hls : ((m.set k (x : Int)).set x (k : Int)).length = N := by simp [hml]
         have M2 : Mf N (adj es) (mf ((m.set k (x : Int)).set x (k : Int))) := by
          refine M.add hmk1 hmx1 hadj ?_ ?_ fun u h1 h2 => ?_
          · rw [mf_set (by simp; omega), if_neg hxk, mf_set (by omega), if_pos rfl]
          · rw [mf_set (by simp; omega), if_pos rfl]
          · rw [mf_set (by simp; omega), if_neg h2, mf_set (by omega), if_neg h1]
         refine wlk_sreg fun KY hKY => ?_
         simp only [go_sem, c_f39_r10, hd2]
         apply hKY
         refine wc1 ?_
         refine wlk_sreg fun KY hKY => ?_
         simp only [go_sem, c_f39_r11, hnr, near_len, hk2, rowsI_len, hgx, nats_len, hil]
         apply hKY
         refine wlk_draw fun KY hKY => ?_
         simp only [go_sem, c_f39_r12, ints_len, ints_set, hml, hk2, hxN, List.length_set, Nat.zero_add, (show ([1, 0] == [0, 3]) = false from rfl), Bool.not_false]
         apply hKY
         repeat (first | refine hn9 _ ?_ | refine he9 _ _ ?_ | refine hn8 _ ?_ | refine he8 _ ?_ | refine hf8 _ _ (by decide) ?_ | refine hn7 _ ?_ | refine he7 _ _ ?_ | refine hn6 _ ?_ | refine he6 _ _ ?_ | refine he5 _ _ ?_ | refine hn4 _ ?_ | refine he4 _ ?_ | refine hf4 _ _ (by decide) ?_ | refine hn3 _ ?_ | refine he3 _ _ ?_ | refine hn2 _ ?_ | refine he2 _ _ ?_)
         refine wlk_reg fun KY hKY => ?_
         simp only [go_sem, c_f39_r13, incS (show k < 4611686018427387904 by omega)]
         apply hKY
         repeat (first | refine hn9 _ ?_ | refine he9 _ _ ?_ | refine hn8 _ ?_ | refine he8 _ ?_ | refine hf8 _ _ (by decide) ?_ | refine hn7 _ ?_ | refine he7 _ _ ?_ | refine hn6 _ ?_ | refine he6 _ _ ?_)
         refine hn5 _ ((k + 1, (m.set k (x : Int)).set x (k : Int))) (N - (k + 1)) (by omega) (by first | (simp only [go_sem, updAll_cons, updAll_nil]; done) | with_reducible rfl | rfl) ?_
         exact ⟨hls, M2, hk2, rfl⟩
     · have hd1 : decide (m.getD k 0 < 0) = false := decide_eq_false hmk
       refine wlk_seq fun X10 hn10 he10 hr10 => ?_
       refine wlk_sreg fun KY hKY => ?_
       simp only [go_sem, c_f39_r8]
       apply call_gen [] [0] false none rfl
       iterate 8 (first | (simp only [go_sem, watchIn] <;> rfl) | rfl)
       refine (hfr).mono ?_
       rintro _ _ ⟨rfl, rfl⟩
       refine ⟨Nat.le_of_ble_eq_true rfl, (fun hh => by cases hh), ?_⟩
       simp only [go_sem, callOut, AState.after, hd1]
       apply hKY
       refine wc1 ?_
       refine wlk_exit ?_
       repeat (first | refine hn10 _ ?_ | refine he10 _ _ ?_ | refine hn8 _ ?_ | refine he8 _ ?_ | refine hf8 _ _ (by decide) ?_ | refine hn7 _ ?_ | refine he7 _ _ ?_ | refine hn6 _ ?_ | refine he6 _ _ ?_ | refine he5 _ _ ?_ | refine hn4 _ ?_ | refine he4 _ ?_ | refine hf4 _ _ (by decide) ?_ | refine hn3 _ ?_ | refine he3 _ _ ?_ | refine hn2 _ ?_ | refine he2 _ _ ?_)
       refine wlk_reg fun KY hKY => ?_
       simp only [go_sem, c_f39_r13, incS (show k < 4611686018427387904 by omega)]
       apply hKY
       repeat (first | refine hn10 _ ?_ | refine he10 _ _ ?_ | refine hn8 _ ?_ | refine he8 _ ?_ | refine hf8 _ _ (by decide) ?_ | refine hn7 _ ?_ | refine he7 _ _ ?_ | refine hn6 _ ?_ | refine he6 _ _ ?_)
       refine hn5 _ ((k + 1, m)) (N - (k + 1)) (by omega) (by first | (simp only [go_sem, updAll_cons, updAll_nil]; done) | with_reducible rfl | rfl) ?_
       exact ⟨hml, M, hk2, rfl⟩
   have hdx : decide ((k : Int) < (N : Int)) = false := decide_eq_false (by omega)
   refine wlk_sreg fun KY hKY => ?_
   simp only [go_sem, c_f39_r6, hdx]
   apply hKY
   refine wlk_seq fun X11 hn11 he11 hr11 => ?_
   refine wc0 ?_
   refine wlk_exit ?_
   repeat (first | refine hn11 _ ?_ | refine he11 _ _ ?_ | refine he5 _ _ ?_ | refine hn4 _ ?_ | refine he4 _ ?_ | refine hf4 _ _ (by decide) ?_ | refine hn3 _ ?_ | refine he3 _ _ ?_ | refine hn2 _ ?_ | refine he2 _ _ ?_)
   refine wlk_sreg fun KY hKY => ?_
   simp only [go_sem, c_f39_r14]
   apply hKY
   refine wlk_ret ?_
   repeat (first | refine hr11 _ ?_ | refine hr5 _ ?_ | refine hr4 _ ?_ | refine hr3 _ ?_ | refine hr2 _ ?_)
   simp only [go_sem]
   exact .inr ⟨h0, m, hml, M, rfl⟩
theorem inc (k : Nat) (h : k ≤ 1000000000) : IntKind.i64.wrap ((k : Int) + 1) = ((k + 1 : Nat) : Int) := by rw [IntWalk.i64_in _ (by omega)]; omega
theorem nats_ints (xs : List Nat) : nats xs = ints (xs.map fun (n : Nat) => (n : Int)) := by simp [nats, ints]
def turnL : List Int → List Int → List Int
 | m, a :: b :: l => turnL ((m.set a.toNat b).set b.toNat a) l
 | m, _ => m
theorem turnL_len : ∀ (l m : List Int), (turnL m l).length = m.length
 | [], m => rfl
 | [_], m => rfl
 | a :: b :: l, m => by unfold turnL; rw [turnL_len l]; simp
theorem turn_step {l : List Int} {k : Nat} {a b : Int} (ha : l[2 * k]? = some a) (hb : l[2 * k + 1]? = some b) : ∀ m0, turnL m0 (l.take (2 * (k + 1))) = ((turnL m0 (l.take (2 * k))).set a.toNat b).set b.toNat a := by
 induction k generalizing l with
 | zero =>
   intro m0
   match l, ha, hb with
   | x :: y :: l, ha, hb =>
     simp at ha hb
     subst ha; subst hb
     simp [turnL]
 | succ k ih =>
   intro m0
   match l, ha, hb with
   | [], ha, _ => simp at ha
   | [x], ha, _ => simp at ha
   | x :: y :: l, ha, hb =>
     have ha' : l[2 * k]? = some a := by rw [show 2 * (k + 1) = 2 * k + 1 + 1 by omega] at ha; simpa using ha
     have hb' : l[2 * k + 1]? = some b := by rw [show 2 * (k + 1) + 1 = (2 * k + 1) + 1 + 1 by omega] at hb; simpa using hb
     rw [show 2 * (k + 1 + 1) = 2 * (k + 1) + 1 + 1 by omega, show 2 * (k + 1) = 2 * k + 1 + 1 by omega]
     simp only [List.take_succ_cons, turnL]
     exact ih ha' hb' _
theorem turn_end : ∀ (k : Nat) (l m : List Int), l.length ≤ 2 * k + 1 → turnL m (l.take (2 * k)) = turnL m l
 | 0, [], m, _ => rfl
 | 0, [x], m, _ => rfl
 | 0, _ :: _ :: _, m, h => by simp at h
 | k + 1, [], m, _ => by simp
 | k + 1, [x], m, _ => by rw [show 2 * (k + 1) = 2 * k + 1 + 1 by omega]; simp
 | k + 1, x :: y :: l, m, h => by
   rw [show 2 * (k + 1) = 2 * k + 1 + 1 by omega]
   simp only [List.take_succ_cons, turnL]
   exact turn_end k l _ (by simp at h; omega)
theorem turn_ok (m l : List Int) (hl : l.length ≤ 1000000) (hm : m.length ≤ 1000000) (hin : ∀ i, i < l.length → ∃ a : Nat, l.getD i 0 = a ∧ a < m.length) : ACalls Try.prog [] n_f57 [.sl 0 0 m.length 1, .imm 1 (ints l)] [some (ints m)] fun r h' => r = .tup [] ∧ h' = [some (ints (turnL m l))] := by
 refine go_f57 rfl ?_
 unfold c_f57 v_f57
 refine wlk_sreg fun KY hKY => ?_
 simp only [go_sem, c_f57_r0]
 apply hKY
 refine wlk_blk fun X1 hn1 he1 hf1 hr1 => ?_
 have h0 : m = turnL m (l.take (2 * 0)) := by simp [turnL]
 try simp only [go_sem]
 refine wlk_lp (α := Nat) [8] (fun k => [(4, .sc (.int .i64 ((2 * k + 1 : Nat) : Int)))]) (fun k => [some (ints (turnL m (l.take (2 * k))))]) (fun k q => 2 * k ≤ l.length + 1 ∧ q = l.length - k) (0) (l.length) rfl (by first | (simp only [go_sem, updAll_cons, updAll_nil]; done) | with_reducible rfl | rfl) (⟨by omega, rfl⟩) ?_
 rintro k q ⟨hk, rfl⟩ X2 hn2 he2 hr2
 simp only [go_sem, updAll_cons, updAll_nil]
 refine wlk_seq fun X3 hn3 he3 hr3 => ?_
 rcases Nat.lt_or_ge (2 * k + 1) l.length with hk2 | hk2
 · have hdy : decide (((2 * k + 1 : Nat) : Int) < (l.length : Int)) = true := decide_eq_true (by omega)
   refine wlk_sreg fun KY hKY => ?_
   simp only [go_sem, c_f57_r1, ints_len, hdy]
   apply hKY
   refine wc1 ?_
   refine wlk_skip ?_
   repeat (first | refine hn3 _ ?_ | refine he3 _ _ ?_ | refine he2 _ _ ?_ | refine hn1 _ ?_ | refine he1 _ ?_ | refine hf1 _ _ (by decide) ?_)
   refine wlk_seq fun X4 hn4 he4 hr4 => ?_
   refine wlk_blk fun X5 hn5 he5 hf5 hr5 => ?_
   have hk0 : 2 * k < l.length := by omega
   obtain ⟨a, ha, haN⟩ := hin (2 * k) hk0
   obtain ⟨b, hb, hbN⟩ := hin (2 * k + 1) hk2
   have hd1 : IntKind.i64.wrap (((2 * k + 1 : Nat) : Int) - 1) = ((2 * k : Nat) : Int) := by rw [IntWalk.i64_in _ (by omega)]; omega
   have hga : (ints l)[2 * k]? = some (.sc (.int .i64 (a : Int))) := by rw [ints_get hk0, ha]
   have hgb : (ints l)[2 * k + 1]? = some (.sc (.int .i64 (b : Int))) := by rw [ints_get hk2, hb]
   have hla : l[2 * k]? = some (a : Int) := by rw [← ha, List.getD_eq_getElem?_getD, List.getElem?_eq_getElem hk0]; rfl
   have hlb : l[2 * k + 1]? = some (b : Int) := by rw [← hb, List.getD_eq_getElem?_getD, List.getElem?_eq_getElem hk2]; rfl
   have hst := turn_step hla hlb m
   rw [Int.toNat_natCast, Int.toNat_natCast] at hst
   have hlen := turnL_len (l.take (2 * k)) m
   generalize hM : turnL m (l.take (2 * k)) = M at hst hlen
   refine wlk_draw fun KY hKY => ?_
   simp only [go_sem, c_f57_r2, hd1, hga, hgb, hk0, hk2, ints_len, haN, hbN, hlen, List.length_set, ← hst]
   apply hKY
   repeat (first | refine hn5 _ ?_ | refine he5 _ ?_ | refine hf5 _ _ (by decide) ?_ | refine hn4 _ ?_ | refine he4 _ _ ?_ | refine hn3 _ ?_ | refine he3 _ _ ?_ | refine he2 _ _ ?_ | refine hn1 _ ?_ | refine he1 _ ?_ | refine hf1 _ _ (by decide) ?_)
   have hi2 : IntKind.i64.wrap (((2 * k + 1 : Nat) : Int) + 2) = ((2 * (k + 1) + 1 : Nat) : Int) := by rw [IntWalk.i64_in _ (by omega)]; omega
   refine wlk_reg fun KY hKY => ?_
   simp only [go_sem, c_f57_r3, hi2]
   apply hKY
   repeat (first | refine hn5 _ ?_ | refine he5 _ ?_ | refine hf5 _ _ (by decide) ?_ | refine hn4 _ ?_ | refine he4 _ _ ?_ | refine hn3 _ ?_ | refine he3 _ _ ?_)
   refine hn2 _ (k + 1) (l.length - (k + 1)) (by omega) (by first | (simp only [go_sem, updAll_cons, updAll_nil]; done) | with_reducible rfl | rfl) ?_
   exact ⟨by omega, rfl⟩
 have hdx : decide (((2 * k + 1 : Nat) : Int) < (l.length : Int)) = false := decide_eq_false (by omega)
 refine wlk_sreg fun KY hKY => ?_
 simp only [go_sem, c_f57_r1, ints_len, hdx]
 apply hKY
 refine wc0 ?_
 refine wlk_exit ?_
 repeat (first | refine hn3 _ ?_ | refine he3 _ _ ?_ | refine he2 _ _ ?_ | refine hn1 _ ?_ | refine he1 _ ?_ | refine hf1 _ _ (by decide) ?_)
 rw [turn_end k l m (by omega)]
 simp only [go_sem]
theorem turnL_mf {E : Nat → Nat → Prop} : ∀ (l : List Nat) (m : List Int), EP E l → l.Nodup → (∀ y ∈ l, y < m.length) → ∀ u, mf (turnL m (l.map fun x : Nat => (x : Int))) u = if u ∈ l then (par l u : Int) else mf m u
 | [], m, _, _, _, u => by simp [turnL]
 | [_], m, h, _, _, u => h.elim
 | a :: b :: l, m, h, hn, hl, u => by
   simp only [List.nodup_cons, List.mem_cons, not_or] at hn
   obtain ⟨⟨hab, hal⟩, hbl, hnl⟩ := hn
   have ha := hl a (by simp)
   have hb := hl b (by simp)
   have ih := turnL_mf l ((m.set a (b : Int)).set b (a : Int)) h.2 hnl (fun y hy => by simp; exact hl y (by simp [hy])) u
   simp only [List.map_cons, turnL, Int.toNat_natCast]
   rw [ih]
   have e2 : mf ((m.set a (b : Int)).set b (a : Int)) u = if u = b then (a : Int) else if u = a then (b : Int) else mf m u := by
    rw [mf_set (by simp; omega), mf_set ha]
   have ep : par (a :: b :: l) u = if u = a then b else if u = b then a else par l u := rfl
   rw [ep]
   by_cases h1 : u = a
   · subst h1
     rw [if_neg hal, e2, if_neg hab, if_pos rfl, if_pos (by simp), if_pos rfl]
   · by_cases h2 : u = b
     · subst h2
       rw [if_neg hbl, e2, if_pos rfl, if_pos (by simp), if_neg h1, if_pos rfl]
     · by_cases h3 : u ∈ l
       · rw [if_pos h3, if_pos (by simp [h3]), if_neg h1, if_neg h2]
       · rw [if_neg h3, e2, if_neg h2, if_neg h1, if_neg (by simp [h1, h2, h3])]
theorem enlarge_ok (nr : List (List Nat)) {n : Nat} {E : Nat → Nat → Prop} {m : List Int} (h0 : 0 < n) (hnr : nr.length = n) (hml : m.length = n) (hn : n ≤ 4096) (hrow : ∀ v, v < n → (nr.getD v []).length ≤ 1000000) (M : Mf n E (mf m)) (hE : ∀ v w, v < n → (w ∈ nr.getD v [] ↔ E v w)) :
    ACalls Try.prog [] n_f40 [.imm 1 (rowsI nr), .sl 0 0 n 1] [some (ints m)] fun r h' => ∃ (m' : List Int) (S : FS) (a b : Int), m'.length = n ∧ Mf n E (mf m') ∧ Inv n E (mf m') S ∧ Lk E S [] ∧ r = .tup [.own (some 1) (ints (labs n S)), .agg [.sc (.int .i64 a), .sc (.int .i64 b)]] ∧ h' = [some (ints m')] := by
  refine go_f40 rfl ?_
  unfold c_f40 v_f40
  refine wlk_sreg fun KY hKY => ?_
  simp only [go_sem, c_f40_r0]
  apply hKY
  refine wlk_sreg fun KY hKY => ?_
  simp only [go_sem, c_f40_r1]
  apply hKY
  refine wlk_blk fun X1 hn1 he1 hf1 hr1 => ?_
  try simp only [go_sem]
  refine wlk_lp (α := List Int × Int × Int) [7, 8, 9, 26] (fun (m, a, b) => [(6, .own none [.sc (.int .i64 a), .sc (.int .i64 b)])]) (fun (m, a, b) => [some (ints m)]) (fun (m, a, b) q => m.length = n ∧ Mf n E (mf m) ∧ q = fre n (mf m)) ((m, 0, 0)) (fre n (mf m)) rfl (by first | (simp only [go_sem, updAll_cons, updAll_nil]; done) | with_reducible rfl | rfl) (⟨hml, M, rfl⟩) ?_
  rintro ⟨m, a, b⟩ q ⟨hml, M, rfl⟩ X2 hn2 he2 hr2
  simp only [go_sem, updAll_cons, updAll_nil]
  have hS := search_ok nr hnr hml hn hrow M hE
  refine wlk_blk fun X3 hn3 he3 hf3 hr3 => ?_
  refine wlk_sreg fun KY hKY => ?_
  simp only [go_sem, c_f40_r2]
  have htk : List.take n (ints m) = ints m := List.take_of_length_le (by rw [ints_len]; omega)
  refine call_view rfl (by simp only [go_sem, hml, Nat.le_refl, htk] <;> rfl) (hS.mono ?_)
  rintro rr hh ⟨rfl, lk, ⟨l, hA, rfl⟩ | ⟨S, hI, hL, rfl⟩⟩
  · refine ⟨?_, ?_, ?_, ?_⟩
    iterate 3 (first | rfl | simp only [go_sem])
    have hT := turn_ok m (l.map fun x : Nat => (x : Int)) (by
      have := nodup_le (m := List.range n) hA.nd fun x hx => List.mem_range.2 (hA.lt x hx)
      simp at this ⊢; omega) (by omega) (fun i hi => by
        rw [List.length_map] at hi
        exact ⟨l[i], by simp [hi], by rw [hml]; exact hA.lt _ (List.getElem_mem hi)⟩)
    rw [← nats_ints, hml] at hT
    have hmf := turnL_mf l m hA.ep hA.nd (fun y hy => by rw [hml]; exact hA.lt y hy)
    obtain ⟨M2, hfr, r, hrn, hr1, hr2⟩ := turn_mf M hA (mt' := mf (turnL m (l.map fun x : Nat => (x : Int)))) (fun u hu => by rw [hmf u, if_pos hu]) (fun u hu => by rw [hmf u, if_neg hu])
    have hless := fre_less hrn hr1 hr2 hfr
    have hlen2 : (turnL m (l.map fun x : Nat => (x : Int))).length = n := by rw [turnL_len, hml]
    cases l with
    | nil => obtain ⟨z, hz, _⟩ := hA.fr; simp at hz
    | cons c l =>
      have hnn : nats (c :: l) = .sc (.int .i64 (c : Int)) :: nats l := rfl
      simp only [go_sem]
      apply hKY
      refine wlk_sreg fun KY hKY => ?_
      simp only [go_sem, c_f40_r3]
      apply hKY
      refine wlk_seq fun X4 hn4 he4 hr4 => ?_
      refine wlk_sreg fun KY hKY => ?_
      simp only [go_sem, c_f40_r4, hnn]
      apply hKY
      refine wc0 ?_
      refine wlk_skip ?_
      repeat (first | refine hn4 _ ?_ | refine he4 _ _ ?_ | refine hn3 _ ?_ | refine he3 _ ?_ | refine hf3 _ _ (by decide) ?_ | refine he2 _ _ ?_ | refine hn1 _ ?_ | refine he1 _ ?_ | refine hf1 _ _ (by decide) ?_)
      simp only [go_sem]
      rw [← hnn]
      refine wlk_reg fun KY hKY => ?_
      simp only [go_sem, c_f40_r6]
      apply call_gen [] [0] true none rfl
      iterate 8 (first | (simp only [go_sem, watchIn] <;> rfl) | rfl)
      refine (hT).mono ?_
      rintro _ _ ⟨rfl, rfl⟩
      refine ⟨Nat.le_of_ble_eq_true rfl, (fun _ => by simp only [go_sem, flatH, and_self]), ?_⟩
      simp only [go_sem, callOut, AState.after]
      have hq2 : fre n (mf (turnL m ((c :: l).map fun x : Nat => (x : Int)))) < fre n (mf m) := hless
      apply hKY
      repeat (first | refine hn4 _ ?_ | refine he4 _ _ ?_ | refine hn3 _ ?_ | refine he3 _ ?_ | refine hf3 _ _ (by decide) ?_)
      refine hn2 _ ((turnL m ((c :: l).map fun x : Nat => (x : Int)), IntKind.i64.wrap (a + 1), max b lk)) (fre n (mf (turnL m ((c :: l).map fun x : Nat => (x : Int))))) (by omega) (by first | (simp only [go_sem, updAll_cons, updAll_nil]; done) | with_reducible rfl | rfl) ?_
      exact ⟨hlen2, M2, rfl⟩
  · refine ⟨?_, ?_, ?_, ?_⟩
    iterate 3 (first | rfl | simp only [go_sem])
    simp only [go_sem]
    apply hKY
    refine wlk_sreg fun KY hKY => ?_
    simp only [go_sem, c_f40_r3]
    apply hKY
    refine wlk_seq fun X5 hn5 he5 hr5 => ?_
    refine wlk_sreg fun KY hKY => ?_
    simp only [go_sem, c_f40_r4]
    apply hKY
    refine wc1 ?_
    refine wlk_sdraw fun KY hKY => ?_
    simp only [go_sem, c_f40_r5]
    apply hKY
    refine wlk_ret ?_
    repeat (first | refine hr5 _ ?_ | refine hr3 _ ?_ | refine hr2 _ ?_ | refine hr1 _ ?_)
    simp only [go_sem]
    exact ⟨m, S, _, _, hml, M, hI, hL, rfl, rfl⟩
theorem enlarge0_ok {E : Nat → Nat → Prop} (M : Mf 0 E (mf [])) :
    ACalls Try.prog [] n_f40 [.imm 1 (rowsI []), .imm 1 (ints [])] [] fun r h' => ∃ (S : FS) (a b : Int), Inv 0 E (mf []) S ∧ Lk E S [] ∧ r = .tup [.own (some 1) (ints (labs 0 S)), .agg [.sc (.int .i64 a), .sc (.int .i64 b)]] ∧ h' = [] := by
  have hS := search_ok [] (n := 0) (E := E) (m := []) rfl rfl (by omega) (fun v hv => by omega) M (fun v w hv => by omega)
  refine go_f40 rfl ?_
  unfold c_f40 v_f40
  refine wlk_sreg fun KY hKY => ?_
  simp only [go_sem, c_f40_r0]
  apply hKY
  refine wlk_sreg fun KY hKY => ?_
  simp only [go_sem, c_f40_r1]
  apply hKY
  refine wlk_blk fun X1 hn1 he1 hf1 hr1 => ?_
  try simp only [go_sem]
  refine wlk_lp (α := Int × Int) [7, 8, 9, 26] (fun (a, b) => [(6, .own none [.sc (.int .i64 a), .sc (.int .i64 b)])]) (fun (a, b) => []) (fun (a, b) q => q = 0) ((0, 0)) (0) rfl (by first | (simp only [go_sem, updAll_cons, updAll_nil]; done) | with_reducible rfl | rfl) (rfl) ?_
  rintro ⟨a, b⟩ q rfl X2 hn2 he2 hr2
  simp only [go_sem, updAll_cons, updAll_nil]
  refine wlk_blk fun X3 hn3 he3 hf3 hr3 => ?_
  refine wlk_sreg fun KY hKY => ?_
  simp only [go_sem, c_f40_r2]
  refine call_view rfl (by simp only [go_sem] <;> rfl) (hS.mono ?_)
  rintro rr hh ⟨rfl, lk, ⟨l, hA, rfl⟩ | ⟨S, hI, hL, rfl⟩⟩
  · exfalso
    obtain ⟨z, hz, _⟩ := hA.fr
    have := hA.lt z hz
    omega
  · refine ⟨?_, ?_, ?_, ?_⟩
    iterate 3 (first | rfl | simp only [go_sem])
    simp only [go_sem]
    apply hKY
    refine wlk_sreg fun KY hKY => ?_
    simp only [go_sem, c_f40_r3]
    apply hKY
    refine wlk_seq fun X4 hn4 he4 hr4 => ?_
    refine wlk_sreg fun KY hKY => ?_
    simp only [go_sem, c_f40_r4]
    apply hKY
    refine wc1 ?_
    refine wlk_sdraw fun KY hKY => ?_
    simp only [go_sem, c_f40_r5]
    apply hKY
    refine wlk_ret ?_
    repeat (first | refine hr4 _ ?_ | refine hr3 _ ?_ | refine hr2 _ ?_ | refine hr1 _ ?_)
    simp only [go_sem]
    exact ⟨S, _, _, hI, hL, rfl⟩
theorem near_row {N : Nat} (es : Es) {v : Nat} (hv : v < N) : (near N es).getD v [] = nearOf es v := by
 rw [List.getD_eq_getElem?_getD, near_get hv]; rfl
theorem near_e {N : Nat} (es : Es) : ∀ v w, v < N → (w ∈ (near N es).getD v [] ↔ adj es v w) := fun v w hv => by
 rw [near_row es hv]; exact nearOf_mem
theorem near_r {N : Nat} {es : Es} (g : GR N es) : ∀ v, v < N → ((near N es).getD v []).length ≤ 1000000 := fun v hv => by
 rw [near_row es hv]; exact Nat.le_trans (nearOf_len g v) (by decide)
theorem largest_ok {N : Nat} {es : Es} (g : GR N es) : ACalls Try.prog [] n_f23 [.agg [.sc (.int .i64 (N : Int)), .imm 2 (twos (castE es))]] [] fun r h' => ∃ (m : List Int) (S : FS) (a b : Int), m.length = N ∧ Mf N (adj es) (mf m) ∧ Inv N (adj es) (mf m) S ∧ Lk (adj es) S [] ∧ ((N = 0 ∧ r = .tup [.own (some 1) [], .agg [.sc (.int .i64 a), .sc (.int .i64 b)], .sc (.int .i64 0)] ∧ h' = []) ∨ (0 < N ∧ r = .tup [.sl 0 0 N 1, .agg [.sc (.int .i64 a), .sc (.int .i64 b)], .sc (.int .i64 0)] ∧ h' = [some (ints m)])) := by
 have hN := g.hn
 have hr := rightB_GR g
 refine go_f23 rfl ?_
 unfold c_f23 v_f23
 refine wlk_sreg fun KY hKY => ?_
 simp only [go_sem, c_f23_r0]
 apply hKY
 refine wlk_seq fun X1 hn1 he1 hr1 => ?_
 refine wlk_sreg fun KY hKY => ?_
 simp only [go_sem, c_f23_r1]
 refine call_view rfl (by simp only [go_sem] <;> rfl) ((right_ok N (castE es)).mono ?_)
 rintro rr hh ⟨rfl, rfl⟩
 refine ⟨rfl, rfl, rfl, ?_⟩
 simp only [go_sem, hr]
 apply hKY
 refine wc0 ?_
 refine wlk_skip ?_
 repeat (first | refine hn1 _ ?_ | refine he1 _ _ ?_)
 refine wlk_sreg fun KY hKY => ?_
 simp only [go_sem, c_f23_r3]
 apply call_gen [] [] false none rfl
 iterate 8 (first | (simp only [go_sem, watchIn] <;> rfl) | rfl)
 refine (gfirst_ok g).mono ?_
 rintro _ _ (⟨h0, rfl, rfl⟩ | ⟨h0, m, hml, M, rfl, rfl⟩)
 · subst h0
   refine ⟨Nat.le_of_ble_eq_true rfl, (fun hh => by cases hh), ?_⟩
   simp only [go_sem, callOut, AState.after]
   apply hKY
   refine sem_nil [0, 5] 1 (by simp only [go_sem]) ?_
   simp only [go_sem]
   have M0 : Mf 0 (adj es) (mf []) := g.none fun v => by simp [mf]
   have hE0 := enlarge0_ok M0
   have hnr : near 0 es = [] := rfl
   refine wlk_sreg fun KY hKY => ?_
   simp only [go_sem, c_f23_r4]
   apply call_gen [] [] true none rfl
   iterate 8 (first | (simp only [go_sem, watchIn] <;> rfl) | rfl)
   refine (lists_ok g).mono ?_
   rintro _ _ ⟨rfl, rfl⟩
   refine ⟨Nat.le_of_ble_eq_true rfl, (fun _ => by simp only [go_sem, flatH, and_self, hnr]), ?_⟩
   simp only [go_sem, callOut, AState.after, hnr]
   rw [show AVal.own (some 1) (rowsO []) = .own (some 1) (rowsO []) from rfl]
   apply call_gen [] [] true none rfl
   iterate 8 (first | (simp only [go_sem, watchIn] <;> rfl) | rfl)
   refine (hE0).mono ?_
   rintro _ _ ⟨S, a, b, hI, hL, rfl, rfl⟩
   refine ⟨Nat.le_of_ble_eq_true rfl, (fun _ => by simp only [go_sem, flatH, and_self]), ?_⟩
   simp only [go_sem, callOut, AState.after]
   apply hKY
   refine wlk_sdraw fun KY hKY => ?_
   simp only [go_sem, c_f23_r5]
   apply hKY
   refine wlk_ret ?_
   repeat (first | refine hr1 _ ?_)
   simp only [go_sem]
   exact ⟨[], S, _, _, rfl, M0, hI, hL, .inl rfl⟩
 · refine ⟨Nat.le_of_ble_eq_true rfl, (fun hh => by cases hh), ?_⟩
   simp only [go_sem, callOut, AState.after]
   apply hKY
   have hE1 := enlarge_ok (near N es) h0 (near_len N es) hml hN (near_r g) M (near_e es)
   refine wlk_sreg fun KY hKY => ?_
   simp only [go_sem, c_f23_r4]
   apply call_gen [] [] true none rfl
   iterate 8 (first | (simp only [go_sem, watchIn] <;> rfl) | rfl)
   refine (lists_ok g).mono ?_
   rintro _ _ ⟨rfl, rfl⟩
   refine ⟨Nat.le_of_ble_eq_true rfl, (fun _ => by simp only [go_sem, flatH, and_self]), ?_⟩
   simp only [go_sem, callOut, AState.after]
   apply call_gen [] [0] true none rfl
   iterate 8 (first | (simp only [go_sem, watchIn] <;> rfl) | rfl)
   refine (hE1).mono ?_
   rintro _ _ ⟨m', S, a, b, hml', M', hI, hL, rfl, rfl⟩
   refine ⟨Nat.le_of_ble_eq_true rfl, (fun _ => by simp only [go_sem, flatH, and_self]), ?_⟩
   simp only [go_sem, callOut, AState.after]
   apply hKY
   refine wlk_sdraw fun KY hKY => ?_
   simp only [go_sem, c_f23_r5]
   apply hKY
   refine wlk_ret ?_
   repeat (first | refine hr1 _ ?_)
   simp only [go_sem]
   exact ⟨m', S, _, _, hml', M', hI, hL, .inr ⟨h0, rfl, rfl⟩⟩
theorem ints_nats (l : List Nat) : ints (l.map fun n : Nat => (n : Int)) = nats l := by simp [ints, nats]
theorem sort_ok (nw : List Nat) (h : nw.length ≤ 1000000) : ACalls Try.prog [] n_f72 [.sl 0 0 nw.length 1] [some (nats nw)] fun r h' => r = .tup [] ∧ h' = [some (nats (nw.mergeSort fun x y => decide (x ≤ y)))] := by
 have e : (nw.mergeSort fun x y => decide (x ≤ y)).map (fun n : Nat => (n : Int)) = (nw.map fun n : Nat => (n : Int)).mergeSort fun x y => decide (x ≤ y) :=
  List.map_mergeSort fun a _ b _ => by simp
 have := acalls_row (P := Try.prog) (f := n_f72) (by kernel_rfl) (fun zs => zs.mergeSort fun x y => decide (x ≤ y)) (fun zs => by simp) (nw.map fun n : Nat => (n : Int))
  (fun blk off cap w hH hb => Go.Proofs.Try.slices_Sort_int blk off cap _ w hH hb (by simp; omega))
 rw [ints_nats, ← e, ints_nats, List.length_map] at this
 exact this
def pRest (nr : List (List Nat)) (D : List Bool) : List AVal := [.imm 1 (rowsI nr), .own (some 1) (bools D), .dead, .own (some 1) []]
theorem piece_ok {n : Nat} {es : Es} (g : GR n es) (D : List Bool) (hD : D.length = n) (v : Nat) (hv : v < n) (hDv : D.getD v false = false) :
    ACalls Try.prog [] n_f61 [.ptr 0 0, .sc (.int .i64 (v : Int))] [some (pRest (near n es) D)] fun r h' => ∃ p D', PieceOf n es D v D' p ∧ r = .own (some 1) (nats p) ∧ h' = [some (pRest (near n es) D')] := by
  have hn := g.hn
  have hes := g.adj_lt
  unfold pRest
  refine go_f61 rfl ?_
  unfold c_f61 v_f61
  refine wlk_sreg fun KY hKY => ?_
  simp only [go_sem, c_f61_r0]
  apply hKY
  refine wlk_sreg fun KY hKY => ?_
  simp only [go_sem, c_f61_r1]
  apply hKY
  refine wlk_sreg fun KY hKY => ?_
  simp only [go_sem, c_f61_r2]
  apply hKY
  simp only [go_sem]
  refine sem_nil [1, 0, 2] 1 (by simp only [go_sem]) ?_
  refine wlk_sreg fun KY hKY => ?_
  simp only [go_sem, c_f61_r3]
  apply call_gen [] [0] false none rfl
  iterate 8 (first | (simp only [go_sem, watchIn] <;> rfl) | rfl)
  refine (come_ok (near n es) (D, [], []) v (by rw [hD]; exact hv) (Nat.zero_le _) (Nat.zero_le _)).mono ?_
  rintro _ _ ⟨rfl, rfl⟩
  unfold pObj
  refine ⟨Nat.le_of_ble_eq_true rfl, (fun hh => by cases hh), ?_⟩
  simp only [go_sem, callOut, AState.after]
  apply hKY
  refine wlk_seq fun X1 hn1 he1 hr1 => ?_
  refine wlk_blk fun X2 hn2 he2 hf2 hr2 => ?_
  try simp only [go_sem]
  refine wlk_lp (α := DS) [6, 8, 22, 55, 56, 57, 58] (fun s => []) (fun s => [some (pObj (near n es) s)]) (fun s q => q = 2 * undone s.1 + s.2.2.length ∧ WJ n es D v s) (come (D, [], []) v) (2 * undone (come (D, [], []) v).1 + (come (D, [], []) v).2.2.length) rfl (by first | (simp only [go_sem, updAll_cons, updAll_nil]; done) | with_reducible rfl | rfl) (⟨rfl, WJ.start hD hv hDv⟩) ?_
  rintro s q ⟨hq, w⟩ X3 hn3 he3 hr3
  simp only [go_sem, updAll_cons, updAll_nil]
  have hsz := w.size
  have hrl := w.rl
  have hwd := w.len
  unfold pObj
  obtain ⟨d, nw, r⟩ := s
  simp only at hsz hrl hq hwd
  simp only [go_sem]
  refine wlk_seq fun X4 hn4 he4 hr4 => ?_
  rcases List.eq_nil_or_concat r with rfl | ⟨r', u, rfl⟩
  · refine wlk_sreg fun KY hKY => ?_
    simp only [go_sem, c_f61_r4, show ((0:Nat):Int) = 0 from rfl, Int.lt_irrefl, List.length_nil]
    apply hKY
    refine wc0 ?_
    refine wlk_exit ?_
    repeat (first | refine hn4 _ ?_ | refine he4 _ _ ?_ | refine he3 _ _ ?_ | refine hn2 _ ?_ | refine he2 _ ?_ | refine hf2 _ _ (by decide) ?_ | refine hn1 _ ?_ | refine he1 _ _ ?_)
    have hnw : 0 < nw.length := List.length_pos_of_mem w.self
    refine wlk_sreg fun KY hKY => ?_
    simp only [go_sem, c_f61_r12]
    apply call_gen [.bo] [] false (some [1, 0, 2]) rfl
    iterate 8 (first | (simp only [go_sem, watchIn, hnw] <;> rfl) | rfl)
    refine (sort_ok nw (by omega)).mono ?_
    rintro _ _ ⟨rfl, rfl⟩
    refine ⟨Nat.le_of_ble_eq_true rfl, (fun hh => by cases hh), ?_⟩
    simp only [go_sem, callOut, AState.after, List.length_mergeSort]
    apply hKY
    refine wlk_sreg fun KY hKY => ?_
    simp only [go_sem, c_f61_r13]
    apply hKY
    refine wlk_ret ?_
    repeat (first | refine hr4 _ ?_ | refine hr3 _ ?_ | refine hr2 _ ?_ | refine hr1 _ ?_)
    simp only [go_sem]
    refine ⟨nw.mergeSort fun x y => decide (x ≤ y), d, w.piece (List.mergeSort_perm _ _) ?_, rfl, rfl⟩
    have := List.pairwise_mergeSort (le := fun x y => decide (x ≤ y)) (fun a b c h1 h2 => by simp at *; omega) (fun a b => by simp; omega) nw
    exact this.imp fun h => by simpa using h
  · rw [List.concat_eq_append] at *
    have hlen : (r' ++ [u]).length = r'.length + 1 := by simp
    have hpos : (0 : Int) < ((r'.length + 1 : Nat) : Int) := by omega
    have hget : (nats (r' ++ [u]))[r'.length]? = some (.sc (.int .i64 (u : Int))) := by simp [nats]
    have hcut : cutCells (nats (r' ++ [u])) 1 0 r'.length = nats r' := by rw [cut_nats]; simp
    have hun : u < n := (w.now u (w.rest u (by simp))).1
    have hll : r'.length < r'.length + 1 := Nat.lt_succ_self _
    have hll2 : r'.length ≤ r'.length + 1 := Nat.le_succ _
    have hdec := decS (show r'.length < 4611686018427387904 by omega)
    refine wlk_sreg fun KY hKY => ?_
    simp only [go_sem, c_f61_r4, hlen, hpos]
    apply hKY
    refine wc1 ?_
    refine wlk_skip ?_
    repeat (first | refine hn4 _ ?_ | refine he4 _ _ ?_ | refine he3 _ _ ?_ | refine hn2 _ ?_ | refine he2 _ ?_ | refine hf2 _ _ (by decide) ?_ | refine hn1 _ ?_ | refine he1 _ _ ?_)
    refine wlk_blk fun X5 hn5 he5 hf5 hr5 => ?_
    refine wlk_sdraw fun KY hKY => ?_
    simp only [go_sem, c_f61_r5, hlen, hdec, hget, hll]
    apply hKY
    refine wlk_sdraw fun KY hKY => ?_
    simp only [go_sem, c_f61_r6, hlen, hdec, hcut, hll2]
    apply hKY
    have hnr := rowsI_get (near_get (es := es) hun)
    refine wlk_sreg fun KY hKY => ?_
    simp only [go_sem, c_f61_r7, hnr, near_len, hun]
    apply hKY
    obtain ⟨w1, hm1⟩ := w.step hes
    have w2 : WI n es D v (d, nw, r') := ⟨w.len, w.done, w.nd, w.now, fun x h => w.rest x (List.mem_append_left _ h), by have := w.rl; simp at this ⊢; omega, w.conn⟩
    have hu : u ∈ nw := w.rest u (List.mem_append_right _ (List.mem_singleton.2 rfl))
    have hgo : Gone es (fun x => x = u) (d, nw, r') := fun x hx hr hne y hy => w.gone x hx (fun e => by
      rcases List.mem_append.1 e with e | e
      · exact hr e
      · simp at e; exact hne e) (fun e => e) y hy
    have hco := comes_ok hes w2 hu hgo
    have hrow : (nearOf es u).length ≤ 131072 := by
      have h1 := low_len es u
      have h2 := high_len es u
      have := g.hm
      simp only [nearOf, List.length_append]; omega
    refine wlk_blk fun X6 hn6 he6 hf6 hr6 => ?_
    try simp only [go_sem]
    refine wlk_lp (α := Nat) [8, 58] (fun k => [(57, .sc (.int .i64 (k : Int)))]) (fun k => [some (pObj (near n es) (comes (d, nw, r') ((nearOf es u).take k)))]) (fun k q => q = (nearOf es u).length - k ∧ k ≤ (nearOf es u).length) (0) ((nearOf es u).length) rfl (by first | (simp only [go_sem, updAll_cons, updAll_nil]; done) | with_reducible rfl | rfl) (⟨by omega, by omega⟩) ?_
    rintro k q ⟨hq2, hk⟩ X7 hn7 he7 hr7
    simp only [go_sem, updAll_cons, updAll_nil]
    obtain ⟨x1, x2, x3, x4, x5, x6⟩ := hco k hk
    refine wlk_sreg fun KY hKY => ?_
    simp only [go_sem, c_f61_r8]
    apply hKY
    refine wlk_seq fun X8 hn8 he8 hr8 => ?_
    by_cases hk2 : k < (nearOf es u).length
    · refine wc1 ?_
      refine wlk_skip ?_
      repeat (first | refine hn8 _ ?_ | refine he8 _ _ ?_ | refine he7 _ _ ?_ | refine hn6 _ ?_ | refine he6 _ ?_ | refine hf6 _ _ (by decide) ?_ | refine hn5 _ ?_ | refine he5 _ ?_ | refine hf5 _ _ (by decide) ?_ | refine hn4 _ ?_ | refine he4 _ _ ?_)
      refine wlk_seq fun X9 hn9 he9 hr9 => ?_
      refine wlk_blk fun X10 hn10 he10 hf10 hr10 => ?_
      have hx : (nearOf es u)[k]? = some ((nearOf es u)[k]) := List.getElem?_eq_getElem hk2
      have hxn : (nats (nearOf es u))[k]? = some (.sc (.int .i64 (((nearOf es u)[k] : Nat) : Int))) := by simp [nats, hx]
      have hxl : (nearOf es u)[k] < n := (hes u _ (nearOf_mem.1 (List.getElem_mem hk2))).2
      have hcs := comes_snoc (d, nw, r') _ _ _ hx
      generalize (nearOf es u)[k] = x at hx hxn hxl hcs
      refine wlk_sreg fun KY hKY => ?_
      simp only [go_sem, c_f61_r9, hxn, hk2]
      apply hKY
      refine wlk_reg fun KY hKY => ?_
      simp only [go_sem, c_f61_r10]
      unfold pObj
      have y1 := x1.size
      have y2 := x1.rl
      apply call_gen [] [0] false none rfl
      iterate 8 (first | (simp only [go_sem, watchIn] <;> rfl) | rfl)
      refine (come_ok (near n es) (comes (d, nw, r') ((nearOf es u).take k)) x (by rw [x1.len]; exact hxl) (by omega) (by omega)).mono ?_
      rintro _ _ ⟨rfl, rfl⟩
      rw [← hcs]
      unfold pObj
      refine ⟨Nat.le_of_ble_eq_true rfl, (fun hh => by cases hh), ?_⟩
      simp only [go_sem, callOut, AState.after]
      apply hKY
      repeat (first | refine hn10 _ ?_ | refine he10 _ ?_ | refine hf10 _ _ (by decide) ?_ | refine hn9 _ ?_ | refine he9 _ _ ?_ | refine hn8 _ ?_ | refine he8 _ _ ?_ | refine he7 _ _ ?_ | refine hn6 _ ?_ | refine he6 _ ?_ | refine hf6 _ _ (by decide) ?_ | refine hn5 _ ?_ | refine he5 _ ?_ | refine hf5 _ _ (by decide) ?_ | refine hn4 _ ?_ | refine he4 _ _ ?_)
      refine wlk_reg fun KY hKY => ?_
      simp only [go_sem, c_f61_r11, incS (show k < 4611686018427387904 by omega)]
      apply hKY
      repeat (first | refine hn10 _ ?_ | refine he10 _ ?_ | refine hf10 _ _ (by decide) ?_ | refine hn9 _ ?_ | refine he9 _ _ ?_ | refine hn8 _ ?_ | refine he8 _ _ ?_)
      refine hn7 _ (k + 1) ((nearOf es u).length - (k + 1)) (by omega) (by first | (simp only [go_sem, updAll_cons, updAll_nil, pObj]; done) | with_reducible rfl | rfl) ?_
      exact ⟨rfl, hk2⟩
    · refine wc0 ?_
      refine wlk_exit ?_
      repeat (first | refine hn8 _ ?_ | refine he8 _ _ ?_ | refine he7 _ _ ?_ | refine hn6 _ ?_ | refine he6 _ ?_ | refine hf6 _ _ (by decide) ?_ | refine hn5 _ ?_ | refine he5 _ ?_ | refine hf5 _ _ (by decide) ?_ | refine hn4 _ ?_ | refine he4 _ _ ?_ | refine he3 _ _ ?_ | refine hn2 _ ?_ | refine he2 _ ?_ | refine hf2 _ _ (by decide) ?_ | refine hn1 _ ?_ | refine he1 _ _ ?_)
      obtain rfl : k = (nearOf es u).length := by omega
      rw [List.take_length] at *
      repeat (first | refine hn8 _ ?_ | refine he8 _ _ ?_ | refine he7 _ _ ?_ | refine hn6 _ ?_ | refine he6 _ ?_ | refine hf6 _ _ (by decide) ?_ | refine hn5 _ ?_ | refine he5 _ ?_ | refine hf5 _ _ (by decide) ?_ | refine hn4 _ ?_ | refine he4 _ _ ?_)
      refine hn3 _ (comes (d, nw, r') (nearOf es u)) (2 * undone (comes (d, nw, r') (nearOf es u)).1 + (comes (d, nw, r') (nearOf es u)).2.2.length) (by omega) (by first | (simp only [go_sem, updAll_cons, updAll_nil]; done) | with_reducible rfl | rfl) ?_
      exact ⟨rfl, w1⟩
def outD (n : Nat) (l : List Int) : List Bool := l.foldl (fun D v => if 0 ≤ v ∧ v < (n : Int) then D.set v.toNat true else D) (List.replicate n false)
theorem outD_snoc (n : Nat) (l : List Int) (k : Nat) (v : Int) (h : l[k]? = some v) : outD n (l.take (k + 1)) = if 0 ≤ v ∧ v < (n : Int) then (outD n (l.take k)).set v.toNat true else outD n (l.take k) := by
 rw [List.take_add_one, h]; simp [outD]
theorem outD_ok (n : Nat) (l : List Int) : (outD n l).length = n ∧ ∀ x, x < n → ((outD n l).getD x false = true ↔ (x : Int) ∈ l) := by
  have key : ∀ (l : List Int) (D : List Bool) (P : Nat → Prop), D.length = n → (∀ x, x < n → (D.getD x false = true ↔ P x)) →
      (l.foldl (fun D v => if 0 ≤ v ∧ v < (n : Int) then D.set v.toNat true else D) D).length = n ∧
      ∀ x, x < n → ((l.foldl (fun D v => if 0 ≤ v ∧ v < (n : Int) then D.set v.toNat true else D) D).getD x false = true ↔ P x ∨ (x : Int) ∈ l) := by
    intro l
    induction l with
    | nil => intro D P h1 h2; exact ⟨h1, fun x hx => by simpa using h2 x hx⟩
    | cons v l ih =>
      intro D P h1 h2
      simp only [List.foldl_cons]
      obtain ⟨i1, i2⟩ := ih (if 0 ≤ v ∧ v < (n : Int) then D.set v.toNat true else D) (fun x => P x ∨ (x : Int) = v) (by split <;> simp [h1]) (fun x hx => by
        split
        · rename_i hv
          rw [set_bool, h2 x hx, h1]
          constructor
          · rintro (h | h)
            · exact .inl h
            · exact .inr (by omega)
          · rintro (h | h)
            · exact .inl h
            · exact .inr (by omega)
        · rename_i hv
          rw [h2 x hx]
          constructor
          · exact .inl
          · rintro (h | h)
            · exact h
            · omega)
      refine ⟨i1, fun x hx => ?_⟩
      rw [i2 x hx, List.mem_cons, or_assoc]
  obtain ⟨h1, h2⟩ := key l (List.replicate n false) (fun _ => False) (by simp) (fun x hx => by simp [List.getD_eq_getElem?_getD, hx])
  exact ⟨h1, fun x hx => by rw [outD, h2 x hx]; simp⟩
theorem pieces_le {n : Nat} {es : Es} {O : Nat → Prop} {v : Nat} {D : List Bool} {ps : List (List Nat)} (w : OI n es O v D ps) : ps.length ≤ v := by
 have h : (ps.map fun p => p.headD 0).Pairwise (· < ·) := by
  refine List.pairwise_map.2 ?_
  refine w.heads.imp_of_mem fun {p q} hp hq h => ?_
  have h1 := w.ne p hp; have h2 := w.ne q hq
  cases p with
  | nil => exact absurd rfl h1
  | cons a p => cases q with
    | nil => exact absurd rfl h2
    | cons b q => exact h a rfl b rfl
 have h2 : ∀ x ∈ ps.map fun p => p.headD 0, x ∈ List.range v := by
  intro x hx
  obtain ⟨p, hp, rfl⟩ := List.mem_map.1 hx
  cases p with
  | nil => exact absurd rfl (w.ne _ hp)
  | cons a p => exact List.mem_range.2 (w.low _ hp a rfl)
 have := nodup_le (h.imp fun h => Nat.ne_of_lt h) h2
 simpa using this
theorem of_ok {n : Nat} {es : Es} (g : GR n es) (out : List Int) (ho : out.length ≤ 1000000000) :
    ACalls Try.prog [] n_f49 [.imm 1 (rowsI (near n es)), .imm 1 (ints out)] [] fun r h' => ∃ ps, IsPieces n es (fun v => (v : Int) ∈ out) ps ∧ r = .own (some 1) (rowsO ps) ∧ (h' : Heap).length ≤ 1 := by
  have hn := g.hn
  have hb1 : n * 1 ≤ 140737488355328 := by omega
  have hb0 : (n : Int) ≤ 9223372036854775807 := by omega
  refine go_f49 rfl ?_
  unfold c_f49 v_f49
  refine wlk_sreg fun KY hKY => ?_
  simp only [go_sem, c_f49_r0]
  apply hKY
  refine wlk_sreg fun KY hKY => ?_
  simp only [go_sem, c_f49_r1, near_len, hb1]
  repeat (simp (disch := omega) only [if_pos, if_neg, decide_eq_true, decide_eq_false, incS, nats_get, ints_get, near_len, hb1]; try simp only [go_sem, near_len, hb1])
  apply hKY
  simp only [go_sem]
  refine sem_sees [0, 5, 2] .dead (by simp only [go_sem]; rfl) rfl (Sees.dead _) ?_
  simp only [go_sem]
  refine sem_nil [0, 5, 3] 1 (by simp only [go_sem]) ?_
  simp only [go_sem]
  refine sem_share [0, 5] (by simp only [go_sem]; rfl) ?_
  simp only [go_sem]
  refine wlk_seq fun X1 hn1 he1 hr1 => ?_
  refine wlk_sreg fun KY hKY => ?_
  simp only [go_sem, c_f49_r2]
  apply hKY
  refine wlk_blk fun X2 hn2 he2 hf2 hr2 => ?_
  try simp only [go_sem]
  refine wlk_lp (α := Nat) [7, 19, 29] (fun k => [(18, .sc (.int .i64 (k : Int)))]) (fun k => [some (pRest (near n es) (outD n (out.take k)))]) (fun k q => k ≤ out.length ∧ q = out.length - k) (0) (out.length) rfl (by first | (simp only [go_sem, updAll_cons, updAll_nil]; done) | with_reducible rfl | rfl) (⟨by omega, rfl⟩) ?_
  rintro k q ⟨hk, rfl⟩ X3 hn3 he3 hr3
  simp only [go_sem, updAll_cons, updAll_nil]
  unfold pRest
  refine wlk_sreg fun KY hKY => ?_
  simp only [go_sem, c_f49_r3]
  apply hKY
  refine wlk_seq fun X4 hn4 he4 hr4 => ?_
  by_cases hk2 : k < out.length
  · refine wc1 ?_
    refine wlk_skip ?_
    repeat (first | refine hn4 _ ?_ | refine he4 _ _ ?_ | refine he3 _ _ ?_ | refine hn2 _ ?_ | refine he2 _ ?_ | refine hf2 _ _ (by decide) ?_ | refine hn1 _ ?_ | refine he1 _ _ ?_)
    refine wlk_seq fun X5 hn5 he5 hr5 => ?_
    refine wlk_blk fun X6 hn6 he6 hf6 hr6 => ?_
    have hx : out[k]? = some (out[k]) := List.getElem?_eq_getElem hk2
    have hxg : out.getD k 0 = out[k] := by simp [List.getD_eq_getElem?_getD, hx]
    generalize out[k] = v at hx hxg
    refine wlk_sreg fun KY hKY => ?_
    simp only [go_sem, c_f49_r4, ints_get hk2, hxg, hk2]
    apply hKY
    have hst := outD_snoc n out k v hx
    have hlen := (outD_ok n (out.take k)).1
    by_cases hv : 0 ≤ v
    · by_cases hvn : v < n
      · rw [if_pos ⟨hv, hvn⟩] at hst
        refine wlk_sreg fun KY hKY => ?_
        simp only [go_sem, c_f49_r5, hv, near_len, hvn]
        apply hKY
        refine wc1 ?_
        obtain ⟨m, rfl⟩ : ∃ m : Nat, v = m := ⟨v.toNat, by omega⟩
        have hm : m < n := by omega
        rw [Int.toNat_natCast] at hst
        refine wlk_reg fun KY hKY => ?_
        simp only [go_sem, c_f49_r6, hlen, hm, ← hst]
        apply hKY
        repeat (first | refine hn6 _ ?_ | refine he6 _ ?_ | refine hf6 _ _ (by decide) ?_ | refine hn5 _ ?_ | refine he5 _ _ ?_ | refine hn4 _ ?_ | refine he4 _ _ ?_ | refine he3 _ _ ?_ | refine hn2 _ ?_ | refine he2 _ ?_ | refine hf2 _ _ (by decide) ?_ | refine hn1 _ ?_ | refine he1 _ _ ?_)
        refine wlk_reg fun KY hKY => ?_
        simp only [go_sem, c_f49_r7, incS (show k < 4611686018427387904 by omega)]
        apply hKY
        repeat (first | refine hn6 _ ?_ | refine he6 _ ?_ | refine hf6 _ _ (by decide) ?_ | refine hn5 _ ?_ | refine he5 _ _ ?_ | refine hn4 _ ?_ | refine he4 _ _ ?_)
        refine hn3 _ (k + 1) (out.length - (k + 1)) (by omega) (by first | (simp only [go_sem, updAll_cons, updAll_nil, pRest]; done) | with_reducible rfl | rfl) ?_
        exact ⟨hk2, rfl⟩
      · rw [if_neg (by omega)] at hst
        refine wlk_sreg fun KY hKY => ?_
        simp only [go_sem, c_f49_r5, hv, near_len, hvn]
        apply hKY
        refine wc0 ?_
        rw [← hst]
        refine wlk_skip ?_
        repeat (first | refine hn6 _ ?_ | refine he6 _ ?_ | refine hf6 _ _ (by decide) ?_ | refine hn5 _ ?_ | refine he5 _ _ ?_ | refine hn4 _ ?_ | refine he4 _ _ ?_ | refine he3 _ _ ?_ | refine hn2 _ ?_ | refine he2 _ ?_ | refine hf2 _ _ (by decide) ?_ | refine hn1 _ ?_ | refine he1 _ _ ?_)
        refine wlk_reg fun KY hKY => ?_
        simp only [go_sem, c_f49_r7, incS (show k < 4611686018427387904 by omega)]
        apply hKY
        repeat (first | refine hn6 _ ?_ | refine he6 _ ?_ | refine hf6 _ _ (by decide) ?_ | refine hn5 _ ?_ | refine he5 _ _ ?_ | refine hn4 _ ?_ | refine he4 _ _ ?_)
        refine hn3 _ (k + 1) (out.length - (k + 1)) (by omega) (by first | (simp only [go_sem, updAll_cons, updAll_nil, pRest]; done) | with_reducible rfl | rfl) ?_
        exact ⟨hk2, rfl⟩
    · rw [if_neg (by omega)] at hst
      refine wlk_sreg fun KY hKY => ?_
      simp only [go_sem, c_f49_r5, hv]
      apply hKY
      refine wc0 ?_
      rw [← hst]
      refine wlk_skip ?_
      repeat (first | refine hn6 _ ?_ | refine he6 _ ?_ | refine hf6 _ _ (by decide) ?_ | refine hn5 _ ?_ | refine he5 _ _ ?_ | refine hn4 _ ?_ | refine he4 _ _ ?_ | refine he3 _ _ ?_ | refine hn2 _ ?_ | refine he2 _ ?_ | refine hf2 _ _ (by decide) ?_ | refine hn1 _ ?_ | refine he1 _ _ ?_)
      refine wlk_reg fun KY hKY => ?_
      simp only [go_sem, c_f49_r7, incS (show k < 4611686018427387904 by omega)]
      apply hKY
      repeat (first | refine hn6 _ ?_ | refine he6 _ ?_ | refine hf6 _ _ (by decide) ?_ | refine hn5 _ ?_ | refine he5 _ _ ?_ | refine hn4 _ ?_ | refine he4 _ _ ?_)
      refine hn3 _ (k + 1) (out.length - (k + 1)) (by omega) (by first | (simp only [go_sem, updAll_cons, updAll_nil, pRest]; done) | with_reducible rfl | rfl) ?_
      exact ⟨hk2, rfl⟩
  · refine wc0 ?_
    refine wlk_exit ?_
    repeat (first | refine hn4 _ ?_ | refine he4 _ _ ?_ | refine he3 _ _ ?_ | refine hn2 _ ?_ | refine he2 _ ?_ | refine hf2 _ _ (by decide) ?_ | refine hn1 _ ?_ | refine he1 _ _ ?_)
    obtain rfl : k = out.length := by omega
    rw [List.take_length]
    obtain ⟨hlen, hout⟩ := outD_ok n out
    generalize outD n out = D0 at hlen hout
    refine wlk_sreg fun KY hKY => ?_
    simp only [go_sem, c_f49_r8]
    apply hKY
    simp only [go_sem]
    refine sem_nil [0, 8] 1 (by simp only [go_sem]) ?_
    refine wlk_seq fun X7 hn7 he7 hr7 => ?_
    refine wlk_sreg fun KY hKY => ?_
    simp only [go_sem, c_f49_r9, near_len]
    apply hKY
    refine wlk_blk fun X8 hn8 he8 hf8 hr8 => ?_
    try simp only [go_sem]
    refine wlk_lp (α := Nat × List Bool × List (List Nat)) [9, 18, 19, 40, 49] (fun (v, D, ps) => [(8, .own (some 1) (rowsO ps)), (39, .sc (.int .i64 (v : Int)))]) (fun (v, D, ps) => [some (pRest (near n es) D)]) (fun (v, D, ps) q => v ≤ n ∧ q = n - v ∧ OI n es (fun v => (v : Int) ∈ out) v D ps) ((0, D0, [])) (n) rfl (by first | (simp only [go_sem, updAll_cons, updAll_nil]; done) | with_reducible rfl | rfl) (⟨by omega, rfl, OI.start hlen hout⟩) ?_
    rintro ⟨v, D, ps⟩ q ⟨hv, rfl, w⟩ X9 hn9 he9 hr9
    simp only [go_sem, updAll_cons, updAll_nil]
    unfold pRest
    refine wlk_sreg fun KY hKY => ?_
    simp only [go_sem, c_f49_r10]
    apply hKY
    refine wlk_seq fun X10 hn10 he10 hr10 => ?_
    by_cases hv2 : v < n
    · refine wc1 ?_
      refine wlk_skip ?_
      repeat (first | refine hn10 _ ?_ | refine he10 _ _ ?_ | refine he9 _ _ ?_ | refine hn8 _ ?_ | refine he8 _ ?_ | refine hf8 _ _ (by decide) ?_ | refine hn7 _ ?_ | refine he7 _ _ ?_ | refine hn4 _ ?_ | refine he4 _ _ ?_)
      refine wlk_seq fun X11 hn11 he11 hr11 => ?_
      refine wlk_blk fun X12 hn12 he12 hf12 hr12 => ?_
      refine wlk_sreg fun KY hKY => ?_
      simp only [go_sem, c_f49_r11]
      apply hKY
      have hDl := w.len
      have hvD : v < D.length := by omega
      have hbg := bools_get hvD
      refine wlk_sreg fun KY hKY => ?_
      simp only [go_sem, c_f49_r12, hbg, hvD]
      apply hKY
      cases hd : D.getD v false with
      | true =>
        refine wlk_cond0 (by first | rfl | (simp only [go_sem, hd]; try simp (disch := omega) only [decide_eq_true, decide_eq_false])) ?_
        refine wlk_skip ?_
        repeat (first | refine hn12 _ ?_ | refine he12 _ ?_ | refine hf12 _ _ (by decide) ?_ | refine hn11 _ ?_ | refine he11 _ _ ?_ | refine hn10 _ ?_ | refine he10 _ _ ?_ | refine he9 _ _ ?_ | refine hn8 _ ?_ | refine he8 _ ?_ | refine hf8 _ _ (by decide) ?_ | refine hn7 _ ?_ | refine he7 _ _ ?_ | refine hn4 _ ?_ | refine he4 _ _ ?_)
        refine wlk_reg fun KY hKY => ?_
        simp only [go_sem, c_f49_r14, incS (show v < 4611686018427387904 by omega)]
        apply hKY
        repeat (first | refine hn12 _ ?_ | refine he12 _ ?_ | refine hf12 _ _ (by decide) ?_ | refine hn11 _ ?_ | refine he11 _ _ ?_ | refine hn10 _ ?_ | refine he10 _ _ ?_)
        refine hn9 _ ((v + 1, D, ps)) (n - (v + 1)) (by omega) (by first | (simp only [go_sem, updAll_cons, updAll_nil, pRest]; done) | with_reducible rfl | rfl) ?_
        exact ⟨hv2, rfl, w.skip hd⟩
      | false =>
        refine wlk_cond1 (by first | rfl | (simp only [go_sem, hd]; try simp (disch := omega) only [decide_eq_true, decide_eq_false])) ?_
        have hps := pieces_le w
        have hby : (ps.length + 1) * 24 ≤ 140737488355328 := by omega
        refine wlk_reg fun KY hKY => ?_
        simp only [go_sem, c_f49_r13]
        apply call_gen [] [0] false none rfl
        iterate 8 (first | (simp only [go_sem, watchIn] <;> rfl) | rfl)
        refine (piece_ok g D hDl v hv2 hd).mono ?_
        rintro _ _ ⟨p, D', hp, rfl, rfl⟩
        unfold pRest
        refine ⟨Nat.le_of_ble_eq_true rfl, (fun hh => by cases hh), ?_⟩
        simp only [go_sem, callOut, AState.after, rowsO_cellOk, hby, rowsO_snoc]
        apply hKY
        repeat (first | refine hn12 _ ?_ | refine he12 _ ?_ | refine hf12 _ _ (by decide) ?_ | refine hn11 _ ?_ | refine he11 _ _ ?_ | refine hn10 _ ?_ | refine he10 _ _ ?_ | refine he9 _ _ ?_ | refine hn8 _ ?_ | refine he8 _ ?_ | refine hf8 _ _ (by decide) ?_ | refine hn7 _ ?_ | refine he7 _ _ ?_ | refine hn4 _ ?_ | refine he4 _ _ ?_)
        refine wlk_reg fun KY hKY => ?_
        simp only [go_sem, c_f49_r14, incS (show v < 4611686018427387904 by omega)]
        apply hKY
        repeat (first | refine hn12 _ ?_ | refine he12 _ ?_ | refine hf12 _ _ (by decide) ?_ | refine hn11 _ ?_ | refine he11 _ _ ?_ | refine hn10 _ ?_ | refine he10 _ _ ?_)
        refine hn9 _ ((v + 1, D', ps ++ [p])) (n - (v + 1)) (by omega) (by first | (simp only [go_sem, updAll_cons, updAll_nil, pRest]; done) | with_reducible rfl | rfl) ?_
        exact ⟨hv2, rfl, w.take g.adj_lt hp⟩
    · refine wc0 ?_
      refine wlk_exit ?_
      repeat (first | refine hn10 _ ?_ | refine he10 _ _ ?_ | refine he9 _ _ ?_ | refine hn8 _ ?_ | refine he8 _ ?_ | refine hf8 _ _ (by decide) ?_ | refine hn7 _ ?_ | refine he7 _ _ ?_ | refine hn4 _ ?_ | refine he4 _ _ ?_ | refine he3 _ _ ?_ | refine hn2 _ ?_ | refine he2 _ ?_ | refine hf2 _ _ (by decide) ?_ | refine hn1 _ ?_ | refine he1 _ _ ?_)
      obtain rfl : v = n := by omega
      refine wlk_sreg fun KY hKY => ?_
      simp only [go_sem, c_f49_r15]
      apply hKY
      refine wlk_ret ?_
      repeat (first | refine hr10 _ ?_ | refine hr9 _ ?_ | refine hr8 _ ?_ | refine hr7 _ ?_ | refine hr4 _ ?_ | refine hr3 _ ?_ | refine hr2 _ ?_ | refine hr1 _ ?_)
      simp only [go_sem]
      exact ⟨ps, w.pieces, rfl⟩
abbrev PsQ (n : Nat) (es : Es) (out : List Int) (r : AVal) (h' : Heap) : Prop := (∃ ps, IsPieces n es (fun v => (v : Int) ∈ out) ps ∧ r = .own (some 1) (rowsO ps)) ∧ h' = []
theorem ofT_ok {n : Nat} {es : Es} (g : GR n es) (out : List Int) (ho : out.length ≤ 1000000000) :
    ACalls Try.prog [] n_f49 [.imm 1 (rowsI (near n es)), .imm 1 (ints out)] [] (PsQ n es out) := by
  refine ACalls.trim ((of_ok g out ho).mono ?_)
  rintro r h' ⟨ps, h1, rfl, h2⟩
  refine ⟨Nat.zero_le _, ⟨ps, h1, ?_⟩, rfl⟩
  simp only [AVal.ren, rowsO_ren]
theorem odd_snoc (ps : List (List Nat)) (k : Nat) (p : List Nat) (h : ps[k]? = some p) : oddCount (ps.take (k + 1)) = oddCount (ps.take k) + p.length % 2 := by
 rw [List.take_add_one, h]; simp [oddCount]
theorem odd_le (ps : List (List Nat)) : oddCount ps ≤ ps.length := by
 induction ps with
 | nil => exact Nat.le_refl _
 | cons p ps ih => simp only [oddCount, List.map_cons, List.sum_cons, List.length_cons] at *; omega
theorem some_ok {n : Nat} (hn : n ≤ 4096) (A : AVal) (hA : A.copyable = true) (bits : Int) : ACalls Try.prog [] n_f9 [.agg [.sc (.int .i64 (n : Int)), A], .sc (.int .u64 bits)] [] fun r h' => (∃ l : List Nat, l.Pairwise (· < ·) ∧ (∀ v ∈ l, v < n) ∧ r = .own (some 1) (nats l)) ∧ h' = [] := by
 refine go_f9 rfl ?_
 unfold c_f9 v_f9
 refine wlk_sreg fun KY hKY => ?_
 simp only [go_sem, c_f9_r0, hA]
 apply hKY
 refine wlk_sreg fun KY hKY => ?_
 simp only [go_sem, c_f9_r1]
 apply hKY
 simp only [go_sem]
 refine sem_nil [0, 5] 1 (by simp only [go_sem]) ?_
 simp only [go_sem]
 refine wlk_seq fun X1 hn1 he1 hr1 => ?_
 refine wlk_sreg fun KY hKY => ?_
 simp only [go_sem, c_f9_r2]
 apply hKY
 refine wlk_blk fun X2 hn2 he2 hf2 hr2 => ?_
 try simp only [go_sem]
 refine wlk_lp (α := Nat × List Nat) [14, 22] (fun (v, l) => [(5, .own (some 1) (nats l)), (6, .sc (.int .i64 (v : Int)))]) (fun (v, l) => []) (fun (v, l) q => v ≤ n ∧ v ≤ 64 ∧ q = n - v ∧ l.Pairwise (· < ·) ∧ (∀ x ∈ l, x < v)) ((0, [])) (n) rfl (by first | (simp only [go_sem, updAll_cons, updAll_nil]; done) | with_reducible rfl | rfl) (⟨by omega, by omega, rfl, .nil, by simp⟩) ?_
 rintro ⟨v, l⟩ q ⟨hv, hv6, rfl, h1, h2⟩ X3 hn3 he3 hr3
 simp only [go_sem, updAll_cons, updAll_nil]
 refine wlk_seq fun X4 hn4 he4 hr4 => ?_
 by_cases hvn : v < n
 · have d1 : decide ((v : Int) < (n : Int)) = true := decide_eq_true (by omega)
   by_cases hv64 : v < 64
   · have d2 : decide ((v : Int) < 64) = true := decide_eq_true (by omega)
     refine wlk_sreg fun KY hKY => ?_
     simp only [go_sem, c_f9_r3, d1, d2]
     apply hKY
     refine wc1 ?_
     refine wlk_skip ?_
     repeat (first | refine hn4 _ ?_ | refine he4 _ _ ?_ | refine he3 _ _ ?_ | refine hn2 _ ?_ | refine he2 _ ?_ | refine hf2 _ _ (by decide) ?_ | refine hn1 _ ?_ | refine he1 _ _ ?_)
     refine wlk_seq fun X5 hn5 he5 hr5 => ?_
     refine wlk_blk fun X6 hn6 he6 hf6 hr6 => ?_
     have hs : ¬ IntKind.u64.wrap (v : Int) < 0 := by rw [IntKind.wrap_u64]; omega
     refine wlk_sreg fun KY hKY => ?_
     simp only [go_sem, c_f9_r4, shiftBin, hs]
     apply hKY
     simp only [go_sem]
     have hll : l.length ≤ 4096 := Nat.le_trans (nodup_le (h1.imp fun h => Nat.ne_of_lt h) (m := List.range v) fun x hx => List.mem_range.2 (h2 x hx)) (by simp; omega)
     have hby : (l.length + 1) * 8 ≤ 140737488355328 := by omega
     refine wlk_cond rfl (fun _ => ?_) fun _ => ?_
     · refine wlk_reg fun KY hKY => ?_
       simp only [go_sem, c_f9_r5, nats_snoc, hby]
       apply hKY
       repeat (first | refine hn6 _ ?_ | refine he6 _ ?_ | refine hf6 _ _ (by decide) ?_ | refine hn5 _ ?_ | refine he5 _ _ ?_ | refine hn4 _ ?_ | refine he4 _ _ ?_ | refine he3 _ _ ?_ | refine hn2 _ ?_ | refine he2 _ ?_ | refine hf2 _ _ (by decide) ?_ | refine hn1 _ ?_ | refine he1 _ _ ?_)
       refine wlk_reg fun KY hKY => ?_
       simp only [go_sem, c_f9_r6, inc v (by omega)]
       apply hKY
       repeat (first | refine hn6 _ ?_ | refine he6 _ ?_ | refine hf6 _ _ (by decide) ?_ | refine hn5 _ ?_ | refine he5 _ _ ?_ | refine hn4 _ ?_ | refine he4 _ _ ?_)
       refine hn3 _ ((v + 1, l ++ [v])) (n - (v + 1)) (by omega) (by first | (simp only [go_sem, updAll_cons, updAll_nil]; done) | with_reducible rfl | rfl) ?_
       refine ⟨hvn, by omega, rfl, List.pairwise_append.2 ⟨h1, by simp, fun x hx y hy => ?_⟩, fun x hx => ?_⟩
       · simp at hy; subst hy; exact h2 x hx
       · rcases List.mem_append.1 hx with h | h
         · exact Nat.lt_succ_of_lt (h2 x h)
         · simp at h; omega
     · refine wlk_skip ?_
       repeat (first | refine hn6 _ ?_ | refine he6 _ ?_ | refine hf6 _ _ (by decide) ?_ | refine hn5 _ ?_ | refine he5 _ _ ?_ | refine hn4 _ ?_ | refine he4 _ _ ?_ | refine he3 _ _ ?_ | refine hn2 _ ?_ | refine he2 _ ?_ | refine hf2 _ _ (by decide) ?_ | refine hn1 _ ?_ | refine he1 _ _ ?_)
       refine wlk_reg fun KY hKY => ?_
       simp only [go_sem, c_f9_r6, inc v (by omega)]
       apply hKY
       repeat (first | refine hn6 _ ?_ | refine he6 _ ?_ | refine hf6 _ _ (by decide) ?_ | refine hn5 _ ?_ | refine he5 _ _ ?_ | refine hn4 _ ?_ | refine he4 _ _ ?_)
       refine hn3 _ ((v + 1, l)) (n - (v + 1)) (by omega) (by first | (simp only [go_sem, updAll_cons, updAll_nil]; done) | with_reducible rfl | rfl) ?_
       exact ⟨hvn, by omega, rfl, h1, fun x hx => Nat.lt_succ_of_lt (h2 x hx)⟩
   · have d2 : decide ((v : Int) < 64) = false := decide_eq_false (by omega)
     refine wlk_sreg fun KY hKY => ?_
     simp only [go_sem, c_f9_r3, d1, d2]
     apply hKY
     refine wc0 ?_
     refine wlk_exit ?_
     repeat (first | refine hn4 _ ?_ | refine he4 _ _ ?_ | refine he3 _ _ ?_ | refine hn2 _ ?_ | refine he2 _ ?_ | refine hf2 _ _ (by decide) ?_ | refine hn1 _ ?_ | refine he1 _ _ ?_)
     refine wlk_sreg fun KY hKY => ?_
     simp only [go_sem, c_f9_r7]
     apply hKY
     refine wlk_ret ?_
     repeat (first | refine hr4 _ ?_ | refine hr3 _ ?_ | refine hr2 _ ?_ | refine hr1 _ ?_)
     simp only [go_sem]
     exact ⟨l, h1, fun x hx => by have := h2 x hx; omega, rfl⟩
 · have d1 : decide ((v : Int) < (n : Int)) = false := decide_eq_false (by omega)
   refine wlk_sreg fun KY hKY => ?_
   simp only [go_sem, c_f9_r3, d1]
   apply hKY
   refine wc0 ?_
   refine wlk_exit ?_
   repeat (first | refine hn4 _ ?_ | refine he4 _ _ ?_ | refine he3 _ _ ?_ | refine hn2 _ ?_ | refine he2 _ ?_ | refine hf2 _ _ (by decide) ?_ | refine hn1 _ ?_ | refine he1 _ _ ?_)
   refine wlk_sreg fun KY hKY => ?_
   simp only [go_sem, c_f9_r7]
   apply hKY
   refine wlk_ret ?_
   repeat (first | refine hr4 _ ?_ | refine hr3 _ ?_ | refine hr2 _ ?_ | refine hr1 _ ?_)
   simp only [go_sem]
   exact ⟨l, h1, fun x hx => by have := h2 x hx; omega, rfl⟩
end Go.Proofs.Ytmcfdfafeheihaa
set_option maxHeartbeats 2000000
namespace Go.Proofs.Ytmcfdfafeheihaa
open Go Go.Ga Go.Ga.Gl
def PsOf (n : Int) (es : List (Int × Int)) (out : List Int) (ps : List (List Nat)) : Prop :=
 (rightB n es = true ∧ ∃ (N : Nat) (es' : Es), n = N ∧ es = castE es' ∧ GR N es' ∧ IsPieces N es' (fun v => (v : Int) ∈ out) ps) ∨ (rightB n es = false ∧ ps = [])
theorem castE_inj : ∀ {l m : Es}, castE l = castE m → l = m
 | [], [], _ => rfl
 | [], _ :: _, h => by simp [castE] at h
 | _ :: _, [], h => by simp [castE] at h
 | (a, b) :: l, (c, d) :: m, h => by
   simp only [castE, List.map_cons, List.cons.injEq, Prod.mk.injEq] at h
   obtain ⟨⟨h1, h2⟩, h3⟩ := h
   rw [castE_inj (l := l) (m := m) h3, show a = c by omega, show b = d by omega]
theorem PsOf.unique {n : Int} {es : List (Int × Int)} {out : List Int} {ps qs : List (List Nat)} (h : PsOf n es out ps) (h' : PsOf n es out qs) : ps = qs := by
 rcases h with ⟨r, N, es', rfl, rfl, g, P⟩ | ⟨r, rfl⟩
 · rcases h' with ⟨_, N', es'', e1, e2, _, Q⟩ | ⟨r', _⟩
   · obtain rfl : N = N' := by omega
     rw [← castE_inj e2] at Q
     exact P.unique g.adj_lt Q
   · rw [r] at r'; cases r'
 · rcases h' with ⟨r', _⟩ | ⟨_, rfl⟩
   · rw [r] at r'; cases r'
   · rfl
theorem PsOf.len {n : Int} {es : List (Int × Int)} {out : List Int} {ps : List (List Nat)} (h : PsOf n es out ps) : ps.length ≤ 4096 ∧ ∀ p ∈ ps, p.length ≤ 4096 := by
 rcases h with ⟨_, N, es', _, _, g, P⟩ | ⟨_, rfl⟩
 · have := g.hn
   exact ⟨Nat.le_trans (pieces_len P) this, fun p hp => Nat.le_trans (piece_len P hp) this⟩
 · exact ⟨by simp, fun p hp => by simp at hp⟩
theorem odd_le2 (ps : List (List Nat)) (k : Nat) (h : ps.length ≤ 4096) : oddCount (ps.take k) ≤ 4096 := Nat.le_trans (odd_le _) (Nat.le_trans (List.length_take_le' _ _) h)
theorem PsOf.disj {n : Int} {es : List (Int × Int)} {out : List Int} {ps : List (List Nat)} (h : PsOf n es out ps) : ps.Pairwise fun p q => ∀ v ∈ p, v ∉ q := by
 rcases h with ⟨_, N, es', _, _, g, P⟩ | ⟨_, rfl⟩
 · exact P.disj
 · exact .nil
def mOk (es : Es) (m : List Int) (v : Nat) : Bool := decide (m.getD v 0 = -1) || (decide (turnI (v : Int) (m.getD v 0) ∈ castE es) && decide (m.getD (m.getD v 0).toNat 0 = (v : Int)))
def mateB (n : Int) (es : List (Int × Int)) (m : List Int) : Bool := rightB n es && decide ((m.length : Int) = n) && (List.range m.length).all fun v => decide (m.getD v 0 = -1) || (decide (turnI (v : Int) (m.getD v 0) ∈ es) && decide (m.getD (m.getD v 0).toNat 0 = (v : Int)))
theorem turn_mem {N : Nat} {es : Es} (g : GR N es) {v : Nat} {w : Int} (h : turnI (v : Int) w ∈ castE es) : ∃ u : Nat, w = u ∧ u < N ∧ v < N ∧ u ≠ v := by
 obtain ⟨⟨a, b⟩, hm, e⟩ := List.mem_map.1 h
 have hok := g.ok _ hm
 simp only at hok
 unfold turnI at e
 split at e
 · simp only [Prod.mk.injEq] at e
   exact ⟨a, by omega, by omega, by omega, by omega⟩
 · simp only [Prod.mk.injEq] at e
   exact ⟨b, by omega, by omega, by omega, by omega⟩
theorem all_no {N k : Nat} {φ : Nat → Bool} (h : k < N) (hf : φ k = false) : ((List.range N).all fun v => φ v) = false := by
 rw [Bool.eq_false_iff]; intro h'
 rw [List.all_eq_true] at h'
 rw [h' k (List.mem_range.2 h)] at hf; cases hf
def jAt (m : List Int) (l : Es) (v : Nat) : Bool := l.any fun e => (decide (e.1 = v) || decide (e.2 = v)) && (decide (m.getD e.1 0 = (e.2 : Int)) && decide (m.getD e.2 0 = (e.1 : Int)))
theorem jAt_ok {N : Nat} {es : Es} (g : GR N es) (m : List Int) {v : Nat} (hw : m.getD v 0 ≠ -1) : jAt m es v = mOk es m v := by
 rw [Bool.eq_iff_iff]
 unfold jAt mOk
 rw [List.any_eq_true, decide_eq_false hw, Bool.false_or, Bool.and_eq_true, decide_eq_true_iff, decide_eq_true_iff]
 constructor
 · rintro ⟨⟨a, b⟩, he, h⟩
   have hok := g.ok _ he
   simp only [Bool.and_eq_true, Bool.or_eq_true, decide_eq_true_eq] at h hok
   obtain ⟨rfl | rfl, h1, h2⟩ := h
   · rw [h1]
     refine ⟨?_, by rw [Int.toNat_natCast]; exact h2⟩
     unfold turnI; rw [if_neg (by omega)]; exact castE_mem.2 he
   · rw [h2]
     refine ⟨?_, by rw [Int.toNat_natCast]; exact h1⟩
     unfold turnI; rw [if_pos (by omega)]; exact castE_mem.2 he
 · rintro ⟨h1, h2⟩
   obtain ⟨u, hu, _, _, hne⟩ := turn_mem g h1
   rw [hu] at h1 h2
   rw [Int.toNat_natCast] at h2
   unfold turnI at h1
   split at h1
   · exact ⟨(u, v), castE_mem.1 h1, by simp only [hu, h2, decide_true, Bool.or_true, Bool.true_or, Bool.and_self]⟩
   · exact ⟨(v, u), castE_mem.1 h1, by simp only [hu, h2, decide_true, Bool.or_true, Bool.true_or, Bool.and_self]⟩
def jL (N : Nat) (m : List Int) (l : Es) : List Bool := (List.range N).map (jAt m l)
theorem jL_len (N : Nat) (m : List Int) (l : Es) : (jL N m l).length = N := by simp [jL]
theorem jL_get {N : Nat} (m : List Int) (l : Es) {v : Nat} (h : v < N) : (jL N m l).getD v false = jAt m l v := by simp [jL, h]
theorem jL_no {N : Nat} (m : List Int) (l : Es) {a b : Nat} (h : ¬ (m.getD a 0 = (b : Int) ∧ m.getD b 0 = (a : Int))) : jL N m (l ++ [(a, b)]) = jL N m l := by
 refine List.map_congr_left fun v _ => ?_
 unfold jAt
 rw [List.any_append]
 have : (decide (m.getD a 0 = (b : Int)) && decide (m.getD b 0 = (a : Int))) = false := by
  rw [Bool.eq_false_iff]; intro h'; rw [Bool.and_eq_true, decide_eq_true_iff, decide_eq_true_iff] at h'; exact h h'
 simp only [List.any_cons, List.any_nil, this, Bool.and_false, Bool.or_false]
theorem jL_yes {N : Nat} (m : List Int) (l : Es) {a b : Nat} (h : m.getD a 0 = (b : Int) ∧ m.getD b 0 = (a : Int)) : ((jL N m l).set a true).set b true = jL N m (l ++ [(a, b)]) := by
 apply List.ext_getElem
 · simp [jL]
 · intro i h1 h2
   have hi : i < N := by rw [jL_len] at h2; exact h2
   have e : jAt m (l ++ [(a, b)]) i = (jAt m l i || (decide (a = i) || decide (b = i))) := by
    unfold jAt
    rw [List.any_append]
    simp only [List.any_cons, List.any_nil, h.1, h.2, decide_true, Bool.and_true, Bool.or_false]
   simp only [jL, List.getElem_set, List.getElem_map, List.getElem_range, e]
   by_cases hb : b = i
   · simp [hb]
   · by_cases ha : a = i
     · simp [ha, hb]
     · simp [ha, hb]
theorem mright_no (n : Int) (es : List (Int × Int)) (m : List Int) (h : (rightB n es && decide ((m.length : Int) = n)) = false) : ACalls Try.prog [] n_f31 [.agg [.sc (.int .i64 n), .imm 2 (twos es)], .imm 1 (ints m)] [] fun r h' => r = .sc (.bool false) ∧ h' = [] := by
 refine ACalls.trim ?_
 refine go_f31 rfl ?_
 unfold c_f31 v_f31
 refine wlk_sreg fun KY hKY => ?_
 simp only [go_sem, c_f31_r0]
 apply hKY
 refine wlk_seq fun X1 hn1 he1 hr1 => ?_
 cases hr : rightB n es with
 | false =>
   refine wlk_sreg fun KY hKY => ?_
   simp only [go_sem, c_f31_r1]
   refine call_view rfl (by simp only [go_sem] <;> rfl) ((right_ok n es).mono ?_)
   rintro rr hh ⟨rfl, rfl⟩
   refine ⟨rfl, rfl, rfl, ?_⟩
   simp only [go_sem, hr]
   apply hKY
   refine wc1 ?_
   refine wlk_sreg fun KY hKY => ?_
   simp only [go_sem, c_f31_r2]
   apply hKY
   refine wlk_ret ?_
   repeat (first | refine hr1 _ ?_)
   simp only [go_sem]
 | true =>
   rw [hr, Bool.true_and, decide_eq_false_iff_not] at h
   have hd : decide ((m.length : Int) ≠ n) = true := decide_eq_true h
   refine wlk_sreg fun KY hKY => ?_
   simp only [go_sem, c_f31_r1]
   refine call_view rfl (by simp only [go_sem] <;> rfl) ((right_ok n es).mono ?_)
   rintro rr hh ⟨rfl, rfl⟩
   refine ⟨rfl, rfl, rfl, ?_⟩
   simp only [go_sem, hr, ints_len, hd]
   apply hKY
   refine wc1 ?_
   refine wlk_sreg fun KY hKY => ?_
   simp only [go_sem, c_f31_r2]
   apply hKY
   refine wlk_ret ?_
   repeat (first | refine hr1 _ ?_)
   simp only [go_sem]
theorem mright_yes {N : Nat} {es : Es} (g : GR N es) (m : List Int) (hl : m.length = N) : ACalls Try.prog [] n_f31 [.agg [.sc (.int .i64 (N : Int)), .imm 2 (twos (castE es))], .imm 1 (ints m)] [] fun r h' => r = .sc (.bool ((List.range N).all fun v => mOk es m v)) ∧ h' = [] := by
 refine ACalls.trim ?_
 have hN := g.hn
 have hem := g.hm
 have hr := rightB_GR g
 have hd : decide ((m.length : Int) ≠ (N : Int)) = false := decide_eq_false (by omega)
 have h0 : List.replicate N false = jL N m (es.take 0) := by
  apply List.ext_getElem
  · simp [jL]
  · intro i h1 h2; simp [jL, jAt]
 refine go_f31 rfl ?_
 unfold c_f31 v_f31
 refine wlk_sreg fun KY hKY => ?_
 simp only [go_sem, c_f31_r0]
 apply hKY
 refine wlk_seq fun X1 hn1 he1 hr1 => ?_
 refine wlk_sreg fun KY hKY => ?_
 simp only [go_sem, c_f31_r1]
 refine call_view rfl (by simp only [go_sem] <;> rfl) ((right_ok N (castE es)).mono ?_)
 rintro rr hh ⟨rfl, rfl⟩
 refine ⟨rfl, rfl, rfl, ?_⟩
 simp only [go_sem, hr, ints_len, hd]
 apply hKY
 refine wc0 ?_
 refine wlk_skip ?_
 repeat (first | refine hn1 _ ?_ | refine he1 _ _ ?_)
 refine wlk_sreg fun KY hKY => ?_
 simp only [go_sem, c_f31_r3, (show N ≤ 140737488355328 by omega), (show 1 * N ≤ 140737488355328 by omega), (show (N : Int) ≤ (N : Int) from Int.le_refl _), (show (N : Int) ≤ 9223372036854775807 by omega), h0]
 apply hKY
 refine wlk_seq fun X2 hn2 he2 hr2 => ?_
 refine wlk_sreg fun KY hKY => ?_
 simp only [go_sem, c_f31_r4, twos_len, mul2, castE_len]
 apply hKY
 refine wlk_blk fun X3 hn3 he3 hf3 hr3 => ?_
 try simp only [go_sem]
 refine wlk_lp (α := Nat) [7, 27, 47] (fun k => [(5, .own (some 1) (bools (jL N m (es.take k)))), (26, .sc (.int .i64 (k : Int)))]) (fun k => []) (fun k q => k ≤ es.length ∧ q = es.length - k) (0) (es.length) rfl (by first | (simp only [go_sem, updAll_cons, updAll_nil]; done) | with_reducible rfl | rfl) (⟨by omega, rfl⟩) ?_
 rintro k q ⟨hk, rfl⟩ X4 hn4 he4 hr4
 simp only [go_sem, updAll_cons, updAll_nil]
 rcases Nat.lt_or_ge k es.length with hk2 | hk2
 · have hdy : decide ((k : Int) < (es.length : Int)) = true := decide_eq_true (by omega)
   refine wlk_sreg fun KY hKY => ?_
   simp only [go_sem, c_f31_r5, hdy]
   apply hKY
   refine wlk_seq fun X5 hn5 he5 hr5 => ?_
   refine wc1 ?_
   refine wlk_skip ?_
   repeat (first | refine hn5 _ ?_ | refine he5 _ _ ?_ | refine he4 _ _ ?_ | refine hn3 _ ?_ | refine he3 _ ?_ | refine hf3 _ _ (by decide) ?_ | refine hn2 _ ?_ | refine he2 _ _ ?_ | refine hn1 _ ?_ | refine he1 _ _ ?_)
   refine wlk_seq fun X6 hn6 he6 hr6 => ?_
   refine wlk_blk fun X7 hn7 he7 hf7 hr7 => ?_
   have hx : es[k]? = some es[k] := List.getElem?_eq_getElem hk2
   have hxm : es[k] ∈ es := List.getElem_mem hk2
   generalize es[k] = x at hx hxm
   obtain ⟨a, b⟩ := x
   have hxc := castE_get hx
   have hok := g.ok (a, b) hxm
   simp only at hok
   have htk : es.take (k + 1) = es.take k ++ [(a, b)] := by rw [List.take_add_one, hx]; rfl
   have haN : a < N := by omega
   have hbN : b < N := hok.2
   refine wlk_sreg fun KY hKY => ?_
   simp only [go_sem, c_f31_r6, (show k * 2 + 1 < es.length * 2 by omega), (show 1 < es.length * 2 - k * 2 by omega), two_cells hxc, List.length_drop, twos_len, castE_len]
   apply hKY
   by_cases h1 : m.getD a 0 = (b : Int)
   · have d1 : decide (m.getD a 0 = (b : Int)) = true := decide_eq_true h1
     by_cases h2 : m.getD b 0 = (a : Int)
     · have d2 : decide (m.getD b 0 = (a : Int)) = true := decide_eq_true h2
       have hst := jL_yes (N := N) m (es.take k) ⟨h1, h2⟩
       rw [← htk] at hst
       refine wlk_sdraw fun KY hKY => ?_
       simp only [go_sem, c_f31_r7, ints_get (show a < m.length by omega), ints_get (show b < m.length by omega), ints_len, hl, haN, hbN, d1, d2]
       apply hKY
       refine wc1 ?_
       refine wlk_draw fun KY hKY => ?_
       simp only [go_sem, c_f31_r8, bools_len, jL_len, haN, hbN, List.length_set, hst, (show ([0, 5] == [0, 7]) = false from rfl), Bool.not_false]
       apply hKY
       repeat (first | refine hn7 _ ?_ | refine he7 _ ?_ | refine hf7 _ _ (by decide) ?_ | refine hn6 _ ?_ | refine he6 _ _ ?_ | refine hn5 _ ?_ | refine he5 _ _ ?_ | refine he4 _ _ ?_ | refine hn3 _ ?_ | refine he3 _ ?_ | refine hf3 _ _ (by decide) ?_ | refine hn2 _ ?_ | refine he2 _ _ ?_ | refine hn1 _ ?_ | refine he1 _ _ ?_)
       refine wlk_reg fun KY hKY => ?_
       simp only [go_sem, c_f31_r9, incS (show k < 4611686018427387904 by omega)]
       apply hKY
       repeat (first | refine hn7 _ ?_ | refine he7 _ ?_ | refine hf7 _ _ (by decide) ?_ | refine hn6 _ ?_ | refine he6 _ _ ?_ | refine hn5 _ ?_ | refine he5 _ _ ?_)
       refine hn4 _ (k + 1) (es.length - (k + 1)) (by omega) (by first | (simp only [go_sem, updAll_cons, updAll_nil]; done) | with_reducible rfl | rfl) ?_
       exact ⟨hk2, rfl⟩
     · have d2 : decide (m.getD b 0 = (a : Int)) = false := decide_eq_false h2
       have hst := jL_no (N := N) m (es.take k) (a := a) (b := b) fun h => h2 h.2
       rw [← htk] at hst
       refine wlk_sdraw fun KY hKY => ?_
       simp only [go_sem, c_f31_r7, ints_get (show a < m.length by omega), ints_get (show b < m.length by omega), ints_len, hl, haN, hbN, d1, d2]
       apply hKY
       refine wc0 ?_
       refine wlk_skip ?_
       repeat (first | refine hn7 _ ?_ | refine he7 _ ?_ | refine hf7 _ _ (by decide) ?_ | refine hn6 _ ?_ | refine he6 _ _ ?_ | refine hn5 _ ?_ | refine he5 _ _ ?_ | refine he4 _ _ ?_ | refine hn3 _ ?_ | refine he3 _ ?_ | refine hf3 _ _ (by decide) ?_ | refine hn2 _ ?_ | refine he2 _ _ ?_ | refine hn1 _ ?_ | refine he1 _ _ ?_)
       refine wlk_reg fun KY hKY => ?_
       simp only [go_sem, c_f31_r9, incS (show k < 4611686018427387904 by omega)]
       apply hKY
       repeat (first | refine hn7 _ ?_ | refine he7 _ ?_ | refine hf7 _ _ (by decide) ?_ | refine hn6 _ ?_ | refine he6 _ _ ?_ | refine hn5 _ ?_ | refine he5 _ _ ?_)
       refine hn4 _ (k + 1) (es.length - (k + 1)) (by omega) (by first | (simp only [go_sem, updAll_cons, updAll_nil, hst]; done) | with_reducible rfl | rfl) ?_
       exact ⟨hk2, rfl⟩
   · have d1 : decide (m.getD a 0 = (b : Int)) = false := decide_eq_false h1
     have hst := jL_no (N := N) m (es.take k) (a := a) (b := b) fun h => h1 h.1
     rw [← htk] at hst
     refine wlk_sdraw fun KY hKY => ?_
     simp only [go_sem, c_f31_r7, ints_get (show a < m.length by omega), ints_len, hl, haN, hbN, d1]
     apply hKY
     refine wc0 ?_
     refine wlk_skip ?_
     repeat (first | refine hn7 _ ?_ | refine he7 _ ?_ | refine hf7 _ _ (by decide) ?_ | refine hn6 _ ?_ | refine he6 _ _ ?_ | refine hn5 _ ?_ | refine he5 _ _ ?_ | refine he4 _ _ ?_ | refine hn3 _ ?_ | refine he3 _ ?_ | refine hf3 _ _ (by decide) ?_ | refine hn2 _ ?_ | refine he2 _ _ ?_ | refine hn1 _ ?_ | refine he1 _ _ ?_)
     refine wlk_reg fun KY hKY => ?_
     simp only [go_sem, c_f31_r9, incS (show k < 4611686018427387904 by omega)]
     apply hKY
     repeat (first | refine hn7 _ ?_ | refine he7 _ ?_ | refine hf7 _ _ (by decide) ?_ | refine hn6 _ ?_ | refine he6 _ _ ?_ | refine hn5 _ ?_ | refine he5 _ _ ?_)
     refine hn4 _ (k + 1) (es.length - (k + 1)) (by omega) (by first | (simp only [go_sem, updAll_cons, updAll_nil, hst]; done) | with_reducible rfl | rfl) ?_
     exact ⟨hk2, rfl⟩
 have hdx : decide ((k : Int) < (es.length : Int)) = false := decide_eq_false (by omega)
 refine wlk_sreg fun KY hKY => ?_
 simp only [go_sem, c_f31_r5, hdx]
 apply hKY
 refine wlk_seq fun X8 hn8 he8 hr8 => ?_
 refine wc0 ?_
 refine wlk_exit ?_
 repeat (first | refine hn8 _ ?_ | refine he8 _ _ ?_ | refine he4 _ _ ?_ | refine hn3 _ ?_ | refine he3 _ ?_ | refine hf3 _ _ (by decide) ?_ | refine hn2 _ ?_ | refine he2 _ _ ?_ | refine hn1 _ ?_ | refine he1 _ _ ?_)
 obtain rfl : k = es.length := by omega
 rw [List.take_length]
 refine wlk_seq fun X9 hn9 he9 hr9 => ?_
 refine wlk_sreg fun KY hKY => ?_
 simp only [go_sem, c_f31_r10, ints_len, hl]
 apply hKY
 refine wlk_blk fun X10 hn10 he10 hf10 hr10 => ?_
 try simp only [go_sem]
 refine wlk_lp (α := Nat) [8, 9, 60, 72] (fun v => [(59, .sc (.int .i64 (v : Int)))]) (fun v => []) (fun v q => v ≤ N ∧ q = N - v ∧ (∀ u, u < v → mOk es m u = true)) (0) (N) rfl (by first | (simp only [go_sem, updAll_cons, updAll_nil]; done) | with_reducible rfl | rfl) (⟨by omega, rfl, fun v h => by omega⟩) ?_
 rintro v q ⟨hv, rfl, hz⟩ X11 hn11 he11 hr11
 simp only [go_sem, updAll_cons, updAll_nil]
 rcases Nat.lt_or_ge v N with hv2 | hv2
 · have hdy : decide ((v : Int) < (N : Int)) = true := decide_eq_true (by omega)
   refine wlk_sreg fun KY hKY => ?_
   simp only [go_sem, c_f31_r11, hdy]
   apply hKY
   refine wlk_seq fun X12 hn12 he12 hr12 => ?_
   refine wc1 ?_
   refine wlk_skip ?_
   repeat (first | refine hn12 _ ?_ | refine he12 _ _ ?_ | refine he11 _ _ ?_ | refine hn10 _ ?_ | refine he10 _ ?_ | refine hf10 _ _ (by decide) ?_ | refine hn9 _ ?_ | refine he9 _ _ ?_ | refine hn8 _ ?_ | refine he8 _ _ ?_)
   refine wlk_seq fun X13 hn13 he13 hr13 => ?_
   refine wlk_blk fun X14 hn14 he14 hf14 hr14 => ?_
   refine wlk_sreg fun KY hKY => ?_
   simp only [go_sem, c_f31_r12, ints_get (show v < m.length by omega), ints_len, hl, hv2]
   apply hKY
   by_cases hw : m.getD v 0 = -1
   · have d1 : decide (m.getD v 0 ≠ -1) = false := decide_eq_false fun h => h hw
     have hok : mOk es m v = true := by unfold mOk; rw [decide_eq_true hw]; rfl
     refine wlk_sreg fun KY hKY => ?_
     simp only [go_sem, c_f31_r13, d1]
     apply hKY
     refine wc0 ?_
     refine wlk_skip ?_
     repeat (first | refine hn14 _ ?_ | refine he14 _ ?_ | refine hf14 _ _ (by decide) ?_ | refine hn13 _ ?_ | refine he13 _ _ ?_ | refine hn12 _ ?_ | refine he12 _ _ ?_ | refine he11 _ _ ?_ | refine hn10 _ ?_ | refine he10 _ ?_ | refine hf10 _ _ (by decide) ?_ | refine hn9 _ ?_ | refine he9 _ _ ?_ | refine hn8 _ ?_ | refine he8 _ _ ?_)
     refine wlk_reg fun KY hKY => ?_
     simp only [go_sem, c_f31_r15, incS (show v < 4611686018427387904 by omega)]
     apply hKY
     repeat (first | refine hn14 _ ?_ | refine he14 _ ?_ | refine hf14 _ _ (by decide) ?_ | refine hn13 _ ?_ | refine he13 _ _ ?_ | refine hn12 _ ?_ | refine he12 _ _ ?_)
     refine hn11 _ (v + 1) (N - (v + 1)) (by omega) (by first | (simp only [go_sem, updAll_cons, updAll_nil]; done) | with_reducible rfl | rfl) ?_
     refine ⟨hv2, rfl, fun u hu => ?_⟩
     rcases Nat.lt_or_ge u v with h3 | h3
     · exact hz u h3
     · obtain rfl : u = v := by omega
       exact hok
   · have d1 : decide (m.getD v 0 ≠ -1) = true := decide_eq_true hw
     have hj := jAt_ok g m hw
     have hjl := jL_len N m es
     have hg := bools_get (show v < (jL N m es).length by omega)
     rw [jL_get m es hv2, hj] at hg
     cases hok : mOk es m v with
     | true =>
       rw [hok] at hg
       refine wlk_sreg fun KY hKY => ?_
       simp only [go_sem, c_f31_r13, d1, hg, bools_len, hjl, hv2]
       apply hKY
       refine wc0 ?_
       refine wlk_skip ?_
       repeat (first | refine hn14 _ ?_ | refine he14 _ ?_ | refine hf14 _ _ (by decide) ?_ | refine hn13 _ ?_ | refine he13 _ _ ?_ | refine hn12 _ ?_ | refine he12 _ _ ?_ | refine he11 _ _ ?_ | refine hn10 _ ?_ | refine he10 _ ?_ | refine hf10 _ _ (by decide) ?_ | refine hn9 _ ?_ | refine he9 _ _ ?_ | refine hn8 _ ?_ | refine he8 _ _ ?_)
       refine wlk_reg fun KY hKY => ?_
       simp only [go_sem, c_f31_r15, incS (show v < 4611686018427387904 by omega)]
       apply hKY
       repeat (first | refine hn14 _ ?_ | refine he14 _ ?_ | refine hf14 _ _ (by decide) ?_ | refine hn13 _ ?_ | refine he13 _ _ ?_ | refine hn12 _ ?_ | refine he12 _ _ ?_)
       refine hn11 _ (v + 1) (N - (v + 1)) (by omega) (by first | (simp only [go_sem, updAll_cons, updAll_nil]; done) | with_reducible rfl | rfl) ?_
       refine ⟨hv2, rfl, fun u hu => ?_⟩
       rcases Nat.lt_or_ge u v with h3 | h3
       · exact hz u h3
       · obtain rfl : u = v := by omega
         exact hok
     | false =>
       rw [hok] at hg
       refine wlk_sreg fun KY hKY => ?_
       simp only [go_sem, c_f31_r13, d1, hg, bools_len, hjl, hv2]
       apply hKY
       refine wc1 ?_
       refine wlk_sreg fun KY hKY => ?_
       simp only [go_sem, c_f31_r14]
       apply hKY
       refine wlk_ret ?_
       repeat (first | refine hr14 _ ?_ | refine hr13 _ ?_ | refine hr12 _ ?_ | refine hr11 _ ?_ | refine hr10 _ ?_ | refine hr9 _ ?_ | refine hr8 _ ?_ | refine hr4 _ ?_ | refine hr3 _ ?_ | refine hr2 _ ?_ | refine hr1 _ ?_)
       simp only [go_sem]
       rw [all_no hv2 hok]
 have hdz : decide ((v : Int) < (N : Int)) = false := decide_eq_false (by omega)
 refine wlk_sreg fun KY hKY => ?_
 simp only [go_sem, c_f31_r11, hdz]
 apply hKY
 refine wlk_seq fun X15 hn15 he15 hr15 => ?_
 refine wc0 ?_
 refine wlk_exit ?_
 repeat (first | refine hn15 _ ?_ | refine he15 _ _ ?_ | refine he11 _ _ ?_ | refine hn10 _ ?_ | refine he10 _ ?_ | refine hf10 _ _ (by decide) ?_ | refine hn9 _ ?_ | refine he9 _ _ ?_ | refine hn8 _ ?_ | refine he8 _ _ ?_ | refine he4 _ _ ?_ | refine hn3 _ ?_ | refine he3 _ ?_ | refine hf3 _ _ (by decide) ?_ | refine hn2 _ ?_ | refine he2 _ _ ?_ | refine hn1 _ ?_ | refine he1 _ _ ?_)
 obtain rfl : v = N := by omega
 refine wlk_sreg fun KY hKY => ?_
 simp only [go_sem, c_f31_r16]
 apply hKY
 refine wlk_ret ?_
 repeat (first | refine hr15 _ ?_ | refine hr11 _ ?_ | refine hr10 _ ?_ | refine hr9 _ ?_ | refine hr8 _ ?_ | refine hr4 _ ?_ | refine hr3 _ ?_ | refine hr2 _ ?_ | refine hr1 _ ?_)
 simp only [go_sem]
 rw [show ((List.range v).all fun v => mOk es m v) = true from List.all_eq_true.2 fun u hu => hz u (List.mem_range.1 hu)]
end Go.Proofs.Ytmcfdfafeheihaa

namespace Go.Ga.Gl
open Go Go.Ga
structure Fc (n : Nat) (E : Nat → Nat → Prop) (mt : Nat → Int) (D A : Nat → Bool) (bs : Nat → Nat) : Prop where
 m : Mf n E mt
 c : Cert n E mt D A bs
 d : ∀ v, D v = true → ∃ mt', Mf n E mt' ∧ fre n mt' ≤ fre n mt ∧ mt' v = -1
 a : ∀ v, A v = true → ∃ w, D w = true ∧ E v w
theorem done_fc {n : Nat} {E : Nat → Nat → Prop} {mt : Nat → Int} {S : FS} (M : Mf n E mt) (I : Inv n E mt S) (L : Lk E S []) : Fc n E mt S.out (odd2 S) S.bs where
 m := M
 c := I.cert M L
 d := fun v hv => miss M I hv
 a := fun v hv => by
  obtain ⟨h1, h2⟩ := odd2_iff.1 hv
  obtain ⟨_, x, k1, k2, k3, k4, k5, k6⟩ := I.od v h1
  exact ⟨S.pr v, k4, k5⟩
theorem Fc.lg {n : Nat} {E : Nat → Nat → Prop} {mt : Nat → Int} {D A : Nat → Bool} {bs : Nat → Nat} (F : Fc n E mt D A bs) : Lg n E mt := ⟨F.m, fun _ M' => F.c.most F.m M'⟩
theorem Fc.dm {n : Nat} {E : Nat → Nat → Prop} {mt : Nat → Int} {D A : Nat → Bool} {bs : Nat → Nat} (F : Fc n E mt D A bs) (v : Nat) : D v = true ↔ Dm n E v := F.c.dm_iff F.m F.d v
theorem Fc.lab {n : Nat} {E : Nat → Nat → Prop} {mt : Nat → Int} {D A : Nat → Bool} {bs : Nat → Nat} (F : Fc n E mt D A bs) (v : Nat) : glab n E v = if D v = true then 1 else if A v = true then 2 else 0 := by
 unfold glab
 by_cases h : D v = true
 · rw [if_pos h, if_pos ((F.dm v).1 h)]
 · rw [if_neg h, if_neg (fun e => h ((F.dm v).2 e))]
   by_cases h2 : A v = true
   · obtain ⟨w, h3, h4⟩ := F.a v h2
     rw [if_pos h2, if_pos ⟨w, (F.dm w).1 h3, h4⟩]
   · rw [if_neg h2, if_neg]
     rintro ⟨w, h3, h4⟩
     rcases F.c.ed w v ((F.dm w).2 h3) (F.m.es _ _ h4) with h5 | ⟨h5, _⟩
     · exact h2 h5
     · exact h h5
theorem Mf.mono {n : Nat} {E E' : Nat → Nat → Prop} {mt : Nat → Int} (M : Mf n E mt) (h : ∀ v w, E v w → E' v w) (hs : ∀ v w, E' v w → E' w v) (hl : ∀ v w, E' v w → v < n ∧ w < n ∧ v ≠ w) : Mf n E' mt :=
 ⟨M.at_, M.big, M.sy, fun v w e => ⟨(M.ne v w e).1, h _ _ (M.ne v w e).2⟩, hs, hl⟩
theorem Fc.more {n : Nat} {E E' : Nat → Nat → Prop} {mt : Nat → Int} {D A : Nat → Bool} {bs : Nat → Nat} (F : Fc n E mt D A bs) (h : ∀ v w, E v w → E' v w) (hs : ∀ v w, E' v w → E' w v) (hl : ∀ v w, E' v w → v < n ∧ w < n ∧ v ≠ w) (he : ∀ v w, D v = true → E' v w → A w = true ∨ (D w = true ∧ bs w = bs v)) : Fc n E' mt D A bs where
 m := F.m.mono h hs hl
 c := ⟨F.c.dn, F.c.an, he, F.c.db, F.c.fr, F.c.am, F.c.dm, F.c.bb⟩
 d := fun v hv => by
  obtain ⟨mt', h1, h2, h3⟩ := F.d v hv
  exact ⟨mt', h1.mono h hs hl, h2, h3⟩
 a := fun v hv => by
  obtain ⟨w, h1, h2⟩ := F.a v hv
  exact ⟨w, h1, h _ _ h2⟩
def bsd (N : Nat) (a b : Nat → Int) (v : Nat) : Int := if v < N then a v else if 0 ≤ b (v - N) then b (v - N) + N else -1
theorem bsd_lo {N : Nat} {a b : Nat → Int} {v : Nat} (h : v < N) : bsd N a b v = a v := if_pos h
theorem bsd_hi {N : Nat} {a b : Nat → Int} {v : Nat} (h : ¬ v < N) : bsd N a b v = if 0 ≤ b (v - N) then b (v - N) + N else -1 := if_neg h
theorem bsd_at {N : Nat} {a b : Nat → Int} {v w : Nat} (h : ¬ v < N) : bsd N a b v = (w : Int) ↔ N ≤ w ∧ b (v - N) = ((w - N : Nat) : Int) := by
 rw [bsd_hi h]
 split
 · omega
 · omega
theorem num_add (N M : Nat) (p : Nat → Bool) : num (N + M) p = num N p + num M fun v => p (v + N) := by
 induction M with
 | zero => simp [num]
 | succ M ih =>
   unfold num at *
   rw [← Nat.add_assoc, List.range_succ, List.filter_append, List.length_append, ih, List.range_succ, List.filter_append, List.length_append, Nat.add_assoc]
   congr 2
   rw [Nat.add_comm N M]
   cases h : p (M + N) <;> simp [h]
structure Bsd (N M : Nat) (E1 E2 E : Nat → Nat → Prop) : Prop where
 lo : ∀ v w, v < N → (E v w ↔ E1 v w)
 hi : ∀ v w, ¬ v < N → (E v w ↔ N ≤ w ∧ E2 (v - N) (w - N))
theorem Mf.beside {N M : Nat} {E1 E2 E : Nat → Nat → Prop} (B : Bsd N M E1 E2 E) {a b : Nat → Int} (X : Mf N E1 a) (Y : Mf M E2 b) : Mf (N + M) E (bsd N a b) := by
 have lt1 : ∀ v w, E1 v w → w < N := fun v w h => (X.el v w h).2.1
 refine ⟨fun v hv => ?_, fun v hv w h => ?_, fun v w h => ?_, fun v w h => ?_, fun v w h => ?_, fun v w h => ?_⟩
 · by_cases h : v < N
   · rw [bsd_lo h]
     rcases X.at_ v h with h1 | ⟨w, h1, h2⟩
     · exact .inl h1
     · exact .inr ⟨w, h1, by omega⟩
   · rw [bsd_hi h]
     rcases Y.at_ (v - N) (by omega) with h1 | ⟨w, h1, h2⟩
     · rw [h1, if_neg (by omega)]; exact .inl rfl
     · rw [h1, if_pos (by omega)]; exact .inr ⟨w + N, by omega, by omega⟩
 · have hN : ¬ v < N := by omega
   obtain ⟨h1, h2⟩ := (bsd_at hN).1 h
   exact Y.big (v - N) (by omega) _ h2
 · by_cases hN : v < N
   · rw [bsd_lo hN] at h
     have hw := lt1 _ _ (X.ne v w h).2
     rw [bsd_lo hw]; exact X.sy v w h
   · obtain ⟨h1, h2⟩ := (bsd_at hN).1 h
     have := Y.sy _ _ h2
     exact (bsd_at (by omega)).2 ⟨by omega, this⟩
 · by_cases hN : v < N
   · rw [bsd_lo hN] at h
     exact ⟨(X.ne v w h).1, (B.lo v w hN).2 (X.ne v w h).2⟩
   · obtain ⟨h1, h2⟩ := (bsd_at hN).1 h
     obtain ⟨h3, h4⟩ := Y.ne _ _ h2
     exact ⟨by omega, (B.hi v w hN).2 ⟨h1, h4⟩⟩
 · by_cases hN : v < N
   · have h1 := (B.lo v w hN).1 h
     exact (B.lo w v (lt1 _ _ h1)).2 (X.es _ _ h1)
   · obtain ⟨h1, h2⟩ := (B.hi v w hN).1 h
     exact (B.hi w v (by omega)).2 ⟨by omega, Y.es _ _ h2⟩
 · by_cases hN : v < N
   · obtain ⟨k1, k2, k3⟩ := X.el _ _ ((B.lo v w hN).1 h)
     exact ⟨by omega, by omega, k3⟩
   · obtain ⟨h1, h2⟩ := (B.hi v w hN).1 h
     obtain ⟨k1, k2, k3⟩ := Y.el _ _ h2
     exact ⟨by omega, by omega, fun e => k3 (by omega)⟩
theorem fre_beside {N M : Nat} {E2 : Nat → Nat → Prop} {a b : Nat → Int} (Y : Mf M E2 b) : fre (N + M) (bsd N a b) = fre N a + fre M b := by
 unfold fre
 rw [num_add]
 congr 1
 · exact num_congr fun v hv => by unfold isFr; rw [bsd_lo hv]
 · refine num_congr fun v hv => ?_
   unfold isFr
   rw [bsd_hi (by omega), Nat.add_sub_cancel]
   rcases Y.at_ v hv with h | ⟨w, h, _⟩
   · rw [h]; rfl
   · rw [h, if_pos (by omega)]
     exact decide_eq_decide.2 ⟨fun e => by omega, fun e => by omega⟩
def bsB (N : Nat) (a b : Nat → Bool) (v : Nat) : Bool := if v < N then a v else b (v - N)
theorem bsB_lo {N : Nat} {a b : Nat → Bool} {v : Nat} (h : v < N) : bsB N a b v = a v := if_pos h
theorem bsB_hi {N : Nat} {a b : Nat → Bool} {v : Nat} (h : ¬ v < N) : bsB N a b v = b (v - N) := if_neg h
def bsN (N : Nat) (a b : Nat → Nat) (v : Nat) : Nat := if v < N then a v else b (v - N) + N
theorem bsN_lo {N : Nat} {a b : Nat → Nat} {v : Nat} (h : v < N) : bsN N a b v = a v := if_pos h
theorem bsN_hi {N : Nat} {a b : Nat → Nat} {v : Nat} (h : ¬ v < N) : bsN N a b v = b (v - N) + N := if_neg h
theorem Fc.beside {N M : Nat} {E1 E2 E : Nat → Nat → Prop} (B : Bsd N M E1 E2 E) {a b : Nat → Int} {D1 A1 D2 A2 : Nat → Bool} {b1 b2 : Nat → Nat} (X : Fc N E1 a D1 A1 b1) (Y : Fc M E2 b D2 A2 b2) : Fc (N + M) E (bsd N a b) (bsB N D1 D2) (bsB N A1 A2) (bsN N b1 b2) where
 m := X.m.beside B Y.m
 c := {
  dn := fun v h => by
   by_cases hN : v < N
   · omega
   · rw [bsB_hi hN] at h; have := Y.c.dn _ h; omega
  an := fun v h => by
   by_cases hN : v < N
   · rw [bsB_lo hN] at h ⊢; exact ⟨by omega, (X.c.an v h).2⟩
   · rw [bsB_hi hN] at h ⊢; have := Y.c.an _ h; exact ⟨by omega, this.2⟩
  ed := fun v w h hE => by
   by_cases hN : v < N
   · rw [bsB_lo hN] at h
     have h1 := (B.lo v w hN).1 hE
     have hw := (X.m.el _ _ h1).2.1
     rw [bsB_lo hw, bsB_lo hw, bsN_lo hw, bsN_lo hN]
     exact X.c.ed v w h h1
   · rw [bsB_hi hN] at h
     obtain ⟨h1, h2⟩ := (B.hi v w hN).1 hE
     rw [bsB_hi (by omega), bsB_hi (by omega), bsN_hi (by omega), bsN_hi hN]
     rcases Y.c.ed _ _ h h2 with h3 | ⟨h3, h4⟩
     · exact .inl h3
     · exact .inr ⟨h3, by omega⟩
  db := fun v h => by
   by_cases hN : v < N
   · rw [bsB_lo hN] at h
     obtain ⟨h1, h2⟩ := X.c.db v h
     have hb := X.c.dn _ h1
     rw [bsN_lo hN, bsB_lo hb, bsN_lo hb]
     exact ⟨h1, h2⟩
   · rw [bsB_hi hN] at h
     obtain ⟨h1, h2⟩ := Y.c.db _ h
     rw [bsN_hi hN, bsB_hi (by omega), bsN_hi (by omega), Nat.add_sub_cancel, h2]
     exact ⟨h1, rfl⟩
  fr := fun v hv h => by
   by_cases hN : v < N
   · rw [bsd_lo hN] at h
     rw [bsB_lo hN, bsN_lo hN]
     exact X.c.fr v hN h
   · rw [bsd_hi hN] at h
     rcases Y.m.at_ (v - N) (by omega) with k | ⟨w, k, _⟩
     · obtain ⟨h1, h2⟩ := Y.c.fr _ (by omega) k
       rw [bsB_hi hN, bsN_hi hN]
       exact ⟨h1, by omega⟩
     · rw [k, if_pos (by omega)] at h; omega
  am := fun v h => by
   by_cases hN : v < N
   · rw [bsB_lo hN] at h
     obtain ⟨x, h1, h2, h3⟩ := X.c.am v h
     have hx := X.c.dn _ h2
     exact ⟨x, by rw [bsd_lo hN]; exact h1, by rw [bsB_lo hx]; exact h2, by rw [bsN_lo hx]; exact h3⟩
   · rw [bsB_hi hN] at h
     obtain ⟨x, h1, h2, h3⟩ := Y.c.am _ h
     exact ⟨x + N, (bsd_at hN).2 ⟨by omega, by rw [Nat.add_sub_cancel]; exact h1⟩, by rw [bsB_hi (by omega), Nat.add_sub_cancel]; exact h2, by rw [bsN_hi (by omega), Nat.add_sub_cancel, h3]⟩
  dm := fun v h hb => by
   by_cases hN : v < N
   · rw [bsB_lo hN] at h
     rw [bsN_lo hN] at hb
     obtain ⟨w, h1, h2, h3⟩ := X.c.dm v h hb
     have hw := X.c.dn _ h2
     exact ⟨w, by rw [bsd_lo hN]; exact h1, by rw [bsB_lo hw]; exact h2, by rw [bsN_lo hw, bsN_lo hN]; exact h3⟩
   · rw [bsB_hi hN] at h
     rw [bsN_hi hN] at hb
     obtain ⟨w, h1, h2, h3⟩ := Y.c.dm _ h (by omega)
     exact ⟨w + N, (bsd_at hN).2 ⟨by omega, by rw [Nat.add_sub_cancel]; exact h1⟩, by rw [bsB_hi (by omega), Nat.add_sub_cancel]; exact h2, by rw [bsN_hi (by omega), bsN_hi hN, Nat.add_sub_cancel, h3]⟩
  bb := fun v w h hb hm => by
   by_cases hN : v < N
   · rw [bsB_lo hN] at h
     rw [bsN_lo hN] at hb
     rw [bsd_lo hN] at hm
     have h1 := X.c.bb v w h hb hm
     rw [bsB_lo (X.c.an w h1).1]; exact h1
   · rw [bsB_hi hN] at h
     rw [bsN_hi hN] at hb
     obtain ⟨h1, h2⟩ := (bsd_at hN).1 hm
     rw [bsB_hi (by omega)]
     exact Y.c.bb _ _ h (by omega) h2 }
 d := fun v h => by
  have e0 := fre_beside (N := N) (a := a) Y.m
  by_cases hN : v < N
  · rw [bsB_lo hN] at h
    obtain ⟨mt', h1, h2, h3⟩ := X.d v h
    have e1 := fre_beside (N := N) (a := mt') Y.m
    exact ⟨bsd N mt' b, h1.beside B Y.m, by omega, by rw [bsd_lo hN]; exact h3⟩
  · rw [bsB_hi hN] at h
    obtain ⟨mt', h1, h2, h3⟩ := Y.d _ h
    have e1 := fre_beside (N := N) (a := a) h1
    exact ⟨bsd N a mt', X.m.beside B h1, by omega, by rw [bsd_hi hN, h3]; rfl⟩
 a := fun v h => by
  by_cases hN : v < N
  · rw [bsB_lo hN] at h
    obtain ⟨w, h1, h2⟩ := X.a v h
    have hw := (X.m.el _ _ h2).2.1
    exact ⟨w, by rw [bsB_lo hw]; exact h1, (B.lo v w hN).2 h2⟩
  · rw [bsB_hi hN] at h
    obtain ⟨w, h1, h2⟩ := Y.a _ h
    exact ⟨w + N, by rw [bsB_hi (by omega), Nat.add_sub_cancel]; exact h1, (B.hi _ _ hN).2 ⟨by omega, by rw [Nat.add_sub_cancel]; exact h2⟩⟩
theorem bsd_adj {N M : Nat} {es hs : Es} (g : GR N es) : Bsd N M (adj es) (adj hs) (adj (besideE N es hs)) where
 lo := fun v w hv => by
  rw [adj_beside]
  constructor
  · rintro (h | h)
    · exact h
    · obtain ⟨c, d, e1, e2, _⟩ := adj_shift.1 h
      omega
  · exact .inl
 hi := fun v w hv => by
  rw [adj_beside]
  constructor
  · rintro (h | h)
    · have := (g.mf.2 _ _ h).1; omega
    · obtain ⟨c, d, rfl, rfl, h2⟩ := adj_shift.1 h
      exact ⟨by omega, by rw [Nat.add_sub_cancel, Nat.add_sub_cancel]; exact h2⟩
  · rintro ⟨h1, h2⟩
    exact .inr (adj_shift.2 ⟨v - N, w - N, by omega, by omega, h2⟩)
end Go.Ga.Gl
namespace Go.Proofs.Ytmcfdfafeheihaa
open Go Go.Ga Go.Ga.Gl
theorem Lg.no {N : Nat} {E : Nat → Nat → Prop} {mt : Nat → Int} (L : Lg N E mt) {l : List Nat} (A : Aug N E mt l) : False := by
 obtain ⟨M2, hfr, r, hrn, hr1, hr2⟩ := turn_mf L.1 A (mt' := fun u => if u ∈ l then (par l u : Int) else mt u) (fun u hu => if_pos hu) (fun u hu => if_neg hu)
 have h1 := fre_less hrn hr1 hr2 hfr
 have h2 := L.2 _ M2
 omega
def pairB (l : List Int) (v : Nat) : Bool := decide (0 ≤ l.getD v 0) && (decide (l.getD v 0 < l.length) && (decide (l.getD v 0 ≠ (v : Int)) && decide (l.getD (l.getD v 0).toNat 0 = (v : Int))))
def upP (l : List Int) (v : Nat) : Bool := decide ((v : Int) < l.getD v 0) && (decide (l.getD v 0 < l.length) && decide (l.getD (l.getD v 0).toNat 0 = (v : Int)))
theorem pair_up {l : List Int} {v : Nat} : pairB l v = true ↔ ∃ w : Nat, l.getD v 0 = w ∧ w < l.length ∧ w ≠ v ∧ l.getD w 0 = v := by
 unfold pairB
 simp only [Bool.and_eq_true, decide_eq_true_eq]
 refine ⟨fun ⟨h1, h2, h3, h4⟩ => ⟨(l.getD v 0).toNat, by omega, by omega, by omega, h4⟩, fun ⟨w, h1, h2, h3, h4⟩ => ?_⟩
 rw [h1, Int.toNat_natCast]
 exact ⟨by omega, by omega, by omega, h4⟩
theorem up_up {l : List Int} {v : Nat} : upP l v = true ↔ ∃ w : Nat, l.getD v 0 = w ∧ w < l.length ∧ v < w ∧ l.getD w 0 = v := by
 unfold upP
 simp only [Bool.and_eq_true, decide_eq_true_eq]
 refine ⟨fun ⟨h1, h2, h4⟩ => ⟨(l.getD v 0).toNat, by omega, by omega, by omega, h4⟩, fun ⟨w, h1, h2, h3, h4⟩ => ?_⟩
 rw [h1, Int.toNat_natCast]
 exact ⟨by omega, by omega, h4⟩
theorem pair_count (l : List Int) : ((List.range l.length).filter (pairB l)).length = 2 * ((List.range l.length).filter (upP l)).length := by
 have hp : ((List.range l.length).filter (pairB l)).Perm ((List.range l.length).filter (upP l) ++ ((List.range l.length).filter (upP l)).map fun v => (l.getD v 0).toNat) := by
  refine (List.perm_ext_iff_of_nodup (List.nodup_range.filter _) ?_).2 fun v => ?_
  · refine List.nodup_append.2 ⟨List.nodup_range.filter _, ?_, ?_⟩
    · refine List.pairwise_map.2 ((List.nodup_range (n := l.length)).filter (upP l) |>.imp_of_mem ?_)
      intro a b ha hb hne he
      obtain ⟨w, h1, _, _, h4⟩ := up_up.1 (List.mem_filter.1 ha).2
      obtain ⟨u, g1, _, _, g4⟩ := up_up.1 (List.mem_filter.1 hb).2
      rw [h1, g1, Int.toNat_natCast, Int.toNat_natCast] at he
      subst he; omega
    · intro a ha b hb hab
      subst hab
      obtain ⟨w, h1, _, h3, h4⟩ := up_up.1 (List.mem_filter.1 ha).2
      obtain ⟨u, hu, rfl⟩ := List.mem_map.1 hb
      obtain ⟨x, g1, _, g3, g4⟩ := up_up.1 (List.mem_filter.1 hu).2
      simp only [g1, Int.toNat_natCast] at h1 h3 h4
      omega
  · rw [List.mem_append, List.mem_filter, List.mem_filter, List.mem_map, List.mem_range, pair_up, up_up]
    constructor
    · rintro ⟨hv, w, h1, h2, h3, h4⟩
      rcases Nat.lt_or_ge v w with h | h
      · exact .inl ⟨hv, w, h1, h2, h, h4⟩
      · refine .inr ⟨w, List.mem_filter.2 ⟨List.mem_range.2 h2, up_up.2 ⟨v, h4, hv, by omega, h1⟩⟩, by rw [h4]; rfl⟩
    · rintro (⟨hv, w, h1, h2, h3, h4⟩ | ⟨u, hu, rfl⟩)
      · exact ⟨hv, w, h1, h2, by omega, h4⟩
      · obtain ⟨hu1, hu2⟩ := List.mem_filter.1 hu
        obtain ⟨x, g1, g2, g3, g4⟩ := up_up.1 hu2
        rw [g1, Int.toNat_natCast]
        exact ⟨g2, u, g4, List.mem_range.1 hu1, by omega, g1⟩
 rw [hp.length_eq, List.length_append, List.length_map]; omega
theorem paired_ok (l : List Int) {v : Nat} (hv : v < l.length) : ACalls Try.prog [] n_f46 [.imm 1 (ints l), .sc (.int .i64 (v : Int))] [] fun r h' => r = .sc (.bool (pairB l v)) ∧ h' = [] := by
 refine go_f46 rfl ?_
 unfold c_f46 v_f46
 refine wlk_sreg fun KY hKY => ?_
 simp only [go_sem, c_f46_r0]
 apply hKY
 refine wlk_sreg fun KY hKY => ?_
 simp only [go_sem, c_f46_r1, ints_get hv, hv, ints_len]
 apply hKY
 unfold pairB
 by_cases h1 : 0 ≤ l.getD v 0
 · have d1 : decide (0 ≤ l.getD v 0) = true := decide_eq_true h1
   by_cases h2 : l.getD v 0 < l.length
   · have d2 : decide (l.getD v 0 < (l.length : Int)) = true := decide_eq_true h2
     by_cases h3 : l.getD v 0 = (v : Int)
     · have d3 : decide (l.getD v 0 ≠ (v : Int)) = false := decide_eq_false fun h => h h3
       refine wlk_sreg fun KY hKY => ?_
       simp only [go_sem, c_f46_r2, d1, d2, d3, ints_len]
       apply hKY
       refine wlk_ret ?_
       simp only [go_sem]
       rw [d1, d2, d3]; rfl
     · have d3 : decide (l.getD v 0 ≠ (v : Int)) = true := decide_eq_true h3
       obtain ⟨w, hw⟩ : ∃ w : Nat, l.getD v 0 = w := ⟨(l.getD v 0).toNat, by omega⟩
       have hwl : w < l.length := by omega
       have hgw : l.getD (l.getD v 0).toNat 0 = l.getD w 0 := by rw [hw]; rfl
       rw [d1, d2, d3, hgw]
       rw [hw] at d1 d2 d3
       simp only [hw]
       refine wlk_sreg fun KY hKY => ?_
       simp only [go_sem, c_f46_r2, d1, d2, d3, ints_len, ints_get hwl, hwl]
       apply hKY
       refine wlk_ret ?_
       simp only [go_sem]
   · have d2 : decide (l.getD v 0 < (l.length : Int)) = false := decide_eq_false h2
     refine wlk_sreg fun KY hKY => ?_
     simp only [go_sem, c_f46_r2, d1, d2, ints_len]
     apply hKY
     refine wlk_ret ?_
     simp only [go_sem]
     rw [d1, d2]; rfl
 · have d1 : decide (0 ≤ l.getD v 0) = false := decide_eq_false h1
   refine wlk_sreg fun KY hKY => ?_
   simp only [go_sem, c_f46_r2, d1]
   apply hKY
   refine wlk_ret ?_
   simp only [go_sem]
   rw [d1]; rfl
def sel (φ : Nat → Bool) (k : Nat) : List Nat := (List.range k).filter φ
theorem sel_len (φ : Nat → Bool) (k : Nat) : (sel φ k).length ≤ k := Nat.le_trans (List.length_filter_le _ _) (by simp)
theorem sel_step (φ : Nat → Bool) (k : Nat) : sel φ (k + 1) = sel φ k ++ if φ k = true then [k] else [] := by
 unfold sel
 rw [List.range_succ, List.filter_append]; congr 1; simp [List.filter_cons]
theorem such_ok (g : Nat) (φ : Nat → Bool) (l : List Int) (hl : l.length ≤ 1000000000) (hg : ∀ v, v < l.length → ACalls Try.prog [] g [.imm 1 (ints l), .sc (.int .i64 (v : Int))] [] fun r h' => r = .sc (.bool (φ v)) ∧ h' = []) : ACalls Try.prog [] n_f45 [.imm 1 (ints l), .fn (.func g) [] []] [] fun r h' => r = .own (some 1) (nats (sel φ l.length)) ∧ h' = [] := by
 refine go_f45 rfl ?_
 unfold c_f45 v_f45
 refine wlk_sreg fun KY hKY => ?_
 simp only [go_sem, c_f45_r0]
 apply hKY
 refine wlk_sreg fun KY hKY => ?_
 simp only [go_sem, c_f45_r1]
 apply hKY
 refine sem_nil [0, 5] 1 (by simp only [go_sem]) ?_
 simp only [go_sem]
 refine wlk_seq fun X1 hn1 he1 hr1 => ?_
 refine wlk_sreg fun KY hKY => ?_
 simp only [go_sem, c_f45_r2, ints_len]
 apply hKY
 refine wlk_blk fun X2 hn2 he2 hf2 hr2 => ?_
 try simp only [go_sem]
 refine wlk_lp (α := Nat) [6, 10, 15] (fun k => [(5, .own (some 1) (nats (sel φ k))), (9, .sc (.int .i64 (k : Int)))]) (fun k => []) (fun k q => k ≤ l.length ∧ q = l.length - k) (0) (l.length) rfl (by first | (simp only [go_sem, updAll_cons, updAll_nil]; done) | with_reducible rfl | rfl) (⟨by omega, rfl⟩) ?_
 rintro k q ⟨hk, rfl⟩ X3 hn3 he3 hr3
 simp only [go_sem, updAll_cons, updAll_nil]
 refine wlk_sreg fun KY hKY => ?_
 simp only [go_sem, c_f45_r3]
 apply hKY
 refine wlk_seq fun X4 hn4 he4 hr4 => ?_
 rcases Nat.lt_or_ge k l.length with hk2 | hk2
 · refine wc1 ?_
   refine wlk_skip ?_
   repeat (first | refine hn4 _ ?_ | refine he4 _ _ ?_ | refine he3 _ _ ?_ | refine hn2 _ ?_ | refine he2 _ ?_ | refine hf2 _ _ (by decide) ?_ | refine hn1 _ ?_ | refine he1 _ _ ?_)
   refine wlk_seq fun X5 hn5 he5 hr5 => ?_
   refine wlk_blk fun X6 hn6 he6 hf6 hr6 => ?_
   refine wlk_sreg fun KY hKY => ?_
   simp only [go_sem, c_f45_r4]
   apply hKY
   have hfl := sel_len φ k
   have hby : ((sel φ k).length + 1) * 8 ≤ 140737488355328 := by omega
   have hst := sel_step φ k
   refine wlk_sreg fun KY hKY => ?_
   simp only [go_sem, c_f45_r5]
   refine call_view rfl (by simp only [go_sem] <;> rfl) ((hg k hk2).mono ?_)
   rintro rr hh ⟨rfl, rfl⟩
   refine ⟨rfl, rfl, rfl, ?_⟩
   simp only [go_sem]
   apply hKY
   cases hp : φ k with
   | true =>
     rw [hp, if_pos rfl] at hst
     refine wc1 ?_
     refine wlk_reg fun KY hKY => ?_
     simp only [go_sem, c_f45_r6, nats_snoc, hby, ← hst]
     apply hKY
     repeat (first | refine hn6 _ ?_ | refine he6 _ ?_ | refine hf6 _ _ (by decide) ?_ | refine hn5 _ ?_ | refine he5 _ _ ?_ | refine hn4 _ ?_ | refine he4 _ _ ?_ | refine he3 _ _ ?_ | refine hn2 _ ?_ | refine he2 _ ?_ | refine hf2 _ _ (by decide) ?_ | refine hn1 _ ?_ | refine he1 _ _ ?_)
     refine wlk_reg fun KY hKY => ?_
     simp only [go_sem, c_f45_r7, incS (show k < 4611686018427387904 by omega)]
     apply hKY
     repeat (first | refine hn6 _ ?_ | refine he6 _ ?_ | refine hf6 _ _ (by decide) ?_ | refine hn5 _ ?_ | refine he5 _ _ ?_ | refine hn4 _ ?_ | refine he4 _ _ ?_)
     refine hn3 _ (k + 1) (l.length - (k + 1)) (by omega) (by first | (simp only [go_sem, updAll_cons, updAll_nil]; done) | with_reducible rfl | rfl) ?_
     exact ⟨hk2, rfl⟩
   | false =>
     rw [hp, if_neg (by decide), List.append_nil] at hst
     refine wc0 ?_
     refine wlk_skip ?_
     repeat (first | refine hn6 _ ?_ | refine he6 _ ?_ | refine hf6 _ _ (by decide) ?_ | refine hn5 _ ?_ | refine he5 _ _ ?_ | refine hn4 _ ?_ | refine he4 _ _ ?_ | refine he3 _ _ ?_ | refine hn2 _ ?_ | refine he2 _ ?_ | refine hf2 _ _ (by decide) ?_ | refine hn1 _ ?_ | refine he1 _ _ ?_)
     refine wlk_reg fun KY hKY => ?_
     simp only [go_sem, c_f45_r7, incS (show k < 4611686018427387904 by omega)]
     apply hKY
     repeat (first | refine hn6 _ ?_ | refine he6 _ ?_ | refine hf6 _ _ (by decide) ?_ | refine hn5 _ ?_ | refine he5 _ _ ?_ | refine hn4 _ ?_ | refine he4 _ _ ?_)
     refine hn3 _ (k + 1) (l.length - (k + 1)) (by omega) (by first | (simp only [go_sem, updAll_cons, updAll_nil, hst]; done) | with_reducible rfl | rfl) ?_
     exact ⟨hk2, rfl⟩
 refine wc0 ?_
 refine wlk_exit ?_
 repeat (first | refine hn4 _ ?_ | refine he4 _ _ ?_ | refine he3 _ _ ?_ | refine hn2 _ ?_ | refine he2 _ ?_ | refine hf2 _ _ (by decide) ?_ | refine hn1 _ ?_ | refine he1 _ _ ?_)
 obtain rfl : k = l.length := by omega
 refine wlk_sreg fun KY hKY => ?_
 simp only [go_sem, c_f45_r8]
 apply hKY
 refine wlk_ret ?_
 repeat (first | refine hr4 _ ?_ | refine hr3 _ ?_ | refine hr2 _ ?_ | refine hr1 _ ?_)
 simp only [go_sem]
theorem msize_ok (l : List Int) (hl : l.length ≤ 1000000000) : ACalls Try.prog [] n_f26 [.imm 1 (ints l)] [] fun r h' => r = .sc (.int .i64 ((sel (upP l) l.length).length : Nat)) ∧ h' = [] := by
 have hc : (sel (pairB l) l.length).length = 2 * (sel (upP l) l.length).length := pair_count l
 have hle := sel_len (upP l) l.length
 have hq : (((sel (pairB l) l.length).length : Nat) : Int).tdiv 2 = ((sel (upP l) l.length).length : Nat) := by rw [hc, Int.tdiv_eq_ediv_of_nonneg (by omega)]; omega
 have hq2 : IntKind.i64.wrap (((sel (upP l) l.length).length : Nat) : Int) = ((sel (upP l) l.length).length : Nat) := by rw [IntWalk.i64_in _ (by omega)]
 refine go_f26 rfl ?_
 unfold c_f26 v_f26
 refine wlk_sreg fun KY hKY => ?_
 simp only [go_sem, c_f26_r0]
 apply hKY
 refine wlk_sreg fun KY hKY => ?_
 simp only [go_sem, c_f26_r1]
 refine call_view rfl (by simp only [go_sem] <;> rfl) ((such_ok n_f46 (pairB l) l hl fun v hv => paired_ok l hv).mono ?_)
 rintro rr hh ⟨rfl, rfl⟩
 refine ⟨?_, ?_, ?_, ?_⟩
 iterate 3 (first | rfl | simp only [go_sem])
 simp only [go_sem, nats_len, hq, hq2]
 apply hKY
 refine wlk_ret ?_
 simp only [go_sem]
end Go.Proofs.Ytmcfdfafeheihaa
set_option maxHeartbeats 8000000
namespace Go.Proofs.Ytmcfdfafeheihaa
open Go Go.Ga Go.Ga.Gl
theorem shift_snoc {N : Nat} {hs : Es} {k a b : Nat} (h : hs[k]? = some (a, b)) : shiftE N (hs.take (k + 1)) = shiftE N (hs.take k) ++ [(a + N, b + N)] := by
 rw [List.take_add_one, h]; simp [shiftE]
theorem beside_ok {N M : Nat} {es hs : Es} (g : GR N es) (h : GR M hs) : ACalls Try.prog [] n_f16 [.agg [.sc (.int .i64 (N : Int)), .imm 2 (twos (castE es))], .agg [.sc (.int .i64 (M : Int)), .imm 2 (twos (castE hs))]] [] fun r h' => r = .agg [.sc (.int .i64 ((N + M : Nat) : Int)), .imm 2 (twos (castE (besideE N es hs)))] ∧ h' = [] := by
 have g1 := g.hn
 have g2 := g.hm
 have h1 := h.hn
 have h2 := h.hm
 have w0 : IntKind.i64.wrap ((N : Int) + (M : Int)) = ((N + M : Nat) : Int) := by rw [IntWalk.i64_in _ (by omega)]; omega
 have b1 : es.length * 2 * 16 ≤ 140737488355328 := by omega
 refine go_f16 rfl ?_
 unfold c_f16 v_f16
 refine wlk_sreg fun KY hKY => ?_
 simp only [go_sem, c_f16_r0]
 apply hKY
 refine wlk_sdraw fun KY hKY => ?_
 simp only [go_sem, c_f16_r1, w0, b1, castE_len, twos_cellOk]
 refine (fun H => by refine ⟨⟨hKY _ ?_, hKY _ ?_⟩, hKY _ ?_⟩ <;> (simp only [go_sem]; exact H)) ?_
 refine wlk_seq fun X1 hn1 he1 hr1 => ?_
 refine wlk_sreg fun KY hKY => ?_
 simp only [go_sem, c_f16_r2]
 apply hKY
 simp only [go_sem]
 rw [show castE es = castE (es ++ shiftE N (hs.take 0)) by simp [shiftE]]
 refine wlk_blk fun X2 hn2 he2 hf2 hr2 => ?_
 try simp only [go_sem]
 refine wlk_lp (α := Nat) [20] (fun k => [(5, .own none [.sc (.int .i64 ((N + M : Nat) : Int)), .own (some 2) (twos (castE (es ++ shiftE N (hs.take k))))]), (6, .sc (.int .i64 (k : Int)))]) (fun k => []) (fun k q => k ≤ hs.length ∧ q = hs.length - k) (0) (hs.length) rfl (by first | (simp only [go_sem, updAll_cons, updAll_nil]; done) | with_reducible rfl | rfl) (⟨by omega, rfl⟩) ?_
 rintro k q ⟨hk, rfl⟩ X3 hn3 he3 hr3
 simp only [go_sem, updAll_cons, updAll_nil]
 refine wlk_seq fun X4 hn4 he4 hr4 => ?_
 refine wlk_sreg fun KY hKY => ?_
 simp only [go_sem, c_f16_r3, castE_len]
 apply hKY
 by_cases hk2 : k < hs.length
 · refine wc1 ?_
   refine wlk_skip ?_
   repeat (first | refine hn4 _ ?_ | refine he4 _ _ ?_ | refine he3 _ _ ?_ | refine hn2 _ ?_ | refine he2 _ ?_ | refine hf2 _ _ (by decide) ?_ | refine hn1 _ ?_ | refine he1 _ _ ?_)
   refine wlk_seq fun X5 hn5 he5 hr5 => ?_
   refine wlk_blk fun X6 hn6 he6 hf6 hr6 => ?_
   have hx : hs[k]? = some hs[k] := List.getElem?_eq_getElem hk2
   have hy := h.ok hs[k] (List.getElem_mem hk2)
   generalize hs[k] = x at hx hy
   obtain ⟨a, b⟩ := x
   simp only at hy
   have hx' := castE_get hx
   have k1 : k * 2 + 1 < hs.length * 2 := by omega
   have k2 : k * 2 < hs.length * 2 := by omega
   have wa : IntKind.i64.wrap ((a : Int) + (N : Int)) = ((a + N : Nat) : Int) := by rw [IntWalk.i64_in _ (by omega)]; omega
   have wb : IntKind.i64.wrap ((b : Int) + (N : Int)) = ((b + N : Nat) : Int) := by rw [IntWalk.i64_in _ (by omega)]; omega
   have hsn : twos (castE (es ++ shiftE N (hs.take k))) ++ [.sc (.int .i64 ((a + N : Nat) : Int)), .sc (.int .i64 ((b + N : Nat) : Int))] = twos (castE (es ++ shiftE N (hs.take (k + 1)))) := by
    rw [shift_snoc hx, ← List.append_assoc, castE_append (es ++ shiftE N (hs.take k)), twos_append]; rfl
   have hl : ((es ++ shiftE N (hs.take k)).length * 2 + 2) * 16 ≤ 140737488355328 := by simp [shiftE]; omega
   refine wlk_draw fun KY hKY => ?_
   simp only [go_sem, c_f16_r4, castE_len, hk2, two_get0 hx', two_get1 hx', wa, wb, k1, k2, hsn, hl]
   apply hKY
   repeat (first | refine hn6 _ ?_ | refine he6 _ ?_ | refine hf6 _ _ (by decide) ?_ | refine hn5 _ ?_ | refine he5 _ _ ?_ | refine hn4 _ ?_ | refine he4 _ _ ?_ | refine he3 _ _ ?_ | refine hn2 _ ?_ | refine he2 _ ?_ | refine hf2 _ _ (by decide) ?_ | refine hn1 _ ?_ | refine he1 _ _ ?_)
   refine wlk_reg fun KY hKY => ?_
   simp only [go_sem, c_f16_r5, inc k (by omega)]
   apply hKY
   repeat (first | refine hn6 _ ?_ | refine he6 _ ?_ | refine hf6 _ _ (by decide) ?_ | refine hn5 _ ?_ | refine he5 _ _ ?_ | refine hn4 _ ?_ | refine he4 _ _ ?_)
   refine hn3 _ (k + 1) (hs.length - (k + 1)) (by omega) (by first | (simp only [go_sem, updAll_cons, updAll_nil]; done) | with_reducible rfl | rfl) ?_
   exact ⟨hk2, rfl⟩
 · refine wc0 ?_
   refine wlk_exit ?_
   repeat (first | refine hn4 _ ?_ | refine he4 _ _ ?_ | refine he3 _ _ ?_ | refine hn2 _ ?_ | refine he2 _ ?_ | refine hf2 _ _ (by decide) ?_ | refine hn1 _ ?_ | refine he1 _ _ ?_)
   obtain rfl : k = hs.length := by omega
   rw [List.take_length]
   refine sem_freeze [0, 5, 1] (by simp only [go_sem]; rfl) ?_
   simp only [go_sem]
   refine wlk_sreg fun KY hKY => ?_
   simp only [go_sem, c_f16_r6]
   apply hKY
   refine wlk_ret ?_
   repeat (first | refine hr4 _ ?_ | refine hr3 _ ?_ | refine hr2 _ ?_ | refine hr1 _ ?_)
   simp only [go_sem]
   rfl
theorem shift_ok (l : List Nat) (N : Nat) (hN : N ≤ 4096) (hb : l.length ≤ 1000000) (hl : ∀ v ∈ l, v ≤ 1000000) : ACalls Try.prog [] n_f17 [.imm 1 (nats l), .sc (.int .i64 (N : Int))] [] fun r h' => r = .own (some 1) (nats (l.map (· + N))) ∧ h' = [] := by
 refine go_f17 rfl ?_
 unfold c_f17 v_f17
 refine wlk_sreg fun KY hKY => ?_
 simp only [go_sem, c_f17_r0]
 apply hKY
 refine wlk_sreg fun KY hKY => ?_
 simp only [go_sem, c_f17_r1]
 apply hKY
 simp only [go_sem]
 refine sem_nil [0, 5] 1 (by simp only [go_sem]) ?_
 refine wlk_seq fun X1 hn1 he1 hr1 => ?_
 refine wlk_sreg fun KY hKY => ?_
 simp only [go_sem, c_f17_r2]
 apply hKY
 refine wlk_blk fun X2 hn2 he2 hf2 hr2 => ?_
 try simp only [go_sem]
 refine wlk_lp (α := Nat) [10] (fun k => [(5, .own (some 1) (nats ((l.take k).map (· + N)))), (6, .sc (.int .i64 (k : Int)))]) (fun k => []) (fun k q => k ≤ l.length ∧ q = l.length - k) (0) (l.length) rfl (by first | (simp only [go_sem, updAll_cons, updAll_nil]; done) | with_reducible rfl | rfl) (⟨by omega, rfl⟩) ?_
 rintro k q ⟨hk, rfl⟩ X3 hn3 he3 hr3
 simp only [go_sem, updAll_cons, updAll_nil]
 refine wlk_seq fun X4 hn4 he4 hr4 => ?_
 refine wlk_sreg fun KY hKY => ?_
 simp only [go_sem, c_f17_r3]
 apply hKY
 by_cases hk2 : k < l.length
 · refine wc1 ?_
   refine wlk_skip ?_
   repeat (first | refine hn4 _ ?_ | refine he4 _ _ ?_ | refine he3 _ _ ?_ | refine hn2 _ ?_ | refine he2 _ ?_ | refine hf2 _ _ (by decide) ?_ | refine hn1 _ ?_ | refine he1 _ _ ?_)
   refine wlk_seq fun X5 hn5 he5 hr5 => ?_
   refine wlk_blk fun X6 hn6 he6 hf6 hr6 => ?_
   have hx : l[k]? = some l[k] := List.getElem?_eq_getElem hk2
   have hv := hl l[k] (List.getElem_mem hk2)
   generalize l[k] = v at hx hv
   have hxn : (nats l)[k]? = some (.sc (.int .i64 (v : Int))) := by simp [nats, hx]
   have w : IntKind.i64.wrap ((v : Int) + (N : Int)) = ((v + N : Nat) : Int) := by rw [IntWalk.i64_in _ (by omega)]; omega
   have hsn : (l.take k).map (· + N) ++ [v + N] = (l.take (k + 1)).map (· + N) := by rw [List.take_add_one, hx]; simp
   have hby : ((l.take k).length + 1) * 8 ≤ 140737488355328 := by simp; omega
   refine wlk_reg fun KY hKY => ?_
   simp only [go_sem, c_f17_r4, hxn, hk2, w, nats_snoc, hsn, hby]
   apply hKY
   repeat (first | refine hn6 _ ?_ | refine he6 _ ?_ | refine hf6 _ _ (by decide) ?_ | refine hn5 _ ?_ | refine he5 _ _ ?_ | refine hn4 _ ?_ | refine he4 _ _ ?_ | refine he3 _ _ ?_ | refine hn2 _ ?_ | refine he2 _ ?_ | refine hf2 _ _ (by decide) ?_ | refine hn1 _ ?_ | refine he1 _ _ ?_)
   refine wlk_reg fun KY hKY => ?_
   simp only [go_sem, c_f17_r5, inc k (by omega)]
   apply hKY
   repeat (first | refine hn6 _ ?_ | refine he6 _ ?_ | refine hf6 _ _ (by decide) ?_ | refine hn5 _ ?_ | refine he5 _ _ ?_ | refine hn4 _ ?_ | refine he4 _ _ ?_)
   refine hn3 _ (k + 1) (l.length - (k + 1)) (by omega) (by first | (simp only [go_sem, updAll_cons, updAll_nil]; done) | with_reducible rfl | rfl) ?_
   exact ⟨hk2, rfl⟩
 · refine wc0 ?_
   refine wlk_exit ?_
   repeat (first | refine hn4 _ ?_ | refine he4 _ _ ?_ | refine he3 _ _ ?_ | refine hn2 _ ?_ | refine he2 _ ?_ | refine hf2 _ _ (by decide) ?_ | refine hn1 _ ?_ | refine he1 _ _ ?_)
   obtain rfl : k = l.length := by omega
   rw [List.take_length]
   refine wlk_sreg fun KY hKY => ?_
   simp only [go_sem, c_f17_r6]
   apply hKY
   refine wlk_ret ?_
   repeat (first | refine hr4 _ ?_ | refine hr3 _ ?_ | refine hr2 _ ?_ | refine hr1 _ ?_)
   simp only [go_sem]
def castN (l : List Nat) : List Int := l.map fun x : Nat => (x : Int)
theorem nats_cast (l : List Nat) : nats l = ints (castN l) := nats_ints l
def bErr (n : Int) (es : List (Int × Int)) (b : List Int) : Int := bif rightB n es then (bif b.all (fun v => decide (0 ≤ v) && decide (v < n)) then (bif decide b.Nodup then 0 else 6) else 4) else 3
def BP (n : Int) (es : List (Int × Int)) (b : List Int) (x e : Int) : Prop := (bErr n es b ≠ 0 ∧ x = 0 ∧ e = bErr n es b) ∨ (bErr n es b = 0 ∧ ∃ ps, PsOf n es b ps ∧ x = (oddCount ps : Int) - b.length ∧ e = 0)
theorem BP.unique {n : Int} {es : List (Int × Int)} {b : List Int} {x e y f : Int} (h : BP n es b x e) (h' : BP n es b y f) : x = y ∧ e = f := by
 rcases h with ⟨h1, rfl, rfl⟩ | ⟨h1, ps, hp, rfl, rfl⟩
 · rcases h' with ⟨_, rfl, rfl⟩ | ⟨h2, _⟩
   · exact ⟨rfl, rfl⟩
   · exact absurd h2 h1
 · rcases h' with ⟨h2, _⟩ | ⟨_, qs, hq, rfl, rfl⟩
   · exact absurd h1 h2
   · obtain rfl := hp.unique hq; exact ⟨rfl, rfl⟩
theorem cpiece_ok (c : Nat) (p : List Nat) (hc : c ≤ 100000) (hp : p.length ≤ 100000) : ACalls Try.prog [] n_f48 [.ptr 0 0, .imm 1 (nats p)] [some [.sc (.int .i64 (c : Int))]] fun r h' => r = .tup [] ∧ h' = [some [.sc (.int .i64 ((c + p.length % 2 : Nat) : Int))]] := by
 have hm : (p.length : Int).tmod 2 = ((p.length % 2 : Nat) : Int) := by
  rw [Int.tmod_eq_emod_of_nonneg (by omega)]; omega
 have ha : IntKind.i64.wrap ((c : Int) + ((p.length % 2 : Nat) : Int)) = ((c + p.length % 2 : Nat) : Int) := by
  rw [IntWalk.i64_in _ (by omega)]; omega
 refine go_f48 rfl ?_
 unfold c_f48 v_f48
 refine wlk_reg fun KY hKY => ?_
 simp only [go_sem, c_f48_r0, nats_len, hm, ha]
 apply hKY
 simp only [go_sem]
theorem lacks_ok {N : Nat} {es : Es} (g : GR N es) (b : List Int) (hb : b.length ≤ 1000000) : ACalls Try.prog [] n_f28 [.imm 1 (rowsI (near N es)), .imm 1 (ints b)] [] fun r h' => (∃ ps, IsPieces N es (fun v => (v : Int) ∈ b) ps ∧ r = .sc (.int .i64 ((oddCount ps : Int) - b.length))) ∧ h' = [] := by
 have hN := g.hn
 refine ACalls.trim ?_
 refine go_f28 rfl ?_
 unfold c_f28 v_f28
 refine wlk_sreg fun KY hKY => ?_
 simp only [go_sem, c_f28_r0]
 apply hKY
 refine wlk_sreg fun KY hKY => ?_
 simp only [go_sem, c_f28_r1]
 apply hKY
 refine sem_share [0, 5] (by simp only [go_sem]; rfl) ?_
 simp only [go_sem]
 refine wlk_sreg fun KY hKY => ?_
 simp only [go_sem, c_f28_r2]
 apply hKY
 refine wlk_seq fun X1 hn1 he1 hr1 => ?_
 refine wlk_sreg fun KY hKY => ?_
 simp only [go_sem, c_f28_r3]
 refine call_view rfl (by simp only [go_sem] <;> rfl) ((ofT_ok g b (by omega)).mono ?_)
 rintro rr hh ⟨⟨ps, hps, rfl⟩, rfl⟩
 refine ⟨?_, ?_, ?_, ?_⟩
 iterate 3 (first | rfl | simp only [go_sem])
 simp only [go_sem]
 apply hKY
 refine sem_freeze [0, 15] (by simp only [go_sem]; rfl) ?_
 simp only [go_sem]
 have hpl := pieces_len hps
 have hpe := fun p hp => piece_len hps (p := p) hp
 have hoc := fun k => odd_le2 ps k (Nat.le_trans hpl hN)
 refine wlk_blk fun X2 hn2 he2 hf2 hr2 => ?_
 try simp only [go_sem]
 refine wlk_lp (α := Nat) [8, 18] (fun k => [(17, .sc (.int .i64 (k : Int)))]) (fun k => [some [.sc (.int .i64 (oddCount (ps.take k) : Int))]]) (fun k q => k ≤ ps.length ∧ q = ps.length - k) (0) (ps.length) rfl (by first | (simp only [go_sem, updAll_cons, updAll_nil]; done) | with_reducible rfl | rfl) (⟨by omega, rfl⟩) ?_
 rintro k q ⟨hk, rfl⟩ X3 hn3 he3 hr3
 simp only [go_sem, updAll_cons, updAll_nil]
 refine wlk_sreg fun KY hKY => ?_
 simp only [go_sem, c_f28_r4]
 apply hKY
 refine wlk_seq fun X4 hn4 he4 hr4 => ?_
 rcases Nat.lt_or_ge k ps.length with hk2 | hk2
 · refine wc1 ?_
   refine wlk_skip ?_
   repeat (first | refine hn4 _ ?_ | refine he4 _ _ ?_ | refine he3 _ _ ?_ | refine hn2 _ ?_ | refine he2 _ ?_ | refine hf2 _ _ (by decide) ?_ | refine hn1 _ ?_ | refine he1 _ _ ?_)
   refine wlk_seq fun X5 hn5 he5 hr5 => ?_
   refine wlk_blk fun X6 hn6 he6 hf6 hr6 => ?_
   have hx : ps[k]? = some ps[k] := List.getElem?_eq_getElem hk2
   have hy : (ps[k]).length ≤ 4096 := Nat.le_trans (hpe _ (List.getElem_mem hk2)) hN
   generalize ps[k] = p at hx hy
   have hst := odd_snoc ps k p hx
   have h1 := hoc k
   refine wlk_sreg fun KY hKY => ?_
   simp only [go_sem, c_f28_r5, rowsI_get hx, hk2, rowsI_len]
   apply hKY
   refine wlk_reg fun KY hKY => ?_
   simp only [go_sem, c_f28_r6]
   apply call_gen [] [0] false none rfl
   iterate 8 (first | (simp only [go_sem, watchIn] <;> rfl) | rfl)
   refine (cpiece_ok (oddCount (ps.take k)) p (by omega) (by omega)).mono ?_
   rintro _ _ ⟨rfl, rfl⟩
   refine ⟨Nat.le_of_ble_eq_true rfl, (fun hh => by cases hh), ?_⟩
   simp only [go_sem, callOut, AState.after, ← hst]
   apply hKY
   repeat (first | refine hn6 _ ?_ | refine he6 _ ?_ | refine hf6 _ _ (by decide) ?_ | refine hn5 _ ?_ | refine he5 _ _ ?_ | refine hn4 _ ?_ | refine he4 _ _ ?_ | refine he3 _ _ ?_ | refine hn2 _ ?_ | refine he2 _ ?_ | refine hf2 _ _ (by decide) ?_ | refine hn1 _ ?_ | refine he1 _ _ ?_)
   refine wlk_reg fun KY hKY => ?_
   simp only [go_sem, c_f28_r7, incS (show k < 4611686018427387904 by omega)]
   apply hKY
   repeat (first | refine hn6 _ ?_ | refine he6 _ ?_ | refine hf6 _ _ (by decide) ?_ | refine hn5 _ ?_ | refine he5 _ _ ?_ | refine hn4 _ ?_ | refine he4 _ _ ?_)
   refine hn3 _ (k + 1) (ps.length - (k + 1)) (by omega) (by first | (simp only [go_sem, updAll_cons, updAll_nil]; done) | with_reducible rfl | rfl) ?_
   exact ⟨hk2, rfl⟩
 refine wc0 ?_
 refine wlk_exit ?_
 repeat (first | refine hn4 _ ?_ | refine he4 _ _ ?_ | refine he3 _ _ ?_ | refine hn2 _ ?_ | refine he2 _ ?_ | refine hf2 _ _ (by decide) ?_ | refine hn1 _ ?_ | refine he1 _ _ ?_)
 obtain rfl : k = ps.length := by omega
 rw [List.take_length]
 have h1 := hoc ps.length
 rw [List.take_length] at h1
 have hw : IntKind.i64.wrap ((oddCount ps : Int) - (b.length : Int)) = (oddCount ps : Int) - b.length := by rw [IntWalk.i64_in _ (by omega)]
 refine wlk_sreg fun KY hKY => ?_
 simp only [go_sem, c_f28_r8, ints_len, hw]
 apply hKY
 refine wlk_ret ?_
 repeat (first | refine hr4 _ ?_ | refine hr3 _ ?_ | refine hr2 _ ?_ | refine hr1 _ ?_)
 simp only [go_sem]
 exact ⟨ps, hps, rfl⟩
end Go.Proofs.Ytmcfdfafeheihaa
