/- No set of vertices lacks more than vertices are left by a largest matching; none less than a matching leaves. -/
import Derived.Test.YtmcfdfafeheihaaPe3
import Derived.Test.YtmcfdfafeheihaaPe2
import Derived.Test.YtmcfdfafeheihaaPe1
import Derived.Test.YtmcfdfafeheihaaGmpelom5
import Derived.WalkKit
import Derived.ProofKit
import Derived.OpenShut
import Derived.JoinedCond
set_option linter.all false
set_option maxRecDepth 100000
set_option maxHeartbeats 4000000
namespace Go.Proofs.Ytmcfdfafeheihaa
open Go Go.Ga Go.Ga.Gl
theorem mateB_yes {N : Nat} {es : Es} (g : GR N es) {m : List Int} (h : m.length = N) : mateB N (castE es) m = (List.range N).all fun v => mOk es m v := by
 unfold mateB mOk
 rw [rightB_GR g, decide_eq_true (show (m.length : Int) = (N : Int) by omega), h]; rfl
theorem mright_ok (n : Int) (es : List (Int × Int)) (m : List Int) : ACalls Try.prog [] n_f31 [.agg [.sc (.int .i64 n), .imm 2 (twos es)], .imm 1 (ints m)] [] fun r h' => r = .sc (.bool (mateB n es m)) ∧ h' = [] := by
 cases h : (rightB n es && decide ((m.length : Int) = n)) with
 | false =>
   have : mateB n es m = false := by unfold mateB; rw [h]; rfl
   rw [this]; exact mright_no n es m h
 | true =>
   rw [Bool.and_eq_true, decide_eq_true_iff] at h
   obtain ⟨N, es', rfl, rfl, g⟩ := right_nat h.1
   rw [mateB_yes g (show m.length = N by omega)]
   exact mright_yes g m (by omega)
theorem mateB_len {n : Int} {es : List (Int × Int)} {m : List Int} (h : mateB n es m = true) : rightB n es = true ∧ (m.length : Int) = n := by
 unfold mateB at h
 rw [Bool.and_eq_true, Bool.and_eq_true, decide_eq_true_iff] at h
 exact h.1
theorem BP.bound {n : Int} {es : List (Int × Int)} {b : List Int} {x : Int} (h : BP n es b x 0) : - (b.length : Int) ≤ x ∧ x ≤ 4096 := by
 rcases h with ⟨h1, rfl, h2⟩ | ⟨_, ps, hp, rfl, _⟩
 · exact absurd h2.symm h1
 · have h1 := odd_le2 ps ps.length hp.len.1
   rw [List.take_length] at h1
   omega
def showB (n : Int) (es : List (Int × Int)) (m : List Int) (x e : Int) : Bool := decide (e = 0) && (mateB n es m && decide (2 * ((sel (upP m) m.length).length : Int) = n - x))
theorem showB_e {n : Int} {es : List (Int × Int)} {m : List Int} {x e : Int} (h : e ≠ 0) : showB n es m x e = false := by unfold showB; rw [decide_eq_false h]; rfl
theorem bshows_ok (n : Int) (es : List (Int × Int)) (m b : List Int) (hm : m.length ≤ 1000000) (hb : b.length ≤ 1000000) : ACalls Try.prog [] n_f15 [.agg [.sc (.int .i64 n), .imm 2 (twos es)], .imm 1 (ints m), .imm 1 (ints b)] [] fun r h' => (∃ x e, BP n es b x e ∧ r = .sc (.bool (showB n es m x e))) ∧ h' = [] := by
 refine ACalls.trim ?_
 have hsz := sel_len (upP m) m.length
 have hw2 : IntKind.i64.wrap (2 * ((sel (upP m) m.length).length : Int)) = 2 * ((sel (upP m) m.length).length : Int) := by rw [IntWalk.i64_in _ (by omega)]
 refine go_f15 rfl ?_
 unfold c_f15 v_f15
 refine wlk_sreg fun KY hKY => ?_
 simp only [go_sem, c_f15_r0]
 apply hKY
 refine wlk_sreg fun KY hKY => ?_
 simp only [go_sem, c_f15_r1]
 refine call_view rfl (by simp only [go_sem] <;> rfl) ((black_ok n es b hb).mono ?_)
 rintro rr hh ⟨⟨x, e, hxe, rfl⟩, rfl⟩
 refine ⟨?_, ?_, ?_, ?_⟩
 iterate 3 (first | rfl | simp only [go_sem])
 simp only [go_sem]
 apply hKY
 by_cases he : e = 0
 · subst he
   have hbx := hxe.bound
   cases hmb : mateB n es m with
   | false =>
     refine wlk_sdraw fun KY hKY => ?_
     simp only [go_sem, c_f15_r2]
     refine call_view rfl (by simp only [go_sem] <;> rfl) ((mright_ok n es m).mono ?_)
     rintro rr hh ⟨rfl, rfl⟩
     refine ⟨rfl, rfl, rfl, ?_⟩
     simp only [go_sem, hmb]
     apply hKY
     refine wlk_ret ?_
     simp only [go_sem]
     exact ⟨x, 0, hxe, by unfold showB; rw [hmb]; simp⟩
   | true =>
     obtain ⟨hr, hl⟩ := mateB_len hmb
     have hw : IntKind.i64.wrap (n - x) = n - x := by rw [IntWalk.i64_in _ (by omega)]
     refine wlk_sdraw fun KY hKY => ?_
     simp only [go_sem, c_f15_r2]
     refine call_view rfl (by simp only [go_sem] <;> rfl) ((mright_ok n es m).mono ?_)
     rintro rr hh ⟨rfl, rfl⟩
     refine ⟨rfl, rfl, rfl, ?_⟩
     simp only [go_sem, hmb, hw]
     refine call_view rfl (by simp only [go_sem] <;> rfl) ((msize_ok m (by omega)).mono ?_)
     rintro rr hh ⟨rfl, rfl⟩
     refine ⟨rfl, rfl, rfl, ?_⟩
     simp only [go_sem, hw2]
     apply hKY
     refine wlk_ret ?_
     simp only [go_sem]
     exact ⟨x, 0, hxe, by unfold showB; rw [hmb]; simp⟩
 · have hd := decide_eq_false he
   refine wlk_sdraw fun KY hKY => ?_
   simp only [go_sem, c_f15_r2, hd]
   apply hKY
   refine wlk_ret ?_
   simp only [go_sem]
   exact ⟨x, e, hxe, by rw [showB_e he]⟩
end Go.Proofs.Ytmcfdfafeheihaa

namespace Go.Ga.Gl
open Go Go.Ga
theorem nodup_mapG {α : Type} {f : α → Nat} : ∀ {l : List α}, l.Nodup → (∀ x ∈ l, ∀ y ∈ l, f x = f y → x = y) → (l.map f).Nodup
 | [], _, _ => by simp
 | a :: l, hn, h => by
   obtain ⟨ha, hn⟩ := List.nodup_cons.1 hn
   rw [List.map_cons]
   refine List.nodup_cons.2 ⟨fun hm => ?_, nodup_mapG hn fun x hx y hy => h x (List.mem_cons_of_mem _ hx) y (List.mem_cons_of_mem _ hy)⟩
   obtain ⟨b, hb, e⟩ := List.mem_map.1 hm
   have := h b (List.mem_cons_of_mem _ hb) a (by simp) e
   exact ha (this ▸ hb)
def isOdd (p : List Nat) : Bool := decide (p.length % 2 = 1)
theorem isOdd_iff {p : List Nat} : isOdd p = true ↔ p.length % 2 = 1 := decide_eq_true_iff
theorem oddCount_eq (ps : List (List Nat)) : oddCount ps = (ps.filter isOdd).length := by
 induction ps with
 | nil => rfl
 | cons p ps ih =>
   have e : oddCount (p :: ps) = p.length % 2 + oddCount ps := by simp [oddCount]
   rw [e, ih]
   by_cases h : p.length % 2 = 1
   · rw [List.filter_cons, if_pos (isOdd_iff.2 h), List.length_cons]; omega
   · rw [List.filter_cons, if_neg (fun h2 => h (isOdd_iff.1 h2))]; omega
theorem inc_nodup {p : List Nat} (h : p.Pairwise (· < ·)) : p.Nodup := h.imp fun h => Nat.ne_of_lt h
theorem IsPieces.same {n : Nat} {es : Es} {O : Nat → Prop} {ps : List (List Nat)} (P : IsPieces n es O ps) {p q : List Nat} (hp : p ∈ ps) (hq : q ∈ ps) {v : Nat} (h1 : v ∈ p) (h2 : v ∈ q) : p = q := by
 have hd := P.disj
 clear P
 induction ps with
 | nil => simp at hp
 | cons a ps ih =>
   obtain ⟨hd1, hd2⟩ := List.pairwise_cons.1 hd
   rcases List.mem_cons.1 hp with e1 | hp'
   · rcases List.mem_cons.1 hq with e2 | hq'
     · rw [e1, e2]
     · rw [e1] at h1
       exact absurd h2 (hd1 q hq' v h1)
   · rcases List.mem_cons.1 hq with e2 | hq'
     · rw [e2] at h2
       exact absurd h1 (hd1 p hp' v h2)
     · exact ih hp' hq' hd2
theorem IsPieces.nodup {n : Nat} {es : Es} {O : Nat → Prop} {ps : List (List Nat)} (P : IsPieces n es O ps) : ps.Nodup := by
 have hd := P.disj
 have hne := P.ne
 clear P
 induction ps with
 | nil => simp
 | cons a ps ih =>
   obtain ⟨hd1, hd2⟩ := List.pairwise_cons.1 hd
   refine List.nodup_cons.2 ⟨fun h => ?_, ih hd2 fun p hp => hne p (List.mem_cons_of_mem _ hp)⟩
   match a, hne a (by simp), hd1 a h with
   | [], h1, _ => exact h1 rfl
   | v :: a, _, h2 => exact h2 v (by simp) (by simp)
theorem lack_weak {n : Nat} {es : Es} {O : Nat → Prop} {ps : List (List Nat)} {mt : Nat → Int} (M : Mf n (adj es) mt) (P : IsPieces n es O ps) {b : List Nat} (hO : ∀ v, O v ↔ v ∈ b) : oddCount ps ≤ b.length + fre n mt := by
 rw [oddCount_eq]
 let R : List Nat → Nat → Prop := fun p y => (y ∈ p ∧ mt y = -1) ∨ (y ∈ b ∧ ∃ x : Nat, mt y = (x : Int) ∧ x ∈ p)
 have hex : ∀ p ∈ ps.filter isOdd, ∃ y, R p y := by
  intro p hp
  obtain ⟨hp1, hp2⟩ := List.mem_filter.1 hp
  refine Classical.byContradiction fun hno => ?_
  have := pairs_even (fun v => (mt v).toNat) _ p (Nat.le_refl _) (inc_nodup (P.inc p hp1)) fun x hx => by
   obtain ⟨hxn, hxO⟩ := (P.mem x).1 ⟨p, hp1, hx⟩
   rcases M.at_ x hxn with h | ⟨w, h, hwn⟩
   · exact absurd ⟨x, .inl ⟨hx, h⟩⟩ hno
   · have hs := M.sy x w h
     have e1 : (mt x).toNat = w := by rw [h]; rfl
     have e2 : (mt w).toNat = x := by rw [hs]; rfl
     obtain ⟨hwx, hE⟩ := M.ne x w h
     by_cases hw : O w
     · exact absurd ⟨w, .inr ⟨(hO w).1 hw, x, hs, hx⟩⟩ hno
     · rw [e1, e2]
       exact ⟨P.edge p hp1 x hx w hE hwn hw, hwx, rfl⟩
  have := isOdd_iff.1 hp2
  omega
 let g : List Nat → Nat := fun p => @dite _ (∃ y, R p y) (Classical.propDecidable _) (fun h => Classical.choose h) (fun _ => 0)
 have hg : ∀ p ∈ ps.filter isOdd, R p (g p) := fun p hp => by
  have h := hex p hp
  show R p (@dite _ (∃ y, R p y) (Classical.propDecidable _) (fun h => Classical.choose h) (fun _ => 0))
  rw [dif_pos h]
  exact Classical.choose_spec h
 have hb : ∀ p ∈ ps, ∀ y ∈ p, y ∉ b := fun p hp y hy h => ((P.mem y).1 ⟨p, hp, hy⟩).2 ((hO y).2 h)
 have hinj : ((ps.filter isOdd).map g).Nodup := nodup_mapG (P.nodup.filter _) fun p hp q hq e => by
  have rp := hg p hp
  have rq := hg q hq
  have hp := (List.mem_filter.1 hp).1
  have hq := (List.mem_filter.1 hq).1
  rw [← e] at rq
  rcases rp with ⟨k1, k2⟩ | ⟨k1, x, k2, k3⟩ <;> rcases rq with ⟨j1, j2⟩ | ⟨j1, y, j2, j3⟩
  · exact P.same hp hq k1 j1
  · exact absurd j1 (hb p hp _ k1)
  · exact absurd k1 (hb q hq _ j1)
  · obtain rfl : x = y := by omega
    exact P.same hp hq k3 j3
 have hle := nodup_le (m := (List.range n).filter (isFr mt) ++ b) hinj fun x hx => by
  obtain ⟨p, hp, rfl⟩ := List.mem_map.1 hx
  rcases hg p hp with ⟨k1, k2⟩ | ⟨k1, _⟩
  · exact List.mem_append.2 (.inl (num_mem.2 ⟨((P.mem _).1 ⟨p, (List.mem_filter.1 hp).1, k1⟩).1, isFr_iff.2 k2⟩))
  · exact List.mem_append.2 (.inr k1)
 rw [List.length_append, List.length_map] at hle
 have : ((List.range n).filter (isFr mt)).length = fre n mt := rfl
 omega
def Cn (E : Nat → Nat → Prop) (D : Nat → Bool) (bs : Nat → Nat) : Prop := ∀ f : Nat → Nat, (∀ x y, E x y → D x = true → D y = true → f x = f y) → ∀ v, D v = true → f v = f (bs v)
theorem good_flat {mt : Nat → Int} {E : Nat → Nat → Prop} {D : Nat → Bool} {f : Nat → Nat} (hf : ∀ x y, E x y → D x = true → D y = true → f x = f y) (hm : ∀ v w : Nat, mt v = (w : Int) → E v w) {v to : Nat} {ps : Prs} (h : Good mt E v ps to) : (∀ y ∈ verts ps to, D y = true) → f v = f to := by
 induction h with
 | nil v => intro _; rfl
 | @cons a c w to ps h1 h2 h3 ih =>
   intro hD
   have ha := hD a (by simp [verts, flatP_cons])
   have hc := hD c (by simp [verts, flatP_cons])
   have hw : D w = true := by
    cases h3 with
    | nil => exact hD _ (by simp [verts])
    | cons _ _ _ => exact hD _ (by simp [verts, flatP_cons])
   have h5 := ih fun y hy => hD y (by
    have : y ∈ flatP ps ++ [to] := hy
    simp only [verts, flatP_cons, List.cons_append, List.mem_cons]
    exact .inr (.inr this))
   exact (hf a c (hm a c h1) ha hc).trans ((hf c w h2 hc hw).trans h5)
theorem Inv.cn {n : Nat} {E : Nat → Nat → Prop} {mt : Nat → Int} {S : FS} (M : Mf n E mt) (I : Inv n E mt S) : Cn E S.out S.bs := fun f hf v hv => by
 obtain ⟨ps, p1, p2, p3, p4⟩ := I.wy v hv
 exact good_flat hf (fun v w h => (M.ne v w h).2) p2 fun y hy => (p4 y hy).1
end Go.Ga.Gl
namespace Go.Proofs.Ytmcfdfafeheihaa
open Go Go.Ga Go.Ga.Gl
theorem size_fre {N : Nat} {E : Nat → Nat → Prop} {m : List Int} (M : Mf N E (mf m)) (hml : m.length = N) : 2 * (sel (upP m) m.length).length + fre N (mf m) = N := by
 have h1 := pair_count m
 have h2 : ((List.range m.length).filter (pairB m)).length = num N (fun v => !isFr (mf m) v) := by
  unfold num
  rw [hml]
  congr 1
  refine List.filter_congr fun v hv => ?_
  have hv := List.mem_range.1 hv
  rcases M.at_ v hv with h | ⟨w, h, hw⟩
  · rw [isFr_iff.2 h]
    cases hp : pairB m v with
    | false => rfl
    | true =>
      obtain ⟨w, k1, _⟩ := pair_up.1 hp
      rw [mf_get (by omega), h] at k1; omega
  · have e : isFr (mf m) v = false := decide_eq_false (by omega)
    rw [e]
    refine pair_up.2 ⟨w, by rw [mf_get (by omega)]; exact h, by omega, (M.ne v w h).1, by rw [mf_get (by omega)]; exact M.sy v w h⟩
 have h3 := num_split N (isFr (mf m))
 have h4 : (sel (upP m) m.length).length = ((List.range m.length).filter (upP m)).length := rfl
 unfold fre
 omega
theorem castN_mem {l : List Nat} {v : Nat} : (v : Int) ∈ castN l ↔ v ∈ l := by
 unfold castN
 rw [List.mem_map]
 constructor
 · rintro ⟨a, h, e⟩
   obtain rfl : a = v := by omega
   exact h
 · intro h
   exact ⟨v, h, rfl⟩
theorem PsOf.gr {N : Nat} {es : Es} (g : GR N es) {b : List Int} {ps : List (List Nat)} (h : PsOf N (castE es) b ps) : IsPieces N es (fun v => (v : Int) ∈ b) ps := by
 rcases h with ⟨_, N', es', e1, e2, _, h⟩ | ⟨h, _⟩
 · obtain rfl : N = N' := by omega
   obtain rfl := castE_inj e2
   exact h
 · rw [rightB_GR g] at h; cases h
theorem star_GR : GR 4 [(0, 1), (0, 2), (0, 3)] where
 hn := by decide
 hm := by decide
 ok := by decide
 up := by simp [lexlt]
theorem star_pieces : IsPieces 4 [(0, 1), (0, 2), (0, 3)] (fun v => (v : Int) ∈ ([0] : List Int)) [[1], [2], [3]] where
 mem := fun v => by simp; omega
 ne := by simp
 inc := by simp
 heads := by simp
 disj := by simp
 edge := fun p hp a ha b h hb ho => by
  simp only [adj, List.mem_cons, List.not_mem_nil, or_false, Prod.mk.injEq] at h hp ho
  rcases hp with rfl | rfl | rfl <;> simp only [List.mem_cons, List.not_mem_nil, or_false] at ha <;> subst ha <;> simp at h <;> omega
 conn := fun p hp f _ a ha b hb => by
  simp only [List.mem_cons, List.not_mem_nil, or_false] at hp
  rcases hp with rfl | rfl | rfl <;> simp only [List.mem_cons, List.not_mem_nil, or_false] at ha hb <;> rw [ha, hb]
theorem star_BP {x e : Int} (h : BP 4 [(0, 1), (0, 2), (0, 3)] [0] x e) : x = 2 ∧ e = 0 := by
 have h0 : BP 4 [(0, 1), (0, 2), (0, 3)] [0] 2 0 := .inr ⟨by decide, [[1], [2], [3]], .inl ⟨by decide, 4, [(0, 1), (0, 2), (0, 3)], rfl, rfl, star_GR, star_pieces⟩, rfl, rfl⟩
 exact h.unique h0
theorem awake13_ok : ACalls Try.prog [] n_f13 [] [] fun r h' => r = .sc (.bool true) ∧ h' = [] := by
 refine ACalls.trim ?_
 refine go_f13 rfl ?_
 unfold c_f13 v_f13
 refine wlk_sreg fun KY hKY => ?_
 simp only [go_sem, c_f13_r0]
 apply hKY
 refine wlk_sreg fun KY hKY => ?_
 simp only [go_sem, c_f13_r1]
 apply hKY
 refine sem_freeze [0, 1, 1] (by simp only [go_sem]; rfl) ?_
 simp only [go_sem]
 have hl := black_ok 4 [(0, 1), (0, 2), (0, 3)] [0] (by decide)
 have hs := bshows_ok 4 [(0, 1), (0, 2), (0, 3)] [1, 0, -1, -1] [0] (by decide) (by decide)
 refine wlk_sreg fun KY hKY => ?_
 simp only [go_sem, c_f13_r2]
 refine call_view rfl (by simp only [go_sem] <;> rfl) ((hl).mono ?_)
 rintro rr hh ⟨⟨x, e, hxe, rfl⟩, rfl⟩
 refine ⟨?_, ?_, ?_, ?_⟩
 iterate 3 (first | rfl | simp only [go_sem])
 obtain ⟨rfl, rfl⟩ := star_BP hxe
 simp only [go_sem]
 apply hKY
 refine wlk_sreg fun KY hKY => ?_
 simp only [go_sem, c_f13_r3, (show zeroCellsA [Value.int IntKind.i64 0] 4 = [.sc (.int .i64 0), .sc (.int .i64 0), .sc (.int .i64 0), .sc (.int .i64 0)] from rfl)]
 refine call_view rfl (by simp only [go_sem] <;> rfl) ((hs).mono ?_)
 rintro rr hh ⟨⟨x, e, hxe, rfl⟩, rfl⟩
 refine ⟨?_, ?_, ?_, ?_⟩
 iterate 3 (first | rfl | simp only [go_sem])
 obtain ⟨rfl, rfl⟩ := star_BP hxe
 simp only [go_sem]
 apply hKY
 refine wlk_ret ?_
 simp only [go_sem]
 exact congrArg (fun c => AVal.sc (.bool c)) (show showB 4 [(0, 1), (0, 2), (0, 3)] [1, 0, -1, -1] 2 0 = true by decide)
def Nu (N : Nat) (es : Es) (k : Nat) : Prop := ∃ (m : List Int) (D A : Nat → Bool) (bs : Nat → Nat), m.length = N ∧ Fc N (adj es) (mf m) D A bs ∧ Cn (adj es) D bs ∧ 2 * k + fre N (mf m) = N
theorem bnumber_ok {N : Nat} {es : Es} (g : GR N es) : ACalls Try.prog [] n_f10 [.agg [.sc (.int .i64 (N : Int)), .imm 2 (twos (castE es))]] [] fun r h' => (∃ k : Nat, Nu N es k ∧ r = .tup [.sc (.int .i64 (k : Int)), .sc (.int .i64 0)]) ∧ h' = [] := by
 refine ACalls.trim ?_
 have hN := g.hn
 refine go_f10 rfl ?_
 unfold c_f10 v_f10
 refine wlk_sreg fun KY hKY => ?_
 simp only [go_sem, c_f10_r0]
 apply hKY
 refine wlk_sreg fun KY hKY => ?_
 simp only [go_sem, c_f10_r1]
 apply call_gen [] [] false none rfl
 iterate 8 (first | (simp only [go_sem, watchIn] <;> rfl) | rfl)
 refine (largest_ok g).mono ?_
 rintro _ _ ⟨m, S, a, b, hml, M, I, L, ⟨h0, rfl, rfl⟩ | ⟨h0, rfl, rfl⟩⟩
 · have hsz := msize_ok m (by omega)
   have hm0 : ints m = [] := by rw [List.length_eq_zero_iff.1 (hml.trans h0)]; rfl
   rw [hm0] at hsz
   refine ⟨Nat.le_of_ble_eq_true rfl, (fun hh => by cases hh), ?_⟩
   simp only [go_sem, callOut, AState.after]
   apply hKY
   refine wlk_sreg fun KY hKY => ?_
   simp only [go_sem, c_f10_r2]
   apply call_gen [] [] true none rfl
   iterate 8 (first | (simp only [go_sem, watchIn] <;> rfl) | rfl)
   refine (hsz).mono ?_
   rintro _ _ ⟨rfl, rfl⟩
   refine ⟨Nat.le_of_ble_eq_true rfl, (fun _ => by simp only [go_sem, flatH, and_self]), ?_⟩
   simp only [go_sem, callOut, AState.after]
   apply hKY
   refine wlk_ret ?_
   simp only [go_sem]
   exact ⟨_, ⟨m, _, _, _, hml, done_fc M I L, I.cn M, size_fre M hml⟩, rfl⟩
 · have hsz := msize_ok m (by omega)
   have htk : List.take N (ints m) = ints m := List.take_of_length_le (by rw [ints_len]; omega)
   refine ⟨Nat.le_of_ble_eq_true rfl, (fun hh => by cases hh), ?_⟩
   simp only [go_sem, callOut, AState.after]
   apply hKY
   refine wlk_sreg fun KY hKY => ?_
   simp only [go_sem, c_f10_r2]
   refine call_view rfl (by simp only [go_sem, hml, Nat.le_refl, htk] <;> rfl) ((hsz).mono ?_)
   rintro rr hh ⟨rfl, rfl⟩
   refine ⟨?_, ?_, ?_, ?_⟩
   iterate 3 (first | rfl | simp only [go_sem])
   simp only [go_sem]
   apply hKY
   refine wlk_ret ?_
   simp only [go_sem]
   exact ⟨_, ⟨m, _, _, _, hml, done_fc M I L, I.cn M, size_fre M hml⟩, rfl⟩
theorem BP.lk {N : Nat} {es : Es} (g : GR N es) {b : List Int} {x e : Int} (h : BP N (castE es) b x e) (h0 : bErr N (castE es) b = 0) : e = 0 ∧ ∃ ps, IsPieces N es (fun v => (v : Int) ∈ b) ps ∧ x = (oddCount ps : Int) - b.length := by
 rcases h with ⟨h1, _, _⟩ | ⟨_, ps, hp, hx, he⟩
 · exact absurd h0 h1
 · exact ⟨he, ps, hp.gr g, hx⟩
theorem bErr_nats {N : Nat} {es : Es} (g : GR N es) {l : List Nat} (hn : l.Nodup) (hl : ∀ v ∈ l, v < N) : bErr N (castE es) (castN l) = 0 := by
 have h1 : (castN l).all (fun v => decide (0 ≤ v) && decide (v < (N : Int))) = true := by
  rw [List.all_eq_true]
  intro x hx
  obtain ⟨v, hv, rfl⟩ := List.mem_map.1 hx
  have := hl v hv
  rw [Bool.and_eq_true, decide_eq_true_iff, decide_eq_true_iff]; omega
 have h2 : (castN l).Nodup := List.pairwise_map.2 (List.Pairwise.imp (fun h e => h (by omega)) hn)
 unfold bErr
 rw [rightB_GR g, h1, decide_eq_true h2]; rfl
end Go.Proofs.Ytmcfdfafeheihaa

namespace Go.Ga.Gl
open Go Go.Ga
end Go.Ga.Gl
namespace Go.Proofs.Ytmcfdfafeheihaa
open Go Go.Ga Go.Ga.Gl
instance adjDec (es : Es) (a b : Nat) : Decidable (adj es a b) := inferInstanceAs (Decidable ((a, b) ∈ es ∨ (b, a) ∈ es))
end Go.Proofs.Ytmcfdfafeheihaa

namespace Go.Ga.Gl
open Go Go.Ga
structure Cut (E E' : Nat → Nat → Prop) (v : Nat) : Prop where
 iff : ∀ a b, E' a b ↔ E a b ∧ a ≠ v ∧ b ≠ v
theorem Cut.up {n : Nat} {E E' : Nat → Nat → Prop} {v : Nat} (K : Cut E E' v) {mt0 mt : Nat → Int} (M0 : Mf n E mt0) (M : Mf n E' mt) : Mf n E mt ∧ (v < n → mt v = -1) := by
 refine ⟨M.mono (fun a b h => ((K.iff a b).1 h).1) M0.es M0.el, fun hv => ?_⟩
 rcases M.at_ v hv with h | ⟨w, h, _⟩
 · exact h
 · exact absurd rfl ((K.iff v w).1 (M.ne v w h).2).2.1
theorem GR.filter {N : Nat} {es : Es} (g : GR N es) (p : Nat × Nat → Bool) : GR N (es.filter p) :=
 ⟨g.hn, Nat.le_trans (List.length_filter_le _ _) g.hm, fun e he => g.ok e (List.mem_filter.1 he).1, g.up.filter _⟩
end Go.Ga.Gl
namespace Go.Proofs.Ytmcfdfafeheihaa
open Go Go.Ga Go.Ga.Gl
end Go.Proofs.Ytmcfdfafeheihaa

namespace Go.Ga.Gl
open Go Go.Ga
end Go.Ga.Gl
namespace Go.Proofs.Ytmcfdfafeheihaa
open Go Go.Ga Go.Ga.Gl
theorem BP.of {N : Nat} {es : Es} (g : GR N es) {b : List Int} {x e : Int} (h : BP N (castE es) b x e) {ps : List (List Nat)} (h0 : bErr N (castE es) b = 0) (P : IsPieces N es (fun v => (v : Int) ∈ b) ps) : x = (oddCount ps : Int) - b.length ∧ e = 0 :=
 h.unique (.inr ⟨h0, ps, .inl ⟨rightB_GR g, N, es, rfl, rfl, g, P⟩, rfl, rfl⟩)
theorem Mt_none {N : Nat} (es : Es) : Mt N es (List.replicate N (-1)) where
 len := by simp
 at_ := fun v hv => .inl (by simp [hv])
theorem Mt_put {N : Nat} {es : Es} (g : GR N es) {m : List Int} (M : Mt N es m) {a b : Nat} (he : (a, b) ∈ es) (ha : m.getD a 0 < 0) (hb : m.getD b 0 < 0) : Mt N es ((m.set a (b : Int)).set b (a : Int)) where
 len := by simp [M.len]
 at_ := fun v hv => by
  have hok := g.ok _ he
  simp only at hok
  have hal : a < m.length := by rw [M.len]; omega
  have hbl : b < m.length := by rw [M.len]; omega
  have key : ∀ w, ((m.set a (b : Int)).set b (a : Int)).getD w 0 = if w = b then (a : Int) else if w = a then (b : Int) else m.getD w 0 := fun w => by
   rw [getD_set _ _ _ _ (by simpa using hbl), getD_set _ _ _ _ hal]
  rw [key]
  by_cases h1 : v = b
  · subst h1
    rw [if_pos rfl]
    refine .inr ⟨a, rfl, by omega, by omega, .inr he, ?_⟩
    rw [key, if_neg (by omega), if_pos rfl]
  · rw [if_neg h1]
    by_cases h2 : v = a
    · subst h2
      rw [if_pos rfl]
      refine .inr ⟨b, rfl, by omega, by omega, .inl he, ?_⟩
      rw [key, if_pos rfl]
    · rw [if_neg h2]
      rcases M.at_ v hv with h | ⟨w, k1, k2, k3, k4, k5⟩
      · exact .inl h
      · refine .inr ⟨w, k1, k2, k3, k4, ?_⟩
        rw [key, if_neg (by rintro rfl; omega), if_neg (by rintro rfl; omega)]; exact k5
def negN (N v : Nat) : List Int := (List.range N).map fun w : Nat => if w < v then -1 else 0
theorem negN_set (N v : Nat) : (negN N v).set v (-1) = negN N (v + 1) := by
 refine set_rangeI (by simp) fun w hw => ?_
 by_cases h : w < v
 · rw [if_pos (by omega), if_pos h]
 · rw [if_neg (by omega), if_neg h]
theorem negN_len (N v : Nat) : (negN N v).length = N := by simp [negN]
theorem negN_zero (N : Nat) : List.replicate N (0 : Int) = negN N 0 := by
 apply List.ext_getElem (by simp [negN])
 intro i h1 h2
 simp [negN]
theorem negN_all (N : Nat) : negN N N = List.replicate N (-1) := by
 apply List.ext_getElem (by simp [negN])
 intro i h1 h2
 simp [negN] at h1 ⊢
 omega
theorem pmates_ok {N : Nat} {es : Es} (g : GR N es) (l : List Int) (hl : l.length ≤ 1000000000) : ACalls Try.prog [] n_f12 [.agg [.sc (.int .i64 (N : Int)), .imm 2 (twos (castE es))], .imm 1 (ints l)] [] fun r h' => (∃ m, Mt N es m ∧ r = .own (some 1) (ints m)) ∧ h' = [] := by
 refine ACalls.trim ?_
 have hN := g.hn
 have hE := g.hm
 refine go_f12 rfl ?_
 unfold c_f12 v_f12
 refine wlk_sreg fun KY hKY => ?_
 simp only [go_sem, c_f12_r0]
 apply hKY
 refine wlk_sreg fun KY hKY => ?_
 simp only [go_sem, c_f12_r1, ints_zero, negN_zero, (show 8 * N ≤ 140737488355328 by omega), (show (N : Int) ≤ 9223372036854775807 by omega), (show (N : Int) ≤ (N : Int) from Int.le_refl _)]
 apply hKY
 refine wlk_seq fun X1 hn1 he1 hr1 => ?_
 refine wlk_sreg fun KY hKY => ?_
 simp only [go_sem, c_f12_r2, ints_len, negN_len]
 apply hKY
 refine wlk_blk fun X2 hn2 he2 hf2 hr2 => ?_
 try simp only [go_sem]
 refine wlk_lp (α := Nat) [6, 15] (fun v => [(5, .own (some 1) (ints (negN N v))), (14, .sc (.int .i64 (v : Int)))]) (fun v => []) (fun v q => v ≤ N ∧ q = N - v) (0) (N) rfl (by first | (simp only [go_sem, updAll_cons, updAll_nil]; done) | with_reducible rfl | rfl) (⟨by omega, rfl⟩) ?_
 rintro v q ⟨hv, rfl⟩ X3 hn3 he3 hr3
 simp only [go_sem, updAll_cons, updAll_nil]
 rcases Nat.lt_or_ge v N with hv2 | hv2
 · have hdy : decide ((v : Int) < (N : Int)) = true := decide_eq_true (by omega)
   refine wlk_sreg fun KY hKY => ?_
   simp only [go_sem, c_f12_r3, hdy]
   apply hKY
   refine wlk_seq fun X4 hn4 he4 hr4 => ?_
   refine wc1 ?_
   refine wlk_skip ?_
   repeat (first | refine hn4 _ ?_ | refine he4 _ _ ?_ | refine he3 _ _ ?_ | refine hn2 _ ?_ | refine he2 _ ?_ | refine hf2 _ _ (by decide) ?_ | refine hn1 _ ?_ | refine he1 _ _ ?_)
   refine wlk_seq fun X5 hn5 he5 hr5 => ?_
   refine wlk_blk fun X6 hn6 he6 hf6 hr6 => ?_
   refine wlk_sreg fun KY hKY => ?_
   simp only [go_sem, c_f12_r4]
   apply hKY
   refine wlk_reg fun KY hKY => ?_
   simp only [go_sem, c_f12_r5, ints_len, negN_len, hv2, ints_set, negN_set]
   apply hKY
   repeat (first | refine hn6 _ ?_ | refine he6 _ ?_ | refine hf6 _ _ (by decide) ?_ | refine hn5 _ ?_ | refine he5 _ _ ?_ | refine hn4 _ ?_ | refine he4 _ _ ?_ | refine he3 _ _ ?_ | refine hn2 _ ?_ | refine he2 _ ?_ | refine hf2 _ _ (by decide) ?_ | refine hn1 _ ?_ | refine he1 _ _ ?_)
   refine wlk_reg fun KY hKY => ?_
   simp only [go_sem, c_f12_r6, incS (show v < 4611686018427387904 by omega)]
   apply hKY
   repeat (first | refine hn6 _ ?_ | refine he6 _ ?_ | refine hf6 _ _ (by decide) ?_ | refine hn5 _ ?_ | refine he5 _ _ ?_ | refine hn4 _ ?_ | refine he4 _ _ ?_)
   refine hn3 _ (v + 1) (N - (v + 1)) (by omega) (by first | (simp only [go_sem, updAll_cons, updAll_nil]; done) | with_reducible rfl) ?_
   exact ⟨hv2, rfl⟩
 obtain rfl : v = N := by omega
 have hdx : decide ((v : Int) < (v : Int)) = false := decide_eq_false (by omega)
 refine wlk_sreg fun KY hKY => ?_
 simp only [go_sem, c_f12_r3, hdx]
 apply hKY
 refine wlk_seq fun X7 hn7 he7 hr7 => ?_
 refine wc0 ?_
 refine wlk_exit ?_
 repeat (first | refine hn7 _ ?_ | refine he7 _ _ ?_ | refine he3 _ _ ?_ | refine hn2 _ ?_ | refine he2 _ ?_ | refine hf2 _ _ (by decide) ?_ | refine hn1 _ ?_ | refine he1 _ _ ?_)
 simp only [go_sem]
 rw [negN_all]
 have M0 := Mt_none (N := v) es
 generalize List.replicate v (-1 : Int) = m0 at M0
 refine wlk_seq fun X8 hn8 he8 hr8 => ?_
 refine wlk_sreg fun KY hKY => ?_
 simp only [go_sem, c_f12_r7]
 apply hKY
 refine wlk_blk fun X9 hn9 he9 hf9 hr9 => ?_
 try simp only [go_sem]
 refine wlk_lp (α := Nat × List Int) [8, 34, 65] (fun (k, m) => [(5, .own (some 1) (ints m)), (7, .sc (.int .i64 (k : Int)))]) (fun (k, m) => []) (fun (k, m) q => k ≤ 100 ∧ k ≤ l.length ∧ q = 100 - k ∧ Mt v es m) ((0, m0)) (100) rfl (by first | (simp only [go_sem, updAll_cons, updAll_nil]; done) | with_reducible rfl | rfl) (⟨by omega, by omega, rfl, M0⟩) ?_
 rintro ⟨k, m⟩ q ⟨hk, hkl, rfl, M⟩ X10 hn10 he10 hr10
 simp only [go_sem, updAll_cons, updAll_nil]
 have hz : ∀ n : Nat, decide (0 < (n : Int)) = decide (0 < n) := fun n => by simp
 rcases (show (k < l.length ∧ k < 100 ∧ 0 < es.length) ∨ (l.length ≤ k ∨ 100 ≤ k ∨ es.length = 0) by omega) with ⟨hk1, hk2, he0⟩ | hk2
 · have hd1 : decide ((k : Int) < (l.length : Int)) = true := decide_eq_true (by omega)
   have hd2 : decide ((k : Int) < 100) = true := decide_eq_true (by omega)
   have hd3 : decide (0 < (es.length : Int)) = true := decide_eq_true (by omega)
   refine wlk_seq fun X11 hn11 he11 hr11 => ?_
   refine wlk_sreg fun KY hKY => ?_
   simp only [go_sem, c_f12_r8, ints_len, twos_len, mul2, castE_len, gt_iff_lt, hd1, hd2, hd3]
   apply hKY
   refine wc1 ?_
   refine wlk_skip ?_
   repeat (first | refine hn11 _ ?_ | refine he11 _ _ ?_ | refine he10 _ _ ?_ | refine hn9 _ ?_ | refine he9 _ ?_ | refine hf9 _ _ (by decide) ?_ | refine hn8 _ ?_ | refine he8 _ _ ?_ | refine hn7 _ ?_ | refine he7 _ _ ?_)
   refine wlk_seq fun X12 hn12 he12 hr12 => ?_
   refine wlk_blk fun X13 hn13 he13 hf13 hr13 => ?_
   obtain ⟨j, hj, hjw⟩ := umod (l.getD k 0) es.length he0 (by omega)
   have hu64 := u64NN (k := es.length) (by omega) he0
   have hx : es[j]? = some es[j] := List.getElem?_eq_getElem hj
   have hxm : es[j] ∈ es := List.getElem_mem hj
   generalize es[j] = x at hx hxm
   obtain ⟨a, b⟩ := x
   have hxc := castE_get hx
   have hok := g.ok (a, b) hxm
   simp only at hok
   have hml := M.len
   have hal : a < m.length := by omega
   have hbl : b < m.length := by omega
   refine wlk_sdraw fun KY hKY => ?_
   simp only [go_sem, c_f12_r9, ints_get hk1, hk1, ints_len, twos_len, mul2, castE_len, hu64, hjw, (show j * 2 + 1 < es.length * 2 by omega), (show 1 < es.length * 2 - j * 2 by omega), two_cells hxc, List.length_drop]
   apply hKY
   cases hc1 : decide (m.getD a 0 < 0) with
   | false =>
     refine wlk_sreg fun KY hKY => ?_
     simp only [go_sem, c_f12_r10, ints_get hal, ints_len, hal, hc1]
     apply hKY
     refine wc0 ?_
     refine wlk_skip ?_
     repeat (first | refine hn13 _ ?_ | refine he13 _ ?_ | refine hf13 _ _ (by decide) ?_ | refine hn12 _ ?_ | refine he12 _ _ ?_ | refine hn11 _ ?_ | refine he11 _ _ ?_ | refine he10 _ _ ?_ | refine hn9 _ ?_ | refine he9 _ ?_ | refine hf9 _ _ (by decide) ?_ | refine hn8 _ ?_ | refine he8 _ _ ?_ | refine hn7 _ ?_ | refine he7 _ _ ?_)
     refine wlk_reg fun KY hKY => ?_
     simp only [go_sem, c_f12_r12, incS (show k < 4611686018427387904 by omega)]
     apply hKY
     repeat (first | refine hn13 _ ?_ | refine he13 _ ?_ | refine hf13 _ _ (by decide) ?_ | refine hn12 _ ?_ | refine he12 _ _ ?_ | refine hn11 _ ?_ | refine he11 _ _ ?_)
     refine hn10 _ ((k + 1, m)) (100 - (k + 1)) (by omega) (by first | (simp only [go_sem, updAll_cons, updAll_nil]; done) | with_reducible rfl) ?_
     exact ⟨by omega, by omega, rfl, M⟩
   | true =>
   cases hc2 : decide (m.getD b 0 < 0) with
   | false =>
     refine wlk_sreg fun KY hKY => ?_
     simp only [go_sem, c_f12_r10, ints_get hal, ints_get hbl, ints_len, hal, hbl, hc1, hc2]
     apply hKY
     refine wc0 ?_
     refine wlk_skip ?_
     repeat (first | refine hn13 _ ?_ | refine he13 _ ?_ | refine hf13 _ _ (by decide) ?_ | refine hn12 _ ?_ | refine he12 _ _ ?_ | refine hn11 _ ?_ | refine he11 _ _ ?_ | refine he10 _ _ ?_ | refine hn9 _ ?_ | refine he9 _ ?_ | refine hf9 _ _ (by decide) ?_ | refine hn8 _ ?_ | refine he8 _ _ ?_ | refine hn7 _ ?_ | refine he7 _ _ ?_)
     refine wlk_reg fun KY hKY => ?_
     simp only [go_sem, c_f12_r12, incS (show k < 4611686018427387904 by omega)]
     apply hKY
     repeat (first | refine hn13 _ ?_ | refine he13 _ ?_ | refine hf13 _ _ (by decide) ?_ | refine hn12 _ ?_ | refine he12 _ _ ?_ | refine hn11 _ ?_ | refine he11 _ _ ?_)
     refine hn10 _ ((k + 1, m)) (100 - (k + 1)) (by omega) (by first | (simp only [go_sem, updAll_cons, updAll_nil]; done) | with_reducible rfl) ?_
     exact ⟨by omega, by omega, rfl, M⟩
   | true =>
     refine wlk_sreg fun KY hKY => ?_
     simp only [go_sem, c_f12_r10, ints_get hal, ints_get hbl, ints_len, hal, hbl, hc1, hc2]
     apply hKY
     refine wc1 ?_
     refine wlk_draw fun KY hKY => ?_
     simp only [go_sem, c_f12_r11, ints_len, hal, hbl, List.length_set, ints_set, (show ([0, 5] == [0, 8]) = false from rfl), Bool.not_false]
     apply hKY
     repeat (first | refine hn13 _ ?_ | refine he13 _ ?_ | refine hf13 _ _ (by decide) ?_ | refine hn12 _ ?_ | refine he12 _ _ ?_ | refine hn11 _ ?_ | refine he11 _ _ ?_ | refine he10 _ _ ?_ | refine hn9 _ ?_ | refine he9 _ ?_ | refine hf9 _ _ (by decide) ?_ | refine hn8 _ ?_ | refine he8 _ _ ?_ | refine hn7 _ ?_ | refine he7 _ _ ?_)
     refine wlk_reg fun KY hKY => ?_
     simp only [go_sem, c_f12_r12, incS (show k < 4611686018427387904 by omega)]
     apply hKY
     repeat (first | refine hn13 _ ?_ | refine he13 _ ?_ | refine hf13 _ _ (by decide) ?_ | refine hn12 _ ?_ | refine he12 _ _ ?_ | refine hn11 _ ?_ | refine he11 _ _ ?_)
     refine hn10 _ ((k + 1, (m.set a (b : Int)).set b (a : Int))) (100 - (k + 1)) (by omega) (by first | (simp only [go_sem, updAll_cons, updAll_nil]; done) | with_reducible rfl) ?_
     exact ⟨by omega, by omega, rfl, Mt_put g M hxm (of_decide_eq_true hc1) (of_decide_eq_true hc2)⟩
 have hcase : decide ((k : Int) < (l.length : Int)) = false ∨ (decide ((k : Int) < (l.length : Int)) = true ∧ decide ((k : Int) < 100) = false) ∨ (decide ((k : Int) < (l.length : Int)) = true ∧ decide ((k : Int) < 100) = true ∧ decide (0 < (es.length : Int)) = false) := by
  rcases Nat.lt_or_ge k l.length with h1 | h1
  · rcases Nat.lt_or_ge k 100 with h2 | h2
    · exact .inr (.inr ⟨decide_eq_true (by omega), decide_eq_true (by omega), decide_eq_false (by omega)⟩)
    · exact .inr (.inl ⟨decide_eq_true (by omega), decide_eq_false (by omega)⟩)
  · exact .inl (decide_eq_false (by omega))
 refine wlk_seq fun X14 hn14 he14 hr14 => ?_
 refine wlk_sreg fun KY hKY => ?_
 apply meet
 · intro H
   rcases hcase with h1 | ⟨h1, h2⟩ | ⟨h1, h2, h3⟩
   · simp only [go_sem, c_f12_r8, ints_len, twos_len, mul2, castE_len, gt_iff_lt, h1]
     apply hKY
     repeat (first | refine hn14 _ ?_ | refine he14 _ _ ?_ | refine hr14 _ ?_ | refine he10 _ _ ?_ | refine hr10 _ ?_ | refine hn9 _ ?_ | refine he9 _ ?_ | refine hf9 _ _ (by decide) ?_ | refine hr9 _ ?_ | refine hn8 _ ?_ | refine he8 _ _ ?_ | refine hr8 _ ?_ | refine hn7 _ ?_ | refine he7 _ _ ?_ | refine hr7 _ ?_ | refine he3 _ _ ?_ | refine hr3 _ ?_ | refine hn2 _ ?_ | refine he2 _ ?_ | refine hf2 _ _ (by decide) ?_ | refine hr2 _ ?_ | refine hn1 _ ?_ | refine he1 _ _ ?_ | refine hr1 _ ?_)
     simp only [go_sem]
     exact H
   · simp only [go_sem, c_f12_r8, ints_len, twos_len, mul2, castE_len, gt_iff_lt, h1, h2]
     apply hKY
     repeat (first | refine hn14 _ ?_ | refine he14 _ _ ?_ | refine hr14 _ ?_ | refine he10 _ _ ?_ | refine hr10 _ ?_ | refine hn9 _ ?_ | refine he9 _ ?_ | refine hf9 _ _ (by decide) ?_ | refine hr9 _ ?_ | refine hn8 _ ?_ | refine he8 _ _ ?_ | refine hr8 _ ?_ | refine hn7 _ ?_ | refine he7 _ _ ?_ | refine hr7 _ ?_ | refine he3 _ _ ?_ | refine hr3 _ ?_ | refine hn2 _ ?_ | refine he2 _ ?_ | refine hf2 _ _ (by decide) ?_ | refine hr2 _ ?_ | refine hn1 _ ?_ | refine he1 _ _ ?_ | refine hr1 _ ?_)
     simp only [go_sem]
     exact H
   · simp only [go_sem, c_f12_r8, ints_len, twos_len, mul2, castE_len, gt_iff_lt, h1, h2, h3]
     apply hKY
     repeat (first | refine hn14 _ ?_ | refine he14 _ _ ?_ | refine hr14 _ ?_ | refine he10 _ _ ?_ | refine hr10 _ ?_ | refine hn9 _ ?_ | refine he9 _ ?_ | refine hf9 _ _ (by decide) ?_ | refine hr9 _ ?_ | refine hn8 _ ?_ | refine he8 _ _ ?_ | refine hr8 _ ?_ | refine hn7 _ ?_ | refine he7 _ _ ?_ | refine hr7 _ ?_ | refine he3 _ _ ?_ | refine hr3 _ ?_ | refine hn2 _ ?_ | refine he2 _ ?_ | refine hf2 _ _ (by decide) ?_ | refine hr2 _ ?_ | refine hn1 _ ?_ | refine he1 _ _ ?_ | refine hr1 _ ?_)
     simp only [go_sem]
     exact H
 refine wc0 ?_
 refine wlk_exit ?_
 repeat (first | refine hn14 _ ?_ | refine he14 _ _ ?_ | refine he10 _ _ ?_ | refine hn9 _ ?_ | refine he9 _ ?_ | refine hf9 _ _ (by decide) ?_ | refine hn8 _ ?_ | refine he8 _ _ ?_ | refine hn7 _ ?_ | refine he7 _ _ ?_ | refine he3 _ _ ?_ | refine hn2 _ ?_ | refine he2 _ ?_ | refine hf2 _ _ (by decide) ?_ | refine hn1 _ ?_ | refine he1 _ _ ?_)
 refine wlk_sreg fun KY hKY => ?_
 simp only [go_sem, c_f12_r13]
 apply hKY
 refine wlk_ret ?_
 repeat (first | refine hr14 _ ?_ | refine hr10 _ ?_ | refine hr9 _ ?_ | refine hr8 _ ?_ | refine hr7 _ ?_ | refine hr3 _ ?_ | refine hr2 _ ?_ | refine hr1 _ ?_)
 simp only [go_sem]
 exact ⟨m, M, rfl⟩
theorem Mt_mf {N : Nat} {es : Es} (g : GR N es) {m : List Int} (M : Mt N es m) : Mf N (adj es) (mf m) := by
 have hlo : ∀ v, v < N → mf m v = m.getD v 0 := fun v hv => by
  unfold mf
  rw [List.getD_eq_getElem?_getD, List.getD_eq_getElem?_getD, List.getElem?_eq_getElem (by rw [M.len]; exact hv)]; rfl
 have hhi : ∀ v, ¬ v < N → mf m v = -1 := fun v hv => by
  unfold mf
  rw [List.getD_eq_getElem?_getD, List.getElem?_eq_none (by rw [M.len]; omega)]; rfl
 have key : ∀ v w : Nat, mf m v = (w : Int) → v < N ∧ w < N ∧ w ≠ v ∧ adj es v w ∧ mf m w = (v : Int) := fun v w h => by
  rcases Nat.lt_or_ge v N with hv | hv
  · rw [hlo v hv] at h
    obtain ⟨h1, h2, h3, h4⟩ := M.back hv h
    exact ⟨hv, h1, h2, h3, by rw [hlo w h1]; exact h4⟩
  · rw [hhi v (by omega)] at h; omega
 exact {
  at_ := fun v hv => by
   rcases M.at_ v hv with h | ⟨w, h, h2⟩
   · exact .inl (by rw [hlo v hv]; exact h)
   · exact .inr ⟨w, by rw [hlo v hv]; exact h, h2.1⟩
  big := fun v hv w h => hv (key v w h).1
  sy := fun v w h => (key v w h).2.2.2.2
  ne := fun v w h => ⟨(key v w h).2.2.1, (key v w h).2.2.2.1⟩
  es := g.mf.1
  el := g.mf.2 }
theorem bmost_ok (n : Int) (ends picks : List Int) (bits : Int) (he : ends.length ≤ 1000000000) (hp : picks.length ≤ 1000000000) : ACalls Try.prog [] n_f3 [.sc (.int .i64 n), .imm 1 (ints ends), .imm 1 (ints picks), .sc (.int .u64 bits)] [] fun r h' => r = .sc (.bool true) ∧ h' = [] := by
 refine go_f3 rfl ?_
 unfold c_f3 v_f3
 refine wlk_sreg fun KY hKY => ?_
 simp only [go_sem, c_f3_r0]
 apply hKY
 refine wlk_sreg fun KY hKY => ?_
 simp only [go_sem, c_f3_r1]
 apply call_gen [] [] false none rfl
 iterate 8 (first | (simp only [go_sem, watchIn] <;> rfl) | rfl)
 refine (small_ok n ends 40 70 (by omega) (by omega) (by omega)).mono ?_
 rintro _ _ ⟨⟨N, es, g, hN, hm, rfl⟩, rfl⟩
 refine ⟨Nat.le_of_ble_eq_true rfl, (fun hh => by cases hh), ?_⟩
 simp only [go_sem, callOut, AState.after]
 apply hKY
 have hN4 := g.hn
 refine wlk_sreg fun KY hKY => ?_
 simp only [go_sem, c_f3_r2]
 apply call_gen [] [] false none rfl
 iterate 8 (first | (simp only [go_sem, watchIn] <;> rfl) | rfl)
 refine (some_ok hN4 (.imm 2 (twos (castE es))) rfl bits).mono ?_
 rintro _ _ ⟨⟨l, hl1, hl2, rfl⟩, rfl⟩
 have hll : l.length ≤ N := Nat.le_trans (nodup_le (l := l) (m := List.range N) (hl1.imp fun h => Nat.ne_of_lt h) fun v hv => List.mem_range.2 (hl2 v hv)) (by simp)
 have e0 := bErr_nats g (l := l) (hl1.imp fun h => Nat.ne_of_lt h) hl2
 have hlc : (castN l).length = l.length := by simp [castN]
 rw [nats_cast l]
 refine ⟨Nat.le_of_ble_eq_true rfl, (fun hh => by cases hh), ?_⟩
 simp only [go_sem, callOut, AState.after]
 apply hKY
 refine sem_freeze [0, 10] (by simp only [go_sem]; rfl) ?_
 simp only [go_sem]
 refine wlk_sreg fun KY hKY => ?_
 simp only [go_sem, c_f3_r3]
 apply call_gen [] [] false none rfl
 iterate 8 (first | (simp only [go_sem, watchIn] <;> rfl) | rfl)
 refine (bnumber_ok g).mono ?_
 rintro _ _ ⟨⟨k, ⟨m, D, A, bs, hml, F, K, hk⟩, rfl⟩, rfl⟩
 refine ⟨Nat.le_of_ble_eq_true rfl, (fun hh => by cases hh), ?_⟩
 simp only [go_sem, callOut, AState.after]
 apply hKY
 have hsh := fun m' hm' => bshows_ok N (castE es) m' (castN l) hm' (by omega)
 refine wlk_sreg fun KY hKY => ?_
 simp only [go_sem, c_f3_r4]
 apply call_gen [] [] false none rfl
 iterate 8 (first | (simp only [go_sem, watchIn] <;> rfl) | rfl)
 refine (black_ok N (castE es) (castN l) (by omega)).mono ?_
 rintro _ _ ⟨⟨x, e, hx, rfl⟩, rfl⟩
 refine ⟨Nat.le_of_ble_eq_true rfl, (fun hh => by cases hh), ?_⟩
 simp only [go_sem, callOut, AState.after]
 obtain ⟨rfl, ps, P, hxp⟩ := hx.lk g e0
 have hxb : -4096 ≤ x ∧ x ≤ fre N (mf m) := by
  have := lack_weak F.m P (b := l) fun v => castN_mem
  rw [hlc] at hxp; omega
 apply hKY
 refine wlk_sreg fun KY hKY => ?_
 simp only [go_sem, c_f3_r5]
 apply call_gen [] [] false none rfl
 iterate 8 (first | (simp only [go_sem, watchIn] <;> rfl) | rfl)
 refine (pmates_ok g picks hp).mono ?_
 rintro _ _ ⟨⟨m', M', rfl⟩, rfl⟩
 refine ⟨Nat.le_of_ble_eq_true rfl, (fun hh => by cases hh), ?_⟩
 simp only [go_sem, callOut, AState.after]
 apply hKY
 refine sem_freeze [0, 15] (by simp only [go_sem]; rfl) ?_
 simp only [go_sem]
 have hml' := M'.len
 have hs := size_fre (Mt_mf g M') hml'
 have hle := F.lg.2 _ (Mt_mf g M')
 have hsz := r8size_ok m' (by omega)
 have hsh' := hsh m' (by omega)
 obtain ⟨s, hs'⟩ : ∃ s, s = (sel (upP m') m'.length).length := ⟨_, rfl⟩
 rw [← hs'] at hs hsz
 have w1 : IntKind.i64.wrap (2 * (k : Int)) = 2 * (k : Int) := by rw [IntWalk.i64_in _ (by omega)]
 have w2 : IntKind.i64.wrap ((N : Int) - 2 * (k : Int)) = (N : Int) - 2 * (k : Int) := by rw [IntWalk.i64_in _ (by omega)]
 have d1 : decide (x ≤ (N : Int) - 2 * (k : Int)) = true := decide_eq_true (by omega)
 have d2 : decide ((s : Int) ≤ (k : Int)) = true := decide_eq_true (by omega)
 refine wlk_sreg fun KY hKY => ?_
 simp only [go_sem, c_f3_r6]
 refine call_view rfl (by simp only [go_sem] <;> rfl) ((awake13_ok).mono ?_)
 rintro rr hh ⟨rfl, rfl⟩
 refine ⟨rfl, rfl, rfl, ?_⟩
 simp only [go_sem, w1, w2, d1]
 refine call_view rfl (by simp only [go_sem] <;> rfl) ((hsz).mono ?_)
 rintro rr hh ⟨rfl, rfl⟩
 refine ⟨rfl, rfl, rfl, ?_⟩
 simp only [go_sem, d2]
 refine call_view rfl (by simp only [go_sem] <;> rfl) ((hsh').mono ?_)
 rintro rr hh ⟨⟨y, f, hy, rfl⟩, rfl⟩
 refine ⟨?_, ?_, ?_, ?_⟩
 iterate 3 (first | rfl | simp only [go_sem])
 obtain ⟨hyx, rfl⟩ := hy.unique hx
 subst hyx
 cases hb : showB N (castE es) m' y 0 with
 | false =>
   simp only [go_sem]
   apply hKY
   refine wlk_ret ?_
   simp only [go_sem]
 | true =>
   have hb2 : 2 * ((sel (upP m') m'.length).length : Int) = N - y := by
    unfold showB at hb
    rw [Bool.and_eq_true, Bool.and_eq_true] at hb
    exact of_decide_eq_true hb.2.2
   rw [← hs'] at hb2
   have d3 : decide ((s : Int) = (k : Int)) = true := decide_eq_true (by omega)
   simp only [go_sem]
   refine call_view rfl (by simp only [go_sem] <;> rfl) ((hsz).mono ?_)
   rintro rr hh ⟨rfl, rfl⟩
   refine ⟨rfl, rfl, rfl, ?_⟩
   simp only [go_sem, d3]
   apply hKY
   refine wlk_ret ?_
   simp only [go_sem]
theorem barrierMost_all (As : List AVal) (b : Nat) (h : SAs Try.prog Try.f3.params.toList As b) (hb : b ≤ 1048576) : ACalls Try.prog [] 3 As [] fun r _ => r = .sc (.bool true) := by
 rw [Try.params3] at h
 obtain ⟨A1, As1, c1, d1, rfl, rfl, h1, h⟩ := sas_cons h
 obtain ⟨A2, As2, c2, d2, rfl, rfl, h2, h⟩ := sas_cons h
 obtain ⟨A3, As3, c3, d3, rfl, rfl, h3, h⟩ := sas_cons h
 obtain ⟨A4, As4, c4, d4, rfl, rfl, h4, h⟩ := sas_cons h
 obtain rfl := sas_nil h
 obtain ⟨x1, rfl, w1⟩ := sa_int Try.underlying3 h1
 obtain ⟨x2, rfl, w2, e2⟩ := sa_ints Try.underlying22 Try.underlying3 (by kernel_rfl) h2
 obtain ⟨x3, rfl, w3, e3⟩ := sa_ints Try.underlying22 Try.underlying3 (by kernel_rfl) h3
 obtain ⟨x4, rfl, w4⟩ := sa_int Try.underlying23 h4
 exact (bmost_ok x1 x2 x3 x4 (by omega) (by omega)).mono fun _ _ h => h.1
end Go.Proofs.Ytmcfdfafeheihaa
namespace Go.Proofs.Ytmcfdfafeheihaa.barrierMostend
open Go Go.Ga Go.ChangeShapes Go.WideShapes Go.ChangeAt Go.RowKit
theorem own : ownKnob Try.prog.godebug = none := by kernel_rfl
mutual
theorem bulk_at {H : Type} : ∀ d : DataW H, Rows.uptoBulk d = bulk d
 | .lit l => by cases l <;> simp [Rows.uptoBulk, bulk]
 | .nil => by simp [Rows.uptoBulk, bulk]
 | .ptr d => by simp [Rows.uptoBulk, bulk, bulk_at d]
 | .slice e s => by simp [Rows.uptoBulk, bulk, bulk_eq e, bulk_eq s]
 | .agg p => by simp [Rows.uptoBulk, bulk, bulk_eq p]
 | .iface _ d => by simp [Rows.uptoBulk, bulk, bulk_at d]
 | .map e => by simp [Rows.uptoBulk, bulk, bulk_es e]
 | .held _ => by simp [Rows.uptoBulk, bulk]
theorem bulk_eq {H : Type} : ∀ l : List (DataW H), Rows.uptoBulkAll l = bulkL l
 | [] => by simp [Rows.uptoBulkAll, bulkL]
 | d :: r => by simp [Rows.uptoBulkAll, bulkL, bulk_at d, bulk_eq r]
theorem bulk_es {H : Type} : ∀ l : List (Lit × DataW H), Rows.uptoBulkEntries l = bulkE l
 | [] => by simp [Rows.uptoBulkEntries, bulkE]
 | d :: r => by simp [Rows.uptoBulkEntries, bulkE, bulk_e d, bulk_es r]
theorem bulk_e {H : Type} : ∀ d : Lit × DataW H, Rows.uptoBulkEntry d = bulk1 d
 | (l, d) => by cases l <;> simp [Rows.uptoBulkEntry, bulk1, bulk_at d]
end
set_option maxRecDepth 100000 in
theorem plain : Plain Try.prog [3, 22, 23] := plain_of (by kernel_rfl)
set_option maxRecDepth 100000 in
theorem contract (H : Type) (enc : TypeId × Value → H) (W : World) (base : Nat) (args : Array Value) (ds gs : List (DataW H)) (before : List MemPlace)
    (hval : ∀ (j : Nat) t v, Try.f3.params[j]? = some t → args[j]? = some v → Value.okWide Try.prog W .any base t v)
    (hW : DataW.Whole enc Try.prog Try.f3.params.toList Rows.barrierMostSpec.vars false W args.toList ds gs before) (hk : Rows.uptoSmall H (ds ++ gs) = true) :
    Calls Try.prog 3 args W fun e W' => ∃ v, e = .returned v ∧ Rows.barrierMostSpec.post enc Try.prog Try.f3 false true false false W args v W' := by
  have hW' := hW
  obtain ⟨p, q, hA, hV, rfl, hfz, hnd⟩ := hW
  obtain ⟨rfl, rfl⟩ := Go.Ga.trodVars_nil hV
  have hb : bulkL (ds ++ []) ≤ 1048576 := by rw [← bulk_eq]; exact of_decide_eq_true hk
  have r0 : DataW.TrodAll enc Try.prog W 0 (fun _ => true) true Try.f3.params.toList args.toList ds p := hA
  rw [Try.params3] at r0
  obtain ⟨v0, vs0, d0, ds0, p0, q0, hv0, rfl, rfl, h0, r1⟩ := trodAll_cons r0
  obtain ⟨v1, vs1, d1, ds1, p1, q1, hv1, rfl, rfl, h1, r2⟩ := trodAll_cons r1
  obtain ⟨v2, vs2, d2, ds2, p2, q2, hv2, rfl, rfl, h2, r3⟩ := trodAll_cons r2
  obtain ⟨v3, vs3, d3, ds3, p3, q3, hv3, rfl, rfl, h3, r4⟩ := trodAll_cons r3
  obtain ⟨rfl, rfl, rfl⟩ := trodAll_nil r4
  exact contract_true plain hval (by rw [Try.params3]; decide) hW' rfl rfl rfl rfl (tb := 4) (by kernel_rfl) Try.underlying4 hb barrierMost_all
set_option maxRecDepth 100000 in
theorem lifted (os : Os) (started : os.Started) (H : Type) (enc : TypeId × Value → H) (F : Stop.Interp) :
    ReturnsInHanded {} Try.checked os 3 .any ((Rows.OpenSpec.upto Rows.barrierMostSpec).pre6 enc Try.prog Try.f3 Rows.barrierMostUptoRow.domain false) (((Rows.OpenSpec.upto Rows.barrierMostSpec).at F).post enc Try.prog Try.f3 false true false false) := by
  refine returnsInHanded_of_cond (C := Try.checked) (s := Rows.OpenSpec.upto Rows.barrierMostSpec) (k := Rows.uptoSmall) rfl own started (by kernel_rfl) Try.func3
    (OpenSpec.witness (enc := enc) (C := Try.checked) (s := Rows.OpenSpec.upto Rows.barrierMostSpec) (k := Rows.uptoSmall) rfl false ⟨#[], #[.int .i64 0, .slice none 0 0, .slice none 0 0, .int .u64 0], []⟩ 8 (by kernel_rfl) (by kernel_rfl) (by kernel_rfl)
      (x := ([.lit (.int .i64 0), .nil, .nil, .lit (.int .u64 0)], [], [])) (by kernel_rfl) rfl (by kernel_rfl)) ?_
  intro W base args ds gs before hval hW _ hk _
  exact contract H enc W base args ds gs before hval hW hk
theorem holds : Rows.BarrierMostUptoSaid :=
 OpenClaim.holds_of_cond 3 Try.f3 rfl rfl rfl rfl rfl rfl rfl ⟨rfl, rfl, rfl, rfl, rfl⟩ rfl rfl rfl rfl rfl (by kernel_rfl) Try.func3 (by kernel_rfl)
  (of_decide_eq_true (by kernel_rfl)) (by unfold Func.isWrapper; first | (rw [if_pos (by decide +kernel)]; kernel_rfl) | (rw [if_neg (by decide +kernel)]; exact ⟨rfl, rfl⟩))
  (fun os started H enc _ F => lifted os started H enc F)
end Go.Proofs.Ytmcfdfafeheihaa.barrierMostend
