/- Values, objects, and code by what it leads to: a library of this claim's own. No condition. -/
import Derived.Test.YtmcfdfafeheihaaGlkpaph4
import Derived.Sort.Grow
set_option linter.all false

namespace Go.Ga
open Go
def nats (xs : List Nat) : List AVal := xs.map fun (n : Nat) => .sc (.int .i64 (n : Int))
def ints (xs : List Int) : List AVal := xs.map fun n => .sc (.int .i64 n)
theorem nats_len (xs : List Nat) : (nats xs).length = xs.length := by simp [nats]
theorem ints_len (xs : List Int) : (ints xs).length = xs.length := by simp [ints]
theorem nats_get {xs : List Nat} {k : Nat} (h : k < xs.length) : (nats xs)[k]? = some (.sc (.int .i64 ((xs.getD k 0 : Nat) : Int))) := by
 simp [nats, List.getElem?_map, List.getElem?_eq_getElem h, h]
theorem ints_get {xs : List Int} {k : Nat} (h : k < xs.length) : (ints xs)[k]? = some (.sc (.int .i64 (xs.getD k 0))) := by
 simp [ints, List.getElem?_map, List.getElem?_eq_getElem h, h]
theorem nats_set (xs : List Nat) (k n : Nat) : (nats xs).set k (.sc (.int .i64 (n : Int))) = nats (xs.set k n) := by
 simp [nats, List.map_set]
theorem ints_set (xs : List Int) (k : Nat) (n : Int) : (ints xs).set k (.sc (.int .i64 n)) = ints (xs.set k n) := by
 simp [ints, List.map_set]
mutual
def AVal.plain : AVal → Bool
 | .sc _ => true
 | .agg cs => AVal.plainL cs
 | .imm _ cs => AVal.plainL cs
 | .ia cs => AVal.plainL cs
 | .tup cs => AVal.plainL cs
 | .fn _ as bs => AVal.plainL as && AVal.plainL bs
 | .iface _ A => A.plain
 | _ => false
def AVal.plainL : List AVal → Bool
 | [] => true
 | A :: l => A.plain && AVal.plainL l
end
mutual
theorem plain_copyable : ∀ A : AVal, A.plain = true → A.copyable = true
 | .sc _, _ => rfl
 | .agg cs, h => by simp only [AVal.copyable]; exact plain_copyableL cs h
 | .imm _ _, _ => rfl
 | .ia _, _ => rfl
 | .tup cs, h => by simp only [AVal.copyable]; exact plain_copyableL cs h
 | .fn _ _ _, _ => rfl
 | .iface _ _, _ => rfl
 | .own _ _, h => by cases h
 | .sl _ _ _ _, h => by cases h
 | .ptr _ _, h => by cases h
 | .at_ _, h => by cases h
 | .addr _ _, h => by cases h
 | .dead, h => by cases h
theorem plain_copyableL : ∀ l : List AVal, AVal.plainL l = true → AVal.copyableL l = true
 | [], _ => rfl
 | A :: l, h => by
   simp only [AVal.plainL, Bool.and_eq_true] at h
   simp only [AVal.copyableL, plain_copyable A h.1, plain_copyableL l h.2, Bool.and_self]
end
mutual
theorem plain_ids0 : ∀ A : AVal, A.plain = true → A.ids0 = true
 | .sc _, _ => rfl
 | .agg cs, h => by simp only [AVal.ids0]; exact plain_ids0L cs h
 | .imm _ cs, h => by simp only [AVal.ids0]; exact plain_ids0L cs h
 | .ia cs, h => by simp only [AVal.ids0]; exact plain_ids0L cs h
 | .tup cs, h => by simp only [AVal.ids0]; exact plain_ids0L cs h
 | .fn _ as bs, h => by
   simp only [AVal.plain, Bool.and_eq_true] at h
   simp only [AVal.ids0, plain_ids0L as h.1, plain_ids0L bs h.2, Bool.and_self]
 | .iface _ A, h => by simp only [AVal.ids0]; exact plain_ids0 A h
 | .own _ _, h => by cases h
 | .sl _ _ _ _, h => by cases h
 | .ptr _ _, h => by cases h
 | .at_ _, h => by cases h
 | .addr _ _, h => by cases h
 | .dead, h => by cases h
theorem plain_ids0L : ∀ l : List AVal, AVal.plainL l = true → AVal.ids0L l = true
 | [], _ => rfl
 | A :: l, h => by
   simp only [AVal.plainL, Bool.and_eq_true] at h
   simp only [AVal.ids0L, plain_ids0 A h.1, plain_ids0L l h.2, Bool.and_self]
end
theorem scs_all {α : Type} (f : α → Value) (xs : List α) : AVal.plainL (xs.map fun x => .sc (f x)) = true ∧ AVal.flatL (xs.map fun x => .sc (f x)) = true := by
 induction xs with
 | nil => exact ⟨rfl, rfl⟩
 | cons x xs ih => simp only [List.map_cons, AVal.plainL, AVal.plain, AVal.flatL, AVal.flat, ih, Bool.and_self, and_self]
theorem nats_plain (xs : List Nat) : AVal.plainL (nats xs) = true := (scs_all _ xs).1
theorem nats_flat (xs : List Nat) : AVal.flatL (nats xs) = true := (scs_all _ xs).2
theorem ints_plain (xs : List Int) : AVal.plainL (ints xs) = true := (scs_all _ xs).1
theorem ints_flat (xs : List Int) : AVal.flatL (ints xs) = true := (scs_all _ xs).2
theorem nats_cellOk (xs : List Nat) : AVal.cellOkL (nats xs) = true := by
 induction xs with
 | nil => rfl
 | cons x xs ih => exact (Bool.and_eq_true _ _).mpr ⟨rfl, ih⟩
theorem ints_cellOk (xs : List Int) : AVal.cellOkL (ints xs) = true := by
 induction xs with
 | nil => rfl
 | cons x xs ih => exact (Bool.and_eq_true _ _).mpr ⟨rfl, ih⟩
theorem nats_copyable (xs : List Nat) : AVal.copyableL (nats xs) = true := plain_copyableL _ (nats_plain xs)
theorem ints_copyable (xs : List Int) : AVal.copyableL (ints xs) = true := plain_copyableL _ (ints_plain xs)
theorem nats_freeze (xs : List Nat) : AVal.freezeL (nats xs) = nats xs := copyable_freezeL _ (nats_copyable xs)
theorem ints_freeze (xs : List Int) : AVal.freezeL (ints xs) = ints xs := copyable_freezeL _ (ints_copyable xs)
theorem nats_ids0 (xs : List Nat) : AVal.ids0L (nats xs) = true := plain_ids0L _ (nats_plain xs)
theorem ints_ids0 (xs : List Int) : AVal.ids0L (ints xs) = true := plain_ids0L _ (ints_plain xs)
theorem nats_ren (g : Nat → Option Nat) (xs : List Nat) : AVal.renL g (nats xs) = nats xs := ids0_renL g _ (nats_ids0 xs)
theorem ints_ren (g : Nat → Option Nat) (xs : List Int) : AVal.renL g (ints xs) = ints xs := ids0_renL g _ (ints_ids0 xs)
section
variable {P : Program} {rs : List Nat} {N : Nat} {V V1 V2 : List Nat} {L : List (List Nat)} {x y : ACode} {K : AExit → AState → Prop} {st : AState} {gs : List GOp} {t : Tree} {i j d : Nat}
theorem wlk_reg (h : ∀ Y : AState → Prop, (∀ s, K .normal (s.settle V2) → Y s) → arun P L Y gs (st.settle V1)) : Wlk P rs N V L (.reg V1 gs V2) K st := sem_reg (h _ fun _ h => h)
theorem wlk_draw (h : ∀ Y : AState → Prop, (∀ s, K .normal (s.settle V2) → Y s) → trun P Y t [([], L)] (st.settle V1)) : Wlk P rs N V L (.draw V1 t V2) K st := sem_draw (h _ fun _ h => h)
theorem wlk_sreg (h : ∀ Y : AState → Prop, (∀ s, Wlk P rs N V L y K (s.settle V2) → Y s) → arun P L Y gs (st.settle V1)) : Wlk P rs N V L (.seq (.reg V1 gs V2) y) K st := sem_seq (sem_reg (h _ fun _ h => h))
theorem wlk_sdraw (h : ∀ Y : AState → Prop, (∀ s, Wlk P rs N V L y K (s.settle V2) → Y s) → trun P Y t [([], L)] (st.settle V1)) : Wlk P rs N V L (.seq (.draw V1 t V2) y) K st := sem_seq (sem_draw (h _ fun _ h => h))
theorem wlk_seq (h : ∀ X : AExit → AState → Prop, (∀ s, Wlk P rs N V L y K s → X .normal s) → (∀ i s, K (.exit i) s → X (.exit i) s) → (∀ s, K .ret s → X .ret s) → Wlk P rs N V L x X st) : Wlk P rs N V L (.seq x y) K st :=
 sem_seq (h _ (fun _ h => h) (fun _ _ h => h) fun _ h => h)
theorem wlk_blk (h : ∀ X : AExit → AState → Prop, (∀ s, K .normal s → X .normal s) → (∀ s, K .normal s → X (.exit i) s) → (∀ j s, j ≠ i → K (.exit j) s → X (.exit j) s) → (∀ s, K .ret s → X .ret s) → Wlk P rs N V L x X st) : Wlk P rs N V L (.blk i x) K st :=
 sem_blk (h _ (fun _ h => h) (fun _ h => (if_pos rfl).mpr h) (fun j _ hj h => (if_neg hj).mpr h) fun _ h => h)
theorem wlk_loop (I : Nat → AState → Prop) (n : Nat) (h0 : I n st) (h : ∀ n s, I n s → ∀ X : AExit → AState → Prop, (∀ m s, m < n → I m s → X .normal s) → (∀ i s, K (.exit i) s → X (.exit i) s) → (∀ s, K .ret s → X .ret s) → Wlk P rs N V L x X s) : Wlk P rs N V L (.loop x) K st :=
 sem_loop I n h0 fun n s hI => h n s hI _ (fun m _ hm h => ⟨m, hm, h⟩) (fun _ _ h => h) fun _ h => h
theorem wlk_ret (h : K .ret st) : Wlk P rs N V L .ret K st := sem_ret h
theorem wlk_exit (h : K (.exit i) st) : Wlk P rs N V L (.exit i) K st := sem_exit h
theorem wlk_skip (h : K .normal st) : Wlk P rs N V L .skip K st := sem_skip h
theorem wlk_cond {c : Opd} {v : Bool} (hc : st.ev c = .sc (.bool v)) (h1 : v = true → Wlk P rs N V L x K st) (h2 : v = false → Wlk P rs N V L y K st) : Wlk P rs N V L (.cond c x y) K st := sem_cond hc h1 h2
theorem wlk_cond1 {c : Opd} (hc : st.ev c = .sc (.bool true)) (h1 : Wlk P rs N V L x K st) : Wlk P rs N V L (.cond c x y) K st := sem_cond hc (fun _ => h1) fun h => by cases h
theorem wlk_cond0 {c : Opd} (hc : st.ev c = .sc (.bool false)) (h1 : Wlk P rs N V L y K st) : Wlk P rs N V L (.cond c x y) K st := sem_cond hc (fun h => by cases h) fun _ => h1
theorem arun_nil {K : AState → Prop} : arun P L K [] st = K st := rfl
theorem arun_cons {K : AState → Prop} {g : GOp} {rest : List GOp} : arun P L K (g :: rest) st = gstep P L (arun P L K rest) st g := rfl
theorem gstep_none {K : AState → Prop} {b : BOp} : gstep P L K st (none, b) = (b.quiet L st = true ∧ astep P L K st b) := rfl
theorem gstep_hit {K : AState → Prop} {t : Nat} {want : Bool} {b : BOp} (h : st.get t = .sc (.bool want)) : gstep P L K st (some (t, want), b) = (b.quiet L st = true ∧ astep P L K st b) := by
 have h1 : want ≠ (!want) := by cases want <;> decide
 simp [gstep, h, h1]
theorem gstep_miss {K : AState → Prop} {t d : Nat} {want : Bool} {b : BOp} (h : st.get t = .sc (.bool (!want))) (hd : b.dst = some d) : gstep P L K st (some (t, want), b) = K (st.putT d (.sc (.tuple #[]))) := by
 have h1 : (!want) ≠ want := by cases want <;> decide
 simp [gstep, h, h1, hd]
theorem gstep_undef {K : AState → Prop} {t d : Nat} {want : Bool} {b : BOp} (h : st.get t = .sc (.tuple #[])) (hd : b.dst = some d) : gstep P L K st (some (t, want), b) = K (st.putT d (.sc (.tuple #[]))) := by
 simp [gstep, h, hd]
theorem quiet_nil' {b : BOp} : (b.quiet [] st = true) = True := by rw [quiet_nil]; exact eq_self true
theorem look_cons (j : Nat) (A : AVal) (l : List (Nat × AVal)) (i : Nat) : look ((j, A) :: l) i = if i = j then some A else look l i := rfl
theorem look_nil (i : Nat) : look [] i = none := rfl
theorem upd_cons (j : Nat) (A B : AVal) (l : List (Nat × AVal)) (i : Nat) : upd ((j, A) :: l) i B = if i = j then (j, B) :: l else (j, A) :: upd l i B := rfl
theorem get_mk (vs ts : List (Nat × AVal)) (h : Heap) (i : Nat) : AState.get ⟨vs, ts, h⟩ i = look2 (look ts i) (look vs i) := rfl
theorem look2_some (A : AVal) (x : Option AVal) : look2 (some A) x = A := rfl
theorem look2_none (A : AVal) : look2 none (some A) = A := rfl
theorem look2_nn : look2 none none = .dead := rfl
theorem ev_t (st : AState) (i : Nat) : st.ev (.t i) = st.get i := rfl
theorem ev_c (st : AState) (v : Value) : st.ev (.c v) = .sc v := rfl
theorem ev_f (st : AState) (g : Nat) : st.ev (.f g) = .fn (.func g) [] [] := rfl
theorem evA_t (st : AState) (i : Nat) : st.evA (.t i) = (st.get i).here i := rfl
theorem evA_c (st : AState) (v : Value) : st.evA (.c v) = .sc v := rfl
theorem evU_c (st : AState) (v : Value) : st.evU (.c v) = .sc v := rfl
theorem evU_f (st : AState) (g : Nat) : st.evU (.f g) = .fn (.func g) [] [] := rfl
theorem settle_mk (vs ts : List (Nat × AVal)) (h : Heap) (V : List Nat) : AState.settle ⟨vs, ts, h⟩ V = ⟨V.map fun i => (i, (look2 (look ts i) (look vs i)).cut V), [], h⟩ := rfl
theorem putT_mk (vs ts : List (Nat × AVal)) (h : Heap) (d : Nat) (A : AVal) : AState.putT ⟨vs, ts, h⟩ d A = ⟨vs, (d, A) :: ts, h⟩ := rfl
theorem kill_mk (vs ts : List (Nat × AVal)) (h : Heap) (f : AVal → Bool) : AState.kill ⟨vs, ts, h⟩ f = ⟨killL f vs, killL f ts, h⟩ := rfl
theorem killL_cons (f : AVal → Bool) (j : Nat) (A : AVal) (l : List (Nat × AVal)) : killL f ((j, A) :: l) = (j, bif f A then .dead else A) :: killL f l := rfl
theorem killL_nil (f : AVal → Bool) : killL f [] = [] := rfl
def setIn (vs ts : List (Nat × AVal)) (h : Heap) (i : Nat) (A : AVal) : Option AVal → AState
 | some _ => ⟨vs, upd ts i A, h⟩
 | none => ⟨upd vs i A, ts, h⟩
theorem set_mk (vs ts : List (Nat × AVal)) (h : Heap) (i : Nat) (A : AVal) : AState.set ⟨vs, ts, h⟩ i A = setIn vs ts h i A (look ts i) := by
 unfold AState.set setIn
 cases look ts i <;> rfl
theorem setIn_some (vs ts : List (Nat × AVal)) (h : Heap) (i : Nat) (A B : AVal) : setIn vs ts h i A (some B) = ⟨vs, upd ts i A, h⟩ := rfl
theorem setIn_none (vs ts : List (Nat × AVal)) (h : Heap) (i : Nat) (A : AVal) : setIn vs ts h i A none = ⟨upd vs i A, ts, h⟩ := rfl
def evUIn (i : Nat) (A : AVal) : Option AVal → AVal
 | some B => B
 | none => match A with
   | .agg cs => bif AVal.copyableL cs then .agg cs else .at_ [0, i]
   | A => A.here i
theorem evU_t (vs ts : List (Nat × AVal)) (h : Heap) (i : Nat) : AState.evU ⟨vs, ts, h⟩ (.t i) = evUIn i (look2 (look ts i) (look vs i)) (look ts i) := by
 show (match look ts i with | some A => A | none => match look2 (look ts i) (look vs i) with | .agg cs => bif AVal.copyableL cs then .agg cs else .at_ [0, i] | A => A.here i) = _
 unfold evUIn
 rfl
theorem evUIn_some (i : Nat) (A B : AVal) : evUIn i A (some B) = B := rfl
theorem cut_sc (v : Value) : (AVal.sc v).cut V = .sc v := rfl
theorem cut_agg (cs : List AVal) : (AVal.agg cs).cut V = .agg cs := rfl
theorem cut_imm (sz : Nat) (cs : List AVal) : (AVal.imm sz cs).cut V = .imm sz cs := rfl
theorem cut_own (hd : Option Nat) (cs : List AVal) : (AVal.own hd cs).cut V = .own hd cs := rfl
theorem cut_sl (a b c e : Nat) : (AVal.sl a b c e).cut V = .sl a b c e := rfl
theorem cut_ptr (a b : Nat) : (AVal.ptr a b).cut V = .ptr a b := rfl
theorem cut_ia (cs : List AVal) : (AVal.ia cs).cut V = .ia cs := rfl
theorem cut_fn (f : Fn) (a b : List AVal) : (AVal.fn f a b).cut V = .fn f a b := rfl
theorem cut_iface (t : TypeId) (A : AVal) : (AVal.iface t A).cut V = .iface t A := rfl
theorem cut_tup (cs : List AVal) : (AVal.tup cs).cut V = .tup cs := rfl
theorem cut_mp (ks : List Int) : (AVal.mp ks).cut V = .mp ks := rfl
theorem cut_dead : AVal.dead.cut V = .dead := rfl
theorem cut_at0 (ks : List Nat) : (AVal.at_ (0 :: i :: ks)).cut V = bif V.contains i then .at_ (0 :: i :: ks) else .dead := rfl
theorem cut_at1 (ks : List Nat) : (AVal.at_ (1 :: ks)).cut V = .at_ (1 :: ks) := rfl
theorem cut_addr0 (ks : List Nat) (k : Nat) : (AVal.addr (0 :: i :: ks) k).cut V = bif V.contains i then .addr (0 :: i :: ks) k else .dead := rfl
theorem cut_addr1 (ks : List Nat) (k : Nat) : (AVal.addr (1 :: ks) k).cut V = .addr (1 :: ks) k := rfl
theorem here_sc (v : Value) : (AVal.sc v).here i = .sc v := rfl
theorem here_agg (cs : List AVal) : (AVal.agg cs).here i = .agg cs := rfl
theorem here_imm (sz : Nat) (cs : List AVal) : (AVal.imm sz cs).here i = .imm sz cs := rfl
theorem here_box (cs : List AVal) : (AVal.own none cs).here i = .addr [0, i] 0 := rfl
theorem here_own (sz : Nat) (cs : List AVal) : (AVal.own (some sz) cs).here i = .at_ [0, i] := rfl
theorem here_sl (a b c e : Nat) : (AVal.sl a b c e).here i = .sl a b c e := rfl
theorem here_ptr (a b : Nat) : (AVal.ptr a b).here i = .ptr a b := rfl
theorem here_ia (cs : List AVal) : (AVal.ia cs).here i = .ia cs := rfl
theorem here_fn (f : Fn) (a b : List AVal) : (AVal.fn f a b).here i = .fn f a b := rfl
theorem here_iface (t : TypeId) (A : AVal) : (AVal.iface t A).here i = .iface t A := rfl
theorem here_tup (cs : List AVal) : (AVal.tup cs).here i = .tup cs := rfl
theorem here_mp (ks : List Int) : (AVal.mp ks).here i = .mp ks := rfl
theorem here_at' (p : List Nat) : (AVal.at_ p).here i = .at_ p := rfl
theorem here_addr' (p : List Nat) (k : Nat) : (AVal.addr p k).here i = .addr p k := rfl
theorem rootIs_sc (v : Value) : (AVal.sc v).rootIs i = false := rfl
theorem rootIs_agg (cs : List AVal) : (AVal.agg cs).rootIs i = false := rfl
theorem rootIs_imm (sz : Nat) (cs : List AVal) : (AVal.imm sz cs).rootIs i = false := rfl
theorem rootIs_own (hd : Option Nat) (cs : List AVal) : (AVal.own hd cs).rootIs i = false := rfl
theorem rootIs_sl (a b c e : Nat) : (AVal.sl a b c e).rootIs i = false := rfl
theorem rootIs_ptr (a b : Nat) : (AVal.ptr a b).rootIs i = false := rfl
theorem rootIs_ia (cs : List AVal) : (AVal.ia cs).rootIs i = false := rfl
theorem rootIs_fn (f : Fn) (a b : List AVal) : (AVal.fn f a b).rootIs i = false := rfl
theorem rootIs_iface (t : TypeId) (A : AVal) : (AVal.iface t A).rootIs i = false := rfl
theorem rootIs_tup (cs : List AVal) : (AVal.tup cs).rootIs i = false := rfl
theorem rootIs_mp (ks : List Int) : (AVal.mp ks).rootIs i = false := rfl
theorem rootIs_dead : AVal.dead.rootIs i = false := rfl
theorem rootIs_at0 (ks : List Nat) : (AVal.at_ (0 :: j :: ks)).rootIs i = (j == i) := rfl
theorem rootIs_at1 (ks : List Nat) : (AVal.at_ (1 :: ks)).rootIs i = false := rfl
theorem rootIs_addr0 (ks : List Nat) (k : Nat) : (AVal.addr (0 :: j :: ks) k).rootIs i = (j == i) := rfl
theorem rootIs_addr1 (ks : List Nat) (k : Nat) : (AVal.addr (1 :: ks) k).rootIs i = false := rfl
theorem at0 (st : AState) (i : Nat) (ks : List Nat) : st.at (0 :: i :: ks) = (st.get i).sub ks := rfl
def subH (k : Nat) (ks : List Nat) : Option (Option (List AVal)) → Option AVal
 | some (some cs) => (AVal.own none cs).sub (k :: ks)
 | _ => none
theorem at1 (vs ts : List (Nat × AVal)) (h : Heap) (id k : Nat) (ks : List Nat) : AState.at ⟨vs, ts, h⟩ (1 :: id :: k :: ks) = subH k ks h[id]? := by
 simp only [AState.at, subH]
 cases h[id]? with
 | none => rfl
 | some x => cases x <;> rfl
theorem subH_some (k : Nat) (ks : List Nat) (cs : List AVal) : subH k ks (some (some cs)) = (AVal.own none cs).sub (k :: ks) := rfl
def subK (ks : List Nat) : Option AVal → Option AVal
 | some B => B.sub ks
 | none => none
theorem subK_some (ks : List Nat) (B : AVal) : subK ks (some B) = B.sub ks := rfl
theorem sub_nil (A : AVal) : A.sub [] = some A := by cases A <;> rfl
theorem sub_own (hd : Option Nat) (cs : List AVal) (k : Nat) (ks : List Nat) : (AVal.own hd cs).sub (k :: ks) = subK ks cs[k]? := by
 simp only [AVal.sub, AVal.kids, subK]; cases cs[k]? <;> rfl
theorem sub_agg (cs : List AVal) (k : Nat) (ks : List Nat) : (AVal.agg cs).sub (k :: ks) = subK ks cs[k]? := by
 simp only [AVal.sub, AVal.kids, subK]; cases cs[k]? <;> rfl
theorem sub_tup (cs : List AVal) (k : Nat) (ks : List Nat) : (AVal.tup cs).sub (k :: ks) = subK ks cs[k]? := by
 simp only [AVal.sub, AVal.kids, subK]; cases cs[k]? <;> rfl
def setK (cs : List AVal) (k : Nat) (ks : List Nat) (B : AVal) : Option AVal → List AVal
 | some C => cs.set k (C.setSub ks B)
 | none => cs
theorem setK_some (cs : List AVal) (k : Nat) (ks : List Nat) (B C : AVal) : setK cs k ks B (some C) = cs.set k (C.setSub ks B) := rfl
theorem setSub_nil (A B : AVal) : A.setSub [] B = B := by cases A <;> rfl
theorem setSub_own (hd : Option Nat) (cs : List AVal) (k : Nat) (ks : List Nat) (B : AVal) : (AVal.own hd cs).setSub (k :: ks) B = .own hd (setK cs k ks B cs[k]?) := by
 simp only [AVal.setSub, setK]; cases cs[k]? <;> rfl
theorem setSub_agg (cs : List AVal) (k : Nat) (ks : List Nat) (B : AVal) : (AVal.agg cs).setSub (k :: ks) B = .agg (setK cs k ks B cs[k]?) := by
 simp only [AVal.setSub, setK]; cases cs[k]? <;> rfl
theorem setSub_tup (cs : List AVal) (k : Nat) (ks : List Nat) (B : AVal) : (AVal.tup cs).setSub (k :: ks) B = .tup (setK cs k ks B cs[k]?) := by
 simp only [AVal.setSub, setK]; cases cs[k]? <;> rfl
theorem setAt0 (st : AState) (i : Nat) (ks : List Nat) (B : AVal) : st.setAt (0 :: i :: ks) B = st.set i ((st.get i).setSub ks B) := rfl
def setH (vs ts : List (Nat × AVal)) (h : Heap) (id k : Nat) (ks : List Nat) (B : AVal) : Option (Option (List AVal)) → AState
 | some (some cs) => ⟨vs, ts, h.set id (some (setK cs k ks B cs[k]?))⟩
 | _ => ⟨vs, ts, h⟩
theorem setAt1 (vs ts : List (Nat × AVal)) (h : Heap) (id k : Nat) (ks : List Nat) (B : AVal) : AState.setAt ⟨vs, ts, h⟩ (1 :: id :: k :: ks) B = setH vs ts h id k ks B h[id]? := by
 simp only [AState.setAt, setH]
 cases h[id]? with
 | none => rfl
 | some x => cases x with
   | none => rfl
   | some cs => simp only [setK]; cases cs[k]? <;> rfl
theorem setH_some (vs ts : List (Nat × AVal)) (h : Heap) (id k : Nat) (ks : List Nat) (B : AVal) (cs : List AVal) : setH vs ts h id k ks B (some (some cs)) = ⟨vs, ts, h.set id (some (setK cs k ks B cs[k]?))⟩ := rfl
theorem kill_false (st : AState) : st.kill (fun _ => false) = st := by
 have : ∀ l : List (Nat × AVal), killL (fun _ => false) l = l := fun l => by
  induction l with
  | nil => rfl
  | cons x l ih => obtain ⟨i, A⟩ := x; simp [killL, ih]
 simp [AState.kill, this]
theorem gone_nil {gb : Nat → Option Nat} {h' : Heap} : gone [] L gb h' = fun _ => false := by
 funext A
 unfold gone
 split
 · simp [idx]
 · simp [idx]
 · rfl
theorem setO_nil {gb : Nat → Option Nat} {h' : Heap} : ∀ (i : Nat) (l : Heap), setO (idx []) gb h' i l = l
 | _, [] => rfl
 | i, o :: l => by
   have ih := setO_nil (gb := gb) (h' := h') (i + 1) l
   simp only [setO, ih]
   rfl
def viewL (st : AState) : List (Opd × Bool) → List AVal
 | [] => []
 | (x, _) :: xs => argV st [] true x :: viewL st xs
theorem useL_prep : ∀ (args : List (Opd × Bool)), ∃ As, st.useL (prep args []) = some (As, st) ∧ As.length = args.length ∧ st.useLQ L (prep args []) = true
 | [] => ⟨[], rfl, rfl, rfl⟩
 | (x, b) :: xs => by
   obtain ⟨As, h1, h2, h3⟩ := useL_prep xs
   refine ⟨.sc (.bool false) :: As, ?_, by simp [h2], ?_⟩
   · simp only [prep, List.headD_nil, List.tail_nil, AState.useL, AState.use, AState.evU, AVal.copyable, cond_true, h1]
   · simp only [prep, List.headD_nil, List.tail_nil, AState.useLQ, AState.useQ, AState.use, AState.evU, AVal.copyable, cond_true, h3, Bool.and_self]
theorem argsIn_view {st0 : AState} : ∀ (args : List (Opd × Bool)) (As : List AVal), As.length = args.length → argsIn st0 st [] true none args [] As = viewL st args
 | [], [], _ => rfl
 | [], _ :: _, h => by simp at h
 | _ :: _, [], h => by simp at h
 | (x, b) :: xs, A :: As, h => by
   simp only [argsIn, List.headD_nil, List.tail_nil, viewL, argsIn_view xs As (by simpa using h)]
theorem acall_view {f : Opd} {args : List (Opd × Bool)} {K : AState → Prop} {g : Nat} {first captured : List AVal} (hev : st.ev f = .fn (.func g) first captured)
    (H : ACalls P [] g (vwL st.h [] true first ++ (viewL st args ++ vwL st.h [] true captured)) [] fun r h' => h' = [] ∧ r.flat = true ∧ r.ids0 = true ∧ K (st.putT d r)) : acall P L st d f args K := by
  unfold acall
  rw [hev]
  refine ⟨[], [], true, none, ?_⟩
  unfold acallM
  obtain ⟨As, h1, h2, h3⟩ := useL_prep (st := st) (L := L) args
  have hw : ∀ L : List (List Nat), watchIn [] L = [] := fun L => by
    induction L with
    | nil => rfl
    | cons r L ih =>
      unfold watchIn
      split
      · rename_i heq; cases heq
      · rename_i heq; cases heq; simp [idx, ih]
      · rename_i heq; cases heq; exact ih
  simp only [takeP, h1, argsIn_view _ _ h2, h3, takeQ, hw, heapIn]
  refine ⟨rfl, rfl, rfl, H.mono fun r h' ⟨e, hf, hi, hk⟩ => ?_⟩
  subst e
  refine ⟨Nat.le_refl _, fun _ => ⟨hf, rfl⟩, ?_⟩
  simp only [callOut, AState.after, gone_nil, kill_false, setO_nil, ids0_ren _ _ hi]
  simpa [renH] using hk
theorem acallM_of {f : Opd} {args : List (Opd × Bool)} {K : AState → Prop} {g : Nat} {first captured : List AVal} (hev : st.ev f = .fn (.func g) first captured) (ms : List ArgM) (bo : List Nat) (ln : Bool) (pl : Option (List Nat))
    (H : acallM P L st d g first captured args ms bo ln pl K) : acall P L st d f args K := by
  unfold acall
  rw [hev]
  exact ⟨ms, bo, ln, pl, H⟩
end
end Go.Ga

namespace Go.Ga
open Go
section
variable {P : Program} {L : List (List Nat)} {K : AState → Prop} {st st0 st1 : AState} {d : Nat}
theorem arun_op {b : BOp} {rest : List GOp} : arun P [] K ((none, b) :: rest) st = astep P [] (arun P [] K rest) st b := by
 rw [arun_cons, gstep_none, quiet_nil', true_and]
theorem arun_hit {t : Nat} {want : Bool} {b : BOp} {rest : List GOp} (h : st.get t = .sc (.bool want)) : arun P [] K ((some (t, want), b) :: rest) st = astep P [] (arun P [] K rest) st b := by
 rw [arun_cons, gstep_hit h, quiet_nil', true_and]
theorem arun_miss {t d : Nat} {want : Bool} {b : BOp} {rest : List GOp} (h : st.get t = .sc (.bool (!want))) (hd : b.dst = some d) : arun P [] K ((some (t, want), b) :: rest) st = arun P [] K rest (st.putT d (.sc (.tuple #[]))) := by
 rw [arun_cons, gstep_miss h hd]
theorem arun_undef {t d : Nat} {want : Bool} {b : BOp} {rest : List GOp} (h : st.get t = .sc (.tuple #[])) (hd : b.dst = some d) : arun P [] K ((some (t, want), b) :: rest) st = arun P [] K rest (st.putT d (.sc (.tuple #[]))) := by
 rw [arun_cons, gstep_undef h hd]
theorem trun_done {wl : List AWatch} : trun P K .done wl st = K st := rfl
theorem trun_take {later : List Nat} {gd : Option (Nat × Bool)} {o : AOp} {t : Tree} {wl : List AWatch} : trun P K (.take later (gd, .r o) t) wl st = gstep P [] (trun P K t ((later, rlab st o) :: wl)) st (gd, .r o) := rfl
theorem trun_one {i : Nat} {g : GOp} {t : Tree} {wl : List AWatch} : trun P K (.one i g t) wl st = gstep P (marks (keepW i wl)) (trun P K t (keepW i wl)) st g := rfl
theorem trun_many {i : Nat} {g : GOp} {l : List (Nat × GOp)} {t : Tree} {wl : List AWatch} : trun P K (.many ((i, g) :: l) t) wl st = gstep P [] (trun P K (.many l t) (keepW i wl)) st g := rfl
theorem trun_many0 {t : Tree} {wl : List AWatch} : trun P K (.many [] t) wl st = trun P K t wl st := rfl
theorem trun_two {i j : Nat} {g h : GOp} {t u : Tree} {wl : List AWatch} : trun P K (.two i g t j h u) wl st = (gstep P (marks (keepW i wl)) (trun P K t (keepW i wl)) st g ∧ gstep P (marks (keepW j wl)) (trun P K u (keepW j wl)) st h) := rfl
theorem trun_three {i j k : Nat} {g h m : GOp} {t u v : Tree} {wl : List AWatch} : trun P K (.three i g t j h u k m v) wl st = (gstep P (marks (keepW i wl)) (trun P K t (keepW i wl)) st g ∧ gstep P (marks (keepW j wl)) (trun P K u (keepW j wl)) st h ∧ gstep P (marks (keepW k wl)) (trun P K v (keepW k wl)) st m) := rfl
theorem setCells_one (cs : List AVal) (k : Nat) (A : AVal) : setCells cs k [A] = cs.set k A := rfl
theorem ends_nil {rss : List ARes} {Q : AVal → Heap → Prop} {s : AState} : ends [] rss Q .ret s = match aRes rss s with
    | some (As, s') => Q (pack As) s'.h
    | none => False := by
  simp only [ends, aResQ_nil, true_and] <;> rfl
theorem ends_nil' {rss : List ARes} {Q : AVal → Heap → Prop} {s : AState} : ends [] rss Q .normal s = match aRes rss s with
    | some (As, s') => Q (pack As) s'.h
    | none => False := by
  simp only [ends, aResQ_nil, true_and] <;> rfl
theorem call_view {f : Opd} {args : List (Opd × Bool)} {g : Nat} {first captured As : List AVal} (hev : st.ev f = .fn (.func g) first captured) (hargs : vwL st.h [] true first ++ (viewL st args ++ vwL st.h [] true captured) = As)
    (H : ACalls P [] g As [] fun r h' => h' = [] ∧ r.flat = true ∧ r.ids0 = true ∧ K (st.putT d r)) : acall P L st d f args K :=
  acall_view hev (by rw [hargs]; exact H)
theorem call_gen {f : Opd} {args : List (Opd × Bool)} {g : Nat} {first captured As args' : List AVal} {x : Option (List Nat × Nat × List AVal)} {h0 : Heap} {L' : List (List Nat)} (ms : List ArgM) (bo : List Nat) (ln : Bool) (pl : Option (List Nat))
    (hev : st.ev f = .fn (.func g) first captured) (htake : takeP st pl = some (x, st0)) (huse : st0.useL (prep args ms) = some (As, st1)) (hnd : nodupB bo = true) (hbo : bo.all (fun i => decide (i < st1.h.length)) = true)
    (hq : (takeQ L pl && st0.useLQ L (prep args ms)) = true) (hW : watchIn bo L = L') (hargs : vwL st1.h bo ln first ++ (argsIn st st1 bo ln x args ms As ++ vwL st1.h bo ln captured) = args') (hin : heapIn st1.h bo x = h0)
    (H : ACalls P L' g args' h0 fun r h' => h0.length ≤ h'.length ∧ (ln = true → r.flat = true ∧ flatH h' = true) ∧ callOut L d bo h0.length x st1 K r h') : acall P L st d f args K := by
  refine acallM_of hev ms bo ln pl ?_
  unfold acallM
  rw [htake]
  simp only []
  rw [huse]
  simp only []
  refine ⟨hnd, hbo, hq, ?_⟩
  rw [hW, hargs, hin]
  exact H
end
attribute [go_sem] aCpy AState.cpyQ aMko aMkmp aMget aMput AState.mputQ cut_mp here_mp rootIs_mp aAppz AState.roomTo AVal.slQ AVal.isAgg gstep_undef arun_undef List.getElem?_drop List.drop_drop arun_hit arun_miss arun_nil gstep_none gstep_hit gstep_miss astep rop thenK BOp.dst AOp.dst look_cons look_nil upd_cons get_mk look2_some look2_none look2_nn ev_t ev_c ev_f evA_t evA_c evU_t evU_c evU_f evUIn_some evUIn settle_mk putT_mk kill_mk killL_cons killL_nil set_mk setIn_some setIn_none AState.assign cut_sc cut_agg cut_imm cut_own cut_sl cut_ptr cut_ia cut_fn cut_iface cut_tup cut_dead cut_at0 cut_at1 cut_addr0 cut_addr1 here_sc here_agg here_imm here_box here_own here_sl here_ptr here_ia here_fn here_iface here_tup here_at' here_addr' rootIs_sc rootIs_agg rootIs_imm rootIs_own rootIs_sl rootIs_ptr rootIs_ia rootIs_fn rootIs_iface rootIs_tup rootIs_dead rootIs_at0 rootIs_at1 rootIs_addr0 rootIs_addr1 AVal.copyable AVal.copyableL aAsg AState.use AState.isNil AState.blank nilTwo nilBin cond_true cond_false List.map List.getElem?_cons_zero List.getElem?_cons_succ cellsOf cellOf Option.some.injEq List.contains_cons List.contains_nil Bool.or_false Bool.or_true Bool.true_or Bool.false_or Bool.and_true Bool.true_and entry Option.getD_some Option.getD_none pack List.length_cons List.length_nil trun_done trun_take trun_one trun_two trun_three trun_many trun_many0 keepW marks rlab BOp.quiet at0 at1 subH_some subK_some sub_nil sub_own sub_agg sub_tup setK_some setSub_nil setSub_own setSub_agg setSub_tup setAt0 setAt1 setH_some AState.owned aSt AState.stQ AState.useQ AState.useLQ AState.appQ AVal.cells setCells_one AVal.cellOkL AVal.cellOk AVal.aggCopy AVal.under List.isPrefixOf AState.storeObj AVal.inObj nats_len ints_len nats_set ints_set AVal.int? intBin isShift boolBin List.filter_cons List.filter_nil List.flatMap_cons List.flatMap_nil List.all_cons List.all_nil clear Int.toNat_natCast Nat.mul_one Nat.add_one_le_iff Nat.zero_add Nat.add_zero true_and and_true List.length_map List.set_cons_zero List.set_cons_succ AState.useL List.append_nil List.nil_append List.cons_append List.singleton_append Bool.not_true Bool.not_false Bool.not_eq_true Bool.and_self Bool.or_self Bool.and_false Bool.false_and aMk aBld aBlds aApp aSlc aBox aAlloc aMkfn AState.bound AState.dec zipParts fillA List.drop_zero List.drop_succ_cons List.drop_nil List.take_succ_cons List.take_zero List.take_nil AState.lenOf AState.shareAt AVal.freeze AVal.freezeL AState.given AState.more AState.moreQ Option.map_some Option.map_none Int.natCast_nonneg beq_self_eq_true bne_self_eq_false List.getElem?_nil List.set_set arun_op quiet_nil' prep argsIn argV vwV vw1 vwL viewL vwOk heapIn watchIn nodupB idx takeP takeQ setO renH flatH numOut gone AVal.ren AVal.renL AVal.flat AVal.flatL AVal.ids0 AVal.ids0L AVal.plain AVal.plainL nats_plain nats_flat nats_cellOk nats_copyable nats_freeze nats_ids0 nats_ren ints_plain ints_flat ints_cellOk ints_copyable ints_freeze ints_ids0 ints_ren aRes pack ends_nil ends_nil' clear AState.forget List.headD_cons List.headD_nil List.tail_cons List.tail_nil Option.isNone_none Option.isNone_some Option.isSome_none Option.isSome_some AVal.isAlias List.isEmpty_nil List.isEmpty_cons
end Go.Ga

namespace Go.Ga
open Go
theorem mapM_keep {α β : Type} {f g : α → Option β} : ∀ {l : List α} {r : List β}, l.mapM f = some r → (∀ x ∈ l, ∀ y ∈ r, f x = some y → g x = some y) → l.mapM g = some r
 | [], r, h, _ => by simpa using h
 | x :: l, r, h, hk => by
   rw [List.mapM_cons] at h ⊢
   cases hx : f x with
   | none => rw [hx] at h; cases h
   | some y =>
     rw [hx] at h
     cases hr : l.mapM f with
     | none => rw [hr] at h; cases h
     | some r' =>
       rw [hr] at h
       cases h
       rw [hk x (.head _) y (.head _) hx]
       have := mapM_keep hr fun z hz w hw => hk z (.tail _ hz) w (.tail _ hw)
       rw [this]
       rfl
def Old (w w' : World) : Prop := ∀ b, b < w.heap.size → w'.heap[b]? = w.heap[b]?
section
variable {H : Type} {enc : TypeId × Value → H} {P : Program} {w w' : World}
theorem Old.cell (h : Old w w') {a : Addr} {v : Value} (hc : w.cell? a = some v) : w'.cell? a = some v := by
 have hb : a.block < w.heap.size := World.block_lt_of_cell? w _ hc
 unfold World.cell? at hc ⊢
 rw [h _ hb]
 exact hc
theorem Old.cells (h : Old w w') {base : Nat} {a : Addr} {n : Nat} {cs : List Value} (hc : w.cells? base a n = some cs) : w'.cells? base a n = some cs := by
 unfold World.cells? at hc ⊢
 split at hc
 · rename_i hb
   rw [if_pos hb]
   exact mapM_keep hc fun i _ v _ hv => h.cell hv
 · cases hc
def PlainAt (P : Program) (S : List TypeId) (t : TypeId) : Prop :=
 match P.underlying t with
 | some .bool => True
 | some (.int _) => True
 | some .string => True
 | some (.slice e) => 0 < P.cellsOf e ∧ e ∈ S
 | some (.struct fs) => ∀ f ∈ fs.toList, f.type ∈ S
 | _ => False
theorem trodStep_keep {S : List TypeId} (hO : Old w w') {sp : Nat → Bool} {r r' : TypeId → List Value → Option (DataW H × List MemPlace)} {t : TypeId} {cs : List Value} {x : DataW H × List MemPlace}
    (hS : PlainAt P S t) (hr : ∀ t cs y, t ∈ S → r t cs = some y → (∀ p ∈ y.2, sp p.block = true) → r' t cs = some y) (hsp : ∀ p ∈ x.2, sp p.block = true) (h : DataW.trodStep enc P w 0 (fun _ => true) true r t cs = some x) : DataW.trodStep enc P w' 0 sp true r' t cs = some x := by
  unfold DataW.trodStep at h ⊢
  split at h
  case h_1 => exact h
  case h_2 => exact h
  case h_3 => exact h
  case h_4 => exact h
  case h_5 => exact h
  case h_6 e a hu => unfold PlainAt at hS; rw [hu] at hS; exact hS.elim
  case h_7 => exact h
  case h_8 e a len cap hu =>
    unfold PlainAt at hS
    rw [hu] at hS
    obtain ⟨hc, heS⟩ := hS
    simp only at h ⊢
    split at h
    · rename_i hcond
      rw [if_pos hcond]
      simp only [if_true, Option.map_eq_some_iff, Option.bind_eq_some_iff] at h ⊢
      obtain ⟨elems, he, rest, hrest, rfl⟩ := h
      have hsub : ∀ y ∈ elems ++ rest, ∀ p ∈ y.2, sp p.block = true := fun y hy p hp => hsp p (List.mem_append_right _ (List.mem_flatMap.2 ⟨y, hy, hp⟩))
      have one : ∀ i y, y ∈ elems ++ rest → (w.cells? 0 (a.add (i * P.cellsOf e)) (P.cellsOf e)).bind (r e) = some y → (w'.cells? 0 (a.add (i * P.cellsOf e)) (P.cellsOf e)).bind (r' e) = some y := fun i y hm hy => by
        simp only [Option.bind_eq_some_iff] at hy ⊢
        obtain ⟨cs', hc, hy⟩ := hy
        exact ⟨cs', hO.cells hc, hr _ _ _ heS hy (hsub y hm)⟩
      refine ⟨elems, mapM_keep he fun i _ y hy h => one i y (List.mem_append_left _ hy) h, rest, ?_, rfl⟩
      split
      · exact mapM_keep hrest fun j _ y hy h => one (len + j) y (List.mem_append_right _ hy) h
      · rename_i hns
        have hrow : (elems.length + rest.length) * P.cellsOf e = 0 ∨ 0 < (elems.length + rest.length) * P.cellsOf e := Nat.eq_zero_or_pos _
        rcases hrow with h0 | h0
        · have hl : elems.length + rest.length = 0 := by
            rcases Nat.eq_zero_or_pos (elems.length + rest.length) with e0 | e0
            · exact e0
            · have := Nat.mul_pos e0 hc; omega
          have : rest = [] := List.eq_nil_of_length_eq_zero (by omega)
          rw [this]
        · exfalso
          refine hns (hsp (.cell a.block (a.off + 0)) (List.mem_append_left _ ?_))
          exact MemPlace.mem_row.2 ⟨0, h0, rfl⟩
    · cases h
  case h_9 fs hu =>
    unfold PlainAt at hS
    rw [hu] at hS
    split at h
    · rename_i hl
      rw [if_pos hl]
      simp only [Option.map_eq_some_iff] at h ⊢
      obtain ⟨xs, hx, rfl⟩ := h
      exact ⟨xs, mapM_keep hx fun f hf y hy h => hr _ _ _ (hS f hf) h fun p hp => hsp p (List.mem_flatMap.2 ⟨y, hy, hp⟩), rfl⟩
    · cases h
  case h_14 k e b hu => unfold PlainAt at hS; rw [hu] at hS; exact hS.elim
  case h_10 n e hu => unfold PlainAt at hS; rw [hu] at hS; exact hS.elim
  all_goals exact h
theorem trod_keep {S : List TypeId} (hS : ∀ t ∈ S, PlainAt P S t) (hO : Old w w') {sp : Nat → Bool} : ∀ (n : Nat) (t : TypeId) (cs : List Value) (x : DataW H × List MemPlace), t ∈ S → DataW.trod enc P w 0 (fun _ => true) true n t cs = some x → (∀ p ∈ x.2, sp p.block = true) → DataW.trod enc P w' 0 sp true n t cs = some x
 | 0, _, _, _, _, h, _ => by simp [DataW.trod] at h
 | n + 1, t, cs, x, ht, h, hsp => by
   rw [DataW.trod_step] at h ⊢
   exact trodStep_keep hO (hS t ht) (trod_keep hS hO n) hsp h
theorem trodAll_keep {S : List TypeId} (hS : ∀ t ∈ S, PlainAt P S t) (hO : Old w w') {sp : Nat → Bool} : ∀ {ts : List TypeId} {vs : List Value} {ds : List (DataW H)} {ps : List MemPlace}, (∀ t ∈ ts, t ∈ S) → DataW.TrodAll enc P w 0 (fun _ => true) true ts vs ds ps → (∀ p ∈ ps, sp p.block = true) → DataW.TrodAll enc P w' 0 sp true ts vs ds ps
 | [], [], [], ps, _, h, _ => h
 | t :: ts, v :: vs, d :: ds, ps, ht, ⟨p, q, ⟨fuel, h1⟩, h2, he⟩, hsp => by
   subst he
   exact ⟨p, q, ⟨fuel, trod_keep hS hO fuel t _ _ (ht t (.head _)) h1 fun x hx => hsp x (List.mem_append_left _ hx)⟩, trodAll_keep hS hO (fun t h => ht t (.tail _ h)) h2 fun x hx => hsp x (List.mem_append_right _ hx), rfl⟩
end
end Go.Ga

namespace Go.Ga
open Go
inductive Sh (P : Program) : TypeId → List AVal → Nat → Prop
 | bool (t : TypeId) (b : Bool) (hu : P.underlying t = some .bool) : Sh P t [.sc (.bool b)] 1
 | int (t : TypeId) (k : IntKind) (n : Int) (hu : P.underlying t = some (.int k)) (hw : (Lit.int k n).wf = true) : Sh P t [.sc (.int k n)] 1
 | string (t : TypeId) (s : ByteArray) (hu : P.underlying t = some .string) : Sh P t [.sc (.string s)] (s.size + 1)
 | slice (t e : TypeId) (L : List (List AVal × Nat)) (more : Nat) (hu : P.underlying t = some (.slice e)) (hl : ∀ x ∈ L, x.1.length = P.cellsOf e) (h : ∀ x ∈ L, Sh P e x.1 x.2) : Sh P t [.imm (P.cellsOf e) (L.map (·.1)).flatten] (1 + (L.map (·.2)).sum + more)
 | struct (t : TypeId) (fs : Array Field) (L : List (List AVal × Nat)) (hu : P.underlying t = some (.struct fs)) (hl : L.length = fs.size) (h : ∀ (i : Nat) f x, fs[i]? = some f → L[i]? = some x → Sh P f.type x.1 x.2) : Sh P t (L.map (·.1)).flatten (1 + (L.map (·.2)).sum)
 | other (t : TypeId) (n b : Nat) (h1 : ∀ k, P.underlying t ≠ some (.int k)) (h2 : P.underlying t ≠ some .bool) (h3 : P.underlying t ≠ some .string) (h4 : ∀ e, P.underlying t ≠ some (.slice e)) (h5 : ∀ fs, P.underlying t ≠ some (.struct fs)) : Sh P t (List.replicate n .dead) b
mutual
def bulk {H : Type} : DataW H → Nat
 | .lit (.string bytes) => bytes.length + 1
 | .lit _ => 1
 | .nil => 1
 | .ptr d => bulk d + 1
 | .slice elems spare => bulkL elems + bulkL spare + 1
 | .agg parts => bulkL parts + 1
 | .iface _ d => bulk d + 1
 | .map entries => bulkE entries + 1
 | .held _ => 1
def bulkL {H : Type} : List (DataW H) → Nat
 | [] => 0
 | d :: r => bulk d + bulkL r
def bulkE {H : Type} : List (Lit × DataW H) → Nat
 | [] => 0
 | x :: r => bulk1 x + bulkE r
def bulk1 {H : Type} : Lit × DataW H → Nat
 | (.string bytes, d) => bytes.length + bulk d + 1
 | (_, d) => bulk d + 1
end
def tiled (P : Program) : Nat → List Field → Option Nat
 | n, [] => some n
 | n, f :: fs => if f.offset = n then tiled P (n + P.cellsOf f.type) fs else none
def Env.plain (w : World) : Env := ⟨w, fun _ => none, fun _ => 0, fun _ => 0, fun _ => 0, 0⟩
theorem mapM_at {α β : Type} {f : α → Option β} : ∀ {l : List α} {r : List β}, l.mapM f = some r → r.length = l.length ∧ ∀ (i : Nat) x, l[i]? = some x → ∃ y, r[i]? = some y ∧ f x = some y
 | [], r, h => by simp at h; subst h; exact ⟨rfl, fun i x hx => by simp at hx⟩
 | a :: l, r, h => by
   rw [List.mapM_cons] at h
   cases hx : f a with
   | none => rw [hx] at h; cases h
   | some y =>
     rw [hx] at h
     cases hr : l.mapM f with
     | none => rw [hr] at h; cases h
     | some r' =>
       rw [hr] at h
       cases h
       obtain ⟨h1, h2⟩ := mapM_at hr
       refine ⟨by simp [h1], fun i x hi => ?_⟩
       cases i with
       | zero => simp at hi; subst hi; exact ⟨y, rfl, hx⟩
       | succ i => simpa using h2 i x (by simpa using hi)
theorem flatten_at {sz : Nat} (hsz : 0 < sz) : ∀ {L : List (List AVal)}, (∀ l ∈ L, l.length = sz) → L.flatten.length = L.length * sz ∧ ∀ (k : Nat) A, L.flatten[k]? = some A → ∃ l, L[k / sz]? = some l ∧ l[k % sz]? = some A
 | [], _ => ⟨by simp, fun k A h => by simp at h⟩
 | l :: L, hl => by
   obtain ⟨h1, h2⟩ := flatten_at hsz (L := L) fun x hx => hl x (.tail _ hx)
   have hl0 := hl l (.head _)
   refine ⟨by simp [h1, hl0, Nat.add_mul, Nat.add_comm], fun k A h => ?_⟩
   rw [List.flatten_cons, List.getElem?_append] at h
   split at h
   · rename_i hlt
     rw [hl0] at hlt
     rw [Nat.div_eq_of_lt hlt, Nat.mod_eq_of_lt hlt]
     exact ⟨l, rfl, h⟩
   · rename_i hge
     rw [hl0] at hge h
     obtain ⟨l', h3, h4⟩ := h2 _ A h
     have hk : k = (k - sz) + sz := by omega
     rw [hk, Nat.add_div_right _ hsz, Nat.add_mod_right]
     exact ⟨l', by simpa using h3, h4⟩
section
variable {H : Type} {enc : TypeId × Value → H} {P : Program} {w : World}
def Cells (w : World) (As : List AVal) (cs : List Value) : Prop := As.length = cs.length ∧ ∀ (k : Nat) A v, As[k]? = some A → cs[k]? = some v → VRel (Env.plain w) none A v
theorem cells_one' {A : AVal} {v : Value} (h : VRel (Env.plain w) none A v) : Cells w [A] [v] := ⟨rfl, fun k B u hB hu => by
 cases k with
 | zero => cases hB; cases hu; exact h
 | succ k => simp at hB⟩
theorem cells_dead (cs : List Value) : Cells w (List.replicate cs.length .dead) cs := ⟨by simp, fun k A v hA _ => by
 rw [List.getElem?_replicate] at hA
 split at hA
 · cases hA; exact .dead _ _
 · cases hA⟩
structure Plain (P : Program) (S : List TypeId) : Prop where
 at_ : ∀ t ∈ S, PlainAt P S t
 tile : ∀ t ∈ S, ∀ fs, P.underlying t = some (.struct fs) → tiled P 0 fs.toList = some (P.cellsOf t)
theorem bulkL_sum (l : List (DataW H)) : bulkL l = (l.map bulk).sum := by
 induction l with
 | nil => rfl
 | cons x l ih => simp [bulkL, ih]
theorem cells_fields {R : TypeId → List AVal → Nat → Prop} : ∀ (fs : List Field) (n m : Nat) (cs : List Value) (xs : List (DataW H × List MemPlace)), tiled P n fs = some m → m = cs.length → n ≤ cs.length →
    (∀ (i : Nat) f y, fs[i]? = some f → xs[i]? = some y → ∃ As, R f.type As (bulk y.1) ∧ Cells w As ((cs.drop f.offset).take (P.cellsOf f.type))) → xs.length = fs.length →
    ∃ L : List (List AVal × Nat), L.length = fs.length ∧ (∀ (i : Nat) f x, fs[i]? = some f → L[i]? = some x → R f.type x.1 x.2) ∧ (L.map (·.2)).sum = bulkL (xs.map (·.1)) ∧ Cells w (L.map (·.1)).flatten (cs.drop n)
  | [], n, m, cs, xs, ht, hm, _, _, hl => by
    cases ht
    have : xs = [] := List.eq_nil_of_length_eq_zero (by simpa using hl)
    subst this
    subst hm
    exact ⟨[], rfl, fun i f x h => by simp at h, rfl, by simp [Cells]⟩
  | f :: fs, n, m, cs, [], ht, hm, hn, h, hl => by simp at hl
  | f :: fs, n, m, cs, y :: xs, ht, hm, hn, h, hl => by
    simp only [tiled] at ht
    split at ht
    · rename_i ho
      obtain ⟨As, hR, hc⟩ := h 0 f y rfl rfl
      rw [ho] at hc
      have hle : n + P.cellsOf f.type ≤ cs.length := by
        have key : ∀ (fs : List Field) (a m : Nat), tiled P a fs = some m → a ≤ m := by
          intro fs
          induction fs with
          | nil => intro a m h; cases h; exact Nat.le_refl _
          | cons g gs ih =>
            intro a m h
            simp only [tiled] at h
            split at h
            · have := ih _ _ h; omega
            · cases h
        have := key _ _ _ ht
        omega
      obtain ⟨L, h1, h2, h3, h4⟩ := cells_fields fs (n + P.cellsOf f.type) m cs xs ht hm hle (fun i g z hg hz => h (i + 1) g z (by simpa using hg) (by simpa using hz)) (by simpa using hl)
      refine ⟨(As, bulk y.1) :: L, by simp [h1], fun i g x hg hx => ?_, by simp [bulkL, h3], ?_⟩
      · cases i with
        | zero => simp at hg hx; subst hg; subst hx; exact hR
        | succ i => exact h2 i g x (by simpa using hg) (by simpa using hx)
      · have hlen : ((cs.drop n).take (P.cellsOf f.type)).length = P.cellsOf f.type := by simp; omega
        have hA : As.length = P.cellsOf f.type := hc.1.trans hlen
        refine ⟨?_, fun k A v hA' hv => ?_⟩
        · have := h4.1
          simp only [List.map_cons, List.flatten_cons, List.length_append, List.length_drop] at this ⊢
          omega
        · simp only [List.map_cons, List.flatten_cons] at hA'
          rw [List.getElem?_append] at hA'
          split at hA'
          · rename_i hlt
            refine hc.2 k A v hA' ?_
            rw [List.getElem?_take_of_lt (by omega)]
            exact hv
          · rename_i hge
            refine h4.2 _ A v hA' ?_
            rw [List.getElem?_drop] at hv ⊢
            rw [← hv]
            congr 1
            omega
    · cases ht
theorem trod_cells {S : List TypeId} (hP : Plain P S) : ∀ (n : Nat) (t : TypeId) (cs : List Value) (x : DataW H × List MemPlace), t ∈ S → DataW.trod enc P w 0 (fun _ => true) true n t cs = some x → ∃ As, Sh P t As (bulk x.1) ∧ Cells w As cs
 | 0, _, _, _, _, h => by simp [DataW.trod] at h
 | n + 1, t, cs, x, ht, h => by
   have hS := hP.at_ t ht
   rw [DataW.trod_step] at h
   unfold DataW.trodStep at h
   have other : (∀ k, P.underlying t ≠ some (.int k)) → P.underlying t ≠ some .bool → P.underlying t ≠ some .string → (∀ e, P.underlying t ≠ some (.slice e)) → (∀ fs, P.underlying t ≠ some (.struct fs)) → ∃ As, Sh P t As (bulk x.1) ∧ Cells w As cs :=
    fun h1 h2 h3 h4 h5 => ⟨_, .other t cs.length _ h1 h2 h3 h4 h5, cells_dead cs⟩
   split at h
   case h_1 b hu => cases h; exact ⟨_, .bool t b hu, cells_one' (.sc _ _)⟩
   case h_2 k k' m hu =>
    split at h
    · rename_i hc
      obtain ⟨rfl, hw⟩ := hc
      cases h
      exact ⟨_, .int t _ m hu hw, cells_one' (.sc _ _)⟩
    · cases h
   case h_4 s hu =>
    split at h
    · cases h
      refine ⟨_, ?_, cells_one' (.sc _ _)⟩
      have e : bulk (DataW.lit (H := H) (.string s.data.toList)) = s.size + 1 := by
       simp only [bulk]
       rw [Array.length_toList]
       rfl
      show Sh P t _ (bulk (DataW.lit (H := H) (.string s.data.toList)))
      rw [e]
      exact .string t s hu
    · cases h
   case h_7 hu => 
    rename_i e
    cases h
    have := Sh.slice (P := P) t e [] 0 hu (fun x hx => by cases hx) (fun x hx => by cases hx)
    exact ⟨_, by simpa [bulk] using this, cells_one' (.immNil _ _ _)⟩
   case h_8 e a len cap hu =>
    simp only at h
    split at h
    · rename_i hcond
      obtain ⟨_, hlc, _⟩ := hcond
      unfold PlainAt at hS
      rw [hu] at hS
      obtain ⟨hsz, heS⟩ := hS
      simp only [if_true, Option.map_eq_some_iff, Option.bind_eq_some_iff] at h
      obtain ⟨elems, he, rest, hrest, rfl⟩ := h
      obtain ⟨e1, e2⟩ := mapM_at he
      obtain ⟨r1, r2⟩ := mapM_at hrest
      simp only [List.length_range] at e1 r1
      have one : ∀ i y, elems[i]? = some y → ∃ As, Sh P e As (bulk y.1) ∧ As.length = P.cellsOf e ∧ ∀ (k : Nat) A, As[k]? = some A → ∃ v, w.cell? ((a.add (i * P.cellsOf e)).add k) = some v ∧ VRel (Env.plain w) none A v := by
       intro i y hy
       have hi : i < len := by rw [← e1]; exact (List.getElem?_eq_some_iff.1 hy).1
       obtain ⟨y', hy', hr⟩ := e2 i i (by simp [hi])
       rw [hy] at hy'
       cases hy'
       simp only [Option.bind_eq_some_iff] at hr
       obtain ⟨cs', hc, hr⟩ := hr
       obtain ⟨_, hl', hcell⟩ := World.cells?_some hc
       obtain ⟨As, hS, hA⟩ := trod_cells hP n _ _ _ heS hr
       refine ⟨As, hS, hA.1.trans hl', fun k A hk => ?_⟩
       have hlt : k < cs'.length := by rw [← hA.1]; exact (List.getElem?_eq_some_iff.1 hk).1
       refine ⟨cs'[k], ?_, hA.2 k A _ hk (List.getElem?_eq_getElem hlt)⟩
       rw [hcell k (by omega)]
       exact List.getElem?_eq_getElem hlt
      have hL : ∃ L : List (List AVal × Nat), L.length = elems.length ∧ ∀ (i : Nat) z y, L[i]? = some z → elems[i]? = some y → Sh P e z.1 z.2 ∧ z.2 = bulk y.1 ∧ z.1.length = P.cellsOf e ∧ ∀ (k : Nat) A, z.1[k]? = some A → ∃ v, w.cell? ((a.add (i * P.cellsOf e)).add k) = some v ∧ VRel (Env.plain w) none A v := by
       have key : ∀ (l : List (DataW H × List MemPlace)) (o : Nat), (∀ i y, l[i]? = some y → elems[o + i]? = some y) → ∃ L : List (List AVal × Nat), L.length = l.length ∧ ∀ (i : Nat) z y, L[i]? = some z → l[i]? = some y → Sh P e z.1 z.2 ∧ z.2 = bulk y.1 ∧ z.1.length = P.cellsOf e ∧ ∀ (k : Nat) A, z.1[k]? = some A → ∃ v, w.cell? ((a.add ((o + i) * P.cellsOf e)).add k) = some v ∧ VRel (Env.plain w) none A v := by
        intro l
        induction l with
        | nil => intro o _; exact ⟨[], rfl, fun i z y h => by simp at h⟩
        | cons y0 l ih =>
          intro o hl
          obtain ⟨L, h1, h2⟩ := ih (o + 1) fun i y hy => by
           have := hl (i + 1) y (by simpa using hy)
           rwa [show o + (i + 1) = o + 1 + i by omega] at this
          obtain ⟨As, h3, h4, h5⟩ := one (o + 0) y0 (hl 0 y0 rfl)
          refine ⟨(As, bulk y0.1) :: L, by simp [h1], fun i z y hz hy => ?_⟩
          cases i with
          | zero => simp at hz hy; subst hz; subst hy; exact ⟨h3, rfl, h4, h5⟩
          | succ i =>
            have := h2 i z y (by simpa using hz) (by simpa using hy)
            rwa [show o + 1 + i = o + (i + 1) by omega] at this
       have := key elems 0 fun i y hy => by rw [Nat.zero_add]; exact hy
       simpa using this
      obtain ⟨L, hl1, hl2⟩ := hL
      have hget : ∀ z ∈ L, ∃ i y, L[i]? = some z ∧ elems[i]? = some y := fun z hz => by
       obtain ⟨i, hi⟩ := List.mem_iff_getElem?.1 hz
       have hlt : i < elems.length := by rw [← hl1]; exact (List.getElem?_eq_some_iff.1 hi).1
       exact ⟨i, _, hi, List.getElem?_eq_getElem hlt⟩
      have hlen : ∀ z ∈ L, z.1.length = P.cellsOf e := fun z hz => by
       obtain ⟨i, y, h1, h2⟩ := hget z hz
       exact (hl2 i z y h1 h2).2.2.1
      have hsum : (L.map (·.2)).sum = bulkL (elems.map (·.1)) := by
       rw [bulkL_sum]
       congr 1
       apply List.ext_getElem?
       intro i
       rw [List.getElem?_map, List.getElem?_map, List.getElem?_map]
       cases hz : L[i]? with
       | none =>
         have : elems[i]? = none := by rw [List.getElem?_eq_none_iff] at hz ⊢; omega
         rw [this]; rfl
       | some z =>
         have hlt : i < elems.length := by rw [← hl1]; exact (List.getElem?_eq_some_iff.1 hz).1
         have hy := List.getElem?_eq_getElem hlt
         rw [hy]
         simp [(hl2 i z _ hz hy).2.1]
      have hS := Sh.slice (P := P) t e L (bulkL (rest.map (·.1))) hu hlen (fun z hz => by
       obtain ⟨i, y, h1, h2⟩ := hget z hz
       exact (hl2 i z y h1 h2).1)
      rw [hsum] at hS
      refine ⟨_, ?_, cells_one' (A := .imm (P.cellsOf e) (L.map (·.1)).flatten) ?_⟩
      · simp only [bulk]
        rwa [show bulkL (elems.map (·.1)) + bulkL (rest.map (·.1)) + 1 = 1 + bulkL (elems.map (·.1)) + bulkL (rest.map (·.1)) by omega]
      · by_cases h0 : cap = 0
        · have : L = [] := List.eq_nil_of_length_eq_zero (by omega)
          subst this
          have hl0 : len = 0 := by omega
          subst hl0 h0
          exact .immNil _ _ _
        · 
          have hfirst : ∃ v, w.cell? a = some v := by
           have hz : ∃ y cs', w.cells? 0 (a.add (0 * P.cellsOf e)) (P.cellsOf e) = some cs' ∧ DataW.trod enc P w 0 (fun _ => true) true n e cs' = some y := by
            by_cases hlen0 : len = 0
            · subst hlen0
              obtain ⟨y, _, hr⟩ := r2 0 0 (by rw [List.getElem?_range (by omega)])
              simp only [Option.bind_eq_some_iff] at hr
              obtain ⟨cs', hc, hr⟩ := hr
              exact ⟨y, cs', hc, hr⟩
            · obtain ⟨y, _, hr⟩ := e2 0 0 (by rw [List.getElem?_range (by omega)])
              simp only [Option.bind_eq_some_iff] at hr
              obtain ⟨cs', hc, hr⟩ := hr
              exact ⟨y, cs', hc, hr⟩
           obtain ⟨y, cs', hc, _⟩ := hz
           obtain ⟨_, hl', hcell⟩ := World.cells?_some hc
           have hlt : 0 < cs'.length := by omega
           refine ⟨cs'[0], ?_⟩
           have := hcell 0 hsz
           rw [List.getElem?_eq_getElem hlt] at this
           simpa [Addr.add] using this
          obtain ⟨v0, hv0⟩ := hfirst
          obtain ⟨b, o, sp⟩ := a
          have hspn : sp = none := by
           cases sp with
           | none => rfl
           | some s =>
             simp only [World.cell?] at hv0
             split at hv0
             · simp at hv0
             · cases hv0
          subst hspn
          have hb : b < w.heap.size := World.block_lt_of_cell? w _ hv0
          obtain ⟨f1, f2⟩ := flatten_at hsz (L := L.map (·.1)) (fun l hl => by
           obtain ⟨z, hz, rfl⟩ := List.mem_map.1 hl
           exact hlen z hz)
          have hcell : ∀ (k : Nat) A, ((L.map (·.1)).flatten)[k]? = some A → ∃ v, w.cell? ⟨b, o + k, none⟩ = some v ∧ VRel (Env.plain w) none A v := fun k A hk => by
           obtain ⟨l, h1, h2⟩ := f2 k A hk
           rw [List.getElem?_map] at h1
           obtain ⟨z, hz, rfl⟩ := Option.map_eq_some_iff.1 h1
           have hlt : k / P.cellsOf e < elems.length := by rw [← hl1]; exact (List.getElem?_eq_some_iff.1 hz).1
           obtain ⟨v, h3, h4⟩ := (hl2 _ z _ hz (List.getElem?_eq_getElem hlt)).2.2.2 _ A h2
           refine ⟨v, ?_, h4⟩
           rw [Addr.add_lit, Addr.add_lit] at h3
           have hk' : o + k / P.cellsOf e * P.cellsOf e + k % P.cellsOf e = o + k := by rw [Nat.add_assoc, Nat.mul_comm]; congr 1; exact Nat.div_add_mod k _
           rwa [hk'] at h3
          refine .imm none _ _ b o len cap (fun k => (w.cell? ⟨b, o + k, none⟩).getD undef) rfl hb ⟨hsz, by rw [f1]; simp [hl1, e1]⟩ hlc (fun k A hk => ?_) fun k A hk => ?_
          · obtain ⟨v, h1, _⟩ := hcell k A hk
            show w.cell? _ = some ((w.cell? _).getD undef)
            rw [h1]; rfl
          · obtain ⟨v, h1, h2⟩ := hcell k A hk
            show VRel _ none A ((w.cell? _).getD undef)
            rw [h1]; exact h2
    · cases h
   case h_9 fs hu =>
    split at h
    · rename_i hl
      simp only [Option.map_eq_some_iff] at h
      obtain ⟨xs, hx, rfl⟩ := h
      obtain ⟨e1, e2⟩ := mapM_at hx
      obtain ⟨L, h1, h2, h3, h4⟩ := cells_fields (R := Sh P) fs.toList 0 _ _ xs (hP.tile t ht fs hu) hl.symm (Nat.zero_le _) (fun i f y hf hy => by
       obtain ⟨y', hy', hr⟩ := e2 i f hf
       rw [hy] at hy'
       cases hy'
       exact trod_cells hP n _ _ _ (by unfold PlainAt at hS; rw [hu] at hS; exact hS f (List.mem_of_getElem? hf)) hr) e1
      refine ⟨(L.map (·.1)).flatten, ?_, by simpa using h4⟩
      have := Sh.struct (P := P) t fs L hu (by simpa using h1) (fun i f x hf hx => h2 i f x (by simpa using hf) hx)
      rw [h3] at this
      simp only [bulk]
      rwa [Nat.add_comm]
    · cases h
   all_goals first
    | cases h; done
    | exact other (by simp [*]) (by simp [*]) (by simp [*]) (by simp [*]) (by simp [*])
end
end Go.Ga

namespace Go.Ga
open Go Go.ChangeShapes Go.WideShapes Go.RowKit
def plainB (P : Program) (S : List TypeId) : Bool :=
 S.all fun t => match P.underlying t with
  | some .bool => true
  | some (.int _) => true
  | some .string => true
  | some (.slice e) => decide (0 < P.cellsOf e) && S.contains e
  | some (.struct fs) => fs.toList.all (fun f => S.contains f.type) && (tiled P 0 fs.toList == some (P.cellsOf t))
  | _ => false
theorem plain_of {P : Program} {S : List TypeId} (h : plainB P S = true) : Plain P S := by
 refine ⟨fun t ht => ?_, fun t ht fs hu => ?_⟩
 · have := List.all_eq_true.1 h t ht
   unfold PlainAt
   cases hu : P.underlying t with
   | none => rw [hu] at this; cases this
   | some d =>
     rw [hu] at this
     cases d with
     | bool => trivial
     | int k => trivial
     | string => trivial
     | slice e =>
       simp only [Bool.and_eq_true, decide_eq_true_eq, List.contains_iff_mem] at this
       exact this
     | struct fs =>
       simp only [Bool.and_eq_true, List.all_eq_true, List.contains_iff_mem] at this
       exact this.1
     | _ => cases this
 · have := List.all_eq_true.1 h t ht
   rw [hu] at this
   simp only [Bool.and_eq_true, beq_iff_eq] at this
   exact this.2
section
variable {H : Type} {enc : TypeId × Value → H} {P : Program}
theorem kept_old {W W' : World} (hO : Old W W') (hos : W'.os = W.os) (hout : W'.output = W.output) (may : MemPlace → Prop) : W.keptBut W' may := by
 refine ⟨hos, hout, fun i hi => ?_⟩
 rw [hO i hi]
 cases W.heap[i]? with
 | none => rfl
 | some o => cases o with
   | cells c t fr => exact ⟨rfl, rfl, rfl, fun _ _ => rfl⟩
   | map es clock => exact .inr ⟨rfl, rfl⟩
   | _ => rfl
theorem trodVars_nil {w : World} {sp : Nat → Bool} {gs : List (DataW H)} {ps : List MemPlace} (h : DataW.TrodVars enc P w sp [] gs ps) : gs = [] ∧ ps = [] := by
 cases gs with
 | nil => exact ⟨rfl, h⟩
 | cons => cases h
theorem post_true {S : List TypeId} (hS : ∀ t ∈ S, PlainAt P S t) {f : Func} {s : ChangeSpec} {W W' : World} {args : Array Value} {ds gs : List (DataW H)} {before : List MemPlace} (hW : DataW.Whole enc P f.params.toList s.vars false W args.toList ds gs before)
    (hts : ∀ t ∈ f.params.toList, t ∈ S) (hv : s.vars = []) (hres : (s.fn H (ds ++ gs)).results = [.lit (.bool true)]) (harg : (s.fn H (ds ++ gs)).args = ds) (hvr : (s.fn H (ds ++ gs)).vars = []) {tb : TypeId} (hrt : f.resultTypes = #[tb]) (hb : P.underlying tb = some .bool) (hO : Old W W') (hos : W'.os = W.os) (hout : W'.output = W.output) :
    s.post enc P f false true false false W args (.bool true) W' := by
  have hW' := hW
  obtain ⟨p, q, hA, hV, hpq, hz, hn⟩ := hW
  rw [hv] at hV
  obtain ⟨rfl, rfl⟩ := trodVars_nil hV
  rw [List.append_nil] at hpq
  subst hpq
  have hres' : ∀ (b : Nat) (sp : Nat → Bool) (hd : Bool), DataW.TrodAll enc P W' b sp hd f.resultTypes.toList ((Value.bool true).resultList f.resultTypes.size) (s.fn H (ds ++ [])).results [] := fun b sp hd => by
    rw [hres, hrt]
    exact ⟨[], [], ⟨1, by simp [DataW.trod, hb, Value.cells]⟩, rfl, rfl⟩
  refine ⟨ds, [], before, [], before, [], hW', hres' _ _ _, ?_, ?_, kept_old hO hos hout _, fun h => by cases h⟩
  · rw [harg]
    exact trodAll_keep hS hO hts hA fun x hx => by simpa using hW'.lt x hx
  · rw [hvr, hv]; rfl
def SA (P : Program) (t : TypeId) (A : AVal) (b : Nat) : Prop :=
 ((∃ fs, P.underlying t = some (.struct fs)) ∧ ∃ As, A = .agg As ∧ Sh P t As b) ∨ ((∀ fs, P.underlying t ≠ some (.struct fs)) ∧ Sh P t [A] b)
inductive SAs (P : Program) : List TypeId → List AVal → Nat → Prop
 | nil : SAs P [] [] 0
 | cons (t : TypeId) (A : AVal) (b : Nat) (ts : List TypeId) (As : List AVal) (c : Nat) (h : SA P t A b) (hr : SAs P ts As c) : SAs P (t :: ts) (A :: As) (b + c)
theorem trod_value {S : List TypeId} (hP : Plain P S) {w : World} {base : Nat} {t : TypeId} {v : Value} {d : DataW H} {ps : List MemPlace} (hok : Value.okWide P w .any base t v) (ht : t ∈ S) (h : DataW.Trod enc P w 0 (fun _ => true) true t v d ps) :
    ∃ A, SA P t A (bulk d) ∧ VRel (Env.plain w) none A v := by
  obtain ⟨fuel, h⟩ := h
  obtain ⟨As, hS, hl, hc⟩ := trod_cells hP fuel t _ _ ht h
  have hna : ∀ n e, P.underlying t ≠ some (.array n e) := fun n e hu => by
    have := hP.at_ t ht
    unfold PlainAt at this
    rw [hu] at this
    exact this
  by_cases hs : ∃ fs, P.underlying t = some (.struct fs)
  · obtain ⟨fs, hs⟩ := hs
    unfold Value.okWide at hok
    rw [hs] at hok
    obtain ⟨cs, rfl, _, _⟩ := hok
    refine ⟨.agg As, .inl ⟨⟨fs, hs⟩, As, rfl, hS⟩, .agg none As cs (by simpa [Value.cells] using hl.symm) fun k A v hA hv => hc k A v hA (by simpa [Value.cells] using hv)⟩
  · have hns : ∀ fs, P.underlying t ≠ some (.struct fs) := fun fs e => hs ⟨fs, e⟩
    have hv : v.cells = #[v] := by
      cases v with
      | agg cs =>
        exfalso
        unfold Value.okWide at hok
        cases hu : P.underlying t with
        | none =>
          rw [hu] at hok
          simp [Cell.okWide, Cell.ok, hu] at hok
        | some dsc =>
          rw [hu] at hok
          cases dsc with
          | struct fs => exact hns fs hu
          | array n e => exact hna n e hu
          | _ => simp [Cell.okWide, Cell.ok, hu] at hok
      | _ => rfl
    rw [hv] at hl hc
    have : ∃ A, As = [A] := by
      match As, hl with
      | [A], _ => exact ⟨A, rfl⟩
    obtain ⟨A, rfl⟩ := this
    exact ⟨A, .inr ⟨hns, hS⟩, hc 0 A v rfl rfl⟩
theorem trodAll_values {S : List TypeId} (hP : Plain P S) {w : World} {base : Nat} : ∀ {ts : List TypeId} {vs : List Value} {ds : List (DataW H)} {ps : List MemPlace}, (∀ (j : Nat) t v, ts[j]? = some t → vs[j]? = some v → Value.okWide P w .any base t v) → (∀ t ∈ ts, t ∈ S) →
    DataW.TrodAll enc P w 0 (fun _ => true) true ts vs ds ps → ∃ As, SAs P ts As (bulkL ds) ∧ As.length = vs.length ∧ ∀ (k : Nat) A v, As[k]? = some A → vs[k]? = some v → VRel (Env.plain w) none A v
  | [], [], [], ps, _, _, _ => ⟨[], .nil, rfl, fun k A v h => by simp at h⟩
  | t :: ts, v :: vs, d :: ds, ps, hok, hna, ⟨p, q, h1, h2, _⟩ => by
    obtain ⟨A, hA, hv⟩ := trod_value hP (hok 0 t v rfl rfl) (hna t (.head _)) h1
    obtain ⟨As, hAs, hl, hvs⟩ := trodAll_values hP (fun j t' v' ht hv' => hok (j + 1) t' v' (by simpa using ht) (by simpa using hv')) (fun t ht => hna t (.tail _ ht)) h2
    refine ⟨A :: As, .cons t A _ ts As _ hA hAs, by simp [hl], fun k B u hB hu => ?_⟩
    cases k with
    | zero => simp at hB hu; subst hB; subst hu; exact hv
    | succ k => exact hvs k B u (by simpa using hB) (by simpa using hu)
theorem contract_true {S : List TypeId} (hP : Plain P S) {f : Nat} {fn : Func} {s : ChangeSpec} {B : Nat} {W : World} {base : Nat} {args : Array Value} {ds gs : List (DataW H)} {before : List MemPlace}
    (hval : ∀ (j : Nat) t v, fn.params[j]? = some t → args[j]? = some v → Value.okWide P W .any base t v) (hna : ∀ t ∈ fn.params.toList, t ∈ S)
    (hW : DataW.Whole enc P fn.params.toList s.vars false W args.toList ds gs before) (hv : s.vars = []) (hres : (s.fn H (ds ++ gs)).results = [.lit (.bool true)]) (harg : (s.fn H (ds ++ gs)).args = ds) (hvr : (s.fn H (ds ++ gs)).vars = [])
    {tb : TypeId} (hrt : fn.resultTypes = #[tb]) (hb : P.underlying tb = some .bool) (hbk : bulkL (ds ++ gs) ≤ B)
    (H0 : ∀ As b, SAs P fn.params.toList As b → b ≤ B → ACalls P [] f As [] fun r _ => r = .sc (.bool true)) :
    Calls P f args W fun e W' => ∃ v, e = .returned v ∧ s.post enc P fn false true false false W args v W' := by
  have hW' := hW
  obtain ⟨p, q, hA, hV, hpq, hz, hn⟩ := hW
  rw [hv] at hV
  obtain ⟨rfl, rfl⟩ := trodVars_nil hV
  obtain ⟨As, hAs, hl, hvs⟩ := trodAll_values hP (fun j t v ht hv' => hval j t v (by simpa using ht) (by simpa using hv')) hna hA
  rw [List.append_nil] at hbk
  have hC := (H0 As _ hAs hbk).2 (Env.plain W) args ⟨rfl, fun b q h => (by cases h), fun id cs h => (by simp at h)⟩ (by simpa using hl.symm) fun k A v hA' hv' => (hvs k A v hA' (by simpa using hv')).any rfl _
  refine hC.mono fun e W' ⟨v, r, h', E', he, hw, _, hr, hp, hq⟩ => ?_
  subst he hw hq
  cases hr
  refine ⟨_, rfl, post_true hP.at_ hW' hna hv hres harg hvr hrt hb (fun b hlt => (hp.old b rfl hlt).2) hp.os hp.output⟩
end
end Go.Ga

namespace Go.Ga
open Go
def keepN (n : Nat) (j : Nat) : Option Nat := if j < n then some j else none
def trimO (n : Nat) (O : Nat → Option (List Nat)) (b : Nat) : Option (List Nat) :=
 match O b with
 | some (1 :: j :: r) => if j < n then some (1 :: j :: r) else none
 | x => x
def Env.trim (E : Env) (n : Nat) : Env := { E with O := trimO n E.O, n := n }
theorem ACalls.trim {P : Program} {L : List (List Nat)} {f : Nat} {args : List AVal} {h : Heap} {Q : AVal → Heap → Prop} (H : ACalls P L f args h fun r h' => h.length ≤ h'.length ∧ Q (r.ren (keepN h.length)) (renH (keepN h.length) (h'.take h.length))) : ACalls P L f args h Q := by
 refine ⟨H.1, fun E vs h1 h2 h3 => (H.2 E vs h1 h2 h3).mono fun e w' ⟨v, r, h', E', he, hw, HR, hr, hP, hle, hQ⟩ => ?_⟩
 have hg : RenOk E' (E'.trim h.length) (keepN h.length) := fun id j hj hid => by
  unfold keepN at hj
  split at hj
  · cases hj; rename_i hlt; exact ⟨hlt, rfl, rfl, rfl⟩
  · cases hj
 have hN : ∀ b, E'.O b = none → b < E'.w.heap.size → (E'.trim h.length).O b = none ∧ (E'.trim h.length).w.heap[b]? = E'.w.heap[b]? := fun b hb _ => ⟨by show trimO _ _ b = none; simp [trimO, hb], rfl⟩
 have h3' : ∀ b s, E'.O b = some ([3] ++ s) → (E'.trim h.length).O b = some ([3] ++ s) := fun b s hb => by show trimO _ _ b = _; simp [trimO, hb]
 have h1' : ∀ id b s, id < h.length → E'.O b = some ([1, id] ++ s) → (E'.trim h.length).O b = some ([1, id] ++ s) := fun id b s hid hb => by show trimO _ _ b = _; simp [trimO, hb, hid]
 refine ⟨v, _, _, E'.trim h.length, he, hw, ?_, ?_, ?_, hQ⟩
 · refine ⟨?_, fun b q hb => ?_, fun id cs hcs => ?_⟩
   · show h.length = (renH _ _).length
     rw [renH_len, List.length_take]; omega
   · have hb' : trimO h.length E'.O b = some q := hb
     cases hO : E'.O b with
     | none => simp [trimO, hO] at hb'
     | some ℓ => exact HR.lim b ℓ hO
   · obtain ⟨cs0, h0, rfl⟩ := renH_get _ _ _ hcs
     rw [List.getElem?_take] at h0
     split at h0
     · rename_i hid
       obtain ⟨hO, arr, T, f, hb, ha, hl, hf, hv⟩ := HR.objs id cs0 h0
       refine ⟨(h1' id _ [] hid (by simpa using hO) : (E'.trim h.length).O (E'.ρ id) = some ([1, id] ++ [])), arr, T, f, hb, ha, by rw [renL_length]; exact hl, fun k A hk => ?_, fun k A hk => ?_⟩
       · obtain ⟨B, hB, _⟩ := renL_some hk
         exact hf k B hB
       · obtain ⟨B, hB, rfl⟩ := renL_some hk
         exact (hv k B hB).renK hg (Nat.le_refl _) hN (fun b s hb => ⟨h1' id b s hid hb, rfl⟩)
     · cases h0
 · have := VRel.renK (p := [3]) (q := [3]) (r := []) hg (Nat.le_refl _) hN (fun b s hb => ⟨h3' b s hb, rfl⟩) (by simpa using hr)
   simpa using this
 · refine ⟨hP.size, hP.os, hP.tape, hP.output, fun b hb hs => ?_, fun b r hb => ?_, fun b r hb => ?_, ⟨by rw [h1.num]; exact Nat.le_refl _, hP.ids.2⟩, fun b r hr hb hs => ?_⟩
   · obtain ⟨x1, x2⟩ := hP.old b hb hs
     exact ⟨by show trimO _ _ b = none; simp [trimO, x1], x2⟩
   · obtain ⟨x1, x2⟩ := hP.far b r hb
     exact ⟨by show trimO _ _ b = _; simp [trimO, x1], x2⟩
   · refine hP.farB b r ?_
     have hb' : trimO h.length E'.O b = some (2 :: r) := hb
     unfold trimO at hb'
     split at hb'
     · split at hb' <;> cases hb'
     · exact hb'
   · obtain ⟨x1, x2⟩ := hP.keep b r hr hb hs
     refine ⟨?_, x2⟩
     rcases x1 with x1 | x1
     · show trimO _ _ b = _ ∨ trimO _ _ b = _
       unfold trimO
       rw [x1]
       split
       · rename_i heq; cases heq; split
         · exact .inl rfl
         · exact .inr rfl
       · exact .inl rfl
     · right; show trimO _ _ b = none; simp [trimO, x1]
theorem ACalls.less {P : Program} {L L' : List (List Nat)} {f : Nat} {args : List AVal} {h : Heap} {Q : AVal → Heap → Prop} (H : ACalls P L f args h Q) (hL : ∀ r ∈ L', r ∈ L) : ACalls P L' f args h Q :=
 ⟨H.1, fun E vs h1 h2 h3 => (H.2 E vs h1 h2 h3).mono fun _ _ ⟨v, r, h', E', a, b, c, d, e, q⟩ => ⟨v, r, h', E', a, b, c, d, ⟨e.size, e.os, e.tape, e.output, e.old, e.far, e.farB, e.ids, fun b r hr => e.keep b r ⟨hL r hr.1, hr.2⟩⟩, q⟩⟩
theorem ACalls.nil {P : Program} {L : List (List Nat)} {f : Nat} {args : List AVal} {h : Heap} {Q : AVal → Heap → Prop} (H : ACalls P L f args h Q) : ACalls P [] f args h Q := H.less fun r hr => by cases hr
attribute [go_sem] keepN
end Go.Ga

namespace Go.Ga
open Go
def packs {α : Type} (f : α → List AVal) : List α → List AVal
 | [] => []
 | x :: l => f x ++ packs f l
section
variable {α : Type} {f : α → List AVal} {sz : Nat}
theorem packs_len (hf : ∀ x, (f x).length = sz) : ∀ l : List α, (packs f l).length = l.length * sz
 | [] => by simp [packs]
 | x :: l => by simp only [packs, List.length_append, hf, packs_len hf l, List.length_cons, Nat.add_mul]; omega
theorem packs_append : ∀ l m : List α, packs f (l ++ m) = packs f l ++ packs f m
 | [], m => rfl
 | x :: l, m => by simp only [List.cons_append, packs, packs_append l m, List.append_assoc]
theorem packs_drop (hf : ∀ x, (f x).length = sz) : ∀ (l : List α) (k : Nat), (packs f l).drop (k * sz) = packs f (l.drop k)
 | [], k => by simp [packs]
 | x :: l, 0 => by simp
 | x :: l, k + 1 => by
   simp only [packs, List.drop_succ_cons]
   rw [← packs_drop hf l k, Nat.add_mul, Nat.one_mul, List.drop_append, hf]
   rw [List.drop_of_length_le (by rw [hf]; omega), List.nil_append]
   congr 1; omega
theorem packs_take (hf : ∀ x, (f x).length = sz) : ∀ (l : List α) (k : Nat), (packs f l).take (k * sz) = packs f (l.take k)
 | [], k => by simp [packs]
 | x :: l, 0 => by simp [packs]
 | x :: l, k + 1 => by
   simp only [packs, List.take_succ_cons]
   rw [← packs_take hf l k, Nat.add_mul, Nat.one_mul, List.take_append, hf]
   rw [List.take_of_length_le (by rw [hf]; omega)]
   congr 2; omega
theorem packs_get (hf : ∀ x, (f x).length = sz) {l : List α} {k : Nat} {x : α} (h : l[k]? = some x) (r : Nat) (hr : r < sz) : (packs f l)[k * sz + r]? = (f x)[r]? := by
 rw [← List.getElem?_drop, packs_drop hf]
 have hlt : k < l.length := (List.getElem?_eq_some_iff.1 h).1
 rw [List.drop_eq_getElem_cons hlt]
 have hx : l[k] = x := by rw [List.getElem?_eq_getElem hlt] at h; exact Option.some.inj h
 rw [hx]
 simp only [packs]
 rw [List.getElem?_append_left (by rw [hf]; exact hr)]
theorem packs_cells (hf : ∀ x, (f x).length = sz) {l : List α} {k : Nat} {x : α} (h : l[k]? = some x) : ((packs f l).drop (k * sz)).take sz = f x := by
 rw [packs_drop hf]
 have hlt : k < l.length := (List.getElem?_eq_some_iff.1 h).1
 rw [List.drop_eq_getElem_cons hlt]
 have hx : l[k] = x := by rw [List.getElem?_eq_getElem hlt] at h; exact Option.some.inj h
 rw [hx]
 simp only [packs]
 rw [List.take_append_of_le_length (by rw [hf]; exact Nat.le_refl _), List.take_of_length_le (by rw [hf]; exact Nat.le_refl _)]
theorem packs_set (hf : ∀ x, (f x).length = sz) {l : List α} {k : Nat} (h : k < l.length) (x : α) : (packs f l).take (k * sz) ++ f x ++ (packs f l).drop (k * sz + sz) = packs f (l.set k x) := by
 have e : k * sz + sz = (k + 1) * sz := by rw [Nat.add_mul, Nat.one_mul]
 rw [e, packs_drop hf, packs_take hf, List.set_eq_take_append_cons_drop, if_pos h, packs_append]
 simp only [packs, List.append_assoc]
theorem packs_plain (h : ∀ x, AVal.plainL (f x) = true) : ∀ l : List α, AVal.plainL (packs f l) = true
 | [] => rfl
 | x :: l => by
   have app : ∀ a b : List AVal, AVal.plainL a = true → AVal.plainL b = true → AVal.plainL (a ++ b) = true := fun a b ha hb => by
    induction a with
    | nil => exact hb
    | cons y a ih => simp only [AVal.plainL, Bool.and_eq_true] at ha; simp only [List.cons_append, AVal.plainL, ha.1, ih ha.2, Bool.and_self]
   exact app _ _ (h x) (packs_plain h l)
theorem packs_flat (h : ∀ x, AVal.flatL (f x) = true) : ∀ l : List α, AVal.flatL (packs f l) = true
 | [] => rfl
 | x :: l => by
   have app : ∀ a b : List AVal, AVal.flatL a = true → AVal.flatL b = true → AVal.flatL (a ++ b) = true := fun a b ha hb => by
    induction a with
    | nil => exact hb
    | cons y a ih => simp only [AVal.flatL, Bool.and_eq_true] at ha; simp only [List.cons_append, AVal.flatL, ha.1, ih ha.2, Bool.and_self]
   exact app _ _ (h x) (packs_flat h l)
theorem packs_cellOk (h : ∀ x, AVal.cellOkL (f x) = true) : ∀ l : List α, AVal.cellOkL (packs f l) = true
 | [] => rfl
 | x :: l => by
   have app : ∀ a b : List AVal, AVal.cellOkL a = true → AVal.cellOkL b = true → AVal.cellOkL (a ++ b) = true := fun a b ha hb => by
    induction a with
    | nil => exact hb
    | cons y a ih => simp only [AVal.cellOkL, Bool.and_eq_true] at ha; simp only [List.cons_append, AVal.cellOkL, ha.1, ih ha.2, Bool.and_self]
   exact app _ _ (h x) (packs_cellOk h l)
end
def two (x : Int × Int) : List AVal := [.sc (.int .i64 x.1), .sc (.int .i64 x.2)]
theorem two_len (x : Int × Int) : (two x).length = 2 := rfl
def tri (x : Int × Int × Int) : List AVal := [.sc (.int .i64 x.1), .sc (.int .i64 x.2.1), .sc (.int .i64 x.2.2)]
theorem tri_len (x : Int × Int × Int) : (tri x).length = 3 := rfl
abbrev twos (l : List (Int × Int)) : List AVal := packs two l
abbrev tris (l : List (Int × Int × Int)) : List AVal := packs tri l
theorem twos_len (l : List (Int × Int)) : (twos l).length = l.length * 2 := packs_len two_len l
theorem tris_len (l : List (Int × Int × Int)) : (tris l).length = l.length * 3 := packs_len tri_len l
theorem twos_plain (l : List (Int × Int)) : AVal.plainL (twos l) = true := packs_plain (fun _ => rfl) l
theorem tris_plain (l : List (Int × Int × Int)) : AVal.plainL (tris l) = true := packs_plain (fun _ => rfl) l
theorem twos_flat (l : List (Int × Int)) : AVal.flatL (twos l) = true := packs_flat (fun _ => rfl) l
theorem tris_flat (l : List (Int × Int × Int)) : AVal.flatL (tris l) = true := packs_flat (fun _ => rfl) l
theorem twos_cellOk (l : List (Int × Int)) : AVal.cellOkL (twos l) = true := packs_cellOk (fun _ => rfl) l
theorem tris_cellOk (l : List (Int × Int × Int)) : AVal.cellOkL (tris l) = true := packs_cellOk (fun _ => rfl) l
theorem twos_copyable (l : List (Int × Int)) : AVal.copyableL (twos l) = true := plain_copyableL _ (twos_plain l)
theorem tris_copyable (l : List (Int × Int × Int)) : AVal.copyableL (tris l) = true := plain_copyableL _ (tris_plain l)
theorem twos_freeze (l : List (Int × Int)) : AVal.freezeL (twos l) = twos l := copyable_freezeL _ (twos_copyable l)
theorem tris_freeze (l : List (Int × Int × Int)) : AVal.freezeL (tris l) = tris l := copyable_freezeL _ (tris_copyable l)
theorem twos_ids0 (l : List (Int × Int)) : AVal.ids0L (twos l) = true := plain_ids0L _ (twos_plain l)
theorem tris_ids0 (l : List (Int × Int × Int)) : AVal.ids0L (tris l) = true := plain_ids0L _ (tris_plain l)
theorem twos_ren (g : Nat → Option Nat) (l : List (Int × Int)) : AVal.renL g (twos l) = twos l := ids0_renL g _ (twos_ids0 l)
theorem tris_ren (g : Nat → Option Nat) (l : List (Int × Int × Int)) : AVal.renL g (tris l) = tris l := ids0_renL g _ (tris_ids0 l)
theorem two_get0 {l : List (Int × Int)} {k : Nat} {x : Int × Int} (h : l[k]? = some x) : (twos l)[k * 2]? = some (.sc (.int .i64 x.1)) := packs_get two_len h 0 (by decide)
theorem two_get1 {l : List (Int × Int)} {k : Nat} {x : Int × Int} (h : l[k]? = some x) : (twos l)[k * 2 + 1]? = some (.sc (.int .i64 x.2)) := packs_get two_len h 1 (by decide)
theorem two_cells {l : List (Int × Int)} {k : Nat} {x : Int × Int} (h : l[k]? = some x) : ((twos l).drop (k * 2)).take 2 = [.sc (.int .i64 x.1), .sc (.int .i64 x.2)] := packs_cells two_len h
theorem two_set {l : List (Int × Int)} {k : Nat} (h : k < l.length) (a b : Int) : setCells (twos l) (k * 2) [.sc (.int .i64 a), .sc (.int .i64 b)] = twos (l.set k (a, b)) := packs_set two_len h (a, b)
attribute [go_sem] twos_len tris_len twos_plain tris_plain twos_flat tris_flat twos_cellOk tris_cellOk twos_copyable tris_copyable twos_freeze tris_freeze twos_ids0 tris_ids0 twos_ren tris_ren
end Go.Ga

namespace Go.Ga
open Go
section
variable {P : Program} {rs : List Nat} {N : Nat} {V : List Nat} {L : List (List Nat)} {x : ACode} {K : AExit → AState → Prop} {st : AState}
theorem sem_nil (p : List Nat) (sz : Nat) (hp : st.at p = some (.sc (.slice none 0 0))) (h : Wlk P rs N V L x K ((st.kill (AVal.under p true)).setAt p (.own (some sz) []))) : Wlk P rs N V L x K st :=
 sem_ghost (fun E tm R => by
  obtain ⟨u, hu, hr⟩ := R.at_ hp rfl
  cases hr
  have U : Under p E E := ⟨Nat.le_refl _, E.ids_refl, fun _ h _ => ⟨h, rfl⟩, fun _ _ h _ => ⟨h, rfl⟩⟩
  exact ⟨E, R.turn (keep := true) hp rfl (fun _ => ⟨_, _, rfl⟩) U R.lim rfl hu (.ownNil _ sz), Pres.refl E, rfl⟩) h
theorem sem_freeze (p : List Nat) {sz : Option Nat} {cs : List AVal} (hp : st.at p = some (.own sz cs)) (h : Wlk P rs N V L x K ((st.kill (AVal.under p false)).setAt p (AVal.own sz cs).freeze)) : Wlk P rs N V L x K st :=
 sem_ghost (fun E tm R => by
  obtain ⟨u, hu, hr⟩ := R.at_ hp rfl
  have U : Under p E (E.freeze p) := under_freeze p
  have hB : VRel (E.freeze p) (some p) (AVal.own sz cs).freeze u := hr.frozen p _ fun ℓ e => by cases e; exact List.prefix_refl _
  exact ⟨_, R.turn (keep := false) hp rfl (fun e => by cases e) U (lim_freeze R.lim) rfl hu hB, pres_freeze (mine_place (place_of_at hp)), rfl⟩) h
end
def Sees (A' A : AVal) : Prop := ∀ E po v, VRel E po A' v → VRel E po A v
theorem Sees.refl (A : AVal) : Sees A A := fun _ _ _ h => h
theorem Sees.imm (sz : Nat) : Sees (.sc (.slice none 0 0)) (.imm sz []) := fun _ _ _ h => by cases h; exact .immNil _ _ _
theorem Sees.own (sz : Nat) : Sees (.sc (.slice none 0 0)) (.own (some sz) []) := fun _ _ _ h => by cases h; exact .ownNil _ _
theorem Sees.dead (A : AVal) : Sees A .dead := fun _ _ v _ => .dead _ v
inductive SeesL : List AVal → List AVal → Prop
 | nil : SeesL [] []
 | cons {A' A : AVal} {l' l : List AVal} (h : Sees A' A) (hl : SeesL l' l) : SeesL (A' :: l') (A :: l)
theorem SeesL.get : ∀ {l' l : List AVal}, SeesL l' l → l'.length = l.length ∧ ∀ (k : Nat) A, l[k]? = some A → ∃ A', l'[k]? = some A' ∧ Sees A' A
 | _, _, .nil => ⟨rfl, fun k A h => by simp at h⟩
 | _, _, .cons (A' := A') h hl => by
   obtain ⟨h1, h2⟩ := hl.get
   refine ⟨by simp [h1], fun k A hA => ?_⟩
   cases k with
   | zero => simp at hA; subst hA; exact ⟨A', rfl, h⟩
   | succ k => simp at hA; simpa using h2 k A hA
theorem SeesL.refl : ∀ l : List AVal, SeesL l l
 | [] => .nil
 | A :: l => .cons (.refl A) (.refl l)
def rowsO (l : List (List Nat)) : List AVal := l.map fun xs => .own (some 1) (nats xs)
def rowsI (l : List (List Nat)) : List AVal := l.map fun xs => .imm 1 (nats xs)
theorem rowsO_len (l : List (List Nat)) : (rowsO l).length = l.length := by simp [rowsO]
theorem rowsI_len (l : List (List Nat)) : (rowsI l).length = l.length := by simp [rowsI]
theorem rowsO_get {l : List (List Nat)} {k : Nat} {x : List Nat} (h : l[k]? = some x) : (rowsO l)[k]? = some (.own (some 1) (nats x)) := by simp [rowsO, h]
theorem rowsI_get {l : List (List Nat)} {k : Nat} {x : List Nat} (h : l[k]? = some x) : (rowsI l)[k]? = some (.imm 1 (nats x)) := by simp [rowsI, h]
theorem rowsO_set (l : List (List Nat)) (k : Nat) (x : List Nat) : (rowsO l).set k (.own (some 1) (nats x)) = rowsO (l.set k x) := by simp [rowsO, List.map_set]
theorem rowsO_snoc (l : List (List Nat)) (x : List Nat) : rowsO l ++ [.own (some 1) (nats x)] = rowsO (l ++ [x]) := by simp [rowsO]
theorem rowsO_freeze : ∀ l : List (List Nat), AVal.freezeL (rowsO l) = rowsI l
 | [] => rfl
 | x :: l => by
   have ih := rowsO_freeze l
   simp only [rowsO, rowsI, List.map_cons, AVal.freezeL, AVal.freeze, nats_freeze] at ih ⊢
   rw [ih]
theorem rowsI_plain : ∀ l : List (List Nat), AVal.plainL (rowsI l) = true
 | [] => rfl
 | x :: l => by
   have ih := rowsI_plain l
   simp only [rowsI, List.map_cons, AVal.plainL, AVal.plain, nats_plain, Bool.true_and] at ih ⊢
   exact ih
theorem rowsI_cellOk : ∀ l : List (List Nat), AVal.cellOkL (rowsI l) = true
 | [] => rfl
 | x :: l => by
   have ih := rowsI_cellOk l
   simp only [rowsI, List.map_cons, AVal.cellOkL, AVal.cellOk, Bool.true_and] at ih ⊢
   exact ih
theorem rowsO_cellOk : ∀ l : List (List Nat), AVal.cellOkL (rowsO l) = true
 | [] => rfl
 | x :: l => by
   have ih := rowsO_cellOk l
   simp only [rowsO, List.map_cons, AVal.cellOkL, AVal.cellOk, Bool.true_and] at ih ⊢
   exact ih
theorem rowsO_flat : ∀ l : List (List Nat), AVal.flatL (rowsO l) = true
 | [] => rfl
 | x :: l => by
   have ih := rowsO_flat l
   simp only [rowsO, List.map_cons, AVal.flatL, AVal.flat, nats_flat, Bool.true_and] at ih ⊢
   exact ih
theorem rowsO_ids0 : ∀ l : List (List Nat), AVal.ids0L (rowsO l) = true
 | [] => rfl
 | x :: l => by
   have ih := rowsO_ids0 l
   simp only [rowsO, List.map_cons, AVal.ids0L, AVal.ids0, nats_ids0, Bool.true_and] at ih ⊢
   exact ih
theorem rowsI_copyable (l : List (List Nat)) : AVal.copyableL (rowsI l) = true := plain_copyableL _ (rowsI_plain l)
theorem rowsI_freeze (l : List (List Nat)) : AVal.freezeL (rowsI l) = rowsI l := copyable_freezeL _ (rowsI_copyable l)
theorem rowsI_ids0 (l : List (List Nat)) : AVal.ids0L (rowsI l) = true := plain_ids0L _ (rowsI_plain l)
theorem rowsI_ren (g : Nat → Option Nat) (l : List (List Nat)) : AVal.renL g (rowsI l) = rowsI l := ids0_renL g _ (rowsI_ids0 l)
theorem rowsO_ren (g : Nat → Option Nat) (l : List (List Nat)) : AVal.renL g (rowsO l) = rowsO l := ids0_renL g _ (rowsO_ids0 l)
theorem nats_snoc (l : List Nat) (x : Nat) : nats l ++ [.sc (.int .i64 (x : Int))] = nats (l ++ [x]) := by simp [nats]
theorem zc1 (zs : List Value) : zeroCellsA zs 1 = zs.map .sc ++ [] := rfl
theorem zc2 (zs : List Value) : zeroCellsA zs 2 = zs.map .sc ++ (zs.map .sc ++ []) := rfl
theorem zc3 (zs : List Value) : zeroCellsA zs 3 = zs.map .sc ++ (zs.map .sc ++ (zs.map .sc ++ [])) := rfl
attribute [go_sem] zc1 zc2 zc3 rowsO_len rowsI_len rowsO_set rowsO_freeze rowsI_plain rowsI_cellOk rowsO_cellOk rowsO_flat rowsO_ids0 rowsI_copyable rowsI_freeze rowsI_ids0 rowsI_ren rowsO_ren
end Go.Ga

namespace Go.Ga
open Go
section
variable {P : Program} {t : TypeId} {b : Nat}
def inI64 (n : Int) : Prop := -9223372036854775808 ≤ n ∧ n ≤ 9223372036854775807
theorem wf_i64 {n : Int} (h : (Lit.int .i64 n).wf = true) : inI64 n := by
 simp only [Lit.wf, decide_eq_true_eq, Bool.and_eq_true] at h
 have e1 : IntKind.min .i64 = -9223372036854775808 := by decide
 have e2 : IntKind.max .i64 = 9223372036854775807 := by decide
 rw [e1, e2] at h
 exact h
theorem sh_int {k : IntKind} {cs : List AVal} (hu : P.underlying t = some (.int k)) (h : Sh P t cs b) : ∃ n, cs = [.sc (.int k n)] ∧ (Lit.int k n).wf = true ∧ b = 1 := by
 cases h with
 | int _ k' n hu' hw => rw [hu] at hu'; cases hu'; exact ⟨n, rfl, hw, rfl⟩
 | bool _ _ h' => rw [hu] at h'; cases h'
 | string _ _ h' => rw [hu] at h'; cases h'
 | slice _ _ _ _ h' => rw [hu] at h'; cases h'
 | struct _ _ _ h' => rw [hu] at h'; cases h'
 | other _ _ _ h1 => exact absurd hu (h1 k)
theorem sh_slice {e : TypeId} {cs : List AVal} (hu : P.underlying t = some (.slice e)) (h : Sh P t cs b) : ∃ (L : List (List AVal × Nat)) (more : Nat), cs = [.imm (P.cellsOf e) (L.map (·.1)).flatten] ∧ b = 1 + (L.map (·.2)).sum + more ∧ ∀ x ∈ L, Sh P e x.1 x.2 := by
 cases h with
 | slice _ e' L more hu' hl hh => rw [hu] at hu'; cases hu'; exact ⟨L, more, rfl, rfl, hh⟩
 | int _ _ _ h' => rw [hu] at h'; cases h'
 | bool _ _ h' => rw [hu] at h'; cases h'
 | string _ _ h' => rw [hu] at h'; cases h'
 | struct _ _ _ h' => rw [hu] at h'; cases h'
 | other _ _ _ _ _ _ h4 => exact absurd hu (h4 e)
theorem packs_of {α : Type} {f : α → List AVal} {R : α → Prop} : ∀ {L : List (List AVal × Nat)}, (∀ x ∈ L, ∃ y, x.1 = f y ∧ R y ∧ 1 ≤ x.2) → ∃ ys : List α, (L.map (·.1)).flatten = packs f ys ∧ (∀ y ∈ ys, R y) ∧ ys.length ≤ (L.map (·.2)).sum
 | [], _ => ⟨[], rfl, fun y h => (by cases h), Nat.le_refl _⟩
 | x :: L, h => by
   obtain ⟨y, h1, h2, h3⟩ := h x (.head _)
   obtain ⟨ys, g1, g2, g3⟩ := packs_of (L := L) fun z hz => h z (.tail _ hz)
   refine ⟨y :: ys, by simp only [List.map_cons, List.flatten_cons, packs, h1, g1], fun z hz => ?_, by simp only [List.map_cons, List.sum_cons, List.length_cons]; omega⟩
   cases hz with
   | head => exact h2
   | tail _ hz => exact g2 z hz
theorem packs_ints (xs : List Int) : packs (fun n => [AVal.sc (.int .i64 n)]) xs = ints xs := by
 induction xs with
 | nil => rfl
 | cons x xs ih => simp only [packs, ih, ints, List.map_cons, List.singleton_append]
theorem sh_ints {e : TypeId} {cs : List AVal} (hu : P.underlying t = some (.slice e)) (he : P.underlying e = some (.int .i64)) (hc : P.cellsOf e = 1) (h : Sh P t cs b) : ∃ xs : List Int, cs = [.imm 1 (ints xs)] ∧ (∀ x ∈ xs, inI64 x) ∧ xs.length < b := by
 obtain ⟨L, more, rfl, rfl, hL⟩ := sh_slice hu h
 obtain ⟨ys, h1, h2, h3⟩ := packs_of (f := fun n => [AVal.sc (.int .i64 n)]) (R := inI64) (L := L) fun x hx => by
  obtain ⟨n, g1, g2, g3⟩ := sh_int he (hL x hx)
  exact ⟨n, g1, wf_i64 g2, by omega⟩
 exact ⟨ys, by rw [h1, hc, packs_ints], h2, by omega⟩
theorem sa_one {A : AVal} (hu : ∀ fs, P.underlying t ≠ some (.struct fs)) (h : SA P t A b) : Sh P t [A] b := by
 rcases h with ⟨⟨fs, h⟩, _⟩ | ⟨_, h⟩
 · exact absurd h (hu fs)
 · exact h
theorem sas_cons {ts : List TypeId} {As : List AVal} (h : SAs P (t :: ts) As b) : ∃ A As' c d, As = A :: As' ∧ b = c + d ∧ SA P t A c ∧ SAs P ts As' d := by
 cases h with
 | cons _ A c _ As' d h hr => exact ⟨A, As', c, d, rfl, rfl, h, hr⟩
theorem sas_nil {As : List AVal} (h : SAs P [] As b) : As = [] := by cases h; rfl
theorem sa_int {k : IntKind} {A : AVal} (hu : P.underlying t = some (.int k)) (h : SA P t A b) : ∃ n, A = .sc (.int k n) ∧ (Lit.int k n).wf = true := by
 obtain ⟨n, h1, h2, _⟩ := sh_int hu (sa_one (fun fs h => by rw [hu] at h; cases h) h)
 exact ⟨n, by injection h1, h2⟩
theorem sa_ints {e : TypeId} {A : AVal} (hu : P.underlying t = some (.slice e)) (he : P.underlying e = some (.int .i64)) (hc : P.cellsOf e = 1) (h : SA P t A b) : ∃ xs : List Int, A = .imm 1 (ints xs) ∧ (∀ x ∈ xs, inI64 x) ∧ xs.length < b := by
 obtain ⟨xs, h1, h2⟩ := sh_ints hu he hc (sa_one (fun fs h => by rw [hu] at h; cases h) h)
 exact ⟨xs, by injection h1, h2⟩
end
end Go.Ga

namespace Go.Ga
open Go
theorem heap_row {α : Type} [Inhabited α] (enc : α → Value) (w : World) (n blk off : Nat) (d : Array α) (os : Array Obj) {b : Nat} (hb : b < w.heap.size) :
    (Sort.grow (Sort.putRow enc (Sort.ahead w n) blk off d) os).heap[b]? = if blk = b then (w.heap[b]?).map (Sort.onCells (Sort.putCells enc off d)) else w.heap[b]? := by
  unfold Sort.grow Sort.putRow Sort.mapBlock Sort.ahead
  simp only
  rw [Array.getElem?_append_left (by simpa using hb), Array.getElem?_modify]
theorem acalls_row {P : Program} {f : Nat} (hc : callable P f = true) (g : List Int → List Int) (hg : ∀ zs, (g zs).length = zs.length) (zs : List Int)
    (H : ∀ (blk off cap : Nat) (w : World), Sort.Holds (Value.int .i64) w blk off zs.toArray → blk < w.heap.size →
      Calls P f #[.slice (some ⟨blk, off, none⟩) zs.length cap] w fun e w' => e = .returned (.tuple #[]) ∧ ∃ n os, w' = Sort.grow (Sort.putRow (Value.int .i64) (Sort.ahead w n) blk off (g zs).toArray) os) :
    ACalls P [] f [.sl 0 0 zs.length 1] [some (ints zs)] fun r h' => r = .tup [] ∧ h' = [some (ints (g zs))] := by
  refine ⟨hc, fun E vs hH hs hv => ?_⟩
  have hs1 : vs.size = 1 := hs
  have hv0 := hv 0 _ vs[0] rfl (by simp [hs1])
  have evs : vs = #[vs[0]] := by
    apply Array.ext
    · simpa using hs1
    · intro i h1 h2
      have : i = 0 := by omega
      subst this; rfl
  rw [evs]
  generalize vs[0] = v0 at hv0
  cases hv0 with
  | sl po id off len cap sz hn hcap hm hk =>
  obtain ⟨hO, arr, T, fv, hb, ha, hcs, hf, hr⟩ := hH.objs 0 _ rfl
  have hsize : E.ρ 0 < E.w.heap.size := hH.lim _ _ hO
  have hlen : (ints zs).length = zs.length := ints_len zs
  have hfk : ∀ k (h : k < zs.length), fv k = .int .i64 zs[k] := by
    intro k h
    have e : (ints zs)[k]? = some (.sc (.int .i64 zs[k])) := by simp [ints, h]
    have := hr k _ e
    generalize fv k = u at this
    cases this
    rfl
  have hak : ∀ k, k < zs.length → arr[E.β 0 + k]? = some (fv k) := fun k h => hf k _ (by rw [List.getElem?_eq_getElem (by rw [hlen]; exact h)])
  have hold : Sort.Holds (Value.int .i64) E.w (E.ρ 0) (E.β 0 + 0) zs.toArray := by
    intro j hj
    have hj : j < zs.length := by simpa using hj
    have e := hak j hj
    rw [hfk j hj] at e
    constructor
    · simp [World.cell?, hb, e, hj]
    · simp [World.frozen?, hb]
  refine (H (E.ρ 0) (E.β 0 + 0) cap E.w hold hsize).mono ?_
  rintro e w' ⟨rfl, n, os, rfl⟩
  have hw : ∀ b, b < E.w.heap.size → (Sort.grow (Sort.putRow (Value.int .i64) (Sort.ahead E.w n) (E.ρ 0) (E.β 0 + 0) (g zs).toArray) os).heap[b]? = if E.ρ 0 = b then (E.w.heap[b]?).map (Sort.onCells (Sort.putCells (Value.int .i64) (E.β 0 + 0) (g zs).toArray)) else E.w.heap[b]? :=
    fun b hb => heap_row _ _ _ _ _ _ _ hb
  have hsz : E.w.heap.size ≤ (Sort.grow (Sort.putRow (Value.int .i64) (Sort.ahead E.w n) (E.ρ 0) (E.β 0 + 0) (g zs).toArray) os).heap.size := by
    simp [Sort.grow, Sort.putRow, Sort.mapBlock, Sort.ahead]
  generalize hW : Sort.grow (Sort.putRow (Value.int .i64) (Sort.ahead E.w n) (E.ρ 0) (E.β 0 + 0) (g zs).toArray) os = W at hw hsz
  have hos : W.os = E.w.os ∧ W.tape = E.w.tape ∧ W.output = E.w.output := by subst hW; exact ⟨rfl, rfl, rfl⟩
  refine ⟨.tuple #[], .tup [], [some (ints (g zs))], { E with w := W }, rfl, rfl, ?_, .tup _ _ _ rfl (fun k A v h => by simp at h), ?_, rfl, rfl⟩
  · refine ⟨hH.num, fun b q h => Nat.lt_of_lt_of_le (hH.lim b q h) hsz, ?_⟩
    intro id cs h
    have hid : id = 0 ∧ cs = ints (g zs) := by
      cases id with
      | zero => simp at h; exact ⟨rfl, h.symm⟩
      | succ k => simp at h
    obtain ⟨rfl, rfl⟩ := hid
    refine ⟨hO, Sort.putCells (Value.int .i64) (E.β 0 + 0) (g zs).toArray arr, T, fun k => .int .i64 ((g zs).getD k 0), ?_, ?_, ?_, ?_, ?_⟩
    · show W.heap[E.ρ 0]? = _
      rw [hw _ hsize, if_pos rfl, hb]
      rfl
    · simpa [Sort.putCells] using ha
    · rw [ints_len, hg, ← hlen]; exact hcs
    · intro k A hk'
      have hk1 : k < (g zs).length := by
        have := (List.getElem?_eq_some_iff.1 hk').1
        rwa [ints_len] at this
      have hk2 : k < zs.length := by rw [← hg]; exact hk1
      show (Sort.putCells (Value.int .i64) (E.β 0 + 0) (g zs).toArray arr)[E.β 0 + k]? = _
      unfold Sort.putCells
      rw [Array.getElem?_mapIdx, hak k hk2]
      simp [hk1]
    · intro k A hk'
      have hk1 : k < (g zs).length := by
        have := (List.getElem?_eq_some_iff.1 hk').1
        rwa [ints_len] at this
      have : A = .sc (.int .i64 ((g zs).getD k 0)) := by
        have := hk'
        simp [ints, hk1] at this
        rw [← this]
        simp [hk1]
      rw [this]
      exact .sc _ _
  · have hne : ∀ b, (∀ q, E.O b = some q → q ≠ [1, 0]) → b < E.w.heap.size → W.heap[b]? = E.w.heap[b]? := by
      intro b h1 h2
      rw [hw b h2, if_neg]
      intro hh
      subst hh
      exact h1 _ hO rfl
    refine ⟨hsz, hos.1, hos.2.1, hos.2.2, ?_, ?_, fun b r h => h, ⟨Nat.le_refl _, fun _ _ => ⟨rfl, rfl, rfl⟩⟩, ?_⟩
    · intro b h1 h2
      exact ⟨h1, hne b (fun q hq => by rw [h1] at hq; cases hq) h2⟩
    · intro b r h
      exact ⟨h, hne b (fun q hq => by rw [h] at hq; cases hq; simp) (hH.lim _ _ h)⟩
    · intro b r hW' _ _
      exact absurd hW'.1 (by simp)
end Go.Ga

namespace Go.Ga
open Go
def updAll (vs : List (Nat × AVal)) : List (Nat × AVal) → List (Nat × AVal)
 | [] => vs
 | (i, A) :: l => updAll (upd vs i A) l
theorem updAll_nil (vs : List (Nat × AVal)) : updAll vs [] = vs := rfl
theorem updAll_cons (vs : List (Nat × AVal)) (i : Nat) (A : AVal) (l : List (Nat × AVal)) : updAll vs ((i, A) :: l) = updAll (upd vs i A) l := rfl
theorem set2 (x y a b : AVal) : setCells [x, y] 0 [a, b] = [a, b] := rfl
theorem set3 (x y z a b c : AVal) : setCells [x, y, z] 0 [a, b, c] = [a, b, c] := rfl
theorem mul2 (n : Nat) : n * 2 / 2 = n := by omega
theorem mul3 (n : Nat) : n * 3 / 3 = n := by omega
theorem incS {k : Nat} (h : k < 4611686018427387904) : IntKind.i64.wrap ((k : Int) + 1) = ((k + 1 : Nat) : Int) := by rw [IntWalk.i64_in _ (by omega)]; omega
theorem decS {k : Nat} (h : k < 4611686018427387904) : IntKind.i64.wrap (((k + 1 : Nat) : Int) - 1) = (k : Int) := by rw [IntWalk.i64_in _ (by omega)]; omega
theorem nen {α : Type} (x : α) [Decidable (x ≠ x)] : decide (x ≠ x) = false := decide_eq_false (fun h => h rfl)
theorem eqn {α : Type} (x : α) [Decidable (x = x)] : decide (x = x) = true := decide_eq_true rfl
theorem twos_drop (l : List (Int × Int)) (k : Nat) : (twos l).drop (k * 2) = twos (l.drop k) := packs_drop two_len l k
theorem twos_take (l : List (Int × Int)) (k : Nat) : (twos l).take (k * 2) = twos (l.take k) := packs_take two_len l k
theorem twos_append (l m : List (Int × Int)) : twos (l ++ m) = twos l ++ twos m := packs_append l m
theorem cut_twos (l : List (Int × Int)) (lo hi : Nat) : cutCells (twos l) 2 lo hi = twos ((l.drop lo).take (hi - lo)) := by
 rw [cutCells, twos_drop, twos_take]
theorem cut_nats (l : List Nat) (lo hi : Nat) : cutCells (nats l) 1 lo hi = nats ((l.drop lo).take (hi - lo)) := by
 simp [cutCells, nats]
theorem eqInts2 (a b c d : Int) : eqInts [.sc (.int .i64 a), .sc (.int .i64 b)] [.sc (.int .i64 c), .sc (.int .i64 d)] = some (decide ((a, b) = (c, d))) := by
 simp [eqInts]
attribute [go_sem] Int.toNat_zero Int.toNat_one Nat.div_one Int.cast_ofNat_Int decide_true decide_false bne_self_eq_false Bool.not_false Bool.not_true Nat.zero_le or_self true_or or_true List.length_set List.length_range isNilSl eqInts2 Option.bind_some aggOf set2 set3 mul2 mul3 twos_len tris_len nen eqn updAll_nil updAll_cons
theorem SeesL.own {sz : Nat} {l' l : List AVal} (h : SeesL l' l) : Sees (.own (some sz) l') (.own (some sz) l) := fun E po v hv => by
 obtain ⟨h1, h2⟩ := h.get
 cases hv with
 | own ℓ _ _ b o len cap arr T f hO hb hl hc hm ha hf hh =>
   refine .own ℓ sz l b o len cap arr T f hO hb (by rw [← h1]; exact hl) hc hm ha (fun k A hA => ?_) fun k A hA => ?_
   · obtain ⟨A', hA', _⟩ := h2 k A hA; exact hf k A' hA'
   · obtain ⟨A', hA', hs⟩ := h2 k A hA; exact hs _ _ _ (hh k A' hA')
 | ownNil =>
   cases l with
   | nil => exact .ownNil _ _
   | cons => simp at h1
theorem SeesL.imm {sz : Nat} {l' l : List AVal} (h : SeesL l' l) : Sees (.imm sz l') (.imm sz l) := fun E po v hv => by
 obtain ⟨h1, h2⟩ := h.get
 cases hv with
 | imm _ _ _ b o len cap f hO hb hl hc hf hh =>
   refine .imm po sz l b o len cap f hO hb (by rw [← h1]; exact hl) hc (fun k A hA => ?_) fun k A hA => ?_
   · obtain ⟨A', hA', _⟩ := h2 k A hA; exact hf k A' hA'
   · obtain ⟨A', hA', hs⟩ := h2 k A hA; exact hs _ _ _ (hh k A' hA')
 | immNil =>
   cases l with
   | nil => exact .immNil _ _ _
   | cons => simp at h1
theorem SeesL.agg {l' l : List AVal} (h : SeesL l' l) : Sees (.agg l') (.agg l) := fun E po v hv => by
 obtain ⟨h1, h2⟩ := h.get
 cases hv with
 | agg _ _ vs hs hh =>
   refine .agg po l vs (by rw [← h1]; exact hs) fun k A v hA hv => ?_
   obtain ⟨A', hA', hs'⟩ := h2 k A hA
   exact hs' _ _ _ (hh k A' v hA' hv)
theorem SeesL.rep {A' A : AVal} (h : Sees A' A) : ∀ n, SeesL (List.replicate n A') (List.replicate n A)
 | 0 => .nil
 | n + 1 => .cons h (SeesL.rep h n)
section
variable {P : Program} {rs : List Nat} {N : Nat} {V : List Nat} {L : List (List Nat)} {x : ACode} {K : AExit → AState → Prop} {st : AState}
theorem sem_sees (p : List Nat) {A : AVal} (B : AVal) (hp : st.at p = some A) (hA : A.isAlias = false) (hs : Sees A B) (h : Wlk P rs N V L x K ((st.kill (AVal.under p false)).setAt p B)) : Wlk P rs N V L x K st :=
 sem_ghost (fun E tm R => by
  obtain ⟨u, hu, hr⟩ := R.at_ hp hA
  have U : Under p E E := ⟨Nat.le_refl _, E.ids_refl, fun _ h _ => ⟨h, rfl⟩, fun _ _ h _ => ⟨h, rfl⟩⟩
  exact ⟨E, R.turn (keep := false) hp hA (fun e => by cases e) U R.lim rfl hu (hs _ _ _ hr), Pres.refl E, rfl⟩) h
theorem sem_share (p : List Nat) {cs : List AVal} (hp : st.at p = some (.own none cs)) (h : Wlk P rs N V [] x K (st.shareAt p cs (.ptr st.h.length 0))) : Wlk P rs N V [] x K st :=
 sem_ghost (fun E tm R => by
  obtain ⟨E1, R1, _, P1, hw, _⟩ := share_sound (a := ⟨tm, []⟩) (L := []) (l := []) R hp (fun y hy => by cases hy) rfl
  exact ⟨E1, R1, P1, hw⟩) h
end
theorem zero_nil (n : Nat) : zeroCellsA [.slice none 0 0] n = List.replicate n (.sc (.slice none 0 0)) := by
 simp only [zeroCellsA, List.map]
 induction n with
 | zero => rfl
 | succ n ih => simp only [List.replicate_succ, List.flatten_cons, ih]; rfl
theorem rowsO_rep (n : Nat) : rowsO (List.replicate n []) = List.replicate n (.own (some 1) []) := by
 simp [rowsO, nats]
theorem sees_rows (n : Nat) : Sees (.own (some 1) (zeroCellsA [.slice none 0 0] n)) (.own (some 1) (rowsO (List.replicate n []))) := by
 rw [zero_nil, rowsO_rep]
 exact (SeesL.rep (Sees.own 1) n).own
def bools (xs : List Bool) : List AVal := xs.map fun b => .sc (.bool b)
theorem bools_len (xs : List Bool) : (bools xs).length = xs.length := by simp [bools]
theorem bools_get {xs : List Bool} {k : Nat} (h : k < xs.length) : (bools xs)[k]? = some (.sc (.bool (xs.getD k false))) := by
 simp [bools, List.getD_eq_getElem?_getD, List.getElem?_eq_getElem h]
theorem bools_set (xs : List Bool) (k : Nat) (b : Bool) : (bools xs).set k (.sc (.bool b)) = bools (xs.set k b) := by
 simp [bools, List.map_set]
theorem bools_plain (xs : List Bool) : AVal.plainL (bools xs) = true := (scs_all _ xs).1
theorem bools_flat (xs : List Bool) : AVal.flatL (bools xs) = true := (scs_all _ xs).2
theorem bools_cellOk : ∀ xs : List Bool, AVal.cellOkL (bools xs) = true
 | [] => rfl
 | b :: l => by show (_ && AVal.cellOkL (bools l)) = true; rw [bools_cellOk l]; rfl
theorem bools_copyable (xs : List Bool) : AVal.copyableL (bools xs) = true := plain_copyableL _ (bools_plain xs)
theorem bools_freeze (xs : List Bool) : AVal.freezeL (bools xs) = bools xs := copyable_freezeL _ (bools_copyable xs)
theorem bools_ids0 (xs : List Bool) : AVal.ids0L (bools xs) = true := plain_ids0L _ (bools_plain xs)
theorem bools_ren (g : Nat → Option Nat) (xs : List Bool) : AVal.renL g (bools xs) = bools xs := ids0_renL g _ (bools_ids0 xs)
theorem bools_zero (n : Nat) : zeroCellsA [.bool false] n = bools (List.replicate n false) := by
 simp only [zeroCellsA, List.map]
 induction n with
 | zero => rfl
 | succ n ih => simp only [List.replicate_succ, List.flatten_cons, ih]; rfl
attribute [go_sem] bools_len bools_set bools_plain bools_flat bools_cellOk bools_copyable bools_freeze bools_ids0 bools_ren bools_zero
theorem ACalls.frz {P : Program} {L : List (List Nat)} {f : Nat} {args : List AVal} {h : Heap} {Q : AVal → Heap → Prop} (H : ACalls P L f args h Q) : ACalls P L f args h fun r h' => ∃ r0, r = r0.freeze ∧ Q r0 h' := by
 refine ⟨H.1, fun E vs hH hs hv => (H.2 E vs hH hs hv).mono ?_⟩
 rintro e w' ⟨v, r, h', E', he, hw, hH', hr, hP, hQ⟩
 have U : Under [3] E' (E'.freeze [3]) := under_freeze [3]
 refine ⟨v, r.freeze, h', E'.freeze [3], he, hw, ⟨hH'.num, lim_freeze hH'.lim, fun id cs hcs => ?_⟩, hr.frozen [3] _ (fun ℓ e => by cases e; exact List.prefix_refl _), hP.trans (pres_freeze mine3'), r, rfl, hQ⟩
 have hid : id < E'.n := by rw [hH'.num]; exact (List.getElem?_eq_some_iff.1 hcs).1
 exact (hH'.objs id cs hcs).keep U hid (apart_kind (by decide))
section
variable {P : Program} {rs : List Nat} {N : Nat} {V : List Nat} {L : List (List Nat)} {K : AExit → AState → Prop} {x : ACode}
theorem wlk_lp {vs : List (Nat × AVal)} {h0 : Heap} {α : Type} (J : List Nat) (f : α → List (Nat × AVal)) (g : α → Heap) (inv : α → Nat → Prop) (a0 : α) (n0 : Nat) (hJ : (J.all fun i => V.contains i) = true)
    (hs : AState.forget ⟨vs, [], h0⟩ J = ⟨updAll vs (J.map (fun i => (i, AVal.dead)) ++ f a0), [], g a0⟩) (hi : inv a0 n0)
    (h : ∀ a n, inv a n → ∀ X : AExit → AState → Prop, (∀ s a' m, m < n → s.forget J = ⟨updAll vs (J.map (fun i => (i, AVal.dead)) ++ f a'), [], g a'⟩ → inv a' m → X .normal s) → (∀ i s, K (.exit i) s → X (.exit i) s) → (∀ s, K .ret s → X .ret s) →
      Wlk P rs N V L x X ⟨updAll vs (J.map (fun i => (i, AVal.dead)) ++ f a), [], g a⟩) : Wlk P rs N V L (.loop x) K ⟨vs, [], h0⟩ := by
  refine wlk_loop (fun n s => ∃ a, inv a n ∧ s.forget J = ⟨updAll vs (J.map (fun i => (i, AVal.dead)) ++ f a), [], g a⟩) n0 ⟨a0, hi, hs⟩ ?_
  rintro n s ⟨a, ha, hst⟩ X hn he hr
  refine sem_forget J hJ ?_
  rw [hst]
  exact h a n ha X (fun s a' m hm hs' hi' => hn m s hm ⟨a', hi', hs'⟩) he hr
end
end Go.Ga

namespace Go.Ga
open Go
section
variable {P : Program} {t : TypeId} {b : Nat}
end
end Go.Ga

namespace Go.Ga
open Go
section
variable {L : List (List Nat)} {E : Env} {N : Nat} {V : List Nat} {st : AState} {a : Act} {tm : Array Value}
theorem shsl_sound (R : Rel E N V st tm) {p : List Nat} {sz : Nat} {cs : List AVal} (h : st.at p = some (.own (some sz) cs)) (hne : cs ≠ []) (hq : clear L p = true) :
    ∃ E1, Rel E1 N V (st.shareAt p cs (.sl st.h.length 0 (cs.length / sz) sz)) tm ∧ Pres L E E1 ∧ E1.w = E.w := by
  obtain ⟨u, hu, hr⟩ := R.at_ h rfl
  have hp := place_of_at h
  cases hr with
  | ownNil => exact absurd rfl hne
  | own _ _ _ b o len cap arr T f hO hb hl hc hm ha hf hh =>
    let E1 := E.more b o (cap * sz)
    have R1 := R.more b o (cap * sz)
    have hat1 : AState.at { st with h := st.h ++ [none] } p = some (.own (some sz) cs) := by
      match p, h with
      | 0 :: i :: ks, h => exact h
      | 1 :: id :: k :: ks, h =>
        simp only [AState.at] at h ⊢
        split at h
        · rename_i cs' hcs
          have : (st.h ++ [none])[id]? = some (some cs') := by rw [List.getElem?_append_left (List.getElem?_eq_some_iff.1 hcs).1]; exact hcs
          rw [this]; exact h
        · cases h
    have hpv1 : pval E1 tm p = some (.slice (some ⟨b, o, none⟩) len cap) := by
      have : pval E1 tm p = pval E tm p := by
        match p, h with
        | 0 :: i :: ks, _ => rfl
        | 1 :: id :: k :: ks, h =>
          simp only [AState.at] at h
          split at h
          · rename_i cs' hcs
            have : id < E.n := by rw [R.num]; exact (List.getElem?_eq_some_iff.1 hcs).1
            simp only [pval, Env.ptr, E1, Env.more, Nat.ne_of_lt this, if_false]
          · cases h
      rw [this]; exact hu
    have U1 : Under p E1 (E1.relab p [1, E.n]) := under_relab p [1, E.n]
    have hlim1 := lim_relab (E := E1) (p := p) (q := [1, E.n]) R1.lim
    have hdiv : cs.length / sz = len := by rw [hl.2, Nat.mul_div_cancel _ hl.1]
    have hptr : VRel (E1.relab p [1, E.n]) (some p) (.sl E.n 0 (cs.length / sz) sz) (.slice (some ⟨b, o, none⟩) len cap) := by
      have := VRel.sl (E := E1.relab p [1, E.n]) (some p) E.n 0 len cap sz (by simp [E1, Env.more, Env.relab]) hc hm (by simp [E1, Env.more, Env.relab])
      rw [hdiv]
      simpa [E1, Env.more, Env.relab] using this
    have R2 := R1.turn (B' := .sl E.n 0 (cs.length / sz) sz) (keep := false) hat1 rfl (fun e => by cases e) U1 hlim1 rfl hpv1 hptr
    rw [kill_last, setAt_last (by
      obtain ⟨C', h1, h2⟩ := kill_at (bad := AVal.under p false) (fun A h => under_nonalias h) h
      rw [h1]; simp)] at R2
    have hOR : ORel (E1.relab p [1, E.n]) E.n cs := by
      refine ⟨?_, arr, T, f, ?_, ?_, ?_, ?_, ?_⟩
      · show relab p [1, E.n] E.O (if E.n = E.n then b else E.ρ E.n) = _
        rw [if_pos rfl]
        simpa using relab_under (q := [1, E.n]) (r := []) (by simpa using hO)
      · show E.w.heap[if E.n = E.n then b else E.ρ E.n]? = _
        rw [if_pos rfl]; exact hb
      · simp [E1, Env.more, Env.relab, ha]
      · simp [E1, Env.more, Env.relab, hl.2]
        exact Nat.mul_le_mul_right _ hc
      · intro k A hk; simpa [E1, Env.more, Env.relab] using hf k A hk
      · intro k A hk
        have h1 : VRel E1 (some (p ++ [k])) A (f k) := VRel.keep (E := E) (E' := E1) ids_more (Nat.le_refl _) (hh k A hk) fun _ _ => ⟨rfl, rfl⟩
        exact (h1.moved p [1, E.n] [k]).2 rfl
    have hlen : ((st.kill (AVal.under p false)).setAt p (.sl E.n 0 (cs.length / sz) sz)).h.length = E.n := by rw [setAt_len, R.num]; rfl
    have R3 := R2.revive (id := E.n) (cs := cs) (h' := ((st.kill (AVal.under p false)).setAt p (.sl E.n 0 (cs.length / sz) sz)).h ++ [some cs]) (by simp) (by rw [List.getElem?_append_right (by omega)]; simp [hlen])
      (fun j hj => by
        show _ = (((st.kill (AVal.under p false)).setAt p (.sl E.n 0 (cs.length / sz) sz)).h ++ [none])[j]?
        rw [List.getElem?_append, List.getElem?_append]
        split
        · rfl
        · rename_i hge
          have : 1 ≤ j - ((st.kill (AVal.under p false)).setAt p (.sl E.n 0 (cs.length / sz) sz)).h.length := by omega
          rw [List.getElem?_eq_none (by simpa using this), List.getElem?_eq_none (by simpa using this)])
      (by
        show (((st.kill (AVal.under p false)).setAt p (.sl E.n 0 (cs.length / sz) sz)).h ++ [none])[E.n]? = _
        rw [List.getElem?_append_right (by omega)]; simp [hlen]) hOR
    refine ⟨E1.relab p [1, E.n], ?_, pres_more.trans (pres_relab (mine_place hp) (mine1 _) (clear_wat hq)), rfl⟩
    rw [show st.h.length = E.n from R.num.symm]
    exact R3
end
section
variable {P : Program} {rs : List Nat} {N : Nat} {V : List Nat} {L : List (List Nat)} {x : ACode} {K : AExit → AState → Prop} {st : AState}
theorem sem_shsl (p : List Nat) {sz : Nat} {cs : List AVal} (hp : st.at p = some (.own (some sz) cs)) (hne : cs ≠ []) (h : Wlk P rs N V [] x K (st.shareAt p cs (.sl st.h.length 0 (cs.length / sz) sz))) : Wlk P rs N V [] x K st :=
 sem_ghost (fun E tm R => by
  obtain ⟨E1, R1, P1, hw⟩ := shsl_sound (L := []) R hp hne rfl
  exact ⟨E1, R1, P1, hw⟩) h
end
end Go.Ga
attribute [go_sem] reduceIte Nat.reduceEqDiff Nat.reduceBEq reduceCtorEq Nat.reduceLT Nat.reduceLeDiff Nat.reduceAdd Nat.reduceSub Nat.reduceMul Nat.reduceDiv Int.reduceAdd Int.reduceNeg Int.reduceEq Int.reduceLT Int.reduceLE

namespace Go.Ga
open Go
end Go.Ga

namespace Go.Ga
open Go
theorem wc1 {P : Program} {rs V : List Nat} {N : Nat} {L : List (List Nat)} {x y : ACode} {K : AExit → AState → Prop} {st : AState} {c : Opd} (h1 : Wlk P rs N V L x K st) (hc : st.ev c = .sc (.bool true) := by first | rfl | (simp only [go_sem]; try simp (disch := omega) only [decide_eq_true, decide_eq_false])) : Wlk P rs N V L (.cond c x y) K st := wlk_cond1 hc h1
theorem wc0 {P : Program} {rs V : List Nat} {N : Nat} {L : List (List Nat)} {x y : ACode} {K : AExit → AState → Prop} {st : AState} {c : Opd} (h1 : Wlk P rs N V L y K st) (hc : st.ev c = .sc (.bool false) := by first | rfl | (simp only [go_sem]; try simp (disch := omega) only [decide_eq_true, decide_eq_false])) : Wlk P rs N V L (.cond c x y) K st := wlk_cond0 hc h1
def Gof (P : Program) (nt k : Nat) (rs V : List Nat) (rss : List ARes) (ac : ACode) (f : Nat) : Prop := ∀ {L : List (List Nat)} {args : List AVal} {h : Heap} {Q : AVal → Heap → Prop}, args.length = k → Wlk P rs nt V L ac (ends L rss Q) (entry V args h) → ACalls P L f args h Q
theorem gof {P : Program} (hmix : P.follows .mixedOrders = true) {f : Nat} {fn : Func} {k : Nat} {rs V : List Nat} {ac : ACode} {rss : List ARes} (hf : P.funcs[f]? = some fn) (hs : stripF P rs V fn = some (ac, rss)) (hk : Nat.ble k fn.ntmps = true) : Gof P fn.ntmps k rs V rss ac f :=
 fun hl H => acalls_of_strip hmix hf hs (by rw [hl]; exact Nat.le_of_ble_eq_true hk) H
def oM (a b : Nat) : GOp := (none, .r (.mov a (.t b)))
def oS (a b : Nat) : GOp := (none, .asg a (.t b) true)
def oI (a : Nat) (k : Int) : GOp := (none, .asg a (.c (.int .i64 k)) true)
def oZ (a : Nat) : GOp := (none, .asg a (.c (.slice none 0 0)) true)
def oO (a : Nat) : GOp := (none, .asg a (.c (.bool false)) true)
def oL (a b k : Nat) : GOp := (none, .r (.ld a (.t b) k false))
def oT (a b k : Nat) : GOp := (none, .r (.ld a (.t b) k true))
def oF (a b k : Nat) : GOp := (none, .r (.fldA a (.t b) k))
def oX (a b c k : Nat) : GOp := (none, .r (.idxA a (.t b) (.t c) k))
def oN (a b : Nat) : GOp := (none, .r (.nilck a (.t b)))
def oE (a b : Nat) : GOp := (none, .r (.len a (.t b)))
def oB (a : Nat) (op : BinOp) (b : Nat) (k : Int) : GOp := (none, .r (.bin a op 0 (.t b) (.c (.int .i64 k))))
def oD (a : Nat) (op : BinOp) (b c : Nat) : GOp := (none, .r (.bin a op 0 (.t b) (.t c)))
def oC (a f x : Nat) : GOp := (none, .call a (.f f) [(.t x, false)])
def oC2 (a f x y : Nat) : GOp := (none, .call a (.f f) [(.t x, false), (.t y, false)])
def oC3 (a f x y z : Nat) : GOp := (none, .call a (.f f) [(.t x, false), (.t y, false), (.t z, false)])
def oP (a b c : Nat) : GOp := (none, .r (.pick a (.t b) (.t c) (.c (.bool false))))
def oQ (a b c : Nat) : GOp := (none, .r (.pick a (.t b) (.c (.bool true)) (.t c)))
def oW (a b k : Nat) : GOp := (none, .st (.t a) (.t b) k)
def oY (a b k : Nat) : GOp := (none, .r (.ext a (.t b) k))
def oK (g : Nat) (s : Bool) (a b : Nat) : GOp := (some (g, s), .r (.mov a (.t b)))
def oKL (g : Nat) (s : Bool) (a b k : Nat) : GOp := (some (g, s), .r (.ld a (.t b) k false))
def oKB (g : Nat) (s : Bool) (a : Nat) (op : BinOp) (b : Nat) (k : Int) : GOp := (some (g, s), .r (.bin a op 0 (.t b) (.c (.int .i64 k))))
def oKD (g : Nat) (s : Bool) (a : Nat) (op : BinOp) (b c : Nat) : GOp := (some (g, s), .r (.bin a op 0 (.t b) (.t c)))
attribute [go_sem] oM oS oI oZ oO oL oT oF oX oN oE oB oD oC oC2 oC3 oP oQ oW oY oK oKL oKB oKD
end Go.Ga
