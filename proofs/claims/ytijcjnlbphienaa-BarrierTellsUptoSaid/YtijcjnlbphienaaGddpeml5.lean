/- Values, objects, and code by what it leads to: a library of this claim's own. No condition. -/
import Derived.Test.YtijcjnlbphienaaGddpeml4
import Derived.Sort.Grow
set_option linter.all false
namespace Go.Ga
open Go
def packs {α : Type} (f : α → List AVal) : List α → List AVal
  | [] => []
  | x :: l => f x ++ packs f l
section
variable {α : Type} {f : α → List AVal} {sz : Nat}
theorem packs_len (hf : ∀ x, (f x).length = sz) : ∀ l : List α, (packs f l).length = l.length * sz
  | [] => by simp [packs]
  | x :: l => by simp only [packs, List.length_append, hf, packs_len hf l, List.length_cons, Nat.add_mul]; omega
theorem packs_append : ∀ l m : List α, packs f (l ++ m) = packs f l ++ packs f m
  | [], m => rfl
  | x :: l, m => by simp only [List.cons_append, packs, packs_append l m, List.append_assoc]
theorem packs_drop (hf : ∀ x, (f x).length = sz) : ∀ (l : List α) (k : Nat), (packs f l).drop (k * sz) = packs f (l.drop k)
  | [], k => by simp [packs]
  | x :: l, 0 => by simp
  | x :: l, k + 1 => by
    simp only [packs, List.drop_succ_cons]
    rw [← packs_drop hf l k, Nat.add_mul, Nat.one_mul, List.drop_append, hf]
    rw [List.drop_of_length_le (by rw [hf]; omega), List.nil_append]
    congr 1; omega
theorem packs_get (hf : ∀ x, (f x).length = sz) {l : List α} {k : Nat} {x : α} (h : l[k]? = some x) (r : Nat) (hr : r < sz) : (packs f l)[k * sz + r]? = (f x)[r]? := by
  rw [← List.getElem?_drop, packs_drop hf]
  have hlt : k < l.length := (List.getElem?_eq_some_iff.1 h).1
  rw [List.drop_eq_getElem_cons hlt]
  have hx : l[k] = x := by rw [List.getElem?_eq_getElem hlt] at h; exact Option.some.inj h
  rw [hx]
  simp only [packs]
  rw [List.getElem?_append_left (by rw [hf]; exact hr)]
theorem packs_cells (hf : ∀ x, (f x).length = sz) {l : List α} {k : Nat} {x : α} (h : l[k]? = some x) : ((packs f l).drop (k * sz)).take sz = f x := by
  rw [packs_drop hf]
  have hlt : k < l.length := (List.getElem?_eq_some_iff.1 h).1
  rw [List.drop_eq_getElem_cons hlt]
  have hx : l[k] = x := by rw [List.getElem?_eq_getElem hlt] at h; exact Option.some.inj h
  rw [hx]
  simp only [packs]
  rw [List.take_append_of_le_length (by rw [hf]; exact Nat.le_refl _), List.take_of_length_le (by rw [hf]; exact Nat.le_refl _)]
theorem packs_plain (h : ∀ x, AVal.plainL (f x) = true) : ∀ l : List α, AVal.plainL (packs f l) = true
  | [] => rfl
  | x :: l => by
    have app : ∀ a b : List AVal, AVal.plainL a = true → AVal.plainL b = true → AVal.plainL (a ++ b) = true := fun a b ha hb => by
      induction a with
      | nil => exact hb
      | cons y a ih => simp only [AVal.plainL, Bool.and_eq_true] at ha; simp only [List.cons_append, AVal.plainL, ha.1, ih ha.2, Bool.and_self]
    exact app _ _ (h x) (packs_plain h l)
theorem packs_flat (h : ∀ x, AVal.flatL (f x) = true) : ∀ l : List α, AVal.flatL (packs f l) = true
  | [] => rfl
  | x :: l => by
    have app : ∀ a b : List AVal, AVal.flatL a = true → AVal.flatL b = true → AVal.flatL (a ++ b) = true := fun a b ha hb => by
      induction a with
      | nil => exact hb
      | cons y a ih => simp only [AVal.flatL, Bool.and_eq_true] at ha; simp only [List.cons_append, AVal.flatL, ha.1, ih ha.2, Bool.and_self]
    exact app _ _ (h x) (packs_flat h l)
theorem packs_cellOk (h : ∀ x, AVal.cellOkL (f x) = true) : ∀ l : List α, AVal.cellOkL (packs f l) = true
  | [] => rfl
  | x :: l => by
    have app : ∀ a b : List AVal, AVal.cellOkL a = true → AVal.cellOkL b = true → AVal.cellOkL (a ++ b) = true := fun a b ha hb => by
      induction a with
      | nil => exact hb
      | cons y a ih => simp only [AVal.cellOkL, Bool.and_eq_true] at ha; simp only [List.cons_append, AVal.cellOkL, ha.1, ih ha.2, Bool.and_self]
    exact app _ _ (h x) (packs_cellOk h l)
end
def two (x : Int × Int) : List AVal := [.sc (.int .i64 x.1), .sc (.int .i64 x.2)]
theorem two_len (x : Int × Int) : (two x).length = 2 := rfl
def tri (x : Int × Int × Int) : List AVal := [.sc (.int .i64 x.1), .sc (.int .i64 x.2.1), .sc (.int .i64 x.2.2)]
theorem tri_len (x : Int × Int × Int) : (tri x).length = 3 := rfl
abbrev twos (l : List (Int × Int)) : List AVal := packs two l
abbrev tris (l : List (Int × Int × Int)) : List AVal := packs tri l
theorem twos_len (l : List (Int × Int)) : (twos l).length = l.length * 2 := packs_len two_len l
theorem tris_len (l : List (Int × Int × Int)) : (tris l).length = l.length * 3 := packs_len tri_len l
theorem twos_plain (l : List (Int × Int)) : AVal.plainL (twos l) = true := packs_plain (fun _ => rfl) l
theorem tris_plain (l : List (Int × Int × Int)) : AVal.plainL (tris l) = true := packs_plain (fun _ => rfl) l
theorem twos_flat (l : List (Int × Int)) : AVal.flatL (twos l) = true := packs_flat (fun _ => rfl) l
theorem tris_flat (l : List (Int × Int × Int)) : AVal.flatL (tris l) = true := packs_flat (fun _ => rfl) l
theorem twos_cellOk (l : List (Int × Int)) : AVal.cellOkL (twos l) = true := packs_cellOk (fun _ => rfl) l
theorem tris_cellOk (l : List (Int × Int × Int)) : AVal.cellOkL (tris l) = true := packs_cellOk (fun _ => rfl) l
theorem twos_copyable (l : List (Int × Int)) : AVal.copyableL (twos l) = true := plain_copyableL _ (twos_plain l)
theorem tris_copyable (l : List (Int × Int × Int)) : AVal.copyableL (tris l) = true := plain_copyableL _ (tris_plain l)
theorem twos_freeze (l : List (Int × Int)) : AVal.freezeL (twos l) = twos l := copyable_freezeL _ (twos_copyable l)
theorem tris_freeze (l : List (Int × Int × Int)) : AVal.freezeL (tris l) = tris l := copyable_freezeL _ (tris_copyable l)
theorem twos_ids0 (l : List (Int × Int)) : AVal.ids0L (twos l) = true := plain_ids0L _ (twos_plain l)
theorem tris_ids0 (l : List (Int × Int × Int)) : AVal.ids0L (tris l) = true := plain_ids0L _ (tris_plain l)
theorem twos_ren (g : Nat → Option Nat) (l : List (Int × Int)) : AVal.renL g (twos l) = twos l := ids0_renL g _ (twos_ids0 l)
theorem tris_ren (g : Nat → Option Nat) (l : List (Int × Int × Int)) : AVal.renL g (tris l) = tris l := ids0_renL g _ (tris_ids0 l)
theorem two_get0 {l : List (Int × Int)} {k : Nat} {x : Int × Int} (h : l[k]? = some x) : (twos l)[k * 2]? = some (.sc (.int .i64 x.1)) := packs_get two_len h 0 (by decide)
theorem two_get1 {l : List (Int × Int)} {k : Nat} {x : Int × Int} (h : l[k]? = some x) : (twos l)[k * 2 + 1]? = some (.sc (.int .i64 x.2)) := packs_get two_len h 1 (by decide)
theorem two_cells {l : List (Int × Int)} {k : Nat} {x : Int × Int} (h : l[k]? = some x) : ((twos l).drop (k * 2)).take 2 = [.sc (.int .i64 x.1), .sc (.int .i64 x.2)] := packs_cells two_len h
attribute [go_sem] twos_len tris_len twos_plain tris_plain twos_flat tris_flat twos_cellOk tris_cellOk twos_copyable tris_copyable twos_freeze tris_freeze twos_ids0 tris_ids0 twos_ren tris_ren
end Go.Ga
namespace Go.Ga
open Go
section
variable {P : Program} {rs : List Nat} {N : Nat} {V : List Nat} {L : List (List Nat)} {x : ACode} {K : AExit → AState → Prop} {st : AState}
theorem sem_nil (p : List Nat) (sz : Nat) (hp : st.at p = some (.sc (.slice none 0 0))) (h : Wlk P rs N V L x K ((st.kill (AVal.under p true)).setAt p (.own (some sz) []))) : Wlk P rs N V L x K st :=
  sem_ghost (fun E tm R => by
    obtain ⟨u, hu, hr⟩ := R.at_ hp rfl
    cases hr
    have U : Under p E E := ⟨Nat.le_refl _, E.ids_refl, fun _ h _ => ⟨h, rfl⟩, fun _ _ h _ => ⟨h, rfl⟩⟩
    exact ⟨E, R.turn (keep := true) hp rfl (fun _ => ⟨_, _, rfl⟩) U R.lim rfl hu (.ownNil _ sz), Pres.refl E, rfl⟩) h
theorem sem_freeze (p : List Nat) {sz : Option Nat} {cs : List AVal} (hp : st.at p = some (.own sz cs)) (h : Wlk P rs N V L x K ((st.kill (AVal.under p false)).setAt p (AVal.own sz cs).freeze)) : Wlk P rs N V L x K st :=
  sem_ghost (fun E tm R => by
    obtain ⟨u, hu, hr⟩ := R.at_ hp rfl
    have U : Under p E (E.freeze p) := under_freeze p
    have hB : VRel (E.freeze p) (some p) (AVal.own sz cs).freeze u := hr.frozen p _ fun ℓ e => by cases e; exact List.prefix_refl _
    exact ⟨_, R.turn (keep := false) hp rfl (fun e => by cases e) U (lim_freeze R.lim) rfl hu hB, pres_freeze (mine_place (place_of_at hp)), rfl⟩) h
end
def Sees (A' A : AVal) : Prop := ∀ E po v, VRel E po A' v → VRel E po A v
theorem Sees.refl (A : AVal) : Sees A A := fun _ _ _ h => h
theorem Sees.imm (sz : Nat) : Sees (.sc (.slice none 0 0)) (.imm sz []) := fun _ _ _ h => by cases h; exact .immNil _ _ _
theorem Sees.own (sz : Nat) : Sees (.sc (.slice none 0 0)) (.own (some sz) []) := fun _ _ _ h => by cases h; exact .ownNil _ _
theorem Sees.dead (A : AVal) : Sees A .dead := fun _ _ v _ => .dead _ v
inductive SeesL : List AVal → List AVal → Prop
  | nil : SeesL [] []
  | cons {A' A : AVal} {l' l : List AVal} (h : Sees A' A) (hl : SeesL l' l) : SeesL (A' :: l') (A :: l)
theorem SeesL.get : ∀ {l' l : List AVal}, SeesL l' l → l'.length = l.length ∧ ∀ (k : Nat) A, l[k]? = some A → ∃ A', l'[k]? = some A' ∧ Sees A' A
  | _, _, .nil => ⟨rfl, fun k A h => by simp at h⟩
  | _, _, .cons (A' := A') h hl => by
    obtain ⟨h1, h2⟩ := hl.get
    refine ⟨by simp [h1], fun k A hA => ?_⟩
    cases k with
    | zero => simp at hA; subst hA; exact ⟨A', rfl, h⟩
    | succ k => simp at hA; simpa using h2 k A hA
theorem SeesL.refl : ∀ l : List AVal, SeesL l l
  | [] => .nil
  | A :: l => .cons (.refl A) (.refl l)
def rowsO (l : List (List Nat)) : List AVal := l.map fun xs => .own (some 1) (nats xs)
def rowsI (l : List (List Nat)) : List AVal := l.map fun xs => .imm 1 (nats xs)
theorem rowsO_len (l : List (List Nat)) : (rowsO l).length = l.length := by simp [rowsO]
theorem rowsI_len (l : List (List Nat)) : (rowsI l).length = l.length := by simp [rowsI]
theorem rowsO_get {l : List (List Nat)} {k : Nat} {x : List Nat} (h : l[k]? = some x) : (rowsO l)[k]? = some (.own (some 1) (nats x)) := by simp [rowsO, h]
theorem rowsI_get {l : List (List Nat)} {k : Nat} {x : List Nat} (h : l[k]? = some x) : (rowsI l)[k]? = some (.imm 1 (nats x)) := by simp [rowsI, h]
theorem rowsO_set (l : List (List Nat)) (k : Nat) (x : List Nat) : (rowsO l).set k (.own (some 1) (nats x)) = rowsO (l.set k x) := by simp [rowsO, List.map_set]
theorem rowsO_snoc (l : List (List Nat)) (x : List Nat) : rowsO l ++ [.own (some 1) (nats x)] = rowsO (l ++ [x]) := by simp [rowsO]
theorem rowsO_freeze : ∀ l : List (List Nat), AVal.freezeL (rowsO l) = rowsI l
  | [] => rfl
  | x :: l => by
    have ih := rowsO_freeze l
    simp only [rowsO, rowsI, List.map_cons, AVal.freezeL, AVal.freeze, nats_freeze] at ih ⊢
    rw [ih]
theorem rowsI_plain : ∀ l : List (List Nat), AVal.plainL (rowsI l) = true
  | [] => rfl
  | x :: l => by
    have ih := rowsI_plain l
    simp only [rowsI, List.map_cons, AVal.plainL, AVal.plain, nats_plain, Bool.true_and] at ih ⊢
    exact ih
theorem rowsI_cellOk : ∀ l : List (List Nat), AVal.cellOkL (rowsI l) = true
  | [] => rfl
  | x :: l => by
    have ih := rowsI_cellOk l
    simp only [rowsI, List.map_cons, AVal.cellOkL, AVal.cellOk, Bool.true_and] at ih ⊢
    exact ih
theorem rowsO_cellOk : ∀ l : List (List Nat), AVal.cellOkL (rowsO l) = true
  | [] => rfl
  | x :: l => by
    have ih := rowsO_cellOk l
    simp only [rowsO, List.map_cons, AVal.cellOkL, AVal.cellOk, Bool.true_and] at ih ⊢
    exact ih
theorem rowsO_flat : ∀ l : List (List Nat), AVal.flatL (rowsO l) = true
  | [] => rfl
  | x :: l => by
    have ih := rowsO_flat l
    simp only [rowsO, List.map_cons, AVal.flatL, AVal.flat, nats_flat, Bool.true_and] at ih ⊢
    exact ih
theorem rowsO_ids0 : ∀ l : List (List Nat), AVal.ids0L (rowsO l) = true
  | [] => rfl
  | x :: l => by
    have ih := rowsO_ids0 l
    simp only [rowsO, List.map_cons, AVal.ids0L, AVal.ids0, nats_ids0, Bool.true_and] at ih ⊢
    exact ih
theorem rowsI_copyable (l : List (List Nat)) : AVal.copyableL (rowsI l) = true := plain_copyableL _ (rowsI_plain l)
theorem rowsI_freeze (l : List (List Nat)) : AVal.freezeL (rowsI l) = rowsI l := copyable_freezeL _ (rowsI_copyable l)
theorem rowsI_ids0 (l : List (List Nat)) : AVal.ids0L (rowsI l) = true := plain_ids0L _ (rowsI_plain l)
theorem rowsI_ren (g : Nat → Option Nat) (l : List (List Nat)) : AVal.renL g (rowsI l) = rowsI l := ids0_renL g _ (rowsI_ids0 l)
theorem rowsO_ren (g : Nat → Option Nat) (l : List (List Nat)) : AVal.renL g (rowsO l) = rowsO l := ids0_renL g _ (rowsO_ids0 l)
theorem nats_snoc (l : List Nat) (x : Nat) : nats l ++ [.sc (.int .i64 (x : Int))] = nats (l ++ [x]) := by simp [nats]
theorem twos_snoc (l : List (Int × Int)) (a b : Int) : twos l ++ [.sc (.int .i64 a), .sc (.int .i64 b)] = twos (l ++ [(a, b)]) := by simp [twos, packs_append, packs, two]
theorem nats_zero (n : Nat) : zeroCellsA [.int .i64 0] n = nats (List.replicate n 0) := by
  induction n with
  | zero => rfl
  | succ n ih =>
    simp only [zeroCellsA, List.replicate_succ, List.flatten_cons, nats, List.map_cons] at ih ⊢
    rw [ih]; rfl
theorem zc1 (zs : List Value) : zeroCellsA zs 1 = zs.map .sc ++ [] := rfl
theorem zc2 (zs : List Value) : zeroCellsA zs 2 = zs.map .sc ++ (zs.map .sc ++ []) := rfl
theorem zc3 (zs : List Value) : zeroCellsA zs 3 = zs.map .sc ++ (zs.map .sc ++ (zs.map .sc ++ [])) := rfl
attribute [go_sem] zc1 zc2 zc3 rowsO_len rowsI_len rowsO_set rowsO_freeze rowsI_plain rowsI_cellOk rowsO_cellOk rowsO_flat rowsO_ids0 rowsI_copyable rowsI_freeze rowsI_ids0 rowsI_ren rowsO_ren
end Go.Ga
namespace Go.Ga
open Go
section
variable {P : Program} {t : TypeId} {b : Nat}
def inI64 (n : Int) : Prop := -9223372036854775808 ≤ n ∧ n ≤ 9223372036854775807
theorem wf_i64 {n : Int} (h : (Lit.int .i64 n).wf = true) : inI64 n := by
  simp only [Lit.wf, decide_eq_true_eq, Bool.and_eq_true] at h
  have e1 : IntKind.min .i64 = -9223372036854775808 := by decide
  have e2 : IntKind.max .i64 = 9223372036854775807 := by decide
  rw [e1, e2] at h
  exact h
theorem sh_int {k : IntKind} {cs : List AVal} (hu : P.underlying t = some (.int k)) (h : Sh P t cs b) : ∃ n, cs = [.sc (.int k n)] ∧ (Lit.int k n).wf = true ∧ b = 1 := by
  cases h with
  | int _ k' n hu' hw => rw [hu] at hu'; cases hu'; exact ⟨n, rfl, hw, rfl⟩
  | bool _ _ h' => rw [hu] at h'; cases h'
  | string _ _ h' => rw [hu] at h'; cases h'
  | slice _ _ _ _ h' => rw [hu] at h'; cases h'
  | struct _ _ _ h' => rw [hu] at h'; cases h'
  | other _ _ _ h1 => exact absurd hu (h1 k)
theorem sh_slice {e : TypeId} {cs : List AVal} (hu : P.underlying t = some (.slice e)) (h : Sh P t cs b) : ∃ (L : List (List AVal × Nat)) (more : Nat), cs = [.imm (P.cellsOf e) (L.map (·.1)).flatten] ∧ b = 1 + (L.map (·.2)).sum + more ∧ ∀ x ∈ L, Sh P e x.1 x.2 := by
  cases h with
  | slice _ e' L more hu' hl hh => rw [hu] at hu'; cases hu'; exact ⟨L, more, rfl, rfl, hh⟩
  | int _ _ _ h' => rw [hu] at h'; cases h'
  | bool _ _ h' => rw [hu] at h'; cases h'
  | string _ _ h' => rw [hu] at h'; cases h'
  | struct _ _ _ h' => rw [hu] at h'; cases h'
  | other _ _ _ _ _ _ h4 => exact absurd hu (h4 e)
theorem sh_struct {fs : Array Field} {cs : List AVal} (hu : P.underlying t = some (.struct fs)) (h : Sh P t cs b) : ∃ (L : List (List AVal × Nat)), cs = (L.map (·.1)).flatten ∧ b = 1 + (L.map (·.2)).sum ∧ L.length = fs.size ∧ ∀ (i : Nat) f x, fs[i]? = some f → L[i]? = some x → Sh P f.type x.1 x.2 := by
  cases h with
  | struct _ fs' L hu' hl hh => rw [hu] at hu'; cases hu'; exact ⟨L, rfl, rfl, hl, hh⟩
  | int _ _ _ h' => rw [hu] at h'; cases h'
  | bool _ _ h' => rw [hu] at h'; cases h'
  | string _ _ h' => rw [hu] at h'; cases h'
  | slice _ _ _ _ h' => rw [hu] at h'; cases h'
  | other _ _ _ _ _ _ _ h5 => exact absurd hu (h5 fs)
theorem packs_of {α : Type} {f : α → List AVal} {R : α → Prop} : ∀ {L : List (List AVal × Nat)}, (∀ x ∈ L, ∃ y, x.1 = f y ∧ R y ∧ 1 ≤ x.2) → ∃ ys : List α, (L.map (·.1)).flatten = packs f ys ∧ (∀ y ∈ ys, R y) ∧ ys.length ≤ (L.map (·.2)).sum
  | [], _ => ⟨[], rfl, fun y h => (by cases h), Nat.le_refl _⟩
  | x :: L, h => by
    obtain ⟨y, h1, h2, h3⟩ := h x (.head _)
    obtain ⟨ys, g1, g2, g3⟩ := packs_of (L := L) fun z hz => h z (.tail _ hz)
    refine ⟨y :: ys, by simp only [List.map_cons, List.flatten_cons, packs, h1, g1], fun z hz => ?_, by simp only [List.map_cons, List.sum_cons, List.length_cons]; omega⟩
    cases hz with
    | head => exact h2
    | tail _ hz => exact g2 z hz
theorem packs_ints (xs : List Int) : packs (fun n => [AVal.sc (.int .i64 n)]) xs = ints xs := by
  induction xs with
  | nil => rfl
  | cons x xs ih => simp only [packs, ih, ints, List.map_cons, List.singleton_append]
theorem sh_ints {e : TypeId} {cs : List AVal} (hu : P.underlying t = some (.slice e)) (he : P.underlying e = some (.int .i64)) (hc : P.cellsOf e = 1) (h : Sh P t cs b) : ∃ xs : List Int, cs = [.imm 1 (ints xs)] ∧ (∀ x ∈ xs, inI64 x) ∧ xs.length < b := by
  obtain ⟨L, more, rfl, rfl, hL⟩ := sh_slice hu h
  obtain ⟨ys, h1, h2, h3⟩ := packs_of (f := fun n => [AVal.sc (.int .i64 n)]) (R := inI64) (L := L) fun x hx => by
    obtain ⟨n, g1, g2, g3⟩ := sh_int he (hL x hx)
    exact ⟨n, g1, wf_i64 g2, by omega⟩
  exact ⟨ys, by rw [h1, hc, packs_ints], h2, by omega⟩
theorem sh_two {fs : Array Field} {t1 t2 : TypeId} {cs : List AVal} (hu : P.underlying t = some (.struct fs)) (hf : fs.toList.map (·.type) = [t1, t2]) (h1 : P.underlying t1 = some (.int .i64)) (h2 : P.underlying t2 = some (.int .i64)) (h : Sh P t cs b) : ∃ x : Int × Int, cs = two x ∧ (inI64 x.1 ∧ inI64 x.2) ∧ 1 ≤ b := by
  obtain ⟨L, rfl, rfl, hl, hh⟩ := sh_struct hu h
  have hfl : ∀ i T, [t1, t2][i]? = some T → ∃ f : Field, fs[i]? = some f ∧ f.type = T := fun i T hT => by
    rw [← hf, List.getElem?_map] at hT
    obtain ⟨f, g1, g2⟩ := Option.map_eq_some_iff.1 hT
    exact ⟨f, by simpa using g1, g2⟩
  have hsz : fs.size = 2 := by have := congrArg List.length hf; simpa using this
  match L, hl with
  | [x, y], _ =>
    obtain ⟨f1, a1, a2⟩ := hfl 0 t1 rfl
    obtain ⟨f2, b1, b2⟩ := hfl 1 t2 rfl
    obtain ⟨n, c1, c2, _⟩ := sh_int h1 (a2 ▸ hh 0 f1 x a1 rfl)
    obtain ⟨m, d1, d2, _⟩ := sh_int h2 (b2 ▸ hh 1 f2 y b1 rfl)
    exact ⟨(n, m), by simp [c1, d1, two], ⟨wf_i64 c2, wf_i64 d2⟩, by omega⟩
  | [], hl => simp at hl; omega
  | [_], hl => simp at hl; omega
  | _ :: _ :: _ :: _, hl => simp at hl; omega
theorem sh_twos {e : TypeId} {fs : Array Field} {t1 t2 : TypeId} {cs : List AVal} (hu : P.underlying t = some (.slice e)) (he : P.underlying e = some (.struct fs)) (hf : fs.toList.map (·.type) = [t1, t2]) (h1 : P.underlying t1 = some (.int .i64)) (h2 : P.underlying t2 = some (.int .i64)) (hc : P.cellsOf e = 2) (h : Sh P t cs b) :
    ∃ xs : List (Int × Int), cs = [.imm 2 (twos xs)] ∧ (∀ x ∈ xs, inI64 x.1 ∧ inI64 x.2) ∧ xs.length < b := by
  obtain ⟨L, more, rfl, rfl, hL⟩ := sh_slice hu h
  obtain ⟨ys, g1, g2, g3⟩ := packs_of (f := two) (R := fun x => inI64 x.1 ∧ inI64 x.2) (L := L) fun x hx => sh_two he hf h1 h2 (hL x hx)
  exact ⟨ys, by rw [g1, hc], g2, by omega⟩
theorem sa_one {A : AVal} (hu : ∀ fs, P.underlying t ≠ some (.struct fs)) (h : SA P t A b) : Sh P t [A] b := by
  rcases h with ⟨⟨fs, h⟩, _⟩ | ⟨_, h⟩
  · exact absurd h (hu fs)
  · exact h
theorem sa_struct {A : AVal} {fs : Array Field} (hu : P.underlying t = some (.struct fs)) (h : SA P t A b) : ∃ cs, A = .agg cs ∧ Sh P t cs b := by
  rcases h with ⟨_, cs, h1, h2⟩ | ⟨h, _⟩
  · exact ⟨cs, h1, h2⟩
  · exact absurd hu (h fs)
theorem sas_cons {ts : List TypeId} {As : List AVal} (h : SAs P (t :: ts) As b) : ∃ A As' c d, As = A :: As' ∧ b = c + d ∧ SA P t A c ∧ SAs P ts As' d := by
  cases h with
  | cons _ A c _ As' d h hr => exact ⟨A, As', c, d, rfl, rfl, h, hr⟩
theorem sas_nil {As : List AVal} (h : SAs P [] As b) : As = [] := by cases h; rfl
theorem sa_ints {e : TypeId} {A : AVal} (hu : P.underlying t = some (.slice e)) (he : P.underlying e = some (.int .i64)) (hc : P.cellsOf e = 1) (h : SA P t A b) : ∃ xs : List Int, A = .imm 1 (ints xs) ∧ (∀ x ∈ xs, inI64 x) ∧ xs.length < b := by
  obtain ⟨xs, h1, h2⟩ := sh_ints hu he hc (sa_one (fun fs h => by rw [hu] at h; cases h) h)
  exact ⟨xs, by injection h1, h2⟩
end
end Go.Ga
namespace Go.Ga
open Go
theorem heap_row {α : Type} [Inhabited α] (enc : α → Value) (w : World) (n blk off : Nat) (d : Array α) (os : Array Obj) {b : Nat} (hb : b < w.heap.size) :
    (Sort.grow (Sort.putRow enc (Sort.ahead w n) blk off d) os).heap[b]? = if blk = b then (w.heap[b]?).map (Sort.onCells (Sort.putCells enc off d)) else w.heap[b]? := by
  unfold Sort.grow Sort.putRow Sort.mapBlock Sort.ahead
  simp only
  rw [Array.getElem?_append_left (by simpa using hb), Array.getElem?_modify]
theorem acalls_row {P : Program} {f : Nat} (hc : callable P f = true) (g : List Int → List Int) (hg : ∀ zs, (g zs).length = zs.length) (zs : List Int)
    (H : ∀ (blk off cap : Nat) (w : World), Sort.Holds (Value.int .i64) w blk off zs.toArray → blk < w.heap.size →
      Calls P f #[.slice (some ⟨blk, off, none⟩) zs.length cap] w fun e w' => e = .returned (.tuple #[]) ∧ ∃ n os, w' = Sort.grow (Sort.putRow (Value.int .i64) (Sort.ahead w n) blk off (g zs).toArray) os) :
    ACalls P [] f [.sl 0 0 zs.length 1] [some (ints zs)] fun r h' => r = .tup [] ∧ h' = [some (ints (g zs))] := by
  refine ⟨hc, fun E vs hH hs hv => ?_⟩
  have hs1 : vs.size = 1 := hs
  have hv0 := hv 0 _ vs[0] rfl (by simp [hs1])
  have evs : vs = #[vs[0]] := by
    apply Array.ext
    · simpa using hs1
    · intro i h1 h2
      have : i = 0 := by omega
      subst this; rfl
  rw [evs]
  generalize vs[0] = v0 at hv0
  cases hv0 with
  | sl po id off len cap sz hn hcap hm hk =>
  obtain ⟨hO, arr, T, fv, hb, ha, hcs, hf, hr⟩ := hH.objs 0 _ rfl
  have hsize : E.ρ 0 < E.w.heap.size := hH.lim _ _ hO
  have hlen : (ints zs).length = zs.length := ints_len zs
  have hfk : ∀ k (h : k < zs.length), fv k = .int .i64 zs[k] := by
    intro k h
    have e : (ints zs)[k]? = some (.sc (.int .i64 zs[k])) := by simp [ints, h]
    have := hr k _ e
    generalize fv k = u at this
    cases this
    rfl
  have hak : ∀ k, k < zs.length → arr[E.β 0 + k]? = some (fv k) := fun k h => hf k _ (by rw [List.getElem?_eq_getElem (by rw [hlen]; exact h)])
  have hold : Sort.Holds (Value.int .i64) E.w (E.ρ 0) (E.β 0 + 0) zs.toArray := by
    intro j hj
    have hj : j < zs.length := by simpa using hj
    have e := hak j hj
    rw [hfk j hj] at e
    constructor
    · simp [World.cell?, hb, e, hj]
    · simp [World.frozen?, hb]
  refine (H (E.ρ 0) (E.β 0 + 0) cap E.w hold hsize).mono ?_
  rintro e w' ⟨rfl, n, os, rfl⟩
  have hw : ∀ b, b < E.w.heap.size → (Sort.grow (Sort.putRow (Value.int .i64) (Sort.ahead E.w n) (E.ρ 0) (E.β 0 + 0) (g zs).toArray) os).heap[b]? = if E.ρ 0 = b then (E.w.heap[b]?).map (Sort.onCells (Sort.putCells (Value.int .i64) (E.β 0 + 0) (g zs).toArray)) else E.w.heap[b]? :=
    fun b hb => heap_row _ _ _ _ _ _ _ hb
  have hsz : E.w.heap.size ≤ (Sort.grow (Sort.putRow (Value.int .i64) (Sort.ahead E.w n) (E.ρ 0) (E.β 0 + 0) (g zs).toArray) os).heap.size := by
    simp [Sort.grow, Sort.putRow, Sort.mapBlock, Sort.ahead]
  generalize hW : Sort.grow (Sort.putRow (Value.int .i64) (Sort.ahead E.w n) (E.ρ 0) (E.β 0 + 0) (g zs).toArray) os = W at hw hsz
  have hos : W.os = E.w.os ∧ W.tape = E.w.tape ∧ W.output = E.w.output := by subst hW; exact ⟨rfl, rfl, rfl⟩
  refine ⟨.tuple #[], .tup [], [some (ints (g zs))], { E with w := W }, rfl, rfl, ?_, .tup _ _ _ rfl (fun k A v h => by simp at h), ?_, rfl, rfl⟩
  · refine ⟨hH.num, fun b q h => Nat.lt_of_lt_of_le (hH.lim b q h) hsz, ?_⟩
    intro id cs h
    have hid : id = 0 ∧ cs = ints (g zs) := by
      cases id with
      | zero => simp at h; exact ⟨rfl, h.symm⟩
      | succ k => simp at h
    obtain ⟨rfl, rfl⟩ := hid
    refine ⟨hO, Sort.putCells (Value.int .i64) (E.β 0 + 0) (g zs).toArray arr, T, fun k => .int .i64 ((g zs).getD k 0), ?_, ?_, ?_, ?_, ?_⟩
    · show W.heap[E.ρ 0]? = _
      rw [hw _ hsize, if_pos rfl, hb]
      rfl
    · simpa [Sort.putCells] using ha
    · rw [ints_len, hg, ← hlen]; exact hcs
    · intro k A hk'
      have hk1 : k < (g zs).length := by
        have := (List.getElem?_eq_some_iff.1 hk').1
        rwa [ints_len] at this
      have hk2 : k < zs.length := by rw [← hg]; exact hk1
      show (Sort.putCells (Value.int .i64) (E.β 0 + 0) (g zs).toArray arr)[E.β 0 + k]? = _
      unfold Sort.putCells
      rw [Array.getElem?_mapIdx, hak k hk2]
      simp [hk1]
    · intro k A hk'
      have hk1 : k < (g zs).length := by
        have := (List.getElem?_eq_some_iff.1 hk').1
        rwa [ints_len] at this
      have : A = .sc (.int .i64 ((g zs).getD k 0)) := by
        have := hk'
        simp [ints, hk1] at this
        rw [← this]
        simp [hk1]
      rw [this]
      exact .sc _ _
  · have hne : ∀ b, (∀ q, E.O b = some q → q ≠ [1, 0]) → b < E.w.heap.size → W.heap[b]? = E.w.heap[b]? := by
      intro b h1 h2
      rw [hw b h2, if_neg]
      intro hh
      subst hh
      exact h1 _ hO rfl
    refine ⟨hsz, hos.1, hos.2.1, hos.2.2, ?_, ?_, fun b r h => h, ⟨Nat.le_refl _, fun _ _ => ⟨rfl, rfl, rfl⟩⟩, ?_⟩
    · intro b h1 h2
      exact ⟨h1, hne b (fun q hq => by rw [h1] at hq; cases hq) h2⟩
    · intro b r h
      exact ⟨h, hne b (fun q hq => by rw [h] at hq; cases hq; simp) (hH.lim _ _ h)⟩
    · intro b r hW' _ _
      exact absurd hW'.1 (by simp)
end Go.Ga
namespace Go.Ga
open Go
def updAll (vs : List (Nat × AVal)) : List (Nat × AVal) → List (Nat × AVal)
  | [] => vs
  | (i, A) :: l => updAll (upd vs i A) l
theorem updAll_nil (vs : List (Nat × AVal)) : updAll vs [] = vs := rfl
theorem updAll_cons (vs : List (Nat × AVal)) (i : Nat) (A : AVal) (l : List (Nat × AVal)) : updAll vs ((i, A) :: l) = updAll (upd vs i A) l := rfl
theorem set2 (x y a b : AVal) : setCells [x, y] 0 [a, b] = [a, b] := rfl
theorem set3 (x y z a b c : AVal) : setCells [x, y, z] 0 [a, b, c] = [a, b, c] := rfl
theorem mul2 (n : Nat) : n * 2 / 2 = n := by omega
theorem mul3 (n : Nat) : n * 3 / 3 = n := by omega
theorem incS {k : Nat} (h : k < 4611686018427387904) : IntKind.i64.wrap ((k : Int) + 1) = ((k + 1 : Nat) : Int) := by rw [IntWalk.i64_in _ (by omega)]; omega
theorem decS {k : Nat} (h : k < 4611686018427387904) : IntKind.i64.wrap (((k + 1 : Nat) : Int) - 1) = (k : Int) := by rw [IntWalk.i64_in _ (by omega)]; omega
theorem nen {α : Type} (x : α) [Decidable (x ≠ x)] : decide (x ≠ x) = false := decide_eq_false (fun h => h rfl)
theorem eqn {α : Type} (x : α) [Decidable (x = x)] : decide (x = x) = true := decide_eq_true rfl
theorem cut_nats (l : List Nat) (lo hi : Nat) : cutCells (nats l) 1 lo hi = nats ((l.drop lo).take (hi - lo)) := by
  simp [cutCells, nats]
theorem eqInts2 (a b c d : Int) : eqInts [.sc (.int .i64 a), .sc (.int .i64 b)] [.sc (.int .i64 c), .sc (.int .i64 d)] = some (decide ((a, b) = (c, d))) := by
  simp [eqInts]
attribute [go_sem] Int.toNat_zero Int.toNat_one Nat.div_one Int.cast_ofNat_Int decide_true decide_false bne_self_eq_false Bool.not_false Bool.not_true Nat.zero_le or_self true_or or_true List.length_set List.length_range isNilSl eqInts2 Option.bind_some aggOf set2 set3 mul2 mul3 twos_len tris_len nen eqn updAll_nil updAll_cons
theorem SeesL.own {sz : Nat} {l' l : List AVal} (h : SeesL l' l) : Sees (.own (some sz) l') (.own (some sz) l) := fun E po v hv => by
  obtain ⟨h1, h2⟩ := h.get
  cases hv with
  | own ℓ _ _ b o len cap arr T f hO hb hl hc hm ha hf hh =>
    refine .own ℓ sz l b o len cap arr T f hO hb (by rw [← h1]; exact hl) hc hm ha (fun k A hA => ?_) fun k A hA => ?_
    · obtain ⟨A', hA', _⟩ := h2 k A hA; exact hf k A' hA'
    · obtain ⟨A', hA', hs⟩ := h2 k A hA; exact hs _ _ _ (hh k A' hA')
  | ownNil =>
    cases l with
    | nil => exact .ownNil _ _
    | cons => simp at h1
theorem SeesL.imm {sz : Nat} {l' l : List AVal} (h : SeesL l' l) : Sees (.imm sz l') (.imm sz l) := fun E po v hv => by
  obtain ⟨h1, h2⟩ := h.get
  cases hv with
  | imm _ _ _ b o len cap f hO hb hl hc hf hh =>
    refine .imm po sz l b o len cap f hO hb (by rw [← h1]; exact hl) hc (fun k A hA => ?_) fun k A hA => ?_
    · obtain ⟨A', hA', _⟩ := h2 k A hA; exact hf k A' hA'
    · obtain ⟨A', hA', hs⟩ := h2 k A hA; exact hs _ _ _ (hh k A' hA')
  | immNil =>
    cases l with
    | nil => exact .immNil _ _ _
    | cons => simp at h1
theorem SeesL.agg {l' l : List AVal} (h : SeesL l' l) : Sees (.agg l') (.agg l) := fun E po v hv => by
  obtain ⟨h1, h2⟩ := h.get
  cases hv with
  | agg _ _ vs hs hh =>
    refine .agg po l vs (by rw [← h1]; exact hs) fun k A v hA hv => ?_
    obtain ⟨A', hA', hs'⟩ := h2 k A hA
    exact hs' _ _ _ (hh k A' v hA' hv)
theorem SeesL.rep {A' A : AVal} (h : Sees A' A) : ∀ n, SeesL (List.replicate n A') (List.replicate n A)
  | 0 => .nil
  | n + 1 => .cons h (SeesL.rep h n)
section
variable {P : Program} {rs : List Nat} {N : Nat} {V : List Nat} {L : List (List Nat)} {x : ACode} {K : AExit → AState → Prop} {st : AState}
theorem sem_sees (p : List Nat) {A : AVal} (B : AVal) (hp : st.at p = some A) (hA : A.isAlias = false) (hs : Sees A B) (h : Wlk P rs N V L x K ((st.kill (AVal.under p false)).setAt p B)) : Wlk P rs N V L x K st :=
  sem_ghost (fun E tm R => by
    obtain ⟨u, hu, hr⟩ := R.at_ hp hA
    have U : Under p E E := ⟨Nat.le_refl _, E.ids_refl, fun _ h _ => ⟨h, rfl⟩, fun _ _ h _ => ⟨h, rfl⟩⟩
    exact ⟨E, R.turn (keep := false) hp hA (fun e => by cases e) U R.lim rfl hu (hs _ _ _ hr), Pres.refl E, rfl⟩) h
theorem sem_share (p : List Nat) {cs : List AVal} (hp : st.at p = some (.own none cs)) (h : Wlk P rs N V [] x K (st.shareAt p cs (.ptr st.h.length 0))) : Wlk P rs N V [] x K st :=
  sem_ghost (fun E tm R => by
    obtain ⟨E1, R1, _, P1, hw, _⟩ := share_sound (a := ⟨tm, []⟩) (L := []) (l := []) R hp (fun y hy => by cases hy) rfl
    exact ⟨E1, R1, P1, hw⟩) h
end
theorem zero_nil (n : Nat) : zeroCellsA [.slice none 0 0] n = List.replicate n (.sc (.slice none 0 0)) := by
  simp only [zeroCellsA, List.map]
  induction n with
  | zero => rfl
  | succ n ih => simp only [List.replicate_succ, List.flatten_cons, ih]; rfl
theorem rowsO_rep (n : Nat) : rowsO (List.replicate n []) = List.replicate n (.own (some 1) []) := by
  simp [rowsO, nats]
theorem sees_rows (n : Nat) : Sees (.own (some 1) (zeroCellsA [.slice none 0 0] n)) (.own (some 1) (rowsO (List.replicate n []))) := by
  rw [zero_nil, rowsO_rep]
  exact (SeesL.rep (Sees.own 1) n).own
def bools (xs : List Bool) : List AVal := xs.map fun b => .sc (.bool b)
theorem bools_len (xs : List Bool) : (bools xs).length = xs.length := by simp [bools]
theorem bools_get {xs : List Bool} {k : Nat} (h : k < xs.length) : (bools xs)[k]? = some (.sc (.bool (xs.getD k false))) := by
  simp [bools, List.getD_eq_getElem?_getD, List.getElem?_eq_getElem h]
theorem bools_set (xs : List Bool) (k : Nat) (b : Bool) : (bools xs).set k (.sc (.bool b)) = bools (xs.set k b) := by
  simp [bools, List.map_set]
theorem bools_plain (xs : List Bool) : AVal.plainL (bools xs) = true := (scs_all _ xs).1
theorem bools_flat (xs : List Bool) : AVal.flatL (bools xs) = true := (scs_all _ xs).2
theorem bools_cellOk : ∀ xs : List Bool, AVal.cellOkL (bools xs) = true
  | [] => rfl
  | b :: l => by show (_ && AVal.cellOkL (bools l)) = true; rw [bools_cellOk l]; rfl
theorem bools_copyable (xs : List Bool) : AVal.copyableL (bools xs) = true := plain_copyableL _ (bools_plain xs)
theorem bools_freeze (xs : List Bool) : AVal.freezeL (bools xs) = bools xs := copyable_freezeL _ (bools_copyable xs)
theorem bools_ids0 (xs : List Bool) : AVal.ids0L (bools xs) = true := plain_ids0L _ (bools_plain xs)
theorem bools_ren (g : Nat → Option Nat) (xs : List Bool) : AVal.renL g (bools xs) = bools xs := ids0_renL g _ (bools_ids0 xs)
theorem bools_zero (n : Nat) : zeroCellsA [.bool false] n = bools (List.replicate n false) := by
  simp only [zeroCellsA, List.map]
  induction n with
  | zero => rfl
  | succ n ih => simp only [List.replicate_succ, List.flatten_cons, ih]; rfl
attribute [go_sem] bools_len bools_set bools_plain bools_flat bools_cellOk bools_copyable bools_freeze bools_ids0 bools_ren bools_zero
theorem ACalls.seen {P : Program} {L : List (List Nat)} {f : Nat} {args : List AVal} {h : Heap} {Q Q' : AVal → Heap → Prop} (H : ACalls P L f args h Q) (hs : ∀ r h', Q r h' → ∃ r', Sees r r' ∧ Q' r' h') : ACalls P L f args h Q' := by
  refine ⟨H.1, fun E vs hH hsz hv => (H.2 E vs hH hsz hv).mono ?_⟩
  rintro e w' ⟨v, r, h', E', he, hw, hH', hr, hP, hQ⟩
  obtain ⟨r', h1, h2⟩ := hs r h' hQ
  exact ⟨v, r', h', E', he, hw, hH', h1 _ _ _ hr, hP, h2⟩
section
variable {P : Program} {rs : List Nat} {N : Nat} {V : List Nat} {L : List (List Nat)} {K : AExit → AState → Prop} {x : ACode}
theorem wlk_lp {vs : List (Nat × AVal)} {h0 : Heap} {α : Type} (J : List Nat) (f : α → List (Nat × AVal)) (g : α → Heap) (inv : α → Nat → Prop) (a0 : α) (n0 : Nat) (hJ : (J.all fun i => V.contains i) = true)
    (hs : AState.forget ⟨vs, [], h0⟩ J = ⟨updAll vs (J.map (fun i => (i, AVal.dead)) ++ f a0), [], g a0⟩) (hi : inv a0 n0)
    (h : ∀ a n, inv a n → ∀ X : AExit → AState → Prop, (∀ s a' m, m < n → s.forget J = ⟨updAll vs (J.map (fun i => (i, AVal.dead)) ++ f a'), [], g a'⟩ → inv a' m → X .normal s) → (∀ i s, K (.exit i) s → X (.exit i) s) → (∀ s, K .ret s → X .ret s) →
      Wlk P rs N V L x X ⟨updAll vs (J.map (fun i => (i, AVal.dead)) ++ f a), [], g a⟩) : Wlk P rs N V L (.loop x) K ⟨vs, [], h0⟩ := by
  refine wlk_loop (fun n s => ∃ a, inv a n ∧ s.forget J = ⟨updAll vs (J.map (fun i => (i, AVal.dead)) ++ f a), [], g a⟩) n0 ⟨a0, hi, hs⟩ ?_
  rintro n s ⟨a, ha, hst⟩ X hn he hr
  refine sem_forget J hJ ?_
  rw [hst]
  exact h a n ha X (fun s a' m hm hs' hi' => hn m s hm ⟨a', hi', hs'⟩) he hr
end
end Go.Ga
namespace Go.Ga
open Go
section
variable {P : Program} {t : TypeId} {b : Nat}
theorem sh_duo {fs : Array Field} {t1 t2 : TypeId} {cs : List AVal} (hu : P.underlying t = some (.struct fs)) (hf : fs.toList.map (·.type) = [t1, t2]) (h : Sh P t cs b) : ∃ c1 b1 c2 b2, cs = c1 ++ c2 ∧ b1 ≤ b ∧ b2 ≤ b ∧ Sh P t1 c1 b1 ∧ Sh P t2 c2 b2 := by
  obtain ⟨L, rfl, rfl, hl, hh⟩ := sh_struct hu h
  have hfl : ∀ i T, [t1, t2][i]? = some T → ∃ f : Field, fs[i]? = some f ∧ f.type = T := fun i T hT => by
    rw [← hf, List.getElem?_map] at hT
    obtain ⟨f, g1, g2⟩ := Option.map_eq_some_iff.1 hT
    exact ⟨f, by simpa using g1, g2⟩
  have hsz : fs.size = 2 := by have := congrArg List.length hf; simpa using this
  match L, hl with
  | [x, y], _ =>
    obtain ⟨f1, a1, a2⟩ := hfl 0 t1 rfl
    obtain ⟨f2, b1, b2⟩ := hfl 1 t2 rfl
    exact ⟨x.1, x.2, y.1, y.2, by simp, by simp; omega, by simp; omega, a2 ▸ hh 0 f1 x a1 rfl, b2 ▸ hh 1 f2 y b1 rfl⟩
  | [], hl => simp at hl; omega
  | [_], hl => simp at hl; omega
  | _ :: _ :: _ :: _, hl => simp at hl; omega
theorem sa_graph {fs gs : Array Field} {t1 t2 e u1 u2 : TypeId} {A : AVal} (hu : P.underlying t = some (.struct fs)) (hf : fs.toList.map (·.type) = [t1, t2]) (h1 : P.underlying t1 = some (.int .i64)) (h2 : P.underlying t2 = some (.slice e)) (he : P.underlying e = some (.struct gs)) (hg : gs.toList.map (·.type) = [u1, u2])
    (g1 : P.underlying u1 = some (.int .i64)) (g2 : P.underlying u2 = some (.int .i64)) (hc : P.cellsOf e = 2) (h : SA P t A b) : ∃ (n : Int) (xs : List (Int × Int)), A = .agg [.sc (.int .i64 n), .imm 2 (twos xs)] ∧ inI64 n ∧ (∀ x ∈ xs, inI64 x.1 ∧ inI64 x.2) ∧ xs.length < b := by
  obtain ⟨cs, rfl, h0⟩ := sa_struct hu h
  obtain ⟨c1, b1, c2, b2, rfl, l1, l2, s1, s2⟩ := sh_duo hu hf h0
  obtain ⟨n, rfl, w, _⟩ := sh_int h1 s1
  obtain ⟨xs, rfl, w2, w3⟩ := sh_twos h2 he hg g1 g2 hc s2
  exact ⟨n, xs, rfl, wf_i64 w, w2, by omega⟩
end
end Go.Ga
