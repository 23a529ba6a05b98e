/- Values, objects, and code by what it leads to: a library of this claim's own. No condition. -/
import Derived.Test.YticfnlclbmibeaaGa4
set_option linter.all false
/- GA, part 39: objects that nobody needs any more. -/
namespace Go.Ga
open Go

def keepN (n : Nat) (j : Nat) : Option Nat := if j < n then some j else none

def trimO (n : Nat) (O : Nat → Option (List Nat)) (b : Nat) : Option (List Nat) :=
  match O b with
  | some (1 :: j :: r) => if j < n then some (1 :: j :: r) else none
  | x => x

def Env.trim (E : Env) (n : Nat) : Env := { E with O := trimO n E.O, n := n }

theorem ACalls.trim {P : Program} {L : List (List Nat)} {f : Nat} {args : List AVal} {h : Heap} {Q : AVal → Heap → Prop} (H : ACalls P L f args h fun r h' => h.length ≤ h'.length ∧ Q (r.ren (keepN h.length)) (renH (keepN h.length) (h'.take h.length))) : ACalls P L f args h Q := by
  refine ⟨H.1, fun E vs h1 h2 h3 => (H.2 E vs h1 h2 h3).mono fun e w' ⟨v, r, h', E', he, hw, HR, hr, hP, hle, hQ⟩ => ?_⟩
  have hg : RenOk E' (E'.trim h.length) (keepN h.length) := fun id j hj hid => by
    unfold keepN at hj
    split at hj
    · cases hj; rename_i hlt; exact ⟨hlt, rfl, rfl, rfl⟩
    · cases hj
  have hN : ∀ b, E'.O b = none → b < E'.w.heap.size → (E'.trim h.length).O b = none ∧ (E'.trim h.length).w.heap[b]? = E'.w.heap[b]? := fun b hb _ => ⟨by show trimO _ _ b = none; simp [trimO, hb], rfl⟩
  have h3' : ∀ b s, E'.O b = some ([3] ++ s) → (E'.trim h.length).O b = some ([3] ++ s) := fun b s hb => by show trimO _ _ b = _; simp [trimO, hb]
  have h1' : ∀ id b s, id < h.length → E'.O b = some ([1, id] ++ s) → (E'.trim h.length).O b = some ([1, id] ++ s) := fun id b s hid hb => by show trimO _ _ b = _; simp [trimO, hb, hid]
  refine ⟨v, _, _, E'.trim h.length, he, hw, ?_, ?_, ?_, hQ⟩
  · refine ⟨?_, fun b q hb => ?_, fun id cs hcs => ?_⟩
    · show h.length = (renH _ _).length
      rw [renH_len, List.length_take]; omega
    · have hb' : trimO h.length E'.O b = some q := hb
      cases hO : E'.O b with
      | none => simp [trimO, hO] at hb'
      | some ℓ => exact HR.lim b ℓ hO
    · obtain ⟨cs0, h0, rfl⟩ := renH_get _ _ _ hcs
      rw [List.getElem?_take] at h0
      split at h0
      · rename_i hid
        obtain ⟨hO, arr, T, f, hb, ha, hl, hf, hv⟩ := HR.objs id cs0 h0
        refine ⟨(h1' id _ [] hid (by simpa using hO) : (E'.trim h.length).O (E'.ρ id) = some ([1, id] ++ [])), arr, T, f, hb, ha, by rw [renL_length]; exact hl, fun k A hk => ?_, fun k A hk => ?_⟩
        · obtain ⟨B, hB, _⟩ := renL_some hk
          exact hf k B hB
        · obtain ⟨B, hB, rfl⟩ := renL_some hk
          exact (hv k B hB).renK hg (Nat.le_refl _) hN (fun b s hb => ⟨h1' id b s hid hb, rfl⟩)
      · cases h0
  · have := VRel.renK (p := [3]) (q := [3]) (r := []) hg (Nat.le_refl _) hN (fun b s hb => ⟨h3' b s hb, rfl⟩) (by simpa using hr)
    simpa using this
  · refine ⟨hP.size, hP.os, hP.tape, hP.output, fun b hb hs => ?_, fun b r hb => ?_, fun b r hb => ?_, ⟨by rw [h1.num]; exact Nat.le_refl _, hP.ids.2⟩, fun b r hr hb hs => ?_⟩
    · obtain ⟨x1, x2⟩ := hP.old b hb hs
      exact ⟨by show trimO _ _ b = none; simp [trimO, x1], x2⟩
    · obtain ⟨x1, x2⟩ := hP.far b r hb
      exact ⟨by show trimO _ _ b = _; simp [trimO, x1], x2⟩
    · refine hP.farB b r ?_
      have hb' : trimO h.length E'.O b = some (2 :: r) := hb
      unfold trimO at hb'
      split at hb'
      · split at hb' <;> cases hb'
      · exact hb'
    · obtain ⟨x1, x2⟩ := hP.keep b r hr hb hs
      refine ⟨?_, x2⟩
      rcases x1 with x1 | x1
      · show trimO _ _ b = _ ∨ trimO _ _ b = _
        unfold trimO
        rw [x1]
        split
        · rename_i heq; cases heq; split
          · exact .inl rfl
          · exact .inr rfl
        · exact .inl rfl
      · right; show trimO _ _ b = none; simp [trimO, x1]

theorem ACalls.less {P : Program} {L L' : List (List Nat)} {f : Nat} {args : List AVal} {h : Heap} {Q : AVal → Heap → Prop} (H : ACalls P L f args h Q) (hL : ∀ r ∈ L', r ∈ L) : ACalls P L' f args h Q :=
  ⟨H.1, fun E vs h1 h2 h3 => (H.2 E vs h1 h2 h3).mono fun _ _ ⟨v, r, h', E', a, b, c, d, e, q⟩ => ⟨v, r, h', E', a, b, c, d, ⟨e.size, e.os, e.tape, e.output, e.old, e.far, e.farB, e.ids, fun b r hr => e.keep b r ⟨hL r hr.1, hr.2⟩⟩, q⟩⟩
theorem ACalls.nil {P : Program} {L : List (List Nat)} {f : Nat} {args : List AVal} {h : Heap} {Q : AVal → Heap → Prop} (H : ACalls P L f args h Q) : ACalls P [] f args h Q := H.less fun r hr => by cases hr

attribute [go_sem] keepN

end Go.Ga

/- GA, part 40: rows of cells. -/
namespace Go.Ga
open Go

/-- Rows of cells, one behind the other. -/
def packs {α : Type} (f : α → List AVal) : List α → List AVal
  | [] => []
  | x :: l => f x ++ packs f l

section
variable {α : Type} {f : α → List AVal} {sz : Nat}

theorem packs_len (hf : ∀ x, (f x).length = sz) : ∀ l : List α, (packs f l).length = l.length * sz
  | [] => by simp [packs]
  | x :: l => by simp only [packs, List.length_append, hf, packs_len hf l, List.length_cons, Nat.add_mul]; omega

theorem packs_append : ∀ l m : List α, packs f (l ++ m) = packs f l ++ packs f m
  | [], m => rfl
  | x :: l, m => by simp only [List.cons_append, packs, packs_append l m, List.append_assoc]

theorem packs_drop (hf : ∀ x, (f x).length = sz) : ∀ (l : List α) (k : Nat), (packs f l).drop (k * sz) = packs f (l.drop k)
  | [], k => by simp [packs]
  | x :: l, 0 => by simp
  | x :: l, k + 1 => by
    simp only [packs, List.drop_succ_cons]
    rw [← packs_drop hf l k, Nat.add_mul, Nat.one_mul, List.drop_append, hf]
    rw [List.drop_of_length_le (by rw [hf]; omega), List.nil_append]
    congr 1; omega

theorem packs_take (hf : ∀ x, (f x).length = sz) : ∀ (l : List α) (k : Nat), (packs f l).take (k * sz) = packs f (l.take k)
  | [], k => by simp [packs]
  | x :: l, 0 => by simp [packs]
  | x :: l, k + 1 => by
    simp only [packs, List.take_succ_cons]
    rw [← packs_take hf l k, Nat.add_mul, Nat.one_mul, List.take_append, hf]
    rw [List.take_of_length_le (by rw [hf]; omega)]
    congr 2; omega

theorem packs_get (hf : ∀ x, (f x).length = sz) {l : List α} {k : Nat} {x : α} (h : l[k]? = some x) (r : Nat) (hr : r < sz) : (packs f l)[k * sz + r]? = (f x)[r]? := by
  rw [← List.getElem?_drop, packs_drop hf]
  have hlt : k < l.length := (List.getElem?_eq_some_iff.1 h).1
  rw [List.drop_eq_getElem_cons hlt]
  have hx : l[k] = x := by rw [List.getElem?_eq_getElem hlt] at h; exact Option.some.inj h
  rw [hx]
  simp only [packs]
  rw [List.getElem?_append_left (by rw [hf]; exact hr)]

theorem packs_cells (hf : ∀ x, (f x).length = sz) {l : List α} {k : Nat} {x : α} (h : l[k]? = some x) : ((packs f l).drop (k * sz)).take sz = f x := by
  rw [packs_drop hf]
  have hlt : k < l.length := (List.getElem?_eq_some_iff.1 h).1
  rw [List.drop_eq_getElem_cons hlt]
  have hx : l[k] = x := by rw [List.getElem?_eq_getElem hlt] at h; exact Option.some.inj h
  rw [hx]
  simp only [packs]
  rw [List.take_append_of_le_length (by rw [hf]; exact Nat.le_refl _), List.take_of_length_le (by rw [hf]; exact Nat.le_refl _)]

theorem packs_set (hf : ∀ x, (f x).length = sz) {l : List α} {k : Nat} (h : k < l.length) (x : α) : (packs f l).take (k * sz) ++ f x ++ (packs f l).drop (k * sz + sz) = packs f (l.set k x) := by
  have e : k * sz + sz = (k + 1) * sz := by rw [Nat.add_mul, Nat.one_mul]
  rw [e, packs_drop hf, packs_take hf, List.set_eq_take_append_cons_drop, if_pos h, packs_append]
  simp only [packs, List.append_assoc]

theorem packs_set1 (hf : ∀ x, (f x).length = sz) {l : List α} {k : Nat} {x y : α} (h : l[k]? = some x) (r : Nat) (hr : r < sz) {A : AVal} (hxy : (f x).set r A = f y) : (packs f l).set (k * sz + r) A = packs f (l.set k y) := by
  have hlt : k < l.length := (List.getElem?_eq_some_iff.1 h).1
  have hx : l[k] = x := by rw [List.getElem?_eq_getElem hlt] at h; exact Option.some.inj h
  rw [← packs_set hf hlt y, ← hxy]
  apply List.ext_getElem?
  intro j
  have hl := packs_len hf l
  have hkl : k * sz + sz ≤ l.length * sz := by
    rw [show k * sz + sz = (k + 1) * sz by rw [Nat.add_mul, Nat.one_mul]]
    exact Nat.mul_le_mul_right _ hlt
  have htl : ((packs f l).take (k * sz)).length = k * sz := by rw [List.length_take]; omega
  rw [List.append_assoc, List.getElem?_set]
  by_cases h1 : j < k * sz
  · rw [List.getElem?_append_left (by omega), List.getElem?_take_of_lt h1, if_neg (by omega)]
  · rw [List.getElem?_append_right (by omega), htl]
    by_cases h2 : j < k * sz + sz
    · rw [List.getElem?_append_left (by rw [List.length_set, hf]; omega), List.getElem?_set, hf]
      by_cases h3 : k * sz + r = j
      · subst h3
        rw [if_pos rfl, if_pos (by omega), if_pos (by omega), if_pos (by omega)]
      · rw [if_neg h3, if_neg (by omega)]
        have := packs_get hf h (j - k * sz) (by omega)
        rw [← this]
        congr 1; omega
    · rw [List.getElem?_append_right (by rw [List.length_set, hf]; omega), List.length_set, hf, List.getElem?_drop, if_neg (by omega)]
      congr 1; omega

theorem packs_plain (h : ∀ x, AVal.plainL (f x) = true) : ∀ l : List α, AVal.plainL (packs f l) = true
  | [] => rfl
  | x :: l => by
    have app : ∀ a b : List AVal, AVal.plainL a = true → AVal.plainL b = true → AVal.plainL (a ++ b) = true := fun a b ha hb => by
      induction a with
      | nil => exact hb
      | cons y a ih => simp only [AVal.plainL, Bool.and_eq_true] at ha; simp only [List.cons_append, AVal.plainL, ha.1, ih ha.2, Bool.and_self]
    exact app _ _ (h x) (packs_plain h l)
theorem packs_flat (h : ∀ x, AVal.flatL (f x) = true) : ∀ l : List α, AVal.flatL (packs f l) = true
  | [] => rfl
  | x :: l => by
    have app : ∀ a b : List AVal, AVal.flatL a = true → AVal.flatL b = true → AVal.flatL (a ++ b) = true := fun a b ha hb => by
      induction a with
      | nil => exact hb
      | cons y a ih => simp only [AVal.flatL, Bool.and_eq_true] at ha; simp only [List.cons_append, AVal.flatL, ha.1, ih ha.2, Bool.and_self]
    exact app _ _ (h x) (packs_flat h l)
theorem packs_cellOk (h : ∀ x, AVal.cellOkL (f x) = true) : ∀ l : List α, AVal.cellOkL (packs f l) = true
  | [] => rfl
  | x :: l => by
    have app : ∀ a b : List AVal, AVal.cellOkL a = true → AVal.cellOkL b = true → AVal.cellOkL (a ++ b) = true := fun a b ha hb => by
      induction a with
      | nil => exact hb
      | cons y a ih => simp only [AVal.cellOkL, Bool.and_eq_true] at ha; simp only [List.cons_append, AVal.cellOkL, ha.1, ih ha.2, Bool.and_self]
    exact app _ _ (h x) (packs_cellOk h l)
end

/-- Pairs of numbers, in two cells each. -/
def two (x : Int × Int) : List AVal := [.sc (.int .i64 x.1), .sc (.int .i64 x.2)]
theorem two_len (x : Int × Int) : (two x).length = 2 := rfl
/-- Three numbers each. -/
def tri (x : Int × Int × Int) : List AVal := [.sc (.int .i64 x.1), .sc (.int .i64 x.2.1), .sc (.int .i64 x.2.2)]
theorem tri_len (x : Int × Int × Int) : (tri x).length = 3 := rfl

abbrev twos (l : List (Int × Int)) : List AVal := packs two l
abbrev tris (l : List (Int × Int × Int)) : List AVal := packs tri l
theorem twos_len (l : List (Int × Int)) : (twos l).length = l.length * 2 := packs_len two_len l
theorem tris_len (l : List (Int × Int × Int)) : (tris l).length = l.length * 3 := packs_len tri_len l
theorem twos_plain (l : List (Int × Int)) : AVal.plainL (twos l) = true := packs_plain (fun _ => rfl) l
theorem tris_plain (l : List (Int × Int × Int)) : AVal.plainL (tris l) = true := packs_plain (fun _ => rfl) l
theorem twos_flat (l : List (Int × Int)) : AVal.flatL (twos l) = true := packs_flat (fun _ => rfl) l
theorem tris_flat (l : List (Int × Int × Int)) : AVal.flatL (tris l) = true := packs_flat (fun _ => rfl) l
theorem twos_cellOk (l : List (Int × Int)) : AVal.cellOkL (twos l) = true := packs_cellOk (fun _ => rfl) l
theorem tris_cellOk (l : List (Int × Int × Int)) : AVal.cellOkL (tris l) = true := packs_cellOk (fun _ => rfl) l
theorem twos_copyable (l : List (Int × Int)) : AVal.copyableL (twos l) = true := plain_copyableL _ (twos_plain l)
theorem tris_copyable (l : List (Int × Int × Int)) : AVal.copyableL (tris l) = true := plain_copyableL _ (tris_plain l)
theorem twos_freeze (l : List (Int × Int)) : AVal.freezeL (twos l) = twos l := copyable_freezeL _ (twos_copyable l)
theorem tris_freeze (l : List (Int × Int × Int)) : AVal.freezeL (tris l) = tris l := copyable_freezeL _ (tris_copyable l)
theorem twos_ids0 (l : List (Int × Int)) : AVal.ids0L (twos l) = true := plain_ids0L _ (twos_plain l)
theorem tris_ids0 (l : List (Int × Int × Int)) : AVal.ids0L (tris l) = true := plain_ids0L _ (tris_plain l)
theorem twos_ren (g : Nat → Option Nat) (l : List (Int × Int)) : AVal.renL g (twos l) = twos l := ids0_renL g _ (twos_ids0 l)
theorem tris_ren (g : Nat → Option Nat) (l : List (Int × Int × Int)) : AVal.renL g (tris l) = tris l := ids0_renL g _ (tris_ids0 l)

theorem two_get0 {l : List (Int × Int)} {k : Nat} {x : Int × Int} (h : l[k]? = some x) : (twos l)[k * 2]? = some (.sc (.int .i64 x.1)) := packs_get two_len h 0 (by decide)
theorem two_get1 {l : List (Int × Int)} {k : Nat} {x : Int × Int} (h : l[k]? = some x) : (twos l)[k * 2 + 1]? = some (.sc (.int .i64 x.2)) := packs_get two_len h 1 (by decide)
theorem two_cells {l : List (Int × Int)} {k : Nat} {x : Int × Int} (h : l[k]? = some x) : ((twos l).drop (k * 2)).take 2 = [.sc (.int .i64 x.1), .sc (.int .i64 x.2)] := packs_cells two_len h
theorem two_set {l : List (Int × Int)} {k : Nat} (h : k < l.length) (a b : Int) : setCells (twos l) (k * 2) [.sc (.int .i64 a), .sc (.int .i64 b)] = twos (l.set k (a, b)) := packs_set two_len h (a, b)
theorem two_set0 {l : List (Int × Int)} {k : Nat} {x : Int × Int} (h : l[k]? = some x) (a : Int) : (twos l).set (k * 2) (.sc (.int .i64 a)) = twos (l.set k (a, x.2)) := packs_set1 two_len h 0 (by decide) (y := (a, x.2)) rfl
theorem two_set1 {l : List (Int × Int)} {k : Nat} {x : Int × Int} (h : l[k]? = some x) (a : Int) : (twos l).set (k * 2 + 1) (.sc (.int .i64 a)) = twos (l.set k (x.1, a)) := packs_set1 two_len h 1 (by decide) (y := (x.1, a)) rfl
theorem tri_get0 {l : List (Int × Int × Int)} {k : Nat} {x : Int × Int × Int} (h : l[k]? = some x) : (tris l)[k * 3]? = some (.sc (.int .i64 x.1)) := packs_get tri_len h 0 (by decide)
theorem tri_get1 {l : List (Int × Int × Int)} {k : Nat} {x : Int × Int × Int} (h : l[k]? = some x) : (tris l)[k * 3 + 1]? = some (.sc (.int .i64 x.2.1)) := packs_get tri_len h 1 (by decide)
theorem tri_get2 {l : List (Int × Int × Int)} {k : Nat} {x : Int × Int × Int} (h : l[k]? = some x) : (tris l)[k * 3 + 2]? = some (.sc (.int .i64 x.2.2)) := packs_get tri_len h 2 (by decide)
theorem tri_set {l : List (Int × Int × Int)} {k : Nat} (h : k < l.length) (a b c : Int) : setCells (tris l) (k * 3) [.sc (.int .i64 a), .sc (.int .i64 b), .sc (.int .i64 c)] = tris (l.set k (a, b, c)) := packs_set tri_len h (a, b, c)

attribute [go_sem] twos_len tris_len twos_plain tris_plain twos_flat tris_flat twos_cellOk tris_cellOk twos_copyable tris_copyable twos_freeze tris_freeze twos_ids0 tris_ids0 twos_ren tris_ren

end Go.Ga

/- GA, part 41: nil slices; rows of rows; arguments that are seen otherwise. -/
namespace Go.Ga
open Go

def nilV : Value := .slice none 0 0

section
variable {P : Program} {rs : List Nat} {N : Nat} {V : List Nat} {L : List (List Nat)} {x : ACode} {K : AExit → AState → Prop} {st : AState}

/-- A nil slice is one that is owned, without elements. -/
theorem sem_nil (p : List Nat) (sz : Nat) (hp : st.at p = some (.sc (.slice none 0 0))) (h : Wlk P rs N V L x K ((st.kill (AVal.under p true)).setAt p (.own (some sz) []))) : Wlk P rs N V L x K st :=
  sem_ghost (fun E tm R => by
    obtain ⟨u, hu, hr⟩ := R.at_ hp rfl
    cases hr
    have U : Under p E E := ⟨Nat.le_refl _, E.ids_refl, fun _ h _ => ⟨h, rfl⟩, fun _ _ h _ => ⟨h, rfl⟩⟩
    exact ⟨E, R.turn (keep := true) hp rfl (fun _ => ⟨_, _, rfl⟩) U R.lim rfl hu (.ownNil _ sz), Pres.refl E, rfl⟩) h

/-- What is owned is turned no more. -/
theorem sem_freeze (p : List Nat) {sz : Option Nat} {cs : List AVal} (hp : st.at p = some (.own sz cs)) (h : Wlk P rs N V L x K ((st.kill (AVal.under p false)).setAt p (AVal.own sz cs).freeze)) : Wlk P rs N V L x K st :=
  sem_ghost (fun E tm R => by
    obtain ⟨u, hu, hr⟩ := R.at_ hp rfl
    have U : Under p E (E.freeze p) := under_freeze p
    have hB : VRel (E.freeze p) (some p) (AVal.own sz cs).freeze u := hr.frozen p _ fun ℓ e => by cases e; exact List.prefix_refl _
    exact ⟨_, R.turn (keep := false) hp rfl (fun e => by cases e) U (lim_freeze R.lim) rfl hu hB, pres_freeze (mine_place (place_of_at hp)), rfl⟩) h
end

/-- A value that may be seen as another one. -/
def Sees (A' A : AVal) : Prop := ∀ E po v, VRel E po A' v → VRel E po A v
theorem Sees.refl (A : AVal) : Sees A A := fun _ _ _ h => h
theorem Sees.imm (sz : Nat) : Sees (.sc (.slice none 0 0)) (.imm sz []) := fun _ _ _ h => by cases h; exact .immNil _ _ _
theorem Sees.own (sz : Nat) : Sees (.sc (.slice none 0 0)) (.own (some sz) []) := fun _ _ _ h => by cases h; exact .ownNil _ _
theorem Sees.dead (A : AVal) : Sees A .dead := fun _ _ v _ => .dead _ v

inductive SeesL : List AVal → List AVal → Prop
  | nil : SeesL [] []
  | cons {A' A : AVal} {l' l : List AVal} (h : Sees A' A) (hl : SeesL l' l) : SeesL (A' :: l') (A :: l)

theorem SeesL.get : ∀ {l' l : List AVal}, SeesL l' l → l'.length = l.length ∧ ∀ (k : Nat) A, l[k]? = some A → ∃ A', l'[k]? = some A' ∧ Sees A' A
  | _, _, .nil => ⟨rfl, fun k A h => by simp at h⟩
  | _, _, .cons (A' := A') h hl => by
    obtain ⟨h1, h2⟩ := hl.get
    refine ⟨by simp [h1], fun k A hA => ?_⟩
    cases k with
    | zero => simp at hA; subst hA; exact ⟨A', rfl, h⟩
    | succ k => simp at hA; simpa using h2 k A hA
theorem SeesL.refl : ∀ l : List AVal, SeesL l l
  | [] => .nil
  | A :: l => .cons (.refl A) (.refl l)

theorem ACalls.sees {P : Program} {L : List (List Nat)} {f : Nat} {args args' : List AVal} {h : Heap} {Q : AVal → Heap → Prop} (H : ACalls P L f args h Q) (hs : SeesL args' args) : ACalls P L f args' h Q := by
  obtain ⟨h1, h2⟩ := hs.get
  refine ⟨H.1, fun E vs hr hsz hv => H.2 E vs hr (hsz.trans h1) fun k A v hA hv' => ?_⟩
  obtain ⟨A', hA', hs'⟩ := h2 k A hA
  exact hs' _ _ _ (hv k A' v hA' hv')

/-- Rows of numbers: owned, or turned by nobody. -/
def rowsO (l : List (List Nat)) : List AVal := l.map fun xs => .own (some 1) (nats xs)
def rowsI (l : List (List Nat)) : List AVal := l.map fun xs => .imm 1 (nats xs)
theorem rowsO_len (l : List (List Nat)) : (rowsO l).length = l.length := by simp [rowsO]
theorem rowsI_len (l : List (List Nat)) : (rowsI l).length = l.length := by simp [rowsI]
theorem rowsO_get {l : List (List Nat)} {k : Nat} {x : List Nat} (h : l[k]? = some x) : (rowsO l)[k]? = some (.own (some 1) (nats x)) := by simp [rowsO, h]
theorem rowsI_get {l : List (List Nat)} {k : Nat} {x : List Nat} (h : l[k]? = some x) : (rowsI l)[k]? = some (.imm 1 (nats x)) := by simp [rowsI, h]
theorem rowsO_set (l : List (List Nat)) (k : Nat) (x : List Nat) : (rowsO l).set k (.own (some 1) (nats x)) = rowsO (l.set k x) := by simp [rowsO, List.map_set]
theorem rowsO_snoc (l : List (List Nat)) (x : List Nat) : rowsO l ++ [.own (some 1) (nats x)] = rowsO (l ++ [x]) := by simp [rowsO]
theorem rowsO_freeze : ∀ l : List (List Nat), AVal.freezeL (rowsO l) = rowsI l
  | [] => rfl
  | x :: l => by
    have ih := rowsO_freeze l
    simp only [rowsO, rowsI, List.map_cons, AVal.freezeL, AVal.freeze, nats_freeze] at ih ⊢
    rw [ih]
theorem rowsI_plain : ∀ l : List (List Nat), AVal.plainL (rowsI l) = true
  | [] => rfl
  | x :: l => by
    have ih := rowsI_plain l
    simp only [rowsI, List.map_cons, AVal.plainL, AVal.plain, nats_plain, Bool.true_and] at ih ⊢
    exact ih
theorem rowsI_cellOk : ∀ l : List (List Nat), AVal.cellOkL (rowsI l) = true
  | [] => rfl
  | x :: l => by
    have ih := rowsI_cellOk l
    simp only [rowsI, List.map_cons, AVal.cellOkL, AVal.cellOk, Bool.true_and] at ih ⊢
    exact ih
theorem rowsO_cellOk : ∀ l : List (List Nat), AVal.cellOkL (rowsO l) = true
  | [] => rfl
  | x :: l => by
    have ih := rowsO_cellOk l
    simp only [rowsO, List.map_cons, AVal.cellOkL, AVal.cellOk, Bool.true_and] at ih ⊢
    exact ih
theorem rowsO_flat : ∀ l : List (List Nat), AVal.flatL (rowsO l) = true
  | [] => rfl
  | x :: l => by
    have ih := rowsO_flat l
    simp only [rowsO, List.map_cons, AVal.flatL, AVal.flat, nats_flat, Bool.true_and] at ih ⊢
    exact ih
theorem rowsO_ids0 : ∀ l : List (List Nat), AVal.ids0L (rowsO l) = true
  | [] => rfl
  | x :: l => by
    have ih := rowsO_ids0 l
    simp only [rowsO, List.map_cons, AVal.ids0L, AVal.ids0, nats_ids0, Bool.true_and] at ih ⊢
    exact ih
theorem rowsI_copyable (l : List (List Nat)) : AVal.copyableL (rowsI l) = true := plain_copyableL _ (rowsI_plain l)
theorem rowsI_freeze (l : List (List Nat)) : AVal.freezeL (rowsI l) = rowsI l := copyable_freezeL _ (rowsI_copyable l)
theorem rowsI_ids0 (l : List (List Nat)) : AVal.ids0L (rowsI l) = true := plain_ids0L _ (rowsI_plain l)
theorem rowsI_ren (g : Nat → Option Nat) (l : List (List Nat)) : AVal.renL g (rowsI l) = rowsI l := ids0_renL g _ (rowsI_ids0 l)
theorem rowsO_ren (g : Nat → Option Nat) (l : List (List Nat)) : AVal.renL g (rowsO l) = rowsO l := ids0_renL g _ (rowsO_ids0 l)
theorem nats_snoc (l : List Nat) (x : Nat) : nats l ++ [.sc (.int .i64 (x : Int))] = nats (l ++ [x]) := by simp [nats]
theorem ints_snoc (l : List Int) (x : Int) : ints l ++ [.sc (.int .i64 x)] = ints (l ++ [x]) := by simp [ints]
theorem twos_snoc (l : List (Int × Int)) (a b : Int) : twos l ++ [.sc (.int .i64 a), .sc (.int .i64 b)] = twos (l ++ [(a, b)]) := by simp [twos, packs_append, packs, two]
theorem nats_zero (n : Nat) : zeroCellsA [.int .i64 0] n = nats (List.replicate n 0) := by
  induction n with
  | zero => rfl
  | succ n ih =>
    simp only [zeroCellsA, List.replicate_succ, List.flatten_cons, nats, List.map_cons] at ih ⊢
    rw [ih]; rfl
theorem tris_zero (n : Nat) : zeroCellsA [.int .i64 0, .int .i64 0, .int .i64 0] n = tris (List.replicate n (0, 0, 0)) := by
  induction n with
  | zero => rfl
  | succ n ih =>
    simp only [zeroCellsA, List.replicate_succ, List.flatten_cons, tris, packs] at ih ⊢
    rw [ih]; rfl
theorem zc1 (zs : List Value) : zeroCellsA zs 1 = zs.map .sc ++ [] := rfl
theorem zc2 (zs : List Value) : zeroCellsA zs 2 = zs.map .sc ++ (zs.map .sc ++ []) := rfl
theorem zc3 (zs : List Value) : zeroCellsA zs 3 = zs.map .sc ++ (zs.map .sc ++ (zs.map .sc ++ [])) := rfl
theorem nats_nil : ([] : List AVal) = nats [] := rfl

attribute [go_sem] zc1 zc2 zc3 rowsO_len rowsI_len rowsO_set rowsO_freeze rowsI_plain rowsI_cellOk rowsO_cellOk rowsO_flat rowsO_ids0 rowsI_copyable rowsI_freeze rowsI_ids0 rowsI_ren rowsO_ren

end Go.Ga

/- GA, part 42: what comes in, by its type. -/
namespace Go.Ga
open Go

section
variable {P : Program} {t : TypeId} {b : Nat}

/-- Numbers that a type may have. -/
def inI64 (n : Int) : Prop := -9223372036854775808 ≤ n ∧ n ≤ 9223372036854775807

theorem wf_i64 {n : Int} (h : (Lit.int .i64 n).wf = true) : inI64 n := by
  simp only [Lit.wf, decide_eq_true_eq, Bool.and_eq_true] at h
  have e1 : IntKind.min .i64 = -9223372036854775808 := by decide
  have e2 : IntKind.max .i64 = 9223372036854775807 := by decide
  rw [e1, e2] at h
  exact h

theorem sh_int {k : IntKind} {cs : List AVal} (hu : P.underlying t = some (.int k)) (h : Sh P t cs b) : ∃ n, cs = [.sc (.int k n)] ∧ (Lit.int k n).wf = true ∧ b = 1 := by
  cases h with
  | int _ k' n hu' hw => rw [hu] at hu'; cases hu'; exact ⟨n, rfl, hw, rfl⟩
  | bool _ _ h' => rw [hu] at h'; cases h'
  | string _ _ h' => rw [hu] at h'; cases h'
  | slice _ _ _ _ h' => rw [hu] at h'; cases h'
  | struct _ _ _ h' => rw [hu] at h'; cases h'
  | other _ _ _ h1 => exact absurd hu (h1 k)
theorem sh_bool {cs : List AVal} (hu : P.underlying t = some .bool) (h : Sh P t cs b) : ∃ v, cs = [.sc (.bool v)] ∧ b = 1 := by
  cases h with
  | bool _ v _ => exact ⟨v, rfl, rfl⟩
  | int _ _ _ h' => rw [hu] at h'; cases h'
  | string _ _ h' => rw [hu] at h'; cases h'
  | slice _ _ _ _ h' => rw [hu] at h'; cases h'
  | struct _ _ _ h' => rw [hu] at h'; cases h'
  | other _ _ _ _ h2 => exact absurd hu h2
theorem sh_string {cs : List AVal} (hu : P.underlying t = some .string) (h : Sh P t cs b) : ∃ s, cs = [.sc (.string s)] ∧ s.size < b := by
  cases h with
  | string _ s _ => exact ⟨s, rfl, Nat.lt_succ_self _⟩
  | int _ _ _ h' => rw [hu] at h'; cases h'
  | bool _ _ h' => rw [hu] at h'; cases h'
  | slice _ _ _ _ h' => rw [hu] at h'; cases h'
  | struct _ _ _ h' => rw [hu] at h'; cases h'
  | other _ _ _ _ _ h3 => exact absurd hu h3
theorem sh_slice {e : TypeId} {cs : List AVal} (hu : P.underlying t = some (.slice e)) (h : Sh P t cs b) : ∃ (L : List (List AVal × Nat)) (more : Nat), cs = [.imm (P.cellsOf e) (L.map (·.1)).flatten] ∧ b = 1 + (L.map (·.2)).sum + more ∧ ∀ x ∈ L, Sh P e x.1 x.2 := by
  cases h with
  | slice _ e' L more hu' hl hh => rw [hu] at hu'; cases hu'; exact ⟨L, more, rfl, rfl, hh⟩
  | int _ _ _ h' => rw [hu] at h'; cases h'
  | bool _ _ h' => rw [hu] at h'; cases h'
  | string _ _ h' => rw [hu] at h'; cases h'
  | struct _ _ _ h' => rw [hu] at h'; cases h'
  | other _ _ _ _ _ _ h4 => exact absurd hu (h4 e)
theorem sh_struct {fs : Array Field} {cs : List AVal} (hu : P.underlying t = some (.struct fs)) (h : Sh P t cs b) : ∃ (L : List (List AVal × Nat)), cs = (L.map (·.1)).flatten ∧ b = 1 + (L.map (·.2)).sum ∧ L.length = fs.size ∧ ∀ (i : Nat) f x, fs[i]? = some f → L[i]? = some x → Sh P f.type x.1 x.2 := by
  cases h with
  | struct _ fs' L hu' hl hh => rw [hu] at hu'; cases hu'; exact ⟨L, rfl, rfl, hl, hh⟩
  | int _ _ _ h' => rw [hu] at h'; cases h'
  | bool _ _ h' => rw [hu] at h'; cases h'
  | string _ _ h' => rw [hu] at h'; cases h'
  | slice _ _ _ _ h' => rw [hu] at h'; cases h'
  | other _ _ _ _ _ _ _ h5 => exact absurd hu (h5 fs)

/-- Rows of elements of one shape. -/
theorem packs_of {α : Type} {f : α → List AVal} {R : α → Prop} : ∀ {L : List (List AVal × Nat)}, (∀ x ∈ L, ∃ y, x.1 = f y ∧ R y ∧ 1 ≤ x.2) → ∃ ys : List α, (L.map (·.1)).flatten = packs f ys ∧ (∀ y ∈ ys, R y) ∧ ys.length ≤ (L.map (·.2)).sum
  | [], _ => ⟨[], rfl, fun y h => (by cases h), Nat.le_refl _⟩
  | x :: L, h => by
    obtain ⟨y, h1, h2, h3⟩ := h x (.head _)
    obtain ⟨ys, g1, g2, g3⟩ := packs_of (L := L) fun z hz => h z (.tail _ hz)
    refine ⟨y :: ys, by simp only [List.map_cons, List.flatten_cons, packs, h1, g1], fun z hz => ?_, by simp only [List.map_cons, List.sum_cons, List.length_cons]; omega⟩
    cases hz with
    | head => exact h2
    | tail _ hz => exact g2 z hz

theorem packs_ints (xs : List Int) : packs (fun n => [AVal.sc (.int .i64 n)]) xs = ints xs := by
  induction xs with
  | nil => rfl
  | cons x xs ih => simp only [packs, ih, ints, List.map_cons, List.singleton_append]

/-- A slice of numbers. -/
theorem sh_ints {e : TypeId} {cs : List AVal} (hu : P.underlying t = some (.slice e)) (he : P.underlying e = some (.int .i64)) (hc : P.cellsOf e = 1) (h : Sh P t cs b) : ∃ xs : List Int, cs = [.imm 1 (ints xs)] ∧ (∀ x ∈ xs, inI64 x) ∧ xs.length < b := by
  obtain ⟨L, more, rfl, rfl, hL⟩ := sh_slice hu h
  obtain ⟨ys, h1, h2, h3⟩ := packs_of (f := fun n => [AVal.sc (.int .i64 n)]) (R := inI64) (L := L) fun x hx => by
    obtain ⟨n, g1, g2, g3⟩ := sh_int he (hL x hx)
    exact ⟨n, g1, wf_i64 g2, by omega⟩
  exact ⟨ys, by rw [h1, hc, packs_ints], h2, by omega⟩

/-- A struct of two numbers, of three. -/
theorem sh_two {fs : Array Field} {t1 t2 : TypeId} {cs : List AVal} (hu : P.underlying t = some (.struct fs)) (hf : fs.toList.map (·.type) = [t1, t2]) (h1 : P.underlying t1 = some (.int .i64)) (h2 : P.underlying t2 = some (.int .i64)) (h : Sh P t cs b) : ∃ x : Int × Int, cs = two x ∧ (inI64 x.1 ∧ inI64 x.2) ∧ 1 ≤ b := by
  obtain ⟨L, rfl, rfl, hl, hh⟩ := sh_struct hu h
  have hfl : ∀ i T, [t1, t2][i]? = some T → ∃ f : Field, fs[i]? = some f ∧ f.type = T := fun i T hT => by
    rw [← hf, List.getElem?_map] at hT
    obtain ⟨f, g1, g2⟩ := Option.map_eq_some_iff.1 hT
    exact ⟨f, by simpa using g1, g2⟩
  have hsz : fs.size = 2 := by have := congrArg List.length hf; simpa using this
  match L, hl with
  | [x, y], _ =>
    obtain ⟨f1, a1, a2⟩ := hfl 0 t1 rfl
    obtain ⟨f2, b1, b2⟩ := hfl 1 t2 rfl
    obtain ⟨n, c1, c2, _⟩ := sh_int h1 (a2 ▸ hh 0 f1 x a1 rfl)
    obtain ⟨m, d1, d2, _⟩ := sh_int h2 (b2 ▸ hh 1 f2 y b1 rfl)
    exact ⟨(n, m), by simp [c1, d1, two], ⟨wf_i64 c2, wf_i64 d2⟩, by omega⟩
  | [], hl => simp at hl; omega
  | [_], hl => simp at hl; omega
  | _ :: _ :: _ :: _, hl => simp at hl; omega
theorem sh_tri {fs : Array Field} {t1 t2 t3 : TypeId} {cs : List AVal} (hu : P.underlying t = some (.struct fs)) (hf : fs.toList.map (·.type) = [t1, t2, t3]) (h1 : P.underlying t1 = some (.int .i64)) (h2 : P.underlying t2 = some (.int .i64)) (h3 : P.underlying t3 = some (.int .i64)) (h : Sh P t cs b) : ∃ x : Int × Int × Int, cs = tri x ∧ (inI64 x.1 ∧ inI64 x.2.1 ∧ inI64 x.2.2) ∧ 1 ≤ b := by
  obtain ⟨L, rfl, rfl, hl, hh⟩ := sh_struct hu h
  have hfl : ∀ i T, [t1, t2, t3][i]? = some T → ∃ f : Field, fs[i]? = some f ∧ f.type = T := fun i T hT => by
    rw [← hf, List.getElem?_map] at hT
    obtain ⟨f, g1, g2⟩ := Option.map_eq_some_iff.1 hT
    exact ⟨f, by simpa using g1, g2⟩
  have hsz : fs.size = 3 := by have := congrArg List.length hf; simpa using this
  match L, hl with
  | [x, y, z], _ =>
    obtain ⟨f1, a1, a2⟩ := hfl 0 t1 rfl
    obtain ⟨f2, b1, b2⟩ := hfl 1 t2 rfl
    obtain ⟨f3, e1, e2⟩ := hfl 2 t3 rfl
    obtain ⟨n, c1, c2, _⟩ := sh_int h1 (a2 ▸ hh 0 f1 x a1 rfl)
    obtain ⟨m, d1, d2, _⟩ := sh_int h2 (b2 ▸ hh 1 f2 y b1 rfl)
    obtain ⟨q, g1, g2, _⟩ := sh_int h3 (e2 ▸ hh 2 f3 z e1 rfl)
    exact ⟨(n, m, q), by simp [c1, d1, g1, tri], ⟨wf_i64 c2, wf_i64 d2, wf_i64 g2⟩, by omega⟩
  | [], hl => simp at hl; omega
  | [_], hl => simp at hl; omega
  | [_, _], hl => simp at hl; omega
  | _ :: _ :: _ :: _ :: _, hl => simp at hl; omega

theorem sh_twos {e : TypeId} {fs : Array Field} {t1 t2 : TypeId} {cs : List AVal} (hu : P.underlying t = some (.slice e)) (he : P.underlying e = some (.struct fs)) (hf : fs.toList.map (·.type) = [t1, t2]) (h1 : P.underlying t1 = some (.int .i64)) (h2 : P.underlying t2 = some (.int .i64)) (hc : P.cellsOf e = 2) (h : Sh P t cs b) :
    ∃ xs : List (Int × Int), cs = [.imm 2 (twos xs)] ∧ (∀ x ∈ xs, inI64 x.1 ∧ inI64 x.2) ∧ xs.length < b := by
  obtain ⟨L, more, rfl, rfl, hL⟩ := sh_slice hu h
  obtain ⟨ys, g1, g2, g3⟩ := packs_of (f := two) (R := fun x => inI64 x.1 ∧ inI64 x.2) (L := L) fun x hx => sh_two he hf h1 h2 (hL x hx)
  exact ⟨ys, by rw [g1, hc], g2, by omega⟩
theorem sh_tris {e : TypeId} {fs : Array Field} {t1 t2 t3 : TypeId} {cs : List AVal} (hu : P.underlying t = some (.slice e)) (he : P.underlying e = some (.struct fs)) (hf : fs.toList.map (·.type) = [t1, t2, t3]) (h1 : P.underlying t1 = some (.int .i64)) (h2 : P.underlying t2 = some (.int .i64)) (h3 : P.underlying t3 = some (.int .i64)) (hc : P.cellsOf e = 3) (h : Sh P t cs b) :
    ∃ xs : List (Int × Int × Int), cs = [.imm 3 (tris xs)] ∧ (∀ x ∈ xs, inI64 x.1 ∧ inI64 x.2.1 ∧ inI64 x.2.2) ∧ xs.length < b := by
  obtain ⟨L, more, rfl, rfl, hL⟩ := sh_slice hu h
  obtain ⟨ys, g1, g2, g3⟩ := packs_of (f := tri) (R := fun x => inI64 x.1 ∧ inI64 x.2.1 ∧ inI64 x.2.2) (L := L) fun x hx => sh_tri he hf h1 h2 h3 (hL x hx)
  exact ⟨ys, by rw [g1, hc], g2, by omega⟩

theorem sa_one {A : AVal} (hu : ∀ fs, P.underlying t ≠ some (.struct fs)) (h : SA P t A b) : Sh P t [A] b := by
  rcases h with ⟨⟨fs, h⟩, _⟩ | ⟨_, h⟩
  · exact absurd h (hu fs)
  · exact h
theorem sa_struct {A : AVal} {fs : Array Field} (hu : P.underlying t = some (.struct fs)) (h : SA P t A b) : ∃ cs, A = .agg cs ∧ Sh P t cs b := by
  rcases h with ⟨_, cs, h1, h2⟩ | ⟨h, _⟩
  · exact ⟨cs, h1, h2⟩
  · exact absurd hu (h fs)
theorem sas_cons {ts : List TypeId} {As : List AVal} (h : SAs P (t :: ts) As b) : ∃ A As' c d, As = A :: As' ∧ b = c + d ∧ SA P t A c ∧ SAs P ts As' d := by
  cases h with
  | cons _ A c _ As' d h hr => exact ⟨A, As', c, d, rfl, rfl, h, hr⟩
theorem sas_nil {As : List AVal} (h : SAs P [] As b) : As = [] := by cases h; rfl
theorem sa_int {k : IntKind} {A : AVal} (hu : P.underlying t = some (.int k)) (h : SA P t A b) : ∃ n, A = .sc (.int k n) ∧ (Lit.int k n).wf = true := by
  obtain ⟨n, h1, h2, _⟩ := sh_int hu (sa_one (fun fs h => by rw [hu] at h; cases h) h)
  exact ⟨n, by injection h1, h2⟩
theorem sa_bool {A : AVal} (hu : P.underlying t = some .bool) (h : SA P t A b) : ∃ v, A = .sc (.bool v) := by
  obtain ⟨n, h1, _⟩ := sh_bool hu (sa_one (fun fs h => by rw [hu] at h; cases h) h)
  exact ⟨n, by injection h1⟩
theorem sa_string {A : AVal} (hu : P.underlying t = some .string) (h : SA P t A b) : ∃ s, A = .sc (.string s) ∧ s.size < b := by
  obtain ⟨n, h1, h2⟩ := sh_string hu (sa_one (fun fs h => by rw [hu] at h; cases h) h)
  exact ⟨n, by injection h1, h2⟩
theorem sa_ints {e : TypeId} {A : AVal} (hu : P.underlying t = some (.slice e)) (he : P.underlying e = some (.int .i64)) (hc : P.cellsOf e = 1) (h : SA P t A b) : ∃ xs : List Int, A = .imm 1 (ints xs) ∧ (∀ x ∈ xs, inI64 x) ∧ xs.length < b := by
  obtain ⟨xs, h1, h2⟩ := sh_ints hu he hc (sa_one (fun fs h => by rw [hu] at h; cases h) h)
  exact ⟨xs, by injection h1, h2⟩
theorem sa_twos {e : TypeId} {fs : Array Field} {t1 t2 : TypeId} {A : AVal} (hu : P.underlying t = some (.slice e)) (he : P.underlying e = some (.struct fs)) (hf : fs.toList.map (·.type) = [t1, t2]) (h1 : P.underlying t1 = some (.int .i64)) (h2 : P.underlying t2 = some (.int .i64)) (hc : P.cellsOf e = 2) (h : SA P t A b) :
    ∃ xs : List (Int × Int), A = .imm 2 (twos xs) ∧ (∀ x ∈ xs, inI64 x.1 ∧ inI64 x.2) ∧ xs.length < b := by
  obtain ⟨xs, g1, g2⟩ := sh_twos hu he hf h1 h2 hc (sa_one (fun fs h => by rw [hu] at h; cases h) h)
  exact ⟨xs, by injection g1, g2⟩
theorem sa_tris {e : TypeId} {fs : Array Field} {t1 t2 t3 : TypeId} {A : AVal} (hu : P.underlying t = some (.slice e)) (he : P.underlying e = some (.struct fs)) (hf : fs.toList.map (·.type) = [t1, t2, t3]) (h1 : P.underlying t1 = some (.int .i64)) (h2 : P.underlying t2 = some (.int .i64)) (h3 : P.underlying t3 = some (.int .i64)) (hc : P.cellsOf e = 3) (h : SA P t A b) :
    ∃ xs : List (Int × Int × Int), A = .imm 3 (tris xs) ∧ (∀ x ∈ xs, inI64 x.1 ∧ inI64 x.2.1 ∧ inI64 x.2.2) ∧ xs.length < b := by
  obtain ⟨xs, g1, g2⟩ := sh_tris hu he hf h1 h2 h3 hc (sa_one (fun fs h => by rw [hu] at h; cases h) h)
  exact ⟨xs, by injection g1, g2⟩

end
end Go.Ga
