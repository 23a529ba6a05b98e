/- Values, objects, and code by what it leads to: a library of this claim's own. No condition. -/
import Derived.Test.YtoefhbfgmceikaaGgogopl4
import Derived.Sort.Grow
set_option linter.all false

namespace Go.Ga
open Go
inductive Sh (P : Program) : TypeId → List AVal → Nat → Prop
  | bool (t : TypeId) (b : Bool) (hu : P.underlying t = some .bool) : Sh P t [.sc (.bool b)] 1
  | int (t : TypeId) (k : IntKind) (n : Int) (hu : P.underlying t = some (.int k)) (hw : (Lit.int k n).wf = true) : Sh P t [.sc (.int k n)] 1
  | string (t : TypeId) (s : ByteArray) (hu : P.underlying t = some .string) : Sh P t [.sc (.string s)] (s.size + 1)
  | slice (t e : TypeId) (L : List (List AVal × Nat)) (more : Nat) (hu : P.underlying t = some (.slice e)) (hl : ∀ x ∈ L, x.1.length = P.cellsOf e) (h : ∀ x ∈ L, Sh P e x.1 x.2) : Sh P t [.imm (P.cellsOf e) (L.map (·.1)).flatten] (1 + (L.map (·.2)).sum + more)
  | struct (t : TypeId) (fs : Array Field) (L : List (List AVal × Nat)) (hu : P.underlying t = some (.struct fs)) (hl : L.length = fs.size) (h : ∀ (i : Nat) f x, fs[i]? = some f → L[i]? = some x → Sh P f.type x.1 x.2) : Sh P t (L.map (·.1)).flatten (1 + (L.map (·.2)).sum)
  | other (t : TypeId) (n b : Nat) (h1 : ∀ k, P.underlying t ≠ some (.int k)) (h2 : P.underlying t ≠ some .bool) (h3 : P.underlying t ≠ some .string) (h4 : ∀ e, P.underlying t ≠ some (.slice e)) (h5 : ∀ fs, P.underlying t ≠ some (.struct fs)) : Sh P t (List.replicate n .dead) b
mutual
def bulk {H : Type} : DataW H → Nat
  | .lit (.string bytes) => bytes.length + 1
  | .lit _ => 1
  | .nil => 1
  | .ptr d => bulk d + 1
  | .slice elems spare => bulkL elems + bulkL spare + 1
  | .agg parts => bulkL parts + 1
  | .iface _ d => bulk d + 1
  | .map entries => bulkE entries + 1
  | .held _ => 1
def bulkL {H : Type} : List (DataW H) → Nat
  | [] => 0
  | d :: r => bulk d + bulkL r
def bulkE {H : Type} : List (Lit × DataW H) → Nat
  | [] => 0
  | x :: r => bulk1 x + bulkE r
def bulk1 {H : Type} : Lit × DataW H → Nat
  | (.string bytes, d) => bytes.length + bulk d + 1
  | (_, d) => bulk d + 1
end
def tiled (P : Program) : Nat → List Field → Option Nat
  | n, [] => some n
  | n, f :: fs => if f.offset = n then tiled P (n + P.cellsOf f.type) fs else none
def Env.plain (w : World) : Env := ⟨w, fun _ => none, fun _ => 0, fun _ => 0, fun _ => 0, 0⟩
theorem mapM_at {α β : Type} {f : α → Option β} : ∀ {l : List α} {r : List β}, l.mapM f = some r → r.length = l.length ∧ ∀ (i : Nat) x, l[i]? = some x → ∃ y, r[i]? = some y ∧ f x = some y
  | [], r, h => by simp at h; subst h; exact ⟨rfl, fun i x hx => by simp at hx⟩
  | a :: l, r, h => by
    rw [List.mapM_cons] at h
    cases hx : f a with
    | none => rw [hx] at h; cases h
    | some y =>
      rw [hx] at h
      cases hr : l.mapM f with
      | none => rw [hr] at h; cases h
      | some r' =>
        rw [hr] at h
        cases h
        obtain ⟨h1, h2⟩ := mapM_at hr
        refine ⟨by simp [h1], fun i x hi => ?_⟩
        cases i with
        | zero => simp at hi; subst hi; exact ⟨y, rfl, hx⟩
        | succ i => simpa using h2 i x (by simpa using hi)
theorem flatten_at {sz : Nat} (hsz : 0 < sz) : ∀ {L : List (List AVal)}, (∀ l ∈ L, l.length = sz) → L.flatten.length = L.length * sz ∧ ∀ (k : Nat) A, L.flatten[k]? = some A → ∃ l, L[k / sz]? = some l ∧ l[k % sz]? = some A
  | [], _ => ⟨by simp, fun k A h => by simp at h⟩
  | l :: L, hl => by
    obtain ⟨h1, h2⟩ := flatten_at hsz (L := L) fun x hx => hl x (.tail _ hx)
    have hl0 := hl l (.head _)
    refine ⟨by simp [h1, hl0, Nat.add_mul, Nat.add_comm], fun k A h => ?_⟩
    rw [List.flatten_cons, List.getElem?_append] at h
    split at h
    · rename_i hlt
      rw [hl0] at hlt
      rw [Nat.div_eq_of_lt hlt, Nat.mod_eq_of_lt hlt]
      exact ⟨l, rfl, h⟩
    · rename_i hge
      rw [hl0] at hge h
      obtain ⟨l', h3, h4⟩ := h2 _ A h
      have hk : k = (k - sz) + sz := by omega
      rw [hk, Nat.add_div_right _ hsz, Nat.add_mod_right]
      exact ⟨l', by simpa using h3, h4⟩
section
variable {H : Type} {enc : TypeId × Value → H} {P : Program} {w : World}
def Cells (w : World) (As : List AVal) (cs : List Value) : Prop := As.length = cs.length ∧ ∀ (k : Nat) A v, As[k]? = some A → cs[k]? = some v → VRel (Env.plain w) none A v
theorem cells_one' {A : AVal} {v : Value} (h : VRel (Env.plain w) none A v) : Cells w [A] [v] := ⟨rfl, fun k B u hB hu => by
  cases k with
  | zero => cases hB; cases hu; exact h
  | succ k => simp at hB⟩
theorem cells_dead (cs : List Value) : Cells w (List.replicate cs.length .dead) cs := ⟨by simp, fun k A v hA _ => by
  rw [List.getElem?_replicate] at hA
  split at hA
  · cases hA; exact .dead _ _
  · cases hA⟩
structure Plain (P : Program) (S : List TypeId) : Prop where
  at_ : ∀ t ∈ S, PlainAt P S t
  tile : ∀ t ∈ S, ∀ fs, P.underlying t = some (.struct fs) → tiled P 0 fs.toList = some (P.cellsOf t)
theorem bulkL_sum (l : List (DataW H)) : bulkL l = (l.map bulk).sum := by
  induction l with
  | nil => rfl
  | cons x l ih => simp [bulkL, ih]
theorem cells_fields {R : TypeId → List AVal → Nat → Prop} : ∀ (fs : List Field) (n m : Nat) (cs : List Value) (xs : List (DataW H × List MemPlace)), tiled P n fs = some m → m = cs.length → n ≤ cs.length →
    (∀ (i : Nat) f y, fs[i]? = some f → xs[i]? = some y → ∃ As, R f.type As (bulk y.1) ∧ Cells w As ((cs.drop f.offset).take (P.cellsOf f.type))) → xs.length = fs.length →
    ∃ L : List (List AVal × Nat), L.length = fs.length ∧ (∀ (i : Nat) f x, fs[i]? = some f → L[i]? = some x → R f.type x.1 x.2) ∧ (L.map (·.2)).sum = bulkL (xs.map (·.1)) ∧ Cells w (L.map (·.1)).flatten (cs.drop n)
  | [], n, m, cs, xs, ht, hm, _, _, hl => by
    cases ht
    have : xs = [] := List.eq_nil_of_length_eq_zero (by simpa using hl)
    subst this
    subst hm
    exact ⟨[], rfl, fun i f x h => by simp at h, rfl, by simp [Cells]⟩
  | f :: fs, n, m, cs, [], ht, hm, hn, h, hl => by simp at hl
  | f :: fs, n, m, cs, y :: xs, ht, hm, hn, h, hl => by
    simp only [tiled] at ht
    split at ht
    · rename_i ho
      obtain ⟨As, hR, hc⟩ := h 0 f y rfl rfl
      rw [ho] at hc
      have hle : n + P.cellsOf f.type ≤ cs.length := by
        have key : ∀ (fs : List Field) (a m : Nat), tiled P a fs = some m → a ≤ m := by
          intro fs
          induction fs with
          | nil => intro a m h; cases h; exact Nat.le_refl _
          | cons g gs ih =>
            intro a m h
            simp only [tiled] at h
            split at h
            · have := ih _ _ h; omega
            · cases h
        have := key _ _ _ ht
        omega
      obtain ⟨L, h1, h2, h3, h4⟩ := cells_fields fs (n + P.cellsOf f.type) m cs xs ht hm hle (fun i g z hg hz => h (i + 1) g z (by simpa using hg) (by simpa using hz)) (by simpa using hl)
      refine ⟨(As, bulk y.1) :: L, by simp [h1], fun i g x hg hx => ?_, by simp [bulkL, h3], ?_⟩
      · cases i with
        | zero => simp at hg hx; subst hg; subst hx; exact hR
        | succ i => exact h2 i g x (by simpa using hg) (by simpa using hx)
      · have hlen : ((cs.drop n).take (P.cellsOf f.type)).length = P.cellsOf f.type := by simp; omega
        have hA : As.length = P.cellsOf f.type := hc.1.trans hlen
        refine ⟨?_, fun k A v hA' hv => ?_⟩
        · have := h4.1
          simp only [List.map_cons, List.flatten_cons, List.length_append, List.length_drop] at this ⊢
          omega
        · simp only [List.map_cons, List.flatten_cons] at hA'
          rw [List.getElem?_append] at hA'
          split at hA'
          · rename_i hlt
            refine hc.2 k A v hA' ?_
            rw [List.getElem?_take_of_lt (by omega)]
            exact hv
          · rename_i hge
            refine h4.2 _ A v hA' ?_
            rw [List.getElem?_drop] at hv ⊢
            rw [← hv]
            congr 1
            omega
    · cases ht
theorem trod_cells {S : List TypeId} (hP : Plain P S) : ∀ (n : Nat) (t : TypeId) (cs : List Value) (x : DataW H × List MemPlace), t ∈ S → DataW.trod enc P w 0 (fun _ => true) true n t cs = some x → ∃ As, Sh P t As (bulk x.1) ∧ Cells w As cs
  | 0, _, _, _, _, h => by simp [DataW.trod] at h
  | n + 1, t, cs, x, ht, h => by
    have hS := hP.at_ t ht
    rw [DataW.trod_step] at h
    unfold DataW.trodStep at h
    have other : (∀ k, P.underlying t ≠ some (.int k)) → P.underlying t ≠ some .bool → P.underlying t ≠ some .string → (∀ e, P.underlying t ≠ some (.slice e)) → (∀ fs, P.underlying t ≠ some (.struct fs)) → ∃ As, Sh P t As (bulk x.1) ∧ Cells w As cs :=
      fun h1 h2 h3 h4 h5 => ⟨_, .other t cs.length _ h1 h2 h3 h4 h5, cells_dead cs⟩
    split at h
    case h_1 b hu => cases h; exact ⟨_, .bool t b hu, cells_one' (.sc _ _)⟩
    case h_2 k k' m hu =>
      split at h
      · rename_i hc
        obtain ⟨rfl, hw⟩ := hc
        cases h
        exact ⟨_, .int t _ m hu hw, cells_one' (.sc _ _)⟩
      · cases h
    case h_4 s hu =>
      split at h
      · cases h
        refine ⟨_, ?_, cells_one' (.sc _ _)⟩
        have e : bulk (DataW.lit (H := H) (.string s.data.toList)) = s.size + 1 := by
          simp only [bulk]
          rw [Array.length_toList]
          rfl
        show Sh P t _ (bulk (DataW.lit (H := H) (.string s.data.toList)))
        rw [e]
        exact .string t s hu
      · cases h
    case h_7 hu => 
      rename_i e
      cases h
      have := Sh.slice (P := P) t e [] 0 hu (fun x hx => by cases hx) (fun x hx => by cases hx)
      exact ⟨_, by simpa [bulk] using this, cells_one' (.immNil _ _ _)⟩
    case h_8 e a len cap hu =>
      simp only at h
      split at h
      · rename_i hcond
        obtain ⟨_, hlc, _⟩ := hcond
        unfold PlainAt at hS
        rw [hu] at hS
        obtain ⟨hsz, heS⟩ := hS
        simp only [if_true, Option.map_eq_some_iff, Option.bind_eq_some_iff] at h
        obtain ⟨elems, he, rest, hrest, rfl⟩ := h
        obtain ⟨e1, e2⟩ := mapM_at he
        obtain ⟨r1, r2⟩ := mapM_at hrest
        simp only [List.length_range] at e1 r1
        have one : ∀ i y, elems[i]? = some y → ∃ As, Sh P e As (bulk y.1) ∧ As.length = P.cellsOf e ∧ ∀ (k : Nat) A, As[k]? = some A → ∃ v, w.cell? ((a.add (i * P.cellsOf e)).add k) = some v ∧ VRel (Env.plain w) none A v := by
          intro i y hy
          have hi : i < len := by rw [← e1]; exact (List.getElem?_eq_some_iff.1 hy).1
          obtain ⟨y', hy', hr⟩ := e2 i i (by simp [hi])
          rw [hy] at hy'
          cases hy'
          simp only [Option.bind_eq_some_iff] at hr
          obtain ⟨cs', hc, hr⟩ := hr
          obtain ⟨_, hl', hcell⟩ := World.cells?_some hc
          obtain ⟨As, hS, hA⟩ := trod_cells hP n _ _ _ heS hr
          refine ⟨As, hS, hA.1.trans hl', fun k A hk => ?_⟩
          have hlt : k < cs'.length := by rw [← hA.1]; exact (List.getElem?_eq_some_iff.1 hk).1
          refine ⟨cs'[k], ?_, hA.2 k A _ hk (List.getElem?_eq_getElem hlt)⟩
          rw [hcell k (by omega)]
          exact List.getElem?_eq_getElem hlt
        have hL : ∃ L : List (List AVal × Nat), L.length = elems.length ∧ ∀ (i : Nat) z y, L[i]? = some z → elems[i]? = some y → Sh P e z.1 z.2 ∧ z.2 = bulk y.1 ∧ z.1.length = P.cellsOf e ∧ ∀ (k : Nat) A, z.1[k]? = some A → ∃ v, w.cell? ((a.add (i * P.cellsOf e)).add k) = some v ∧ VRel (Env.plain w) none A v := by
          have key : ∀ (l : List (DataW H × List MemPlace)) (o : Nat), (∀ i y, l[i]? = some y → elems[o + i]? = some y) → ∃ L : List (List AVal × Nat), L.length = l.length ∧ ∀ (i : Nat) z y, L[i]? = some z → l[i]? = some y → Sh P e z.1 z.2 ∧ z.2 = bulk y.1 ∧ z.1.length = P.cellsOf e ∧ ∀ (k : Nat) A, z.1[k]? = some A → ∃ v, w.cell? ((a.add ((o + i) * P.cellsOf e)).add k) = some v ∧ VRel (Env.plain w) none A v := by
            intro l
            induction l with
            | nil => intro o _; exact ⟨[], rfl, fun i z y h => by simp at h⟩
            | cons y0 l ih =>
              intro o hl
              obtain ⟨L, h1, h2⟩ := ih (o + 1) fun i y hy => by
                have := hl (i + 1) y (by simpa using hy)
                rwa [show o + (i + 1) = o + 1 + i by omega] at this
              obtain ⟨As, h3, h4, h5⟩ := one (o + 0) y0 (hl 0 y0 rfl)
              refine ⟨(As, bulk y0.1) :: L, by simp [h1], fun i z y hz hy => ?_⟩
              cases i with
              | zero => simp at hz hy; subst hz; subst hy; exact ⟨h3, rfl, h4, h5⟩
              | succ i =>
                have := h2 i z y (by simpa using hz) (by simpa using hy)
                rwa [show o + 1 + i = o + (i + 1) by omega] at this
          have := key elems 0 fun i y hy => by rw [Nat.zero_add]; exact hy
          simpa using this
        obtain ⟨L, hl1, hl2⟩ := hL
        have hget : ∀ z ∈ L, ∃ i y, L[i]? = some z ∧ elems[i]? = some y := fun z hz => by
          obtain ⟨i, hi⟩ := List.mem_iff_getElem?.1 hz
          have hlt : i < elems.length := by rw [← hl1]; exact (List.getElem?_eq_some_iff.1 hi).1
          exact ⟨i, _, hi, List.getElem?_eq_getElem hlt⟩
        have hlen : ∀ z ∈ L, z.1.length = P.cellsOf e := fun z hz => by
          obtain ⟨i, y, h1, h2⟩ := hget z hz
          exact (hl2 i z y h1 h2).2.2.1
        have hsum : (L.map (·.2)).sum = bulkL (elems.map (·.1)) := by
          rw [bulkL_sum]
          congr 1
          apply List.ext_getElem?
          intro i
          rw [List.getElem?_map, List.getElem?_map, List.getElem?_map]
          cases hz : L[i]? with
          | none =>
            have : elems[i]? = none := by rw [List.getElem?_eq_none_iff] at hz ⊢; omega
            rw [this]; rfl
          | some z =>
            have hlt : i < elems.length := by rw [← hl1]; exact (List.getElem?_eq_some_iff.1 hz).1
            have hy := List.getElem?_eq_getElem hlt
            rw [hy]
            simp [(hl2 i z _ hz hy).2.1]
        have hS := Sh.slice (P := P) t e L (bulkL (rest.map (·.1))) hu hlen (fun z hz => by
          obtain ⟨i, y, h1, h2⟩ := hget z hz
          exact (hl2 i z y h1 h2).1)
        rw [hsum] at hS
        refine ⟨_, ?_, cells_one' (A := .imm (P.cellsOf e) (L.map (·.1)).flatten) ?_⟩
        · simp only [bulk]
          rwa [show bulkL (elems.map (·.1)) + bulkL (rest.map (·.1)) + 1 = 1 + bulkL (elems.map (·.1)) + bulkL (rest.map (·.1)) by omega]
        · by_cases h0 : cap = 0
          · have : L = [] := List.eq_nil_of_length_eq_zero (by omega)
            subst this
            have hl0 : len = 0 := by omega
            subst hl0 h0
            exact .immNil _ _ _
          · 
            have hfirst : ∃ v, w.cell? a = some v := by
              have hz : ∃ y cs', w.cells? 0 (a.add (0 * P.cellsOf e)) (P.cellsOf e) = some cs' ∧ DataW.trod enc P w 0 (fun _ => true) true n e cs' = some y := by
                by_cases hlen0 : len = 0
                · subst hlen0
                  obtain ⟨y, _, hr⟩ := r2 0 0 (by rw [List.getElem?_range (by omega)])
                  simp only [Option.bind_eq_some_iff] at hr
                  obtain ⟨cs', hc, hr⟩ := hr
                  exact ⟨y, cs', hc, hr⟩
                · obtain ⟨y, _, hr⟩ := e2 0 0 (by rw [List.getElem?_range (by omega)])
                  simp only [Option.bind_eq_some_iff] at hr
                  obtain ⟨cs', hc, hr⟩ := hr
                  exact ⟨y, cs', hc, hr⟩
              obtain ⟨y, cs', hc, _⟩ := hz
              obtain ⟨_, hl', hcell⟩ := World.cells?_some hc
              have hlt : 0 < cs'.length := by omega
              refine ⟨cs'[0], ?_⟩
              have := hcell 0 hsz
              rw [List.getElem?_eq_getElem hlt] at this
              simpa [Addr.add] using this
            obtain ⟨v0, hv0⟩ := hfirst
            obtain ⟨b, o, sp⟩ := a
            have hspn : sp = none := by
              cases sp with
              | none => rfl
              | some s =>
                simp only [World.cell?] at hv0
                split at hv0
                · simp at hv0
                · cases hv0
            subst hspn
            have hb : b < w.heap.size := World.block_lt_of_cell? w _ hv0
            obtain ⟨f1, f2⟩ := flatten_at hsz (L := L.map (·.1)) (fun l hl => by
              obtain ⟨z, hz, rfl⟩ := List.mem_map.1 hl
              exact hlen z hz)
            have hcell : ∀ (k : Nat) A, ((L.map (·.1)).flatten)[k]? = some A → ∃ v, w.cell? ⟨b, o + k, none⟩ = some v ∧ VRel (Env.plain w) none A v := fun k A hk => by
              obtain ⟨l, h1, h2⟩ := f2 k A hk
              rw [List.getElem?_map] at h1
              obtain ⟨z, hz, rfl⟩ := Option.map_eq_some_iff.1 h1
              have hlt : k / P.cellsOf e < elems.length := by rw [← hl1]; exact (List.getElem?_eq_some_iff.1 hz).1
              obtain ⟨v, h3, h4⟩ := (hl2 _ z _ hz (List.getElem?_eq_getElem hlt)).2.2.2 _ A h2
              refine ⟨v, ?_, h4⟩
              rw [Addr.add_lit, Addr.add_lit] at h3
              have hk' : o + k / P.cellsOf e * P.cellsOf e + k % P.cellsOf e = o + k := by rw [Nat.add_assoc, Nat.mul_comm]; congr 1; exact Nat.div_add_mod k _
              rwa [hk'] at h3
            refine .imm none _ _ b o len cap (fun k => (w.cell? ⟨b, o + k, none⟩).getD undef) rfl hb ⟨hsz, by rw [f1]; simp [hl1, e1]⟩ hlc (fun k A hk => ?_) fun k A hk => ?_
            · obtain ⟨v, h1, _⟩ := hcell k A hk
              show w.cell? _ = some ((w.cell? _).getD undef)
              rw [h1]; rfl
            · obtain ⟨v, h1, h2⟩ := hcell k A hk
              show VRel _ none A ((w.cell? _).getD undef)
              rw [h1]; exact h2
      · cases h
    case h_9 fs hu =>
      split at h
      · rename_i hl
        simp only [Option.map_eq_some_iff] at h
        obtain ⟨xs, hx, rfl⟩ := h
        obtain ⟨e1, e2⟩ := mapM_at hx
        obtain ⟨L, h1, h2, h3, h4⟩ := cells_fields (R := Sh P) fs.toList 0 _ _ xs (hP.tile t ht fs hu) hl.symm (Nat.zero_le _) (fun i f y hf hy => by
          obtain ⟨y', hy', hr⟩ := e2 i f hf
          rw [hy] at hy'
          cases hy'
          exact trod_cells hP n _ _ _ (by unfold PlainAt at hS; rw [hu] at hS; exact hS f (List.mem_of_getElem? hf)) hr) e1
        refine ⟨(L.map (·.1)).flatten, ?_, by simpa using h4⟩
        have := Sh.struct (P := P) t fs L hu (by simpa using h1) (fun i f x hf hx => h2 i f x (by simpa using hf) hx)
        rw [h3] at this
        simp only [bulk]
        rwa [Nat.add_comm]
      · cases h
    all_goals first
      | cases h; done
      | exact other (by simp [*]) (by simp [*]) (by simp [*]) (by simp [*]) (by simp [*])
end
end Go.Ga

namespace Go.Ga
open Go Go.ChangeShapes Go.WideShapes Go.RowKit
def plainB (P : Program) (S : List TypeId) : Bool :=
  S.all fun t => match P.underlying t with
    | some .bool => true
    | some (.int _) => true
    | some .string => true
    | some (.slice e) => decide (0 < P.cellsOf e) && S.contains e
    | some (.struct fs) => fs.toList.all (fun f => S.contains f.type) && (tiled P 0 fs.toList == some (P.cellsOf t))
    | _ => false
theorem plain_of {P : Program} {S : List TypeId} (h : plainB P S = true) : Plain P S := by
  refine ⟨fun t ht => ?_, fun t ht fs hu => ?_⟩
  · have := List.all_eq_true.1 h t ht
    unfold PlainAt
    cases hu : P.underlying t with
    | none => rw [hu] at this; cases this
    | some d =>
      rw [hu] at this
      cases d with
      | bool => trivial
      | int k => trivial
      | string => trivial
      | slice e =>
        simp only [Bool.and_eq_true, decide_eq_true_eq, List.contains_iff_mem] at this
        exact this
      | struct fs =>
        simp only [Bool.and_eq_true, List.all_eq_true, List.contains_iff_mem] at this
        exact this.1
      | _ => cases this
  · have := List.all_eq_true.1 h t ht
    rw [hu] at this
    simp only [Bool.and_eq_true, beq_iff_eq] at this
    exact this.2
section
variable {H : Type} {enc : TypeId × Value → H} {P : Program}
theorem kept_old {W W' : World} (hO : Old W W') (hos : W'.os = W.os) (hout : W'.output = W.output) (may : MemPlace → Prop) : W.keptBut W' may := by
  refine ⟨hos, hout, fun i hi => ?_⟩
  rw [hO i hi]
  cases W.heap[i]? with
  | none => rfl
  | some o => cases o with
    | cells c t fr => exact ⟨rfl, rfl, rfl, fun _ _ => rfl⟩
    | map es clock => exact .inr ⟨rfl, rfl⟩
    | _ => rfl
theorem trodVars_nil {w : World} {sp : Nat → Bool} {gs : List (DataW H)} {ps : List MemPlace} (h : DataW.TrodVars enc P w sp [] gs ps) : gs = [] ∧ ps = [] := by
  cases gs with
  | nil => exact ⟨rfl, h⟩
  | cons => cases h
theorem post_true {S : List TypeId} (hS : ∀ t ∈ S, PlainAt P S t) {f : Func} {s : ChangeSpec} {W W' : World} {args : Array Value} {ds gs : List (DataW H)} {before : List MemPlace} (hW : DataW.Whole enc P f.params.toList s.vars false W args.toList ds gs before)
    (hts : ∀ t ∈ f.params.toList, t ∈ S) (hv : s.vars = []) (hres : (s.fn H (ds ++ gs)).results = [.lit (.bool true)]) (harg : (s.fn H (ds ++ gs)).args = ds) (hvr : (s.fn H (ds ++ gs)).vars = []) {tb : TypeId} (hrt : f.resultTypes = #[tb]) (hb : P.underlying tb = some .bool) (hO : Old W W') (hos : W'.os = W.os) (hout : W'.output = W.output) :
    s.post enc P f false true false false W args (.bool true) W' := by
  have hW' := hW
  obtain ⟨p, q, hA, hV, hpq, hz, hn⟩ := hW
  rw [hv] at hV
  obtain ⟨rfl, rfl⟩ := trodVars_nil hV
  rw [List.append_nil] at hpq
  subst hpq
  have hres' : ∀ (b : Nat) (sp : Nat → Bool) (hd : Bool), DataW.TrodAll enc P W' b sp hd f.resultTypes.toList ((Value.bool true).resultList f.resultTypes.size) (s.fn H (ds ++ [])).results [] := fun b sp hd => by
    rw [hres, hrt]
    exact ⟨[], [], ⟨1, by simp [DataW.trod, hb, Value.cells]⟩, rfl, rfl⟩
  refine ⟨ds, [], before, [], before, [], hW', hres' _ _ _, ?_, ?_, kept_old hO hos hout _, fun h => by cases h⟩
  · rw [harg]
    exact trodAll_keep hS hO hts hA fun x hx => by simpa using hW'.lt x hx
  · rw [hvr, hv]; rfl
def SA (P : Program) (t : TypeId) (A : AVal) (b : Nat) : Prop :=
  ((∃ fs, P.underlying t = some (.struct fs)) ∧ ∃ As, A = .agg As ∧ Sh P t As b) ∨ ((∀ fs, P.underlying t ≠ some (.struct fs)) ∧ Sh P t [A] b)
inductive SAs (P : Program) : List TypeId → List AVal → Nat → Prop
  | nil : SAs P [] [] 0
  | cons (t : TypeId) (A : AVal) (b : Nat) (ts : List TypeId) (As : List AVal) (c : Nat) (h : SA P t A b) (hr : SAs P ts As c) : SAs P (t :: ts) (A :: As) (b + c)
theorem trod_value {S : List TypeId} (hP : Plain P S) {w : World} {base : Nat} {t : TypeId} {v : Value} {d : DataW H} {ps : List MemPlace} (hok : Value.okWide P w .any base t v) (ht : t ∈ S) (h : DataW.Trod enc P w 0 (fun _ => true) true t v d ps) :
    ∃ A, SA P t A (bulk d) ∧ VRel (Env.plain w) none A v := by
  obtain ⟨fuel, h⟩ := h
  obtain ⟨As, hS, hl, hc⟩ := trod_cells hP fuel t _ _ ht h
  have hna : ∀ n e, P.underlying t ≠ some (.array n e) := fun n e hu => by
    have := hP.at_ t ht
    unfold PlainAt at this
    rw [hu] at this
    exact this
  by_cases hs : ∃ fs, P.underlying t = some (.struct fs)
  · obtain ⟨fs, hs⟩ := hs
    unfold Value.okWide at hok
    rw [hs] at hok
    obtain ⟨cs, rfl, _, _⟩ := hok
    refine ⟨.agg As, .inl ⟨⟨fs, hs⟩, As, rfl, hS⟩, .agg none As cs (by simpa [Value.cells] using hl.symm) fun k A v hA hv => hc k A v hA (by simpa [Value.cells] using hv)⟩
  · have hns : ∀ fs, P.underlying t ≠ some (.struct fs) := fun fs e => hs ⟨fs, e⟩
    have hv : v.cells = #[v] := by
      cases v with
      | agg cs =>
        exfalso
        unfold Value.okWide at hok
        cases hu : P.underlying t with
        | none =>
          rw [hu] at hok
          simp [Cell.okWide, Cell.ok, hu] at hok
        | some dsc =>
          rw [hu] at hok
          cases dsc with
          | struct fs => exact hns fs hu
          | array n e => exact hna n e hu
          | _ => simp [Cell.okWide, Cell.ok, hu] at hok
      | _ => rfl
    rw [hv] at hl hc
    have : ∃ A, As = [A] := by
      match As, hl with
      | [A], _ => exact ⟨A, rfl⟩
    obtain ⟨A, rfl⟩ := this
    exact ⟨A, .inr ⟨hns, hS⟩, hc 0 A v rfl rfl⟩
theorem trodAll_values {S : List TypeId} (hP : Plain P S) {w : World} {base : Nat} : ∀ {ts : List TypeId} {vs : List Value} {ds : List (DataW H)} {ps : List MemPlace}, (∀ (j : Nat) t v, ts[j]? = some t → vs[j]? = some v → Value.okWide P w .any base t v) → (∀ t ∈ ts, t ∈ S) →
    DataW.TrodAll enc P w 0 (fun _ => true) true ts vs ds ps → ∃ As, SAs P ts As (bulkL ds) ∧ As.length = vs.length ∧ ∀ (k : Nat) A v, As[k]? = some A → vs[k]? = some v → VRel (Env.plain w) none A v
  | [], [], [], ps, _, _, _ => ⟨[], .nil, rfl, fun k A v h => by simp at h⟩
  | t :: ts, v :: vs, d :: ds, ps, hok, hna, ⟨p, q, h1, h2, _⟩ => by
    obtain ⟨A, hA, hv⟩ := trod_value hP (hok 0 t v rfl rfl) (hna t (.head _)) h1
    obtain ⟨As, hAs, hl, hvs⟩ := trodAll_values hP (fun j t' v' ht hv' => hok (j + 1) t' v' (by simpa using ht) (by simpa using hv')) (fun t ht => hna t (.tail _ ht)) h2
    refine ⟨A :: As, .cons t A _ ts As _ hA hAs, by simp [hl], fun k B u hB hu => ?_⟩
    cases k with
    | zero => simp at hB hu; subst hB; subst hu; exact hv
    | succ k => exact hvs k B u (by simpa using hB) (by simpa using hu)
theorem contract_true {S : List TypeId} (hP : Plain P S) {f : Nat} {fn : Func} {s : ChangeSpec} {B : Nat} {W : World} {base : Nat} {args : Array Value} {ds gs : List (DataW H)} {before : List MemPlace}
    (hval : ∀ (j : Nat) t v, fn.params[j]? = some t → args[j]? = some v → Value.okWide P W .any base t v) (hna : ∀ t ∈ fn.params.toList, t ∈ S)
    (hW : DataW.Whole enc P fn.params.toList s.vars false W args.toList ds gs before) (hv : s.vars = []) (hres : (s.fn H (ds ++ gs)).results = [.lit (.bool true)]) (harg : (s.fn H (ds ++ gs)).args = ds) (hvr : (s.fn H (ds ++ gs)).vars = [])
    {tb : TypeId} (hrt : fn.resultTypes = #[tb]) (hb : P.underlying tb = some .bool) (hbk : bulkL (ds ++ gs) ≤ B)
    (H0 : ∀ As b, SAs P fn.params.toList As b → b ≤ B → ACalls P [] f As [] fun r _ => r = .sc (.bool true)) :
    Calls P f args W fun e W' => ∃ v, e = .returned v ∧ s.post enc P fn false true false false W args v W' := by
  have hW' := hW
  obtain ⟨p, q, hA, hV, hpq, hz, hn⟩ := hW
  rw [hv] at hV
  obtain ⟨rfl, rfl⟩ := trodVars_nil hV
  obtain ⟨As, hAs, hl, hvs⟩ := trodAll_values hP (fun j t v ht hv' => hval j t v (by simpa using ht) (by simpa using hv')) hna hA
  rw [List.append_nil] at hbk
  have hC := (H0 As _ hAs hbk).2 (Env.plain W) args ⟨rfl, fun b q h => (by cases h), fun id cs h => (by simp at h)⟩ (by simpa using hl.symm) fun k A v hA' hv' => (hvs k A v hA' (by simpa using hv')).any rfl _
  refine hC.mono fun e W' ⟨v, r, h', E', he, hw, _, hr, hp, hq⟩ => ?_
  subst he hw hq
  cases hr
  refine ⟨_, rfl, post_true hP.at_ hW' hna hv hres harg hvr hrt hb (fun b hlt => (hp.old b rfl hlt).2) hp.os hp.output⟩
end
end Go.Ga

namespace Go.Ga
open Go
def keepN (n : Nat) (j : Nat) : Option Nat := if j < n then some j else none
def trimO (n : Nat) (O : Nat → Option (List Nat)) (b : Nat) : Option (List Nat) :=
  match O b with
  | some (1 :: j :: r) => if j < n then some (1 :: j :: r) else none
  | x => x
def Env.trim (E : Env) (n : Nat) : Env := { E with O := trimO n E.O, n := n }
theorem ACalls.trim {P : Program} {L : List (List Nat)} {f : Nat} {args : List AVal} {h : Heap} {Q : AVal → Heap → Prop} (H : ACalls P L f args h fun r h' => h.length ≤ h'.length ∧ Q (r.ren (keepN h.length)) (renH (keepN h.length) (h'.take h.length))) : ACalls P L f args h Q := by
  refine ⟨H.1, fun E vs h1 h2 h3 => (H.2 E vs h1 h2 h3).mono fun e w' ⟨v, r, h', E', he, hw, HR, hr, hP, hle, hQ⟩ => ?_⟩
  have hg : RenOk E' (E'.trim h.length) (keepN h.length) := fun id j hj hid => by
    unfold keepN at hj
    split at hj
    · cases hj; rename_i hlt; exact ⟨hlt, rfl, rfl, rfl⟩
    · cases hj
  have hN : ∀ b, E'.O b = none → b < E'.w.heap.size → (E'.trim h.length).O b = none ∧ (E'.trim h.length).w.heap[b]? = E'.w.heap[b]? := fun b hb _ => ⟨by show trimO _ _ b = none; simp [trimO, hb], rfl⟩
  have h3' : ∀ b s, E'.O b = some ([3] ++ s) → (E'.trim h.length).O b = some ([3] ++ s) := fun b s hb => by show trimO _ _ b = _; simp [trimO, hb]
  have h1' : ∀ id b s, id < h.length → E'.O b = some ([1, id] ++ s) → (E'.trim h.length).O b = some ([1, id] ++ s) := fun id b s hid hb => by show trimO _ _ b = _; simp [trimO, hb, hid]
  refine ⟨v, _, _, E'.trim h.length, he, hw, ?_, ?_, ?_, hQ⟩
  · refine ⟨?_, fun b q hb => ?_, fun id cs hcs => ?_⟩
    · show h.length = (renH _ _).length
      rw [renH_len, List.length_take]; omega
    · have hb' : trimO h.length E'.O b = some q := hb
      cases hO : E'.O b with
      | none => simp [trimO, hO] at hb'
      | some ℓ => exact HR.lim b ℓ hO
    · obtain ⟨cs0, h0, rfl⟩ := renH_get _ _ _ hcs
      rw [List.getElem?_take] at h0
      split at h0
      · rename_i hid
        obtain ⟨hO, arr, T, f, hb, ha, hl, hf, hv⟩ := HR.objs id cs0 h0
        refine ⟨(h1' id _ [] hid (by simpa using hO) : (E'.trim h.length).O (E'.ρ id) = some ([1, id] ++ [])), arr, T, f, hb, ha, by rw [renL_length]; exact hl, fun k A hk => ?_, fun k A hk => ?_⟩
        · obtain ⟨B, hB, _⟩ := renL_some hk
          exact hf k B hB
        · obtain ⟨B, hB, rfl⟩ := renL_some hk
          exact (hv k B hB).renK hg (Nat.le_refl _) hN (fun b s hb => ⟨h1' id b s hid hb, rfl⟩)
      · cases h0
  · have := VRel.renK (p := [3]) (q := [3]) (r := []) hg (Nat.le_refl _) hN (fun b s hb => ⟨h3' b s hb, rfl⟩) (by simpa using hr)
    simpa using this
  · refine ⟨hP.size, hP.os, hP.tape, hP.output, fun b hb hs => ?_, fun b r hb => ?_, fun b r hb => ?_, ⟨by rw [h1.num]; exact Nat.le_refl _, hP.ids.2⟩, fun b r hr hb hs => ?_⟩
    · obtain ⟨x1, x2⟩ := hP.old b hb hs
      exact ⟨by show trimO _ _ b = none; simp [trimO, x1], x2⟩
    · obtain ⟨x1, x2⟩ := hP.far b r hb
      exact ⟨by show trimO _ _ b = _; simp [trimO, x1], x2⟩
    · refine hP.farB b r ?_
      have hb' : trimO h.length E'.O b = some (2 :: r) := hb
      unfold trimO at hb'
      split at hb'
      · split at hb' <;> cases hb'
      · exact hb'
    · obtain ⟨x1, x2⟩ := hP.keep b r hr hb hs
      refine ⟨?_, x2⟩
      rcases x1 with x1 | x1
      · show trimO _ _ b = _ ∨ trimO _ _ b = _
        unfold trimO
        rw [x1]
        split
        · rename_i heq; cases heq; split
          · exact .inl rfl
          · exact .inr rfl
        · exact .inl rfl
      · right; show trimO _ _ b = none; simp [trimO, x1]
theorem ACalls.less {P : Program} {L L' : List (List Nat)} {f : Nat} {args : List AVal} {h : Heap} {Q : AVal → Heap → Prop} (H : ACalls P L f args h Q) (hL : ∀ r ∈ L', r ∈ L) : ACalls P L' f args h Q :=
  ⟨H.1, fun E vs h1 h2 h3 => (H.2 E vs h1 h2 h3).mono fun _ _ ⟨v, r, h', E', a, b, c, d, e, q⟩ => ⟨v, r, h', E', a, b, c, d, ⟨e.size, e.os, e.tape, e.output, e.old, e.far, e.farB, e.ids, fun b r hr => e.keep b r ⟨hL r hr.1, hr.2⟩⟩, q⟩⟩
theorem ACalls.nil {P : Program} {L : List (List Nat)} {f : Nat} {args : List AVal} {h : Heap} {Q : AVal → Heap → Prop} (H : ACalls P L f args h Q) : ACalls P [] f args h Q := H.less fun r hr => by cases hr
attribute [go_sem] keepN
end Go.Ga

namespace Go.Ga
open Go
def packs {α : Type} (f : α → List AVal) : List α → List AVal
  | [] => []
  | x :: l => f x ++ packs f l
section
variable {α : Type} {f : α → List AVal} {sz : Nat}
theorem packs_len (hf : ∀ x, (f x).length = sz) : ∀ l : List α, (packs f l).length = l.length * sz
  | [] => by simp [packs]
  | x :: l => by simp only [packs, List.length_append, hf, packs_len hf l, List.length_cons, Nat.add_mul]; omega
theorem packs_append : ∀ l m : List α, packs f (l ++ m) = packs f l ++ packs f m
  | [], m => rfl
  | x :: l, m => by simp only [List.cons_append, packs, packs_append l m, List.append_assoc]
theorem packs_drop (hf : ∀ x, (f x).length = sz) : ∀ (l : List α) (k : Nat), (packs f l).drop (k * sz) = packs f (l.drop k)
  | [], k => by simp [packs]
  | x :: l, 0 => by simp
  | x :: l, k + 1 => by
    simp only [packs, List.drop_succ_cons]
    rw [← packs_drop hf l k, Nat.add_mul, Nat.one_mul, List.drop_append, hf]
    rw [List.drop_of_length_le (by rw [hf]; omega), List.nil_append]
    congr 1; omega
theorem packs_take (hf : ∀ x, (f x).length = sz) : ∀ (l : List α) (k : Nat), (packs f l).take (k * sz) = packs f (l.take k)
  | [], k => by simp [packs]
  | x :: l, 0 => by simp [packs]
  | x :: l, k + 1 => by
    simp only [packs, List.take_succ_cons]
    rw [← packs_take hf l k, Nat.add_mul, Nat.one_mul, List.take_append, hf]
    rw [List.take_of_length_le (by rw [hf]; omega)]
    congr 2; omega
theorem packs_cells (hf : ∀ x, (f x).length = sz) {l : List α} {k : Nat} {x : α} (h : l[k]? = some x) : ((packs f l).drop (k * sz)).take sz = f x := by
  rw [packs_drop hf]
  have hlt : k < l.length := (List.getElem?_eq_some_iff.1 h).1
  rw [List.drop_eq_getElem_cons hlt]
  have hx : l[k] = x := by rw [List.getElem?_eq_getElem hlt] at h; exact Option.some.inj h
  rw [hx]
  simp only [packs]
  rw [List.take_append_of_le_length (by rw [hf]; exact Nat.le_refl _), List.take_of_length_le (by rw [hf]; exact Nat.le_refl _)]
theorem packs_plain (h : ∀ x, AVal.plainL (f x) = true) : ∀ l : List α, AVal.plainL (packs f l) = true
  | [] => rfl
  | x :: l => by
    have app : ∀ a b : List AVal, AVal.plainL a = true → AVal.plainL b = true → AVal.plainL (a ++ b) = true := fun a b ha hb => by
      induction a with
      | nil => exact hb
      | cons y a ih => simp only [AVal.plainL, Bool.and_eq_true] at ha; simp only [List.cons_append, AVal.plainL, ha.1, ih ha.2, Bool.and_self]
    exact app _ _ (h x) (packs_plain h l)
theorem packs_flat (h : ∀ x, AVal.flatL (f x) = true) : ∀ l : List α, AVal.flatL (packs f l) = true
  | [] => rfl
  | x :: l => by
    have app : ∀ a b : List AVal, AVal.flatL a = true → AVal.flatL b = true → AVal.flatL (a ++ b) = true := fun a b ha hb => by
      induction a with
      | nil => exact hb
      | cons y a ih => simp only [AVal.flatL, Bool.and_eq_true] at ha; simp only [List.cons_append, AVal.flatL, ha.1, ih ha.2, Bool.and_self]
    exact app _ _ (h x) (packs_flat h l)
theorem packs_cellOk (h : ∀ x, AVal.cellOkL (f x) = true) : ∀ l : List α, AVal.cellOkL (packs f l) = true
  | [] => rfl
  | x :: l => by
    have app : ∀ a b : List AVal, AVal.cellOkL a = true → AVal.cellOkL b = true → AVal.cellOkL (a ++ b) = true := fun a b ha hb => by
      induction a with
      | nil => exact hb
      | cons y a ih => simp only [AVal.cellOkL, Bool.and_eq_true] at ha; simp only [List.cons_append, AVal.cellOkL, ha.1, ih ha.2, Bool.and_self]
    exact app _ _ (h x) (packs_cellOk h l)
end
def two (x : Int × Int) : List AVal := [.sc (.int .i64 x.1), .sc (.int .i64 x.2)]
theorem two_len (x : Int × Int) : (two x).length = 2 := rfl
def tri (x : Int × Int × Int) : List AVal := [.sc (.int .i64 x.1), .sc (.int .i64 x.2.1), .sc (.int .i64 x.2.2)]
theorem tri_len (x : Int × Int × Int) : (tri x).length = 3 := rfl
abbrev twos (l : List (Int × Int)) : List AVal := packs two l
abbrev tris (l : List (Int × Int × Int)) : List AVal := packs tri l
theorem twos_len (l : List (Int × Int)) : (twos l).length = l.length * 2 := packs_len two_len l
theorem tris_len (l : List (Int × Int × Int)) : (tris l).length = l.length * 3 := packs_len tri_len l
theorem twos_plain (l : List (Int × Int)) : AVal.plainL (twos l) = true := packs_plain (fun _ => rfl) l
theorem tris_plain (l : List (Int × Int × Int)) : AVal.plainL (tris l) = true := packs_plain (fun _ => rfl) l
theorem twos_flat (l : List (Int × Int)) : AVal.flatL (twos l) = true := packs_flat (fun _ => rfl) l
theorem tris_flat (l : List (Int × Int × Int)) : AVal.flatL (tris l) = true := packs_flat (fun _ => rfl) l
theorem twos_cellOk (l : List (Int × Int)) : AVal.cellOkL (twos l) = true := packs_cellOk (fun _ => rfl) l
theorem tris_cellOk (l : List (Int × Int × Int)) : AVal.cellOkL (tris l) = true := packs_cellOk (fun _ => rfl) l
theorem twos_copyable (l : List (Int × Int)) : AVal.copyableL (twos l) = true := plain_copyableL _ (twos_plain l)
theorem tris_copyable (l : List (Int × Int × Int)) : AVal.copyableL (tris l) = true := plain_copyableL _ (tris_plain l)
theorem twos_freeze (l : List (Int × Int)) : AVal.freezeL (twos l) = twos l := copyable_freezeL _ (twos_copyable l)
theorem tris_freeze (l : List (Int × Int × Int)) : AVal.freezeL (tris l) = tris l := copyable_freezeL _ (tris_copyable l)
theorem twos_ids0 (l : List (Int × Int)) : AVal.ids0L (twos l) = true := plain_ids0L _ (twos_plain l)
theorem tris_ids0 (l : List (Int × Int × Int)) : AVal.ids0L (tris l) = true := plain_ids0L _ (tris_plain l)
theorem twos_ren (g : Nat → Option Nat) (l : List (Int × Int)) : AVal.renL g (twos l) = twos l := ids0_renL g _ (twos_ids0 l)
theorem tris_ren (g : Nat → Option Nat) (l : List (Int × Int × Int)) : AVal.renL g (tris l) = tris l := ids0_renL g _ (tris_ids0 l)
theorem two_cells {l : List (Int × Int)} {k : Nat} {x : Int × Int} (h : l[k]? = some x) : ((twos l).drop (k * 2)).take 2 = [.sc (.int .i64 x.1), .sc (.int .i64 x.2)] := packs_cells two_len h
attribute [go_sem] twos_len tris_len twos_plain tris_plain twos_flat tris_flat twos_cellOk tris_cellOk twos_copyable tris_copyable twos_freeze tris_freeze twos_ids0 tris_ids0 twos_ren tris_ren
end Go.Ga

namespace Go.Ga
open Go
section
variable {P : Program} {rs : List Nat} {N : Nat} {V : List Nat} {L : List (List Nat)} {x : ACode} {K : AExit → AState → Prop} {st : AState}
theorem sem_nil (p : List Nat) (sz : Nat) (hp : st.at p = some (.sc (.slice none 0 0))) (h : Wlk P rs N V L x K ((st.kill (AVal.under p true)).setAt p (.own (some sz) []))) : Wlk P rs N V L x K st :=
  sem_ghost (fun E tm R => by
    obtain ⟨u, hu, hr⟩ := R.at_ hp rfl
    cases hr
    have U : Under p E E := ⟨Nat.le_refl _, E.ids_refl, fun _ h _ => ⟨h, rfl⟩, fun _ _ h _ => ⟨h, rfl⟩⟩
    exact ⟨E, R.turn (keep := true) hp rfl (fun _ => ⟨_, _, rfl⟩) U R.lim rfl hu (.ownNil _ sz), Pres.refl E, rfl⟩) h
theorem sem_freeze (p : List Nat) {sz : Option Nat} {cs : List AVal} (hp : st.at p = some (.own sz cs)) (h : Wlk P rs N V L x K ((st.kill (AVal.under p false)).setAt p (AVal.own sz cs).freeze)) : Wlk P rs N V L x K st :=
  sem_ghost (fun E tm R => by
    obtain ⟨u, hu, hr⟩ := R.at_ hp rfl
    have U : Under p E (E.freeze p) := under_freeze p
    have hB : VRel (E.freeze p) (some p) (AVal.own sz cs).freeze u := hr.frozen p _ fun ℓ e => by cases e; exact List.prefix_refl _
    exact ⟨_, R.turn (keep := false) hp rfl (fun e => by cases e) U (lim_freeze R.lim) rfl hu hB, pres_freeze (mine_place (place_of_at hp)), rfl⟩) h
end
def Sees (A' A : AVal) : Prop := ∀ E po v, VRel E po A' v → VRel E po A v
theorem Sees.refl (A : AVal) : Sees A A := fun _ _ _ h => h
theorem Sees.imm (sz : Nat) : Sees (.sc (.slice none 0 0)) (.imm sz []) := fun _ _ _ h => by cases h; exact .immNil _ _ _
theorem Sees.own (sz : Nat) : Sees (.sc (.slice none 0 0)) (.own (some sz) []) := fun _ _ _ h => by cases h; exact .ownNil _ _
theorem Sees.dead (A : AVal) : Sees A .dead := fun _ _ v _ => .dead _ v
inductive SeesL : List AVal → List AVal → Prop
  | nil : SeesL [] []
  | cons {A' A : AVal} {l' l : List AVal} (h : Sees A' A) (hl : SeesL l' l) : SeesL (A' :: l') (A :: l)
theorem SeesL.get : ∀ {l' l : List AVal}, SeesL l' l → l'.length = l.length ∧ ∀ (k : Nat) A, l[k]? = some A → ∃ A', l'[k]? = some A' ∧ Sees A' A
  | _, _, .nil => ⟨rfl, fun k A h => by simp at h⟩
  | _, _, .cons (A' := A') h hl => by
    obtain ⟨h1, h2⟩ := hl.get
    refine ⟨by simp [h1], fun k A hA => ?_⟩
    cases k with
    | zero => simp at hA; subst hA; exact ⟨A', rfl, h⟩
    | succ k => simp at hA; simpa using h2 k A hA
theorem SeesL.refl : ∀ l : List AVal, SeesL l l
  | [] => .nil
  | A :: l => .cons (.refl A) (.refl l)
theorem ACalls.sees {P : Program} {L : List (List Nat)} {f : Nat} {args args' : List AVal} {h : Heap} {Q : AVal → Heap → Prop} (H : ACalls P L f args h Q) (hs : SeesL args' args) : ACalls P L f args' h Q := by
  obtain ⟨h1, h2⟩ := hs.get
  refine ⟨H.1, fun E vs hr hsz hv => H.2 E vs hr (hsz.trans h1) fun k A v hA hv' => ?_⟩
  obtain ⟨A', hA', hs'⟩ := h2 k A hA
  exact hs' _ _ _ (hv k A' v hA' hv')
def rowsO (l : List (List Nat)) : List AVal := l.map fun xs => .own (some 1) (nats xs)
def rowsI (l : List (List Nat)) : List AVal := l.map fun xs => .imm 1 (nats xs)
theorem rowsO_len (l : List (List Nat)) : (rowsO l).length = l.length := by simp [rowsO]
theorem rowsI_len (l : List (List Nat)) : (rowsI l).length = l.length := by simp [rowsI]
theorem rowsO_get {l : List (List Nat)} {k : Nat} {x : List Nat} (h : l[k]? = some x) : (rowsO l)[k]? = some (.own (some 1) (nats x)) := by simp [rowsO, h]
theorem rowsI_get {l : List (List Nat)} {k : Nat} {x : List Nat} (h : l[k]? = some x) : (rowsI l)[k]? = some (.imm 1 (nats x)) := by simp [rowsI, h]
theorem rowsO_set (l : List (List Nat)) (k : Nat) (x : List Nat) : (rowsO l).set k (.own (some 1) (nats x)) = rowsO (l.set k x) := by simp [rowsO, List.map_set]
theorem rowsO_snoc (l : List (List Nat)) (x : List Nat) : rowsO l ++ [.own (some 1) (nats x)] = rowsO (l ++ [x]) := by simp [rowsO]
theorem rowsO_freeze : ∀ l : List (List Nat), AVal.freezeL (rowsO l) = rowsI l
  | [] => rfl
  | x :: l => by
    have ih := rowsO_freeze l
    simp only [rowsO, rowsI, List.map_cons, AVal.freezeL, AVal.freeze, nats_freeze] at ih ⊢
    rw [ih]
theorem rowsI_plain : ∀ l : List (List Nat), AVal.plainL (rowsI l) = true
  | [] => rfl
  | x :: l => by
    have ih := rowsI_plain l
    simp only [rowsI, List.map_cons, AVal.plainL, AVal.plain, nats_plain, Bool.true_and] at ih ⊢
    exact ih
theorem rowsI_cellOk : ∀ l : List (List Nat), AVal.cellOkL (rowsI l) = true
  | [] => rfl
  | x :: l => by
    have ih := rowsI_cellOk l
    simp only [rowsI, List.map_cons, AVal.cellOkL, AVal.cellOk, Bool.true_and] at ih ⊢
    exact ih
theorem rowsO_cellOk : ∀ l : List (List Nat), AVal.cellOkL (rowsO l) = true
  | [] => rfl
  | x :: l => by
    have ih := rowsO_cellOk l
    simp only [rowsO, List.map_cons, AVal.cellOkL, AVal.cellOk, Bool.true_and] at ih ⊢
    exact ih
theorem rowsO_flat : ∀ l : List (List Nat), AVal.flatL (rowsO l) = true
  | [] => rfl
  | x :: l => by
    have ih := rowsO_flat l
    simp only [rowsO, List.map_cons, AVal.flatL, AVal.flat, nats_flat, Bool.true_and] at ih ⊢
    exact ih
theorem rowsO_ids0 : ∀ l : List (List Nat), AVal.ids0L (rowsO l) = true
  | [] => rfl
  | x :: l => by
    have ih := rowsO_ids0 l
    simp only [rowsO, List.map_cons, AVal.ids0L, AVal.ids0, nats_ids0, Bool.true_and] at ih ⊢
    exact ih
theorem rowsI_copyable (l : List (List Nat)) : AVal.copyableL (rowsI l) = true := plain_copyableL _ (rowsI_plain l)
theorem rowsI_freeze (l : List (List Nat)) : AVal.freezeL (rowsI l) = rowsI l := copyable_freezeL _ (rowsI_copyable l)
theorem rowsI_ids0 (l : List (List Nat)) : AVal.ids0L (rowsI l) = true := plain_ids0L _ (rowsI_plain l)
theorem rowsI_ren (g : Nat → Option Nat) (l : List (List Nat)) : AVal.renL g (rowsI l) = rowsI l := ids0_renL g _ (rowsI_ids0 l)
theorem rowsO_ren (g : Nat → Option Nat) (l : List (List Nat)) : AVal.renL g (rowsO l) = rowsO l := ids0_renL g _ (rowsO_ids0 l)
theorem nats_snoc (l : List Nat) (x : Nat) : nats l ++ [.sc (.int .i64 (x : Int))] = nats (l ++ [x]) := by simp [nats]
theorem twos_snoc (l : List (Int × Int)) (a b : Int) : twos l ++ [.sc (.int .i64 a), .sc (.int .i64 b)] = twos (l ++ [(a, b)]) := by simp [twos, packs_append, packs, two]
theorem nats_zero (n : Nat) : zeroCellsA [.int .i64 0] n = nats (List.replicate n 0) := by
  induction n with
  | zero => rfl
  | succ n ih =>
    simp only [zeroCellsA, List.replicate_succ, List.flatten_cons, nats, List.map_cons] at ih ⊢
    rw [ih]; rfl
theorem zc1 (zs : List Value) : zeroCellsA zs 1 = zs.map .sc ++ [] := rfl
theorem zc2 (zs : List Value) : zeroCellsA zs 2 = zs.map .sc ++ (zs.map .sc ++ []) := rfl
theorem zc3 (zs : List Value) : zeroCellsA zs 3 = zs.map .sc ++ (zs.map .sc ++ (zs.map .sc ++ [])) := rfl
attribute [go_sem] zc1 zc2 zc3 rowsO_len rowsI_len rowsO_set rowsO_freeze rowsI_plain rowsI_cellOk rowsO_cellOk rowsO_flat rowsO_ids0 rowsI_copyable rowsI_freeze rowsI_ids0 rowsI_ren rowsO_ren
end Go.Ga

namespace Go.Ga
open Go
section
variable {P : Program} {t : TypeId} {b : Nat}
def inI64 (n : Int) : Prop := -9223372036854775808 ≤ n ∧ n ≤ 9223372036854775807
theorem wf_i64 {n : Int} (h : (Lit.int .i64 n).wf = true) : inI64 n := by
  simp only [Lit.wf, decide_eq_true_eq, Bool.and_eq_true] at h
  have e1 : IntKind.min .i64 = -9223372036854775808 := by decide
  have e2 : IntKind.max .i64 = 9223372036854775807 := by decide
  rw [e1, e2] at h
  exact h
theorem sh_int {k : IntKind} {cs : List AVal} (hu : P.underlying t = some (.int k)) (h : Sh P t cs b) : ∃ n, cs = [.sc (.int k n)] ∧ (Lit.int k n).wf = true ∧ b = 1 := by
  cases h with
  | int _ k' n hu' hw => rw [hu] at hu'; cases hu'; exact ⟨n, rfl, hw, rfl⟩
  | bool _ _ h' => rw [hu] at h'; cases h'
  | string _ _ h' => rw [hu] at h'; cases h'
  | slice _ _ _ _ h' => rw [hu] at h'; cases h'
  | struct _ _ _ h' => rw [hu] at h'; cases h'
  | other _ _ _ h1 => exact absurd hu (h1 k)
theorem sh_slice {e : TypeId} {cs : List AVal} (hu : P.underlying t = some (.slice e)) (h : Sh P t cs b) : ∃ (L : List (List AVal × Nat)) (more : Nat), cs = [.imm (P.cellsOf e) (L.map (·.1)).flatten] ∧ b = 1 + (L.map (·.2)).sum + more ∧ ∀ x ∈ L, Sh P e x.1 x.2 := by
  cases h with
  | slice _ e' L more hu' hl hh => rw [hu] at hu'; cases hu'; exact ⟨L, more, rfl, rfl, hh⟩
  | int _ _ _ h' => rw [hu] at h'; cases h'
  | bool _ _ h' => rw [hu] at h'; cases h'
  | string _ _ h' => rw [hu] at h'; cases h'
  | struct _ _ _ h' => rw [hu] at h'; cases h'
  | other _ _ _ _ _ _ h4 => exact absurd hu (h4 e)
theorem packs_of {α : Type} {f : α → List AVal} {R : α → Prop} : ∀ {L : List (List AVal × Nat)}, (∀ x ∈ L, ∃ y, x.1 = f y ∧ R y ∧ 1 ≤ x.2) → ∃ ys : List α, (L.map (·.1)).flatten = packs f ys ∧ (∀ y ∈ ys, R y) ∧ ys.length ≤ (L.map (·.2)).sum
  | [], _ => ⟨[], rfl, fun y h => (by cases h), Nat.le_refl _⟩
  | x :: L, h => by
    obtain ⟨y, h1, h2, h3⟩ := h x (.head _)
    obtain ⟨ys, g1, g2, g3⟩ := packs_of (L := L) fun z hz => h z (.tail _ hz)
    refine ⟨y :: ys, by simp only [List.map_cons, List.flatten_cons, packs, h1, g1], fun z hz => ?_, by simp only [List.map_cons, List.sum_cons, List.length_cons]; omega⟩
    cases hz with
    | head => exact h2
    | tail _ hz => exact g2 z hz
theorem packs_ints (xs : List Int) : packs (fun n => [AVal.sc (.int .i64 n)]) xs = ints xs := by
  induction xs with
  | nil => rfl
  | cons x xs ih => simp only [packs, ih, ints, List.map_cons, List.singleton_append]
theorem sh_ints {e : TypeId} {cs : List AVal} (hu : P.underlying t = some (.slice e)) (he : P.underlying e = some (.int .i64)) (hc : P.cellsOf e = 1) (h : Sh P t cs b) : ∃ xs : List Int, cs = [.imm 1 (ints xs)] ∧ (∀ x ∈ xs, inI64 x) ∧ xs.length < b := by
  obtain ⟨L, more, rfl, rfl, hL⟩ := sh_slice hu h
  obtain ⟨ys, h1, h2, h3⟩ := packs_of (f := fun n => [AVal.sc (.int .i64 n)]) (R := inI64) (L := L) fun x hx => by
    obtain ⟨n, g1, g2, g3⟩ := sh_int he (hL x hx)
    exact ⟨n, g1, wf_i64 g2, by omega⟩
  exact ⟨ys, by rw [h1, hc, packs_ints], h2, by omega⟩
theorem sa_one {A : AVal} (hu : ∀ fs, P.underlying t ≠ some (.struct fs)) (h : SA P t A b) : Sh P t [A] b := by
  rcases h with ⟨⟨fs, h⟩, _⟩ | ⟨_, h⟩
  · exact absurd h (hu fs)
  · exact h
theorem sas_cons {ts : List TypeId} {As : List AVal} (h : SAs P (t :: ts) As b) : ∃ A As' c d, As = A :: As' ∧ b = c + d ∧ SA P t A c ∧ SAs P ts As' d := by
  cases h with
  | cons _ A c _ As' d h hr => exact ⟨A, As', c, d, rfl, rfl, h, hr⟩
theorem sas_nil {As : List AVal} (h : SAs P [] As b) : As = [] := by cases h; rfl
theorem sa_int {k : IntKind} {A : AVal} (hu : P.underlying t = some (.int k)) (h : SA P t A b) : ∃ n, A = .sc (.int k n) ∧ (Lit.int k n).wf = true := by
  obtain ⟨n, h1, h2, _⟩ := sh_int hu (sa_one (fun fs h => by rw [hu] at h; cases h) h)
  exact ⟨n, by injection h1, h2⟩
theorem sa_ints {e : TypeId} {A : AVal} (hu : P.underlying t = some (.slice e)) (he : P.underlying e = some (.int .i64)) (hc : P.cellsOf e = 1) (h : SA P t A b) : ∃ xs : List Int, A = .imm 1 (ints xs) ∧ (∀ x ∈ xs, inI64 x) ∧ xs.length < b := by
  obtain ⟨xs, h1, h2⟩ := sh_ints hu he hc (sa_one (fun fs h => by rw [hu] at h; cases h) h)
  exact ⟨xs, by injection h1, h2⟩
end
end Go.Ga

namespace Go.Ga
open Go
theorem heap_row {α : Type} [Inhabited α] (enc : α → Value) (w : World) (n blk off : Nat) (d : Array α) (os : Array Obj) {b : Nat} (hb : b < w.heap.size) :
    (Sort.grow (Sort.putRow enc (Sort.ahead w n) blk off d) os).heap[b]? = if blk = b then (w.heap[b]?).map (Sort.onCells (Sort.putCells enc off d)) else w.heap[b]? := by
  unfold Sort.grow Sort.putRow Sort.mapBlock Sort.ahead
  simp only
  rw [Array.getElem?_append_left (by simpa using hb), Array.getElem?_modify]
theorem acalls_row {P : Program} {f : Nat} (hc : callable P f = true) (g : List Int → List Int) (hg : ∀ zs, (g zs).length = zs.length) (zs : List Int)
    (H : ∀ (blk off cap : Nat) (w : World), Sort.Holds (Value.int .i64) w blk off zs.toArray → blk < w.heap.size →
      Calls P f #[.slice (some ⟨blk, off, none⟩) zs.length cap] w fun e w' => e = .returned (.tuple #[]) ∧ ∃ n os, w' = Sort.grow (Sort.putRow (Value.int .i64) (Sort.ahead w n) blk off (g zs).toArray) os) :
    ACalls P [] f [.sl 0 0 zs.length 1] [some (ints zs)] fun r h' => r = .tup [] ∧ h' = [some (ints (g zs))] := by
  refine ⟨hc, fun E vs hH hs hv => ?_⟩
  have hs1 : vs.size = 1 := hs
  have hv0 := hv 0 _ vs[0] rfl (by simp [hs1])
  have evs : vs = #[vs[0]] := by
    apply Array.ext
    · simpa using hs1
    · intro i h1 h2
      have : i = 0 := by omega
      subst this; rfl
  rw [evs]
  generalize vs[0] = v0 at hv0
  cases hv0 with
  | sl po id off len cap sz hn hcap hm hk =>
  obtain ⟨hO, arr, T, fv, hb, ha, hcs, hf, hr⟩ := hH.objs 0 _ rfl
  have hsize : E.ρ 0 < E.w.heap.size := hH.lim _ _ hO
  have hlen : (ints zs).length = zs.length := ints_len zs
  have hfk : ∀ k (h : k < zs.length), fv k = .int .i64 zs[k] := by
    intro k h
    have e : (ints zs)[k]? = some (.sc (.int .i64 zs[k])) := by simp [ints, h]
    have := hr k _ e
    generalize fv k = u at this
    cases this
    rfl
  have hak : ∀ k, k < zs.length → arr[E.β 0 + k]? = some (fv k) := fun k h => hf k _ (by rw [List.getElem?_eq_getElem (by rw [hlen]; exact h)])
  have hold : Sort.Holds (Value.int .i64) E.w (E.ρ 0) (E.β 0 + 0) zs.toArray := by
    intro j hj
    have hj : j < zs.length := by simpa using hj
    have e := hak j hj
    rw [hfk j hj] at e
    constructor
    · simp [World.cell?, hb, e, hj]
    · simp [World.frozen?, hb]
  refine (H (E.ρ 0) (E.β 0 + 0) cap E.w hold hsize).mono ?_
  rintro e w' ⟨rfl, n, os, rfl⟩
  have hw : ∀ b, b < E.w.heap.size → (Sort.grow (Sort.putRow (Value.int .i64) (Sort.ahead E.w n) (E.ρ 0) (E.β 0 + 0) (g zs).toArray) os).heap[b]? = if E.ρ 0 = b then (E.w.heap[b]?).map (Sort.onCells (Sort.putCells (Value.int .i64) (E.β 0 + 0) (g zs).toArray)) else E.w.heap[b]? :=
    fun b hb => heap_row _ _ _ _ _ _ _ hb
  have hsz : E.w.heap.size ≤ (Sort.grow (Sort.putRow (Value.int .i64) (Sort.ahead E.w n) (E.ρ 0) (E.β 0 + 0) (g zs).toArray) os).heap.size := by
    simp [Sort.grow, Sort.putRow, Sort.mapBlock, Sort.ahead]
  generalize hW : Sort.grow (Sort.putRow (Value.int .i64) (Sort.ahead E.w n) (E.ρ 0) (E.β 0 + 0) (g zs).toArray) os = W at hw hsz
  have hos : W.os = E.w.os ∧ W.tape = E.w.tape ∧ W.output = E.w.output := by subst hW; exact ⟨rfl, rfl, rfl⟩
  refine ⟨.tuple #[], .tup [], [some (ints (g zs))], { E with w := W }, rfl, rfl, ?_, .tup _ _ _ rfl (fun k A v h => by simp at h), ?_, rfl, rfl⟩
  · refine ⟨hH.num, fun b q h => Nat.lt_of_lt_of_le (hH.lim b q h) hsz, ?_⟩
    intro id cs h
    have hid : id = 0 ∧ cs = ints (g zs) := by
      cases id with
      | zero => simp at h; exact ⟨rfl, h.symm⟩
      | succ k => simp at h
    obtain ⟨rfl, rfl⟩ := hid
    refine ⟨hO, Sort.putCells (Value.int .i64) (E.β 0 + 0) (g zs).toArray arr, T, fun k => .int .i64 ((g zs).getD k 0), ?_, ?_, ?_, ?_, ?_⟩
    · show W.heap[E.ρ 0]? = _
      rw [hw _ hsize, if_pos rfl, hb]
      rfl
    · simpa [Sort.putCells] using ha
    · rw [ints_len, hg, ← hlen]; exact hcs
    · intro k A hk'
      have hk1 : k < (g zs).length := by
        have := (List.getElem?_eq_some_iff.1 hk').1
        rwa [ints_len] at this
      have hk2 : k < zs.length := by rw [← hg]; exact hk1
      show (Sort.putCells (Value.int .i64) (E.β 0 + 0) (g zs).toArray arr)[E.β 0 + k]? = _
      unfold Sort.putCells
      rw [Array.getElem?_mapIdx, hak k hk2]
      simp [hk1]
    · intro k A hk'
      have hk1 : k < (g zs).length := by
        have := (List.getElem?_eq_some_iff.1 hk').1
        rwa [ints_len] at this
      have : A = .sc (.int .i64 ((g zs).getD k 0)) := by
        have := hk'
        simp [ints, hk1] at this
        rw [← this]
        simp [hk1]
      rw [this]
      exact .sc _ _
  · have hne : ∀ b, (∀ q, E.O b = some q → q ≠ [1, 0]) → b < E.w.heap.size → W.heap[b]? = E.w.heap[b]? := by
      intro b h1 h2
      rw [hw b h2, if_neg]
      intro hh
      subst hh
      exact h1 _ hO rfl
    refine ⟨hsz, hos.1, hos.2.1, hos.2.2, ?_, ?_, fun b r h => h, ⟨Nat.le_refl _, fun _ _ => ⟨rfl, rfl, rfl⟩⟩, ?_⟩
    · intro b h1 h2
      exact ⟨h1, hne b (fun q hq => by rw [h1] at hq; cases hq) h2⟩
    · intro b r h
      exact ⟨h, hne b (fun q hq => by rw [h] at hq; cases hq; simp) (hH.lim _ _ h)⟩
    · intro b r hW' _ _
      exact absurd hW'.1 (by simp)
end Go.Ga

namespace Go.Ga
open Go
def updAll (vs : List (Nat × AVal)) : List (Nat × AVal) → List (Nat × AVal)
  | [] => vs
  | (i, A) :: l => updAll (upd vs i A) l
theorem updAll_nil (vs : List (Nat × AVal)) : updAll vs [] = vs := rfl
theorem updAll_cons (vs : List (Nat × AVal)) (i : Nat) (A : AVal) (l : List (Nat × AVal)) : updAll vs ((i, A) :: l) = updAll (upd vs i A) l := rfl
theorem meet {A B : Prop} (h : A → B) (a : A) : B := h a
theorem set2 (x y a b : AVal) : setCells [x, y] 0 [a, b] = [a, b] := rfl
theorem set3 (x y z a b c : AVal) : setCells [x, y, z] 0 [a, b, c] = [a, b, c] := rfl
theorem mul2 (n : Nat) : n * 2 / 2 = n := by omega
theorem mul3 (n : Nat) : n * 3 / 3 = n := by omega
theorem incS {k : Nat} (h : k < 4611686018427387904) : IntKind.i64.wrap ((k : Int) + 1) = ((k + 1 : Nat) : Int) := by rw [IntWalk.i64_in _ (by omega)]; omega
theorem decS {k : Nat} (h : k < 4611686018427387904) : IntKind.i64.wrap (((k + 1 : Nat) : Int) - 1) = (k : Int) := by rw [IntWalk.i64_in _ (by omega)]; omega
theorem nen {α : Type} (x : α) [Decidable (x ≠ x)] : decide (x ≠ x) = false := decide_eq_false (fun h => h rfl)
theorem eqn {α : Type} (x : α) [Decidable (x = x)] : decide (x = x) = true := decide_eq_true rfl
theorem twos_drop (l : List (Int × Int)) (k : Nat) : (twos l).drop (k * 2) = twos (l.drop k) := packs_drop two_len l k
theorem twos_take (l : List (Int × Int)) (k : Nat) : (twos l).take (k * 2) = twos (l.take k) := packs_take two_len l k
theorem twos_append (l m : List (Int × Int)) : twos (l ++ m) = twos l ++ twos m := packs_append l m
theorem cut_twos (l : List (Int × Int)) (lo hi : Nat) : cutCells (twos l) 2 lo hi = twos ((l.drop lo).take (hi - lo)) := by
  rw [cutCells, twos_drop, twos_take]
theorem cut_nats (l : List Nat) (lo hi : Nat) : cutCells (nats l) 1 lo hi = nats ((l.drop lo).take (hi - lo)) := by
  simp [cutCells, nats]
theorem eqInts2 (a b c d : Int) : eqInts [.sc (.int .i64 a), .sc (.int .i64 b)] [.sc (.int .i64 c), .sc (.int .i64 d)] = some (decide ((a, b) = (c, d))) := by
  simp [eqInts]
attribute [go_sem] Int.toNat_zero Int.toNat_one Nat.div_one Int.cast_ofNat_Int decide_true decide_false bne_self_eq_false Bool.not_false Bool.not_true Nat.zero_le or_self true_or or_true List.length_set List.length_range isNilSl eqInts2 Option.bind_some aggOf set2 set3 mul2 mul3 twos_len tris_len nen eqn updAll_nil updAll_cons
theorem SeesL.own {sz : Nat} {l' l : List AVal} (h : SeesL l' l) : Sees (.own (some sz) l') (.own (some sz) l) := fun E po v hv => by
  obtain ⟨h1, h2⟩ := h.get
  cases hv with
  | own ℓ _ _ b o len cap arr T f hO hb hl hc hm ha hf hh =>
    refine .own ℓ sz l b o len cap arr T f hO hb (by rw [← h1]; exact hl) hc hm ha (fun k A hA => ?_) fun k A hA => ?_
    · obtain ⟨A', hA', _⟩ := h2 k A hA; exact hf k A' hA'
    · obtain ⟨A', hA', hs⟩ := h2 k A hA; exact hs _ _ _ (hh k A' hA')
  | ownNil =>
    cases l with
    | nil => exact .ownNil _ _
    | cons => simp at h1
theorem SeesL.imm {sz : Nat} {l' l : List AVal} (h : SeesL l' l) : Sees (.imm sz l') (.imm sz l) := fun E po v hv => by
  obtain ⟨h1, h2⟩ := h.get
  cases hv with
  | imm _ _ _ b o len cap f hO hb hl hc hf hh =>
    refine .imm po sz l b o len cap f hO hb (by rw [← h1]; exact hl) hc (fun k A hA => ?_) fun k A hA => ?_
    · obtain ⟨A', hA', _⟩ := h2 k A hA; exact hf k A' hA'
    · obtain ⟨A', hA', hs⟩ := h2 k A hA; exact hs _ _ _ (hh k A' hA')
  | immNil =>
    cases l with
    | nil => exact .immNil _ _ _
    | cons => simp at h1
theorem SeesL.agg {l' l : List AVal} (h : SeesL l' l) : Sees (.agg l') (.agg l) := fun E po v hv => by
  obtain ⟨h1, h2⟩ := h.get
  cases hv with
  | agg _ _ vs hs hh =>
    refine .agg po l vs (by rw [← h1]; exact hs) fun k A v hA hv => ?_
    obtain ⟨A', hA', hs'⟩ := h2 k A hA
    exact hs' _ _ _ (hh k A' v hA' hv)
theorem SeesL.rep {A' A : AVal} (h : Sees A' A) : ∀ n, SeesL (List.replicate n A') (List.replicate n A)
  | 0 => .nil
  | n + 1 => .cons h (SeesL.rep h n)
section
variable {P : Program} {rs : List Nat} {N : Nat} {V : List Nat} {L : List (List Nat)} {x : ACode} {K : AExit → AState → Prop} {st : AState}
theorem sem_sees (p : List Nat) {A : AVal} (B : AVal) (hp : st.at p = some A) (hA : A.isAlias = false) (hs : Sees A B) (h : Wlk P rs N V L x K ((st.kill (AVal.under p false)).setAt p B)) : Wlk P rs N V L x K st :=
  sem_ghost (fun E tm R => by
    obtain ⟨u, hu, hr⟩ := R.at_ hp hA
    have U : Under p E E := ⟨Nat.le_refl _, E.ids_refl, fun _ h _ => ⟨h, rfl⟩, fun _ _ h _ => ⟨h, rfl⟩⟩
    exact ⟨E, R.turn (keep := false) hp hA (fun e => by cases e) U R.lim rfl hu (hs _ _ _ hr), Pres.refl E, rfl⟩) h
theorem sem_share (p : List Nat) {cs : List AVal} (hp : st.at p = some (.own none cs)) (h : Wlk P rs N V [] x K (st.shareAt p cs (.ptr st.h.length 0))) : Wlk P rs N V [] x K st :=
  sem_ghost (fun E tm R => by
    obtain ⟨E1, R1, _, P1, hw, _⟩ := share_sound (a := ⟨tm, []⟩) (L := []) (l := []) R hp (fun y hy => by cases hy) rfl
    exact ⟨E1, R1, P1, hw⟩) h
end
theorem zero_nil (n : Nat) : zeroCellsA [.slice none 0 0] n = List.replicate n (.sc (.slice none 0 0)) := by
  simp only [zeroCellsA, List.map]
  induction n with
  | zero => rfl
  | succ n ih => simp only [List.replicate_succ, List.flatten_cons, ih]; rfl
theorem rowsO_rep (n : Nat) : rowsO (List.replicate n []) = List.replicate n (.own (some 1) []) := by
  simp [rowsO, nats]
theorem sees_rows (n : Nat) : Sees (.own (some 1) (zeroCellsA [.slice none 0 0] n)) (.own (some 1) (rowsO (List.replicate n []))) := by
  rw [zero_nil, rowsO_rep]
  exact (SeesL.rep (Sees.own 1) n).own
def bools (xs : List Bool) : List AVal := xs.map fun b => .sc (.bool b)
theorem bools_len (xs : List Bool) : (bools xs).length = xs.length := by simp [bools]
theorem bools_get {xs : List Bool} {k : Nat} (h : k < xs.length) : (bools xs)[k]? = some (.sc (.bool (xs.getD k false))) := by
  simp [bools, List.getD_eq_getElem?_getD, List.getElem?_eq_getElem h]
theorem bools_set (xs : List Bool) (k : Nat) (b : Bool) : (bools xs).set k (.sc (.bool b)) = bools (xs.set k b) := by
  simp [bools, List.map_set]
theorem bools_plain (xs : List Bool) : AVal.plainL (bools xs) = true := (scs_all _ xs).1
theorem bools_flat (xs : List Bool) : AVal.flatL (bools xs) = true := (scs_all _ xs).2
theorem bools_cellOk : ∀ xs : List Bool, AVal.cellOkL (bools xs) = true
  | [] => rfl
  | b :: l => by show (_ && AVal.cellOkL (bools l)) = true; rw [bools_cellOk l]; rfl
theorem bools_copyable (xs : List Bool) : AVal.copyableL (bools xs) = true := plain_copyableL _ (bools_plain xs)
theorem bools_freeze (xs : List Bool) : AVal.freezeL (bools xs) = bools xs := copyable_freezeL _ (bools_copyable xs)
theorem bools_ids0 (xs : List Bool) : AVal.ids0L (bools xs) = true := plain_ids0L _ (bools_plain xs)
theorem bools_ren (g : Nat → Option Nat) (xs : List Bool) : AVal.renL g (bools xs) = bools xs := ids0_renL g _ (bools_ids0 xs)
theorem bools_zero (n : Nat) : zeroCellsA [.bool false] n = bools (List.replicate n false) := by
  simp only [zeroCellsA, List.map]
  induction n with
  | zero => rfl
  | succ n ih => simp only [List.replicate_succ, List.flatten_cons, ih]; rfl
attribute [go_sem] bools_len bools_set bools_plain bools_flat bools_cellOk bools_copyable bools_freeze bools_ids0 bools_ren bools_zero
theorem ACalls.frz {P : Program} {L : List (List Nat)} {f : Nat} {args : List AVal} {h : Heap} {Q : AVal → Heap → Prop} (H : ACalls P L f args h Q) : ACalls P L f args h fun r h' => ∃ r0, r = r0.freeze ∧ Q r0 h' := by
  refine ⟨H.1, fun E vs hH hs hv => (H.2 E vs hH hs hv).mono ?_⟩
  rintro e w' ⟨v, r, h', E', he, hw, hH', hr, hP, hQ⟩
  have U : Under [3] E' (E'.freeze [3]) := under_freeze [3]
  refine ⟨v, r.freeze, h', E'.freeze [3], he, hw, ⟨hH'.num, lim_freeze hH'.lim, fun id cs hcs => ?_⟩, hr.frozen [3] _ (fun ℓ e => by cases e; exact List.prefix_refl _), hP.trans (pres_freeze mine3'), r, rfl, hQ⟩
  have hid : id < E'.n := by rw [hH'.num]; exact (List.getElem?_eq_some_iff.1 hcs).1
  exact (hH'.objs id cs hcs).keep U hid (apart_kind (by decide))
section
variable {P : Program} {rs : List Nat} {N : Nat} {V : List Nat} {L : List (List Nat)} {K : AExit → AState → Prop} {x : ACode}
theorem wlk_lp {vs : List (Nat × AVal)} {h0 : Heap} {α : Type} (J : List Nat) (f : α → List (Nat × AVal)) (g : α → Heap) (inv : α → Nat → Prop) (a0 : α) (n0 : Nat) (hJ : (J.all fun i => V.contains i) = true)
    (hs : AState.forget ⟨vs, [], h0⟩ J = ⟨updAll vs (J.map (fun i => (i, AVal.dead)) ++ f a0), [], g a0⟩) (hi : inv a0 n0)
    (h : ∀ a n, inv a n → ∀ X : AExit → AState → Prop, (∀ s a' m, m < n → s.forget J = ⟨updAll vs (J.map (fun i => (i, AVal.dead)) ++ f a'), [], g a'⟩ → inv a' m → X .normal s) → (∀ i s, K (.exit i) s → X (.exit i) s) → (∀ s, K .ret s → X .ret s) →
      Wlk P rs N V L x X ⟨updAll vs (J.map (fun i => (i, AVal.dead)) ++ f a), [], g a⟩) : Wlk P rs N V L (.loop x) K ⟨vs, [], h0⟩ := by
  refine wlk_loop (fun n s => ∃ a, inv a n ∧ s.forget J = ⟨updAll vs (J.map (fun i => (i, AVal.dead)) ++ f a), [], g a⟩) n0 ⟨a0, hi, hs⟩ ?_
  rintro n s ⟨a, ha, hst⟩ X hn he hr
  refine sem_forget J hJ ?_
  rw [hst]
  exact h a n ha X (fun s a' m hm hs' hi' => hn m s hm ⟨a', hi', hs'⟩) he hr
end
end Go.Ga

namespace Go.Ga
open Go
section
variable {P : Program} {t : TypeId} {b : Nat}
end
end Go.Ga
