/- That which degrees are right, what any pair lacks, and which edges are a factor, is told right of any graph, and that what is handed in stays, is proved for every input of the given size. -/
import Derived.Test.YtepjcfbigcfkfaaGeooimb5
import Derived.Test.YtepjcfbigcfkfaaTd1
import Derived.Shelf.Sort.Plain
import Derived.Test.YtepjcfbigcfkfaaRows
set_option linter.all false
namespace Go.Ga.Gl
open Go Go.Ga
abbrev Es := List (Nat × Nat)
def lexlt (a b : Nat × Nat) : Prop := a.1 < b.1 ∨ a.1 = b.1 ∧ a.2 < b.2
instance (a b : Nat × Nat) : Decidable (lexlt a b) := inferInstanceAs (Decidable (a.1 < b.1 ∨ a.1 = b.1 ∧ a.2 < b.2))
structure GR (n : Nat) (es : Es) : Prop where
  hn : n ≤ 4096
  hm : es.length ≤ 65536
  ok : ∀ e ∈ es, e.1 < e.2 ∧ e.2 < n
  up : es.Pairwise lexlt
def castE (l : Es) : List (Int × Int) := l.map fun e => ((e.1 : Int), (e.2 : Int))
theorem castE_len (l : Es) : (castE l).length = l.length := by simp [castE]
theorem castE_get {l : Es} {k : Nat} {a b : Nat} (h : l[k]? = some (a, b)) : (castE l)[k]? = some ((a : Int), (b : Int)) := by simp [castE, h]
theorem castE_append (l m : Es) : castE (l ++ m) = castE l ++ castE m := by simp [castE]
def okAt (n : Int) (es : List (Int × Int)) (i : Nat) : Bool :=
  let e := es.getD i (0, 0)
  let p := es.getD (i - 1) (0, 0)
  decide (0 ≤ e.1) && decide (e.1 < e.2) && decide (e.2 < n) && (decide (i = 0) || (decide (p.1 < e.1) || decide (p.1 = e.1) && decide (p.2 < e.2)))
def rightB (n : Int) (es : List (Int × Int)) : Bool :=
  decide (0 ≤ n) && decide (n ≤ 4096) && decide (es.length ≤ 65536) && (List.range es.length).all (okAt n es)
theorem rightB_false {n : Int} {es : List (Int × Int)} {i : Nat} (hi : i < es.length) (h : okAt n es i = false) : rightB n es = false := by
  have : (List.range es.length).all (okAt n es) = false := by
    rw [Bool.eq_false_iff]
    intro h1
    rw [List.all_eq_true] at h1
    have := h1 i (List.mem_range.2 hi)
    rw [h] at this; cases this
  simp [rightB, this]
theorem rightB_true {n : Int} {es : List (Int × Int)} (h0 : 0 ≤ n) (h1 : n ≤ 4096) (h2 : es.length ≤ 65536) (h : ∀ i, i < es.length → okAt n es i = true) : rightB n es = true := by
  simp only [rightB, Bool.and_eq_true, decide_eq_true_eq, List.all_eq_true, List.mem_range]
  exact ⟨⟨⟨h0, h1⟩, h2⟩, h⟩
theorem pairwise_of_next {α : Type} {R : α → α → Prop} (ht : ∀ a b c, R a b → R b c → R a c) : ∀ {l : List α}, (∀ i a b, l[i]? = some a → l[i + 1]? = some b → R a b) → l.Pairwise R
  | [], _ => .nil
  | [a], _ => by simp
  | a :: b :: l, h => by
    have ih : (b :: l).Pairwise R := pairwise_of_next ht fun i x y hx hy => h (i + 1) x y hx hy
    have hab : R a b := h 0 a b rfl rfl
    refine List.Pairwise.cons ?_ ih
    intro c hc
    cases hc with
    | head => exact hab
    | tail _ hc => exact ht a b c hab (List.rel_of_pairwise_cons ih hc)
theorem lexlt_trans (a b c : Nat × Nat) (h1 : lexlt a b) (h2 : lexlt b c) : lexlt a c := by
  unfold lexlt at *; omega
theorem lexlt_irrefl (a : Nat × Nat) : ¬ lexlt a a := by unfold lexlt; omega
theorem getD_castE (es : Es) (i : Nat) : (castE es).getD i (0, 0) = (((es.getD i (0, 0)).1 : Int), ((es.getD i (0, 0)).2 : Int)) := by
  simp only [castE, List.getD_eq_getElem?_getD, List.getElem?_map]
  cases es[i]? <;> rfl
theorem okAt_cast (n : Nat) (es : Es) (i : Nat) : okAt (n : Int) (castE es) i = true ↔
    (es.getD i (0, 0)).1 < (es.getD i (0, 0)).2 ∧ (es.getD i (0, 0)).2 < n ∧ (i = 0 ∨ lexlt (es.getD (i - 1) (0, 0)) (es.getD i (0, 0))) := by
  simp only [okAt, getD_castE, lexlt, Bool.and_eq_true, Bool.or_eq_true, decide_eq_true_eq]
  omega
theorem rightB_GR {n : Nat} {es : Es} (g : GR n es) : rightB n (castE es) = true := by
  refine rightB_true (by omega) (by have := g.hn; omega) (by rw [castE_len]; exact g.hm) fun i hi => ?_
  rw [castE_len] at hi
  rw [okAt_cast]
  have hmem : es.getD i (0, 0) ∈ es := by
    rw [List.getD_eq_getElem?_getD, List.getElem?_eq_getElem hi]; exact List.getElem_mem hi
  have h1 := g.ok _ hmem
  refine ⟨h1.1, h1.2, ?_⟩
  cases i with
  | zero => exact .inl rfl
  | succ i =>
    right
    have := List.pairwise_iff_getElem.1 g.up i (i + 1) (by omega) hi (by omega)
    simpa [List.getD_eq_getElem?_getD, List.getElem?_eq_getElem hi, List.getElem?_eq_getElem (show i < es.length by omega)] using this
theorem GR_rightB {n : Nat} {es : Es} (h : rightB n (castE es) = true) : GR n es := by
  simp only [rightB, Bool.and_eq_true, decide_eq_true_eq, List.all_eq_true, List.mem_range, castE_len] at h
  obtain ⟨⟨⟨_, h1⟩, h2⟩, h3⟩ := h
  have h4 : ∀ i, i < es.length → (es.getD i (0, 0)).1 < (es.getD i (0, 0)).2 ∧ (es.getD i (0, 0)).2 < n ∧ (i = 0 ∨ lexlt (es.getD (i - 1) (0, 0)) (es.getD i (0, 0))) :=
    fun i hi => (okAt_cast n es i).1 (h3 i hi)
  refine ⟨by omega, h2, ?_, ?_⟩
  · intro e he
    obtain ⟨i, hi, rfl⟩ := List.mem_iff_getElem.1 he
    have := h4 i hi
    rw [List.getD_eq_getElem?_getD, List.getElem?_eq_getElem hi] at this
    exact ⟨this.1, this.2.1⟩
  · refine pairwise_of_next lexlt_trans fun i a b ha hb => ?_
    have hi : i + 1 < es.length := (List.getElem?_eq_some_iff.1 hb).1
    have := (h4 (i + 1) hi).2.2
    rw [List.getD_eq_getElem?_getD, List.getD_eq_getElem?_getD, hb, Nat.add_sub_cancel, ha] at this
    exact this.resolve_left (by omega)
theorem right_nat {n : Int} {es : List (Int × Int)} (h : rightB n es = true) : ∃ (N : Nat) (es' : Es), n = N ∧ es = castE es' ∧ GR N es' := by
  have h' := h
  simp only [rightB, Bool.and_eq_true, decide_eq_true_eq, List.all_eq_true, List.mem_range] at h
  obtain ⟨⟨⟨h0, h1⟩, h2⟩, h3⟩ := h
  have e : es = castE (es.map fun e => (e.1.toNat, e.2.toNat)) := by
    apply List.ext_getElem (by simp [castE])
    intro i hi hi'
    have := h3 i hi
    simp only [okAt, Bool.and_eq_true, decide_eq_true_eq, List.getD_eq_getElem?_getD, List.getElem?_eq_getElem hi, Option.getD_some] at this
    obtain ⟨⟨⟨a, b⟩, c⟩, _⟩ := this
    simp only [castE, List.getElem_map]
    apply Prod.ext
    · show _ = ((es[i].1.toNat : Nat) : Int); omega
    · show _ = ((es[i].2.toNat : Nat) : Int); omega
  refine ⟨n.toNat, _, by omega, e, ?_⟩
  apply GR_rightB
  rw [← e, show ((n.toNat : Nat) : Int) = n by omega]
  exact h'
def putE (l : Es) (e : Nat × Nat) : Es := (l.filter fun x => decide (lexlt x e)) ++ e :: (l.filter fun x => !decide (lexlt x e))
theorem putE_mem {l : Es} {e x : Nat × Nat} : x ∈ putE l e ↔ x = e ∨ x ∈ l := by
  simp only [putE, List.mem_append, List.mem_filter, List.mem_cons]
  by_cases h : lexlt x e <;> simp [h]
  constructor
  · rintro (h | h)
    · exact .inr h
    · exact .inl h
  · rintro (rfl | h)
    · exact absurd h (lexlt_irrefl _)
    · exact .inl h
theorem putE_len (l : Es) (e : Nat × Nat) : (putE l e).length = l.length + 1 := by
  have : ∀ (p : Nat × Nat → Bool), (l.filter p).length + (l.filter fun x => !p x).length = l.length := by
    intro p
    induction l with
    | nil => rfl
    | cons a l ih =>
      cases h : p a <;> simp [h] <;> omega
  simp only [putE, List.length_append, List.length_cons]
  have := this fun x => decide (lexlt x e)
  omega
theorem GR.put {n : Nat} {es : Es} (g : GR n es) {e : Nat × Nat} (h1 : e.1 < e.2) (h2 : e.2 < n) (h3 : e ∉ es) (h4 : es.length < 65536) : GR n (putE es e) := by
  refine ⟨g.hn, by rw [putE_len]; omega, ?_, ?_⟩
  · intro x hx
    rcases putE_mem.1 hx with rfl | hx
    · exact ⟨h1, h2⟩
    · exact g.ok x hx
  · refine List.pairwise_append.2 ⟨g.up.filter _, List.pairwise_cons.2 ⟨?_, g.up.filter _⟩, ?_⟩
    · intro x hx
      simp only [List.mem_filter, Bool.not_eq_true', decide_eq_false_iff_not] at hx
      have : x ≠ e := fun h => h3 (h ▸ hx.1)
      have h5 : ¬ (x.1 = e.1 ∧ x.2 = e.2) := fun h => this (Prod.ext h.1 h.2)
      have h6 := hx.2
      unfold lexlt at *
      omega
    · intro x hx y hy
      simp only [List.mem_filter, decide_eq_true_eq] at hx
      have hxe : lexlt x e := hx.2
      simp only [List.mem_cons, List.mem_filter, Bool.not_eq_true', decide_eq_false_iff_not] at hy
      rcases hy with rfl | hy
      · exact hxe
      · refine lexlt_trans _ e _ hxe ?_
        have : y ≠ e := fun h => h3 (h ▸ hy.1)
        have h5 : ¬ (y.1 = e.1 ∧ y.2 = e.2) := fun h => this (Prod.ext h.1 h.2)
        have h6 := hy.2
        unfold lexlt at *
        omega
def lowOf (es : Es) (v : Nat) : List Nat := (es.filter fun e => decide (e.2 = v)).map (·.1)
def highOf (es : Es) (v : Nat) : List Nat := (es.filter fun e => decide (e.1 = v)).map (·.2)
def nearOf (es : Es) (v : Nat) : List Nat := lowOf es v ++ highOf es v
def near (n : Nat) (es : Es) : List (List Nat) := (List.range n).map (nearOf es)
def adj (es : Es) (a b : Nat) : Prop := (a, b) ∈ es ∨ (b, a) ∈ es
theorem adj_symm {es : Es} {a b : Nat} (h : adj es a b) : adj es b a := h.symm
theorem nearOf_mem {es : Es} {v w : Nat} : w ∈ nearOf es v ↔ adj es v w := by
  simp only [nearOf, lowOf, highOf, List.mem_append, List.mem_map, List.mem_filter, decide_eq_true_eq, adj]
  constructor
  · rintro (⟨⟨a, b⟩, ⟨h, h1⟩, h2⟩ | ⟨⟨a, b⟩, ⟨h, h1⟩, h2⟩)
    · right; simp at h1 h2; subst h1 h2; exact h
    · left; simp at h1 h2; subst h1 h2; exact h
  · rintro (h | h)
    · exact .inr ⟨(v, w), ⟨h, rfl⟩, rfl⟩
    · exact .inl ⟨(w, v), ⟨h, rfl⟩, rfl⟩
theorem near_len (n : Nat) (es : Es) : (near n es).length = n := by simp [near]
theorem near_get {n : Nat} {es : Es} {v : Nat} (h : v < n) : (near n es)[v]? = some (nearOf es v) := by simp [near, h]
end Go.Ga.Gl
namespace Go.Ga.Gl
open Go Go.Ga
def Flat (es : Es) (O : Nat → Prop) (f : Nat → Nat) : Prop := ∀ a b, adj es a b → ¬ O a → ¬ O b → f a = f b
structure IsPieces (n : Nat) (es : Es) (O : Nat → Prop) (ps : List (List Nat)) : Prop where
  mem : ∀ v, (∃ p ∈ ps, v ∈ p) ↔ v < n ∧ ¬ O v
  ne : ∀ p ∈ ps, p ≠ []
  inc : ∀ p ∈ ps, p.Pairwise (· < ·)
  heads : ps.Pairwise fun p q => ∀ a ∈ p.head?, ∀ b ∈ q.head?, a < b
  disj : ps.Pairwise fun p q => ∀ v ∈ p, v ∉ q
  edge : ∀ p ∈ ps, ∀ a ∈ p, ∀ b, adj es a b → b < n → ¬ O b → b ∈ p
  conn : ∀ p ∈ ps, ∀ f, Flat es O f → ∀ a ∈ p, ∀ b ∈ p, f a = f b
theorem inc_ext : ∀ {p q : List Nat}, p.Pairwise (· < ·) → q.Pairwise (· < ·) → (∀ x, x ∈ p ↔ x ∈ q) → p = q
  | [], [], _, _, _ => rfl
  | [], b :: q, _, _, h => by have := (h b).2 (List.mem_cons_self ..); cases this
  | a :: p, [], _, _, h => by have := (h a).1 (List.mem_cons_self ..); cases this
  | a :: p, b :: q, hp, hq, h => by
    have hp' := List.pairwise_cons.1 hp
    have hq' := List.pairwise_cons.1 hq
    have hab : a = b := by
      rcases List.mem_cons.1 ((h a).1 (List.mem_cons_self ..)) with e | e
      · exact e
      · rcases List.mem_cons.1 ((h b).2 (List.mem_cons_self ..)) with e' | e'
        · exact e'.symm
        · have := hq'.1 a e; have := hp'.1 b e'; omega
    subst hab
    rw [inc_ext hp'.2 hq'.2 fun x => ?_]
    constructor
    · intro hx
      rcases List.mem_cons.1 ((h x).1 (List.mem_cons_of_mem _ hx)) with e | e
      · subst e; exact absurd (hp'.1 x hx) (by omega)
      · exact e
    · intro hx
      rcases List.mem_cons.1 ((h x).2 (List.mem_cons_of_mem _ hx)) with e | e
      · subst e; exact absurd (hq'.1 x hx) (by omega)
      · exact e
theorem heads_ext : ∀ {ps qs : List (List Nat)}, (∀ p ∈ ps, p ≠ []) → (∀ q ∈ qs, q ≠ []) →
    (ps.Pairwise fun p q => ∀ a ∈ p.head?, ∀ b ∈ q.head?, a < b) → (qs.Pairwise fun p q => ∀ a ∈ p.head?, ∀ b ∈ q.head?, a < b) → (∀ p, p ∈ ps ↔ p ∈ qs) → ps = qs
  | [], [], _, _, _, _, _ => rfl
  | [], b :: q, _, _, _, _, h => by have := (h b).2 (List.mem_cons_self ..); cases this
  | a :: p, [], _, _, _, _, h => by have := (h a).1 (List.mem_cons_self ..); cases this
  | a :: p, b :: q, n1, n2, hp, hq, h => by
    have hp' := List.pairwise_cons.1 hp
    have hq' := List.pairwise_cons.1 hq
    have key : ∀ (x y : List Nat), x ≠ [] → y ≠ [] → (∀ a ∈ x.head?, ∀ b ∈ y.head?, a < b) → (∀ a ∈ y.head?, ∀ b ∈ x.head?, a < b) → False := by
      intro x y hx hy h1 h2
      cases x with
      | nil => exact hx rfl
      | cons u x => cases y with
        | nil => exact hy rfl
        | cons w y => have := h1 u rfl w rfl; have := h2 w rfl u rfl; omega
    have hab : a = b := by
      rcases List.mem_cons.1 ((h a).1 (List.mem_cons_self ..)) with e | e
      · exact e
      · rcases List.mem_cons.1 ((h b).2 (List.mem_cons_self ..)) with e' | e'
        · exact e'.symm
        · exact (key a b (n1 a (List.mem_cons_self ..)) (n2 b (List.mem_cons_self ..)) (hp'.1 b e') (hq'.1 a e)).elim
    subst hab
    have self : ∀ x, x ≠ [] → ¬ (∀ u ∈ x.head?, ∀ w ∈ x.head?, u < w) := fun x hx h1 => key x x hx hx h1 h1
    rw [heads_ext (fun p hp => n1 p (List.mem_cons_of_mem _ hp)) (fun p hp => n2 p (List.mem_cons_of_mem _ hp)) hp'.2 hq'.2 fun x => ?_]
    constructor
    · intro hx
      rcases List.mem_cons.1 ((h x).1 (List.mem_cons_of_mem _ hx)) with e | e
      · subst e; exact (self x (n1 x (List.mem_cons_self ..)) (hp'.1 x hx)).elim
      · exact e
    · intro hx
      rcases List.mem_cons.1 ((h x).2 (List.mem_cons_of_mem _ hx)) with e | e
      · subst e; exact (self x (n1 x (List.mem_cons_self ..)) (hq'.1 x hx)).elim
      · exact e
open Classical in
theorem pieces_sub {n : Nat} {es : Es} {O : Nat → Prop} {ps qs : List (List Nat)} (hes : ∀ a b, adj es a b → a < n ∧ b < n) (P : IsPieces n es O ps) (Q : IsPieces n es O qs) {p : List Nat} (hp : p ∈ ps) {q : List Nat} (hq : q ∈ qs) {v : Nat} (h1 : v ∈ p) (h2 : v ∈ q) : ∀ x ∈ p, x ∈ q := by
  intro x hx
  have hfl : Flat es O (fun x => if x ∈ q then 1 else 0) := by
    intro a b hab ha hb
    have hl := hes a b hab
    by_cases h : a ∈ q
    · simp [h, Q.edge q hq a h b hab hl.2 hb]
    · have : b ∉ q := fun h' => h (Q.edge q hq b h' a (adj_symm hab) hl.1 ha)
      simp [h, this]
  have := P.conn p hp _ hfl v h1 x hx
  simp only [h2, if_true] at this
  by_cases h : x ∈ q
  · exact h
  · simp [h] at this
theorem IsPieces.unique {n : Nat} {es : Es} {O : Nat → Prop} {ps qs : List (List Nat)} (hes : ∀ a b, adj es a b → a < n ∧ b < n) (P : IsPieces n es O ps) (Q : IsPieces n es O qs) : ps = qs := by
  have half : ∀ {ps qs : List (List Nat)}, IsPieces n es O ps → IsPieces n es O qs → ∀ p ∈ ps, p ∈ qs := by
    intro ps qs P Q p hp
    obtain ⟨v, hv⟩ := List.exists_mem_of_ne_nil p (P.ne p hp)
    obtain ⟨q, hq, hvq⟩ := (Q.mem v).2 ((P.mem v).1 ⟨p, hp, hv⟩)
    rw [inc_ext (P.inc p hp) (Q.inc q hq) fun x => ⟨pieces_sub hes P Q hp hq hv hvq x, pieces_sub hes Q P hq hp hvq hv x⟩]
    exact hq
  exact heads_ext P.ne Q.ne P.heads Q.heads fun p => ⟨half P Q p, half Q P p⟩
theorem GR.adj_lt {n : Nat} {es : Es} (g : GR n es) : ∀ a b, adj es a b → a < n ∧ b < n := by
  intro a b h
  rcases h with h | h
  · obtain ⟨h1, h2⟩ := g.ok _ h; simp only at h1 h2; exact ⟨by omega, h2⟩
  · obtain ⟨h1, h2⟩ := g.ok _ h; simp only at h1 h2; exact ⟨h2, by omega⟩
theorem piece_len {n : Nat} {es : Es} {O : Nat → Prop} {ps : List (List Nat)} (P : IsPieces n es O ps) {p : List Nat} (hp : p ∈ ps) : p.length ≤ n := by
  have := (List.pairwise_iff_getElem.1 (P.inc p hp))
  have key : ∀ (m : Nat) (q : List Nat), q.Pairwise (· < ·) → (∀ x ∈ q, m ≤ x ∧ x < n) → q.length ≤ n - m := by
    intro m q
    induction q generalizing m with
    | nil => intro _ _; exact Nat.zero_le _
    | cons a q ih =>
      intro h1 h2
      have h1' := List.pairwise_cons.1 h1
      have ha := h2 a (List.mem_cons_self ..)
      have := ih (a + 1) h1'.2 fun x hx => ⟨h1'.1 x hx, (h2 x (List.mem_cons_of_mem _ hx)).2⟩
      simp only [List.length_cons]; omega
  have := key 0 p (P.inc p hp) fun x hx => ⟨Nat.zero_le _, ((P.mem x).1 ⟨p, hp, hx⟩).1⟩
  omega
theorem pieces_len {n : Nat} {es : Es} {O : Nat → Prop} {ps : List (List Nat)} (P : IsPieces n es O ps) : ps.length ≤ n := by
  have h : (ps.map fun p => p.headD 0).Pairwise (· < ·) := by
    refine List.pairwise_map.2 (P.heads.imp_of_mem fun {p q} hp hq h => ?_)
    have h1 := P.ne p hp; have h2 := P.ne q hq
    cases p with
    | nil => exact absurd rfl h1
    | cons a p => cases q with
      | nil => exact absurd rfl h2
      | cons b q => exact h a rfl b rfl
  have h2 : ∀ x ∈ ps.map fun p => p.headD 0, x < n := by
    intro x hx
    obtain ⟨p, hp, rfl⟩ := List.mem_map.1 hx
    cases p with
    | nil => exact absurd rfl (P.ne _ hp)
    | cons a p => exact ((P.mem a).1 ⟨_, hp, List.mem_cons_self ..⟩).1
  have key : ∀ (m : Nat) (q : List Nat), q.Pairwise (· < ·) → (∀ x ∈ q, m ≤ x ∧ x < n) → q.length ≤ n - m := by
    intro m q
    induction q generalizing m with
    | nil => intro _ _; exact Nat.zero_le _
    | cons a q ih =>
      intro h1 h2
      have h1' := List.pairwise_cons.1 h1
      have ha := h2 a (List.mem_cons_self ..)
      have := ih (a + 1) h1'.2 fun x hx => ⟨h1'.1 x hx, (h2 x (List.mem_cons_of_mem _ hx)).2⟩
      simp only [List.length_cons]; omega
  have := key 0 _ h fun x hx => ⟨Nat.zero_le _, h2 x hx⟩
  simpa using this
end Go.Ga.Gl
namespace Go.Ga.Gl
open Go Go.Ga
abbrev DS := List Bool × List Nat × List Nat
def come (s : DS) (v : Nat) : DS := if s.1.getD v false = true then s else (s.1.set v true, s.2.1 ++ [v], s.2.2 ++ [v])
def comes (s : DS) (l : List Nat) : DS := l.foldl come s
theorem comes_snoc (s : DS) (l : List Nat) (k : Nat) (x : Nat) (h : l[k]? = some x) : comes s (l.take (k + 1)) = come (comes s (l.take k)) x := by
  rw [List.take_add_one, h]
  simp [comes]
def undone (d : List Bool) : Nat := (d.filter fun b => !b).length
theorem set_bool (d : List Bool) (v x : Nat) : (d.set v true).getD x false = true ↔ d.getD x false = true ∨ (x = v ∧ v < d.length) := by
  simp only [List.getD_eq_getElem?_getD, List.getElem?_set]
  by_cases h : v = x
  · subst h
    by_cases h2 : v < d.length
    · simp [h2]
    · simp [h2]
  · simp [h, Ne.symm h]
theorem undone_set : ∀ (d : List Bool) (v : Nat), v < d.length → d.getD v false = false → undone (d.set v true) + 1 = undone d
  | [], v, h, _ => by simp at h
  | b :: d, 0, _, h => by
    simp at h; subst h; simp [undone]
  | b :: d, v + 1, h, h2 => by
    have := undone_set d v (by simpa using h) (by simpa using h2)
    cases b <;> simp [undone] at * <;> omega
structure WI (n : Nat) (es : Es) (D : List Bool) (v : Nat) (s : DS) : Prop where
  len : s.1.length = n
  done : ∀ x, s.1.getD x false = true ↔ D.getD x false = true ∨ x ∈ s.2.1
  nd : s.2.1.Nodup
  now : ∀ x ∈ s.2.1, x < n ∧ D.getD x false = false
  rest : ∀ x ∈ s.2.2, x ∈ s.2.1
  rl : s.2.2.length ≤ s.2.1.length
  conn : ∀ f, Flat es (fun x => D.getD x false = true) f → ∀ x ∈ s.2.1, f x = f v
theorem nodup_le : ∀ {l m : List Nat}, l.Nodup → (∀ x ∈ l, x ∈ m) → l.length ≤ m.length
  | [], m, _, _ => Nat.zero_le _
  | a :: l, m, h, hm => by
    have h' := List.pairwise_cons.1 h
    have ha := hm a (List.mem_cons_self ..)
    have := nodup_le (l := l) (m := m.erase a) h'.2 fun x hx => (List.mem_erase_of_ne fun e => h'.1 x hx e.symm).2 (hm x (List.mem_cons_of_mem _ hx))
    rw [List.length_erase_of_mem ha] at this
    have := List.length_pos_of_mem ha
    simp; omega
theorem WI.size {n : Nat} {es : Es} {D : List Bool} {v : Nat} {s : DS} (w : WI n es D v s) : s.2.1.length ≤ n := by
  have := nodup_le w.nd (m := List.range n) fun x hx => List.mem_range.2 (w.now x hx).1
  simpa using this
theorem WI.start {n : Nat} {es : Es} {D : List Bool} {v : Nat} (hD : D.length = n) : WI n es D v (D, [], []) :=
  ⟨hD, fun x => by simp, List.nodup_nil, fun x h => by simp at h, fun x h => by simp at h, Nat.le_refl _, fun f _ x h => by simp at h⟩
theorem WI.come {n : Nat} {es : Es} {D : List Bool} {v : Nat} {s : DS} (w : WI n es D v s) {x : Nat} (hx : x < n) (hc : x = v ∨ ∃ u ∈ s.2.1, adj es u x) : WI n es D v (come s x) := by
  unfold Gl.come
  split
  · exact w
  · rename_i h
    have hD : D.getD x false = false := by
      cases e : D.getD x false with
      | false => rfl
      | true => exact absurd ((w.done x).2 (.inl e)) h
    have hn : x ∉ s.2.1 := fun e => h ((w.done x).2 (.inr e))
    refine ⟨by simpa using w.len, fun y => ?_, ?_, ?_, ?_, by simp; exact w.rl, ?_⟩
    · show (s.1.set x true).getD y false = true ↔ _
      rw [set_bool, w.done, w.len, List.mem_append, List.mem_singleton]
      constructor
      · rintro (h | h)
        · exact h.imp id .inl
        · exact .inr (.inr h.1)
      · rintro (h | h | h)
        · exact .inl (.inl h)
        · exact .inl (.inr h)
        · exact .inr ⟨h, hx⟩
    · exact List.nodup_append.2 ⟨w.nd, by simp, fun a ha b hb e => by simp at hb; subst hb; subst e; exact hn ha⟩
    · intro y hy
      rcases List.mem_append.1 hy with hy | hy
      · exact w.now y hy
      · simp at hy; subst hy; exact ⟨hx, hD⟩
    · intro y hy
      rcases List.mem_append.1 hy with hy | hy
      · exact List.mem_append_left _ (w.rest y hy)
      · exact List.mem_append_right _ hy
    · intro f hf y hy
      rcases List.mem_append.1 hy with hy | hy
      · exact w.conn f hf y hy
      · simp at hy; subst hy
        rcases hc with rfl | ⟨u, hu, ha⟩
        · rfl
        · rw [← w.conn f hf u hu]
          have h1 := (w.now u hu).2
          exact (hf u y ha (by show ¬ (D.getD u false = true); rw [h1]; simp) (by show ¬ (D.getD y false = true); rw [hD]; simp)).symm
theorem come_mono {s : DS} {x y : Nat} (h : s.1.getD y false = true) : (come s x).1.getD y false = true := by
  unfold come
  split
  · exact h
  · exact (set_bool _ _ _).2 (.inl h)
theorem come_done {s : DS} {x : Nat} (h : x < s.1.length) : (come s x).1.getD x false = true := by
  unfold come
  split
  · assumption
  · exact (set_bool _ _ _).2 (.inr ⟨rfl, h⟩)
theorem come_now {s : DS} {x y : Nat} (h : y ∈ s.2.1) : y ∈ (come s x).2.1 := by
  unfold come
  split
  · exact h
  · exact List.mem_append_left _ h
theorem come_rest {s : DS} {x y : Nat} (h : y ∈ (come s x).2.1) : y ∈ s.2.1 ∨ y ∈ (come s x).2.2 := by
  unfold come at *
  split at h
  · rename_i h1; rw [if_pos h1]; exact .inl h
  · rename_i h1; rw [if_neg h1]
    rcases List.mem_append.1 h with h | h
    · exact .inl h
    · exact .inr (List.mem_append_right _ h)
theorem come_keep {s : DS} {x y : Nat} (h : y ∈ s.2.2) : y ∈ (come s x).2.2 := by
  unfold come
  split
  · exact h
  · exact List.mem_append_left _ h
theorem come_measure {s : DS} {x : Nat} (h : x < s.1.length) : 2 * undone (come s x).1 + (come s x).2.2.length ≤ 2 * undone s.1 + s.2.2.length := by
  unfold come
  split
  · exact Nat.le_refl _
  · rename_i h1
    have := undone_set s.1 x h (by simpa using h1)
    simp only [List.length_append, List.length_singleton]
    omega
def Gone (es : Es) (U : Nat → Prop) (s : DS) : Prop := ∀ x ∈ s.2.1, x ∉ s.2.2 → ¬ U x → ∀ y, adj es x y → s.1.getD y false = true
structure WJ (n : Nat) (es : Es) (D : List Bool) (v : Nat) (s : DS) : Prop extends WI n es D v s where
  gone : Gone es (fun _ => False) s
  self : v ∈ s.2.1
theorem comes_ok {n : Nat} {es : Es} (hes : ∀ a b, adj es a b → a < n ∧ b < n) {D : List Bool} {v u : Nat} {s : DS} (w : WI n es D v s) (hu : u ∈ s.2.1) (hg : Gone es (fun x => x = u) s) :
    ∀ k, k ≤ (nearOf es u).length →
    WI n es D v (comes s ((nearOf es u).take k)) ∧ u ∈ (comes s ((nearOf es u).take k)).2.1 ∧ Gone es (fun x => x = u) (comes s ((nearOf es u).take k)) ∧
    (∀ y ∈ (nearOf es u).take k, (comes s ((nearOf es u).take k)).1.getD y false = true) ∧
    2 * undone (comes s ((nearOf es u).take k)).1 + (comes s ((nearOf es u).take k)).2.2.length ≤ 2 * undone s.1 + s.2.2.length ∧ (∀ x ∈ s.2.1, x ∈ (comes s ((nearOf es u).take k)).2.1) := by
  intro k
  induction k with
  | zero => intro _; simp only [List.take_zero, comes, List.foldl_nil]; exact ⟨w, hu, hg, fun y hy => by simp at hy, Nat.le_refl _, fun x h => h⟩
  | succ k ih =>
    intro hk
    obtain ⟨h1, h2, h3, h4, h5, h6⟩ := ih (by omega)
    have hx : (nearOf es u)[k]? = some ((nearOf es u)[k]'(by omega)) := List.getElem?_eq_getElem _
    generalize (nearOf es u)[k]'(by omega) = x at hx
    have hax : adj es u x := nearOf_mem.1 (List.mem_iff_getElem?.2 ⟨k, hx⟩)
    have hxn := (hes u x hax).2
    rw [comes_snoc _ _ _ _ hx]
    refine ⟨h1.come hxn (.inr ⟨u, h2, hax⟩), come_now h2, ?_, ?_, Nat.le_trans (come_measure (by rw [h1.len]; exact hxn)) h5, fun x h => come_now (h6 x h)⟩
    · intro y hy hr hne z hz
      rcases come_rest hy with hy | hy
      · exact come_mono (h3 y hy (fun e => hr (come_keep e)) hne z hz)
      · exact absurd hy hr
    · intro y hy
      rw [List.take_add_one, hx] at hy
      rcases List.mem_append.1 hy with hy | hy
      · exact come_mono (h4 y hy)
      · simp at hy; subst hy; exact come_done (by rw [h1.len]; exact hxn)
theorem WJ.step {n : Nat} {es : Es} (hes : ∀ a b, adj es a b → a < n ∧ b < n) {D : List Bool} {v u : Nat} {d : List Bool} {nw r : List Nat} (w : WJ n es D v (d, nw, r ++ [u])) :
    WJ n es D v (comes (d, nw, r) (nearOf es u)) ∧ 2 * undone (comes (d, nw, r) (nearOf es u)).1 + (comes (d, nw, r) (nearOf es u)).2.2.length < 2 * undone d + (r ++ [u]).length := by
  have w1 : WI n es D v (d, nw, r) := ⟨w.len, w.done, w.nd, w.now, fun x h => w.rest x (List.mem_append_left _ h), by have := w.rl; simp at this ⊢; omega, w.conn⟩
  have hu : u ∈ nw := w.rest u (List.mem_append_right _ (List.mem_singleton.2 rfl))
  have hg : Gone es (fun x => x = u) (d, nw, r) := fun x hx hr hne y hy => w.gone x hx (fun e => by
    rcases List.mem_append.1 e with e | e
    · exact hr e
    · simp at e; exact hne e) (fun e => e) y hy
  obtain ⟨h1, h2, h3, h4, h5, h6⟩ := comes_ok hes w1 hu hg (nearOf es u).length (Nat.le_refl _)
  rw [List.take_length] at *
  refine ⟨⟨h1, fun x hx hr _ y hy => ?_, h6 v w.self⟩, by simp at h5 ⊢; omega⟩
  by_cases e : x = u
  · subst e; exact h4 y (nearOf_mem.2 hy)
  · exact h3 x hx hr e y hy
theorem WJ.start {n : Nat} {es : Es} {D : List Bool} {v : Nat} (hD : D.length = n) (hv : v < n) (h0 : D.getD v false = false) : WJ n es D v (come (D, [], []) v) := by
  refine ⟨(WI.start hD).come hv (.inl rfl), ?_, ?_⟩
  · intro x hx hr _ y _
    rcases come_rest hx with h | h
    · simp at h
    · exact absurd h hr
  · have : ¬ D.getD v false = true := by rw [h0]; simp
    unfold come; rw [if_neg this]; simp
structure PieceOf (n : Nat) (es : Es) (D : List Bool) (v : Nat) (D' : List Bool) (p : List Nat) : Prop where
  len : D'.length = n
  done : ∀ x, D'.getD x false = true ↔ D.getD x false = true ∨ x ∈ p
  inc : p.Pairwise (· < ·)
  mem : ∀ x ∈ p, x < n ∧ D.getD x false = false
  self : v ∈ p
  closed : ∀ x ∈ p, ∀ y, adj es x y → D'.getD y false = true
  conn : ∀ f, Flat es (fun x => D.getD x false = true) f → ∀ x ∈ p, f x = f v
theorem WJ.piece {n : Nat} {es : Es} {D : List Bool} {v : Nat} {d : List Bool} {nw p : List Nat} (w : WJ n es D v (d, nw, [])) (hp : p.Perm nw) (hs : p.Pairwise (· ≤ ·)) : PieceOf n es D v d p where
  len := w.len
  done x := by rw [w.done, hp.mem_iff]
  inc := by
    have nd : p.Nodup := hp.nodup_iff.2 w.nd
    refine (hs.and nd).imp fun {a b} h => ?_
    have := h.1; have := h.2; omega
  mem x hx := w.now x (hp.mem_iff.1 hx)
  self := hp.mem_iff.2 w.self
  closed x hx y hy := w.gone x (hp.mem_iff.1 hx) (by simp) (fun e => e) y hy
  conn f hf x hx := w.conn f hf x (hp.mem_iff.1 hx)
structure OI (n : Nat) (es : Es) (O : Nat → Prop) (v : Nat) (D : List Bool) (ps : List (List Nat)) : Prop where
  len : D.length = n
  done : ∀ x, x < n → (D.getD x false = true ↔ O x ∨ ∃ p ∈ ps, x ∈ p)
  out : ∀ p ∈ ps, ∀ x ∈ p, x < n ∧ ¬ O x
  before : ∀ x, x < v → x < n → D.getD x false = true
  ne : ∀ p ∈ ps, p ≠ []
  inc : ∀ p ∈ ps, p.Pairwise (· < ·)
  low : ∀ p ∈ ps, ∀ a ∈ p.head?, a < v
  heads : ps.Pairwise fun p q => ∀ a ∈ p.head?, ∀ b ∈ q.head?, a < b
  disj : ps.Pairwise fun p q => ∀ v ∈ p, v ∉ q
  edge : ∀ p ∈ ps, ∀ a ∈ p, ∀ b, adj es a b → b < n → ¬ O b → b ∈ p
  conn : ∀ p ∈ ps, ∀ f, Flat es O f → ∀ a ∈ p, ∀ b ∈ p, f a = f b
theorem OI.start {n : Nat} {es : Es} {O : Nat → Prop} {D : List Bool} (hD : D.length = n) (h : ∀ x, x < n → (D.getD x false = true ↔ O x)) : OI n es O 0 D [] :=
  ⟨hD, fun x hx => by rw [h x hx]; simp, fun p hp => by simp at hp, fun x hx => by omega, fun p hp => by simp at hp, fun p hp => by simp at hp, fun p hp => by simp at hp, .nil, .nil, fun p hp => by simp at hp, fun p hp => by simp at hp⟩
theorem OI.skip {n : Nat} {es : Es} {O : Nat → Prop} {v : Nat} {D : List Bool} {ps : List (List Nat)} (w : OI n es O v D ps) (h : D.getD v false = true) : OI n es O (v + 1) D ps :=
  { w with
    before := fun x hx hn => by
      rcases Nat.lt_or_ge x v with h1 | h1
      · exact w.before x h1 hn
      · have : x = v := by omega
        subst this; exact h
    low := fun p hp a ha => Nat.lt_succ_of_lt (w.low p hp a ha) }
theorem OI.take {n : Nat} {es : Es} (hes : ∀ a b, adj es a b → a < n ∧ b < n) {O : Nat → Prop} {v : Nat} {D D' : List Bool} {ps : List (List Nat)} {p : List Nat} (w : OI n es O v D ps) (hp : PieceOf n es D v D' p) : OI n es O (v + 1) D' (ps ++ [p]) := by
  have hO : ∀ x ∈ p, ¬ O x := fun x hx ho => by
    have h1 := hp.mem x hx
    have := (w.done x h1.1).2 (.inl ho)
    rw [h1.2] at this; cases this
  have hsep : ∀ q ∈ ps, ∀ x ∈ q, x ∉ p := fun q hq x hx hxp => by
    have h1 := hp.mem x hxp
    have := (w.done x h1.1).2 (.inr ⟨q, hq, hx⟩)
    rw [h1.2] at this; cases this
  have hmin : ∀ x ∈ p, v ≤ x := fun x hx => by
    rcases Nat.lt_or_ge x v with h | h
    · have h1 := hp.mem x hx
      have := w.before x h h1.1
      rw [h1.2] at this; cases this
    · exact h
  have hhead : ∀ a ∈ p.head?, a = v := by
    intro a ha
    cases p with
    | nil => cases ha
    | cons b p =>
      have e0 : b = a := by simpa using ha
      subst e0
      have h1 := hmin b (List.mem_cons_self ..)
      rcases List.mem_cons.1 hp.self with e | e
      · exact e.symm
      · have := (List.pairwise_cons.1 hp.inc).1 v e; omega
  refine ⟨hp.len, fun x hx => ?_, ?_, fun x hx hn => ?_, ?_, ?_, ?_, ?_, ?_, ?_, ?_⟩
  · rw [hp.done, w.done x hx]
    simp only [List.mem_append, List.mem_singleton]
    constructor
    · rintro ((h | ⟨q, h1, h2⟩) | h)
      · exact .inl h
      · exact .inr ⟨q, .inl h1, h2⟩
      · exact .inr ⟨p, .inr rfl, h⟩
    · rintro (h | ⟨q, h1 | h1, h2⟩)
      · exact .inl (.inl h)
      · exact .inl (.inr ⟨q, h1, h2⟩)
      · subst h1; exact .inr h2
  · intro q hq x hx
    rcases List.mem_append.1 hq with hq | hq
    · exact w.out q hq x hx
    · simp at hq; subst hq; exact ⟨(hp.mem x hx).1, hO x hx⟩
  · rw [hp.done]
    rcases Nat.lt_or_ge x v with h1 | h1
    · exact .inl (w.before x h1 hn)
    · have : x = v := by omega
      subst this; exact .inr hp.self
  · intro q hq
    rcases List.mem_append.1 hq with hq | hq
    · exact w.ne q hq
    · simp at hq; subst hq; intro e; rw [e] at hp; exact absurd hp.self (by simp)
  · intro q hq
    rcases List.mem_append.1 hq with hq | hq
    · exact w.inc q hq
    · simp at hq; subst hq; exact hp.inc
  · intro q hq a ha
    rcases List.mem_append.1 hq with hq | hq
    · exact Nat.lt_succ_of_lt (w.low q hq a ha)
    · simp at hq; subst hq; rw [hhead a ha]; omega
  · refine List.pairwise_append.2 ⟨w.heads, by simp, fun q hq r hr a ha b hb => ?_⟩
    simp at hr; subst hr
    rw [hhead b hb]; exact w.low q hq a ha
  · refine List.pairwise_append.2 ⟨w.disj, by simp, fun q hq r hr x hx => ?_⟩
    simp at hr; subst hr
    exact hsep q hq x hx
  · intro q hq a ha b hab hb hob
    rcases List.mem_append.1 hq with hq | hq
    · exact w.edge q hq a ha b hab hb hob
    · simp at hq; subst hq
      rcases (hp.done b).1 (hp.closed a ha b hab) with h | h
      · rcases (w.done b hb).1 h with h | ⟨q, hq, hbq⟩
        · exact absurd h hob
        · exact absurd ha (hsep q hq a (w.edge q hq b hbq a (adj_symm hab) (hp.mem a ha).1 (hO a ha)))
      · exact h
  · intro q hq f hf a ha b hb
    rcases List.mem_append.1 hq with hq | hq
    · exact w.conn q hq f hf a ha b hb
    · simp at hq; subst hq
      have hf' : Flat es (fun x => D.getD x false = true) f := by
        intro x y hxy hx hy
        have hl := hes x y hxy
        exact hf x y hxy (fun ho => hx ((w.done x hl.1).2 (.inl ho))) fun ho => hy ((w.done y hl.2).2 (.inl ho))
      rw [hp.conn f hf' a ha, hp.conn f hf' b hb]
theorem OI.pieces {n : Nat} {es : Es} {O : Nat → Prop} {D : List Bool} {ps : List (List Nat)} (w : OI n es O n D ps) : IsPieces n es O ps where
  mem v := by
    constructor
    · rintro ⟨p, hp, hv⟩; exact w.out p hp v hv
    · rintro ⟨h1, h2⟩
      rcases (w.done v h1).1 (w.before v h1 h1) with h | h
      · exact absurd h h2
      · exact h
  ne := w.ne
  inc := w.inc
  heads := w.heads
  disj := w.disj
  edge := w.edge
  conn := w.conn
end Go.Ga.Gl
set_option maxRecDepth 100000
set_option maxHeartbeats 4000000
namespace Go.Proofs.Ytepjcfbigcfkfaa
open Go Go.Ga Go.Ga.Gl
theorem isNaN_ok (a : Int) : ACalls Try.prog [] n_cmp_isNaN_int_ [.sc (.int .i64 a)] [] fun r h' => r = .sc (.bool false) ∧ h' = [] := by
  refine go_cmp_isNaN_int_ rfl ?_
  unfold c_cmp_isNaN_int_ v_cmp_isNaN_int_
  refine wlk_sreg fun KY hKY => ?_
  simp only [go_sem, reduceIte, reduceCtorEq, c_cmp_isNaN_int__r0]
  refine hKY _ ?_
  refine wlk_sreg fun KY hKY => ?_
  simp only [go_sem, reduceIte, Nat.reduceEqDiff, reduceCtorEq, c_cmp_isNaN_int__r1, ne_eq, not_true_eq_false]
  refine hKY _ ?_
  refine wlk_ret ?_
  simp only [go_sem, reduceIte, Nat.reduceEqDiff, reduceCtorEq]
def cmpI (a b : Int) : Int := if a < b then -1 else if b < a then 1 else 0
theorem compare_ok (a b : Int) : ACalls Try.prog [] n_cmp_Compare_int_ [.sc (.int .i64 a), .sc (.int .i64 b)] [] fun r h' => r = .sc (.int .i64 (cmpI a b)) ∧ h' = [] := by
  refine go_cmp_Compare_int_ rfl ?_
  unfold c_cmp_Compare_int_ v_cmp_Compare_int_
  refine wlk_sreg fun KY hKY => ?_
  simp only [go_sem, reduceIte, Nat.reduceEqDiff, reduceCtorEq, c_cmp_Compare_int__r0]
  refine hKY _ ?_
  refine wlk_sreg fun KY hKY => ?_
  simp only [go_sem, reduceIte, Nat.reduceEqDiff, reduceCtorEq, c_cmp_Compare_int__r1]
  refine call_view rfl (by simp only [go_sem, reduceIte, Nat.reduceEqDiff, reduceCtorEq] <;> rfl) ((isNaN_ok _).mono ?_)
  rintro rr hh ⟨rfl, rfl⟩
  refine ⟨rfl, rfl, rfl, ?_⟩
  simp only [go_sem, reduceIte, Nat.reduceEqDiff, reduceCtorEq]
  refine hKY _ ?_
  refine wlk_sreg fun KY hKY => ?_
  simp only [go_sem, reduceIte, Nat.reduceEqDiff, reduceCtorEq, c_cmp_Compare_int__r2]
  refine call_view rfl (by simp only [go_sem, reduceIte, Nat.reduceEqDiff, reduceCtorEq] <;> rfl) ((isNaN_ok _).mono ?_)
  rintro rr hh ⟨rfl, rfl⟩
  refine ⟨rfl, rfl, rfl, ?_⟩
  simp only [go_sem, reduceIte, Nat.reduceEqDiff, reduceCtorEq]
  refine hKY _ ?_
  refine wlk_seq fun X1 hn1 he1 hr1 => ?_
  refine wlk_sreg fun KY hKY => ?_
  simp only [go_sem, reduceIte, Nat.reduceEqDiff, reduceCtorEq, c_cmp_Compare_int__r3]
  refine hKY _ ?_
  refine wlk_cond0 rfl ?_
  refine wlk_skip ?_
  repeat (first | refine hn1 _ ?_ | refine he1 _ _ ?_)
  refine wlk_seq fun X2 hn2 he2 hr2 => ?_
  refine wlk_sreg fun KY hKY => ?_
  simp only [go_sem, reduceIte, Nat.reduceEqDiff, reduceCtorEq, c_cmp_Compare_int__r7]
  refine hKY _ ?_
  refine wlk_cond0 rfl ?_
  refine wlk_skip ?_
  repeat (first | refine hn2 _ ?_ | refine he2 _ _ ?_ | refine hn1 _ ?_ | refine he1 _ _ ?_)
  unfold cmpI
  refine wlk_seq fun X3 hn3 he3 hr3 => ?_
  refine wlk_sreg fun KY hKY => ?_
  simp only [go_sem, reduceIte, Nat.reduceEqDiff, reduceCtorEq, c_cmp_Compare_int__r9]
  refine hKY _ ?_
  by_cases h : a < b
  · refine wlk_cond1 (by first | rfl | (simp only [go_sem, reduceIte, Nat.reduceEqDiff, reduceCtorEq, h]; try simp (disch := omega) only [decide_eq_true, decide_eq_false])) ?_
    refine wlk_sreg fun KY hKY => ?_
    simp only [go_sem, reduceIte, Nat.reduceEqDiff, reduceCtorEq, Int.reduceAdd, Int.reduceNeg, c_cmp_Compare_int__r10]
    refine hKY _ ?_
    refine wlk_ret ?_
    repeat (first | refine hr3 _ ?_ | refine hr2 _ ?_ | refine hr1 _ ?_)
    simp only [go_sem, reduceIte, Nat.reduceEqDiff, reduceCtorEq, Int.reduceNeg, h]
  · refine wlk_cond0 (by first | rfl | (simp only [go_sem, reduceIte, Nat.reduceEqDiff, reduceCtorEq, h]; try simp (disch := omega) only [decide_eq_true, decide_eq_false])) ?_
    refine wlk_skip ?_
    repeat (first | refine hn3 _ ?_ | refine he3 _ _ ?_ | refine hn2 _ ?_ | refine he2 _ _ ?_ | refine hn1 _ ?_ | refine he1 _ _ ?_)
    refine wlk_seq fun X4 hn4 he4 hr4 => ?_
    refine wlk_sreg fun KY hKY => ?_
    simp only [go_sem, reduceIte, Nat.reduceEqDiff, reduceCtorEq, c_cmp_Compare_int__r11]
    refine hKY _ ?_
    by_cases h2 : b < a
    · refine wlk_cond1 (by first | rfl | (simp only [go_sem, reduceIte, Nat.reduceEqDiff, reduceCtorEq, h2]; try simp (disch := omega) only [decide_eq_true, decide_eq_false])) ?_
      refine wlk_sreg fun KY hKY => ?_
      simp only [go_sem, reduceIte, Nat.reduceEqDiff, reduceCtorEq, c_cmp_Compare_int__r12]
      refine hKY _ ?_
      refine wlk_ret ?_
      repeat (first | refine hr4 _ ?_ | refine hr3 _ ?_ | refine hr2 _ ?_ | refine hr1 _ ?_)
      simp only [go_sem, reduceIte, Nat.reduceEqDiff, reduceCtorEq, Int.reduceNeg, h, h2]
    · refine wlk_cond0 (by first | rfl | (simp only [go_sem, reduceIte, Nat.reduceEqDiff, reduceCtorEq, h2]; try simp (disch := omega) only [decide_eq_true, decide_eq_false])) ?_
      refine wlk_skip ?_
      repeat (first | refine hn4 _ ?_ | refine he4 _ _ ?_ | refine hn3 _ ?_ | refine he3 _ _ ?_ | refine hn2 _ ?_ | refine he2 _ _ ?_ | refine hn1 _ ?_ | refine he1 _ _ ?_)
      refine wlk_sreg fun KY hKY => ?_
      simp only [go_sem, reduceIte, Nat.reduceEqDiff, reduceCtorEq, c_cmp_Compare_int__r13]
      refine hKY _ ?_
      refine wlk_ret ?_
      repeat (first | refine hr4 _ ?_ | refine hr3 _ ?_ | refine hr2 _ ?_ | refine hr1 _ ?_)
      simp only [go_sem, reduceIte, Nat.reduceEqDiff, reduceCtorEq, Int.reduceNeg, h, h2]
theorem find_first : ∀ {l : List Int} {k : Nat}, k < l.length → l.getD k 0 ≠ 0 → (∀ j, j < k → l.getD j 0 = 0) → l.find? (· ≠ 0) = some (l.getD k 0)
  | [], k, h, _, _ => by simp at h
  | a :: l, 0, _, h, _ => by
    have : a ≠ 0 := by simpa using h
    simp [List.find?, this]
  | a :: l, k + 1, h, h2, hz => by
    have h0 : a = 0 := by simpa using hz 0 (by omega)
    subst h0
    have ih := find_first (l := l) (k := k) (by simpa using h) (by simpa using h2) fun j hj => by simpa using hz (j + 1) (by omega)
    simp only [List.find?, ne_eq, not_true_eq_false, decide_false]
    simpa using ih
theorem find_none : ∀ {l : List Int}, (∀ j, j < l.length → l.getD j 0 = 0) → l.find? (· ≠ 0) = none
  | [], _ => rfl
  | a :: l, hz => by
    have h0 : a = 0 := by simpa using hz 0 (by simp)
    subst h0
    have ih := find_none (l := l) fun j hj => by simpa using hz (j + 1) (by simp; omega)
    simp only [List.find?, ne_eq, not_true_eq_false, decide_false]
    simpa using ih
theorem or_ok (l : List Int) (hl : l.length ≤ 1000) : ACalls Try.prog [] n_cmp_Or_int_ [.imm 1 (ints l)] [] fun r h' => r = .sc (.int .i64 ((l.find? (· ≠ 0)).getD 0)) ∧ h' = [] := by
  refine go_cmp_Or_int_ rfl ?_
  unfold c_cmp_Or_int_ v_cmp_Or_int_
  refine wlk_sreg fun KY hKY => ?_
  simp only [go_sem, reduceIte, Nat.reduceEqDiff, reduceCtorEq, c_cmp_Or_int__r0]
  refine hKY _ ?_
  refine wlk_sreg fun KY hKY => ?_
  simp only [go_sem, reduceIte, Nat.reduceEqDiff, reduceCtorEq, c_cmp_Or_int__r1]
  refine hKY _ ?_
  refine wlk_seq fun X1 hn1 he1 hr1 => ?_
  refine wlk_sreg fun KY hKY => ?_
  simp only [go_sem, reduceIte, Nat.reduceEqDiff, reduceCtorEq, c_cmp_Or_int__r2]
  refine hKY _ ?_
  refine wlk_blk fun X2 hn2 he2 hf2 hr2 => ?_
  try simp only [go_sem, reduceIte, Nat.reduceEqDiff, reduceCtorEq]
  refine wlk_lp (α := Nat) [5, 9, 14] (fun k => [(8, .sc (.int .i64 (k : Int)))]) (fun k => []) (fun k q => k ≤ l.length ∧ q = l.length - k ∧ ∀ j, j < k → l.getD j 0 = 0) (0) (l.length) rfl (by first | (simp only [go_sem, reduceIte, Nat.reduceEqDiff, reduceCtorEq, updAll_cons, updAll_nil]; done) | with_reducible rfl | rfl) (⟨by omega, rfl, fun j h => by omega⟩) ?_
  rintro k q ⟨hk, rfl, hz⟩ X3 hn3 he3 hr3
  simp only [go_sem, reduceIte, Nat.reduceEqDiff, reduceCtorEq, updAll_cons, updAll_nil]
  refine wlk_sreg fun KY hKY => ?_
  simp only [go_sem, reduceIte, Nat.reduceEqDiff, reduceCtorEq, c_cmp_Or_int__r3]
  refine hKY _ ?_
  refine wlk_seq fun X4 hn4 he4 hr4 => ?_
  by_cases h : k < l.length
  · refine wlk_cond1 (by first | rfl | (simp only [go_sem, reduceIte, Nat.reduceEqDiff, reduceCtorEq]; try simp (disch := omega) only [decide_eq_true])) ?_
    refine wlk_skip ?_
    repeat (first | refine hn4 _ ?_ | refine he4 _ _ ?_ | refine he3 _ _ ?_ | refine hn2 _ ?_ | refine he2 _ ?_ | refine hf2 _ _ (by decide) ?_ | refine hn1 _ ?_ | refine he1 _ _ ?_)
    refine wlk_seq fun X5 hn5 he5 hr5 => ?_
    refine wlk_blk fun X6 hn6 he6 hf6 hr6 => ?_
    refine wlk_sreg fun KY hKY => ?_
    simp only [go_sem, reduceIte, Nat.reduceEqDiff, reduceCtorEq, c_cmp_Or_int__r4]
    repeat (simp (disch := omega) only [if_pos, if_neg, decide_eq_true, ints_get]; try simp only [go_sem, reduceIte, Nat.reduceEqDiff, reduceCtorEq])
    refine hKY _ ?_
    refine wlk_sreg fun KY hKY => ?_
    simp only [go_sem, reduceIte, Nat.reduceEqDiff, reduceCtorEq, c_cmp_Or_int__r5]
    refine hKY _ ?_
    by_cases h2 : l.getD k 0 = 0
    · refine wlk_cond0 (by first | rfl | (simp only [go_sem, reduceIte, Nat.reduceEqDiff, reduceCtorEq, h2, ne_eq, not_true_eq_false]; try simp (disch := omega) only [decide_eq_true, decide_eq_false])) ?_
      refine wlk_skip ?_
      repeat (first | refine hn6 _ ?_ | refine he6 _ ?_ | refine hf6 _ _ (by decide) ?_ | refine hn5 _ ?_ | refine he5 _ _ ?_ | refine hn4 _ ?_ | refine he4 _ _ ?_ | refine he3 _ _ ?_ | refine hn2 _ ?_ | refine he2 _ ?_ | refine hf2 _ _ (by decide) ?_ | refine hn1 _ ?_ | refine he1 _ _ ?_)
      refine wlk_reg fun KY hKY => ?_
      simp only [go_sem, reduceIte, Nat.reduceEqDiff, reduceCtorEq, c_cmp_Or_int__r7]
      repeat (simp (disch := omega) only [decide_eq_false, incS]; try simp only [go_sem, reduceIte, Nat.reduceEqDiff, Nat.reduceBEq, reduceCtorEq, Nat.reduceLT, Nat.reduceLeDiff, Nat.reduceAdd, Nat.reduceSub, Nat.reduceMul, Nat.reduceDiv, Int.reduceAdd, Int.reduceNeg, Int.reduceEq, Int.reduceLT, Int.reduceLE])
      refine hKY _ ?_
      repeat (first | refine hn6 _ ?_ | refine he6 _ ?_ | refine hf6 _ _ (by decide) ?_ | refine hn5 _ ?_ | refine he5 _ _ ?_ | refine hn4 _ ?_ | refine he4 _ _ ?_)
      refine hn3 _ (k + 1) (l.length - (k + 1)) (by omega) (by first | (simp only [go_sem, reduceIte, Nat.reduceEqDiff, reduceCtorEq, updAll_cons, updAll_nil]; done) | with_reducible rfl | rfl) ?_
      refine ⟨h, rfl, fun j hj => ?_⟩
      rcases Nat.lt_or_ge j k with h3 | h3
      · exact hz j h3
      · have : j = k := by omega
        subst this; exact h2
    · refine wlk_cond1 (by first | rfl | (simp only [go_sem, reduceIte, Nat.reduceEqDiff, reduceCtorEq, h2, ne_eq, not_false_eq_true]; try simp (disch := omega) only [decide_eq_true, decide_eq_false])) ?_
      refine wlk_sreg fun KY hKY => ?_
      simp only [go_sem, reduceIte, Nat.reduceEqDiff, reduceCtorEq, c_cmp_Or_int__r6]
      refine hKY _ ?_
      refine wlk_ret ?_
      repeat (first | refine hr6 _ ?_ | refine hr5 _ ?_ | refine hr4 _ ?_ | refine hr3 _ ?_ | refine hr2 _ ?_ | refine hr1 _ ?_)
      simp only [go_sem, reduceIte, Nat.reduceEqDiff, reduceCtorEq]
      rw [find_first h h2 hz]
      rfl
  · refine wlk_cond0 (by first | rfl | (simp only [go_sem, reduceIte, Nat.reduceEqDiff, reduceCtorEq]; try simp (disch := omega) only [decide_eq_false])) ?_
    refine wlk_exit ?_
    repeat (first | refine hn4 _ ?_ | refine he4 _ _ ?_ | refine he3 _ _ ?_ | refine hn2 _ ?_ | refine he2 _ ?_ | refine hf2 _ _ (by decide) ?_ | refine hn1 _ ?_ | refine he1 _ _ ?_)
    refine wlk_sreg fun KY hKY => ?_
    simp only [go_sem, reduceIte, Nat.reduceEqDiff, reduceCtorEq, c_cmp_Or_int__r8]
    refine hKY _ ?_
    refine wlk_ret ?_
    repeat (first | refine hr4 _ ?_ | refine hr3 _ ?_ | refine hr2 _ ?_ | refine hr1 _ ?_)
    simp only [go_sem, reduceIte, Nat.reduceEqDiff, reduceCtorEq]
    have : k = l.length := by omega
    subst this
    rw [find_none hz]
    rfl
end Go.Proofs.Ytepjcfbigcfkfaa
set_option maxRecDepth 100000
set_option maxHeartbeats 4000000
namespace Go.Proofs.Ytepjcfbigcfkfaa
open Go Go.Ga Go.Ga.Gl
theorem two_mk (a b : Int) : two (a, b) = [.sc (.int .i64 a), .sc (.int .i64 b)] := rfl
def cmpE (a b : Int × Int) : Int := if cmpI a.1 b.1 ≠ 0 then cmpI a.1 b.1 else cmpI a.2 b.2
theorem cmpE_lt (a b : Int × Int) : cmpE a b < 0 ↔ (a.1 < b.1 ∨ a.1 = b.1 ∧ a.2 < b.2) := by
  unfold cmpE cmpI
  repeat' split
  all_goals omega
theorem cmpE_zero (a b : Int × Int) : cmpE a b = 0 ↔ a = b := by
  have : a = b ↔ a.1 = b.1 ∧ a.2 = b.2 := Prod.ext_iff
  rw [this]
  unfold cmpE cmpI
  repeat' split
  all_goals omega
theorem ocompare_ok (a b : Int × Int) : ACalls Try.prog [] n_graph_order_compare [.agg [], .agg (two a), .agg (two b)] [] fun r h' => r = .sc (.int .i64 (cmpE a b)) ∧ h' = [] := by
  obtain ⟨a1, a2⟩ := a
  obtain ⟨b1, b2⟩ := b
  simp only [two_mk]
  refine go_graph_order_compare rfl ?_
  unfold c_graph_order_compare v_graph_order_compare
  refine wlk_sreg fun KY hKY => ?_
  simp only [go_sem, reduceIte, Nat.reduceEqDiff, reduceCtorEq, c_graph_order_compare_r0]
  refine hKY _ ?_
  refine wlk_sdraw fun KY hKY => ?_
  simp only [go_sem, reduceIte, Nat.reduceEqDiff, Nat.reduceBEq, reduceCtorEq, c_graph_order_compare_r1]
  refine call_view rfl (by simp only [go_sem, reduceIte, Nat.reduceEqDiff, reduceCtorEq] <;> rfl) ((compare_ok _ _).mono ?_)
  rintro rr hh ⟨rfl, rfl⟩
  refine ⟨rfl, rfl, rfl, ?_⟩
  simp only [go_sem, reduceIte, Nat.reduceBEq, reduceCtorEq]
  refine call_view rfl (by simp only [go_sem, reduceIte, Nat.reduceEqDiff, reduceCtorEq] <;> rfl) ((compare_ok _ _).mono ?_)
  rintro rr hh ⟨rfl, rfl⟩
  refine ⟨rfl, rfl, rfl, ?_⟩
  simp only [go_sem, reduceIte, Nat.reduceEqDiff, Nat.reduceLT, Nat.reduceAdd]
  refine call_view rfl (by simp only [go_sem, reduceIte, Nat.reduceEqDiff, reduceCtorEq] <;> rfl) ((or_ok [cmpI a1 b1, cmpI a2 b2] (Nat.le_of_ble_eq_true rfl)).mono ?_)
  rintro rr hh ⟨rfl, rfl⟩
  refine ⟨rfl, rfl, rfl, ?_⟩
  simp only [go_sem, reduceIte, Nat.reduceEqDiff, Nat.reduceBEq, reduceCtorEq]
  refine hKY _ ?_
  refine wlk_ret ?_
  simp only [go_sem, reduceIte, Nat.reduceEqDiff, reduceCtorEq]
  unfold cmpE
  by_cases h : cmpI a1 b1 = 0
  · by_cases h2 : cmpI a2 b2 = 0
    · simp [h, h2]
    · simp [h, h2]
  · simp [h]
theorem right_ok (n : Int) (es : List (Int × Int)) : ACalls Try.prog [] n_graph_Right [.agg [.sc (.int .i64 n), .imm 2 (twos es)]] [] fun r h' => r = .sc (.bool (rightB n es)) ∧ h' = [] := by
  refine go_graph_Right rfl ?_
  unfold c_graph_Right v_graph_Right
  refine wlk_sreg fun KY hKY => ?_
  simp only [go_sem, reduceIte, Nat.reduceEqDiff, reduceCtorEq, c_graph_Right_r0]
  refine hKY _ ?_
  refine wlk_seq fun X1 hn1 he1 hr1 => ?_
  by_cases h : 0 ≤ n ∧ n ≤ 4096 ∧ es.length ≤ 65536
  · obtain ⟨h0, h1, h2⟩ := h
    refine wlk_sreg fun KY hKY => ?_
    simp only [go_sem, reduceIte, Nat.reduceEqDiff, reduceCtorEq, c_graph_Right_r1]
    repeat (simp (disch := omega) only [decide_eq_false]; try simp only [go_sem, reduceIte, Nat.reduceEqDiff, reduceCtorEq, twos_len, mul2])
    refine hKY _ ?_
    refine wlk_cond0 rfl ?_
    refine wlk_skip ?_
    repeat (first | refine hn1 _ ?_ | refine he1 _ _ ?_)
    refine wlk_sreg fun KY hKY => ?_
    simp only [go_sem, reduceIte, Nat.reduceEqDiff, reduceCtorEq, c_graph_Right_r3]
    refine hKY _ ?_
    refine wlk_seq fun X2 hn2 he2 hr2 => ?_
    refine wlk_sreg fun KY hKY => ?_
    simp only [go_sem, reduceIte, Nat.reduceEqDiff, reduceCtorEq, c_graph_Right_r4, twos_len, mul2]
    refine hKY _ ?_
    refine wlk_blk fun X3 hn3 he3 hf3 hr3 => ?_
    try simp only [go_sem, reduceIte, Nat.reduceEqDiff, reduceCtorEq]
    refine wlk_lp (α := Nat) [4, 5, 26, 62] (fun k => [(25, .sc (.int .i64 (k : Int)))]) (fun k => []) (fun k q => k ≤ es.length ∧ q = es.length - k ∧ ∀ j, j < k → okAt n es j = true) (0) (es.length) rfl (by first | (simp only [go_sem, reduceIte, Nat.reduceEqDiff, reduceCtorEq, updAll_cons, updAll_nil]; done) | with_reducible rfl | rfl) (⟨by omega, rfl, fun j h => by omega⟩) ?_
    rintro k q ⟨hk, rfl, hz⟩ X4 hn4 he4 hr4
    simp only [go_sem, reduceIte, Nat.reduceEqDiff, reduceCtorEq, updAll_cons, updAll_nil]
    refine wlk_sreg fun KY hKY => ?_
    simp only [go_sem, reduceIte, Nat.reduceEqDiff, reduceCtorEq, c_graph_Right_r5]
    refine hKY _ ?_
    refine wlk_seq fun X5 hn5 he5 hr5 => ?_
    by_cases hk2 : k < es.length
    · refine wlk_cond1 (by first | rfl | (simp only [go_sem, reduceIte, Nat.reduceEqDiff, reduceCtorEq]; try simp (disch := omega) only [decide_eq_true])) ?_
      refine wlk_skip ?_
      repeat (first | refine hn5 _ ?_ | refine he5 _ _ ?_ | refine he4 _ _ ?_ | refine hn3 _ ?_ | refine he3 _ ?_ | refine hf3 _ _ (by decide) ?_ | refine hn2 _ ?_ | refine he2 _ _ ?_ | refine hn1 _ ?_ | refine he1 _ _ ?_)
      refine wlk_seq fun X6 hn6 he6 hr6 => ?_
      refine wlk_blk fun X7 hn7 he7 hf7 hr7 => ?_
      have hx : es[k]? = some es[k] := List.getElem?_eq_getElem hk2
      have hy : es.getD k (0, 0) = es[k] := by simp [List.getD_eq_getElem?_getD, hx]
      generalize es[k] = x at hx hy
      obtain ⟨a, b⟩ := x
      refine wlk_sreg fun KY hKY => ?_
      simp only [go_sem, reduceIte, Nat.reduceEqDiff, reduceCtorEq, c_graph_Right_r6]
      repeat (simp (disch := omega) only [if_pos, if_neg, decide_eq_true]; try simp only [go_sem, reduceIte, Nat.reduceEqDiff, reduceCtorEq, Nat.reduceLT, Nat.reduceAdd, two_cells hx, List.length_drop])
      refine hKY _ ?_
      have hiff : okAt n es k = true ↔ 0 ≤ a ∧ a < b ∧ b < n ∧ (k = 0 ∨ ((es.getD (k - 1) (0, 0)).1 < a ∨ (es.getD (k - 1) (0, 0)).1 = a ∧ (es.getD (k - 1) (0, 0)).2 < b)) := by
        simp only [okAt, hy, Bool.and_eq_true, Bool.or_eq_true, decide_eq_true_eq, and_assoc]
      by_cases ha : a < 0
      · have hf : okAt n es k = false := by rw [Bool.eq_false_iff]; intro h; have := hiff.1 h; omega
        refine wlk_sdraw fun KY hKY => ?_
        simp only [go_sem, reduceIte, Nat.reduceEqDiff, Nat.reduceBEq, reduceCtorEq, c_graph_Right_r7, ha]
        repeat (simp (disch := omega) only [if_pos, if_neg, decide_eq_true, decide_eq_false, incS, nats_get, ints_get, ha]; try simp only [go_sem, reduceIte, Nat.reduceEqDiff, Nat.reduceBEq, reduceCtorEq, Nat.reduceLT, Nat.reduceLeDiff, Nat.reduceAdd, Nat.reduceSub, Nat.reduceMul, Nat.reduceDiv, Int.reduceAdd, Int.reduceNeg, Int.reduceEq, Int.reduceLT, Int.reduceLE, ha])
        refine hKY _ ?_
        refine wlk_cond1 rfl ?_
        refine wlk_sreg fun KY hKY => ?_
        simp only [go_sem, reduceIte, Nat.reduceEqDiff, reduceCtorEq, c_graph_Right_r8]
        refine hKY _ ?_
        refine wlk_ret ?_
        repeat (first | refine hr7 _ ?_ | refine hr6 _ ?_ | refine hr5 _ ?_ | refine hr4 _ ?_ | refine hr3 _ ?_ | refine hr2 _ ?_ | refine hr1 _ ?_)
        simp only [go_sem, reduceIte, Nat.reduceEqDiff, reduceCtorEq]
        rw [rightB_false hk2 hf]
      · by_cases hb : b ≤ a
        · have hf : okAt n es k = false := by rw [Bool.eq_false_iff]; intro h; have := hiff.1 h; omega
          refine wlk_sdraw fun KY hKY => ?_
          simp only [go_sem, reduceIte, Nat.reduceEqDiff, Nat.reduceBEq, reduceCtorEq, c_graph_Right_r7, ha, hb]
          repeat (simp (disch := omega) only [if_pos, if_neg, decide_eq_true, decide_eq_false, incS, nats_get, ints_get, ha, hb]; try simp only [go_sem, reduceIte, Nat.reduceEqDiff, Nat.reduceBEq, reduceCtorEq, Nat.reduceLT, Nat.reduceLeDiff, Nat.reduceAdd, Nat.reduceSub, Nat.reduceMul, Nat.reduceDiv, Int.reduceAdd, Int.reduceNeg, Int.reduceEq, Int.reduceLT, Int.reduceLE, ha, hb])
          refine hKY _ ?_
          refine wlk_cond1 rfl ?_
          refine wlk_sreg fun KY hKY => ?_
          simp only [go_sem, reduceIte, Nat.reduceEqDiff, reduceCtorEq, c_graph_Right_r8]
          refine hKY _ ?_
          refine wlk_ret ?_
          repeat (first | refine hr7 _ ?_ | refine hr6 _ ?_ | refine hr5 _ ?_ | refine hr4 _ ?_ | refine hr3 _ ?_ | refine hr2 _ ?_ | refine hr1 _ ?_)
          simp only [go_sem, reduceIte, Nat.reduceEqDiff, reduceCtorEq]
          rw [rightB_false hk2 hf]
        · by_cases hc : n ≤ b
          · have hf : okAt n es k = false := by rw [Bool.eq_false_iff]; intro h; have := hiff.1 h; omega
            refine wlk_sdraw fun KY hKY => ?_
            simp only [go_sem, reduceIte, Nat.reduceEqDiff, Nat.reduceBEq, reduceCtorEq, c_graph_Right_r7, ha, hb, hc]
            repeat (simp (disch := omega) only [if_pos, if_neg, decide_eq_true, decide_eq_false, incS, nats_get, ints_get, ha, hb, hc]; try simp only [go_sem, reduceIte, Nat.reduceEqDiff, Nat.reduceBEq, reduceCtorEq, Nat.reduceLT, Nat.reduceLeDiff, Nat.reduceAdd, Nat.reduceSub, Nat.reduceMul, Nat.reduceDiv, Int.reduceAdd, Int.reduceNeg, Int.reduceEq, Int.reduceLT, Int.reduceLE, ha, hb, hc])
            refine hKY _ ?_
            refine wlk_cond1 rfl ?_
            refine wlk_sreg fun KY hKY => ?_
            simp only [go_sem, reduceIte, Nat.reduceEqDiff, reduceCtorEq, c_graph_Right_r8]
            refine hKY _ ?_
            refine wlk_ret ?_
            repeat (first | refine hr7 _ ?_ | refine hr6 _ ?_ | refine hr5 _ ?_ | refine hr4 _ ?_ | refine hr3 _ ?_ | refine hr2 _ ?_ | refine hr1 _ ?_)
            simp only [go_sem, reduceIte, Nat.reduceEqDiff, reduceCtorEq]
            rw [rightB_false hk2 hf]
          · cases k with
            | zero =>
              have ht : okAt n es 0 = true := hiff.2 (by omega)
              refine wlk_sdraw fun KY hKY => ?_
              simp only [go_sem, reduceIte, Nat.reduceEqDiff, Nat.reduceBEq, reduceCtorEq, Nat.reduceMul, Int.reduceLT, c_graph_Right_r7, ha, hb, hc, show ((0:Nat):Int) = 0 from rfl]
              repeat (simp (disch := omega) only [if_pos, if_neg, decide_eq_true, decide_eq_false, incS, nats_get, ints_get, ha, hb, hc, show ((0:Nat):Int) = 0 from rfl]; try simp only [go_sem, reduceIte, Nat.reduceEqDiff, Nat.reduceBEq, reduceCtorEq, Nat.reduceLT, Nat.reduceLeDiff, Nat.reduceAdd, Nat.reduceSub, Nat.reduceMul, Nat.reduceDiv, Int.reduceAdd, Int.reduceNeg, Int.reduceEq, Int.reduceLT, Int.reduceLE, ha, hb, hc, show ((0:Nat):Int) = 0 from rfl])
              refine hKY _ ?_
              refine wlk_cond0 rfl ?_
              refine wlk_skip ?_
              repeat (first | refine hn7 _ ?_ | refine he7 _ ?_ | refine hf7 _ _ (by decide) ?_ | refine hn6 _ ?_ | refine he6 _ _ ?_ | refine hn5 _ ?_ | refine he5 _ _ ?_ | refine he4 _ _ ?_ | refine hn3 _ ?_ | refine he3 _ ?_ | refine hf3 _ _ (by decide) ?_ | refine hn2 _ ?_ | refine he2 _ _ ?_ | refine hn1 _ ?_ | refine he1 _ _ ?_)
              refine wlk_reg fun KY hKY => ?_
              simp only [go_sem, reduceIte, Nat.reduceEqDiff, reduceCtorEq, Int.reduceAdd, c_graph_Right_r9]
              repeat (simp (disch := omega) only [if_pos, if_neg, decide_eq_true, decide_eq_false, incS, nats_get, ints_get]; try simp only [go_sem, reduceIte, Nat.reduceEqDiff, Nat.reduceBEq, reduceCtorEq, Nat.reduceLT, Nat.reduceLeDiff, Nat.reduceAdd, Nat.reduceSub, Nat.reduceMul, Nat.reduceDiv, Int.reduceAdd, Int.reduceNeg, Int.reduceEq, Int.reduceLT, Int.reduceLE])
              refine hKY _ ?_
              repeat (first | refine hn7 _ ?_ | refine he7 _ ?_ | refine hf7 _ _ (by decide) ?_ | refine hn6 _ ?_ | refine he6 _ _ ?_ | refine hn5 _ ?_ | refine he5 _ _ ?_)
              refine hn4 _ (0 + 1) (es.length - (0 + 1)) (by omega) (by first | (simp only [go_sem, reduceIte, Nat.reduceEqDiff, reduceCtorEq, updAll_cons, updAll_nil]; done) | with_reducible rfl | rfl) ?_
              refine ⟨hk2, rfl, fun j hj => ?_⟩
              rcases Nat.lt_or_ge j (0) with h3 | h3
              · exact hz j h3
              · have : j = 0 := by omega
                subst this; exact ht
            | succ m =>
              have hm : es[m]? = some (es[m]'(by omega)) := List.getElem?_eq_getElem _
              have hmy : es.getD (m + 1 - 1) (0, 0) = es[m]'(by omega) := by simp [List.getD_eq_getElem?_getD, hm]
              generalize es[m]'(by omega) = x at hm hmy
              obtain ⟨c, d⟩ := x
              rw [hmy] at hiff
              have hm0 : ¬ (((m + 1 : Nat) : Int) ≤ 0) := by omega
              refine wlk_sdraw fun KY hKY => ?_
              simp only [go_sem, reduceIte, Nat.reduceEqDiff, reduceCtorEq, c_graph_Right_r7, ha, hb, hc]
              repeat (simp (disch := omega) only [if_pos, if_neg, decide_eq_true, decS]; try simp only [go_sem, reduceIte, Nat.reduceEqDiff, Nat.reduceBEq, reduceCtorEq, Nat.reduceLT, Nat.reduceAdd, two_cells hm, List.length_drop])
              refine call_view rfl (by simp only [go_sem, reduceIte, Nat.reduceEqDiff, reduceCtorEq] <;> rfl) ((ocompare_ok (c, d) (a, b)).mono ?_)
              rintro rr hh ⟨rfl, rfl⟩
              refine ⟨rfl, rfl, rfl, ?_⟩
              have hlt := cmpE_lt (c, d) (a, b)
              simp only at hlt
              by_cases hq : 0 ≤ cmpE (c, d) (a, b)
              · have hf : okAt n es (m + 1) = false := by rw [Bool.eq_false_iff]; intro h; have := (hiff.1 h).2.2.2; simp only at this; omega
                try simp only [go_sem, reduceIte, Nat.reduceEqDiff, reduceCtorEq, hq]
                repeat (simp (disch := omega) only [if_pos, if_neg, decide_eq_true, decide_eq_false, incS, nats_get, ints_get, hq]; try simp only [go_sem, reduceIte, Nat.reduceEqDiff, Nat.reduceBEq, reduceCtorEq, Nat.reduceLT, Nat.reduceLeDiff, Nat.reduceAdd, Nat.reduceSub, Nat.reduceMul, Nat.reduceDiv, Int.reduceAdd, Int.reduceNeg, Int.reduceEq, Int.reduceLT, Int.reduceLE, hq])
                refine hKY _ ?_
                refine wlk_cond1 rfl ?_
                refine wlk_sreg fun KY hKY => ?_
                simp only [go_sem, reduceIte, Nat.reduceEqDiff, reduceCtorEq, c_graph_Right_r8]
                refine hKY _ ?_
                refine wlk_ret ?_
                repeat (first | refine hr7 _ ?_ | refine hr6 _ ?_ | refine hr5 _ ?_ | refine hr4 _ ?_ | refine hr3 _ ?_ | refine hr2 _ ?_ | refine hr1 _ ?_)
                simp only [go_sem, reduceIte, Nat.reduceEqDiff, reduceCtorEq]
                rw [rightB_false hk2 hf]
              · have ht : okAt n es (m + 1) = true := hiff.2 (by simp only; omega)
                try simp only [go_sem, reduceIte, Nat.reduceEqDiff, reduceCtorEq, hq]
                repeat (simp (disch := omega) only [if_pos, if_neg, decide_eq_true, decide_eq_false, incS, nats_get, ints_get, hq]; try simp only [go_sem, reduceIte, Nat.reduceEqDiff, Nat.reduceBEq, reduceCtorEq, Nat.reduceLT, Nat.reduceLeDiff, Nat.reduceAdd, Nat.reduceSub, Nat.reduceMul, Nat.reduceDiv, Int.reduceAdd, Int.reduceNeg, Int.reduceEq, Int.reduceLT, Int.reduceLE, hq])
                refine hKY _ ?_
                refine wlk_cond0 rfl ?_
                refine wlk_skip ?_
                repeat (first | refine hn7 _ ?_ | refine he7 _ ?_ | refine hf7 _ _ (by decide) ?_ | refine hn6 _ ?_ | refine he6 _ _ ?_ | refine hn5 _ ?_ | refine he5 _ _ ?_ | refine he4 _ _ ?_ | refine hn3 _ ?_ | refine he3 _ ?_ | refine hf3 _ _ (by decide) ?_ | refine hn2 _ ?_ | refine he2 _ _ ?_ | refine hn1 _ ?_ | refine he1 _ _ ?_)
                refine wlk_reg fun KY hKY => ?_
                simp only [go_sem, reduceIte, Nat.reduceEqDiff, reduceCtorEq, c_graph_Right_r9]
                repeat (simp (disch := omega) only [incS]; try simp only [go_sem, reduceIte, Nat.reduceEqDiff, Nat.reduceBEq, reduceCtorEq, Nat.reduceLT, Nat.reduceLeDiff, Nat.reduceAdd, Nat.reduceSub, Nat.reduceMul, Nat.reduceDiv, Int.reduceAdd, Int.reduceNeg, Int.reduceEq, Int.reduceLT, Int.reduceLE])
                refine hKY _ ?_
                repeat (first | refine hn7 _ ?_ | refine he7 _ ?_ | refine hf7 _ _ (by decide) ?_ | refine hn6 _ ?_ | refine he6 _ _ ?_ | refine hn5 _ ?_ | refine he5 _ _ ?_)
                refine hn4 _ (m + 1 + 1) (es.length - (m + 1 + 1)) (by omega) (by first | (simp only [go_sem, reduceIte, Nat.reduceEqDiff, reduceCtorEq, updAll_cons, updAll_nil]; done) | with_reducible rfl | rfl) ?_
                refine ⟨hk2, rfl, fun j hj => ?_⟩
                rcases Nat.lt_or_ge j (m + 1) with h3 | h3
                · exact hz j h3
                · have : j = m + 1 := by omega
                  subst this; exact ht
    · refine wlk_cond0 (by first | rfl | (simp only [go_sem, reduceIte, Nat.reduceEqDiff, reduceCtorEq]; try simp (disch := omega) only [decide_eq_false])) ?_
      refine wlk_exit ?_
      repeat (first | refine hn5 _ ?_ | refine he5 _ _ ?_ | refine he4 _ _ ?_ | refine hn3 _ ?_ | refine he3 _ ?_ | refine hf3 _ _ (by decide) ?_ | refine hn2 _ ?_ | refine he2 _ _ ?_ | refine hn1 _ ?_ | refine he1 _ _ ?_)
      refine wlk_sreg fun KY hKY => ?_
      simp only [go_sem, reduceIte, Nat.reduceEqDiff, reduceCtorEq, c_graph_Right_r10]
      refine hKY _ ?_
      refine wlk_ret ?_
      repeat (first | refine hr5 _ ?_ | refine hr4 _ ?_ | refine hr3 _ ?_ | refine hr2 _ ?_ | refine hr1 _ ?_)
      simp only [go_sem, reduceIte, Nat.reduceEqDiff, reduceCtorEq]
      rw [rightB_true h0 h1 h2 fun i hi => hz i (by omega)]
  · by_cases h0 : n < 0
    · refine wlk_sreg fun KY hKY => ?_
      simp only [go_sem, reduceIte, Nat.reduceEqDiff, reduceCtorEq, c_graph_Right_r1, h0]
      repeat (simp (disch := omega) only [if_pos, if_neg, decide_eq_true, decide_eq_false, incS, nats_get, ints_get, h0]; try simp only [go_sem, reduceIte, Nat.reduceEqDiff, Nat.reduceBEq, reduceCtorEq, Nat.reduceLT, Nat.reduceLeDiff, Nat.reduceAdd, Nat.reduceSub, Nat.reduceMul, Nat.reduceDiv, Int.reduceAdd, Int.reduceNeg, Int.reduceEq, Int.reduceLT, Int.reduceLE, h0])
      refine hKY _ ?_
      refine wlk_cond1 rfl ?_
      refine wlk_sreg fun KY hKY => ?_
      simp only [go_sem, reduceIte, Nat.reduceEqDiff, reduceCtorEq, c_graph_Right_r2]
      refine hKY _ ?_
      refine wlk_ret ?_
      repeat (first | refine hr1 _ ?_)
      simp only [go_sem, reduceIte, Nat.reduceEqDiff, reduceCtorEq]
      rw [show rightB n es = false by rw [Bool.eq_false_iff]; intro h'; simp only [rightB, Bool.and_eq_true, decide_eq_true_eq] at h'; omega]
    · by_cases h1 : 4096 < n
      · refine wlk_sreg fun KY hKY => ?_
        simp only [go_sem, reduceIte, Nat.reduceEqDiff, reduceCtorEq, c_graph_Right_r1, h0, h1]
        repeat (simp (disch := omega) only [if_pos, if_neg, decide_eq_true, decide_eq_false, incS, nats_get, ints_get, h0, h1]; try simp only [go_sem, reduceIte, Nat.reduceEqDiff, Nat.reduceBEq, reduceCtorEq, Nat.reduceLT, Nat.reduceLeDiff, Nat.reduceAdd, Nat.reduceSub, Nat.reduceMul, Nat.reduceDiv, Int.reduceAdd, Int.reduceNeg, Int.reduceEq, Int.reduceLT, Int.reduceLE, h0, h1])
        refine hKY _ ?_
        refine wlk_cond1 rfl ?_
        refine wlk_sreg fun KY hKY => ?_
        simp only [go_sem, reduceIte, Nat.reduceEqDiff, reduceCtorEq, c_graph_Right_r2]
        refine hKY _ ?_
        refine wlk_ret ?_
        repeat (first | refine hr1 _ ?_)
        simp only [go_sem, reduceIte, Nat.reduceEqDiff, reduceCtorEq]
        rw [show rightB n es = false by rw [Bool.eq_false_iff]; intro h'; simp only [rightB, Bool.and_eq_true, decide_eq_true_eq] at h'; omega]
      · refine wlk_sreg fun KY hKY => ?_
        simp only [go_sem, reduceIte, Nat.reduceEqDiff, reduceCtorEq, c_graph_Right_r1, h0, h1]
        repeat (simp (disch := omega) only [decide_eq_true]; try simp only [go_sem, reduceIte, Nat.reduceEqDiff, Nat.reduceBEq, reduceCtorEq, Nat.reduceLT, Nat.reduceLeDiff, Nat.reduceAdd, Nat.reduceSub, Nat.reduceMul, Nat.reduceDiv, Int.reduceAdd, Int.reduceNeg, Int.reduceEq, Int.reduceLT, Int.reduceLE, h0, h1])
        refine hKY _ ?_
        refine wlk_cond1 rfl ?_
        refine wlk_sreg fun KY hKY => ?_
        simp only [go_sem, reduceIte, Nat.reduceEqDiff, reduceCtorEq, c_graph_Right_r2]
        refine hKY _ ?_
        refine wlk_ret ?_
        repeat (first | refine hr1 _ ?_)
        simp only [go_sem, reduceIte, Nat.reduceEqDiff, reduceCtorEq]
        rw [show rightB n es = false by rw [Bool.eq_false_iff]; intro h'; simp only [rightB, Bool.and_eq_true, decide_eq_true_eq] at h'; omega]
end Go.Proofs.Ytepjcfbigcfkfaa
set_option maxRecDepth 100000
set_option maxHeartbeats 4000000
namespace Go.Proofs.Ytepjcfbigcfkfaa
open Go Go.Ga Go.Ga.Gl
def aheadI (a b : Int × Int) : Bool := decide (a.1 < b.1 ∨ a.1 = b.1 ∧ a.2 < b.2)
theorem ahead_ok (a b : Int × Int) : ACalls Try.prog [] n_garlandref02_ahead [.agg (two a), .agg (two b)] [] fun r h' => r = .sc (.bool (aheadI a b)) ∧ h' = [] := by
  obtain ⟨a1, a2⟩ := a
  obtain ⟨b1, b2⟩ := b
  simp only [two_mk]
  unfold aheadI
  refine go_garlandref02_ahead rfl ?_
  unfold c_garlandref02_ahead v_garlandref02_ahead
  refine wlk_sreg fun KY hKY => ?_
  simp only [go_sem, reduceIte, Nat.reduceEqDiff, reduceCtorEq, c_garlandref02_ahead_r0]
  refine hKY _ ?_
  by_cases h : a1 < b1
  · refine wlk_sreg fun KY hKY => ?_
    simp only [go_sem, reduceIte, Nat.reduceEqDiff, Nat.reduceBEq, reduceCtorEq, c_garlandref02_ahead_r1, h]
    refine hKY _ ?_
    refine wlk_ret ?_
    simp only [go_sem, reduceIte, Nat.reduceEqDiff, reduceCtorEq, h, true_or]
  · by_cases h2 : a1 = b1
    · subst h2
      refine wlk_sreg fun KY hKY => ?_
      simp only [go_sem, reduceIte, Nat.reduceEqDiff, Nat.reduceBEq, reduceCtorEq, c_garlandref02_ahead_r1, h]
      refine hKY _ ?_
      refine wlk_ret ?_
      simp only [go_sem, reduceIte, Nat.reduceEqDiff, reduceCtorEq, h, false_or]
    · refine wlk_sreg fun KY hKY => ?_
      simp only [go_sem, reduceIte, Nat.reduceEqDiff, Nat.reduceBEq, reduceCtorEq, c_garlandref02_ahead_r1, h, h2]
      refine hKY _ ?_
      refine wlk_ret ?_
      simp only [go_sem, reduceIte, Nat.reduceEqDiff, reduceCtorEq, h, h2, false_and, or_self]
theorem is_ok (n v : Int) (es : List (Int × Int)) : ACalls Try.prog [] n_garlandref02_Is [.agg [.sc (.int .i64 n), .imm 2 (twos es)], .sc (.int .i64 v)] [] fun r h' => r = .sc (.bool (decide (0 ≤ v) && decide (v < n))) ∧ h' = [] := by
  refine go_garlandref02_Is rfl ?_
  unfold c_garlandref02_Is v_garlandref02_Is
  refine wlk_sreg fun KY hKY => ?_
  simp only [go_sem, reduceIte, Nat.reduceEqDiff, reduceCtorEq, c_garlandref02_Is_r0]
  refine hKY _ ?_
  by_cases h : 0 ≤ v
  · refine wlk_sreg fun KY hKY => ?_
    simp only [go_sem, reduceIte, Nat.reduceEqDiff, Nat.reduceBEq, reduceCtorEq, c_garlandref02_Is_r1, h]
    refine hKY _ ?_
    refine wlk_ret ?_
    simp only [go_sem, reduceIte, Nat.reduceEqDiff, reduceCtorEq, h]
  · refine wlk_sreg fun KY hKY => ?_
    simp only [go_sem, reduceIte, Nat.reduceEqDiff, reduceCtorEq, c_garlandref02_Is_r1, h]
    refine hKY _ ?_
    refine wlk_ret ?_
    simp only [go_sem, reduceIte, Nat.reduceEqDiff, reduceCtorEq, h]
def turnI (a b : Int) : Int × Int := if b < a then (b, a) else (a, b)
theorem turned_ok (a b : Int) : ACalls Try.prog [] n_garlandref02_turned [.sc (.int .i64 a), .sc (.int .i64 b)] [] fun r h' => r = .agg (two (turnI a b)) ∧ h' = [] := by
  unfold turnI
  refine go_garlandref02_turned rfl ?_
  unfold c_garlandref02_turned v_garlandref02_turned
  refine wlk_sreg fun KY hKY => ?_
  simp only [go_sem, reduceIte, Nat.reduceEqDiff, reduceCtorEq, c_garlandref02_turned_r0]
  refine hKY _ ?_
  refine wlk_seq fun X1 hn1 he1 hr1 => ?_
  refine wlk_sreg fun KY hKY => ?_
  simp only [go_sem, reduceIte, Nat.reduceEqDiff, reduceCtorEq, c_garlandref02_turned_r1]
  refine hKY _ ?_
  by_cases h : b < a
  · refine wlk_cond1 (by first | rfl | (simp only [go_sem, reduceIte, Nat.reduceEqDiff, reduceCtorEq, h]; try simp (disch := omega) only [decide_eq_true, decide_eq_false])) ?_
    refine wlk_sreg fun KY hKY => ?_
    simp only [go_sem, reduceIte, Nat.reduceEqDiff, reduceCtorEq, Nat.reduceLT, Nat.reduceAdd, c_garlandref02_turned_r2]
    refine hKY _ ?_
    refine wlk_ret ?_
    repeat (first | refine hr1 _ ?_)
    simp only [go_sem, reduceIte, Nat.reduceEqDiff, reduceCtorEq, Nat.reduceLT, Nat.reduceAdd, h, two_mk]
  · refine wlk_cond0 (by first | rfl | (simp only [go_sem, reduceIte, Nat.reduceEqDiff, reduceCtorEq, h]; try simp (disch := omega) only [decide_eq_true, decide_eq_false])) ?_
    refine wlk_skip ?_
    repeat (first | refine hn1 _ ?_ | refine he1 _ _ ?_)
    refine wlk_sreg fun KY hKY => ?_
    simp only [go_sem, reduceIte, Nat.reduceEqDiff, reduceCtorEq, Nat.reduceLT, Nat.reduceAdd, c_garlandref02_turned_r3]
    refine hKY _ ?_
    refine wlk_ret ?_
    repeat (first | refine hr1 _ ?_)
    simp only [go_sem, reduceIte, Nat.reduceEqDiff, reduceCtorEq, Nat.reduceLT, Nat.reduceAdd, h, two_mk]
theorem rright_ok (n : Int) (es : List (Int × Int)) : ACalls Try.prog [] n_garlandref02_Right [.agg [.sc (.int .i64 n), .imm 2 (twos es)]] [] fun r h' => r = .sc (.bool (rightB n es)) ∧ h' = [] := by
  refine go_garlandref02_Right rfl ?_
  unfold c_garlandref02_Right v_garlandref02_Right
  refine wlk_sreg fun KY hKY => ?_
  simp only [go_sem, reduceIte, Nat.reduceEqDiff, reduceCtorEq, c_garlandref02_Right_r0]
  refine hKY _ ?_
  refine wlk_seq fun X1 hn1 he1 hr1 => ?_
  by_cases h : 0 ≤ n ∧ n ≤ 4096 ∧ es.length ≤ 65536
  · obtain ⟨h0, h1, h2⟩ := h
    refine wlk_sreg fun KY hKY => ?_
    simp only [go_sem, reduceIte, Nat.reduceEqDiff, reduceCtorEq, c_garlandref02_Right_r1]
    repeat (simp (disch := omega) only [decide_eq_false]; try simp only [go_sem, reduceIte, Nat.reduceEqDiff, reduceCtorEq])
    refine hKY _ ?_
    refine wlk_cond0 rfl ?_
    refine wlk_skip ?_
    repeat (first | refine hn1 _ ?_ | refine he1 _ _ ?_)
    refine wlk_seq fun X2 hn2 he2 hr2 => ?_
    refine wlk_sreg fun KY hKY => ?_
    simp only [go_sem, reduceIte, Nat.reduceEqDiff, reduceCtorEq, c_garlandref02_Right_r3]
    refine hKY _ ?_
    refine wlk_blk fun X3 hn3 he3 hf3 hr3 => ?_
    try simp only [go_sem, reduceIte, Nat.reduceEqDiff, reduceCtorEq]
    refine wlk_lp (α := Nat) [4, 23, 47, 60] (fun k => [(3, .sc (.int .i64 (k : Int)))]) (fun k => []) (fun k q => k ≤ es.length ∧ q = es.length - k ∧ ∀ j, j < k → okAt n es j = true) (0) (es.length) rfl (by first | (simp only [go_sem, reduceIte, Nat.reduceEqDiff, reduceCtorEq, updAll_cons, updAll_nil]; done) | with_reducible rfl | rfl) (⟨by omega, rfl, fun j h => by omega⟩) ?_
    rintro k q ⟨hk, rfl, hz⟩ X4 hn4 he4 hr4
    simp only [go_sem, reduceIte, Nat.reduceEqDiff, reduceCtorEq, updAll_cons, updAll_nil]
    refine wlk_seq fun X5 hn5 he5 hr5 => ?_
    refine wlk_sreg fun KY hKY => ?_
    simp only [go_sem, reduceIte, Nat.reduceEqDiff, reduceCtorEq, c_garlandref02_Right_r4]
    refine hKY _ ?_
    by_cases hk2 : k < es.length
    · refine wlk_cond1 (by first | rfl | (simp only [go_sem, reduceIte, Nat.reduceEqDiff, reduceCtorEq]; try simp (disch := omega) only [decide_eq_true])) ?_
      refine wlk_skip ?_
      repeat (first | refine hn5 _ ?_ | refine he5 _ _ ?_ | refine he4 _ _ ?_ | refine hn3 _ ?_ | refine he3 _ ?_ | refine hf3 _ _ (by decide) ?_ | refine hn2 _ ?_ | refine he2 _ _ ?_ | refine hn1 _ ?_ | refine he1 _ _ ?_)
      refine wlk_seq fun X6 hn6 he6 hr6 => ?_
      refine wlk_blk fun X7 hn7 he7 hf7 hr7 => ?_
      have hx : es[k]? = some es[k] := List.getElem?_eq_getElem hk2
      have hy : es.getD k (0, 0) = es[k] := by simp [List.getD_eq_getElem?_getD, hx]
      generalize es[k] = x at hx hy
      obtain ⟨a, b⟩ := x
      refine wlk_sreg fun KY hKY => ?_
      simp only [go_sem, reduceIte, Nat.reduceEqDiff, reduceCtorEq, c_garlandref02_Right_r5]
      repeat (simp (disch := omega) only [if_pos, if_neg, decide_eq_true]; try simp only [go_sem, reduceIte, Nat.reduceEqDiff, Nat.reduceBEq, reduceCtorEq, Nat.reduceLT, Nat.reduceAdd, two_cells hx, List.length_drop])
      refine hKY _ ?_
      have hiff : okAt n es k = true ↔ 0 ≤ a ∧ a < b ∧ b < n ∧ (k = 0 ∨ ((es.getD (k - 1) (0, 0)).1 < a ∨ (es.getD (k - 1) (0, 0)).1 = a ∧ (es.getD (k - 1) (0, 0)).2 < b)) := by
        simp only [okAt, hy, Bool.and_eq_true, Bool.or_eq_true, decide_eq_true_eq, and_assoc]
      refine wlk_seq fun X8 hn8 he8 hr8 => ?_
      by_cases ha : a < 0
      · have hf : okAt n es k = false := by rw [Bool.eq_false_iff]; intro h; have := hiff.1 h; omega
        refine wlk_sreg fun KY hKY => ?_
        simp only [go_sem, reduceIte, Nat.reduceEqDiff, reduceCtorEq, c_garlandref02_Right_r6, ha]
        repeat (simp (disch := omega) only [if_pos, if_neg, decide_eq_true, decide_eq_false, incS, nats_get, ints_get, ha]; try simp only [go_sem, reduceIte, Nat.reduceEqDiff, Nat.reduceBEq, reduceCtorEq, Nat.reduceLT, Nat.reduceLeDiff, Nat.reduceAdd, Nat.reduceSub, Nat.reduceMul, Nat.reduceDiv, Int.reduceAdd, Int.reduceNeg, Int.reduceEq, Int.reduceLT, Int.reduceLE, ha])
        refine hKY _ ?_
        refine wlk_cond1 rfl ?_
        refine wlk_sreg fun KY hKY => ?_
        simp only [go_sem, reduceIte, Nat.reduceEqDiff, reduceCtorEq, c_garlandref02_Right_r7]
        refine hKY _ ?_
        refine wlk_ret ?_
        repeat (first | refine hr8 _ ?_ | refine hr7 _ ?_ | refine hr6 _ ?_ | refine hr5 _ ?_ | refine hr4 _ ?_ | refine hr3 _ ?_ | refine hr2 _ ?_ | refine hr1 _ ?_)
        simp only [go_sem, reduceIte, Nat.reduceEqDiff, reduceCtorEq]
        rw [rightB_false hk2 hf]
      · by_cases hb : b ≤ a
        · have hf : okAt n es k = false := by rw [Bool.eq_false_iff]; intro h; have := hiff.1 h; omega
          refine wlk_sreg fun KY hKY => ?_
          simp only [go_sem, reduceIte, Nat.reduceEqDiff, reduceCtorEq, c_garlandref02_Right_r6, ha, hb]
          repeat (simp (disch := omega) only [if_pos, if_neg, decide_eq_true, decide_eq_false, incS, nats_get, ints_get, ha, hb]; try simp only [go_sem, reduceIte, Nat.reduceEqDiff, Nat.reduceBEq, reduceCtorEq, Nat.reduceLT, Nat.reduceLeDiff, Nat.reduceAdd, Nat.reduceSub, Nat.reduceMul, Nat.reduceDiv, Int.reduceAdd, Int.reduceNeg, Int.reduceEq, Int.reduceLT, Int.reduceLE, ha, hb])
          refine hKY _ ?_
          refine wlk_cond1 rfl ?_
          refine wlk_sreg fun KY hKY => ?_
          simp only [go_sem, reduceIte, Nat.reduceEqDiff, reduceCtorEq, c_garlandref02_Right_r7]
          refine hKY _ ?_
          refine wlk_ret ?_
          repeat (first | refine hr8 _ ?_ | refine hr7 _ ?_ | refine hr6 _ ?_ | refine hr5 _ ?_ | refine hr4 _ ?_ | refine hr3 _ ?_ | refine hr2 _ ?_ | refine hr1 _ ?_)
          simp only [go_sem, reduceIte, Nat.reduceEqDiff, reduceCtorEq]
          rw [rightB_false hk2 hf]
        · by_cases hc : n ≤ b
          · have hf : okAt n es k = false := by rw [Bool.eq_false_iff]; intro h; have := hiff.1 h; omega
            refine wlk_sreg fun KY hKY => ?_
            simp only [go_sem, reduceIte, Nat.reduceEqDiff, reduceCtorEq, c_garlandref02_Right_r6, ha, hb, hc]
            repeat (simp (disch := omega) only [if_pos, if_neg, decide_eq_true, decide_eq_false, incS, nats_get, ints_get, ha, hb, hc]; try simp only [go_sem, reduceIte, Nat.reduceEqDiff, Nat.reduceBEq, reduceCtorEq, Nat.reduceLT, Nat.reduceLeDiff, Nat.reduceAdd, Nat.reduceSub, Nat.reduceMul, Nat.reduceDiv, Int.reduceAdd, Int.reduceNeg, Int.reduceEq, Int.reduceLT, Int.reduceLE, ha, hb, hc])
            refine hKY _ ?_
            refine wlk_cond1 rfl ?_
            refine wlk_sreg fun KY hKY => ?_
            simp only [go_sem, reduceIte, Nat.reduceEqDiff, reduceCtorEq, c_garlandref02_Right_r7]
            refine hKY _ ?_
            refine wlk_ret ?_
            repeat (first | refine hr8 _ ?_ | refine hr7 _ ?_ | refine hr6 _ ?_ | refine hr5 _ ?_ | refine hr4 _ ?_ | refine hr3 _ ?_ | refine hr2 _ ?_ | refine hr1 _ ?_)
            simp only [go_sem, reduceIte, Nat.reduceEqDiff, reduceCtorEq]
            rw [rightB_false hk2 hf]
          · refine wlk_sreg fun KY hKY => ?_
            simp only [go_sem, reduceIte, Nat.reduceEqDiff, reduceCtorEq, c_garlandref02_Right_r6, ha, hb, hc]
            repeat (simp (disch := omega) only [if_pos, if_neg, decide_eq_true, decide_eq_false, incS, nats_get, ints_get, ha, hb, hc]; try simp only [go_sem, reduceIte, Nat.reduceEqDiff, Nat.reduceBEq, reduceCtorEq, Nat.reduceLT, Nat.reduceLeDiff, Nat.reduceAdd, Nat.reduceSub, Nat.reduceMul, Nat.reduceDiv, Int.reduceAdd, Int.reduceNeg, Int.reduceEq, Int.reduceLT, Int.reduceLE, ha, hb, hc])
            refine hKY _ ?_
            refine wlk_cond0 rfl ?_
            refine wlk_skip ?_
            repeat (first | refine hn8 _ ?_ | refine he8 _ _ ?_ | refine hn7 _ ?_ | refine he7 _ ?_ | refine hf7 _ _ (by decide) ?_ | refine hn6 _ ?_ | refine he6 _ _ ?_ | refine hn5 _ ?_ | refine he5 _ _ ?_ | refine he4 _ _ ?_ | refine hn3 _ ?_ | refine he3 _ ?_ | refine hf3 _ _ (by decide) ?_ | refine hn2 _ ?_ | refine he2 _ _ ?_ | refine hn1 _ ?_ | refine he1 _ _ ?_)
            cases k with
            | zero =>
              have ht : okAt n es 0 = true := hiff.2 (by omega)
              refine wlk_sdraw fun KY hKY => ?_
              simp only [go_sem, reduceIte, Nat.reduceEqDiff, Nat.reduceBEq, reduceCtorEq, Int.reduceLT, c_garlandref02_Right_r8, show ((0:Nat):Int) = 0 from rfl]
              repeat (simp (disch := omega) only [if_pos, if_neg, decide_eq_true, decide_eq_false, incS, nats_get, ints_get, show ((0:Nat):Int) = 0 from rfl]; try simp only [go_sem, reduceIte, Nat.reduceEqDiff, Nat.reduceBEq, reduceCtorEq, Nat.reduceLT, Nat.reduceLeDiff, Nat.reduceAdd, Nat.reduceSub, Nat.reduceMul, Nat.reduceDiv, Int.reduceAdd, Int.reduceNeg, Int.reduceEq, Int.reduceLT, Int.reduceLE, show ((0:Nat):Int) = 0 from rfl])
              refine hKY _ ?_
              refine wlk_cond0 rfl ?_
              refine wlk_skip ?_
              repeat (first | refine hn8 _ ?_ | refine he8 _ _ ?_ | refine hn7 _ ?_ | refine he7 _ ?_ | refine hf7 _ _ (by decide) ?_ | refine hn6 _ ?_ | refine he6 _ _ ?_ | refine hn5 _ ?_ | refine he5 _ _ ?_ | refine he4 _ _ ?_ | refine hn3 _ ?_ | refine he3 _ ?_ | refine hf3 _ _ (by decide) ?_ | refine hn2 _ ?_ | refine he2 _ _ ?_ | refine hn1 _ ?_ | refine he1 _ _ ?_)
              refine wlk_reg fun KY hKY => ?_
              simp only [go_sem, reduceIte, Nat.reduceEqDiff, reduceCtorEq, Int.reduceAdd, c_garlandref02_Right_r10]
              repeat (simp (disch := omega) only [if_pos, if_neg, decide_eq_true, decide_eq_false, incS, nats_get, ints_get]; try simp only [go_sem, reduceIte, Nat.reduceEqDiff, Nat.reduceBEq, reduceCtorEq, Nat.reduceLT, Nat.reduceLeDiff, Nat.reduceAdd, Nat.reduceSub, Nat.reduceMul, Nat.reduceDiv, Int.reduceAdd, Int.reduceNeg, Int.reduceEq, Int.reduceLT, Int.reduceLE])
              refine hKY _ ?_
              repeat (first | refine hn8 _ ?_ | refine he8 _ _ ?_ | refine hn7 _ ?_ | refine he7 _ ?_ | refine hf7 _ _ (by decide) ?_ | refine hn6 _ ?_ | refine he6 _ _ ?_ | refine hn5 _ ?_ | refine he5 _ _ ?_)
              refine hn4 _ (0 + 1) (es.length - (0 + 1)) (by omega) (by first | (simp only [go_sem, reduceIte, Nat.reduceEqDiff, reduceCtorEq, updAll_cons, updAll_nil]; done) | with_reducible rfl | rfl) ?_
              refine ⟨hk2, rfl, fun j hj => ?_⟩
              rcases Nat.lt_or_ge j (0) with h3 | h3
              · exact hz j h3
              · have : j = 0 := by omega
                subst this; exact ht
            | succ m =>
              have hm : es[m]? = some (es[m]'(by omega)) := List.getElem?_eq_getElem _
              have hmy : es.getD (m + 1 - 1) (0, 0) = es[m]'(by omega) := by simp [List.getD_eq_getElem?_getD, hm]
              generalize es[m]'(by omega) = x at hm hmy
              obtain ⟨c, d⟩ := x
              rw [hmy] at hiff
              have hm0 : ((m + 1 : Nat) : Int) > 0 := by omega
              refine wlk_sdraw fun KY hKY => ?_
              simp only [go_sem, reduceIte, Nat.reduceEqDiff, reduceCtorEq, c_garlandref02_Right_r8, hm0]
              repeat (simp (disch := omega) only [if_pos, if_neg, decS]; try simp only [go_sem, reduceIte, Nat.reduceEqDiff, Nat.reduceBEq, reduceCtorEq, Nat.reduceLT, Nat.reduceAdd, two_cells hm, List.length_drop])
              refine call_view rfl (by simp only [go_sem, reduceIte, Nat.reduceEqDiff, reduceCtorEq] <;> rfl) ((ahead_ok (c, d) (a, b)).mono ?_)
              rintro rr hh ⟨rfl, rfl⟩
              refine ⟨rfl, rfl, rfl, ?_⟩
              cases hq : aheadI (c, d) (a, b) with
              | false =>
                have hq' := of_decide_eq_false hq
                have hf : okAt n es (m + 1) = false := by rw [Bool.eq_false_iff]; intro h; have := (hiff.1 h).2.2.2; simp only at this hq'; omega
                try simp only [go_sem, reduceIte, Nat.reduceEqDiff, reduceCtorEq]
                repeat (simp (disch := omega) only [if_pos, if_neg, decide_eq_true, decide_eq_false, incS, nats_get, ints_get, hq]; try simp only [go_sem, reduceIte, Nat.reduceEqDiff, Nat.reduceBEq, reduceCtorEq, Nat.reduceLT, Nat.reduceLeDiff, Nat.reduceAdd, Nat.reduceSub, Nat.reduceMul, Nat.reduceDiv, Int.reduceAdd, Int.reduceNeg, Int.reduceEq, Int.reduceLT, Int.reduceLE, hq])
                refine hKY _ ?_
                refine wlk_cond1 rfl ?_
                refine wlk_sreg fun KY hKY => ?_
                simp only [go_sem, reduceIte, Nat.reduceEqDiff, reduceCtorEq, c_garlandref02_Right_r9]
                refine hKY _ ?_
                refine wlk_ret ?_
                repeat (first | refine hr8 _ ?_ | refine hr7 _ ?_ | refine hr6 _ ?_ | refine hr5 _ ?_ | refine hr4 _ ?_ | refine hr3 _ ?_ | refine hr2 _ ?_ | refine hr1 _ ?_)
                simp only [go_sem, reduceIte, Nat.reduceEqDiff, reduceCtorEq]
                rw [rightB_false hk2 hf]
              | true =>
                have hq' := of_decide_eq_true hq
                have ht : okAt n es (m + 1) = true := hiff.2 (by simp only at hq' ⊢; omega)
                try simp only [go_sem, reduceIte, Nat.reduceEqDiff, reduceCtorEq]
                repeat (simp (disch := omega) only [if_pos, if_neg, decide_eq_true, decide_eq_false, incS, nats_get, ints_get, hq]; try simp only [go_sem, reduceIte, Nat.reduceEqDiff, Nat.reduceBEq, reduceCtorEq, Nat.reduceLT, Nat.reduceLeDiff, Nat.reduceAdd, Nat.reduceSub, Nat.reduceMul, Nat.reduceDiv, Int.reduceAdd, Int.reduceNeg, Int.reduceEq, Int.reduceLT, Int.reduceLE, hq])
                refine hKY _ ?_
                refine wlk_cond0 rfl ?_
                refine wlk_skip ?_
                repeat (first | refine hn8 _ ?_ | refine he8 _ _ ?_ | refine hn7 _ ?_ | refine he7 _ ?_ | refine hf7 _ _ (by decide) ?_ | refine hn6 _ ?_ | refine he6 _ _ ?_ | refine hn5 _ ?_ | refine he5 _ _ ?_ | refine he4 _ _ ?_ | refine hn3 _ ?_ | refine he3 _ ?_ | refine hf3 _ _ (by decide) ?_ | refine hn2 _ ?_ | refine he2 _ _ ?_ | refine hn1 _ ?_ | refine he1 _ _ ?_)
                refine wlk_reg fun KY hKY => ?_
                simp only [go_sem, reduceIte, Nat.reduceEqDiff, reduceCtorEq, c_garlandref02_Right_r10]
                repeat (simp (disch := omega) only [incS]; try simp only [go_sem, reduceIte, Nat.reduceEqDiff, Nat.reduceBEq, reduceCtorEq, Nat.reduceLT, Nat.reduceLeDiff, Nat.reduceAdd, Nat.reduceSub, Nat.reduceMul, Nat.reduceDiv, Int.reduceAdd, Int.reduceNeg, Int.reduceEq, Int.reduceLT, Int.reduceLE])
                refine hKY _ ?_
                repeat (first | refine hn8 _ ?_ | refine he8 _ _ ?_ | refine hn7 _ ?_ | refine he7 _ ?_ | refine hf7 _ _ (by decide) ?_ | refine hn6 _ ?_ | refine he6 _ _ ?_ | refine hn5 _ ?_ | refine he5 _ _ ?_)
                refine hn4 _ (m + 1 + 1) (es.length - (m + 1 + 1)) (by omega) (by first | (simp only [go_sem, reduceIte, Nat.reduceEqDiff, reduceCtorEq, updAll_cons, updAll_nil]; done) | with_reducible rfl | rfl) ?_
                refine ⟨hk2, rfl, fun j hj => ?_⟩
                rcases Nat.lt_or_ge j (m + 1) with h3 | h3
                · exact hz j h3
                · have : j = m + 1 := by omega
                  subst this; exact ht
    · refine wlk_cond0 (by first | rfl | (simp only [go_sem, reduceIte, Nat.reduceEqDiff, reduceCtorEq]; try simp (disch := omega) only [decide_eq_false])) ?_
      refine wlk_exit ?_
      repeat (first | refine hn5 _ ?_ | refine he5 _ _ ?_ | refine he4 _ _ ?_ | refine hn3 _ ?_ | refine he3 _ ?_ | refine hf3 _ _ (by decide) ?_ | refine hn2 _ ?_ | refine he2 _ _ ?_ | refine hn1 _ ?_ | refine he1 _ _ ?_)
      refine wlk_sreg fun KY hKY => ?_
      simp only [go_sem, reduceIte, Nat.reduceEqDiff, reduceCtorEq, c_garlandref02_Right_r11]
      refine hKY _ ?_
      refine wlk_ret ?_
      repeat (first | refine hr5 _ ?_ | refine hr4 _ ?_ | refine hr3 _ ?_ | refine hr2 _ ?_ | refine hr1 _ ?_)
      simp only [go_sem, reduceIte, Nat.reduceEqDiff, reduceCtorEq]
      rw [rightB_true h0 h1 h2 fun i hi => hz i (by omega)]
  · by_cases h0 : n < 0
    · refine wlk_sreg fun KY hKY => ?_
      simp only [go_sem, reduceIte, Nat.reduceEqDiff, reduceCtorEq, c_garlandref02_Right_r1, h0]
      repeat (simp (disch := omega) only [if_pos, if_neg, decide_eq_true, decide_eq_false, incS, nats_get, ints_get, h0]; try simp only [go_sem, reduceIte, Nat.reduceEqDiff, Nat.reduceBEq, reduceCtorEq, Nat.reduceLT, Nat.reduceLeDiff, Nat.reduceAdd, Nat.reduceSub, Nat.reduceMul, Nat.reduceDiv, Int.reduceAdd, Int.reduceNeg, Int.reduceEq, Int.reduceLT, Int.reduceLE, h0])
      refine hKY _ ?_
      refine wlk_cond1 rfl ?_
      refine wlk_sreg fun KY hKY => ?_
      simp only [go_sem, reduceIte, Nat.reduceEqDiff, reduceCtorEq, c_garlandref02_Right_r2]
      refine hKY _ ?_
      refine wlk_ret ?_
      repeat (first | refine hr1 _ ?_)
      simp only [go_sem, reduceIte, Nat.reduceEqDiff, reduceCtorEq]
      rw [show rightB n es = false by rw [Bool.eq_false_iff]; intro h'; simp only [rightB, Bool.and_eq_true, decide_eq_true_eq] at h'; omega]
    · by_cases h1 : 4096 < n
      · refine wlk_sreg fun KY hKY => ?_
        simp only [go_sem, reduceIte, Nat.reduceEqDiff, reduceCtorEq, c_garlandref02_Right_r1, h0, h1]
        repeat (simp (disch := omega) only [if_pos, if_neg, decide_eq_true, decide_eq_false, incS, nats_get, ints_get, h0, h1]; try simp only [go_sem, reduceIte, Nat.reduceEqDiff, Nat.reduceBEq, reduceCtorEq, Nat.reduceLT, Nat.reduceLeDiff, Nat.reduceAdd, Nat.reduceSub, Nat.reduceMul, Nat.reduceDiv, Int.reduceAdd, Int.reduceNeg, Int.reduceEq, Int.reduceLT, Int.reduceLE, h0, h1])
        refine hKY _ ?_
        refine wlk_cond1 rfl ?_
        refine wlk_sreg fun KY hKY => ?_
        simp only [go_sem, reduceIte, Nat.reduceEqDiff, reduceCtorEq, c_garlandref02_Right_r2]
        refine hKY _ ?_
        refine wlk_ret ?_
        repeat (first | refine hr1 _ ?_)
        simp only [go_sem, reduceIte, Nat.reduceEqDiff, reduceCtorEq]
        rw [show rightB n es = false by rw [Bool.eq_false_iff]; intro h'; simp only [rightB, Bool.and_eq_true, decide_eq_true_eq] at h'; omega]
      · refine wlk_sreg fun KY hKY => ?_
        simp only [go_sem, reduceIte, Nat.reduceEqDiff, reduceCtorEq, c_garlandref02_Right_r1, h0, h1]
        repeat (simp (disch := omega) only [decide_eq_true]; try simp only [go_sem, reduceIte, Nat.reduceEqDiff, Nat.reduceBEq, reduceCtorEq, Nat.reduceLT, Nat.reduceLeDiff, Nat.reduceAdd, Nat.reduceSub, Nat.reduceMul, Nat.reduceDiv, Int.reduceAdd, Int.reduceNeg, Int.reduceEq, Int.reduceLT, Int.reduceLE, h0, h1])
        refine hKY _ ?_
        refine wlk_cond1 rfl ?_
        refine wlk_sreg fun KY hKY => ?_
        simp only [go_sem, reduceIte, Nat.reduceEqDiff, reduceCtorEq, c_garlandref02_Right_r2]
        refine hKY _ ?_
        refine wlk_ret ?_
        repeat (first | refine hr1 _ ?_)
        simp only [go_sem, reduceIte, Nat.reduceEqDiff, reduceCtorEq]
        rw [show rightB n es = false by rw [Bool.eq_false_iff]; intro h'; simp only [rightB, Bool.and_eq_true, decide_eq_true_eq] at h'; omega]
end Go.Proofs.Ytepjcfbigcfkfaa
set_option maxRecDepth 100000
set_option maxHeartbeats 4000000
namespace Go.Proofs.Ytepjcfbigcfkfaa
open Go Go.Ga Go.Ga.Gl
theorem rindex_ok (n : Int) (es : List (Int × Int)) (a b : Int) : ACalls Try.prog [] n_garlandref02_Index [.agg [.sc (.int .i64 n), .imm 2 (twos es)], .sc (.int .i64 a), .sc (.int .i64 b)] [] fun r h' => (∃ k : Int, r = .sc (.int .i64 k) ∧ (0 ≤ k ↔ rightB n es = true ∧ turnI a b ∈ es)) ∧ h' = [] := by
  refine go_garlandref02_Index rfl ?_
  unfold c_garlandref02_Index v_garlandref02_Index
  refine wlk_sreg fun KY hKY => ?_
  simp only [go_sem, reduceIte, Nat.reduceEqDiff, reduceCtorEq, c_garlandref02_Index_r0]
  refine hKY _ ?_
  refine wlk_seq fun X1 hn1 he1 hr1 => ?_
  refine wlk_sreg fun KY hKY => ?_
  simp only [go_sem, reduceIte, Nat.reduceEqDiff, reduceCtorEq, Nat.reduceLT, Nat.reduceAdd, c_garlandref02_Index_r1]
  refine call_view rfl (by simp only [go_sem, reduceIte, Nat.reduceEqDiff, reduceCtorEq] <;> rfl) ((rright_ok _ _).mono ?_)
  rintro rr hh ⟨rfl, rfl⟩
  refine ⟨rfl, rfl, rfl, ?_⟩
  simp only [go_sem, reduceIte, Nat.reduceEqDiff, reduceCtorEq]
  refine hKY _ ?_
  cases hR : rightB n es with
  | false =>
    refine wlk_cond1 rfl ?_
    refine wlk_sreg fun KY hKY => ?_
    simp only [go_sem, reduceIte, Nat.reduceEqDiff, reduceCtorEq, Int.reduceAdd, Int.reduceNeg, c_garlandref02_Index_r2]
    refine hKY _ ?_
    refine wlk_ret ?_
    repeat (first | refine hr1 _ ?_)
    simp only [go_sem, reduceIte, Nat.reduceEqDiff, reduceCtorEq, Int.reduceNeg]
    exact ⟨-1, rfl, by simp [hR]⟩
  | true =>
    have hlen : es.length ≤ 65536 := by simp only [rightB, Bool.and_eq_true, decide_eq_true_eq] at hR; omega
    refine wlk_cond0 rfl ?_
    refine wlk_skip ?_
    repeat (first | refine hn1 _ ?_ | refine he1 _ _ ?_)
    refine wlk_sreg fun KY hKY => ?_
    simp only [go_sem, reduceIte, Nat.reduceEqDiff, reduceCtorEq, c_garlandref02_Index_r3]
    refine call_view rfl (by simp only [go_sem, reduceIte, Nat.reduceEqDiff, reduceCtorEq] <;> rfl) ((turned_ok _ _).mono ?_)
    rintro rr hh ⟨rfl, rfl⟩
    refine ⟨rfl, rfl, rfl, ?_⟩
    generalize hT : turnI a b = e
    obtain ⟨c, d⟩ := e
    simp only [two_mk]
    simp only [go_sem, reduceIte, Nat.reduceEqDiff, reduceCtorEq, Nat.reduceLT, Nat.reduceAdd]
    refine hKY _ ?_
    refine wlk_seq fun X2 hn2 he2 hr2 => ?_
    refine wlk_sreg fun KY hKY => ?_
    simp only [go_sem, reduceIte, Nat.reduceEqDiff, reduceCtorEq, c_garlandref02_Index_r4]
    refine hKY _ ?_
    refine wlk_blk fun X3 hn3 he3 hf3 hr3 => ?_
    try simp only [go_sem, reduceIte, Nat.reduceEqDiff, reduceCtorEq]
    refine wlk_lp (α := Nat) [19, 28] (fun k => [(8, .sc (.int .i64 (k : Int)))]) (fun k => []) (fun k q => k ≤ es.length ∧ q = es.length - k ∧ ∀ j, j < k → es.getD j (0, 0) ≠ (c, d)) (0) (es.length) rfl (by first | (simp only [go_sem, reduceIte, Nat.reduceEqDiff, reduceCtorEq, updAll_cons, updAll_nil]; done) | with_reducible rfl | rfl) (⟨by omega, rfl, fun j h => by omega⟩) ?_
    rintro k q ⟨hk, rfl, hz⟩ X4 hn4 he4 hr4
    simp only [go_sem, reduceIte, Nat.reduceEqDiff, reduceCtorEq, updAll_cons, updAll_nil]
    refine wlk_seq fun X5 hn5 he5 hr5 => ?_
    refine wlk_sreg fun KY hKY => ?_
    simp only [go_sem, reduceIte, Nat.reduceEqDiff, reduceCtorEq, c_garlandref02_Index_r5]
    refine hKY _ ?_
    by_cases hk2 : k < es.length
    · refine wlk_cond1 (by first | rfl | (simp only [go_sem, reduceIte, Nat.reduceEqDiff, reduceCtorEq]; try simp (disch := omega) only [decide_eq_true])) ?_
      refine wlk_skip ?_
      repeat (first | refine hn5 _ ?_ | refine he5 _ _ ?_ | refine he4 _ _ ?_ | refine hn3 _ ?_ | refine he3 _ ?_ | refine hf3 _ _ (by decide) ?_ | refine hn2 _ ?_ | refine he2 _ _ ?_ | refine hn1 _ ?_ | refine he1 _ _ ?_)
      refine wlk_seq fun X6 hn6 he6 hr6 => ?_
      refine wlk_blk fun X7 hn7 he7 hf7 hr7 => ?_
      have hx : es[k]? = some es[k] := List.getElem?_eq_getElem hk2
      have hy : es.getD k (0, 0) = es[k] := by simp [List.getD_eq_getElem?_getD, hx]
      generalize es[k] = x at hx hy
      obtain ⟨u, v⟩ := x
      refine wlk_sdraw fun KY hKY => ?_
      simp only [go_sem, reduceIte, Nat.reduceEqDiff, reduceCtorEq, Nat.reduceLT, Nat.reduceSub, c_garlandref02_Index_r6]
      repeat (simp (disch := omega) only [if_pos, if_neg, decide_eq_true]; try simp only [go_sem, reduceIte, Nat.reduceEqDiff, reduceCtorEq, Nat.reduceLT, Nat.reduceAdd, two_cells hx, List.length_drop])
      refine hKY _ ?_
      by_cases h2 : (u, v) = (c, d)
      · refine wlk_cond1 (by first | rfl | (simp only [go_sem, reduceIte, Nat.reduceEqDiff, reduceCtorEq, h2]; try simp (disch := omega) only [decide_eq_true, decide_eq_false])) ?_
        refine wlk_sreg fun KY hKY => ?_
        simp only [go_sem, reduceIte, Nat.reduceEqDiff, reduceCtorEq, c_garlandref02_Index_r7]
        refine hKY _ ?_
        refine wlk_ret ?_
        repeat (first | refine hr7 _ ?_ | refine hr6 _ ?_ | refine hr5 _ ?_ | refine hr4 _ ?_ | refine hr3 _ ?_ | refine hr2 _ ?_ | refine hr1 _ ?_)
        simp only [go_sem, reduceIte, Nat.reduceEqDiff, reduceCtorEq]
        refine ⟨(k : Int), rfl, ?_⟩
        rw [hT, ← h2]
        exact ⟨fun _ => ⟨hR, List.mem_iff_getElem?.2 ⟨k, hx⟩⟩, fun _ => by omega⟩
      · refine wlk_cond0 (by first | rfl | (simp only [go_sem, reduceIte, Nat.reduceEqDiff, reduceCtorEq, h2]; try simp (disch := omega) only [decide_eq_true, decide_eq_false])) ?_
        refine wlk_skip ?_
        repeat (first | refine hn7 _ ?_ | refine he7 _ ?_ | refine hf7 _ _ (by decide) ?_ | refine hn6 _ ?_ | refine he6 _ _ ?_ | refine hn5 _ ?_ | refine he5 _ _ ?_ | refine he4 _ _ ?_ | refine hn3 _ ?_ | refine he3 _ ?_ | refine hf3 _ _ (by decide) ?_ | refine hn2 _ ?_ | refine he2 _ _ ?_ | refine hn1 _ ?_ | refine he1 _ _ ?_)
        refine wlk_reg fun KY hKY => ?_
        simp only [go_sem, reduceIte, Nat.reduceEqDiff, reduceCtorEq, c_garlandref02_Index_r8]
        repeat (simp (disch := omega) only [decide_eq_false, incS]; try simp only [go_sem, reduceIte, Nat.reduceEqDiff, Nat.reduceBEq, reduceCtorEq, Nat.reduceLT, Nat.reduceLeDiff, Nat.reduceAdd, Nat.reduceSub, Nat.reduceMul, Nat.reduceDiv, Int.reduceAdd, Int.reduceNeg, Int.reduceEq, Int.reduceLT, Int.reduceLE])
        refine hKY _ ?_
        repeat (first | refine hn7 _ ?_ | refine he7 _ ?_ | refine hf7 _ _ (by decide) ?_ | refine hn6 _ ?_ | refine he6 _ _ ?_ | refine hn5 _ ?_ | refine he5 _ _ ?_)
        refine hn4 _ (k + 1) (es.length - (k + 1)) (by omega) (by first | (simp only [go_sem, reduceIte, Nat.reduceEqDiff, reduceCtorEq, updAll_cons, updAll_nil]; done) | with_reducible rfl | rfl) ?_
        refine ⟨hk2, rfl, fun j hj => ?_⟩
        rcases Nat.lt_or_ge j k with h3 | h3
        · exact hz j h3
        · have : j = k := by omega
          subst this; rw [hy]; exact h2
    · refine wlk_cond0 (by first | rfl | (simp only [go_sem, reduceIte, Nat.reduceEqDiff, reduceCtorEq]; try simp (disch := omega) only [decide_eq_false])) ?_
      refine wlk_exit ?_
      repeat (first | refine hn5 _ ?_ | refine he5 _ _ ?_ | refine he4 _ _ ?_ | refine hn3 _ ?_ | refine he3 _ ?_ | refine hf3 _ _ (by decide) ?_ | refine hn2 _ ?_ | refine he2 _ _ ?_ | refine hn1 _ ?_ | refine he1 _ _ ?_)
      refine wlk_sreg fun KY hKY => ?_
      simp only [go_sem, reduceIte, Nat.reduceEqDiff, reduceCtorEq, Int.reduceAdd, Int.reduceNeg, c_garlandref02_Index_r9]
      refine hKY _ ?_
      refine wlk_ret ?_
      repeat (first | refine hr5 _ ?_ | refine hr4 _ ?_ | refine hr3 _ ?_ | refine hr2 _ ?_ | refine hr1 _ ?_)
      simp only [go_sem, reduceIte, Nat.reduceEqDiff, reduceCtorEq, Int.reduceNeg]
      refine ⟨-1, rfl, ?_⟩
      have : ¬ (c, d) ∈ es := by
        intro hm
        obtain ⟨j, hj⟩ := List.mem_iff_getElem?.1 hm
        have hjl := (List.getElem?_eq_some_iff.1 hj).1
        refine hz j (by omega) ?_
        rw [List.getD_eq_getElem?_getD, hj]; rfl
      rw [hT]
      simp [this]
theorem rhas_ok (n : Int) (es : List (Int × Int)) (a b : Int) : ACalls Try.prog [] n_garlandref02_Has [.agg [.sc (.int .i64 n), .imm 2 (twos es)], .sc (.int .i64 a), .sc (.int .i64 b)] [] fun r h' => r = .sc (.bool (rightB n es && decide (turnI a b ∈ es))) ∧ h' = [] := by
  refine go_garlandref02_Has rfl ?_
  unfold c_garlandref02_Has v_garlandref02_Has
  refine wlk_sreg fun KY hKY => ?_
  simp only [go_sem, reduceIte, Nat.reduceEqDiff, reduceCtorEq, c_garlandref02_Has_r0]
  refine hKY _ ?_
  refine wlk_sreg fun KY hKY => ?_
  simp only [go_sem, reduceIte, Nat.reduceEqDiff, reduceCtorEq, Nat.reduceLT, Nat.reduceAdd, c_garlandref02_Has_r1]
  refine call_view rfl (by simp only [go_sem, reduceIte, Nat.reduceEqDiff, reduceCtorEq] <;> rfl) ((rindex_ok n es a b).mono ?_)
  rintro rr hh ⟨⟨k, rfl, hk⟩, rfl⟩
  refine ⟨?_, ?_, ?_, ?_⟩
  iterate 3 (first | rfl | simp only [go_sem, reduceIte, Nat.reduceEqDiff, Nat.reduceBEq, reduceCtorEq, Nat.reduceLT, Nat.reduceLeDiff, Nat.reduceAdd, Nat.reduceSub, Nat.reduceMul, Nat.reduceDiv, Int.reduceAdd, Int.reduceNeg, Int.reduceEq, Int.reduceLT, Int.reduceLE])
  simp only [go_sem, reduceIte, Nat.reduceEqDiff, reduceCtorEq]
  refine hKY _ ?_
  refine wlk_ret ?_
  simp only [go_sem, reduceIte, Nat.reduceEqDiff, reduceCtorEq]
  have : decide (0 ≤ k) = (rightB n es && decide (turnI a b ∈ es)) := by
    rw [Bool.eq_iff_iff]; simp [hk]
  rw [this]
theorem castE_mem {es : Es} {a b : Nat} : ((a : Int), (b : Int)) ∈ castE es ↔ (a, b) ∈ es := by
  simp only [castE, List.mem_map, Prod.mk.injEq]
  constructor
  · rintro ⟨⟨x, y⟩, h, h1, h2⟩
    have e1 : x = a := by omega
    have e2 : y = b := by omega
    rw [← e1, ← e2]; exact h
  · intro h; exact ⟨(a, b), h, rfl, rfl⟩
end Go.Proofs.Ytepjcfbigcfkfaa
set_option maxRecDepth 100000
set_option maxHeartbeats 4000000
namespace Go.Proofs.Ytepjcfbigcfkfaa
open Go Go.Ga Go.Ga.Gl
end Go.Proofs.Ytepjcfbigcfkfaa
namespace Go.Proofs
open Go.Shelf
def Try.lays189_ren : Go.Shelf.Ren := ⟨fun | 189 => 59 | 125 => 62 | 257 => 61 | 128 => 74 | 129 => 75 | 294 => 65 | 295 => 66 | 296 => 67 | 297 => 68 | 298 => 69 | 299 => 70 | 216 => 71 | 300 => 72 | 301 => 73 | 328 => 76 | 329 => 77 | 330 => 78 | 331 => 79 | 332 => 80 | 215 => 52 | 343 => 81 | n => n, fun | 28 => 22 | 3 => 3 | 46 => 30 | 0 => 0 | 51 => 103 | 53 => 46 | 4 => 4 | 183 => 97 | 182 => 96 | 131 => 90 | 5 => 5 | 9 => 9 | 218 => 105 | 222 => 109 | 228 => 111 | 229 => 112 | n => n, fun | n => n⟩
theorem Try.lays189 : Go.Proofs.Lays.n189 Try.prog Try.lays189_ren := {
  mixed := by kernel_rfl
  f125 := Try.func62.trans (congrArg some (by kernel_rfl))
  f128 := Try.func74.trans (congrArg some (by kernel_rfl))
  f129 := Try.func75.trans (congrArg some (by kernel_rfl))
  f189 := Try.func59.trans (congrArg some (by kernel_rfl))
  f215 := Try.func52.trans (congrArg some (by kernel_rfl))
  f216 := Try.func71.trans (congrArg some (by kernel_rfl))
  f257 := Try.func61.trans (congrArg some (by kernel_rfl))
  f294 := Try.func65.trans (congrArg some (by kernel_rfl))
  f295 := Try.func66.trans (congrArg some (by kernel_rfl))
  f296 := Try.func67.trans (congrArg some (by kernel_rfl))
  f297 := Try.func68.trans (congrArg some (by kernel_rfl))
  f298 := Try.func69.trans (congrArg some (by kernel_rfl))
  f299 := Try.func70.trans (congrArg some (by kernel_rfl))
  f300 := Try.func72.trans (congrArg some (by kernel_rfl))
  f301 := Try.func73.trans (congrArg some (by kernel_rfl))
  f328 := Try.func76.trans (congrArg some (by kernel_rfl))
  f329 := Try.func77.trans (congrArg some (by kernel_rfl))
  f330 := Try.func78.trans (congrArg some (by kernel_rfl))
  f331 := Try.func79.trans (congrArg some (by kernel_rfl))
  f332 := Try.func80.trans (congrArg some (by kernel_rfl))
  f343 := Try.func81.trans (congrArg some (by kernel_rfl))
  t0 := Try.underlying0
  a0 := Try.isAgg0
  z0 := Try.sizeOf0
  v0 := Try.zeroValue0
  t3 := Try.underlying3
  a3 := Try.isAgg3
  z3 := Try.sizeOf3
  v3 := Try.zeroValue3
  t4 := Try.underlying4
  a4 := Try.isAgg4
  z4 := Try.sizeOf4
  v4 := Try.zeroValue4
  t5 := Try.underlying5
  a5 := Try.isAgg5
  z5 := Try.sizeOf5
  v5 := Try.zeroValue5
  t9 := Try.underlying9
  a9 := Try.isAgg9
  z9 := Try.sizeOf9
  v9 := Try.zeroValue9
  t28 := Try.underlying22
  a28 := Try.isAgg22
  z28 := Try.sizeOf22
  v28 := Try.zeroValue22
  t46 := Try.underlying30
  a46 := Try.isAgg30
  z46 := Try.sizeOf30
  v46 := Try.zeroValue30
  t51 := Try.underlying103
  a51 := Try.isAgg103
  z51 := Try.sizeOf103
  v51 := Try.zeroValue103
  t53 := Try.underlying46
  a53 := Try.isAgg46
  z53 := Try.sizeOf46
  v53 := Try.zeroValue46
  t131 := Try.underlying90
  a131 := Try.isAgg90
  z131 := Try.sizeOf90
  v131 := Try.zeroValue90
  t182 := Try.underlying96
  a182 := Try.isAgg96
  z182 := Try.sizeOf96
  v182 := Try.zeroValue96
  t183 := Try.underlying97
  a183 := Try.isAgg97
  z183 := Try.sizeOf97
  v183 := Try.zeroValue97
  t218 := Try.underlying105
  a218 := Try.isAgg105
  z218 := Try.sizeOf105
  v218 := Try.zeroValue105
  t222 := Try.underlying109
  a222 := Try.isAgg109
  z222 := Try.sizeOf109
  v222 := Try.zeroValue109
  t228 := Try.underlying111
  a228 := Try.isAgg111
  z228 := Try.sizeOf111
  v228 := Try.zeroValue111
  t229 := Try.underlying112
  a229 := Try.isAgg112
  z229 := Try.sizeOf112
  v229 := Try.zeroValue112 }
open Go.Sort Go.RowKit in
theorem Try.slices_Sort_int (blk off cap : Nat) (zs : List Int) (w : World) (hH : Holds (Value.int .i64) w blk off zs.toArray) (hblk : blk < w.heap.size) (hsz : zs.length < 4611686018427387904) :
    Calls Try.prog 59 #[.slice (some ⟨blk, off, none⟩) zs.length cap] w fun e w' =>
      e = .returned (.tuple #[]) ∧ ∃ n os, w' = grow (putRow (Value.int .i64) (Sort.ahead w n) blk off (zs.mergeSort fun x y => decide (x ≤ y)).toArray) os := Any.slices_Sort_int Try.lays189 blk off cap zs w hH hblk hsz
end Go.Proofs
set_option maxRecDepth 100000
set_option maxHeartbeats 4000000
namespace Go.Proofs.Ytepjcfbigcfkfaa
open Go Go.Ga Go.Ga.Gl
theorem map_set_range {n b : Nat} {f g : Nat → List Nat} {y : List Nat} (h1 : g b = y) (h2 : ∀ v, v ≠ b → g v = f v) : ((List.range n).map f).set b y = (List.range n).map g := by
  apply List.ext_getElem (by simp)
  intro i h3 h4
  rw [List.getElem_set]
  split
  · rename_i h; subst h; simp [h1]
  · rename_i h; simp [h2 i (Ne.symm h)]
theorem low_step {es : Es} {k a b : Nat} (h : es[k]? = some (a, b)) (v : Nat) : lowOf (es.take (k + 1)) v = if v = b then lowOf (es.take k) v ++ [a] else lowOf (es.take k) v := by
  rw [List.take_add_one, h]
  simp only [lowOf, Option.toList_some, List.filter_append, List.map_append]
  by_cases hv : v = b
  · simp [hv]
  · simp [hv, Ne.symm hv]
theorem high_step {es : Es} {k a b : Nat} (h : es[k]? = some (a, b)) (v : Nat) : highOf (es.take (k + 1)) v = if v = a then highOf (es.take k) v ++ [b] else highOf (es.take k) v := by
  rw [List.take_add_one, h]
  simp only [highOf, Option.toList_some, List.filter_append, List.map_append]
  by_cases hv : v = a
  · simp [hv]
  · simp [hv, Ne.symm hv]
theorem low_len (es : Es) (v : Nat) : (lowOf es v).length ≤ es.length := by simp [lowOf]; exact List.length_filter_le _ _
theorem high_len (es : Es) (v : Nat) : (highOf es v).length ≤ es.length := by simp [highOf]; exact List.length_filter_le _ _
theorem lists_ok {n : Nat} {es : Es} (g : GR n es) : ACalls Try.prog [] n_graph_Lists [.sc (.int .i64 (n : Int)), .imm 2 (twos (castE es))] [] fun r h' => r = .own (some 1) (rowsO (near n es)) ∧ h' = [] := by
  have hn := g.hn
  have hm := g.hm
  have hb1 : n * 24 ≤ 140737488355328 := by omega
  refine go_graph_Lists rfl ?_
  unfold c_graph_Lists v_graph_Lists
  refine wlk_sreg fun KY hKY => ?_
  simp only [go_sem, reduceIte, Nat.reduceEqDiff, reduceCtorEq, c_graph_Lists_r0]
  refine hKY _ ?_
  refine wlk_sreg fun KY hKY => ?_
  simp only [go_sem, reduceIte, Nat.reduceEqDiff, reduceCtorEq, c_graph_Lists_r1]
  repeat (simp (disch := omega) only [if_pos]; try simp only [go_sem, reduceIte, Nat.reduceEqDiff, reduceCtorEq])
  refine hKY _ ?_
  simp only [go_sem, reduceIte, Nat.reduceEqDiff, reduceCtorEq]
  have hs0 := sees_rows n
  have e0 : List.replicate n [] = (List.range n).map (lowOf []) := by
    apply List.ext_getElem (by simp)
    intro i h1 h2
    simp [lowOf]
  rw [e0] at hs0
  refine sem_sees [0, 5] _ (by simp only [go_sem, reduceIte, Nat.reduceEqDiff, reduceCtorEq]) rfl hs0 ?_
  simp only [go_sem, reduceIte, Nat.reduceEqDiff, reduceCtorEq]
  refine wlk_seq fun X1 hn1 he1 hr1 => ?_
  refine wlk_sreg fun KY hKY => ?_
  simp only [go_sem, reduceIte, Nat.reduceEqDiff, reduceCtorEq, c_graph_Lists_r2, castE_len]
  refine hKY _ ?_
  refine wlk_blk fun X2 hn2 he2 hf2 hr2 => ?_
  try simp only [go_sem, reduceIte, Nat.reduceEqDiff, reduceCtorEq]
  refine wlk_lp (α := Nat) [7, 15] (fun k => [(5, .own (some 1) (rowsO ((List.range n).map (lowOf (es.take k))))), (14, .sc (.int .i64 (k : Int)))]) (fun k => []) (fun k q => k ≤ es.length ∧ q = es.length - k) (0) (es.length) rfl (by first | (simp only [go_sem, reduceIte, Nat.reduceEqDiff, reduceCtorEq, updAll_cons, updAll_nil]; done) | with_reducible rfl | rfl) (⟨by omega, rfl⟩) ?_
  rintro k q ⟨hk, rfl⟩ X3 hn3 he3 hr3
  simp only [go_sem, reduceIte, Nat.reduceEqDiff, reduceCtorEq, updAll_cons, updAll_nil]
  refine wlk_sreg fun KY hKY => ?_
  simp only [go_sem, reduceIte, Nat.reduceEqDiff, reduceCtorEq, c_graph_Lists_r3]
  refine hKY _ ?_
  refine wlk_seq fun X4 hn4 he4 hr4 => ?_
  by_cases hk2 : k < es.length
  · refine wlk_cond1 (by first | rfl | (simp only [go_sem, reduceIte, Nat.reduceEqDiff, reduceCtorEq]; try simp (disch := omega) only [decide_eq_true])) ?_
    refine wlk_skip ?_
    repeat (first | refine hn4 _ ?_ | refine he4 _ _ ?_ | refine he3 _ _ ?_ | refine hn2 _ ?_ | refine he2 _ ?_ | refine hf2 _ _ (by decide) ?_ | refine hn1 _ ?_ | refine he1 _ _ ?_)
    refine wlk_seq fun X5 hn5 he5 hr5 => ?_
    refine wlk_blk fun X6 hn6 he6 hf6 hr6 => ?_
    have hx : es[k]? = some es[k] := List.getElem?_eq_getElem hk2
    have hy := g.ok es[k] (List.getElem_mem hk2)
    generalize es[k] = x at hx hy
    obtain ⟨a, b⟩ := x
    simp only at hy
    have hx' := castE_get hx
    refine wlk_sreg fun KY hKY => ?_
    simp only [go_sem, reduceIte, Nat.reduceEqDiff, reduceCtorEq, c_graph_Lists_r4, castE_len]
    repeat (simp (disch := omega) only [if_pos, if_neg, decide_eq_true]; try simp only [go_sem, reduceIte, Nat.reduceEqDiff, reduceCtorEq, Nat.reduceLT, Nat.reduceAdd, two_cells hx', List.length_drop, castE_len])
    refine hKY _ ?_
    have hbn : b < n := hy.2
    have hg : ((List.range n).map (lowOf (es.take k)))[b]? = some (lowOf (es.take k) b) := by simp [hbn]
    have hl1 : (lowOf (es.take k) b).length ≤ es.length := Nat.le_trans (low_len _ _) (by simp; omega)
    have hl2 : ((lowOf (es.take k) b).length + 1) * 8 ≤ 140737488355328 := by omega
    have hset : ((List.range n).map (lowOf (es.take k))).set b (lowOf (es.take k) b ++ [a]) = (List.range n).map (lowOf (es.take (k + 1))) :=
      map_set_range (by rw [low_step hx, if_pos rfl]) (fun v hv => by rw [low_step hx, if_neg hv])
    have hbl : b < ((List.range n).map (lowOf (es.take k))).length := by simpa using hbn
    refine wlk_draw fun KY hKY => ?_
    simp only [go_sem, reduceIte, Nat.reduceEqDiff, Nat.reduceBEq, reduceCtorEq, Nat.reduceLT, c_graph_Lists_r5, rowsO_get hg, hbn, hl2, nats_snoc, hset, List.length_range]
    refine hKY _ ?_
    repeat (first | refine hn6 _ ?_ | refine he6 _ ?_ | refine hf6 _ _ (by decide) ?_ | refine hn5 _ ?_ | refine he5 _ _ ?_ | refine hn4 _ ?_ | refine he4 _ _ ?_ | refine he3 _ _ ?_ | refine hn2 _ ?_ | refine he2 _ ?_ | refine hf2 _ _ (by decide) ?_ | refine hn1 _ ?_ | refine he1 _ _ ?_)
    refine wlk_reg fun KY hKY => ?_
    simp only [go_sem, reduceIte, Nat.reduceEqDiff, reduceCtorEq, c_graph_Lists_r6, incS (show k < 4611686018427387904 by omega)]
    refine hKY _ ?_
    repeat (first | refine hn6 _ ?_ | refine he6 _ ?_ | refine hf6 _ _ (by decide) ?_ | refine hn5 _ ?_ | refine he5 _ _ ?_ | refine hn4 _ ?_ | refine he4 _ _ ?_)
    refine hn3 _ (k + 1) (es.length - (k + 1)) (by omega) (by first | (simp only [go_sem, reduceIte, Nat.reduceEqDiff, reduceCtorEq, updAll_cons, updAll_nil]; done) | with_reducible rfl | rfl) ?_
    exact ⟨hk2, rfl⟩
  · refine wlk_cond0 (by first | rfl | (simp only [go_sem, reduceIte, Nat.reduceEqDiff, reduceCtorEq]; try simp (disch := omega) only [decide_eq_false])) ?_
    refine wlk_exit ?_
    repeat (first | refine hn4 _ ?_ | refine he4 _ _ ?_ | refine he3 _ _ ?_ | refine hn2 _ ?_ | refine he2 _ ?_ | refine hf2 _ _ (by decide) ?_ | refine hn1 _ ?_ | refine he1 _ _ ?_)
    obtain rfl : k = es.length := by omega
    rw [List.take_length, show (List.range n).map (lowOf es) = (List.range n).map fun v => lowOf es v ++ highOf [] v by simp [highOf]]
    refine wlk_seq fun X7 hn7 he7 hr7 => ?_
    refine wlk_sreg fun KY hKY => ?_
    simp only [go_sem, reduceIte, Nat.reduceEqDiff, reduceCtorEq, c_graph_Lists_r7, castE_len]
    refine hKY _ ?_
    refine wlk_blk fun X8 hn8 he8 hf8 hr8 => ?_
    try simp only [go_sem, reduceIte, Nat.reduceEqDiff, reduceCtorEq]
    refine wlk_lp (α := Nat) [9, 15, 35] (fun k => [(5, .own (some 1) (rowsO ((List.range n).map fun v => lowOf es v ++ highOf (es.take k) v))), (34, .sc (.int .i64 (k : Int)))]) (fun k => []) (fun k q => k ≤ es.length ∧ q = es.length - k) (0) (es.length) rfl (by first | (simp only [go_sem, reduceIte, Nat.reduceEqDiff, reduceCtorEq, updAll_cons, updAll_nil]; done) | with_reducible rfl | rfl) (⟨by omega, rfl⟩) ?_
    rintro k q ⟨hk, rfl⟩ X9 hn9 he9 hr9
    simp only [go_sem, reduceIte, Nat.reduceEqDiff, reduceCtorEq, updAll_cons, updAll_nil]
    refine wlk_sreg fun KY hKY => ?_
    simp only [go_sem, reduceIte, Nat.reduceEqDiff, reduceCtorEq, c_graph_Lists_r8]
    refine hKY _ ?_
    refine wlk_seq fun X10 hn10 he10 hr10 => ?_
    by_cases hk2 : k < es.length
    · refine wlk_cond1 (by first | rfl | (simp only [go_sem, reduceIte, Nat.reduceEqDiff, reduceCtorEq]; try simp (disch := omega) only [decide_eq_true])) ?_
      refine wlk_skip ?_
      repeat (first | refine hn10 _ ?_ | refine he10 _ _ ?_ | refine he9 _ _ ?_ | refine hn8 _ ?_ | refine he8 _ ?_ | refine hf8 _ _ (by decide) ?_ | refine hn7 _ ?_ | refine he7 _ _ ?_ | refine hn4 _ ?_ | refine he4 _ _ ?_)
      refine wlk_seq fun X11 hn11 he11 hr11 => ?_
      refine wlk_blk fun X12 hn12 he12 hf12 hr12 => ?_
      have hx : es[k]? = some es[k] := List.getElem?_eq_getElem hk2
      have hy := g.ok es[k] (List.getElem_mem hk2)
      generalize es[k] = x at hx hy
      obtain ⟨a, b⟩ := x
      simp only at hy
      have hx' := castE_get hx
      refine wlk_sreg fun KY hKY => ?_
      simp only [go_sem, reduceIte, Nat.reduceEqDiff, reduceCtorEq, c_graph_Lists_r9, castE_len]
      repeat (simp (disch := omega) only [if_pos, if_neg, decide_eq_true]; try simp only [go_sem, reduceIte, Nat.reduceEqDiff, reduceCtorEq, Nat.reduceLT, Nat.reduceAdd, two_cells hx', List.length_drop, castE_len])
      refine hKY _ ?_
      have han : a < n := by omega
      have hg : ((List.range n).map fun v => lowOf es v ++ highOf (es.take k) v)[a]? = some (lowOf es a ++ highOf (es.take k) a) := by simp [han]
      have hl1 : (lowOf es a ++ highOf (es.take k) a).length ≤ 2 * es.length := by
        rw [List.length_append]
        have h1 := low_len es a
        have h2 : (highOf (es.take k) a).length ≤ es.length := Nat.le_trans (high_len _ _) (by simp; omega)
        omega
      have hl2 : ((lowOf es a ++ highOf (es.take k) a).length + 1) * 8 ≤ 140737488355328 := by omega
      have hset : ((List.range n).map fun v => lowOf es v ++ highOf (es.take k) v).set a (lowOf es a ++ highOf (es.take k) a ++ [b]) = (List.range n).map fun v => lowOf es v ++ highOf (es.take (k + 1)) v :=
        map_set_range (by rw [high_step hx, if_pos rfl, List.append_assoc]) (fun v hv => by rw [high_step hx, if_neg hv])
      refine wlk_draw fun KY hKY => ?_
      simp only [go_sem, reduceIte, Nat.reduceEqDiff, Nat.reduceBEq, reduceCtorEq, Nat.reduceLT, c_graph_Lists_r10, rowsO_get hg, han, hl2, nats_snoc, hset]
      refine hKY _ ?_
      repeat (first | refine hn12 _ ?_ | refine he12 _ ?_ | refine hf12 _ _ (by decide) ?_ | refine hn11 _ ?_ | refine he11 _ _ ?_ | refine hn10 _ ?_ | refine he10 _ _ ?_ | refine he9 _ _ ?_ | refine hn8 _ ?_ | refine he8 _ ?_ | refine hf8 _ _ (by decide) ?_ | refine hn7 _ ?_ | refine he7 _ _ ?_ | refine hn4 _ ?_ | refine he4 _ _ ?_)
      refine wlk_reg fun KY hKY => ?_
      simp only [go_sem, reduceIte, Nat.reduceEqDiff, reduceCtorEq, c_graph_Lists_r11, incS (show k < 4611686018427387904 by omega)]
      refine hKY _ ?_
      repeat (first | refine hn12 _ ?_ | refine he12 _ ?_ | refine hf12 _ _ (by decide) ?_ | refine hn11 _ ?_ | refine he11 _ _ ?_ | refine hn10 _ ?_ | refine he10 _ _ ?_)
      refine hn9 _ (k + 1) (es.length - (k + 1)) (by omega) (by first | (simp only [go_sem, reduceIte, Nat.reduceEqDiff, reduceCtorEq, updAll_cons, updAll_nil]; done) | with_reducible rfl | rfl) ?_
      exact ⟨hk2, rfl⟩
    · refine wlk_cond0 (by first | rfl | (simp only [go_sem, reduceIte, Nat.reduceEqDiff, reduceCtorEq]; try simp (disch := omega) only [decide_eq_false])) ?_
      refine wlk_exit ?_
      repeat (first | refine hn10 _ ?_ | refine he10 _ _ ?_ | refine he9 _ _ ?_ | refine hn8 _ ?_ | refine he8 _ ?_ | refine hf8 _ _ (by decide) ?_ | refine hn7 _ ?_ | refine he7 _ _ ?_ | refine hn4 _ ?_ | refine he4 _ _ ?_ | refine he3 _ _ ?_ | refine hn2 _ ?_ | refine he2 _ ?_ | refine hf2 _ _ (by decide) ?_ | refine hn1 _ ?_ | refine he1 _ _ ?_)
      obtain rfl : k = es.length := by omega
      rw [List.take_length]
      refine wlk_sreg fun KY hKY => ?_
      simp only [go_sem, reduceIte, Nat.reduceEqDiff, reduceCtorEq, c_graph_Lists_r12]
      refine hKY _ ?_
      refine wlk_ret ?_
      repeat (first | refine hr10 _ ?_ | refine hr9 _ ?_ | refine hr8 _ ?_ | refine hr7 _ ?_ | refine hr4 _ ?_ | refine hr3 _ ?_ | refine hr2 _ ?_ | refine hr1 _ ?_)
      simp only [go_sem, reduceIte, Nat.reduceEqDiff, reduceCtorEq]
      rfl
def pObj (nr : List (List Nat)) (s : DS) : List AVal := [.imm 1 (rowsI nr), .own (some 1) (bools s.1), .own (some 1) (nats s.2.1), .own (some 1) (nats s.2.2)]
theorem come_ok (nr : List (List Nat)) (s : DS) (v : Nat) (hv : v < s.1.length) (h1 : s.2.1.length ≤ 100000) (h2 : s.2.2.length ≤ 100000) :
    ACalls Try.prog [] n_pieces_walk_come [.ptr 0 0, .sc (.int .i64 (v : Int))] [some (pObj nr s)] fun r h' => r = .tup [] ∧ h' = [some (pObj nr (come s v))] := by
  obtain ⟨d, nw, r⟩ := s
  simp only at hv h1 h2
  have hb := bools_get hv
  have b1 : (nw.length + 1) * 8 ≤ 140737488355328 := by omega
  have b2 : (r.length + 1) * 8 ≤ 140737488355328 := by omega
  unfold pObj come
  refine go_pieces_walk_come rfl ?_
  unfold c_pieces_walk_come v_pieces_walk_come
  simp only
  refine wlk_sreg fun KY hKY => ?_
  simp only [go_sem, reduceIte, Nat.reduceEqDiff, reduceCtorEq, c_pieces_walk_come_r0, hb, hv]
  refine hKY _ ?_
  cases hd : d.getD v false with
  | true =>
    refine wlk_cond0 rfl ?_
    refine wlk_skip ?_
    simp only [go_sem, reduceIte, Nat.reduceEqDiff, reduceCtorEq]
  | false =>
    refine wlk_cond1 rfl ?_
    refine wlk_sreg fun KY hKY => ?_
    simp only [go_sem, reduceIte, Nat.reduceEqDiff, reduceCtorEq, c_pieces_walk_come_r1, hv]
    refine hKY _ ?_
    refine wlk_sreg fun KY hKY => ?_
    simp only [go_sem, reduceIte, Nat.reduceEqDiff, reduceCtorEq, Nat.reduceLT, Nat.reduceAdd, c_pieces_walk_come_r2, nats_snoc, b1]
    refine hKY _ ?_
    refine wlk_reg fun KY hKY => ?_
    simp only [go_sem, reduceIte, Nat.reduceEqDiff, reduceCtorEq, Nat.reduceLT, Nat.reduceAdd, c_pieces_walk_come_r3, nats_snoc, b2]
    refine hKY _ ?_
    simp only [go_sem, reduceIte, Nat.reduceEqDiff, reduceCtorEq]
end Go.Proofs.Ytepjcfbigcfkfaa
set_option maxRecDepth 100000
set_option maxHeartbeats 4000000
namespace Go.Proofs.Ytepjcfbigcfkfaa
open Go Go.Ga Go.Ga.Gl
theorem ints_nats (l : List Nat) : ints (l.map fun n : Nat => (n : Int)) = nats l := by simp [ints, nats]
theorem sort_ok (nw : List Nat) (h : nw.length ≤ 1000000) : ACalls Try.prog [] n_slices_Sort___int_int_ [.sl 0 0 nw.length 1] [some (nats nw)] fun r h' => r = .tup [] ∧ h' = [some (nats (nw.mergeSort fun x y => decide (x ≤ y)))] := by
  have e : (nw.mergeSort fun x y => decide (x ≤ y)).map (fun n : Nat => (n : Int)) = (nw.map fun n : Nat => (n : Int)).mergeSort fun x y => decide (x ≤ y) :=
    List.map_mergeSort fun a _ b _ => by simp
  have := acalls_row (P := Try.prog) (f := n_slices_Sort___int_int_) (by kernel_rfl) (fun zs => zs.mergeSort fun x y => decide (x ≤ y)) (fun zs => by simp) (nw.map fun n : Nat => (n : Int))
    (fun blk off cap w hH hb => Go.Proofs.Try.slices_Sort_int blk off cap _ w hH hb (by simp; omega))
  rw [ints_nats, ← e, ints_nats, List.length_map] at this
  exact this
def pRest (nr : List (List Nat)) (D : List Bool) : List AVal := [.imm 1 (rowsI nr), .own (some 1) (bools D), .dead, .own (some 1) []]
theorem piece_ok {n : Nat} {es : Es} (g : GR n es) (D : List Bool) (hD : D.length = n) (v : Nat) (hv : v < n) (hDv : D.getD v false = false) :
    ACalls Try.prog [] n_pieces_walk_piece [.ptr 0 0, .sc (.int .i64 (v : Int))] [some (pRest (near n es) D)] fun r h' => ∃ p D', PieceOf n es D v D' p ∧ r = .own (some 1) (nats p) ∧ h' = [some (pRest (near n es) D')] := by
  have hn := g.hn
  have hes := g.adj_lt
  unfold pRest
  refine go_pieces_walk_piece rfl ?_
  unfold c_pieces_walk_piece v_pieces_walk_piece
  refine wlk_sreg fun KY hKY => ?_
  simp only [go_sem, reduceIte, Nat.reduceEqDiff, reduceCtorEq, c_pieces_walk_piece_r0]
  refine hKY _ ?_
  refine wlk_sreg fun KY hKY => ?_
  simp only [go_sem, reduceIte, Nat.reduceEqDiff, reduceCtorEq, c_pieces_walk_piece_r1]
  refine hKY _ ?_
  refine wlk_sreg fun KY hKY => ?_
  simp only [go_sem, reduceIte, Nat.reduceEqDiff, reduceCtorEq, Nat.reduceLT, Nat.reduceAdd, c_pieces_walk_piece_r2]
  refine hKY _ ?_
  simp only [go_sem, reduceIte, Nat.reduceEqDiff, reduceCtorEq]
  refine sem_nil [1, 0, 2] 1 (by simp only [go_sem]) ?_
  refine wlk_sreg fun KY hKY => ?_
  simp only [go_sem, reduceIte, Nat.reduceEqDiff, reduceCtorEq, c_pieces_walk_piece_r3]
  apply call_gen [] [0] false none rfl
  iterate 8 (first | (simp only [go_sem, reduceIte, Nat.reduceEqDiff, reduceCtorEq, Nat.reduceLT, watchIn] <;> rfl) | rfl)
  refine (come_ok (near n es) (D, [], []) v (by rw [hD]; exact hv) (Nat.zero_le _) (Nat.zero_le _)).mono ?_
  rintro _ _ ⟨rfl, rfl⟩
  unfold pObj
  refine ⟨Nat.le_of_ble_eq_true rfl, (fun hh => by cases hh), ?_⟩
  simp only [go_sem, reduceIte, callOut, AState.after]
  refine hKY _ ?_
  refine wlk_seq fun X1 hn1 he1 hr1 => ?_
  refine wlk_blk fun X2 hn2 he2 hf2 hr2 => ?_
  try simp only [go_sem, reduceIte, Nat.reduceEqDiff, reduceCtorEq]
  refine wlk_lp (α := DS) [6, 8, 22, 55, 56, 57, 58] (fun s => []) (fun s => [some (pObj (near n es) s)]) (fun s q => q = 2 * undone s.1 + s.2.2.length ∧ WJ n es D v s) (come (D, [], []) v) (2 * undone (come (D, [], []) v).1 + (come (D, [], []) v).2.2.length) rfl (by first | (simp only [go_sem, reduceIte, Nat.reduceEqDiff, reduceCtorEq, updAll_cons, updAll_nil]; done) | with_reducible rfl | rfl) (⟨rfl, WJ.start hD hv hDv⟩) ?_
  rintro s q ⟨hq, w⟩ X3 hn3 he3 hr3
  simp only [go_sem, reduceIte, Nat.reduceEqDiff, reduceCtorEq, updAll_cons, updAll_nil]
  have hsz := w.size
  have hrl := w.rl
  have hwd := w.len
  unfold pObj
  obtain ⟨d, nw, r⟩ := s
  simp only at hsz hrl hq hwd
  simp only [go_sem]
  refine wlk_seq fun X4 hn4 he4 hr4 => ?_
  rcases List.eq_nil_or_concat r with rfl | ⟨r', u, rfl⟩
  · refine wlk_sreg fun KY hKY => ?_
    simp only [go_sem, reduceIte, Nat.reduceEqDiff, reduceCtorEq, c_pieces_walk_piece_r4, show ((0:Nat):Int) = 0 from rfl, Int.lt_irrefl, List.length_nil]
    refine hKY _ ?_
    refine wlk_cond0 rfl ?_
    refine wlk_exit ?_
    repeat (first | refine hn4 _ ?_ | refine he4 _ _ ?_ | refine he3 _ _ ?_ | refine hn2 _ ?_ | refine he2 _ ?_ | refine hf2 _ _ (by decide) ?_ | refine hn1 _ ?_ | refine he1 _ _ ?_)
    have hnw : 0 < nw.length := List.length_pos_of_mem w.self
    refine wlk_sreg fun KY hKY => ?_
    simp only [go_sem, reduceIte, Nat.reduceEqDiff, reduceCtorEq, c_pieces_walk_piece_r12]
    apply call_gen [.bo] [] false (some [1, 0, 2]) rfl
    iterate 8 (first | (simp only [go_sem, reduceIte, Nat.reduceEqDiff, reduceCtorEq, watchIn, hnw] <;> rfl) | rfl)
    refine (sort_ok nw (by omega)).mono ?_
    rintro _ _ ⟨rfl, rfl⟩
    refine ⟨Nat.le_of_ble_eq_true rfl, (fun hh => by cases hh), ?_⟩
    simp only [go_sem, callOut, AState.after, List.length_mergeSort]
    refine hKY _ ?_
    refine wlk_sreg fun KY hKY => ?_
    simp only [go_sem, reduceIte, Nat.reduceEqDiff, reduceCtorEq, c_pieces_walk_piece_r13]
    refine hKY _ ?_
    refine wlk_ret ?_
    repeat (first | refine hr4 _ ?_ | refine hr3 _ ?_ | refine hr2 _ ?_ | refine hr1 _ ?_)
    simp only [go_sem, reduceIte, Nat.reduceEqDiff, reduceCtorEq]
    refine ⟨nw.mergeSort fun x y => decide (x ≤ y), d, w.piece (List.mergeSort_perm _ _) ?_, rfl, rfl⟩
    have := List.pairwise_mergeSort (le := fun x y => decide (x ≤ y)) (fun a b c h1 h2 => by simp at *; omega) (fun a b => by simp; omega) nw
    exact this.imp fun h => by simpa using h
  · rw [List.concat_eq_append] at *
    have hlen : (r' ++ [u]).length = r'.length + 1 := by simp
    have hpos : (0 : Int) < ((r'.length + 1 : Nat) : Int) := by omega
    have hget : (nats (r' ++ [u]))[r'.length]? = some (.sc (.int .i64 (u : Int))) := by simp [nats]
    have hcut : cutCells (nats (r' ++ [u])) 1 0 r'.length = nats r' := by rw [cut_nats]; simp
    have hun : u < n := (w.now u (w.rest u (by simp))).1
    have hll : r'.length < r'.length + 1 := Nat.lt_succ_self _
    have hll2 : r'.length ≤ r'.length + 1 := Nat.le_succ _
    have hdec := decS (show r'.length < 4611686018427387904 by omega)
    refine wlk_sreg fun KY hKY => ?_
    simp only [go_sem, reduceIte, Nat.reduceEqDiff, reduceCtorEq, c_pieces_walk_piece_r4, hlen, hpos]
    refine hKY _ ?_
    refine wlk_cond1 rfl ?_
    refine wlk_skip ?_
    repeat (first | refine hn4 _ ?_ | refine he4 _ _ ?_ | refine he3 _ _ ?_ | refine hn2 _ ?_ | refine he2 _ ?_ | refine hf2 _ _ (by decide) ?_ | refine hn1 _ ?_ | refine he1 _ _ ?_)
    refine wlk_blk fun X5 hn5 he5 hf5 hr5 => ?_
    refine wlk_sdraw fun KY hKY => ?_
    simp only [go_sem, reduceIte, Nat.reduceEqDiff, Nat.reduceBEq, reduceCtorEq, c_pieces_walk_piece_r5, hlen, hdec, hget, hll]
    refine hKY _ ?_
    refine wlk_sdraw fun KY hKY => ?_
    simp only [go_sem, reduceIte, Nat.reduceEqDiff, Nat.reduceBEq, reduceCtorEq, Nat.reduceLT, Nat.reduceAdd, c_pieces_walk_piece_r6, hlen, hdec, hcut, hll2]
    refine hKY _ ?_
    have hnr := rowsI_get (near_get (es := es) hun)
    refine wlk_sreg fun KY hKY => ?_
    simp only [go_sem, reduceIte, Nat.reduceEqDiff, reduceCtorEq, c_pieces_walk_piece_r7, hnr, near_len, hun]
    refine hKY _ ?_
    obtain ⟨w1, hm1⟩ := w.step hes
    have w2 : WI n es D v (d, nw, r') := ⟨w.len, w.done, w.nd, w.now, fun x h => w.rest x (List.mem_append_left _ h), by have := w.rl; simp at this ⊢; omega, w.conn⟩
    have hu : u ∈ nw := w.rest u (List.mem_append_right _ (List.mem_singleton.2 rfl))
    have hgo : Gone es (fun x => x = u) (d, nw, r') := fun x hx hr hne y hy => w.gone x hx (fun e => by
      rcases List.mem_append.1 e with e | e
      · exact hr e
      · simp at e; exact hne e) (fun e => e) y hy
    have hco := comes_ok hes w2 hu hgo
    have hrow : (nearOf es u).length ≤ 131072 := by
      have h1 := low_len es u
      have h2 := high_len es u
      have := g.hm
      simp only [nearOf, List.length_append]; omega
    refine wlk_blk fun X6 hn6 he6 hf6 hr6 => ?_
    try simp only [go_sem, reduceIte, Nat.reduceEqDiff, reduceCtorEq]
    refine wlk_lp (α := Nat) [8, 58] (fun k => [(57, .sc (.int .i64 (k : Int)))]) (fun k => [some (pObj (near n es) (comes (d, nw, r') ((nearOf es u).take k)))]) (fun k q => q = (nearOf es u).length - k ∧ k ≤ (nearOf es u).length) (0) ((nearOf es u).length) rfl (by first | (simp only [go_sem, reduceIte, Nat.reduceEqDiff, reduceCtorEq, updAll_cons, updAll_nil]; done) | with_reducible rfl | rfl) (⟨by omega, by omega⟩) ?_
    rintro k q ⟨hq2, hk⟩ X7 hn7 he7 hr7
    simp only [go_sem, reduceIte, Nat.reduceEqDiff, reduceCtorEq, updAll_cons, updAll_nil]
    obtain ⟨x1, x2, x3, x4, x5, x6⟩ := hco k hk
    refine wlk_sreg fun KY hKY => ?_
    simp only [go_sem, reduceIte, Nat.reduceEqDiff, reduceCtorEq, c_pieces_walk_piece_r8]
    refine hKY _ ?_
    refine wlk_seq fun X8 hn8 he8 hr8 => ?_
    by_cases hk2 : k < (nearOf es u).length
    · refine wlk_cond1 (by first | rfl | (simp only [go_sem, reduceIte, Nat.reduceEqDiff, reduceCtorEq]; try simp (disch := omega) only [decide_eq_true])) ?_
      refine wlk_skip ?_
      repeat (first | refine hn8 _ ?_ | refine he8 _ _ ?_ | refine he7 _ _ ?_ | refine hn6 _ ?_ | refine he6 _ ?_ | refine hf6 _ _ (by decide) ?_ | refine hn5 _ ?_ | refine he5 _ ?_ | refine hf5 _ _ (by decide) ?_ | refine hn4 _ ?_ | refine he4 _ _ ?_)
      refine wlk_seq fun X9 hn9 he9 hr9 => ?_
      refine wlk_blk fun X10 hn10 he10 hf10 hr10 => ?_
      have hx : (nearOf es u)[k]? = some ((nearOf es u)[k]) := List.getElem?_eq_getElem hk2
      have hxn : (nats (nearOf es u))[k]? = some (.sc (.int .i64 (((nearOf es u)[k] : Nat) : Int))) := by simp [nats, hx]
      have hxl : (nearOf es u)[k] < n := (hes u _ (nearOf_mem.1 (List.getElem_mem hk2))).2
      have hcs := comes_snoc (d, nw, r') _ _ _ hx
      generalize (nearOf es u)[k] = x at hx hxn hxl hcs
      refine wlk_sreg fun KY hKY => ?_
      simp only [go_sem, reduceIte, Nat.reduceEqDiff, reduceCtorEq, c_pieces_walk_piece_r9, hxn, hk2]
      refine hKY _ ?_
      refine wlk_reg fun KY hKY => ?_
      simp only [go_sem, reduceIte, Nat.reduceEqDiff, reduceCtorEq, c_pieces_walk_piece_r10]
      unfold pObj
      have y1 := x1.size
      have y2 := x1.rl
      apply call_gen [] [0] false none rfl
      iterate 8 (first | (simp only [go_sem, reduceIte, Nat.reduceEqDiff, reduceCtorEq, Nat.reduceLT, watchIn] <;> rfl) | rfl)
      refine (come_ok (near n es) (comes (d, nw, r') ((nearOf es u).take k)) x (by rw [x1.len]; exact hxl) (by omega) (by omega)).mono ?_
      rintro _ _ ⟨rfl, rfl⟩
      rw [← hcs]
      unfold pObj
      refine ⟨Nat.le_of_ble_eq_true rfl, (fun hh => by cases hh), ?_⟩
      simp only [go_sem, reduceIte, callOut, AState.after]
      refine hKY _ ?_
      repeat (first | refine hn10 _ ?_ | refine he10 _ ?_ | refine hf10 _ _ (by decide) ?_ | refine hn9 _ ?_ | refine he9 _ _ ?_ | refine hn8 _ ?_ | refine he8 _ _ ?_ | refine he7 _ _ ?_ | refine hn6 _ ?_ | refine he6 _ ?_ | refine hf6 _ _ (by decide) ?_ | refine hn5 _ ?_ | refine he5 _ ?_ | refine hf5 _ _ (by decide) ?_ | refine hn4 _ ?_ | refine he4 _ _ ?_)
      refine wlk_reg fun KY hKY => ?_
      simp only [go_sem, reduceIte, Nat.reduceEqDiff, reduceCtorEq, c_pieces_walk_piece_r11, incS (show k < 4611686018427387904 by omega)]
      refine hKY _ ?_
      repeat (first | refine hn10 _ ?_ | refine he10 _ ?_ | refine hf10 _ _ (by decide) ?_ | refine hn9 _ ?_ | refine he9 _ _ ?_ | refine hn8 _ ?_ | refine he8 _ _ ?_)
      refine hn7 _ (k + 1) ((nearOf es u).length - (k + 1)) (by omega) (by first | (simp only [go_sem, reduceIte, Nat.reduceEqDiff, reduceCtorEq, updAll_cons, updAll_nil, pObj]; done) | with_reducible rfl | rfl) ?_
      exact ⟨rfl, hk2⟩
    · refine wlk_cond0 (by first | rfl | (simp only [go_sem, reduceIte, Nat.reduceEqDiff, reduceCtorEq]; try simp (disch := omega) only [decide_eq_false])) ?_
      refine wlk_exit ?_
      repeat (first | refine hn8 _ ?_ | refine he8 _ _ ?_ | refine he7 _ _ ?_ | refine hn6 _ ?_ | refine he6 _ ?_ | refine hf6 _ _ (by decide) ?_ | refine hn5 _ ?_ | refine he5 _ ?_ | refine hf5 _ _ (by decide) ?_ | refine hn4 _ ?_ | refine he4 _ _ ?_ | refine he3 _ _ ?_ | refine hn2 _ ?_ | refine he2 _ ?_ | refine hf2 _ _ (by decide) ?_ | refine hn1 _ ?_ | refine he1 _ _ ?_)
      obtain rfl : k = (nearOf es u).length := by omega
      rw [List.take_length] at *
      repeat (first | refine hn8 _ ?_ | refine he8 _ _ ?_ | refine he7 _ _ ?_ | refine hn6 _ ?_ | refine he6 _ ?_ | refine hf6 _ _ (by decide) ?_ | refine hn5 _ ?_ | refine he5 _ ?_ | refine hf5 _ _ (by decide) ?_ | refine hn4 _ ?_ | refine he4 _ _ ?_)
      refine hn3 _ (comes (d, nw, r') (nearOf es u)) (2 * undone (comes (d, nw, r') (nearOf es u)).1 + (comes (d, nw, r') (nearOf es u)).2.2.length) (by omega) (by first | (simp only [go_sem, reduceIte, Nat.reduceEqDiff, reduceCtorEq, updAll_cons, updAll_nil]; done) | with_reducible rfl | rfl) ?_
      exact ⟨rfl, w1⟩
end Go.Proofs.Ytepjcfbigcfkfaa
set_option maxRecDepth 100000
set_option maxHeartbeats 4000000
namespace Go.Proofs.Ytepjcfbigcfkfaa
open Go Go.Ga Go.Ga.Gl
def outD (n : Nat) (l : List Int) : List Bool := l.foldl (fun D v => if 0 ≤ v ∧ v < (n : Int) then D.set v.toNat true else D) (List.replicate n false)
theorem outD_snoc (n : Nat) (l : List Int) (k : Nat) (v : Int) (h : l[k]? = some v) : outD n (l.take (k + 1)) = if 0 ≤ v ∧ v < (n : Int) then (outD n (l.take k)).set v.toNat true else outD n (l.take k) := by
  rw [List.take_add_one, h]; simp [outD]
theorem outD_ok (n : Nat) (l : List Int) : (outD n l).length = n ∧ ∀ x, x < n → ((outD n l).getD x false = true ↔ (x : Int) ∈ l) := by
  have key : ∀ (l : List Int) (D : List Bool) (P : Nat → Prop), D.length = n → (∀ x, x < n → (D.getD x false = true ↔ P x)) →
      (l.foldl (fun D v => if 0 ≤ v ∧ v < (n : Int) then D.set v.toNat true else D) D).length = n ∧
      ∀ x, x < n → ((l.foldl (fun D v => if 0 ≤ v ∧ v < (n : Int) then D.set v.toNat true else D) D).getD x false = true ↔ P x ∨ (x : Int) ∈ l) := by
    intro l
    induction l with
    | nil => intro D P h1 h2; exact ⟨h1, fun x hx => by simpa using h2 x hx⟩
    | cons v l ih =>
      intro D P h1 h2
      simp only [List.foldl_cons]
      obtain ⟨i1, i2⟩ := ih (if 0 ≤ v ∧ v < (n : Int) then D.set v.toNat true else D) (fun x => P x ∨ (x : Int) = v) (by split <;> simp [h1]) (fun x hx => by
        split
        · rename_i hv
          rw [set_bool, h2 x hx, h1]
          constructor
          · rintro (h | h)
            · exact .inl h
            · exact .inr (by omega)
          · rintro (h | h)
            · exact .inl h
            · exact .inr (by omega)
        · rename_i hv
          rw [h2 x hx]
          constructor
          · exact .inl
          · rintro (h | h)
            · exact h
            · omega)
      refine ⟨i1, fun x hx => ?_⟩
      rw [i2 x hx, List.mem_cons, or_assoc]
  obtain ⟨h1, h2⟩ := key l (List.replicate n false) (fun _ => False) (by simp) (fun x hx => by simp [List.getD_eq_getElem?_getD, hx])
  exact ⟨h1, fun x hx => by rw [outD, h2 x hx]; simp⟩
theorem pieces_le {n : Nat} {es : Es} {O : Nat → Prop} {v : Nat} {D : List Bool} {ps : List (List Nat)} (w : OI n es O v D ps) : ps.length ≤ v := by
  have h : (ps.map fun p => p.headD 0).Pairwise (· < ·) := by
    refine List.pairwise_map.2 ?_
    refine w.heads.imp_of_mem fun {p q} hp hq h => ?_
    have h1 := w.ne p hp; have h2 := w.ne q hq
    cases p with
    | nil => exact absurd rfl h1
    | cons a p => cases q with
      | nil => exact absurd rfl h2
      | cons b q => exact h a rfl b rfl
  have h2 : ∀ x ∈ ps.map fun p => p.headD 0, x ∈ List.range v := by
    intro x hx
    obtain ⟨p, hp, rfl⟩ := List.mem_map.1 hx
    cases p with
    | nil => exact absurd rfl (w.ne _ hp)
    | cons a p => exact List.mem_range.2 (w.low _ hp a rfl)
  have := nodup_le (h.imp fun h => Nat.ne_of_lt h) h2
  simpa using this
theorem of_ok {n : Nat} {es : Es} (g : GR n es) (out : List Int) (ho : out.length ≤ 1000000000) :
    ACalls Try.prog [] n_pieces_Of [.imm 1 (rowsI (near n es)), .imm 1 (ints out)] [] fun r h' => ∃ ps, IsPieces n es (fun v => (v : Int) ∈ out) ps ∧ r = .own (some 1) (rowsO ps) ∧ (h' : Heap).length ≤ 1 := by
  have hn := g.hn
  have hb1 : n * 1 ≤ 140737488355328 := by omega
  have hb0 : (n : Int) ≤ 9223372036854775807 := by omega
  refine go_pieces_Of rfl ?_
  unfold c_pieces_Of v_pieces_Of
  refine wlk_sreg fun KY hKY => ?_
  simp only [go_sem, reduceIte, Nat.reduceEqDiff, reduceCtorEq, c_pieces_Of_r0]
  refine hKY _ ?_
  refine wlk_sreg fun KY hKY => ?_
  simp only [go_sem, reduceIte, Nat.reduceEqDiff, reduceCtorEq, c_pieces_Of_r1, near_len]
  repeat (simp (disch := omega) only [if_pos]; try simp only [go_sem, reduceIte, Nat.reduceEqDiff, reduceCtorEq, Nat.reduceLT, Nat.reduceAdd])
  refine hKY _ ?_
  simp only [go_sem, reduceIte, Nat.reduceEqDiff, reduceCtorEq]
  refine sem_sees [0, 5, 2] .dead (by simp only [go_sem, reduceIte, Nat.reduceEqDiff, reduceCtorEq]; rfl) rfl (Sees.dead _) ?_
  simp only [go_sem, reduceIte, Nat.reduceEqDiff, reduceCtorEq]
  refine sem_nil [0, 5, 3] 1 (by simp only [go_sem, reduceIte, Nat.reduceEqDiff, reduceCtorEq]) ?_
  simp only [go_sem, reduceIte, Nat.reduceEqDiff, reduceCtorEq]
  refine sem_share [0, 5] (by simp only [go_sem, reduceIte, Nat.reduceEqDiff, reduceCtorEq]; rfl) ?_
  simp only [go_sem, reduceIte, Nat.reduceEqDiff, reduceCtorEq]
  refine wlk_seq fun X1 hn1 he1 hr1 => ?_
  refine wlk_sreg fun KY hKY => ?_
  simp only [go_sem, reduceIte, Nat.reduceEqDiff, reduceCtorEq, c_pieces_Of_r2]
  refine hKY _ ?_
  refine wlk_blk fun X2 hn2 he2 hf2 hr2 => ?_
  try simp only [go_sem, reduceIte, Nat.reduceEqDiff, reduceCtorEq]
  refine wlk_lp (α := Nat) [7, 19, 29] (fun k => [(18, .sc (.int .i64 (k : Int)))]) (fun k => [some (pRest (near n es) (outD n (out.take k)))]) (fun k q => k ≤ out.length ∧ q = out.length - k) (0) (out.length) rfl (by first | (simp only [go_sem, reduceIte, Nat.reduceEqDiff, reduceCtorEq, updAll_cons, updAll_nil]; done) | with_reducible rfl | rfl) (⟨by omega, rfl⟩) ?_
  rintro k q ⟨hk, rfl⟩ X3 hn3 he3 hr3
  simp only [go_sem, reduceIte, Nat.reduceEqDiff, reduceCtorEq, updAll_cons, updAll_nil]
  unfold pRest
  refine wlk_sreg fun KY hKY => ?_
  simp only [go_sem, reduceIte, Nat.reduceEqDiff, reduceCtorEq, c_pieces_Of_r3]
  refine hKY _ ?_
  refine wlk_seq fun X4 hn4 he4 hr4 => ?_
  by_cases hk2 : k < out.length
  · refine wlk_cond1 (by first | rfl | (simp only [go_sem, reduceIte, Nat.reduceEqDiff, reduceCtorEq]; try simp (disch := omega) only [decide_eq_true])) ?_
    refine wlk_skip ?_
    repeat (first | refine hn4 _ ?_ | refine he4 _ _ ?_ | refine he3 _ _ ?_ | refine hn2 _ ?_ | refine he2 _ ?_ | refine hf2 _ _ (by decide) ?_ | refine hn1 _ ?_ | refine he1 _ _ ?_)
    refine wlk_seq fun X5 hn5 he5 hr5 => ?_
    refine wlk_blk fun X6 hn6 he6 hf6 hr6 => ?_
    have hx : out[k]? = some (out[k]) := List.getElem?_eq_getElem hk2
    have hxg : out.getD k 0 = out[k] := by simp [List.getD_eq_getElem?_getD, hx]
    generalize out[k] = v at hx hxg
    refine wlk_sreg fun KY hKY => ?_
    simp only [go_sem, reduceIte, Nat.reduceEqDiff, reduceCtorEq, c_pieces_Of_r4, ints_get hk2, hxg, hk2]
    refine hKY _ ?_
    have hst := outD_snoc n out k v hx
    have hlen := (outD_ok n (out.take k)).1
    by_cases hv : 0 ≤ v
    · by_cases hvn : v < n
      · rw [if_pos ⟨hv, hvn⟩] at hst
        refine wlk_sreg fun KY hKY => ?_
        simp only [go_sem, reduceIte, Nat.reduceEqDiff, reduceCtorEq, c_pieces_Of_r5, hv, near_len, hvn]
        refine hKY _ ?_
        refine wlk_cond1 rfl ?_
        obtain ⟨m, rfl⟩ : ∃ m : Nat, v = m := ⟨v.toNat, by omega⟩
        have hm : m < n := by omega
        rw [Int.toNat_natCast] at hst
        refine wlk_reg fun KY hKY => ?_
        simp only [go_sem, reduceIte, Nat.reduceEqDiff, reduceCtorEq, c_pieces_Of_r6, hlen, hm, ← hst]
        refine hKY _ ?_
        repeat (first | refine hn6 _ ?_ | refine he6 _ ?_ | refine hf6 _ _ (by decide) ?_ | refine hn5 _ ?_ | refine he5 _ _ ?_ | refine hn4 _ ?_ | refine he4 _ _ ?_ | refine he3 _ _ ?_ | refine hn2 _ ?_ | refine he2 _ ?_ | refine hf2 _ _ (by decide) ?_ | refine hn1 _ ?_ | refine he1 _ _ ?_)
        refine wlk_reg fun KY hKY => ?_
        simp only [go_sem, reduceIte, Nat.reduceEqDiff, reduceCtorEq, c_pieces_Of_r7, incS (show k < 4611686018427387904 by omega)]
        refine hKY _ ?_
        repeat (first | refine hn6 _ ?_ | refine he6 _ ?_ | refine hf6 _ _ (by decide) ?_ | refine hn5 _ ?_ | refine he5 _ _ ?_ | refine hn4 _ ?_ | refine he4 _ _ ?_)
        refine hn3 _ (k + 1) (out.length - (k + 1)) (by omega) (by first | (simp only [go_sem, reduceIte, Nat.reduceEqDiff, reduceCtorEq, updAll_cons, updAll_nil, pRest]; done) | with_reducible rfl | rfl) ?_
        exact ⟨hk2, rfl⟩
      · rw [if_neg (by omega)] at hst
        refine wlk_sreg fun KY hKY => ?_
        simp only [go_sem, reduceIte, Nat.reduceEqDiff, reduceCtorEq, c_pieces_Of_r5, hv, near_len, hvn]
        refine hKY _ ?_
        refine wlk_cond0 rfl ?_
        rw [← hst]
        refine wlk_skip ?_
        repeat (first | refine hn6 _ ?_ | refine he6 _ ?_ | refine hf6 _ _ (by decide) ?_ | refine hn5 _ ?_ | refine he5 _ _ ?_ | refine hn4 _ ?_ | refine he4 _ _ ?_ | refine he3 _ _ ?_ | refine hn2 _ ?_ | refine he2 _ ?_ | refine hf2 _ _ (by decide) ?_ | refine hn1 _ ?_ | refine he1 _ _ ?_)
        refine wlk_reg fun KY hKY => ?_
        simp only [go_sem, reduceIte, Nat.reduceEqDiff, reduceCtorEq, c_pieces_Of_r7, incS (show k < 4611686018427387904 by omega)]
        refine hKY _ ?_
        repeat (first | refine hn6 _ ?_ | refine he6 _ ?_ | refine hf6 _ _ (by decide) ?_ | refine hn5 _ ?_ | refine he5 _ _ ?_ | refine hn4 _ ?_ | refine he4 _ _ ?_)
        refine hn3 _ (k + 1) (out.length - (k + 1)) (by omega) (by first | (simp only [go_sem, reduceIte, Nat.reduceEqDiff, reduceCtorEq, updAll_cons, updAll_nil, pRest]; done) | with_reducible rfl | rfl) ?_
        exact ⟨hk2, rfl⟩
    · rw [if_neg (by omega)] at hst
      refine wlk_sreg fun KY hKY => ?_
      simp only [go_sem, reduceIte, Nat.reduceEqDiff, reduceCtorEq, c_pieces_Of_r5, hv]
      refine hKY _ ?_
      refine wlk_cond0 rfl ?_
      rw [← hst]
      refine wlk_skip ?_
      repeat (first | refine hn6 _ ?_ | refine he6 _ ?_ | refine hf6 _ _ (by decide) ?_ | refine hn5 _ ?_ | refine he5 _ _ ?_ | refine hn4 _ ?_ | refine he4 _ _ ?_ | refine he3 _ _ ?_ | refine hn2 _ ?_ | refine he2 _ ?_ | refine hf2 _ _ (by decide) ?_ | refine hn1 _ ?_ | refine he1 _ _ ?_)
      refine wlk_reg fun KY hKY => ?_
      simp only [go_sem, reduceIte, Nat.reduceEqDiff, reduceCtorEq, c_pieces_Of_r7, incS (show k < 4611686018427387904 by omega)]
      refine hKY _ ?_
      repeat (first | refine hn6 _ ?_ | refine he6 _ ?_ | refine hf6 _ _ (by decide) ?_ | refine hn5 _ ?_ | refine he5 _ _ ?_ | refine hn4 _ ?_ | refine he4 _ _ ?_)
      refine hn3 _ (k + 1) (out.length - (k + 1)) (by omega) (by first | (simp only [go_sem, reduceIte, Nat.reduceEqDiff, reduceCtorEq, updAll_cons, updAll_nil, pRest]; done) | with_reducible rfl | rfl) ?_
      exact ⟨hk2, rfl⟩
  · refine wlk_cond0 (by first | rfl | (simp only [go_sem, reduceIte, Nat.reduceEqDiff, reduceCtorEq]; try simp (disch := omega) only [decide_eq_false])) ?_
    refine wlk_exit ?_
    repeat (first | refine hn4 _ ?_ | refine he4 _ _ ?_ | refine he3 _ _ ?_ | refine hn2 _ ?_ | refine he2 _ ?_ | refine hf2 _ _ (by decide) ?_ | refine hn1 _ ?_ | refine he1 _ _ ?_)
    obtain rfl : k = out.length := by omega
    rw [List.take_length]
    obtain ⟨hlen, hout⟩ := outD_ok n out
    generalize outD n out = D0 at hlen hout
    refine wlk_sreg fun KY hKY => ?_
    simp only [go_sem, reduceIte, Nat.reduceEqDiff, reduceCtorEq, c_pieces_Of_r8]
    refine hKY _ ?_
    simp only [go_sem, reduceIte, Nat.reduceEqDiff, reduceCtorEq]
    refine sem_nil [0, 8] 1 (by simp only [go_sem, reduceIte, Nat.reduceEqDiff, reduceCtorEq]) ?_
    refine wlk_seq fun X7 hn7 he7 hr7 => ?_
    refine wlk_sreg fun KY hKY => ?_
    simp only [go_sem, reduceIte, Nat.reduceEqDiff, reduceCtorEq, c_pieces_Of_r9, near_len]
    refine hKY _ ?_
    refine wlk_blk fun X8 hn8 he8 hf8 hr8 => ?_
    try simp only [go_sem, reduceIte, Nat.reduceEqDiff, reduceCtorEq]
    refine wlk_lp (α := Nat × List Bool × List (List Nat)) [9, 18, 19, 40, 49] (fun (v, D, ps) => [(8, .own (some 1) (rowsO ps)), (39, .sc (.int .i64 (v : Int)))]) (fun (v, D, ps) => [some (pRest (near n es) D)]) (fun (v, D, ps) q => v ≤ n ∧ q = n - v ∧ OI n es (fun v => (v : Int) ∈ out) v D ps) ((0, D0, [])) (n) rfl (by first | (simp only [go_sem, reduceIte, Nat.reduceEqDiff, reduceCtorEq, updAll_cons, updAll_nil]; done) | with_reducible rfl | rfl) (⟨by omega, rfl, OI.start hlen hout⟩) ?_
    rintro ⟨v, D, ps⟩ q ⟨hv, rfl, w⟩ X9 hn9 he9 hr9
    simp only [go_sem, reduceIte, Nat.reduceEqDiff, reduceCtorEq, updAll_cons, updAll_nil]
    unfold pRest
    refine wlk_sreg fun KY hKY => ?_
    simp only [go_sem, reduceIte, Nat.reduceEqDiff, reduceCtorEq, c_pieces_Of_r10]
    refine hKY _ ?_
    refine wlk_seq fun X10 hn10 he10 hr10 => ?_
    by_cases hv2 : v < n
    · refine wlk_cond1 (by first | rfl | (simp only [go_sem, reduceIte, Nat.reduceEqDiff, reduceCtorEq]; try simp (disch := omega) only [decide_eq_true])) ?_
      refine wlk_skip ?_
      repeat (first | refine hn10 _ ?_ | refine he10 _ _ ?_ | refine he9 _ _ ?_ | refine hn8 _ ?_ | refine he8 _ ?_ | refine hf8 _ _ (by decide) ?_ | refine hn7 _ ?_ | refine he7 _ _ ?_ | refine hn4 _ ?_ | refine he4 _ _ ?_)
      refine wlk_seq fun X11 hn11 he11 hr11 => ?_
      refine wlk_blk fun X12 hn12 he12 hf12 hr12 => ?_
      refine wlk_sreg fun KY hKY => ?_
      simp only [go_sem, reduceIte, Nat.reduceEqDiff, reduceCtorEq, c_pieces_Of_r11]
      refine hKY _ ?_
      have hDl := w.len
      have hvD : v < D.length := by omega
      have hbg := bools_get hvD
      refine wlk_sreg fun KY hKY => ?_
      simp only [go_sem, reduceIte, Nat.reduceEqDiff, reduceCtorEq, c_pieces_Of_r12, hbg, hvD]
      refine hKY _ ?_
      cases hd : D.getD v false with
      | true =>
        refine wlk_cond0 rfl ?_
        refine wlk_skip ?_
        repeat (first | refine hn12 _ ?_ | refine he12 _ ?_ | refine hf12 _ _ (by decide) ?_ | refine hn11 _ ?_ | refine he11 _ _ ?_ | refine hn10 _ ?_ | refine he10 _ _ ?_ | refine he9 _ _ ?_ | refine hn8 _ ?_ | refine he8 _ ?_ | refine hf8 _ _ (by decide) ?_ | refine hn7 _ ?_ | refine he7 _ _ ?_ | refine hn4 _ ?_ | refine he4 _ _ ?_)
        refine wlk_reg fun KY hKY => ?_
        simp only [go_sem, reduceIte, Nat.reduceEqDiff, reduceCtorEq, c_pieces_Of_r14, incS (show v < 4611686018427387904 by omega)]
        refine hKY _ ?_
        repeat (first | refine hn12 _ ?_ | refine he12 _ ?_ | refine hf12 _ _ (by decide) ?_ | refine hn11 _ ?_ | refine he11 _ _ ?_ | refine hn10 _ ?_ | refine he10 _ _ ?_)
        refine hn9 _ ((v + 1, D, ps)) (n - (v + 1)) (by omega) (by first | (simp only [go_sem, reduceIte, Nat.reduceEqDiff, reduceCtorEq, updAll_cons, updAll_nil, pRest]; done) | with_reducible rfl | rfl) ?_
        exact ⟨hv2, rfl, w.skip hd⟩
      | false =>
        refine wlk_cond1 rfl ?_
        have hps := pieces_le w
        have hby : (ps.length + 1) * 24 ≤ 140737488355328 := by omega
        refine wlk_reg fun KY hKY => ?_
        simp only [go_sem, reduceIte, Nat.reduceEqDiff, reduceCtorEq, c_pieces_Of_r13]
        apply call_gen [] [0] false none rfl
        iterate 8 (first | (simp only [go_sem, reduceIte, Nat.reduceEqDiff, reduceCtorEq, Nat.reduceLT, watchIn] <;> rfl) | rfl)
        refine (piece_ok g D hDl v hv2 hd).mono ?_
        rintro _ _ ⟨p, D', hp, rfl, rfl⟩
        unfold pRest
        refine ⟨Nat.le_of_ble_eq_true rfl, (fun hh => by cases hh), ?_⟩
        simp only [go_sem, reduceIte, Nat.reduceEqDiff, Nat.reduceBEq, reduceCtorEq, Nat.reduceLT, callOut, AState.after, hby, rowsO_snoc]
        refine hKY _ ?_
        repeat (first | refine hn12 _ ?_ | refine he12 _ ?_ | refine hf12 _ _ (by decide) ?_ | refine hn11 _ ?_ | refine he11 _ _ ?_ | refine hn10 _ ?_ | refine he10 _ _ ?_ | refine he9 _ _ ?_ | refine hn8 _ ?_ | refine he8 _ ?_ | refine hf8 _ _ (by decide) ?_ | refine hn7 _ ?_ | refine he7 _ _ ?_ | refine hn4 _ ?_ | refine he4 _ _ ?_)
        refine wlk_reg fun KY hKY => ?_
        simp only [go_sem, reduceIte, Nat.reduceEqDiff, reduceCtorEq, c_pieces_Of_r14, incS (show v < 4611686018427387904 by omega)]
        refine hKY _ ?_
        repeat (first | refine hn12 _ ?_ | refine he12 _ ?_ | refine hf12 _ _ (by decide) ?_ | refine hn11 _ ?_ | refine he11 _ _ ?_ | refine hn10 _ ?_ | refine he10 _ _ ?_)
        refine hn9 _ ((v + 1, D', ps ++ [p])) (n - (v + 1)) (by omega) (by first | (simp only [go_sem, reduceIte, Nat.reduceEqDiff, reduceCtorEq, updAll_cons, updAll_nil, pRest]; done) | with_reducible rfl | rfl) ?_
        exact ⟨hv2, rfl, w.take g.adj_lt hp⟩
    · refine wlk_cond0 (by first | rfl | (simp only [go_sem, reduceIte, Nat.reduceEqDiff, reduceCtorEq]; try simp (disch := omega) only [decide_eq_false])) ?_
      refine wlk_exit ?_
      repeat (first | refine hn10 _ ?_ | refine he10 _ _ ?_ | refine he9 _ _ ?_ | refine hn8 _ ?_ | refine he8 _ ?_ | refine hf8 _ _ (by decide) ?_ | refine hn7 _ ?_ | refine he7 _ _ ?_ | refine hn4 _ ?_ | refine he4 _ _ ?_ | refine he3 _ _ ?_ | refine hn2 _ ?_ | refine he2 _ ?_ | refine hf2 _ _ (by decide) ?_ | refine hn1 _ ?_ | refine he1 _ _ ?_)
      obtain rfl : v = n := by omega
      refine wlk_sreg fun KY hKY => ?_
      simp only [go_sem, reduceIte, Nat.reduceEqDiff, reduceCtorEq, c_pieces_Of_r15]
      refine hKY _ ?_
      refine wlk_ret ?_
      repeat (first | refine hr10 _ ?_ | refine hr9 _ ?_ | refine hr8 _ ?_ | refine hr7 _ ?_ | refine hr4 _ ?_ | refine hr3 _ ?_ | refine hr2 _ ?_ | refine hr1 _ ?_)
      simp only [go_sem, reduceIte, Nat.reduceEqDiff, reduceCtorEq, Nat.reduceLT]
      exact ⟨ps, w.pieces, rfl⟩
abbrev PsQ (n : Nat) (es : Es) (out : List Int) (r : AVal) (h' : Heap) : Prop := (∃ ps, IsPieces n es (fun v => (v : Int) ∈ out) ps ∧ r = .own (some 1) (rowsO ps)) ∧ h' = []
theorem ofT_ok {n : Nat} {es : Es} (g : GR n es) (out : List Int) (ho : out.length ≤ 1000000000) :
    ACalls Try.prog [] n_pieces_Of [.imm 1 (rowsI (near n es)), .imm 1 (ints out)] [] (PsQ n es out) := by
  refine ACalls.trim ((of_ok g out ho).mono ?_)
  rintro r h' ⟨ps, h1, rfl, h2⟩
  refine ⟨Nat.zero_le _, ⟨ps, h1, ?_⟩, rfl⟩
  simp only [AVal.ren, rowsO_ren]
end Go.Proofs.Ytepjcfbigcfkfaa
set_option maxRecDepth 100000
set_option maxHeartbeats 4000000
namespace Go.Proofs.Ytepjcfbigcfkfaa
open Go Go.Ga Go.Ga.Gl
theorem inc (k : Nat) (h : k ≤ 1000000000) : IntKind.i64.wrap ((k : Int) + 1) = ((k + 1 : Nat) : Int) := by rw [IntWalk.i64_in _ (by omega)]; omega
theorem nats_ints (xs : List Nat) : nats xs = ints (xs.map fun (n : Nat) => (n : Int)) := by simp [nats, ints]
theorem ints_at {xs : List Int} {k : Nat} {x : Int} (h : xs[k]? = some x) : (ints xs)[k]? = some (.sc (.int .i64 x)) := by simp [ints, h]
theorem eqi_ok (x y : Int) : ACalls Try.prog [] n_garlandhelp_Plain_int__1 [.sc (.int .i64 x), .sc (.int .i64 y)] [] fun r h' => r = .sc (.bool (decide (x = y))) ∧ h' = [] := by
  refine go_garlandhelp_Plain_int__1 rfl ?_
  unfold c_garlandhelp_Plain_int__1 v_garlandhelp_Plain_int__1
  refine wlk_sreg fun KY hKY => ?_
  simp only [go_sem, reduceIte, Nat.reduceEqDiff, reduceCtorEq, c_garlandhelp_Plain_int__1_r0]
  refine hKY _ ?_
  refine wlk_sreg fun KY hKY => ?_
  simp only [go_sem, reduceIte, Nat.reduceEqDiff, reduceCtorEq, c_garlandhelp_Plain_int__1_r1]
  refine hKY _ ?_
  refine wlk_ret ?_
  simp only [go_sem, reduceIte, Nat.reduceEqDiff, reduceCtorEq]
theorem alike_snoc {α : Type} [DecidableEq α] {xs ys : List α} {k : Nat} {x y : α} (hx : xs[k]? = some x) (hy : ys[k]? = some y) (h : xs.take k = ys.take k) : xs.take (k + 1) = ys.take (k + 1) ↔ x = y := by
  rw [List.take_add_one, List.take_add_one, hx, hy, h]
  simp
theorem samei_ok (xs ys : List Int) (hb : xs.length ≤ 1000000000) : ACalls Try.prog [] n_garlandhelp_Same_int_ [.imm 1 (ints xs), .imm 1 (ints ys), .fn (.func n_garlandhelp_Plain_int__1) [] []] [] fun r h' => r = .sc (.bool (decide (xs = ys))) ∧ h' = [] := by
  refine go_garlandhelp_Same_int_ rfl ?_
  unfold c_garlandhelp_Same_int_ v_garlandhelp_Same_int_
  refine wlk_sreg fun KY hKY => ?_
  simp only [go_sem, reduceIte, Nat.reduceEqDiff, reduceCtorEq, c_garlandhelp_Same_int__r0]
  refine hKY _ ?_
  refine wlk_seq fun X1 hn1 he1 hr1 => ?_
  refine wlk_sreg fun KY hKY => ?_
  simp only [go_sem, reduceIte, Nat.reduceEqDiff, reduceCtorEq, c_garlandhelp_Same_int__r1, Nat.div_one, ints_len]
  refine hKY _ ?_
  simp only [go_sem, reduceIte, Nat.reduceEqDiff, reduceCtorEq]
  by_cases hl : xs.length = ys.length
  case neg =>
    have hl' : decide (((xs.length : Nat) : Int) ≠ ((ys.length : Nat) : Int)) = true := decide_eq_true (by omega)
    refine wlk_cond1 (by simp only [go_sem, reduceIte, Nat.reduceEqDiff, reduceCtorEq, hl']) ?_
    refine wlk_sreg fun KY hKY => ?_
    simp only [go_sem, reduceIte, Nat.reduceEqDiff, reduceCtorEq, c_garlandhelp_Same_int__r2]
    refine hKY _ ?_
    refine wlk_ret (hr1 _ ?_)
    simp only [go_sem, reduceIte, Nat.reduceEqDiff, reduceCtorEq]
    rw [decide_eq_false (fun e : xs = ys => hl (by rw [e]))]
  have hl' : decide (((xs.length : Nat) : Int) ≠ ((ys.length : Nat) : Int)) = false := decide_eq_false (by omega)
  refine wlk_cond0 (by simp only [go_sem, reduceIte, Nat.reduceEqDiff, reduceCtorEq, hl']) (wlk_skip (hn1 _ ?_))
  refine wlk_seq fun X2 hn2 he2 hr2 => ?_
  refine wlk_sreg fun KY hKY => ?_
  simp only [go_sem, reduceIte, Nat.reduceEqDiff, reduceCtorEq, c_garlandhelp_Same_int__r3]
  refine hKY _ ?_
  refine wlk_blk fun X3 hn3 he3 hf3 hr3 => ?_
  refine wlk_loop (fun m s => ∃ (k : Nat) (A16 A29 : AVal), k ≤ xs.length ∧ m = xs.length - k ∧ xs.take k = ys.take k ∧ s = { vs := [(0, .imm 1 (ints xs)), (1, .imm 1 (ints ys)), (2, .fn (.func n_garlandhelp_Plain_int__1) [] []), (6, .sc (.bool false)), (7, .sc (.int .i64 (k : Int))), (12, .sc (.bool (decide (((xs.length : Nat) : Int) ≠ ((ys.length : Nat) : Int))))), (16, A16), (29, A29)], ts := [], h := [] }) xs.length ⟨0, .dead, .dead, Nat.zero_le _, rfl, rfl, ?_⟩ ?_
  · rfl
  rintro m _ ⟨k, A16, A29, hk, rfl, hpre, rfl⟩ X4 hn4 he4 hr4
  refine sem_forget [16, 29] rfl ?_
  simp only [go_sem, reduceIte, Nat.reduceEqDiff, reduceCtorEq]
  refine wlk_seq fun X5 hn5 he5 hr5 => ?_
  refine wlk_seq fun X6 hn6 he6 hr6 => ?_
  refine wlk_reg fun KY hKY => ?_
  simp only [go_sem, reduceIte, Nat.reduceEqDiff, reduceCtorEq, c_garlandhelp_Same_int__r4, Nat.div_one, ints_len]
  refine hKY _ (hn6 _ ?_)
  simp only [go_sem, reduceIte, Nat.reduceEqDiff, reduceCtorEq]
  refine wlk_cond (v := decide ((k : Int) < (xs.length : Int))) rfl (fun h => wlk_skip (hn5 _ ?_)) fun h => wlk_exit (he5 _ _ (he4 _ _ (he3 _ (hn2 _ ?_))))
  · have hlt : k < xs.length := by have := of_decide_eq_true h; omega
    have hlt2 : k < ys.length := by omega
    have hx : xs[k]? = some xs[k] := List.getElem?_eq_getElem hlt
    have hy : ys[k]? = some ys[k] := List.getElem?_eq_getElem hlt2
    have st := alike_snoc hx hy hpre
    refine wlk_seq fun X7 hn7 he7 hr7 => ?_
    refine wlk_blk fun X8 hn8 he8 hf8 hr8 => ?_
    refine wlk_sdraw fun KY hKY => ?_
    simp only [go_sem, reduceIte, Nat.reduceEqDiff, Nat.reduceBEq, reduceCtorEq, c_garlandhelp_Same_int__r5, ints_len, ints_at hx, ints_at hy, hlt, hlt2]
    refine call_view rfl (by simp only [go_sem, reduceIte, Nat.reduceEqDiff, reduceCtorEq] <;> rfl) ((eqi_ok xs[k] ys[k]).mono ?_)
    rintro rr hh ⟨rfl, rfl⟩
    refine ⟨rfl, rfl, rfl, ?_⟩
    simp only [go_sem, reduceIte, Nat.reduceEqDiff, reduceCtorEq]
    refine hKY _ ?_
    simp only [go_sem, reduceIte, Nat.reduceEqDiff, reduceCtorEq]
    by_cases e : xs[k] = ys[k]
    · refine wlk_cond0 (by simp only [go_sem, reduceIte, Nat.reduceEqDiff, reduceCtorEq, decide_eq_true e]) (wlk_skip (hn8 _ (hn7 _ ?_)))
      refine wlk_reg fun KY hKY => ?_
      simp only [go_sem, reduceIte, Nat.reduceEqDiff, reduceCtorEq, c_garlandhelp_Same_int__r7, inc k (by omega)]
      refine hKY _ (hn4 (xs.length - (k + 1)) _ (by omega) ?_)
      simp only [go_sem, reduceIte, Nat.reduceEqDiff, reduceCtorEq]
      exact ⟨k + 1, _, _, hlt, rfl, st.2 e, rfl⟩
    · refine wlk_cond1 (by simp only [go_sem, reduceIte, Nat.reduceEqDiff, reduceCtorEq, decide_eq_false e]) ?_
      refine wlk_sreg fun KY hKY => ?_
      simp only [go_sem, reduceIte, Nat.reduceEqDiff, reduceCtorEq, c_garlandhelp_Same_int__r6]
      refine hKY _ ?_
      refine wlk_ret (hr8 _ (hr7 _ (hr4 _ (hr3 _ (hr2 _ ?_)))))
      simp only [go_sem, reduceIte, Nat.reduceEqDiff, reduceCtorEq]
      rw [decide_eq_false (fun e' : xs = ys => e (by subst e'; rfl))]
  · have hkn : k = xs.length := by have := of_decide_eq_false h; omega
    refine wlk_sreg fun KY hKY => ?_
    simp only [go_sem, reduceIte, Nat.reduceEqDiff, reduceCtorEq, c_garlandhelp_Same_int__r8]
    refine hKY _ ?_
    refine wlk_ret ?_
    simp only [go_sem, reduceIte, Nat.reduceEqDiff, reduceCtorEq]
    rw [hkn, List.take_length, hl, List.take_length] at hpre
    rw [decide_eq_true hpre]
theorem plaini_ok (xs ys : List Int) (hb : xs.length ≤ 1000000000) : ACalls Try.prog [] n_garlandhelp_Plain_int_ [.imm 1 (ints xs), .imm 1 (ints ys)] [] fun r h' => r = .sc (.bool (decide (xs = ys))) ∧ h' = [] := by
  refine go_garlandhelp_Plain_int_ rfl ?_
  unfold c_garlandhelp_Plain_int_ v_garlandhelp_Plain_int_
  refine wlk_sreg fun KY hKY => ?_
  simp only [go_sem, reduceIte, Nat.reduceEqDiff, reduceCtorEq, c_garlandhelp_Plain_int__r0]
  refine hKY _ ?_
  refine wlk_sreg fun KY hKY => ?_
  simp only [go_sem, reduceIte, Nat.reduceEqDiff, reduceCtorEq, c_garlandhelp_Plain_int__r1]
  refine call_view rfl (by simp only [go_sem, reduceIte, Nat.reduceEqDiff, reduceCtorEq] <;> rfl) ((samei_ok xs ys hb).mono ?_)
  rintro rr hh ⟨rfl, rfl⟩
  refine ⟨rfl, rfl, rfl, ?_⟩
  simp only [go_sem, reduceIte, Nat.reduceEqDiff, reduceCtorEq]
  refine hKY _ ?_
  refine wlk_ret ?_
  simp only [go_sem, reduceIte, Nat.reduceEqDiff, reduceCtorEq]
end Go.Proofs.Ytepjcfbigcfkfaa
set_option maxRecDepth 100000
set_option maxHeartbeats 4000000
namespace Go.Proofs.Ytepjcfbigcfkfaa
open Go Go.Ga Go.Ga.Gl
def hasI (p : List Nat) (a : Int) : Bool := decide (a ∈ p.map fun n : Nat => (n : Int))
theorem hasI_nat {p : List Nat} {a : Nat} : hasI p (a : Int) = true ↔ a ∈ p := by
  unfold hasI
  rw [decide_eq_true_iff, List.mem_map]
  exact ⟨fun ⟨x, hx, h⟩ => by rw [show a = x by omega]; exact hx, fun h => ⟨a, h, rfl⟩⟩
theorem in_ok (xs : List Int) (v : Int) (hb : xs.length ≤ 1000000000) : ACalls Try.prog [] n_garlandhelp_In_int_ [.imm 1 (ints xs), .sc (.int .i64 v)] [] fun r h' => r = .sc (.bool (decide (v ∈ xs))) ∧ h' = [] := by
  refine go_garlandhelp_In_int_ rfl ?_
  unfold c_garlandhelp_In_int_ v_garlandhelp_In_int_
  refine wlk_sreg fun KY hKY => ?_
  simp only [go_sem, reduceIte, Nat.reduceEqDiff, reduceCtorEq, c_garlandhelp_In_int__r0]
  refine hKY _ ?_
  refine wlk_seq fun X1 hn1 he1 hr1 => ?_
  refine wlk_sreg fun KY hKY => ?_
  simp only [go_sem, reduceIte, Nat.reduceEqDiff, reduceCtorEq, c_garlandhelp_In_int__r1]
  refine hKY _ ?_
  refine wlk_blk fun X2 hn2 he2 hf2 hr2 => ?_
  try simp only [go_sem, reduceIte, Nat.reduceEqDiff, reduceCtorEq]
  refine wlk_lp (α := Nat) [9, 17] (fun k => [(5, .sc (.int .i64 (k : Int)))]) (fun k => []) (fun k q => k ≤ xs.length ∧ q = xs.length - k ∧ ∀ j x, j < k → xs[j]? = some x → x ≠ v) (0) (xs.length) rfl (by first | (simp only [go_sem, reduceIte, Nat.reduceEqDiff, reduceCtorEq, updAll_cons, updAll_nil]; done) | with_reducible rfl | rfl) (⟨by omega, rfl, fun j x h => by omega⟩) ?_
  rintro k q ⟨hk, rfl, hz⟩ X3 hn3 he3 hr3
  simp only [go_sem, reduceIte, Nat.reduceEqDiff, reduceCtorEq, updAll_cons, updAll_nil]
  refine wlk_seq fun X4 hn4 he4 hr4 => ?_
  refine wlk_sreg fun KY hKY => ?_
  simp only [go_sem, reduceIte, Nat.reduceEqDiff, reduceCtorEq, c_garlandhelp_In_int__r2, ints_len]
  refine hKY _ ?_
  by_cases hk2 : k < xs.length
  · refine wlk_cond1 (by first | rfl | (simp only [go_sem, reduceIte, Nat.reduceEqDiff, reduceCtorEq]; try simp (disch := omega) only [decide_eq_true])) ?_
    refine wlk_skip ?_
    repeat (first | refine hn4 _ ?_ | refine he4 _ _ ?_ | refine he3 _ _ ?_ | refine hn2 _ ?_ | refine he2 _ ?_ | refine hf2 _ _ (by decide) ?_ | refine hn1 _ ?_ | refine he1 _ _ ?_)
    refine wlk_seq fun X5 hn5 he5 hr5 => ?_
    refine wlk_blk fun X6 hn6 he6 hf6 hr6 => ?_
    have hx : xs[k]? = some xs[k] := List.getElem?_eq_getElem hk2
    have hmem : xs[k] ∈ xs := List.getElem_mem hk2
    generalize xs[k] = x at hx hmem
    refine wlk_sreg fun KY hKY => ?_
    simp only [go_sem, reduceIte, Nat.reduceEqDiff, reduceCtorEq, c_garlandhelp_In_int__r3, ints_at hx, hk2]
    refine hKY _ ?_
    by_cases hp : x = v
    · refine wlk_cond1 (by first | rfl | (simp only [go_sem, reduceIte, Nat.reduceEqDiff, reduceCtorEq, hp]; try simp (disch := omega) only [decide_eq_true, decide_eq_false])) ?_
      refine wlk_sreg fun KY hKY => ?_
      simp only [go_sem, reduceIte, Nat.reduceEqDiff, reduceCtorEq, c_garlandhelp_In_int__r4]
      refine hKY _ ?_
      refine wlk_ret ?_
      repeat (first | refine hr6 _ ?_ | refine hr5 _ ?_ | refine hr4 _ ?_ | refine hr3 _ ?_ | refine hr2 _ ?_ | refine hr1 _ ?_)
      simp only [go_sem, reduceIte, Nat.reduceEqDiff, reduceCtorEq]
      rw [decide_eq_true (hp ▸ hmem)]
    · refine wlk_cond0 (by first | rfl | (simp only [go_sem, reduceIte, Nat.reduceEqDiff, reduceCtorEq, hp]; try simp (disch := omega) only [decide_eq_true, decide_eq_false])) ?_
      refine wlk_skip ?_
      repeat (first | refine hn6 _ ?_ | refine he6 _ ?_ | refine hf6 _ _ (by decide) ?_ | refine hn5 _ ?_ | refine he5 _ _ ?_ | refine hn4 _ ?_ | refine he4 _ _ ?_ | refine he3 _ _ ?_ | refine hn2 _ ?_ | refine he2 _ ?_ | refine hf2 _ _ (by decide) ?_ | refine hn1 _ ?_ | refine he1 _ _ ?_)
      refine wlk_reg fun KY hKY => ?_
      simp only [go_sem, reduceIte, Nat.reduceEqDiff, reduceCtorEq, c_garlandhelp_In_int__r5, inc k (by omega)]
      refine hKY _ ?_
      repeat (first | refine hn6 _ ?_ | refine he6 _ ?_ | refine hf6 _ _ (by decide) ?_ | refine hn5 _ ?_ | refine he5 _ _ ?_ | refine hn4 _ ?_ | refine he4 _ _ ?_)
      refine hn3 _ (k + 1) (xs.length - (k + 1)) (by omega) (by first | (simp only [go_sem, reduceIte, Nat.reduceEqDiff, reduceCtorEq, updAll_cons, updAll_nil]; done) | with_reducible rfl | rfl) ?_
      refine ⟨hk2, rfl, fun j y hj hy => ?_⟩
      rcases Nat.lt_or_ge j k with h | h
      · exact hz j y h hy
      · obtain rfl : j = k := by omega
        rw [hx] at hy; cases hy; exact hp
  · refine wlk_cond0 (by first | rfl | (simp only [go_sem, reduceIte, Nat.reduceEqDiff, reduceCtorEq]; try simp (disch := omega) only [decide_eq_false])) ?_
    refine wlk_exit ?_
    repeat (first | refine hn4 _ ?_ | refine he4 _ _ ?_ | refine he3 _ _ ?_ | refine hn2 _ ?_ | refine he2 _ ?_ | refine hf2 _ _ (by decide) ?_ | refine hn1 _ ?_ | refine he1 _ _ ?_)
    refine wlk_sreg fun KY hKY => ?_
    simp only [go_sem, reduceIte, Nat.reduceEqDiff, reduceCtorEq, c_garlandhelp_In_int__r6]
    refine hKY _ ?_
    refine wlk_ret ?_
    repeat (first | refine hr4 _ ?_ | refine hr3 _ ?_ | refine hr2 _ ?_ | refine hr1 _ ?_)
    simp only [go_sem, reduceIte, Nat.reduceEqDiff, reduceCtorEq]
    rw [decide_eq_false]
    intro hx
    obtain ⟨j, hj⟩ := List.mem_iff_getElem?.1 hx
    exact hz j v (by have := (List.getElem?_eq_some_iff.1 hj).1; omega) hj rfl
theorem inN_ok (xs : List Nat) (v : Int) (hb : xs.length ≤ 1000000000) : ACalls Try.prog [] n_garlandhelp_In_int_ [.imm 1 (nats xs), .sc (.int .i64 v)] [] fun r h' => r = .sc (.bool (hasI xs v)) ∧ h' = [] := by
  rw [nats_ints]
  exact in_ok _ v (by simpa using hb)
end Go.Proofs.Ytepjcfbigcfkfaa
namespace Go.Ga.Gl
open Go Go.Ga
end Go.Ga.Gl
namespace Go.Ga.Gl
open Go Go.Ga
theorem head_mem {p : List Nat} {a : Nat} (h : a ∈ p.head?) : a ∈ p := by
  cases p with
  | nil => cases h
  | cons b p => have : b = a := by simpa using h
                subst this; exact List.mem_cons_self ..
end Go.Ga.Gl
namespace Go.Ga.Gl
open Go Go.Ga
structure LI (n : Nat) (es : Es) (O : Nat → Prop) (lab : List Int) : Prop where
  len : lab.length = n
  out : ∀ v, v < n → (lab.getD v 0 < 0 ↔ O v)
  low : ∀ v, v < n → ¬ O v → 0 ≤ lab.getD v 0 ∧ lab.getD v 0 ≤ v ∧ ¬ O (lab.getD v 0).toNat
  conn : ∀ f, Flat es O f → ∀ v, v < n → ¬ O v → f v = f (lab.getD v 0).toNat
def labSum (lab : List Int) : Nat := (lab.map Int.toNat).sum
theorem labSum_set : ∀ (lab : List Int) (v : Nat) (k : Int), v < lab.length → labSum (lab.set v k) + (lab.getD v 0).toNat = labSum lab + k.toNat
  | [], v, k, h => by simp at h
  | x :: l, 0, k, _ => by simp [labSum]; omega
  | x :: l, v + 1, k, h => by
    have := labSum_set l v k (by simpa using h)
    simp [labSum] at *; omega
theorem getD_set (l : List Int) (v w : Nat) (k : Int) (h : v < l.length) : (l.set v k).getD w 0 = if w = v then k else l.getD w 0 := by
  simp only [List.getD_eq_getElem?_getD, List.getElem?_set]
  by_cases e : v = w
  · subst e; simp [h]
  · simp [e, Ne.symm e]
def lab2 (lab : List Int) (a b : Nat) : List Int := (lab.set a (min (lab.getD a 0) (lab.getD b 0))).set b (min (lab.getD a 0) (lab.getD b 0))
theorem lab2_get {lab : List Int} {a b w : Nat} (ha : a < lab.length) (hb : b < lab.length) : (lab2 lab a b).getD w 0 = if w = a ∨ w = b then min (lab.getD a 0) (lab.getD b 0) else lab.getD w 0 := by
  unfold lab2
  rw [getD_set _ _ _ _ (by simpa using hb), getD_set _ _ _ _ ha]
  by_cases h1 : w = b
  · simp [h1]
  · by_cases h2 : w = a
    · simp [h2]
    · simp [h1, h2]
theorem LI.step {n : Nat} {es : Es} {O : Nat → Prop} {lab : List Int} (w : LI n es O lab) {a b : Nat} (hab : adj es a b) (han : a < n) (hbn : b < n) (h1 : ¬ lab.getD a 0 < 0) (h2 : ¬ lab.getD b 0 < 0) : LI n es O (lab2 lab a b) := by
  have oa : ¬ O a := fun h => h1 ((w.out a han).2 h)
  have ob : ¬ O b := fun h => h2 ((w.out b hbn).2 h)
  have la := w.low a han oa
  have lb := w.low b hbn ob
  have hal : a < lab.length := by rw [w.len]; exact han
  have hbl : b < lab.length := by rw [w.len]; exact hbn
  have hk : ∃ c, (c = a ∨ c = b) ∧ min (lab.getD a 0) (lab.getD b 0) = lab.getD c 0 := by
    rcases Int.le_total (lab.getD a 0) (lab.getD b 0) with h | h
    · exact ⟨a, .inl rfl, Int.min_eq_left h⟩
    · exact ⟨b, .inr rfl, Int.min_eq_right h⟩
  refine ⟨by unfold lab2; simp [w.len], fun v hv => ?_, fun v hv ho => ?_, fun f hf v hv ho => ?_⟩
  · rw [lab2_get hal hbl]
    split
    · rename_i h
      rcases h with rfl | rfl
      · constructor
        · intro h; omega
        · intro h; exact absurd h oa
      · constructor
        · intro h; omega
        · intro h; exact absurd h ob
    · exact w.out v hv
  · rw [lab2_get hal hbl]
    split
    · rename_i h
      obtain ⟨c, hc, e⟩ := hk
      refine ⟨by omega, by rcases h with rfl | rfl <;> omega, ?_⟩
      rw [e]
      rcases hc with rfl | rfl
      · exact la.2.2
      · exact lb.2.2
    · exact w.low v hv ho
  · rw [lab2_get hal hbl]
    split
    · rename_i h
      obtain ⟨c, hc, e⟩ := hk
      rw [e]
      have e1 := hf a b hab oa ob
      have ea := w.conn f hf a han oa
      have eb := w.conn f hf b hbn ob
      rcases h with rfl | rfl <;> rcases hc with rfl | rfl
      · exact ea
      · rw [e1, eb]
      · rw [← e1, ea]
      · exact eb
    · exact w.conn f hf v hv ho
theorem lab2_sum {lab : List Int} {a b : Nat} (ha : a < lab.length) (hb : b < lab.length) (hne : a ≠ b) (h1 : ¬ lab.getD a 0 < 0) (h2 : ¬ lab.getD b 0 < 0) (h3 : lab.getD a 0 ≠ lab.getD b 0) : labSum (lab2 lab a b) < labSum lab := by
  unfold lab2
  generalize hk : min (lab.getD a 0) (lab.getD b 0) = k
  have e1 := labSum_set lab a k ha
  have e2 := labSum_set (lab.set a k) b k (by simpa using hb)
  rw [getD_set _ _ _ _ ha, if_neg (Ne.symm hne)] at e2
  omega
theorem LI.start {n : Nat} {es : Es} {O : Nat → Prop} {lab : List Int} (hl : lab.length = n) (h : ∀ v, v < n → (O v → lab.getD v 0 = -1) ∧ (¬ O v → lab.getD v 0 = (v : Int))) : LI n es O lab := by
  refine ⟨hl, fun v hv => ?_, fun v hv ho => ?_, fun f _ v hv ho => ?_⟩
  · constructor
    · intro h1
      by_cases ho : O v
      · exact ho
      · have := (h v hv).2 ho; omega
    · intro ho; have := (h v hv).1 ho; omega
  · rw [(h v hv).2 ho]; exact ⟨by omega, by omega, by simpa using ho⟩
  · rw [(h v hv).2 ho]; simp
def byLabel (n : Nat) (lab : List Int) (m : Nat) : List (List Nat) := ((List.range m).filter fun v : Nat => decide (lab.getD v 0 = (v : Int))).map fun v : Nat => (List.range n).filter fun w => decide (lab.getD w 0 = (v : Int))
theorem mem_byLabel {n : Nat} {lab : List Int} {m : Nat} {p : List Nat} : p ∈ byLabel n lab m ↔ ∃ v : Nat, v < m ∧ lab.getD v 0 = (v : Int) ∧ (List.range n).filter (fun w => decide (lab.getD w 0 = (v : Int))) = p := by
  simp only [byLabel, List.mem_map, List.mem_filter, List.mem_range, decide_eq_true_eq, and_assoc]
theorem LI.pieces {n : Nat} {es : Es} {O : Nat → Prop} {lab : List Int} (hes : ∀ a b, adj es a b → a < n ∧ b < n) (W : LI n es O lab) (hfix : ∀ e ∈ es, lab.getD e.1 0 < 0 ∨ lab.getD e.2 0 < 0 ∨ lab.getD e.1 0 = lab.getD e.2 0) : IsPieces n es O (byLabel n lab n) := by
  have hflat : ∀ a b, adj es a b → ¬ O a → ¬ O b → lab.getD a 0 = lab.getD b 0 := by
    intro a b hab ha hb
    have hl := hes a b hab
    have h1 := W.low a hl.1 ha
    have h2 := W.low b hl.2 hb
    rcases hab with h | h
    · rcases hfix _ h with h | h | h
      · exact absurd h (by simp only; omega)
      · exact absurd h (by simp only; omega)
      · exact h
    · rcases hfix _ h with h | h | h
      · exact absurd h (by simp only; omega)
      · exact absurd h (by simp only; omega)
      · exact h.symm
  have hfl : Flat es O (fun v => (lab.getD v 0).toNat) := fun a b hab ha hb => by
    show (lab.getD a 0).toNat = (lab.getD b 0).toNat
    rw [hflat a b hab ha hb]
  have hid : ∀ v, v < n → ¬ O v → lab.getD (lab.getD v 0).toNat 0 = lab.getD v 0 := by
    intro v hv ho
    have h1 := W.low v hv ho
    have h2 := W.conn _ hfl v hv ho
    have h3 := W.low (lab.getD v 0).toNat (by omega) h1.2.2
    have h2 : (lab.getD v 0).toNat = (lab.getD (lab.getD v 0).toNat 0).toNat := h2
    omega
  have hm : ∀ (v w : Nat), w ∈ (List.range n).filter (fun w => decide (lab.getD w 0 = (v : Int))) ↔ w < n ∧ lab.getD w 0 = (v : Int) := fun v w => by
    simp only [List.mem_filter, List.mem_range, decide_eq_true_eq]
  have hno : ∀ (v w : Nat), w < n → lab.getD w 0 = (v : Int) → ¬ O w := fun v w hw h ho => by
    have := (W.out w hw).2 ho; omega
  have hle : ∀ (v w : Nat), w < n → lab.getD w 0 = (v : Int) → v ≤ w := fun v w hw h => by
    have := (W.low w hw (hno v w hw h)).2.1; omega
  have hfirst : ∀ v : Nat, v < n → lab.getD v 0 = (v : Int) → ∀ a ∈ ((List.range n).filter fun w => decide (lab.getD w 0 = (v : Int))).head?, a = v := by
    intro v hv h a ha
    have h1 := (hm v a).1 (head_mem ha)
    have h2 := hle v a h1.1 h1.2
    have h3 : a ≤ v := by
      have hpw : ((List.range n).filter fun w => decide (lab.getD w 0 = (v : Int))).Pairwise (· < ·) := List.pairwise_lt_range.filter _
      have hvm := (hm v v).2 ⟨hv, h⟩
      generalize (List.range n).filter (fun w => decide (lab.getD w 0 = (v : Int))) = r at ha hpw hvm
      cases r with
      | nil => cases ha
      | cons b r =>
        have : b = a := by simpa using ha
        subst this
        rcases List.mem_cons.1 hvm with e | e
        · omega
        · have := (List.pairwise_cons.1 hpw).1 v e; omega
    omega
  refine ⟨fun v => ?_, ?_, ?_, ?_, ?_, ?_, ?_⟩
  · constructor
    · rintro ⟨p, hp, hv⟩
      obtain ⟨k, _, _, rfl⟩ := mem_byLabel.1 hp
      have := (hm k v).1 hv
      exact ⟨this.1, hno k v this.1 this.2⟩
    · rintro ⟨hv, ho⟩
      have h1 := W.low v hv ho
      have h2 := hid v hv ho
      refine ⟨_, mem_byLabel.2 ⟨(lab.getD v 0).toNat, by omega, by rw [h2]; omega, rfl⟩, (hm _ v).2 ⟨hv, by omega⟩⟩
  · intro p hp
    obtain ⟨k, hk, h, rfl⟩ := mem_byLabel.1 hp
    exact List.ne_nil_of_mem ((hm k k).2 ⟨hk, h⟩)
  · intro p hp
    obtain ⟨k, _, _, rfl⟩ := mem_byLabel.1 hp
    exact List.pairwise_lt_range.filter _
  · unfold byLabel
    refine List.pairwise_map.2 ((List.pairwise_lt_range.filter _).imp_of_mem fun {u v} hu hv h a ha b hb => ?_)
    simp only [List.mem_filter, List.mem_range, decide_eq_true_eq] at hu hv
    rw [hfirst u hu.1 hu.2 a ha, hfirst v hv.1 hv.2 b hb]; exact h
  · unfold byLabel
    refine List.pairwise_map.2 ((List.pairwise_lt_range.filter _).imp fun {u v} h w hw hw' => ?_)
    have h1 := ((hm u w).1 hw).2
    have h2 := ((hm v w).1 hw').2
    omega
  · intro p hp a ha b hab hb hob
    obtain ⟨k, _, _, rfl⟩ := mem_byLabel.1 hp
    have h1 := (hm k a).1 ha
    exact (hm k b).2 ⟨hb, by rw [← hflat a b hab (hno k a h1.1 h1.2) hob]; exact h1.2⟩
  · intro p hp f hf a ha b hb
    obtain ⟨k, _, _, rfl⟩ := mem_byLabel.1 hp
    have h1 := (hm k a).1 ha
    have h2 := (hm k b).1 hb
    rw [W.conn f hf a h1.1 (hno k a h1.1 h1.2), W.conn f hf b h2.1 (hno k b h2.1 h2.2), h1.2, h2.2]
theorem byLabel_step (n : Nat) (lab : List Int) (m : Nat) : byLabel n lab (m + 1) = if lab.getD m 0 = (m : Int) then byLabel n lab m ++ [(List.range n).filter fun w => decide (lab.getD w 0 = (m : Int))] else byLabel n lab m := by
  unfold byLabel
  rw [List.range_succ, List.filter_append, List.map_append]
  by_cases h : lab.getD m 0 = (m : Int)
  · rw [if_pos h, List.filter_cons_of_pos (by simpa using h)]; rfl
  · rw [if_neg h, List.filter_cons_of_neg (by simpa using h)]; simp
theorem byLabel_len (n : Nat) (lab : List Int) (m : Nat) : (byLabel n lab m).length ≤ m := by
  unfold byLabel
  rw [List.length_map]
  exact Nat.le_trans (List.length_filter_le _ _) (by simp)
theorem filter_range_step (p : Nat → Bool) (m : Nat) : (List.range (m + 1)).filter p = if p m = true then (List.range m).filter p ++ [m] else (List.range m).filter p := by
  rw [List.range_succ, List.filter_append]
  by_cases h : p m = true
  · rw [if_pos h, List.filter_cons_of_pos h]; rfl
  · rw [if_neg h, List.filter_cons_of_neg h]; simp
def upTo (lab : List Int) (u w : Nat) : List Nat := (List.range w).filter fun w => decide (lab.getD w 0 = (u : Int))
theorem upTo_step (lab : List Int) (u w : Nat) : upTo lab u (w + 1) = if lab.getD w 0 = (u : Int) then upTo lab u w ++ [w] else upTo lab u w := by
  unfold upTo
  rw [filter_range_step]
  simp only [decide_eq_true_eq]
theorem upTo_len (lab : List Int) (u w : Nat) : (upTo lab u w).length ≤ w := by
  unfold upTo
  exact Nat.le_trans (List.length_filter_le _ _) (by simp)
theorem byLabel_up (n : Nat) (lab : List Int) (m : Nat) : byLabel n lab (m + 1) = if lab.getD m 0 = (m : Int) then byLabel n lab m ++ [upTo lab m n] else byLabel n lab m := byLabel_step n lab m
end Go.Ga.Gl
set_option maxRecDepth 100000
set_option maxHeartbeats 2000000
namespace Go.Proofs.Ytepjcfbigcfkfaa
open Go Go.Ga Go.Ga.Gl
theorem ints_zero (n : Nat) : zeroCellsA [.int .i64 0] n = ints (List.replicate n 0) := by
  rw [nats_zero, nats_ints]; simp
theorem set_rangeI {n b : Nat} {y : Int} {f g : Nat → Int} (h1 : g b = y) (h2 : ∀ v, v ≠ b → g v = f v) : ((List.range n).map f).set b y = (List.range n).map g := by
  apply List.ext_getElem (by simp)
  intro i h3 h4
  rw [List.getElem_set]
  split
  · rename_i h; subst h; simp [h1]
  · rename_i h; simp [h2 i (Ne.symm h)]
def lab0 (out : List Int) (v w : Nat) : Int := if w < v then (if (w : Int) ∈ out then -1 else (w : Int)) else 0
theorem rwithout_ok {n : Nat} {es : Es} (g : GR n es) (out : List Int) (ho : out.length ≤ 1000000000) :
    ACalls Try.prog [] n_garlandref03_Without [.agg [.sc (.int .i64 (n : Int)), .imm 2 (twos (castE es))], .imm 1 (ints out)] [] (PsQ n es out) := by
  have hn := g.hn
  have hm := g.hm
  have hby : n * 8 ≤ 140737488355328 := by omega
  have hb0 : (n : Int) ≤ 9223372036854775807 := by omega
  refine go_garlandref03_Without rfl ?_
  unfold c_garlandref03_Without v_garlandref03_Without
  refine wlk_sreg fun KY hKY => ?_
  simp only [go_sem, reduceIte, Nat.reduceEqDiff, reduceCtorEq, c_garlandref03_Without_r0]
  refine hKY _ ?_
  refine wlk_seq fun X1 hn1 he1 hr1 => ?_
  refine wlk_sreg fun KY hKY => ?_
  simp only [go_sem, reduceIte, Nat.reduceEqDiff, reduceCtorEq, Nat.reduceLT, Nat.reduceAdd, c_garlandref03_Without_r1]
  refine call_view rfl (by simp only [go_sem, reduceIte, Nat.reduceEqDiff, reduceCtorEq] <;> rfl) ((rright_ok _ _).mono ?_)
  rintro rr hh ⟨rfl, rfl⟩
  refine ⟨rfl, rfl, rfl, ?_⟩
  simp only [go_sem, reduceIte, Nat.reduceEqDiff, reduceCtorEq, rightB_GR g]
  refine hKY _ ?_
  refine wlk_cond0 (by first | rfl | (simp only [go_sem, reduceIte, Nat.reduceEqDiff, Nat.reduceBEq, reduceCtorEq, Nat.reduceLT, Nat.reduceLeDiff, Nat.reduceAdd, Nat.reduceSub, Nat.reduceMul, Nat.reduceDiv, Int.reduceAdd, Int.reduceNeg, Int.reduceEq, Int.reduceLT, Int.reduceLE]; try simp (disch := omega) only [decide_eq_true, decide_eq_false])) ?_
  refine wlk_skip ?_
  repeat (first | refine hn1 _ ?_ | refine he1 _ _ ?_)
  refine wlk_sreg fun KY hKY => ?_
  simp only [go_sem, reduceIte, Nat.reduceEqDiff, reduceCtorEq, c_garlandref03_Without_r3, ints_zero, hb0]
  repeat (simp (disch := omega) only [if_pos]; try simp only [go_sem, reduceIte, Nat.reduceEqDiff, Nat.reduceBEq, reduceCtorEq])
  refine hKY _ ?_
  simp only [go_sem, reduceIte, Nat.reduceEqDiff, reduceCtorEq]
  rw [show List.replicate n (0:Int) = (List.range n).map (lab0 out 0) by
    apply List.ext_getElem (by simp)
    intro i h1 h2
    simp [lab0]]
  refine wlk_seq fun X2 hn2 he2 hr2 => ?_
  refine wlk_sreg fun KY hKY => ?_
  simp only [go_sem, reduceIte, Nat.reduceEqDiff, reduceCtorEq, c_garlandref03_Without_r4]
  refine hKY _ ?_
  refine wlk_blk fun X3 hn3 he3 hf3 hr3 => ?_
  try simp only [go_sem, reduceIte, Nat.reduceEqDiff, reduceCtorEq]
  refine wlk_lp (α := Nat) [25, 34] (fun v => [(5, .own (some 1) (ints ((List.range n).map (lab0 out v)))), (6, .sc (.int .i64 (v : Int)))]) (fun v => []) (fun v q => v ≤ n ∧ q = n - v) (0) (n) rfl (by first | (simp only [go_sem, reduceIte, Nat.reduceEqDiff, reduceCtorEq, updAll_cons, updAll_nil]; done) | with_reducible rfl | rfl) (⟨by omega, rfl⟩) ?_
  rintro v q ⟨hv, rfl⟩ X4 hn4 he4 hr4
  simp only [go_sem, reduceIte, Nat.reduceEqDiff, reduceCtorEq, updAll_cons, updAll_nil]
  refine wlk_seq fun X5 hn5 he5 hr5 => ?_
  refine wlk_sreg fun KY hKY => ?_
  simp only [go_sem, reduceIte, Nat.reduceEqDiff, reduceCtorEq, c_garlandref03_Without_r5]
  refine hKY _ ?_
  by_cases hv2 : v < n
  · refine wlk_cond1 (by first | rfl | (simp only [go_sem, reduceIte, Nat.reduceEqDiff, reduceCtorEq]; try simp (disch := omega) only [decide_eq_true])) ?_
    refine wlk_skip ?_
    repeat (first | refine hn5 _ ?_ | refine he5 _ _ ?_ | refine he4 _ _ ?_ | refine hn3 _ ?_ | refine he3 _ ?_ | refine hf3 _ _ (by decide) ?_ | refine hn2 _ ?_ | refine he2 _ _ ?_ | refine hn1 _ ?_ | refine he1 _ _ ?_)
    refine wlk_seq fun X6 hn6 he6 hr6 => ?_
    refine wlk_blk fun X7 hn7 he7 hf7 hr7 => ?_
    refine wlk_sreg fun KY hKY => ?_
    simp only [go_sem, reduceIte, Nat.reduceEqDiff, reduceCtorEq, c_garlandref03_Without_r6, hv2, ints_len]
    refine hKY _ ?_
    have hin := in_ok out (v : Int) ho
    refine wlk_sreg fun KY hKY => ?_
    simp only [go_sem, reduceIte, Nat.reduceEqDiff, reduceCtorEq, c_garlandref03_Without_r7]
    refine call_view rfl (by simp only [go_sem, reduceIte, Nat.reduceEqDiff, reduceCtorEq] <;> rfl) ((hin).mono ?_)
    rintro rr hh ⟨rfl, rfl⟩
    refine ⟨rfl, rfl, rfl, ?_⟩
    simp only [go_sem]
    refine hKY _ ?_
    by_cases hvo : (v : Int) ∈ out
    · have hset : (((List.range n).map (lab0 out v)).set v (v : Int)).set v (-1) = (List.range n).map (lab0 out (v + 1)) := by
        rw [List.set_set]
        refine set_rangeI (by simp [lab0, hvo]) fun w hw => ?_
        unfold lab0
        by_cases h : w < v
        · rw [if_pos (by omega), if_pos h]
        · rw [if_neg (by omega), if_neg h]
      refine wlk_cond1 (by first | rfl | (simp only [go_sem, reduceIte, Nat.reduceEqDiff, reduceCtorEq, hvo]; try simp (disch := omega) only [decide_eq_true, decide_eq_false])) ?_
      refine wlk_reg fun KY hKY => ?_
      simp only [go_sem, reduceIte, Nat.reduceEqDiff, reduceCtorEq, Int.reduceAdd, Int.reduceNeg, c_garlandref03_Without_r8, hv2, ints_len, hset]
      refine hKY _ ?_
      repeat (first | refine hn7 _ ?_ | refine he7 _ ?_ | refine hf7 _ _ (by decide) ?_ | refine hn6 _ ?_ | refine he6 _ _ ?_ | refine hn5 _ ?_ | refine he5 _ _ ?_ | refine he4 _ _ ?_ | refine hn3 _ ?_ | refine he3 _ ?_ | refine hf3 _ _ (by decide) ?_ | refine hn2 _ ?_ | refine he2 _ _ ?_ | refine hn1 _ ?_ | refine he1 _ _ ?_)
      refine wlk_reg fun KY hKY => ?_
      simp only [go_sem, reduceIte, Nat.reduceEqDiff, reduceCtorEq, c_garlandref03_Without_r9, inc v (by omega)]
      refine hKY _ ?_
      repeat (first | refine hn7 _ ?_ | refine he7 _ ?_ | refine hf7 _ _ (by decide) ?_ | refine hn6 _ ?_ | refine he6 _ _ ?_ | refine hn5 _ ?_ | refine he5 _ _ ?_)
      refine hn4 _ (v + 1) (n - (v + 1)) (by omega) (by first | (simp only [go_sem, reduceIte, Nat.reduceEqDiff, reduceCtorEq, updAll_cons, updAll_nil]; done) | with_reducible rfl | rfl) ?_
      exact ⟨hv2, rfl⟩
    · have hset : ((List.range n).map (lab0 out v)).set v (v : Int) = (List.range n).map (lab0 out (v + 1)) := by
        refine set_rangeI (by simp [lab0, hvo]) fun w hw => ?_
        unfold lab0
        by_cases h : w < v
        · rw [if_pos (by omega), if_pos h]
        · rw [if_neg (by omega), if_neg h]
      refine wlk_cond0 (by first | rfl | (simp only [go_sem, reduceIte, Nat.reduceEqDiff, reduceCtorEq, hvo]; try simp (disch := omega) only [decide_eq_true, decide_eq_false])) ?_
      rw [hset]
      refine wlk_skip ?_
      repeat (first | refine hn7 _ ?_ | refine he7 _ ?_ | refine hf7 _ _ (by decide) ?_ | refine hn6 _ ?_ | refine he6 _ _ ?_ | refine hn5 _ ?_ | refine he5 _ _ ?_ | refine he4 _ _ ?_ | refine hn3 _ ?_ | refine he3 _ ?_ | refine hf3 _ _ (by decide) ?_ | refine hn2 _ ?_ | refine he2 _ _ ?_ | refine hn1 _ ?_ | refine he1 _ _ ?_)
      refine wlk_reg fun KY hKY => ?_
      simp only [go_sem, reduceIte, Nat.reduceEqDiff, reduceCtorEq, c_garlandref03_Without_r9, inc v (by omega)]
      refine hKY _ ?_
      repeat (first | refine hn7 _ ?_ | refine he7 _ ?_ | refine hf7 _ _ (by decide) ?_ | refine hn6 _ ?_ | refine he6 _ _ ?_ | refine hn5 _ ?_ | refine he5 _ _ ?_)
      refine hn4 _ (v + 1) (n - (v + 1)) (by omega) (by first | (simp only [go_sem, reduceIte, Nat.reduceEqDiff, reduceCtorEq, updAll_cons, updAll_nil]; done) | with_reducible rfl | rfl) ?_
      exact ⟨hv2, rfl⟩
  · refine wlk_cond0 (by first | rfl | (simp only [go_sem, reduceIte, Nat.reduceEqDiff, reduceCtorEq]; try simp (disch := omega) only [decide_eq_false])) ?_
    refine wlk_exit ?_
    repeat (first | refine hn5 _ ?_ | refine he5 _ _ ?_ | refine he4 _ _ ?_ | refine hn3 _ ?_ | refine he3 _ ?_ | refine hf3 _ _ (by decide) ?_ | refine hn2 _ ?_ | refine he2 _ _ ?_ | refine hn1 _ ?_ | refine he1 _ _ ?_)
    obtain rfl : v = n := by omega
    have w0 : LI v es (fun w => (w : Int) ∈ out) ((List.range v).map (lab0 out v)) := by
      refine LI.start (by simp) fun w hw => ?_
      have : ((List.range v).map (lab0 out v)).getD w 0 = lab0 out v w := by simp [List.getD_eq_getElem?_getD, hw]
      rw [this]
      unfold lab0
      rw [if_pos hw]
      exact ⟨fun h => by rw [if_pos h], fun h => by rw [if_neg h]⟩
    generalize (List.range v).map (lab0 out v) = L0 at w0
    refine wlk_seq fun X8 hn8 he8 hr8 => ?_
    refine wlk_sreg fun KY hKY => ?_
    simp only [go_sem, reduceIte, Nat.reduceEqDiff, reduceCtorEq, c_garlandref03_Without_r10]
    refine hKY _ ?_
    refine wlk_blk fun X9 hn9 he9 hf9 hr9 => ?_
    try simp only [go_sem, reduceIte, Nat.reduceEqDiff, reduceCtorEq]
    refine wlk_lp (α := List Int × Bool) [8, 9, 10, 11, 25, 34, 38, 43, 80] (fun (lab, ag) => [(5, .own (some 1) (ints lab)), (7, .sc (.bool ag))]) (fun (lab, ag) => []) (fun (lab, ag) q => q = labSum lab + ag.toNat ∧ LI v es (fun w => (w : Int) ∈ out) lab ∧ (ag = false → ∀ e ∈ es, lab.getD e.1 0 < 0 ∨ lab.getD e.2 0 < 0 ∨ lab.getD e.1 0 = lab.getD e.2 0)) ((L0, true)) (labSum L0 + 1) rfl (by first | (simp only [go_sem, reduceIte, Nat.reduceEqDiff, reduceCtorEq, updAll_cons, updAll_nil]; done) | with_reducible rfl | rfl) (⟨rfl, w0, (fun h => by cases h)⟩) ?_
    rintro ⟨lab, ag⟩ q ⟨hq, W, hfix⟩ X10 hn10 he10 hr10
    simp only [go_sem, reduceIte, Nat.reduceEqDiff, reduceCtorEq, updAll_cons, updAll_nil]
    refine wlk_seq fun X11 hn11 he11 hr11 => ?_
    refine wlk_sreg fun KY hKY => ?_
    simp only [go_sem, reduceIte, Nat.reduceEqDiff, reduceCtorEq, c_garlandref03_Without_r11]
    refine hKY _ ?_
    cases ag with
    | true =>
      have hq : q = labSum lab + 1 := hq
      refine wlk_cond1 (by first | rfl | (simp only [go_sem, reduceIte, Nat.reduceEqDiff, Nat.reduceBEq, reduceCtorEq, Nat.reduceLT, Nat.reduceLeDiff, Nat.reduceAdd, Nat.reduceSub, Nat.reduceMul, Nat.reduceDiv, Int.reduceAdd, Int.reduceNeg, Int.reduceEq, Int.reduceLT, Int.reduceLE]; try simp (disch := omega) only [decide_eq_true, decide_eq_false])) ?_
      refine wlk_skip ?_
      repeat (first | refine hn11 _ ?_ | refine he11 _ _ ?_ | refine he10 _ _ ?_ | refine hn9 _ ?_ | refine he9 _ ?_ | refine hf9 _ _ (by decide) ?_ | refine hn8 _ ?_ | refine he8 _ _ ?_ | refine hn5 _ ?_ | refine he5 _ _ ?_)
      refine wlk_blk fun X12 hn12 he12 hf12 hr12 => ?_
      refine wlk_sreg fun KY hKY => ?_
      simp only [go_sem, reduceIte, Nat.reduceEqDiff, reduceCtorEq, c_garlandref03_Without_r12]
      refine hKY _ ?_
      refine wlk_sreg fun KY hKY => ?_
      simp only [go_sem, reduceIte, Nat.reduceEqDiff, reduceCtorEq, c_garlandref03_Without_r13]
      refine hKY _ ?_
      simp only [go_sem, reduceIte, Nat.reduceEqDiff, reduceCtorEq]
      refine wlk_blk fun X13 hn13 he13 hf13 hr13 => ?_
      try simp only [go_sem, reduceIte, Nat.reduceEqDiff, Nat.reduceBEq, reduceCtorEq, Nat.reduceLT, Nat.reduceLeDiff, Nat.reduceAdd, Nat.reduceSub, Nat.reduceMul, Nat.reduceDiv, Int.reduceAdd, Int.reduceNeg, Int.reduceEq, Int.reduceLT, Int.reduceLE]
      refine wlk_lp (α := Nat × List Int × Bool) [9, 10, 11, 43, 80] (fun (k, lab', ag) => [(5, .own (some 1) (ints lab')), (7, .sc (.bool ag)), (8, .sc (.int .i64 (k : Int)))]) (fun (k, lab', ag) => []) (fun (k, lab', ag) q => k ≤ es.length ∧ q = es.length - k ∧ LI v es (fun w => (w : Int) ∈ out) lab' ∧ (ag = true → labSum lab' < labSum lab) ∧ (ag = false → ∀ e ∈ es.take k, lab'.getD e.1 0 < 0 ∨ lab'.getD e.2 0 < 0 ∨ lab'.getD e.1 0 = lab'.getD e.2 0) ∧ labSum lab' ≤ labSum lab) ((0, lab, false)) (es.length) rfl (by first | (simp only [go_sem, reduceIte, Nat.reduceEqDiff, reduceCtorEq, updAll_cons, updAll_nil]; done) | with_reducible rfl | rfl) (⟨Nat.zero_le _, rfl, W, (fun h => by cases h), (fun _ e he => by simp at he), Nat.le_refl _⟩) ?_
      rintro ⟨k, lab', ag⟩ q ⟨hk, rfl, W', h1, h2, h3⟩ X14 hn14 he14 hr14
      simp only [go_sem, reduceIte, Nat.reduceEqDiff, reduceCtorEq, updAll_cons, updAll_nil]
      refine wlk_seq fun X15 hn15 he15 hr15 => ?_
      refine wlk_sreg fun KY hKY => ?_
      simp only [go_sem, reduceIte, Nat.reduceEqDiff, reduceCtorEq, c_garlandref03_Without_r14, castE_len]
      refine hKY _ ?_
      by_cases hk2 : k < es.length
      · refine wlk_cond1 (by first | rfl | (simp only [go_sem, reduceIte, Nat.reduceEqDiff, reduceCtorEq]; try simp (disch := omega) only [decide_eq_true])) ?_
        refine wlk_skip ?_
        repeat (first | refine hn15 _ ?_ | refine he15 _ _ ?_ | refine he14 _ _ ?_ | refine hn13 _ ?_ | refine he13 _ ?_ | refine hf13 _ _ (by decide) ?_ | refine hn12 _ ?_ | refine he12 _ ?_ | refine hf12 _ _ (by decide) ?_ | refine hn11 _ ?_ | refine he11 _ _ ?_)
        refine wlk_seq fun X16 hn16 he16 hr16 => ?_
        refine wlk_blk fun X17 hn17 he17 hf17 hr17 => ?_
        have hx : es[k]? = some es[k] := List.getElem?_eq_getElem hk2
        have hy := g.ok es[k] (List.getElem_mem hk2)
        have hxm : es[k] ∈ es := List.getElem_mem hk2
        generalize es[k] = x at hx hy hxm
        obtain ⟨a, b⟩ := x
        simp only at hy
        have hx' := castE_get hx
        have hal : a < lab'.length := by rw [W'.len]; omega
        have hbl : b < lab'.length := by rw [W'.len]; omega
        have hb1 : k * 2 + 1 < es.length * 2 := by omega
        have hb2 : k * 2 < es.length * 2 := by omega
        have htk : ∀ e, e ∈ es.take (k + 1) → e ∈ es.take k ∨ e = (a, b) := fun e he => by
          rw [List.take_add_one, hx] at he
          simpa using he
        refine wlk_sdraw fun KY hKY => ?_
        simp only [go_sem, reduceIte, Nat.reduceEqDiff, Nat.reduceBEq, reduceCtorEq, c_garlandref03_Without_r15, castE_len, two_get0 hx', two_get1 hx', hb1]
        refine hKY _ ?_
        refine wlk_seq fun X18 hn18 he18 hr18 => ?_
        by_cases c1 : lab'.getD a 0 < 0
        · refine wlk_sdraw fun KY hKY => ?_
          simp only [go_sem, reduceIte, Nat.reduceEqDiff, reduceCtorEq, c_garlandref03_Without_r16, ints_get hal, hal, c1]
          refine hKY _ ?_
          refine wlk_cond1 (by first | rfl | (simp only [go_sem, reduceIte, Nat.reduceEqDiff, Nat.reduceBEq, reduceCtorEq, Nat.reduceLT, Nat.reduceLeDiff, Nat.reduceAdd, Nat.reduceSub, Nat.reduceMul, Nat.reduceDiv, Int.reduceAdd, Int.reduceNeg, Int.reduceEq, Int.reduceLT, Int.reduceLE]; try simp (disch := omega) only [decide_eq_true, decide_eq_false])) ?_
          refine wlk_exit ?_
          repeat (first | refine hn18 _ ?_ | refine he18 _ _ ?_ | refine hn17 _ ?_ | refine he17 _ ?_ | refine hf17 _ _ (by decide) ?_ | refine hn16 _ ?_ | refine he16 _ _ ?_ | refine hn15 _ ?_ | refine he15 _ _ ?_ | refine he14 _ _ ?_ | refine hn13 _ ?_ | refine he13 _ ?_ | refine hf13 _ _ (by decide) ?_ | refine hn12 _ ?_ | refine he12 _ ?_ | refine hf12 _ _ (by decide) ?_ | refine hn11 _ ?_ | refine he11 _ _ ?_ | refine he10 _ _ ?_ | refine hn9 _ ?_ | refine he9 _ ?_ | refine hf9 _ _ (by decide) ?_ | refine hn8 _ ?_ | refine he8 _ _ ?_ | refine hn5 _ ?_ | refine he5 _ _ ?_ | refine he4 _ _ ?_ | refine hn3 _ ?_ | refine he3 _ ?_ | refine hf3 _ _ (by decide) ?_ | refine hn2 _ ?_ | refine he2 _ _ ?_ | refine hn1 _ ?_ | refine he1 _ _ ?_)
          refine wlk_reg fun KY hKY => ?_
          simp only [go_sem, reduceIte, Nat.reduceEqDiff, reduceCtorEq, c_garlandref03_Without_r20, inc k (by omega)]
          refine hKY _ ?_
          repeat (first | refine hn18 _ ?_ | refine he18 _ _ ?_ | refine hn17 _ ?_ | refine he17 _ ?_ | refine hf17 _ _ (by decide) ?_ | refine hn16 _ ?_ | refine he16 _ _ ?_ | refine hn15 _ ?_ | refine he15 _ _ ?_)
          refine hn14 _ ((k + 1, lab', ag)) (es.length - (k + 1)) (by omega) (by first | (simp only [go_sem, reduceIte, Nat.reduceEqDiff, reduceCtorEq, updAll_cons, updAll_nil]; done) | with_reducible rfl | rfl) ?_
          refine ⟨hk2, rfl, W', h1, (fun h e he => ?_), h3⟩
          rcases htk e he with h' | rfl
          · exact h2 h e h'
          · simp only; omega
        · by_cases c2 : lab'.getD b 0 < 0
          · refine wlk_sdraw fun KY hKY => ?_
            simp only [go_sem, reduceIte, Nat.reduceEqDiff, reduceCtorEq, c_garlandref03_Without_r16, ints_get hal, ints_get hbl, hal, hbl, c1, c2]
            refine hKY _ ?_
            refine wlk_cond1 (by first | rfl | (simp only [go_sem, reduceIte, Nat.reduceEqDiff, Nat.reduceBEq, reduceCtorEq, Nat.reduceLT, Nat.reduceLeDiff, Nat.reduceAdd, Nat.reduceSub, Nat.reduceMul, Nat.reduceDiv, Int.reduceAdd, Int.reduceNeg, Int.reduceEq, Int.reduceLT, Int.reduceLE]; try simp (disch := omega) only [decide_eq_true, decide_eq_false])) ?_
            refine wlk_exit ?_
            repeat (first | refine hn18 _ ?_ | refine he18 _ _ ?_ | refine hn17 _ ?_ | refine he17 _ ?_ | refine hf17 _ _ (by decide) ?_ | refine hn16 _ ?_ | refine he16 _ _ ?_ | refine hn15 _ ?_ | refine he15 _ _ ?_ | refine he14 _ _ ?_ | refine hn13 _ ?_ | refine he13 _ ?_ | refine hf13 _ _ (by decide) ?_ | refine hn12 _ ?_ | refine he12 _ ?_ | refine hf12 _ _ (by decide) ?_ | refine hn11 _ ?_ | refine he11 _ _ ?_ | refine he10 _ _ ?_ | refine hn9 _ ?_ | refine he9 _ ?_ | refine hf9 _ _ (by decide) ?_ | refine hn8 _ ?_ | refine he8 _ _ ?_ | refine hn5 _ ?_ | refine he5 _ _ ?_ | refine he4 _ _ ?_ | refine hn3 _ ?_ | refine he3 _ ?_ | refine hf3 _ _ (by decide) ?_ | refine hn2 _ ?_ | refine he2 _ _ ?_ | refine hn1 _ ?_ | refine he1 _ _ ?_)
            refine wlk_reg fun KY hKY => ?_
            simp only [go_sem, reduceIte, Nat.reduceEqDiff, reduceCtorEq, c_garlandref03_Without_r20, inc k (by omega)]
            refine hKY _ ?_
            repeat (first | refine hn18 _ ?_ | refine he18 _ _ ?_ | refine hn17 _ ?_ | refine he17 _ ?_ | refine hf17 _ _ (by decide) ?_ | refine hn16 _ ?_ | refine he16 _ _ ?_ | refine hn15 _ ?_ | refine he15 _ _ ?_)
            refine hn14 _ ((k + 1, lab', ag)) (es.length - (k + 1)) (by omega) (by first | (simp only [go_sem, reduceIte, Nat.reduceEqDiff, reduceCtorEq, updAll_cons, updAll_nil]; done) | with_reducible rfl | rfl) ?_
            refine ⟨hk2, rfl, W', h1, (fun h e he => ?_), h3⟩
            rcases htk e he with h' | rfl
            · exact h2 h e h'
            · simp only; omega
          · by_cases c3 : lab'.getD a 0 = lab'.getD b 0
            · have c3' : decide (lab'.getD a 0 = lab'.getD b 0) = true := decide_eq_true c3
              refine wlk_sdraw fun KY hKY => ?_
              simp only [go_sem, reduceIte, Nat.reduceEqDiff, reduceCtorEq, c_garlandref03_Without_r16, ints_get hal, ints_get hbl, hal, hbl, c1, c2, c3']
              refine hKY _ ?_
              refine wlk_cond1 (by first | rfl | (simp only [go_sem, reduceIte, Nat.reduceEqDiff, Nat.reduceBEq, reduceCtorEq, Nat.reduceLT, Nat.reduceLeDiff, Nat.reduceAdd, Nat.reduceSub, Nat.reduceMul, Nat.reduceDiv, Int.reduceAdd, Int.reduceNeg, Int.reduceEq, Int.reduceLT, Int.reduceLE]; try simp (disch := omega) only [decide_eq_true, decide_eq_false])) ?_
              refine wlk_exit ?_
              repeat (first | refine hn18 _ ?_ | refine he18 _ _ ?_ | refine hn17 _ ?_ | refine he17 _ ?_ | refine hf17 _ _ (by decide) ?_ | refine hn16 _ ?_ | refine he16 _ _ ?_ | refine hn15 _ ?_ | refine he15 _ _ ?_ | refine he14 _ _ ?_ | refine hn13 _ ?_ | refine he13 _ ?_ | refine hf13 _ _ (by decide) ?_ | refine hn12 _ ?_ | refine he12 _ ?_ | refine hf12 _ _ (by decide) ?_ | refine hn11 _ ?_ | refine he11 _ _ ?_ | refine he10 _ _ ?_ | refine hn9 _ ?_ | refine he9 _ ?_ | refine hf9 _ _ (by decide) ?_ | refine hn8 _ ?_ | refine he8 _ _ ?_ | refine hn5 _ ?_ | refine he5 _ _ ?_ | refine he4 _ _ ?_ | refine hn3 _ ?_ | refine he3 _ ?_ | refine hf3 _ _ (by decide) ?_ | refine hn2 _ ?_ | refine he2 _ _ ?_ | refine hn1 _ ?_ | refine he1 _ _ ?_)
              refine wlk_reg fun KY hKY => ?_
              simp only [go_sem, reduceIte, Nat.reduceEqDiff, reduceCtorEq, c_garlandref03_Without_r20, inc k (by omega)]
              refine hKY _ ?_
              repeat (first | refine hn18 _ ?_ | refine he18 _ _ ?_ | refine hn17 _ ?_ | refine he17 _ ?_ | refine hf17 _ _ (by decide) ?_ | refine hn16 _ ?_ | refine he16 _ _ ?_ | refine hn15 _ ?_ | refine he15 _ _ ?_)
              refine hn14 _ ((k + 1, lab', ag)) (es.length - (k + 1)) (by omega) (by first | (simp only [go_sem, reduceIte, Nat.reduceEqDiff, reduceCtorEq, updAll_cons, updAll_nil]; done) | with_reducible rfl | rfl) ?_
              refine ⟨hk2, rfl, W', h1, (fun h e he => ?_), h3⟩
              rcases htk e he with h' | rfl
              · exact h2 h e h'
              · simp only; omega
            · refine wlk_sdraw fun KY hKY => ?_
              simp only [go_sem, reduceIte, Nat.reduceEqDiff, reduceCtorEq, c_garlandref03_Without_r16, ints_get hal, ints_get hbl, hal, hbl, c1, c2, c3]
              refine hKY _ ?_
              refine wlk_cond0 (by first | rfl | (simp only [go_sem, reduceIte, Nat.reduceEqDiff, Nat.reduceBEq, reduceCtorEq, Nat.reduceLT, Nat.reduceLeDiff, Nat.reduceAdd, Nat.reduceSub, Nat.reduceMul, Nat.reduceDiv, Int.reduceAdd, Int.reduceNeg, Int.reduceEq, Int.reduceLT, Int.reduceLE]; try simp (disch := omega) only [decide_eq_true, decide_eq_false])) ?_
              refine wlk_skip ?_
              repeat (first | refine hn18 _ ?_ | refine he18 _ _ ?_ | refine hn17 _ ?_ | refine he17 _ ?_ | refine hf17 _ _ (by decide) ?_ | refine hn16 _ ?_ | refine he16 _ _ ?_ | refine hn15 _ ?_ | refine he15 _ _ ?_ | refine he14 _ _ ?_ | refine hn13 _ ?_ | refine he13 _ ?_ | refine hf13 _ _ (by decide) ?_ | refine hn12 _ ?_ | refine he12 _ ?_ | refine hf12 _ _ (by decide) ?_ | refine hn11 _ ?_ | refine he11 _ _ ?_)
              refine wlk_sdraw fun KY hKY => ?_
              simp only [go_sem, reduceIte, Nat.reduceEqDiff, Nat.reduceBEq, reduceCtorEq, c_garlandref03_Without_r17, ints_get hal, ints_get hbl, hal, hbl]
              refine hKY _ ?_
              have hfold : (lab'.set a (min (lab'.getD a 0) (lab'.getD b 0))).set b (min (lab'.getD a 0) (lab'.getD b 0)) = lab2 lab' a b := rfl
              refine wlk_sreg fun KY hKY => ?_
              simp only [go_sem, reduceIte, Nat.reduceEqDiff, reduceCtorEq, c_garlandref03_Without_r18, hal, hbl, ints_len, hfold]
              refine hKY _ ?_
              refine wlk_reg fun KY hKY => ?_
              simp only [go_sem, reduceIte, Nat.reduceEqDiff, reduceCtorEq, c_garlandref03_Without_r19]
              refine hKY _ ?_
              repeat (first | refine hn18 _ ?_ | refine he18 _ _ ?_ | refine hn17 _ ?_ | refine he17 _ ?_ | refine hf17 _ _ (by decide) ?_ | refine hn16 _ ?_ | refine he16 _ _ ?_ | refine hn15 _ ?_ | refine he15 _ _ ?_ | refine he14 _ _ ?_ | refine hn13 _ ?_ | refine he13 _ ?_ | refine hf13 _ _ (by decide) ?_ | refine hn12 _ ?_ | refine he12 _ ?_ | refine hf12 _ _ (by decide) ?_ | refine hn11 _ ?_ | refine he11 _ _ ?_)
              have hlt := lab2_sum hal hbl (by omega) c1 c2 c3
              refine wlk_reg fun KY hKY => ?_
              simp only [go_sem, reduceIte, Nat.reduceEqDiff, reduceCtorEq, c_garlandref03_Without_r20, inc k (by omega)]
              refine hKY _ ?_
              repeat (first | refine hn18 _ ?_ | refine he18 _ _ ?_ | refine hn17 _ ?_ | refine he17 _ ?_ | refine hf17 _ _ (by decide) ?_ | refine hn16 _ ?_ | refine he16 _ _ ?_ | refine hn15 _ ?_ | refine he15 _ _ ?_)
              refine hn14 _ ((k + 1, lab2 lab' a b, true)) (es.length - (k + 1)) (by omega) (by first | (simp only [go_sem, reduceIte, Nat.reduceEqDiff, reduceCtorEq, updAll_cons, updAll_nil]; done) | with_reducible rfl | rfl) ?_
              exact ⟨hk2, rfl, W'.step (.inl hxm) (by omega) (by omega) c1 c2, fun _ => by omega, (fun h => by cases h), by omega⟩
      · refine wlk_cond0 (by first | rfl | (simp only [go_sem, reduceIte, Nat.reduceEqDiff, reduceCtorEq]; try simp (disch := omega) only [decide_eq_false])) ?_
        refine wlk_exit ?_
        repeat (first | refine hn15 _ ?_ | refine he15 _ _ ?_ | refine he14 _ _ ?_ | refine hn13 _ ?_ | refine he13 _ ?_ | refine hf13 _ _ (by decide) ?_ | refine hn12 _ ?_ | refine he12 _ ?_ | refine hf12 _ _ (by decide) ?_ | refine hn11 _ ?_ | refine he11 _ _ ?_ | refine he10 _ _ ?_ | refine hn9 _ ?_ | refine he9 _ ?_ | refine hf9 _ _ (by decide) ?_ | refine hn8 _ ?_ | refine he8 _ _ ?_ | refine hn5 _ ?_ | refine he5 _ _ ?_ | refine he4 _ _ ?_ | refine hn3 _ ?_ | refine he3 _ ?_ | refine hf3 _ _ (by decide) ?_ | refine hn2 _ ?_ | refine he2 _ _ ?_ | refine hn1 _ ?_ | refine he1 _ _ ?_)
        obtain rfl : k = es.length := by omega
        rw [List.take_length] at h2
        cases ag with
        | true =>
          have := h1 rfl
          repeat (first | refine hn15 _ ?_ | refine he15 _ _ ?_ | refine he14 _ _ ?_ | refine hn13 _ ?_ | refine he13 _ ?_ | refine hf13 _ _ (by decide) ?_ | refine hn12 _ ?_ | refine he12 _ ?_ | refine hf12 _ _ (by decide) ?_ | refine hn11 _ ?_ | refine he11 _ _ ?_)
          refine hn10 _ ((lab', true)) (labSum lab' + 1) (by omega) (by first | (simp only [go_sem, reduceIte, Nat.reduceEqDiff, reduceCtorEq, updAll_cons, updAll_nil]; done) | with_reducible rfl | rfl) ?_
          exact ⟨rfl, W', (fun h => by cases h)⟩
        | false =>
          repeat (first | refine hn15 _ ?_ | refine he15 _ _ ?_ | refine he14 _ _ ?_ | refine hn13 _ ?_ | refine he13 _ ?_ | refine hf13 _ _ (by decide) ?_ | refine hn12 _ ?_ | refine he12 _ ?_ | refine hf12 _ _ (by decide) ?_ | refine hn11 _ ?_ | refine he11 _ _ ?_)
          refine hn10 _ ((lab', false)) (labSum lab') (by omega) (by first | (simp only [go_sem, reduceIte, Nat.reduceEqDiff, reduceCtorEq, updAll_cons, updAll_nil]; done) | with_reducible rfl | rfl) ?_
          exact ⟨rfl, W', fun _ => h2 rfl⟩
    | false =>
      refine wlk_cond0 (by first | rfl | (simp only [go_sem, reduceIte, Nat.reduceEqDiff, Nat.reduceBEq, reduceCtorEq, Nat.reduceLT, Nat.reduceLeDiff, Nat.reduceAdd, Nat.reduceSub, Nat.reduceMul, Nat.reduceDiv, Int.reduceAdd, Int.reduceNeg, Int.reduceEq, Int.reduceLT, Int.reduceLE]; try simp (disch := omega) only [decide_eq_true, decide_eq_false])) ?_
      refine wlk_exit ?_
      repeat (first | refine hn11 _ ?_ | refine he11 _ _ ?_ | refine he10 _ _ ?_ | refine hn9 _ ?_ | refine he9 _ ?_ | refine hf9 _ _ (by decide) ?_ | refine hn8 _ ?_ | refine he8 _ _ ?_ | refine hn5 _ ?_ | refine he5 _ _ ?_ | refine he4 _ _ ?_ | refine hn3 _ ?_ | refine he3 _ ?_ | refine hf3 _ _ (by decide) ?_ | refine hn2 _ ?_ | refine he2 _ _ ?_ | refine hn1 _ ?_ | refine he1 _ _ ?_)
      have hps := W.pieces g.adj_lt (hfix rfl)
      refine wlk_sreg fun KY hKY => ?_
      simp only [go_sem, reduceIte, Nat.reduceEqDiff, reduceCtorEq, c_garlandref03_Without_r21]
      refine hKY _ ?_
      simp only [go_sem, reduceIte, Nat.reduceEqDiff, reduceCtorEq]
      refine sem_nil [0, 12] 1 (by simp only [go_sem, reduceIte, Nat.reduceEqDiff, reduceCtorEq]) ?_
      simp only [go_sem, reduceIte, Nat.reduceEqDiff, reduceCtorEq]
      rw [show AVal.own (some 1) [] = .own (some 1) (rowsO (byLabel v lab 0)) from rfl]
      refine wlk_seq fun X19 hn19 he19 hr19 => ?_
      refine wlk_sreg fun KY hKY => ?_
      simp only [go_sem, reduceIte, Nat.reduceEqDiff, reduceCtorEq, c_garlandref03_Without_r22]
      refine hKY _ ?_
      refine wlk_blk fun X20 hn20 he20 hf20 hr20 => ?_
      try simp only [go_sem, reduceIte, Nat.reduceEqDiff, reduceCtorEq]
      refine wlk_lp (α := Nat) [8, 9, 10, 11, 14, 15, 25, 34, 38, 43, 80, 101, 109, 113, 121] (fun u => [(12, .own (some 1) (rowsO (byLabel v lab u))), (13, .sc (.int .i64 (u : Int)))]) (fun u => []) (fun u q => u ≤ v ∧ q = v - u) (0) (v) rfl (by first | (simp only [go_sem, reduceIte, Nat.reduceEqDiff, reduceCtorEq, updAll_cons, updAll_nil]; done) | with_reducible rfl | rfl) (⟨by omega, rfl⟩) ?_
      rintro u q ⟨hu, rfl⟩ X21 hn21 he21 hr21
      simp only [go_sem, reduceIte, Nat.reduceEqDiff, reduceCtorEq, updAll_cons, updAll_nil]
      refine wlk_seq fun X22 hn22 he22 hr22 => ?_
      refine wlk_sreg fun KY hKY => ?_
      simp only [go_sem, reduceIte, Nat.reduceEqDiff, reduceCtorEq, c_garlandref03_Without_r23]
      refine hKY _ ?_
      by_cases hu2 : u < v
      · refine wlk_cond1 (by first | rfl | (simp only [go_sem, reduceIte, Nat.reduceEqDiff, reduceCtorEq]; try simp (disch := omega) only [decide_eq_true])) ?_
        refine wlk_skip ?_
        repeat (first | refine hn22 _ ?_ | refine he22 _ _ ?_ | refine he21 _ _ ?_ | refine hn20 _ ?_ | refine he20 _ ?_ | refine hf20 _ _ (by decide) ?_ | refine hn19 _ ?_ | refine he19 _ _ ?_ | refine hn11 _ ?_ | refine he11 _ _ ?_)
        refine wlk_seq fun X23 hn23 he23 hr23 => ?_
        refine wlk_blk fun X24 hn24 he24 hf24 hr24 => ?_
        refine wlk_seq fun X25 hn25 he25 hr25 => ?_
        have hul : u < lab.length := by rw [W.len]; exact hu2
        have hstp := byLabel_up v lab u
        refine wlk_sreg fun KY hKY => ?_
        simp only [go_sem, reduceIte, Nat.reduceEqDiff, reduceCtorEq, c_garlandref03_Without_r24, ints_get hul, hul]
        refine hKY _ ?_
        by_cases c : lab.getD u 0 = (u : Int)
        · rw [if_pos c] at hstp
          refine wlk_cond0 (by first | rfl | (simp only [go_sem, reduceIte, Nat.reduceEqDiff, reduceCtorEq, c, ne_eq, not_true_eq_false]; try simp (disch := omega) only [decide_eq_true, decide_eq_false])) ?_
          refine wlk_skip ?_
          repeat (first | refine hn25 _ ?_ | refine he25 _ _ ?_ | refine hn24 _ ?_ | refine he24 _ ?_ | refine hf24 _ _ (by decide) ?_ | refine hn23 _ ?_ | refine he23 _ _ ?_ | refine hn22 _ ?_ | refine he22 _ _ ?_ | refine he21 _ _ ?_ | refine hn20 _ ?_ | refine he20 _ ?_ | refine hf20 _ _ (by decide) ?_ | refine hn19 _ ?_ | refine he19 _ _ ?_ | refine hn11 _ ?_ | refine he11 _ _ ?_)
          refine wlk_sreg fun KY hKY => ?_
          simp only [go_sem, reduceIte, Nat.reduceEqDiff, reduceCtorEq, c_garlandref03_Without_r25]
          refine hKY _ ?_
          simp only [go_sem, reduceIte, Nat.reduceEqDiff, reduceCtorEq]
          refine sem_nil [0, 14] 1 (by simp only [go_sem, reduceIte, Nat.reduceEqDiff, reduceCtorEq]) ?_
          simp only [go_sem, reduceIte, Nat.reduceEqDiff, reduceCtorEq]
          rw [show AVal.own (some 1) [] = .own (some 1) (nats (upTo lab u 0)) from rfl]
          refine wlk_seq fun X26 hn26 he26 hr26 => ?_
          refine wlk_sreg fun KY hKY => ?_
          simp only [go_sem, reduceIte, Nat.reduceEqDiff, reduceCtorEq, c_garlandref03_Without_r26]
          refine hKY _ ?_
          refine wlk_blk fun X27 hn27 he27 hf27 hr27 => ?_
          try simp only [go_sem, reduceIte, Nat.reduceEqDiff, reduceCtorEq]
          refine wlk_lp (α := Nat) [113, 121] (fun w => [(14, .own (some 1) (nats (upTo lab u w))), (15, .sc (.int .i64 (w : Int)))]) (fun w => []) (fun w q => w ≤ v ∧ q = v - w) (0) (v) rfl (by first | (simp only [go_sem, reduceIte, Nat.reduceEqDiff, reduceCtorEq, updAll_cons, updAll_nil]; done) | with_reducible rfl | rfl) (⟨by omega, rfl⟩) ?_
          rintro w q ⟨hw, rfl⟩ X28 hn28 he28 hr28
          simp only [go_sem, reduceIte, Nat.reduceEqDiff, reduceCtorEq, updAll_cons, updAll_nil]
          have hfs := upTo_step lab u w
          have hfl := upTo_len lab u w
          refine wlk_seq fun X29 hn29 he29 hr29 => ?_
          refine wlk_sreg fun KY hKY => ?_
          simp only [go_sem, reduceIte, Nat.reduceEqDiff, reduceCtorEq, c_garlandref03_Without_r27]
          refine hKY _ ?_
          by_cases hw2 : w < v
          · refine wlk_cond1 (by first | rfl | (simp only [go_sem, reduceIte, Nat.reduceEqDiff, reduceCtorEq]; try simp (disch := omega) only [decide_eq_true])) ?_
            refine wlk_skip ?_
            repeat (first | refine hn29 _ ?_ | refine he29 _ _ ?_ | refine he28 _ _ ?_ | refine hn27 _ ?_ | refine he27 _ ?_ | refine hf27 _ _ (by decide) ?_ | refine hn26 _ ?_ | refine he26 _ _ ?_ | refine hn25 _ ?_ | refine he25 _ _ ?_ | refine hn24 _ ?_ | refine he24 _ ?_ | refine hf24 _ _ (by decide) ?_ | refine hn23 _ ?_ | refine he23 _ _ ?_ | refine hn22 _ ?_ | refine he22 _ _ ?_)
            refine wlk_seq fun X30 hn30 he30 hr30 => ?_
            refine wlk_blk fun X31 hn31 he31 hf31 hr31 => ?_
            have hwl : w < lab.length := by rw [W.len]; exact hw2
            have hby2 : ((upTo lab u w).length + 1) * 8 ≤ 140737488355328 := by omega
            refine wlk_sreg fun KY hKY => ?_
            simp only [go_sem, reduceIte, Nat.reduceEqDiff, reduceCtorEq, c_garlandref03_Without_r28, ints_get hwl, hwl]
            refine hKY _ ?_
            by_cases c4 : lab.getD w 0 = (u : Int)
            · rw [if_pos c4] at hfs
              refine wlk_cond1 (by first | rfl | (simp only [go_sem, reduceIte, Nat.reduceEqDiff, reduceCtorEq, c4]; try simp (disch := omega) only [decide_eq_true, decide_eq_false])) ?_
              refine wlk_reg fun KY hKY => ?_
              simp only [go_sem, reduceIte, Nat.reduceEqDiff, reduceCtorEq, Nat.reduceLT, c_garlandref03_Without_r29, nats_snoc, hby2]
              refine hKY _ ?_
              repeat (first | refine hn31 _ ?_ | refine he31 _ ?_ | refine hf31 _ _ (by decide) ?_ | refine hn30 _ ?_ | refine he30 _ _ ?_ | refine hn29 _ ?_ | refine he29 _ _ ?_ | refine he28 _ _ ?_ | refine hn27 _ ?_ | refine he27 _ ?_ | refine hf27 _ _ (by decide) ?_ | refine hn26 _ ?_ | refine he26 _ _ ?_ | refine hn25 _ ?_ | refine he25 _ _ ?_ | refine hn24 _ ?_ | refine he24 _ ?_ | refine hf24 _ _ (by decide) ?_ | refine hn23 _ ?_ | refine he23 _ _ ?_ | refine hn22 _ ?_ | refine he22 _ _ ?_)
              refine wlk_reg fun KY hKY => ?_
              simp only [go_sem, reduceIte, Nat.reduceEqDiff, reduceCtorEq, c_garlandref03_Without_r30, inc w (by omega)]
              refine hKY _ ?_
              repeat (first | refine hn31 _ ?_ | refine he31 _ ?_ | refine hf31 _ _ (by decide) ?_ | refine hn30 _ ?_ | refine he30 _ _ ?_ | refine hn29 _ ?_ | refine he29 _ _ ?_)
              refine hn28 _ (w + 1) (v - (w + 1)) (by omega) (by first | (simp only [go_sem, reduceIte, Nat.reduceEqDiff, reduceCtorEq, updAll_cons, updAll_nil, hfs]; done) | with_reducible rfl | rfl) ?_
              exact ⟨hw2, rfl⟩
            · rw [if_neg c4] at hfs
              refine wlk_cond0 (by first | rfl | (simp only [go_sem, reduceIte, Nat.reduceEqDiff, reduceCtorEq, c4]; try simp (disch := omega) only [decide_eq_true, decide_eq_false])) ?_
              refine wlk_skip ?_
              repeat (first | refine hn31 _ ?_ | refine he31 _ ?_ | refine hf31 _ _ (by decide) ?_ | refine hn30 _ ?_ | refine he30 _ _ ?_ | refine hn29 _ ?_ | refine he29 _ _ ?_ | refine he28 _ _ ?_ | refine hn27 _ ?_ | refine he27 _ ?_ | refine hf27 _ _ (by decide) ?_ | refine hn26 _ ?_ | refine he26 _ _ ?_ | refine hn25 _ ?_ | refine he25 _ _ ?_ | refine hn24 _ ?_ | refine he24 _ ?_ | refine hf24 _ _ (by decide) ?_ | refine hn23 _ ?_ | refine he23 _ _ ?_ | refine hn22 _ ?_ | refine he22 _ _ ?_)
              refine wlk_reg fun KY hKY => ?_
              simp only [go_sem, reduceIte, Nat.reduceEqDiff, reduceCtorEq, c_garlandref03_Without_r30, inc w (by omega)]
              refine hKY _ ?_
              repeat (first | refine hn31 _ ?_ | refine he31 _ ?_ | refine hf31 _ _ (by decide) ?_ | refine hn30 _ ?_ | refine he30 _ _ ?_ | refine hn29 _ ?_ | refine he29 _ _ ?_)
              refine hn28 _ (w + 1) (v - (w + 1)) (by omega) (by first | (simp only [go_sem, reduceIte, Nat.reduceEqDiff, reduceCtorEq, updAll_cons, updAll_nil, hfs]; done) | with_reducible rfl | rfl) ?_
              exact ⟨hw2, rfl⟩
          · refine wlk_cond0 (by first | rfl | (simp only [go_sem, reduceIte, Nat.reduceEqDiff, reduceCtorEq]; try simp (disch := omega) only [decide_eq_false])) ?_
            refine wlk_exit ?_
            repeat (first | refine hn29 _ ?_ | refine he29 _ _ ?_ | refine he28 _ _ ?_ | refine hn27 _ ?_ | refine he27 _ ?_ | refine hf27 _ _ (by decide) ?_ | refine hn26 _ ?_ | refine he26 _ _ ?_ | refine hn25 _ ?_ | refine he25 _ _ ?_ | refine hn24 _ ?_ | refine he24 _ ?_ | refine hf24 _ _ (by decide) ?_ | refine hn23 _ ?_ | refine he23 _ _ ?_ | refine hn22 _ ?_ | refine he22 _ _ ?_ | refine he21 _ _ ?_ | refine hn20 _ ?_ | refine he20 _ ?_ | refine hf20 _ _ (by decide) ?_ | refine hn19 _ ?_ | refine he19 _ _ ?_ | refine hn11 _ ?_ | refine he11 _ _ ?_ | refine he10 _ _ ?_ | refine hn9 _ ?_ | refine he9 _ ?_ | refine hf9 _ _ (by decide) ?_ | refine hn8 _ ?_ | refine he8 _ _ ?_ | refine hn5 _ ?_ | refine he5 _ _ ?_)
            obtain rfl : w = v := by omega
            have hbl := byLabel_len w lab u
            have hby3 : ((byLabel w lab u).length + 1) * 24 ≤ 140737488355328 := by omega
            refine wlk_reg fun KY hKY => ?_
            simp only [go_sem, reduceIte, Nat.reduceEqDiff, Nat.reduceBEq, reduceCtorEq, Nat.reduceLT, c_garlandref03_Without_r31, rowsO_snoc, hby3, ← hstp]
            refine hKY _ ?_
            repeat (first | refine hn29 _ ?_ | refine he29 _ _ ?_ | refine he28 _ _ ?_ | refine hn27 _ ?_ | refine he27 _ ?_ | refine hf27 _ _ (by decide) ?_ | refine hn26 _ ?_ | refine he26 _ _ ?_ | refine hn25 _ ?_ | refine he25 _ _ ?_ | refine hn24 _ ?_ | refine he24 _ ?_ | refine hf24 _ _ (by decide) ?_ | refine hn23 _ ?_ | refine he23 _ _ ?_ | refine hn22 _ ?_ | refine he22 _ _ ?_)
            refine wlk_reg fun KY hKY => ?_
            simp only [go_sem, reduceIte, Nat.reduceEqDiff, reduceCtorEq, c_garlandref03_Without_r32, inc u (by omega)]
            refine hKY _ ?_
            repeat (first | refine hn29 _ ?_ | refine he29 _ _ ?_ | refine he28 _ _ ?_ | refine hn27 _ ?_ | refine he27 _ ?_ | refine hf27 _ _ (by decide) ?_ | refine hn26 _ ?_ | refine he26 _ _ ?_ | refine hn25 _ ?_ | refine he25 _ _ ?_ | refine hn24 _ ?_ | refine he24 _ ?_ | refine hf24 _ _ (by decide) ?_ | refine hn23 _ ?_ | refine he23 _ _ ?_ | refine hn22 _ ?_ | refine he22 _ _ ?_)
            refine hn21 _ (u + 1) (w - (u + 1)) (by omega) (by first | (simp only [go_sem, reduceIte, Nat.reduceEqDiff, reduceCtorEq, updAll_cons, updAll_nil]; done) | with_reducible rfl | rfl) ?_
            exact ⟨hu2, rfl⟩
        · rw [if_neg c] at hstp
          refine wlk_cond1 (by first | rfl | (simp only [go_sem, reduceIte, Nat.reduceEqDiff, reduceCtorEq, c, ne_eq, not_false_eq_true]; try simp (disch := omega) only [decide_eq_true, decide_eq_false])) ?_
          refine wlk_exit ?_
          repeat (first | refine hn25 _ ?_ | refine he25 _ _ ?_ | refine hn24 _ ?_ | refine he24 _ ?_ | refine hf24 _ _ (by decide) ?_ | refine hn23 _ ?_ | refine he23 _ _ ?_ | refine hn22 _ ?_ | refine he22 _ _ ?_ | refine he21 _ _ ?_ | refine hn20 _ ?_ | refine he20 _ ?_ | refine hf20 _ _ (by decide) ?_ | refine hn19 _ ?_ | refine he19 _ _ ?_ | refine hn11 _ ?_ | refine he11 _ _ ?_ | refine he10 _ _ ?_ | refine hn9 _ ?_ | refine he9 _ ?_ | refine hf9 _ _ (by decide) ?_ | refine hn8 _ ?_ | refine he8 _ _ ?_ | refine hn5 _ ?_ | refine he5 _ _ ?_ | refine he4 _ _ ?_ | refine hn3 _ ?_ | refine he3 _ ?_ | refine hf3 _ _ (by decide) ?_ | refine hn2 _ ?_ | refine he2 _ _ ?_ | refine hn1 _ ?_ | refine he1 _ _ ?_)
          rw [← hstp]
          refine wlk_reg fun KY hKY => ?_
          simp only [go_sem, reduceIte, Nat.reduceEqDiff, reduceCtorEq, c_garlandref03_Without_r32, inc u (by omega)]
          refine hKY _ ?_
          repeat (first | refine hn25 _ ?_ | refine he25 _ _ ?_ | refine hn24 _ ?_ | refine he24 _ ?_ | refine hf24 _ _ (by decide) ?_ | refine hn23 _ ?_ | refine he23 _ _ ?_ | refine hn22 _ ?_ | refine he22 _ _ ?_)
          refine hn21 _ (u + 1) (v - (u + 1)) (by omega) (by first | (simp only [go_sem, reduceIte, Nat.reduceEqDiff, reduceCtorEq, updAll_cons, updAll_nil]; done) | with_reducible rfl | rfl) ?_
          exact ⟨hu2, rfl⟩
      · refine wlk_cond0 (by first | rfl | (simp only [go_sem, reduceIte, Nat.reduceEqDiff, reduceCtorEq]; try simp (disch := omega) only [decide_eq_false])) ?_
        refine wlk_exit ?_
        repeat (first | refine hn22 _ ?_ | refine he22 _ _ ?_ | refine he21 _ _ ?_ | refine hn20 _ ?_ | refine he20 _ ?_ | refine hf20 _ _ (by decide) ?_ | refine hn19 _ ?_ | refine he19 _ _ ?_ | refine hn11 _ ?_ | refine he11 _ _ ?_ | refine he10 _ _ ?_ | refine hn9 _ ?_ | refine he9 _ ?_ | refine hf9 _ _ (by decide) ?_ | refine hn8 _ ?_ | refine he8 _ _ ?_ | refine hn5 _ ?_ | refine he5 _ _ ?_ | refine he4 _ _ ?_ | refine hn3 _ ?_ | refine he3 _ ?_ | refine hf3 _ _ (by decide) ?_ | refine hn2 _ ?_ | refine he2 _ _ ?_ | refine hn1 _ ?_ | refine he1 _ _ ?_)
        obtain rfl : u = v := by omega
        refine wlk_sreg fun KY hKY => ?_
        simp only [go_sem, reduceIte, Nat.reduceEqDiff, reduceCtorEq, c_garlandref03_Without_r33]
        refine hKY _ ?_
        refine wlk_ret ?_
        repeat (first | refine hr22 _ ?_ | refine hr21 _ ?_ | refine hr20 _ ?_ | refine hr19 _ ?_ | refine hr11 _ ?_ | refine hr10 _ ?_ | refine hr9 _ ?_ | refine hr8 _ ?_ | refine hr5 _ ?_ | refine hr4 _ ?_ | refine hr3 _ ?_ | refine hr2 _ ?_ | refine hr1 _ ?_)
        simp only [go_sem, reduceIte, Nat.reduceEqDiff, reduceCtorEq]
        exact ⟨⟨_, hps, rfl⟩, rfl⟩
end Go.Proofs.Ytepjcfbigcfkfaa
set_option maxRecDepth 100000
set_option maxHeartbeats 2000000
namespace Go.Proofs.Ytepjcfbigcfkfaa
open Go Go.Ga Go.Ga.Gl
def PsOf (n : Int) (es : List (Int × Int)) (out : List Int) (ps : List (List Nat)) : Prop :=
  (rightB n es = true ∧ ∃ (N : Nat) (es' : Es), n = N ∧ es = castE es' ∧ GR N es' ∧ IsPieces N es' (fun v => (v : Int) ∈ out) ps) ∨ (rightB n es = false ∧ ps = [])
theorem castE_inj : ∀ {l m : Es}, castE l = castE m → l = m
  | [], [], _ => rfl
  | [], _ :: _, h => by simp [castE] at h
  | _ :: _, [], h => by simp [castE] at h
  | (a, b) :: l, (c, d) :: m, h => by
    simp only [castE, List.map_cons, List.cons.injEq, Prod.mk.injEq] at h
    obtain ⟨⟨h1, h2⟩, h3⟩ := h
    rw [castE_inj (l := l) (m := m) h3, show a = c by omega, show b = d by omega]
theorem PsOf.unique {n : Int} {es : List (Int × Int)} {out : List Int} {ps qs : List (List Nat)} (h : PsOf n es out ps) (h' : PsOf n es out qs) : ps = qs := by
  rcases h with ⟨r, N, es', rfl, rfl, g, P⟩ | ⟨r, rfl⟩
  · rcases h' with ⟨_, N', es'', e1, e2, _, Q⟩ | ⟨r', _⟩
    · obtain rfl : N = N' := by omega
      rw [← castE_inj e2] at Q
      exact P.unique g.adj_lt Q
    · rw [r] at r'; cases r'
  · rcases h' with ⟨r', _⟩ | ⟨_, rfl⟩
    · rw [r] at r'; cases r'
    · rfl
theorem PsOf.len {n : Int} {es : List (Int × Int)} {out : List Int} {ps : List (List Nat)} (h : PsOf n es out ps) : ps.length ≤ 4096 ∧ ∀ p ∈ ps, p.length ≤ 4096 := by
  rcases h with ⟨_, N, es', _, _, g, P⟩ | ⟨_, rfl⟩
  · have := g.hn
    exact ⟨Nat.le_trans (pieces_len P) this, fun p hp => Nat.le_trans (piece_len P hp) this⟩
  · exact ⟨by simp, fun p hp => by simp at hp⟩
theorem PsOf.disj {n : Int} {es : List (Int × Int)} {out : List Int} {ps : List (List Nat)} (h : PsOf n es out ps) : ps.Pairwise fun p q => ∀ v ∈ p, v ∉ q := by
  rcases h with ⟨_, N, es', _, _, g, P⟩ | ⟨_, rfl⟩
  · exact P.disj
  · exact .nil
end Go.Proofs.Ytepjcfbigcfkfaa
