/- Values, objects, and code by what it leads to: a library of this claim's own. No condition. -/
import Derived.Below
import Derived.Calls
import Derived.ChangeOld
import Derived.ChangeSame
import Derived.ChangeShapes
import Derived.Deep.LoopGhost
import Derived.Laws.Append
import Derived.Laws.AppendOwn
import Derived.Laws.Cells
import Derived.Laws.CopyRow
import Derived.Laws.Entries
import Derived.Laws.MakeOwn
import Derived.Laws.Tables
import Derived.Laws.Wrap64
import Derived.Orders
import Derived.RowKit
import Derived.Tactics
import Derived.WideShapes
import Derived.IntWalk
import Derived.Laws.IdiomStrings
import Derived.JoinedCond
import Derived.OpenShut
import Derived.ProofKit
import Derived.WalkKit
import Derived.KernelRfl
set_option linter.all false


namespace Go.Ga
open Go
inductive za where
 |sc (v:Value)
 |agg (cs:List za)
 |imm (sz:Nat) (cs:List za)
 |own (hd:Option Nat) (cs:List za)
 |sl (id off len sz:Nat)
 |ptr (id off:Nat)
 |ia (cs:List za)
 |fn (f:Fn) (first captured:List za)
 |iface (t:TypeId) (v:za)
 |tup (vs:List za)
 |at_ (p:List Nat)
 |addr (p:List Nat) (k:Nat)
 |mp (ks:List Int)
 |dead
 deriving Inhabited
structure Env where
 w:World
 O:Nat→Option (List Nat)
 ρ:Nat→Nat
 β:Nat→Nat
 κ:Nat→Nat
 n:Nat
def KX (ks:List Int):List (Value×Value):=ks.map fun n=>(.int .i64 n,.bool true)
def Jw (w:World)(b:Nat)(arr:Array Value)(T:TypeId):Prop:=∃fz:Nat×Nat,w.heap[b]?=some (.cells arr T fz)∧(arr.size≤fz.1∨fz.1=fz.2)
theorem Jw.of {w:World}{b:Nat}{arr:Array Value}{T:TypeId}(h:w.heap[b]?=some (.cells arr T (0,0))):Jw w b arr T:=⟨(0,0),h,.inr rfl⟩
theorem Jw.keep {w w':World}{b:Nat}{arr:Array Value}{T:TypeId}(h:Jw w b arr T)(e:w'.heap[b]?=w.heap[b]?):Jw w' b arr T:=by
 obtain⟨fz,h1,h2⟩:=h
 exact⟨fz,e.trans h1,h2⟩
theorem Jw.cell {w:World}{b k:Nat}{arr:Array Value}{T:TypeId}(h:Jw w b arr T):w.cell? ⟨b,k,none⟩=arr[k]?:=by
 obtain⟨fz,h1,_⟩:=h
 simp[World.cell?,h1]
theorem Jw.thaw {w:World}{b k:Nat}{arr:Array Value}{T:TypeId}(h:Jw w b arr T)(hk:k<arr.size):w.frozen? ⟨b,k,none⟩=false:=by
 obtain⟨fz,h1,h2⟩:=h
 simp[World.frozen?,h1]
 omega
theorem Jw.lt {w:World}{b:Nat}{arr:Array Value}{T:TypeId}(h:Jw w b arr T):b<w.heap.size:=by
 obtain⟨fz,h1,_⟩:=h
 exact(Array.getElem?_eq_some_iff.1 h1).1
theorem Jw.same {w:World}{b:Nat}{arr arr':Array Value}{T T':TypeId}(h:Jw w b arr T)(h':Jw w b arr' T'):arr=arr'∧T=T':=by
 obtain⟨fz,h1,_⟩:=h
 obtain⟨fz',h2,_⟩:=h'
 rw[h1] at h2
 cases h2
 exact⟨rfl,rfl⟩
inductive VRel (E:Env):Option (List Nat)→za→Value→Prop
 |sc (po:Option (List Nat)) (v:Value):VRel E po (.sc v) v
 |dead (po:Option (List Nat)) (v:Value):VRel E po .dead v
 |agg (po:Option (List Nat)) (cs:List za) (vs:Array Value) (hs:vs.size=cs.length)
  (h:∀(k:Nat) A v,cs[k]?=some A→vs[k]?=some v→VRel E (po.map (· ++[k])) A v):VRel E po (.agg cs) (.agg vs)
 |imm (po:Option (List Nat)) (sz:Nat) (cs:List za) (b o len cap:Nat) (f:Nat→Value) (hO:E.O b=none) (hb:b<E.w.heap.size)
  (hl:0<sz∧cs.length=len*sz) (hc:len≤cap)
  (hf:∀k A,cs[k]?=some A→E.w.cell? ⟨b,o+k,none⟩=some (f k)) (h:∀(k:Nat) A,cs[k]?=some A→VRel E none A (f k)):
  VRel E po (.imm sz cs) (.slice (some ⟨b,o,none⟩) len cap)
 |immNil (po:Option (List Nat)) (sz:Nat) (a:Option Addr):VRel E po (.imm sz []) (.slice a 0 0)
 |own (ℓ:List Nat) (sz:Nat) (cs:List za) (b o len cap:Nat) (arr:Array Value) (T:TypeId) (f:Nat→Value) (hO:E.O b=some ℓ)
  (hb:Jw E.w b arr T) (hl:0<sz∧cs.length=len*sz) (hc:len≤cap) (hm:cap≤maxLen) (ha:o+cap*sz≤arr.size)
  (hf:∀k A,cs[k]?=some A→arr[o+k]?=some (f k)) (h:∀(k:Nat) A,cs[k]?=some A→VRel E (some (ℓ++[k])) A (f k)):
  VRel E (some ℓ) (.own (some sz) cs) (.slice (some ⟨b,o,none⟩) len cap)
 |ownNil (po:Option (List Nat)) (sz:Nat):VRel E po (.own (some sz) []) (.slice none 0 0)
 |box (ℓ:List Nat) (cs:List za) (b:Nat) (arr:Array Value) (T:TypeId) (f:Nat→Value) (hO:E.O b=some ℓ)
  (hb:Jw E.w b arr T) (ha:arr.size=cs.length)
  (hf:∀k A,cs[k]?=some A→arr[k]?=some (f k)) (h:∀(k:Nat) A,cs[k]?=some A→VRel E (some (ℓ++[k])) A (f k)):
  VRel E (some ℓ) (.own none cs) (.pointer (some ⟨b,0,none⟩))
 |sl (po:Option (List Nat)) (id off len cap sz:Nat) (hn:id<E.n) (hc:len≤cap) (hm:cap≤maxLen) (hk:off+cap*sz=E.κ id):
  VRel E po (.sl id off len sz) (.slice (some ⟨E.ρ id,E.β id+off,none⟩) len cap)
 |ptr (po:Option (List Nat)) (id off:Nat) (hn:id<E.n):VRel E po (.ptr id off) (.pointer (some ⟨E.ρ id,E.β id+off,none⟩))
 |ia (po:Option (List Nat)) (cs:List za) (b o:Nat) (f:Nat→Value) (hO:E.O b=none) (hb:b<E.w.heap.size)
  (hf:∀k A,cs[k]?=some A→E.w.cell? ⟨b,o+k,none⟩=some (f k)) (h:∀(k:Nat) A,cs[k]?=some A→VRel E none A (f k)):
  VRel E po (.ia cs) (.pointer (some ⟨b,o,none⟩))
 |fn (po:Option (List Nat)) (g:Fn) (as bs:List za) (us vs:Array Value) (hu:us.size=as.length) (hv:vs.size=bs.length)
  (h1:∀(k:Nat) A v,as[k]?=some A→us[k]?=some v→VRel E none A v) (h2:∀(k:Nat) A v,bs[k]?=some A→vs[k]?=some v→VRel E none A v):
  VRel E po (.fn g as bs) (.func g us vs)
 |iface (po:Option (List Nat)) (t:TypeId) (A:za) (v:Value) (h:VRel E none A v):VRel E po (.iface t A) (.iface t v)
 |tup (po:Option (List Nat)) (cs:List za) (vs:Array Value) (hs:vs.size=cs.length)
  (h:∀(k:Nat) A v,cs[k]?=some A→vs[k]?=some v→VRel E (po.map (· ++[k])) A v):VRel E po (.tup cs) (.tuple vs)
 |mp (ℓ:List Nat) (ks:List Int) (b:Nat) (es:Array MapEntry) (clock:Nat) (hO:E.O b=some ℓ) (hb:E.w.heap[b]?=some (.map es clock))
  (he:es.toList.map (fun e=>(e.key,e.val))=KX ks):VRel E (some ℓ) (.mp ks) (.map (some b))
theorem Zs {w w':World}{b o:Nat}{s:Option Nat}(h:w'.heap[b]?=w.heap[b]?):w'.cell? ⟨b,o,s⟩=w.cell? ⟨b,o,s⟩:=by
 simp[World.cell?,h]
def Env.hangs (E:Env)(po:Option (List Nat))(b:Nat):Prop:=
 (E.O b=none∧b<E.w.heap.size)∨∃ℓ q,po=some ℓ∧E.O b=some q∧ℓ<+:q
theorem Env.hangs_none {E:Env}{po:Option (List Nat)}{b:Nat}(h:E.hangs none b):E.hangs po b:=by
 rcases h with h|⟨ℓ,q,h,_⟩
 · exact .inl h
 · cases h
theorem Env.hangs_sub {E:Env}{ℓ:List Nat}{k b:Nat}(h:E.hangs (some (ℓ++[k])) b):E.hangs (some ℓ) b:=by
 rcases h with h|⟨ℓ',q,h,hq,hp⟩
 · exact .inl h
 · cases h;exact .inr ⟨ℓ,q,rfl,hq,(List.prefix_append _ _).trans hp⟩
theorem Env.hangs_map {E:Env}{po:Option (List Nat)}{k b:Nat}(h:E.hangs (po.map (· ++[k])) b):E.hangs po b:=by
 cases po with
 |none=>exact h
 |some ℓ=>exact E.hangs_sub h
def Env.ids (E E':Env):Prop:=E.n≤E'.n∧∀id,id<E.n→E'.ρ id=E.ρ id∧E'.β id=E.β id∧E'.κ id=E.κ id
theorem VRel.keep {E E':Env}(hi:E.ids E')(hsz:E.w.heap.size≤E'.w.heap.size){po:Option (List Nat)}{A:za}{v:Value}(h:VRel E po A v)
    (hk:∀b,E.hangs po b→E'.O b=E.O b∧E'.w.heap[b]?=E.w.heap[b]?):VRel E' po A v:=by
  induction h with
  |sc po v=>exact .sc po v
  |dead po v=>exact .dead po v
  |agg po cs vs hs h ih=>exact .agg po cs vs hs fun k A v h1 h2=>ih k A v h1 h2 fun b hb=>hk b (E.hangs_map hb)
  | imm po sz cs b o len cap f hO hb hl hc hf h ih=>
    have hB:=hk b (.inl ⟨hO,hb⟩)
    exact .imm po sz cs b o len cap f (hB.1.trans hO) (Nat.lt_of_lt_of_le hb hsz) hl hc (fun k A h1=>(Zs hB.2).trans (hf k A h1)) fun k A h1=>ih k A h1 fun b hb=>hk b (E.hangs_none hb)
  |immNil po sz a=>exact .immNil po sz a
  | own ℓ sz cs b o len cap arr T f hO hb hl hc hm ha hf h ih=>
    have hB:=hk b (.inr ⟨ℓ,ℓ,rfl,hO,List.prefix_refl _⟩)
    exact .own ℓ sz cs b o len cap arr T f (hB.1.trans hO) (hb.keep hB.2) hl hc hm ha hf fun k A h1=>ih k A h1 fun b hb=>hk b (E.hangs_sub hb)
  |ownNil po sz=>exact .ownNil po sz
  | box ℓ cs b arr T f hO hb ha hf h ih=>
    have hB:=hk b (.inr ⟨ℓ,ℓ,rfl,hO,List.prefix_refl _⟩)
    exact .box ℓ cs b arr T f (hB.1.trans hO) (hb.keep hB.2) ha hf fun k A h1=>ih k A h1 fun b hb=>hk b (E.hangs_sub hb)
  | sl po id off len cap sz hn hc hm hκ=>
    obtain⟨h1,h2,h3⟩:=hi.2 id hn
    have:=VRel.sl (E:=E') po id off len cap sz (Nat.lt_of_lt_of_le hn hi.1) hc hm (hκ.trans h3.symm)
    rwa [h1,h2] at this
  | ptr po id off hn=>
    obtain⟨h1,h2,h3⟩:=hi.2 id hn
    have:=VRel.ptr (E:=E') po id off (Nat.lt_of_lt_of_le hn hi.1)
    rwa [h1,h2] at this
  | ia po cs b o f hO hb hf h ih=>
    have hB:=hk b (.inl ⟨hO,hb⟩)
    exact .ia po cs b o f (hB.1.trans hO) (Nat.lt_of_lt_of_le hb hsz) (fun k A h1=>(Zs hB.2).trans (hf k A h1)) fun k A h1=>ih k A h1 fun b hb=>hk b (E.hangs_none hb)
  | fn po g as bs us vs hu hv h1 h2 ih1 ih2=>
    exact .fn po g as bs us vs hu hv (fun k A v a b=>ih1 k A v a b fun b hb=>hk b (E.hangs_none hb)) (fun k A v a b=>ih2 k A v a b fun b hb=>hk b (E.hangs_none hb))
  |iface po t A v h ih=>exact .iface po t A v (ih fun b hb=>hk b (E.hangs_none hb))
  |tup po cs vs hs h ih=>exact .tup po cs vs hs fun k A v h1 h2=>ih k A v h1 h2 fun b hb=>hk b (E.hangs_map hb)
  | mp ℓ ks b es c hO hb he=>
    have hB:=hk b (.inr ⟨ℓ,ℓ,rfl,hO,List.prefix_refl _⟩)
    exact .mp ℓ ks b es c (hB.1.trans hO) (hB.2.trans hb) he
theorem VRel.keepO {E:Env}(O':Nat→Option (List Nat)){po:Option (List Nat)}{A:za}{v:Value}(h:VRel E po A v)(hk:∀b,E.hangs po b→O' b=E.O b):
    VRel {E with O:=O'} po A v:=
  VRel.keep (E:=E) (E':={E with O:=O'}) ⟨Nat.le_refl _,fun _ _=>⟨rfl,rfl,rfl⟩⟩ (Nat.le_refl _) h fun b hb=>⟨hk b hb,rfl⟩
def relab (p q:List Nat)(O:Nat→Option (List Nat))(b:Nat):Option (List Nat):=
 match O b with
 |some ℓ=>if p<+:ℓ then some (q++ℓ.drop p.length) else some ℓ
 |none=>none
def Env.relab (E:Env)(p q:List Nat):Env:={E with O:=Ga.relab p q E.O}
theorem ZT {p q:List Nat}{O:Nat→Option (List Nat)}{b:Nat}(h:O b=none):relab p q O b=none:=by simp[relab,h]
theorem jo {p q r:List Nat}{O:Nat→Option (List Nat)}{b:Nat}(h:O b=some (p++r)):relab p q O b=some (q++r):=by
 simp[relab,h]
theorem jZ {p q ℓ:List Nat}{O:Nat→Option (List Nat)}{b:Nat}(h:O b=some ℓ)(hp:¬p<+:ℓ):relab p q O b=some ℓ:=by
 simp[relab,h,hp]
theorem VRel.moved {E:Env}(p q:List Nat){po:Option (List Nat)}{A:za}{v:Value}(h:VRel E po A v):
    ∀r,(po=none→VRel (E.relab p q) none A v)∧(po=some (p++r)→VRel (E.relab p q) (some (q++r)) A v):=by
  induction h with
  |sc po v=>exact fun r=>⟨fun _=> .sc _ v,fun _=> .sc _ v⟩
  |dead po v=>exact fun r=>⟨fun _=> .dead _ v,fun _=> .dead _ v⟩
  | agg po cs vs hs h ih=>
    refine fun r=>⟨fun hp=>?_,fun hp=>?_⟩
    · subst hp;exact .agg _ cs vs hs fun k A v h1 h2=>(ih k A v h1 h2 []).1 rfl
    · subst hp
      refine .agg _ cs vs hs fun k A v h1 h2=>?_
      have:=(ih k A v h1 h2 (r++[k])).2 (by simp)
      simpa using this
  | imm po sz cs b o len cap f hO hb hl hc hf h ih=>
    exact fun r=>⟨fun _=> .imm _ sz cs b o len cap f (ZT hO) hb hl hc hf fun k A h1=>(ih k A h1 []).1 rfl,
      fun _=> .imm _ sz cs b o len cap f (ZT hO) hb hl hc hf fun k A h1=>(ih k A h1 []).1 rfl⟩
  |immNil po sz a=>exact fun r=>⟨fun _=> .immNil _ sz a,fun _=> .immNil _ sz a⟩
  | own ℓ sz cs b o len cap arr T f hO hb hl hc hm ha hf h ih=>
    refine fun r=>⟨fun hp=>(by cases hp),fun hp=>?_⟩
    cases hp
    refine .own _ sz cs b o len cap arr T f (jo hO) hb hl hc hm ha hf fun k A h1=>?_
    have:=(ih k A h1 (r++[k])).2 (by simp)
    simpa using this
  |ownNil po sz=>exact fun r=>⟨fun _=> .ownNil _ sz,fun _=> .ownNil _ sz⟩
  | box ℓ cs b arr T f hO hb ha hf h ih=>
    refine fun r=>⟨fun hp=>(by cases hp),fun hp=>?_⟩
    cases hp
    refine .box _ cs b arr T f (jo hO) hb ha hf fun k A h1=>?_
    have:=(ih k A h1 (r++[k])).2 (by simp)
    simpa using this
  |sl po id off len cap sz hn hc hm hκ=>exact fun r=>⟨fun _=> .sl (E:=E.relab p q) _ id off len cap sz hn hc hm hκ,fun _=> .sl (E:=E.relab p q) _ id off len cap sz hn hc hm hκ⟩
  |ptr po id off hn=>exact fun r=>⟨fun _=> .ptr (E:=E.relab p q) _ id off hn,fun _=> .ptr (E:=E.relab p q) _ id off hn⟩
  | ia po cs b o f hO hb hf h ih=>
    exact fun r=>⟨fun _=> .ia _ cs b o f (ZT hO) hb hf fun k A h1=>(ih k A h1 []).1 rfl,
      fun _=> .ia _ cs b o f (ZT hO) hb hf fun k A h1=>(ih k A h1 []).1 rfl⟩
  | fn po g as bs us vs hu hv h1 h2 ih1 ih2=>
    exact fun r=>⟨fun _=> .fn _ g as bs us vs hu hv (fun k A v a b=>(ih1 k A v a b []).1 rfl) (fun k A v a b=>(ih2 k A v a b []).1 rfl),
      fun _=> .fn _ g as bs us vs hu hv (fun k A v a b=>(ih1 k A v a b []).1 rfl) (fun k A v a b=>(ih2 k A v a b []).1 rfl)⟩
  |iface po t A v h ih=>exact fun r=>⟨fun _=> .iface _ t A v ((ih []).1 rfl),fun _=> .iface _ t A v ((ih []).1 rfl)⟩
  | tup po cs vs hs h ih=>
    refine fun r=>⟨fun hp=>?_,fun hp=>?_⟩
    · subst hp;exact .tup _ cs vs hs fun k A v h1 h2=>(ih k A v h1 h2 []).1 rfl
    · subst hp
      refine .tup _ cs vs hs fun k A v h1 h2=>?_
      have:=(ih k A v h1 h2 (r++[k])).2 (by simp)
      simpa using this
  | mp ℓ ks b es c hO hb he=>
    refine fun r=>⟨fun hp=>(by cases hp),fun hp=>?_⟩
    cases hp
    exact .mp _ ks b es c (jo hO) hb he
def ZN (p q:List Nat):Prop:=¬p<+:q∧¬q<+:p
theorem ZN.symm {p q:List Nat}(h:ZN p q):ZN q p:=⟨h.2,h.1⟩
theorem ZN.under {p q r:List Nat}(h:ZN p q)(hr:q<+:r):¬p<+:r:=fun hp=>by
 rcases List.prefix_or_prefix_of_prefix hp hr with h1|h1
 · exact h.1 h1
 · exact h.2 h1
theorem VRel.aside {E:Env}(p q:List Nat){po:Option (List Nat)}{A:za}{v:Value}(h:VRel E po A v)(hp:∀ℓ,po=some ℓ→ZN p ℓ):
    VRel (E.relab p q) po A v:=
  h.keepO _ fun b hb=>by
    rcases hb with hb|⟨ℓ,r,hℓ,hO,hpre⟩
    · exact(ZT hb.1).trans hb.1.symm
    · exact(jZ hO ((hp ℓ hℓ).under hpre)).trans hO.symm
mutual
def za.freeze :za→za
 | .agg cs=> .agg (za.freezeL cs)
 | .own (some sz) cs=> .imm sz (za.freezeL cs)
 | .own none cs=> .ia (za.freezeL cs)
 | .tup cs=> .tup (za.freezeL cs)
 | .mp _=> .dead
 |A=>A
def za.freezeL :List za→List za
 |[]=>[]
 |A::l=>A.freeze::za.freezeL l
end
theorem zV :∀l:List za,(za.freezeL l).length=l.length
 |[]=>rfl
 |A::l=>by simp[za.freezeL,zV l]
theorem yp :∀(l:List za) (k:Nat),(za.freezeL l)[k]?=(l[k]?).map za.freeze
 |[],k=>by simp[za.freezeL]
 |A::l,0=>by simp[za.freezeL]
 |A::l,k+1=>by simp[za.freezeL,yp l k]
theorem zx {l:List za}{k:Nat}{A:za}(h:(za.freezeL l)[k]?=some A):∃B,l[k]?=some B∧A=B.freeze:=by
 rw[yp] at h
 cases hl:l[k]? with
 |none=>simp[hl] at h
 |some B=>simp[hl] at h;exact⟨B,rfl,h.symm⟩
noncomputable def jk (p:List Nat)(O:Nat→Option (List Nat))(b:Nat):Option (List Nat):=
 match O b with
 |some ℓ=>if p<+:ℓ then none else some ℓ
 |none=>none
noncomputable def Env.freeze (E:Env)(p:List Nat):Env:={E with O:=jk p E.O}
theorem Z6 {p:List Nat}{O:Nat→Option (List Nat)}{b:Nat}(h:O b=none):jk p O b=none:=by simp[jk,h]
theorem Jg {p ℓ:List Nat}{O:Nat→Option (List Nat)}{b:Nat}(h:O b=some ℓ)(hp:p<+:ℓ):jk p O b=none:=by simp[jk,h,hp]
theorem Jh {p ℓ:List Nat}{O:Nat→Option (List Nat)}{b:Nat}(h:O b=some ℓ)(hp:¬p<+:ℓ):jk p O b=some ℓ:=by simp[jk,h,hp]
theorem VRel.keepF {E:Env}(p:List Nat){A:za}{v:Value}(h:VRel E none A v):VRel (E.freeze p) none A v:=
 h.keepO _ fun b hb=>by
  rcases hb with hb|⟨ℓ,q,hℓ,_⟩
  · exact(Z6 hb.1).trans hb.1.symm
  · cases hℓ
theorem VRel.frozen {E:Env}(p:List Nat){po:Option (List Nat)}{A:za}{v:Value}(h:VRel E po A v):
    ∀po',(∀ℓ,po=some ℓ→p<+:ℓ)→VRel (E.freeze p) po' A.freeze v:=by
  induction h with
  |sc po v=>exact fun po' _=> .sc _ v
  |dead po v=>exact fun po' _=> .dead _ v
  | agg po cs vs hs h ih=>
    intro po' hp
    refine .agg _ _ vs (by rw[hs,zV]) fun k A v h1 h2=>?_
    obtain⟨B,hB,rfl⟩:=zx h1
    refine ih k B v hB h2 _ fun ℓ hℓ=>?_
    cases po with
    |none=>cases hℓ
    |some ℓ0=>cases hℓ;exact(hp ℓ0 rfl).trans (List.prefix_append _ _)
  | imm po sz cs b o len cap f hO hb hl hc hf h ih=>
    intro po' hp
    exact .imm _ sz cs b o len cap f (Z6 hO) hb hl hc hf fun k A h1=>(h k A h1).keepF p
  |immNil po sz a=>exact fun po' _=> .immNil _ sz a
  | own ℓ sz cs b o len cap arr T f hO hb hl hc hm ha hf h ih=>
    intro po' hp
    refine .imm _ sz _ b o len cap f (Jg hO (hp ℓ rfl)) (hb.lt) (by rw[zV];exact hl) hc (fun k A h1=>?_) fun k A h1=>?_
    · obtain⟨B,hB,rfl⟩:=zx h1
      exact hb.cell.trans (hf k B hB)
    · obtain⟨B,hB,rfl⟩:=zx h1
      exact ih k B hB none fun ℓ' h'=>by cases h';exact(hp ℓ rfl).trans (List.prefix_append _ _)
  |ownNil po sz=>exact fun po' _=> .immNil _ sz none
  | box ℓ cs b arr T f hO hb ha hf h ih=>
    intro po' hp
    refine .ia _ _ b 0 f (Jg hO (hp ℓ rfl)) (hb.lt) (fun k A h1=>?_) fun k A h1=>?_
    · obtain⟨B,hB,rfl⟩:=zx h1
      exact hb.cell.trans (by simpa using hf k B hB)
    · obtain⟨B,hB,rfl⟩:=zx h1
      exact ih k B hB none fun ℓ' h'=>by cases h';exact(hp ℓ rfl).trans (List.prefix_append _ _)
  |sl po id off len cap sz hn hc hm hκ=>exact fun po' _=> .sl (E:=E.freeze p) _ id off len cap sz hn hc hm hκ
  |ptr po id off hn=>exact fun po' _=> .ptr (E:=E.freeze p) _ id off hn
  | ia po cs b o f hO hb hf h ih=>
    intro po' hp
    exact .ia _ cs b o f (Z6 hO) hb hf fun k A h1=>(h k A h1).keepF p
  | fn po g as bs us vs hu hv h1 h2 ih1 ih2=>
    intro po' hp
    exact .fn _ g as bs us vs hu hv (fun k A v a b=>(h1 k A v a b).keepF p) (fun k A v a b=>(h2 k A v a b).keepF p)
  |iface po t A v h ih=>exact fun po' hp=> .iface _ t A v (h.keepF p)
  | tup po cs vs hs h ih=>
    intro po' hp
    refine .tup _ _ vs (by rw[hs,zV]) fun k A v h1 h2=>?_
    obtain⟨B,hB,rfl⟩:=zx h1
    refine ih k B v hB h2 _ fun ℓ hℓ=>?_
    cases po with
    |none=>cases hℓ
    |some ℓ0=>cases hℓ;exact(hp ℓ0 rfl).trans (List.prefix_append _ _)
  |mp ℓ ks b es c hO hb he=>exact fun po' _=> .dead _ _
end Go.Ga

namespace Go.Ga
open Go
abbrev Heap :=List (Option (List za))
structure zb where
 vs:List (Nat×za)
 ts:List (Nat×za)
 h:Heap
def zG :List (Nat×za)→Nat→Option za
 |[],_=>none
 |(j,A)::l,i=>if i=j then some A else zG l i
def Xt :List (Nat×za)→Nat→za→List (Nat×za)
 |[],_,_=>[]
 |(j,A)::l,i,B=>if i=j then(j,B)::l else(j,A)::Xt l i B
def ZM :Option za→Option za→za
 |some A,_=>A
 |none,some A=>A
 |none,none=> .dead
def zb.get (st:zb)(i:Nat):za:=ZM (zG st.ts i) (zG st.vs i)
def zb.putT (st:zb)(d:Nat)(A:za):zb:={st with ts:=(d,A)::st.ts}
def zb.set (st:zb)(i:Nat)(A:za):zb:=
 match zG st.ts i with
 |some _=>{st with ts:=Xt st.ts i A}
 |none=>{st with vs:=Xt st.vs i A}
def za.kids :za→Option (List za)
 | .own _ cs=>some cs
 | .agg cs=>some cs
 | .tup cs=>some cs
 |_=>none
def za.sub :za→List Nat→Option za
 |A,[]=>some A
 | A,k::ks=>match A.kids with
   | some cs=>match cs[k]? with
     |some B=>B.sub ks
     |none=>none
   |none=>none
def za.setSub :za→List Nat→za→za
 |_,[],B=>B
 | .own hd cs,k::ks,B=> .own hd (match cs[k]? with|some C=>cs.set k (C.setSub ks B)|none=>cs)
 | .agg cs,k::ks,B=> .agg (match cs[k]? with|some C=>cs.set k (C.setSub ks B)|none=>cs)
 | .tup cs,k::ks,B=> .tup (match cs[k]? with|some C=>cs.set k (C.setSub ks B)|none=>cs)
 |A,_::_,_=>A
def zb.at (st:zb):List Nat→Option za
 |0::i::ks=>(st.get i).sub ks
 | 1::id::k::ks=>match st.h[id]? with
   |some (some cs)=>(za.own none cs).sub (k::ks)
   |_=>none
 |_=>none
def zb.setAt (st:zb)(p:List Nat)(B:za):zb:=
 match p with
 |0::i::ks=>st.set i ((st.get i).setSub ks B)
 | 1::id::k::ks=>match st.h[id]? with
   |some (some cs)=>{st with h:=st.h.set id (some (match cs[k]? with|some C=>cs.set k (C.setSub ks B)|none=>cs))}
   |_=>st
 |_=>st
def zF (w:World):Value→List Nat→Option Value
 |v,[]=>some v
 | .slice (some a) _ _,k::ks=>match w.cell? ⟨a.block,a.off+k,none⟩ with
   |some u=>zF w u ks
   |none=>none
 | .pointer (some a),k::ks=>match w.cell? ⟨a.block,a.off+k,none⟩ with
   |some u=>zF w u ks
   |none=>none
 | .agg cs,k::ks=>match cs[k]? with
   |some u=>zF w u ks
   |none=>none
 | .tuple cs,k::ks=>match cs[k]? with
   |some u=>zF w u ks
   |none=>none
 |_,_::_=>none
def Env.ptr (E:Env)(id:Nat):Value:= .pointer (some ⟨E.ρ id,E.β id,none⟩)
def zr (E:Env)(tm:Array Value):List Nat→Option Value
 | 0::i::ks=>match tm[i]? with
   |some v=>zF E.w v ks
   |none=>none
 |1::id::ks=>zF E.w (E.ptr id) ks
 |_=>none
theorem sub_append (ks:List Nat):∀(A:za) (js:List Nat),A.sub (ks++js)=(A.sub ks).bind (·.sub js):=by
 induction ks with
 |nil=>intro A js;rfl
 | cons k ks ih=>
   intro A js
   simp only[List.cons_append,za.sub]
   cases A.kids with
   |none=>rfl
   | some cs=>
     simp only[]
     cases cs[k]? with
     |none=>rfl
     |some B=>exact ih B js
theorem vsub_append (w:World)(ks:List Nat):∀(v:Value) (js:List Nat),zF w v (ks++js)=(zF w v ks).bind (zF w · js):=by
 induction ks with
 |nil=>intro v js;cases v<;>simp[zF]
 | cons k ks ih=>
   intro v js
   simp only[List.cons_append]
   cases v with
   | slice a l c=>
     cases a with
     |none=>rfl
     | some a=>simp only[zF];cases w.cell? ⟨a.block,a.off+k,none⟩ with
       |none=>rfl
       |some u=>exact ih u js
   | pointer a=>
     cases a with
     |none=>rfl
     | some a=>simp only[zF];cases w.cell? ⟨a.block,a.off+k,none⟩ with
       |none=>rfl
       |some u=>exact ih u js
   |agg cs=>simp only[zF];cases cs[k]? with
    |none=>rfl
    |some u=>exact ih u js
   |tuple cs=>simp only[zF];cases cs[k]? with
    |none=>rfl
    |some u=>exact ih u js
   |_=>rfl
theorem VRel.sub {E:Env}:∀(ks:List Nat) {ℓ:List Nat} {A B:za} {v:Value},VRel E (some ℓ) A v→A.sub ks=some B→
    ∃u,zF E.w v ks=some u∧VRel E (some (ℓ++ks)) B u:=by
  intro ks
  induction ks with
  | nil=>
    intro ℓ A B v h hB
    cases hB
    exact⟨v,by simp[zF],by simpa using h⟩
  | cons k ks ih=>
    intro ℓ A B v h hB
    cases h with
    | own _ sz cs b o len cap arr T f hO hb hl hc hm ha hf h=>
      simp only[za.sub,za.kids] at hB
      cases hk:cs[k]? with
      |none=>simp[hk] at hB
      | some C=>
        simp only[hk] at hB
        obtain⟨u,hu,hr⟩:=ih (h k C hk) hB
        refine⟨u,?_,by simpa using hr⟩
        simp only[zF,hb.cell,hf k C hk]
        exact hu
    | box _ cs b arr T f hO hb ha hf h=>
      simp only[za.sub,za.kids] at hB
      cases hk:cs[k]? with
      |none=>simp[hk] at hB
      | some C=>
        simp only[hk] at hB
        obtain⟨u,hu,hr⟩:=ih (h k C hk) hB
        refine⟨u,?_,by simpa using hr⟩
        simp only[zF,Nat.zero_add,hb.cell,hf k C hk]
        exact hu
    | agg _ cs vs hs h=>
      simp only[za.sub,za.kids] at hB
      cases hk:cs[k]? with
      |none=>simp[hk] at hB
      | some C=>
        simp only[hk] at hB
        have hlt:k<vs.size:=by rw[hs];exact(List.getElem?_eq_some_iff.1 hk).1
        obtain⟨u,hu,hr⟩:=ih (h k C vs[k] hk (by simp[hlt])) hB
        refine⟨u,?_,by simpa using hr⟩
        simp only[zF]
        rw[Array.getElem?_eq_getElem hlt]
        exact hu
    |ownNil _ sz=>simp[za.sub,za.kids] at hB
    |sc _ v=>simp[za.sub,za.kids] at hB
    |imm=>simp[za.sub,za.kids] at hB
    |immNil=>simp[za.sub,za.kids] at hB
    |sl=>simp[za.sub,za.kids] at hB
    |ptr=>simp[za.sub,za.kids] at hB
    |ia=>simp[za.sub,za.kids] at hB
    |fn=>simp[za.sub,za.kids] at hB
    |iface=>simp[za.sub,za.kids] at hB
    | tup _ cs vs hs h=>
      simp only[za.sub,za.kids] at hB
      cases hk:cs[k]? with
      |none=>simp[hk] at hB
      | some C=>
        simp only[hk] at hB
        have hlt:k<vs.size:=by rw[hs];exact(List.getElem?_eq_some_iff.1 hk).1
        obtain⟨u,hu,hr⟩:=ih (h k C vs[k] hk (by simp[hlt])) hB
        refine⟨u,?_,by simpa using hr⟩
        simp only[zF]
        rw[Array.getElem?_eq_getElem hlt]
        exact hu
    |dead=>simp[za.sub,za.kids] at hB
    |mp=>simp[za.sub,za.kids] at hB
def za.isAlias :za→Bool
 | .dead=>true
 | .at_ _=>true
 | .addr _ _=>true
 |_=>false
def Value.base :Value→Option (Nat×Nat)
 | .slice (some a) _ _=>some (a.block,a.off)
 | .pointer (some a)=>some (a.block,a.off)
 |_=>none
def Zt (E:Env)(st:zb)(tm:Array Value)(i:Nat):za→Prop
 | .dead=>True
 | .at_ p=>∃B v,st.at p=some B∧B.isAlias=false∧zr E tm p=some v∧tm[i]?=some v
 | .addr p k=>∃hd cs v b o,st.at p=some (.own hd cs)∧zr E tm p=some v∧Ga.Value.base v=some (b,o)∧tm[i]?=some (.pointer (some ⟨b,o+k,none⟩))
 |A=>∃v,tm[i]?=some v∧VRel E (some [0,i]) A v
def JU (E:Env)(id:Nat)(cs:List za):Prop:=
 E.O (E.ρ id)=some [1,id]∧∃(arr:Array Value) (T:TypeId) (f:Nat→Value),Jw E.w (E.ρ id) arr T∧E.β id+E.κ id≤arr.size∧cs.length≤E.κ id∧
  (∀k A,cs[k]?=some A→arr[E.β id+k]?=some (f k))∧∀(k:Nat) A,cs[k]?=some A→VRel E (some ([1,id]++[k])) A (f k)
def za.root :za→Option Nat
 | .at_ (0::i::_)=>some i
 | .addr (0::i::_) _=>some i
 |_=>none
structure zi (E:Env)(N:Nat)(V:List Nat)(st:zb)(tm:Array Value):Prop where
 size:tm.size=N
 keys:st.vs.map (·.1)=V
 num:E.n=st.h.length
 disj:∀d,d∈V→d∉st.ts.map (·.1)
 lim:∀b q,E.O b=some q→b<E.w.heap.size
 roots:∀i A r,st.get i=A→A.root=some r→r∈V∨r∈st.ts.map (·.1)
 slots:∀i,Zt E st tm i (st.get i)
 objs:∀id cs,st.h[id]?=some (some cs)→JU E id cs
def kL (L:List (List Nat))(r:List Nat):Prop:=r∈L∧(r.head?=some 0∨r.head?=some 1)
structure zy (L:List (List Nat))(E E':Env):Prop where
 size:E.w.heap.size≤E'.w.heap.size
 os:E'.w.os=E.w.os
 tape:E'.w.tape=E.w.tape
 output:E'.w.output=E.w.output
 old:∀b,E.O b=none→b<E.w.heap.size→E'.O b=none∧E'.w.heap[b]?=E.w.heap[b]?
 far:∀b r,E.O b=some (2::r)→E'.O b=some (2::r)∧E'.w.heap[b]?=E.w.heap[b]?
 farB:∀b r,E'.O b=some (2::r)→E.O b=some (2::r)
 ids:E.ids E'
 keep:∀b r,kL L r→E.O b=some r→b<E.w.heap.size→(E'.O b=some r∨E'.O b=none)∧E'.w.heap[b]?=E.w.heap[b]?
theorem Env.ids_refl (E:Env):E.ids E:=⟨Nat.le_refl _,fun _ _=>⟨rfl,rfl,rfl⟩⟩
theorem Env.ids_trans {E E' E'':Env}(h:E.ids E')(h':E'.ids E''):E.ids E'':=
 ⟨Nat.le_trans h.1 h'.1,fun id hid=>by
  obtain⟨a,b,c⟩:=h.2 id hid
  obtain⟨a',b',c'⟩:=h'.2 id (Nat.lt_of_lt_of_le hid h.1)
  exact⟨a'.trans a,b'.trans b,c'.trans c⟩⟩
theorem zy.refl {L:List (List Nat)}(E:Env):zy L E E:=⟨Nat.le_refl _,rfl,rfl,rfl,fun _ h _=>⟨h,rfl⟩,fun _ _ h=>⟨h,rfl⟩,fun _ _ h=>h,E.ids_refl,fun _ _ _ h _=>⟨.inl h,rfl⟩⟩
theorem zy.trans {L:List (List Nat)}{E E' E'':Env}(h:zy L E E')(h':zy L E' E''):zy L E E'' where
 size:=Nat.le_trans h.size h'.size
 os:=h'.os.trans h.os
 tape:=h'.tape.trans h.tape
 output:=h'.output.trans h.output
 old b hb hs:=by
  obtain⟨a,c⟩:=h.old b hb hs
  obtain⟨a',c'⟩:=h'.old b a (Nat.lt_of_lt_of_le hs h.size)
  exact⟨a',c'.trans c⟩
 far b r hb:=by
  obtain⟨a,c⟩:=h.far b r hb
  obtain⟨a',c'⟩:=h'.far b r a
  exact⟨a',c'.trans c⟩
 farB b r hb:=h.farB b r (h'.farB b r hb)
 ids:=E.ids_trans h.ids h'.ids
 keep b r hr hb hs:=by
  obtain⟨a,c⟩:=h.keep b r hr hb hs
  have hs':=Nat.lt_of_lt_of_le hs h.size
  rcases a with a|a
  · obtain⟨a',c'⟩:=h'.keep b r hr a hs'
    exact⟨a',c'.trans c⟩
  · obtain⟨a',c'⟩:=h'.old b a hs'
    exact⟨.inr a',c'.trans c⟩
theorem zN {L:List (List Nat)}{k:Nat}(hk:2≤k)(ks r:List Nat)(h:(k::ks)<+:r):¬kL L r:=by
 rintro⟨_,h1⟩
 cases r with
 |nil=>simp at h
 | cons x r=>
   rw[List.cons_prefix_cons] at h
   simp at h1
   omega
end Go.Ga

namespace Go.Ga
open Go
theorem yb {ℓ:List Nat}{k k':Nat}(h:k≠k')(r:List Nat):ZN (ℓ++[k']) (ℓ++(k::r)):=by
 refine⟨fun hp=>?_,fun hp=>?_⟩
 · rw[List.prefix_append_right_inj] at hp
   obtain⟨t,ht⟩:=hp
   simp at ht
   exact h ht.1.symm
 · rw[List.prefix_append_right_inj] at hp
   obtain⟨t,ht⟩:=hp
   simp at ht
   exact h ht.1
structure zM (p:List Nat)(E E':Env):Prop where
 size:E.w.heap.size≤E'.w.heap.size
 ids:E.ids E'
 none_:∀b,E.O b=none→b<E.w.heap.size→E'.O b=none∧E'.w.heap[b]?=E.w.heap[b]?
 else_:∀b q,E.O b=some q→¬p<+:q→E'.O b=some q∧E'.w.heap[b]?=E.w.heap[b]?
theorem zM.keep {p:List Nat}{E E':Env}(U:zM p E E'){po:Option (List Nat)}{A:za}{v:Value}(h:VRel E po A v)(hp:∀ℓ,po=some ℓ→ZN p ℓ):VRel E' po A v:=
 h.keep U.ids U.size fun b hb=>by
  rcases hb with hb|⟨ℓ,q,hℓ,hO,hpre⟩
  · obtain⟨a,c⟩:=U.none_ b hb.1 hb.2
    exact⟨a.trans hb.1.symm,c⟩
  · obtain⟨a,c⟩:=U.else_ b q hO ((hp ℓ hℓ).under hpre)
    exact⟨a.trans hO.symm,c⟩
theorem J8 {ℓ:List Nat}{k:Nat}{ks:List Nat}:¬(ℓ++(k::ks))<+:ℓ:=fun h=>by
 have:=h.length_le
 simp at this
 omega
theorem VRel.turn {E E':Env}:∀(ks:List Nat) {ℓ:List Nat} {A B B':za} {v u:Value},zM (ℓ++ks) E E'→VRel E (some ℓ) A v→A.sub ks=some B→zF E.w v ks=some u→
    VRel E' (some (ℓ++ks)) B' u→VRel E' (some ℓ) (A.setSub ks B') v:=by
  intro ks
  induction ks with
  | nil=>
    intro ℓ A B B' v u U h hB hu h'
    have:v=u:=by cases v<;>simpa[zF] using hu
    subst this
    have e:A.setSub [] B'=B':=by cases A<;>rfl
    rw[e]
    simpa using h'
  | cons k ks ih=>
    intro ℓ A B B' v u U h hB hu h'
    have U':zM ((ℓ++[k])++ks) E E':=by simpa using U
    have h'':VRel E' (some ((ℓ++[k])++ks)) B' u:=by simpa using h'
    have sib:∀k',k≠k'→∀{A v},VRel E (some (ℓ++[k'])) A v→VRel E' (some (ℓ++[k'])) A v:=fun k' hne A v h=>
      U.keep h fun ℓ' h=>by cases h;exact(yb hne ks).symm
    cases h with
    | own _ sz cs b o len cap arr T f hO hb hl hc hm ha hf h=>
      simp only[za.sub,za.kids] at hB
      cases hk:cs[k]? with
      |none=>simp[hk] at hB
      | some C=>
        simp only[hk] at hB
        obtain⟨hO',hb'⟩:=U.else_ b ℓ hO J8
        simp only[zF,hb.cell,hf k C hk] at hu
        simp only[za.setSub,hk]
        refine .own ℓ sz _ b o len cap arr T f hO' (hb.keep hb') (by simpa using hl) hc hm ha (fun j A hj=>?_) fun j A hj=>?_
        · rw[List.getElem?_set] at hj
          by_cases hkj:k=j
          · subst hkj;exact hf k C hk
          · exact hf j A (by simpa[hkj] using hj)
        · rw[List.getElem?_set] at hj
          by_cases hkj:k=j
          · subst hkj
            have hlt:k<cs.length:=(List.getElem?_eq_some_iff.1 hk).1
            simp[hlt] at hj
            subst hj
            exact ih U' (h k C hk) hB hu h''
          · exact sib j hkj (h j A (by simpa[hkj] using hj))
    | box _ cs b arr T f hO hb ha hf h=>
      simp only[za.sub,za.kids] at hB
      cases hk:cs[k]? with
      |none=>simp[hk] at hB
      | some C=>
        simp only[hk] at hB
        obtain⟨hO',hb'⟩:=U.else_ b ℓ hO J8
        simp only[zF,Nat.zero_add,hb.cell,hf k C hk] at hu
        simp only[za.setSub,hk]
        refine .box ℓ _ b arr T f hO' (hb.keep hb') (by simpa using ha) (fun j A hj=>?_) fun j A hj=>?_
        · rw[List.getElem?_set] at hj
          by_cases hkj:k=j
          · subst hkj;exact hf k C hk
          · exact hf j A (by simpa[hkj] using hj)
        · rw[List.getElem?_set] at hj
          by_cases hkj:k=j
          · subst hkj
            have hlt:k<cs.length:=(List.getElem?_eq_some_iff.1 hk).1
            simp[hlt] at hj
            subst hj
            exact ih U' (h k C hk) hB hu h''
          · exact sib j hkj (h j A (by simpa[hkj] using hj))
    | agg _ cs vs hs h=>
      simp only[za.sub,za.kids] at hB
      cases hk:cs[k]? with
      |none=>simp[hk] at hB
      | some C=>
        simp only[hk] at hB
        have hlt:k<vs.size:=by rw[hs];exact(List.getElem?_eq_some_iff.1 hk).1
        simp only[zF] at hu
        rw[Array.getElem?_eq_getElem hlt] at hu
        simp only[za.setSub,hk]
        refine .agg (some ℓ) _ vs (by simpa using hs) fun j A v hj hv=>?_
        rw[List.getElem?_set] at hj
        by_cases hkj:k=j
        · subst hkj
          have hlt':k<cs.length:=(List.getElem?_eq_some_iff.1 hk).1
          simp[hlt'] at hj
          subst hj
          have:v=vs[k]:=by rw[Array.getElem?_eq_getElem hlt] at hv;exact(Option.some.inj hv).symm
          subst this
          exact ih U' (h k C _ hk (Array.getElem?_eq_getElem hlt)) hB hu h''
        · exact sib j hkj (h j A v (by simpa[hkj] using hj) hv)
    |ownNil _ sz=>simp[za.sub,za.kids] at hB
    |sc _ v=>simp[za.sub,za.kids] at hB
    |imm=>simp[za.sub,za.kids] at hB
    |immNil=>simp[za.sub,za.kids] at hB
    |sl=>simp[za.sub,za.kids] at hB
    |ptr=>simp[za.sub,za.kids] at hB
    |ia=>simp[za.sub,za.kids] at hB
    |fn=>simp[za.sub,za.kids] at hB
    |iface=>simp[za.sub,za.kids] at hB
    | tup _ cs vs hs h=>
      simp only[za.sub,za.kids] at hB
      cases hk:cs[k]? with
      |none=>simp[hk] at hB
      | some C=>
        simp only[hk] at hB
        have hlt:k<vs.size:=by rw[hs];exact(List.getElem?_eq_some_iff.1 hk).1
        simp only[zF] at hu
        rw[Array.getElem?_eq_getElem hlt] at hu
        simp only[za.setSub,hk]
        refine .tup (some ℓ) _ vs (by simpa using hs) fun j A v hj hv=>?_
        rw[List.getElem?_set] at hj
        by_cases hkj:k=j
        · subst hkj
          have hlt':k<cs.length:=(List.getElem?_eq_some_iff.1 hk).1
          simp[hlt'] at hj
          subst hj
          have:v=vs[k]:=by rw[Array.getElem?_eq_getElem hlt] at hv;exact(Option.some.inj hv).symm
          subst this
          exact ih U' (h k C _ hk (Array.getElem?_eq_getElem hlt)) hB hu h''
        · exact sib j hkj (h j A v (by simpa[hkj] using hj) hv)
    |dead=>simp[za.sub,za.kids] at hB
    |mp=>simp[za.sub,za.kids] at hB
theorem VRel.way {E E':Env}{p:List Nat}(U:zM p E E'):∀(ks:List Nat) {ℓ:List Nat} {A B:za} {v:Value},¬(p<+:(ℓ++ks)∧p≠ℓ++ks)→VRel E (some ℓ) A v→A.sub ks=some B→
    zF E'.w v ks=zF E.w v ks:=by
  intro ks
  induction ks with
  |nil=>intro ℓ A B v _ _ _;cases v<;>simp[zF]
  | cons k ks ih=>
    intro ℓ A B v hn h hB
    have hn':¬(p<+:((ℓ++[k])++ks)∧p≠(ℓ++[k])++ks):=by simpa using hn
    have hℓ:¬p<+:ℓ:=fun hp=>hn ⟨hp.trans (List.prefix_append _ _),fun e=>by subst e;exact J8 hp⟩
    cases h with
    | own _ sz cs b o len cap arr T f hO hb hl hc hm ha hf h=>
      simp only[za.sub,za.kids] at hB
      cases hk:cs[k]? with
      |none=>simp[hk] at hB
      | some C=>
        simp only[hk] at hB
        obtain⟨hO',hb'⟩:=U.else_ b ℓ hO hℓ
        simp only[zF,hb.cell,(hb.keep hb').cell,hf k C hk]
        exact ih hn' (h k C hk) hB
    | box _ cs b arr T f hO hb ha hf h=>
      simp only[za.sub,za.kids] at hB
      cases hk:cs[k]? with
      |none=>simp[hk] at hB
      | some C=>
        simp only[hk] at hB
        obtain⟨hO',hb'⟩:=U.else_ b ℓ hO hℓ
        simp only[zF,Nat.zero_add,hb.cell,(hb.keep hb').cell,hf k C hk]
        exact ih hn' (h k C hk) hB
    | agg _ cs vs hs h=>
      simp only[za.sub,za.kids] at hB
      cases hk:cs[k]? with
      |none=>simp[hk] at hB
      | some C=>
        simp only[hk] at hB
        have hlt:k<vs.size:=by rw[hs];exact(List.getElem?_eq_some_iff.1 hk).1
        simp only[zF]
        rw[Array.getElem?_eq_getElem hlt]
        exact ih hn' (h k C _ hk (Array.getElem?_eq_getElem hlt)) hB
    |ownNil _ sz=>simp[za.sub,za.kids] at hB
    |sc _ v=>simp[za.sub,za.kids] at hB
    |imm=>simp[za.sub,za.kids] at hB
    |immNil=>simp[za.sub,za.kids] at hB
    |sl=>simp[za.sub,za.kids] at hB
    |ptr=>simp[za.sub,za.kids] at hB
    |ia=>simp[za.sub,za.kids] at hB
    |fn=>simp[za.sub,za.kids] at hB
    |iface=>simp[za.sub,za.kids] at hB
    | tup _ cs vs hs h=>
      simp only[za.sub,za.kids] at hB
      cases hk:cs[k]? with
      |none=>simp[hk] at hB
      | some C=>
        simp only[hk] at hB
        have hlt:k<vs.size:=by rw[hs];exact(List.getElem?_eq_some_iff.1 hk).1
        simp only[zF]
        rw[Array.getElem?_eq_getElem hlt]
        exact ih hn' (h k C _ hk (Array.getElem?_eq_getElem hlt)) hB
    |dead=>simp[za.sub,za.kids] at hB
    |mp=>simp[za.sub,za.kids] at hB
theorem JH :∀(ks js:List Nat) {A B C:za} (B':za),A.sub ks=some B→A.sub js=some C→¬(ks<+:js∧ks≠js)→∃C',(A.setSub ks B').sub js=some C'∧
    (¬js<+:ks→C'=C)∧(js=ks→C'=B')∧(js≠ks→C'=C∨(∃hd cs cs',C= .own hd cs∧C'= .own hd cs')∨(∃cs cs',C= .agg cs∧C'= .agg cs')∨∃cs cs',C= .tup cs∧C'= .tup cs'):=by
  intro ks
  induction ks with
  | nil=>
    intro js A B C B' hB hC hn
    have:js=[]:=by
      cases js with
      |nil=>rfl
      |cons j js=>exact absurd ⟨List.nil_prefix,by simp⟩ hn
    subst this
    refine⟨B',by cases A<;>rfl,fun h=>absurd (List.nil_prefix) h,fun _=>rfl,fun h=>absurd rfl h⟩
  | cons k ks ih=>
    intro js A B C B' hB hC hn
    cases js with
    | nil=>
      cases hC
      refine⟨A.setSub (k::ks) B',by simp[za.sub],fun h=>absurd (List.nil_prefix) h,fun h=>(by cases h),fun _=>?_⟩
      cases A with
      |own hd cs=>exact .inr (.inl ⟨hd,cs,_,rfl,rfl⟩)
      |agg cs=>exact .inr (.inr (.inl ⟨cs,_,rfl,rfl⟩))
      |tup cs=>exact .inr (.inr (.inr ⟨cs,_,rfl,rfl⟩))
      |_=>exact .inl rfl
    | cons j js=>
      cases A with
      | own hd cs=>
        simp only[za.sub,za.kids] at hB hC
        cases hk:cs[k]? with
        |none=>simp[hk] at hB
        | some D=>
          simp only[hk] at hB
          have hlt:k<cs.length:=(List.getElem?_eq_some_iff.1 hk).1
          simp only[za.setSub,hk,za.sub,za.kids,List.getElem?_set]
          by_cases hkj:k=j
          · subst hkj
            simp only[hlt,if_true]
            simp only[hk] at hC
            obtain⟨C',h1,h2,h3,h4⟩:=ih js B' hB hC (fun h=>hn ⟨by simpa using h.1,by simpa using h.2⟩)
            exact⟨C',h1,fun h=>h2 (by simpa using h),fun h=>h3 (by simpa using h),fun h'=>h4 (by simpa using h')⟩
          · simp only[hkj,if_false]
            exact⟨C,hC,fun _=>rfl,fun h=>absurd (by simpa using h.symm) (by simp[hkj]),fun _=> .inl rfl⟩
      | agg cs=>
        simp only[za.sub,za.kids] at hB hC
        cases hk:cs[k]? with
        |none=>simp[hk] at hB
        | some D=>
          simp only[hk] at hB
          have hlt:k<cs.length:=(List.getElem?_eq_some_iff.1 hk).1
          simp only[za.setSub,hk,za.sub,za.kids,List.getElem?_set]
          by_cases hkj:k=j
          · subst hkj
            simp only[hlt,if_true]
            simp only[hk] at hC
            obtain⟨C',h1,h2,h3,h4⟩:=ih js B' hB hC (fun h=>hn ⟨by simpa using h.1,by simpa using h.2⟩)
            exact⟨C',h1,fun h=>h2 (by simpa using h),fun h=>h3 (by simpa using h),fun h'=>h4 (by simpa using h')⟩
          · simp only[hkj,if_false]
            exact⟨C,hC,fun _=>rfl,fun h=>absurd (by simpa using h.symm) (by simp[hkj]),fun _=> .inl rfl⟩
      | tup cs=>
        simp only[za.sub,za.kids] at hB hC
        cases hk:cs[k]? with
        |none=>simp[hk] at hB
        | some D=>
          simp only[hk] at hB
          have hlt:k<cs.length:=(List.getElem?_eq_some_iff.1 hk).1
          simp only[za.setSub,hk,za.sub,za.kids,List.getElem?_set]
          by_cases hkj:k=j
          · subst hkj
            simp only[hlt,if_true]
            simp only[hk] at hC
            obtain⟨C',h1,h2,h3,h4⟩:=ih js B' hB hC (fun h=>hn ⟨by simpa using h.1,by simpa using h.2⟩)
            exact⟨C',h1,fun h=>h2 (by simpa using h),fun h=>h3 (by simpa using h),fun h'=>h4 (by simpa using h')⟩
          · simp only[hkj,if_false]
            exact⟨C,hC,fun _=>rfl,fun h=>absurd (by simpa using h.symm) (by simp[hkj]),fun _=> .inl rfl⟩
      |_=>simp[za.sub,za.kids] at hB
end Go.Ga

namespace Go.Ga
open Go
def j7 (bad:za→Bool):List (Nat×za)→List (Nat×za)
 |[]=>[]
 |(i,A)::l=>(i,bif bad A then .dead else A)::j7 bad l
def zb.kill (st:zb)(bad:za→Bool):zb:={st with vs:=j7 bad st.vs,ts:=j7 bad st.ts}
theorem wD (bad:za→Bool):∀(l:List (Nat×za)) (i:Nat),zG (j7 bad l) i=(zG l i).map fun A=>bif bad A then .dead else A
 |[],_=>rfl
 | (j,A)::l,i=>by
   simp only[j7,zG]
   split
   · rfl
   · exact wD bad l i
theorem ZZ (bad:za→Bool):∀l:List (Nat×za),(j7 bad l).map (·.1)=l.map (·.1)
 |[]=>rfl
 |(j,A)::l=>by simp[j7,ZZ bad l]
theorem zb.get_kill (st:zb)(bad:za→Bool)(i:Nat):(st.kill bad).get i=bif bad (st.get i) then .dead else st.get i:=by
 simp only[zb.get,zb.kill,wD]
 generalize zG st.ts i=x
 generalize zG st.vs i=y
 cases x<;>cases y<;>simp[ZM]
theorem qf :∀(l:List (Nat×za)) (i j:Nat) (B:za),zG (Xt l i B) j=if i=j then(zG l j).map fun _=>B else zG l j
 |[],i,j,B=>by simp[Xt,zG]
 | (k, A)::l,i,j,B=>by
   simp only[Xt]
   by_cases hik:i=k
   · subst hik
     simp only[if_true,zG]
     by_cases hji:j=i
     · subst hji;simp
     · have:¬i=j:=fun e=>hji e.symm
       simp[hji,this]
   · simp only[hik,if_false,zG]
     by_cases hjk:j=k
     · subst hjk
       have:¬i=j:=hik
       simp[this]
     · simp only[hjk,if_false]
       exact qf l i j B
theorem xn :∀(l:List (Nat×za)) (i:Nat) (B:za),(Xt l i B).map (·.1)=l.map (·.1)
 |[],_,_=>rfl
 | (k,A)::l,i,B=>by
   simp only[Xt]
   split
   · rfl
   · simp[xn l i B]
theorem Zw {l:List (Nat×za)}{i:Nat}:(∃A,zG l i=some A)↔i∈l.map (·.1):=by
 induction l with
 |nil=>simp[zG]
 | cons x l ih=>
   obtain⟨j,A⟩:=x
   simp only[zG,List.map_cons,List.mem_cons]
   by_cases h:i=j
   · simp[h]
   · simp[h,ih]
theorem zb.get_set_ne (st:zb){i j:Nat}(A:za)(h:i≠j):(st.set i A).get j=st.get j:=by
 unfold zb.set
 split
 · simp[zb.get,qf,h]
 · simp[zb.get,qf,h]
theorem zb.get_set (st:zb){i:Nat}(A:za)(h:(∃B,zG st.ts i=some B)∨∃B,zG st.vs i=some B):(st.set i A).get i=A:=by
 unfold zb.set
 split
 · rename_i B hB;simp[zb.get,qf,hB,ZM]
 · rename_i hB
   rcases h with⟨B,h⟩|⟨B,h⟩
   · rw[hB] at h;cases h
   · simp[zb.get,qf,hB,h,ZM]
theorem zb.set_keys (st:zb)(i:Nat)(A:za):(st.set i A).vs.map (·.1)=st.vs.map (·.1)∧(st.set i A).ts.map (·.1)=st.ts.map (·.1)∧(st.set i A).h=st.h:=by
 unfold zb.set
 split<;>simp[xn]
theorem zb.get_putT (st:zb)(d:Nat)(A:za)(i:Nat):(st.putT d A).get i=if i=d then A else st.get i:=by
 unfold zb.putT zb.get
 simp only[zG]
 by_cases h:i=d<;>simp[h,ZM]
def za.under (p:List Nat)(keepAddr:Bool):za→Bool
 | .at_ q=>p.isPrefixOf q&&(p !=q|| !keepAddr)
 | .addr q _=>p.isPrefixOf q&&(p !=q|| !keepAddr)
 |_=>false
theorem qg {p q:List Nat}:p.isPrefixOf q=true↔p<+:q:=List.isPrefixOf_iff_prefix
theorem zB (st:zb)(i:Nat)(ks:List Nat):st.at (0::i::ks)=(st.get i).sub ks:=rfl
theorem Zt.dead {E:Env}{st:zb}{tm:Array Value}{i:Nat}:Zt E st tm i .dead:=trivial
theorem Zt.mk {E:Env}{st:zb}{tm:Array Value}{i:Nat}{A:za}{v:Value}(ht:tm[i]?=some v)(h:VRel E (some [0,i]) A v):Zt E st tm i A:=by
 cases A with
 |dead=>trivial
 |at_ p=>cases h
 |addr p k=>cases h
 |_=>exact⟨v,ht,h⟩
theorem Zt.out {E:Env}{st:zb}{tm:Array Value}{i:Nat}{A:za}(hA:A.isAlias=false)(h:Zt E st tm i A):∃v,tm[i]?=some v∧VRel E (some [0,i]) A v:=by
 cases A with
 |dead=>cases hA
 |at_ p=>cases hA
 |addr p k=>cases hA
 |_=>exact h
theorem Zt.carry {E E':Env}{st st':zb}{tm tm':Array Value}{i:Nat}{A:za}(h:Zt E st tm i A)(ht:tm'[i]?=tm[i]?)
    (hv:∀v,A.isAlias=false→VRel E (some [0,i]) A v→VRel E' (some [0,i]) A v)
    (ha:∀p,(A= .at_ p∨∃k,A= .addr p k)→∀B,st.at p=some B→B.isAlias=false→(∃B',st'.at p=some B'∧B'.isAlias=false∧(∀hd cs,B= .own hd cs→∃hd' cs',B'= .own hd' cs'))∧zr E' tm' p=zr E tm p):Zt E' st' tm' i A:=by
  cases A with
  |dead=>trivial
  | at_ p=>
    obtain⟨B,v,h1,h0,h2,h3⟩:=h
    obtain⟨⟨B',h4,h6,_⟩,h5⟩:=ha p (.inl rfl) B h1 h0
    exact⟨B',v,h4,h6,h5.trans h2,ht.trans h3⟩
  | addr p k=>
    obtain⟨hd,cs,v,b,o,h1,h2,h3,h4⟩:=h
    obtain⟨⟨B',h5,_,h6⟩,h7⟩:=ha p (.inr ⟨k,rfl⟩) _ h1 rfl
    obtain⟨hd',cs',rfl⟩:=h6 hd cs rfl
    exact⟨hd',cs',v,b,o,h5,h7.trans h2,h3,ht.trans h4⟩
  |sc v=>obtain⟨v,h1,h2⟩:=h;exact⟨v,ht.trans h1,hv _ rfl h2⟩
  |agg v=>obtain⟨v,h1,h2⟩:=h;exact⟨v,ht.trans h1,hv _ rfl h2⟩
  |imm=>obtain⟨v,h1,h2⟩:=h;exact⟨v,ht.trans h1,hv _ rfl h2⟩
  |own=>obtain⟨v,h1,h2⟩:=h;exact⟨v,ht.trans h1,hv _ rfl h2⟩
  |sl=>obtain⟨v,h1,h2⟩:=h;exact⟨v,ht.trans h1,hv _ rfl h2⟩
  |ptr=>obtain⟨v,h1,h2⟩:=h;exact⟨v,ht.trans h1,hv _ rfl h2⟩
  |ia=>obtain⟨v,h1,h2⟩:=h;exact⟨v,ht.trans h1,hv _ rfl h2⟩
  |fn=>obtain⟨v,h1,h2⟩:=h;exact⟨v,ht.trans h1,hv _ rfl h2⟩
  |iface=>obtain⟨v,h1,h2⟩:=h;exact⟨v,ht.trans h1,hv _ rfl h2⟩
  |tup=>obtain⟨v,h1,h2⟩:=h;exact⟨v,ht.trans h1,hv _ rfl h2⟩
  |mp=>obtain⟨v,h1,h2⟩:=h;exact⟨v,ht.trans h1,hv _ rfl h2⟩
variable {E:Env} {N:Nat} {V:List Nat} {st:zb} {tm:Array Value}
theorem zi.at_ (R:zi E N V st tm){p:List Nat}{B:za}(h:st.at p=some B)(hB:B.isAlias=false):∃u,zr E tm p=some u∧VRel E (some p) B u:=by
 match p,h with
 | 0 ::i::ks,h=>
   have hs:=R.slots i
   rw[zB] at h
   by_cases hA:(st.get i).isAlias=false
   · obtain⟨v,h1,h2⟩:=hs.out hA
     obtain⟨u,h3,h4⟩:=h2.sub ks h
     exact⟨u,by simp[zr,h1,h3],by simpa using h4⟩
   · cases ks with
     |nil=>cases h;rw[hB] at hA;exact absurd rfl hA
     | cons k ks=>
       generalize st.get i=A at*
       cases A<;>simp[za.isAlias,za.sub,za.kids] at hA h
 | 1 ::id::k::ks,h=>
   simp only[zb.at] at h
   split at h
   · rename_i cs hcs
     obtain⟨hO,arr,T,f,hb,ha,hl,hf,hv⟩:=R.objs id cs hcs
     · simp only[za.sub,za.kids] at h
       cases hk:cs[k]? with
       |none=>simp[hk] at h
       | some C=>
         simp only[hk] at h
         obtain⟨u,h3,h4⟩:=(hv k C hk).sub ks h
         refine⟨u,?_,by simpa using h4⟩
         simp only[zr,Env.ptr,zF,hb.cell,hf k C hk]
         exact h3
   · cases h
theorem za.sub_cons_nonalias {A B:za}{k:Nat}{ks:List Nat}(h:A.sub (k::ks)=some B):A.isAlias=false:=by
 cases A<;>simp[za.sub,za.kids,za.isAlias] at h⊢
theorem J3 {A:za}{p:List Nat}{b:Bool}(h:A.isAlias=false):A.under p b=false:=by
 cases A<;>simp[za.under,za.isAlias] at h⊢
inductive yv :List Nat→Prop
 |slot (i:Nat) (ks:List Nat):yv (0::i::ks)
 |cell (id k:Nat) (ks:List Nat):yv (1::id::k::ks)
theorem zq {p:List Nat}{B:za}(h:st.at p=some B):yv p:=by
 match p,h with
 |0::i::ks,_=>exact .slot i ks
 |1::id::k::ks,_=>exact .cell id k ks
theorem JS {i j:Nat}{ks js:List Nat}(h:i≠j):ZN (0::i::ks) (0::j::js):=by
 constructor<;>intro hp
 · rw[List.cons_prefix_cons,List.cons_prefix_cons] at hp;exact h hp.2.1
 · rw[List.cons_prefix_cons,List.cons_prefix_cons] at hp;exact h hp.2.1.symm
theorem zl {i j:Nat}{ks js:List Nat}(h:i≠j):ZN (i::ks) (j::js):=by
 constructor<;>intro hp
 · rw[List.cons_prefix_cons] at hp;exact h hp.1
 · rw[List.cons_prefix_cons] at hp;exact h hp.1.symm
theorem yc {i j:Nat}{ks js:List Nat}(h:i≠j):ZN (1::i::ks) (1::j::js):=by
 constructor<;>intro hp
 · rw[List.cons_prefix_cons,List.cons_prefix_cons] at hp;exact h hp.2.1
 · rw[List.cons_prefix_cons,List.cons_prefix_cons] at hp;exact h hp.2.1.symm
theorem Wp {bad:za→Bool}{q:List Nat}{C:za}(hb:∀A:za,A.isAlias=false→bad A=false)(h:st.at q=some C):
    ∃C',(st.kill bad).at q=some C'∧(C.isAlias=false→C'=C):=by
  match q,h with
  | 0::j::[],h=>
    rw[zB,za.sub] at h
    cases h
    refine⟨_,by rw[zB,zb.get_kill,za.sub],fun h=>by rw[hb _ h];rfl⟩
  | 0::j::k::js,h=>
    rw[zB] at h
    have hA:=za.sub_cons_nonalias h
    exact⟨C,by rw[zB,zb.get_kill,hb _ hA];exact h,fun _=>rfl⟩
  |1::id::k::js,h=>exact⟨C,h,fun _=>rfl⟩
theorem UH {bad:za→Bool}(hb:∀A:za,A.isAlias=false→bad A=false){i:Nat}(h:Zt E st tm i (st.get i)):
    Zt E (st.kill bad) tm i ((st.kill bad).get i):=by
  rw[zb.get_kill]
  cases hbad:bad (st.get i) with
  |true=>trivial
  | false=>
    refine Zt.carry h rfl (fun v _ h=>h) fun p _ B hB hA=>?_
    obtain⟨C',h1,h2⟩:=Wp (bad:=bad) hb hB
    have:=h2 hA
    subst this
    exact⟨⟨C',h1,hA,fun hd cs e=>⟨hd,cs,e⟩⟩,rfl⟩
theorem zi.kill (R:zi E N V st tm){bad:za→Bool}(hb:∀A:za,A.isAlias=false→bad A=false):zi E N V (st.kill bad) tm where
 size:=R.size
 keys:=by simp only[zb.kill,ZZ];exact R.keys
 num:=R.num
 disj:=by simp only[zb.kill,ZZ];exact R.disj
 lim:=R.lim
 roots i A r hA hr:=by
  rw[zb.get_kill] at hA
  cases hbad:bad (st.get i) with
  |true=>rw[hbad] at hA;subst hA;cases hr
  |false=>rw[hbad] at hA;simp only[zb.kill,ZZ];exact R.roots i A r hA hr
 slots i:=UH hb (R.slots i)
 objs:=R.objs
theorem Yt {i j:Nat}{ks:List Nat}{B B':za}(h:st.at (0::i::ks)=some B)(hB:B.isAlias=false):
    (st.setAt (0::i::ks) B').get j=if i=j then(st.get i).setSub ks B' else st.get j:=by
  simp only[zb.setAt]
  by_cases hij:i=j
  · subst hij
    simp only[if_true]
    refine zb.get_set st _ ?_
    rw[zB] at h
    have hA:(st.get i).isAlias=false:=by
      cases ks with
      |nil=>cases h;exact hB
      |cons k ks=>exact za.sub_cons_nonalias h
    unfold zb.get at hA
    cases h1:zG st.ts i with
    |some A=>exact .inl ⟨A,rfl⟩
    | none=>
      cases h2:zG st.vs i with
      |some A=>exact .inr ⟨A,rfl⟩
      |none=>simp[h1,h2,ZM,za.isAlias] at hA
  · simp only[hij,if_false]
    exact zb.get_set_ne st _ hij
theorem Yu {id k j:Nat}{ks:List Nat}{B':za}:(st.setAt (1::id::k::ks) B').get j=st.get j:=by
 simp only[zb.setAt]
 split<;>rfl
theorem JU.keep {p:List Nat}{E':Env}(U:zM p E E'){id:Nat}{cs:List za}(hid:id<E.n)(h:JU E id cs)(hp:ZN p [1,id]):JU E' id cs:=by
 obtain⟨hO,arr,T,f,hb,ha,hl,hf,hv⟩:=h
 obtain⟨h1,h2,h3⟩:=U.ids.2 id hid
 obtain⟨h4,h5⟩:=U.else_ _ _ hO hp.1
 refine⟨by rw[h1];exact h4,arr,T,f,by rw[h1];exact hb.keep h5,by rw[h2,h3];exact ha,by rw[h3];exact hl,fun k A hk=>by rw[h2];exact hf k A hk,fun k A hk=>?_⟩
 refine U.keep (hv k A hk) fun ℓ e=>?_
 cases e
 exact⟨fun hq=>by
  rcases List.prefix_or_prefix_of_prefix hq (List.prefix_append [1,id] [k]) with h|h
  · exact hp.1 h
  · exact hp.2 h,fun hq=>hp.2 ((List.prefix_append [1,id] [k]).trans hq)⟩
theorem JU.turn {E':Env}{id k:Nat}{ks:List Nat}(U:zM (1::id::k::ks) E E'){cs:List za}{C B B':za}{u:Value}(hid:id<E.n)(h:JU E id cs)
    (hk:cs[k]?=some C) (hB:C.sub ks=some B) (hu:zF E.w (E.ptr id) (k::ks)=some u) (h':VRel E' (some (1::id::k::ks)) B' u):JU E' id (cs.set k (C.setSub ks B')):=by
  obtain⟨hO,arr,T,f,hb,ha,hl,hf,hv⟩:=h
  obtain⟨h1,h2,h3⟩:=U.ids.2 id hid
  have hnot:¬(1::id::k::ks)<+:[1,id]:=fun h=>by have:=h.length_le;simp at this
  obtain⟨h4,h5⟩:=U.else_ _ _ hO hnot
  simp only[Env.ptr,zF,hb.cell,hf k C hk] at hu
  refine⟨by rw[h1];exact h4,arr,T,f,by rw[h1];exact hb.keep h5,by rw[h2,h3];exact ha,by rw[h3];simpa using hl,fun j A hj=>?_,fun j A hj=>?_⟩
  · rw[h2]
    rw[List.getElem?_set] at hj
    by_cases hkj:k=j
    · subst hkj;exact hf k C hk
    · exact hf j A (by simpa[hkj] using hj)
  · rw[List.getElem?_set] at hj
    by_cases hkj:k=j
    · subst hkj
      have hlt:k<cs.length:=(List.getElem?_eq_some_iff.1 hk).1
      simp[hlt] at hj
      subst hj
      exact VRel.turn ks (ℓ:=[1,id]++[k]) (by simpa using U) (hv k C hk) hB hu (by simpa using h')
    · refine U.keep (hv j A (by simpa[hkj] using hj)) fun ℓ e=>?_
      cases e
      exact(yb (ℓ:=[1,id]) hkj ks).symm
theorem zi.turn (R:zi E N V st tm){p:List Nat}{B B':za}{u:Value}{E':Env}{keep:Bool}(h:st.at p=some B)(hB:B.isAlias=false)(hB':keep=true→∃hd cs,B'= .own hd cs)
    (U:zM p E E') (hlim:∀b q,E'.O b=some q→b<E'.w.heap.size) (hn:E'.n=E.n) (hu:zr E tm p=some u) (h':VRel E' (some p) B' u):zi E' N V ((st.kill (za.under p keep)).setAt p B') tm:=by
  have hna:∀A:za,A.isAlias=false→A.under p keep=false:=fun A h=>J3 h
  have R1:=R.kill hna
  obtain⟨B1,h1,hB1⟩:=Wp (bad:=za.under p keep) hna h
  have:=hB1 hB
  subst this
  generalize hst:st.kill (za.under p keep)=st1 at*
  have hlive:∀i q,(st1.get i= .at_ q∨∃k,st1.get i= .addr q k)→¬(p<+:q∧p≠q)∧(q=p→keep=true):=by
    intro i q hq
    have hb:∀A,st1.get i=A→A.isAlias=true→A≠ .dead→A.under p keep=false:=by
      intro A hA _ hd
      rw[←hst,zb.get_kill] at hA
      cases hx:(st.get i).under p keep with
      |true=>rw[hx] at hA;exact absurd hA.symm hd
      |false=>rw[hx] at hA;simp only[cond_false] at hA;rw[←hA];exact hx
    rcases hq with hq|⟨k,hq⟩
    · have:=hb _ hq rfl (by simp)
      simp only[za.under,Bool.and_eq_false_imp,qg] at this
      refine⟨fun⟨h1,h2⟩=>h2 (by simpa using (Bool.or_eq_false_iff.1 (this h1)).1),fun e=>?_⟩
      subst e
      simpa using (Bool.or_eq_false_iff.1 (this (List.prefix_refl _))).2
    · have:=hb _ hq rfl (by simp)
      simp only[za.under,Bool.and_eq_false_imp,qg] at this
      refine⟨fun⟨h1,h2⟩=>h2 (by simpa using (Bool.or_eq_false_iff.1 (this h1)).1),fun e=>?_⟩
      subst e
      simpa using (Bool.or_eq_false_iff.1 (this (List.prefix_refl _))).2
  clear hst hna hB1 h R
  match p,zq h1,h1,hlive,U,hu,h' with
  | 0 ::i::ks,_,h1,hlive,U,hu,h'=>
    have hget:=fun j=>Yt (j:=j) (B':=B') h1 hB
    have hA:(st1.get i).isAlias=false:=by
      rw[zB] at h1
      cases ks with
      |nil=>cases h1;exact hB
      |cons k ks=>exact za.sub_cons_nonalias h1
    obtain⟨va,hva,hra⟩:=(R1.slots i).out hA
    have hu':zF E.w va ks=some u:=by simpa[zr,hva] using hu
    have hsub:(st1.get i).sub ks=some B1:=h1
    have hturn:VRel E' (some [0,i]) ((st1.get i).setSub ks B') va:=VRel.turn ks (ℓ:=[0,i]) U hra hsub hu' h'
    have hh:(st1.setAt (0::i::ks) B').h=st1.h:=(zb.set_keys _ _ _).2.2
    have hnonal:((st1.get i).setSub ks B').root=none:=by
      cases ks with
      | nil=>
        have e:(st1.get i).setSub [] B'=B':=by cases st1.get i<;>rfl
        rw[e]
        cases B' with
        |at_=>cases h'
        |addr=>cases h'
        |_=>rfl
      | cons k ks=>
        generalize st1.get i=X at hsub
        cases X<;>simp[za.sub,za.kids] at hsub<;>rfl
    have hways:∀q C,st1.at q=some C→¬((0::i::ks)<+:q∧(0::i::ks)≠q)→(∃C',(st1.setAt (0::i::ks) B').at q=some C'∧(q=0::i::ks→C'=B')∧(q≠0::i::ks→C'=C∨(∃hd cs cs',C= .own hd cs∧C'= .own hd cs')∨(∃cs cs',C= .agg cs∧C'= .agg cs')∨∃cs cs',C= .tup cs∧C'= .tup cs'))∧zr E' tm q=zr E tm q:=by
      intro q C hC hn
      match q,hC,hn with
      | 0 ::j::js,hC,hn=>
        rw[zB] at hC
        by_cases hij:i=j
        · subst hij
          have hn':¬(ks<+:js∧ks≠js):=fun⟨x,y⟩=>hn ⟨by simpa[List.cons_prefix_cons] using x,by simpa using y⟩
          obtain⟨C',c1,c2,c3,c4⟩:=JH ks js B' hsub hC hn'
          refine⟨⟨C',by rw[zB,hget];simpa using c1,fun e=>c3 (by simpa using e),fun hne=>c4 (by simpa using hne)⟩,?_⟩
          simp only[zr,hva]
          exact VRel.way (ℓ:=[0,i]) U js (by simpa using hn) hra hC
        · refine⟨⟨C,by rw[zB,hget];simpa[hij] using hC,fun e=>absurd (by injection e with _ e;injection e with e1 _;exact e1.symm) hij,fun _=> .inl rfl⟩,?_⟩
          cases js with
          |nil=>simp[zr,zF]
          | cons k js=>
            obtain⟨vj,hvj,hrj⟩:=(R1.slots j).out (za.sub_cons_nonalias hC)
            simp only[zr,hvj]
            exact VRel.way (ℓ:=[0,j]) U (k::js) (fun⟨hx,_⟩=>(JS hij).1 hx) hrj hC
      | 1 ::id::k::js,hC,hn=>
        refine⟨⟨C,by simp only[zb.at,hh];exact hC,fun e=>(by simp at e),fun _=> .inl rfl⟩,?_⟩
        simp only[zb.at] at hC
        split at hC
        · rename_i cs hcs
          obtain⟨hO,arr,T,f,hb,ha,hl,hf,hv⟩:=R1.objs id cs hcs
          have hid:id<E.n:=by rw[R1.num];exact(List.getElem?_eq_some_iff.1 hcs).1
          obtain⟨e1,e2,e3⟩:=U.ids.2 id hid
          obtain⟨_,hb'⟩:=U.else_ _ _ hO (zl (by decide)).1
          simp only[za.sub,za.kids] at hC
          cases hk:cs[k]? with
          |none=>simp[hk] at hC
          | some D=>
            simp only[hk] at hC
            simp only[zr,Env.ptr,zF,e1,e2,hb.cell,(hb.keep hb').cell,hf k D hk]
            exact VRel.way (ℓ:=[1,id]++[k]) U js (fun⟨hx,_⟩=>(zl (by decide)).1 hx) (hv k D hk) hC
        · cases hC
    refine⟨R1.size,?_,by rw[hn,R1.num,hh],by rw[show(st1.setAt (0::i::ks) B').ts.map (·.1)=st1.ts.map (·.1) from(zb.set_keys _ _ _).2.1];exact R1.disj,hlim,?_,?_,?_⟩
    · exact((zb.set_keys _ _ _).1).trans R1.keys
    · intro j A r hjA hr
      rw[hget] at hjA
      have hts:(st1.setAt (0::i::ks) B').ts.map (·.1)=st1.ts.map (·.1):=(zb.set_keys _ _ _).2.1
      rw[hts]
      by_cases hij:i=j
      · subst hij
        simp only[if_true] at hjA
        subst hjA
        rw[hnonal] at hr
        cases hr
      · simp only[hij,if_false] at hjA
        exact R1.roots j A r hjA hr
    · intro j
      rw[hget]
      by_cases hij:i=j
      · subst hij
        simp only[if_true]
        exact Zt.mk hva hturn
      · simp only[hij,if_false]
        refine Zt.carry (R1.slots j) rfl (fun v _ hr=>U.keep hr fun ℓ e=>by cases e;exact JS hij) fun q hq C hC hCA=>?_
        obtain⟨hl1,hl2⟩:=hlive j q (hq.imp (fun h=>h) fun⟨k,h⟩=>⟨k,h⟩)
        obtain⟨⟨C',c1,c2,c3⟩,c4⟩:=hways q C hC hl1
        by_cases hqp:q=0::i::ks
        · obtain⟨hd',cs',e'⟩:=hB' (hl2 hqp)
          have e2:=(c2 hqp).trans e'
          exact⟨⟨C',c1,by rw[e2];rfl,fun _ _ _=>⟨hd',cs',e2⟩⟩,c4⟩
        · rcases c3 hqp with e|⟨hd,cs,cs',e,e'⟩|⟨cs,cs',e,e'⟩|⟨cs,cs',e,e'⟩
          · exact⟨⟨C',c1,by rw[e];exact hCA,fun hd cs h=>⟨hd,cs,by rw[e];exact h⟩⟩,c4⟩
          · exact⟨⟨C',c1,by rw[e'];rfl,fun _ _ _=>⟨hd,cs',e'⟩⟩,c4⟩
          · exact⟨⟨C',c1,by rw[e'];rfl,fun _ _ h=>by rw[e] at h;cases h⟩,c4⟩
          · exact⟨⟨C',c1,by rw[e'];rfl,fun _ _ h=>by rw[e] at h;cases h⟩,c4⟩
    · intro id cs hcs
      rw[hh] at hcs
      have hid:id<E.n:=by rw[R1.num];exact(List.getElem?_eq_some_iff.1 hcs).1
      exact(R1.objs id cs hcs).keep U hid (zl (by decide))
  | 1 :: id :: k :: ks,_,h1,hlive,U,hu,h'=>
    have hget:=fun j=>Yu (st:=st1) (id:=id) (k:=k) (j:=j) (ks:=ks) (B':=B')
    have h1':=h1
    simp only[zb.at] at h1
    split at h1
    · rename_i cs hcs
      obtain⟨hO,arr,T,f,hb,ha,hl,hf,hv⟩:=R1.objs id cs hcs
      have hidn:id<E.n:=by rw[R1.num];exact(List.getElem?_eq_some_iff.1 hcs).1
      have hidl:id<st1.h.length:=(List.getElem?_eq_some_iff.1 hcs).1
      obtain⟨e1,e2,e3⟩:=U.ids.2 id hidn
      have hnot:¬(1::id::k::ks)<+:[1,id]:=fun h=>by have:=h.length_le;simp at this
      obtain⟨_,hb'⟩:=U.else_ _ _ hO hnot
      simp only[za.sub,za.kids] at h1
      cases hk:cs[k]? with
      |none=>simp[hk] at h1
      | some D=>
        simp only[hk] at h1
        have hkl:k<cs.length:=(List.getElem?_eq_some_iff.1 hk).1
        have hh:(st1.setAt (1::id::k::ks) B').h=st1.h.set id (some (cs.set k (D.setSub ks B'))):=by simp only[zb.setAt,hcs,hk]
        have hvs:(st1.setAt (1::id::k::ks) B').vs=st1.vs:=by simp only[zb.setAt,hcs]
        have hts:(st1.setAt (1::id::k::ks) B').ts=st1.ts:=by simp only[zb.setAt,hcs]
        have hways:∀q C,st1.at q=some C→¬((1::id::k::ks)<+:q∧(1::id::k::ks)≠q)→(∃C',(st1.setAt (1::id::k::ks) B').at q=some C'∧(q=1::id::k::ks→C'=B')∧(q≠1::id::k::ks→C'=C∨(∃hd cs cs',C= .own hd cs∧C'= .own hd cs')∨(∃cs cs',C= .agg cs∧C'= .agg cs')∨∃cs cs',C= .tup cs∧C'= .tup cs'))∧zr E' tm q=zr E tm q:=by
          intro q C hC hn
          match q,hC,hn with
          | 0 ::j::js,hC,hn=>
            rw[zB] at hC
            refine⟨⟨C,by rw[zB,hget];exact hC,fun e=>(by simp at e),fun _=> .inl rfl⟩,?_⟩
            cases js with
            |nil=>simp[zr,zF]
            | cons k' js=>
              obtain⟨vj,hvj,hrj⟩:=(R1.slots j).out (za.sub_cons_nonalias hC)
              simp only[zr,hvj]
              exact VRel.way (ℓ:=[0,j]) U (k'::js) (fun⟨hx,_⟩=>(zl (by decide)).1 hx) hrj hC
          | 1 ::id'::k'::js,hC,hn=>
            simp only[zb.at] at hC
            split at hC
            · rename_i cs' hcs'
              obtain⟨hO1,arr1,T1,f1,hb1,ha1,hl1,hf1,hv1⟩:=R1.objs id' cs' hcs'
              have hid1:id'<E.n:=by rw[R1.num];exact(List.getElem?_eq_some_iff.1 hcs').1
              obtain⟨x1,x2,x3⟩:=U.ids.2 id' hid1
              have hnot1:¬(1::id::k::ks)<+:[1,id']:=fun h=>by have:=h.length_le;simp at this
              obtain⟨_,hb1'⟩:=U.else_ _ _ hO1 hnot1
              simp only[za.sub,za.kids] at hC
              cases hk1:cs'[k']? with
              |none=>simp[hk1] at hC
              | some D1=>
                simp only[hk1] at hC
                have hpv:zr E' tm (1::id'::k'::js)=zr E tm (1::id'::k'::js):=by
                  simp only[zr,Env.ptr,zF,x1,x2,hb1.cell,(hb1.keep hb1').cell,hf1 k' D1 hk1]
                  exact VRel.way (ℓ:=[1,id']++[k']) U js (by simpa using hn) (hv1 k' D1 hk1) hC
                refine⟨?_,hpv⟩
                by_cases hid':id=id'
                · subst hid'
                  rw[hcs] at hcs'
                  cases hcs'
                  have hat:∀js,(st1.setAt (1::id::k::ks) B').at (1::id::k'::js)=(match(cs.set k (D.setSub ks B'))[k']? with|some B=>B.sub js|none=>none):=by
                    intro js
                    simp only[zb.at,hh,List.getElem?_set_self hidl,za.sub,za.kids]<;>(generalize (cs.set k (D.setSub ks B'))[k']?=z;cases z<;>rfl)
                  by_cases hkk:k=k'
                  · subst hkk
                    rw[hk] at hk1
                    cases hk1
                    have hn':¬(ks<+:js∧ks≠js):=fun⟨x,y⟩=>hn ⟨by simpa[List.cons_prefix_cons] using x,fun e=>y (by injection e with _ e;injection e with _ e;injection e)⟩
                    obtain⟨C',c1,c2,c3,c4⟩:=JH ks js B' h1 hC hn'
                    refine⟨C',?_,fun e=>c3 (by simpa using e),fun hne=>c4 (by simpa using hne)⟩
                    rw[hat,List.getElem?_set]
                    simpa[hkl] using c1
                  · refine⟨C,?_,fun e=>absurd (by injection e with _ e;injection e with _ e;injection e with e1 _;exact e1.symm) hkk,fun _=> .inl rfl⟩
                    rw[hat,List.getElem?_set]
                    simpa[hkk,hk1] using hC
                · refine⟨C,?_,fun e=>absurd (by injection e with _ e;injection e with e1 _;exact e1.symm) hid',fun _=> .inl rfl⟩
                  simp only[zb.at,hh,List.getElem?_set,hid',if_false,hcs',za.sub,za.kids,hk1]
                  exact hC
            · cases hC
        refine⟨R1.size,by rw[hvs];exact R1.keys,by rw[hn,R1.num,hh];simp,by rw[hts];exact R1.disj,hlim,?_,?_,?_⟩
        · intro j A r hjA hr
          rw[hget] at hjA
          rw[hts]
          exact R1.roots j A r hjA hr
        · intro j
          rw[hget]
          refine Zt.carry (R1.slots j) rfl (fun v _ hr=>U.keep hr fun ℓ e=>by cases e;exact zl (by decide)) fun q hq C hC hCA=>?_
          obtain⟨hl1,hl2⟩:=hlive j q (hq.imp (fun h=>h) fun⟨k,h⟩=>⟨k,h⟩)
          obtain⟨⟨C',c1,c2,c3⟩,c4⟩:=hways q C hC hl1
          by_cases hqp:q=1::id::k::ks
          · obtain⟨hd',cs',e'⟩:=hB' (hl2 hqp)
            have e2:=(c2 hqp).trans e'
            exact⟨⟨C',c1,by rw[e2];rfl,fun _ _ _=>⟨hd',cs',e2⟩⟩,c4⟩
          · rcases c3 hqp with e|⟨hd,cs,cs',e,e'⟩|⟨cs,cs',e,e'⟩|⟨cs,cs',e,e'⟩
            · exact⟨⟨C',c1,by rw[e];exact hCA,fun hd cs h=>⟨hd,cs,by rw[e];exact h⟩⟩,c4⟩
            · exact⟨⟨C',c1,by rw[e'];rfl,fun _ _ _=>⟨hd,cs',e'⟩⟩,c4⟩
            · exact⟨⟨C',c1,by rw[e'];rfl,fun _ _ h=>by rw[e] at h;cases h⟩,c4⟩
            · exact⟨⟨C',c1,by rw[e'];rfl,fun _ _ h=>by rw[e] at h;cases h⟩,c4⟩
        · intro id' cs' hcs'
          rw[hh,List.getElem?_set] at hcs'
          by_cases hid':id=id'
          · subst hid'
            simp[hidl] at hcs'
            subst hcs'
            exact JU.turn U hidn (R1.objs id cs hcs) hk h1 (by simpa[zr] using hu) h'
          · simp only[hid',if_false] at hcs'
            have hid1:id'<E.n:=by rw[R1.num];exact(List.getElem?_eq_some_iff.1 hcs').1
            exact(R1.objs id' cs' hcs').keep U hid1 (yc hid')
    · cases h1
end Go.Ga

namespace Go.Ga
open Go
variable {E:Env} {N:Nat} {V:List Nat} {st:zb} {tm:Array Value}
theorem XF {tm:Array Value}{d i:Nat}{v:Value}(h:d≠i):(tm.setIfInBounds d v)[i]?=tm[i]?:=by simp[Array.getElem?_setIfInBounds_ne h]
theorem yU {tm:Array Value}{d:Nat}{v:Value}(h:d<tm.size):(tm.setIfInBounds d v)[d]?=some v:=by simp[h]
theorem y4 {d:Nat}{v:Value}{p:List Nat}(h:∀ks,p≠0::d::ks):zr E (tm.setIfInBounds d v) p=zr E tm p:=by
 match p with
 |[]=>rfl
 |[0]=>rfl
 | 0::i::ks=>
   have:d≠i:=fun e=>h ks (by rw[e])
   simp only[zr,XF this]
 |[1]=>rfl
 |1::id::ks=>rfl
 |(n+2)::_=>simp only[zr]
theorem YS {st st':zb}{p:List Nat}(hh:st'.h=st.h)(hg:∀i ks,p=0::i::ks→st'.get i=st.get i):st'.at p=st.at p:=by
 match p with
 |[]=>rfl
 |[0]=>rfl
 |0::i::ks=>rw[zB,zB,hg i ks rfl]
 |[1]=>rfl
 |[1,_]=>rfl
 |1::id::k::ks=>simp only[zb.at,hh]
 |(n+2)::_=>simp only[zb.at]
theorem Qi {A:za}{p:List Nat}(h:A= .at_ p∨∃k,A= .addr p k){d:Nat}{ks:List Nat}(hp:p=0::d::ks):A.root=some d:=by
 subst hp
 rcases h with rfl|⟨k,rfl⟩<;>rfl
theorem zi.other (R:zi E N V st tm){d:Nat}(hd:∀i A,st.get i=A→i≠d→A.root≠some d){st':zb}(hh:st'.h=st.h)(hg:∀i,i≠d→st'.get i=st.get i){v:Value}{i:Nat}(hi:i≠d):
    Zt E st' (tm.setIfInBounds d v) i (st'.get i):=by
  rw[hg i hi]
  refine Zt.carry (R.slots i) (XF (Ne.symm hi)) (fun v _ h=>h) fun p hp B hB hA=>?_
  have hne:∀ks,p≠0::d::ks:=fun ks e=>hd i _ rfl hi (Qi hp e)
  exact⟨⟨B,by rw[YS hh fun j ks e=>hg j (fun e'=>hne ks (by rw[e,e']))];exact hB,hA,fun hd cs e=>⟨hd,cs,e⟩⟩,y4 hne⟩
theorem zi.noRoot (R:zi E N V st tm){d:Nat}(hV:d∉V)(hT:d∉st.ts.map (·.1))(i:Nat)(A:za)(h:st.get i=A):A.root≠some d:=fun e=>by
 rcases R.roots i A d h e with h|h
 · exact hV h
 · exact hT h
theorem zi.putT (R:zi E N V st tm){d:Nat}(hV:d∉V)(hT:d∉st.ts.map (·.1)){A:za}{v:Value}(h:Zt E (st.putT d A) (tm.setIfInBounds d v) d A)
    (hr:∀r,A.root=some r→r∈V∨r∈(st.putT d A).ts.map (·.1)):zi E N V (st.putT d A) (tm.setIfInBounds d v) where
  size:=by simpa using R.size
  keys:=R.keys
  num:=R.num
  disj i hi:=by
    simp only[zb.putT,List.map_cons,List.mem_cons,not_or]
    exact⟨fun e=>hV (e▸hi),R.disj i hi⟩
  lim:=R.lim
  roots i B r hB hr':=by
    rw[zb.get_putT] at hB
    by_cases hi:i=d
    · simp only[hi,if_true] at hB
      subst hB
      exact hr r hr'
    · simp only[hi,if_false] at hB
      exact(R.roots i B r hB hr').imp (fun h=>h) fun h=>by simp only[zb.putT,List.map_cons,List.mem_cons];exact .inr h
  slots i:=by
    by_cases hi:i=d
    · subst hi
      rw[zb.get_putT]
      simpa using h
    · exact R.other (d:=d) (st':=st.putT d A) (fun i A h _=>R.noRoot hV hT i A h) rfl (fun i hi=>by rw[zb.get_putT];simp[hi]) hi
  objs:=R.objs
theorem zi.putT_val (R:zi E N V st tm){d:Nat}(hN:d<N)(hV:d∉V)(hT:d∉st.ts.map (·.1)){A:za}{v:Value}(h:VRel E (some [0,d]) A v):zi E N V (st.putT d A) (tm.setIfInBounds d v):=by
 refine R.putT hV hT (Zt.mk (yU (by rw[R.size];exact hN)) h) fun r hr=>?_
 cases A<;>simp[za.root] at hr<;>cases h
theorem wE {j:Nat}(R:zi E N V st tm)(h:st.get j≠ .dead):j∈V∨j∈st.ts.map (·.1):=by
 unfold zb.get at h
 cases h1:zG st.ts j with
 |some A=>exact .inr (Zw.1 ⟨A,h1⟩)
 | none=>
   cases h2:zG st.vs j with
   |some A=>exact .inl (by rw[←R.keys];exact Zw.1 ⟨A,h2⟩)
   |none=>simp[h1,h2,ZM] at h
theorem vR {A B:za}{ks:List Nat}(h:A.sub ks=some B)(hB:B≠ .dead):A≠ .dead:=by
 rintro rfl
 cases ks with
 |nil=>cases h;exact hB rfl
 |cons k ks=>simp[za.sub,za.kids] at h
theorem zi.root_at (R:zi E N V st tm){i:Nat}{ks:List Nat}{B:za}(h:st.at (0::i::ks)=some B)(hB:B≠ .dead):i∈V∨i∈st.ts.map (·.1):=
 wE R (vR h hB)
theorem zi.putT_at (R:zi E N V st tm){d:Nat}(hN:d<N)(hV:d∉V)(hT:d∉st.ts.map (·.1)){p:List Nat}{B:za}{v:Value}(h:st.at p=some B)(hA:B.isAlias=false)(hv:zr E tm p=some v):
    zi E N V (st.putT d (.at_ p)) (tm.setIfInBounds d v):=by
  have hB:B≠ .dead:=fun e=>by rw[e] at hA;cases hA
  have hne:∀ks,p≠0::d::ks:=fun ks e=>by
    subst e
    rcases R.root_at h hB with h|h
    · exact hV h
    · exact hT h
  refine R.putT hV hT ⟨B,v,?_,hA,(y4 hne).trans hv,yU (by rw[R.size];exact hN)⟩ fun r hr=>?_
  · refine(YS (st:=st) (st':=st.putT d (.at_ p)) rfl fun j ks e=>?_).trans h
    rw[zb.get_putT]
    have:j≠d:=fun e'=>hne ks (by rw[e,e'])
    simp[this]
  · match p,h,hr with
    | 0::i::ks,h,hr=>
      cases hr
      exact(R.root_at h hB).imp (fun h=>h) fun h=>by simp only[zb.putT,List.map_cons,List.mem_cons];exact .inr h
theorem zi.putT_addr (R:zi E N V st tm){d:Nat}(hN:d<N)(hV:d∉V)(hT:d∉st.ts.map (·.1)){p:List Nat}{hd:Option Nat}{cs:List za}{v:Value}{b o k:Nat}(h:st.at p=some (.own hd cs))
    (hv:zr E tm p=some v) (hb:Ga.Value.base v=some (b,o)):zi E N V (st.putT d (.addr p k)) (tm.setIfInBounds d (.pointer (some ⟨b,o+k,none⟩))):=by
  have hne:∀ks,p≠0::d::ks:=fun ks e=>by
    subst e
    rcases R.root_at h (by simp) with h|h
    · exact hV h
    · exact hT h
  refine R.putT hV hT ⟨hd,cs,v,b,o,?_,(y4 hne).trans hv,hb,yU (by rw[R.size];exact hN)⟩ fun r hr=>?_
  · refine(YS (st:=st) (st':=st.putT d (.addr p k)) rfl fun j ks e=>?_).trans h
    rw[zb.get_putT]
    have:j≠d:=fun e'=>hne ks (by rw[e,e'])
    simp[this]
  · match p,h,hr with
    | 0::i::ks,h,hr=>
      cases hr
      exact(R.root_at h (by simp)).imp (fun h=>h) fun h=>by simp only[zb.putT,List.map_cons,List.mem_cons];exact .inr h
def za.rootIs (d:Nat)(A:za):Bool:=A.root==some d
theorem yy {d:Nat}{A:za}(h:A.isAlias=false):A.rootIs d=false:=by
 cases A<;>simp[za.isAlias] at h<;>rfl
def zb.assign (st:zb)(d:Nat)(A:za):zb:=(st.kill (za.rootIs d)).set d A
theorem zb.get_assign {d:Nat}(hd:d∈st.vs.map (·.1)∨d∈st.ts.map (·.1))(A:za)(i:Nat):(st.assign d A).get i=if i=d then A else bif (st.get i).rootIs d then .dead else st.get i:=by
 unfold zb.assign
 by_cases hi:i=d
 · subst hi
   simp only[if_true]
   refine zb.get_set _ _ ?_
   rcases hd with h|h
   · refine .inr (Zw.2 ?_);simp only[zb.kill,ZZ];exact h
   · refine .inl (Zw.2 ?_);simp only[zb.kill,ZZ];exact h
 · simp only[hi,if_false]
   rw[zb.get_set_ne _ _ (Ne.symm hi),zb.get_kill]
theorem zi.assign_raw (R:zi E N V st tm){d:Nat}(hd:d∈V∨d∈st.ts.map (·.1)){A:za}{v:Value}(h:Zt E (st.assign d A) (tm.setIfInBounds d v) d A)(hr:∀r,A.root=some r→r∈V∨r∈st.ts.map (·.1)):
    zi E N V (st.assign d A) (tm.setIfInBounds d v):=by
  have hk:d∈st.vs.map (·.1)∨d∈st.ts.map (·.1):=by rw[R.keys];exact hd
  have R1:=R.kill (bad:=za.rootIs d) fun A h=>yy h
  have k1:=(zb.set_keys (st.kill (za.rootIs d)) d A)
  refine⟨by simpa using R.size,k1.1.trans R1.keys,R1.num.trans (by rw[←k1.2.2];rfl),?_,R.lim,?_,?_,?_⟩
  · intro i hi;rw[show(st.assign d A).ts.map (·.1)=_ from k1.2.1];exact R1.disj i hi
  · intro i B r hB hr'
    have ht:(st.assign d A).ts.map (·.1)=st.ts.map (·.1):=k1.2.1.trans (by simp only[zb.kill,ZZ])
    rw[ht]
    rw[zb.get_assign hk] at hB
    by_cases hi:i=d
    · simp only[hi,if_true] at hB;subst hB;exact hr r hr'
    · simp only[hi,if_false] at hB
      cases hx:(st.get i).rootIs d with
      |true=>rw[hx] at hB;subst hB;simp[za.root] at hr'
      |false=>rw[hx] at hB;exact R.roots i B r hB hr'
  · intro i
    by_cases hi:i=d
    · subst hi
      rw[zb.get_assign hk]
      simpa using h
    · refine R1.other (d:=d) (fun j B hB _ e=>?_) k1.2.2 (fun j hj=>by rw[zb.get_set_ne _ _ (Ne.symm hj)]) hi
      rw[zb.get_kill] at hB
      cases hx:(st.get j).rootIs d with
      |true=>rw[hx] at hB;subst hB;simp[za.root] at e
      |false=>rw[hx] at hB;simp only[cond_false] at hB;rw[hB] at hx;simp[za.rootIs,e] at hx
  · intro id cs hcs
    exact R.objs id cs (by rw[←hcs];exact congrArg (·[id]?) k1.2.2.symm)
theorem zi.assign (R:zi E N V st tm){d:Nat}(hN:d<N)(hd:d∈V∨d∈st.ts.map (·.1)){A:za}{v:Value}(h:VRel E (some [0,d]) A v):zi E N V (st.assign d A) (tm.setIfInBounds d v):=by
 refine R.assign_raw hd (Zt.mk (yU (by rw[R.size];exact hN)) h) fun r hr=>?_
 cases A<;>simp[za.root] at hr<;>cases h
theorem zi.assign_dead (R:zi E N V st tm){d:Nat}(hd:d∈V∨d∈st.ts.map (·.1)):zi E N V (st.assign d .dead) tm:=by
 by_cases hN:d<tm.size
 · have:=R.assign_raw hd (A:= .dead) (v:=tm[d]) trivial fun r hr=>by simp[za.root] at hr
   rwa [show tm.setIfInBounds d tm[d]=tm by
    apply Array.ext_getElem?
    intro i
    by_cases h:d=i
    · subst h;simp[hN]
    · rw[XF h]] at this
 · have:=R.assign_raw hd (A:= .dead) (v:=default) trivial fun r hr=>by simp[za.root] at hr
   rwa [show tm.setIfInBounds d default=tm by simp[Array.setIfInBounds,hN]] at this
end Go.Ga

namespace Go.Ga
open Go
variable {E:Env} {N:Nat} {V:List Nat} {st:zb} {tm:Array Value}
theorem zi.under (R:zi E N V st tm){p:List Nat}{E':Env}(U:zM p E E')(hlim:∀b q,E'.O b=some q→b<E'.w.heap.size)(hn:E'.n=E.n)
    (hs:∀i,st.get i≠ .dead→ZN p [0,i]) (ho:∀id,ZN p [1,id]) (ha:∀i A r,st.get i=A→A.root=some r→ZN p [0,r]):zi E' N V st tm where
  size:=R.size
  keys:=R.keys
  num:=hn.trans R.num
  disj:=R.disj
  lim:=hlim
  roots:=R.roots
  slots i :=by
    by_cases hd:st.get i= .dead
    · rw[hd];trivial
    refine Zt.carry (R.slots i) rfl (fun v _ h=>U.keep h fun ℓ e=>by cases e;exact hs i hd) fun q hq B hB hA=>⟨⟨B,hB,hA,fun hd cs e=>⟨hd,cs,e⟩⟩,?_⟩
    match q,hB,hq with
    | 0 ::j::ks,hB,hq=>
      have hap:=ha i _ j rfl (Qi hq rfl)
      cases ks with
      |nil=>simp[zr,zF]
      | cons k ks=>
        obtain⟨v,hv,hr⟩:=(R.slots j).out (za.sub_cons_nonalias (by rw[zB] at hB;exact hB))
        simp only[zr,hv]
        exact VRel.way (ℓ:=[0,j]) U (k::ks) (fun⟨hx,_⟩=>hap.under (List.prefix_append [0,j] (k::ks)) hx) hr (by rw[zB] at hB;exact hB)
    | 1 ::id::k::ks,hB,_=>
      simp only[zb.at] at hB
      split at hB
      · rename_i cs hcs
        obtain⟨hO,arr,T,f,hb,ha,hl,hf,hv⟩:=R.objs id cs hcs
        have hid:id<E.n:=by rw[R.num];exact(List.getElem?_eq_some_iff.1 hcs).1
        obtain⟨e1,e2,e3⟩:=U.ids.2 id hid
        obtain⟨_,hb'⟩:=U.else_ _ _ hO (ho id).1
        simp only[za.sub,za.kids] at hB
        cases hk:cs[k]? with
        |none=>simp[hk] at hB
        | some D=>
          simp only[hk] at hB
          simp only[zr,Env.ptr,zF,e1,e2,hb.cell,(hb.keep hb').cell,hf k D hk]
          exact VRel.way (ℓ:=[1,id]++[k]) U ks (fun⟨hx,_⟩=>(ho id).under ((List.prefix_append [1,id] [k]).trans (List.prefix_append _ ks)) hx) (hv k D hk) hB
      · cases hB
  objs id cs hcs:=by
    have hid:id<E.n:=by rw[R.num];exact(List.getElem?_eq_some_iff.1 hcs).1
    exact(R.objs id cs hcs).keep U hid (ho id)
theorem zI {E:Env}(p q:List Nat):zM p E (E.relab p q) where
 size:=Nat.le_refl _
 ids:=E.ids_refl
 none_ _ hb _:=⟨ZT hb,rfl⟩
 else_ _ _ hb hp:=⟨jZ hb hp,rfl⟩
theorem jA {E:Env}(p:List Nat):zM p E (E.freeze p) where
 size:=Nat.le_refl _
 ids:=E.ids_refl
 none_ _ hb _:=⟨Z6 hb,rfl⟩
 else_ _ _ hb hp:=⟨Jh hb hp,rfl⟩
theorem Zx {p q:List Nat}(h:∀b r,E.O b=some r→b<E.w.heap.size):∀b r,(E.relab p q).O b=some r→b<(E.relab p q).w.heap.size:=by
 intro b r hb
 simp only[Env.relab,relab] at hb
 cases hO:E.O b with
 |none=>rw[hO] at hb;cases hb
 |some ℓ=>exact h b ℓ hO
theorem JO {p:List Nat}(h:∀b r,E.O b=some r→b<E.w.heap.size):∀b r,(E.freeze p).O b=some r→b<(E.freeze p).w.heap.size:=by
 intro b r hb
 simp only[Env.freeze,jk] at hb
 cases hO:E.O b with
 |none=>rw[hO] at hb;cases hb
 |some ℓ=>exact h b ℓ hO
def qe (p:List Nat):Prop:=p.head?≠some 2∧p≠ []
theorem jO {p r:List Nat}(h:qe p)(hp:p<+:r):∀s,r≠2::s:=by
 rintro s rfl
 obtain⟨h1,h2⟩:=h
 cases p with
 |nil=>exact h2 rfl
 | cons x p=>
   rw[List.cons_prefix_cons] at hp
   exact h1 (by simp[hp.1])
theorem zk {L:List (List Nat)}{p q:List Nat}(hp:qe p)(hq:qe q)(hw:∀r,p<+:r→¬kL L r):zy L E (E.relab p q) where
 size:=Nat.le_refl _
 os:=rfl
 tape:=rfl
 output:=rfl
 old _ hb _:=⟨ZT hb,rfl⟩
 far _ r hb:=⟨jZ hb fun h=>jO hp h r rfl,rfl⟩
 farB b r hb:=by
  simp only[Env.relab,relab] at hb
  cases hO:E.O b with
  |none=>rw[hO] at hb;cases hb
  | some ℓ=>
    rw[hO] at hb
    simp only[] at hb
    split at hb
    · have:=Option.some.inj hb
      exact absurd this (jO hq (List.prefix_append q _) r)
    · exact hb
 ids:=E.ids_refl
 keep _ r hr hb _:=⟨.inl (jZ hb fun h=>hw r h hr),rfl⟩
theorem j0 {L:List (List Nat)}{p:List Nat}(hp:qe p):zy L E (E.freeze p) where
 size:=Nat.le_refl _
 os:=rfl
 tape:=rfl
 output:=rfl
 old _ hb _:=⟨Z6 hb,rfl⟩
 far _ r hb:=⟨Jh hb fun h=>jO hp h r rfl,rfl⟩
 farB b r hb:=by
  simp only[Env.freeze,jk] at hb
  cases hO:E.O b with
  |none=>rw[hO] at hb;cases hb
  | some ℓ=>
    rw[hO] at hb
    simp only[] at hb
    split at hb
    · cases hb
    · exact hb
 ids:=E.ids_refl
 keep _ r _ hb _:=by
  refine⟨?_,rfl⟩
  by_cases h:p<+:r
  · exact .inr (Jg hb h)
  · exact .inl (Jh hb h)
theorem jp (i:Nat)(ks:List Nat):qe (0::i::ks):=⟨by simp,by simp⟩
theorem Ye (ks:List Nat):qe (1::ks):=⟨by simp,by simp⟩
theorem z6 (ks:List Nat):qe (9::ks):=⟨by simp,by simp⟩
theorem zi.take (R:zi E N V st tm){t j:Nat}{A:za}{v:Value}(h:st.get t=A)(hA:A.isAlias=false)(hv:tm[t]?=some v):
    zi (E.relab [0,t] [9,j]) N V (st.assign t .dead) tm∧VRel (E.relab [0,t] [9,j]) (some [9,j]) A v:=by
  subst h
  obtain⟨v',h1,h2⟩:=(R.slots t).out hA
  rw[hv] at h1
  cases h1
  have hlive:t∈V∨t∈st.ts.map (·.1):=wE R fun e=>by rw[e] at hA;cases hA
  have hk:t∈st.vs.map (·.1)∨t∈st.ts.map (·.1):=by rw[R.keys];exact hlive
  have R1:=R.assign_dead hlive
  refine⟨R1.under (zI _ _) (Zx R1.lim) rfl (fun i hi=>?_) (fun id=>zl (by decide)) (fun i A r hA hr=>?_),by simpa using (h2.moved [0,t] [9,j] []).2 (by simp)⟩
  · refine JS fun e=>hi ?_
    rw[zb.get_assign hk,e];simp
  · rw[zb.get_assign hk] at hA
    by_cases hi:i=t
    · simp only[hi,if_true] at hA;subst hA;cases hr
    · simp only[hi,if_false] at hA
      cases hx:(st.get i).rootIs t with
      |true=>rw[hx] at hA;subst hA;cases hr
      | false=>
        rw[hx] at hA
        simp only[cond_false] at hA
        rw[hA] at hx
        refine JS fun e=>?_
        subst e
        simp[za.rootIs,hr] at hx
theorem zi.flight (R:zi E N V st tm){j:Nat}{ks:List Nat}{E':Env}(U:zM (9::j::ks) E E')(hlim:∀b q,E'.O b=some q→b<E'.w.heap.size)(hn:E'.n=E.n):zi E' N V st tm:=
 R.under U hlim hn (fun _ _=>zl (by decide)) (fun _=>zl (by decide)) (fun _ _ _ _ _=>zl (by decide))
theorem zi.land (R:zi E N V st tm){j:Nat}(q:List Nat):zi (E.relab [9,j] q) N V st tm:=R.flight (zI [9,j] q) (Zx R.lim) rfl
theorem VRel.land {j:Nat}{A:za}{v:Value}(h:VRel E (some [9,j]) A v)(q:List Nat):VRel (E.relab [9,j] q) (some q) A v:=by
 simpa using (h.moved [9,j] q []).2 (by simp)
def Env.fresh (E:Env)(o:Obj)(ℓ:List Nat):Env:={E with w:=E.w.alloc o,O:=fun b=>if b=E.w.heap.size then some ℓ else E.O b}
theorem ji {w:World}{o:Obj}{b:Nat}(h:b<w.heap.size):(w.alloc o).heap[b]?=w.heap[b]?:=by
 show(w.heap.push o)[b]?=_
 rw[Array.getElem?_push];simp[Nat.ne_of_lt h]
theorem uu {w:World}{o:Obj}:(w.alloc o).heap.size=w.heap.size+1:=by simp
theorem jl (hl:∀b q,E.O b=some q→b<E.w.heap.size)(o:Obj)(ℓ:List Nat):zM ℓ E (E.fresh o ℓ) where
 size:=by simp[Env.fresh]
 ids:=⟨Nat.le_refl _,fun _ _=>⟨rfl,rfl,rfl⟩⟩
 none_ b hb hs:=⟨by simp[Env.fresh,Nat.ne_of_lt hs,hb],ji hs⟩
 else_ b q hb _:=⟨by simp[Env.fresh,Nat.ne_of_lt (hl b q hb),hb],ji (hl b q hb)⟩
theorem qF (hl:∀b q,E.O b=some q→b<E.w.heap.size)(o:Obj)(ℓ:List Nat):∀b q,(E.fresh o ℓ).O b=some q→b<(E.fresh o ℓ).w.heap.size:=by
 intro b q hb
 simp only[Env.fresh,uu] at hb⊢
 split at hb
 · omega
 · have:=hl b q hb;omega
theorem JI (hl:∀b q,E.O b=some q→b<E.w.heap.size){L:List (List Nat)}(o:Obj){ℓ:List Nat}(hm:qe ℓ):zy L E (E.fresh o ℓ) where
 size:=by simp[Env.fresh]
 os:=rfl
 tape:=rfl
 output:=rfl
 old:=(jl hl o ℓ).none_
 far b r hb:=⟨by simp[Env.fresh,Nat.ne_of_lt (hl b _ hb),hb],ji (hl b _ hb)⟩
 farB b r hb:=by
  simp only[Env.fresh] at hb
  split at hb
  · exact absurd (Option.some.inj hb) (jO hm (List.prefix_refl _) r)
  · exact hb
 ids:=⟨Nat.le_refl _,fun _ _=>⟨rfl,rfl,rfl⟩⟩
 keep b _ _ hb hs:=⟨.inl (by simp[Env.fresh,Nat.ne_of_lt hs,hb]),ji hs⟩
theorem VRel.fresh_keep (hl:∀b q,E.O b=some q→b<E.w.heap.size)(o:Obj)(ℓ:List Nat){po:Option (List Nat)}{A:za}{v:Value}(h:VRel E po A v):VRel (E.fresh o ℓ) po A v:=
 VRel.keep (E:=E) (E':=E.fresh o ℓ) ⟨Nat.le_refl _,fun _ _=>⟨rfl,rfl,rfl⟩⟩ (by simp[Env.fresh]) h fun b hb=>by
  have hs:b<E.w.heap.size:=by
   rcases hb with hb|⟨_,q,_,hq,_⟩
   · exact hb.2
   · exact hl b q hq
  exact⟨by simp[Env.fresh,Nat.ne_of_lt hs],ji hs⟩
end Go.Ga

namespace Go.Ga
open Go
inductive zm where
 |t (i:Nat)
 |c (v:Value)
 |f (g:Nat)
inductive Xw where
 |mov (d:Nat) (x:zm)
 |asg (d:Nat) (x:zm) (mv:Bool)
 |pick (d:Nat) (c a b:zm)
 |bin (d:Nat) (op:BinOp) (tag:Nat) (x y:zm)
 |notb (d:Nat) (x:zm)
 |conv (d:Nat) (k:IntKind) (x:zm)
 |nilck (d:Nat) (x:zm)
 |fldA (d:Nat) (x:zm) (off:Nat)
 |fld (d:Nat) (x:zm) (off n:Nat) (ag:Bool)
 |idxA (d:Nat) (x i:zm) (sz:Nat)
 |idxP (d:Nat) (x i:zm) (n sz:Nat)
 |idxV (d:Nat) (x i:zm) (n sz:Nat) (ag:Bool)
 |idxS (d:Nat) (x i:zm)
 |ld (d:Nat) (x:zm) (n:Nat) (ag:Bool)
 |st (x v:zm) (n:Nat)
 |len (d:Nat) (x:zm)
 |lenS (d:Nat) (x:zm)
 |mm (d:Nat) (mx:Bool) (x y:zm)
 |mk (d:Nat) (l c:zm) (sz bs:Nat) (zs:List Value)
 |blds (d:Nat) (len sz:Nat) (parts:List (Nat×zm)) (zs:List Value)
 |bld (d:Nat) (parts:List (Nat×Nat×zm)) (zs:List Value)
 |app (d:Nat) (s x:zm) (sz bs:Nat)
 |slc (d:Nat) (x:zm) (lo hi:Option zm) (sz:Nat)
 |box (d:Nat) (x:zm)
 |alloc (d:Nat) (zs:List Value)
 |mkfn (d:Nat) (f:Fn) (first captured:List zm)
 |call (d:Nat) (f:zm) (args:List zm)
 |ext (d:Nat) (x:zm) (i:Nat)
mutual
def za.copyable :za→Bool
 | .agg cs=>za.copyableL cs
 | .tup cs=>za.copyableL cs
 | .own _ _=>false
 | .at_ _=>false
 | .addr _ _=>false
 | .mp _=>false
 | .dead=>false
 |_=>true
def za.copyableL :List za→Bool
 |[]=>true
 |A::l=>A.copyable&&za.copyableL l
end
theorem zC :∀{l:List za} {k:Nat} {A:za},za.copyableL l=true→l[k]?=some A→A.copyable=true
 |A::l,0,B,h,e=>by simp only[za.copyableL,Bool.and_eq_true] at h;cases e;exact h.1
 |A::l,k+1,B,h,e=>by simp only[za.copyableL,Bool.and_eq_true] at h;exact zC h.2 e
theorem VRel.copy {E:Env}{po:Option (List Nat)}{A:za}{v:Value}(h:VRel E po A v):∀po',A.copyable=true→VRel E po' A v:=by
 induction h with
 |sc po v=>exact fun _ _=> .sc _ v
 |dead po v=>exact fun _ _=> .dead _ v
 |agg po cs vs hs h ih=>exact fun po' hc=> .agg _ cs vs hs fun k A v h1 h2=>ih k A v h1 h2 _ (zC hc h1)
 |imm po sz cs b o len cap f hO hb hl hc hf h ih=>exact fun _ _=> .imm _ sz cs b o len cap f hO hb hl hc hf h
 |immNil po sz a=>exact fun _ _=> .immNil _ sz a
 |own ℓ sz cs b o len cap arr T f hO hb hl hc hm ha hf h ih=>exact fun _ hc=>by cases hc
 |ownNil po sz=>exact fun _ hc=>by cases hc
 |box ℓ cs b arr T f hO hb ha hf h ih=>exact fun _ hc=>by cases hc
 |sl po id off len cap sz hn hc hm hκ=>exact fun _ _=> .sl _ id off len cap sz hn hc hm hκ
 |ptr po id off hn=>exact fun _ _=> .ptr _ id off hn
 |ia po cs b o f hO hb hf h ih=>exact fun _ _=> .ia _ cs b o f hO hb hf h
 |fn po g as bs us vs hu hv h1 h2 ih1 ih2=>exact fun _ _=> .fn _ g as bs us vs hu hv h1 h2
 |iface po t A v h ih=>exact fun _ _=> .iface _ t A v h
 |tup po cs vs hs h ih=>exact fun po' hc=> .tup _ cs vs hs fun k A v h1 h2=>ih k A v h1 h2 _ (zC hc h1)
 |mp ℓ ks b es c hO hb he=>exact fun _ hc=>by cases hc
def zb.ev (st:zb):zm→za
 | .t i=>st.get i
 | .c v=> .sc v
 | .f g=> .fn (.func g) [] []
def za.here (i:Nat):za→za
 | .own none _=> .addr [0,i] 0
 | .own (some _) _=> .at_ [0,i]
 |A=>A
def zb.evA (st:zb):zm→za
 | .t i=>(st.get i).here i
 | .c v=> .sc v
 | .f g=> .fn (.func g) [] []
def Wq (op:BinOp)(k:IntKind)(a b:Int):Option Value:=
 match op with
 | .add=>some (.int k (k.wrap (a+b)))
 | .sub=>some (.int k (k.wrap (a - b)))
 | .mul=>some (.int k (k.wrap (a*b)))
 | .quo=>if b=0 then none else some (.int k (k.wrap (a.tdiv b)))
 | .rem=>if b=0 then none else some (.int k (a.tmod b))
 | .eql=>some (.bool (decide (a=b)))
 | .neq=>some (.bool (decide (a≠b)))
 | .lss=>some (.bool (decide (a<b)))
 | .leq=>some (.bool (decide (a≤b)))
 | .gtr=>some (.bool (decide (b<a)))
 | .geq=>some (.bool (decide (b≤a)))
 | .shl| .shr=>none
 | .and=>some (.int k (k.wrap (BitVec.ofInt k.bits a&&&BitVec.ofInt k.bits b).toNat))
 | .or=>some (.int k (k.wrap (BitVec.ofInt k.bits a|||BitVec.ofInt k.bits b).toNat))
 | .xor=>some (.int k (k.wrap (BitVec.ofInt k.bits a^^^BitVec.ofInt k.bits b).toNat))
 | .andNot=>some (.int k (k.wrap (BitVec.ofInt k.bits a&&&~~~ BitVec.ofInt k.bits b).toNat))
def yT (op:BinOp)(k:IntKind)(a n:Int):Option Value:=
 if n<0 then none else
 match op with
 | .shl=>some (.int k (k.wrap (a*2^(min n.toNat k.bits))))
 | .shr=>some (.int k (a.fdiv (2^(min n.toNat k.bits))))
 |_=>none
def WH (op:BinOp)(a b:Bool):Option Value:=
 match op with
 | .eql=>some (.bool (a==b))
 | .neq=>some (.bool (a !=b))
 |_=>none
def Jf (op:BinOp)(a b:ByteArray):Option Value:=
 match op with
 | .eql=>some (.bool (decide (a.toList=b.toList)))
 | .neq=>some (.bool (!decide (a.toList=b.toList)))
 | .add=>if a.size+b.size≤9223372036854775807 then some (.string (a++b)) else none
 |_=>none
def ZF (op:BinOp)(b:Bool):Option za:=
 match op with
 | .eql=>some (.sc (.bool b))
 | .neq=>some (.sc (.bool !b))
 |_=>none
def qk :List za→List za→Option Bool
 |[],[]=>some true
 | .sc (.int k a)::as,.sc (.int k' b)::bs=>if k=k' then(qk as bs).map fun r=>decide (a=b)&&r else none
 |_,_=>none
def uH :BinOp→Bool
 | .shl=>true
 | .shr=>true
 |_=>false
def zm.slot :zm→Option Nat
 | .t i=>some i
 |_=>none
def zb.owned (st:zb)(p:List Nat):Option (Option Nat×List za):=
 match st.at p with
 |some (.own hd cs)=>some (hd,cs)
 |_=>none
def Q4 (p:List Nat)(k:Nat)(A:za):Option za:=
 bif A.copyable then some A else
 match A with
 | .own none _=>some (.addr (p++[k]) 0)
 | .own (some _) _=>some (.at_ (p++[k]))
 |_=>none
def YY (cs:List za):Option za:=bif za.copyableL cs then some (.agg cs) else none
def cellsOf (p:List Nat)(cs:List za)(k n:Nat)(ag:Bool):Option za:=
 match ag with
 |true=>if k+n≤cs.length then YY ((cs.drop k).take n) else none
 | false=>match cs[k]? with
   |some A=>Q4 p k A
   |none=>none
def zb.isNil (st:zb)(k:Nat)(A:za):Option Bool:=
 match k with
 | 2=>match A with
   | .sc (.pointer none)=>some true
   | .ptr _ _=>some false
   | .ia _=>some false
   | .addr _ _=>some false
   | .own none _=>some false
   |_=>none
 | 3 =>match A with
   | .sc (.slice none 0 0)=>some true
   | .imm _ (_::_)=>some false
   | .own (some _) (_::_)=>some false
   | .sl _ _ _ _=>some false
   | .at_ p=>match st.owned p with
     |some (some _,_::_)=>some false
     |_=>none
   |_=>none
 | 4=>match A with
   | .sc .nilFunc=>some true
   | .fn _ _ _=>some false
   |_=>none
 |_=>none
def zb.lenOf (st:zb):za→Option Nat
 | .imm sz cs=>some (cs.length / sz)
 | .sl _ _ len _=>some len
 | .sc (.slice none 0 0)=>some 0
 | .at_ p=>match st.owned p with
   |some (some sz,cs)=>some (cs.length / sz)
   |_=>none
 | .own (some sz) cs=>some (cs.length / sz)
 |_=>none
def za.int? :za→Option Int
 | .sc (.int _ n)=>some n
 |_=>none
def zb.bnd (st:zb)(dflt:Nat):Option zm→Option Nat
 |none=>some dflt
 | some x=>match(st.ev x).int? with
   |some n=>if 0≤n then some n.toNat else none
   |none=>none
def kO :List za→Option (List UInt8)
 |[]=>some []
 | .sc (.int .u8 n)::r=>if 0≤n∧n<256 then(kO r).map (UInt8.ofNat n.toNat:: ·) else none
 |_=>none
def jd (st:zb):Xw→Option za
 | .mov _ x=>
   let A:=st.ev x
   bif A.copyable then some A else
   match A,x with
   | .own none _,.t i=>some (.addr [0,i] 0)
   | .own (some _) _,.t i=>some (.at_ [0,i])
   | .agg _,.t i=>some (.at_ [0,i])
   | .tup _,.t i=>some (.at_ [0,i])
   | .mp _,.t i=>some (.at_ [0,i])
   | .at_ p,_=>some (.at_ p)
   | .addr p k,_=>some (.addr p k)
   |_,_=>none
 | .pick _ c a b=>
   match st.ev c with
   | .sc (.bool t)=>match st.ev a,st.ev b with
     | .sc (.bool x),.sc (.bool y)=>some (.sc (.bool (bif t then x else y)))
     | A,B=>match t with
       |true=>bif A.copyable then some A else none
       |false=>bif B.copyable then some B else none
   |_=>none
 | .bin _ op tag x y=>
   match tag with
   | 0=>match st.ev x,st.ev y with
     | .sc (.int k a),.sc (.int k' b)=>bif uH op then(yT op k a b).map .sc else if k=k' then(Wq op k a b).map .sc else none
     | .sc (.string a),.sc (.string b)=>(Jf op a b).map .sc
     |_,_=>none
   | 1=>match st.ev x,st.ev y with
     | .sc (.bool a),.sc (.bool b)=>(WH op a b).map .sc
     |_,_=>none
   | k=>if 6≤k then(match st.ev x,st.ev y with
     | .agg as,.agg bs=>if as.length=k - 6 then(qk as bs).bind fun b=>ZF op b else none
     |_,_=>none) else match st.isNil k (st.ev x),st.isNil k (st.ev y) with
     |some true,some b=>ZF op b
     |some false,some true=>ZF op false
     |_,_=>none
 | .notb _ x=>match st.ev x with
   | .sc (.bool b)=>some (.sc (.bool !b))
   |_=>none
 | .conv _ k x=>match st.ev x with
   | .sc (.int _ n)=>some (.sc (.int k (k.wrap n)))
   |_=>none
 | .nilck _ x=>match st.evA x with
   | .ptr id off=>some (.ptr id off)
   | .ia cs=>some (.ia cs)
   | .addr p k=>some (.addr p k)
   | .fn (.func g) as bs=>some (.fn (.func g) as bs)
   |_=>none
 | .fldA _ x off=>match st.evA x with
   | .ptr id o=>some (.ptr id (o+off))
   | .ia cs=>some (.ia (cs.drop off))
   | .addr p k=>some (.addr p (k+off))
   |_=>none
 | .fld _ x off n ag=>match st.ev x with
   | .agg cs=>match ag with
     |true=>if off+n≤cs.length then YY ((cs.drop off).take n) else none
     | false=>match cs[off]? with
       |some A=>bif A.copyable then some A else none
       |none=>none
   | .at_ p=>match st.at p with
     |some (.agg cs)=>cellsOf p cs off n ag
     |_=>none
   |_=>none
 | .idxA _ x i sz=>match(st.ev i).int? with
   | some n=>match st.evA x with
     | .imm s cs=>if s=sz∧0≤n∧n.toNat*sz+sz≤cs.length then some (.ia (cs.drop (n.toNat*sz))) else none
     | .sl id off len s=>if s=sz∧0≤n∧n.toNat<len then some (.ptr id (off+n.toNat*sz)) else none
     | .at_ p=>match st.owned p with
       |some (some s,cs)=>if s=sz∧0≤n∧n.toNat*sz+sz≤cs.length then some (.addr p (n.toNat*sz)) else none
       |_=>none
     |_=>none
   |none=>none
 | .idxP _ x i n sz=>match(st.ev i).int? with
   | some j=>if 0≤j∧j.toNat<n then match st.evA x with
     | .ptr id o=>some (.ptr id (o+j.toNat*sz))
     | .ia cs=>some (.ia (cs.drop (j.toNat*sz)))
     | .addr p k=>some (.addr p (k+j.toNat*sz))
     |_=>none
     else none
   |none=>none
 | .idxV _ x i n sz ag=>match(st.ev i).int? with
   | some j=>if 0≤j∧j.toNat<n then match st.ev x with
     | .agg cs=>match ag with
       |true=>if j.toNat*sz+sz≤cs.length then YY ((cs.drop (j.toNat*sz)).take sz) else none
       | false=>match cs[j.toNat*sz]? with
         |some A=>bif A.copyable then some A else none
         |none=>none
     |_=>none
     else none
   |none=>none
 | .idxS _ x i=>match(st.ev i).int? with
   | some j=>match st.ev x with
     | .sc (.string s)=>if 0≤j∧j.toNat<s.size then some (.sc (.int .u8 (s.data.getD j.toNat 0).toNat)) else none
     |_=>none
   |none=>none
 | .ld _ x n ag=>match st.evA x with
   | .ptr id k=>match st.h[id]? with
     |some (some cs)=>cellsOf [1,id] cs k n ag
     |_=>none
   | .ia cs=>match ag with
     |true=>if n≤cs.length then some (.agg (cs.take n)) else none
     |false=>cs[0]?
   | .addr p k=>match st.owned p with
     |some (_,cs)=>cellsOf p cs k n ag
     |none=>none
   |_=>none
 | .len _ x=>(st.lenOf (st.ev x)).map fun(n:Nat)=> .sc (.int .i64 (n:Int))
 | .lenS _ x=>match st.ev x with
   | .sc (.string s)=>some (.sc (.int .i64 (s.size:Int)))
   |_=>none
 | .slc _ x lo hi sz=>match sz with
   | 0 =>match st.ev x with
     | .sc (.string s)=>match st.bnd 0 lo,st.bnd s.size hi with
       |some l,some h=>if l≤h∧h≤s.size then some (.sc (.string (s.extract l h))) else none
       |_,_=>none
     |_=>none
   | k +1=>match st.evA x with
     | .ia cs=>match st.bnd 0 lo,st.bnd 0 hi with
       |some l,some h=>if l≤h∧h*(k+1)≤cs.length then some (.imm (k+1) ((cs.drop (l*(k+1))).take ((h - l)*(k+1)))) else none
       |_,_=>none
     |_=>none
 | .box _ x=>match st.evA x with
   | .imm 1 cs=>(kO cs).map fun l=> .sc (.string ⟨l.toArray⟩)
   | .at_ p=>match st.owned p with
     |some (some 1,cs)=>(kO cs).map fun l=> .sc (.string ⟨l.toArray⟩)
     |_=>none
   | .sc (.slice none 0 0)=>some (.sc (.string .empty))
   |_=>none
 | .mm _ mx x y=>match st.ev x,st.ev y with
   | .sc (.int k a),.sc (.int k' b)=>if k=k' then some (.sc (.int k (if mx then max a b else min a b))) else none
   |_,_=>none
 | .ext _ x i=>match st.ev x with
   | .tup cs=>match cs[i]? with
     | some A=>bif A.copyable then some A else
       match A,x with
       | .own none _,.t j=>some (.addr [0,j,i] 0)
       | .own (some _) _,.t j=>some (.at_ [0,j,i])
       | .agg _,.t j=>some (.at_ [0,j,i])
       |_,_=>none
     |none=>none
   | .at_ p=>match st.at p with
     | some (.tup cs)=>match cs[i]? with
       | some A=>match A with
         | .agg _=>bif A.copyable then some A else some (.at_ (p++[i]))
         |A=>Q4 p i A
       |none=>none
     |_=>none
   |_=>none
 |_=>none
def Xw.dst :Xw→Option Nat
 | .mov d _| .pick d _ _ _| .bin d _ _ _ _| .notb d _| .conv d _ _| .nilck d _| .fldA d _ _| .fld d _ _ _ _| .idxA d _ _ _| .idxP d _ _ _ _| .idxV d _ _ _ _ _
 | .idxS d _ _| .ld d _ _ _| .len d _| .lenS d _| .mm d _ _ _| .ext d _ _| .mk d _ _ _ _ _| .blds d _ _ _ _| .bld d _ _| .app d _ _ _ _| .slc d _ _ _ _| .box d _| .alloc d _| .mkfn d _ _ _| .call d _ _=>some d
 | .asg _ _ _| .st _ _ _=>none
end Go.Ga

namespace Go.Ga
open Go
def zd :Operand→Option zm
 | .tmp t=>some (.t t)
 | .const v=>some (.c v)
 | .func g=>some (.f g)
 | .global _=>none
def G5 (P:Program)(ρ:Operand→Value)(o:Oper)(rd:List (Addr×Value))(v:Value):Prop:=
 ∀w,(∀c∈rd,w.cell? c.1=some c.2)→(execOp ρ o).run P w= .ok (.value v) w
section
variable {E:Env} {N:Nat} {V:List Nat} {st:zb} {a:Act} {P:Program} {o:Oper}
theorem uh {t:Nat}{v:Value}(h:a.tmps[t]?=some v):a.eval (.tmp t)=v:=by simp[Act.eval,h]
theorem zj (R:zi E N V st a.tmps){x:Operand}{ox:zm}(hx:zd x=some ox){A:za}(hA:st.ev ox=A)(hn:A.isAlias=false):
    ∃v po,a.eval x=v∧VRel E po A v∧(∀i,ox= .t i→a.tmps[i]?=some v∧po=some [0,i]):=by
  subst hA
  cases x with
  | tmp t=>
    cases hx
    obtain⟨v,h1,h2⟩:=(R.slots t).out hn
    exact⟨v,_,uh h1,h2,fun i e=>by cases e;exact⟨h1,rfl⟩⟩
  |const v=>cases hx;exact⟨v,none,rfl,.sc _ v,fun i e=>by cases e⟩
  |func g=>cases hx;exact⟨_,none,rfl,.fn _ _ [] [] #[] #[] rfl rfl (fun k A v h=>by simp at h) (fun k A v h=>by simp at h),fun i e=>by cases e⟩
  |global g=>cases hx
theorem Za (R:zi E N V st a.tmps){x:Operand}{ox:zm}(hx:zd x=some ox){v:Value}(hA:st.ev ox= .sc v):a.eval x=v:=by
 obtain⟨u,po,h1,h2,_⟩:=zj R hx hA rfl
 cases h2
 exact h1
theorem Ji (R:zi E N V st a.tmps){x:Operand}{ox:zm}(hx:zd x=some ox){n:Int}(hA:(st.ev ox).int?=some n):∃k,a.eval x= .int k n:=by
 cases h:st.ev ox with
 | sc v=>
   rw[h] at hA
   cases v<;>simp[za.int?] at hA
   subst hA
   exact⟨_,Za R hx h⟩
 |_=>rw[h] at hA;simp[za.int?] at hA
theorem xy (R:zi E N V st a.tmps){x:Operand}{ox:zm}(hx:zd x=some ox)(hn:(st.ev ox).isAlias=true):∃i,ox= .t i∧x= .tmp i∧Zt E st a.tmps i (st.get i):=by
 cases x with
 |tmp t=>cases hx;exact⟨t,rfl,rfl,R.slots t⟩
 |const v=>cases hx;cases hn
 |func g=>cases hx;cases hn
 |global g=>cases hx
theorem qX (R:zi E N V st a.tmps){x:Operand}{ox:zm}(hx:zd x=some ox){p:List Nat}(hA:st.ev ox= .at_ p):
    ∃B v,st.at p=some B∧B.isAlias=false∧zr E a.tmps p=some v∧a.eval x=v∧VRel E (some p) B v:=by
  obtain⟨i,rfl,rfl,h⟩:=xy R hx (by rw[hA];rfl)
  have hA':st.get i= .at_ p:=hA
  rw[hA'] at h
  obtain⟨B,v,h1,h2,h3,h4⟩:=h
  obtain⟨u,h5,h6⟩:=R.at_ h1 h2
  rw[h3] at h5
  cases h5
  exact⟨B,v,h1,h2,h3,uh h4,h6⟩
theorem yJ (R:zi E N V st a.tmps){x:Operand}{ox:zm}(hx:zd x=some ox){p:List Nat}{k:Nat}(hA:st.ev ox= .addr p k):
    ∃hd cs v b o,st.at p=some (.own hd cs)∧zr E a.tmps p=some v∧Ga.Value.base v=some (b,o)∧a.eval x= .pointer (some ⟨b,o+k,none⟩)∧VRel E (some p) (.own hd cs) v:=by
  obtain⟨i,rfl,rfl,h⟩:=xy R hx (by rw[hA];rfl)
  have hA':st.get i= .addr p k:=hA
  rw[hA'] at h
  obtain⟨hd,cs,v,b,o,h1,h2,h3,h4⟩:=h
  obtain⟨u,h5,h6⟩:=R.at_ h1 rfl
  rw[h2] at h5
  cases h5
  exact⟨hd,cs,v,b,o,h1,h2,h3,uh h4,h6⟩
theorem xr {A B:za}{i:Nat}(h:A.here i=B)(hn:B.isAlias=false):A=B:=by
 unfold za.here at h
 split at h
 · subst h;cases hn
 · subst h;cases hn
 · exact h
theorem zO {ox:zm}{A:za}(h:st.evA ox=A)(hn:A.isAlias=false):st.ev ox=A:=by
 cases ox with
 |t i=>exact xr h hn
 |c v=>exact h
 |f g=>exact h
theorem YR {i:Nat}:st.at [0,i]=some (st.get i):=rfl
theorem Qa {i:Nat}{v:Value}(h:a.tmps[i]?=some v):zr E a.tmps [0,i]=some v:=by
 simp only[zr,h]
 cases v<;>simp[zF]
theorem uI (R:zi E N V st a.tmps){x:Operand}{ox:zm}(hx:zd x=some ox){i:Nat}(hox:ox= .t i){p:List Nat}(hA:(st.get i).here i= .at_ p):
    ∃B v,st.at p=some B∧B.isAlias=false∧zr E a.tmps p=some v∧a.eval x=v∧VRel E (some p) B v:=by
  subst hox
  unfold za.here at hA
  split at hA
  · cases hA
  · rename_i sz cs hg
    cases hA
    obtain⟨v,po,h1,h2,h3⟩:=zj R hx (A:= .own (some sz) cs) hg rfl
    obtain⟨h4,rfl⟩:=h3 i rfl
    exact⟨.own (some sz) cs,v,by rw[YR,hg],rfl,Qa h4,h1,h2⟩
  · exact qX R hx hA
theorem Q2 (R:zi E N V st a.tmps){x:Operand}{ox:zm}(hx:zd x=some ox){p:List Nat}(hA:st.evA ox= .at_ p):
    ∃B v,st.at p=some B∧B.isAlias=false∧zr E a.tmps p=some v∧a.eval x=v∧VRel E (some p) B v:=by
  cases ox with
  |t i=>exact uI R hx rfl hA
  |c v=>cases hA
  |f g=>cases hA
theorem wG (R:zi E N V st a.tmps){x:Operand}{ox:zm}(hx:zd x=some ox){i:Nat}(hox:ox= .t i){p:List Nat}{k:Nat}(hA:(st.get i).here i= .addr p k):
    ∃hd cs v b o,st.at p=some (.own hd cs)∧zr E a.tmps p=some v∧Ga.Value.base v=some (b,o)∧a.eval x= .pointer (some ⟨b,o+k,none⟩)∧VRel E (some p) (.own hd cs) v:=by
  subst hox
  unfold za.here at hA
  split at hA
  · rename_i cs hg
    cases hA
    obtain⟨v,po,h1,h2,h3⟩:=zj R hx (A:= .own none cs) hg rfl
    obtain⟨h4,rfl⟩:=h3 i rfl
    have h2':=h2
    cases h2 with
    |box _ _ b arr T f hO hb ha hf hh=>exact⟨none,cs,_,b,0,by rw[YR,hg],Qa h4,rfl,h1,h2'⟩
  · cases hA
  · exact yJ R hx hA
theorem jP (R:zi E N V st a.tmps){x:Operand}{ox:zm}(hx:zd x=some ox){p:List Nat}{k:Nat}(hA:st.evA ox= .addr p k):
    ∃hd cs v b o,st.at p=some (.own hd cs)∧zr E a.tmps p=some v∧Ga.Value.base v=some (b,o)∧a.eval x= .pointer (some ⟨b,o+k,none⟩)∧VRel E (some p) (.own hd cs) v:=by
  cases ox with
  |t i=>exact wG R hx rfl hA
  |c v=>cases hA
  |f g=>cases hA
structure zo (N:Nat)(V:List Nat)(st:zb)(d:Nat):Prop where
 lt:d<N
 v:d∉V
 t:d∉st.ts.map (·.1)
theorem JW (R:zi E N V st a.tmps){d:Nat}(F:zo N V st d){A:za}{v:Value}{po:Option (List Nat)}(h:VRel E po A v)(hc:A.copyable=true):zi E N V (st.putT d A) (a.tmps.setIfInBounds d v):=
 R.putT_val F.lt F.v F.t (h.copy _ hc)
theorem z2 (R:zi E N V st a.tmps){d:Nat}(F:zo N V st d)(v:Value):zi E N V (st.putT d (.sc v)) (a.tmps.setIfInBounds d v):=
 R.putT_val F.lt F.v F.t (.sc _ v)
theorem zE {α:Type}{c:Bool}{x y:Option α}{r:α}(h:(bif c then x else y)=some r):(c=true∧x=some r)∨(c=false∧y=some r):=by
 cases c
 · exact .inr ⟨rfl,h⟩
 · exact .inl ⟨rfl,h⟩
theorem Qh (R:zi E N V st a.tmps){d:Nat}(F:zo N V st d){p:List Nat}{k:Nat}{A B:za}{u:Value}(h:Q4 p k A=some B)(hu:VRel E (some (p++[k])) A u)
    (hat:A.isAlias=false→st.at (p++[k])=some A∧zr E a.tmps (p++[k])=some u):zi E N V (st.putT d B) (a.tmps.setIfInBounds d u):=by
  unfold Q4 at h
  rcases zE h with⟨hc,h⟩|⟨hc,h⟩
  · cases h;exact JW R F hu hc
  · cases A with
    | own hd cs=>
      obtain⟨h1,h2⟩:=hat rfl
      cases hd with
      | none=>
        cases h
        cases hu with
        |box _ _ b arr T f hO hb ha hf hh=>exact R.putT_addr (k:=0) F.lt F.v F.t h1 h2 rfl
      | some sz=>
        cases h
        exact R.putT_at F.lt F.v F.t h1 rfl h2
    |_=>cases h
theorem pval_append {tm:Array Value}{p:List Nat}(hp:yv p)(js:List Nat):zr E tm (p++js)=(zr E tm p).bind (zF E.w · js):=by
 cases hp with
 | slot i ks=>
   simp only[List.cons_append,zr]
   cases tm[i]? with
   |none=>rfl
   |some v=>exact vsub_append E.w ks v js
 | cell id k ks=>
   simp only[List.cons_append,zr]
   exact vsub_append E.w (k::ks) _ js
theorem at_append {p:List Nat}(hp:yv p)(js:List Nat):st.at (p++js)=(st.at p).bind (·.sub js):=by
 cases hp with
 | slot i ks=>
   simp only[List.cons_append,zB]
   exact sub_append ks _ js
 | cell id k ks=>
   simp only[List.cons_append,zb.at]
   cases st.h[id]? with
   |none=>rfl
   | some x=>
     cases x with
     |none=>rfl
     |some cs=>exact sub_append (k::ks) (.own none cs) js
theorem uW {p:List Nat}{hd:Option Nat}{cs:List za}{k:Nat}{A:za}{v u:Value}{b o:Nat}{arr:Array Value}{T:TypeId}(h:st.at p=some (.own hd cs))(hk:cs[k]?=some A)
    (hv:zr E a.tmps p=some v) (hb:Ga.Value.base v=some (b,o)) (hh:Jw E.w b arr T) (hu:arr[o+k]?=some u):st.at (p++[k])=some A∧zr E a.tmps (p++[k])=some u:=by
  have hp:=zq h
  refine⟨by rw[at_append hp,h];simp[za.sub,za.kids,hk],?_⟩
  rw[pval_append hp,hv]
  cases v with
  | slice x l c=>
    cases x with
    |none=>cases hb
    |some ad=>cases hb;simp[zF,hh.cell,hu]
  | pointer x=>
    cases x with
    |none=>cases hb
    |some ad=>cases hb;simp[zF,hh.cell,hu]
  |_=>cases hb
end
end Go.Ga

namespace Go.Ga
open Go
section
variable {Ls:List (List Nat)} {E:Env} {N:Nat} {V:List Nat} {st:zb} {a:Act} {P:Program} {o:Oper} {d:Nat}
def ZW (Ls:List (List Nat))(E:Env)(N:Nat)(V:List Nat)(st:zb)(a:Act)(P:Program)(o:Oper)(d:Nat)(A:za):Prop:=
 ∃v rd,(∀c∈rd,E.w.cell? c.1=some c.2∧((E.O c.1.block=none∧c.1.block<E.w.heap.size)∨∃r∈Ls,(r.head?=some 0∨r.head?=some 1)∧E.O c.1.block=some r∧c.1.block<E.w.heap.size))∧G5 P a.eval o rd v∧zi E N V (st.putT d A) (a.tmps.setIfInBounds d v)
theorem ZW.pure {A:za}{v:Value}(hrun:∀w,(execOp a.eval o).run P w= .ok (.value v) w)(h:zi E N V (st.putT d A) (a.tmps.setIfInBounds d v)):ZW Ls E N V st a P o d A:=
 ⟨v,[],(fun c hc=>by cases hc),fun w _=>hrun w,h⟩
theorem KK (R:zi E N V st a.tmps)(F:zo N V st d){x:Operand}{ox:zm}(ho:o.op= .move x)(hx:zd x=some ox){A:za}(h:jd st (.mov d ox)=some A):ZW Ls E N V st a P o d A:=by
 have hrun:∀w,(execOp a.eval o).run P w= .ok (.value (a.eval x)) w:=fun w=>by simp[execOp,ho]
 simp only[jd] at h
 rcases zE h with⟨hc,h⟩|⟨hc,h⟩
 · cases h
   have hn:(st.ev ox).isAlias=false:=by generalize st.ev ox=A at hc;cases A<;>simp[za.copyable,za.isAlias] at hc⊢
   obtain⟨v,po,h1,h2,_⟩:=zj R hx rfl hn
   exact .pure hrun (by rw[h1];exact JW R F h2 hc)
 · cases hA:st.ev ox with
   | own hd cs=>
     rw[hA] at h
     cases ox with
     | t i=>
       obtain⟨v,po,h1,h2,h3⟩:=zj R hx hA rfl
       obtain⟨h4,rfl⟩:=h3 i rfl
       have hat:st.at [0,i]=some (.own hd cs):=by rw[zB];simp[za.sub];exact hA
       have hpv:zr E a.tmps [0,i]=some v:=by simp[zr,h4,zF]
       cases hd with
       | none=>
         cases h
         cases h2 with
         |box _ _ b arr T f hO hb ha hf hh=>exact .pure hrun (by rw[h1];exact R.putT_addr (k:=0) F.lt F.v F.t hat hpv rfl)
       | some sz=>
         cases h
         exact .pure hrun (by rw[h1];exact R.putT_at F.lt F.v F.t hat rfl hpv)
     |c v=>cases hA
     |f g=>cases hA
   | agg cs=>
     rw[hA] at h
     cases ox with
     | t i=>
       cases h
       obtain⟨v,po,h1,h2,h3⟩:=zj R hx hA rfl
       obtain⟨h4,rfl⟩:=h3 i rfl
       exact .pure hrun (by rw[h1];exact R.putT_at F.lt F.v F.t (by rw[zB];simp[za.sub];exact hA) rfl (by simp[zr,h4,zF]))
     |c v=>cases hA
     |f g=>cases hA
   | tup cs=>
     rw[hA] at h
     cases ox with
     | t i=>
       cases h
       obtain⟨v,po,h1,h2,h3⟩:=zj R hx hA rfl
       obtain⟨h4,rfl⟩:=h3 i rfl
       exact .pure hrun (by rw[h1];exact R.putT_at F.lt F.v F.t (by rw[zB];simp[za.sub];exact hA) rfl (by simp[zr,h4,zF]))
     |c v=>cases hA
     |f g=>cases hA
   | mp ks=>
     rw[hA] at h
     cases ox with
     | t i=>
       cases h
       obtain⟨v,po,h1,h2,h3⟩:=zj R hx hA rfl
       obtain⟨h4,rfl⟩:=h3 i rfl
       exact .pure hrun (by rw[h1];exact R.putT_at F.lt F.v F.t (by rw[zB];simp[za.sub];exact hA) rfl (by simp[zr,h4,zF]))
     |c v=>cases hA
     |f g=>cases hA
   | at_ p=>
     rw[hA] at h
     cases h
     obtain⟨B,v,h1,h2,h3,h4,_⟩:=qX R hx hA
     exact .pure hrun (by rw[h4];exact R.putT_at F.lt F.v F.t h1 h2 h3)
   | addr p k=>
     rw[hA] at h
     cases h
     obtain⟨hd,cs,v,b,o',h1,h2,h3,h4,_⟩:=yJ R hx hA
     exact .pure hrun (by rw[h4];exact R.putT_addr F.lt F.v F.t h1 h2 h3)
   |_=>rw[hA] at h;cases h
theorem Vh (R:zi E N V st a.tmps)(F:zo N V st d){c x y:Operand}{oc ox oy:zm}(ho:o.op= .pick c x y)(hc:zd c=some oc)(hx:zd x=some ox)(hy:zd y=some oy)
    {A:za} (h:jd st (.pick d oc ox oy)=some A):ZW Ls E N V st a P o d A:=by
  simp only[jd] at h
  split at h
  · rename_i t ht
    have hcv:=Za R hc ht
    have hrun:∀w,(execOp a.eval o).run P w= .ok (.value (if t then a.eval x else a.eval y)) w:=fun w=>by
      simp[execOp,ho,hcv,asBool]
    split at h
    · rename_i u v hu hv
      cases h
      have h1:=Za R hx hu
      have h2:=Za R hy hv
      refine .pure hrun ?_
      rw[h1,h2]
      cases t<;>exact z2 R F _
    · split at h
      · rcases zE h with⟨hcp,h⟩|⟨_,h⟩
        · cases h
          have hn:(st.ev ox).isAlias=false:=by generalize st.ev ox=A at hcp;cases A<;>simp[za.copyable,za.isAlias] at hcp⊢
          obtain⟨v,po,h1,h2,_⟩:=zj R hx rfl hn
          exact .pure hrun (by simp only[if_true];rw[h1];exact JW R F h2 hcp)
        · cases h
      · rcases zE h with⟨hcp,h⟩|⟨_,h⟩
        · cases h
          have hn:(st.ev oy).isAlias=false:=by generalize st.ev oy=A at hcp;cases A<;>simp[za.copyable,za.isAlias] at hcp⊢
          obtain⟨v,po,h1,h2,_⟩:=zj R hy rfl hn
          exact .pure hrun (by simp only[Bool.false_eq_true,if_false];rw[h1];exact JW R F h2 hcp)
        · cases h
  · cases h
theorem Yy (op:BinOp)(t:TypeId)(x y:Operand)(k:IntKind)(n:Int)(v:Value):eqGuard op t x y (.int k n) v=pure ():=by cases op<;>rfl
theorem XO {op:BinOp}{k:IntKind}{x y:Int}{t:TypeId}{v:Value}(h:Wq op k x y=some v)(w:World):(binOp op t (.int k x) (.int k y)).run P w= .ok v w:=by
 cases op<;>simp only[Wq] at h
 case quo=>
  split at h
  · cases h
  · rename_i hy;cases h;simp[binOp,Op.intDiv,hy]
 case rem=>
  split at h
  · cases h
  · rename_i hy;cases h;simp[binOp,Op.intDiv,hy]
 case shl=>cases h
 case shr=>cases h
 all_goals cases h;simp[binOp,Op.intArith,Op.intCmp,Op.intBits]<;>rfl
theorem w8 {op:BinOp}{k k':IntKind}{x y:Int}{t:TypeId}{v:Value}(h:yT op k x y=some v)(w:World):(binOp op t (.int k x) (.int k' y)).run P w= .ok v w:=by
 unfold yT at h
 split at h
 · cases h
 · rename_i hy
   cases op<;>simp only[] at h<;>cases h
   · simp[binOp,Op.shift,hy]
   · simp[binOp,Op.shift,hy]
theorem We (R:zi E N V st a.tmps)(F:zo N V st d){op:BinOp}{xt yt:TypeId}{x y:Operand}{ox oy:zm}(ho:o.op= .binOp op xt x y yt)(hx:zd x=some ox)(hy:zd y=some oy)
    {A:za} (h:jd st (.bin d op 0 ox oy)=some A):ZW Ls E N V st a P o d A:=by
  simp only[jd] at h
  split at h
  · rename_i k m k' n hm hn
    have h1:=Za R hx hm
    have h2:=Za R hy hn
    rcases zE h with⟨hs,h⟩|⟨hs,h⟩
    · obtain⟨v,hv,rfl⟩:=Option.map_eq_some_iff.1 h
      exact .pure (fun w=>by simp[execOp,ho,h1,h2,Yy,w8 hv w]) (z2 R F v)
    · by_cases hk:k=k'
      · subst hk
        rw[if_pos rfl] at h
        obtain⟨v,hv,rfl⟩:=Option.map_eq_some_iff.1 h
        exact .pure (fun w=>by simp[execOp,ho,h1,h2,Yy,XO hv w]) (z2 R F v)
      · rw[if_neg hk] at h;cases h
  · rename_i s t hm hn
    have h1:=Za R hx hm
    have h2:=Za R hy hn
    obtain⟨v,hv,rfl⟩:=Option.map_eq_some_iff.1 h
    refine .pure (fun w=>?_) (z2 R F v)
    have hg:eqGuard op xt x y (.string s) (.string t)=pure ():=by cases op<;>rfl
    have hbeq:(s.toList==t.toList)=decide (s.toList=t.toList):=by
      rw[Bool.eq_iff_iff];simp
    cases op<;>simp only[Jf] at hv<;>try (cases hv;done)
    · split at hv
      · rename_i hlt
        cases hv
        have:¬((s.size+t.size:Nat):Int)>IntKind.i64.max:=by rw[IntKind.max_i64];omega
        simp[execOp,ho,h1,h2,hg,binOp,Op.stringOp]
        omega
      · cases hv
    · cases hv;simp[execOp,ho,h1,h2,hg,binOp,Op.stringOp,hbeq]
    · cases hv;simp[execOp,ho,h1,h2,hg,binOp,Op.stringOp,hbeq]
  · cases h
theorem Vi (R:zi E N V st a.tmps)(F:zo N V st d){xt:TypeId}{x:Operand}{ox:zm}(ho:o.op= .unOp .not xt x)(hx:zd x=some ox)
    {A:za} (h:jd st (.notb d ox)=some A):ZW Ls E N V st a P o d A:=by
  simp only[jd] at h
  split at h
  · rename_i b hb
    cases h
    exact .pure (fun w=>by simp[execOp,ho,Za R hx hb,Op.unary]) (z2 R F _)
  · cases h
theorem Vp (R:zi E N V st a.tmps)(F:zo N V st d){src dst:TypeId}{k ks:IntKind}{x:Operand}{ox:zm}(ho:o.op= .convert src dst x)(hs:P.underlying src=some (.int ks))(hd:P.underlying dst=some (.int k))(hx:zd x=some ox)
    {A:za} (h:jd st (.conv d k ox)=some A):ZW Ls E N V st a P o d A:=by
  simp only[jd] at h
  split at h
  · rename_i k' n hb
    cases h
    exact .pure (fun w=>by simp[execOp,ho,Za R hx hb,convert,run_underlying hs,run_underlying hd,Conv.intToInt]) (z2 R F _)
  · cases h
theorem uB (R:zi E N V st a.tmps)(F:zo N V st d){x:Operand}{ox:zm}(ho:o.op= .nilCheck x)(hx:zd x=some ox)
    {A:za} (h:jd st (.nilck d ox)=some A):ZW Ls E N V st a P o d A:=by
  simp only[jd] at h
  split at h
  · rename_i id off hb
    cases h
    obtain⟨v,po,h1,h2,_⟩:=zj R hx (zO hb rfl) rfl
    have h2':=h2
    cases h2 with
    |ptr _ _ _ hn=>exact .pure (fun w=>by simp[execOp,ho,h1]) (JW R F h2' rfl)
  · rename_i cs hb
    cases h
    obtain⟨v,po,h1,h2,_⟩:=zj R hx (zO hb rfl) rfl
    have h2':=h2
    cases h2 with
    |ia=>exact .pure (fun w=>by simp[execOp,ho,h1]) (JW R F h2' rfl)
  · rename_i p k hb
    cases h
    obtain⟨hd,cs,v,b,o',h1,h2,h3,h4,_⟩:=jP R hx hb
    exact .pure (fun w=>by simp[execOp,ho,h4]) (R.putT_addr F.lt F.v F.t h1 h2 h3)
  · rename_i f as bs hb
    cases h
    obtain⟨v,po,h1,h2,_⟩:=zj R hx (zO hb rfl) rfl
    have h2':=h2
    cases h2 with
    |fn=>exact .pure (fun w=>by simp[execOp,ho,h1]) (JW R F h2' rfl)
  · cases h
theorem J9 {s:TypeId}{fs:Array Field}{i:Nat}{fl:Field}{inf:TypeInfo}(hu:P.underlying s=some (.struct fs))(hf:fs[i]?=some fl)(hi:P.info? fl.type=some inf)(hz:inf.size≠0)(b k:Nat)(w:World):
    (Instr.fieldAt s (.pointer (some ⟨b,k,none⟩)) i).run P w= .ok (.pointer (some ⟨b,k+fl.offset,none⟩)) w:=by
  simp[Instr.fieldAt,run_underlying hu,hf,Instr.sureAddr,fieldPlace,sizeOf,typeInfo,hi,hz,Addr.add_lit]
theorem Zr {l:List za}{n k:Nat}{A:za}(h:(l.drop n)[k]?=some A):l[n+k]?=some A:=by
 rwa [List.getElem?_drop] at h
theorem VRel.iaDrop {po:Option (List Nat)}{cs:List za}{b k:Nat}(h:VRel E po (.ia cs) (.pointer (some ⟨b,k,none⟩)))(n:Nat):VRel E po (.ia (cs.drop n)) (.pointer (some ⟨b,k+n,none⟩)):=by
 cases h with
 | ia _ _ _ _ f hO hb hf h=>
   exact .ia _ _ b (k+n) (fun j=>f (n+j)) hO hb (fun j A hj=>by rw[Nat.add_assoc];exact hf _ A (Zr hj)) fun j A hj=>h _ A (Zr hj)
theorem Vo (R:zi E N V st a.tmps)(F:zo N V st d){s:TypeId}{i:Nat}{fs:Array Field}{fl:Field}{inf:TypeInfo}{x:Operand}{ox:zm}(ho:o.op= .fieldAddr s x i)
    (hu:P.underlying s=some (.struct fs)) (hf:fs[i]?=some fl) (hi:P.info? fl.type=some inf) (hz:inf.size≠0) (hx:zd x=some ox)
    {A:za} (h:jd st (.fldA d ox fl.offset)=some A):ZW Ls E N V st a P o d A:=by
  simp only[jd] at h
  split at h
  · rename_i id off hb
    cases h
    obtain⟨v,po,h1,h2,_⟩:=zj R hx (zO hb rfl) rfl
    cases h2 with
    | ptr _ _ _ hn=>
      refine .pure (v:= .pointer (some ⟨E.ρ id,E.β id+off+fl.offset,none⟩)) (fun w=>by simp[execOp,ho,h1,J9 hu hf hi hz]) (JW (po:=none) R F ?_ rfl)
      have:=VRel.ptr (E:=E) none id (off+fl.offset) hn
      rwa [←Nat.add_assoc] at this
  · rename_i cs hb
    cases h
    obtain⟨v,po,h1,h2,_⟩:=zj R hx (zO hb rfl) rfl
    have h2':=h2
    cases h2 with
    |ia _ _ b k f hO hb hf' hh=>exact .pure (fun w=>by simp[execOp,ho,h1,J9 hu hf hi hz]) (JW R F (h2'.iaDrop fl.offset) rfl)
  · rename_i p k hb
    cases h
    obtain⟨hd,cs,v,b,o',h1,h2,h3,h4,_⟩:=jP R hx hb
    refine .pure (v:= .pointer (some ⟨b,o'+k+fl.offset,none⟩)) (fun w=>by simp[execOp,ho,h4,J9 hu hf hi hz]) ?_
    rw[Nat.add_assoc]
    exact R.putT_addr F.lt F.v F.t h1 h2 h3
  · cases h
theorem QW {cs:List za}{k n:Nat}:∀j A,((cs.drop k).take n)[j]?=some A→cs[k+j]?=some A∧j<n:=by
 intro j A hj
 rw[List.getElem?_take] at hj
 split at hj
 · rename_i hlt;exact⟨Zr hj,hlt⟩
 · cases hj
theorem VRel.any {po:Option (List Nat)}{A:za}{v:Value}(h:VRel E po A v):po=none→∀po',VRel E po' A v:=by
 induction h with
 |sc po v=>exact fun _ _=> .sc _ v
 |dead po v=>exact fun _ _=> .dead _ v
 |agg po cs vs hs h ih=>exact fun hp po'=> .agg _ cs vs hs fun k A v h1 h2=>ih k A v h1 h2 (by rw[hp];rfl) _
 |imm po sz cs b o len cap f hO hb hl hc hf h ih=>exact fun _ _=> .imm _ sz cs b o len cap f hO hb hl hc hf h
 |immNil po sz a=>exact fun _ _=> .immNil _ sz a
 |own ℓ sz cs b o len cap arr T f hO hb hl hc hm ha hf h ih=>exact fun hp _=>by cases hp
 |ownNil po sz=>exact fun _ _=> .ownNil _ sz
 |box ℓ cs b arr T f hO hb ha hf h ih=>exact fun hp _=>by cases hp
 |sl po id off len cap sz hn hc hm hκ=>exact fun _ _=> .sl _ id off len cap sz hn hc hm hκ
 |ptr po id off hn=>exact fun _ _=> .ptr _ id off hn
 |ia po cs b o f hO hb hf h ih=>exact fun _ _=> .ia _ cs b o f hO hb hf h
 |fn po g as bs us vs hu hv h1 h2 ih1 ih2=>exact fun _ _=> .fn _ g as bs us vs hu hv h1 h2
 |iface po t A v h ih=>exact fun _ _=> .iface _ t A v h
 |tup po cs vs hs h ih=>exact fun hp po'=> .tup _ cs vs hs fun k A v h1 h2=>ih k A v h1 h2 (by rw[hp];rfl) _
 |mp ℓ ks b es c hO hb he=>exact fun hp _=>by cases hp
theorem yw {t:TypeId}{dsc:TypeDesc}(hu:P.underlying t=some dsc)(hag:(match dsc with| .struct _| .array _ _=>true|_=>false)=false){ad:Addr}{v:Value}{w:World}(hc:w.cell? ad=some v):
    (loadVar t ad).run P w= .ok v w:=by
  cases dsc<;>simp at hag<;>simp[loadVar,isAgg,run_underlying hu,hc]
theorem yx {t:TypeId}{dsc:TypeDesc}{inf:TypeInfo}(hu:P.underlying t=some dsc)(hag:(match dsc with| .struct _| .array _ _=>true|_=>false)=true)(hi:P.info? t=some inf){b k:Nat}(f:Nat→Value){w:World}
    (hc:∀j,j<inf.size→w.cell? ⟨b,k+j,none⟩=some (f j)):(loadVar t ⟨b,k,none⟩).run P w= .ok (.agg ((List.range inf.size).map f).toArray) w:=by
  have hl:=run_loadCells (P:=P) (w:=w) ⟨b,k,none⟩ inf.size f (fun j hj=>by rw[Addr.add_lit];exact hc j hj)
  cases dsc<;>simp at hag<;>simp[loadVar,isAgg,run_underlying hu,sizeOf,typeInfo,hi,hl]
def z8 :TypeDesc→Bool
 | .struct _=>true
 | .array _ _=>true
 |_=>false
theorem YX {cs:List za}{A:za}(h:YY cs=some A):za.copyableL cs=true∧A= .agg cs:=by
 unfold YY at h
 rcases zE h with⟨h1,h2⟩|⟨_,h2⟩
 · cases h2;exact⟨h1,rfl⟩
 · cases h2
theorem j6 {t:TypeId}{dsc:TypeDesc}{inf:TypeInfo}(hu:P.underlying t=some dsc)(hi:P.info? t=some inf){b k:Nat}(f:Nat→Value){w:World}
    (hc:∀j,j<(if z8 dsc then inf.size else 1)→w.cell? ⟨b,k+j,none⟩=some (f j)):
    (loadVar t ⟨b,k,none⟩).run P w= .ok (if z8 dsc then .agg ((List.range inf.size).map f).toArray else f 0) w:=by
  cases h:z8 dsc with
  | true=>
    rw[h] at hc
    exact yx hu (by cases dsc<;>simp[z8] at h⊢) hi f (by simpa using hc)
  | false=>
    rw[h] at hc
    exact yw hu (by cases dsc<;>simp[z8] at h⊢) (by simpa using hc 0 (by simp))
def jt (b k n:Nat)(f:Nat→Value):List (Addr×Value):=(List.range n).map fun j=>(⟨b,k+j,none⟩,f j)
theorem ZJ {b k n:Nat}{f:Nat→Value}{w:World}(h:∀c∈jt b k n f,w.cell? c.1=some c.2):∀j,j<n→w.cell? ⟨b,k+j,none⟩=some (f j):=by
 intro j hj
 exact h (⟨b,k+j,none⟩,f j) (List.mem_map.2 ⟨j,List.mem_range.2 hj,rfl⟩)
theorem ZK {b k n:Nat}{f:Nat→Value}{w:World}(h:∀j,j<n→w.cell? ⟨b,k+j,none⟩=some (f j)){Q:Nat→Prop}(hq:Q b):∀c∈jt b k n f,w.cell? c.1=some c.2∧Q c.1.block:=by
 intro c hc
 obtain⟨j,hj,rfl⟩:=List.mem_map.1 hc
 exact⟨h j (List.mem_range.1 hj),hq⟩
def jK (st:zb):Xw→List (List Nat)
 | .ld _ x _ _=>match st.evA x with
   | .ptr id _=>[[1,id]]
   | .addr p _=>[p]
   |_=>[]
 | .box _ x=>match st.evA x with
   | .at_ p=>[p]
   |_=>[]
 |_=>[]
theorem zS {n:Nat}{f:Nat→Value}{j:Nat}{v:Value}(h:((List.range n).map f).toArray[j]?=some v):j<n∧v=f j:=by
 simp only[List.getElem?_toArray,List.getElem?_map] at h
 cases hr:(List.range n)[j]? with
 |none=>rw[hr] at h;cases h
 | some x=>
   rw[hr] at h
   obtain⟨h1,h2⟩:=List.getElem?_eq_some_iff.1 hr
   simp at h1 h2 h
   subst h2
   exact⟨h1,h.symm⟩
theorem ql (R:zi E N V st a.tmps)(F:zo N V st d){t:TypeId}{dsc:TypeDesc}{inf:TypeInfo}(hu:P.underlying t=some dsc)(hi:P.info? t=some inf){p:List Nat}{cs:List za}{k n:Nat}{ag:Bool}
    (hag:ag=z8 dsc) (hn:ag=true→n=inf.size) {b o':Nat} {arr:Array Value} {T:TypeId} (f:Nat→Value) (hh:Jw E.w b arr T) (hLs:∃r∈Ls,(r.head?=some 0∨r.head?=some 1)∧E.O b=some r)
    (hf:∀k A,cs[k]?=some A→arr[o'+k]?=some (f k)) (hv:∀(k:Nat) A,cs[k]?=some A→VRel E (some (p++[k])) A (f k))
    (hat:∀(k:Nat) A,cs[k]?=some A→A.isAlias=false→st.at (p++[k])=some A∧zr E a.tmps (p++[k])=some (f k))
    {x:Operand} (ho:o.op= .load t x) (hx:a.eval x= .pointer (some ⟨b,o'+k,none⟩)) {A:za} (h:cellsOf p cs k n ag=some A):ZW Ls E N V st a P o d A:=by
  subst hag
  have hQ:(E.O b=none∧b<E.w.heap.size)∨∃r∈Ls,(r.head?=some 0∨r.head?=some 1)∧E.O b=some r∧b<E.w.heap.size:= .inr (by obtain⟨r,h1,h2,h3⟩:=hLs;exact⟨r,h1,h2,h3,hh.lt⟩)
  unfold cellsOf at h
  cases hd:z8 dsc with
  | true=>
    rw[hd] at h hn
    simp only[] at h
    split at h
    · rename_i hle
      obtain⟨hcp,rfl⟩:=YX h
      have hn':=hn rfl
      have hget:∀j,j<n→∃A,cs[k+j]?=some A:=fun j hj=>⟨_,List.getElem?_eq_getElem (by omega)⟩
      have hcell:∀j,j<n→E.w.cell? ⟨b,(o'+k)+j,none⟩=some (f (k+j)):=fun j hj=>by
        obtain⟨A,hA⟩:=hget j hj
        rw[hh.cell,Nat.add_assoc];exact hf _ A hA
      refine⟨.agg ((List.range inf.size).map fun j=>f (k+j)).toArray,jt b (o'+k) n (fun j=>f (k+j)),ZK hcell (Q:=fun b=>(E.O b=none∧b<E.w.heap.size)∨∃r∈Ls,(r.head?=some 0∨r.head?=some 1)∧E.O b=some r∧b<E.w.heap.size) hQ,fun w hw=>?_,?_⟩
      · have:=j6 hu hi (fun j=>f (k+j)) (w:=w) (b:=b) (k:=o'+k) (by rw[hd];simp only[if_true];rw[←hn'];exact ZJ hw)
        rw[hd] at this
        simp only[if_true] at this
        simp[execOp,ho,hx,Instr.loadAt,Instr.sureAddr,this]
      · refine JW (po:=none) R F (.agg _ _ _ (by simp[←hn'];omega) fun j A v hA hv'=>?_) hcp
        obtain⟨h1,rfl⟩:=zS hv'
        obtain⟨h2,_⟩:=QW j A hA
        exact(hv _ A h2).copy _ (zC hcp hA)
    · cases h
  | false=>
    rw[hd] at h
    simp only[] at h
    cases hk:cs[k]? with
    |none=>rw[hk] at h;cases h
    | some B=>
      rw[hk] at h
      have hcell:∀j,j<1→E.w.cell? ⟨b,(o'+k)+j,none⟩=some (f (k+j)):=fun j hj=>by
        have:j=0:=by omega
        subst this
        rw[hh.cell];exact hf _ B hk
      refine⟨f k,jt b (o'+k) 1 (fun j=>f (k+j)),ZK hcell (Q:=fun b=>(E.O b=none∧b<E.w.heap.size)∨∃r∈Ls,(r.head?=some 0∨r.head?=some 1)∧E.O b=some r∧b<E.w.heap.size) hQ,fun w hw=>?_,Qh R F h (hv k B hk) (hat k B hk)⟩
      have:=j6 hu hi (fun j=>f (k+j)) (w:=w) (b:=b) (k:=o'+k) (by rw[hd];simpa using ZJ hw 0 (by omega))
      rw[hd] at this
      simp at this
      simp[execOp,ho,hx,Instr.loadAt,Instr.sureAddr,this]
theorem Qb {p:List Nat}(h:yv p):p.head?=some 0∨p.head?=some 1:=by
 cases h
 · exact .inl rfl
 · exact .inr rfl
theorem gq (R:zi E N V st a.tmps)(F:zo N V st d){t:TypeId}{dsc:TypeDesc}{inf:TypeInfo}(hu:P.underlying t=some dsc)(hi:P.info? t=some inf){x:Operand}{ox:zm}(ho:o.op= .load t x)(hx:zd x=some ox)
    {A:za} (h:jd st (.ld d ox inf.size (z8 dsc))=some A):ZW (jK st (.ld d ox inf.size (z8 dsc))) E N V st a P o d A:=by
  simp only[jd] at h
  split at h
  · rename_i id k hb
    have hev:=hb
    obtain⟨v,po,h1,h2,_⟩:=zj R hx (zO hb rfl) rfl
    cases h2 with
    | ptr _ _ _ hn=>
      split at h
      · rename_i cs hcs
        obtain⟨hO,arr,T,f,hb,ha,hl,hf,hv⟩:=R.objs id cs hcs
        refine ql R F hu hi rfl (fun _=>rfl) f hb (hLs:=⟨[1,id],by simp[jK,hev],.inr rfl,hO⟩) hf (p:=[1,id]) hv (fun k A hk hA=>?_) ho h1 h
        refine⟨by simp[zb.at,hcs,za.sub,za.kids,hk],?_⟩
        simp[zr,Env.ptr,zF,hb.cell,hf k A hk]
      · cases h
  · rename_i cs hb
    obtain⟨v,po,h1,h2,_⟩:=zj R hx (zO hb rfl) rfl
    cases h2 with
    | ia _ _ b k f hO hb hf hh=>
      cases hd:z8 dsc with
      | true=>
        rw[hd] at h
        simp only[] at h
        split at h
        · rename_i hle
          cases h
          have hcell:∀j,j<inf.size→E.w.cell? ⟨b,k+j,none⟩=some (f j):=fun j hj=>hf j _ (List.getElem?_eq_getElem (by omega))
          refine⟨.agg ((List.range inf.size).map f).toArray,jt b k inf.size f,ZK hcell (Q:=fun b=>(E.O b=none∧b<E.w.heap.size)∨∃r∈jK st (.ld d ox inf.size (z8 dsc)),(r.head?=some 0∨r.head?=some 1)∧E.O b=some r∧b<E.w.heap.size) (.inl ⟨hO,hb⟩),fun w hw=>?_,?_⟩
          · have:=j6 hu hi f (w:=w) (b:=b) (k:=k) (by rw[hd];simpa using ZJ hw)
            rw[hd] at this
            simp only[if_true] at this
            simp[execOp,ho,h1,Instr.loadAt,Instr.sureAddr,this]
          · refine R.putT_val F.lt F.v F.t (.agg _ _ _ (by simp;omega) fun j A v hA hv'=>?_)
            obtain⟨h1,rfl⟩:=zS hv'
            rw[List.getElem?_take_of_lt h1] at hA
            exact(hh j A hA).any rfl _
        · cases h
      | false=>
        rw[hd] at h
        simp only[] at h
        have hcell:∀j,j<1→E.w.cell? ⟨b,k+j,none⟩=some (f j):=fun j hj=>by
          have:j=0:=by omega
          subst this
          exact hf 0 A h
        refine⟨f 0,jt b k 1 f,ZK hcell (Q:=fun b=>(E.O b=none∧b<E.w.heap.size)∨∃r∈jK st (.ld d ox inf.size (z8 dsc)),(r.head?=some 0∨r.head?=some 1)∧E.O b=some r∧b<E.w.heap.size) (.inl ⟨hO,hb⟩),fun w hw=>?_,R.putT_val F.lt F.v F.t ((hh 0 A h).any rfl _)⟩
        have:=j6 hu hi f (w:=w) (b:=b) (k:=k) (by rw[hd];simpa using ZJ hw 0 (by omega))
        rw[hd] at this
        simp at this
        simp[execOp,ho,h1,Instr.loadAt,Instr.sureAddr,this]
  · rename_i p k hb
    have hev:=hb
    obtain⟨hd,cs,v,b,o',h1,h2,h3,h4,h5⟩:=jP R hx hb
    split at h
    · rename_i hd' cs' hown
      unfold zb.owned at hown
      rw[h1] at hown
      simp at hown
      obtain⟨rfl,rfl⟩:=hown
      cases h5 with
      | own _ sz _ b' o'' len cap arr T f hO hb' hl hc hm ha hf hh=>
        cases h3
        exact ql R F hu hi rfl (fun _=>rfl) f hb' (hLs:=⟨p,by simp[jK,hev],Qb (zq h1),hO⟩) hf hh (fun k A hk hA=>uW h1 hk h2 rfl hb' (hf k A hk)) ho h4 h
      |ownNil=>cases h3
      | box _ _ b' arr T f hO hb' ha hf hh=>
        cases h3
        exact ql R F hu hi rfl (fun _=>rfl) f hb' (hLs:=⟨p,by simp[jK,hev],Qb (zq h1),hO⟩) (o':=0) (fun k A hk=>by rw[Nat.zero_add];exact hf k A hk) hh (fun k A hk hA=>uW h1 hk h2 rfl hb' (by rw[Nat.zero_add];exact hf k A hk)) ho h4 h
    · cases h
  · cases h
end
end Go.Ga
