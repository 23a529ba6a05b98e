/- Values, objects, and code by what it leads to: a library of this claim's own. No condition. -/
import Derived.Below
import Derived.Calls
import Derived.ChangeOld
import Derived.ChangeSame
import Derived.ChangeShapes
import Derived.Deep.LoopGhost
import Derived.Laws.Append
import Derived.Laws.AppendOwn
import Derived.Laws.Cells
import Derived.Laws.CopyRow
import Derived.Laws.Entries
import Derived.Laws.MakeOwn
import Derived.Laws.Tables
import Derived.Laws.Wrap64
import Derived.Orders
import Derived.RowKit
import Derived.Tactics
import Derived.WideShapes
import Derived.IntWalk
import Derived.Laws.IdiomStrings
import Derived.JoinedCond
import Derived.OpenShut
import Derived.ProofKit
import Derived.WalkKit
import Derived.KernelRfl
set_option linter.all false


namespace Go.Ga
open Go
inductive zb where
 |sc (v:Value)
 |agg (cs:List zb)
 |imm (sz:Nat) (cs:List zb)
 |own (hd:Option Nat) (cs:List zb)
 |sl (id off len sz:Nat)
 |ptr (id off:Nat)
 |ia (cs:List zb)
 |fn (f:Fn) (first captured:List zb)
 |iface (t:TypeId) (v:zb)
 |tup (vs:List zb)
 |at_ (p:List Nat)
 |addr (p:List Nat) (k:Nat)
 |mp (ks:List Int)
 |dead
 deriving Inhabited
structure Env where
 w:World
 O:Nat→Option (List Nat)
 ρ:Nat→Nat
 β:Nat→Nat
 κ:Nat→Nat
 n:Nat
def mpE (ks:List Int):List (Value×Value):=ks.map fun n=>(.int .i64 n,.bool true)
inductive VRel (E:Env):Option (List Nat)→zb→Value→Prop
 |sc (po:Option (List Nat)) (v:Value):VRel E po (.sc v) v
 |dead (po:Option (List Nat)) (v:Value):VRel E po .dead v
 |agg (po:Option (List Nat)) (cs:List zb) (vs:Array Value) (hs:vs.size=cs.length)
  (h:∀(k:Nat) A v,cs[k]?=some A→vs[k]?=some v→VRel E (po.map (· ++[k])) A v):VRel E po (.agg cs) (.agg vs)
 |imm (po:Option (List Nat)) (sz:Nat) (cs:List zb) (b o len cap:Nat) (f:Nat→Value) (hO:E.O b=none) (hb:b<E.w.heap.size)
  (hl:0<sz∧cs.length=len*sz) (hc:len≤cap)
  (hf:∀k A,cs[k]?=some A→E.w.cell? ⟨b,o+k,none⟩=some (f k)) (h:∀(k:Nat) A,cs[k]?=some A→VRel E none A (f k)):
  VRel E po (.imm sz cs) (.slice (some ⟨b,o,none⟩) len cap)
 |immNil (po:Option (List Nat)) (sz:Nat) (a:Option Addr):VRel E po (.imm sz []) (.slice a 0 0)
 |own (ℓ:List Nat) (sz:Nat) (cs:List zb) (b o len cap:Nat) (arr:Array Value) (T:TypeId) (f:Nat→Value) (hO:E.O b=some ℓ)
  (hb:E.w.heap[b]?=some (.cells arr T (0,0))) (hl:0<sz∧cs.length=len*sz) (hc:len≤cap) (hm:cap≤maxLen) (ha:o+cap*sz≤arr.size)
  (hf:∀k A,cs[k]?=some A→arr[o+k]?=some (f k)) (h:∀(k:Nat) A,cs[k]?=some A→VRel E (some (ℓ++[k])) A (f k)):
  VRel E (some ℓ) (.own (some sz) cs) (.slice (some ⟨b,o,none⟩) len cap)
 |ownNil (po:Option (List Nat)) (sz:Nat):VRel E po (.own (some sz) []) (.slice none 0 0)
 |box (ℓ:List Nat) (cs:List zb) (b:Nat) (arr:Array Value) (T:TypeId) (f:Nat→Value) (hO:E.O b=some ℓ)
  (hb:E.w.heap[b]?=some (.cells arr T (0,0))) (ha:arr.size=cs.length)
  (hf:∀k A,cs[k]?=some A→arr[k]?=some (f k)) (h:∀(k:Nat) A,cs[k]?=some A→VRel E (some (ℓ++[k])) A (f k)):
  VRel E (some ℓ) (.own none cs) (.pointer (some ⟨b,0,none⟩))
 |sl (po:Option (List Nat)) (id off len cap sz:Nat) (hn:id<E.n) (hc:len≤cap) (hm:cap≤maxLen) (hk:off+cap*sz=E.κ id):
  VRel E po (.sl id off len sz) (.slice (some ⟨E.ρ id,E.β id+off,none⟩) len cap)
 |ptr (po:Option (List Nat)) (id off:Nat) (hn:id<E.n):VRel E po (.ptr id off) (.pointer (some ⟨E.ρ id,E.β id+off,none⟩))
 |ia (po:Option (List Nat)) (cs:List zb) (b o:Nat) (f:Nat→Value) (hO:E.O b=none) (hb:b<E.w.heap.size)
  (hf:∀k A,cs[k]?=some A→E.w.cell? ⟨b,o+k,none⟩=some (f k)) (h:∀(k:Nat) A,cs[k]?=some A→VRel E none A (f k)):
  VRel E po (.ia cs) (.pointer (some ⟨b,o,none⟩))
 |fn (po:Option (List Nat)) (g:Fn) (as bs:List zb) (us vs:Array Value) (hu:us.size=as.length) (hv:vs.size=bs.length)
  (h1:∀(k:Nat) A v,as[k]?=some A→us[k]?=some v→VRel E none A v) (h2:∀(k:Nat) A v,bs[k]?=some A→vs[k]?=some v→VRel E none A v):
  VRel E po (.fn g as bs) (.func g us vs)
 |iface (po:Option (List Nat)) (t:TypeId) (A:zb) (v:Value) (h:VRel E none A v):VRel E po (.iface t A) (.iface t v)
 |tup (po:Option (List Nat)) (cs:List zb) (vs:Array Value) (hs:vs.size=cs.length)
  (h:∀(k:Nat) A v,cs[k]?=some A→vs[k]?=some v→VRel E (po.map (· ++[k])) A v):VRel E po (.tup cs) (.tuple vs)
 |mp (ℓ:List Nat) (ks:List Int) (b:Nat) (es:Array MapEntry) (clock:Nat) (hO:E.O b=some ℓ) (hb:E.w.heap[b]?=some (.map es clock))
  (he:es.toList.map (fun e=>(e.key,e.val))=mpE ks):VRel E (some ℓ) (.mp ks) (.map (some b))
theorem ZV {w w':World}{b o:Nat}{s:Option Nat}(h:w'.heap[b]?=w.heap[b]?):w'.cell? ⟨b,o,s⟩=w.cell? ⟨b,o,s⟩:=by
 simp[World.cell?,h]
def Env.hangs (E:Env)(po:Option (List Nat))(b:Nat):Prop:=
 (E.O b=none∧b<E.w.heap.size)∨∃ℓ q,po=some ℓ∧E.O b=some q∧ℓ<+:q
theorem Env.hangs_none {E:Env}{po:Option (List Nat)}{b:Nat}(h:E.hangs none b):E.hangs po b:=by
 rcases h with h|⟨ℓ,q,h,_⟩
 · exact .inl h
 · cases h
theorem Env.hangs_sub {E:Env}{ℓ:List Nat}{k b:Nat}(h:E.hangs (some (ℓ++[k])) b):E.hangs (some ℓ) b:=by
 rcases h with h|⟨ℓ',q,h,hq,hp⟩
 · exact .inl h
 · cases h;exact .inr ⟨ℓ,q,rfl,hq,(List.prefix_append _ _).trans hp⟩
theorem Env.hangs_map {E:Env}{po:Option (List Nat)}{k b:Nat}(h:E.hangs (po.map (· ++[k])) b):E.hangs po b:=by
 cases po with
 |none=>exact h
 |some ℓ=>exact E.hangs_sub h
def Env.ids (E E':Env):Prop:=E.n≤E'.n∧∀id,id<E.n→E'.ρ id=E.ρ id∧E'.β id=E.β id∧E'.κ id=E.κ id
theorem VRel.keep {E E':Env}(hi:E.ids E')(hsz:E.w.heap.size≤E'.w.heap.size){po:Option (List Nat)}{A:zb}{v:Value}(h:VRel E po A v)
    (hk:∀b,E.hangs po b→E'.O b=E.O b∧E'.w.heap[b]?=E.w.heap[b]?):VRel E' po A v:=by
  induction h with
  |sc po v=>exact .sc po v
  |dead po v=>exact .dead po v
  |agg po cs vs hs h ih=>exact .agg po cs vs hs fun k A v h1 h2=>ih k A v h1 h2 fun b hb=>hk b (E.hangs_map hb)
  | imm po sz cs b o len cap f hO hb hl hc hf h ih=>
    have hB:=hk b (.inl ⟨hO,hb⟩)
    exact .imm po sz cs b o len cap f (hB.1.trans hO) (Nat.lt_of_lt_of_le hb hsz) hl hc (fun k A h1=>(ZV hB.2).trans (hf k A h1)) fun k A h1=>ih k A h1 fun b hb=>hk b (E.hangs_none hb)
  |immNil po sz a=>exact .immNil po sz a
  | own ℓ sz cs b o len cap arr T f hO hb hl hc hm ha hf h ih=>
    have hB:=hk b (.inr ⟨ℓ,ℓ,rfl,hO,List.prefix_refl _⟩)
    exact .own ℓ sz cs b o len cap arr T f (hB.1.trans hO) (hB.2.trans hb) hl hc hm ha hf fun k A h1=>ih k A h1 fun b hb=>hk b (E.hangs_sub hb)
  |ownNil po sz=>exact .ownNil po sz
  | box ℓ cs b arr T f hO hb ha hf h ih=>
    have hB:=hk b (.inr ⟨ℓ,ℓ,rfl,hO,List.prefix_refl _⟩)
    exact .box ℓ cs b arr T f (hB.1.trans hO) (hB.2.trans hb) ha hf fun k A h1=>ih k A h1 fun b hb=>hk b (E.hangs_sub hb)
  | sl po id off len cap sz hn hc hm hκ=>
    obtain⟨h1,h2,h3⟩:=hi.2 id hn
    have:=VRel.sl (E:=E') po id off len cap sz (Nat.lt_of_lt_of_le hn hi.1) hc hm (hκ.trans h3.symm)
    rwa [h1,h2] at this
  | ptr po id off hn=>
    obtain⟨h1,h2,h3⟩:=hi.2 id hn
    have:=VRel.ptr (E:=E') po id off (Nat.lt_of_lt_of_le hn hi.1)
    rwa [h1,h2] at this
  | ia po cs b o f hO hb hf h ih=>
    have hB:=hk b (.inl ⟨hO,hb⟩)
    exact .ia po cs b o f (hB.1.trans hO) (Nat.lt_of_lt_of_le hb hsz) (fun k A h1=>(ZV hB.2).trans (hf k A h1)) fun k A h1=>ih k A h1 fun b hb=>hk b (E.hangs_none hb)
  | fn po g as bs us vs hu hv h1 h2 ih1 ih2=>
    exact .fn po g as bs us vs hu hv (fun k A v a b=>ih1 k A v a b fun b hb=>hk b (E.hangs_none hb)) (fun k A v a b=>ih2 k A v a b fun b hb=>hk b (E.hangs_none hb))
  |iface po t A v h ih=>exact .iface po t A v (ih fun b hb=>hk b (E.hangs_none hb))
  |tup po cs vs hs h ih=>exact .tup po cs vs hs fun k A v h1 h2=>ih k A v h1 h2 fun b hb=>hk b (E.hangs_map hb)
  | mp ℓ ks b es c hO hb he=>
    have hB:=hk b (.inr ⟨ℓ,ℓ,rfl,hO,List.prefix_refl _⟩)
    exact .mp ℓ ks b es c (hB.1.trans hO) (hB.2.trans hb) he
theorem VRel.keepO {E:Env}(O':Nat→Option (List Nat)){po:Option (List Nat)}{A:zb}{v:Value}(h:VRel E po A v)(hk:∀b,E.hangs po b→O' b=E.O b):
    VRel {E with O:=O'} po A v:=
  VRel.keep (E:=E) (E':={E with O:=O'}) ⟨Nat.le_refl _,fun _ _=>⟨rfl,rfl,rfl⟩⟩ (Nat.le_refl _) h fun b hb=>⟨hk b hb,rfl⟩
def relab (p q:List Nat)(O:Nat→Option (List Nat))(b:Nat):Option (List Nat):=
 match O b with
 |some ℓ=>if p<+:ℓ then some (q++ℓ.drop p.length) else some ℓ
 |none=>none
def Env.relab (E:Env)(p q:List Nat):Env:={E with O:=Ga.relab p q E.O}
theorem jz {p q:List Nat}{O:Nat→Option (List Nat)}{b:Nat}(h:O b=none):relab p q O b=none:=by simp[relab,h]
theorem Je {p q r:List Nat}{O:Nat→Option (List Nat)}{b:Nat}(h:O b=some (p++r)):relab p q O b=some (q++r):=by
 simp[relab,h]
theorem JU {p q ℓ:List Nat}{O:Nat→Option (List Nat)}{b:Nat}(h:O b=some ℓ)(hp:¬p<+:ℓ):relab p q O b=some ℓ:=by
 simp[relab,h,hp]
theorem VRel.moved {E:Env}(p q:List Nat){po:Option (List Nat)}{A:zb}{v:Value}(h:VRel E po A v):
    ∀r,(po=none→VRel (E.relab p q) none A v)∧(po=some (p++r)→VRel (E.relab p q) (some (q++r)) A v):=by
  induction h with
  |sc po v=>exact fun r=>⟨fun _=> .sc _ v,fun _=> .sc _ v⟩
  |dead po v=>exact fun r=>⟨fun _=> .dead _ v,fun _=> .dead _ v⟩
  | agg po cs vs hs h ih=>
    refine fun r=>⟨fun hp=>?_,fun hp=>?_⟩
    · subst hp;exact .agg _ cs vs hs fun k A v h1 h2=>(ih k A v h1 h2 []).1 rfl
    · subst hp
      refine .agg _ cs vs hs fun k A v h1 h2=>?_
      have:=(ih k A v h1 h2 (r++[k])).2 (by simp)
      simpa using this
  | imm po sz cs b o len cap f hO hb hl hc hf h ih=>
    exact fun r=>⟨fun _=> .imm _ sz cs b o len cap f (jz hO) hb hl hc hf fun k A h1=>(ih k A h1 []).1 rfl,
      fun _=> .imm _ sz cs b o len cap f (jz hO) hb hl hc hf fun k A h1=>(ih k A h1 []).1 rfl⟩
  |immNil po sz a=>exact fun r=>⟨fun _=> .immNil _ sz a,fun _=> .immNil _ sz a⟩
  | own ℓ sz cs b o len cap arr T f hO hb hl hc hm ha hf h ih=>
    refine fun r=>⟨fun hp=>(by cases hp),fun hp=>?_⟩
    cases hp
    refine .own _ sz cs b o len cap arr T f (Je hO) hb hl hc hm ha hf fun k A h1=>?_
    have:=(ih k A h1 (r++[k])).2 (by simp)
    simpa using this
  |ownNil po sz=>exact fun r=>⟨fun _=> .ownNil _ sz,fun _=> .ownNil _ sz⟩
  | box ℓ cs b arr T f hO hb ha hf h ih=>
    refine fun r=>⟨fun hp=>(by cases hp),fun hp=>?_⟩
    cases hp
    refine .box _ cs b arr T f (Je hO) hb ha hf fun k A h1=>?_
    have:=(ih k A h1 (r++[k])).2 (by simp)
    simpa using this
  |sl po id off len cap sz hn hc hm hκ=>exact fun r=>⟨fun _=> .sl (E:=E.relab p q) _ id off len cap sz hn hc hm hκ,fun _=> .sl (E:=E.relab p q) _ id off len cap sz hn hc hm hκ⟩
  |ptr po id off hn=>exact fun r=>⟨fun _=> .ptr (E:=E.relab p q) _ id off hn,fun _=> .ptr (E:=E.relab p q) _ id off hn⟩
  | ia po cs b o f hO hb hf h ih=>
    exact fun r=>⟨fun _=> .ia _ cs b o f (jz hO) hb hf fun k A h1=>(ih k A h1 []).1 rfl,
      fun _=> .ia _ cs b o f (jz hO) hb hf fun k A h1=>(ih k A h1 []).1 rfl⟩
  | fn po g as bs us vs hu hv h1 h2 ih1 ih2=>
    exact fun r=>⟨fun _=> .fn _ g as bs us vs hu hv (fun k A v a b=>(ih1 k A v a b []).1 rfl) (fun k A v a b=>(ih2 k A v a b []).1 rfl),
      fun _=> .fn _ g as bs us vs hu hv (fun k A v a b=>(ih1 k A v a b []).1 rfl) (fun k A v a b=>(ih2 k A v a b []).1 rfl)⟩
  |iface po t A v h ih=>exact fun r=>⟨fun _=> .iface _ t A v ((ih []).1 rfl),fun _=> .iface _ t A v ((ih []).1 rfl)⟩
  | tup po cs vs hs h ih=>
    refine fun r=>⟨fun hp=>?_,fun hp=>?_⟩
    · subst hp;exact .tup _ cs vs hs fun k A v h1 h2=>(ih k A v h1 h2 []).1 rfl
    · subst hp
      refine .tup _ cs vs hs fun k A v h1 h2=>?_
      have:=(ih k A v h1 h2 (r++[k])).2 (by simp)
      simpa using this
  | mp ℓ ks b es c hO hb he=>
    refine fun r=>⟨fun hp=>(by cases hp),fun hp=>?_⟩
    cases hp
    exact .mp _ ks b es c (Je hO) hb he
def jn (p q:List Nat):Prop:=¬p<+:q∧¬q<+:p
theorem jn.symm {p q:List Nat}(h:jn p q):jn q p:=⟨h.2,h.1⟩
theorem jn.under {p q r:List Nat}(h:jn p q)(hr:q<+:r):¬p<+:r:=fun hp=>by
 rcases List.prefix_or_prefix_of_prefix hp hr with h1|h1
 · exact h.1 h1
 · exact h.2 h1
theorem VRel.aside {E:Env}(p q:List Nat){po:Option (List Nat)}{A:zb}{v:Value}(h:VRel E po A v)(hp:∀ℓ,po=some ℓ→jn p ℓ):
    VRel (E.relab p q) po A v:=
  h.keepO _ fun b hb=>by
    rcases hb with hb|⟨ℓ,r,hℓ,hO,hpre⟩
    · exact(jz hb.1).trans hb.1.symm
    · exact(JU hO ((hp ℓ hℓ).under hpre)).trans hO.symm
mutual
def zb.freeze :zb→zb
 | .agg cs=> .agg (zb.freezeL cs)
 | .own (some sz) cs=> .imm sz (zb.freezeL cs)
 | .own none cs=> .ia (zb.freezeL cs)
 | .tup cs=> .tup (zb.freezeL cs)
 | .mp _=> .dead
 |A=>A
def zb.freezeL :List zb→List zb
 |[]=>[]
 |A::l=>A.freeze::zb.freezeL l
end
theorem Zr :∀l:List zb,(zb.freezeL l).length=l.length
 |[]=>rfl
 |A::l=>by simp[zb.freezeL,Zr l]
theorem wr :∀(l:List zb) (k:Nat),(zb.freezeL l)[k]?=(l[k]?).map zb.freeze
 |[],k=>by simp[zb.freezeL]
 |A::l,0=>by simp[zb.freezeL]
 |A::l,k+1=>by simp[zb.freezeL,wr l k]
theorem zN {l:List zb}{k:Nat}{A:zb}(h:(zb.freezeL l)[k]?=some A):∃B,l[k]?=some B∧A=B.freeze:=by
 rw[wr] at h
 cases hl:l[k]? with
 |none=>simp[hl] at h
 |some B=>simp[hl] at h;exact⟨B,rfl,h.symm⟩
noncomputable def j6 (p:List Nat)(O:Nat→Option (List Nat))(b:Nat):Option (List Nat):=
 match O b with
 |some ℓ=>if p<+:ℓ then none else some ℓ
 |none=>none
noncomputable def Env.freeze (E:Env)(p:List Nat):Env:={E with O:=j6 p E.O}
theorem jQ {p:List Nat}{O:Nat→Option (List Nat)}{b:Nat}(h:O b=none):j6 p O b=none:=by simp[j6,h]
theorem J5 {p ℓ:List Nat}{O:Nat→Option (List Nat)}{b:Nat}(h:O b=some ℓ)(hp:p<+:ℓ):j6 p O b=none:=by simp[j6,h,hp]
theorem J6 {p ℓ:List Nat}{O:Nat→Option (List Nat)}{b:Nat}(h:O b=some ℓ)(hp:¬p<+:ℓ):j6 p O b=some ℓ:=by simp[j6,h,hp]
theorem ZA {w:World}{b:Nat}{o:Obj}(h:w.heap[b]?=some o):b<w.heap.size:=(Array.getElem?_eq_some_iff.1 h).1
theorem zk {w:World}{b k:Nat}{arr:Array Value}{T:TypeId}{fr:Nat×Nat}(h:w.heap[b]?=some (.cells arr T fr)):w.cell? ⟨b,k,none⟩=arr[k]?:=by
 simp[World.cell?,h]
theorem VRel.keepF {E:Env}(p:List Nat){A:zb}{v:Value}(h:VRel E none A v):VRel (E.freeze p) none A v:=
 h.keepO _ fun b hb=>by
  rcases hb with hb|⟨ℓ,q,hℓ,_⟩
  · exact(jQ hb.1).trans hb.1.symm
  · cases hℓ
theorem VRel.frozen {E:Env}(p:List Nat){po:Option (List Nat)}{A:zb}{v:Value}(h:VRel E po A v):
    ∀po',(∀ℓ,po=some ℓ→p<+:ℓ)→VRel (E.freeze p) po' A.freeze v:=by
  induction h with
  |sc po v=>exact fun po' _=> .sc _ v
  |dead po v=>exact fun po' _=> .dead _ v
  | agg po cs vs hs h ih=>
    intro po' hp
    refine .agg _ _ vs (by rw[hs,Zr]) fun k A v h1 h2=>?_
    obtain⟨B,hB,rfl⟩:=zN h1
    refine ih k B v hB h2 _ fun ℓ hℓ=>?_
    cases po with
    |none=>cases hℓ
    |some ℓ0=>cases hℓ;exact(hp ℓ0 rfl).trans (List.prefix_append _ _)
  | imm po sz cs b o len cap f hO hb hl hc hf h ih=>
    intro po' hp
    exact .imm _ sz cs b o len cap f (jQ hO) hb hl hc hf fun k A h1=>(h k A h1).keepF p
  |immNil po sz a=>exact fun po' _=> .immNil _ sz a
  | own ℓ sz cs b o len cap arr T f hO hb hl hc hm ha hf h ih=>
    intro po' hp
    refine .imm _ sz _ b o len cap f (J5 hO (hp ℓ rfl)) (ZA hb) (by rw[Zr];exact hl) hc (fun k A h1=>?_) fun k A h1=>?_
    · obtain⟨B,hB,rfl⟩:=zN h1
      exact(zk hb).trans (hf k B hB)
    · obtain⟨B,hB,rfl⟩:=zN h1
      exact ih k B hB none fun ℓ' h'=>by cases h';exact(hp ℓ rfl).trans (List.prefix_append _ _)
  |ownNil po sz=>exact fun po' _=> .immNil _ sz none
  | box ℓ cs b arr T f hO hb ha hf h ih=>
    intro po' hp
    refine .ia _ _ b 0 f (J5 hO (hp ℓ rfl)) (ZA hb) (fun k A h1=>?_) fun k A h1=>?_
    · obtain⟨B,hB,rfl⟩:=zN h1
      exact(zk hb).trans (by simpa using hf k B hB)
    · obtain⟨B,hB,rfl⟩:=zN h1
      exact ih k B hB none fun ℓ' h'=>by cases h';exact(hp ℓ rfl).trans (List.prefix_append _ _)
  |sl po id off len cap sz hn hc hm hκ=>exact fun po' _=> .sl (E:=E.freeze p) _ id off len cap sz hn hc hm hκ
  |ptr po id off hn=>exact fun po' _=> .ptr (E:=E.freeze p) _ id off hn
  | ia po cs b o f hO hb hf h ih=>
    intro po' hp
    exact .ia _ cs b o f (jQ hO) hb hf fun k A h1=>(h k A h1).keepF p
  | fn po g as bs us vs hu hv h1 h2 ih1 ih2=>
    intro po' hp
    exact .fn _ g as bs us vs hu hv (fun k A v a b=>(h1 k A v a b).keepF p) (fun k A v a b=>(h2 k A v a b).keepF p)
  |iface po t A v h ih=>exact fun po' hp=> .iface _ t A v (h.keepF p)
  | tup po cs vs hs h ih=>
    intro po' hp
    refine .tup _ _ vs (by rw[hs,Zr]) fun k A v h1 h2=>?_
    obtain⟨B,hB,rfl⟩:=zN h1
    refine ih k B v hB h2 _ fun ℓ hℓ=>?_
    cases po with
    |none=>cases hℓ
    |some ℓ0=>cases hℓ;exact(hp ℓ0 rfl).trans (List.prefix_append _ _)
  |mp ℓ ks b es c hO hb he=>exact fun po' _=> .dead _ _
end Go.Ga

namespace Go.Ga
open Go
abbrev Heap :=List (Option (List zb))
structure zc where
 vs:List (Nat×zb)
 ts:List (Nat×zb)
 h:Heap
def zX :List (Nat×zb)→Nat→Option zb
 |[],_=>none
 |(j,A)::l,i=>if i=j then some A else zX l i
def Kt :List (Nat×zb)→Nat→zb→List (Nat×zb)
 |[],_,_=>[]
 |(j,A)::l,i,B=>if i=j then(j,B)::l else(j,A)::Kt l i B
def jm :Option zb→Option zb→zb
 |some A,_=>A
 |none,some A=>A
 |none,none=> .dead
def zc.get (st:zc)(i:Nat):zb:=jm (zX st.ts i) (zX st.vs i)
def zc.putT (st:zc)(d:Nat)(A:zb):zc:={st with ts:=(d,A)::st.ts}
def zc.set (st:zc)(i:Nat)(A:zb):zc:=
 match zX st.ts i with
 |some _=>{st with ts:=Kt st.ts i A}
 |none=>{st with vs:=Kt st.vs i A}
def zb.kids :zb→Option (List zb)
 | .own _ cs=>some cs
 | .agg cs=>some cs
 | .tup cs=>some cs
 |_=>none
def zb.sub :zb→List Nat→Option zb
 |A,[]=>some A
 | A,k::ks=>match A.kids with
   | some cs=>match cs[k]? with
     |some B=>B.sub ks
     |none=>none
   |none=>none
def zb.setSub :zb→List Nat→zb→zb
 |_,[],B=>B
 | .own hd cs,k::ks,B=> .own hd (match cs[k]? with|some C=>cs.set k (C.setSub ks B)|none=>cs)
 | .agg cs,k::ks,B=> .agg (match cs[k]? with|some C=>cs.set k (C.setSub ks B)|none=>cs)
 | .tup cs,k::ks,B=> .tup (match cs[k]? with|some C=>cs.set k (C.setSub ks B)|none=>cs)
 |A,_::_,_=>A
def zc.at (st:zc):List Nat→Option zb
 |0::i::ks=>(st.get i).sub ks
 | 1::id::k::ks=>match st.h[id]? with
   |some (some cs)=>(zb.own none cs).sub (k::ks)
   |_=>none
 |_=>none
def zc.setAt (st:zc)(p:List Nat)(B:zb):zc:=
 match p with
 |0::i::ks=>st.set i ((st.get i).setSub ks B)
 | 1::id::k::ks=>match st.h[id]? with
   |some (some cs)=>{st with h:=st.h.set id (some (match cs[k]? with|some C=>cs.set k (C.setSub ks B)|none=>cs))}
   |_=>st
 |_=>st
def zW (w:World):Value→List Nat→Option Value
 |v,[]=>some v
 | .slice (some a) _ _,k::ks=>match w.cell? ⟨a.block,a.off+k,none⟩ with
   |some u=>zW w u ks
   |none=>none
 | .pointer (some a),k::ks=>match w.cell? ⟨a.block,a.off+k,none⟩ with
   |some u=>zW w u ks
   |none=>none
 | .agg cs,k::ks=>match cs[k]? with
   |some u=>zW w u ks
   |none=>none
 | .tuple cs,k::ks=>match cs[k]? with
   |some u=>zW w u ks
   |none=>none
 |_,_::_=>none
def Env.ptr (E:Env)(id:Nat):Value:= .pointer (some ⟨E.ρ id,E.β id,none⟩)
def zD (E:Env)(tm:Array Value):List Nat→Option Value
 | 0::i::ks=>match tm[i]? with
   |some v=>zW E.w v ks
   |none=>none
 |1::id::ks=>zW E.w (E.ptr id) ks
 |_=>none
theorem sub_append (ks:List Nat):∀(A:zb) (js:List Nat),A.sub (ks++js)=(A.sub ks).bind (·.sub js):=by
 induction ks with
 |nil=>intro A js;rfl
 | cons k ks ih=>
   intro A js
   simp only[List.cons_append,zb.sub]
   cases A.kids with
   |none=>rfl
   | some cs=>
     simp only[]
     cases cs[k]? with
     |none=>rfl
     |some B=>exact ih B js
theorem vsub_append (w:World)(ks:List Nat):∀(v:Value) (js:List Nat),zW w v (ks++js)=(zW w v ks).bind (zW w · js):=by
 induction ks with
 |nil=>intro v js;cases v<;>simp[zW]
 | cons k ks ih=>
   intro v js
   simp only[List.cons_append]
   cases v with
   | slice a l c=>
     cases a with
     |none=>rfl
     | some a=>simp only[zW];cases w.cell? ⟨a.block,a.off+k,none⟩ with
       |none=>rfl
       |some u=>exact ih u js
   | pointer a=>
     cases a with
     |none=>rfl
     | some a=>simp only[zW];cases w.cell? ⟨a.block,a.off+k,none⟩ with
       |none=>rfl
       |some u=>exact ih u js
   |agg cs=>simp only[zW];cases cs[k]? with
    |none=>rfl
    |some u=>exact ih u js
   |tuple cs=>simp only[zW];cases cs[k]? with
    |none=>rfl
    |some u=>exact ih u js
   |_=>rfl
theorem VRel.sub {E:Env}:∀(ks:List Nat) {ℓ:List Nat} {A B:zb} {v:Value},VRel E (some ℓ) A v→A.sub ks=some B→
    ∃u,zW E.w v ks=some u∧VRel E (some (ℓ++ks)) B u:=by
  intro ks
  induction ks with
  | nil=>
    intro ℓ A B v h hB
    cases hB
    exact⟨v,by simp[zW],by simpa using h⟩
  | cons k ks ih=>
    intro ℓ A B v h hB
    cases h with
    | own _ sz cs b o len cap arr T f hO hb hl hc hm ha hf h=>
      simp only[zb.sub,zb.kids] at hB
      cases hk:cs[k]? with
      |none=>simp[hk] at hB
      | some C=>
        simp only[hk] at hB
        obtain⟨u,hu,hr⟩:=ih (h k C hk) hB
        refine⟨u,?_,by simpa using hr⟩
        simp only[zW,zk hb,hf k C hk]
        exact hu
    | box _ cs b arr T f hO hb ha hf h=>
      simp only[zb.sub,zb.kids] at hB
      cases hk:cs[k]? with
      |none=>simp[hk] at hB
      | some C=>
        simp only[hk] at hB
        obtain⟨u,hu,hr⟩:=ih (h k C hk) hB
        refine⟨u,?_,by simpa using hr⟩
        simp only[zW,Nat.zero_add,zk hb,hf k C hk]
        exact hu
    | agg _ cs vs hs h=>
      simp only[zb.sub,zb.kids] at hB
      cases hk:cs[k]? with
      |none=>simp[hk] at hB
      | some C=>
        simp only[hk] at hB
        have hlt:k<vs.size:=by rw[hs];exact(List.getElem?_eq_some_iff.1 hk).1
        obtain⟨u,hu,hr⟩:=ih (h k C vs[k] hk (by simp[hlt])) hB
        refine⟨u,?_,by simpa using hr⟩
        simp only[zW]
        rw[Array.getElem?_eq_getElem hlt]
        exact hu
    |ownNil _ sz=>simp[zb.sub,zb.kids] at hB
    |sc _ v=>simp[zb.sub,zb.kids] at hB
    |imm=>simp[zb.sub,zb.kids] at hB
    |immNil=>simp[zb.sub,zb.kids] at hB
    |sl=>simp[zb.sub,zb.kids] at hB
    |ptr=>simp[zb.sub,zb.kids] at hB
    |ia=>simp[zb.sub,zb.kids] at hB
    |fn=>simp[zb.sub,zb.kids] at hB
    |iface=>simp[zb.sub,zb.kids] at hB
    | tup _ cs vs hs h=>
      simp only[zb.sub,zb.kids] at hB
      cases hk:cs[k]? with
      |none=>simp[hk] at hB
      | some C=>
        simp only[hk] at hB
        have hlt:k<vs.size:=by rw[hs];exact(List.getElem?_eq_some_iff.1 hk).1
        obtain⟨u,hu,hr⟩:=ih (h k C vs[k] hk (by simp[hlt])) hB
        refine⟨u,?_,by simpa using hr⟩
        simp only[zW]
        rw[Array.getElem?_eq_getElem hlt]
        exact hu
    |dead=>simp[zb.sub,zb.kids] at hB
    |mp=>simp[zb.sub,zb.kids] at hB
def zb.isAlias :zb→Bool
 | .dead=>true
 | .at_ _=>true
 | .addr _ _=>true
 |_=>false
def Value.base :Value→Option (Nat×Nat)
 | .slice (some a) _ _=>some (a.block,a.off)
 | .pointer (some a)=>some (a.block,a.off)
 |_=>none
def ZY (E:Env)(st:zc)(tm:Array Value)(i:Nat):zb→Prop
 | .dead=>True
 | .at_ p=>∃B v,st.at p=some B∧B.isAlias=false∧zD E tm p=some v∧tm[i]?=some v
 | .addr p k=>∃hd cs v b o,st.at p=some (.own hd cs)∧zD E tm p=some v∧Ga.Value.base v=some (b,o)∧tm[i]?=some (.pointer (some ⟨b,o+k,none⟩))
 |A=>∃v,tm[i]?=some v∧VRel E (some [0,i]) A v
def qO (E:Env)(id:Nat)(cs:List zb):Prop:=
 E.O (E.ρ id)=some [1,id]∧∃(arr:Array Value) (T:TypeId) (f:Nat→Value),E.w.heap[E.ρ id]?=some (.cells arr T (0,0))∧E.β id+E.κ id≤arr.size∧cs.length≤E.κ id∧
  (∀k A,cs[k]?=some A→arr[E.β id+k]?=some (f k))∧∀(k:Nat) A,cs[k]?=some A→VRel E (some ([1,id]++[k])) A (f k)
def zb.root :zb→Option Nat
 | .at_ (0::i::_)=>some i
 | .addr (0::i::_) _=>some i
 |_=>none
structure zA (E:Env)(N:Nat)(V:List Nat)(st:zc)(tm:Array Value):Prop where
 size:tm.size=N
 keys:st.vs.map (·.1)=V
 num:E.n=st.h.length
 disj:∀d,d∈V→d∉st.ts.map (·.1)
 lim:∀b q,E.O b=some q→b<E.w.heap.size
 roots:∀i A r,st.get i=A→A.root=some r→r∈V∨r∈st.ts.map (·.1)
 slots:∀i,ZY E st tm i (st.get i)
 objs:∀id cs,st.h[id]?=some (some cs)→qO E id cs
def Wat (L:List (List Nat))(r:List Nat):Prop:=r∈L∧(r.head?=some 0∨r.head?=some 1)
structure zL (L:List (List Nat))(E E':Env):Prop where
 size:E.w.heap.size≤E'.w.heap.size
 os:E'.w.os=E.w.os
 tape:E'.w.tape=E.w.tape
 output:E'.w.output=E.w.output
 old:∀b,E.O b=none→b<E.w.heap.size→E'.O b=none∧E'.w.heap[b]?=E.w.heap[b]?
 far:∀b r,E.O b=some (2::r)→E'.O b=some (2::r)∧E'.w.heap[b]?=E.w.heap[b]?
 farB:∀b r,E'.O b=some (2::r)→E.O b=some (2::r)
 ids:E.ids E'
 keep:∀b r,Wat L r→E.O b=some r→b<E.w.heap.size→(E'.O b=some r∨E'.O b=none)∧E'.w.heap[b]?=E.w.heap[b]?
theorem Env.ids_refl (E:Env):E.ids E:=⟨Nat.le_refl _,fun _ _=>⟨rfl,rfl,rfl⟩⟩
theorem Env.ids_trans {E E' E'':Env}(h:E.ids E')(h':E'.ids E''):E.ids E'':=
 ⟨Nat.le_trans h.1 h'.1,fun id hid=>by
  obtain⟨a,b,c⟩:=h.2 id hid
  obtain⟨a',b',c'⟩:=h'.2 id (Nat.lt_of_lt_of_le hid h.1)
  exact⟨a'.trans a,b'.trans b,c'.trans c⟩⟩
theorem zL.refl {L:List (List Nat)}(E:Env):zL L E E:=⟨Nat.le_refl _,rfl,rfl,rfl,fun _ h _=>⟨h,rfl⟩,fun _ _ h=>⟨h,rfl⟩,fun _ _ h=>h,E.ids_refl,fun _ _ _ h _=>⟨.inl h,rfl⟩⟩
theorem zL.trans {L:List (List Nat)}{E E' E'':Env}(h:zL L E E')(h':zL L E' E''):zL L E E'' where
 size:=Nat.le_trans h.size h'.size
 os:=h'.os.trans h.os
 tape:=h'.tape.trans h.tape
 output:=h'.output.trans h.output
 old b hb hs:=by
  obtain⟨a,c⟩:=h.old b hb hs
  obtain⟨a',c'⟩:=h'.old b a (Nat.lt_of_lt_of_le hs h.size)
  exact⟨a',c'.trans c⟩
 far b r hb:=by
  obtain⟨a,c⟩:=h.far b r hb
  obtain⟨a',c'⟩:=h'.far b r a
  exact⟨a',c'.trans c⟩
 farB b r hb:=h.farB b r (h'.farB b r hb)
 ids:=E.ids_trans h.ids h'.ids
 keep b r hr hb hs:=by
  obtain⟨a,c⟩:=h.keep b r hr hb hs
  have hs':=Nat.lt_of_lt_of_le hs h.size
  rcases a with a|a
  · obtain⟨a',c'⟩:=h'.keep b r hr a hs'
    exact⟨a',c'.trans c⟩
  · obtain⟨a',c'⟩:=h'.old b a hs'
    exact⟨.inr a',c'.trans c⟩
theorem Zx {L:List (List Nat)}{k:Nat}(hk:2≤k)(ks r:List Nat)(h:(k::ks)<+:r):¬Wat L r:=by
 rintro⟨_,h1⟩
 cases r with
 |nil=>simp at h
 | cons x r=>
   rw[List.cons_prefix_cons] at h
   simp at h1
   omega
end Go.Ga

namespace Go.Ga
open Go
theorem Y9 {ℓ:List Nat}{k k':Nat}(h:k≠k')(r:List Nat):jn (ℓ++[k']) (ℓ++(k::r)):=by
 refine⟨fun hp=>?_,fun hp=>?_⟩
 · rw[List.prefix_append_right_inj] at hp
   obtain⟨t,ht⟩:=hp
   simp at ht
   exact h ht.1.symm
 · rw[List.prefix_append_right_inj] at hp
   obtain⟨t,ht⟩:=hp
   simp at ht
   exact h ht.1
structure Zh (p:List Nat)(E E':Env):Prop where
 size:E.w.heap.size≤E'.w.heap.size
 ids:E.ids E'
 none_:∀b,E.O b=none→b<E.w.heap.size→E'.O b=none∧E'.w.heap[b]?=E.w.heap[b]?
 else_:∀b q,E.O b=some q→¬p<+:q→E'.O b=some q∧E'.w.heap[b]?=E.w.heap[b]?
theorem Zh.keep {p:List Nat}{E E':Env}(U:Zh p E E'){po:Option (List Nat)}{A:zb}{v:Value}(h:VRel E po A v)(hp:∀ℓ,po=some ℓ→jn p ℓ):VRel E' po A v:=
 h.keep U.ids U.size fun b hb=>by
  rcases hb with hb|⟨ℓ,q,hℓ,hO,hpre⟩
  · obtain⟨a,c⟩:=U.none_ b hb.1 hb.2
    exact⟨a.trans hb.1.symm,c⟩
  · obtain⟨a,c⟩:=U.else_ b q hO ((hp ℓ hℓ).under hpre)
    exact⟨a.trans hO.symm,c⟩
theorem yG {ℓ:List Nat}{k:Nat}{ks:List Nat}:¬(ℓ++(k::ks))<+:ℓ:=fun h=>by
 have:=h.length_le
 simp at this
 omega
theorem VRel.turn {E E':Env}:∀(ks:List Nat) {ℓ:List Nat} {A B B':zb} {v u:Value},Zh (ℓ++ks) E E'→VRel E (some ℓ) A v→A.sub ks=some B→zW E.w v ks=some u→
    VRel E' (some (ℓ++ks)) B' u→VRel E' (some ℓ) (A.setSub ks B') v:=by
  intro ks
  induction ks with
  | nil=>
    intro ℓ A B B' v u U h hB hu h'
    have:v=u:=by cases v<;>simpa[zW] using hu
    subst this
    have e:A.setSub [] B'=B':=by cases A<;>rfl
    rw[e]
    simpa using h'
  | cons k ks ih=>
    intro ℓ A B B' v u U h hB hu h'
    have U':Zh ((ℓ++[k])++ks) E E':=by simpa using U
    have h'':VRel E' (some ((ℓ++[k])++ks)) B' u:=by simpa using h'
    have sib:∀k',k≠k'→∀{A v},VRel E (some (ℓ++[k'])) A v→VRel E' (some (ℓ++[k'])) A v:=fun k' hne A v h=>
      U.keep h fun ℓ' h=>by cases h;exact(Y9 hne ks).symm
    cases h with
    | own _ sz cs b o len cap arr T f hO hb hl hc hm ha hf h=>
      simp only[zb.sub,zb.kids] at hB
      cases hk:cs[k]? with
      |none=>simp[hk] at hB
      | some C=>
        simp only[hk] at hB
        obtain⟨hO',hb'⟩:=U.else_ b ℓ hO yG
        simp only[zW,zk hb,hf k C hk] at hu
        simp only[zb.setSub,hk]
        refine .own ℓ sz _ b o len cap arr T f hO' (hb'.trans hb) (by simpa using hl) hc hm ha (fun j A hj=>?_) fun j A hj=>?_
        · rw[List.getElem?_set] at hj
          by_cases hkj:k=j
          · subst hkj;exact hf k C hk
          · exact hf j A (by simpa[hkj] using hj)
        · rw[List.getElem?_set] at hj
          by_cases hkj:k=j
          · subst hkj
            have hlt:k<cs.length:=(List.getElem?_eq_some_iff.1 hk).1
            simp[hlt] at hj
            subst hj
            exact ih U' (h k C hk) hB hu h''
          · exact sib j hkj (h j A (by simpa[hkj] using hj))
    | box _ cs b arr T f hO hb ha hf h=>
      simp only[zb.sub,zb.kids] at hB
      cases hk:cs[k]? with
      |none=>simp[hk] at hB
      | some C=>
        simp only[hk] at hB
        obtain⟨hO',hb'⟩:=U.else_ b ℓ hO yG
        simp only[zW,Nat.zero_add,zk hb,hf k C hk] at hu
        simp only[zb.setSub,hk]
        refine .box ℓ _ b arr T f hO' (hb'.trans hb) (by simpa using ha) (fun j A hj=>?_) fun j A hj=>?_
        · rw[List.getElem?_set] at hj
          by_cases hkj:k=j
          · subst hkj;exact hf k C hk
          · exact hf j A (by simpa[hkj] using hj)
        · rw[List.getElem?_set] at hj
          by_cases hkj:k=j
          · subst hkj
            have hlt:k<cs.length:=(List.getElem?_eq_some_iff.1 hk).1
            simp[hlt] at hj
            subst hj
            exact ih U' (h k C hk) hB hu h''
          · exact sib j hkj (h j A (by simpa[hkj] using hj))
    | agg _ cs vs hs h=>
      simp only[zb.sub,zb.kids] at hB
      cases hk:cs[k]? with
      |none=>simp[hk] at hB
      | some C=>
        simp only[hk] at hB
        have hlt:k<vs.size:=by rw[hs];exact(List.getElem?_eq_some_iff.1 hk).1
        simp only[zW] at hu
        rw[Array.getElem?_eq_getElem hlt] at hu
        simp only[zb.setSub,hk]
        refine .agg (some ℓ) _ vs (by simpa using hs) fun j A v hj hv=>?_
        rw[List.getElem?_set] at hj
        by_cases hkj:k=j
        · subst hkj
          have hlt':k<cs.length:=(List.getElem?_eq_some_iff.1 hk).1
          simp[hlt'] at hj
          subst hj
          have:v=vs[k]:=by rw[Array.getElem?_eq_getElem hlt] at hv;exact(Option.some.inj hv).symm
          subst this
          exact ih U' (h k C _ hk (Array.getElem?_eq_getElem hlt)) hB hu h''
        · exact sib j hkj (h j A v (by simpa[hkj] using hj) hv)
    |ownNil _ sz=>simp[zb.sub,zb.kids] at hB
    |sc _ v=>simp[zb.sub,zb.kids] at hB
    |imm=>simp[zb.sub,zb.kids] at hB
    |immNil=>simp[zb.sub,zb.kids] at hB
    |sl=>simp[zb.sub,zb.kids] at hB
    |ptr=>simp[zb.sub,zb.kids] at hB
    |ia=>simp[zb.sub,zb.kids] at hB
    |fn=>simp[zb.sub,zb.kids] at hB
    |iface=>simp[zb.sub,zb.kids] at hB
    | tup _ cs vs hs h=>
      simp only[zb.sub,zb.kids] at hB
      cases hk:cs[k]? with
      |none=>simp[hk] at hB
      | some C=>
        simp only[hk] at hB
        have hlt:k<vs.size:=by rw[hs];exact(List.getElem?_eq_some_iff.1 hk).1
        simp only[zW] at hu
        rw[Array.getElem?_eq_getElem hlt] at hu
        simp only[zb.setSub,hk]
        refine .tup (some ℓ) _ vs (by simpa using hs) fun j A v hj hv=>?_
        rw[List.getElem?_set] at hj
        by_cases hkj:k=j
        · subst hkj
          have hlt':k<cs.length:=(List.getElem?_eq_some_iff.1 hk).1
          simp[hlt'] at hj
          subst hj
          have:v=vs[k]:=by rw[Array.getElem?_eq_getElem hlt] at hv;exact(Option.some.inj hv).symm
          subst this
          exact ih U' (h k C _ hk (Array.getElem?_eq_getElem hlt)) hB hu h''
        · exact sib j hkj (h j A v (by simpa[hkj] using hj) hv)
    |dead=>simp[zb.sub,zb.kids] at hB
    |mp=>simp[zb.sub,zb.kids] at hB
theorem VRel.way {E E':Env}{p:List Nat}(U:Zh p E E'):∀(ks:List Nat) {ℓ:List Nat} {A B:zb} {v:Value},¬(p<+:(ℓ++ks)∧p≠ℓ++ks)→VRel E (some ℓ) A v→A.sub ks=some B→
    zW E'.w v ks=zW E.w v ks:=by
  intro ks
  induction ks with
  |nil=>intro ℓ A B v _ _ _;cases v<;>simp[zW]
  | cons k ks ih=>
    intro ℓ A B v hn h hB
    have hn':¬(p<+:((ℓ++[k])++ks)∧p≠(ℓ++[k])++ks):=by simpa using hn
    have hℓ:¬p<+:ℓ:=fun hp=>hn ⟨hp.trans (List.prefix_append _ _),fun e=>by subst e;exact yG hp⟩
    cases h with
    | own _ sz cs b o len cap arr T f hO hb hl hc hm ha hf h=>
      simp only[zb.sub,zb.kids] at hB
      cases hk:cs[k]? with
      |none=>simp[hk] at hB
      | some C=>
        simp only[hk] at hB
        obtain⟨hO',hb'⟩:=U.else_ b ℓ hO hℓ
        simp only[zW,zk hb,zk (hb'.trans hb),hf k C hk]
        exact ih hn' (h k C hk) hB
    | box _ cs b arr T f hO hb ha hf h=>
      simp only[zb.sub,zb.kids] at hB
      cases hk:cs[k]? with
      |none=>simp[hk] at hB
      | some C=>
        simp only[hk] at hB
        obtain⟨hO',hb'⟩:=U.else_ b ℓ hO hℓ
        simp only[zW,Nat.zero_add,zk hb,zk (hb'.trans hb),hf k C hk]
        exact ih hn' (h k C hk) hB
    | agg _ cs vs hs h=>
      simp only[zb.sub,zb.kids] at hB
      cases hk:cs[k]? with
      |none=>simp[hk] at hB
      | some C=>
        simp only[hk] at hB
        have hlt:k<vs.size:=by rw[hs];exact(List.getElem?_eq_some_iff.1 hk).1
        simp only[zW]
        rw[Array.getElem?_eq_getElem hlt]
        exact ih hn' (h k C _ hk (Array.getElem?_eq_getElem hlt)) hB
    |ownNil _ sz=>simp[zb.sub,zb.kids] at hB
    |sc _ v=>simp[zb.sub,zb.kids] at hB
    |imm=>simp[zb.sub,zb.kids] at hB
    |immNil=>simp[zb.sub,zb.kids] at hB
    |sl=>simp[zb.sub,zb.kids] at hB
    |ptr=>simp[zb.sub,zb.kids] at hB
    |ia=>simp[zb.sub,zb.kids] at hB
    |fn=>simp[zb.sub,zb.kids] at hB
    |iface=>simp[zb.sub,zb.kids] at hB
    | tup _ cs vs hs h=>
      simp only[zb.sub,zb.kids] at hB
      cases hk:cs[k]? with
      |none=>simp[hk] at hB
      | some C=>
        simp only[hk] at hB
        have hlt:k<vs.size:=by rw[hs];exact(List.getElem?_eq_some_iff.1 hk).1
        simp only[zW]
        rw[Array.getElem?_eq_getElem hlt]
        exact ih hn' (h k C _ hk (Array.getElem?_eq_getElem hlt)) hB
    |dead=>simp[zb.sub,zb.kids] at hB
    |mp=>simp[zb.sub,zb.kids] at hB
theorem qB :∀(ks js:List Nat) {A B C:zb} (B':zb),A.sub ks=some B→A.sub js=some C→¬(ks<+:js∧ks≠js)→∃C',(A.setSub ks B').sub js=some C'∧
    (¬js<+:ks→C'=C)∧(js=ks→C'=B')∧(js≠ks→C'=C∨(∃hd cs cs',C= .own hd cs∧C'= .own hd cs')∨(∃cs cs',C= .agg cs∧C'= .agg cs')∨∃cs cs',C= .tup cs∧C'= .tup cs'):=by
  intro ks
  induction ks with
  | nil=>
    intro js A B C B' hB hC hn
    have:js=[]:=by
      cases js with
      |nil=>rfl
      |cons j js=>exact absurd ⟨List.nil_prefix,by simp⟩ hn
    subst this
    refine⟨B',by cases A<;>rfl,fun h=>absurd (List.nil_prefix) h,fun _=>rfl,fun h=>absurd rfl h⟩
  | cons k ks ih=>
    intro js A B C B' hB hC hn
    cases js with
    | nil=>
      cases hC
      refine⟨A.setSub (k::ks) B',by simp[zb.sub],fun h=>absurd (List.nil_prefix) h,fun h=>(by cases h),fun _=>?_⟩
      cases A with
      |own hd cs=>exact .inr (.inl ⟨hd,cs,_,rfl,rfl⟩)
      |agg cs=>exact .inr (.inr (.inl ⟨cs,_,rfl,rfl⟩))
      |tup cs=>exact .inr (.inr (.inr ⟨cs,_,rfl,rfl⟩))
      |_=>exact .inl rfl
    | cons j js=>
      cases A with
      | own hd cs=>
        simp only[zb.sub,zb.kids] at hB hC
        cases hk:cs[k]? with
        |none=>simp[hk] at hB
        | some D=>
          simp only[hk] at hB
          have hlt:k<cs.length:=(List.getElem?_eq_some_iff.1 hk).1
          simp only[zb.setSub,hk,zb.sub,zb.kids,List.getElem?_set]
          by_cases hkj:k=j
          · subst hkj
            simp only[hlt,if_true]
            simp only[hk] at hC
            obtain⟨C',h1,h2,h3,h4⟩:=ih js B' hB hC (fun h=>hn ⟨by simpa using h.1,by simpa using h.2⟩)
            exact⟨C',h1,fun h=>h2 (by simpa using h),fun h=>h3 (by simpa using h),fun h'=>h4 (by simpa using h')⟩
          · simp only[hkj,if_false]
            exact⟨C,hC,fun _=>rfl,fun h=>absurd (by simpa using h.symm) (by simp[hkj]),fun _=> .inl rfl⟩
      | agg cs=>
        simp only[zb.sub,zb.kids] at hB hC
        cases hk:cs[k]? with
        |none=>simp[hk] at hB
        | some D=>
          simp only[hk] at hB
          have hlt:k<cs.length:=(List.getElem?_eq_some_iff.1 hk).1
          simp only[zb.setSub,hk,zb.sub,zb.kids,List.getElem?_set]
          by_cases hkj:k=j
          · subst hkj
            simp only[hlt,if_true]
            simp only[hk] at hC
            obtain⟨C',h1,h2,h3,h4⟩:=ih js B' hB hC (fun h=>hn ⟨by simpa using h.1,by simpa using h.2⟩)
            exact⟨C',h1,fun h=>h2 (by simpa using h),fun h=>h3 (by simpa using h),fun h'=>h4 (by simpa using h')⟩
          · simp only[hkj,if_false]
            exact⟨C,hC,fun _=>rfl,fun h=>absurd (by simpa using h.symm) (by simp[hkj]),fun _=> .inl rfl⟩
      | tup cs=>
        simp only[zb.sub,zb.kids] at hB hC
        cases hk:cs[k]? with
        |none=>simp[hk] at hB
        | some D=>
          simp only[hk] at hB
          have hlt:k<cs.length:=(List.getElem?_eq_some_iff.1 hk).1
          simp only[zb.setSub,hk,zb.sub,zb.kids,List.getElem?_set]
          by_cases hkj:k=j
          · subst hkj
            simp only[hlt,if_true]
            simp only[hk] at hC
            obtain⟨C',h1,h2,h3,h4⟩:=ih js B' hB hC (fun h=>hn ⟨by simpa using h.1,by simpa using h.2⟩)
            exact⟨C',h1,fun h=>h2 (by simpa using h),fun h=>h3 (by simpa using h),fun h'=>h4 (by simpa using h')⟩
          · simp only[hkj,if_false]
            exact⟨C,hC,fun _=>rfl,fun h=>absurd (by simpa using h.symm) (by simp[hkj]),fun _=> .inl rfl⟩
      |_=>simp[zb.sub,zb.kids] at hB
end Go.Ga

namespace Go.Ga
open Go
def JZ (bad:zb→Bool):List (Nat×zb)→List (Nat×zb)
 |[]=>[]
 |(i,A)::l=>(i,bif bad A then .dead else A)::JZ bad l
def zc.kill (st:zc)(bad:zb→Bool):zc:={st with vs:=JZ bad st.vs,ts:=JZ bad st.ts}
theorem Xt (bad:zb→Bool):∀(l:List (Nat×zb)) (i:Nat),zX (JZ bad l) i=(zX l i).map fun A=>bif bad A then .dead else A
 |[],_=>rfl
 | (j,A)::l,i=>by
   simp only[JZ,zX]
   split
   · rfl
   · exact Xt bad l i
theorem jI (bad:zb→Bool):∀l:List (Nat×zb),(JZ bad l).map (·.1)=l.map (·.1)
 |[]=>rfl
 |(j,A)::l=>by simp[JZ,jI bad l]
theorem zc.get_kill (st:zc)(bad:zb→Bool)(i:Nat):(st.kill bad).get i=bif bad (st.get i) then .dead else st.get i:=by
 simp only[zc.get,zc.kill,Xt]
 generalize zX st.ts i=x
 generalize zX st.vs i=y
 cases x<;>cases y<;>simp[jm]
theorem Ql :∀(l:List (Nat×zb)) (i j:Nat) (B:zb),zX (Kt l i B) j=if i=j then(zX l j).map fun _=>B else zX l j
 |[],i,j,B=>by simp[Kt,zX]
 | (k, A)::l,i,j,B=>by
   simp only[Kt]
   by_cases hik:i=k
   · subst hik
     simp only[if_true,zX]
     by_cases hji:j=i
     · subst hji;simp
     · have:¬i=j:=fun e=>hji e.symm
       simp[hji,this]
   · simp only[hik,if_false,zX]
     by_cases hjk:j=k
     · subst hjk
       have:¬i=j:=hik
       simp[this]
     · simp only[hjk,if_false]
       exact Ql l i j B
theorem UU :∀(l:List (Nat×zb)) (i:Nat) (B:zb),(Kt l i B).map (·.1)=l.map (·.1)
 |[],_,_=>rfl
 | (k,A)::l,i,B=>by
   simp only[Kt]
   split
   · rfl
   · simp[UU l i B]
theorem Z0 {l:List (Nat×zb)}{i:Nat}:(∃A,zX l i=some A)↔i∈l.map (·.1):=by
 induction l with
 |nil=>simp[zX]
 | cons x l ih=>
   obtain⟨j,A⟩:=x
   simp only[zX,List.map_cons,List.mem_cons]
   by_cases h:i=j
   · simp[h]
   · simp[h,ih]
theorem zc.get_set_ne (st:zc){i j:Nat}(A:zb)(h:i≠j):(st.set i A).get j=st.get j:=by
 unfold zc.set
 split
 · simp[zc.get,Ql,h]
 · simp[zc.get,Ql,h]
theorem zc.get_set (st:zc){i:Nat}(A:zb)(h:(∃B,zX st.ts i=some B)∨∃B,zX st.vs i=some B):(st.set i A).get i=A:=by
 unfold zc.set
 split
 · rename_i B hB;simp[zc.get,Ql,hB,jm]
 · rename_i hB
   rcases h with⟨B,h⟩|⟨B,h⟩
   · rw[hB] at h;cases h
   · simp[zc.get,Ql,hB,h,jm]
theorem zc.set_keys (st:zc)(i:Nat)(A:zb):(st.set i A).vs.map (·.1)=st.vs.map (·.1)∧(st.set i A).ts.map (·.1)=st.ts.map (·.1)∧(st.set i A).h=st.h:=by
 unfold zc.set
 split<;>simp[UU]
theorem zc.get_putT (st:zc)(d:Nat)(A:zb)(i:Nat):(st.putT d A).get i=if i=d then A else st.get i:=by
 unfold zc.putT zc.get
 simp only[zX]
 by_cases h:i=d<;>simp[h,jm]
def zb.under (p:List Nat)(keepAddr:Bool):zb→Bool
 | .at_ q=>p.isPrefixOf q&&(p !=q|| !keepAddr)
 | .addr q _=>p.isPrefixOf q&&(p !=q|| !keepAddr)
 |_=>false
theorem Qm {p q:List Nat}:p.isPrefixOf q=true↔p<+:q:=List.isPrefixOf_iff_prefix
theorem zO (st:zc)(i:Nat)(ks:List Nat):st.at (0::i::ks)=(st.get i).sub ks:=rfl
theorem ZY.dead {E:Env}{st:zc}{tm:Array Value}{i:Nat}:ZY E st tm i .dead:=trivial
theorem ZY.mk {E:Env}{st:zc}{tm:Array Value}{i:Nat}{A:zb}{v:Value}(ht:tm[i]?=some v)(h:VRel E (some [0,i]) A v):ZY E st tm i A:=by
 cases A with
 |dead=>trivial
 |at_ p=>cases h
 |addr p k=>cases h
 |_=>exact⟨v,ht,h⟩
theorem ZY.out {E:Env}{st:zc}{tm:Array Value}{i:Nat}{A:zb}(hA:A.isAlias=false)(h:ZY E st tm i A):∃v,tm[i]?=some v∧VRel E (some [0,i]) A v:=by
 cases A with
 |dead=>cases hA
 |at_ p=>cases hA
 |addr p k=>cases hA
 |_=>exact h
theorem ZY.carry {E E':Env}{st st':zc}{tm tm':Array Value}{i:Nat}{A:zb}(h:ZY E st tm i A)(ht:tm'[i]?=tm[i]?)
    (hv:∀v,A.isAlias=false→VRel E (some [0,i]) A v→VRel E' (some [0,i]) A v)
    (ha:∀p,(A= .at_ p∨∃k,A= .addr p k)→∀B,st.at p=some B→B.isAlias=false→(∃B',st'.at p=some B'∧B'.isAlias=false∧(∀hd cs,B= .own hd cs→∃hd' cs',B'= .own hd' cs'))∧zD E' tm' p=zD E tm p):ZY E' st' tm' i A:=by
  cases A with
  |dead=>trivial
  | at_ p=>
    obtain⟨B,v,h1,h0,h2,h3⟩:=h
    obtain⟨⟨B',h4,h6,_⟩,h5⟩:=ha p (.inl rfl) B h1 h0
    exact⟨B',v,h4,h6,h5.trans h2,ht.trans h3⟩
  | addr p k=>
    obtain⟨hd,cs,v,b,o,h1,h2,h3,h4⟩:=h
    obtain⟨⟨B',h5,_,h6⟩,h7⟩:=ha p (.inr ⟨k,rfl⟩) _ h1 rfl
    obtain⟨hd',cs',rfl⟩:=h6 hd cs rfl
    exact⟨hd',cs',v,b,o,h5,h7.trans h2,h3,ht.trans h4⟩
  |sc v=>obtain⟨v,h1,h2⟩:=h;exact⟨v,ht.trans h1,hv _ rfl h2⟩
  |agg v=>obtain⟨v,h1,h2⟩:=h;exact⟨v,ht.trans h1,hv _ rfl h2⟩
  |imm=>obtain⟨v,h1,h2⟩:=h;exact⟨v,ht.trans h1,hv _ rfl h2⟩
  |own=>obtain⟨v,h1,h2⟩:=h;exact⟨v,ht.trans h1,hv _ rfl h2⟩
  |sl=>obtain⟨v,h1,h2⟩:=h;exact⟨v,ht.trans h1,hv _ rfl h2⟩
  |ptr=>obtain⟨v,h1,h2⟩:=h;exact⟨v,ht.trans h1,hv _ rfl h2⟩
  |ia=>obtain⟨v,h1,h2⟩:=h;exact⟨v,ht.trans h1,hv _ rfl h2⟩
  |fn=>obtain⟨v,h1,h2⟩:=h;exact⟨v,ht.trans h1,hv _ rfl h2⟩
  |iface=>obtain⟨v,h1,h2⟩:=h;exact⟨v,ht.trans h1,hv _ rfl h2⟩
  |tup=>obtain⟨v,h1,h2⟩:=h;exact⟨v,ht.trans h1,hv _ rfl h2⟩
  |mp=>obtain⟨v,h1,h2⟩:=h;exact⟨v,ht.trans h1,hv _ rfl h2⟩
variable {E:Env} {N:Nat} {V:List Nat} {st:zc} {tm:Array Value}
theorem zA.at_ (R:zA E N V st tm){p:List Nat}{B:zb}(h:st.at p=some B)(hB:B.isAlias=false):∃u,zD E tm p=some u∧VRel E (some p) B u:=by
 match p,h with
 | 0 ::i::ks,h=>
   have hs:=R.slots i
   rw[zO] at h
   by_cases hA:(st.get i).isAlias=false
   · obtain⟨v,h1,h2⟩:=hs.out hA
     obtain⟨u,h3,h4⟩:=h2.sub ks h
     exact⟨u,by simp[zD,h1,h3],by simpa using h4⟩
   · cases ks with
     |nil=>cases h;rw[hB] at hA;exact absurd rfl hA
     | cons k ks=>
       generalize st.get i=A at*
       cases A<;>simp[zb.isAlias,zb.sub,zb.kids] at hA h
 | 1 ::id::k::ks,h=>
   simp only[zc.at] at h
   split at h
   · rename_i cs hcs
     obtain⟨hO,arr,T,f,hb,ha,hl,hf,hv⟩:=R.objs id cs hcs
     · simp only[zb.sub,zb.kids] at h
       cases hk:cs[k]? with
       |none=>simp[hk] at h
       | some C=>
         simp only[hk] at h
         obtain⟨u,h3,h4⟩:=(hv k C hk).sub ks h
         refine⟨u,?_,by simpa using h4⟩
         simp only[zD,Env.ptr,zW,zk hb,hf k C hk]
         exact h3
   · cases h
theorem zb.sub_cons_nonalias {A B:zb}{k:Nat}{ks:List Nat}(h:A.sub (k::ks)=some B):A.isAlias=false:=by
 cases A<;>simp[zb.sub,zb.kids,zb.isAlias] at h⊢
theorem q8 {A:zb}{p:List Nat}{b:Bool}(h:A.isAlias=false):A.under p b=false:=by
 cases A<;>simp[zb.under,zb.isAlias] at h⊢
inductive ww :List Nat→Prop
 |slot (i:Nat) (ks:List Nat):ww (0::i::ks)
 |cell (id k:Nat) (ks:List Nat):ww (1::id::k::ks)
theorem zC {p:List Nat}{B:zb}(h:st.at p=some B):ww p:=by
 match p,h with
 |0::i::ks,_=>exact .slot i ks
 |1::id::k::ks,_=>exact .cell id k ks
theorem qM {i j:Nat}{ks js:List Nat}(h:i≠j):jn (0::i::ks) (0::j::js):=by
 constructor<;>intro hp
 · rw[List.cons_prefix_cons,List.cons_prefix_cons] at hp;exact h hp.2.1
 · rw[List.cons_prefix_cons,List.cons_prefix_cons] at hp;exact h hp.2.1.symm
theorem zy {i j:Nat}{ks js:List Nat}(h:i≠j):jn (i::ks) (j::js):=by
 constructor<;>intro hp
 · rw[List.cons_prefix_cons] at hp;exact h hp.1
 · rw[List.cons_prefix_cons] at hp;exact h hp.1.symm
theorem wa {i j:Nat}{ks js:List Nat}(h:i≠j):jn (1::i::ks) (1::j::js):=by
 constructor<;>intro hp
 · rw[List.cons_prefix_cons,List.cons_prefix_cons] at hp;exact h hp.2.1
 · rw[List.cons_prefix_cons,List.cons_prefix_cons] at hp;exact h hp.2.1.symm
theorem uR {bad:zb→Bool}{q:List Nat}{C:zb}(hb:∀A:zb,A.isAlias=false→bad A=false)(h:st.at q=some C):
    ∃C',(st.kill bad).at q=some C'∧(C.isAlias=false→C'=C):=by
  match q,h with
  | 0::j::[],h=>
    rw[zO,zb.sub] at h
    cases h
    refine⟨_,by rw[zO,zc.get_kill,zb.sub],fun h=>by rw[hb _ h];rfl⟩
  | 0::j::k::js,h=>
    rw[zO] at h
    have hA:=zb.sub_cons_nonalias h
    exact⟨C,by rw[zO,zc.get_kill,hb _ hA];exact h,fun _=>rfl⟩
  |1::id::k::js,h=>exact⟨C,h,fun _=>rfl⟩
theorem pv {bad:zb→Bool}(hb:∀A:zb,A.isAlias=false→bad A=false){i:Nat}(h:ZY E st tm i (st.get i)):
    ZY E (st.kill bad) tm i ((st.kill bad).get i):=by
  rw[zc.get_kill]
  cases hbad:bad (st.get i) with
  |true=>trivial
  | false=>
    refine ZY.carry h rfl (fun v _ h=>h) fun p _ B hB hA=>?_
    obtain⟨C',h1,h2⟩:=uR (bad:=bad) hb hB
    have:=h2 hA
    subst this
    exact⟨⟨C',h1,hA,fun hd cs e=>⟨hd,cs,e⟩⟩,rfl⟩
theorem zA.kill (R:zA E N V st tm){bad:zb→Bool}(hb:∀A:zb,A.isAlias=false→bad A=false):zA E N V (st.kill bad) tm where
 size:=R.size
 keys:=by simp only[zc.kill,jI];exact R.keys
 num:=R.num
 disj:=by simp only[zc.kill,jI];exact R.disj
 lim:=R.lim
 roots i A r hA hr:=by
  rw[zc.get_kill] at hA
  cases hbad:bad (st.get i) with
  |true=>rw[hbad] at hA;subst hA;cases hr
  |false=>rw[hbad] at hA;simp only[zc.kill,jI];exact R.roots i A r hA hr
 slots i:=pv hb (R.slots i)
 objs:=R.objs
theorem WB {i j:Nat}{ks:List Nat}{B B':zb}(h:st.at (0::i::ks)=some B)(hB:B.isAlias=false):
    (st.setAt (0::i::ks) B').get j=if i=j then(st.get i).setSub ks B' else st.get j:=by
  simp only[zc.setAt]
  by_cases hij:i=j
  · subst hij
    simp only[if_true]
    refine zc.get_set st _ ?_
    rw[zO] at h
    have hA:(st.get i).isAlias=false:=by
      cases ks with
      |nil=>cases h;exact hB
      |cons k ks=>exact zb.sub_cons_nonalias h
    unfold zc.get at hA
    cases h1:zX st.ts i with
    |some A=>exact .inl ⟨A,rfl⟩
    | none=>
      cases h2:zX st.vs i with
      |some A=>exact .inr ⟨A,rfl⟩
      |none=>simp[h1,h2,jm,zb.isAlias] at hA
  · simp only[hij,if_false]
    exact zc.get_set_ne st _ hij
theorem WC {id k j:Nat}{ks:List Nat}{B':zb}:(st.setAt (1::id::k::ks) B').get j=st.get j:=by
 simp only[zc.setAt]
 split<;>rfl
theorem qO.keep {p:List Nat}{E':Env}(U:Zh p E E'){id:Nat}{cs:List zb}(hid:id<E.n)(h:qO E id cs)(hp:jn p [1,id]):qO E' id cs:=by
 obtain⟨hO,arr,T,f,hb,ha,hl,hf,hv⟩:=h
 obtain⟨h1,h2,h3⟩:=U.ids.2 id hid
 obtain⟨h4,h5⟩:=U.else_ _ _ hO hp.1
 refine⟨by rw[h1];exact h4,arr,T,f,by rw[h1];exact h5.trans hb,by rw[h2,h3];exact ha,by rw[h3];exact hl,fun k A hk=>by rw[h2];exact hf k A hk,fun k A hk=>?_⟩
 refine U.keep (hv k A hk) fun ℓ e=>?_
 cases e
 exact⟨fun hq=>by
  rcases List.prefix_or_prefix_of_prefix hq (List.prefix_append [1,id] [k]) with h|h
  · exact hp.1 h
  · exact hp.2 h,fun hq=>hp.2 ((List.prefix_append [1,id] [k]).trans hq)⟩
theorem qO.turn {E':Env}{id k:Nat}{ks:List Nat}(U:Zh (1::id::k::ks) E E'){cs:List zb}{C B B':zb}{u:Value}(hid:id<E.n)(h:qO E id cs)
    (hk:cs[k]?=some C) (hB:C.sub ks=some B) (hu:zW E.w (E.ptr id) (k::ks)=some u) (h':VRel E' (some (1::id::k::ks)) B' u):qO E' id (cs.set k (C.setSub ks B')):=by
  obtain⟨hO,arr,T,f,hb,ha,hl,hf,hv⟩:=h
  obtain⟨h1,h2,h3⟩:=U.ids.2 id hid
  have hnot:¬(1::id::k::ks)<+:[1,id]:=fun h=>by have:=h.length_le;simp at this
  obtain⟨h4,h5⟩:=U.else_ _ _ hO hnot
  simp only[Env.ptr,zW,zk hb,hf k C hk] at hu
  refine⟨by rw[h1];exact h4,arr,T,f,by rw[h1];exact h5.trans hb,by rw[h2,h3];exact ha,by rw[h3];simpa using hl,fun j A hj=>?_,fun j A hj=>?_⟩
  · rw[h2]
    rw[List.getElem?_set] at hj
    by_cases hkj:k=j
    · subst hkj;exact hf k C hk
    · exact hf j A (by simpa[hkj] using hj)
  · rw[List.getElem?_set] at hj
    by_cases hkj:k=j
    · subst hkj
      have hlt:k<cs.length:=(List.getElem?_eq_some_iff.1 hk).1
      simp[hlt] at hj
      subst hj
      exact VRel.turn ks (ℓ:=[1,id]++[k]) (by simpa using U) (hv k C hk) hB hu (by simpa using h')
    · refine U.keep (hv j A (by simpa[hkj] using hj)) fun ℓ e=>?_
      cases e
      exact(Y9 (ℓ:=[1,id]) hkj ks).symm
theorem zA.turn (R:zA E N V st tm){p:List Nat}{B B':zb}{u:Value}{E':Env}{keep:Bool}(h:st.at p=some B)(hB:B.isAlias=false)(hB':keep=true→∃hd cs,B'= .own hd cs)
    (U:Zh p E E') (hlim:∀b q,E'.O b=some q→b<E'.w.heap.size) (hn:E'.n=E.n) (hu:zD E tm p=some u) (h':VRel E' (some p) B' u):zA E' N V ((st.kill (zb.under p keep)).setAt p B') tm:=by
  have hna:∀A:zb,A.isAlias=false→A.under p keep=false:=fun A h=>q8 h
  have R1:=R.kill hna
  obtain⟨B1,h1,hB1⟩:=uR (bad:=zb.under p keep) hna h
  have:=hB1 hB
  subst this
  generalize hst:st.kill (zb.under p keep)=st1 at*
  have hlive:∀i q,(st1.get i= .at_ q∨∃k,st1.get i= .addr q k)→¬(p<+:q∧p≠q)∧(q=p→keep=true):=by
    intro i q hq
    have hb:∀A,st1.get i=A→A.isAlias=true→A≠ .dead→A.under p keep=false:=by
      intro A hA _ hd
      rw[←hst,zc.get_kill] at hA
      cases hx:(st.get i).under p keep with
      |true=>rw[hx] at hA;exact absurd hA.symm hd
      |false=>rw[hx] at hA;simp only[cond_false] at hA;rw[←hA];exact hx
    rcases hq with hq|⟨k,hq⟩
    · have:=hb _ hq rfl (by simp)
      simp only[zb.under,Bool.and_eq_false_imp,Qm] at this
      refine⟨fun⟨h1,h2⟩=>h2 (by simpa using (Bool.or_eq_false_iff.1 (this h1)).1),fun e=>?_⟩
      subst e
      simpa using (Bool.or_eq_false_iff.1 (this (List.prefix_refl _))).2
    · have:=hb _ hq rfl (by simp)
      simp only[zb.under,Bool.and_eq_false_imp,Qm] at this
      refine⟨fun⟨h1,h2⟩=>h2 (by simpa using (Bool.or_eq_false_iff.1 (this h1)).1),fun e=>?_⟩
      subst e
      simpa using (Bool.or_eq_false_iff.1 (this (List.prefix_refl _))).2
  clear hst hna hB1 h R
  match p,zC h1,h1,hlive,U,hu,h' with
  | 0 ::i::ks,_,h1,hlive,U,hu,h'=>
    have hget:=fun j=>WB (j:=j) (B':=B') h1 hB
    have hA:(st1.get i).isAlias=false:=by
      rw[zO] at h1
      cases ks with
      |nil=>cases h1;exact hB
      |cons k ks=>exact zb.sub_cons_nonalias h1
    obtain⟨va,hva,hra⟩:=(R1.slots i).out hA
    have hu':zW E.w va ks=some u:=by simpa[zD,hva] using hu
    have hsub:(st1.get i).sub ks=some B1:=h1
    have hturn:VRel E' (some [0,i]) ((st1.get i).setSub ks B') va:=VRel.turn ks (ℓ:=[0,i]) U hra hsub hu' h'
    have hh:(st1.setAt (0::i::ks) B').h=st1.h:=(zc.set_keys _ _ _).2.2
    have hnonal:((st1.get i).setSub ks B').root=none:=by
      cases ks with
      | nil=>
        have e:(st1.get i).setSub [] B'=B':=by cases st1.get i<;>rfl
        rw[e]
        cases B' with
        |at_=>cases h'
        |addr=>cases h'
        |_=>rfl
      | cons k ks=>
        generalize st1.get i=X at hsub
        cases X<;>simp[zb.sub,zb.kids] at hsub<;>rfl
    have hways:∀q C,st1.at q=some C→¬((0::i::ks)<+:q∧(0::i::ks)≠q)→(∃C',(st1.setAt (0::i::ks) B').at q=some C'∧(q=0::i::ks→C'=B')∧(q≠0::i::ks→C'=C∨(∃hd cs cs',C= .own hd cs∧C'= .own hd cs')∨(∃cs cs',C= .agg cs∧C'= .agg cs')∨∃cs cs',C= .tup cs∧C'= .tup cs'))∧zD E' tm q=zD E tm q:=by
      intro q C hC hn
      match q,hC,hn with
      | 0 ::j::js,hC,hn=>
        rw[zO] at hC
        by_cases hij:i=j
        · subst hij
          have hn':¬(ks<+:js∧ks≠js):=fun⟨x,y⟩=>hn ⟨by simpa[List.cons_prefix_cons] using x,by simpa using y⟩
          obtain⟨C',c1,c2,c3,c4⟩:=qB ks js B' hsub hC hn'
          refine⟨⟨C',by rw[zO,hget];simpa using c1,fun e=>c3 (by simpa using e),fun hne=>c4 (by simpa using hne)⟩,?_⟩
          simp only[zD,hva]
          exact VRel.way (ℓ:=[0,i]) U js (by simpa using hn) hra hC
        · refine⟨⟨C,by rw[zO,hget];simpa[hij] using hC,fun e=>absurd (by injection e with _ e;injection e with e1 _;exact e1.symm) hij,fun _=> .inl rfl⟩,?_⟩
          cases js with
          |nil=>simp[zD,zW]
          | cons k js=>
            obtain⟨vj,hvj,hrj⟩:=(R1.slots j).out (zb.sub_cons_nonalias hC)
            simp only[zD,hvj]
            exact VRel.way (ℓ:=[0,j]) U (k::js) (fun⟨hx,_⟩=>(qM hij).1 hx) hrj hC
      | 1 ::id::k::js,hC,hn=>
        refine⟨⟨C,by simp only[zc.at,hh];exact hC,fun e=>(by simp at e),fun _=> .inl rfl⟩,?_⟩
        simp only[zc.at] at hC
        split at hC
        · rename_i cs hcs
          obtain⟨hO,arr,T,f,hb,ha,hl,hf,hv⟩:=R1.objs id cs hcs
          have hid:id<E.n:=by rw[R1.num];exact(List.getElem?_eq_some_iff.1 hcs).1
          obtain⟨e1,e2,e3⟩:=U.ids.2 id hid
          obtain⟨_,hb'⟩:=U.else_ _ _ hO (zy (by decide)).1
          simp only[zb.sub,zb.kids] at hC
          cases hk:cs[k]? with
          |none=>simp[hk] at hC
          | some D=>
            simp only[hk] at hC
            simp only[zD,Env.ptr,zW,e1,e2,zk hb,zk (hb'.trans hb),hf k D hk]
            exact VRel.way (ℓ:=[1,id]++[k]) U js (fun⟨hx,_⟩=>(zy (by decide)).1 hx) (hv k D hk) hC
        · cases hC
    refine⟨R1.size,?_,by rw[hn,R1.num,hh],by rw[show(st1.setAt (0::i::ks) B').ts.map (·.1)=st1.ts.map (·.1) from(zc.set_keys _ _ _).2.1];exact R1.disj,hlim,?_,?_,?_⟩
    · exact((zc.set_keys _ _ _).1).trans R1.keys
    · intro j A r hjA hr
      rw[hget] at hjA
      have hts:(st1.setAt (0::i::ks) B').ts.map (·.1)=st1.ts.map (·.1):=(zc.set_keys _ _ _).2.1
      rw[hts]
      by_cases hij:i=j
      · subst hij
        simp only[if_true] at hjA
        subst hjA
        rw[hnonal] at hr
        cases hr
      · simp only[hij,if_false] at hjA
        exact R1.roots j A r hjA hr
    · intro j
      rw[hget]
      by_cases hij:i=j
      · subst hij
        simp only[if_true]
        exact ZY.mk hva hturn
      · simp only[hij,if_false]
        refine ZY.carry (R1.slots j) rfl (fun v _ hr=>U.keep hr fun ℓ e=>by cases e;exact qM hij) fun q hq C hC hCA=>?_
        obtain⟨hl1,hl2⟩:=hlive j q (hq.imp (fun h=>h) fun⟨k,h⟩=>⟨k,h⟩)
        obtain⟨⟨C',c1,c2,c3⟩,c4⟩:=hways q C hC hl1
        by_cases hqp:q=0::i::ks
        · obtain⟨hd',cs',e'⟩:=hB' (hl2 hqp)
          have e2:=(c2 hqp).trans e'
          exact⟨⟨C',c1,by rw[e2];rfl,fun _ _ _=>⟨hd',cs',e2⟩⟩,c4⟩
        · rcases c3 hqp with e|⟨hd,cs,cs',e,e'⟩|⟨cs,cs',e,e'⟩|⟨cs,cs',e,e'⟩
          · exact⟨⟨C',c1,by rw[e];exact hCA,fun hd cs h=>⟨hd,cs,by rw[e];exact h⟩⟩,c4⟩
          · exact⟨⟨C',c1,by rw[e'];rfl,fun _ _ _=>⟨hd,cs',e'⟩⟩,c4⟩
          · exact⟨⟨C',c1,by rw[e'];rfl,fun _ _ h=>by rw[e] at h;cases h⟩,c4⟩
          · exact⟨⟨C',c1,by rw[e'];rfl,fun _ _ h=>by rw[e] at h;cases h⟩,c4⟩
    · intro id cs hcs
      rw[hh] at hcs
      have hid:id<E.n:=by rw[R1.num];exact(List.getElem?_eq_some_iff.1 hcs).1
      exact(R1.objs id cs hcs).keep U hid (zy (by decide))
  | 1 :: id :: k :: ks,_,h1,hlive,U,hu,h'=>
    have hget:=fun j=>WC (st:=st1) (id:=id) (k:=k) (j:=j) (ks:=ks) (B':=B')
    have h1':=h1
    simp only[zc.at] at h1
    split at h1
    · rename_i cs hcs
      obtain⟨hO,arr,T,f,hb,ha,hl,hf,hv⟩:=R1.objs id cs hcs
      have hidn:id<E.n:=by rw[R1.num];exact(List.getElem?_eq_some_iff.1 hcs).1
      have hidl:id<st1.h.length:=(List.getElem?_eq_some_iff.1 hcs).1
      obtain⟨e1,e2,e3⟩:=U.ids.2 id hidn
      have hnot:¬(1::id::k::ks)<+:[1,id]:=fun h=>by have:=h.length_le;simp at this
      obtain⟨_,hb'⟩:=U.else_ _ _ hO hnot
      simp only[zb.sub,zb.kids] at h1
      cases hk:cs[k]? with
      |none=>simp[hk] at h1
      | some D=>
        simp only[hk] at h1
        have hkl:k<cs.length:=(List.getElem?_eq_some_iff.1 hk).1
        have hh:(st1.setAt (1::id::k::ks) B').h=st1.h.set id (some (cs.set k (D.setSub ks B'))):=by simp only[zc.setAt,hcs,hk]
        have hvs:(st1.setAt (1::id::k::ks) B').vs=st1.vs:=by simp only[zc.setAt,hcs]
        have hts:(st1.setAt (1::id::k::ks) B').ts=st1.ts:=by simp only[zc.setAt,hcs]
        have hways:∀q C,st1.at q=some C→¬((1::id::k::ks)<+:q∧(1::id::k::ks)≠q)→(∃C',(st1.setAt (1::id::k::ks) B').at q=some C'∧(q=1::id::k::ks→C'=B')∧(q≠1::id::k::ks→C'=C∨(∃hd cs cs',C= .own hd cs∧C'= .own hd cs')∨(∃cs cs',C= .agg cs∧C'= .agg cs')∨∃cs cs',C= .tup cs∧C'= .tup cs'))∧zD E' tm q=zD E tm q:=by
          intro q C hC hn
          match q,hC,hn with
          | 0 ::j::js,hC,hn=>
            rw[zO] at hC
            refine⟨⟨C,by rw[zO,hget];exact hC,fun e=>(by simp at e),fun _=> .inl rfl⟩,?_⟩
            cases js with
            |nil=>simp[zD,zW]
            | cons k' js=>
              obtain⟨vj,hvj,hrj⟩:=(R1.slots j).out (zb.sub_cons_nonalias hC)
              simp only[zD,hvj]
              exact VRel.way (ℓ:=[0,j]) U (k'::js) (fun⟨hx,_⟩=>(zy (by decide)).1 hx) hrj hC
          | 1 ::id'::k'::js,hC,hn=>
            simp only[zc.at] at hC
            split at hC
            · rename_i cs' hcs'
              obtain⟨hO1,arr1,T1,f1,hb1,ha1,hl1,hf1,hv1⟩:=R1.objs id' cs' hcs'
              have hid1:id'<E.n:=by rw[R1.num];exact(List.getElem?_eq_some_iff.1 hcs').1
              obtain⟨x1,x2,x3⟩:=U.ids.2 id' hid1
              have hnot1:¬(1::id::k::ks)<+:[1,id']:=fun h=>by have:=h.length_le;simp at this
              obtain⟨_,hb1'⟩:=U.else_ _ _ hO1 hnot1
              simp only[zb.sub,zb.kids] at hC
              cases hk1:cs'[k']? with
              |none=>simp[hk1] at hC
              | some D1=>
                simp only[hk1] at hC
                have hpv:zD E' tm (1::id'::k'::js)=zD E tm (1::id'::k'::js):=by
                  simp only[zD,Env.ptr,zW,x1,x2,zk hb1,zk (hb1'.trans hb1),hf1 k' D1 hk1]
                  exact VRel.way (ℓ:=[1,id']++[k']) U js (by simpa using hn) (hv1 k' D1 hk1) hC
                refine⟨?_,hpv⟩
                by_cases hid':id=id'
                · subst hid'
                  rw[hcs] at hcs'
                  cases hcs'
                  have hat:∀js,(st1.setAt (1::id::k::ks) B').at (1::id::k'::js)=(match(cs.set k (D.setSub ks B'))[k']? with|some B=>B.sub js|none=>none):=by
                    intro js
                    simp only[zc.at,hh,List.getElem?_set_self hidl,zb.sub,zb.kids]<;>(generalize (cs.set k (D.setSub ks B'))[k']?=z;cases z<;>rfl)
                  by_cases hkk:k=k'
                  · subst hkk
                    rw[hk] at hk1
                    cases hk1
                    have hn':¬(ks<+:js∧ks≠js):=fun⟨x,y⟩=>hn ⟨by simpa[List.cons_prefix_cons] using x,fun e=>y (by injection e with _ e;injection e with _ e;injection e)⟩
                    obtain⟨C',c1,c2,c3,c4⟩:=qB ks js B' h1 hC hn'
                    refine⟨C',?_,fun e=>c3 (by simpa using e),fun hne=>c4 (by simpa using hne)⟩
                    rw[hat,List.getElem?_set]
                    simpa[hkl] using c1
                  · refine⟨C,?_,fun e=>absurd (by injection e with _ e;injection e with _ e;injection e with e1 _;exact e1.symm) hkk,fun _=> .inl rfl⟩
                    rw[hat,List.getElem?_set]
                    simpa[hkk,hk1] using hC
                · refine⟨C,?_,fun e=>absurd (by injection e with _ e;injection e with e1 _;exact e1.symm) hid',fun _=> .inl rfl⟩
                  simp only[zc.at,hh,List.getElem?_set,hid',if_false,hcs',zb.sub,zb.kids,hk1]
                  exact hC
            · cases hC
        refine⟨R1.size,by rw[hvs];exact R1.keys,by rw[hn,R1.num,hh];simp,by rw[hts];exact R1.disj,hlim,?_,?_,?_⟩
        · intro j A r hjA hr
          rw[hget] at hjA
          rw[hts]
          exact R1.roots j A r hjA hr
        · intro j
          rw[hget]
          refine ZY.carry (R1.slots j) rfl (fun v _ hr=>U.keep hr fun ℓ e=>by cases e;exact zy (by decide)) fun q hq C hC hCA=>?_
          obtain⟨hl1,hl2⟩:=hlive j q (hq.imp (fun h=>h) fun⟨k,h⟩=>⟨k,h⟩)
          obtain⟨⟨C',c1,c2,c3⟩,c4⟩:=hways q C hC hl1
          by_cases hqp:q=1::id::k::ks
          · obtain⟨hd',cs',e'⟩:=hB' (hl2 hqp)
            have e2:=(c2 hqp).trans e'
            exact⟨⟨C',c1,by rw[e2];rfl,fun _ _ _=>⟨hd',cs',e2⟩⟩,c4⟩
          · rcases c3 hqp with e|⟨hd,cs,cs',e,e'⟩|⟨cs,cs',e,e'⟩|⟨cs,cs',e,e'⟩
            · exact⟨⟨C',c1,by rw[e];exact hCA,fun hd cs h=>⟨hd,cs,by rw[e];exact h⟩⟩,c4⟩
            · exact⟨⟨C',c1,by rw[e'];rfl,fun _ _ _=>⟨hd,cs',e'⟩⟩,c4⟩
            · exact⟨⟨C',c1,by rw[e'];rfl,fun _ _ h=>by rw[e] at h;cases h⟩,c4⟩
            · exact⟨⟨C',c1,by rw[e'];rfl,fun _ _ h=>by rw[e] at h;cases h⟩,c4⟩
        · intro id' cs' hcs'
          rw[hh,List.getElem?_set] at hcs'
          by_cases hid':id=id'
          · subst hid'
            simp[hidl] at hcs'
            subst hcs'
            exact qO.turn U hidn (R1.objs id cs hcs) hk h1 (by simpa[zD] using hu) h'
          · simp only[hid',if_false] at hcs'
            have hid1:id'<E.n:=by rw[R1.num];exact(List.getElem?_eq_some_iff.1 hcs').1
            exact(R1.objs id' cs' hcs').keep U hid1 (wa hid')
    · cases h1
end Go.Ga

namespace Go.Ga
open Go
variable {E:Env} {N:Nat} {V:List Nat} {st:zc} {tm:Array Value}
theorem KE {tm:Array Value}{d i:Nat}{v:Value}(h:d≠i):(tm.setIfInBounds d v)[i]?=tm[i]?:=by simp[Array.getElem?_setIfInBounds_ne h]
theorem wY {tm:Array Value}{d:Nat}{v:Value}(h:d<tm.size):(tm.setIfInBounds d v)[d]?=some v:=by simp[h]
theorem Wc {d:Nat}{v:Value}{p:List Nat}(h:∀ks,p≠0::d::ks):zD E (tm.setIfInBounds d v) p=zD E tm p:=by
 match p with
 |[]=>rfl
 |[0]=>rfl
 | 0::i::ks=>
   have:d≠i:=fun e=>h ks (by rw[e])
   simp only[zD,KE this]
 |[1]=>rfl
 |1::id::ks=>rfl
 |(n+2)::_=>simp only[zD]
theorem xy {st st':zc}{p:List Nat}(hh:st'.h=st.h)(hg:∀i ks,p=0::i::ks→st'.get i=st.get i):st'.at p=st.at p:=by
 match p with
 |[]=>rfl
 |[0]=>rfl
 |0::i::ks=>rw[zO,zO,hg i ks rfl]
 |[1]=>rfl
 |[1,_]=>rfl
 |1::id::k::ks=>simp only[zc.at,hh]
 |(n+2)::_=>simp only[zc.at]
theorem yy {A:zb}{p:List Nat}(h:A= .at_ p∨∃k,A= .addr p k){d:Nat}{ks:List Nat}(hp:p=0::d::ks):A.root=some d:=by
 subst hp
 rcases h with rfl|⟨k,rfl⟩<;>rfl
theorem zA.other (R:zA E N V st tm){d:Nat}(hd:∀i A,st.get i=A→i≠d→A.root≠some d){st':zc}(hh:st'.h=st.h)(hg:∀i,i≠d→st'.get i=st.get i){v:Value}{i:Nat}(hi:i≠d):
    ZY E st' (tm.setIfInBounds d v) i (st'.get i):=by
  rw[hg i hi]
  refine ZY.carry (R.slots i) (KE (Ne.symm hi)) (fun v _ h=>h) fun p hp B hB hA=>?_
  have hne:∀ks,p≠0::d::ks:=fun ks e=>hd i _ rfl hi (yy hp e)
  exact⟨⟨B,by rw[xy hh fun j ks e=>hg j (fun e'=>hne ks (by rw[e,e']))];exact hB,hA,fun hd cs e=>⟨hd,cs,e⟩⟩,Wc hne⟩
theorem zA.noRoot (R:zA E N V st tm){d:Nat}(hV:d∉V)(hT:d∉st.ts.map (·.1))(i:Nat)(A:zb)(h:st.get i=A):A.root≠some d:=fun e=>by
 rcases R.roots i A d h e with h|h
 · exact hV h
 · exact hT h
theorem zA.putT (R:zA E N V st tm){d:Nat}(hV:d∉V)(hT:d∉st.ts.map (·.1)){A:zb}{v:Value}(h:ZY E (st.putT d A) (tm.setIfInBounds d v) d A)
    (hr:∀r,A.root=some r→r∈V∨r∈(st.putT d A).ts.map (·.1)):zA E N V (st.putT d A) (tm.setIfInBounds d v) where
  size:=by simpa using R.size
  keys:=R.keys
  num:=R.num
  disj i hi:=by
    simp only[zc.putT,List.map_cons,List.mem_cons,not_or]
    exact⟨fun e=>hV (e▸hi),R.disj i hi⟩
  lim:=R.lim
  roots i B r hB hr':=by
    rw[zc.get_putT] at hB
    by_cases hi:i=d
    · simp only[hi,if_true] at hB
      subst hB
      exact hr r hr'
    · simp only[hi,if_false] at hB
      exact(R.roots i B r hB hr').imp (fun h=>h) fun h=>by simp only[zc.putT,List.map_cons,List.mem_cons];exact .inr h
  slots i:=by
    by_cases hi:i=d
    · subst hi
      rw[zc.get_putT]
      simpa using h
    · exact R.other (d:=d) (st':=st.putT d A) (fun i A h _=>R.noRoot hV hT i A h) rfl (fun i hi=>by rw[zc.get_putT];simp[hi]) hi
  objs:=R.objs
theorem zA.putT_val (R:zA E N V st tm){d:Nat}(hN:d<N)(hV:d∉V)(hT:d∉st.ts.map (·.1)){A:zb}{v:Value}(h:VRel E (some [0,d]) A v):zA E N V (st.putT d A) (tm.setIfInBounds d v):=by
 refine R.putT hV hT (ZY.mk (wY (by rw[R.size];exact hN)) h) fun r hr=>?_
 cases A<;>simp[zb.root] at hr<;>cases h
theorem Xu {j:Nat}(R:zA E N V st tm)(h:st.get j≠ .dead):j∈V∨j∈st.ts.map (·.1):=by
 unfold zc.get at h
 cases h1:zX st.ts j with
 |some A=>exact .inr (Z0.1 ⟨A,h1⟩)
 | none=>
   cases h2:zX st.vs j with
   |some A=>exact .inl (by rw[←R.keys];exact Z0.1 ⟨A,h2⟩)
   |none=>simp[h1,h2,jm] at h
theorem oJ {A B:zb}{ks:List Nat}(h:A.sub ks=some B)(hB:B≠ .dead):A≠ .dead:=by
 rintro rfl
 cases ks with
 |nil=>cases h;exact hB rfl
 |cons k ks=>simp[zb.sub,zb.kids] at h
theorem zA.root_at (R:zA E N V st tm){i:Nat}{ks:List Nat}{B:zb}(h:st.at (0::i::ks)=some B)(hB:B≠ .dead):i∈V∨i∈st.ts.map (·.1):=
 Xu R (oJ h hB)
theorem zA.putT_at (R:zA E N V st tm){d:Nat}(hN:d<N)(hV:d∉V)(hT:d∉st.ts.map (·.1)){p:List Nat}{B:zb}{v:Value}(h:st.at p=some B)(hA:B.isAlias=false)(hv:zD E tm p=some v):
    zA E N V (st.putT d (.at_ p)) (tm.setIfInBounds d v):=by
  have hB:B≠ .dead:=fun e=>by rw[e] at hA;cases hA
  have hne:∀ks,p≠0::d::ks:=fun ks e=>by
    subst e
    rcases R.root_at h hB with h|h
    · exact hV h
    · exact hT h
  refine R.putT hV hT ⟨B,v,?_,hA,(Wc hne).trans hv,wY (by rw[R.size];exact hN)⟩ fun r hr=>?_
  · refine(xy (st:=st) (st':=st.putT d (.at_ p)) rfl fun j ks e=>?_).trans h
    rw[zc.get_putT]
    have:j≠d:=fun e'=>hne ks (by rw[e,e'])
    simp[this]
  · match p,h,hr with
    | 0::i::ks,h,hr=>
      cases hr
      exact(R.root_at h hB).imp (fun h=>h) fun h=>by simp only[zc.putT,List.map_cons,List.mem_cons];exact .inr h
theorem zA.putT_addr (R:zA E N V st tm){d:Nat}(hN:d<N)(hV:d∉V)(hT:d∉st.ts.map (·.1)){p:List Nat}{hd:Option Nat}{cs:List zb}{v:Value}{b o k:Nat}(h:st.at p=some (.own hd cs))
    (hv:zD E tm p=some v) (hb:Ga.Value.base v=some (b,o)):zA E N V (st.putT d (.addr p k)) (tm.setIfInBounds d (.pointer (some ⟨b,o+k,none⟩))):=by
  have hne:∀ks,p≠0::d::ks:=fun ks e=>by
    subst e
    rcases R.root_at h (by simp) with h|h
    · exact hV h
    · exact hT h
  refine R.putT hV hT ⟨hd,cs,v,b,o,?_,(Wc hne).trans hv,hb,wY (by rw[R.size];exact hN)⟩ fun r hr=>?_
  · refine(xy (st:=st) (st':=st.putT d (.addr p k)) rfl fun j ks e=>?_).trans h
    rw[zc.get_putT]
    have:j≠d:=fun e'=>hne ks (by rw[e,e'])
    simp[this]
  · match p,h,hr with
    | 0::i::ks,h,hr=>
      cases hr
      exact(R.root_at h (by simp)).imp (fun h=>h) fun h=>by simp only[zc.putT,List.map_cons,List.mem_cons];exact .inr h
def zb.rootIs (d:Nat)(A:zb):Bool:=A.root==some d
theorem wA {d:Nat}{A:zb}(h:A.isAlias=false):A.rootIs d=false:=by
 cases A<;>simp[zb.isAlias] at h<;>rfl
def zc.assign (st:zc)(d:Nat)(A:zb):zc:=(st.kill (zb.rootIs d)).set d A
theorem zc.get_assign {d:Nat}(hd:d∈st.vs.map (·.1)∨d∈st.ts.map (·.1))(A:zb)(i:Nat):(st.assign d A).get i=if i=d then A else bif (st.get i).rootIs d then .dead else st.get i:=by
 unfold zc.assign
 by_cases hi:i=d
 · subst hi
   simp only[if_true]
   refine zc.get_set _ _ ?_
   rcases hd with h|h
   · refine .inr (Z0.2 ?_);simp only[zc.kill,jI];exact h
   · refine .inl (Z0.2 ?_);simp only[zc.kill,jI];exact h
 · simp only[hi,if_false]
   rw[zc.get_set_ne _ _ (Ne.symm hi),zc.get_kill]
theorem zA.assign_raw (R:zA E N V st tm){d:Nat}(hd:d∈V∨d∈st.ts.map (·.1)){A:zb}{v:Value}(h:ZY E (st.assign d A) (tm.setIfInBounds d v) d A)(hr:∀r,A.root=some r→r∈V∨r∈st.ts.map (·.1)):
    zA E N V (st.assign d A) (tm.setIfInBounds d v):=by
  have hk:d∈st.vs.map (·.1)∨d∈st.ts.map (·.1):=by rw[R.keys];exact hd
  have R1:=R.kill (bad:=zb.rootIs d) fun A h=>wA h
  have k1:=(zc.set_keys (st.kill (zb.rootIs d)) d A)
  refine⟨by simpa using R.size,k1.1.trans R1.keys,R1.num.trans (by rw[←k1.2.2];rfl),?_,R.lim,?_,?_,?_⟩
  · intro i hi;rw[show(st.assign d A).ts.map (·.1)=_ from k1.2.1];exact R1.disj i hi
  · intro i B r hB hr'
    have ht:(st.assign d A).ts.map (·.1)=st.ts.map (·.1):=k1.2.1.trans (by simp only[zc.kill,jI])
    rw[ht]
    rw[zc.get_assign hk] at hB
    by_cases hi:i=d
    · simp only[hi,if_true] at hB;subst hB;exact hr r hr'
    · simp only[hi,if_false] at hB
      cases hx:(st.get i).rootIs d with
      |true=>rw[hx] at hB;subst hB;simp[zb.root] at hr'
      |false=>rw[hx] at hB;exact R.roots i B r hB hr'
  · intro i
    by_cases hi:i=d
    · subst hi
      rw[zc.get_assign hk]
      simpa using h
    · refine R1.other (d:=d) (fun j B hB _ e=>?_) k1.2.2 (fun j hj=>by rw[zc.get_set_ne _ _ (Ne.symm hj)]) hi
      rw[zc.get_kill] at hB
      cases hx:(st.get j).rootIs d with
      |true=>rw[hx] at hB;subst hB;simp[zb.root] at e
      |false=>rw[hx] at hB;simp only[cond_false] at hB;rw[hB] at hx;simp[zb.rootIs,e] at hx
  · intro id cs hcs
    exact R.objs id cs (by rw[←hcs];exact congrArg (·[id]?) k1.2.2.symm)
theorem zA.assign (R:zA E N V st tm){d:Nat}(hN:d<N)(hd:d∈V∨d∈st.ts.map (·.1)){A:zb}{v:Value}(h:VRel E (some [0,d]) A v):zA E N V (st.assign d A) (tm.setIfInBounds d v):=by
 refine R.assign_raw hd (ZY.mk (wY (by rw[R.size];exact hN)) h) fun r hr=>?_
 cases A<;>simp[zb.root] at hr<;>cases h
theorem zA.assign_dead (R:zA E N V st tm){d:Nat}(hd:d∈V∨d∈st.ts.map (·.1)):zA E N V (st.assign d .dead) tm:=by
 by_cases hN:d<tm.size
 · have:=R.assign_raw hd (A:= .dead) (v:=tm[d]) trivial fun r hr=>by simp[zb.root] at hr
   rwa [show tm.setIfInBounds d tm[d]=tm by
    apply Array.ext_getElem?
    intro i
    by_cases h:d=i
    · subst h;simp[hN]
    · rw[KE h]] at this
 · have:=R.assign_raw hd (A:= .dead) (v:=default) trivial fun r hr=>by simp[zb.root] at hr
   rwa [show tm.setIfInBounds d default=tm by simp[Array.setIfInBounds,hN]] at this
end Go.Ga

namespace Go.Ga
open Go
variable {E:Env} {N:Nat} {V:List Nat} {st:zc} {tm:Array Value}
theorem zA.under (R:zA E N V st tm){p:List Nat}{E':Env}(U:Zh p E E')(hlim:∀b q,E'.O b=some q→b<E'.w.heap.size)(hn:E'.n=E.n)
    (hs:∀i,st.get i≠ .dead→jn p [0,i]) (ho:∀id,jn p [1,id]) (ha:∀i A r,st.get i=A→A.root=some r→jn p [0,r]):zA E' N V st tm where
  size:=R.size
  keys:=R.keys
  num:=hn.trans R.num
  disj:=R.disj
  lim:=hlim
  roots:=R.roots
  slots i :=by
    by_cases hd:st.get i= .dead
    · rw[hd];trivial
    refine ZY.carry (R.slots i) rfl (fun v _ h=>U.keep h fun ℓ e=>by cases e;exact hs i hd) fun q hq B hB hA=>⟨⟨B,hB,hA,fun hd cs e=>⟨hd,cs,e⟩⟩,?_⟩
    match q,hB,hq with
    | 0 ::j::ks,hB,hq=>
      have hap:=ha i _ j rfl (yy hq rfl)
      cases ks with
      |nil=>simp[zD,zW]
      | cons k ks=>
        obtain⟨v,hv,hr⟩:=(R.slots j).out (zb.sub_cons_nonalias (by rw[zO] at hB;exact hB))
        simp only[zD,hv]
        exact VRel.way (ℓ:=[0,j]) U (k::ks) (fun⟨hx,_⟩=>hap.under (List.prefix_append [0,j] (k::ks)) hx) hr (by rw[zO] at hB;exact hB)
    | 1 ::id::k::ks,hB,_=>
      simp only[zc.at] at hB
      split at hB
      · rename_i cs hcs
        obtain⟨hO,arr,T,f,hb,ha,hl,hf,hv⟩:=R.objs id cs hcs
        have hid:id<E.n:=by rw[R.num];exact(List.getElem?_eq_some_iff.1 hcs).1
        obtain⟨e1,e2,e3⟩:=U.ids.2 id hid
        obtain⟨_,hb'⟩:=U.else_ _ _ hO (ho id).1
        simp only[zb.sub,zb.kids] at hB
        cases hk:cs[k]? with
        |none=>simp[hk] at hB
        | some D=>
          simp only[hk] at hB
          simp only[zD,Env.ptr,zW,e1,e2,zk hb,zk (hb'.trans hb),hf k D hk]
          exact VRel.way (ℓ:=[1,id]++[k]) U ks (fun⟨hx,_⟩=>(ho id).under ((List.prefix_append [1,id] [k]).trans (List.prefix_append _ ks)) hx) (hv k D hk) hB
      · cases hB
  objs id cs hcs:=by
    have hid:id<E.n:=by rw[R.num];exact(List.getElem?_eq_some_iff.1 hcs).1
    exact(R.objs id cs hcs).keep U hid (ho id)
theorem z8 {E:Env}(p q:List Nat):Zh p E (E.relab p q) where
 size:=Nat.le_refl _
 ids:=E.ids_refl
 none_ _ hb _:=⟨jz hb,rfl⟩
 else_ _ _ hb hp:=⟨JU hb hp,rfl⟩
theorem jP {E:Env}(p:List Nat):Zh p E (E.freeze p) where
 size:=Nat.le_refl _
 ids:=E.ids_refl
 none_ _ hb _:=⟨jQ hb,rfl⟩
 else_ _ _ hb hp:=⟨J6 hb hp,rfl⟩
theorem Z1 {p q:List Nat}(h:∀b r,E.O b=some r→b<E.w.heap.size):∀b r,(E.relab p q).O b=some r→b<(E.relab p q).w.heap.size:=by
 intro b r hb
 simp only[Env.relab,relab] at hb
 cases hO:E.O b with
 |none=>rw[hO] at hb;cases hb
 |some ℓ=>exact h b ℓ hO
theorem JF {p:List Nat}(h:∀b r,E.O b=some r→b<E.w.heap.size):∀b r,(E.freeze p).O b=some r→b<(E.freeze p).w.heap.size:=by
 intro b r hb
 simp only[Env.freeze,j6] at hb
 cases hO:E.O b with
 |none=>rw[hO] at hb;cases hb
 |some ℓ=>exact h b ℓ hO
def QZ (p:List Nat):Prop:=p.head?≠some 2∧p≠ []
theorem qd {p r:List Nat}(h:QZ p)(hp:p<+:r):∀s,r≠2::s:=by
 rintro s rfl
 obtain⟨h1,h2⟩:=h
 cases p with
 |nil=>exact h2 rfl
 | cons x p=>
   rw[List.cons_prefix_cons] at hp
   exact h1 (by simp[hp.1])
theorem zI {L:List (List Nat)}{p q:List Nat}(hp:QZ p)(hq:QZ q)(hw:∀r,p<+:r→¬Wat L r):zL L E (E.relab p q) where
 size:=Nat.le_refl _
 os:=rfl
 tape:=rfl
 output:=rfl
 old _ hb _:=⟨jz hb,rfl⟩
 far _ r hb:=⟨JU hb fun h=>qd hp h r rfl,rfl⟩
 farB b r hb:=by
  simp only[Env.relab,relab] at hb
  cases hO:E.O b with
  |none=>rw[hO] at hb;cases hb
  | some ℓ=>
    rw[hO] at hb
    simp only[] at hb
    split at hb
    · have:=Option.some.inj hb
      exact absurd this (qd hq (List.prefix_append q _) r)
    · exact hb
 ids:=E.ids_refl
 keep _ r hr hb _:=⟨.inl (JU hb fun h=>hw r h hr),rfl⟩
theorem jF {L:List (List Nat)}{p:List Nat}(hp:QZ p):zL L E (E.freeze p) where
 size:=Nat.le_refl _
 os:=rfl
 tape:=rfl
 output:=rfl
 old _ hb _:=⟨jQ hb,rfl⟩
 far _ r hb:=⟨J6 hb fun h=>qd hp h r rfl,rfl⟩
 farB b r hb:=by
  simp only[Env.freeze,j6] at hb
  cases hO:E.O b with
  |none=>rw[hO] at hb;cases hb
  | some ℓ=>
    rw[hO] at hb
    simp only[] at hb
    split at hb
    · cases hb
    · exact hb
 ids:=E.ids_refl
 keep _ r _ hb _:=by
  refine⟨?_,rfl⟩
  by_cases h:p<+:r
  · exact .inr (J5 hb h)
  · exact .inl (J6 hb h)
theorem JX (i:Nat)(ks:List Nat):QZ (0::i::ks):=⟨by simp,by simp⟩
theorem Wm (ks:List Nat):QZ (1::ks):=⟨by simp,by simp⟩
theorem ZR (ks:List Nat):QZ (9::ks):=⟨by simp,by simp⟩
theorem zA.take (R:zA E N V st tm){t j:Nat}{A:zb}{v:Value}(h:st.get t=A)(hA:A.isAlias=false)(hv:tm[t]?=some v):
    zA (E.relab [0,t] [9,j]) N V (st.assign t .dead) tm∧VRel (E.relab [0,t] [9,j]) (some [9,j]) A v:=by
  subst h
  obtain⟨v',h1,h2⟩:=(R.slots t).out hA
  rw[hv] at h1
  cases h1
  have hlive:t∈V∨t∈st.ts.map (·.1):=Xu R fun e=>by rw[e] at hA;cases hA
  have hk:t∈st.vs.map (·.1)∨t∈st.ts.map (·.1):=by rw[R.keys];exact hlive
  have R1:=R.assign_dead hlive
  refine⟨R1.under (z8 _ _) (Z1 R1.lim) rfl (fun i hi=>?_) (fun id=>zy (by decide)) (fun i A r hA hr=>?_),by simpa using (h2.moved [0,t] [9,j] []).2 (by simp)⟩
  · refine qM fun e=>hi ?_
    rw[zc.get_assign hk,e];simp
  · rw[zc.get_assign hk] at hA
    by_cases hi:i=t
    · simp only[hi,if_true] at hA;subst hA;cases hr
    · simp only[hi,if_false] at hA
      cases hx:(st.get i).rootIs t with
      |true=>rw[hx] at hA;subst hA;cases hr
      | false=>
        rw[hx] at hA
        simp only[cond_false] at hA
        rw[hA] at hx
        refine qM fun e=>?_
        subst e
        simp[zb.rootIs,hr] at hx
theorem zA.flight (R:zA E N V st tm){j:Nat}{ks:List Nat}{E':Env}(U:Zh (9::j::ks) E E')(hlim:∀b q,E'.O b=some q→b<E'.w.heap.size)(hn:E'.n=E.n):zA E' N V st tm:=
 R.under U hlim hn (fun _ _=>zy (by decide)) (fun _=>zy (by decide)) (fun _ _ _ _ _=>zy (by decide))
theorem zA.land (R:zA E N V st tm){j:Nat}(q:List Nat):zA (E.relab [9,j] q) N V st tm:=R.flight (z8 [9,j] q) (Z1 R.lim) rfl
theorem VRel.land {j:Nat}{A:zb}{v:Value}(h:VRel E (some [9,j]) A v)(q:List Nat):VRel (E.relab [9,j] q) (some q) A v:=by
 simpa using (h.moved [9,j] q []).2 (by simp)
def Env.fresh (E:Env)(o:Obj)(ℓ:List Nat):Env:={E with w:=E.w.alloc o,O:=fun b=>if b=E.w.heap.size then some ℓ else E.O b}
theorem j4 {w:World}{o:Obj}{b:Nat}(h:b<w.heap.size):(w.alloc o).heap[b]?=w.heap[b]?:=by
 show(w.heap.push o)[b]?=_
 rw[Array.getElem?_push];simp[Nat.ne_of_lt h]
theorem gA {w:World}{o:Obj}:(w.alloc o).heap.size=w.heap.size+1:=by simp
theorem Jb (hl:∀b q,E.O b=some q→b<E.w.heap.size)(o:Obj)(ℓ:List Nat):Zh ℓ E (E.fresh o ℓ) where
 size:=by simp[Env.fresh]
 ids:=⟨Nat.le_refl _,fun _ _=>⟨rfl,rfl,rfl⟩⟩
 none_ b hb hs:=⟨by simp[Env.fresh,Nat.ne_of_lt hs,hb],j4 hs⟩
 else_ b q hb _:=⟨by simp[Env.fresh,Nat.ne_of_lt (hl b q hb),hb],j4 (hl b q hb)⟩
theorem QM (hl:∀b q,E.O b=some q→b<E.w.heap.size)(o:Obj)(ℓ:List Nat):∀b q,(E.fresh o ℓ).O b=some q→b<(E.fresh o ℓ).w.heap.size:=by
 intro b q hb
 simp only[Env.fresh,gA] at hb⊢
 split at hb
 · omega
 · have:=hl b q hb;omega
theorem qC (hl:∀b q,E.O b=some q→b<E.w.heap.size){L:List (List Nat)}(o:Obj){ℓ:List Nat}(hm:QZ ℓ):zL L E (E.fresh o ℓ) where
 size:=by simp[Env.fresh]
 os:=rfl
 tape:=rfl
 output:=rfl
 old:=(Jb hl o ℓ).none_
 far b r hb:=⟨by simp[Env.fresh,Nat.ne_of_lt (hl b _ hb),hb],j4 (hl b _ hb)⟩
 farB b r hb:=by
  simp only[Env.fresh] at hb
  split at hb
  · exact absurd (Option.some.inj hb) (qd hm (List.prefix_refl _) r)
  · exact hb
 ids:=⟨Nat.le_refl _,fun _ _=>⟨rfl,rfl,rfl⟩⟩
 keep b _ _ hb hs:=⟨.inl (by simp[Env.fresh,Nat.ne_of_lt hs,hb]),j4 hs⟩
theorem VRel.fresh_keep (hl:∀b q,E.O b=some q→b<E.w.heap.size)(o:Obj)(ℓ:List Nat){po:Option (List Nat)}{A:zb}{v:Value}(h:VRel E po A v):VRel (E.fresh o ℓ) po A v:=
 VRel.keep (E:=E) (E':=E.fresh o ℓ) ⟨Nat.le_refl _,fun _ _=>⟨rfl,rfl,rfl⟩⟩ (by simp[Env.fresh]) h fun b hb=>by
  have hs:b<E.w.heap.size:=by
   rcases hb with hb|⟨_,q,_,hq,_⟩
   · exact hb.2
   · exact hl b q hq
  exact⟨by simp[Env.fresh,Nat.ne_of_lt hs],j4 hs⟩
end Go.Ga

namespace Go.Ga
open Go
inductive zB where
 |t (i:Nat)
 |c (v:Value)
 |f (g:Nat)
inductive Kv where
 |mov (d:Nat) (x:zB)
 |asg (d:Nat) (x:zB) (mv:Bool)
 |pick (d:Nat) (c a b:zB)
 |bin (d:Nat) (op:BinOp) (tag:Nat) (x y:zB)
 |notb (d:Nat) (x:zB)
 |conv (d:Nat) (k:IntKind) (x:zB)
 |nilck (d:Nat) (x:zB)
 |fldA (d:Nat) (x:zB) (off:Nat)
 |fld (d:Nat) (x:zB) (off n:Nat) (ag:Bool)
 |idxA (d:Nat) (x i:zB) (sz:Nat)
 |idxP (d:Nat) (x i:zB) (n sz:Nat)
 |idxV (d:Nat) (x i:zB) (n sz:Nat) (ag:Bool)
 |idxS (d:Nat) (x i:zB)
 |ld (d:Nat) (x:zB) (n:Nat) (ag:Bool)
 |st (x v:zB) (n:Nat)
 |len (d:Nat) (x:zB)
 |lenS (d:Nat) (x:zB)
 |mm (d:Nat) (mx:Bool) (x y:zB)
 |mk (d:Nat) (l c:zB) (sz bs:Nat) (zs:List Value)
 |blds (d:Nat) (len sz:Nat) (parts:List (Nat×zB)) (zs:List Value)
 |bld (d:Nat) (parts:List (Nat×Nat×zB)) (zs:List Value)
 |app (d:Nat) (s x:zB) (sz bs:Nat)
 |slc (d:Nat) (x:zB) (lo hi:Option zB) (sz:Nat)
 |box (d:Nat) (x:zB)
 |alloc (d:Nat) (zs:List Value)
 |mkfn (d:Nat) (f:Fn) (first captured:List zB)
 |call (d:Nat) (f:zB) (args:List zB)
 |ext (d:Nat) (x:zB) (i:Nat)
mutual
def zb.copyable :zb→Bool
 | .agg cs=>zb.copyableL cs
 | .tup cs=>zb.copyableL cs
 | .own _ _=>false
 | .at_ _=>false
 | .addr _ _=>false
 | .mp _=>false
 | .dead=>false
 |_=>true
def zb.copyableL :List zb→Bool
 |[]=>true
 |A::l=>A.copyable&&zb.copyableL l
end
theorem zP :∀{l:List zb} {k:Nat} {A:zb},zb.copyableL l=true→l[k]?=some A→A.copyable=true
 |A::l,0,B,h,e=>by simp only[zb.copyableL,Bool.and_eq_true] at h;cases e;exact h.1
 |A::l,k+1,B,h,e=>by simp only[zb.copyableL,Bool.and_eq_true] at h;exact zP h.2 e
theorem VRel.copy {E:Env}{po:Option (List Nat)}{A:zb}{v:Value}(h:VRel E po A v):∀po',A.copyable=true→VRel E po' A v:=by
 induction h with
 |sc po v=>exact fun _ _=> .sc _ v
 |dead po v=>exact fun _ _=> .dead _ v
 |agg po cs vs hs h ih=>exact fun po' hc=> .agg _ cs vs hs fun k A v h1 h2=>ih k A v h1 h2 _ (zP hc h1)
 |imm po sz cs b o len cap f hO hb hl hc hf h ih=>exact fun _ _=> .imm _ sz cs b o len cap f hO hb hl hc hf h
 |immNil po sz a=>exact fun _ _=> .immNil _ sz a
 |own ℓ sz cs b o len cap arr T f hO hb hl hc hm ha hf h ih=>exact fun _ hc=>by cases hc
 |ownNil po sz=>exact fun _ hc=>by cases hc
 |box ℓ cs b arr T f hO hb ha hf h ih=>exact fun _ hc=>by cases hc
 |sl po id off len cap sz hn hc hm hκ=>exact fun _ _=> .sl _ id off len cap sz hn hc hm hκ
 |ptr po id off hn=>exact fun _ _=> .ptr _ id off hn
 |ia po cs b o f hO hb hf h ih=>exact fun _ _=> .ia _ cs b o f hO hb hf h
 |fn po g as bs us vs hu hv h1 h2 ih1 ih2=>exact fun _ _=> .fn _ g as bs us vs hu hv h1 h2
 |iface po t A v h ih=>exact fun _ _=> .iface _ t A v h
 |tup po cs vs hs h ih=>exact fun po' hc=> .tup _ cs vs hs fun k A v h1 h2=>ih k A v h1 h2 _ (zP hc h1)
 |mp ℓ ks b es c hO hb he=>exact fun _ hc=>by cases hc
def zc.ev (st:zc):zB→zb
 | .t i=>st.get i
 | .c v=> .sc v
 | .f g=> .fn (.func g) [] []
def zb.here (i:Nat):zb→zb
 | .own none _=> .addr [0,i] 0
 | .own (some _) _=> .at_ [0,i]
 |A=>A
def zc.evA (st:zc):zB→zb
 | .t i=>(st.get i).here i
 | .c v=> .sc v
 | .f g=> .fn (.func g) [] []
def uS (op:BinOp)(k:IntKind)(a b:Int):Option Value:=
 match op with
 | .add=>some (.int k (k.wrap (a+b)))
 | .sub=>some (.int k (k.wrap (a - b)))
 | .mul=>some (.int k (k.wrap (a*b)))
 | .quo=>if b=0 then none else some (.int k (k.wrap (a.tdiv b)))
 | .rem=>if b=0 then none else some (.int k (a.tmod b))
 | .eql=>some (.bool (decide (a=b)))
 | .neq=>some (.bool (decide (a≠b)))
 | .lss=>some (.bool (decide (a<b)))
 | .leq=>some (.bool (decide (a≤b)))
 | .gtr=>some (.bool (decide (b<a)))
 | .geq=>some (.bool (decide (b≤a)))
 | .shl| .shr=>none
 | .and=>some (.int k (k.wrap (BitVec.ofInt k.bits a&&&BitVec.ofInt k.bits b).toNat))
 | .or=>some (.int k (k.wrap (BitVec.ofInt k.bits a|||BitVec.ofInt k.bits b).toNat))
 | .xor=>some (.int k (k.wrap (BitVec.ofInt k.bits a^^^BitVec.ofInt k.bits b).toNat))
 | .andNot=>some (.int k (k.wrap (BitVec.ofInt k.bits a&&&~~~ BitVec.ofInt k.bits b).toNat))
def wW (op:BinOp)(k:IntKind)(a n:Int):Option Value:=
 if n<0 then none else
 match op with
 | .shl=>some (.int k (k.wrap (a*2^(min n.toNat k.bits))))
 | .shr=>some (.int k (a.fdiv (2^(min n.toNat k.bits))))
 |_=>none
def u7 (op:BinOp)(a b:Bool):Option Value:=
 match op with
 | .eql=>some (.bool (a==b))
 | .neq=>some (.bool (a !=b))
 |_=>none
def jo (op:BinOp)(a b:ByteArray):Option Value:=
 match op with
 | .eql=>some (.bool (decide (a.toList=b.toList)))
 | .neq=>some (.bool (!decide (a.toList=b.toList)))
 | .add=>if a.size+b.size≤9223372036854775807 then some (.string (a++b)) else none
 |_=>none
def je (op:BinOp)(b:Bool):Option zb:=
 match op with
 | .eql=>some (.sc (.bool b))
 | .neq=>some (.sc (.bool !b))
 |_=>none
def Qq :List zb→List zb→Option Bool
 |[],[]=>some true
 | .sc (.int k a)::as,.sc (.int k' b)::bs=>if k=k' then(Qq as bs).map fun r=>decide (a=b)&&r else none
 |_,_=>none
def gU :BinOp→Bool
 | .shl=>true
 | .shr=>true
 |_=>false
def zB.slot :zB→Option Nat
 | .t i=>some i
 |_=>none
def zc.owned (st:zc)(p:List Nat):Option (Option Nat×List zb):=
 match st.at p with
 |some (.own hd cs)=>some (hd,cs)
 |_=>none
def YG (p:List Nat)(k:Nat)(A:zb):Option zb:=
 bif A.copyable then some A else
 match A with
 | .own none _=>some (.addr (p++[k]) 0)
 | .own (some _) _=>some (.at_ (p++[k]))
 |_=>none
def xE (cs:List zb):Option zb:=bif zb.copyableL cs then some (.agg cs) else none
def cellsOf (p:List Nat)(cs:List zb)(k n:Nat)(ag:Bool):Option zb:=
 match ag with
 |true=>if k+n≤cs.length then xE ((cs.drop k).take n) else none
 | false=>match cs[k]? with
   |some A=>YG p k A
   |none=>none
def zc.isNil (st:zc)(k:Nat)(A:zb):Option Bool:=
 match k with
 | 2=>match A with
   | .sc (.pointer none)=>some true
   | .ptr _ _=>some false
   | .ia _=>some false
   | .addr _ _=>some false
   | .own none _=>some false
   |_=>none
 | 3 =>match A with
   | .sc (.slice none 0 0)=>some true
   | .imm _ (_::_)=>some false
   | .own (some _) (_::_)=>some false
   | .sl _ _ _ _=>some false
   | .at_ p=>match st.owned p with
     |some (some _,_::_)=>some false
     |_=>none
   |_=>none
 | 4=>match A with
   | .sc .nilFunc=>some true
   | .fn _ _ _=>some false
   |_=>none
 |_=>none
def zc.lenOf (st:zc):zb→Option Nat
 | .imm sz cs=>some (cs.length / sz)
 | .sl _ _ len _=>some len
 | .sc (.slice none 0 0)=>some 0
 | .at_ p=>match st.owned p with
   |some (some sz,cs)=>some (cs.length / sz)
   |_=>none
 | .own (some sz) cs=>some (cs.length / sz)
 |_=>none
def zb.int? :zb→Option Int
 | .sc (.int _ n)=>some n
 |_=>none
def zc.bnd (st:zc)(dflt:Nat):Option zB→Option Nat
 |none=>some dflt
 | some x=>match(st.ev x).int? with
   |some n=>if 0≤n then some n.toNat else none
   |none=>none
def Ku :List zb→Option (List UInt8)
 |[]=>some []
 | .sc (.int .u8 n)::r=>if 0≤n∧n<256 then(Ku r).map (UInt8.ofNat n.toNat:: ·) else none
 |_=>none
def jU (st:zc):Kv→Option zb
 | .mov _ x=>
   let A:=st.ev x
   bif A.copyable then some A else
   match A,x with
   | .own none _,.t i=>some (.addr [0,i] 0)
   | .own (some _) _,.t i=>some (.at_ [0,i])
   | .agg _,.t i=>some (.at_ [0,i])
   | .tup _,.t i=>some (.at_ [0,i])
   | .mp _,.t i=>some (.at_ [0,i])
   | .at_ p,_=>some (.at_ p)
   | .addr p k,_=>some (.addr p k)
   |_,_=>none
 | .pick _ c a b=>
   match st.ev c with
   | .sc (.bool t)=>match st.ev a,st.ev b with
     | .sc (.bool x),.sc (.bool y)=>some (.sc (.bool (bif t then x else y)))
     | A,B=>match t with
       |true=>bif A.copyable then some A else none
       |false=>bif B.copyable then some B else none
   |_=>none
 | .bin _ op tag x y=>
   match tag with
   | 0=>match st.ev x,st.ev y with
     | .sc (.int k a),.sc (.int k' b)=>bif gU op then(wW op k a b).map .sc else if k=k' then(uS op k a b).map .sc else none
     | .sc (.string a),.sc (.string b)=>(jo op a b).map .sc
     |_,_=>none
   | 1=>match st.ev x,st.ev y with
     | .sc (.bool a),.sc (.bool b)=>(u7 op a b).map .sc
     |_,_=>none
   | k=>if 6≤k then(match st.ev x,st.ev y with
     | .agg as,.agg bs=>if as.length=k - 6 then(Qq as bs).bind fun b=>je op b else none
     |_,_=>none) else match st.isNil k (st.ev x),st.isNil k (st.ev y) with
     |some true,some b=>je op b
     |some false,some true=>je op false
     |_,_=>none
 | .notb _ x=>match st.ev x with
   | .sc (.bool b)=>some (.sc (.bool !b))
   |_=>none
 | .conv _ k x=>match st.ev x with
   | .sc (.int _ n)=>some (.sc (.int k (k.wrap n)))
   |_=>none
 | .nilck _ x=>match st.evA x with
   | .ptr id off=>some (.ptr id off)
   | .ia cs=>some (.ia cs)
   | .addr p k=>some (.addr p k)
   | .fn (.func g) as bs=>some (.fn (.func g) as bs)
   |_=>none
 | .fldA _ x off=>match st.evA x with
   | .ptr id o=>some (.ptr id (o+off))
   | .ia cs=>some (.ia (cs.drop off))
   | .addr p k=>some (.addr p (k+off))
   |_=>none
 | .fld _ x off n ag=>match st.ev x with
   | .agg cs=>match ag with
     |true=>if off+n≤cs.length then xE ((cs.drop off).take n) else none
     | false=>match cs[off]? with
       |some A=>bif A.copyable then some A else none
       |none=>none
   | .at_ p=>match st.at p with
     |some (.agg cs)=>cellsOf p cs off n ag
     |_=>none
   |_=>none
 | .idxA _ x i sz=>match(st.ev i).int? with
   | some n=>match st.evA x with
     | .imm s cs=>if s=sz∧0≤n∧n.toNat*sz+sz≤cs.length then some (.ia (cs.drop (n.toNat*sz))) else none
     | .sl id off len s=>if s=sz∧0≤n∧n.toNat<len then some (.ptr id (off+n.toNat*sz)) else none
     | .at_ p=>match st.owned p with
       |some (some s,cs)=>if s=sz∧0≤n∧n.toNat*sz+sz≤cs.length then some (.addr p (n.toNat*sz)) else none
       |_=>none
     |_=>none
   |none=>none
 | .idxP _ x i n sz=>match(st.ev i).int? with
   | some j=>if 0≤j∧j.toNat<n then match st.evA x with
     | .ptr id o=>some (.ptr id (o+j.toNat*sz))
     | .ia cs=>some (.ia (cs.drop (j.toNat*sz)))
     | .addr p k=>some (.addr p (k+j.toNat*sz))
     |_=>none
     else none
   |none=>none
 | .idxV _ x i n sz ag=>match(st.ev i).int? with
   | some j=>if 0≤j∧j.toNat<n then match st.ev x with
     | .agg cs=>match ag with
       |true=>if j.toNat*sz+sz≤cs.length then xE ((cs.drop (j.toNat*sz)).take sz) else none
       | false=>match cs[j.toNat*sz]? with
         |some A=>bif A.copyable then some A else none
         |none=>none
     |_=>none
     else none
   |none=>none
 | .idxS _ x i=>match(st.ev i).int? with
   | some j=>match st.ev x with
     | .sc (.string s)=>if 0≤j∧j.toNat<s.size then some (.sc (.int .u8 (s.data.getD j.toNat 0).toNat)) else none
     |_=>none
   |none=>none
 | .ld _ x n ag=>match st.evA x with
   | .ptr id k=>match st.h[id]? with
     |some (some cs)=>cellsOf [1,id] cs k n ag
     |_=>none
   | .ia cs=>match ag with
     |true=>if n≤cs.length then some (.agg (cs.take n)) else none
     |false=>cs[0]?
   | .addr p k=>match st.owned p with
     |some (_,cs)=>cellsOf p cs k n ag
     |none=>none
   |_=>none
 | .len _ x=>(st.lenOf (st.ev x)).map fun(n:Nat)=> .sc (.int .i64 (n:Int))
 | .lenS _ x=>match st.ev x with
   | .sc (.string s)=>some (.sc (.int .i64 (s.size:Int)))
   |_=>none
 | .slc _ x lo hi sz=>match sz with
   | 0 =>match st.ev x with
     | .sc (.string s)=>match st.bnd 0 lo,st.bnd s.size hi with
       |some l,some h=>if l≤h∧h≤s.size then some (.sc (.string (s.extract l h))) else none
       |_,_=>none
     |_=>none
   | k +1=>match st.evA x with
     | .ia cs=>match st.bnd 0 lo,st.bnd 0 hi with
       |some l,some h=>if l≤h∧h*(k+1)≤cs.length then some (.imm (k+1) ((cs.drop (l*(k+1))).take ((h - l)*(k+1)))) else none
       |_,_=>none
     |_=>none
 | .box _ x=>match st.evA x with
   | .imm 1 cs=>(Ku cs).map fun l=> .sc (.string ⟨l.toArray⟩)
   | .at_ p=>match st.owned p with
     |some (some 1,cs)=>(Ku cs).map fun l=> .sc (.string ⟨l.toArray⟩)
     |_=>none
   | .sc (.slice none 0 0)=>some (.sc (.string .empty))
   |_=>none
 | .mm _ mx x y=>match st.ev x,st.ev y with
   | .sc (.int k a),.sc (.int k' b)=>if k=k' then some (.sc (.int k (if mx then max a b else min a b))) else none
   |_,_=>none
 | .ext _ x i=>match st.ev x with
   | .tup cs=>match cs[i]? with
     | some A=>bif A.copyable then some A else
       match A,x with
       | .own none _,.t j=>some (.addr [0,j,i] 0)
       | .own (some _) _,.t j=>some (.at_ [0,j,i])
       | .agg _,.t j=>some (.at_ [0,j,i])
       |_,_=>none
     |none=>none
   | .at_ p=>match st.at p with
     | some (.tup cs)=>match cs[i]? with
       | some A=>match A with
         | .agg _=>bif A.copyable then some A else some (.at_ (p++[i]))
         |A=>YG p i A
       |none=>none
     |_=>none
   |_=>none
 |_=>none
def Kv.dst :Kv→Option Nat
 | .mov d _| .pick d _ _ _| .bin d _ _ _ _| .notb d _| .conv d _ _| .nilck d _| .fldA d _ _| .fld d _ _ _ _| .idxA d _ _ _| .idxP d _ _ _ _| .idxV d _ _ _ _ _
 | .idxS d _ _| .ld d _ _ _| .len d _| .lenS d _| .mm d _ _ _| .ext d _ _| .mk d _ _ _ _ _| .blds d _ _ _ _| .bld d _ _| .app d _ _ _ _| .slc d _ _ _ _| .box d _| .alloc d _| .mkfn d _ _ _| .call d _ _=>some d
 | .asg _ _ _| .st _ _ _=>none
end Go.Ga

namespace Go.Ga
open Go
def zj :Operand→Option zB
 | .tmp t=>some (.t t)
 | .const v=>some (.c v)
 | .func g=>some (.f g)
 | .global _=>none
def Yld (P:Program)(ρ:Operand→Value)(o:Oper)(rd:List (Addr×Value))(v:Value):Prop:=
 ∀w,(∀c∈rd,w.cell? c.1=some c.2)→(execOp ρ o).run P w= .ok (.value v) w
section
variable {E:Env} {N:Nat} {V:List Nat} {st:zc} {a:Act} {P:Program} {o:Oper}
theorem gh {t:Nat}{v:Value}(h:a.tmps[t]?=some v):a.eval (.tmp t)=v:=by simp[Act.eval,h]
theorem zz (R:zA E N V st a.tmps){x:Operand}{ox:zB}(hx:zj x=some ox){A:zb}(hA:st.ev ox=A)(hn:A.isAlias=false):
    ∃v po,a.eval x=v∧VRel E po A v∧(∀i,ox= .t i→a.tmps[i]?=some v∧po=some [0,i]):=by
  subst hA
  cases x with
  | tmp t=>
    cases hx
    obtain⟨v,h1,h2⟩:=(R.slots t).out hn
    exact⟨v,_,gh h1,h2,fun i e=>by cases e;exact⟨h1,rfl⟩⟩
  |const v=>cases hx;exact⟨v,none,rfl,.sc _ v,fun i e=>by cases e⟩
  |func g=>cases hx;exact⟨_,none,rfl,.fn _ _ [] [] #[] #[] rfl rfl (fun k A v h=>by simp at h) (fun k A v h=>by simp at h),fun i e=>by cases e⟩
  |global g=>cases hx
theorem ZJ (R:zA E N V st a.tmps){x:Operand}{ox:zB}(hx:zj x=some ox){v:Value}(hA:st.ev ox= .sc v):a.eval x=v:=by
 obtain⟨u,po,h1,h2,_⟩:=zz R hx hA rfl
 cases h2
 exact h1
theorem J7 (R:zA E N V st a.tmps){x:Operand}{ox:zB}(hx:zj x=some ox){n:Int}(hA:(st.ev ox).int?=some n):∃k,a.eval x= .int k n:=by
 cases h:st.ev ox with
 | sc v=>
   rw[h] at hA
   cases v<;>simp[zb.int?] at hA
   subst hA
   exact⟨_,ZJ R hx h⟩
 |_=>rw[h] at hA;simp[zb.int?] at hA
theorem U7 (R:zA E N V st a.tmps){x:Operand}{ox:zB}(hx:zj x=some ox)(hn:(st.ev ox).isAlias=true):∃i,ox= .t i∧x= .tmp i∧ZY E st a.tmps i (st.get i):=by
 cases x with
 |tmp t=>cases hx;exact⟨t,rfl,rfl,R.slots t⟩
 |const v=>cases hx;cases hn
 |func g=>cases hx;cases hn
 |global g=>cases hx
theorem ya (R:zA E N V st a.tmps){x:Operand}{ox:zB}(hx:zj x=some ox){p:List Nat}(hA:st.ev ox= .at_ p):
    ∃B v,st.at p=some B∧B.isAlias=false∧zD E a.tmps p=some v∧a.eval x=v∧VRel E (some p) B v:=by
  obtain⟨i,rfl,rfl,h⟩:=U7 R hx (by rw[hA];rfl)
  have hA':st.get i= .at_ p:=hA
  rw[hA'] at h
  obtain⟨B,v,h1,h2,h3,h4⟩:=h
  obtain⟨u,h5,h6⟩:=R.at_ h1 h2
  rw[h3] at h5
  cases h5
  exact⟨B,v,h1,h2,h3,gh h4,h6⟩
theorem wL (R:zA E N V st a.tmps){x:Operand}{ox:zB}(hx:zj x=some ox){p:List Nat}{k:Nat}(hA:st.ev ox= .addr p k):
    ∃hd cs v b o,st.at p=some (.own hd cs)∧zD E a.tmps p=some v∧Ga.Value.base v=some (b,o)∧a.eval x= .pointer (some ⟨b,o+k,none⟩)∧VRel E (some p) (.own hd cs) v:=by
  obtain⟨i,rfl,rfl,h⟩:=U7 R hx (by rw[hA];rfl)
  have hA':st.get i= .addr p k:=hA
  rw[hA'] at h
  obtain⟨hd,cs,v,b,o,h1,h2,h3,h4⟩:=h
  obtain⟨u,h5,h6⟩:=R.at_ h1 rfl
  rw[h2] at h5
  cases h5
  exact⟨hd,cs,v,b,o,h1,h2,h3,gh h4,h6⟩
theorem U0 {A B:zb}{i:Nat}(h:A.here i=B)(hn:B.isAlias=false):A=B:=by
 unfold zb.here at h
 split at h
 · subst h;cases hn
 · subst h;cases hn
 · exact h
theorem Zi {ox:zB}{A:zb}(h:st.evA ox=A)(hn:A.isAlias=false):st.ev ox=A:=by
 cases ox with
 |t i=>exact U0 h hn
 |c v=>exact h
 |f g=>exact h
theorem xx {i:Nat}:st.at [0,i]=some (st.get i):=rfl
theorem ym {i:Nat}{v:Value}(h:a.tmps[i]?=some v):zD E a.tmps [0,i]=some v:=by
 simp only[zD,h]
 cases v<;>simp[zW]
theorem gV (R:zA E N V st a.tmps){x:Operand}{ox:zB}(hx:zj x=some ox){i:Nat}(hox:ox= .t i){p:List Nat}(hA:(st.get i).here i= .at_ p):
    ∃B v,st.at p=some B∧B.isAlias=false∧zD E a.tmps p=some v∧a.eval x=v∧VRel E (some p) B v:=by
  subst hox
  unfold zb.here at hA
  split at hA
  · cases hA
  · rename_i sz cs hg
    cases hA
    obtain⟨v,po,h1,h2,h3⟩:=zz R hx (A:= .own (some sz) cs) hg rfl
    obtain⟨h4,rfl⟩:=h3 i rfl
    exact⟨.own (some sz) cs,v,by rw[xx,hg],rfl,ym h4,h1,h2⟩
  · exact ya R hx hA
theorem YE (R:zA E N V st a.tmps){x:Operand}{ox:zB}(hx:zj x=some ox){p:List Nat}(hA:st.evA ox= .at_ p):
    ∃B v,st.at p=some B∧B.isAlias=false∧zD E a.tmps p=some v∧a.eval x=v∧VRel E (some p) B v:=by
  cases ox with
  |t i=>exact gV R hx rfl hA
  |c v=>cases hA
  |f g=>cases hA
theorem Xy (R:zA E N V st a.tmps){x:Operand}{ox:zB}(hx:zj x=some ox){i:Nat}(hox:ox= .t i){p:List Nat}{k:Nat}(hA:(st.get i).here i= .addr p k):
    ∃hd cs v b o,st.at p=some (.own hd cs)∧zD E a.tmps p=some v∧Ga.Value.base v=some (b,o)∧a.eval x= .pointer (some ⟨b,o+k,none⟩)∧VRel E (some p) (.own hd cs) v:=by
  subst hox
  unfold zb.here at hA
  split at hA
  · rename_i cs hg
    cases hA
    obtain⟨v,po,h1,h2,h3⟩:=zz R hx (A:= .own none cs) hg rfl
    obtain⟨h4,rfl⟩:=h3 i rfl
    have h2':=h2
    cases h2 with
    |box _ _ b arr T f hO hb ha hf hh=>exact⟨none,cs,_,b,0,by rw[xx,hg],ym h4,rfl,h1,h2'⟩
  · cases hA
  · exact wL R hx hA
theorem JG (R:zA E N V st a.tmps){x:Operand}{ox:zB}(hx:zj x=some ox){p:List Nat}{k:Nat}(hA:st.evA ox= .addr p k):
    ∃hd cs v b o,st.at p=some (.own hd cs)∧zD E a.tmps p=some v∧Ga.Value.base v=some (b,o)∧a.eval x= .pointer (some ⟨b,o+k,none⟩)∧VRel E (some p) (.own hd cs) v:=by
  cases ox with
  |t i=>exact Xy R hx rfl hA
  |c v=>cases hA
  |f g=>cases hA
structure zG (N:Nat)(V:List Nat)(st:zc)(d:Nat):Prop where
 lt:d<N
 v:d∉V
 t:d∉st.ts.map (·.1)
theorem qU (R:zA E N V st a.tmps){d:Nat}(F:zG N V st d){A:zb}{v:Value}{po:Option (List Nat)}(h:VRel E po A v)(hc:A.copyable=true):zA E N V (st.putT d A) (a.tmps.setIfInBounds d v):=
 R.putT_val F.lt F.v F.t (h.copy _ hc)
theorem Zz (R:zA E N V st a.tmps){d:Nat}(F:zG N V st d)(v:Value):zA E N V (st.putT d (.sc v)) (a.tmps.setIfInBounds d v):=
 R.putT_val F.lt F.v F.t (.sc _ v)
theorem zV {α:Type}{c:Bool}{x y:Option α}{r:α}(h:(bif c then x else y)=some r):(c=true∧x=some r)∨(c=false∧y=some r):=by
 cases c
 · exact .inr ⟨rfl,h⟩
 · exact .inl ⟨rfl,h⟩
theorem yv (R:zA E N V st a.tmps){d:Nat}(F:zG N V st d){p:List Nat}{k:Nat}{A B:zb}{u:Value}(h:YG p k A=some B)(hu:VRel E (some (p++[k])) A u)
    (hat:A.isAlias=false→st.at (p++[k])=some A∧zD E a.tmps (p++[k])=some u):zA E N V (st.putT d B) (a.tmps.setIfInBounds d u):=by
  unfold YG at h
  rcases zV h with⟨hc,h⟩|⟨hc,h⟩
  · cases h;exact qU R F hu hc
  · cases A with
    | own hd cs=>
      obtain⟨h1,h2⟩:=hat rfl
      cases hd with
      | none=>
        cases h
        cases hu with
        |box _ _ b arr T f hO hb ha hf hh=>exact R.putT_addr (k:=0) F.lt F.v F.t h1 h2 rfl
      | some sz=>
        cases h
        exact R.putT_at F.lt F.v F.t h1 rfl h2
    |_=>cases h
theorem pval_append {tm:Array Value}{p:List Nat}(hp:ww p)(js:List Nat):zD E tm (p++js)=(zD E tm p).bind (zW E.w · js):=by
 cases hp with
 | slot i ks=>
   simp only[List.cons_append,zD]
   cases tm[i]? with
   |none=>rfl
   |some v=>exact vsub_append E.w ks v js
 | cell id k ks=>
   simp only[List.cons_append,zD]
   exact vsub_append E.w (k::ks) _ js
theorem at_append {p:List Nat}(hp:ww p)(js:List Nat):st.at (p++js)=(st.at p).bind (·.sub js):=by
 cases hp with
 | slot i ks=>
   simp only[List.cons_append,zO]
   exact sub_append ks _ js
 | cell id k ks=>
   simp only[List.cons_append,zc.at]
   cases st.h[id]? with
   |none=>rfl
   | some x=>
     cases x with
     |none=>rfl
     |some cs=>exact sub_append (k::ks) (.own none cs) js
theorem Gn {p:List Nat}{hd:Option Nat}{cs:List zb}{k:Nat}{A:zb}{v u:Value}{b o:Nat}{arr:Array Value}{T:TypeId}(h:st.at p=some (.own hd cs))(hk:cs[k]?=some A)
    (hv:zD E a.tmps p=some v) (hb:Ga.Value.base v=some (b,o)) (hh:E.w.heap[b]?=some (.cells arr T (0,0))) (hu:arr[o+k]?=some u):st.at (p++[k])=some A∧zD E a.tmps (p++[k])=some u:=by
  have hp:=zC h
  refine⟨by rw[at_append hp,h];simp[zb.sub,zb.kids,hk],?_⟩
  rw[pval_append hp,hv]
  cases v with
  | slice x l c=>
    cases x with
    |none=>cases hb
    |some ad=>cases hb;simp[zW,zk hh,hu]
  | pointer x=>
    cases x with
    |none=>cases hb
    |some ad=>cases hb;simp[zW,zk hh,hu]
  |_=>cases hb
end
end Go.Ga

namespace Go.Ga
open Go
section
variable {Ls:List (List Nat)} {E:Env} {N:Nat} {V:List Nat} {st:zc} {a:Act} {P:Program} {o:Oper} {d:Nat}
def jB (Ls:List (List Nat))(E:Env)(N:Nat)(V:List Nat)(st:zc)(a:Act)(P:Program)(o:Oper)(d:Nat)(A:zb):Prop:=
 ∃v rd,(∀c∈rd,E.w.cell? c.1=some c.2∧((E.O c.1.block=none∧c.1.block<E.w.heap.size)∨∃r∈Ls,(r.head?=some 0∨r.head?=some 1)∧E.O c.1.block=some r∧c.1.block<E.w.heap.size))∧Yld P a.eval o rd v∧zA E N V (st.putT d A) (a.tmps.setIfInBounds d v)
theorem jB.pure {A:zb}{v:Value}(hrun:∀w,(execOp a.eval o).run P w= .ok (.value v) w)(h:zA E N V (st.putT d A) (a.tmps.setIfInBounds d v)):jB Ls E N V st a P o d A:=
 ⟨v,[],(fun c hc=>by cases hc),fun w _=>hrun w,h⟩
theorem zca (R:zA E N V st a.tmps)(F:zG N V st d){x:Operand}{ox:zB}(ho:o.op= .move x)(hx:zj x=some ox){A:zb}(h:jU st (.mov d ox)=some A):jB Ls E N V st a P o d A:=by
 have hrun:∀w,(execOp a.eval o).run P w= .ok (.value (a.eval x)) w:=fun w=>by simp[execOp,ho]
 simp only[jU] at h
 rcases zV h with⟨hc,h⟩|⟨hc,h⟩
 · cases h
   have hn:(st.ev ox).isAlias=false:=by generalize st.ev ox=A at hc;cases A<;>simp[zb.copyable,zb.isAlias] at hc⊢
   obtain⟨v,po,h1,h2,_⟩:=zz R hx rfl hn
   exact .pure hrun (by rw[h1];exact qU R F h2 hc)
 · cases hA:st.ev ox with
   | own hd cs=>
     rw[hA] at h
     cases ox with
     | t i=>
       obtain⟨v,po,h1,h2,h3⟩:=zz R hx hA rfl
       obtain⟨h4,rfl⟩:=h3 i rfl
       have hat:st.at [0,i]=some (.own hd cs):=by rw[zO];simp[zb.sub];exact hA
       have hpv:zD E a.tmps [0,i]=some v:=by simp[zD,h4,zW]
       cases hd with
       | none=>
         cases h
         cases h2 with
         |box _ _ b arr T f hO hb ha hf hh=>exact .pure hrun (by rw[h1];exact R.putT_addr (k:=0) F.lt F.v F.t hat hpv rfl)
       | some sz=>
         cases h
         exact .pure hrun (by rw[h1];exact R.putT_at F.lt F.v F.t hat rfl hpv)
     |c v=>cases hA
     |f g=>cases hA
   | agg cs=>
     rw[hA] at h
     cases ox with
     | t i=>
       cases h
       obtain⟨v,po,h1,h2,h3⟩:=zz R hx hA rfl
       obtain⟨h4,rfl⟩:=h3 i rfl
       exact .pure hrun (by rw[h1];exact R.putT_at F.lt F.v F.t (by rw[zO];simp[zb.sub];exact hA) rfl (by simp[zD,h4,zW]))
     |c v=>cases hA
     |f g=>cases hA
   | tup cs=>
     rw[hA] at h
     cases ox with
     | t i=>
       cases h
       obtain⟨v,po,h1,h2,h3⟩:=zz R hx hA rfl
       obtain⟨h4,rfl⟩:=h3 i rfl
       exact .pure hrun (by rw[h1];exact R.putT_at F.lt F.v F.t (by rw[zO];simp[zb.sub];exact hA) rfl (by simp[zD,h4,zW]))
     |c v=>cases hA
     |f g=>cases hA
   | mp ks=>
     rw[hA] at h
     cases ox with
     | t i=>
       cases h
       obtain⟨v,po,h1,h2,h3⟩:=zz R hx hA rfl
       obtain⟨h4,rfl⟩:=h3 i rfl
       exact .pure hrun (by rw[h1];exact R.putT_at F.lt F.v F.t (by rw[zO];simp[zb.sub];exact hA) rfl (by simp[zD,h4,zW]))
     |c v=>cases hA
     |f g=>cases hA
   | at_ p=>
     rw[hA] at h
     cases h
     obtain⟨B,v,h1,h2,h3,h4,_⟩:=ya R hx hA
     exact .pure hrun (by rw[h4];exact R.putT_at F.lt F.v F.t h1 h2 h3)
   | addr p k=>
     rw[hA] at h
     cases h
     obtain⟨hd,cs,v,b,o',h1,h2,h3,h4,_⟩:=wL R hx hA
     exact .pure hrun (by rw[h4];exact R.putT_addr F.lt F.v F.t h1 h2 h3)
   |_=>rw[hA] at h;cases h
theorem Ov (R:zA E N V st a.tmps)(F:zG N V st d){c x y:Operand}{oc ox oy:zB}(ho:o.op= .pick c x y)(hc:zj c=some oc)(hx:zj x=some ox)(hy:zj y=some oy)
    {A:zb} (h:jU st (.pick d oc ox oy)=some A):jB Ls E N V st a P o d A:=by
  simp only[jU] at h
  split at h
  · rename_i t ht
    have hcv:=ZJ R hc ht
    have hrun:∀w,(execOp a.eval o).run P w= .ok (.value (if t then a.eval x else a.eval y)) w:=fun w=>by
      simp[execOp,ho,hcv,asBool]
    split at h
    · rename_i u v hu hv
      cases h
      have h1:=ZJ R hx hu
      have h2:=ZJ R hy hv
      refine .pure hrun ?_
      rw[h1,h2]
      cases t<;>exact Zz R F _
    · split at h
      · rcases zV h with⟨hcp,h⟩|⟨_,h⟩
        · cases h
          have hn:(st.ev ox).isAlias=false:=by generalize st.ev ox=A at hcp;cases A<;>simp[zb.copyable,zb.isAlias] at hcp⊢
          obtain⟨v,po,h1,h2,_⟩:=zz R hx rfl hn
          exact .pure hrun (by simp only[if_true];rw[h1];exact qU R F h2 hcp)
        · cases h
      · rcases zV h with⟨hcp,h⟩|⟨_,h⟩
        · cases h
          have hn:(st.ev oy).isAlias=false:=by generalize st.ev oy=A at hcp;cases A<;>simp[zb.copyable,zb.isAlias] at hcp⊢
          obtain⟨v,po,h1,h2,_⟩:=zz R hy rfl hn
          exact .pure hrun (by simp only[Bool.false_eq_true,if_false];rw[h1];exact qU R F h2 hcp)
        · cases h
  · cases h
theorem WG (op:BinOp)(t:TypeId)(x y:Operand)(k:IntKind)(n:Int)(v:Value):eqGuard op t x y (.int k n) v=pure ():=by cases op<;>rfl
theorem KN {op:BinOp}{k:IntKind}{x y:Int}{t:TypeId}{v:Value}(h:uS op k x y=some v)(w:World):(binOp op t (.int k x) (.int k y)).run P w= .ok v w:=by
 cases op<;>simp only[uS] at h
 case quo=>
  split at h
  · cases h
  · rename_i hy;cases h;simp[binOp,Op.intDiv,hy]
 case rem=>
  split at h
  · cases h
  · rename_i hy;cases h;simp[binOp,Op.intDiv,hy]
 case shl=>cases h
 case shr=>cases h
 all_goals cases h;simp[binOp,Op.intArith,Op.intCmp,Op.intBits]<;>rfl
theorem uE {op:BinOp}{k k':IntKind}{x y:Int}{t:TypeId}{v:Value}(h:wW op k x y=some v)(w:World):(binOp op t (.int k x) (.int k' y)).run P w= .ok v w:=by
 unfold wW at h
 split at h
 · cases h
 · rename_i hy
   cases op<;>simp only[] at h<;>cases h
   · simp[binOp,Op.shift,hy]
   · simp[binOp,Op.shift,hy]
theorem uK (R:zA E N V st a.tmps)(F:zG N V st d){op:BinOp}{xt yt:TypeId}{x y:Operand}{ox oy:zB}(ho:o.op= .binOp op xt x y yt)(hx:zj x=some ox)(hy:zj y=some oy)
    {A:zb} (h:jU st (.bin d op 0 ox oy)=some A):jB Ls E N V st a P o d A:=by
  simp only[jU] at h
  split at h
  · rename_i k m k' n hm hn
    have h1:=ZJ R hx hm
    have h2:=ZJ R hy hn
    rcases zV h with⟨hs,h⟩|⟨hs,h⟩
    · obtain⟨v,hv,rfl⟩:=Option.map_eq_some_iff.1 h
      exact .pure (fun w=>by simp[execOp,ho,h1,h2,WG,uE hv w]) (Zz R F v)
    · by_cases hk:k=k'
      · subst hk
        rw[if_pos rfl] at h
        obtain⟨v,hv,rfl⟩:=Option.map_eq_some_iff.1 h
        exact .pure (fun w=>by simp[execOp,ho,h1,h2,WG,KN hv w]) (Zz R F v)
      · rw[if_neg hk] at h;cases h
  · rename_i s t hm hn
    have h1:=ZJ R hx hm
    have h2:=ZJ R hy hn
    obtain⟨v,hv,rfl⟩:=Option.map_eq_some_iff.1 h
    refine .pure (fun w=>?_) (Zz R F v)
    have hg:eqGuard op xt x y (.string s) (.string t)=pure ():=by cases op<;>rfl
    have hbeq:(s.toList==t.toList)=decide (s.toList=t.toList):=by
      rw[Bool.eq_iff_iff];simp
    cases op<;>simp only[jo] at hv<;>try (cases hv;done)
    · split at hv
      · rename_i hlt
        cases hv
        have:¬((s.size+t.size:Nat):Int)>IntKind.i64.max:=by rw[IntKind.max_i64];omega
        simp[execOp,ho,h1,h2,hg,binOp,Op.stringOp]
        omega
      · cases hv
    · cases hv;simp[execOp,ho,h1,h2,hg,binOp,Op.stringOp,hbeq]
    · cases hv;simp[execOp,ho,h1,h2,hg,binOp,Op.stringOp,hbeq]
  · cases h
theorem Ow (R:zA E N V st a.tmps)(F:zG N V st d){xt:TypeId}{x:Operand}{ox:zB}(ho:o.op= .unOp .not xt x)(hx:zj x=some ox)
    {A:zb} (h:jU st (.notb d ox)=some A):jB Ls E N V st a P o d A:=by
  simp only[jU] at h
  split at h
  · rename_i b hb
    cases h
    exact .pure (fun w=>by simp[execOp,ho,ZJ R hx hb,Op.unary]) (Zz R F _)
  · cases h
theorem OD (R:zA E N V st a.tmps)(F:zG N V st d){src dst:TypeId}{k ks:IntKind}{x:Operand}{ox:zB}(ho:o.op= .convert src dst x)(hs:P.underlying src=some (.int ks))(hd:P.underlying dst=some (.int k))(hx:zj x=some ox)
    {A:zb} (h:jU st (.conv d k ox)=some A):jB Ls E N V st a P o d A:=by
  simp only[jU] at h
  split at h
  · rename_i k' n hb
    cases h
    exact .pure (fun w=>by simp[execOp,ho,ZJ R hx hb,convert,run_underlying hs,run_underlying hd,Conv.intToInt]) (Zz R F _)
  · cases h
theorem gK (R:zA E N V st a.tmps)(F:zG N V st d){x:Operand}{ox:zB}(ho:o.op= .nilCheck x)(hx:zj x=some ox)
    {A:zb} (h:jU st (.nilck d ox)=some A):jB Ls E N V st a P o d A:=by
  simp only[jU] at h
  split at h
  · rename_i id off hb
    cases h
    obtain⟨v,po,h1,h2,_⟩:=zz R hx (Zi hb rfl) rfl
    have h2':=h2
    cases h2 with
    |ptr _ _ _ hn=>exact .pure (fun w=>by simp[execOp,ho,h1]) (qU R F h2' rfl)
  · rename_i cs hb
    cases h
    obtain⟨v,po,h1,h2,_⟩:=zz R hx (Zi hb rfl) rfl
    have h2':=h2
    cases h2 with
    |ia=>exact .pure (fun w=>by simp[execOp,ho,h1]) (qU R F h2' rfl)
  · rename_i p k hb
    cases h
    obtain⟨hd,cs,v,b,o',h1,h2,h3,h4,_⟩:=JG R hx hb
    exact .pure (fun w=>by simp[execOp,ho,h4]) (R.putT_addr F.lt F.v F.t h1 h2 h3)
  · rename_i f as bs hb
    cases h
    obtain⟨v,po,h1,h2,_⟩:=zz R hx (Zi hb rfl) rfl
    have h2':=h2
    cases h2 with
    |fn=>exact .pure (fun w=>by simp[execOp,ho,h1]) (qU R F h2' rfl)
  · cases h
theorem Qe {s:TypeId}{fs:Array Field}{i:Nat}{fl:Field}{inf:TypeInfo}(hu:P.underlying s=some (.struct fs))(hf:fs[i]?=some fl)(hi:P.info? fl.type=some inf)(hz:inf.size≠0)(b k:Nat)(w:World):
    (Instr.fieldAt s (.pointer (some ⟨b,k,none⟩)) i).run P w= .ok (.pointer (some ⟨b,k+fl.offset,none⟩)) w:=by
  simp[Instr.fieldAt,run_underlying hu,hf,Instr.sureAddr,fieldPlace,sizeOf,typeInfo,hi,hz,Addr.add_lit]
theorem ZU {l:List zb}{n k:Nat}{A:zb}(h:(l.drop n)[k]?=some A):l[n+k]?=some A:=by
 rwa [List.getElem?_drop] at h
theorem VRel.iaDrop {po:Option (List Nat)}{cs:List zb}{b k:Nat}(h:VRel E po (.ia cs) (.pointer (some ⟨b,k,none⟩)))(n:Nat):VRel E po (.ia (cs.drop n)) (.pointer (some ⟨b,k+n,none⟩)):=by
 cases h with
 | ia _ _ _ _ f hO hb hf h=>
   exact .ia _ _ b (k+n) (fun j=>f (n+j)) hO hb (fun j A hj=>by rw[Nat.add_assoc];exact hf _ A (ZU hj)) fun j A hj=>h _ A (ZU hj)
theorem OC (R:zA E N V st a.tmps)(F:zG N V st d){s:TypeId}{i:Nat}{fs:Array Field}{fl:Field}{inf:TypeInfo}{x:Operand}{ox:zB}(ho:o.op= .fieldAddr s x i)
    (hu:P.underlying s=some (.struct fs)) (hf:fs[i]?=some fl) (hi:P.info? fl.type=some inf) (hz:inf.size≠0) (hx:zj x=some ox)
    {A:zb} (h:jU st (.fldA d ox fl.offset)=some A):jB Ls E N V st a P o d A:=by
  simp only[jU] at h
  split at h
  · rename_i id off hb
    cases h
    obtain⟨v,po,h1,h2,_⟩:=zz R hx (Zi hb rfl) rfl
    cases h2 with
    | ptr _ _ _ hn=>
      refine .pure (v:= .pointer (some ⟨E.ρ id,E.β id+off+fl.offset,none⟩)) (fun w=>by simp[execOp,ho,h1,Qe hu hf hi hz]) (qU (po:=none) R F ?_ rfl)
      have:=VRel.ptr (E:=E) none id (off+fl.offset) hn
      rwa [←Nat.add_assoc] at this
  · rename_i cs hb
    cases h
    obtain⟨v,po,h1,h2,_⟩:=zz R hx (Zi hb rfl) rfl
    have h2':=h2
    cases h2 with
    |ia _ _ b k f hO hb hf' hh=>exact .pure (fun w=>by simp[execOp,ho,h1,Qe hu hf hi hz]) (qU R F (h2'.iaDrop fl.offset) rfl)
  · rename_i p k hb
    cases h
    obtain⟨hd,cs,v,b,o',h1,h2,h3,h4,_⟩:=JG R hx hb
    refine .pure (v:= .pointer (some ⟨b,o'+k+fl.offset,none⟩)) (fun w=>by simp[execOp,ho,h4,Qe hu hf hi hz]) ?_
    rw[Nat.add_assoc]
    exact R.putT_addr F.lt F.v F.t h1 h2 h3
  · cases h
theorem Yv {cs:List zb}{k n:Nat}:∀j A,((cs.drop k).take n)[j]?=some A→cs[k+j]?=some A∧j<n:=by
 intro j A hj
 rw[List.getElem?_take] at hj
 split at hj
 · rename_i hlt;exact⟨ZU hj,hlt⟩
 · cases hj
theorem VRel.any {po:Option (List Nat)}{A:zb}{v:Value}(h:VRel E po A v):po=none→∀po',VRel E po' A v:=by
 induction h with
 |sc po v=>exact fun _ _=> .sc _ v
 |dead po v=>exact fun _ _=> .dead _ v
 |agg po cs vs hs h ih=>exact fun hp po'=> .agg _ cs vs hs fun k A v h1 h2=>ih k A v h1 h2 (by rw[hp];rfl) _
 |imm po sz cs b o len cap f hO hb hl hc hf h ih=>exact fun _ _=> .imm _ sz cs b o len cap f hO hb hl hc hf h
 |immNil po sz a=>exact fun _ _=> .immNil _ sz a
 |own ℓ sz cs b o len cap arr T f hO hb hl hc hm ha hf h ih=>exact fun hp _=>by cases hp
 |ownNil po sz=>exact fun _ _=> .ownNil _ sz
 |box ℓ cs b arr T f hO hb ha hf h ih=>exact fun hp _=>by cases hp
 |sl po id off len cap sz hn hc hm hκ=>exact fun _ _=> .sl _ id off len cap sz hn hc hm hκ
 |ptr po id off hn=>exact fun _ _=> .ptr _ id off hn
 |ia po cs b o f hO hb hf h ih=>exact fun _ _=> .ia _ cs b o f hO hb hf h
 |fn po g as bs us vs hu hv h1 h2 ih1 ih2=>exact fun _ _=> .fn _ g as bs us vs hu hv h1 h2
 |iface po t A v h ih=>exact fun _ _=> .iface _ t A v h
 |tup po cs vs hs h ih=>exact fun hp po'=> .tup _ cs vs hs fun k A v h1 h2=>ih k A v h1 h2 (by rw[hp];rfl) _
 |mp ℓ ks b es c hO hb he=>exact fun hp _=>by cases hp
theorem wy {t:TypeId}{dsc:TypeDesc}(hu:P.underlying t=some dsc)(hag:(match dsc with| .struct _| .array _ _=>true|_=>false)=false){ad:Addr}{v:Value}{w:World}(hc:w.cell? ad=some v):
    (loadVar t ad).run P w= .ok v w:=by
  cases dsc<;>simp at hag<;>simp[loadVar,isAgg,run_underlying hu,hc]
theorem wz {t:TypeId}{dsc:TypeDesc}{inf:TypeInfo}(hu:P.underlying t=some dsc)(hag:(match dsc with| .struct _| .array _ _=>true|_=>false)=true)(hi:P.info? t=some inf){b k:Nat}(f:Nat→Value){w:World}
    (hc:∀j,j<inf.size→w.cell? ⟨b,k+j,none⟩=some (f j)):(loadVar t ⟨b,k,none⟩).run P w= .ok (.agg ((List.range inf.size).map f).toArray) w:=by
  have hl:=run_loadCells (P:=P) (w:=w) ⟨b,k,none⟩ inf.size f (fun j hj=>by rw[Addr.add_lit];exact hc j hj)
  cases dsc<;>simp at hag<;>simp[loadVar,isAgg,run_underlying hu,sizeOf,typeInfo,hi,hl]
def ZC :TypeDesc→Bool
 | .struct _=>true
 | .array _ _=>true
 |_=>false
theorem xD {cs:List zb}{A:zb}(h:xE cs=some A):zb.copyableL cs=true∧A= .agg cs:=by
 unfold xE at h
 rcases zV h with⟨h1,h2⟩|⟨_,h2⟩
 · cases h2;exact⟨h1,rfl⟩
 · cases h2
theorem JY {t:TypeId}{dsc:TypeDesc}{inf:TypeInfo}(hu:P.underlying t=some dsc)(hi:P.info? t=some inf){b k:Nat}(f:Nat→Value){w:World}
    (hc:∀j,j<(if ZC dsc then inf.size else 1)→w.cell? ⟨b,k+j,none⟩=some (f j)):
    (loadVar t ⟨b,k,none⟩).run P w= .ok (if ZC dsc then .agg ((List.range inf.size).map f).toArray else f 0) w:=by
  cases h:ZC dsc with
  | true=>
    rw[h] at hc
    exact wz hu (by cases dsc<;>simp[ZC] at h⊢) hi f (by simpa using hc)
  | false=>
    rw[h] at hc
    exact wy hu (by cases dsc<;>simp[ZC] at h⊢) (by simpa using hc 0 (by simp))
def Jh (b k n:Nat)(f:Nat→Value):List (Addr×Value):=(List.range n).map fun j=>(⟨b,k+j,none⟩,f j)
theorem jk {b k n:Nat}{f:Nat→Value}{w:World}(h:∀c∈Jh b k n f,w.cell? c.1=some c.2):∀j,j<n→w.cell? ⟨b,k+j,none⟩=some (f j):=by
 intro j hj
 exact h (⟨b,k+j,none⟩,f j) (List.mem_map.2 ⟨j,List.mem_range.2 hj,rfl⟩)
theorem jl {b k n:Nat}{f:Nat→Value}{w:World}(h:∀j,j<n→w.cell? ⟨b,k+j,none⟩=some (f j)){Q:Nat→Prop}(hq:Q b):∀c∈Jh b k n f,w.cell? c.1=some c.2∧Q c.1.block:=by
 intro c hc
 obtain⟨j,hj,rfl⟩:=List.mem_map.1 hc
 exact⟨h j (List.mem_range.1 hj),hq⟩
def JC (st:zc):Kv→List (List Nat)
 | .ld _ x _ _=>match st.evA x with
   | .ptr id _=>[[1,id]]
   | .addr p _=>[p]
   |_=>[]
 | .box _ x=>match st.evA x with
   | .at_ p=>[p]
   |_=>[]
 |_=>[]
theorem Zn {n:Nat}{f:Nat→Value}{j:Nat}{v:Value}(h:((List.range n).map f).toArray[j]?=some v):j<n∧v=f j:=by
 simp only[List.getElem?_toArray,List.getElem?_map] at h
 cases hr:(List.range n)[j]? with
 |none=>rw[hr] at h;cases h
 | some x=>
   rw[hr] at h
   obtain⟨h1,h2⟩:=List.getElem?_eq_some_iff.1 hr
   simp at h1 h2 h
   subst h2
   exact⟨h1,h.symm⟩
theorem Qs (R:zA E N V st a.tmps)(F:zG N V st d){t:TypeId}{dsc:TypeDesc}{inf:TypeInfo}(hu:P.underlying t=some dsc)(hi:P.info? t=some inf){p:List Nat}{cs:List zb}{k n:Nat}{ag:Bool}
    (hag:ag=ZC dsc) (hn:ag=true→n=inf.size) {b o':Nat} {arr:Array Value} {T:TypeId} (f:Nat→Value) (hh:E.w.heap[b]?=some (.cells arr T (0,0))) (hLs:∃r∈Ls,(r.head?=some 0∨r.head?=some 1)∧E.O b=some r)
    (hf:∀k A,cs[k]?=some A→arr[o'+k]?=some (f k)) (hv:∀(k:Nat) A,cs[k]?=some A→VRel E (some (p++[k])) A (f k))
    (hat:∀(k:Nat) A,cs[k]?=some A→A.isAlias=false→st.at (p++[k])=some A∧zD E a.tmps (p++[k])=some (f k))
    {x:Operand} (ho:o.op= .load t x) (hx:a.eval x= .pointer (some ⟨b,o'+k,none⟩)) {A:zb} (h:cellsOf p cs k n ag=some A):jB Ls E N V st a P o d A:=by
  subst hag
  have hQ:(E.O b=none∧b<E.w.heap.size)∨∃r∈Ls,(r.head?=some 0∨r.head?=some 1)∧E.O b=some r∧b<E.w.heap.size:= .inr (by obtain⟨r,h1,h2,h3⟩:=hLs;exact⟨r,h1,h2,h3,ZA hh⟩)
  unfold cellsOf at h
  cases hd:ZC dsc with
  | true=>
    rw[hd] at h hn
    simp only[] at h
    split at h
    · rename_i hle
      obtain⟨hcp,rfl⟩:=xD h
      have hn':=hn rfl
      have hget:∀j,j<n→∃A,cs[k+j]?=some A:=fun j hj=>⟨_,List.getElem?_eq_getElem (by omega)⟩
      have hcell:∀j,j<n→E.w.cell? ⟨b,(o'+k)+j,none⟩=some (f (k+j)):=fun j hj=>by
        obtain⟨A,hA⟩:=hget j hj
        rw[zk hh,Nat.add_assoc];exact hf _ A hA
      refine⟨.agg ((List.range inf.size).map fun j=>f (k+j)).toArray,Jh b (o'+k) n (fun j=>f (k+j)),jl hcell (Q:=fun b=>(E.O b=none∧b<E.w.heap.size)∨∃r∈Ls,(r.head?=some 0∨r.head?=some 1)∧E.O b=some r∧b<E.w.heap.size) hQ,fun w hw=>?_,?_⟩
      · have:=JY hu hi (fun j=>f (k+j)) (w:=w) (b:=b) (k:=o'+k) (by rw[hd];simp only[if_true];rw[←hn'];exact jk hw)
        rw[hd] at this
        simp only[if_true] at this
        simp[execOp,ho,hx,Instr.loadAt,Instr.sureAddr,this]
      · refine qU (po:=none) R F (.agg _ _ _ (by simp[←hn'];omega) fun j A v hA hv'=>?_) hcp
        obtain⟨h1,rfl⟩:=Zn hv'
        obtain⟨h2,_⟩:=Yv j A hA
        exact(hv _ A h2).copy _ (zP hcp hA)
    · cases h
  | false=>
    rw[hd] at h
    simp only[] at h
    cases hk:cs[k]? with
    |none=>rw[hk] at h;cases h
    | some B=>
      rw[hk] at h
      have hcell:∀j,j<1→E.w.cell? ⟨b,(o'+k)+j,none⟩=some (f (k+j)):=fun j hj=>by
        have:j=0:=by omega
        subst this
        rw[zk hh];exact hf _ B hk
      refine⟨f k,Jh b (o'+k) 1 (fun j=>f (k+j)),jl hcell (Q:=fun b=>(E.O b=none∧b<E.w.heap.size)∨∃r∈Ls,(r.head?=some 0∨r.head?=some 1)∧E.O b=some r∧b<E.w.heap.size) hQ,fun w hw=>?_,yv R F h (hv k B hk) (hat k B hk)⟩
      have:=JY hu hi (fun j=>f (k+j)) (w:=w) (b:=b) (k:=o'+k) (by rw[hd];simpa using jk hw 0 (by omega))
      rw[hd] at this
      simp at this
      simp[execOp,ho,hx,Instr.loadAt,Instr.sureAddr,this]
theorem yn {p:List Nat}(h:ww p):p.head?=some 0∨p.head?=some 1:=by
 cases h
 · exact .inl rfl
 · exact .inr rfl
theorem zdA (R:zA E N V st a.tmps)(F:zG N V st d){t:TypeId}{dsc:TypeDesc}{inf:TypeInfo}(hu:P.underlying t=some dsc)(hi:P.info? t=some inf){x:Operand}{ox:zB}(ho:o.op= .load t x)(hx:zj x=some ox)
    {A:zb} (h:jU st (.ld d ox inf.size (ZC dsc))=some A):jB (JC st (.ld d ox inf.size (ZC dsc))) E N V st a P o d A:=by
  simp only[jU] at h
  split at h
  · rename_i id k hb
    have hev:=hb
    obtain⟨v,po,h1,h2,_⟩:=zz R hx (Zi hb rfl) rfl
    cases h2 with
    | ptr _ _ _ hn=>
      split at h
      · rename_i cs hcs
        obtain⟨hO,arr,T,f,hb,ha,hl,hf,hv⟩:=R.objs id cs hcs
        refine Qs R F hu hi rfl (fun _=>rfl) f hb (hLs:=⟨[1,id],by simp[JC,hev],.inr rfl,hO⟩) hf (p:=[1,id]) hv (fun k A hk hA=>?_) ho h1 h
        refine⟨by simp[zc.at,hcs,zb.sub,zb.kids,hk],?_⟩
        simp[zD,Env.ptr,zW,zk hb,hf k A hk]
      · cases h
  · rename_i cs hb
    obtain⟨v,po,h1,h2,_⟩:=zz R hx (Zi hb rfl) rfl
    cases h2 with
    | ia _ _ b k f hO hb hf hh=>
      cases hd:ZC dsc with
      | true=>
        rw[hd] at h
        simp only[] at h
        split at h
        · rename_i hle
          cases h
          have hcell:∀j,j<inf.size→E.w.cell? ⟨b,k+j,none⟩=some (f j):=fun j hj=>hf j _ (List.getElem?_eq_getElem (by omega))
          refine⟨.agg ((List.range inf.size).map f).toArray,Jh b k inf.size f,jl hcell (Q:=fun b=>(E.O b=none∧b<E.w.heap.size)∨∃r∈JC st (.ld d ox inf.size (ZC dsc)),(r.head?=some 0∨r.head?=some 1)∧E.O b=some r∧b<E.w.heap.size) (.inl ⟨hO,hb⟩),fun w hw=>?_,?_⟩
          · have:=JY hu hi f (w:=w) (b:=b) (k:=k) (by rw[hd];simpa using jk hw)
            rw[hd] at this
            simp only[if_true] at this
            simp[execOp,ho,h1,Instr.loadAt,Instr.sureAddr,this]
          · refine R.putT_val F.lt F.v F.t (.agg _ _ _ (by simp;omega) fun j A v hA hv'=>?_)
            obtain⟨h1,rfl⟩:=Zn hv'
            rw[List.getElem?_take_of_lt h1] at hA
            exact(hh j A hA).any rfl _
        · cases h
      | false=>
        rw[hd] at h
        simp only[] at h
        have hcell:∀j,j<1→E.w.cell? ⟨b,k+j,none⟩=some (f j):=fun j hj=>by
          have:j=0:=by omega
          subst this
          exact hf 0 A h
        refine⟨f 0,Jh b k 1 f,jl hcell (Q:=fun b=>(E.O b=none∧b<E.w.heap.size)∨∃r∈JC st (.ld d ox inf.size (ZC dsc)),(r.head?=some 0∨r.head?=some 1)∧E.O b=some r∧b<E.w.heap.size) (.inl ⟨hO,hb⟩),fun w hw=>?_,R.putT_val F.lt F.v F.t ((hh 0 A h).any rfl _)⟩
        have:=JY hu hi f (w:=w) (b:=b) (k:=k) (by rw[hd];simpa using jk hw 0 (by omega))
        rw[hd] at this
        simp at this
        simp[execOp,ho,h1,Instr.loadAt,Instr.sureAddr,this]
  · rename_i p k hb
    have hev:=hb
    obtain⟨hd,cs,v,b,o',h1,h2,h3,h4,h5⟩:=JG R hx hb
    split at h
    · rename_i hd' cs' hown
      unfold zc.owned at hown
      rw[h1] at hown
      simp at hown
      obtain⟨rfl,rfl⟩:=hown
      cases h5 with
      | own _ sz _ b' o'' len cap arr T f hO hb' hl hc hm ha hf hh=>
        cases h3
        exact Qs R F hu hi rfl (fun _=>rfl) f hb' (hLs:=⟨p,by simp[JC,hev],yn (zC h1),hO⟩) hf hh (fun k A hk hA=>Gn h1 hk h2 rfl hb' (hf k A hk)) ho h4 h
      |ownNil=>cases h3
      | box _ _ b' arr T f hO hb' ha hf hh=>
        cases h3
        exact Qs R F hu hi rfl (fun _=>rfl) f hb' (hLs:=⟨p,by simp[JC,hev],yn (zC h1),hO⟩) (o':=0) (fun k A hk=>by rw[Nat.zero_add];exact hf k A hk) hh (fun k A hk hA=>Gn h1 hk h2 rfl hb' (by rw[Nat.zero_add];exact hf k A hk)) ho h4 h
    · cases h
  · cases h
end
end Go.Ga
