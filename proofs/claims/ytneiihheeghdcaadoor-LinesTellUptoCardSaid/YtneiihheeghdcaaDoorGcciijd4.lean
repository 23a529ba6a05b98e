/- Values, objects, and code by what it leads to: a library of this claim's own. No condition. -/
import Derived.Test.YtneiihheeghdcaaDoorGcciijd3
set_option linter.all false

namespace Go.Ga
open Go
def Wg (xs:List Operand)(mv:Bool):Option (List (zB×Bool)):=(xs.mapM zj).map fun l=>l.map fun o=>(o,mv)
def Yw :Option Operand→Option (Option zB)
 |none=>some none
 |some x=>(zj x).map some
def xv (P:Program)(t:TypeId)(d:TypeDesc):Option Nat:=
 match d with
 | .int _=>some 0
 | .string=>some 0
 | .bool=>some 1
 | .pointer _=>some 2
 | .slice _=>some 3
 | .func _ _ _=>some 4
 | .struct fs=>if wS P t fs=true then some (6+fs.toList.length) else none
 |_=>none
def zbM (P:Program)(t:TypeId):Bool:=
 match P.underlying t with
 |some (.array _ e)=>(P.info? e).isSome
 |some (.struct fields)=>(fields.toList.mapM (fun f=>(P.info? f.type).map fun i=>(f.offset,i.size))).isSome
 |_=>false
def qE (P:Program)(t:TypeId):List (Nat×Operand)→Option (List ((Nat×Nat)×zB×Bool))
 |[]=>some []
 |(i,x)::l=>(jx P t i).bind fun pl=>(zj x).bind fun ox=>(qE P t l).map fun r=>(pl,ox,true)::r
def qD (sz:Nat):List (Nat×Operand)→Option (List ((Nat×Nat)×zB×Bool))
 |[]=>some []
 |(i,x)::l=>(zj x).bind fun ox=>(qD sz l).map fun r=>((i*sz,sz),ox,true)::r
def zB.same :zB→zB→Bool
 | .t i,.t j=>i==j
 | .c (.int _ a),.c (.int _ b)=>a==b
 |_,_=>false
inductive Z2 where
 |r (o:Kv)
 |asg (d:Nat) (x:zB) (mv:Bool)
 |mk (d:Nat) (l c:zB) (sz bs:Nat) (zs:List Value)
 |mko (d:Nat) (l c:zB) (sz bs:Nat) (zs:List Value)
 |capq (d:Nat) (x:zB)
 |appz (d:Nat) (s x:zB) (sz bs:Nat) (zs:List Value)
 |cpy (d:Nat) (s x:zB) (sz:Nat)
 |s2b (d:Nat) (x:zB)
 |bad (d:Option Nat)
 |mkmp (d:Nat)
 |mget (d:Nat) (x k:zB)
 |mput (x k v:zB)
 |blds (d len sz:Nat) (parts:List ((Nat×Nat)×zB×Bool)) (zs:List Value)
 |bld (d:Nat) (parts:List ((Nat×Nat)×zB×Bool)) (zs:List Value)
 |app (d:Nat) (s x:zB) (sz bs:Nat)
 |slc (d:Nat) (x:zB) (lo hi:Option zB) (sz:Nat)
 |box (d:Nat) (x:zB)
 |alloc (d:Nat) (zs:List Value)
 |mkfn (d:Nat) (f:Fn) (first captured:List (zB×Bool))
 |st (x v:zB) (n:Nat)
 |call (d:Nat) (f:zB) (args:List (zB×Bool))
def Z2.dst :Z2→Option Nat
 | .r o=>o.dst
 | .asg d _ _| .mk d _ _ _ _ _| .mko d _ _ _ _ _| .capq d _| .mkmp d| .mget d _ _| .appz d _ _ _ _ _| .cpy d _ _ _| .s2b d _| .blds d _ _ _ _| .bld d _ _| .app d _ _ _ _| .slc d _ _ _ _| .box d _| .alloc d _| .mkfn d _ _ _| .call d _ _=>some d
 | .st _ _ _=>none
 | .mput _ _ _=>none
 | .bad d=>d
def Qc (P:Program)(rs:List Nat×List Nat)(o:Oper):Option Z2:=
 match o.op,o.dst with
 | .move x,some d=>(zj x).map fun ox=>if rs.2.contains d=true then .asg d ox true else .r (.mov d ox)
 | .assign x,some d=>(zj x).map fun ox=> .asg d ox true
 | .pick c x y,some d=>(zj c).bind fun oc=>(zj x).bind fun ox=>(zj y).map fun oy=> .r (.pick d oc ox oy)
 | .binOp op t x y _,some d=>(P.underlying t).bind fun dsc=>(xv P t dsc).bind fun tag=>(zj x).bind fun ox=>(zj y).map fun oy=> .r (.bin d op tag ox oy)
 | .unOp .not _ x,some d=>(zj x).map fun ox=> .r (.notb d ox)
 | .convert s t x,some d=>match P.underlying s,P.underlying t with
   |some (.int _),some (.int k)=>(zj x).map fun ox=> .r (.conv d k ox)
   | some .string,some (.slice e)=>match P.underlying e with
     |some (.int .u8)=>(zj x).map fun ox=> .s2b d ox
     |_=>none
   | some (.slice e),some .string=>match P.underlying e with
     |some (.int .u8)=>(zj x).map fun ox=> .r (.box d ox)
     |_=>none
   |_,_=>none
 | .nilCheck x,some d=>(zj x).map fun ox=> .r (.nilck d ox)
 | .fieldAddr s x i,some d=>match P.underlying s with
   |some (.struct fs)=>(fs[i]?).bind fun fl=>(P.info? fl.type).bind fun inf=>if inf.size=0 then none else(zj x).map fun ox=> .r (.fldA d ox fl.offset)
   |_=>none
 | .field s x i,some d=>match P.underlying s with
   |some (.struct fs)=>(fs[i]?).bind fun fl=>(P.underlying fl.type).bind fun dsc=>(P.info? fl.type).bind fun inf=>(zj x).map fun ox=> .r (.fld d ox fl.offset inf.size (ZC dsc))
   |_=>none
 | .indexAddr t x i,some d=>match P.underlying t with
   |some (.slice e)=>(P.info? e).bind fun inf=>if inf.size=0 then none else(zj x).bind fun ox=>(zj i).map fun oi=> .r (.idxA d ox oi inf.size)
   |some (.array n e)=>(P.info? e).bind fun inf=>(zj x).bind fun ox=>(zj i).map fun oi=> .r (.idxP d ox oi n inf.size)
   |_=>none
 | .index t x i,some d=>match P.underlying t with
   |some .string=>(zj x).bind fun ox=>(zj i).map fun oi=> .r (.idxS d ox oi)
   |some (.array n e)=>(P.underlying e).bind fun dsc=>(P.info? e).bind fun inf=>(zj x).bind fun ox=>(zj i).map fun oi=> .r (.idxV d ox oi n inf.size (ZC dsc))
   |_=>none
 | .load t x,some d=>(P.underlying t).bind fun dsc=>(P.info? t).bind fun inf=>(zj x).map fun ox=> .r (.ld d ox inf.size (ZC dsc))
 | .store t x v,none=>(P.info? t).bind fun inf=>(zj x).bind fun ox=>(zj v).map fun ov=> .st ox ov inf.size
 | .extract x i,some d=>(zj x).map fun ox=> .r (.ext d ox i)
 | .makeSlice t l c,some d=>match P.underlying t with
   |some (.slice e)=>(P.info? e).bind fun inf=>inf.zero.bind fun z=>if z.cells.size=inf.size∧0<inf.size then(zj l).bind fun ol=>(zj c).map fun oc=>bif ol.same oc then .mk d ol oc inf.size inf.bytes z.cells.toList else .mko d ol oc inf.size inf.bytes z.cells.toList else none
   |_=>none
 | .buildSlice t len parts,some d=>match P.underlying t with
   |some (.slice e)=>(P.info? e).bind fun inf=>inf.zero.bind fun z=>if z.cells.size=inf.size∧0<inf.size then(qD inf.size parts.toList).map fun ps=> .blds d len inf.size ps z.cells.toList else none
   |_=>none
 | .build t parts,some d=>(P.info? t).bind fun inf=>inf.zero.bind fun z=>if zbM P t=true then(qE P t parts.toList).map fun ps=> .bld d ps z.cells.toList else none
 | .box _ x,some d=>(zj x).map fun ox=> .box d ox
 | .alloc t,some d=>(P.info? t).bind fun inf=>inf.zero.map fun z=> .alloc d z.cells.toList
 | .makeFunc f first captured,some d=>(Wg first.toList false).bind fun o1=>(Wg captured.toList false).map fun o2=> .mkfn d f o1 o2
 | .slice t x lo hi none,some d=>match P.underlying t with
   |some (.slice e)=>(P.info? e).bind fun inf=>if inf.size=0 then none else(zj x).bind fun ox=>(Yw lo).bind fun olo=>(Yw hi).map fun ohi=> .slc d ox olo ohi inf.size
   |some .string=>(zj x).bind fun ox=>(Yw lo).bind fun olo=>(Yw hi).map fun ohi=> .r (.slc d ox olo ohi 0)
   | some (.array n e)=>match hi with
     |none=>(P.info? e).bind fun inf=>if inf.size=0 then none else(zj x).bind fun ox=>(Yw lo).map fun olo=> .r (.slc d ox olo (some (.c (.int .i64 (n:Int)))) inf.size)
     |some _=>none
   |_=>none
 | .call c,some d=>match c.callee with
   | .value f=>(zj f).bind fun of=>(Wg c.args.toList false).map fun as=> .call d of as
   | .builtin .len=>match c.args.toList,c.argTypes.toList with
     | [x],[t]=>match P.underlying t with
       |some (.slice _)=>(zj x).map fun ox=> .r (.len d ox)
       |some .string=>(zj x).map fun ox=> .r (.lenS d ox)
       |_=>none
     |_,_=>none
   | .builtin .cap=>match c.args.toList,c.argTypes.toList with
     | [x],[t]=>match P.underlying t with
       |some (.slice _)=>(zj x).map fun ox=> .capq d ox
       |_=>none
     |_,_=>none
   | .builtin .max=>match c.args.toList with
     |[x,y]=>(zj x).bind fun ox=>(zj y).map fun oy=> .r (.mm d true ox oy)
     |_=>none
   | .builtin .min=>match c.args.toList with
     |[x,y]=>(zj x).bind fun ox=>(zj y).map fun oy=> .r (.mm d false ox oy)
     |_=>none
   | .builtin .append=>match c.args.toList,c.argTypes.toList with
     | [s,x],[t,t']=>if t=t' then match P.underlying t with
       |some (.slice e)=>(P.info? e).bind fun inf=>inf.zero.bind fun z=>if z.cells.size=inf.size∧0<inf.size∧0<inf.bytes then(zj s).bind fun os=>(zj x).map fun ox=> .app d os ox inf.size inf.bytes else none
       |_=>none
       else match P.underlying t,P.underlying t' with
        |some (.slice e),some (.int _)=>(P.info? e).bind fun inf=>inf.zero.bind fun z=>if z.cells.size=inf.size∧0<inf.size then(zj s).bind fun os=>(zj x).map fun ox=> .appz d os ox inf.size inf.bytes z.cells.toList else none
        |_,_=>none
     |_,_=>none
   | .builtin .copy=>match c.args.toList,c.argTypes.toList with
     | [s,x],[t,_]=>match P.underlying t with
       |some (.slice e)=>(P.info? e).bind fun inf=>if 0<inf.size then(zj s).bind fun os=>(zj x).map fun ox=> .cpy d os ox inf.size else none
       |_=>none
     |_,_=>none
   |_=>none
 | .makeMap _ none,some d=>some (.mkmp d)
 | .lookup t x k false,some d=>match P.underlying t with
   | some (.map kt et)=>match P.underlying kt with
     | some (.int _)=>(P.info? et).bind fun inf=>match inf.zero with
       |some (.bool false)=>(zj x).bind fun ox=>(zj k).map fun ok=> .mget d ox ok
       |_=>none
     |_=>none
   |_=>none
 | .mapUpdate t x k v,none=>match P.underlying t with
   | some (.map kt _)=>match P.underlying kt with
     |some (.int _)=>(zj x).bind fun ox=>(zj k).bind fun ok=>(zj v).map fun ov=> .mput ox ok ov
     |_=>none
   |_=>none
 | .insert t x k v,none=>match P.underlying t with
   | some (.map kt _)=>match P.underlying kt with
     |some (.int _)=>(zj x).bind fun ox=>(zj k).bind fun ok=>(zj v).map fun ov=> .mput ox ok ov
     |_=>none
   |_=>none
 |_,_=>none
def ZQ :Option zc→(zc→Prop)→Prop
 |some s,K=>K s
 |none,_=>False
def jw (P:Program)(rs:List Nat×List Nat)(o:Oper):Option Z2:=match Qc P rs o with
 |some b=>some b
 |none=>some (.bad o.dst)
def zc.blank (st:zc):zb→Bool
 | .imm _ []=>true
 | .own (some _) []=>true
 | .at_ p=>match st.owned p with
   |some (some _,[])=>true
   |_=>false
 |_=>false
def Yy (K:zc→Prop)(st:zc):Kv→Prop
 | .bin d op tag x y=>tag=3∧st.blank (st.ev x)=true∧st.isNil 3 (st.ev y)=some true∧match je op true,je op false with
   |some A,some B=>K (st.putT d A)∧K (st.putT d B)
   |_,_=>False
 |_=>False
def jJ (P:Program)(L:List (List Nat))(K:zc→Prop)(st:zc):Z2→Prop
 | .r o=>match jU st o,o.dst with
   |some A,some d=>K (st.putT d A)
   |none,some _=>Yy K st o
   |_,none=>False
 | .asg d x mv=>ZQ (za5 st d x mv) K
 | .mk d l c sz bs zs=>ZQ (aMk st d l c sz bs zs) K
 | .mko d l c sz bs zs=>ZQ (za1 st d l c sz bs zs) K
 | .capq d x=>match st.evA x with
   | .sl id off len sz=>match st.h[id]? with
     |some (some cs)=>∀n:Nat,len≤n→cs.length≤off+n*sz→n≤9223372036854775807→K (st.putT d (.sc (.int .i64 (n:Int))))
     |_=>False
   | .sc u=>J0 u=true∧K (st.putT d (.sc (.int .i64 0)))
   |_=>False
 | .bad _=>False
 | .mkmp d=>ZQ (Km st d) K
 | .mget d x k=>ZQ (Ko st d x k) K
 | .mput x k v=>ZQ (Kl st x k v) K
 | .appz d s x sz bs zs=>ZQ (Kq st d s x sz bs zs) K
 | .cpy d s x sz=>ZQ (za2 st d s x sz) K
 | .s2b d x=>ZQ (za0 st d x) K
 | .blds d len sz ps zs=>ZQ (Kp st d len sz ps zs) K
 | .bld d ps zs=>ZQ (za4 st d ps zs) K
 | .app d s x sz bs=>ZQ (za6 st d s x sz bs) K
 | .slc d x lo hi sz=>ZQ (zaZ st d x lo hi sz) K
 | .box d x=>ZQ (za3 st d x) K
 | .alloc d zs=>ZQ (xF st d zs) K
 | .mkfn d f o1 o2=>ZQ (Kn st d f o1 o2) K
 | .st x v n=>ZQ (aSt st x v n) K
 | .call d f as=>yc P L st d f as K
section
variable {L:List (List Nat)} {E:Env} {N:Nat} {V:List Nat} {st:zc} {a:Act} {P:Program} {o:Oper} {d:Nat} {tm:Array Value} {rs:List Nat×List Nat}
def Z2.fresh (N:Nat)(V:List Nat)(st:zc):Z2→Prop
 | .asg d _ _=>d∈V∧d<N
 | .st _ _ _=>True
 |b=>∀d,b.dst=some d→zG N V st d
theorem gH {next:Act→World→Prop}{Q:Exit→Act→World→Prop}{v:Value}{w w':World}(hr:(execOp a.eval o).run P w= .ok (.value v) w')(hd:o.dst=some d)(h:next (a.put (some d) v) w'):o.wp P a w next Q:=by
 unfold Oper.wp
 rw[hr,Oper.upon_value,hd]
 exact h
theorem o7 {next:Act→World→Prop}{Q:Exit→Act→World→Prop}{w w':World}(hr:(execOp a.eval o).run P w= .ok .skip w')(hd:o.dst=none)(h:next a w'):o.wp P a w next Q:=by
 unfold Oper.wp
 rw[hr,Oper.upon_skip,hd]
 exact h
def gC (L:List (List Nat))(E:Env)(N:Nat)(V:List Nat)(a:Act)(K:zc→Prop)(next:Act→World→Prop):Prop:=
 ∀E' st' a',zA E' N V st' a'.tmps→a'.defers=a.defers→zL L E E'→K st'→next a' E'.w
theorem Jm {st':zc}{K:zc→Prop}{next:Act→World→Prop}{Q:Exit→Act→World→Prop}(h:qQ L E N V st' a P o d)(hd:o.dst=some d)(hk:K st')(hK:gC L E N V a K next):o.wp P a E.w next Q:=by
 obtain⟨v,E',hr,R',P'⟩:=h
 exact gH hr hd (hK E' st' (a.put (some d) v) R' rfl P' hk)
def Z2.quiet (L:List (List Nat))(st:zc):Z2→Bool
 | .r _=>true
 | .asg _ x mv=>st.useQ L x mv
 | .mk _ _ _ _ _ _=>true
 | .mko _ _ _ _ _ _=>true
 | .capq _ _=>true
 | .bad _=>true
 | .mkmp _=>true
 | .mget _ _ _=>true
 | .mput x _ _=>st.mputQ L x
 | .appz _ _ _ _ _ _=>true
 | .cpy _ s _ _=>st.cpyQ L s
 | .s2b _ _=>true
 | .blds _ _ _ ps _=>st.useLQ L (ps.map (·.2))
 | .bld _ ps _=>st.useLQ L (ps.map (·.2))
 | .app _ s x _ _=>st.appQ L s x
 | .slc _ x _ _ _=>st.useQ L x true
 | .box _ x=>st.useQ L x true
 | .alloc _ _=>true
 | .mkfn _ _ o1 o2=>st.useLQ L (o1++o2)
 | .st x v _=>st.stQ L x v
 | .call _ _ _=>true
theorem G5 {b:Z2}:b.quiet [] st=true:=by
 cases b<;>first
  |rfl
  |exact q6
  |exact Xa _
  |exact zaU
  |exact zbm
  |exact pi
  |exact zau
theorem zcL {A:zb}{K:zc→Prop}{next:Act→World→Prop}{Q:Exit→Act→World→Prop}{Ls:List (List Nat)}(h:jB Ls E N V st a P o d A)(hd:o.dst=some d)(hk:K (st.putT d A))(hK:gC L E N V a K next):o.wp P a E.w next Q:=by
 obtain⟨v,rd,hrd,hy,R'⟩:=h
 exact gH (hy E.w fun c hc=>(hrd c hc).1) hd (hK E _ (a.put (some d) v) R' rfl (zL.refl E) hk)
theorem Wn :∀(xs:List Operand) {l:List zB},xs.mapM zj=some l→xs.map zj=l.map some
 |[],l,h=>by simp at h;subst h;rfl
 | x ::xs,l,h=>by
   rw[List.mapM_cons] at h
   cases hx:zj x with
   |none=>rw[hx] at h;cases h
   | some ox=>
     rw[hx] at h
     cases hr:xs.mapM zj with
     |none=>rw[hr] at h;cases h
     | some l'=>
       rw[hr] at h
       cases h
       simp[hx,Wn xs hr]
theorem yp {xs:List Operand}{mv:Bool}{l:List (zB×Bool)}(h:Wg xs mv=some l):xs.map zj=l.map fun y=>some y.1:=by
 unfold Wg at h
 obtain⟨l',h1,rfl⟩:=Option.map_eq_some_iff.1 h
 rw[Wn xs h1,List.map_map]
 rfl
theorem jG {x:Option Operand}{ox:Option zB}(h:Yw x=some ox):QC x ox:=by
 cases x with
 |none=>cases h;trivial
 | some x=>
   obtain⟨y,h1,rfl⟩:=Option.map_eq_some_iff.1 h
   exact h1
theorem Q6 {sz:Nat}:∀(ps:List (Nat×Operand)) {l:List ((Nat×Nat)×zB×Bool)},qD sz ps=some l→(ps.map (·.2)).map zj=(l.map (·.2)).map (fun y=>some y.1)∧ps.map (fun x=>(x.1*sz,sz))=l.map (·.1)
 |[],l,h=>by cases h;exact⟨rfl,rfl⟩
 | (i,x)::ps,l,h=>by
   simp only[qD] at h
   obtain⟨ox,hx,h⟩:=Option.bind_eq_some_iff.1 h
   obtain⟨r,hr,rfl⟩:=Option.map_eq_some_iff.1 h
   obtain⟨h1,h2⟩:=Q6 ps hr
   exact⟨by simp only[List.map_cons,hx];rw[h1],by simp only[List.map_cons];rw[h2]⟩
theorem Q7 {t:TypeId}:∀(ps:List (Nat×Operand)) {l:List ((Nat×Nat)×zB×Bool)},qE P t ps=some l→(ps.map (·.2)).map zj=(l.map (·.2)).map (fun y=>some y.1)∧ps.map (fun x=>jx P t x.1)=l.map (fun y=>some y.1)
 |[],l,h=>by cases h;exact⟨rfl,rfl⟩
 | (i,x)::ps,l,h=>by
   simp only[qE] at h
   obtain⟨pl,hp,h⟩:=Option.bind_eq_some_iff.1 h
   obtain⟨ox,hx,h⟩:=Option.bind_eq_some_iff.1 h
   obtain⟨r,hr,rfl⟩:=Option.map_eq_some_iff.1 h
   obtain⟨h1,h2⟩:=Q7 ps hr
   exact⟨by simp only[List.map_cons,hx];rw[h1],by simp only[List.map_cons,hp];rw[h2]⟩
def xA (P:Program)(L:List (List Nat))(K:zc→Prop)(st:zc):Z2→Prop
 | .r o=>∃A d,jU st o=some A∧o.dst=some d∧K (st.putT d A)
 |b=>jJ P L K st b
theorem zb9 {ao:Kv}{K:zc→Prop}(h:xA P L K st (.r ao)):∃A d,jU st ao=some A∧ao.dst=some d∧K (st.putT d A):=h
theorem Oo {ao:Kv}{K:zc→Prop}(h:jJ P L K st (.r ao)):xA P L K st (.r ao)∨Yy K st ao:=by
 simp only[jJ] at h
 split at h
 · rename_i A d h1 h2;exact .inl ⟨A,d,h1,h2,h⟩
 · exact .inr h
 · exact h.elim
theorem zE {α β:Type}{x:Option α}{f:α→β}{r:β}(h:x.map f=some r):∃y,x=some y∧f y=r:=Option.map_eq_some_iff.1 h
theorem zq {α β:Type}{x:Option α}{f:α→Option β}{r:β}(h:x.bind f=some r):∃y,x=some y∧f y=some r:=Option.bind_eq_some_iff.1 h
end
end Go.Ga

namespace Go.Ga
open Go
section
variable {L:List (List Nat)} {E:Env} {N:Nat} {V:List Nat} {st:zc} {a:Act} {P:Program} {o:Oper} {d:Nat} {tm:Array Value} {rs:List Nat×List Nat}
theorem GC {op:BinOp}{tag:Nat}{ox oy:zB}(hs:Qc P rs o=some (.r (.bin d op tag ox oy))):∃t x y yt dsc,o.op= .binOp op t x y yt∧o.dst=some d∧P.underlying t=some dsc∧xv P t dsc=some tag∧zj x=some ox∧zj y=some oy:=by
 unfold Qc at hs
 split at hs
 case h_4=>
  rename_i op' t x y yt d' ho hd
  obtain⟨dsc,hu,hs⟩:=zq hs
  obtain⟨tag',ht,hs⟩:=zq hs
  obtain⟨ox',hx,hs⟩:=zq hs
  obtain⟨oy',hy,hs⟩:=zE hs
  cases hs
  exact⟨t,x,y,yt,dsc,ho,hd,hu,ht,hx,hy⟩
 all_goals try (simp[Option.map_eq_some_iff,Option.bind_eq_some_iff] at hs;done)
 all_goals (repeat' split at hs)
 all_goals try (simp[Option.map_eq_some_iff,Option.bind_eq_some_iff] at hs;done)
 all_goals exfalso
 all_goals
  obtain⟨_,_,hs⟩:=zq hs
  first
  | (split at hs
     · obtain⟨_,_,hs⟩:=zq hs
       obtain⟨_,_,hs⟩:=zE hs
       cases hs
     · cases hs)
  |skip
 all_goals
  obtain⟨_,_,hs⟩:=zq hs
  split at hs
  case isFalse=>cases hs
  first
  | (obtain⟨ol,_,hs⟩:=zq hs
     obtain⟨oc,_,hs⟩:=zE hs
     cases hso:ol.same oc<;>rw[hso] at hs<;>cases hs)
  |trace_state
theorem oe (R:zA E N V st a.tmps){x:Operand}{ox:zB}(hx:zj x=some ox){e:TypeId}(h:st.blank (st.ev ox)=true):∃b,Yo (.slice e) (a.eval x) b:=by
 unfold zc.blank at h
 split at h
 · rename_i hb
   obtain⟨v,po,h1,h2,_⟩:=zz R hx hb rfl
   cases h2<;>exact⟨_,_,_,_,h1,rfl⟩
 · rename_i hb
   obtain⟨v,po,h1,h2,_⟩:=zz R hx hb rfl
   cases h2<;>exact⟨_,_,_,_,h1,rfl⟩
 · rename_i p hb
   split at h
   · rename_i sz hown
     obtain⟨B,v,h1,h2,h3,h4,h5⟩:=ya R hx hb
     unfold zc.owned at hown
     rw[h1] at hown
     cases B with
     | own hd cs'=>
       simp at hown
       obtain⟨rfl,rfl⟩:=hown
       cases h5 with
       |own=>exact⟨_,_,_,_,h4,rfl⟩
       |ownNil=>exact⟨_,_,_,_,h4,rfl⟩
     |_=>cases hown
   · cases h
 · cases h
theorem Wi {ao:Kv}{K:zc→Prop}{Ls:List (List Nat)}(R:zA E N V st a.tmps)(hs:jw P rs o=some (.r ao))(F:∀d,ao.dst=some d→zG N V st d)(h:Yy K st ao):
    ∃A d,o.dst=some d∧ao.dst=some d∧jB Ls E N V st a P o d A∧K (st.putT d A)∧(∃v,A= .sc v):=by
  unfold Yy at h
  split at h
  case h_2=>exact h.elim
  rename_i d op tag ox oy
  obtain⟨rfl,h1,h2,h3⟩:=h
  unfold jw at hs
  split at hs
  case h_2=>cases hs
  rename_i b0 hs0
  cases hs
  obtain⟨t,x,y,yt,dsc,ho,hd,hu,ht,hx,hy⟩:=GC hs0
  obtain⟨e,rfl⟩:∃e,dsc= .slice e:=by
    cases dsc<;>simp only[xv] at ht<;>try (cases ht;done)
    · exact⟨_,rfl⟩
    · split at ht
      · injection ht with ht;omega
      · cases ht
  obtain⟨b,hb⟩:=oe (e:=e) R hx h1
  have hc:Yo (.slice e) (a.eval y) true:=qf R hy (dsc:= .slice e) h2
  split at h3
  case h_2=>exact h3.elim
  rename_i A B hA hB
  have hAB:∃C,je op (b&&true)=some C∧K (st.putT d C):=by
    cases b
    · exact⟨B,hB,h3.2⟩
    · exact⟨A,hA,h3.1⟩
  obtain⟨C,hC,hK⟩:=hAB
  obtain⟨r,rfl,_⟩:=QF (P:=P) (x:=x) (y:=y) hu hb hc (.inr rfl) hC default
  refine⟨.sc r,d,hd,rfl,.pure (fun w=>?_) (Zz R (F d rfl) r),hK,r,rfl⟩
  obtain⟨r',hr,hrun⟩:=QF (P:=P) (x:=x) (y:=y) hu hb hc (.inr rfl) hC w
  cases hr
  simp only[execOp,ho]
  simp only[Sem.run_bind] at hrun⊢
  rw[hrun]
  rfl
end
end Go.Ga

namespace Go.Ga
open Go
section
variable {L:List (List Nat)} {E:Env} {N:Nat} {V:List Nat} {st:zc} {a:Act} {P:Program} {o:Oper} {d:Nat} {tm:Array Value} {rs:List Nat×List Nat}
theorem jr {ao:Kv}{K:zc→Prop}{next:Act→World→Prop}{Q:Exit→Act→World→Prop}(hd:o.dst=some d)(hao:ao.dst=some d)(hF:Z2.fresh N V st (.r ao))(h:xA P L K st (.r ao))(hK:gC L E N V a K next)
    (hr:∀A,zG N V st d→jU st ao=some A→jB (JC st ao) E N V st a P o d A):o.wp P a E.w next Q:=by
  obtain⟨A,d',h1,h2,h3⟩:=zb9 h
  rw[hao] at h2
  cases h2
  exact zcL (hr A (hF d hao) h1) hd h3 hK
theorem ZW {x:Option zc}{K:zc→Prop}(h:ZQ x K):∃s,x=some s∧K s:=by
 cases x with
 |none=>exact h.elim
 |some s=>exact⟨s,rfl,h⟩
theorem wi {b:Z2}{K:zc→Prop}{next:Act→World→Prop}{Q:Exit→Act→World→Prop}(hT:JO P E)(R:zA E N V st a.tmps)(hs:jw P rs o=some b)(hF:b.fresh N V st)(h:xA P L K st b)(hq:b.quiet L st=true)(hK:gC L E N V a K next):o.wp P a E.w next Q:=by
 unfold jw at hs
 split at hs
 case h_2=>cases hs;exact h.elim
 rename_i b0 hs0
 cases hs
 replace hs:=hs0
 clear hs0
 unfold Qc at hs
 split at hs
 · rename_i x d ho hd
   obtain⟨ox,hx,rfl⟩:=zE hs
   split at hF<;>rename_i hcr
   · rw[if_pos hcr] at h hq
     obtain⟨s,h1,h2⟩:=ZW h
     exact Jm (zdo R hF.1 hF.2 (.inr ho) hx h1 hq) hd h2 hK
   · rw[if_neg hcr] at h
     exact jr hd rfl hF h hK fun A F h1=>zca R F ho hx h1
 · rename_i x d ho hd
   obtain⟨ox,hx,rfl⟩:=zE hs
   obtain⟨s,h1,h2⟩:=ZW h
   exact Jm (zdo R hF.1 hF.2 (.inl ho) hx h1 hq) hd h2 hK
 · rename_i c x y d ho hd
   obtain⟨oc,hc,hs⟩:=zq hs
   obtain⟨ox,hx,hs⟩:=zq hs
   obtain⟨oy,hy,rfl⟩:=zE hs
   exact jr hd rfl hF h hK fun A F h1=>Ov R F ho hc hx hy h1
 · rename_i op t x y yt d ho hd
   obtain⟨dsc,hu,hs⟩:=zq hs
   obtain⟨tag,ht,hs⟩:=zq hs
   obtain⟨ox,hx,hs⟩:=zq hs
   obtain⟨oy,hy,rfl⟩:=zE hs
   refine jr hd rfl hF h hK fun A F h1=>?_
   cases dsc<;>simp only[xv] at ht<;>try (cases ht;done)
   case struct fs=>
    split at ht
    · rename_i hok
      cases ht
      exact OE R F ho hu hok hx hy h1
    · cases ht
   all_goals cases ht
   · exact OF R F ho hu hx hy h1
   · exact uK R F ho hx hy h1
   · exact uK R F ho hx hy h1
   · exact Yt R F ho hu hx hy h1
   · exact Yt R F ho hu hx hy h1
   · exact Yt R F ho hu hx hy h1
 · rename_i t x d ho hd
   obtain⟨ox,hx,rfl⟩:=zE hs
   exact jr hd rfl hF h hK fun A F h1=>Ow R F ho hx h1
 · rename_i s t x d ho hd
   split at hs
   · rename_i k1 k2 h1 h2
     obtain⟨ox,hx,rfl⟩:=zE hs
     exact jr hd rfl hF h hK fun A F h3=>OD R F ho h1 h2 hx h3
   · rename_i e h1 h2
     split at hs
     · rename_i h4
       obtain⟨ox,hx,rfl⟩:=zE hs
       obtain⟨s',k1,k2⟩:=ZW h
       exact Jm (ze1 R (hF d rfl) ho h1 h2 h4 hx k1) hd k2 hK
     · cases hs
   · rename_i e h1 h2
     split at hs
     · rename_i h4
       obtain⟨ox,hx,rfl⟩:=zE hs
       exact jr hd rfl hF h hK fun A F h3=>zce R F ho h1 h4 h2 hx h3
     · cases hs
   · cases hs
 · rename_i x d ho hd
   obtain⟨ox,hx,rfl⟩:=zE hs
   exact jr hd rfl hF h hK fun A F h1=>gK R F ho hx h1
 · rename_i s x i d ho hd
   split at hs
   · rename_i fs hu
     obtain⟨fl,hf,hs⟩:=zq hs
     obtain⟨inf,hi,hs⟩:=zq hs
     split at hs
     · cases hs
     · rename_i hz
       obtain⟨ox,hx,rfl⟩:=zE hs
       exact jr hd rfl hF h hK fun A F h1=>OC R F ho hu hf hi hz hx h1
   · cases hs
 · rename_i s x i d ho hd
   split at hs
   · rename_i fs hu
     obtain⟨fl,hf,hs⟩:=zq hs
     obtain⟨dsc,hdd,hs⟩:=zq hs
     obtain⟨inf,hi,hs⟩:=zq hs
     obtain⟨ox,hx,rfl⟩:=zE hs
     exact jr hd rfl hF h hK fun A F h1=>zcc R F ho hu hf hdd hi hx h1
   · cases hs
 · rename_i t x i d ho hd
   split at hs
   · rename_i e hu
     obtain⟨inf,hi,hs⟩:=zq hs
     split at hs
     · cases hs
     · rename_i hz
       obtain⟨ox,hx,hs⟩:=zq hs
       obtain⟨oi,hoi,rfl⟩:=zE hs
       exact jr hd rfl hF h hK fun A F h1=>OB R F ho hu hi (Nat.pos_of_ne_zero hz) hx hoi h1
   · rename_i n e hu
     obtain⟨inf,hi,hs⟩:=zq hs
     obtain⟨ox,hx,hs⟩:=zq hs
     obtain⟨oi,hoi,rfl⟩:=zE hs
     exact jr hd rfl hF h hK fun A F h1=>OA R F ho hu hi hx hoi h1
   · cases hs
 · rename_i t x i d ho hd
   split at hs
   · rename_i hu
     obtain⟨ox,hx,hs⟩:=zq hs
     obtain⟨oi,hoi,rfl⟩:=zE hs
     exact jr hd rfl hF h hK fun A F h1=>Oz R F ho hu hx hoi h1
   · rename_i n e hu
     obtain⟨dsc,hdd,hs⟩:=zq hs
     obtain⟨inf,hi,hs⟩:=zq hs
     obtain⟨ox,hx,hs⟩:=zq hs
     obtain⟨oi,hoi,rfl⟩:=zE hs
     exact jr hd rfl hF h hK fun A F h1=>Oy R F ho hu hdd hi hx hoi h1
   · cases hs
 · rename_i t x d ho hd
   obtain⟨dsc,hu,hs⟩:=zq hs
   obtain⟨inf,hi,hs⟩:=zq hs
   obtain⟨ox,hx,rfl⟩:=zE hs
   exact jr hd rfl hF h hK fun A F h1=>zdA R F hu hi ho hx h1
 · rename_i t x v ho hd
   obtain⟨inf,hi,hs⟩:=zq hs
   obtain⟨ox,hx,hs⟩:=zq hs
   obtain⟨ov,hv,rfl⟩:=zE hs
   obtain⟨s,h1,h2⟩:=ZW h
   obtain⟨E',hr,R',P'⟩:=zfk (P:=P) (o:=o) R ho hi hx hv h1 hq
   exact o7 hr hd (hK E' s a R' rfl P' h2)
 · rename_i x i d ho hd
   obtain⟨ox,hx,rfl⟩:=zE hs
   exact jr hd rfl hF h hK fun A F h1=>zcd R F ho hx h1
 · rename_i t l c d ho hd
   split at hs
   · rename_i e hu
     obtain⟨inf,hi,hs⟩:=zq hs
     obtain⟨z,hz,hs⟩:=zq hs
     split at hs
     · rename_i hc
       obtain⟨ol,hl,hs⟩:=zq hs
       obtain⟨oc,hoc,rfl⟩:=zE hs
       cases hsm:ol.same oc with
       | true=>
         rw[hsm] at h hF
         obtain⟨s,h1,h2⟩:=ZW h
         exact Jm (zfl R (hF d rfl) ho hu hi hz hc.1 hc.2 hl hoc h1) hd h2 hK
       | false=>
         rw[hsm] at h hF
         obtain⟨s,h1,h2⟩:=ZW h
         exact Jm (ze2 R (hF d rfl) ho hu hi hz hc.1 hc.2 hl hoc h1) hd h2 hK
     · cases hs
   · cases hs
 · rename_i t len parts d ho hd
   split at hs
   · rename_i e hu
     obtain⟨inf,hi,hs⟩:=zq hs
     obtain⟨z,hz,hs⟩:=zq hs
     split at hs
     · rename_i hc
       obtain⟨ps,hps,rfl⟩:=zE hs
       obtain⟨s,h1,h2⟩:=ZW h
       obtain⟨p1,p2⟩:=Q6 _ hps
       exact Jm (zez R (hF d rfl) ho hu hi hz hc.1 hc.2 p1 p2 h1 hq) hd h2 hK
     · cases hs
   · cases hs
 · rename_i t parts d ho hd
   obtain⟨inf,hi,hs⟩:=zq hs
   obtain⟨z,hz,hs⟩:=zq hs
   split at hs
   · rename_i hc
     obtain⟨ps,hps,rfl⟩:=zE hs
     obtain⟨s,h1,h2⟩:=ZW h
     obtain⟨p1,p2⟩:=Q7 _ hps
     exact Jm (ze5 R (hF d rfl) ho hi hz hc p1 p2 h1 hq) hd h2 hK
   · cases hs
 · rename_i t x d ho hd
   obtain⟨ox,hx,rfl⟩:=zE hs
   obtain⟨s,h1,h2⟩:=ZW h
   exact Jm (ze4 R (hF d rfl) ho hx h1 hq) hd h2 hK
 · rename_i t d ho hd
   obtain⟨inf,hi,hs⟩:=zq hs
   obtain⟨z,hz,rfl⟩:=zE hs
   obtain⟨s,h1,h2⟩:=ZW (x:=xF st d z.cells.toList) (K:=K) h
   exact Jm (zb5 R (hF d rfl) ho hi hz h1) hd h2 hK
 · rename_i f first captured d ho hd
   obtain⟨o1,ho1,hs⟩:=zq hs
   obtain⟨o2,ho2,rfl⟩:=zE hs
   obtain⟨s,h1,h2⟩:=ZW h
   exact Jm (zew R (hF d rfl) ho (yp ho1) (yp ho2) h1 hq) hd h2 hK
 · rename_i t x lo hi d ho hd
   split at hs
   · rename_i e hu
     obtain⟨inf,hi',hs⟩:=zq hs
     split at hs
     · cases hs
     · rename_i hz
       obtain⟨ox,hx,hs⟩:=zq hs
       obtain⟨olo,hlo,hs⟩:=zq hs
       obtain⟨ohi,hhi,rfl⟩:=zE hs
       obtain⟨s,h1,h2⟩:=ZW h
       exact Jm (ze0 R (hF d rfl) ho hu hi' (Nat.pos_of_ne_zero hz) hx (jG hlo) (jG hhi) h1 hq) hd h2 hK
   · rename_i hu
     obtain⟨ox,hx,hs⟩:=zq hs
     obtain⟨olo,hlo,hs⟩:=zq hs
     obtain⟨ohi,hhi,rfl⟩:=zE hs
     exact jr hd rfl hF h hK fun A F h3=>Ot R F ho hu hx (jG hlo) (jG hhi) h3
   · rename_i n e hu
     split at hs
     · obtain⟨inf,hi',hs⟩:=zq hs
       split at hs
       · cases hs
       · rename_i hz
         obtain⟨ox,hx,hs⟩:=zq hs
         obtain⟨olo,hlo,rfl⟩:=zE hs
         exact jr hd rfl hF h hK fun A F h3=>Ou R F ho hu hi' hz hx (jG hlo) h3
     · cases hs
   · cases hs
 · rename_i c d ho hd
   split at hs
   · rename_i f hc
     obtain⟨of,hf,hs⟩:=zq hs
     obtain⟨as,has,rfl⟩:=zE hs
     refine zey hT R (hF d rfl) ho hc hd hf (yp has) h fun E' st' v R' P' hk=>hK E' st' (a.put (some d) v) R' rfl P' hk
   · rename_i hc
     split at hs
     · rename_i x t hx1 ht1
       have hc':c={callee:= .builtin .len,args:= #[x],argTypes:= #[t]}:=by
        cases c with
        | mk callee args argTypes=>
          simp only at hc hx1 ht1
          subst hc
          congr
          · apply Array.ext';simpa using hx1
          · apply Array.ext';simpa using ht1
       subst hc'
       split at hs
       · rename_i e hu
         obtain⟨ox,hx,rfl⟩:=zE hs
         exact jr hd rfl hF h hK fun A F h1=>zcb R F ho hu hx h1
       · rename_i hu
         obtain⟨ox,hx,rfl⟩:=zE hs
         exact jr hd rfl hF h hK fun A F h1=>Ox R F ho hu hx h1
       · cases hs
     · cases hs
   · rename_i hc
     split at hs
     · rename_i x t hx1 ht1
       have hc':c={callee:= .builtin .cap,args:= #[x],argTypes:= #[t]}:=by
        cases c with
        | mk callee args argTypes=>
          simp only at hc hx1 ht1
          subst hc
          congr
          · apply Array.ext';simpa using hx1
          · apply Array.ext';simpa using ht1
       subst hc'
       split at hs
       · rename_i e hu
         obtain⟨ox,hx,rfl⟩:=zE hs
         have F:=hF d rfl
         simp only[xA,jJ] at h
         split at h
         · rename_i id off len sz hev
           split at h
           · rename_i cs hcs
             obtain⟨v,po,h1,h2,_⟩:=zz R hx (Zi hev rfl) rfl
             cases h2 with
             | sl _ _ _ _ cap _ hn hlc hm hk=>
               obtain⟨_,_,_,_,_,_,hlk,_⟩:=R.objs id cs hcs
               have hcap:cap≤9223372036854775807:=by simpa[maxLen] using hm
               refine gH (v:= .int .i64 (cap:Int)) (w':=E.w) (by simp[execOp,ho,resolve,invoke,builtin,Builtin.cap_,h1,run_underlying hu,goInt]) hd (hK E _ (a.put (some d) (.int .i64 (cap:Int))) (Zz R F _) rfl (zL.refl E) (h cap hlc (by omega) hcap))
           · exact h.elim
         · rename_i u hev
           obtain⟨hu1,h⟩:=h
           obtain rfl:=qJ hu1
           have h1:a.eval x= .slice none 0 0:=ZJ R hx (Zi hev rfl)
           exact gH (v:= .int .i64 (0:Int)) (w':=E.w) (by simp[execOp,ho,resolve,invoke,builtin,Builtin.cap_,h1,run_underlying hu,goInt]) hd (hK E _ (a.put (some d) (.int .i64 0)) (Zz R F _) rfl (zL.refl E) h)
         · exact h.elim
       · cases hs
     · cases hs
   · rename_i hc
     split at hs
     · rename_i x y hx1
       have hc':c={callee:= .builtin (if true=true then .max else .min),args:= #[x,y],argTypes:=c.argTypes}:=by
        cases c with
        | mk callee args argTypes=>
          simp only at hc hx1
          subst hc
          congr
          apply Array.ext';simpa using hx1
       obtain⟨ox,hx,hs⟩:=zq hs
       obtain⟨oy,hy,rfl⟩:=zE hs
       exact jr hd rfl hF h hK fun A F h1=>zbu (mx:=true) R F (by rw[ho,←hc']) hx hy h1
     · cases hs
   · rename_i hc
     split at hs
     · rename_i x y hx1
       have hc':c={callee:= .builtin (if false=true then .max else .min),args:= #[x,y],argTypes:=c.argTypes}:=by
        cases c with
        | mk callee args argTypes=>
          simp only at hc hx1
          subst hc
          congr
          apply Array.ext';simpa using hx1
       obtain⟨ox,hx,hs⟩:=zq hs
       obtain⟨oy,hy,rfl⟩:=zE hs
       exact jr hd rfl hF h hK fun A F h1=>zbu (mx:=false) R F (by rw[ho,←hc']) hx hy h1
     · cases hs
   · rename_i hc
     split at hs
     · rename_i s x t t' hx1 ht1
       split at hs
       · rename_i htt
         subst htt
         have hc':c={callee:= .builtin .append,args:= #[s,x],argTypes:= #[t,t]}:=by
          cases c with
          | mk callee args argTypes=>
            simp only at hc hx1 ht1
            subst hc
            congr
            · apply Array.ext';simpa using hx1
            · apply Array.ext';simpa using ht1
         subst hc'
         split at hs
         · rename_i e hu
           obtain⟨inf,hi,hs⟩:=zq hs
           obtain⟨z,hz,hs⟩:=zq hs
           split at hs
           · rename_i hcond
             obtain⟨os,hos,hs⟩:=zq hs
             obtain⟨ox,hx,rfl⟩:=zE hs
             obtain⟨s',h1,h2⟩:=ZW h
             exact Jm (ze6 R (hF d rfl) ho hu hi hz hcond.1 hcond.2.1 hcond.2.2 hos hx h1 hq) hd h2 hK
           · cases hs
         · cases hs
       · have hc':c={callee:= .builtin .append,args:= #[s,x],argTypes:= #[t,t']}:=by
          cases c with
          | mk callee args argTypes=>
            simp only at hc hx1 ht1
            subst hc
            congr
            · apply Array.ext';simpa using hx1
            · apply Array.ext';simpa using ht1
         subst hc'
         split at hs
         · rename_i e k hu hu'
           obtain⟨inf,hi,hs⟩:=zq hs
           obtain⟨z,hz,hs⟩:=zq hs
           split at hs
           · rename_i hcond
             obtain⟨os,hos,hs⟩:=zq hs
             obtain⟨ox,hx,rfl⟩:=zE hs
             obtain⟨s',h1,h2⟩:=ZW h
             exact Jm (zeA R (hF d rfl) ho hu hu' hi hz hcond.1 hcond.2 hos hx h1) hd h2 hK
           · cases hs
         · cases hs
     · cases hs
   · rename_i hc
     split at hs
     · rename_i s x t t' hx1 ht1
       have hc':c={callee:= .builtin .copy,args:= #[s,x],argTypes:= #[t,t']}:=by
        cases c with
        | mk callee args argTypes=>
          simp only at hc hx1 ht1
          subst hc
          congr
          · apply Array.ext';simpa using hx1
          · apply Array.ext';simpa using ht1
       subst hc'
       split at hs
       · rename_i e hu
         obtain⟨inf,hi,hs⟩:=zq hs
         split at hs
         · rename_i hcond
           obtain⟨os,hos,hs⟩:=zq hs
           obtain⟨ox,hx,rfl⟩:=zE hs
           obtain⟨s',h1,h2⟩:=ZW h
           exact Jm (ze3 R (hF d rfl) ho hu hi hcond hos hx h1 hq) hd h2 hK
         · cases hs
       · cases hs
     · cases hs
   · cases hs
 · rename_i t d ho hd
   cases hs
   obtain⟨s',h1,h2⟩:=ZW (x:=Km st d) (K:=K) h
   exact Jm (zev R (hF d rfl) ho h1) hd h2 hK
 · rename_i t x k d ho hd
   split at hs
   · rename_i kt et ht
     split at hs
     · rename_i kd hk
       obtain⟨inf,hi,hs⟩:=zq hs
       split at hs
       · rename_i hz
         obtain⟨ox,hx,hs⟩:=zq hs
         obtain⟨ok,hok,rfl⟩:=zE hs
         obtain⟨s',h1,h2⟩:=ZW h
         exact Jm (zex R (hF d rfl) ho ht hk hi hz hx hok h1) hd h2 hK
       · cases hs
     · cases hs
   · cases hs
 · rename_i t x k v ho hd
   split at hs
   · rename_i kt et ht
     split at hs
     · rename_i kd hk
       obtain⟨ox,hx,hs⟩:=zq hs
       obtain⟨ok,hok,hs⟩:=zq hs
       obtain⟨ov,hov,rfl⟩:=zE hs
       obtain⟨s',h1,h2⟩:=ZW h
       obtain⟨E',hr,R',P'⟩:=zaY (P:=P) (o:=o) R (.inl ho) ht hk hx hok hov h1 hq
       exact o7 hr hd (hK E' s' a R' rfl P' h2)
     · cases hs
   · cases hs
 · rename_i t x k v ho hd
   split at hs
   · rename_i kt et ht
     split at hs
     · rename_i kd hk
       obtain⟨ox,hx,hs⟩:=zq hs
       obtain⟨ok,hok,hs⟩:=zq hs
       obtain⟨ov,hov,rfl⟩:=zE hs
       obtain⟨s',h1,h2⟩:=ZW h
       obtain⟨E',hr,R',P'⟩:=zaY (P:=P) (o:=o) R (.inr ho) ht hk hx hok hov h1 hq
       exact o7 hr hd (hK E' s' a R' rfl P' h2)
     · cases hs
   · cases hs
 · cases hs
theorem wV {b:Z2}{K:zc→Prop}{next:Act→World→Prop}{Q:Exit→Act→World→Prop}(hT:JO P E)(R:zA E N V st a.tmps)(hs:jw P rs o=some b)(hF:b.fresh N V st)(h:jJ P L K st b)(hq:b.quiet L st=true)(hK:gC L E N V a K next):o.wp P a E.w next Q:=by
 cases b with
 | r ao=>
   rcases Oo h with h|h
   · exact wi hT R hs hF h hq hK
   · obtain⟨A,d,h1,h2,h3,h4,_⟩:=Wi (Ls:=JC st ao) R hs (fun d hd=>hF d hd) h
     exact zcL h3 h1 h4 hK
 |_=>exact wi hT R hs hF h hq hK
end
end Go.Ga

namespace Go.Ga
open Go
abbrev zl :=Option (Nat×Bool)×Z2
def qy (P:Program)(rs:List Nat×List Nat)(ops:Array Oper)(o:Oper):Option zl:=
 match o.guard with
 |none=>(jw P rs o).map fun b=>(none,b)
 | some (j,want)=>match(ops[j]?).bind (·.dst) with
   |some t=>(jw P rs o).bind fun b=>if b.dst=o.dst then some (some (t,want),b) else none
   |none=>none
def Z2.keys (b:Z2)(ks:List Nat):List Nat:=
 match b with
 | .asg _ _ _=>ks
 | .st _ _ _=>ks
 | b=>match b.dst with
   |some d=>d::ks
   |none=>ks
def Z2.ok (N:Nat)(V ks:List Nat):Z2→Bool
 | .asg d _ _=>V.contains d&&d<N
 | .st _ _ _=>true
 | b=>match b.dst with
   |some d=>d<N&& !V.contains d&& !ks.contains d
   |none=>true
def Zv (P:Program)(L:List (List Nat))(K:zc→Prop)(st:zc):zl→Prop
 |(none,b)=>b.quiet L st=true∧jJ P L K st b
 | (some (t,want),b)=>match st.get t with
   | .sc (.bool v)=>(v=want→b.quiet L st=true∧jJ P L K st b)∧(v=(!want)→match b.dst with|some d=>K (st.putT d (.sc (.tuple #[])))|none=>False)
   | .sc (.tuple vs)=>vs= #[]∧match b.dst with|some d=>K (st.putT d (.sc (.tuple #[])))|none=>False
   |_=>False
def Q0 (P:Program)(L:List (List Nat))(K:zc→Prop):List zl→zc→Prop
 |[],st=>K st
 |g::rest,st=>Zv P L (Q0 P L K rest) st g
def uO (N:Nat)(V:List Nat)(g:zl)(ks:List Nat):Bool:=g.2.ok N V ks&&(match g with|(some _,.asg _ _ _)=>false|(some _,.st _ _ _)=>false|_=>true)
def uN (N:Nat)(V:List Nat):List zl→List Nat→Bool
 |[],_=>true
 |g::rest,ks=>uO N V g ks&&uN N V rest (g.2.keys ks)
section
variable {L:List (List Nat)} {E:Env} {N:Nat} {V:List Nat} {st:zc} {a:Act} {P:Program} {o:Oper} {d:Nat} {tm:Array Value} {rs:List Nat×List Nat}
theorem jf {x:Option zc}{K K':zc→Prop}(h:ZQ x K)(hk:∀s,x=some s→K s→K' s):ZQ x K':=by
 cases x with
 |none=>exact h.elim
 |some s=>exact hk s rfl h
theorem xz {b:Z2}{K:zc→Prop}(h:jJ P L K st b):jJ P L (fun s=>s.ts.map (·.1)=b.keys (st.ts.map (·.1))∧K s) st b:=by
 cases b with
 | r o=>
   simp only[jJ] at h⊢
   split at h
   · rename_i A d h1 h2
     exact⟨by simp[Z2.keys,Z2.dst,h2,zc.putT],h⟩
   · rename_i d h1 h2
     unfold Yy at h⊢
     split at h
     case h_2=>exact h.elim
     cases h2
     obtain⟨e1,e2,e3,h⟩:=h
     refine⟨e1,e2,e3,?_⟩
     split at h
     · exact⟨⟨by simp[Z2.keys,Z2.dst,Kv.dst,zc.putT],h.1⟩,by simp[Z2.keys,Z2.dst,Kv.dst,zc.putT],h.2⟩
     · exact h.elim
   · exact h.elim
 | asg d x mv=>
   refine jf h fun s hs hk=>⟨?_,hk⟩
   unfold za5 at hs
   split at hs
   · rename_i A st1 hu;cases hs;exact Jj.trans (ZI hu)
   · cases hs
 | mk d l c sz bs zs=>
   refine jf h fun s hs hk=>⟨?_,hk⟩
   unfold aMk at hs
   split at hs
   · split at hs
     · cases hs;rfl
     · cases hs
   · cases hs
 | mko d l c sz bs zs=>
   refine jf h fun s hs hk=>⟨?_,hk⟩
   unfold za1 at hs
   split at hs
   · split at hs
     · cases hs;rfl
     · cases hs
   · cases hs
 | capq d x=>
   simp only[jJ] at h⊢
   split at h
   · split at h
     · exact fun n h1 h2 h3=>⟨rfl,h n h1 h2 h3⟩
     · exact h.elim
   · exact⟨h.1,rfl,h.2⟩
   · exact h.elim
 |bad d=>exact h.elim
 | mkmp d=>
   have h':ZQ (Km st d) K:=h
   exact jf (K':=fun s=>s.ts.map (·.1)=(Z2.mkmp d).keys (st.ts.map (·.1))∧K s) h' fun s hs hk=>⟨by cases hs;rfl,hk⟩
 | mget d x k=>
   refine jf h fun s hs hk=>⟨?_,hk⟩
   unfold Ko at hs
   split at hs
   · split at hs
     · cases hs;rfl
     · cases hs
   · cases hs
 | mput x k v=>
   refine jf h fun s hs hk=>⟨?_,hk⟩
   unfold Kl at hs
   split at hs
   · split at hs
     · rcases zV hs with⟨_,hs⟩|⟨_,hs⟩
       · cases hs
       · cases hs;exact ja.trans Zy
     · cases hs
   · cases hs
 | s2b d x=>
   refine jf h fun s hs hk=>⟨?_,hk⟩
   unfold za0 at hs
   split at hs
   · cases hs;rfl
   · cases hs
 | cpy d s x sz=>
   refine jf h fun s' hs hk=>⟨?_,hk⟩
   unfold za2 at hs
   split at hs
   · split at hs
     · split at hs
       · split at hs
         · cases hs
           show d::_=d::_
           congr 1
           simp only[zc.storeObj]
           exact Zy
         · cases hs
       · cases hs
     · cases hs
   · split at hs
     · split at hs
       · cases hs;rfl
       · cases hs
     · cases hs
   · cases hs
 | appz d s x sz bs zs=>
   refine jf h fun s hs hk=>⟨?_,hk⟩
   unfold Kq at hs
   split at hs
   · split at hs
     · split at hs
       · cases hs;rfl
       · cases hs
     · cases hs
   · cases hs
 | blds d len sz ps zs=>
   refine jf h fun s hs hk=>⟨?_,hk⟩
   unfold Kp at hs
   split at hs
   · rename_i As st1 hu
     split at hs
     · split at hs
       · cases hs;simp[Z2.keys,Z2.dst,zc.putT,ZM _ hu]
       · cases hs
     · cases hs
   · cases hs
 | bld d ps zs=>
   refine jf h fun s hs hk=>⟨?_,hk⟩
   unfold za4 at hs
   split at hs
   · rename_i As st1 hu
     split at hs
     · cases hs;simp[Z2.keys,Z2.dst,zc.putT,ZM _ hu]
     · cases hs
   · cases hs
 | app d s x sz bs=>
   refine jf h fun s' hs hk=>⟨?_,hk⟩
   unfold za6 at hs
   split at hs
   · rename_i S st1 hu
     split at hs
     · rename_i xs st2 hu2
       split at hs
       · split at hs
         · split at hs
           · cases hs;simp[Z2.keys,Z2.dst,zc.putT,QL hu2,ZI hu]
           · cases hs
         · split at hs
           · cases hs;simp[Z2.keys,Z2.dst,zc.putT,QL hu2,ZI hu]
           · cases hs
         · split at hs
           · split at hs
             · cases hs;simp[Z2.keys,Z2.dst,zc.putT,zc.storeObj,Zy,QL hu2,ZI hu]
             · cases hs
           · cases hs
         · cases hs
       · cases hs
     · cases hs
   · cases hs
 | slc d x lo hi sz=>
   refine jf h fun s' hs hk=>⟨?_,hk⟩
   unfold zaZ at hs
   split at hs
   · rename_i A st1 hu
     split at hs
     all_goals first
      |(cases hs;done)
      | (split at hs
         · split at hs
           · cases hs;simp[Z2.keys,Z2.dst,zc.putT,ZI hu]
           · cases hs
         · cases hs)
   · cases hs
 | box d x=>
   refine jf h fun s' hs hk=>⟨?_,hk⟩
   unfold za3 at hs
   split at hs
   · rename_i cs st1 hu;cases hs;simp[Z2.keys,Z2.dst,zc.putT,ZI hu]
   · rename_i A st1 _ hu
     rcases zV hs with⟨_,hs⟩|⟨_,hs⟩
     · cases hs;simp[Z2.keys,Z2.dst,zc.putT,ZI hu]
     · cases hs
   · cases hs
 | alloc d zs=>
   have h':ZQ (xF st d zs) K:=h
   exact jf (K':=fun s=>s.ts.map (·.1)=(Z2.alloc d zs).keys (st.ts.map (·.1))∧K s) h' fun s hs hk=>⟨by cases hs;rfl,hk⟩
 | mkfn d f o1 o2=>
   refine jf h fun s' hs hk=>⟨?_,hk⟩
   unfold Kn at hs
   split at hs
   · rename_i As st1 hu
     rcases zV hs with⟨_,hs⟩|⟨_,hs⟩
     · cases hs;simp[Z2.keys,Z2.dst,zc.putT,ZM _ hu]
     · cases hs
   · cases hs
 | st x v n=>
   refine jf h fun s' hs hk=>⟨?_,hk⟩
   unfold aSt at hs
   split at hs
   · rename_i A st1 hu
     split at hs
     · split at hs
       · split at hs
         · split at hs
           · cases hs;exact ja.trans (Zy.trans (ZI hu))
           · cases hs
         · cases hs
       · split at hs
         · split at hs
           · cases hs;exact Zy.trans (ZI hu)
           · cases hs
         · cases hs
       · cases hs
     · cases hs
   · cases hs
 | call d f as=>
   simp only[jJ,yc] at h⊢
   split at h
   · rename_i g first captured hev
     obtain⟨ms,bo,ln,pl,h⟩:=h
     refine⟨ms,bo,ln,pl,?_⟩
     unfold yz at h⊢
     split at h
     case h_2=>exact h.elim
     rename_i x0 st0 htake
     split at h
     case h_2=>exact h.elim
     rename_i As st1 huse
     refine⟨h.1,h.2.1,h.2.2.1,h.2.2.2.mono fun r h' hk=>⟨hk.1,hk.2.1,?_⟩⟩
     have hk3:=hk.2.2
     have hks:∀mm r,((st1.after bo L mm h').putT d r).ts.map (·.1)=d::st.ts.map (·.1):=fun mm r=>by
      show d::(st1.after bo L mm h').ts.map (·.1)=_
      rw[qN,ZM _ huse,qv htake]
     unfold zZ at hk3⊢
     split
     · exact⟨hks _ _,hk3⟩
     · rename_i p sz cs _
       simp only[] at hk3
       generalize h'[bo.length]?=z at hk3⊢
       cases z with
       |none=>exact⟨hks _ _,hk3⟩
       | some y=>
         cases y with
         |none=>exact⟨hks _ _,hk3⟩
         | some cs'=>
           refine⟨hk3.1,hk3.2.1,hk3.2.2.1,?_,hk3.2.2.2⟩
           show d::(zc.setAt _ _ _).ts.map (·.1)=_
           rw[ja,qN,ZM _ huse,qv htake]
           rfl
   · exact h.elim
theorem JD {b:Z2}{ks:List Nat}(h:b.ok N V ks=true)(hk:st.ts.map (·.1)=ks):b.fresh N V st:=by
 cases b with
 |asg d x m=>simp only[Z2.ok,Bool.and_eq_true,List.contains_iff_mem,decide_eq_true_eq] at h;exact h
 |st x v n=>trivial
 | r o=>
   intro d hd
   simp only[Z2.ok,Z2.dst] at h hd
   rw[hd] at h
   simp only[Bool.and_eq_true,decide_eq_true_eq,Bool.not_eq_true',List.contains_eq_mem] at h
   exact⟨h.1.1,by simpa using h.1.2,by rw[hk];simpa using h.2⟩
 |mput x k v=>intro d' hd;cases hd
 | _=>
   intro d' hd
   simp only[Z2.ok,Z2.dst] at h hd
   cases hd
   simp only[Bool.and_eq_true,decide_eq_true_eq,Bool.not_eq_true',List.contains_eq_mem] at h
   exact⟨h.1.1,by simpa using h.1.2,by rw[hk];simpa using h.2⟩
theorem qZ {ops:Array Oper}(hg:o.guard=none):Region.wanted o (yielded ops a.tmps)=true:=by simp[Region.wanted,hg]
theorem qY {ops:Array Oper}(R:zA E N V st a.tmps){j t:Nat}{want v:Bool}(hg:o.guard=some (j,want))(hj:(ops[j]?).bind (·.dst)=some t)(hv:st.get t= .sc (.bool v)):
    Region.wanted o (yielded ops a.tmps)=(v==want):=by
  have h1:a.eval (.tmp t)= .bool v:=ZJ (ox:= .t t) R rfl hv
  obtain⟨u,h2,h3⟩:=(R.slots t).out (by rw[hv];rfl)
  rw[hv] at h3
  cases h3
  simp only[Region.wanted,hg,yielded,hj,Option.bind_some,h2]
  cases v<;>cases want<;>rfl
theorem qr {ops:Array Oper}(R:zA E N V st a.tmps){j t:Nat}{want:Bool}(hg:o.guard=some (j,want))(hj:(ops[j]?).bind (·.dst)=some t)(hv:st.get t= .sc (.tuple #[])):
    Region.wanted o (yielded ops a.tmps)=false:=by
  obtain⟨u,h2,h3⟩:=(R.slots t).out (by rw[hv];rfl)
  rw[hv] at h3
  cases h3
  simp only[Region.wanted,hg,yielded,hj,Option.bind_some,h2]
  cases want<;>rfl
theorem zei {Q:Exit→Act→World→Prop}{ops:Array Oper}{os:List Oper}{g:zl}{K:zc→Prop}(hT:JO P E)(R:zA E N V st a.tmps)(hs:qy P rs ops o=some g)(hok:uO N V g (st.ts.map (·.1))=true)(h:Zv P L K st g)
    (hK:∀E' st' a',zA E' N V st' a'.tmps→a'.defers=a.defers→zL L E E'→st'.ts.map (·.1)=g.2.keys (st.ts.map (·.1))→K st'→wpList P ops Q os a' E'.w):wpList P ops Q (o::os) a E.w:=by
  obtain⟨gd,b⟩:=g
  simp only[uO,Bool.and_eq_true] at hok
  obtain⟨hok1,hok2⟩:=hok
  have go:b.quiet L st=true∧jJ P L K st b→jw P rs o=some b→o.wp P a E.w (wpList P ops Q os) Q:=fun⟨hq,hstep⟩ hstrip=>
    wV hT R hstrip (JD hok1 rfl) (xz hstep) hq fun E' st' a' R' hd P' hk=>hK E' st' a' R' hd P' hk.1 hk.2
  unfold wpList
  unfold qy at hs
  split at hs
  · rename_i hg
    obtain⟨b',hb,e⟩:=zE hs
    cases e
    simp only[qZ hg,if_true]
    exact .inl (go h hb)
  · rename_i j want hg
    split at hs
    · rename_i t ht
      obtain⟨b',hb,e⟩:=zq hs
      split at e
      case isFalse=>cases e
      rename_i hdd
      cases e
      simp only[Zv] at h
      split at h
      · rename_i v hv
        simp only[qY (ops:=ops) R hg ht hv]
        cases hvw:(v==want) with
        |true=>exact .inl (go (h.1 (by simpa using hvw)) hb)
        | false =>
          simp only[Bool.false_eq_true,if_false]
          have h3:=h.2 (by cases v<;>cases want<;>simp at hvw⊢)
          split at h3
          · rename_i d hd
            have F:=JD (st:=st) hok1 rfl
            have hbd:o.dst=some d∧zG N V st d∧b.keys (st.ts.map (·.1))=d::st.ts.map (·.1):=by
              refine⟨hdd.symm.trans hd,?_,?_⟩
              · cases b with
                |asg=>simp at hok2
                |st=>simp at hok2
                |_=>exact F d hd
              · cases b with
                |asg=>simp at hok2
                |st=>simp at hok2
                |r o=>simp only[Z2.keys];rw[hd]
                |mput=>cases hd
                |_=>cases hd;rfl
            obtain⟨hd1,F1,hkeys⟩:=hbd
            rw[hd1]
            exact hK E _ (a.put (some d) undef) (Zz R F1 undef) rfl (zL.refl E) hkeys.symm h3
          · exact h3.elim
      · rename_i vs hv
        obtain⟨rfl,h3⟩:=h
        simp only[qr (ops:=ops) R hg ht hv]
        simp only[Bool.false_eq_true,if_false]
        split at h3
        · rename_i d hd
          have F:=JD (st:=st) hok1 rfl
          have hbd:o.dst=some d∧zG N V st d∧b.keys (st.ts.map (·.1))=d::st.ts.map (·.1):=by
            refine⟨hdd.symm.trans hd,?_,?_⟩
            · cases b with
              |asg=>simp at hok2
              |st=>simp at hok2
              |_=>exact F d hd
            · cases b with
              |asg=>simp at hok2
              |st=>simp at hok2
              |r o=>simp only[Z2.keys];rw[hd]
              |mput=>cases hd
              |_=>cases hd;rfl
          obtain⟨hd1,F1,hkeys⟩:=hbd
          rw[hd1]
          exact hK E _ (a.put (some d) undef) (Zz R F1 undef) rfl (zL.refl E) hkeys.symm h3
        · exact h3.elim
      · exact h.elim
    · cases hs
theorem xB {ops:Array Oper}{Q:Exit→Act→World→Prop}:∀(os:List Oper) (gs:List zl) {E:Env} {st:zc} {a:Act} {K:zc→Prop},os.map (qy P rs ops)=gs.map some→JO P E→zA E N V st a.tmps→uN N V gs (st.ts.map (·.1))=true→Q0 P L K gs st→
    gC L E N V a K (Q .normal)→wpList P ops Q os a E.w
  |[],[],E,st,a,K,_,_,R,_,h,hK=>hK E st a R rfl (zL.refl E) h
  |[],_::_,E,st,a,K,hm,_,R,_,h,hK=>by simp at hm
  |_::_,[],E,st,a,K,hm,_,R,_,h,hK=>by simp at hm
  | o::os,g::gs,E,st,a,K,hm,hT,R,hok,h,hK=>by
    simp only[List.map_cons,List.cons.injEq] at hm
    simp only[uN,Bool.and_eq_true] at hok
    exact zei hT R hm.1 hok.1 h fun E' st' a' R' hd P' hks hk=>xB os gs hm.2 (hT.pres P') R' (by rw[hks];exact hok.2) hk fun E2 st2 a2 R2 hd2 P2 hk2=>hK E2 st2 a2 R2 (hd2.trans hd) (P'.trans P2) hk2
end
end Go.Ga

namespace Go.Ga
open Go
abbrev Zg :=List Nat×List (List Nat)×List (Addr×Value)
def Zg.keep (i:Nat)(ws:List Zg):List Zg:=ws.filter fun x=> !x.1.contains i
section
variable {P:Program} {ops:Array Oper} {Q:Exit→Act→World→Prop} {md:Region.Mode}
def jg (P:Program)(ops:Array Oper)(o:Oper)(rd:List (Addr×Value))(v:Value)(a:Act):Prop:=
 (Region.wanted o (yielded ops a.tmps)=true∧∀w:World,(∀c∈rd,w.cell? c.1=some c.2)→(execOp a.eval o).run P w= .ok (.value v) w)∨(Region.wanted o (yielded ops a.tmps)=false∧v=undef)
theorem jg.of_same {o:Oper}{rd:List (Addr×Value)}{v:Value}{a a':Act}(hy:jg P ops o rd v a)(he:execOp a'.eval o=execOp a.eval o)(hw:Region.wanted o (yielded ops a'.tmps)=Region.wanted o (yielded ops a.tmps)):jg P ops o rd v a':=by
 unfold jg
 rw[he,hw]
 exact hy
theorem jg.wpOp {i:Nat}{o:Oper}{rd:List (Addr×Value)}{v:Value}{a:Act}(hi:ops[i]?=some o)(hy:jg P ops o rd v a){K:Act→World→Prop}{w:World}(hrd:∀c∈rd,w.cell? c.1=some c.2)(h:K (a.put o.dst v) w):wpOp P ops Q i K a w:=by
 unfold Go.wpOp
 rw[hi]
 rcases hy with⟨h1,h2⟩|⟨h1,rfl⟩
 · simp only[h1,if_true,Oper.wp,h2 w hrd,Oper.upon]
   exact .inl h
 · simp only[h1,Bool.false_eq_true,if_false]
   exact h
theorem Kw {j:Nat}{o:Oper}(hj:ops[j]?=some o){K:Act→World→Prop}{a:Act}{w:World}(h:wpOp P ops Q j K a w):
    wpOp P ops Q j (fun a' w'=>(∃u ds,a'=({a with defers:=ds}:Act).put o.dst u)∧K a' w') a w:=by
  have self:∀u,∃u' ds,a.put o.dst u=({a with defers:=ds}:Act).put o.dst u':=fun u=>⟨u,a.defers,rfl⟩
  unfold Go.wpOp at h⊢
  rw[hj] at h⊢
  simp only[] at h⊢
  split
  · rename_i hw
    rw[if_pos hw] at h
    refine h.imp (fun h=>?_) id
    unfold Oper.wp at h⊢
    generalize (execOp a.eval o).run P w=r at h
    cases r with
    | ok n w'=>
      cases n with
      |value v=>exact⟨self _,h⟩
      |skip=>exact⟨self _,h⟩
      |defer d=>exact⟨⟨undef,d::a.defers,rfl⟩,h⟩
      | enter f args=>
        refine Calls.mono h fun e w'' he=>?_
        cases e with
        |returned u=>exact⟨self _,he⟩
        |panicked c=>exact he
        |outgrown=>exact he
      |row row args=>exact Rows.mono h fun u w'' he=>⟨self _,he⟩
      |_=>exact h.elim
    | halt x w'=>
      cases x<;>first
        |exact h
        |exact h.elim
  · rename_i hw
    rw[if_neg hw] at h
    exact⟨self _,h⟩
def wh (o:Oper)(v:Value):Oper:={o with op:= .move (.const v),guard:=none}
theorem uB (o:Oper)(v:Value)(a:Act):Yields P ops (wh o v) v a:=
 .inl ⟨by simp[wh,Region.wanted],fun w=>by simp[wh,execOp,Act.eval]⟩
theorem Us {x y:Oper}{v:Value}(h:x.apart ops y=true):(wh x v).apart ops y=true:=by
 obtain⟨h1,h2,h3⟩:=Oper.apart_spec h
 have e:(wh x v).looksAt ops=[]:=by simp[Oper.looksAt,wh,Op.operands]
 unfold Oper.apart
 rw[e]
 have e2:(wh x v).dst=x.dst:=rfl
 rw[e2]
 cases hx:x.dst with
 |none=>cases y.dst<;>rfl
 | some d=>
   have g1:=h1 d hx
   have g2:=h2 d hx
   cases hy:y.dst with
   |none=>simp[g1]
   | some d'=>
     rw[hy] at g2
     have g3:¬d'=d:=fun e=>g2 (by rw[e])
     simp[g1,g3]
def Jk (P:Program)(md:Region.Mode)(ops:Array Oper)(Q:Exit→Act→World→Prop):Nat→List Zg→Array Bool→Act→World→Prop
 |0,_,listed,a,w=>Region.ready md ops listed=[]∧Q .normal a w
 | fuel+1,ws,listed,a,w=>
   (Region.ready md ops listed=[]→Q .normal a w)∧
   ∀i∈Region.ready md ops listed,wpOp P ops Q i (fun a' w'=>(∀x∈Zg.keep i ws,∀c∈x.2.2,w.cell? c.1=some c.2→w'.cell? c.1=some c.2)∧Jk P md ops Q fuel (Zg.keep i ws) (listed.setIfInBounds i true) a' w') a w
theorem Q1 :∀(fuel:Nat) (ws:List Zg) (listed:Array Bool) (a:Act) (w:World),Jk P md ops Q fuel ws listed a w→wpAny P md ops Q fuel listed a w
 |0,_,_,_,_,h=>h
 |fuel+1,_,_,_,_,h=>⟨h.1,fun i hi=>wpOp_mono (fun a' w' h'=>Q1 fuel _ _ a' w' h'.2) (h.2 i hi)⟩
theorem J4 :∀(fuel:Nat) (ws ws':List Zg) (listed:Array Bool) (a:Act) (w:World),(∀x∈ws,x∈ws')→Jk P md ops Q fuel ws' listed a w→Jk P md ops Q fuel ws listed a w
 |0,_,_,_,_,_,_,h=>h
 | fuel+1,ws,ws',_,_,_,hs,h=>by
   have hk:∀i,∀x∈Zg.keep i ws,x∈Zg.keep i ws':=fun i x hx=>by
    rw[Zg.keep,List.mem_filter] at hx⊢
    exact⟨hs x hx.1,hx.2⟩
   exact⟨h.1,fun i hi=>wpOp_mono (fun a' w' h'=>⟨fun x hx=>h'.1 x (hk i x hx),J4 fuel _ _ _ a' w' (hk i) h'.2⟩) (h.2 i hi)⟩
theorem ut {i:Nat}{oi:Oper}{v:Value}{later:List Nat}{Ls:List (List Nat)}{rd:List (Addr×Value)}(hi:ops[i]?=some oi)(hsel:Region.noSelect ops=true)(hQ:∀c a w,¬Q (.panic c) a w)
    (hlater:∀k∈later,∀o,ops[k]?=some o→∃e∈o.after,Region.binds md e=true∧(e.on=i∨e.on∈later)) (hself:i∉later):
    ∀ (fuel:Nat) (ws:List Zg) (listed:Array Bool) (a:Act) (w:World),
      (∀j oj,ops[j]?=some oj→j≠i→listed.getD j true=false→j∉later→oi.apart ops oj=true)→(∀k∈later,listed.getD k false=false)→
      i∈Region.ready md ops listed→jg P ops oi rd v a→(∀c∈rd,w.cell? c.1=some c.2)→(later,Ls,rd)∈ws→
      Jk P md ops Q fuel ws (listed.setIfInBounds i true) (a.put oi.dst v) w→Jk P md ops Q (fuel+1) ws listed a w:=by
  have here:∀(fuel:Nat) (ws:List Zg) (listed:Array Bool) (a:Act) (w:World),jg P ops oi rd v a→(∀c∈rd,w.cell? c.1=some c.2)→
      Jk P md ops Q fuel ws (listed.setIfInBounds i true) (a.put oi.dst v) w→
      wpOp P ops Q i (fun a' w'=>(∀x∈Zg.keep i ws,∀c∈x.2.2,w.cell? c.1=some c.2→w'.cell? c.1=some c.2)∧Jk P md ops Q fuel (Zg.keep i ws) (listed.setIfInBounds i true) a' w') a w:=
    fun fuel ws listed a w hy hrd H=>hy.wpOp hi hrd ⟨fun _ _ _ _ h=>h,J4 fuel _ _ _ _ _ (fun x hx=>(List.mem_filter.1 hx).1) H⟩
  intro fuel
  induction fuel with
  | zero=>
    intro ws listed a w _ _ hr hy hrd _ H
    refine⟨fun h=>(by rw[h] at hr;cases hr),fun j hj=>?_⟩
    by_cases hji:j=i
    · subst hji;exact here 0 ws listed a w hy hrd H
    · have h1:=H.1
      have h2:=ready_mono hj hji
      rw[h1] at h2;cases h2
  | succ fuel ih=>
    intro ws listed a w hfree hlist hr hy hrd hmem H
    refine⟨fun h=>(by rw[h] at hr;cases hr),fun j hj=>?_⟩
    by_cases hji:j=i
    · subst hji;exact here _ ws listed a w hy hrd H
    · have h1:=H.2 j (ready_mono hj hji)
      obtain⟨hjun,oj,hoj,hall⟩:=mem_ready.1 hj
      have hiun:=(mem_ready.1 hr).1
      have hjl:j∉later:=fun hjl=>by
        obtain⟨e,he,hb,hon⟩:=hlater j hjl oj hoj
        have h2:=hall e he hb
        rcases hon with hon|hon
        · rw[hon] at h2
          rcases Nat.lt_or_ge i listed.size with h'|h'
          · simp[h'] at hiun h2;rw[hiun] at h2;cases h2
          · simp[Array.getElem?_eq_none h'] at h2
        · rw[hlist _ hon] at h2;cases h2
      have hap:=hfree j oj hoj hji hjun hjl
      have h2:=Kw hoj (wpOp_put hoj (Us (v:=v) hap) (fun cs b=>by simp[wh]) (Region.noSelect_spec hsel j oj · · hoj) (fun c a w h=>absurd h (hQ c _ w)) (uB oi v a) h1)
      obtain⟨_,_,hap3⟩:=Oper.apart_spec hap
      have hfree':∀k ok,ops[k]?=some ok→k≠i→(listed.setIfInBounds j true).getD k true=false→k∉later→oi.apart ops ok=true:=fun k ok hk hki hun hno=>by
        refine hfree k ok hk hki ?_ hno
        by_cases hjk:j=k
        · subst hjk;exact hjun
        · rwa [getD_set_ne true hjk] at hun
      have hlist':∀k∈later,(listed.setIfInBounds j true).getD k false=false:=fun k hk=>by
        have hjk:j≠k:=fun e=>hjl (by rw[e];exact hk)
        rw[getD_set_ne false hjk];exact hlist k hk
      have hmem':(later,Ls,rd)∈Zg.keep j ws:=List.mem_filter.2 ⟨hmem,by simpa using hjl⟩
      refine wpOp_mono (fun a' w' h3=>?_) h2
      obtain⟨⟨u,ds,rfl⟩,_,hk,h4⟩:=h3
      refine⟨hk,ih (Zg.keep j ws) (listed.setIfInBounds j true) _ w' hfree' hlist' (ready_mono hr (Ne.symm hji)) ?_ (fun c hc=>hk _ hmem' c hc (hrd c hc)) hmem' ?_⟩
      · have hy2:jg P ops oi rd v ({a with defers:=ds}:Act):=hy.of_same rfl rfl
        exact hy2.of_same (execOp_put oi (Region.noSelect_spec hsel i oi · · hi) _ oj.dst u hap3) (wanted_put oi _ oj.dst u hap3)
      · rw[Array.setIfInBounds_comm _ _ hji]
        exact h4
end
end Go.Ga

namespace Go.Ga
open Go
section
variable {L:List (List Nat)} {E:Env} {N:Nat} {V:List Nat} {st:zc} {a:Act} {P:Program} {o:Oper} {d:Nat} {tm:Array Value} {rs:List Nat×List Nat}
theorem KW {ao:Kv}{A:zb}(R:zA E N V st a.tmps)(hs:jw P rs o=some (.r ao))(h:jU st ao=some A)(F:∀d,ao.dst=some d→zG N V st d):
    ∃d,o.dst=some d∧ao.dst=some d∧jB (JC st ao) E N V st a P o d A:=by
  unfold jw at hs
  split at hs
  case h_2=>cases hs
  rename_i b0 hs0
  cases hs
  replace hs:=hs0
  clear hs0
  unfold Qc at hs
  split at hs
  · rename_i x d ho hd
    obtain⟨ox,hx,he⟩:=zE hs
    split at he
    · cases he
    · cases he
      exact⟨d,hd,rfl,zca R (F d rfl) ho hx h⟩
  · rename_i x d ho hd
    obtain⟨ox,hx,he⟩:=zE hs
    cases he
  · rename_i c x y d ho hd
    obtain⟨oc,hc,hs⟩:=zq hs
    obtain⟨ox,hx,hs⟩:=zq hs
    obtain⟨oy,hy,he⟩:=zE hs
    cases he
    exact⟨d,hd,rfl,Ov R (F d rfl) ho hc hx hy h⟩
  · rename_i op t x y yt d ho hd
    obtain⟨dsc,hu,hs⟩:=zq hs
    obtain⟨tag,ht,hs⟩:=zq hs
    obtain⟨ox,hx,hs⟩:=zq hs
    obtain⟨oy,hy,he⟩:=zE hs
    cases he
    refine⟨d,hd,rfl,?_⟩
    cases dsc<;>simp only[xv] at ht<;>try (cases ht;done)
    case struct fs=>
      split at ht
      · rename_i hok
        cases ht
        exact OE R (F d rfl) ho hu hok hx hy h
      · cases ht
    all_goals cases ht
    · exact OF R (F d rfl) ho hu hx hy h
    · exact uK R (F d rfl) ho hx hy h
    · exact uK R (F d rfl) ho hx hy h
    · exact Yt R (F d rfl) ho hu hx hy h
    · exact Yt R (F d rfl) ho hu hx hy h
    · exact Yt R (F d rfl) ho hu hx hy h
  · rename_i t x d ho hd
    obtain⟨ox,hx,he⟩:=zE hs
    cases he
    exact⟨d,hd,rfl,Ow R (F d rfl) ho hx h⟩
  · rename_i s t x d ho hd
    split at hs
    · rename_i k1 k2 h1 h2
      obtain⟨ox,hx,he⟩:=zE hs
      cases he
      exact⟨d,hd,rfl,OD R (F d rfl) ho h1 h2 hx h⟩
    · rename_i e h1 h2
      split at hs
      · obtain⟨ox,hx,he⟩:=zE hs
        cases he
      · cases hs
    · rename_i e h1 h2
      split at hs
      · rename_i h4
        obtain⟨ox,hx,he⟩:=zE hs
        cases he
        exact⟨d,hd,rfl,zce R (F d rfl) ho h1 h4 h2 hx h⟩
      · cases hs
    · cases hs
  · rename_i x d ho hd
    obtain⟨ox,hx,he⟩:=zE hs
    cases he
    exact⟨d,hd,rfl,gK R (F d rfl) ho hx h⟩
  · rename_i s x i d ho hd
    split at hs
    · rename_i fs hu
      obtain⟨fl,hf,hs⟩:=zq hs
      obtain⟨inf,hi,hs⟩:=zq hs
      split at hs
      · cases hs
      · rename_i hz
        obtain⟨ox,hx,he⟩:=zE hs
        cases he
        exact⟨d,hd,rfl,OC R (F d rfl) ho hu hf hi hz hx h⟩
    · cases hs
  · rename_i s x i d ho hd
    split at hs
    · rename_i fs hu
      obtain⟨fl,hf,hs⟩:=zq hs
      obtain⟨dsc,hdd,hs⟩:=zq hs
      obtain⟨inf,hi,hs⟩:=zq hs
      obtain⟨ox,hx,he⟩:=zE hs
      cases he
      exact⟨d,hd,rfl,zcc R (F d rfl) ho hu hf hdd hi hx h⟩
    · cases hs
  · rename_i t x i d ho hd
    split at hs
    · rename_i e hu
      obtain⟨inf,hi,hs⟩:=zq hs
      split at hs
      · cases hs
      · rename_i hz
        obtain⟨ox,hx,hs⟩:=zq hs
        obtain⟨oi,hoi,he⟩:=zE hs
        cases he
        exact⟨d,hd,rfl,OB R (F d rfl) ho hu hi (Nat.pos_of_ne_zero hz) hx hoi h⟩
    · rename_i n e hu
      obtain⟨inf,hi,hs⟩:=zq hs
      obtain⟨ox,hx,hs⟩:=zq hs
      obtain⟨oi,hoi,he⟩:=zE hs
      cases he
      exact⟨d,hd,rfl,OA R (F d rfl) ho hu hi hx hoi h⟩
    · cases hs
  · rename_i t x i d ho hd
    split at hs
    · rename_i hu
      obtain⟨ox,hx,hs⟩:=zq hs
      obtain⟨oi,hoi,he⟩:=zE hs
      cases he
      exact⟨d,hd,rfl,Oz R (F d rfl) ho hu hx hoi h⟩
    · rename_i n e hu
      obtain⟨dsc,hdd,hs⟩:=zq hs
      obtain⟨inf,hi,hs⟩:=zq hs
      obtain⟨ox,hx,hs⟩:=zq hs
      obtain⟨oi,hoi,he⟩:=zE hs
      cases he
      exact⟨d,hd,rfl,Oy R (F d rfl) ho hu hdd hi hx hoi h⟩
    · cases hs
  · rename_i t x d ho hd
    obtain⟨dsc,hu,hs⟩:=zq hs
    obtain⟨inf,hi,hs⟩:=zq hs
    obtain⟨ox,hx,he⟩:=zE hs
    cases he
    exact⟨d,hd,rfl,zdA R (F d rfl) hu hi ho hx h⟩
  · rename_i t x v ho hd
    obtain⟨inf,hi,hs⟩:=zq hs
    obtain⟨ox,hx,hs⟩:=zq hs
    obtain⟨ov,hv,he⟩:=zE hs
    cases he
  · rename_i x i d ho hd
    obtain⟨ox,hx,he⟩:=zE hs
    cases he
    exact⟨d,hd,rfl,zcd R (F d rfl) ho hx h⟩
  · rename_i t l c d ho hd
    split at hs
    · rename_i e hu
      obtain⟨inf,hi,hs⟩:=zq hs
      obtain⟨z,hz,hs⟩:=zq hs
      split at hs
      · rename_i hc
        obtain⟨ol,hl,hs⟩:=zq hs
        obtain⟨oc,hoc,he⟩:=zE hs
        cases hsm:ol.same oc<;>rw[hsm] at he<;>cases he
      · cases hs
    · cases hs
  · rename_i t len parts d ho hd
    split at hs
    · rename_i e hu
      obtain⟨inf,hi,hs⟩:=zq hs
      obtain⟨z,hz,hs⟩:=zq hs
      split at hs
      · rename_i hc
        obtain⟨ps,hps,he⟩:=zE hs
        cases he
      · cases hs
    · cases hs
  · rename_i t parts d ho hd
    obtain⟨inf,hi,hs⟩:=zq hs
    obtain⟨z,hz,hs⟩:=zq hs
    split at hs
    · rename_i hc
      obtain⟨ps,hps,he⟩:=zE hs
      cases he
    · cases hs
  · rename_i t x d ho hd
    obtain⟨ox,hx,he⟩:=zE hs
    cases he
  · rename_i t d ho hd
    obtain⟨inf,hi,hs⟩:=zq hs
    obtain⟨z,hz,he⟩:=zE hs
    cases he
  · rename_i f first captured d ho hd
    obtain⟨o1,ho1,hs⟩:=zq hs
    obtain⟨o2,ho2,he⟩:=zE hs
    cases he
  · rename_i t x lo hi d ho hd
    split at hs
    · rename_i e hu
      obtain⟨inf,hi',hs⟩:=zq hs
      split at hs
      · cases hs
      · rename_i hz
        obtain⟨ox,hx,hs⟩:=zq hs
        obtain⟨olo,hlo,hs⟩:=zq hs
        obtain⟨ohi,hhi,he⟩:=zE hs
        cases he
    · rename_i hu
      obtain⟨ox,hx,hs⟩:=zq hs
      obtain⟨olo,hlo,hs⟩:=zq hs
      obtain⟨ohi,hhi,he⟩:=zE hs
      cases he
      exact⟨d,hd,rfl,Ot R (F d rfl) ho hu hx (jG hlo) (jG hhi) h⟩
    · rename_i n e hu
      split at hs
      · obtain⟨inf,hi',hs⟩:=zq hs
        split at hs
        · cases hs
        · rename_i hz
          obtain⟨ox,hx,hs⟩:=zq hs
          obtain⟨olo,hlo,he⟩:=zE hs
          cases he
          exact⟨d,hd,rfl,Ou R (F d rfl) ho hu hi' hz hx (jG hlo) h⟩
      · cases hs
    · cases hs
  · rename_i c d ho hd
    split at hs
    · rename_i f hc
      obtain⟨of,hf,hs⟩:=zq hs
      obtain⟨as,has,he⟩:=zE hs
      cases he
    · rename_i hc
      split at hs
      · rename_i x t hx1 ht1
        have hc':c={callee:= .builtin .len,args:= #[x],argTypes:= #[t]}:=by
          cases c with
          | mk callee args argTypes=>
            simp only at hc hx1 ht1
            subst hc
            congr
            · apply Array.ext';simpa using hx1
            · apply Array.ext';simpa using ht1
        subst hc'
        split at hs
        · rename_i e hu
          obtain⟨ox,hx,he⟩:=zE hs
          cases he
          exact⟨d,hd,rfl,zcb R (F d rfl) ho hu hx h⟩
        · rename_i hu
          obtain⟨ox,hx,he⟩:=zE hs
          cases he
          exact⟨d,hd,rfl,Ox R (F d rfl) ho hu hx h⟩
        · cases hs
      · cases hs
    · rename_i hc
      split at hs
      · split at hs
        · obtain⟨ox,hx,he⟩:=zE hs
          cases he
        · cases hs
      · cases hs
    · rename_i hc
      split at hs
      · rename_i x y hx1
        have hc':c={callee:= .builtin (if true=true then .max else .min),args:= #[x,y],argTypes:=c.argTypes}:=by
          cases c with
          | mk callee args argTypes=>
            simp only at hc hx1
            subst hc
            congr
            apply Array.ext';simpa using hx1
        obtain⟨ox,hx,hs⟩:=zq hs
        obtain⟨oy,hy,he⟩:=zE hs
        cases he
        exact⟨d,hd,rfl,zbu (mx:=true) R (F d rfl) (by rw[ho,←hc']) hx hy h⟩
      · cases hs
    · rename_i hc
      split at hs
      · rename_i x y hx1
        have hc':c={callee:= .builtin (if false=true then .max else .min),args:= #[x,y],argTypes:=c.argTypes}:=by
          cases c with
          | mk callee args argTypes=>
            simp only at hc hx1
            subst hc
            congr
            apply Array.ext';simpa using hx1
        obtain⟨ox,hx,hs⟩:=zq hs
        obtain⟨oy,hy,he⟩:=zE hs
        cases he
        exact⟨d,hd,rfl,zbu (mx:=false) R (F d rfl) (by rw[ho,←hc']) hx hy h⟩
      · cases hs
    · rename_i hc
      split at hs
      · rename_i s x t t' hx1 ht1
        split at hs
        · rename_i htt
          subst htt
          have hc':c={callee:= .builtin .append,args:= #[s,x],argTypes:= #[t,t]}:=by
            cases c with
            | mk callee args argTypes=>
              simp only at hc hx1 ht1
              subst hc
              congr
              · apply Array.ext';simpa using hx1
              · apply Array.ext';simpa using ht1
          subst hc'
          split at hs
          · rename_i e hu
            obtain⟨inf,hi,hs⟩:=zq hs
            obtain⟨z,hz,hs⟩:=zq hs
            split at hs
            · rename_i hcond
              obtain⟨os,hos,hs⟩:=zq hs
              obtain⟨ox,hx,he⟩:=zE hs
              cases he
            · cases hs
          · cases hs
        · split at hs
          · rename_i e k hu hu'
            obtain⟨inf,hi,hs⟩:=zq hs
            obtain⟨z,hz,hs⟩:=zq hs
            split at hs
            · rename_i hcond
              obtain⟨os,hos,hs⟩:=zq hs
              obtain⟨ox,hx,he⟩:=zE hs
              cases he
            · cases hs
          · cases hs
      · cases hs
    · split at hs
      · split at hs
        · obtain⟨inf,hi,hs⟩:=zq hs
          split at hs
          · obtain⟨os,hos,hs⟩:=zq hs
            obtain⟨ox,hx,he⟩:=zE hs
            cases he
          · cases hs
        · cases hs
      · cases hs
    · cases hs
  · cases hs
  · split at hs
    · split at hs
      · obtain⟨_,_,hs⟩:=zq hs
        split at hs
        · obtain⟨_,_,hs⟩:=zq hs
          obtain⟨_,_,he⟩:=zE hs
          cases he
        · cases hs
      · cases hs
    · cases hs
  · split at hs
    · split at hs
      · obtain⟨_,_,hs⟩:=zq hs
        obtain⟨_,_,hs⟩:=zq hs
        obtain⟨_,_,he⟩:=zE hs
        cases he
      · cases hs
    · cases hs
  · split at hs
    · split at hs
      · obtain⟨_,_,hs⟩:=zq hs
        obtain⟨_,_,hs⟩:=zq hs
        obtain⟨_,_,he⟩:=zE hs
        cases he
      · cases hs
    · cases hs
  · cases hs
end
end Go.Ga

namespace Go.Ga
open Go
inductive Sk where
 |done
 |take (i:Nat) (later:List Nat) (t:Sk)
 |one (i:Nat) (t:Sk)
 |two (i:Nat) (t:Sk) (j:Nat) (u:Sk)
 |three (i:Nat) (t:Sk) (j:Nat) (u:Sk) (k:Nat) (v:Sk)
 |many (l:List Nat) (t:Sk)
inductive ZP where
 |done
 |take (later:List Nat) (g:zl) (t:ZP)
 |one (i:Nat) (g:zl) (t:ZP)
 |two (i:Nat) (g:zl) (t:ZP) (j:Nat) (h:zl) (u:ZP)
 |three (i:Nat) (g:zl) (t:ZP) (j:Nat) (h:zl) (u:ZP) (k:Nat) (m:zl) (v:ZP)
 |many (l:List (Nat×zl)) (t:ZP)
def qS (P:Program)(rs:List Nat×List Nat)(ops:Array Oper)(i:Nat):Option zl:=(ops[i]?).bind (qy P rs ops)
def Sk.build (P:Program)(rs:List Nat×List Nat)(ops:Array Oper):Sk→Option ZP
 | .done=>some .done
 | .take i later t=>(qS P rs ops i).bind fun g=>(t.build P rs ops).map fun t'=> .take later g t'
 | .one i t=>(qS P rs ops i).bind fun g=>(t.build P rs ops).map fun t'=> .one i g t'
 | .two i t j u=>(qS P rs ops i).bind fun g=>(t.build P rs ops).bind fun t'=>(qS P rs ops j).bind fun h=>(u.build P rs ops).map fun u'=> .two i g t' j h u'
 | .three i t j u k v=>(qS P rs ops i).bind fun g=>(t.build P rs ops).bind fun t'=>(qS P rs ops j).bind fun h=>(u.build P rs ops).bind fun u'=>(qS P rs ops k).bind fun m=>(v.build P rs ops).map fun v'=> .three i g t' j h u' k m v'
 | .many l t=>(l.mapM fun i=>(qS P rs ops i).map fun g=>(i,g)).bind fun l'=>(t.build P rs ops).map fun t'=> .many l' t'
def xI (listed:Array Bool)(l:List Nat):Array Bool:=l.foldl (fun a i=>a.setIfInBounds i true) listed
def KB (ops:Array Oper)(listed:Array Bool)(i:Nat)(later:List Nat):Bool:=
 !later.contains i&&
 later.all (fun k=> !listed.getD k false&&match ops[k]? with|some o=>o.after.any (fun e=>Region.binds .any e&&(e.on==i||later.contains e.on))|none=>true)&&
 match ops[i]? with
 |none=>false
 |some oi=>(List.range ops.size).all fun j=>j==i||listed.getD j true||later.contains j||match ops[j]? with
  |some oj=>oi.apart ops oj
  |none=>true
def Sk.ok (ops:Array Oper):Nat→Array Bool→Sk→Bool
 |_,listed,.done=>(Region.ready .any ops listed).isEmpty
 |fuel+1,listed,.take i later t=>(Region.ready .any ops listed).contains i&&KB ops listed i later&&t.ok ops fuel (listed.setIfInBounds i true)
 |fuel+1,listed,.one i t=>(Region.ready .any ops listed)==[i]&&t.ok ops fuel (listed.setIfInBounds i true)
 |fuel+1,listed,.two i t j u=>(Region.ready .any ops listed)==[i,j]&&t.ok ops fuel (listed.setIfInBounds i true)&&u.ok ops fuel (listed.setIfInBounds j true)
 |fuel+1,listed,.three i t j u k v=>(Region.ready .any ops listed)==[i,j,k]&&t.ok ops fuel (listed.setIfInBounds i true)&&u.ok ops fuel (listed.setIfInBounds j true)&&v.ok ops fuel (listed.setIfInBounds k true)
 |fuel,listed,.many l t=>decide (l.length≤fuel)&&((Region.ready .any ops listed)==l&&(l.all (fun i=>(Region.ready .any ops (xI listed (l.erase i)))==[i])&&t.ok ops (fuel - l.length) (xI listed l)))
 |0,_,_=>false
def JW (ds:List Nat):zB→Bool
 | .t j=> !ds.contains j
 |_=>true
def wB (l:List (Nat×zl)):List Nat:=l.filterMap fun p=>p.2.2.dst
def uP (N:Nat)(V:List Nat)(ds:List Nat):List (Nat×zl)→List Nat→Bool
 |[],_=>true
 |(_,g)::l,ks=>(match g with|(none,.mk _ x y _ _ _)=>JW ds x&&JW ds y|_=>false)&&(uO N V g ks&&uP N V ds l (g.2.keys ks))
def yS :List (Nat×zl)→List Nat→List Nat
 |[],ks=>ks
 |(_,g)::l,ks=>yS l (g.2.keys ks)
def ZP.okT (N:Nat)(V:List Nat):ZP→List Nat→Bool
 | .done,_=>true
 | .take _ g t,ks=>uO N V g ks&&t.okT N V (g.2.keys ks)
 | .one _ g t,ks=>uO N V g ks&&t.okT N V (g.2.keys ks)
 | .two _ g t _ h u,ks=>uO N V g ks&&t.okT N V (g.2.keys ks)&&uO N V h ks&&u.okT N V (h.2.keys ks)
 | .three _ g t _ h u _ m v,ks=>uO N V g ks&&t.okT N V (g.2.keys ks)&&uO N V h ks&&u.okT N V (h.2.keys ks)&&uO N V m ks&&v.okT N V (m.2.keys ks)
 | .many l t,ks=>uP N V (wB l) l ks&&t.okT N V (yS l ks)
abbrev jC :=List Nat×List (List Nat)
def ZB (i:Nat)(wl:List jC):List jC:=wl.filter fun x=> !x.1.contains i
def Jf (wl:List jC):List (List Nat):=wl.flatMap (·.2)
def zdE (P:Program)(X:List jC→zc→Prop):List (Nat×zl)→List jC→zc→Prop
 |[],wl,st=>X wl st
 |(i,g)::l,wl,st=>Zv P [] (zdE P X l (ZB i wl)) st g
def jh (P:Program)(K:zc→Prop):ZP→List jC→zc→Prop
 | .done,_,st=>K st
 | .take later g t,wl,st=>match g.2 with
   | .r o=>Zv P [] (jh P K t ((later,JC st o)::wl)) st g
   |_=>False
 | .one i g t,wl,st=>Zv P (Jf (ZB i wl)) (jh P K t (ZB i wl)) st g
 | .two i g t j h u,wl,st=>Zv P (Jf (ZB i wl)) (jh P K t (ZB i wl)) st g∧Zv P (Jf (ZB j wl)) (jh P K u (ZB j wl)) st h
 | .three i g t j h u k m v,wl,st=>Zv P (Jf (ZB i wl)) (jh P K t (ZB i wl)) st g∧Zv P (Jf (ZB j wl)) (jh P K u (ZB j wl)) st h∧Zv P (Jf (ZB k wl)) (jh P K v (ZB k wl)) st m
 | .many l t,wl,st=>zdE P (jh P K t) l wl st
def wF (E:Env)(ws:List Zg):Prop:=
 ∀x∈ws,∀c∈x.2.2,(E.O c.1.block=none∧c.1.block<E.w.heap.size)∨∃r∈x.2.1,(r.head?=some 0∨r.head?=some 1)∧E.O c.1.block=some r∧c.1.block<E.w.heap.size
def wD (ws:List Zg):List jC:=ws.map fun x=>(x.1,x.2.1)
section
variable {L:List (List Nat)} {E:Env} {N:Nat} {V:List Nat} {st:zc} {a:Act} {P:Program} {o:Oper} {d:Nat} {tm:Array Value} {rs:List Nat×List Nat} {ops:Array Oper} {Q:Exit→Act→World→Prop}
theorem Ws (i:Nat)(ws:List Zg):ZB i (wD ws)=wD (Zg.keep i ws):=by
 unfold ZB wD Zg.keep
 rw[List.filter_map]
 rfl
theorem wF.kept {ws:List Zg}{E':Env}(W:wF E ws)(P':zL (Jf (wD ws)) E E'):wF E' ws∧∀x∈ws,∀c∈x.2.2,E'.w.heap[c.1.block]?=E.w.heap[c.1.block]?:=by
 have key:∀x∈ws,∀c∈x.2.2,((E'.O c.1.block=none∧c.1.block<E'.w.heap.size)∨∃r∈x.2.1,(r.head?=some 0∨r.head?=some 1)∧E'.O c.1.block=some r∧c.1.block<E'.w.heap.size)∧E'.w.heap[c.1.block]?=E.w.heap[c.1.block]?:=by
  intro x hx c hc
  rcases W x hx c hc with⟨h1,h2⟩|⟨r,h1,h2,h3,h4⟩
  · obtain⟨h3,h4⟩:=P'.old _ h1 h2
    exact⟨.inl ⟨h3,Nat.lt_of_lt_of_le h2 P'.size⟩,h4⟩
  · have hw:Wat (Jf (wD ws)) r:=⟨List.mem_flatMap.2 ⟨(x.1,x.2.1),List.mem_map.2 ⟨x,hx,rfl⟩,h1⟩,h2⟩
    obtain⟨h5,h6⟩:=P'.keep _ r hw h3 h4
    have h7:=Nat.lt_of_lt_of_le h4 P'.size
    rcases h5 with h5|h5
    · exact⟨.inr ⟨r,h1,h2,h5,h7⟩,h6⟩
    · exact⟨.inl ⟨h5,h7⟩,h6⟩
 exact⟨fun x hx c hc=>(key x hx c hc).1,fun x hx c hc=>(key x hx c hc).2⟩
theorem wF.sub {ws ws':List Zg}(W:wF E ws)(h:∀x∈ws',x∈ws):wF E ws':=fun x hx=>W x (h x hx)
theorem zcK {i:Nat}{g:zl}{K:zc→Prop}{X:Act→World→Prop}(hT:JO P E)(R:zA E N V st a.tmps)(hi:ops[i]?=some o)(hs:qy P rs ops o=some g)(hok:uO N V g (st.ts.map (·.1))=true)(h:Zv P L K st g)
    (hK:∀E' st' a',zA E' N V st' a'.tmps→a'.defers=a.defers→zL L E E'→st'.ts.map (·.1)=g.2.keys (st.ts.map (·.1))→K st'→X a' E'.w):wpOp P ops Q i X a E.w:=by
  obtain⟨gd,b⟩:=g
  simp only[uO,Bool.and_eq_true] at hok
  obtain⟨hok1,hok2⟩:=hok
  have go:b.quiet L st=true∧jJ P L K st b→jw P rs o=some b→o.wp P a E.w X Q:=fun⟨hq,hstep⟩ hstrip=>
    wV hT R hstrip (JD hok1 rfl) (xz hstep) hq fun E' st' a' R' hd P' hk=>hK E' st' a' R' hd P' hk.1 hk.2
  unfold Go.wpOp
  rw[hi]
  unfold qy at hs
  split at hs
  · rename_i hg
    obtain⟨b',hb,e⟩:=zE hs
    cases e
    simp only[qZ hg,if_true]
    exact .inl (go h hb)
  · rename_i j want hg
    split at hs
    · rename_i t ht
      obtain⟨b',hb,e⟩:=zq hs
      split at e
      case isFalse=>cases e
      rename_i hdd
      cases e
      simp only[Zv] at h
      split at h
      · rename_i v hv
        simp only[qY (ops:=ops) R hg ht hv]
        cases hvw:(v==want) with
        |true=>exact .inl (go (h.1 (by simpa using hvw)) hb)
        | false =>
          simp only[Bool.false_eq_true,if_false]
          have h3:=h.2 (by cases v<;>cases want<;>simp at hvw⊢)
          split at h3
          · rename_i d hd
            have F:=JD (st:=st) hok1 rfl
            have hbd:o.dst=some d∧zG N V st d∧b.keys (st.ts.map (·.1))=d::st.ts.map (·.1):=by
              refine⟨hdd.symm.trans hd,?_,?_⟩
              · cases b with
                |asg=>simp at hok2
                |st=>simp at hok2
                |_=>exact F d hd
              · cases b with
                |asg=>simp at hok2
                |st=>simp at hok2
                |r o=>simp only[Z2.keys];rw[hd]
                |mput=>cases hd
                |_=>cases hd;rfl
            obtain⟨hd1,F1,hkeys⟩:=hbd
            rw[hd1]
            exact hK E _ (a.put (some d) undef) (Zz R F1 undef) rfl (zL.refl E) hkeys.symm h3
          · exact h3.elim
      · rename_i vs hv
        obtain⟨rfl,h3⟩:=h
        simp only[qr (ops:=ops) R hg ht hv]
        simp only[Bool.false_eq_true,if_false]
        split at h3
        · rename_i d hd
          have F:=JD (st:=st) hok1 rfl
          have hbd:o.dst=some d∧zG N V st d∧b.keys (st.ts.map (·.1))=d::st.ts.map (·.1):=by
            refine⟨hdd.symm.trans hd,?_,?_⟩
            · cases b with
              |asg=>simp at hok2
              |st=>simp at hok2
              |_=>exact F d hd
            · cases b with
              |asg=>simp at hok2
              |st=>simp at hok2
              |r o=>simp only[Z2.keys];rw[hd]
              |mput=>cases hd
              |_=>cases hd;rfl
          obtain⟨hd1,F1,hkeys⟩:=hbd
          rw[hd1]
          exact hK E _ (a.put (some d) undef) (Zz R F1 undef) rfl (zL.refl E) hkeys.symm h3
        · exact h3.elim
      · exact h.elim
    · cases hs
theorem zeO {g:zl}{ao:Kv}{K:zc→Prop}(R:zA E N V st a.tmps)(hs:qy P rs ops o=some g)(hao:g.2= .r ao)(hok:uO N V g (st.ts.map (·.1))=true)(h:Zv P [] K st g):
    ∃ v rd st',jg P ops o rd v a∧(∀c∈rd,E.w.cell? c.1=some c.2∧((E.O c.1.block=none∧c.1.block<E.w.heap.size)∨∃r∈JC st ao,(r.head?=some 0∨r.head?=some 1)∧E.O c.1.block=some r∧c.1.block<E.w.heap.size))∧
      zA E N V st' (a.put o.dst v).tmps∧K st'∧st'.ts.map (·.1)=g.2.keys (st.ts.map (·.1)):=by
  obtain⟨gd,b⟩:=g
  simp only at hao
  subst hao
  simp only[uO,Bool.and_eq_true] at hok
  obtain⟨hok1,_⟩:=hok
  have F:=JD (st:=st) hok1 rfl
  have go:jJ P [] K st (.r ao)→jw P rs o=some (.r ao)→Region.wanted o (yielded ops a.tmps)=true→∃v rd st',jg P ops o rd v a∧(∀c∈rd,E.w.cell? c.1=some c.2∧((E.O c.1.block=none∧c.1.block<E.w.heap.size)∨∃r∈JC st ao,(r.head?=some 0∨r.head?=some 1)∧E.O c.1.block=some r∧c.1.block<E.w.heap.size))∧
      zA E N V st' (a.put o.dst v).tmps∧K st'∧st'.ts.map (·.1)=(Z2.r ao).keys (st.ts.map (·.1)):=by
    intro hstep hstrip hw
    obtain⟨A,d,hd1,h2,⟨v,rd,hrd,hy,R'⟩,h3⟩:∃A d,o.dst=some d∧ao.dst=some d∧jB (JC st ao) E N V st a P o d A∧K (st.putT d A):=by
      rcases Oo hstep with h|h
      · obtain⟨A,d,h1,h2,h3⟩:=zb9 h
        obtain⟨d',hd1,hd2,hro⟩:=KW R hstrip h1 F
        rw[h2] at hd2
        cases hd2
        exact⟨A,d,hd1,h2,hro,h3⟩
      · obtain⟨A,d,h1,h2,h3,h4,_⟩:=Wi (Ls:=JC st ao) R hstrip F h
        exact⟨A,d,h1,h2,h3,h4⟩
    exact⟨v,rd,st.putT d A,.inl ⟨hw,hy⟩,hrd,by rw[hd1];exact R',h3,by simp[Z2.keys,Z2.dst,h2,zc.putT]⟩
  unfold qy at hs
  split at hs
  · rename_i hg
    obtain⟨b',hb,e⟩:=zE hs
    cases e
    exact go h.2 hb (qZ hg)
  · rename_i j want hg
    split at hs
    · rename_i t ht
      obtain⟨b',hb,e⟩:=zq hs
      split at e
      case isFalse=>cases e
      rename_i hdd
      cases e
      simp only[Zv] at h
      split at h
      · rename_i v hv
        have hwt:=qY (ops:=ops) R hg ht hv
        cases hvw:(v==want) with
        |true=>exact go (h.1 (by simpa using hvw)).2 hb (hwt.trans hvw)
        | false=>
          have h3:=h.2 (by cases v<;>cases want<;>simp at hvw⊢)
          split at h3
          · rename_i d hd
            have F1:=F d hd
            refine⟨undef,[],st.putT d (.sc (.tuple #[])),.inr ⟨hwt.trans hvw,rfl⟩,(fun c hc=>by cases hc),?_,h3,?_⟩
            · rw[hdd.symm.trans hd]
              exact Zz R F1 undef
            · simp only[Z2.keys];rw[hd];rfl
          · exact h3.elim
      · rename_i vs hv
        obtain⟨rfl,h3⟩:=h
        split at h3
        · rename_i d hd
          have F1:=F d hd
          refine⟨undef,[],st.putT d (.sc (.tuple #[])),.inr ⟨qr (ops:=ops) R hg ht hv,rfl⟩,(fun c hc=>by cases hc),?_,h3,?_⟩
          · rw[hdd.symm.trans hd]
            exact Zz R F1 undef
          · simp only[Z2.keys];rw[hd];rfl
        · exact h3.elim
      · exact h.elim
    · cases hs
theorem uJ {md:Region.Mode}{listed:Array Bool}{i:Nat}(h:(Region.ready md ops listed==[i])=true):Region.ready md ops listed=[i]:=by simpa using h
def mkV (st:zc)(l c:zB)(sz bs:Nat)(zs:List Value):Option zb:=
 match st.dec l,st.dec c with
 |some n,some m=>if 0≤n∧n≤m∧bs*m.toNat≤140737488355328∧m≤9223372036854775807 then some (.own (some sz) (zu zs n.toNat)) else none
 |_,_=>none
def Jl (st:zc):zl→Option (Nat×zb)
 |(none,.mk d l c sz bs zs)=>(mkV st l c sz bs zs).map fun A=>(d,A)
 |_=>none
theorem yQ {d:Nat}{l c:zB}{sz bs:Nat}{zs:List Value}:Jl st (none,.mk d l c sz bs zs)=(mkV st l c sz bs zs).map fun A=>(d,A):=rfl
def WD (ds:List Nat):zl→Bool
 |(none,.mk _ x y _ _ _)=>JW ds x&&JW ds y
 |_=>false
theorem Qo {ds:List Nat}{g:zl}(h:WD ds g=true):∃d l c sz bs zs,g=(none,.mk d l c sz bs zs)∧JW ds l=true∧JW ds c=true:=by
 obtain⟨gd,b⟩:=g
 cases gd with
 |some _=>cases h
 | none=>
   cases b with
   |mk d l c sz bs zs=>simp only[WD,Bool.and_eq_true] at h;exact⟨d,l,c,sz,bs,zs,rfl,h.1,h.2⟩
   |_=>cases h
theorem zb6 (d:Nat)(l c:zB)(sz bs:Nat)(zs:List Value):aMk st d l c sz bs zs=(mkV st l c sz bs zs).map (st.putT d):=by
 unfold aMk mkV
 cases st.dec l with
 |none=>rfl
 | some n=>
   cases st.dec c with
   |none=>rfl
   | some m=>
     simp only[]
     split<;>rfl
theorem Xr {g:zl}{d:Nat}{A:zb}(h:Jl st g=some (d,A)):g.2.dst=some d:=by
 obtain⟨gd,b⟩:=g
 cases gd with
 |some _=>cases h
 | none=>
   cases b with
   | mk d' l c sz bs zs=>
     rw[yQ] at h
     obtain⟨A',_,e⟩:=Option.map_eq_some_iff.1 h
     cases e;rfl
   |_=>cases h
theorem U3 {Ls:List (List Nat)}{K:zc→Prop}{d:Nat}{l c:zB}{sz bs:Nat}{zs:List Value}:Zv P Ls K st (none,.mk d l c sz bs zs)↔∃A,Jl st (none,.mk d l c sz bs zs)=some (d,A)∧K (st.putT d A):=by
 show(true=true∧ZQ (aMk st d l c sz bs zs) K)↔_
 rw[zb6,yQ]
 cases h:mkV st l c sz bs zs with
 |none=>simp[ZQ]
 |some A=>simp[ZQ]
theorem vc {ds:List Nat}{x:zB}(h:JW ds x=true){X:List (Nat×zb)}(hX:∀p∈X,p.1∈ds):zc.dec {st with ts:=X++st.ts} x=st.dec x:=by
 unfold zc.dec
 cases x with
 | t j=>
   simp only[JW,Bool.not_eq_true',List.contains_eq_mem,decide_eq_false_iff_not] at h
   have:zX (X++st.ts) j=zX st.ts j:=by
    induction X with
    |nil=>rfl
    | cons p X ih=>
      obtain⟨i,A⟩:=p
      rw[List.cons_append]
      show(if j=i then some A else zX (X++st.ts) j)=_
      rw[if_neg (fun e=>h (by have:=hX (i,A) (by simp);rw[e];exact this)),ih fun p hp=>hX p (by simp[hp])]
   show(zb.int? (jm (zX (X++st.ts) j) (zX st.vs j)))=_
   rw[this];rfl
 |c v=>rfl
 |f g=>rfl
theorem Wk {ds:List Nat}{g:zl}(h:WD ds g=true){X:List (Nat×zb)}(hX:∀p∈X,p.1∈ds):Jl {st with ts:=X++st.ts} g=Jl st g:=by
 obtain⟨d,l,c,sz,bs,zs,rfl,h1,h2⟩:=Qo h
 rw[yQ,yQ]
 unfold mkV
 rw[vc h1 hX,vc h2 hX]
theorem pq {X Y:List (Nat×zb)}(h:X.Perm Y):(X.map (·.1)).Nodup→∀j,zX X j=zX Y j:=by
 induction h with
 |nil=>intro _ _;rfl
 | cons x _ ih=>
   intro hn j
   obtain⟨i,A⟩:=x
   rw[List.map_cons,List.nodup_cons] at hn
   show(if j=i then some A else _)=(if j=i then some A else _)
   rw[ih hn.2 j]
 | swap x y l=>
   intro hn j
   obtain⟨i,A⟩:=x
   obtain⟨k,B⟩:=y
   simp only[List.map_cons,List.nodup_cons,List.mem_cons,not_or] at hn
   show(if j=k then some B else if j=i then some A else zX l j)=(if j=i then some A else if j=k then some B else zX l j)
   by_cases e1:j=k
   · by_cases e2:j=i
     · exact absurd (e1.symm.trans e2) hn.1.1
     · rw[if_pos e1,if_neg e2,if_pos e1]
   · rw[if_neg e1,if_neg e1]
 | trans h1 _ ih1 ih2=>
   intro hn j
   rw[ih1 hn j,ih2 ((h1.map _).nodup_iff.1 hn) j]
theorem UQ (X T:List (Nat×zb))(j:Nat):zX (X++T) j=(match zX X j with|some A=>some A|none=>zX T j):=by
 induction X with
 |nil=>rfl
 | cons p X ih=>
   obtain⟨i,A⟩:=p
   rw[List.cons_append]
   show(if j=i then some A else zX (X++T) j)=(match(if j=i then some A else zX X j) with|some A=>some A|none=>zX T j)
   split
   · rfl
   · exact ih
theorem zA.perm {E:Env}{tm:Array Value}{X X' T:List (Nat×zb)}(h:X.Perm X')(hn:(X.map (·.1)).Nodup)(R:zA E N V {st with ts:=X++T} tm):zA E N V {st with ts:=X'++T} tm:=by
 have hg:∀i,zc.get {st with ts:=X'++T} i=zc.get {st with ts:=X++T} i:=fun i=>by
  show jm (zX (X'++T) i) (zX st.vs i)=jm (zX (X++T) i) (zX st.vs i)
  rw[UQ,UQ,pq h hn]
 have hat:∀p,zc.at {st with ts:=X'++T} p=zc.at {st with ts:=X++T} p:=fun p=>by
  match p with
  |[]=>rfl
  |[0]=>rfl
  |[1]=>rfl
  |[1,_]=>rfl
  |0::i::ks=>show(zc.get {st with ts:=X'++T} i).sub ks=_;rw[hg];rfl
  |1::id::k::ks=>rfl
  |(_+2)::_=>rfl
 have hm:∀r,r∈(X++T).map (·.1)↔r∈(X'++T).map (·.1):=fun r=>((h.append_right T).map _).mem_iff
 refine⟨R.size,R.keys,R.num,fun d hd hk=>R.disj d hd ((hm d).2 hk),R.lim,fun i A r hA hr=>?_,fun i=>?_,R.objs⟩
 · rcases R.roots i A r ((hg i).symm.trans hA) hr with h1|h1
   · exact .inl h1
   · exact .inr ((hm r).1 h1)
 · have hs:=R.slots i
   rw[hg i]
   generalize zc.get {st with ts:=X++T} i=A at hs
   cases A with
   | at_ p=>
     obtain⟨B,v,k1,k2⟩:=hs
     exact⟨B,v,(hat p).trans k1,k2⟩
   | addr p k=>
     obtain⟨hd,cs,v,b,o,k1,k2⟩:=hs
     exact⟨hd,cs,v,b,o,(hat p).trans k1,k2⟩
   |_=>exact hs
theorem O0 (listed:Array Bool)(i j:Nat):(listed.setIfInBounds i true).setIfInBounds j true=(listed.setIfInBounds j true).setIfInBounds i true:=by
 by_cases h:i=j
 · subst h;rfl
 · exact Array.setIfInBounds_comm _ _ h
theorem UO {S T:List Nat}(h:S.Perm T):∀listed:Array Bool,xI listed S=xI listed T:=by
 induction h with
 |nil=>intro _;rfl
 |cons x _ ih=>intro l;exact ih _
 |swap x y S=>intro l;show xI ((l.setIfInBounds y true).setIfInBounds x true) S=xI ((l.setIfInBounds x true).setIfInBounds y true) S;rw[O0]
 |trans _ _ ih1 ih2=>intro l;exact(ih1 l).trans (ih2 l)
theorem Wo (listed:Array Bool)(S:List Nat)(i:Nat):xI listed (i::S)=(xI listed S).setIfInBounds i true:=by
 rw[UO (List.perm_append_singleton i S).symm]
 simp[xI,List.foldl_append]
theorem Wp (listed:Array Bool)(S:List Nat):(xI listed S).size=listed.size:=by
 induction S with
 |nil=>rfl
 |cons i S ih=>rw[Wo];simpa using ih
theorem uQ (listed:Array Bool)(S:List Nat)(j:Nat)(b:Bool)(hj:j<listed.size):(xI listed S).getD j b=(decide (j∈S)||listed.getD j b):=by
 induction S with
 |nil=>simp[xI]
 | cons i S ih=>
   have hs:=Wp listed S
   rw[Wo]
   simp only[Array.getD_eq_getD_getElem?] at ih⊢
   by_cases e:i=j
   · subst e;simp[Array.getElem?_setIfInBounds,hs,hj]
   · rw[Array.getElem?_setIfInBounds_ne e,ih];simp[Ne.symm e]
def Jg (S:List Nat)(ws:List Zg):List Zg:=ws.filter fun x=>S.all fun i=> !x.1.contains i
theorem yq (i:Nat)(S:List Nat)(ws:List Zg):Zg.keep i (Jg S ws)=Jg (i::S) ws:=by
 unfold Zg.keep Jg
 rw[List.filter_filter]
 rfl
theorem ga {S T:List Nat}(h:S.Perm T)(ws:List Zg):Jg S ws=Jg T ws:=by
 unfold Jg
 refine List.filter_congr fun x _=>?_
 rw[Bool.eq_iff_iff,List.all_eq_true,List.all_eq_true]
 exact⟨fun k i hi=>k i (h.mem_iff.2 hi),fun k i hi=>k i (h.mem_iff.1 hi)⟩
theorem Wj {X:List jC→zc→Prop}{ds:List Nat}:∀(l:List (Nat×zl)) (S:List Nat) (ws:List Zg) (Y:List (Nat×zb)),(∀p∈l,WD ds p.2=true∧∀d,p.2.2.dst=some d→d∈ds)→(∀p∈Y,p.1∈ds)→zdE P X l (wD (Jg S ws)) {st with ts:=Y++st.ts}→
    ∃kvs:List (Nat×zb),l.map (fun p=>Jl st p.2)=kvs.map some∧X (wD (Jg ((l.map (·.1)).reverse++S) ws)) {st with ts:=(kvs.reverse++Y)++st.ts}
  |[],S,ws,Y,_,_,h=>⟨[],rfl,h⟩
  | (i,g)::l,S,ws,Y,hl,hY,h=>by
    obtain⟨hf,hd⟩:=hl (i,g) (by simp)
    obtain⟨d,x,c,sz,bs,zs,rfl,h1,h2⟩:=Qo hf
    obtain⟨A,hA,hk⟩:=U3.1 h
    rw[Wk hf hY] at hA
    rw[Ws,yq] at hk
    obtain⟨kvs,e,hX⟩:=Wj l (i::S) ws ((d,A)::Y) (fun p hp=>hl p (by simp[hp])) (fun p hp=>by
      rcases List.mem_cons.1 hp with rfl|hp
      · exact hd d rfl
      · exact hY p hp) hk
    refine⟨(d,A)::kvs,by rw[List.map_cons,List.map_cons,e,hA],?_⟩
    simpa using hX
theorem ready_mono {A B:Array Bool}{i:Nat}(h:i∈Region.ready .any ops A)(hs:∀j,A.getD j false=true→B.getD j false=true)(hB:B.getD i true=false):i∈Region.ready .any ops B:=by
 unfold Region.ready at h⊢
 rw[List.mem_filter] at h⊢
 obtain⟨h1,h2⟩:=h
 refine⟨h1,?_⟩
 rw[Bool.and_eq_true] at h2⊢
 refine⟨by rw[hB];rfl,?_⟩
 have h3:=h2.2
 cases ho:ops[i]? with
 |none=>rw[ho] at h3;cases h3
 | some o=>
   rw[ho] at h3
   simp only[Option.map_some,Option.getD_some] at h3⊢
   rw[Array.all_eq_true'] at h3⊢
   intro e he
   have:=h3 e he
   rw[Bool.or_eq_true] at this⊢
   exact this.imp id (hs e.on)
theorem yR {ds:List Nat}:∀(l:List (Nat×zl)) (ks:List Nat),uP N V ds l ks=true→(∀p∈l,WD ds p.2=true∧∃d,p.2.2.dst=some d∧d<N∧d∉V∧d∉ks)∧(wB l).Nodup∧yS l ks=(wB l).reverse++ks
 |[],ks,_=>⟨by simp,List.nodup_nil,rfl⟩
 | (i, g)::l,ks,h=>by
   simp only[uP,Bool.and_eq_true] at h
   obtain⟨h1,h2,h3⟩:=h
   have hf:WD ds g=true:=by
    obtain⟨gd,b⟩:=g
    cases gd with
    |some _=>cases h1
    |none=>cases b<;>first|exact h1|cases h1
   obtain⟨d,x,c,sz,bs,zs,rfl,k1,k2⟩:=Qo hf
   have hd:d<N∧d∉V∧d∉ks:=by
    simp only[uO,Bool.and_eq_true] at h2
    have:=h2.1
    simp only[Z2.ok,Z2.dst,Bool.and_eq_true,decide_eq_true_eq,Bool.not_eq_true',List.contains_eq_mem,decide_eq_false_iff_not] at this
    exact⟨this.1.1,this.1.2,this.2⟩
   obtain⟨j1,j2,j3⟩:=yR l (d::ks) h3
   refine⟨fun p hp=>?_,?_,?_⟩
   · rcases List.mem_cons.1 hp with rfl|hp
     · exact⟨hf,d,rfl,hd⟩
     · obtain⟨a1,d',a2,a3,a4,a5⟩:=j1 p hp
       exact⟨a1,d',a2,a3,a4,fun h=>a5 (List.mem_cons_of_mem _ h)⟩
   · show(d::wB l).Nodup
     rw[List.nodup_cons]
     refine⟨fun hm=>?_,j2⟩
     obtain⟨p,hp,hpd⟩:=List.mem_filterMap.1 hm
     obtain⟨_,d',a2,_,_,a5⟩:=j1 p hp
     rw[a2] at hpd
     cases hpd
     exact a5 (by simp)
   · show yS l (d::ks)=(d::wB l).reverse++ks
     rw[j3];simp
theorem OS {g:zl}{ds ks ks':List Nat}(hf:WD ds g=true){d:Nat}(hd:g.2.dst=some d)(h1:d<N)(h2:d∉V)(h3:d∉ks'):uO N V g ks'=true:=by
 obtain⟨d',x,c,sz,bs,zs,rfl,k1,k2⟩:=Qo hf
 cases hd
 simp[uO,Z2.ok,Z2.dst,h1,h2,h3]
theorem UP {listed:Array Bool}{S T:List Nat}(h:∀i∈S,i∈T)(j:Nat)(hj:(xI listed S).getD j false=true):(xI listed T).getD j false=true:=by
 by_cases hs:j<listed.size
 · rw[uQ _ _ _ _ hs] at hj⊢
   rw[Bool.or_eq_true,decide_eq_true_iff] at hj⊢
   exact hj.imp (h j) id
 · rw[Array.getD_eq_getD_getElem?,Array.getElem?_eq_none (by rw[Wp];omega)] at hj
   cases hj
theorem UD {A:Array Bool}{i:Nat}(h:i∈Region.ready .any ops A):A.getD i true=false∧i<A.size:=by
 have:=(List.mem_filter.1 h).2
 rw[Bool.and_eq_true] at this
 have h1:A.getD i true=false:=by simpa using this.1
 refine⟨h1,?_⟩
 refine Classical.byContradiction fun hn=>?_
 rw[Array.getD_eq_getD_getElem?,Array.getElem?_eq_none (by omega)] at h1
 cases h1
theorem ot {listed:Array Bool}{S:List Nat}{i:Nat}(h:listed.getD i true=false)(hi:i<listed.size)(hS:i∉S):(xI listed S).getD i true=false:=by
 rw[uQ _ _ _ _ hi,h,decide_eq_false hS];rfl
theorem oH (hQ:∀c a w,¬Q (.panic c) a w)(hsel:Region.noSelect ops=true):∀(sk:Sk) (t:ZP) (fuel:Nat) (listed:Array Bool) (ws:List Zg) {E:Env} {st:zc} {a:Act} {K:zc→Prop},sk.build P rs ops=some t→sk.ok ops fuel listed=true→t.okT N V (st.ts.map (·.1))=true→
    JO P E→zA E N V st a.tmps→wF E ws→([],L,[])∈ws→jh P K t (wD ws) st→gC L E N V a K (Q .normal)→Jk P .any ops Q fuel ws listed a E.w:=by
  have eff:∀{i:Nat} {g:zl} {fuel:Nat} {listed:Array Bool} {ws:List Zg} {E:Env} {st:zc} {a:Act} {K:zc→Prop} {t:ZP},qS P rs ops i=some g→uO N V g (st.ts.map (·.1))=true→JO P E→zA E N V st a.tmps→wF E ws→([],L,[])∈ws→
      Zv P (Jf (ZB i (wD ws))) (jh P K t (ZB i (wD ws))) st g→
      (∀E' st' a',JO P E'→zA E' N V st' a'.tmps→a'.defers=a.defers→zL L E E'→wF E' (Zg.keep i ws)→([],L,[])∈Zg.keep i ws→st'.ts.map (·.1)=g.2.keys (st.ts.map (·.1))→jh P K t (wD (Zg.keep i ws)) st'→Jk P .any ops Q fuel (Zg.keep i ws) (listed.setIfInBounds i true) a' E'.w)→
      wpOp P ops Q i (fun a' w'=>(∀x∈Zg.keep i ws,∀c∈x.2.2,E.w.cell? c.1=some c.2→w'.cell? c.1=some c.2)∧Jk P .any ops Q fuel (Zg.keep i ws) (listed.setIfInBounds i true) a' w') a E.w:=by
    intro i g fuel listed ws E st a K t hg hok hT R W hL h ih
    obtain⟨o,ho,hs⟩:=Option.bind_eq_some_iff.1 hg
    rw[Ws] at h
    have hL':([],L,[])∈Zg.keep i ws:=List.mem_filter.2 ⟨hL,by simp⟩
    have W1:wF E (Zg.keep i ws):=W.sub fun x hx=>(List.mem_filter.1 hx).1
    refine zcK hT R ho hs hok h fun E' st' a' R' hd P' hks hk=>?_
    obtain⟨W2,hc⟩:=W1.kept P'
    refine⟨fun x hx c hc' hcell=>?_,ih E' st' a' (hT.pres P') R' hd ⟨P'.size,P'.os,P'.tape,P'.output,P'.old,P'.far,P'.farB,P'.ids,fun b r h=>P'.keep b r ⟨List.mem_flatMap.2 ⟨([],L),List.mem_map.2 ⟨_,hL',rfl⟩,h.1⟩,h.2⟩⟩ W2 hL' hks hk⟩
    have:=hc x hx c hc'
    simp only[World.cell?] at hcell⊢
    rw[this]
    exact hcell
  intro sk
  induction sk with
  | done=>
    intro t fuel listed ws E st a K hb hok hokT hT R W hL h hK
    cases hb
    have hr:Region.ready .any ops listed=[]:=by
      cases fuel<;>simpa[Sk.ok] using hok
    cases fuel with
    |zero=>exact⟨hr,hK E st a R rfl (zL.refl E) h⟩
    |succ fuel=>exact⟨fun _=>hK E st a R rfl (zL.refl E) h,by rw[hr];simp⟩
  | take i later t ih=>
    intro t0 fuel listed ws E st a K hb hok hokT hT R W hL h hK
    cases fuel with
    |zero=>cases hok
    | succ fuel=>
      simp only[Sk.ok,Bool.and_eq_true] at hok
      obtain⟨⟨hr,htk⟩,hok3⟩:=hok
      simp only[Sk.build] at hb
      obtain⟨g,hg,hb⟩:=zq hb
      obtain⟨t',ht',rfl⟩:=zE hb
      obtain⟨oi,hoi,hs⟩:=Option.bind_eq_some_iff.1 hg
      simp only[ZP.okT,Bool.and_eq_true] at hokT
      obtain⟨hokG,hokT⟩:=hokT
      simp only[jh] at h
      split at h
      · rename_i ao hao
        obtain⟨v,rd,st',hy,hrd,R',hk,hks⟩:=zeO R hs hao hokG h
        unfold KB at htk
        rw[hoi] at htk
        simp only[Bool.and_eq_true,Bool.not_eq_true',List.contains_eq_mem,decide_eq_false_iff_not,List.all_eq_true] at htk
        obtain⟨⟨hself,hlat⟩,hfree⟩:=htk
        have H:=ih t' fuel (listed.setIfInBounds i true) ((later,JC st ao,rd)::ws) (a:=a.put oi.dst v) ht' hok3 (by rw[hks];exact hokT) hT R' (fun x hx c hc=>by
          cases hx with
          |head=>exact(hrd c hc).2
          |tail _ hx=>exact W x hx c hc) (.tail _ hL) hk (fun E2 st2 a2 R2 hd2 P2 hk2=>hK E2 st2 a2 R2 (hd2.trans (by cases oi.dst<;>rfl)) P2 hk2)
        have H2:=ut (Ls:=JC st ao) hoi hsel hQ (fun k hk' o ho=>by
          have:=(hlat k hk').2
          rw[ho] at this
          simp only[] at this
          obtain⟨e,he,hb⟩:=Array.any_eq_true'.1 this
          simp only[Bool.and_eq_true,Bool.or_eq_true,beq_iff_eq,List.contains_eq_mem,decide_eq_true_eq] at hb
          exact⟨e,he,hb.1,hb.2⟩) hself fuel ((later,JC st ao,rd)::ws) listed a E.w (fun j oj hj hji hun hjl=>by
          have:=hfree j (List.mem_range.2 (Array.getElem?_eq_some_iff.1 hj).1)
          rw[hj] at this
          simp only[Bool.or_eq_true,beq_iff_eq,hji,false_or,hun,Bool.false_eq_true,List.contains_eq_mem,decide_eq_true_eq,hjl] at this
          exact this) (fun k hk'=>(hlat k hk').1) (by simpa using hr) hy (fun c hc=>(hrd c hc).1) (.head _) H
        exact J4 _ _ _ _ _ _ (fun x hx=> .tail _ hx) H2
      · exact h.elim
  | one i t ih=>
    intro t0 fuel listed ws E st a K hb hok hokT hT R W hL h hK
    cases fuel with
    |zero=>cases hok
    | succ fuel=>
      simp only[Sk.ok,Bool.and_eq_true] at hok
      obtain⟨hr,hok3⟩:=hok
      have hr:=uJ hr
      simp only[Sk.build] at hb
      obtain⟨g,hg,hb⟩:=zq hb
      obtain⟨t',ht',rfl⟩:=zE hb
      simp only[ZP.okT,Bool.and_eq_true] at hokT
      simp only[jh] at h
      refine⟨fun h0=>(by rw[hr] at h0;cases h0),fun j hj=>?_⟩
      rw[hr] at hj
      cases List.mem_singleton.1 hj
      exact eff hg hokT.1 hT R W hL h fun E' st' a' hT' R' hd P' W' hL' hks hk=>ih t' fuel _ _ ht' hok3 (by rw[hks];exact hokT.2) hT' R' W' hL' hk fun E2 st2 a2 R2 hd2 P2 hk2=>hK E2 st2 a2 R2 (hd2.trans hd) (P'.trans P2) hk2
  | two i t j u ih1 ih2=>
    intro t0 fuel listed ws E st a K hb hok hokT hT R W hL h hK
    cases fuel with
    |zero=>cases hok
    | succ fuel=>
      simp only[Sk.ok,Bool.and_eq_true] at hok
      obtain⟨⟨hr,hok3⟩,hok4⟩:=hok
      have hr:Region.ready .any ops listed=[i,j]:=by simpa using hr
      simp only[Sk.build] at hb
      obtain⟨g,hg,hb⟩:=zq hb
      obtain⟨t',ht',hb⟩:=zq hb
      obtain⟨g2,hg2,hb⟩:=zq hb
      obtain⟨u',hu',rfl⟩:=zE hb
      simp only[ZP.okT,Bool.and_eq_true] at hokT
      obtain⟨⟨⟨o1,o2⟩,o3⟩,o4⟩:=hokT
      simp only[jh] at h
      refine⟨fun h0=>(by rw[hr] at h0;cases h0),fun k hk=>?_⟩
      rw[hr] at hk
      rcases List.mem_cons.1 hk with rfl|hk
      · exact eff hg o1 hT R W hL h.1 fun E' st' a' hT' R' hd P' W' hL' hks hk=>ih1 t' fuel _ _ ht' hok3 (by rw[hks];exact o2) hT' R' W' hL' hk fun E2 st2 a2 R2 hd2 P2 hk2=>hK E2 st2 a2 R2 (hd2.trans hd) (P'.trans P2) hk2
      · cases List.mem_singleton.1 hk
        exact eff hg2 o3 hT R W hL h.2 fun E' st' a' hT' R' hd P' W' hL' hks hk=>ih2 u' fuel _ _ hu' hok4 (by rw[hks];exact o4) hT' R' W' hL' hk fun E2 st2 a2 R2 hd2 P2 hk2=>hK E2 st2 a2 R2 (hd2.trans hd) (P'.trans P2) hk2
  | three i t j u q v ih1 ih2 ih3=>
    intro t0 fuel listed ws E st a K hb hok hokT hT R W hL h hK
    cases fuel with
    |zero=>cases hok
    | succ fuel=>
      simp only[Sk.ok,Bool.and_eq_true] at hok
      obtain⟨⟨⟨hr,hok3⟩,hok4⟩,hok5⟩:=hok
      have hr:Region.ready .any ops listed=[i,j,q]:=by simpa using hr
      simp only[Sk.build] at hb
      obtain⟨g,hg,hb⟩:=zq hb
      obtain⟨t',ht',hb⟩:=zq hb
      obtain⟨g2,hg2,hb⟩:=zq hb
      obtain⟨u',hu',hb⟩:=zq hb
      obtain⟨g3,hg3,hb⟩:=zq hb
      obtain⟨v',hv',rfl⟩:=zE hb
      simp only[ZP.okT,Bool.and_eq_true] at hokT
      obtain⟨⟨⟨⟨⟨o1,o2⟩,o3⟩,o4⟩,o5⟩,o6⟩:=hokT
      simp only[jh] at h
      refine⟨fun h0=>(by rw[hr] at h0;cases h0),fun k hk=>?_⟩
      rw[hr] at hk
      rcases List.mem_cons.1 hk with rfl|hk
      · exact eff hg o1 hT R W hL h.1 fun E' st' a' hT' R' hd P' W' hL' hks hk=>ih1 t' fuel _ _ ht' hok3 (by rw[hks];exact o2) hT' R' W' hL' hk fun E2 st2 a2 R2 hd2 P2 hk2=>hK E2 st2 a2 R2 (hd2.trans hd) (P'.trans P2) hk2
      · rcases List.mem_cons.1 hk with rfl|hk
        · exact eff hg2 o3 hT R W hL h.2.1 fun E' st' a' hT' R' hd P' W' hL' hks hk=>ih2 u' fuel _ _ hu' hok4 (by rw[hks];exact o4) hT' R' W' hL' hk fun E2 st2 a2 R2 hd2 P2 hk2=>hK E2 st2 a2 R2 (hd2.trans hd) (P'.trans P2) hk2
        · cases List.mem_singleton.1 hk
          exact eff hg3 o5 hT R W hL h.2.2 fun E' st' a' hT' R' hd P' W' hL' hks hk=>ih3 v' fuel _ _ hv' hok5 (by rw[hks];exact o6) hT' R' W' hL' hk fun E2 st2 a2 R2 hd2 P2 hk2=>hK E2 st2 a2 R2 (hd2.trans hd) (P'.trans P2) hk2
  | many l t ih=>
    intro t0 fuel listed ws E st a K hb hok hokT hT R W hL h hK
    simp only[Sk.ok,Bool.and_eq_true,decide_eq_true_eq,beq_iff_eq,List.all_eq_true] at hok
    obtain⟨hfuel,hrd,hchk,hok3⟩:=hok
    simp only[Sk.build] at hb
    obtain⟨l',hl',hb⟩:=zq hb
    obtain⟨t',ht',rfl⟩:=zE hb
    simp only[ZP.okT,Bool.and_eq_true] at hokT
    obtain⟨hmany,hokT⟩:=hokT
    obtain⟨hfr,hnd,hkeys⟩:=yR l' _ hmany
    have hpair:∀(l:List Nat) (l':List (Nat×zl)),(l.mapM fun i=>(qS P rs ops i).map fun g=>(i,g))=some l'→l'.map (·.1)=l∧∀p∈l',qS P rs ops p.1=some p.2:=by
      intro l
      induction l with
      |nil=>intro l' h;simp at h;subst h;exact⟨rfl,by simp⟩
      | cons i l ih=>
        intro l' h
        rw[List.mapM_cons] at h
        obtain⟨p,hp,h⟩:=Option.bind_eq_some_iff.1 h
        obtain⟨r,hr,h⟩:=Option.bind_eq_some_iff.1 h
        obtain⟨g,hg,rfl⟩:=Option.map_eq_some_iff.1 hp
        cases h
        obtain⟨e1,e2⟩:=ih r hr
        refine⟨by rw[List.map_cons,e1],fun p hp=>?_⟩
        rcases List.mem_cons.1 hp with rfl|hp
        · exact hg
        · exact e2 p hp
    obtain⟨hidx,hgop⟩:=hpair l l' hl'
    have hlen:l'.length=l.length:=by rw[←hidx,List.length_map]
    have hlnd:l.Nodup:=by rw[←hrd];exact List.nodup_range.filter _
    have hk0:Jg [] ws=ws:=by unfold Jg;simp
    simp only[jh] at h
    obtain⟨kvs,hkv,hX⟩:=Wj (st:=st) l' [] ws [] (fun p hp=>⟨(hfr p hp).1,fun d hd=>List.mem_filterMap.2 ⟨p,hp,hd⟩⟩) (by simp) (by rw[hk0];exact h)
    have hkd:kvs.map (·.1)=wB l':=by
      have:∀(l:List (Nat×zl)) (kvs:List (Nat×zb)),l.map (fun p=>Jl st p.2)=kvs.map some→kvs.map (·.1)=wB l:=by
        intro l
        induction l with
        |nil=>intro kvs h;cases kvs with|nil=>rfl|cons _ _=>cases h
        | cons p l ih=>
          intro kvs h
          cases kvs with
          |nil=>cases h
          | cons q kvs=>
            rw[List.map_cons,List.map_cons,List.cons.injEq] at h
            have hd:=Xr h.1
            show q.1::kvs.map (·.1)=wB (p::l)
            rw[ih kvs h.2]
            unfold wB
            rw[List.filterMap_cons,hd]
      exact this l' kvs hkv
    have main :∀(n:Nat) (Rm:List (Nat×zl)) (S:List Nat) (X:List (Nat×zb)) (E1:Env) (a1:Act),Rm.length=n→(Rm.map (·.1)++S).Perm l→(∀p∈Rm,p∈l')→(Rm.map (fun p=>Jl st p.2)++X.map some).Perm (kvs.map some)→zA E1 N V {st with ts:=X++st.ts} a1.tmps→wF E1 (Jg S ws)→a1.defers=a.defers→zL L E E1→Jk P .any ops Q (n+(fuel - l.length)) (Jg S ws) (xI listed S) a1 E1.w:=by
      intro n
      induction n with
      | zero=>
        intro Rm S X E1 a1 hRm hS _ hXp R1 W1 hd1 P1
        cases List.length_eq_zero_iff.1 hRm
        have hS:S.Perm l:=hS
        have hXk:X.Perm kvs:=by
          have h1:(X.map some).Perm (kvs.map some):=hXp
          have h2:=h1.filterMap id
          simpa[List.filterMap_map] using h2
        have hXn:(X.map (·.1)).Nodup:=by rw[(hXk.map _).nodup_iff,hkd];exact hnd
        have R2:=zA.perm (hXk.trans (List.reverse_perm kvs).symm) hXn R1
        have hk1:Jg ((l'.map (·.1)).reverse++[]) ws=Jg S ws:=ga (by rw[List.append_nil,hidx];exact(List.reverse_perm l).trans hS.symm) ws
        rw[hk1,List.append_nil] at hX
        rw[Nat.zero_add,UO hS]
        refine ih t' _ _ _ ht' hok3 ?_ (hT.pres P1) R2 W1 (List.mem_filter.2 ⟨hL,by simp⟩) hX fun E2 st2 a2 R2 hd2 P2 hk2=>hK E2 st2 a2 R2 (hd2.trans hd1) (P1.trans P2) hk2
        show t'.okT N V ((kvs.reverse++st.ts).map (·.1))=true
        rw[List.map_append,List.map_reverse,hkd,←hkeys];exact hokT
      | succ n ihn=>
        intro Rm S X E1 a1 hRm hS hsub hXp R1 W1 hd1 P1
        have hnd1:(Rm.map (·.1)++S).Nodup:=hS.nodup_iff.2 hlnd
        have hin:∀i∈Region.ready .any ops (xI listed S),i∈Rm.map (·.1):=by
          intro i hi
          obtain⟨u1,u2⟩:=UD hi
          rw[Wp] at u2
          rw[uQ _ _ _ _ u2,Bool.or_eq_false_iff,decide_eq_false_iff_not] at u1
          by_cases hil:i∈l
          · rcases List.mem_append.1 (hS.mem_iff.2 hil) with h|h
            · exact h
            · exact absurd h u1.1
          · cases Rm with
            |nil=>cases hRm
            | cons r Rm=>
              have hr:r.1∈l:=hS.mem_iff.1 (by simp)
              have hrS:r.1∉S:=fun h=>(List.nodup_append.1 hnd1).2.2 r.1 (by simp) r.1 h rfl
              have:=ready_mono (B:=xI listed (l.erase r.1)) hi (UP fun j hj=>(List.mem_erase_of_ne (fun(e:j=r.1)=>hrS (by rw[←e];exact hj))).2 (hS.mem_iff.1 (List.mem_append.2 (.inr hj)))) (ot u1.2 u2 fun h=>hil (List.mem_of_mem_erase h))
              rw[hchk r.1 hr] at this
              rw[List.mem_singleton.1 this] at hil
              exact absurd hr hil
        have hne:Region.ready .any ops (xI listed S)≠ []:=by
          cases Rm with
          |nil=>cases hRm
          | cons r Rm=>
            have hr:r.1∈l:=hS.mem_iff.1 (by simp)
            have hrS:r.1∉S:=fun h=>(List.nodup_append.1 hnd1).2.2 r.1 (by simp) r.1 h rfl
            rw[←hrd] at hr
            obtain⟨u1,u2⟩:=UD hr
            have:=ready_mono (B:=xI listed S) hr (fun j hj=>by
              have:(xI listed []).getD j false=true:=hj
              exact UP (by simp) j this) (ot u1 u2 hrS)
            intro e
            rw[e] at this;cases this
        rw[show n+1+(fuel - l.length)=(n+(fuel - l.length))+1 by omega]
        refine⟨fun h0=>absurd h0 hne,fun i hi=>?_⟩
        obtain⟨⟨i',g⟩,hp,rfl⟩:=List.mem_map.1 (hin i hi)
        obtain⟨R1',R2',rfl⟩:=List.append_of_mem hp
        obtain⟨hf,d,hdd,d1,d2,d3⟩:=hfr _ (hsub _ hp)
        obtain⟨o,ho,hs⟩:=Option.bind_eq_some_iff.1 (hgop _ (hsub _ hp))
        have hds:d∈wB l':=List.mem_filterMap.2 ⟨_,hsub _ hp,hdd⟩
        obtain⟨kv,hkv1,hkv2⟩:∃kv,Jl st g=some kv∧kv∈kvs:=by
          have:Jl st g∈kvs.map some:=hXp.mem_iff.1 (List.mem_append.2 (.inl (List.mem_map.2 ⟨_,hp,rfl⟩)))
          obtain⟨kv,h1,h2⟩:=List.mem_map.1 this
          exact⟨kv,h2.symm,h1⟩
        obtain⟨d',A⟩:=kv
        have hd':=Xr hkv1
        rw[hdd] at hd'
        cases hd'
        have hXsub:∀q∈X,q∈kvs:=fun q hq=>by
          have:some q∈kvs.map some:=hXp.mem_iff.1 (List.mem_append.2 (.inr (List.mem_map.2 ⟨q,hq,rfl⟩)))
          obtain⟨q',h1,h2⟩:=List.mem_map.1 this
          cases h2;exact h1
        have hXds:∀q∈X,q.1∈wB l':=fun q hq=>by rw[←hkd];exact List.mem_map.2 ⟨q,hXsub q hq,rfl⟩
        have hvals:(some (d,A)::(R1'.map (fun p=>Jl st p.2)++R2'.map (fun p=>Jl st p.2))++X.map some).Perm (kvs.map some):=by
          refine List.Perm.trans ?_ hXp
          rw[List.map_append,List.map_cons,hkv1]
          exact(List.perm_middle.symm).append_right _
        have hkn:((d,A)::X).map (·.1)|>.Nodup:=by
          have h1:((some (d,A)::X.map some)).Sublist (some (d,A)::(R1'.map (fun p=>Jl st p.2)++R2'.map (fun p=>Jl st p.2))++X.map some):=by
            rw[List.cons_append]
            exact List.Sublist.cons_cons _ (List.sublist_append_right _ _)
          have h2:((some (d,A)::(R1'.map (fun p=>Jl st p.2)++R2'.map (fun p=>Jl st p.2))++X.map some).map fun o=>o.map (·.1)).Nodup:=by
            rw[(hvals.map _).nodup_iff]
            have:(kvs.map some).map (fun o:Option (Nat×zb)=>o.map (·.1))=(wB l').map some:=by rw[←hkd];simp
            rw[this]
            exact List.pairwise_map.2 (hnd.imp fun h e=>h (Option.some.inj e))
          have h3:=(h1.map fun o:Option (Nat×zb)=>o.map (·.1)).nodup h2
          have h4:((some (d,A)::X.map some).map fun o:Option (Nat×zb)=>o.map (·.1))=(((d,A)::X).map (·.1)).map some:=by simp
          rw[h4] at h3
          exact(List.pairwise_map.1 h3).imp fun h e=>h (congrArg some e)
        have hdX:d∉(X++st.ts).map (·.1):=by
          rw[List.map_append,List.mem_append,not_or]
          rw[List.map_cons,List.nodup_cons] at hkn
          exact⟨hkn.1,d3⟩
        obtain⟨d'',x,c,sz,bs,zs,rfl,k1,k2⟩:=Qo hf
        cases hdd
        have hL1:([],L,[])∈Jg (i'::S) ws:=List.mem_filter.2 ⟨hL,by simp⟩
        have W2:wF E1 (Jg (i'::S) ws):=W1.sub fun x hx=>by
          rw[←yq] at hx
          exact(List.mem_filter.1 hx).1
        rw[yq,←Wo]
        refine zcK (st:={st with ts:=X++st.ts}) (L:=Jf (wD (Jg (i'::S) ws))) (K:=fun s=>s=zc.putT {st with ts:=X++st.ts} d A) (hT.pres P1) R1 ho hs (OS (ks:=[]) hf rfl d1 d2 hdX) (U3.2 ⟨A,by rw[Wk hf hXds];exact hkv1,rfl⟩) fun E' st' a' R' hd P' hks hk=>?_
        subst hk
        obtain⟨W3,hc⟩:=W2.kept P'
        refine⟨fun x hx c hc' hcell=>?_,ihn (R1'++R2') (i'::S) ((d,A)::X) E' a' ?_ ?_ (fun p hp=>hsub p ?_) ?_ R' W3 (hd.trans hd1) (P1.trans ⟨P'.size,P'.os,P'.tape,P'.output,P'.old,P'.far,P'.farB,P'.ids,fun b r h=>P'.keep b r ⟨List.mem_flatMap.2 ⟨([],L),List.mem_map.2 ⟨_,hL1,rfl⟩,h.1⟩,h.2⟩⟩)⟩
        · have:=hc x hx c hc'
          simp only[World.cell?] at hcell⊢
          rw[this]
          exact hcell
        · simp at hRm⊢;omega
        · refine List.Perm.trans ?_ hS
          rw[List.map_append,List.map_append,List.map_cons,List.append_assoc,List.append_assoc,List.cons_append]
          exact List.Perm.append_left _ List.perm_middle
        · rcases List.mem_append.1 hp with hp|hp
          · exact List.mem_append.2 (.inl hp)
          · exact List.mem_append.2 (.inr (List.mem_cons_of_mem _ hp))
        · refine List.Perm.trans ?_ hvals
          rw[List.map_append,List.map_cons]
          exact List.perm_middle
    have:=main l'.length l' [] [] E a rfl (by rw[List.append_nil,hidx]) (fun p hp=>hp) (by rw[hkv];simp) R (by rw[hk0];exact W) rfl (zL.refl E)
    rw[hk0,hlen,show l.length+(fuel - l.length)=fuel by omega] at this
    exact this
end
end Go.Ga

namespace Go.Ga
open Go
def zb.cut (V:List Nat)(A:zb):zb:=
 match A.root with
 |some r=>bif V.contains r then A else .dead
 |none=>A
def zc.settle (st:zc)(V:List Nat):zc:={vs:=V.map fun i=>(i,(st.get i).cut V),ts:=[],h:=st.h}
inductive Z5 where
 |normal
 |exit (id:Nat)
 |ret
inductive zM where
 |skip
 |reg (V1:List Nat) (gs:List zl) (V2:List Nat)
 |draw (V1:List Nat) (t:ZP) (V2:List Nat)
 |seq (a b:zM)
 |cond (c:zB) (a b:zM)
 |blk (id:Nat) (a:zM)
 |loop (a:zM)
 |exit (id:Nat)
 |ret
def zeW (ops:Array Oper):List Nat:=ops.toList.filterMap fun o=>match o.op with| .assign _=>none|_=>o.dst
def gZ (V:List Nat)(ops:Array Oper):List Nat:=
 V.filter fun d=>(List.range ops.size).any fun j=>match ops[j]? with
  | some o=>(match o.op with| .move _=>o.dst==some d|_=>false)&&(List.range j).any fun i=>match ops[i]? with
    |some p=>p.op.operands.toList.any fun x=>match x with| .tmp t=>t==d|_=>false
    |none=>false
  |none=>false
def UR (ops:Array Oper)(i:Nat):List Nat:=
 ((List.range ops.size).foldl (fun(l:List Nat) k=>if k≠i∧(((ops[k]?).map fun o=>o.after.any fun e=>Region.binds .any e&&(e.on==i||l.contains e.on)).getD false)=true then k::l else l) []).reverse
def zdJ (P:Program)(rs:List Nat×List Nat)(ops:Array Oper)(i:Nat):Bool:=
 match qS P rs ops i with
 |some (_,.r _)=>true
 |_=>false
def yP (P:Program)(rs:List Nat×List Nat)(ops:Array Oper):Nat→Array Bool→Sk
 |0,_=> .done
 | fuel+1,listed=>
   let rd:=Region.ready .any ops listed
   match rd.find? (fun i=>zdJ P rs ops i&&KB ops listed i (UR ops i)) with
   |some i=> .take i (UR ops i) (yP P rs ops fuel (listed.setIfInBounds i true))
   | none=>match rd with
     |[i]=> .one i (yP P rs ops fuel (listed.setIfInBounds i true))
     |[i,j]=> .two i (yP P rs ops fuel (listed.setIfInBounds i true)) j (yP P rs ops fuel (listed.setIfInBounds j true))
     |[i,j,k]=> .three i (yP P rs ops fuel (listed.setIfInBounds i true)) j (yP P rs ops fuel (listed.setIfInBounds j true)) k (yP P rs ops fuel (listed.setIfInBounds k true))
     |[]=> .done
     |l=> .many l (yP P rs ops fuel (xI listed l))
def ZE (P:Program)(rs:List Nat)(N:Nat)(V:List Nat):Code→Option zM
 | .skip=>some .skip
 | .region _ ops false=>
   let cr:=gZ V ops
   let V1:=V.filter fun i=> !(zeW ops).contains i||cr.contains i
   (ops.toList.mapM (qy P (rs,cr) ops)).bind fun gs=>if uN N V1 gs []=true then some (.reg V1 gs V) else none
 | .region _ ops true=>
   let cr:=gZ V ops
   let V1:=V.filter fun i=> !(zeW ops).contains i||cr.contains i
   let sk:=yP P (rs,cr) ops ops.size (Array.replicate ops.size false)
   if sk.ok ops ops.size (Array.replicate ops.size false)=true∧Region.noSelect ops=true then(sk.build P (rs,cr) ops).bind fun t=>if t.okT N V1 []=true then some (.draw V1 t V) else none else none
 | .seq a b=>(ZE P rs N V a).bind fun a'=>(ZE P rs N V b).map fun b'=> .seq a' b'
 | .cond c a b=>(zj c).bind fun c'=>(ZE P rs N V a).bind fun a'=>(ZE P rs N V b).map fun b'=> .cond c' a' b'
 | .block id a=>(ZE P rs N V a).map fun a'=> .blk id a'
 | .loop a=>(ZE P rs N V a).map fun a'=> .loop a'
 | .exit id=>some (.exit id)
 | .ret=>some .ret
 |_=>none
section
variable {L:List (List Nat)} {E:Env} {N:Nat} {V:List Nat} {st:zc} {a:Act} {P:Program} {o:Oper} {d:Nat} {tm:Array Value} {rs:List Nat} {ops:Array Oper} {Q:Exit→Act→World→Prop}
theorem Wq (f:Nat→zb):∀(V:List Nat) (i:Nat),zX (V.map fun i=>(i,f i)) i=if i∈V then some (f i) else none
 |[],i=>by simp[zX]
 | j ::V,i=>by
   simp only[List.map_cons,zX]
   by_cases h:i=j
   · subst h;simp
   · rw[if_neg h,Wq f V i]
     simp[h]
theorem yi (V:List Nat)(i:Nat):(st.settle V).get i=if i∈V then(st.get i).cut V else .dead:=by
 show jm (zX [] i) (zX (V.map fun i=>(i,(st.get i).cut V)) i)=_
 rw[Wq (fun i=>(st.get i).cut V)]
 split<;>rfl
theorem y4 {A:zb}(h:A.isAlias=false):A.cut V=A:=by
 cases A<;>simp[zb.isAlias] at h<;>rfl
theorem XD (V:List Nat)(A:zb):(A.cut V=A∧∀r,A.root=some r→r∈V)∨A.cut V= .dead:=by
 unfold zb.cut
 cases h:A.root with
 |none=>exact .inl ⟨rfl,fun r hr=>by cases hr⟩
 | some r=>
   cases hc:V.contains r with
   |true=>exact .inl ⟨by simp only[hc];rfl,fun r' hr=>by cases hr;simpa using hc⟩
   |false=>exact .inr (by simp only[hc];rfl)
theorem zA.settle (R:zA E N V st tm)(V':List Nat):zA E N V' (st.settle V') tm:=by
 refine⟨R.size,?_,R.num,fun _ _=>List.not_mem_nil,R.lim,fun i A r hA hr=>?_,fun i=>?_,R.objs⟩
 · show(V'.map fun i=>(i,(st.get i).cut V')).map (·.1)=V'
   rw[List.map_map]
   exact List.map_id'' (fun _=>rfl) V'
 · rw[yi] at hA
   split at hA
   · rcases XD V' (st.get i) with⟨h1,h2⟩|h1
     · rw[h1] at hA;subst hA;exact .inl (h2 r hr)
     · rw[h1] at hA;subst hA;cases hr
   · subst hA;cases hr
 · rw[yi]
   split
   · rcases XD V' (st.get i) with⟨h1,h2⟩|h1
     · rw[h1]
       refine ZY.carry (R.slots i) rfl (fun v _ h=>h) fun p hp B hB hA=>⟨⟨B,?_,hA,fun hd cs e=>⟨hd,cs,e⟩⟩,rfl⟩
       match p,hB with
       | 0::r::ks,hB=>
         have hr:r∈V':=h2 r (yy hp rfl)
         rw[zO] at hB⊢
         rw[yi,if_pos hr]
         cases ks with
         |nil=>simp only[zb.sub,Option.some.injEq] at hB⊢;rw[hB];exact y4 hA
         |cons k ks=>rw[y4 (zb.sub_cons_nonalias hB)];exact hB
       |1::id::k::ks,hB=>exact hB
     · rw[h1];trivial
   · trivial
def Z5.to :Z5→Exit
 | .normal=> .normal
 | .exit id=> .exit id
 | .ret=> .ret
def ze8 (L:List (List Nat))(E:Env)(N:Nat)(V:List Nat)(a:Act)(K:Z5→zc→Prop)(Q:Exit→Act→World→Prop):Prop:=
 ∀e E' st' a',zA E' N V st' a'.tmps→a'.defers=a.defers→zL L E E'→K e st'→Q e.to a' E'.w
theorem Xs {α β:Type}{f:α→Option β}:∀(xs:List α) {l:List β},xs.mapM f=some l→xs.map f=l.map some
 |[],l,h=>by simp at h;subst h;rfl
 | x ::xs,l,h=>by
   rw[List.mapM_cons] at h
   cases hx:f x with
   |none=>rw[hx] at h;cases h
   | some y=>
     rw[hx] at h
     cases hr:xs.mapM f with
     |none=>rw[hr] at h;cases h
     | some l'=>
       rw[hr] at h
       cases h
       simp[hx,Xs xs hr]
def j7 (P:Program)(rs:List Nat)(N:Nat)(V:List Nat)(L:List (List Nat))(ac:zM)(K:Z5→zc→Prop)(st:zc):Prop:=
 P.follows .mixedOrders=true→∀c,ZE P rs N V c=some ac→∀(Q:Exit→Act→World→Prop) (E:Env) (a:Act),JO P E→zA E N V st a.tmps→ze8 L E N V a K Q→(∀ch a w,¬Q (.panic ch) a w)→c.wp P Q a E.w
def zfd (P:Program)(rs:List Nat)(N:Nat)(V:List Nat)(L:List (List Nat))(b:zM)(K:Z5→zc→Prop)(e:Z5)(s:zc):Prop:=
 match e with
 | .normal=>j7 P rs N V L b K s
 | .exit id=>K (.exit id) s
 | .ret=>K .ret s
def zeZ (id:Nat)(K:Z5→zc→Prop)(e:Z5)(s:zc):Prop:=
 match e with
 | .normal=>K .normal s
 | .exit j=>if j=id then K .normal s else K (.exit j) s
 | .ret=>K .ret s
def zeL (I:Nat→zc→Prop)(n:Nat)(K:Z5→zc→Prop)(e:Z5)(s:zc):Prop:=
 match e with
 | .normal=>∃m,m<n∧I m s
 | .exit id=>K (.exit id) s
 | .ret=>K .ret s
def zM.kind :zM→Nat
 | .skip=>0| .reg _ _ _=>1| .draw _ _ _=>2| .seq _ _=>3| .cond _ _ _=>4| .blk _ _=>5| .loop _=>6| .exit _=>7| .ret=>8
def zeM :Code→Nat
 | .skip=>0| .region _ _ false=>1| .region _ _ true=>2| .seq _ _=>3| .cond _ _ _=>4| .block _ _=>5| .loop _=>6| .exit _=>7| .ret=>8|_=>9
theorem zR {c:Code}{ac:zM}(hs:ZE P rs N V c=some ac):zeM c=ac.kind:=by
 cases c with
 | region id ops draw=>
   cases draw with
   | false=>
     simp only[ZE] at hs
     obtain⟨gs,hgs,hs⟩:=zq hs
     split at hs
     · cases hs;rfl
     · cases hs
   | true=>
     simp only[ZE] at hs
     split at hs
     · obtain⟨t,ht,hs⟩:=zq hs
       split at hs
       · cases hs;rfl
       · cases hs
     · cases hs
 |skip=>cases hs;rfl
 |seq=>simp only[ZE] at hs;obtain⟨_,_,hs⟩:=zq hs;obtain⟨_,_,rfl⟩:=zE hs;rfl
 |cond=>simp only[ZE] at hs;obtain⟨_,_,hs⟩:=zq hs;obtain⟨_,_,hs⟩:=zq hs;obtain⟨_,_,rfl⟩:=zE hs;rfl
 |block=>simp only[ZE] at hs;obtain⟨_,_,rfl⟩:=zE hs;rfl
 |loop=>simp only[ZE] at hs;obtain⟨_,_,rfl⟩:=zE hs;rfl
 |exit=>cases hs;rfl
 |ret=>cases hs;rfl
 |_=>cases hs
variable {x y:zM} {i:Nat} {t:ZP} {gs:List zl} {V1 V2:List Nat} {K:Z5→zc→Prop}
theorem Oc (h:K .normal st):j7 P rs N V L .skip K st:=fun _ c hs Q E a hT R hK _=>by
 cases c with
 |skip=>exact wp_skip (hK .normal E st a R rfl (zL.refl E) h)
 |region _ _ d=>have:=zR hs;cases d<;>cases this
 |_=>have:=zR hs;cases this
theorem gJ (h:Q0 P L (fun s=>K .normal (s.settle V2)) gs (st.settle V1)):j7 P rs N V L (.reg V1 gs V2) K st:=fun _ c hs Q E a hT R hK hQ=>by
 cases c with
 | region id ops d=>
   cases d with
   | false=>
     simp only[ZE] at hs
     obtain⟨gs,hgs,hs⟩:=zq hs
     split at hs
     · rename_i hok
       cases hs
       exact wp_region_list (xB ops.toList gs (Xs _ hgs) hT (R.settle _) hok h fun E' st' a' R' hd P' hk=>hK .normal E' _ a' (R'.settle V) hd P' hk)
     · cases hs
   |true=>have:=zR hs;cases this
 |_=>have:=zR hs;cases this
theorem Of (h:jh P (fun s=>K .normal (s.settle V2)) t [([],L)] (st.settle V1)):j7 P rs N V L (.draw V1 t V2) K st:=fun hmix c hs Q E a hT R hK hQ=>by
 cases c with
 | region id ops d=>
   cases d with
   |false=>have:=zR hs;cases this
   | true =>
     simp only[ZE] at hs
     split at hs
     · rename_i hok
       obtain⟨t,ht,hs⟩:=zq hs
       split at hs
       · rename_i hokT
         cases hs
         refine wp_region_any hmix ?_
         have R1:zA {E with w:={E.w with drawn:=E.w.drawn+1}} N V st a.tmps:=R.drew
         have:=oH (L:=L) (ws:=[([],L,[])]) hQ hok.2 _ t _ _ ht hok.1 hokT (hT.pres (QI (L:=[]))) (R1.settle _) (fun x hx=>by cases List.mem_singleton.1 hx;exact fun c hc=>by cases hc) (.head _) h
          (fun E' st' a' R' hd P' hk=>hK .normal E' _ a' (R'.settle V) hd (QI.trans P') hk)
         exact Q1 _ _ _ _ _ this
       · cases hs
     · cases hs
 |_=>have:=zR hs;cases this
theorem uD (h:j7 P rs N V L x (zfd P rs N V L y K) st):j7 P rs N V L (.seq x y) K st:=fun hmix c hs Q E a hT R hK hQ=>by
 cases c with
 | seq c1 c2=>
   simp only[ZE] at hs
   obtain⟨a',ha,hs⟩:=zq hs
   obtain⟨b',hb,hs⟩:=zE hs
   cases hs
   refine wp_seq (h hmix c1 ha _ E a hT R (fun e E' st' a1 R' hd P' hk=>?_) fun ch a w h=>hQ ch a w h)
   cases e with
   |normal=>exact hk hmix c2 hb _ E' a1 (hT.pres P') R' (fun e E2 st2 a2 R2 hd2 P2 hk2=>hK e E2 st2 a2 R2 (hd2.trans hd) (P'.trans P2) hk2) hQ
   |exit id=>exact hK (.exit id) E' st' a1 R' hd P' hk
   |ret=>exact hK .ret E' st' a1 R' hd P' hk
 |region _ _ d=>have:=zR hs;cases d<;>cases this
 |_=>have:=zR hs;cases this
theorem wZ {c:zB}{v:Bool}(hc:st.ev c= .sc (.bool v))(h1:v=true→j7 P rs N V L x K st)(h2:v=false→j7 P rs N V L y K st):j7 P rs N V L (.cond c x y) K st:=fun hmix c' hs Q E a hT R hK hQ=>by
 cases c' with
 | cond o c1 c2=>
   simp only[ZE] at hs
   obtain⟨o',ho,hs⟩:=zq hs
   obtain⟨a',ha,hs⟩:=zq hs
   obtain⟨b',hb,hs⟩:=zE hs
   cases hs
   exact wp_cond_split (ZJ R ho hc) (fun e=>h1 e hmix c1 ha _ E a hT R hK hQ) fun e=>h2 e hmix c2 hb _ E a hT R hK hQ
 |region _ _ d=>have:=zR hs;cases d<;>cases this
 |_=>have:=zR hs;cases this
theorem zbr (h:j7 P rs N V L x (zeZ i K) st):j7 P rs N V L (.blk i x) K st:=fun hmix c hs Q E a hT R hK hQ=>by
 cases c with
 | block id c1=>
   simp only[ZE] at hs
   obtain⟨a',ha,hs⟩:=zE hs
   cases hs
   refine wp_block (h hmix c1 ha _ E a hT R (fun e E' st' a1 R' hd P' hk=>?_) fun ch a w h=>hQ ch a w h)
   cases e with
   |normal=>exact hK .normal E' st' a1 R' hd P' hk
   | exit j=>
     simp only[zeZ] at hk
     simp only[Z5.to,Exit.inBlock]
     by_cases hj:j=i
     · simp only[hj,if_true] at hk⊢;exact hK .normal E' st' a1 R' hd P' hk
     · simp only[hj,if_false] at hk⊢;exact hK (.exit j) E' st' a1 R' hd P' hk
   |ret=>exact hK .ret E' st' a1 R' hd P' hk
 |region _ _ d=>have:=zR hs;cases d<;>cases this
 |_=>have:=zR hs;cases this
theorem Od (I:Nat→zc→Prop)(n:Nat)(h0:I n st)(h:∀n s,I n s→j7 P rs N V L x (zeL I n K) s):j7 P rs N V L (.loop x) K st:=fun hmix c hs Q E a hT R hK hQ=>by
 cases c with
 | loop c1=>
   simp only[ZE] at hs
   obtain⟨a',ha,hs⟩:=zE hs
   cases hs
   refine wp_loop_ghost (fun n a1 w=>∃E1 s,E1.w=w∧zA E1 N V s a1.tmps∧a1.defers=a.defers∧zL L E E1∧I n s) n ⟨E,st,rfl,R,rfl,zL.refl E,h0⟩ ?_
   rintro n a1 _ ⟨E1,s,rfl,R1,hd1,P1,hI1⟩
   refine h n s hI1 hmix c1 ha _ E1 a1 (hT.pres P1) R1 (fun e E' st' a2 R' hd P' hk=>?_) fun ch a w h=>hQ ch a w h
   cases e with
   | normal=>
     obtain⟨m,hm,hIm⟩:=hk
     exact⟨m,hm,E',st',rfl,R',hd.trans hd1,P1.trans P',hIm⟩
   |exit j=>exact hK (.exit j) E' st' a2 R' (hd.trans hd1) (P1.trans P') hk
   |ret=>exact hK .ret E' st' a2 R' (hd.trans hd1) (P1.trans P') hk
 |region _ _ d=>have:=zR hs;cases d<;>cases this
 |_=>have:=zR hs;cases this
theorem Oe (h:K (.exit i) st):j7 P rs N V L (.exit i) K st:=fun _ c hs Q E a hT R hK _=>by
 cases c with
 |exit j=>cases hs;exact wp_exit (hK (.exit i) E st a R rfl (zL.refl E) h)
 |region _ _ d=>have:=zR hs;cases d<;>cases this
 |_=>have:=zR hs;cases this
theorem zbq (h:K .ret st):j7 P rs N V L .ret K st:=fun _ c hs Q E a hT R hK _=>by
 cases c with
 |ret=>cases hs;exact wp_ret (hK .ret E st a R rfl (zL.refl E) h)
 |region _ _ d=>have:=zR hs;cases d<;>cases this
 |_=>have:=zR hs;cases this
def ze9 (L:List (List Nat))(N:Nat)(V:List Nat)(st st':zc):Prop:=∀E tm,zA E N V st tm→∃E',zA E' N V st' tm∧zL L E E'∧E'.w=E.w
theorem Yq {st':zc}(hg:ze9 L N V st st')(h:j7 P rs N V L x K st'):j7 P rs N V L x K st:=fun hmix c hs Q E a hT R hK hQ=>by
 obtain⟨E',R',P',hw⟩:=hg E a.tmps R
 have:=h hmix c hs Q E' a (hT.pres P') R' (fun e E2 st2 a2 R2 hd2 P2 hk=>hK e E2 st2 a2 R2 hd2 (P'.trans P2) hk) hQ
 rwa [hw] at this
def zc.forget (st:zc):List Nat→zc
 |[]=>st
 |i::l=>(st.assign i .dead).forget l
theorem zA.forget :∀(l:List Nat) {st:zc},(l.all fun i=>V.contains i)=true→zA E N V st tm→zA E N V (st.forget l) tm
 |[],_,_,R=>R
 | i::l,st,h,R=>by
   simp only[List.all_cons,Bool.and_eq_true,List.contains_iff_mem] at h
   exact zA.forget l h.2 (R.assign_dead (.inl h.1))
theorem jb (l:List Nat)(hl:(l.all fun i=>V.contains i)=true)(h:j7 P rs N V L x K (st.forget l)):j7 P rs N V L x K st:=
 Yq (fun E _ R=>⟨E,R.forget l hl,zL.refl E,rfl⟩) h
end
end Go.Ga

namespace Go.Ga
open Go
inductive yC where
 |tmp (t:Nat)
 |cell (t n:Nat) (ag:Bool)
def qa (P:Program):ResultVar→Option yC
 | .tmp t=>some (.tmp t)
 | .cell t ty=>(P.underlying ty).bind fun dsc=>(P.info? ty).map fun inf=> .cell t inf.size (ZC dsc)
def xU :List yC→zc→Option (List zb×zc)
 |[],st=>some ([],st)
 | .tmp t::rest,st=>match st.use (.t t) true with
   | some (A,st1)=>match xU rest st1 with
     |some (As,st2)=>some (A::As,st2)
     |none=>none
   |none=>none
 | .cell t n ag::rest,st=>match jU st (.ld 0 (.t t) n ag) with
   | some A=>bif A.copyable then match xU rest st with
     |some (As,st2)=>some (A::As,st2)
     |none=>none
     else none
   |none=>none
def KZ :List zb→zb
 |[A]=>A
 |As=> .tup As
def XC (V:List Nat)(args:List zb)(h:Heap):zc:={vs:=V.map fun i=>(i,(args[i]?).getD .dead),ts:=[],h:=h}
def wv (L:List (List Nat)):List yC→zc→Bool
 |[],_=>true
 | .tmp t::rest,st=>st.useQ L (.t t) true&&match st.use (.t t) true with
   |some (_,st1)=>wv L rest st1
   |none=>true
 | .cell _ _ _::rest,st=>wv L rest st
theorem QX :∀(rss:List yC) (st:zc),wv [] rss st=true
 |[],_=>rfl
 | .tmp t::rest,st=>by
   simp only[wv,q6,Bool.true_and]
   split
   · exact QX rest _
   · rfl
 | .cell _ _ _::rest,st=>QX rest st
def gm (L:List (List Nat))(rss:List yC)(Q:zb→Heap→Prop)(e:Z5)(s:zc):Prop:=
 match e with
 | .exit _=>False
 | _=>wv L rss s=true∧match xU rss s with
   |some (As,s')=>Q (KZ As) s'.h
   |none=>False
section
variable {L:List (List Nat)} {E:Env} {N:Nat} {V:List Nat} {st:zc} {a:Act} {P:Program} {o:Oper} {d:Nat} {tm:Array Value} {rs:List Nat} {ops:Array Oper}
theorem UE {r:Array Value}{p:List Nat}{v:Value}(h:zD E tm p=some v):zD E (tm++r) p=some v:=by
 match p,h with
 | 0 ::i::ks,h=>
   simp only[zD] at h⊢
   cases hi:tm[i]? with
   |none=>rw[hi] at h;cases h
   | some u=>
     rw[hi] at h
     rw[Array.getElem?_append_left (Array.getElem?_eq_some_iff.1 hi).1,hi]
     exact h
 |1::id::ks,h=>exact h
theorem ZY.ext {r:Array Value}{i:Nat}{A:zb}(h:ZY E st tm i A):ZY E st (tm++r) i A:=by
 have hg:∀v,tm[i]?=some v→(tm++r)[i]?=some v:=fun v hv=>by rw[Array.getElem?_append_left (Array.getElem?_eq_some_iff.1 hv).1];exact hv
 cases A with
 |dead=>trivial
 |at_ p=>obtain⟨B,v,h1,h2,h3,h4⟩:=h;exact⟨B,v,h1,h2,UE h3,hg v h4⟩
 |addr p k=>obtain⟨hd,cs,v,b,o,h1,h2,h3,h4⟩:=h;exact⟨hd,cs,v,b,o,h1,UE h2,h3,hg _ h4⟩
 |_=>obtain⟨v,h1,h2⟩:=h;exact⟨v,hg v h1,h2⟩
theorem zA.ext (R:zA E N V st tm)(r:Array Value):zA E (N+r.size) V st (tm++r):=
 ⟨by simp[R.size],R.keys,R.num,R.disj,R.lim,R.roots,fun i=>(R.slots i).ext,R.objs⟩
theorem zdn :∀l:List Nat,∃m,∀x∈l,x<m
 |[]=>⟨0,fun x hx=>by cases hx⟩
 | y::l=>by
   obtain⟨m,hm⟩:=zdn l
   refine⟨y+m+1,fun x hx=>?_⟩
   cases hx with
   |head=>omega
   |tail _ hx=>have:=hm x hx;omega
theorem zdI (R:zA E N V st a.tmps){x:Operand}{ox:zB}(hx:zj x=some ox){n:Nat}{ag:Bool}{A:zb}(h:jU st (.ld d ox n ag)=some A):∃b k,a.eval x= .pointer (some ⟨b,k,none⟩):=by
 simp only[jU] at h
 split at h
 · rename_i id k hb
   obtain⟨v,po,h1,h2,_⟩:=zz R hx (Zi hb rfl) rfl
   cases h2;exact⟨_,_,h1⟩
 · rename_i cs hb
   obtain⟨v,po,h1,h2,_⟩:=zz R hx (Zi hb rfl) rfl
   cases h2;exact⟨_,_,h1⟩
 · rename_i p k hb
   obtain⟨hd,cs,v,b,o',h1,h2,h3,h4,h5⟩:=JG R hx hb
   exact⟨_,_,h4⟩
 · cases h
def G4 (tm:Array Value):ResultVar→Sem Value
 | .tmp t=>pure (tm.getD t undef)
 | .cell a t=>do loadVar t (←asAddr (tm.getD a undef))
theorem pO (R:zA E N V st a.tmps){t:Nat}{ty:TypeId}{dsc:TypeDesc}{inf:TypeInfo}(hu:P.underlying ty=some dsc)(hi:P.info? ty=some inf){A:zb}(h:jU st (.ld 0 (.t t) inf.size (ZC dsc))=some A)(hc:A.copyable=true):
    ∃v,(G4 a.tmps (.cell t ty)).run P E.w= .ok v E.w∧∀po,VRel E po A v:=by
  obtain⟨m,hm⟩:=zdn (V++st.ts.map (·.1)++[N])
  have hN:N<m:=hm N (by simp)
  let r:Array Value:=Array.replicate (m+1 - N) undef
  let a':Act:={tmps:=a.tmps++r,defers:=[]}
  have R':zA E (N+r.size) V st a'.tmps:=R.ext r
  have hs:N+r.size=m+1:=by simp[r];omega
  rw[hs] at R'
  have F:zG (m+1) V st m:=⟨Nat.lt_succ_self m,fun hv=>Nat.lt_irrefl _ (hm m (by simp[hv])),fun ht=>Nat.lt_irrefl _ (hm m (by simp only[List.mem_append];exact .inl (.inr ht)))⟩
  let o : Oper := { dst := some m, op := .load ty (.tmp t), type := 0, pos := "", after := #[], guard := none }
  obtain⟨v,rd,hrd,hy,R2⟩:=zdA (P:=P) (o:=o) (d:=m) R' F hu hi (x:= .tmp t) (ox:= .t t) rfl rfl h
  obtain⟨b,k,hp⟩:=zdI R (x:= .tmp t) (ox:= .t t) rfl h
  have hp':a'.eval (.tmp t)= .pointer (some ⟨b,k,none⟩):=by
    simp only[Act.eval] at hp⊢
    have hlt:t<a.tmps.size:=by
      rcases Nat.lt_or_ge t a.tmps.size with h'|h'
      · exact h'
      · simp[Array.getElem?_eq_none h',undef] at hp
    have e:a'.tmps[t]?=a.tmps[t]?:=Array.getElem?_append_left hlt
    rw[Array.getD_eq_getD_getElem?] at hp⊢
    rw[e]
    exact hp
  have hrun:=hy E.w fun c hc=>(hrd c hc).1
  have hrun2:(loadVar ty ⟨b,k,none⟩).run P E.w= .ok v E.w:=by
    simp only[execOp,o,hp',Instr.loadAt,Instr.sureAddr,Sem.run_bind,Sem.run_pure,Result.andThen_ok] at hrun
    cases hl:(loadVar ty ⟨b,k,none⟩).run P E.w with
    |ok u w=>rw[hl] at hrun;simp at hrun;rw[hrun.1,hrun.2]
    |halt x w=>rw[hl] at hrun;simp at hrun
  refine⟨v,?_,fun po=>?_⟩
  · have e:a.tmps.getD t undef= .pointer (some ⟨b,k,none⟩):=by
      simpa[Act.eval] using hp
    simp only[G4,e,asAddr,Sem.run_bind,Sem.run_pure,Result.andThen_ok]
    exact hrun2
  · have hs:=R2.slots m
    rw[zc.get_putT,if_pos rfl] at hs
    obtain⟨u,h1,h2⟩:=hs.out (jR hc)
    rw[wY (by rw[R'.size];exact Nat.lt_succ_self m)] at h1
    cases h1
    exact h2.copy po hc
def gL :List Value→Value
 |[v]=>v
 |vs=> .tuple vs.toArray
theorem UC {fn:Func}{tm:Array Value}{w:World}{vs:List Value}(h:(fn.results.toList.mapM (G4 tm)).run P w= .ok vs w):
    (results fn tm).run P w= .ok (gL vs) w:=by
  have e:results fn tm=(fn.results.mapM (G4 tm))>>=fun vs=>pure (if h:vs.size=1 then vs[0] else .tuple vs):=rfl
  rw[e,Array.mapM_eq_mapM_toList]
  simp only[Sem.run_bind,Sem.run_map,h,Result.andThen_ok,Sem.run_pure]
  congr 1
  match vs with
  |[]=>rfl
  |[v]=>rfl
  |v::u::l=>simp[gL]
theorem yA :∀(rvs:List ResultVar) (rss:List yC) {E:Env} {st st1:zc} {As:List zb} (j:Nat) {l:List (Nat×zb×Value)},rvs.map (qa P)=rss.map some→zA E N V st a.tmps→xU rss st=some (As,st1)→wv L rss st=true→Kr E l→(∀y∈l,y.1<j)→
    ∃E1 vs,zA E1 N V st1 a.tmps∧Kr E1 l∧vs.length=As.length∧(∀(k:Nat) A v,As[k]?=some A→vs[k]?=some v→VRel E1 (some [9,j+k]) A v)∧zL L E E1∧E1.w=E.w∧(rvs.mapM (G4 a.tmps)).run P E.w= .ok vs E.w
  | [],[],E,st,st1,As,j,l,_,R,h,_,Fl,_=>by
    cases h
    exact⟨E,[],R,Fl,rfl,fun k A x hA=>by simp at hA,zL.refl E,rfl,by simp⟩
  |[],y::os,E,st,st1,As,j,l,hm,R,h,_,Fl,_=>by simp at hm
  |x::xs,[],E,st,st1,As,j,l,hm,R,h,_,Fl,_=>by simp at hm
  | .tmp t::xs,y::os,E,st,st1,As,j,l,hm,R,h,hq,Fl,hj=>by
    simp only[List.map_cons,List.cons.injEq,qa,Option.some.injEq] at hm
    obtain⟨rfl,hm⟩:=hm
    unfold xU at h
    simp only[wv,Bool.and_eq_true] at hq
    split at h
    · rename_i A st2 hu
      simp only[hu] at hq
      split at h
      · rename_i As' st3 hr
        cases h
        obtain⟨E1,R1,F1,P1,hw1⟩:=jE (L:=L) R (x:= .tmp t) rfl hu j Fl (fun y hy=>Nat.ne_of_lt (hj y hy)) hq.1
        obtain⟨E2,vs,R2,F2,hlen,hv,P2,hw2,hrun⟩:=yA xs os (j+1) hm R1 hr hq.2 F1 (fun y hy=>by
          cases hy with
          |head=>exact Nat.lt_succ_self j
          |tail _ hy=>exact Nat.lt_succ_of_lt (hj y hy))
        refine⟨E2,a.eval (.tmp t)::vs,R2,fun y hy=>F2 y (.tail _ hy),by simp[hlen],fun k B x' hB hx'=>?_,P1.trans P2,hw2.trans hw1,?_⟩
        · cases k with
          | zero=>
            simp at hB hx'
            subst hB hx'
            exact F2 _ (.head _)
          | succ k=>
            simp at hB hx'
            have:=hv k B x' hB hx'
            rwa [show j+(k+1)=j+1+k by omega]
        · rw[hw1] at hrun
          simp only[List.mapM_cons,Sem.run_bind,G4,Sem.run_pure,Result.andThen_ok,hrun]
          rfl
      · cases h
    · cases h
  | .cell t ty::xs,y::os,E,st,st1,As,j,l,hm,R,h,hq,Fl,hj=>by
    simp only[List.map_cons,List.cons.injEq,qa] at hm
    obtain⟨hy,hm⟩:=hm
    obtain⟨dsc,hu,hy⟩:=zq hy
    obtain⟨inf,hi,rfl⟩:=zE hy
    unfold xU at h
    split at h
    · rename_i A hA
      cases hc:A.copyable with
      |false=>rw[hc] at h;cases h
      | true=>
        rw[hc] at h
        simp only[cond_true] at h
        split at h
        · rename_i As' st2 hr
          cases h
          obtain⟨v,hrun1,hv1⟩:=pO R hu hi hA hc
          obtain⟨E2,vs,R2,F2,hlen,hv,P2,hw2,hrun⟩:=yA xs os (j+1) (l:=(j,A,v)::l) hm R hr hq (fun y hy=>by
            cases hy with
            |head=>exact hv1 _
            |tail _ hy=>exact Fl y hy) (fun y hy=>by
            cases hy with
            |head=>exact Nat.lt_succ_self j
            |tail _ hy=>exact Nat.lt_succ_of_lt (hj y hy))
          refine⟨E2,v::vs,R2,fun y hy=>F2 y (.tail _ hy),by simp[hlen],fun k B x' hB hx'=>?_,P2,hw2,?_⟩
          · cases k with
            | zero=>
              simp at hB hx'
              subst hB hx'
              exact F2 _ (.head _)
            | succ k=>
              simp at hB hx'
              have:=hv k B x' hB hx'
              rwa [show j+(k+1)=j+1+k by omega]
          · simp only[List.mapM_cons,Sem.run_bind,hrun1,Result.andThen_ok,hrun,Sem.run_pure]
        · cases h
    · cases h
theorem GU {A:zb}(h:A.isAlias=false):A.root=none:=by
 cases A<;>first
  |rfl
  |cases h
theorem Wl :QZ [3]:=⟨by simp,by simp⟩
theorem zdG :QZ [0]:=⟨by simp,by simp⟩
theorem zdF :QZ [9]:=⟨by simp,by simp⟩
theorem xT (hmix : P.follows .mixedOrders = true) {f : Nat} {fn : Func} {c : Code} {ac : zM} {rss : List yC} {args : List zb} {h : Heap} {Q : zb → Heap → Prop} (hf : P.funcs[f]? = some fn) (hn : (fn.name != "runtime.NumGoroutine") = true) (hb : fn.body = some c)
    (hs:ZE P rs fn.ntmps V c=some ac) (hr:fn.results.toList.map (qa P)=rss.map some) (hl:args.length≤fn.ntmps) (H:j7 P rs fn.ntmps V L ac (gm L rss Q) (XC V args h)):zn P L f args h Q:=by
  refine⟨by unfold Ji;rw[hf];simp[hb];simpa using hn,fun E vs hT HR hsz hvs=>?_⟩
  let E0:=E.relab [3] [0]
  have P0:zL L E E0:=zI Wl zdG fun r hr=>Zx (by decide) [] r hr
  let tm0:Array Value:=vs++Array.replicate (fn.ntmps - vs.size) undef
  have hna:∀(k:Nat) A,args[k]?=some A→A≠ .dead→A.isAlias=false:=fun k A hA hd=>by
    have hlt:k<vs.size:=by rw[hsz];exact(List.getElem?_eq_some_iff.1 hA).1
    have:=hvs k A vs[k] hA (Array.getElem?_eq_getElem hlt)
    cases A<;>first
      |rfl
      |exact absurd rfl hd
      |cases this
  have hget:∀i,(XC V args h).get i=if i∈V then(args[i]?).getD .dead else .dead:=fun i=>by
    show jm (zX [] i) (zX (V.map fun i=>(i,(args[i]?).getD .dead)) i)=_
    rw[Wq (fun i=>(args[i]?).getD .dead)]
    split<;>rfl
  have R0 : zA E0 fn.ntmps V (XC V args h) tm0:=by
    refine⟨?_,?_,HR.num,fun _ _=>List.not_mem_nil,Z1 HR.lim,fun i A r hA hr'=>?_,fun i=>?_,fun id cs hcs=>?_⟩
    · simp only[tm0,Array.size_append,Array.size_replicate,hsz];omega
    · show(V.map fun i=>(i,(args[i]?).getD .dead)).map (·.1)=V
      rw[List.map_map]
      exact List.map_id'' (fun _=>rfl) V
    · rw[hget] at hA
      split at hA
      · cases ha:args[i]? with
        |none=>rw[ha] at hA;subst hA;cases hr'
        | some B=>
          rw[ha] at hA
          simp only[Option.getD_some] at hA
          subst hA
          by_cases hd:B= .dead
          · subst hd;cases hr'
          · have:=hna i B ha hd
            rw[GU this] at hr'
            cases hr'
      · subst hA;cases hr'
    · rw[hget]
      split
      · cases ha:args[i]? with
        |none=>trivial
        | some B=>
          simp only[Option.getD_some]
          by_cases hd:B= .dead
          · subst hd;trivial
          · have hlt:i<vs.size:=by rw[hsz];exact(List.getElem?_eq_some_iff.1 ha).1
            have h1:=hvs i B vs[i] ha (Array.getElem?_eq_getElem hlt)
            refine ZY.mk (v:=vs[i]) ?_ ((h1.moved [3] [0] [i]).2 rfl)
            simp only[tm0]
            rw[Array.getElem?_append_left hlt,Array.getElem?_eq_getElem hlt]
      · trivial
    · exact qO.keep (z8 [3] [0]) (by rw[HR.num];exact(List.getElem?_eq_some_iff.1 hcs).1) (HR.objs id cs hcs) (zy (by decide))
  refine calls_of_wp hf hb ?_
  refine H hmix c hs _ E0 {tmps:=tm0,defers:=[]} (hT.pres P0) R0 (fun e E1 st1 a1 R1 hd P1 hk=>?_) (fun ch a w hq=>by obtain⟨_,v,r,h',E',he,_⟩:=hq;cases he)
  have fin:(wv L rss st1=true∧match xU rss st1 with|some (As,s')=>Q (KZ As) s'.h|none=>False)→a1.defers=[]∧∃v,(results fn a1.tmps).run P E1.w= .ok v E1.w∧
      ∃v' r h' E',Ending.returned v= .returned v'∧E'.w=E1.w∧wG E' h'∧VRel E' (some [3]) r v'∧zL L E E'∧Q r h':=by
    rintro⟨hq,hk⟩
    split at hk
    · rename_i As s' hres
      obtain⟨E2,ws,R2,_,hlen,hv,P2,hw2,hrun⟩:=yA (L:=L) fn.results.toList rss 0 (l:=[]) hr R1 hres hq (fun x hx=>by cases hx) (fun y hy=>by cases hy)
      refine⟨hd,gL ws,UC hrun,gL ws,KZ As,s'.h,?_⟩
      have multi:VRel (E2.relab [9] [3]) (some [3]) (.tup As) (.tuple ws.toArray):=by
        refine .tup _ _ _ (by simp[hlen]) fun k A v hA hv'=>?_
        have:=hv k A v hA (by simpa using hv')
        rw[Nat.zero_add] at this
        exact(this.moved [9] [3] [k]).2 rfl
      have R3:zA (E2.relab [9] [3]) fn.ntmps V s' a1.tmps:=R2.under (z8 [9] [3]) (Z1 R2.lim) rfl (fun _ _=>zy (by decide)) (fun _=>zy (by decide)) (fun _ _ _ _ _=>zy (by decide))
      have P3:zL L E (E2.relab [9] [3]):=((P0.trans P1).trans P2).trans (zI zdF Wl fun r hr=>Zx (by decide) [] r hr)
      match As,ws,hlen,hv,hk,multi with
      |[],[],_,_,hk,multi=>exact⟨E2.relab [9] [3],rfl,hw2,R3.hrel,multi,P3,hk⟩
      | [A],[v],_,hv,hk,_=>
        have h1:=hv 0 A v rfl rfl
        exact⟨E2.relab [9,0] [3],rfl,hw2,(R2.land [3]).hrel,h1.land [3],((P0.trans P1).trans P2).trans (zI (ZR _) Wl fun r hr=>Zx (by decide) [0] r hr),hk⟩
      |A::B::As,v::u::ws,_,_,hk,multi=>exact⟨E2.relab [9] [3],rfl,hw2,R3.hrel,multi,P3,hk⟩
      |[],_::_,hl,_,_,_=>simp at hl
      |_::_,[],hl,_,_,_=>simp at hl
      |[_],_::_::_,hl,_,_,_=>simp at hl
      |_::_::_,[_],hl,_,_,_=>simp at hl
    · exact hk.elim
  cases e with
  |normal=>exact fin hk
  |ret=>exact fin hk
  |exit id=>exact hk.elim
end
end Go.Ga

namespace Go.Ga
open Go
def wJ (P:Program):List ResultVar→Option (List yC)
 |[]=>some []
 |x::l=>(qa P x).bind fun y=>(wJ P l).map fun r=>y::r
def KD (P:Program)(rs V:List Nat)(fn:Func):Option (zM×List yC):=
 if (fn.name != "runtime.NumGoroutine") = true then fn.body.bind fun c => (ZE P rs fn.ntmps V c).bind fun ac => (wJ P fn.results.toList).map fun rss => (ac, rss) else none
theorem wT {P:Program}:∀(l:List ResultVar) {rss:List yC},wJ P l=some rss→l.map (qa P)=rss.map some
 |[],rss,h=>by cases h;rfl
 | x::l,rss,h=>by
   simp only[wJ] at h
   obtain⟨y,hy,h⟩:=zq h
   obtain⟨r,hr,rfl⟩:=zE h
   simp[hy,wT l hr]
theorem wE {P:Program}(hmix:P.follows .mixedOrders=true){f:Nat}{fn:Func}{rs V:List Nat}{ac:zM}{rss:List yC}(hf:P.funcs[f]?=some fn)(hs:KD P rs V fn=some (ac,rss)){L:List (List Nat)}{args:List zb}{h:Heap}{Q:zb→Heap→Prop}
    (hl:args.length≤fn.ntmps) (H:j7 P rs fn.ntmps V L ac (gm L rss Q) (XC V args h)):zn P L f args h Q:=by
  unfold KD at hs
  split at hs
  · rename_i hn
    obtain⟨c,hc,hs⟩:=zq hs
    obtain⟨ac',hac,hs⟩:=zq hs
    obtain⟨r,hr,he⟩:=zE hs
    cases he
    exact xT hmix hf hn hc hac (wT _ hr) hl H
  · cases hs
end Go.Ga
