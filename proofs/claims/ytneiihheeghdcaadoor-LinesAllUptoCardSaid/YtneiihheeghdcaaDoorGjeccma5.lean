/- Values, objects, and code by what it leads to: a library of this claim's own. No condition. -/
import Derived.Test.YtneiihheeghdcaaDoorGjeccma4
import Derived.Sort.Grow
set_option linter.all false

namespace Go.Ga
open Go
def jb (xs:List Nat):List za:=xs.map fun(n:Nat)=> .sc (.int .i64 (n:Int))
def QC (xs:List Int):List za:=xs.map fun n=> .sc (.int .i64 n)
theorem qe (xs:List Nat):(jb xs).length=xs.length:=by simp[jb]
theorem KF (xs:List Int):(QC xs).length=xs.length:=by simp[QC]
theorem xC {xs:List Nat}{k:Nat}(h:k<xs.length):(jb xs)[k]?=some (.sc (.int .i64 ((xs.getD k 0:Nat):Int))):=by
 simp[jb,List.getElem?_map,List.getElem?_eq_getElem h,h]
theorem Kv (xs:List Nat)(k n:Nat):(jb xs).set k (.sc (.int .i64 (n:Int)))=jb (xs.set k n):=by
 simp[jb,List.map_set]
theorem KD (xs:List Int)(k:Nat)(n:Int):(QC xs).set k (.sc (.int .i64 n))=QC (xs.set k n):=by
 simp[QC,List.map_set]
mutual
def za.plain :za→Bool
 | .sc _=>true
 | .agg cs=>za.plainL cs
 | .imm _ cs=>za.plainL cs
 | .ia cs=>za.plainL cs
 | .tup cs=>za.plainL cs
 | .fn _ as bs=>za.plainL as&&za.plainL bs
 | .iface _ A=>A.plain
 |_=>false
def za.plainL :List za→Bool
 |[]=>true
 |A::l=>A.plain&&za.plainL l
end
mutual
theorem Yj :∀A:za,A.plain=true→A.copyable=true
 | .sc _,_=>rfl
 | .agg cs,h=>by simp only[za.copyable];exact plain_copyableL cs h
 | .imm _ _,_=>rfl
 | .ia _,_=>rfl
 | .tup cs,h=>by simp only[za.copyable];exact plain_copyableL cs h
 | .fn _ _ _,_=>rfl
 | .iface _ _,_=>rfl
 | .own _ _,h=>by cases h
 | .sl _ _ _ _,h=>by cases h
 | .ptr _ _,h=>by cases h
 | .at_ _,h=>by cases h
 | .addr _ _,h=>by cases h
 | .dead,h=>by cases h
theorem plain_copyableL :∀l:List za,za.plainL l=true→za.copyableL l=true
 |[],_=>rfl
 | A::l,h=>by
   simp only[za.plainL,Bool.and_eq_true] at h
   simp only[za.copyableL,Yj A h.1,plain_copyableL l h.2,Bool.and_self]
end
mutual
theorem Yi :∀A:za,A.plain=true→A.ids0=true
 | .sc _,_=>rfl
 | .agg cs,h=>by simp only[za.ids0];exact plain_ids0L cs h
 | .imm _ cs,h=>by simp only[za.ids0];exact plain_ids0L cs h
 | .ia cs,h=>by simp only[za.ids0];exact plain_ids0L cs h
 | .tup cs,h=>by simp only[za.ids0];exact plain_ids0L cs h
 | .fn _ as bs,h=>by
   simp only[za.plain,Bool.and_eq_true] at h
   simp only[za.ids0,plain_ids0L as h.1,plain_ids0L bs h.2,Bool.and_self]
 | .iface _ A,h=>by simp only[za.ids0];exact Yi A h
 | .own _ _,h=>by cases h
 | .sl _ _ _ _,h=>by cases h
 | .ptr _ _,h=>by cases h
 | .at_ _,h=>by cases h
 | .addr _ _,h=>by cases h
 | .dead,h=>by cases h
theorem plain_ids0L :∀l:List za,za.plainL l=true→za.ids0L l=true
 |[],_=>rfl
 | A::l,h=>by
   simp only[za.plainL,Bool.and_eq_true] at h
   simp only[za.ids0L,Yi A h.1,plain_ids0L l h.2,Bool.and_self]
end
theorem jm {α:Type}(f:α→Value)(xs:List α):za.plainL (xs.map fun x=> .sc (f x))=true∧za.flatL (xs.map fun x=> .sc (f x))=true:=by
 induction xs with
 |nil=>exact⟨rfl,rfl⟩
 |cons x xs ih=>simp only[List.map_cons,za.plainL,za.plain,za.flatL,za.flat,ih,Bool.and_self,and_self]
theorem JO (xs:List Nat):za.plainL (jb xs)=true:=(jm _ xs).1
theorem wX (xs:List Nat):za.flatL (jb xs)=true:=(jm _ xs).2
theorem Qd (xs:List Int):za.plainL (QC xs)=true:=(jm _ xs).1
theorem vM (xs:List Int):za.flatL (QC xs)=true:=(jm _ xs).2
theorem xD (xs:List Nat):za.cellOkL (jb xs)=true:=by
 induction xs with
 |nil=>rfl
 |cons x xs ih=>exact(Bool.and_eq_true _ _).mpr ⟨rfl,ih⟩
theorem xO (xs:List Int):za.cellOkL (QC xs)=true:=by
 induction xs with
 |nil=>rfl
 |cons x xs ih=>exact(Bool.and_eq_true _ _).mpr ⟨rfl,ih⟩
theorem qT (xs:List Nat):za.copyableL (jb xs)=true:=plain_copyableL _ (JO xs)
theorem qU (xs:List Int):za.copyableL (QC xs)=true:=plain_copyableL _ (Qd xs)
theorem yw (xs:List Nat):za.freezeL (jb xs)=jb xs:=copyable_freezeL _ (qT xs)
theorem xN (xs:List Int):za.freezeL (QC xs)=QC xs:=copyable_freezeL _ (qU xs)
theorem Q5 (xs:List Nat):za.ids0L (jb xs)=true:=plain_ids0L _ (JO xs)
theorem w6 (xs:List Int):za.ids0L (QC xs)=true:=plain_ids0L _ (Qd xs)
theorem Kw (g:Nat→Option Nat)(xs:List Nat):za.renL g (jb xs)=jb xs:=ids0_renL g _ (Q5 xs)
theorem KE (g:Nat→Option Nat)(xs:List Int):za.renL g (QC xs)=QC xs:=ids0_renL g _ (w6 xs)
section
variable {P:Program} {rs:List Nat} {N:Nat} {V V1 V2:List Nat} {L:List (List Nat)} {x y:zU} {K:ZG→zb→Prop} {st:zb} {gs:List zj} {t:ZU} {i j d:Nat}
theorem zX (h:∀Y:zb→Prop,(∀s,K .normal (s.settle V2)→Y s)→qM P L Y gs (st.settle V1)):jp P rs N V L (.reg V1 gs V2) K st:=Ur (h _ fun _ h=>h)
theorem zc (h:∀Y:zb→Prop,(∀s,jp P rs N V L y K (s.settle V2)→Y s)→qM P L Y gs (st.settle V1)):jp P rs N V L (.seq (.reg V1 gs V2) y) K st:=Wv (Ur (h _ fun _ h=>h))
theorem ZO (h:∀Y:zb→Prop,(∀s,jp P rs N V L y K (s.settle V2)→Y s)→ZP P Y t [([],L)] (st.settle V1)):jp P rs N V L (.seq (.draw V1 t V2) y) K st:=Wv (kW (h _ fun _ h=>h))
theorem zi (h:∀X:ZG→zb→Prop,(∀s,jp P rs N V L y K s→X .normal s)→(∀i s,K (.exit i) s→X (.exit i) s)→(∀s,K .ret s→X .ret s)→jp P rs N V L x X st):jp P rs N V L (.seq x y) K st:=
 Wv (h _ (fun _ h=>h) (fun _ _ h=>h) fun _ h=>h)
theorem zO (h:∀X:ZG→zb→Prop,(∀s,K .normal s→X .normal s)→(∀s,K .normal s→X (.exit i) s)→(∀j s,j≠i→K (.exit j) s→X (.exit j) s)→(∀s,K .ret s→X .ret s)→jp P rs N V L x X st):jp P rs N V L (.blk i x) K st:=
 gU (h _ (fun _ h=>h) (fun _ h=>(if_pos rfl).mpr h) (fun j _ hj h=>(if_neg hj).mpr h) fun _ h=>h)
theorem W8 (I:Nat→zb→Prop)(n:Nat)(h0:I n st)(h:∀n s,I n s→∀X:ZG→zb→Prop,(∀m s,m<n→I m s→X .normal s)→(∀i s,K (.exit i) s→X (.exit i) s)→(∀s,K .ret s→X .ret s)→jp P rs N V L x X s):jp P rs N V L (.loop x) K st:=
 kU I n h0 fun n s hI=>h n s hI _ (fun m _ hm h=>⟨m,hm,h⟩) (fun _ _ h=>h) fun _ h=>h
theorem zo (h:K .ret st):jp P rs N V L .ret K st:=gT h
theorem ZW (h:K (.exit i) st):jp P rs N V L (.exit i) K st:=kV h
theorem zn (h:K .normal st):jp P rs N V L .skip K st:=kT h
theorem kA {c:zt}{v:Bool}(hc:st.ev c= .sc (.bool v))(h1:v=true→jp P rs N V L x K st)(h2:v=false→jp P rs N V L y K st):jp P rs N V L (.cond c x y) K st:=Yb hc h1 h2
theorem QU {c:zt}(hc:st.ev c= .sc (.bool true))(h1:jp P rs N V L x K st):jp P rs N V L (.cond c x y) K st:=Yb hc (fun _=>h1) fun h=>by cases h
theorem QV {c:zt}(hc:st.ev c= .sc (.bool false))(h1:jp P rs N V L y K st):jp P rs N V L (.cond c x y) K st:=Yb hc (fun h=>by cases h) fun _=>h1
theorem gh {K:zb→Prop}:qM P L K [] st=K st:=rfl
theorem qI {K:zb→Prop}{g:zj}{rest:List zj}:qM P L K (g::rest) st=z8 P L (qM P L K rest) st g:=rfl
theorem YD {K:zb→Prop}{b:ZB}:z8 P L K st (none,b)=(b.quiet L st=true∧ja P L K st b):=rfl
theorem w8 {K:zb→Prop}{t:Nat}{want:Bool}{b:ZB}(h:st.get t= .sc (.bool want)):z8 P L K st (some (t,want),b)=(b.quiet L st=true∧ja P L K st b):=by
 have h1:want≠(!want):=by cases want<;>decide
 simp[z8,h,h1]
theorem YE {K:zb→Prop}{t d:Nat}{want:Bool}{b:ZB}(h:st.get t= .sc (.bool (!want)))(hd:b.dst=some d):z8 P L K st (some (t,want),b)=K (st.putT d (.sc (.tuple #[]))):=by
 have h1:(!want)≠want:=by cases want<;>decide
 simp[z8,h,h1,hd]
theorem yy {K:zb→Prop}{t d:Nat}{want:Bool}{b:ZB}(h:st.get t= .sc (.tuple #[]))(hd:b.dst=some d):z8 P L K st (some (t,want),b)=K (st.putT d (.sc (.tuple #[]))):=by
 simp[z8,h,hd]
theorem q7 {b:ZB}:(b.quiet [] st=true)=True:=by rw[vu];exact eq_self true
theorem vF (j:Nat)(A:za)(l:List (Nat×za))(i:Nat):zM ((j,A)::l) i=if i=j then some A else zM l i:=rfl
theorem Kz (i:Nat):zM [] i=none:=rfl
theorem kC (j:Nat)(A B:za)(l:List (Nat×za))(i:Nat):up ((j,A)::l) i B=if i=j then(j,B)::l else(j,A)::up l i B:=rfl
theorem pP (vs ts:List (Nat×za))(h:Heap)(i:Nat):zb.get ⟨vs,ts,h⟩ i=ZS (zM ts i) (zM vs i):=rfl
theorem uW (A:za)(x:Option za):ZS (some A) x=A:=rfl
theorem uX (A:za):ZS none (some A)=A:=rfl
theorem KA :ZS none none= .dead:=rfl
theorem PR (st:zb)(i:Nat):st.ev (.t i)=st.get i:=rfl
theorem PT (st:zb)(v:Value):st.ev (.c v)= .sc v:=rfl
theorem PS (st:zb)(g:Nat):st.ev (.f g)= .fn (.func g) [] []:=rfl
theorem Ps (st:zb)(i:Nat):st.evA (.t i)=(st.get i).here i:=rfl
theorem Pu (st:zb)(v:Value):st.evA (.c v)= .sc v:=rfl
theorem Pr (st:zb)(v:Value):st.evU (.c v)= .sc v:=rfl
theorem Pq (st:zb)(g:Nat):st.evU (.f g)= .fn (.func g) [] []:=rfl
theorem vb (vs ts:List (Nat×za))(h:Heap)(V:List Nat):zb.settle ⟨vs,ts,h⟩ V=⟨V.map fun i=>(i,(ZS (zM ts i) (zM vs i)).cut V),[],h⟩:=rfl
theorem gZ (vs ts:List (Nat×za))(h:Heap)(d:Nat)(A:za):zb.putT ⟨vs,ts,h⟩ d A=⟨vs,(d,A)::ts,h⟩:=rfl
theorem g9 (vs ts:List (Nat×za))(h:Heap)(f:za→Bool):zb.kill ⟨vs,ts,h⟩ f=⟨Jd f vs,Jd f ts,h⟩:=rfl
theorem uZ (f:za→Bool)(j:Nat)(A:za)(l:List (Nat×za)):Jd f ((j,A)::l)=(j,bif f A then .dead else A)::Jd f l:=rfl
theorem vJ (f:za→Bool):Jd f []=[]:=rfl
def Uq (vs ts:List (Nat×za))(h:Heap)(i:Nat)(A:za):Option za→zb
 |some _=>⟨vs,up ts i A,h⟩
 |none=>⟨up vs i A,ts,h⟩
theorem pi (vs ts:List (Nat×za))(h:Heap)(i:Nat)(A:za):zb.set ⟨vs,ts,h⟩ i A=Uq vs ts h i A (zM ts i):=by
 unfold zb.set Uq
 cases zM ts i<;>rfl
theorem uF (vs ts:List (Nat×za))(h:Heap)(i:Nat)(A B:za):Uq vs ts h i A (some B)=⟨vs,up ts i A,h⟩:=rfl
theorem uG (vs ts:List (Nat×za))(h:Heap)(i:Nat)(A:za):Uq vs ts h i A none=⟨up vs i A,ts,h⟩:=rfl
def UD (i:Nat)(A:za):Option za→za
 |some B=>B
 | none=>match A with
   | .agg cs=>bif za.copyableL cs then .agg cs else .at_ [0,i]
   |A=>A.here i
theorem Pp (vs ts:List (Nat×za))(h:Heap)(i:Nat):zb.evU ⟨vs,ts,h⟩ (.t i)=UD i (ZS (zM ts i) (zM vs i)) (zM ts i):=by
 show(match zM ts i with|some A=>A|none=>match ZS (zM ts i) (zM vs i) with| .agg cs=>bif za.copyableL cs then .agg cs else .at_ [0,i]|A=>A.here i)=_
 unfold UD
 rfl
theorem Ub (i:Nat)(A B:za):UD i A (some B)=B:=rfl
theorem pU (v:Value):(za.sc v).cut V= .sc v:=rfl
theorem Gs (cs:List za):(za.agg cs).cut V= .agg cs:=rfl
theorem Gp (sz:Nat)(cs:List za):(za.imm sz cs).cut V= .imm sz cs:=rfl
theorem Gn (hd:Option Nat)(cs:List za):(za.own hd cs).cut V= .own hd cs:=rfl
theorem pT (a b c e:Nat):(za.sl a b c e).cut V= .sl a b c e:=rfl
theorem Gm (a b:Nat):(za.ptr a b).cut V= .ptr a b:=rfl
theorem pX (cs:List za):(za.ia cs).cut V= .ia cs:=rfl
theorem pY (f:Fn)(a b:List za):(za.fn f a b).cut V= .fn f a b:=rfl
theorem vS (t:TypeId)(A:za):(za.iface t A).cut V= .iface t A:=rfl
theorem Gk (cs:List za):(za.tup cs).cut V= .tup cs:=rfl
theorem pW (ks:List Int):(za.mp ks).cut V= .mp ks:=rfl
theorem KW :za.dead.cut V= .dead:=rfl
theorem Gr (ks:List Nat):(za.at_ (0::i::ks)).cut V=bif V.contains i then .at_ (0::i::ks) else .dead:=rfl
theorem Gq (ks:List Nat):(za.at_ (1::ks)).cut V= .at_ (1::ks):=rfl
theorem vU (ks:List Nat)(k:Nat):(za.addr (0::i::ks) k).cut V=bif V.contains i then .addr (0::i::ks) k else .dead:=rfl
theorem vT (ks:List Nat)(k:Nat):(za.addr (1::ks) k).cut V= .addr (1::ks) k:=rfl
theorem Gc (v:Value):(za.sc v).here i= .sc v:=rfl
theorem KP (cs:List za):(za.agg cs).here i= .agg cs:=rfl
theorem KM (sz:Nat)(cs:List za):(za.imm sz cs).here i= .imm sz cs:=rfl
theorem KN (cs:List za):(za.own none cs).here i= .addr [0,i] 0:=rfl
theorem KL (sz:Nat)(cs:List za):(za.own (some sz) cs).here i= .at_ [0,i]:=rfl
theorem Gb (a b c e:Nat):(za.sl a b c e).here i= .sl a b c e:=rfl
theorem KK (a b:Nat):(za.ptr a b).here i= .ptr a b:=rfl
theorem Ge (cs:List za):(za.ia cs).here i= .ia cs:=rfl
theorem Gf (f:Fn)(a b:List za):(za.fn f a b).here i= .fn f a b:=rfl
theorem u5 (t:TypeId)(A:za):(za.iface t A).here i= .iface t A:=rfl
theorem KJ (cs:List za):(za.tup cs).here i= .tup cs:=rfl
theorem Gd (ks:List Int):(za.mp ks).here i= .mp ks:=rfl
theorem KO (p:List Nat):(za.at_ p).here i= .at_ p:=rfl
theorem u6 (p:List Nat)(k:Nat):(za.addr p k).here i= .addr p k:=rfl
theorem vo (v:Value):(za.sc v).rootIs i=false:=rfl
theorem uQ (cs:List za):(za.agg cs).rootIs i=false:=rfl
theorem uN (sz:Nat)(cs:List za):(za.imm sz cs).rootIs i=false:=rfl
theorem uM (hd:Option Nat)(cs:List za):(za.own hd cs).rootIs i=false:=rfl
theorem vn (a b c e:Nat):(za.sl a b c e).rootIs i=false:=rfl
theorem uL (a b:Nat):(za.ptr a b).rootIs i=false:=rfl
theorem vq (cs:List za):(za.ia cs).rootIs i=false:=rfl
theorem vr (f:Fn)(a b:List za):(za.fn f a b).rootIs i=false:=rfl
theorem Wy (t:TypeId)(A:za):(za.iface t A).rootIs i=false:=rfl
theorem uK (cs:List za):(za.tup cs).rootIs i=false:=rfl
theorem vp (ks:List Int):(za.mp ks).rootIs i=false:=rfl
theorem xv :za.dead.rootIs i=false:=rfl
theorem uP (ks:List Nat):(za.at_ (0::j::ks)).rootIs i=(j==i):=rfl
theorem uO (ks:List Nat):(za.at_ (1::ks)).rootIs i=false:=rfl
theorem WA (ks:List Nat)(k:Nat):(za.addr (0::j::ks) k).rootIs i=(j==i):=rfl
theorem Wz (ks:List Nat)(k:Nat):(za.addr (1::ks) k).rootIs i=false:=rfl
theorem ob (st:zb)(i:Nat)(ks:List Nat):st.at (0::i::ks)=(st.get i).sub ks:=rfl
def pg (k:Nat)(ks:List Nat):Option (Option (List za))→Option za
 |some (some cs)=>(za.own none cs).sub (k::ks)
 |_=>none
theorem oa (vs ts:List (Nat×za))(h:Heap)(id k:Nat)(ks:List Nat):zb.at ⟨vs,ts,h⟩ (1::id::k::ks)=pg k ks h[id]?:=by
 simp only[zb.at,pg]
 cases h[id]? with
 |none=>rfl
 |some x=>cases x<;>rfl
theorem U3 (k:Nat)(ks:List Nat)(cs:List za):pg k ks (some (some cs))=(za.own none cs).sub (k::ks):=rfl
def uy (ks:List Nat):Option za→Option za
 |some B=>B.sub ks
 |none=>none
theorem U0 (ks:List Nat)(B:za):uy ks (some B)=B.sub ks:=rfl
theorem gF (A:za):A.sub []=some A:=by cases A<;>rfl
theorem gE (hd:Option Nat)(cs:List za)(k:Nat)(ks:List Nat):(za.own hd cs).sub (k::ks)=uy ks cs[k]?:=by
 simp only[za.sub,za.kids,uy];cases cs[k]?<;>rfl
theorem gI (cs:List za)(k:Nat)(ks:List Nat):(za.agg cs).sub (k::ks)=uy ks cs[k]?:=by
 simp only[za.sub,za.kids,uy];cases cs[k]?<;>rfl
theorem gD (cs:List za)(k:Nat)(ks:List Nat):(za.tup cs).sub (k::ks)=uy ks cs[k]?:=by
 simp only[za.sub,za.kids,uy];cases cs[k]?<;>rfl
def ww (cs:List za)(k:Nat)(ks:List Nat)(B:za):Option za→List za
 |some C=>cs.set k (C.setSub ks B)
 |none=>cs
theorem vc (cs:List za)(k:Nat)(ks:List Nat)(B C:za):ww cs k ks B (some C)=cs.set k (C.setSub ks B):=rfl
theorem uD (A B:za):A.setSub [] B=B:=by cases A<;>rfl
theorem uC (hd:Option Nat)(cs:List za)(k:Nat)(ks:List Nat)(B:za):(za.own hd cs).setSub (k::ks) B= .own hd (ww cs k ks B cs[k]?):=by
 simp only[za.setSub,ww];cases cs[k]?<;>rfl
theorem uE (cs:List za)(k:Nat)(ks:List Nat)(B:za):(za.agg cs).setSub (k::ks) B= .agg (ww cs k ks B cs[k]?):=by
 simp only[za.setSub,ww];cases cs[k]?<;>rfl
theorem uB (cs:List za)(k:Nat)(ks:List Nat)(B:za):(za.tup cs).setSub (k::ks) B= .tup (ww cs k ks B cs[k]?):=by
 simp only[za.setSub,ww];cases cs[k]?<;>rfl
theorem pn (st:zb)(i:Nat)(ks:List Nat)(B:za):st.setAt (0::i::ks) B=st.set i ((st.get i).setSub ks B):=rfl
def pj (vs ts:List (Nat×za))(h:Heap)(id k:Nat)(ks:List Nat)(B:za):Option (Option (List za))→zb
 |some (some cs)=>⟨vs,ts,h.set id (some (ww cs k ks B cs[k]?))⟩
 |_=>⟨vs,ts,h⟩
theorem pm (vs ts:List (Nat×za))(h:Heap)(id k:Nat)(ks:List Nat)(B:za):zb.setAt ⟨vs,ts,h⟩ (1::id::k::ks) B=pj vs ts h id k ks B h[id]?:=by
 simp only[zb.setAt,pj]
 cases h[id]? with
 |none=>rfl
 | some x=>cases x with
   |none=>rfl
   |some cs=>simp only[ww];cases cs[k]?<;>rfl
theorem vd (vs ts:List (Nat×za))(h:Heap)(id k:Nat)(ks:List Nat)(B:za)(cs:List za):pj vs ts h id k ks B (some (some cs))=⟨vs,ts,h.set id (some (ww cs k ks B cs[k]?))⟩:=rfl
theorem uY (st:zb):st.kill (fun _=>false)=st:=by
 have:∀l:List (Nat×za),Jd (fun _=>false) l=l:=fun l=>by
  induction l with
  |nil=>rfl
  |cons x l ih=>obtain⟨i,A⟩:=x;simp[Jd,ih]
 simp[zb.kill,this]
theorem KQ {gb:Nat→Option Nat}{h':Heap}:YF [] L gb h'=fun _=>false:=by
 funext A
 unfold YF
 split
 · simp[ji]
 · simp[ji]
 · rfl
theorem xq {gb:Nat→Option Nat}{h':Heap}:∀(i:Nat) (l:Heap),qK (ji []) gb h' i l=l
 |_,[]=>rfl
 | i,o::l=>by
   have ih:=xq (gb:=gb) (h':=h') (i+1) l
   simp only[qK,ih]
   rfl
def wE (st:zb):List (zt×Bool)→List za
 |[]=>[]
 |(x,_)::xs=>gj st [] true x::wE st xs
theorem wJ :∀(args:List (zt×Bool)),∃As,st.useL (Q1 args [])=some (As,st)∧As.length=args.length∧st.useLQ L (Q1 args [])=true
 |[]=>⟨[],rfl,rfl,rfl⟩
 | (x,b)::xs=>by
   obtain⟨As,h1,h2,h3⟩:=wJ xs
   refine⟨.sc (.bool false)::As,?_,by simp[h2],?_⟩
   · simp only[Q1,List.headD_nil,List.tail_nil,zb.useL,zb.use,zb.evU,za.copyable,cond_true,h1]
   · simp only[Q1,List.headD_nil,List.tail_nil,zb.useLQ,zb.useQ,zb.use,zb.evU,za.copyable,cond_true,h3,Bool.and_self]
theorem yA {st0:zb}:∀(args:List (zt×Bool)) (As:List za),As.length=args.length→jk st0 st [] true none args [] As=wE st args
 |[],[],_=>rfl
 |[],_::_,h=>by simp at h
 |_::_,[],h=>by simp at h
 | (x,b)::xs,A::As,h=>by
   simp only[jk,List.headD_nil,List.tail_nil,wE,yA xs As (by simpa using h)]
theorem Uk {f:zt}{args:List (zt×Bool)}{K:zb→Prop}{g:Nat}{first captured:List za}(hev:st.ev f= .fn (.func g) first captured)
    (H:zy P [] g (uo st.h [] true first++(wE st args++uo st.h [] true captured)) [] fun r h'=>h'=[]∧r.flat=true∧r.ids0=true∧K (st.putT d r)):qX P L st d f args K:=by
  unfold qX
  rw[hev]
  refine⟨[],[],true,none,?_⟩
  unfold Qi
  obtain⟨As,h1,h2,h3⟩:=wJ (st:=st) (L:=L) args
  have hw:∀L:List (List Nat),zP [] L=[]:=fun L=>by
    induction L with
    |nil=>rfl
    | cons r L ih=>
      unfold zP
      split
      · rename_i heq;cases heq
      · rename_i heq;cases heq;simp[ji,ih]
      · rename_i heq;cases heq;exact ih
  simp only[yo,h1,yA _ _ h2,h3,xi,hw,Zi]
  refine⟨rfl,rfl,rfl,H.mono fun r h' ⟨e,hf,hi,hk⟩=>?_⟩
  subst e
  refine⟨Nat.le_refl _,fun _=>⟨hf,rfl⟩,?_⟩
  simp only[Zv,zb.after,KQ,uY,xq,YB _ _ hi]
  simpa[qa] using hk
theorem ky {f:zt}{args:List (zt×Bool)}{K:zb→Prop}{g:Nat}{first captured:List za}(hev:st.ev f= .fn (.func g) first captured)(ms:List yM)(bo:List Nat)(ln:Bool)(pl:Option (List Nat))
    (H:Qi P L st d g first captured args ms bo ln pl K):qX P L st d f args K:=by
  unfold qX
  rw[hev]
  exact⟨ms,bo,ln,pl,H⟩
end
end Go.Ga

namespace Go.Ga
open Go
section
variable {P:Program} {L:List (List Nat)} {K:zb→Prop} {st st0 st1:zb} {d:Nat}
theorem Gv {b:ZB}{rest:List zj}:qM P [] K ((none,b)::rest) st=ja P [] (qM P [] K rest) st b:=by
 rw[qI,YD,q7,true_and]
theorem gi {t:Nat}{want:Bool}{b:ZB}{rest:List zj}(h:st.get t= .sc (.bool want)):qM P [] K ((some (t,want),b)::rest) st=ja P [] (qM P [] K rest) st b:=by
 rw[qI,w8 h,q7,true_and]
theorem ku {t d:Nat}{want:Bool}{b:ZB}{rest:List zj}(h:st.get t= .sc (.bool (!want)))(hd:b.dst=some d):qM P [] K ((some (t,want),b)::rest) st=qM P [] K rest (st.putT d (.sc (.tuple #[]))):=by
 rw[qI,YE h hd]
theorem Ug {t d:Nat}{want:Bool}{b:ZB}{rest:List zj}(h:st.get t= .sc (.tuple #[]))(hd:b.dst=some d):qM P [] K ((some (t,want),b)::rest) st=qM P [] K rest (st.putT d (.sc (.tuple #[]))):=by
 rw[qI,yy h hd]
theorem UX {wl:List Z6}:ZP P K .done wl st=K st:=rfl
theorem UV {later:List Nat}{gd:Option (Nat×Bool)}{o:uq}{t:ZU}{wl:List Z6}:ZP P K (.take later (gd,.r o) t) wl st=z8 P [] (ZP P K t ((later,jR st o)::wl)) st (gd,.r o):=rfl
theorem kG {i:Nat}{g:zj}{t:ZU}{wl:List Z6}:ZP P K (.one i g t) wl st=z8 P (jx (Zf i wl)) (ZP P K t (Zf i wl)) st g:=rfl
theorem UW {i:Nat}{g:zj}{l:List (Nat×zj)}{t:ZU}{wl:List Z6}:ZP P K (.many ((i,g)::l) t) wl st=z8 P [] (ZP P K (.many l t) (Zf i wl)) st g:=rfl
theorem uv {t:ZU}{wl:List Z6}:ZP P K (.many [] t) wl st=ZP P K t wl st:=rfl
theorem kF {i j:Nat}{g h:zj}{t u:ZU}{wl:List Z6}:ZP P K (.two i g t j h u) wl st=(z8 P (jx (Zf i wl)) (ZP P K t (Zf i wl)) st g∧z8 P (jx (Zf j wl)) (ZP P K u (Zf j wl)) st h):=rfl
theorem uu {i j k:Nat}{g h m:zj}{t u v:ZU}{wl:List Z6}:ZP P K (.three i g t j h u k m v) wl st=(z8 P (jx (Zf i wl)) (ZP P K t (Zf i wl)) st g∧z8 P (jx (Zf j wl)) (ZP P K u (Zf j wl)) st h∧z8 P (jx (Zf k wl)) (ZP P K v (Zf k wl)) st m):=rfl
theorem Wu (cs:List za)(k:Nat)(A:za):zQ cs k [A]=cs.set k A:=rfl
theorem KV {rss:List Qk}{Q:za→Heap→Prop}{s:zb}:xX [] rss Q .ret s=match wC rss s with
    |some (As,s')=>Q (uS As) s'.h
    |none=>False:=by
  simp only[xX,qJ,true_and]<;>rfl
theorem vQ {rss:List Qk}{Q:za→Heap→Prop}{s:zb}:xX [] rss Q .normal s=match wC rss s with
    |some (As,s')=>Q (uS As) s'.h
    |none=>False:=by
  simp only[xX,qJ,true_and]<;>rfl
theorem zF {f:zt}{args:List (zt×Bool)}{g:Nat}{first captured As:List za}(hev:st.ev f= .fn (.func g) first captured)(hargs:uo st.h [] true first++(wE st args++uo st.h [] true captured)=As)
    (H:zy P [] g As [] fun r h'=>h'=[]∧r.flat=true∧r.ids0=true∧K (st.putT d r)):qX P L st d f args K:=
  Uk hev (by rw[hargs];exact H)
theorem ZZ {f:zt}{args:List (zt×Bool)}{g:Nat}{first captured As args':List za}{x:Option (List Nat×Nat×List za)}{h0:Heap}{L':List (List Nat)}(ms:List yM)(bo:List Nat)(ln:Bool)(pl:Option (List Nat))
    (hev:st.ev f= .fn (.func g) first captured) (htake:yo st pl=some (x,st0)) (huse:st0.useL (Q1 args ms)=some (As,st1)) (hnd:qd bo=true) (hbo:bo.all (fun i=>decide (i<st1.h.length))=true)
    (hq:(xi L pl&&st0.useLQ L (Q1 args ms))=true) (hW:zP bo L=L') (hargs:uo st1.h bo ln first++(jk st st1 bo ln x args ms As++uo st1.h bo ln captured)=args') (hin:Zi st1.h bo x=h0)
    (H:zy P L' g args' h0 fun r h'=>h0.length≤h'.length∧(ln=true→r.flat=true∧QG h'=true)∧Zv L d bo h0.length x st1 K r h'):qX P L st d f args K:=by
  refine ky hev ms bo ln pl ?_
  unfold Qi
  rw[htake]
  simp only[]
  rw[huse]
  simp only[]
  refine⟨hnd,hbo,hq,?_⟩
  rw[hW,hargs,hin]
  exact H
end
attribute [go_sem] gq zb.bnd Um gt zb.cpyQ gr ui uk uh zb.mputQ pW Gd vp um zb.roomTo za.slQ za.isAgg yy Ug List.getElem?_drop List.drop_drop gi ku gh YD w8 YE ja jj Zp ZB.dst uq.dst vF Kz kC pP uW uX KA PR PT PS Ps Pu Pp Pr Pq Ub UD vb gZ g9 uZ vJ pi uF uG zb.assign pU Gs Gp Gn pT Gm pX pY vS Gk KW Gr Gq vU vT Gc KP KM KN KL Gb KK Ge Gf u5 KJ KO u6 vo uQ uN uM vn uL vq vr Wy uK xv uP uO WA Wz za.copyable za.copyableL gw zb.use zb.isNil zb.blank Q4 ZK cond_true cond_false List.map List.getElem?_cons_zero List.getElem?_cons_succ cellsOf yb Option.some.injEq List.contains_cons List.contains_nil Bool.or_false Bool.or_true Bool.true_or Bool.false_or Bool.and_true Bool.true_and Wb Option.getD_some Option.getD_none uS List.length_cons List.length_nil UX UV kG kF uu UW uv Zf jx jR ZB.quiet ob oa U3 U0 gF gE gI gD vc uD uC uE uB pn pm vd zb.owned PH zb.stQ zb.useQ zb.useLQ zb.appQ za.cells Wu za.cellOkL za.cellOk za.aggCopy za.under List.isPrefixOf zb.storeObj za.inObj qe KF Kv KD za.int? WN UB W4 List.filter_cons List.filter_nil List.flatMap_cons List.flatMap_nil List.all_cons List.all_nil clear Int.toNat_natCast Nat.mul_one Nat.add_one_le_iff Nat.zero_add Nat.add_zero true_and and_true List.length_map List.set_cons_zero List.set_cons_succ zb.useL List.append_nil List.nil_append List.cons_append List.singleton_append Bool.not_true Bool.not_false Bool.not_eq_true Bool.and_self Bool.or_self Bool.and_false Bool.false_and pe gv ul gx gp gu wn uj zb.bound zb.dec Zm Wa List.drop_zero List.drop_succ_cons List.drop_nil List.take_succ_cons List.take_zero List.take_nil zb.lenOf zb.shareAt za.freeze za.freezeL zb.given zb.more zb.moreQ Option.map_some Option.map_none Int.natCast_nonneg beq_self_eq_true bne_self_eq_false List.getElem?_nil List.set_set Gv q7 Q1 jk gj p9 pf uo wE wr Zi zP qd ji yo xi qK qa QG z2 YF za.ren za.renL za.flat za.flatL za.ids0 za.ids0L za.plain za.plainL JO wX xD qT yw Q5 Kw Qd vM xO qU xN w6 KE wC uS KV vQ clear zb.forget List.headD_cons List.headD_nil List.tail_cons List.tail_nil Option.isNone_none Option.isNone_some Option.isSome_none Option.isSome_some za.isAlias List.isEmpty_nil List.isEmpty_cons
end Go.Ga

namespace Go.Ga
open Go
theorem Jr {α β:Type}{f g:α→Option β}:∀{l:List α} {r:List β},l.mapM f=some r→(∀x∈l,∀y∈r,f x=some y→g x=some y)→l.mapM g=some r
 |[],r,h,_=>by simpa using h
 | x ::l,r,h,hk=>by
   rw[List.mapM_cons] at h⊢
   cases hx:f x with
   |none=>rw[hx] at h;cases h
   | some y=>
     rw[hx] at h
     cases hr:l.mapM f with
     |none=>rw[hr] at h;cases h
     | some r'=>
       rw[hr] at h
       cases h
       rw[hk x (.head _) y (.head _) hx]
       have:=Jr hr fun z hz w hw=>hk z (.tail _ hz) w (.tail _ hw)
       rw[this]
       rfl
def GA (w w':World):Prop:=∀b,b<w.heap.size→w'.heap[b]?=w.heap[b]?
section
variable {H:Type} {enc:TypeId×Value→H} {P:Program} {w w':World}
theorem GA.cell (h:GA w w'){a:Addr}{v:Value}(hc:w.cell? a=some v):w'.cell? a=some v:=by
 have hb:a.block<w.heap.size:=World.block_lt_of_cell? w _ hc
 unfold World.cell? at hc⊢
 rw[h _ hb]
 exact hc
theorem GA.cells (h:GA w w'){base:Nat}{a:Addr}{n:Nat}{cs:List Value}(hc:w.cells? base a n=some cs):w'.cells? base a n=some cs:=by
 unfold World.cells? at hc⊢
 split at hc
 · rename_i hb
   rw[if_pos hb]
   exact Jr hc fun i _ v _ hv=>h.cell hv
 · cases hc
def ZF (P:Program)(S:List TypeId)(t:TypeId):Prop:=
 match P.underlying t with
 |some .bool=>True
 |some (.int _)=>True
 |some .string=>True
 |some (.slice e)=>0<P.cellsOf e∧e∈S
 |some (.struct fs)=>∀f∈fs.toList,f.type∈S
 |_=>False
theorem wu {S:List TypeId}(hO:GA w w'){sp:Nat→Bool}{r r':TypeId→List Value→Option (DataW H×List MemPlace)}{t:TypeId}{cs:List Value}{x:DataW H×List MemPlace}
    (hS:ZF P S t) (hr:∀t cs y,t∈S→r t cs=some y→(∀p∈y.2,sp p.block=true)→r' t cs=some y) (hsp:∀p∈x.2,sp p.block=true) (h:DataW.trodStep enc P w 0 (fun _=>true) true r t cs=some x):DataW.trodStep enc P w' 0 sp true r' t cs=some x:=by
  unfold DataW.trodStep at h⊢
  split at h
  case h_1=>exact h
  case h_2=>exact h
  case h_3=>exact h
  case h_4=>exact h
  case h_5=>exact h
  case h_6 e a hu=>unfold ZF at hS;rw[hu] at hS;exact hS.elim
  case h_7=>exact h
  case h_8 e a len cap hu=>
    unfold ZF at hS
    rw[hu] at hS
    obtain⟨hc,heS⟩:=hS
    simp only at h⊢
    split at h
    · rename_i hcond
      rw[if_pos hcond]
      simp only[if_true,Option.map_eq_some_iff,Option.bind_eq_some_iff] at h⊢
      obtain⟨elems,he,rest,hrest,rfl⟩:=h
      have hsub:∀y∈elems++rest,∀p∈y.2,sp p.block=true:=fun y hy p hp=>hsp p (List.mem_append_right _ (List.mem_flatMap.2 ⟨y,hy,hp⟩))
      have one:∀i y,y∈elems++rest→(w.cells? 0 (a.add (i*P.cellsOf e)) (P.cellsOf e)).bind (r e)=some y→(w'.cells? 0 (a.add (i*P.cellsOf e)) (P.cellsOf e)).bind (r' e)=some y:=fun i y hm hy=>by
        simp only[Option.bind_eq_some_iff] at hy⊢
        obtain⟨cs',hc,hy⟩:=hy
        exact⟨cs',hO.cells hc,hr _ _ _ heS hy (hsub y hm)⟩
      refine⟨elems,Jr he fun i _ y hy h=>one i y (List.mem_append_left _ hy) h,rest,?_,rfl⟩
      split
      · exact Jr hrest fun j _ y hy h=>one (len+j) y (List.mem_append_right _ hy) h
      · rename_i hns
        have hrow:(elems.length+rest.length)*P.cellsOf e=0∨0<(elems.length+rest.length)*P.cellsOf e:=Nat.eq_zero_or_pos _
        rcases hrow with h0|h0
        · have hl:elems.length+rest.length=0:=by
            rcases Nat.eq_zero_or_pos (elems.length+rest.length) with e0|e0
            · exact e0
            · have:=Nat.mul_pos e0 hc;omega
          have:rest=[]:=List.eq_nil_of_length_eq_zero (by omega)
          rw[this]
        · exfalso
          refine hns (hsp (.cell a.block (a.off+0)) (List.mem_append_left _ ?_))
          exact MemPlace.mem_row.2 ⟨0,h0,rfl⟩
    · cases h
  case h_9 fs hu=>
    unfold ZF at hS
    rw[hu] at hS
    split at h
    · rename_i hl
      rw[if_pos hl]
      simp only[Option.map_eq_some_iff] at h⊢
      obtain⟨xs,hx,rfl⟩:=h
      exact⟨xs,Jr hx fun f hf y hy h=>hr _ _ _ (hS f hf) h fun p hp=>hsp p (List.mem_flatMap.2 ⟨y,hy,hp⟩),rfl⟩
    · cases h
  case h_14 k e b hu=>unfold ZF at hS;rw[hu] at hS;exact hS.elim
  case h_10 n e hu=>unfold ZF at hS;rw[hu] at hS;exact hS.elim
  all_goals exact h
theorem wN {S:List TypeId}(hS:∀t∈S,ZF P S t)(hO:GA w w'){sp:Nat→Bool}:∀(n:Nat) (t:TypeId) (cs:List Value) (x:DataW H×List MemPlace),t∈S→DataW.trod enc P w 0 (fun _=>true) true n t cs=some x→(∀p∈x.2,sp p.block=true)→DataW.trod enc P w' 0 sp true n t cs=some x
 |0,_,_,_,_,h,_=>by simp[DataW.trod] at h
 | n+1,t,cs,x,ht,h,hsp=>by
   rw[DataW.trod_step] at h⊢
   exact wu hO (hS t ht) (wN hS hO n) hsp h
theorem Qm {S:List TypeId}(hS:∀t∈S,ZF P S t)(hO:GA w w'){sp:Nat→Bool}:∀{ts:List TypeId} {vs:List Value} {ds:List (DataW H)} {ps:List MemPlace},(∀t∈ts,t∈S)→DataW.TrodAll enc P w 0 (fun _=>true) true ts vs ds ps→(∀p∈ps,sp p.block=true)→DataW.TrodAll enc P w' 0 sp true ts vs ds ps
 |[],[],[],ps,_,h,_=>h
 | t::ts,v::vs,d::ds,ps,ht,⟨p,q,⟨fuel,h1⟩,h2,he⟩,hsp=>by
   subst he
   exact⟨p,q,⟨fuel,wN hS hO fuel t _ _ (ht t (.head _)) h1 fun x hx=>hsp x (List.mem_append_left _ hx)⟩,Qm hS hO (fun t h=>ht t (.tail _ h)) h2 fun x hx=>hsp x (List.mem_append_right _ hx),rfl⟩
end
end Go.Ga

namespace Go.Ga
open Go
inductive Sh (P:Program):TypeId→List za→Nat→Prop
 |bool (t:TypeId) (b:Bool) (hu:P.underlying t=some .bool):Sh P t [.sc (.bool b)] 1
 |int (t:TypeId) (k:IntKind) (n:Int) (hu:P.underlying t=some (.int k)) (hw:(Lit.int k n).wf=true):Sh P t [.sc (.int k n)] 1
 |string (t:TypeId) (s:ByteArray) (hu:P.underlying t=some .string):Sh P t [.sc (.string s)] (s.size+1)
 |slice (t e:TypeId) (L:List (List za×Nat)) (more:Nat) (hu:P.underlying t=some (.slice e)) (hl:∀x∈L,x.1.length=P.cellsOf e) (h:∀x∈L,Sh P e x.1 x.2):Sh P t [.imm (P.cellsOf e) (L.map (·.1)).flatten] (1+(L.map (·.2)).sum+more)
 |struct (t:TypeId) (fs:Array Field) (L:List (List za×Nat)) (hu:P.underlying t=some (.struct fs)) (hl:L.length=fs.size) (h:∀(i:Nat) f x,fs[i]?=some f→L[i]?=some x→Sh P f.type x.1 x.2):Sh P t (L.map (·.1)).flatten (1+(L.map (·.2)).sum)
 |other (t:TypeId) (n b:Nat) (h1:∀k,P.underlying t≠some (.int k)) (h2:P.underlying t≠some .bool) (h3:P.underlying t≠some .string) (h4:∀e,P.underlying t≠some (.slice e)) (h5:∀fs,P.underlying t≠some (.struct fs)):Sh P t (List.replicate n .dead) b
mutual
def jc {H:Type}:DataW H→Nat
 | .lit (.string bytes)=>bytes.length+1
 | .lit _=>1
 | .nil=>1
 | .ptr d=>jc d+1
 | .slice elems spare=>bulkL elems+bulkL spare+1
 | .agg parts=>bulkL parts+1
 | .iface _ d=>jc d+1
 | .map entries=>bulkE entries+1
 | .held _=>1
def bulkL {H:Type}:List (DataW H)→Nat
 |[]=>0
 |d::r=>jc d+bulkL r
def bulkE {H:Type}:List (Lit×DataW H)→Nat
 |[]=>0
 |x::r=>bulk1 x+bulkE r
def bulk1 {H:Type}:Lit×DataW H→Nat
 |(.string bytes,d)=>bytes.length+jc d+1
 |(_,d)=>jc d+1
end
def yX (P:Program):Nat→List Field→Option Nat
 |n,[]=>some n
 |n,f::fs=>if f.offset=n then yX P (n+P.cellsOf f.type) fs else none
def Env.plain (w:World):Env:=⟨w,fun _=>none,fun _=>0,fun _=>0,fun _=>0,0⟩
theorem yO {α β:Type}{f:α→Option β}:∀{l:List α} {r:List β},l.mapM f=some r→r.length=l.length∧∀(i:Nat) x,l[i]?=some x→∃y,r[i]?=some y∧f x=some y
 |[],r,h=>by simp at h;subst h;exact⟨rfl,fun i x hx=>by simp at hx⟩
 | a ::l,r,h=>by
   rw[List.mapM_cons] at h
   cases hx:f a with
   |none=>rw[hx] at h;cases h
   | some y=>
     rw[hx] at h
     cases hr:l.mapM f with
     |none=>rw[hr] at h;cases h
     | some r'=>
       rw[hr] at h
       cases h
       obtain⟨h1,h2⟩:=yO hr
       refine⟨by simp[h1],fun i x hi=>?_⟩
       cases i with
       |zero=>simp at hi;subst hi;exact⟨y,rfl,hx⟩
       |succ i=>simpa using h2 i x (by simpa using hi)
theorem YK {sz:Nat}(hsz:0<sz):∀{L:List (List za)},(∀l∈L,l.length=sz)→L.flatten.length=L.length*sz∧∀(k:Nat) A,L.flatten[k]?=some A→∃l,L[k / sz]?=some l∧l[k%sz]?=some A
 |[],_=>⟨by simp,fun k A h=>by simp at h⟩
 | l ::L,hl=>by
   obtain⟨h1,h2⟩:=YK hsz (L:=L) fun x hx=>hl x (.tail _ hx)
   have hl0:=hl l (.head _)
   refine⟨by simp[h1,hl0,Nat.add_mul,Nat.add_comm],fun k A h=>?_⟩
   rw[List.flatten_cons,List.getElem?_append] at h
   split at h
   · rename_i hlt
     rw[hl0] at hlt
     rw[Nat.div_eq_of_lt hlt,Nat.mod_eq_of_lt hlt]
     exact⟨l,rfl,h⟩
   · rename_i hge
     rw[hl0] at hge h
     obtain⟨l',h3,h4⟩:=h2 _ A h
     have hk:k=(k - sz)+sz:=by omega
     rw[hk,Nat.add_div_right _ hsz,Nat.add_mod_right]
     exact⟨l',by simpa using h3,h4⟩
section
variable {H:Type} {enc:TypeId×Value→H} {P:Program} {w:World}
def Cells (w:World)(As:List za)(cs:List Value):Prop:=As.length=cs.length∧∀(k:Nat) A v,As[k]?=some A→cs[k]?=some v→VRel (Env.plain w) none A v
theorem jW {A:za}{v:Value}(h:VRel (Env.plain w) none A v):Cells w [A] [v]:=⟨rfl,fun k B u hB hu=>by
 cases k with
 |zero=>cases hB;cases hu;exact h
 |succ k=>simp at hB⟩
theorem Ud (cs:List Value):Cells w (List.replicate cs.length .dead) cs:=⟨by simp,fun k A v hA _=>by
 rw[List.getElem?_replicate] at hA
 split at hA
 · cases hA;exact .dead _ _
 · cases hA⟩
structure Wn (P:Program)(S:List TypeId):Prop where
 at_:∀t∈S,ZF P S t
 tile:∀t∈S,∀fs,P.underlying t=some (.struct fs)→yX P 0 fs.toList=some (P.cellsOf t)
theorem kn (l:List (DataW H)):bulkL l=(l.map jc).sum:=by
 induction l with
 |nil=>rfl
 |cons x l ih=>simp[bulkL,ih]
theorem QJ {R:TypeId→List za→Nat→Prop}:∀(fs:List Field) (n m:Nat) (cs:List Value) (xs:List (DataW H×List MemPlace)),yX P n fs=some m→m=cs.length→n≤cs.length→
    (∀(i:Nat) f y,fs[i]?=some f→xs[i]?=some y→∃As,R f.type As (jc y.1)∧Cells w As ((cs.drop f.offset).take (P.cellsOf f.type)))→xs.length=fs.length→
    ∃L:List (List za×Nat),L.length=fs.length∧(∀(i:Nat) f x,fs[i]?=some f→L[i]?=some x→R f.type x.1 x.2)∧(L.map (·.2)).sum=bulkL (xs.map (·.1))∧Cells w (L.map (·.1)).flatten (cs.drop n)
  | [],n,m,cs,xs,ht,hm,_,_,hl=>by
    cases ht
    have:xs=[]:=List.eq_nil_of_length_eq_zero (by simpa using hl)
    subst this
    subst hm
    exact⟨[],rfl,fun i f x h=>by simp at h,rfl,by simp[Cells]⟩
  |f::fs,n,m,cs,[],ht,hm,hn,h,hl=>by simp at hl
  | f ::fs,n,m,cs,y::xs,ht,hm,hn,h,hl=>by
    simp only[yX] at ht
    split at ht
    · rename_i ho
      obtain⟨As,hR,hc⟩:=h 0 f y rfl rfl
      rw[ho] at hc
      have hle:n+P.cellsOf f.type≤cs.length:=by
        have key:∀(fs:List Field) (a m:Nat),yX P a fs=some m→a≤m:=by
          intro fs
          induction fs with
          |nil=>intro a m h;cases h;exact Nat.le_refl _
          | cons g gs ih=>
            intro a m h
            simp only[yX] at h
            split at h
            · have:=ih _ _ h;omega
            · cases h
        have:=key _ _ _ ht
        omega
      obtain⟨L,h1,h2,h3,h4⟩:=QJ fs (n+P.cellsOf f.type) m cs xs ht hm hle (fun i g z hg hz=>h (i+1) g z (by simpa using hg) (by simpa using hz)) (by simpa using hl)
      refine⟨(As,jc y.1)::L,by simp[h1],fun i g x hg hx=>?_,by simp[bulkL,h3],?_⟩
      · cases i with
        |zero=>simp at hg hx;subst hg;subst hx;exact hR
        |succ i=>exact h2 i g x (by simpa using hg) (by simpa using hx)
      · have hlen:((cs.drop n).take (P.cellsOf f.type)).length=P.cellsOf f.type:=by simp;omega
        have hA:As.length=P.cellsOf f.type:=hc.1.trans hlen
        refine⟨?_,fun k A v hA' hv=>?_⟩
        · have:=h4.1
          simp only[List.map_cons,List.flatten_cons,List.length_append,List.length_drop] at this⊢
          omega
        · simp only[List.map_cons,List.flatten_cons] at hA'
          rw[List.getElem?_append] at hA'
          split at hA'
          · rename_i hlt
            refine hc.2 k A v hA' ?_
            rw[List.getElem?_take_of_lt (by omega)]
            exact hv
          · rename_i hge
            refine h4.2 _ A v hA' ?_
            rw[List.getElem?_drop] at hv⊢
            rw[←hv]
            congr 1
            omega
    · cases ht
theorem qZ {S :List TypeId}(hP:Wn P S):∀(n:Nat) (t:TypeId) (cs:List Value) (x:DataW H×List MemPlace),t∈S→DataW.trod enc P w 0 (fun _=>true) true n t cs=some x→∃As,Sh P t As (jc x.1)∧Cells w As cs
 |0,_,_,_,_,h=>by simp[DataW.trod] at h
 | n + 1, t, cs,x,ht,h=>by
   have hS:=hP.at_ t ht
   rw[DataW.trod_step] at h
   unfold DataW.trodStep at h
   have other:(∀k,P.underlying t≠some (.int k))→P.underlying t≠some .bool→P.underlying t≠some .string→(∀e,P.underlying t≠some (.slice e))→(∀fs,P.underlying t≠some (.struct fs))→∃As,Sh P t As (jc x.1)∧Cells w As cs:=
    fun h1 h2 h3 h4 h5=>⟨_,.other t cs.length _ h1 h2 h3 h4 h5,Ud cs⟩
   split at h
   case h_1 b hu=>cases h;exact⟨_,.bool t b hu,jW (.sc _ _)⟩
   case h_2 k k' m hu=>
    split at h
    · rename_i hc
      obtain⟨rfl,hw⟩:=hc
      cases h
      exact⟨_,.int t _ m hu hw,jW (.sc _ _)⟩
    · cases h
   case h_4 s hu=>
    split at h
    · cases h
      refine⟨_,?_,jW (.sc _ _)⟩
      have e:jc (DataW.lit (H:=H) (.string s.data.toList))=s.size+1:=by
       simp only[jc]
       rw[Array.length_toList]
       rfl
      show Sh P t _ (jc (DataW.lit (H:=H) (.string s.data.toList)))
      rw[e]
      exact .string t s hu
    · cases h
   case h_7 hu=> 
    rename_i e
    cases h
    have:=Sh.slice (P:=P) t e [] 0 hu (fun x hx=>by cases hx) (fun x hx=>by cases hx)
    exact⟨_,by simpa[jc] using this,jW (.immNil _ _ _)⟩
   case h_8 e a len cap hu=>
    simp only at h
    split at h
    · rename_i hcond
      obtain⟨_,hlc,_⟩:=hcond
      unfold ZF at hS
      rw[hu] at hS
      obtain⟨hsz,heS⟩:=hS
      simp only[if_true,Option.map_eq_some_iff,Option.bind_eq_some_iff] at h
      obtain⟨elems,he,rest,hrest,rfl⟩:=h
      obtain⟨e1,e2⟩:=yO he
      obtain⟨r1,r2⟩:=yO hrest
      simp only[List.length_range] at e1 r1
      have one:∀i y,elems[i]?=some y→∃As,Sh P e As (jc y.1)∧As.length=P.cellsOf e∧∀(k:Nat) A,As[k]?=some A→∃v,w.cell? ((a.add (i*P.cellsOf e)).add k)=some v∧VRel (Env.plain w) none A v:=by
       intro i y hy
       have hi:i<len:=by rw[←e1];exact(List.getElem?_eq_some_iff.1 hy).1
       obtain⟨y',hy',hr⟩:=e2 i i (by simp[hi])
       rw[hy] at hy'
       cases hy'
       simp only[Option.bind_eq_some_iff] at hr
       obtain⟨cs',hc,hr⟩:=hr
       obtain⟨_,hl',hcell⟩:=World.cells?_some hc
       obtain⟨As,hS,hA⟩:=qZ hP n _ _ _ heS hr
       refine⟨As,hS,hA.1.trans hl',fun k A hk=>?_⟩
       have hlt:k<cs'.length:=by rw[←hA.1];exact(List.getElem?_eq_some_iff.1 hk).1
       refine⟨cs'[k],?_,hA.2 k A _ hk (List.getElem?_eq_getElem hlt)⟩
       rw[hcell k (by omega)]
       exact List.getElem?_eq_getElem hlt
      have hL:∃L:List (List za×Nat),L.length=elems.length∧∀(i:Nat) z y,L[i]?=some z→elems[i]?=some y→Sh P e z.1 z.2∧z.2=jc y.1∧z.1.length=P.cellsOf e∧∀(k:Nat) A,z.1[k]?=some A→∃v,w.cell? ((a.add (i*P.cellsOf e)).add k)=some v∧VRel (Env.plain w) none A v:=by
       have key:∀(l:List (DataW H×List MemPlace)) (o:Nat),(∀i y,l[i]?=some y→elems[o+i]?=some y)→∃L:List (List za×Nat),L.length=l.length∧∀(i:Nat) z y,L[i]?=some z→l[i]?=some y→Sh P e z.1 z.2∧z.2=jc y.1∧z.1.length=P.cellsOf e∧∀(k:Nat) A,z.1[k]?=some A→∃v,w.cell? ((a.add ((o+i)*P.cellsOf e)).add k)=some v∧VRel (Env.plain w) none A v:=by
        intro l
        induction l with
        |nil=>intro o _;exact⟨[],rfl,fun i z y h=>by simp at h⟩
        | cons y0 l ih=>
          intro o hl
          obtain⟨L,h1,h2⟩:=ih (o+1) fun i y hy=>by
           have:=hl (i+1) y (by simpa using hy)
           rwa [show o+(i+1)=o+1+i by omega] at this
          obtain⟨As,h3,h4,h5⟩:=one (o+0) y0 (hl 0 y0 rfl)
          refine⟨(As,jc y0.1)::L,by simp[h1],fun i z y hz hy=>?_⟩
          cases i with
          |zero=>simp at hz hy;subst hz;subst hy;exact⟨h3,rfl,h4,h5⟩
          | succ i=>
            have:=h2 i z y (by simpa using hz) (by simpa using hy)
            rwa [show o+1+i=o+(i+1) by omega] at this
       have:=key elems 0 fun i y hy=>by rw[Nat.zero_add];exact hy
       simpa using this
      obtain⟨L,hl1,hl2⟩:=hL
      have hget:∀z∈L,∃i y,L[i]?=some z∧elems[i]?=some y:=fun z hz=>by
       obtain⟨i,hi⟩:=List.mem_iff_getElem?.1 hz
       have hlt:i<elems.length:=by rw[←hl1];exact(List.getElem?_eq_some_iff.1 hi).1
       exact⟨i,_,hi,List.getElem?_eq_getElem hlt⟩
      have hlen:∀z∈L,z.1.length=P.cellsOf e:=fun z hz=>by
       obtain⟨i,y,h1,h2⟩:=hget z hz
       exact(hl2 i z y h1 h2).2.2.1
      have hsum:(L.map (·.2)).sum=bulkL (elems.map (·.1)):=by
       rw[kn]
       congr 1
       apply List.ext_getElem?
       intro i
       rw[List.getElem?_map,List.getElem?_map,List.getElem?_map]
       cases hz:L[i]? with
       | none=>
         have:elems[i]?=none:=by rw[List.getElem?_eq_none_iff] at hz⊢;omega
         rw[this];rfl
       | some z=>
         have hlt:i<elems.length:=by rw[←hl1];exact(List.getElem?_eq_some_iff.1 hz).1
         have hy:=List.getElem?_eq_getElem hlt
         rw[hy]
         simp[(hl2 i z _ hz hy).2.1]
      have hS:=Sh.slice (P:=P) t e L (bulkL (rest.map (·.1))) hu hlen (fun z hz=>by
       obtain⟨i,y,h1,h2⟩:=hget z hz
       exact(hl2 i z y h1 h2).1)
      rw[hsum] at hS
      refine⟨_,?_,jW (A:= .imm (P.cellsOf e) (L.map (·.1)).flatten) ?_⟩
      · simp only[jc]
        rwa [show bulkL (elems.map (·.1))+bulkL (rest.map (·.1))+1=1+bulkL (elems.map (·.1))+bulkL (rest.map (·.1)) by omega]
      · by_cases h0:cap=0
        · have:L=[]:=List.eq_nil_of_length_eq_zero (by omega)
          subst this
          have hl0:len=0:=by omega
          subst hl0 h0
          exact .immNil _ _ _
        · 
          have hfirst:∃v,w.cell? a=some v:=by
           have hz:∃y cs',w.cells? 0 (a.add (0*P.cellsOf e)) (P.cellsOf e)=some cs'∧DataW.trod enc P w 0 (fun _=>true) true n e cs'=some y:=by
            by_cases hlen0:len=0
            · subst hlen0
              obtain⟨y,_,hr⟩:=r2 0 0 (by rw[List.getElem?_range (by omega)])
              simp only[Option.bind_eq_some_iff] at hr
              obtain⟨cs',hc,hr⟩:=hr
              exact⟨y,cs',hc,hr⟩
            · obtain⟨y,_,hr⟩:=e2 0 0 (by rw[List.getElem?_range (by omega)])
              simp only[Option.bind_eq_some_iff] at hr
              obtain⟨cs',hc,hr⟩:=hr
              exact⟨y,cs',hc,hr⟩
           obtain⟨y,cs',hc,_⟩:=hz
           obtain⟨_,hl',hcell⟩:=World.cells?_some hc
           have hlt:0<cs'.length:=by omega
           refine⟨cs'[0],?_⟩
           have:=hcell 0 hsz
           rw[List.getElem?_eq_getElem hlt] at this
           simpa[Addr.add] using this
          obtain⟨v0,hv0⟩:=hfirst
          obtain⟨b,o,sp⟩:=a
          have hspn:sp=none:=by
           cases sp with
           |none=>rfl
           | some s=>
             simp only[World.cell?] at hv0
             split at hv0
             · simp at hv0
             · cases hv0
          subst hspn
          have hb:b<w.heap.size:=World.block_lt_of_cell? w _ hv0
          obtain⟨f1,f2⟩:=YK hsz (L:=L.map (·.1)) (fun l hl=>by
           obtain⟨z,hz,rfl⟩:=List.mem_map.1 hl
           exact hlen z hz)
          have hcell:∀(k:Nat) A,((L.map (·.1)).flatten)[k]?=some A→∃v,w.cell? ⟨b,o+k,none⟩=some v∧VRel (Env.plain w) none A v:=fun k A hk=>by
           obtain⟨l,h1,h2⟩:=f2 k A hk
           rw[List.getElem?_map] at h1
           obtain⟨z,hz,rfl⟩:=Option.map_eq_some_iff.1 h1
           have hlt:k / P.cellsOf e<elems.length:=by rw[←hl1];exact(List.getElem?_eq_some_iff.1 hz).1
           obtain⟨v,h3,h4⟩:=(hl2 _ z _ hz (List.getElem?_eq_getElem hlt)).2.2.2 _ A h2
           refine⟨v,?_,h4⟩
           rw[Addr.add_lit,Addr.add_lit] at h3
           have hk':o+k / P.cellsOf e*P.cellsOf e+k%P.cellsOf e=o+k:=by rw[Nat.add_assoc,Nat.mul_comm];congr 1;exact Nat.div_add_mod k _
           rwa [hk'] at h3
          refine .imm none _ _ b o len cap (fun k=>(w.cell? ⟨b,o+k,none⟩).getD undef) rfl hb ⟨hsz,by rw[f1];simp[hl1,e1]⟩ hlc (fun k A hk=>?_) fun k A hk=>?_
          · obtain⟨v,h1,_⟩:=hcell k A hk
            show w.cell? _=some ((w.cell? _).getD undef)
            rw[h1];rfl
          · obtain⟨v,h1,h2⟩:=hcell k A hk
            show VRel _ none A ((w.cell? _).getD undef)
            rw[h1];exact h2
    · cases h
   case h_9 fs hu=>
    split at h
    · rename_i hl
      simp only[Option.map_eq_some_iff] at h
      obtain⟨xs,hx,rfl⟩:=h
      obtain⟨e1,e2⟩:=yO hx
      obtain⟨L,h1,h2,h3,h4⟩:=QJ (R:=Sh P) fs.toList 0 _ _ xs (hP.tile t ht fs hu) hl.symm (Nat.zero_le _) (fun i f y hf hy=>by
       obtain⟨y',hy',hr⟩:=e2 i f hf
       rw[hy] at hy'
       cases hy'
       exact qZ hP n _ _ _ (by unfold ZF at hS;rw[hu] at hS;exact hS f (List.mem_of_getElem? hf)) hr) e1
      refine⟨(L.map (·.1)).flatten,?_,by simpa using h4⟩
      have:=Sh.struct (P:=P) t fs L hu (by simpa using h1) (fun i f x hf hx=>h2 i f x (by simpa using hf) hx)
      rw[h3] at this
      simp only[jc]
      rwa [Nat.add_comm]
    · cases h
   all_goals first
    |cases h;done
    |exact other (by simp[*]) (by simp[*]) (by simp[*]) (by simp[*]) (by simp[*])
end
end Go.Ga

namespace Go.Ga
open Go Go.ChangeShapes Go.WideShapes Go.RowKit
def pq (P:Program)(S:List TypeId):Bool:=
 S.all fun t=>match P.underlying t with
  |some .bool=>true
  |some (.int _)=>true
  |some .string=>true
  |some (.slice e)=>decide (0<P.cellsOf e)&&S.contains e
  |some (.struct fs)=>fs.toList.all (fun f=>S.contains f.type)&&(yX P 0 fs.toList==some (P.cellsOf t))
  |_=>false
theorem Kn {P:Program}{S:List TypeId}(h:pq P S=true):Wn P S:=by
 refine⟨fun t ht=>?_,fun t ht fs hu=>?_⟩
 · have:=List.all_eq_true.1 h t ht
   unfold ZF
   cases hu:P.underlying t with
   |none=>rw[hu] at this;cases this
   | some d=>
     rw[hu] at this
     cases d with
     |bool=>trivial
     |int k=>trivial
     |string=>trivial
     | slice e=>
       simp only[Bool.and_eq_true,decide_eq_true_eq,List.contains_iff_mem] at this
       exact this
     | struct fs=>
       simp only[Bool.and_eq_true,List.all_eq_true,List.contains_iff_mem] at this
       exact this.1
     |_=>cases this
 · have:=List.all_eq_true.1 h t ht
   rw[hu] at this
   simp only[Bool.and_eq_true,beq_iff_eq] at this
   exact this.2
section
variable {H:Type} {enc:TypeId×Value→H} {P:Program}
theorem KC {W W':World}(hO:GA W W')(hos:W'.os=W.os)(hout:W'.output=W.output)(may:MemPlace→Prop):W.keptBut W' may:=by
 refine⟨hos,hout,fun i hi=>?_⟩
 rw[hO i hi]
 cases W.heap[i]? with
 |none=>rfl
 | some o=>cases o with
   |cells c t fr=>exact⟨rfl,rfl,rfl,fun _ _=>rfl⟩
   |map es clock=>exact .inr ⟨rfl,rfl⟩
   |_=>rfl
theorem JB {w:World}{sp:Nat→Bool}{gs:List (DataW H)}{ps:List MemPlace}(h:DataW.TrodVars enc P w sp [] gs ps):gs=[]∧ps=[]:=by
 cases gs with
 |nil=>exact⟨rfl,h⟩
 |cons=>cases h
theorem vv {S:List TypeId}(hS:∀t∈S,ZF P S t){f:Func}{s:ChangeSpec}{W W':World}{args:Array Value}{ds gs:List (DataW H)}{before:List MemPlace}(hW:DataW.Whole enc P f.params.toList s.vars false W args.toList ds gs before)
    (hts:∀t∈f.params.toList,t∈S) (hv:s.vars=[]) (hres:(s.fn H (ds++gs)).results=[.lit (.bool true)]) (harg:(s.fn H (ds++gs)).args=ds) (hvr:(s.fn H (ds++gs)).vars=[]) {tb:TypeId} (hrt:f.resultTypes= #[tb]) (hb:P.underlying tb=some .bool) (hO:GA W W') (hos:W'.os=W.os) (hout:W'.output=W.output):
    s.post enc P f false true false false W args (.bool true) W':=by
  have hW':=hW
  obtain⟨p,q,hA,hV,hpq,hz,hn⟩:=hW
  rw[hv] at hV
  obtain⟨rfl,rfl⟩:=JB hV
  rw[List.append_nil] at hpq
  subst hpq
  have hres':∀(b:Nat) (sp:Nat→Bool) (hd:Bool),DataW.TrodAll enc P W' b sp hd f.resultTypes.toList ((Value.bool true).resultList f.resultTypes.size) (s.fn H (ds++[])).results []:=fun b sp hd=>by
    rw[hres,hrt]
    exact⟨[],[],⟨1,by simp[DataW.trod,hb,Value.cells]⟩,rfl,rfl⟩
  refine⟨ds,[],before,[],before,[],hW',hres' _ _ _,?_,?_,KC hO hos hout _,fun h=>by cases h⟩
  · rw[harg]
    exact Qm hS hO hts hA fun x hx=>by simpa using hW'.lt x hx
  · rw[hvr,hv];rfl
def SA (P:Program)(t:TypeId)(A:za)(b:Nat):Prop:=
 ((∃fs,P.underlying t=some (.struct fs))∧∃As,A= .agg As∧Sh P t As b)∨((∀fs,P.underlying t≠some (.struct fs))∧Sh P t [A] b)
inductive Gz (P:Program):List TypeId→List za→Nat→Prop
 |nil:Gz P [] [] 0
 |cons (t:TypeId) (A:za) (b:Nat) (ts:List TypeId) (As:List za) (c:Nat) (h:SA P t A b) (hr:Gz P ts As c):Gz P (t::ts) (A::As) (b+c)
theorem uw {S:List TypeId}(hP:Wn P S){w:World}{base:Nat}{t:TypeId}{v:Value}{d:DataW H}{ps:List MemPlace}(hok:Value.okWide P w .any base t v)(ht:t∈S)(h:DataW.Trod enc P w 0 (fun _=>true) true t v d ps):
    ∃A,SA P t A (jc d)∧VRel (Env.plain w) none A v:=by
  obtain⟨fuel,h⟩:=h
  obtain⟨As,hS,hl,hc⟩:=qZ hP fuel t _ _ ht h
  have hna:∀n e,P.underlying t≠some (.array n e):=fun n e hu=>by
    have:=hP.at_ t ht
    unfold ZF at this
    rw[hu] at this
    exact this
  by_cases hs:∃fs,P.underlying t=some (.struct fs)
  · obtain⟨fs,hs⟩:=hs
    unfold Value.okWide at hok
    rw[hs] at hok
    obtain⟨cs,rfl,_,_⟩:=hok
    refine⟨.agg As,.inl ⟨⟨fs,hs⟩,As,rfl,hS⟩,.agg none As cs (by simpa[Value.cells] using hl.symm) fun k A v hA hv=>hc k A v hA (by simpa[Value.cells] using hv)⟩
  · have hns:∀fs,P.underlying t≠some (.struct fs):=fun fs e=>hs ⟨fs,e⟩
    have hv:v.cells= #[v]:=by
      cases v with
      | agg cs=>
        exfalso
        unfold Value.okWide at hok
        cases hu:P.underlying t with
        | none=>
          rw[hu] at hok
          simp[Cell.okWide,Cell.ok,hu] at hok
        | some dsc=>
          rw[hu] at hok
          cases dsc with
          |struct fs=>exact hns fs hu
          |array n e=>exact hna n e hu
          |_=>simp[Cell.okWide,Cell.ok,hu] at hok
      |_=>rfl
    rw[hv] at hl hc
    have:∃A,As=[A]:=by
      match As,hl with
      |[A],_=>exact⟨A,rfl⟩
    obtain⟨A,rfl⟩:=this
    exact⟨A,.inr ⟨hns,hS⟩,hc 0 A v rfl rfl⟩
theorem J4 {S:List TypeId}(hP:Wn P S){w:World}{base:Nat}:∀{ts:List TypeId} {vs:List Value} {ds:List (DataW H)} {ps:List MemPlace},(∀(j:Nat) t v,ts[j]?=some t→vs[j]?=some v→Value.okWide P w .any base t v)→(∀t∈ts,t∈S)→
    DataW.TrodAll enc P w 0 (fun _=>true) true ts vs ds ps→∃As,Gz P ts As (bulkL ds)∧As.length=vs.length∧∀(k:Nat) A v,As[k]?=some A→vs[k]?=some v→VRel (Env.plain w) none A v
  |[],[],[],ps,_,_,_=>⟨[],.nil,rfl,fun k A v h=>by simp at h⟩
  | t::ts,v::vs,d::ds,ps,hok,hna,⟨p,q,h1,h2,_⟩=>by
    obtain⟨A,hA,hv⟩:=uw hP (hok 0 t v rfl rfl) (hna t (.head _)) h1
    obtain⟨As,hAs,hl,hvs⟩:=J4 hP (fun j t' v' ht hv'=>hok (j+1) t' v' (by simpa using ht) (by simpa using hv')) (fun t ht=>hna t (.tail _ ht)) h2
    refine⟨A::As,.cons t A _ ts As _ hA hAs,by simp[hl],fun k B u hB hu=>?_⟩
    cases k with
    |zero=>simp at hB hu;subst hB;subst hu;exact hv
    |succ k=>exact hvs k B u (by simpa using hB) (by simpa using hu)
theorem wz {S:List TypeId}(hP:Wn P S){f:Nat}{fn:Func}{s:ChangeSpec}{B:Nat}{W:World}{base:Nat}{args:Array Value}{ds gs:List (DataW H)}{before:List MemPlace}
    (hval:∀(j:Nat) t v,fn.params[j]?=some t→args[j]?=some v→Value.okWide P W .any base t v) (hna:∀t∈fn.params.toList,t∈S)
    (hW:DataW.Whole enc P fn.params.toList s.vars false W args.toList ds gs before) (hv:s.vars=[]) (hres:(s.fn H (ds++gs)).results=[.lit (.bool true)]) (harg:(s.fn H (ds++gs)).args=ds) (hvr:(s.fn H (ds++gs)).vars=[])
    {tb:TypeId} (hrt:fn.resultTypes= #[tb]) (hb:P.underlying tb=some .bool) (hbk:bulkL (ds++gs)≤B)
    (H0:∀As b,Gz P fn.params.toList As b→b≤B→zy P [] f As [] fun r _=>r= .sc (.bool true)):
    Calls P f args W fun e W'=>∃v,e= .returned v∧s.post enc P fn false true false false W args v W':=by
  have hW':=hW
  obtain⟨p,q,hA,hV,hpq,hz,hn⟩:=hW
  rw[hv] at hV
  obtain⟨rfl,rfl⟩:=JB hV
  obtain⟨As,hAs,hl,hvs⟩:=J4 hP (fun j t v ht hv'=>hval j t v (by simpa using ht) (by simpa using hv')) hna hA
  rw[List.append_nil] at hbk
  have hC:=(H0 As _ hAs hbk).2 (Env.plain W) args ⟨rfl,fun b q h=>(by cases h),fun id cs h=>(by simp at h)⟩ (by simpa using hl.symm) fun k A v hA' hv'=>(hvs k A v hA' (by simpa using hv')).any rfl _
  refine hC.mono fun e W' ⟨v,r,h',E',he,hw,_,hr,hp,hq⟩=>?_
  subst he hw hq
  cases hr
  refine⟨_,rfl,vv hP.at_ hW' hna hv hres harg hvr hrt hb (fun b hlt=>(hp.old b rfl hlt).2) hp.os hp.output⟩
end
end Go.Ga

namespace Go.Ga
open Go
def Pl (n:Nat)(j:Nat):Option Nat:=if j<n then some j else none
theorem zy.less {P:Program}{L L':List (List Nat)}{f:Nat}{args:List za}{h:Heap}{Q:za→Heap→Prop}(H:zy P L f args h Q)(hL:∀r∈L',r∈L):zy P L' f args h Q:=
 ⟨H.1,fun E vs h1 h2 h3=>(H.2 E vs h1 h2 h3).mono fun _ _ ⟨v,r,h',E',a,b,c,d,e,q⟩=>⟨v,r,h',E',a,b,c,d,⟨e.size,e.os,e.tape,e.output,e.old,e.far,e.farB,e.ids,fun b r hr=>e.keep b r ⟨hL r hr.1,hr.2⟩⟩,q⟩⟩
theorem zy.nil {P:Program}{L:List (List Nat)}{f:Nat}{args:List za}{h:Heap}{Q:za→Heap→Prop}(H:zy P L f args h Q):zy P [] f args h Q:=H.less fun r hr=>by cases hr
attribute [go_sem] Pl
end Go.Ga

namespace Go.Ga
open Go
def zV {α:Type}(f:α→List za):List α→List za
 |[]=>[]
 |x::l=>f x++zV f l
section
variable {α:Type} {f:α→List za} {sz:Nat}
theorem qA (hf:∀x,(f x).length=sz):∀l:List α,(zV f l).length=l.length*sz
 |[]=>by simp[zV]
 |x::l=>by simp only[zV,List.length_append,hf,qA hf l,List.length_cons,Nat.add_mul];omega
theorem Qa (hf:∀x,(f x).length=sz):∀(l:List α) (k:Nat),(zV f l).drop (k*sz)=zV f (l.drop k)
 |[],k=>by simp[zV]
 |x::l,0=>by simp
 | x::l,k+1=>by
   simp only[zV,List.drop_succ_cons]
   rw[←Qa hf l k,Nat.add_mul,Nat.one_mul,List.drop_append,hf]
   rw[List.drop_of_length_le (by rw[hf];omega),List.nil_append]
   congr 1;omega
theorem vz (hf:∀x,(f x).length=sz){l:List α}{k:Nat}{x:α}(h:l[k]?=some x)(r:Nat)(hr:r<sz):(zV f l)[k*sz+r]?=(f x)[r]?:=by
 rw[←List.getElem?_drop,Qa hf]
 have hlt:k<l.length:=(List.getElem?_eq_some_iff.1 h).1
 rw[List.drop_eq_getElem_cons hlt]
 have hx:l[k]=x:=by rw[List.getElem?_eq_getElem hlt] at h;exact Option.some.inj h
 rw[hx]
 simp only[zV]
 rw[List.getElem?_append_left (by rw[hf];exact hr)]
theorem xB (hf:∀x,(f x).length=sz){l:List α}{k:Nat}{x:α}(h:l[k]?=some x):((zV f l).drop (k*sz)).take sz=f x:=by
 rw[Qa hf]
 have hlt:k<l.length:=(List.getElem?_eq_some_iff.1 h).1
 rw[List.drop_eq_getElem_cons hlt]
 have hx:l[k]=x:=by rw[List.getElem?_eq_getElem hlt] at h;exact Option.some.inj h
 rw[hx]
 simp only[zV]
 rw[List.take_append_of_le_length (by rw[hf];exact Nat.le_refl _),List.take_of_length_le (by rw[hf];exact Nat.le_refl _)]
theorem j9 (h:∀x,za.plainL (f x)=true):∀l:List α,za.plainL (zV f l)=true
 |[]=>rfl
 | x::l=>by
   have app:∀a b:List za,za.plainL a=true→za.plainL b=true→za.plainL (a++b)=true:=fun a b ha hb=>by
    induction a with
    |nil=>exact hb
    |cons y a ih=>simp only[za.plainL,Bool.and_eq_true] at ha;simp only[List.cons_append,za.plainL,ha.1,ih ha.2,Bool.and_self]
   exact app _ _ (h x) (j9 h l)
theorem JM (h:∀x,za.flatL (f x)=true):∀l:List α,za.flatL (zV f l)=true
 |[]=>rfl
 | x::l=>by
   have app:∀a b:List za,za.flatL a=true→za.flatL b=true→za.flatL (a++b)=true:=fun a b ha hb=>by
    induction a with
    |nil=>exact hb
    |cons y a ih=>simp only[za.flatL,Bool.and_eq_true] at ha;simp only[List.cons_append,za.flatL,ha.1,ih ha.2,Bool.and_self]
   exact app _ _ (h x) (JM h l)
theorem jI (h:∀x,za.cellOkL (f x)=true):∀l:List α,za.cellOkL (zV f l)=true
 |[]=>rfl
 | x::l=>by
   have app:∀a b:List za,za.cellOkL a=true→za.cellOkL b=true→za.cellOkL (a++b)=true:=fun a b ha hb=>by
    induction a with
    |nil=>exact hb
    |cons y a ih=>simp only[za.cellOkL,Bool.and_eq_true] at ha;simp only[List.cons_append,za.cellOkL,ha.1,ih ha.2,Bool.and_self]
   exact app _ _ (h x) (jI h l)
end
def two (x:Int×Int):List za:=[.sc (.int .i64 x.1),.sc (.int .i64 x.2)]
theorem gB (x:Int×Int):(two x).length=2:=rfl
def PW (x:Int×Int×Int):List za:=[.sc (.int .i64 x.1),.sc (.int .i64 x.2.1),.sc (.int .i64 x.2.2)]
theorem gC (x:Int×Int×Int):(PW x).length=3:=rfl
abbrev wt (l:List (Int×Int)):List za:=zV two l
abbrev wv (l:List (Int×Int×Int)):List za:=zV PW l
theorem xc (l:List (Int×Int)):(wt l).length=l.length*2:=qA gB l
theorem xf (l:List (Int×Int×Int)):(wv l).length=l.length*3:=qA gC l
theorem qY (l:List (Int×Int)):za.plainL (wt l)=true:=j9 (fun _=>rfl) l
theorem q2 (l:List (Int×Int×Int)):za.plainL (wv l)=true:=j9 (fun _=>rfl) l
theorem UU (l:List (Int×Int)):za.flatL (wt l)=true:=JM (fun _=>rfl) l
theorem UY (l:List (Int×Int×Int)):za.flatL (wv l)=true:=JM (fun _=>rfl) l
theorem xe (l:List (Int×Int)):za.cellOkL (wt l)=true:=jI (fun _=>rfl) l
theorem xh (l:List (Int×Int×Int)):za.cellOkL (wv l)=true:=jI (fun _=>rfl) l
theorem qO (l:List (Int×Int)):za.copyableL (wt l)=true:=plain_copyableL _ (qY l)
theorem qP (l:List (Int×Int×Int)):za.copyableL (wv l)=true:=plain_copyableL _ (q2 l)
theorem xd (l:List (Int×Int)):za.freezeL (wt l)=wt l:=copyable_freezeL _ (qO l)
theorem xg (l:List (Int×Int×Int)):za.freezeL (wv l)=wv l:=copyable_freezeL _ (qP l)
theorem wM (l:List (Int×Int)):za.ids0L (wt l)=true:=plain_ids0L _ (qY l)
theorem wO (l:List (Int×Int×Int)):za.ids0L (wv l)=true:=plain_ids0L _ (q2 l)
theorem kE (g:Nat→Option Nat)(l:List (Int×Int)):za.renL g (wt l)=wt l:=ids0_renL g _ (wM l)
theorem kH (g:Nat→Option Nat)(l:List (Int×Int×Int)):za.renL g (wv l)=wv l:=ids0_renL g _ (wO l)
attribute [go_sem] xc xf qY q2 UU UY xe xh qO qP xd xg wM wO kE kH
end Go.Ga

namespace Go.Ga
open Go
section
variable {P:Program} {rs:List Nat} {N:Nat} {V:List Nat} {L:List (List Nat)} {x:zU} {K:ZG→zb→Prop} {st:zb}
theorem ZE (p:List Nat)(sz:Nat)(hp:st.at p=some (.sc (.slice none 0 0)))(h:jp P rs N V L x K ((st.kill (za.under p true)).setAt p (.own (some sz) []))):jp P rs N V L x K st:=
 QY (fun E tm R=>by
  obtain⟨u,hu,hr⟩:=R.at_ hp rfl
  cases hr
  have U:zS p E E:=⟨Nat.le_refl _,E.ids_refl,fun _ h _=>⟨h,rfl⟩,fun _ _ h _=>⟨h,rfl⟩⟩
  exact⟨E,R.turn (keep:=true) hp rfl (fun _=>⟨_,_,rfl⟩) U R.lim rfl hu (.ownNil _ sz),zC.refl E,rfl⟩) h
theorem zW (p:List Nat){sz:Option Nat}{cs:List za}(hp:st.at p=some (.own sz cs))(h:jp P rs N V L x K ((st.kill (za.under p false)).setAt p (za.own sz cs).freeze)):jp P rs N V L x K st:=
 QY (fun E tm R=>by
  obtain⟨u,hu,hr⟩:=R.at_ hp rfl
  have U:zS p E (E.freeze p):=jd p
  have hB:VRel (E.freeze p) (some p) (za.own sz cs).freeze u:=hr.frozen p _ fun ℓ e=>by cases e;exact List.prefix_refl _
  exact⟨_,R.turn (keep:=false) hp rfl (fun e=>by cases e) U (jU R.lim) rfl hu hB,jw (Zr (zu hp)),rfl⟩) h
end
def ym (A' A:za):Prop:=∀E po v,VRel E po A' v→VRel E po A v
theorem ym.refl (A:za):ym A A:=fun _ _ _ h=>h
theorem ym.imm (sz:Nat):ym (.sc (.slice none 0 0)) (.imm sz []):=fun _ _ _ h=>by cases h;exact .immNil _ _ _
theorem ym.own (sz:Nat):ym (.sc (.slice none 0 0)) (.own (some sz) []):=fun _ _ _ h=>by cases h;exact .ownNil _ _
theorem ym.dead (A:za):ym A .dead:=fun _ _ v _=> .dead _ v
inductive Jw :List za→List za→Prop
 |nil:Jw [] []
 |cons {A' A:za} {l' l:List za} (h:ym A' A) (hl:Jw l' l):Jw (A'::l') (A::l)
theorem Jw.get :∀{l' l:List za},Jw l' l→l'.length=l.length∧∀(k:Nat) A,l[k]?=some A→∃A',l'[k]?=some A'∧ym A' A
 |_,_,.nil=>⟨rfl,fun k A h=>by simp at h⟩
 | _,_,.cons (A':=A') h hl=>by
   obtain⟨h1,h2⟩:=hl.get
   refine⟨by simp[h1],fun k A hA=>?_⟩
   cases k with
   |zero=>simp at hA;subst hA;exact⟨A',rfl,h⟩
   |succ k=>simp at hA;simpa using h2 k A hA
theorem Jw.refl :∀l:List za,Jw l l
 |[]=> .nil
 |A::l=> .cons (.refl A) (.refl l)
def jQ (l:List (List Nat)):List za:=l.map fun xs=> .own (some 1) (jb xs)
def j7 (l:List (List Nat)):List za:=l.map fun xs=> .imm 1 (jb xs)
theorem vi (l:List (List Nat)):(jQ l).length=l.length:=by simp[jQ]
theorem vl (l:List (List Nat)):(j7 l).length=l.length:=by simp[j7]
theorem vg (l:List (List Nat))(k:Nat)(x:List Nat):(jQ l).set k (.own (some 1) (jb x))=jQ (l.set k x):=by simp[jQ,List.map_set]
theorem Qt :∀l:List (List Nat),za.freezeL (jQ l)=j7 l
 |[]=>rfl
 | x::l=>by
   have ih:=Qt l
   simp only[jQ,j7,List.map_cons,za.freezeL,za.freeze,yw] at ih⊢
   rw[ih]
theorem j6 :∀l:List (List Nat),za.plainL (j7 l)=true
 |[]=>rfl
 | x::l=>by
   have ih:=j6 l
   simp only[j7,List.map_cons,za.plainL,za.plain,JO,Bool.true_and] at ih⊢
   exact ih
theorem Qv :∀l:List (List Nat),za.cellOkL (j7 l)=true
 |[]=>rfl
 | x::l=>by
   have ih:=Qv l
   simp only[j7,List.map_cons,za.cellOkL,za.cellOk,Bool.true_and] at ih⊢
   exact ih
theorem Qu :∀l:List (List Nat),za.cellOkL (jQ l)=true
 |[]=>rfl
 | x::l=>by
   have ih:=Qu l
   simp only[jQ,List.map_cons,za.cellOkL,za.cellOk,Bool.true_and] at ih⊢
   exact ih
theorem Yc :∀l:List (List Nat),za.flatL (jQ l)=true
 |[]=>rfl
 | x::l=>by
   have ih:=Yc l
   simp only[jQ,List.map_cons,za.flatL,za.flat,wX,Bool.true_and] at ih⊢
   exact ih
theorem q6 :∀l:List (List Nat),za.ids0L (jQ l)=true
 |[]=>rfl
 | x::l=>by
   have ih:=q6 l
   simp only[jQ,List.map_cons,za.ids0L,za.ids0,Q5,Bool.true_and] at ih⊢
   exact ih
theorem J8 (l:List (List Nat)):za.copyableL (j7 l)=true:=plain_copyableL _ (j6 l)
theorem Wx (l:List (List Nat)):za.freezeL (j7 l)=j7 l:=copyable_freezeL _ (J8 l)
theorem Yd (l:List (List Nat)):za.ids0L (j7 l)=true:=plain_ids0L _ (j6 l)
theorem vk (g:Nat→Option Nat)(l:List (List Nat)):za.renL g (j7 l)=j7 l:=ids0_renL g _ (Yd l)
theorem vh (g:Nat→Option Nat)(l:List (List Nat)):za.renL g (jQ l)=jQ l:=ids0_renL g _ (q6 l)
theorem wW (l:List Nat)(x:Nat):jb l++[.sc (.int .i64 (x:Int))]=jb (l++[x]):=by simp[jb]
theorem P5 (zs:List Value):zB zs 1=zs.map .sc++[]:=rfl
theorem PZ (zs:List Value):zB zs 2=zs.map .sc++(zs.map .sc++[]):=rfl
theorem PY (zs:List Value):zB zs 3=zs.map .sc++(zs.map .sc++(zs.map .sc++[])):=rfl
attribute [go_sem] P5 PZ PY vi vl vg Qt j6 Qv Qu Yc q6 J8 Wx Yd vk vh
end Go.Ga

namespace Go.Ga
open Go
section
variable {P:Program} {t:TypeId} {b:Nat}
theorem gS {cs:List za}(hu:P.underlying t=some .bool)(h:Sh P t cs b):∃v,cs=[.sc (.bool v)]∧b=1:=by
 cases h with
 |bool _ v _=>exact⟨v,rfl,rfl⟩
 |int _ _ _ h'=>rw[hu] at h';cases h'
 |string _ _ h'=>rw[hu] at h';cases h'
 |slice _ _ _ _ h'=>rw[hu] at h';cases h'
 |struct _ _ _ h'=>rw[hu] at h';cases h'
 |other _ _ _ _ h2=>exact absurd hu h2
theorem U9 {cs:List za}(hu:P.underlying t=some .string)(h:Sh P t cs b):∃s,cs=[.sc (.string s)]∧s.size<b:=by
 cases h with
 |string _ s _=>exact⟨s,rfl,Nat.lt_succ_self _⟩
 |int _ _ _ h'=>rw[hu] at h';cases h'
 |bool _ _ h'=>rw[hu] at h';cases h'
 |slice _ _ _ _ h'=>rw[hu] at h';cases h'
 |struct _ _ _ h'=>rw[hu] at h';cases h'
 |other _ _ _ _ _ h3=>exact absurd hu h3
theorem kS {e:TypeId}{cs:List za}(hu:P.underlying t=some (.slice e))(h:Sh P t cs b):∃(L:List (List za×Nat)) (more:Nat),cs=[.imm (P.cellsOf e) (L.map (·.1)).flatten]∧b=1+(L.map (·.2)).sum+more∧∀x∈L,Sh P e x.1 x.2:=by
 cases h with
 |slice _ e' L more hu' hl hh=>rw[hu] at hu';cases hu';exact⟨L,more,rfl,rfl,hh⟩
 |int _ _ _ h'=>rw[hu] at h';cases h'
 |bool _ _ h'=>rw[hu] at h';cases h'
 |string _ _ h'=>rw[hu] at h';cases h'
 |struct _ _ _ h'=>rw[hu] at h';cases h'
 |other _ _ _ _ _ _ h4=>exact absurd hu (h4 e)
theorem xA {α:Type}{f:α→List za}{R:α→Prop}:∀{L:List (List za×Nat)},(∀x∈L,∃y,x.1=f y∧R y∧1≤x.2)→∃ys:List α,(L.map (·.1)).flatten=zV f ys∧(∀y∈ys,R y)∧ys.length≤(L.map (·.2)).sum
 |[],_=>⟨[],rfl,fun y h=>(by cases h),Nat.le_refl _⟩
 | x::L,h=>by
   obtain⟨y,h1,h2,h3⟩:=h x (.head _)
   obtain⟨ys,g1,g2,g3⟩:=xA (L:=L) fun z hz=>h z (.tail _ hz)
   refine⟨y::ys,by simp only[List.map_cons,List.flatten_cons,zV,h1,g1],fun z hz=>?_,by simp only[List.map_cons,List.sum_cons,List.length_cons];omega⟩
   cases hz with
   |head=>exact h2
   |tail _ hz=>exact g2 z hz
theorem kZ {A:za}(hu:∀fs,P.underlying t≠some (.struct fs))(h:SA P t A b):Sh P t [A] b:=by
 rcases h with⟨⟨fs,h⟩,_⟩|⟨_,h⟩
 · exact absurd h (hu fs)
 · exact h
theorem xr {ts:List TypeId}{As:List za}(h:Gz P (t::ts) As b):∃A As' c d,As=A::As'∧b=c+d∧SA P t A c∧Gz P ts As' d:=by
 cases h with
 |cons _ A c _ As' d h hr=>exact⟨A,As',c,d,rfl,rfl,h,hr⟩
theorem gV {As:List za}(h:Gz P [] As b):As=[]:=by cases h;rfl
theorem gX {A:za}(hu:P.underlying t=some .bool)(h:SA P t A b):∃v,A= .sc (.bool v):=by
 obtain⟨n,h1,_⟩:=gS hu (kZ (fun fs h=>by rw[hu] at h;cases h) h)
 exact⟨n,by injection h1⟩
end
end Go.Ga

namespace Go.Ga
open Go
end Go.Ga

namespace Go.Ga
open Go
def J2 (vs:List (Nat×za)):List (Nat×za)→List (Nat×za)
 |[]=>vs
 |(i,A)::l=>J2 (up vs i A) l
theorem zl (vs:List (Nat×za)):J2 vs []=vs:=rfl
theorem zk (vs:List (Nat×za))(i:Nat)(A:za)(l:List (Nat×za)):J2 vs ((i,A)::l)=J2 (up vs i A) l:=rfl
theorem PQ {A B:Prop}(h:A→B)(a:A):B:=h a
theorem PM (x y a b:za):zQ [x,y] 0 [a,b]=[a,b]:=rfl
theorem PL (x y z a b c:za):zQ [x,y,z] 0 [a,b,c]=[a,b,c]:=rfl
theorem Pi (n:Nat):n*2 / 2=n:=by omega
theorem PP (n:Nat):n*3 / 3=n:=by omega
theorem xP {k:Nat}(h:k<4611686018427387904):IntKind.i64.wrap ((k:Int)+1)=((k+1:Nat):Int):=by rw[IntWalk.i64_in _ (by omega)];omega
theorem P7 {α:Type}(x:α)[Decidable (x≠x)]:decide (x≠x)=false:=decide_eq_false (fun h=>h rfl)
theorem P9 {α:Type}(x:α)[Decidable (x=x)]:decide (x=x)=true:=decide_eq_true rfl
theorem Gi (a b c d:Int):qj [.sc (.int .i64 a),.sc (.int .i64 b)] [.sc (.int .i64 c),.sc (.int .i64 d)]=some (decide ((a,b)=(c,d))):=by
 simp[qj]
attribute [go_sem] Int.toNat_zero Int.toNat_one Nat.div_one Int.cast_ofNat_Int decide_true decide_false bne_self_eq_false Bool.not_false Bool.not_true Nat.zero_le or_self true_or or_true List.length_set List.length_range Je Gi Option.bind_some wm PM PL Pi PP xc xf P7 P9 zl zk
theorem Jw.own {sz:Nat}{l' l:List za}(h:Jw l' l):ym (.own (some sz) l') (.own (some sz) l):=fun E po v hv=>by
 obtain⟨h1,h2⟩:=h.get
 cases hv with
 | own ℓ _ _ b o len cap arr T f hO hb hl hc hm ha hf hh=>
   refine .own ℓ sz l b o len cap arr T f hO hb (by rw[←h1];exact hl) hc hm ha (fun k A hA=>?_) fun k A hA=>?_
   · obtain⟨A',hA',_⟩:=h2 k A hA;exact hf k A' hA'
   · obtain⟨A',hA',hs⟩:=h2 k A hA;exact hs _ _ _ (hh k A' hA')
 | ownNil=>
   cases l with
   |nil=>exact .ownNil _ _
   |cons=>simp at h1
theorem Jw.imm {sz:Nat}{l' l:List za}(h:Jw l' l):ym (.imm sz l') (.imm sz l):=fun E po v hv=>by
 obtain⟨h1,h2⟩:=h.get
 cases hv with
 | imm _ _ _ b o len cap f hO hb hl hc hf hh=>
   refine .imm po sz l b o len cap f hO hb (by rw[←h1];exact hl) hc (fun k A hA=>?_) fun k A hA=>?_
   · obtain⟨A',hA',_⟩:=h2 k A hA;exact hf k A' hA'
   · obtain⟨A',hA',hs⟩:=h2 k A hA;exact hs _ _ _ (hh k A' hA')
 | immNil=>
   cases l with
   |nil=>exact .immNil _ _ _
   |cons=>simp at h1
theorem Jw.agg {l' l:List za}(h:Jw l' l):ym (.agg l') (.agg l):=fun E po v hv=>by
 obtain⟨h1,h2⟩:=h.get
 cases hv with
 | agg _ _ vs hs hh=>
   refine .agg po l vs (by rw[←h1];exact hs) fun k A v hA hv=>?_
   obtain⟨A',hA',hs'⟩:=h2 k A hA
   exact hs' _ _ _ (hh k A' v hA' hv)
section
variable {P:Program} {rs:List Nat} {N:Nat} {V:List Nat} {L:List (List Nat)} {x:zU} {K:ZG→zb→Prop} {st:zb}
end
def jF (xs:List Bool):List za:=xs.map fun b=> .sc (.bool b)
theorem kq (xs:List Bool):(jF xs).length=xs.length:=by simp[jF]
theorem ko (xs:List Bool)(k:Nat)(b:Bool):(jF xs).set k (.sc (.bool b))=jF (xs.set k b):=by
 simp[jF,List.map_set]
theorem qs (xs:List Bool):za.plainL (jF xs)=true:=(jm _ xs).1
theorem Uf (xs:List Bool):za.flatL (jF xs)=true:=(jm _ xs).2
theorem QP :∀xs:List Bool,za.cellOkL (jF xs)=true
 |[]=>rfl
 |b::l=>by show(_&&za.cellOkL (jF l))=true;rw[QP l];rfl
theorem qt (xs:List Bool):za.copyableL (jF xs)=true:=plain_copyableL _ (qs xs)
theorem W0 (xs:List Bool):za.freezeL (jF xs)=jF xs:=copyable_freezeL _ (qt xs)
theorem Y8 (xs:List Bool):za.ids0L (jF xs)=true:=plain_ids0L _ (qs xs)
theorem kp (g:Nat→Option Nat)(xs:List Bool):za.renL g (jF xs)=jF xs:=ids0_renL g _ (Y8 xs)
theorem Ue (n:Nat):zB [.bool false] n=jF (List.replicate n false):=by
 simp only[zB,List.map]
 induction n with
 |zero=>rfl
 |succ n ih=>simp only[List.replicate_succ,List.flatten_cons,ih];rfl
attribute [go_sem] kq ko qs Uf QP qt W0 Y8 kp Ue
section
variable {P:Program} {rs:List Nat} {N:Nat} {V:List Nat} {L:List (List Nat)} {K:ZG→zb→Prop} {x:zU}
theorem Jz {vs:List (Nat×za)}{h0:Heap}{α:Type}(J:List Nat)(f:α→List (Nat×za))(g:α→Heap)(inv:α→Nat→Prop)(a0:α)(n0:Nat)(hJ:(J.all fun i=>V.contains i)=true)
    (hs:zb.forget ⟨vs,[],h0⟩ J=⟨J2 vs (J.map (fun i=>(i,za.dead))++f a0),[],g a0⟩) (hi:inv a0 n0)
    (h:∀a n,inv a n→∀X:ZG→zb→Prop,(∀s a' m,m<n→s.forget J=⟨J2 vs (J.map (fun i=>(i,za.dead))++f a'),[],g a'⟩→inv a' m→X .normal s)→(∀i s,K (.exit i) s→X (.exit i) s)→(∀s,K .ret s→X .ret s)→
      jp P rs N V L x X ⟨J2 vs (J.map (fun i=>(i,za.dead))++f a),[],g a⟩):jp P rs N V L (.loop x) K ⟨vs,[],h0⟩:=by
  refine W8 (fun n s=>∃a,inv a n∧s.forget J=⟨J2 vs (J.map (fun i=>(i,za.dead))++f a),[],g a⟩) n0 ⟨a0,hi,hs⟩ ?_
  rintro n s ⟨a,ha,hst⟩ X hn he hr
  refine Ya J hJ ?_
  rw[hst]
  exact h a n ha X (fun s a' m hm hs' hi'=>hn m s hm ⟨a',hi',hs'⟩) he hr
end
end Go.Ga

namespace Go.Ga
open Go
section
variable {P:Program} {t:TypeId} {b:Nat}
end
end Go.Ga

namespace Go.Ga
open Go
section
variable {L:List (List Nat)} {E:Env} {N:Nat} {V:List Nat} {st:zb} {a:Act} {tm:Array Value}
end
section
variable {P:Program} {rs:List Nat} {N:Nat} {V:List Nat} {L:List (List Nat)} {x:zU} {K:ZG→zb→Prop} {st:zb}
end
end Go.Ga
attribute [go_sem] reduceIte Nat.reduceEqDiff Nat.reduceBEq reduceCtorEq Nat.reduceLT Nat.reduceLeDiff Nat.reduceAdd Nat.reduceSub Nat.reduceMul Nat.reduceDiv Int.reduceAdd Int.reduceNeg Int.reduceEq Int.reduceLT Int.reduceLE

namespace Go.Ga
open Go
theorem zy.fzArgs {P:Program}{L:List (List Nat)}{f:Nat}{args:List za}{h:Heap}{Q:za→Heap→Prop}(H:zy P L f (args.map za.freeze) h Q):zy P L f args h Q:=by
 refine⟨H.1,fun E vs hH hs hv=>?_⟩
 have U:zS [3] E (E.freeze [3]):=jd [3]
 have hH2:wD (E.freeze [3]) h:=⟨hH.num,jU hH.lim,fun id cs hcs=>by
  have hid:id<E.n:=by rw[hH.num];exact(List.getElem?_eq_some_iff.1 hcs).1
  exact(hH.objs id cs hcs).keep U hid (zp (by decide))⟩
 refine(H.2 (E.freeze [3]) vs hH2 (by rw[List.length_map];exact hs) fun k A v hA hv'=>?_).mono ?_
 · rw[List.getElem?_map] at hA
   cases hA0:args[k]? with
   |none=>rw[hA0] at hA;cases hA
   | some A0=>
     rw[hA0] at hA
     cases hA
     exact(hv k A0 v hA0 hv').frozen [3] _ fun ℓ e=>by cases e;exact⟨[k],rfl⟩
 · rintro e w' ⟨v,r,h',E',he,hw,hH',hr,hP,hQ⟩
   exact⟨v,r,h',E',he,hw,hH',hr,(jw WH).trans hP,hQ⟩
end Go.Ga

namespace Go.Ga
open Go
theorem JX {P:Program}{rs V:List Nat}{N:Nat}{L:List (List Nat)}{x y:zU}{K:ZG→zb→Prop}{st:zb}{c:zt}(h1:jp P rs N V L x K st)(hc:st.ev c= .sc (.bool true):=by first|rfl|(simp only[go_sem];try simp(disch:=omega) only[decide_eq_true,decide_eq_false])):jp P rs N V L (.cond c x y) K st:=QU hc h1
theorem qv {P:Program}{rs V:List Nat}{N:Nat}{L:List (List Nat)}{x y:zU}{K:ZG→zb→Prop}{st:zb}{c:zt}(h1:jp P rs N V L y K st)(hc:st.ev c= .sc (.bool false):=by first|rfl|(simp only[go_sem];try simp(disch:=omega) only[decide_eq_true,decide_eq_false])):jp P rs N V L (.cond c x y) K st:=QV hc h1
def W7 (P:Program)(nt k:Nat)(rs V:List Nat)(rss:List Qk)(ac:zU)(f:Nat):Prop:=∀{L:List (List Nat)} {args:List za} {h:Heap} {Q:za→Heap→Prop},args.length=k→jp P rs nt V L ac (xX L rss Q) (Wb V args h)→zy P L f args h Q
theorem xS {P:Program}(hmix:P.follows .mixedOrders=true){f:Nat}{fn:Func}{k:Nat}{rs V:List Nat}{ac:zU}{rss:List Qk}(hf:P.funcs[f]?=some fn)(hs:uz P rs V fn=some (ac,rss))(hk:Nat.ble k fn.ntmps=true):W7 P fn.ntmps k rs V rss ac f:=
 fun hl H=>yK hmix hf hs (by rw[hl];exact Nat.le_of_ble_eq_true hk) H
def oM (a b:Nat):zj:=(none,.r (.mov a (.t b)))
def oS (a b:Nat):zj:=(none,.asg a (.t b) true)
def oI (a:Nat)(k:Int):zj:=(none,.asg a (.c (.int .i64 k)) true)
def oZ (a:Nat):zj:=(none,.asg a (.c (.slice none 0 0)) true)
def oO (a:Nat):zj:=(none,.asg a (.c (.bool false)) true)
def oL (a b k:Nat):zj:=(none,.r (.ld a (.t b) k false))
def oT (a b k:Nat):zj:=(none,.r (.ld a (.t b) k true))
def oF (a b k:Nat):zj:=(none,.r (.fldA a (.t b) k))
def oX (a b c k:Nat):zj:=(none,.r (.idxA a (.t b) (.t c) k))
def oN (a b:Nat):zj:=(none,.r (.nilck a (.t b)))
def oE (a b:Nat):zj:=(none,.r (.len a (.t b)))
def oB (a:Nat)(op:BinOp)(b:Nat)(k:Int):zj:=(none,.r (.bin a op 0 (.t b) (.c (.int .i64 k))))
def oD (a:Nat)(op:BinOp)(b c:Nat):zj:=(none,.r (.bin a op 0 (.t b) (.t c)))
def oC (a f x:Nat):zj:=(none,.call a (.f f) [(.t x,false)])
def wU (a f x y:Nat):zj:=(none,.call a (.f f) [(.t x,false),(.t y,false)])
def P6 (a f x y z:Nat):zj:=(none,.call a (.f f) [(.t x,false),(.t y,false),(.t z,false)])
def oP (a b c:Nat):zj:=(none,.r (.pick a (.t b) (.t c) (.c (.bool false))))
def oQ (a b c:Nat):zj:=(none,.r (.pick a (.t b) (.c (.bool true)) (.t c)))
def oW (a b k:Nat):zj:=(none,.st (.t a) (.t b) k)
def oY (a b k:Nat):zj:=(none,.r (.ext a (.t b) k))
def oK (g:Nat)(s:Bool)(a b:Nat):zj:=(some (g,s),.r (.mov a (.t b)))
def uT (g:Nat)(s:Bool)(a b k:Nat):zj:=(some (g,s),.r (.ld a (.t b) k false))
def Uw (g:Nat)(s:Bool)(a:Nat)(op:BinOp)(b:Nat)(k:Int):zj:=(some (g,s),.r (.bin a op 0 (.t b) (.c (.int .i64 k))))
def kz (g:Nat)(s:Bool)(a:Nat)(op:BinOp)(b c:Nat):zj:=(some (g,s),.r (.bin a op 0 (.t b) (.t c)))
attribute [go_sem] oM oS oI oZ oO oL oT oF oX oN oE oB oD oC wU P6 oP oQ oW oY oK uT Uw kz
end Go.Ga

namespace Go.Ga
open Go
theorem uI {E:Env}{po:Option (List Nat)}{u v:Value}(h:VRel E po (.sc u) v):u=v:=by
 generalize hA:za.sc u=A at h
 cases h<;>cases hA
 rfl
theorem yB {P:Program}{L:List (List Nat)}{f:Nat}(hc:Ju P f=true){us:List Value}{v:Value}(H:∀w,Calls P f us.toArray w fun e w'=>e= .returned v∧w'=w):
    zy P L f (us.map .sc) [] fun r h'=>r= .sc v∧h'=[]:=by
  refine⟨hc,fun E vs hH hs hv=>?_⟩
  have e:vs=us.toArray:=by
    apply Array.ext
    · simpa using hs
    · intro i h1 h2
      have h3:i<us.length:=by simpa using h2
      have:=hv i (.sc us[i]) vs[i] (by simp[h3]) (by simp[h1])
      rw[←uI this];simp
  subst e
  refine(H E.w).mono fun e w' ⟨h1,h2⟩=>?_
  subst h1 h2
  exact⟨v,.sc v,[],E,rfl,rfl,hH,.sc _ _,zC.refl E,rfl,rfl⟩
theorem W5 {P:Program}{L:List (List Nat)}{f:Nat}(hc:Ju P f=true){l:List UInt8}{c v:Value}
    (H1:∀a cap w,(∀i,i<l.length→w.cell? (Addr.add a i)=some (.int .u8 ((l.getD i 0).toNat:Int)))→Calls P f #[.slice (some a) l.length cap,c] w fun e w'=>e= .returned v∧w'=w)
    (H2:l=[]→∀w,Calls P f #[.slice none 0 0,c] w fun e w'=>e= .returned v∧w'=w):
    zy P L f [.imm 1 (jK l),.sc c] [] fun r h'=>r= .sc v∧h'=[]:=by
  refine⟨hc,fun E vs hH hs hv=>?_⟩
  have s2:vs.size=2:=hs
  obtain⟨u,z,rfl⟩:∃u z,vs= #[u,z]:=⟨vs[0],vs[1],by
    apply Array.ext
    · simpa using s2
    · intro i h1 h2
      rcases(show i=0∨i=1 by simp at h2;omega) with rfl|rfl<;>rfl⟩
  obtain rfl:=uI (hv 1 (.sc c) z rfl rfl)
  have hu:=hv 0 _ u rfl rfl
  generalize hA:za.imm 1 (jK l)=A at hu
  cases hu with
  | imm _ _ cs b o len cap g hO hb hl hc2 hf hvv=>
    cases hA
    have hll:len=l.length:=by have:=hl.2;rw[jo] at this;omega
    subst hll
    refine(H1 ⟨b,o,none⟩ cap E.w fun i hi=>?_).mono fun e w' h=>?_
    · have hb2:(jK l)[i]?=some (.sc (.int .u8 ((l.getD i 0).toNat:Int))):=by
        unfold jK
        rw[List.getElem?_map,List.getElem?_eq_getElem hi,List.getD_eq_getElem?_getD,List.getElem?_eq_getElem hi];rfl
      rw[Addr.add_lit,hf i _ hb2,←uI (hvv i _ hb2)]
    · obtain⟨h1,h2⟩:=h
      subst h1
      exact⟨v,.sc v,[],E,rfl,h2.symm,hH,.sc _ _,zC.refl E,rfl,rfl⟩
  | immNil _ _ a=>
    have hl0:l=[]:=by
      cases l with
      |nil=>rfl
      |cons x r=>cases hA
    cases a with
    |none=>exact(H2 hl0 E.w).mono fun e w' h=>by obtain⟨h1,h2⟩:=h;subst h1;exact⟨v,.sc v,[],E,rfl,h2.symm,hH,.sc _ _,zC.refl E,rfl,rfl⟩
    | some a=>
      subst hl0
      exact(H1 a 0 E.w fun i hi=>by simp at hi).mono fun e w' h=>by obtain⟨h1,h2⟩:=h;subst h1;exact⟨v,.sc v,[],E,rfl,h2.symm,hH,.sc _ _,zC.refl E,rfl,rfl⟩
  |_=>cases hA
end Go.Ga

namespace Go.Ga
open Go
section
variable {P:Program} {t:TypeId} {b:Nat}
theorem Uy {α:Type}(g:α→Nat):∀{l:List α} {x:α},x∈l→g x≤(l.map g).sum
 | y::l,x,h=>by
   rcases List.mem_cons.1 h with rfl|h
   · simp
   · have:=Uy g h;simp;omega
theorem vy {α:Type}(f:α→za)(l:List α):zV (fun x=>[f x]) l=l.map f:=by
 induction l with
 |nil=>rfl
 |cons x l ih=>simp only[zV,ih,List.map_cons,List.singleton_append]
theorem gR {e:TypeId}{cs:List za}(hu:P.underlying t=some (.slice e))(he:P.underlying e=some .string)(hc:P.cellsOf e=1)(h:Sh P t cs b):∃xs:List ByteArray,cs=[.imm 1 (xs.map fun s=> .sc (.string s))]∧(∀x∈xs,x.size<b)∧xs.length<b:=by
 obtain⟨L,more,rfl,rfl,hL⟩:=kS hu h
 obtain⟨ys,h1,h2,h3⟩:=xA (f:=fun s=>[za.sc (.string s)]) (R:=fun s=>s.size<1+(L.map (·.2)).sum+more) (L:=L) fun x hx=>by
  obtain⟨n,g1,g2⟩:=U9 he (hL x hx)
  have:=Uy (fun x:List za×Nat=>x.2) hx
  exact⟨n,g1,by omega,by omega⟩
 exact⟨ys,by rw[h1,hc,vy],h2,by omega⟩
theorem gW {e:TypeId}{A:za}(hu:P.underlying t=some (.slice e))(he:P.underlying e=some .string)(hc:P.cellsOf e=1)(h:SA P t A b):∃xs:List ByteArray,A= .imm 1 (xs.map fun s=> .sc (.string s))∧(∀x∈xs,x.size<b)∧xs.length<b:=by
 obtain⟨xs,h1,h2,h3⟩:=gR hu he hc (kZ (fun fs h=>by rw[hu] at h;cases h) h)
 exact⟨xs,by injection h1,h2,h3⟩
end
end Go.Ga
