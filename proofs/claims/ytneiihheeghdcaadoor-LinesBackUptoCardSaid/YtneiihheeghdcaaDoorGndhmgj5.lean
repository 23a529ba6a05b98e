/- Values, objects, and code by what it leads to: a library of this claim's own. No condition. -/
import Derived.Test.YtneiihheeghdcaaDoorGndhmgj4
import Derived.Sort.Grow
set_option linter.all false

namespace Go.Ga
open Go
def Z4 (xs:List Nat):List za:=xs.map fun(n:Nat)=> .sc (.int .i64 (n:Int))
def ints (xs:List Int):List za:=xs.map fun n=> .sc (.int .i64 n)
theorem qo (xs:List Nat):(Z4 xs).length=xs.length:=by simp[Z4]
theorem Zn (xs:List Int):(ints xs).length=xs.length:=by simp[ints]
theorem Xb {xs:List Nat}{k:Nat}(h:k<xs.length):(Z4 xs)[k]?=some (.sc (.int .i64 ((xs.getD k 0:Nat):Int))):=by
 simp[Z4,List.getElem?_map,List.getElem?_eq_getElem h,h]
theorem Ku {xs:List Int}{k:Nat}(h:k<xs.length):(ints xs)[k]?=some (.sc (.int .i64 (xs.getD k 0))):=by
 simp[ints,List.getElem?_map,List.getElem?_eq_getElem h,h]
theorem Ki (xs:List Nat)(k n:Nat):(Z4 xs).set k (.sc (.int .i64 (n:Int)))=Z4 (xs.set k n):=by
 simp[Z4,List.map_set]
theorem Ks (xs:List Int)(k:Nat)(n:Int):(ints xs).set k (.sc (.int .i64 n))=ints (xs.set k n):=by
 simp[ints,List.map_set]
mutual
def za.plain :za→Bool
 | .sc _=>true
 | .agg cs=>za.plainL cs
 | .imm _ cs=>za.plainL cs
 | .ia cs=>za.plainL cs
 | .tup cs=>za.plainL cs
 | .fn _ as bs=>za.plainL as&&za.plainL bs
 | .iface _ A=>A.plain
 |_=>false
def za.plainL :List za→Bool
 |[]=>true
 |A::l=>A.plain&&za.plainL l
end
mutual
theorem YE :∀A:za,A.plain=true→A.copyable=true
 | .sc _,_=>rfl
 | .agg cs,h=>by simp only[za.copyable];exact plain_copyableL cs h
 | .imm _ _,_=>rfl
 | .ia _,_=>rfl
 | .tup cs,h=>by simp only[za.copyable];exact plain_copyableL cs h
 | .fn _ _ _,_=>rfl
 | .iface _ _,_=>rfl
 | .own _ _,h=>by cases h
 | .sl _ _ _ _,h=>by cases h
 | .ptr _ _,h=>by cases h
 | .at_ _,h=>by cases h
 | .addr _ _,h=>by cases h
 | .dead,h=>by cases h
theorem plain_copyableL :∀l:List za,za.plainL l=true→za.copyableL l=true
 |[],_=>rfl
 | A::l,h=>by
   simp only[za.plainL,Bool.and_eq_true] at h
   simp only[za.copyableL,YE A h.1,plain_copyableL l h.2,Bool.and_self]
end
mutual
theorem YD :∀A:za,A.plain=true→A.ids0=true
 | .sc _,_=>rfl
 | .agg cs,h=>by simp only[za.ids0];exact plain_ids0L cs h
 | .imm _ cs,h=>by simp only[za.ids0];exact plain_ids0L cs h
 | .ia cs,h=>by simp only[za.ids0];exact plain_ids0L cs h
 | .tup cs,h=>by simp only[za.ids0];exact plain_ids0L cs h
 | .fn _ as bs,h=>by
   simp only[za.plain,Bool.and_eq_true] at h
   simp only[za.ids0,plain_ids0L as h.1,plain_ids0L bs h.2,Bool.and_self]
 | .iface _ A,h=>by simp only[za.ids0];exact YD A h
 | .own _ _,h=>by cases h
 | .sl _ _ _ _,h=>by cases h
 | .ptr _ _,h=>by cases h
 | .at_ _,h=>by cases h
 | .addr _ _,h=>by cases h
 | .dead,h=>by cases h
theorem plain_ids0L :∀l:List za,za.plainL l=true→za.ids0L l=true
 |[],_=>rfl
 | A::l,h=>by
   simp only[za.plainL,Bool.and_eq_true] at h
   simp only[za.ids0L,YD A h.1,plain_ids0L l h.2,Bool.and_self]
end
theorem jt {α:Type}(f:α→Value)(xs:List α):za.plainL (xs.map fun x=> .sc (f x))=true∧za.flatL (xs.map fun x=> .sc (f x))=true:=by
 induction xs with
 |nil=>exact⟨rfl,rfl⟩
 |cons x xs ih=>simp only[List.map_cons,za.plainL,za.plain,za.flatL,za.flat,ih,Bool.and_self,and_self]
theorem JV (xs:List Nat):za.plainL (Z4 xs)=true:=(jt _ xs).1
theorem Wi (xs:List Nat):za.flatL (Z4 xs)=true:=(jt _ xs).2
theorem Qu (xs:List Int):za.plainL (ints xs)=true:=(jt _ xs).1
theorem Vo (xs:List Int):za.flatL (ints xs)=true:=(jt _ xs).2
theorem Xc (xs:List Nat):za.cellOkL (Z4 xs)=true:=by
 induction xs with
 |nil=>rfl
 |cons x xs ih=>exact(Bool.and_eq_true _ _).mpr ⟨rfl,ih⟩
theorem Xl (xs:List Int):za.cellOkL (ints xs)=true:=by
 induction xs with
 |nil=>rfl
 |cons x xs ih=>exact(Bool.and_eq_true _ _).mpr ⟨rfl,ih⟩
theorem Qb (xs:List Nat):za.copyableL (Z4 xs)=true:=plain_copyableL _ (JV xs)
theorem Qc (xs:List Int):za.copyableL (ints xs)=true:=plain_copyableL _ (Qu xs)
theorem yV (xs:List Nat):za.freezeL (Z4 xs)=Z4 xs:=copyable_freezeL _ (Qb xs)
theorem Xk (xs:List Int):za.freezeL (ints xs)=ints xs:=copyable_freezeL _ (Qc xs)
theorem yr (xs:List Nat):za.ids0L (Z4 xs)=true:=plain_ids0L _ (JV xs)
theorem Wn (xs:List Int):za.ids0L (ints xs)=true:=plain_ids0L _ (Qu xs)
theorem Kj (g:Nat→Option Nat)(xs:List Nat):za.renL g (Z4 xs)=Z4 xs:=ids0_renL g _ (yr xs)
theorem Kt (g:Nat→Option Nat)(xs:List Int):za.renL g (ints xs)=ints xs:=ids0_renL g _ (Wn xs)
section
variable {P:Program} {rs:List Nat} {N:Nat} {V V1 V2:List Nat} {L:List (List Nat)} {x y:zT} {K:ZO→zb→Prop} {st:zb} {gs:List zk} {t:ZW} {i j d:Nat}
theorem ZL (h:∀Y:zb→Prop,(∀s,K .normal (s.settle V2)→Y s)→qY P L Y gs (st.settle V1)):jv P rs N V L (.reg V1 gs V2) K st:=US (h _ fun _ h=>h)
theorem zc (h:∀Y:zb→Prop,(∀s,jv P rs N V L y K (s.settle V2)→Y s)→qY P L Y gs (st.settle V1)):jv P rs N V L (.seq (.reg V1 gs V2) y) K st:=WY (US (h _ fun _ h=>h))
theorem Zb (h:∀Y:zb→Prop,(∀s,jv P rs N V L y K (s.settle V2)→Y s)→ZX P Y t [([],L)] (st.settle V1)):jv P rs N V L (.seq (.draw V1 t V2) y) K st:=WY (kI (h _ fun _ h=>h))
theorem zi (h:∀X:ZO→zb→Prop,(∀s,jv P rs N V L y K s→X .normal s)→(∀i s,K (.exit i) s→X (.exit i) s)→(∀s,K .ret s→X .ret s)→jv P rs N V L x X st):jv P rs N V L (.seq x y) K st:=
 WY (h _ (fun _ h=>h) (fun _ _ h=>h) fun _ h=>h)
theorem zZ (h:∀X:ZO→zb→Prop,(∀s,K .normal s→X .normal s)→(∀s,K .normal s→X (.exit i) s)→(∀j s,j≠i→K (.exit j) s→X (.exit j) s)→(∀s,K .ret s→X .ret s)→jv P rs N V L x X st):jv P rs N V L (.blk i x) K st:=
 gD (h _ (fun _ h=>h) (fun _ h=>(if_pos rfl).mpr h) (fun j _ hj h=>(if_neg hj).mpr h) fun _ h=>h)
theorem xA (I:Nat→zb→Prop)(n:Nat)(h0:I n st)(h:∀n s,I n s→∀X:ZO→zb→Prop,(∀m s,m<n→I m s→X .normal s)→(∀i s,K (.exit i) s→X (.exit i) s)→(∀s,K .ret s→X .ret s)→jv P rs N V L x X s):jv P rs N V L (.loop x) K st:=
 kG I n h0 fun n s hI=>h n s hI _ (fun m _ hm h=>⟨m,hm,h⟩) (fun _ _ h=>h) fun _ h=>h
theorem zf (h:K .ret st):jv P rs N V L .ret K st:=gC h
theorem jw (h:K (.exit i) st):jv P rs N V L (.exit i) K st:=kH h
theorem zo (h:K .normal st):jv P rs N V L .skip K st:=kF h
theorem kh {c:zp}{v:Bool}(hc:st.ev c= .sc (.bool v))(h1:v=true→jv P rs N V L x K st)(h2:v=false→jv P rs N V L y K st):jv P rs N V L (.cond c x y) K st:=Yw hc h1 h2
theorem yg {c:zp}(hc:st.ev c= .sc (.bool true))(h1:jv P rs N V L x K st):jv P rs N V L (.cond c x y) K st:=Yw hc (fun _=>h1) fun h=>by cases h
theorem yh {c:zp}(hc:st.ev c= .sc (.bool false))(h1:jv P rs N V L y K st):jv P rs N V L (.cond c x y) K st:=Yw hc (fun h=>by cases h) fun _=>h1
theorem K0 {K:zb→Prop}:qY P L K [] st=K st:=rfl
theorem qU {K:zb→Prop}{g:zk}{rest:List zk}:qY P L K (g::rest) st=z7 P L (qY P L K rest) st g:=rfl
theorem YY {K:zb→Prop}{b:ZJ}:z7 P L K st (none,b)=(b.quiet L st=true∧jg P L K st b):=rfl
theorem Wq {K:zb→Prop}{t:Nat}{want:Bool}{b:ZJ}(h:st.get t= .sc (.bool want)):z7 P L K st (some (t,want),b)=(b.quiet L st=true∧jg P L K st b):=by
 have h1:want≠(!want):=by cases want<;>decide
 simp[z7,h,h1]
theorem YZ {K:zb→Prop}{t d:Nat}{want:Bool}{b:ZJ}(h:st.get t= .sc (.bool (!want)))(hd:b.dst=some d):z7 P L K st (some (t,want),b)=K (st.putT d (.sc (.tuple #[]))):=by
 have h1:(!want)≠want:=by cases want<;>decide
 simp[z7,h,h1,hd]
theorem yW {K:zb→Prop}{t d:Nat}{want:Bool}{b:ZJ}(h:st.get t= .sc (.tuple #[]))(hd:b.dst=some d):z7 P L K st (some (t,want),b)=K (st.putT d (.sc (.tuple #[]))):=by
 simp[z7,h,hd]
theorem Qo {b:ZJ}:(b.quiet [] st=true)=True:=by rw[vY];exact eq_self true
theorem Vh (j:Nat)(A:za)(l:List (Nat×za))(i:Nat):zL ((j,A)::l) i=if i=j then some A else zL l i:=rfl
theorem Km (i:Nat):zL [] i=none:=rfl
theorem ki (j:Nat)(A B:za)(l:List (Nat×za))(i:Nat):uN ((j,A)::l) i B=if i=j then(j,B)::l else(j,A)::uN l i B:=rfl
theorem pI (vs ts:List (Nat×za))(h:Heap)(i:Nat):zb.get ⟨vs,ts,h⟩ i=Z0 (zL ts i) (zL vs i):=rfl
theorem Uo (A:za)(x:Option za):Z0 (some A) x=A:=rfl
theorem Up (A:za):Z0 none (some A)=A:=rfl
theorem Kn :Z0 none none= .dead:=rfl
theorem PG (st:zb)(i:Nat):st.ev (.t i)=st.get i:=rfl
theorem PI (st:zb)(v:Value):st.ev (.c v)= .sc v:=rfl
theorem PH (st:zb)(g:Nat):st.ev (.f g)= .fn (.func g) [] []:=rfl
theorem Pj (st:zb)(i:Nat):st.evA (.t i)=(st.get i).here i:=rfl
theorem Pk (st:zb)(v:Value):st.evA (.c v)= .sc v:=rfl
theorem Pi (st:zb)(v:Value):st.evU (.c v)= .sc v:=rfl
theorem Ph (st:zb)(g:Nat):st.evU (.f g)= .fn (.func g) [] []:=rfl
theorem vF (vs ts:List (Nat×za))(h:Heap)(V:List Nat):zb.settle ⟨vs,ts,h⟩ V=⟨V.map fun i=>(i,(Z0 (zL ts i) (zL vs i)).cut V),[],h⟩:=rfl
theorem gG (vs ts:List (Nat×za))(h:Heap)(d:Nat)(A:za):zb.putT ⟨vs,ts,h⟩ d A=⟨vs,(d,A)::ts,h⟩:=rfl
theorem gM (vs ts:List (Nat×za))(h:Heap)(f:za→Bool):zb.kill ⟨vs,ts,h⟩ f=⟨Jk f vs,Jk f ts,h⟩:=rfl
theorem Us (f:za→Bool)(j:Nat)(A:za)(l:List (Nat×za)):Jk f ((j,A)::l)=(j,bif f A then .dead else A)::Jk f l:=rfl
theorem Vm (f:za→Bool):Jk f []=[]:=rfl
def UR (vs ts:List (Nat×za))(h:Heap)(i:Nat)(A:za):Option za→zb
 |some _=>⟨vs,uN ts i A,h⟩
 |none=>⟨uN vs i A,ts,h⟩
theorem G6 (vs ts:List (Nat×za))(h:Heap)(i:Nat)(A:za):zb.set ⟨vs,ts,h⟩ i A=UR vs ts h i A (zL ts i):=by
 unfold zb.set UR
 cases zL ts i<;>rfl
theorem u5 (vs ts:List (Nat×za))(h:Heap)(i:Nat)(A B:za):UR vs ts h i A (some B)=⟨vs,uN ts i A,h⟩:=rfl
theorem u6 (vs ts:List (Nat×za))(h:Heap)(i:Nat)(A:za):UR vs ts h i A none=⟨uN vs i A,ts,h⟩:=rfl
def U6 (i:Nat)(A:za):Option za→za
 |some B=>B
 | none=>match A with
   | .agg cs=>bif za.copyableL cs then .agg cs else .at_ [0,i]
   |A=>A.here i
theorem Pg (vs ts:List (Nat×za))(h:Heap)(i:Nat):zb.evU ⟨vs,ts,h⟩ (.t i)=U6 i (Z0 (zL ts i) (zL vs i)) (zL ts i):=by
 show(match zL ts i with|some A=>A|none=>match Z0 (zL ts i) (zL vs i) with| .agg cs=>bif za.copyableL cs then .agg cs else .at_ [0,i]|A=>A.here i)=_
 unfold U6
 rfl
theorem Uz (i:Nat)(A B:za):U6 i A (some B)=B:=rfl
theorem pN (v:Value):(za.sc v).cut V= .sc v:=rfl
theorem Gb (cs:List za):(za.agg cs).cut V= .agg cs:=rfl
theorem g7 (sz:Nat)(cs:List za):(za.imm sz cs).cut V= .imm sz cs:=rfl
theorem g6 (hd:Option Nat)(cs:List za):(za.own hd cs).cut V= .own hd cs:=rfl
theorem pM (a b c e:Nat):(za.sl a b c e).cut V= .sl a b c e:=rfl
theorem g0 (a b:Nat):(za.ptr a b).cut V= .ptr a b:=rfl
theorem pP (cs:List za):(za.ia cs).cut V= .ia cs:=rfl
theorem pQ (f:Fn)(a b:List za):(za.fn f a b).cut V= .fn f a b:=rfl
theorem Vx (t:TypeId)(A:za):(za.iface t A).cut V= .iface t A:=rfl
theorem gZ (cs:List za):(za.tup cs).cut V= .tup cs:=rfl
theorem pO (ks:List Int):(za.mp ks).cut V= .mp ks:=rfl
theorem KN :za.dead.cut V= .dead:=rfl
theorem g9 (ks:List Nat):(za.at_ (0::i::ks)).cut V=bif V.contains i then .at_ (0::i::ks) else .dead:=rfl
theorem g8 (ks:List Nat):(za.at_ (1::ks)).cut V= .at_ (1::ks):=rfl
theorem Vz (ks:List Nat)(k:Nat):(za.addr (0::i::ks) k).cut V=bif V.contains i then .addr (0::i::ks) k else .dead:=rfl
theorem Vy (ks:List Nat)(k:Nat):(za.addr (1::ks) k).cut V= .addr (1::ks) k:=rfl
theorem gQ (v:Value):(za.sc v).here i= .sc v:=rfl
theorem KF (cs:List za):(za.agg cs).here i= .agg cs:=rfl
theorem KC (sz:Nat)(cs:List za):(za.imm sz cs).here i= .imm sz cs:=rfl
theorem KD (cs:List za):(za.own none cs).here i= .addr [0,i] 0:=rfl
theorem KB (sz:Nat)(cs:List za):(za.own (some sz) cs).here i= .at_ [0,i]:=rfl
theorem gP (a b c e:Nat):(za.sl a b c e).here i= .sl a b c e:=rfl
theorem KA (a b:Nat):(za.ptr a b).here i= .ptr a b:=rfl
theorem gS (cs:List za):(za.ia cs).here i= .ia cs:=rfl
theorem gT (f:Fn)(a b:List za):(za.fn f a b).here i= .fn f a b:=rfl
theorem Uu (t:TypeId)(A:za):(za.iface t A).here i= .iface t A:=rfl
theorem Kz (cs:List za):(za.tup cs).here i= .tup cs:=rfl
theorem gR (ks:List Int):(za.mp ks).here i= .mp ks:=rfl
theorem KE (p:List Nat):(za.at_ p).here i= .at_ p:=rfl
theorem Uv (p:List Nat)(k:Nat):(za.addr p k).here i= .addr p k:=rfl
theorem vT (v:Value):(za.sc v).rootIs i=false:=rfl
theorem Uh (cs:List za):(za.agg cs).rootIs i=false:=rfl
theorem Ue (sz:Nat)(cs:List za):(za.imm sz cs).rootIs i=false:=rfl
theorem Ud (hd:Option Nat)(cs:List za):(za.own hd cs).rootIs i=false:=rfl
theorem vS (a b c e:Nat):(za.sl a b c e).rootIs i=false:=rfl
theorem Uc (a b:Nat):(za.ptr a b).rootIs i=false:=rfl
theorem vV (cs:List za):(za.ia cs).rootIs i=false:=rfl
theorem vW (f:Fn)(a b:List za):(za.fn f a b).rootIs i=false:=rfl
theorem W5 (t:TypeId)(A:za):(za.iface t A).rootIs i=false:=rfl
theorem Ub (cs:List za):(za.tup cs).rootIs i=false:=rfl
theorem vU (ks:List Int):(za.mp ks).rootIs i=false:=rfl
theorem xX :za.dead.rootIs i=false:=rfl
theorem Ug (ks:List Nat):(za.at_ (0::j::ks)).rootIs i=(j==i):=rfl
theorem Uf (ks:List Nat):(za.at_ (1::ks)).rootIs i=false:=rfl
theorem W7 (ks:List Nat)(k:Nat):(za.addr (0::j::ks) k).rootIs i=(j==i):=rfl
theorem W6 (ks:List Nat)(k:Nat):(za.addr (1::ks) k).rootIs i=false:=rfl
theorem PW (st:zb)(i:Nat)(ks:List Nat):st.at (0::i::ks)=(st.get i).sub ks:=rfl
def G4 (k:Nat)(ks:List Nat):Option (Option (List za))→Option za
 |some (some cs)=>(za.own none cs).sub (k::ks)
 |_=>none
theorem PV (vs ts:List (Nat×za))(h:Heap)(id k:Nat)(ks:List Nat):zb.at ⟨vs,ts,h⟩ (1::id::k::ks)=G4 k ks h[id]?:=by
 simp only[zb.at,G4]
 cases h[id]? with
 |none=>rfl
 |some x=>cases x<;>rfl
theorem vx (k:Nat)(ks:List Nat)(cs:List za):G4 k ks (some (some cs))=(za.own none cs).sub (k::ks):=rfl
def uW (ks:List Nat):Option za→Option za
 |some B=>B.sub ks
 |none=>none
theorem vv (ks:List Nat)(B:za):uW ks (some B)=B.sub ks:=rfl
theorem gq (A:za):A.sub []=some A:=by cases A<;>rfl
theorem gp (hd:Option Nat)(cs:List za)(k:Nat)(ks:List Nat):(za.own hd cs).sub (k::ks)=uW ks cs[k]?:=by
 simp only[za.sub,za.kids,uW];cases cs[k]?<;>rfl
theorem gu (cs:List za)(k:Nat)(ks:List Nat):(za.agg cs).sub (k::ks)=uW ks cs[k]?:=by
 simp only[za.sub,za.kids,uW];cases cs[k]?<;>rfl
theorem gn (cs:List za)(k:Nat)(ks:List Nat):(za.tup cs).sub (k::ks)=uW ks cs[k]?:=by
 simp only[za.sub,za.kids,uW];cases cs[k]?<;>rfl
def wP (cs:List za)(k:Nat)(ks:List Nat)(B:za):Option za→List za
 |some C=>cs.set k (C.setSub ks B)
 |none=>cs
theorem vG (cs:List za)(k:Nat)(ks:List Nat)(B C:za):wP cs k ks B (some C)=cs.set k (C.setSub ks B):=rfl
theorem u3 (A B:za):A.setSub [] B=B:=by cases A<;>rfl
theorem u0 (hd:Option Nat)(cs:List za)(k:Nat)(ks:List Nat)(B:za):(za.own hd cs).setSub (k::ks) B= .own hd (wP cs k ks B cs[k]?):=by
 simp only[za.setSub,wP];cases cs[k]?<;>rfl
theorem u4 (cs:List za)(k:Nat)(ks:List Nat)(B:za):(za.agg cs).setSub (k::ks) B= .agg (wP cs k ks B cs[k]?):=by
 simp only[za.setSub,wP];cases cs[k]?<;>rfl
theorem uZ (cs:List za)(k:Nat)(ks:List Nat)(B:za):(za.tup cs).setSub (k::ks) B= .tup (wP cs k ks B cs[k]?):=by
 simp only[za.setSub,wP];cases cs[k]?<;>rfl
theorem G9 (st:zb)(i:Nat)(ks:List Nat)(B:za):st.setAt (0::i::ks) B=st.set i ((st.get i).setSub ks B):=rfl
def G7 (vs ts:List (Nat×za))(h:Heap)(id k:Nat)(ks:List Nat)(B:za):Option (Option (List za))→zb
 |some (some cs)=>⟨vs,ts,h.set id (some (wP cs k ks B cs[k]?))⟩
 |_=>⟨vs,ts,h⟩
theorem G8 (vs ts:List (Nat×za))(h:Heap)(id k:Nat)(ks:List Nat)(B:za):zb.setAt ⟨vs,ts,h⟩ (1::id::k::ks) B=G7 vs ts h id k ks B h[id]?:=by
 simp only[zb.setAt,G7]
 cases h[id]? with
 |none=>rfl
 | some x=>cases x with
   |none=>rfl
   |some cs=>simp only[wP];cases cs[k]?<;>rfl
theorem vH (vs ts:List (Nat×za))(h:Heap)(id k:Nat)(ks:List Nat)(B:za)(cs:List za):G7 vs ts h id k ks B (some (some cs))=⟨vs,ts,h.set id (some (wP cs k ks B cs[k]?))⟩:=rfl
theorem Ur (st:zb):st.kill (fun _=>false)=st:=by
 have:∀l:List (Nat×za),Jk (fun _=>false) l=l:=fun l=>by
  induction l with
  |nil=>rfl
  |cons x l ih=>obtain⟨i,A⟩:=x;simp[Jk,ih]
 simp[zb.kill,this]
theorem KG {gb:Nat→Option Nat}{h':Heap}:Y0 [] L gb h'=fun _=>false:=by
 funext A
 unfold Y0
 split
 · simp[jm]
 · simp[jm]
 · rfl
theorem xU {gb:Nat→Option Nat}{h':Heap}:∀(i:Nat) (l:Heap),qW (jm []) gb h' i l=l
 |_,[]=>rfl
 | i,o::l=>by
   have ih:=xU (gb:=gb) (h':=h') (i+1) l
   simp only[qW,ih]
   rfl
def wW (st:zb):List (zp×Bool)→List za
 |[]=>[]
 |(x,_)::xs=>K2 st [] true x::wW st xs
theorem w5 :∀(args:List (zp×Bool)),∃As,st.useL (ym args [])=some (As,st)∧As.length=args.length∧st.useLQ L (ym args [])=true
 |[]=>⟨[],rfl,rfl,rfl⟩
 | (x,b)::xs=>by
   obtain⟨As,h1,h2,h3⟩:=w5 xs
   refine⟨.sc (.bool false)::As,?_,by simp[h2],?_⟩
   · simp only[ym,List.headD_nil,List.tail_nil,zb.useL,zb.use,zb.evU,za.copyable,cond_true,h1]
   · simp only[ym,List.headD_nil,List.tail_nil,zb.useLQ,zb.useQ,zb.use,zb.evU,za.copyable,cond_true,h3,Bool.and_self]
theorem yY {st0:zb}:∀(args:List (zp×Bool)) (As:List za),As.length=args.length→jq st0 st [] true none args [] As=wW st args
 |[],[],_=>rfl
 |[],_::_,h=>by simp at h
 |_::_,[],h=>by simp at h
 | (x,b)::xs,A::As,h=>by
   simp only[jq,List.headD_nil,List.tail_nil,wW,yY xs As (by simpa using h)]
theorem UL {f:zp}{args:List (zp×Bool)}{K:zb→Prop}{g:Nat}{first captured:List za}(hev:st.ev f= .fn (.func g) first captured)
    (H:zD P [] g (uM st.h [] true first++(wW st args++uM st.h [] true captured)) [] fun r h'=>h'=[]∧r.flat=true∧r.ids0=true∧K (st.putT d r)):Qf P L st d f args K:=by
  unfold Qf
  rw[hev]
  refine⟨[],[],true,none,?_⟩
  unfold Qy
  obtain⟨As,h1,h2,h3⟩:=w5 (st:=st) (L:=L) args
  have hw:∀L:List (List Nat),zM [] L=[]:=fun L=>by
    induction L with
    |nil=>rfl
    | cons r L ih=>
      unfold zM
      split
      · rename_i heq;cases heq
      · rename_i heq;cases heq;simp[jm,ih]
      · rename_i heq;cases heq;exact ih
  simp only[yN,h1,yY _ _ h2,h3,xL,hw,Zj]
  refine⟨rfl,rfl,rfl,H.mono fun r h' ⟨e,hf,hi,hk⟩=>?_⟩
  subst e
  refine⟨Nat.le_refl _,fun _=>⟨hf,rfl⟩,?_⟩
  simp only[Zp,zb.after,KG,Ur,xU,YW _ _ hi]
  simpa[qk] using hk
theorem ke {f:zp}{args:List (zp×Bool)}{K:zb→Prop}{g:Nat}{first captured:List za}(hev:st.ev f= .fn (.func g) first captured)(ms:List Yf)(bo:List Nat)(ln:Bool)(pl:Option (List Nat))
    (H:Qy P L st d g first captured args ms bo ln pl K):Qf P L st d f args K:=by
  unfold Qf
  rw[hev]
  exact⟨ms,bo,ln,pl,H⟩
end
end Go.Ga

namespace Go.Ga
open Go
section
variable {P:Program} {L:List (List Nat)} {K:zb→Prop} {st st0 st1:zb} {d:Nat}
theorem Gd {b:ZJ}{rest:List zk}:qY P [] K ((none,b)::rest) st=jg P [] (qY P [] K rest) st b:=by
 rw[qU,YY,Qo,true_and]
theorem K1 {t:Nat}{want:Bool}{b:ZJ}{rest:List zk}(h:st.get t= .sc (.bool want)):qY P [] K ((some (t,want),b)::rest) st=jg P [] (qY P [] K rest) st b:=by
 rw[qU,Wq h,Qo,true_and]
theorem kb {t d:Nat}{want:Bool}{b:ZJ}{rest:List zk}(h:st.get t= .sc (.bool (!want)))(hd:b.dst=some d):qY P [] K ((some (t,want),b)::rest) st=qY P [] K rest (st.putT d (.sc (.tuple #[]))):=by
 rw[qU,YZ h hd]
theorem UH {t d:Nat}{want:Bool}{b:ZJ}{rest:List zk}(h:st.get t= .sc (.tuple #[]))(hd:b.dst=some d):qY P [] K ((some (t,want),b)::rest) st=qY P [] K rest (st.putT d (.sc (.tuple #[]))):=by
 rw[qU,yW h hd]
theorem vr {wl:List jc}:ZX P K .done wl st=K st:=rfl
theorem vp {later:List Nat}{gd:Option (Nat×Bool)}{o:uO}{t:ZW}{wl:List jc}:ZX P K (.take later (gd,.r o) t) wl st=z7 P [] (ZX P K t ((later,jV st o)::wl)) st (gd,.r o):=rfl
theorem ko {i:Nat}{g:zk}{t:ZW}{wl:List jc}:ZX P K (.one i g t) wl st=z7 P (jD (Zg i wl)) (ZX P K t (Zg i wl)) st g:=rfl
theorem vq {i:Nat}{g:zk}{l:List (Nat×zk)}{t:ZW}{wl:List jc}:ZX P K (.many ((i,g)::l) t) wl st=z7 P [] (ZX P K (.many l t) (Zg i wl)) st g:=rfl
theorem uT {t:ZW}{wl:List jc}:ZX P K (.many [] t) wl st=ZX P K t wl st:=rfl
theorem kn {i j:Nat}{g h:zk}{t u:ZW}{wl:List jc}:ZX P K (.two i g t j h u) wl st=(z7 P (jD (Zg i wl)) (ZX P K t (Zg i wl)) st g∧z7 P (jD (Zg j wl)) (ZX P K u (Zg j wl)) st h):=rfl
theorem uS {i j k:Nat}{g h m:zk}{t u v:ZW}{wl:List jc}:ZX P K (.three i g t j h u k m v) wl st=(z7 P (jD (Zg i wl)) (ZX P K t (Zg i wl)) st g∧z7 P (jD (Zg j wl)) (ZX P K u (Zg j wl)) st h∧z7 P (jD (Zg k wl)) (ZX P K v (Zg k wl)) st m):=rfl
theorem WX (cs:List za)(k:Nat)(A:za):zO cs k [A]=cs.set k A:=rfl
theorem KK {rss:List QA}{Q:za→Heap→Prop}{s:zb}:UA [] rss Q .ret s=match wV rss s with
    |some (As,s')=>Q (Uk As) s'.h
    |none=>False:=by
  simp only[UA,qV,true_and]<;>rfl
theorem Vu {rss:List QA}{Q:za→Heap→Prop}{s:zb}:UA [] rss Q .normal s=match wV rss s with
    |some (As,s')=>Q (Uk As) s'.h
    |none=>False:=by
  simp only[UA,qV,true_and]<;>rfl
theorem zE {f:zp}{args:List (zp×Bool)}{g:Nat}{first captured As:List za}(hev:st.ev f= .fn (.func g) first captured)(hargs:uM st.h [] true first++(wW st args++uM st.h [] true captured)=As)
    (H:zD P [] g As [] fun r h'=>h'=[]∧r.flat=true∧r.ids0=true∧K (st.putT d r)):Qf P L st d f args K:=
  UL hev (by rw[hargs];exact H)
theorem ZE {f:zp}{args:List (zp×Bool)}{g:Nat}{first captured As args':List za}{x:Option (List Nat×Nat×List za)}{h0:Heap}{L':List (List Nat)}(ms:List Yf)(bo:List Nat)(ln:Bool)(pl:Option (List Nat))
    (hev:st.ev f= .fn (.func g) first captured) (htake:yN st pl=some (x,st0)) (huse:st0.useL (ym args ms)=some (As,st1)) (hnd:qn bo=true) (hbo:bo.all (fun i=>decide (i<st1.h.length))=true)
    (hq:(xL L pl&&st0.useLQ L (ym args ms))=true) (hW:zM bo L=L') (hargs:uM st1.h bo ln first++(jq st st1 bo ln x args ms As++uM st1.h bo ln captured)=args') (hin:Zj st1.h bo x=h0)
    (H:zD P L' g args' h0 fun r h'=>h0.length≤h'.length∧(ln=true→r.flat=true∧QZ h'=true)∧Zp L d bo h0.length x st1 K r h'):Qf P L st d f args K:=by
  refine ke hev ms bo ln pl ?_
  unfold Qy
  rw[htake]
  simp only[]
  rw[huse]
  simp only[]
  refine⟨hnd,hbo,hq,?_⟩
  rw[hW,hargs,hin]
  exact H
end
attribute [go_sem] K7 zb.bnd UN K9 zb.cpyQ K8 uG uI uF zb.mputQ pO gR vU uK zb.roomTo za.slQ za.isAgg yW UH List.getElem?_drop List.drop_drop K1 kb K0 YY Wq YZ jg jn Zx ZJ.dst uO.dst Vh Km ki pI Uo Up Kn PG PI PH Pj Pk Pg Pi Ph Uz U6 vF gG gM Us Vm G6 u5 u6 zb.assign pN Gb g7 g6 pM g0 pP pQ Vx gZ KN g9 g8 Vz Vy gQ KF KC KD KB gP KA gS gT Uu Kz KE Uv vT Uh Ue Ud vS Uc vV vW W5 Ub xX Ug Uf W7 W6 za.copyable za.copyableL ge zb.use zb.isNil zb.blank yq ZT cond_true cond_false List.map List.getElem?_cons_zero List.getElem?_cons_succ cellsOf yz Option.some.injEq List.contains_cons List.contains_nil Bool.or_false Bool.or_true Bool.true_or Bool.false_or Bool.and_true Bool.true_and Wt Option.getD_some Option.getD_none Uk List.length_cons List.length_nil vr vp ko kn uS vq uT Zg jD jV ZJ.quiet PW PV vx vv gq gp gu gn vG u3 u0 u4 uZ G9 G8 vH zb.owned Px zb.stQ zb.useQ zb.useLQ zb.appQ za.cells WX za.cellOkL za.cellOk za.aggCopy za.under List.isPrefixOf zb.storeObj za.inObj qo Zn Ki Ks za.int? xi U3 xv List.filter_cons List.filter_nil List.flatMap_cons List.flatMap_nil List.all_cons List.all_nil clear Int.toNat_natCast Nat.mul_one Nat.add_one_le_iff Nat.zero_add Nat.add_zero true_and and_true List.length_map List.set_cons_zero List.set_cons_succ zb.useL List.append_nil List.nil_append List.cons_append List.singleton_append Bool.not_true Bool.not_false Bool.not_eq_true Bool.and_self Bool.or_self Bool.and_false Bool.false_and GY gc uJ gf K6 ga wF uH zb.bound zb.dec Zs Ws List.drop_zero List.drop_succ_cons List.drop_nil List.take_succ_cons List.take_zero List.take_nil zb.lenOf zb.shareAt za.freeze za.freezeL zb.given zb.more zb.moreQ Option.map_some Option.map_none Int.natCast_nonneg beq_self_eq_true bne_self_eq_false List.getElem?_nil List.set_set Gd Qo ym jq K2 pY GZ uM wW wL Zj zM qn jm yN xL qW qk QZ zX Y0 za.ren za.renL za.flat za.flatL za.ids0 za.ids0L za.plain za.plainL JV Wi Xc Qb yV yr Kj Qu Vo Xl Qc Xk Wn Kt wV Uk KK Vu clear zb.forget List.headD_cons List.headD_nil List.tail_cons List.tail_nil Option.isNone_none Option.isNone_some Option.isSome_none Option.isSome_some za.isAlias List.isEmpty_nil List.isEmpty_cons
end Go.Ga

namespace Go.Ga
open Go
theorem JB {α β:Type}{f g:α→Option β}:∀{l:List α} {r:List β},l.mapM f=some r→(∀x∈l,∀y∈r,f x=some y→g x=some y)→l.mapM g=some r
 |[],r,h,_=>by simpa using h
 | x ::l,r,h,hk=>by
   rw[List.mapM_cons] at h⊢
   cases hx:f x with
   |none=>rw[hx] at h;cases h
   | some y=>
     rw[hx] at h
     cases hr:l.mapM f with
     |none=>rw[hr] at h;cases h
     | some r'=>
       rw[hr] at h
       cases h
       rw[hk x (.head _) y (.head _) hx]
       have:=JB hr fun z hz w hw=>hk z (.tail _ hz) w (.tail _ hw)
       rw[this]
       rfl
def Gi (w w':World):Prop:=∀b,b<w.heap.size→w'.heap[b]?=w.heap[b]?
section
variable {H:Type} {enc:TypeId×Value→H} {P:Program} {w w':World}
theorem Gi.cell (h:Gi w w'){a:Addr}{v:Value}(hc:w.cell? a=some v):w'.cell? a=some v:=by
 have hb:a.block<w.heap.size:=World.block_lt_of_cell? w _ hc
 unfold World.cell? at hc⊢
 rw[h _ hb]
 exact hc
theorem Gi.cells (h:Gi w w'){base:Nat}{a:Addr}{n:Nat}{cs:List Value}(hc:w.cells? base a n=some cs):w'.cells? base a n=some cs:=by
 unfold World.cells? at hc⊢
 split at hc
 · rename_i hb
   rw[if_pos hb]
   exact JB hc fun i _ v _ hv=>h.cell hv
 · cases hc
def ZN (P:Program)(S:List TypeId)(t:TypeId):Prop:=
 match P.underlying t with
 |some .bool=>True
 |some (.int _)=>True
 |some .string=>True
 |some (.slice e)=>0<P.cellsOf e∧e∈S
 |some (.struct fs)=>∀f∈fs.toList,f.type∈S
 |_=>False
theorem wN {S:List TypeId}(hO:Gi w w'){sp:Nat→Bool}{r r':TypeId→List Value→Option (DataW H×List MemPlace)}{t:TypeId}{cs:List Value}{x:DataW H×List MemPlace}
    (hS:ZN P S t) (hr:∀t cs y,t∈S→r t cs=some y→(∀p∈y.2,sp p.block=true)→r' t cs=some y) (hsp:∀p∈x.2,sp p.block=true) (h:DataW.trodStep enc P w 0 (fun _=>true) true r t cs=some x):DataW.trodStep enc P w' 0 sp true r' t cs=some x:=by
  unfold DataW.trodStep at h⊢
  split at h
  case h_1=>exact h
  case h_2=>exact h
  case h_3=>exact h
  case h_4=>exact h
  case h_5=>exact h
  case h_6 e a hu=>unfold ZN at hS;rw[hu] at hS;exact hS.elim
  case h_7=>exact h
  case h_8 e a len cap hu=>
    unfold ZN at hS
    rw[hu] at hS
    obtain⟨hc,heS⟩:=hS
    simp only at h⊢
    split at h
    · rename_i hcond
      rw[if_pos hcond]
      simp only[if_true,Option.map_eq_some_iff,Option.bind_eq_some_iff] at h⊢
      obtain⟨elems,he,rest,hrest,rfl⟩:=h
      have hsub:∀y∈elems++rest,∀p∈y.2,sp p.block=true:=fun y hy p hp=>hsp p (List.mem_append_right _ (List.mem_flatMap.2 ⟨y,hy,hp⟩))
      have one:∀i y,y∈elems++rest→(w.cells? 0 (a.add (i*P.cellsOf e)) (P.cellsOf e)).bind (r e)=some y→(w'.cells? 0 (a.add (i*P.cellsOf e)) (P.cellsOf e)).bind (r' e)=some y:=fun i y hm hy=>by
        simp only[Option.bind_eq_some_iff] at hy⊢
        obtain⟨cs',hc,hy⟩:=hy
        exact⟨cs',hO.cells hc,hr _ _ _ heS hy (hsub y hm)⟩
      refine⟨elems,JB he fun i _ y hy h=>one i y (List.mem_append_left _ hy) h,rest,?_,rfl⟩
      split
      · exact JB hrest fun j _ y hy h=>one (len+j) y (List.mem_append_right _ hy) h
      · rename_i hns
        have hrow:(elems.length+rest.length)*P.cellsOf e=0∨0<(elems.length+rest.length)*P.cellsOf e:=Nat.eq_zero_or_pos _
        rcases hrow with h0|h0
        · have hl:elems.length+rest.length=0:=by
            rcases Nat.eq_zero_or_pos (elems.length+rest.length) with e0|e0
            · exact e0
            · have:=Nat.mul_pos e0 hc;omega
          have:rest=[]:=List.eq_nil_of_length_eq_zero (by omega)
          rw[this]
        · exfalso
          refine hns (hsp (.cell a.block (a.off+0)) (List.mem_append_left _ ?_))
          exact MemPlace.mem_row.2 ⟨0,h0,rfl⟩
    · cases h
  case h_9 fs hu=>
    unfold ZN at hS
    rw[hu] at hS
    split at h
    · rename_i hl
      rw[if_pos hl]
      simp only[Option.map_eq_some_iff] at h⊢
      obtain⟨xs,hx,rfl⟩:=h
      exact⟨xs,JB hx fun f hf y hy h=>hr _ _ _ (hS f hf) h fun p hp=>hsp p (List.mem_flatMap.2 ⟨y,hy,hp⟩),rfl⟩
    · cases h
  case h_14 k e b hu=>unfold ZN at hS;rw[hu] at hS;exact hS.elim
  case h_10 n e hu=>unfold ZN at hS;rw[hu] at hS;exact hS.elim
  all_goals exact h
theorem w9 {S:List TypeId}(hS:∀t∈S,ZN P S t)(hO:Gi w w'){sp:Nat→Bool}:∀(n:Nat) (t:TypeId) (cs:List Value) (x:DataW H×List MemPlace),t∈S→DataW.trod enc P w 0 (fun _=>true) true n t cs=some x→(∀p∈x.2,sp p.block=true)→DataW.trod enc P w' 0 sp true n t cs=some x
 |0,_,_,_,_,h,_=>by simp[DataW.trod] at h
 | n+1,t,cs,x,ht,h,hsp=>by
   rw[DataW.trod_step] at h⊢
   exact wN hO (hS t ht) (w9 hS hO n) hsp h
theorem QF {S:List TypeId}(hS:∀t∈S,ZN P S t)(hO:Gi w w'){sp:Nat→Bool}:∀{ts:List TypeId} {vs:List Value} {ds:List (DataW H)} {ps:List MemPlace},(∀t∈ts,t∈S)→DataW.TrodAll enc P w 0 (fun _=>true) true ts vs ds ps→(∀p∈ps,sp p.block=true)→DataW.TrodAll enc P w' 0 sp true ts vs ds ps
 |[],[],[],ps,_,h,_=>h
 | t::ts,v::vs,d::ds,ps,ht,⟨p,q,⟨fuel,h1⟩,h2,he⟩,hsp=>by
   subst he
   exact⟨p,q,⟨fuel,w9 hS hO fuel t _ _ (ht t (.head _)) h1 fun x hx=>hsp x (List.mem_append_left _ hx)⟩,QF hS hO (fun t h=>ht t (.tail _ h)) h2 fun x hx=>hsp x (List.mem_append_right _ hx),rfl⟩
end
end Go.Ga

namespace Go.Ga
open Go
inductive Sh (P:Program):TypeId→List za→Nat→Prop
 |bool (t:TypeId) (b:Bool) (hu:P.underlying t=some .bool):Sh P t [.sc (.bool b)] 1
 |int (t:TypeId) (k:IntKind) (n:Int) (hu:P.underlying t=some (.int k)) (hw:(Lit.int k n).wf=true):Sh P t [.sc (.int k n)] 1
 |string (t:TypeId) (s:ByteArray) (hu:P.underlying t=some .string):Sh P t [.sc (.string s)] (s.size+1)
 |slice (t e:TypeId) (L:List (List za×Nat)) (more:Nat) (hu:P.underlying t=some (.slice e)) (hl:∀x∈L,x.1.length=P.cellsOf e) (h:∀x∈L,Sh P e x.1 x.2):Sh P t [.imm (P.cellsOf e) (L.map (·.1)).flatten] (1+(L.map (·.2)).sum+more)
 |struct (t:TypeId) (fs:Array Field) (L:List (List za×Nat)) (hu:P.underlying t=some (.struct fs)) (hl:L.length=fs.size) (h:∀(i:Nat) f x,fs[i]?=some f→L[i]?=some x→Sh P f.type x.1 x.2):Sh P t (L.map (·.1)).flatten (1+(L.map (·.2)).sum)
 |other (t:TypeId) (n b:Nat) (h1:∀k,P.underlying t≠some (.int k)) (h2:P.underlying t≠some .bool) (h3:P.underlying t≠some .string) (h4:∀e,P.underlying t≠some (.slice e)) (h5:∀fs,P.underlying t≠some (.struct fs)):Sh P t (List.replicate n .dead) b
mutual
def jh {H:Type}:DataW H→Nat
 | .lit (.string bytes)=>bytes.length+1
 | .lit _=>1
 | .nil=>1
 | .ptr d=>jh d+1
 | .slice elems spare=>bulkL elems+bulkL spare+1
 | .agg parts=>bulkL parts+1
 | .iface _ d=>jh d+1
 | .map entries=>bulkE entries+1
 | .held _=>1
def bulkL {H:Type}:List (DataW H)→Nat
 |[]=>0
 |d::r=>jh d+bulkL r
def bulkE {H:Type}:List (Lit×DataW H)→Nat
 |[]=>0
 |x::r=>bulk1 x+bulkE r
def bulk1 {H:Type}:Lit×DataW H→Nat
 |(.string bytes,d)=>bytes.length+jh d+1
 |(_,d)=>jh d+1
end
def Yn (P:Program):Nat→List Field→Option Nat
 |n,[]=>some n
 |n,f::fs=>if f.offset=n then Yn P (n+P.cellsOf f.type) fs else none
def Env.plain (w:World):Env:=⟨w,fun _=>none,fun _=>0,fun _=>0,fun _=>0,0⟩
theorem Yh {α β:Type}{f:α→Option β}:∀{l:List α} {r:List β},l.mapM f=some r→r.length=l.length∧∀(i:Nat) x,l[i]?=some x→∃y,r[i]?=some y∧f x=some y
 |[],r,h=>by simp at h;subst h;exact⟨rfl,fun i x hx=>by simp at hx⟩
 | a ::l,r,h=>by
   rw[List.mapM_cons] at h
   cases hx:f a with
   |none=>rw[hx] at h;cases h
   | some y=>
     rw[hx] at h
     cases hr:l.mapM f with
     |none=>rw[hr] at h;cases h
     | some r'=>
       rw[hr] at h
       cases h
       obtain⟨h1,h2⟩:=Yh hr
       refine⟨by simp[h1],fun i x hi=>?_⟩
       cases i with
       |zero=>simp at hi;subst hi;exact⟨y,rfl,hx⟩
       |succ i=>simpa using h2 i x (by simpa using hi)
theorem Y5 {sz:Nat}(hsz:0<sz):∀{L:List (List za)},(∀l∈L,l.length=sz)→L.flatten.length=L.length*sz∧∀(k:Nat) A,L.flatten[k]?=some A→∃l,L[k / sz]?=some l∧l[k%sz]?=some A
 |[],_=>⟨by simp,fun k A h=>by simp at h⟩
 | l ::L,hl=>by
   obtain⟨h1,h2⟩:=Y5 hsz (L:=L) fun x hx=>hl x (.tail _ hx)
   have hl0:=hl l (.head _)
   refine⟨by simp[h1,hl0,Nat.add_mul,Nat.add_comm],fun k A h=>?_⟩
   rw[List.flatten_cons,List.getElem?_append] at h
   split at h
   · rename_i hlt
     rw[hl0] at hlt
     rw[Nat.div_eq_of_lt hlt,Nat.mod_eq_of_lt hlt]
     exact⟨l,rfl,h⟩
   · rename_i hge
     rw[hl0] at hge h
     obtain⟨l',h3,h4⟩:=h2 _ A h
     have hk:k=(k - sz)+sz:=by omega
     rw[hk,Nat.add_div_right _ hsz,Nat.add_mod_right]
     exact⟨l',by simpa using h3,h4⟩
section
variable {H:Type} {enc:TypeId×Value→H} {P:Program} {w:World}
def Cells (w:World)(As:List za)(cs:List Value):Prop:=As.length=cs.length∧∀(k:Nat) A v,As[k]?=some A→cs[k]?=some v→VRel (Env.plain w) none A v
theorem j0 {A:za}{v:Value}(h:VRel (Env.plain w) none A v):Cells w [A] [v]:=⟨rfl,fun k B u hB hu=>by
 cases k with
 |zero=>cases hB;cases hu;exact h
 |succ k=>simp at hB⟩
theorem UD (cs:List Value):Cells w (List.replicate cs.length .dead) cs:=⟨by simp,fun k A v hA _=>by
 rw[List.getElem?_replicate] at hA
 split at hA
 · cases hA;exact .dead _ _
 · cases hA⟩
structure WN (P:Program)(S:List TypeId):Prop where
 at_:∀t∈S,ZN P S t
 tile:∀t∈S,∀fs,P.underlying t=some (.struct fs)→Yn P 0 fs.toList=some (P.cellsOf t)
theorem V6 (l:List (DataW H)):bulkL l=(l.map jh).sum:=by
 induction l with
 |nil=>rfl
 |cons x l ih=>simp[bulkL,ih]
theorem Q1 {R:TypeId→List za→Nat→Prop}:∀(fs:List Field) (n m:Nat) (cs:List Value) (xs:List (DataW H×List MemPlace)),Yn P n fs=some m→m=cs.length→n≤cs.length→
    (∀(i:Nat) f y,fs[i]?=some f→xs[i]?=some y→∃As,R f.type As (jh y.1)∧Cells w As ((cs.drop f.offset).take (P.cellsOf f.type)))→xs.length=fs.length→
    ∃L:List (List za×Nat),L.length=fs.length∧(∀(i:Nat) f x,fs[i]?=some f→L[i]?=some x→R f.type x.1 x.2)∧(L.map (·.2)).sum=bulkL (xs.map (·.1))∧Cells w (L.map (·.1)).flatten (cs.drop n)
  | [],n,m,cs,xs,ht,hm,_,_,hl=>by
    cases ht
    have:xs=[]:=List.eq_nil_of_length_eq_zero (by simpa using hl)
    subst this
    subst hm
    exact⟨[],rfl,fun i f x h=>by simp at h,rfl,by simp[Cells]⟩
  |f::fs,n,m,cs,[],ht,hm,hn,h,hl=>by simp at hl
  | f ::fs,n,m,cs,y::xs,ht,hm,hn,h,hl=>by
    simp only[Yn] at ht
    split at ht
    · rename_i ho
      obtain⟨As,hR,hc⟩:=h 0 f y rfl rfl
      rw[ho] at hc
      have hle:n+P.cellsOf f.type≤cs.length:=by
        have key:∀(fs:List Field) (a m:Nat),Yn P a fs=some m→a≤m:=by
          intro fs
          induction fs with
          |nil=>intro a m h;cases h;exact Nat.le_refl _
          | cons g gs ih=>
            intro a m h
            simp only[Yn] at h
            split at h
            · have:=ih _ _ h;omega
            · cases h
        have:=key _ _ _ ht
        omega
      obtain⟨L,h1,h2,h3,h4⟩:=Q1 fs (n+P.cellsOf f.type) m cs xs ht hm hle (fun i g z hg hz=>h (i+1) g z (by simpa using hg) (by simpa using hz)) (by simpa using hl)
      refine⟨(As,jh y.1)::L,by simp[h1],fun i g x hg hx=>?_,by simp[bulkL,h3],?_⟩
      · cases i with
        |zero=>simp at hg hx;subst hg;subst hx;exact hR
        |succ i=>exact h2 i g x (by simpa using hg) (by simpa using hx)
      · have hlen:((cs.drop n).take (P.cellsOf f.type)).length=P.cellsOf f.type:=by simp;omega
        have hA:As.length=P.cellsOf f.type:=hc.1.trans hlen
        refine⟨?_,fun k A v hA' hv=>?_⟩
        · have:=h4.1
          simp only[List.map_cons,List.flatten_cons,List.length_append,List.length_drop] at this⊢
          omega
        · simp only[List.map_cons,List.flatten_cons] at hA'
          rw[List.getElem?_append] at hA'
          split at hA'
          · rename_i hlt
            refine hc.2 k A v hA' ?_
            rw[List.getElem?_take_of_lt (by omega)]
            exact hv
          · rename_i hge
            refine h4.2 _ A v hA' ?_
            rw[List.getElem?_drop] at hv⊢
            rw[←hv]
            congr 1
            omega
    · cases ht
theorem Qi {S :List TypeId}(hP:WN P S):∀(n:Nat) (t:TypeId) (cs:List Value) (x:DataW H×List MemPlace),t∈S→DataW.trod enc P w 0 (fun _=>true) true n t cs=some x→∃As,Sh P t As (jh x.1)∧Cells w As cs
 |0,_,_,_,_,h=>by simp[DataW.trod] at h
 | n + 1, t, cs,x,ht,h=>by
   have hS:=hP.at_ t ht
   rw[DataW.trod_step] at h
   unfold DataW.trodStep at h
   have other:(∀k,P.underlying t≠some (.int k))→P.underlying t≠some .bool→P.underlying t≠some .string→(∀e,P.underlying t≠some (.slice e))→(∀fs,P.underlying t≠some (.struct fs))→∃As,Sh P t As (jh x.1)∧Cells w As cs:=
    fun h1 h2 h3 h4 h5=>⟨_,.other t cs.length _ h1 h2 h3 h4 h5,UD cs⟩
   split at h
   case h_1 b hu=>cases h;exact⟨_,.bool t b hu,j0 (.sc _ _)⟩
   case h_2 k k' m hu=>
    split at h
    · rename_i hc
      obtain⟨rfl,hw⟩:=hc
      cases h
      exact⟨_,.int t _ m hu hw,j0 (.sc _ _)⟩
    · cases h
   case h_4 s hu=>
    split at h
    · cases h
      refine⟨_,?_,j0 (.sc _ _)⟩
      have e:jh (DataW.lit (H:=H) (.string s.data.toList))=s.size+1:=by
       simp only[jh]
       rw[Array.length_toList]
       rfl
      show Sh P t _ (jh (DataW.lit (H:=H) (.string s.data.toList)))
      rw[e]
      exact .string t s hu
    · cases h
   case h_7 hu=> 
    rename_i e
    cases h
    have:=Sh.slice (P:=P) t e [] 0 hu (fun x hx=>by cases hx) (fun x hx=>by cases hx)
    exact⟨_,by simpa[jh] using this,j0 (.immNil _ _ _)⟩
   case h_8 e a len cap hu=>
    simp only at h
    split at h
    · rename_i hcond
      obtain⟨_,hlc,_⟩:=hcond
      unfold ZN at hS
      rw[hu] at hS
      obtain⟨hsz,heS⟩:=hS
      simp only[if_true,Option.map_eq_some_iff,Option.bind_eq_some_iff] at h
      obtain⟨elems,he,rest,hrest,rfl⟩:=h
      obtain⟨e1,e2⟩:=Yh he
      obtain⟨r1,r2⟩:=Yh hrest
      simp only[List.length_range] at e1 r1
      have one:∀i y,elems[i]?=some y→∃As,Sh P e As (jh y.1)∧As.length=P.cellsOf e∧∀(k:Nat) A,As[k]?=some A→∃v,w.cell? ((a.add (i*P.cellsOf e)).add k)=some v∧VRel (Env.plain w) none A v:=by
       intro i y hy
       have hi:i<len:=by rw[←e1];exact(List.getElem?_eq_some_iff.1 hy).1
       obtain⟨y',hy',hr⟩:=e2 i i (by simp[hi])
       rw[hy] at hy'
       cases hy'
       simp only[Option.bind_eq_some_iff] at hr
       obtain⟨cs',hc,hr⟩:=hr
       obtain⟨_,hl',hcell⟩:=World.cells?_some hc
       obtain⟨As,hS,hA⟩:=Qi hP n _ _ _ heS hr
       refine⟨As,hS,hA.1.trans hl',fun k A hk=>?_⟩
       have hlt:k<cs'.length:=by rw[←hA.1];exact(List.getElem?_eq_some_iff.1 hk).1
       refine⟨cs'[k],?_,hA.2 k A _ hk (List.getElem?_eq_getElem hlt)⟩
       rw[hcell k (by omega)]
       exact List.getElem?_eq_getElem hlt
      have hL:∃L:List (List za×Nat),L.length=elems.length∧∀(i:Nat) z y,L[i]?=some z→elems[i]?=some y→Sh P e z.1 z.2∧z.2=jh y.1∧z.1.length=P.cellsOf e∧∀(k:Nat) A,z.1[k]?=some A→∃v,w.cell? ((a.add (i*P.cellsOf e)).add k)=some v∧VRel (Env.plain w) none A v:=by
       have key:∀(l:List (DataW H×List MemPlace)) (o:Nat),(∀i y,l[i]?=some y→elems[o+i]?=some y)→∃L:List (List za×Nat),L.length=l.length∧∀(i:Nat) z y,L[i]?=some z→l[i]?=some y→Sh P e z.1 z.2∧z.2=jh y.1∧z.1.length=P.cellsOf e∧∀(k:Nat) A,z.1[k]?=some A→∃v,w.cell? ((a.add ((o+i)*P.cellsOf e)).add k)=some v∧VRel (Env.plain w) none A v:=by
        intro l
        induction l with
        |nil=>intro o _;exact⟨[],rfl,fun i z y h=>by simp at h⟩
        | cons y0 l ih=>
          intro o hl
          obtain⟨L,h1,h2⟩:=ih (o+1) fun i y hy=>by
           have:=hl (i+1) y (by simpa using hy)
           rwa [show o+(i+1)=o+1+i by omega] at this
          obtain⟨As,h3,h4,h5⟩:=one (o+0) y0 (hl 0 y0 rfl)
          refine⟨(As,jh y0.1)::L,by simp[h1],fun i z y hz hy=>?_⟩
          cases i with
          |zero=>simp at hz hy;subst hz;subst hy;exact⟨h3,rfl,h4,h5⟩
          | succ i=>
            have:=h2 i z y (by simpa using hz) (by simpa using hy)
            rwa [show o+1+i=o+(i+1) by omega] at this
       have:=key elems 0 fun i y hy=>by rw[Nat.zero_add];exact hy
       simpa using this
      obtain⟨L,hl1,hl2⟩:=hL
      have hget:∀z∈L,∃i y,L[i]?=some z∧elems[i]?=some y:=fun z hz=>by
       obtain⟨i,hi⟩:=List.mem_iff_getElem?.1 hz
       have hlt:i<elems.length:=by rw[←hl1];exact(List.getElem?_eq_some_iff.1 hi).1
       exact⟨i,_,hi,List.getElem?_eq_getElem hlt⟩
      have hlen:∀z∈L,z.1.length=P.cellsOf e:=fun z hz=>by
       obtain⟨i,y,h1,h2⟩:=hget z hz
       exact(hl2 i z y h1 h2).2.2.1
      have hsum:(L.map (·.2)).sum=bulkL (elems.map (·.1)):=by
       rw[V6]
       congr 1
       apply List.ext_getElem?
       intro i
       rw[List.getElem?_map,List.getElem?_map,List.getElem?_map]
       cases hz:L[i]? with
       | none=>
         have:elems[i]?=none:=by rw[List.getElem?_eq_none_iff] at hz⊢;omega
         rw[this];rfl
       | some z=>
         have hlt:i<elems.length:=by rw[←hl1];exact(List.getElem?_eq_some_iff.1 hz).1
         have hy:=List.getElem?_eq_getElem hlt
         rw[hy]
         simp[(hl2 i z _ hz hy).2.1]
      have hS:=Sh.slice (P:=P) t e L (bulkL (rest.map (·.1))) hu hlen (fun z hz=>by
       obtain⟨i,y,h1,h2⟩:=hget z hz
       exact(hl2 i z y h1 h2).1)
      rw[hsum] at hS
      refine⟨_,?_,j0 (A:= .imm (P.cellsOf e) (L.map (·.1)).flatten) ?_⟩
      · simp only[jh]
        rwa [show bulkL (elems.map (·.1))+bulkL (rest.map (·.1))+1=1+bulkL (elems.map (·.1))+bulkL (rest.map (·.1)) by omega]
      · by_cases h0:cap=0
        · have:L=[]:=List.eq_nil_of_length_eq_zero (by omega)
          subst this
          have hl0:len=0:=by omega
          subst hl0 h0
          exact .immNil _ _ _
        · 
          have hfirst:∃v,w.cell? a=some v:=by
           have hz:∃y cs',w.cells? 0 (a.add (0*P.cellsOf e)) (P.cellsOf e)=some cs'∧DataW.trod enc P w 0 (fun _=>true) true n e cs'=some y:=by
            by_cases hlen0:len=0
            · subst hlen0
              obtain⟨y,_,hr⟩:=r2 0 0 (by rw[List.getElem?_range (by omega)])
              simp only[Option.bind_eq_some_iff] at hr
              obtain⟨cs',hc,hr⟩:=hr
              exact⟨y,cs',hc,hr⟩
            · obtain⟨y,_,hr⟩:=e2 0 0 (by rw[List.getElem?_range (by omega)])
              simp only[Option.bind_eq_some_iff] at hr
              obtain⟨cs',hc,hr⟩:=hr
              exact⟨y,cs',hc,hr⟩
           obtain⟨y,cs',hc,_⟩:=hz
           obtain⟨_,hl',hcell⟩:=World.cells?_some hc
           have hlt:0<cs'.length:=by omega
           refine⟨cs'[0],?_⟩
           have:=hcell 0 hsz
           rw[List.getElem?_eq_getElem hlt] at this
           simpa[Addr.add] using this
          obtain⟨v0,hv0⟩:=hfirst
          obtain⟨b,o,sp⟩:=a
          have hspn:sp=none:=by
           cases sp with
           |none=>rfl
           | some s=>
             simp only[World.cell?] at hv0
             split at hv0
             · simp at hv0
             · cases hv0
          subst hspn
          have hb:b<w.heap.size:=World.block_lt_of_cell? w _ hv0
          obtain⟨f1,f2⟩:=Y5 hsz (L:=L.map (·.1)) (fun l hl=>by
           obtain⟨z,hz,rfl⟩:=List.mem_map.1 hl
           exact hlen z hz)
          have hcell:∀(k:Nat) A,((L.map (·.1)).flatten)[k]?=some A→∃v,w.cell? ⟨b,o+k,none⟩=some v∧VRel (Env.plain w) none A v:=fun k A hk=>by
           obtain⟨l,h1,h2⟩:=f2 k A hk
           rw[List.getElem?_map] at h1
           obtain⟨z,hz,rfl⟩:=Option.map_eq_some_iff.1 h1
           have hlt:k / P.cellsOf e<elems.length:=by rw[←hl1];exact(List.getElem?_eq_some_iff.1 hz).1
           obtain⟨v,h3,h4⟩:=(hl2 _ z _ hz (List.getElem?_eq_getElem hlt)).2.2.2 _ A h2
           refine⟨v,?_,h4⟩
           rw[Addr.add_lit,Addr.add_lit] at h3
           have hk':o+k / P.cellsOf e*P.cellsOf e+k%P.cellsOf e=o+k:=by rw[Nat.add_assoc,Nat.mul_comm];congr 1;exact Nat.div_add_mod k _
           rwa [hk'] at h3
          refine .imm none _ _ b o len cap (fun k=>(w.cell? ⟨b,o+k,none⟩).getD undef) rfl hb ⟨hsz,by rw[f1];simp[hl1,e1]⟩ hlc (fun k A hk=>?_) fun k A hk=>?_
          · obtain⟨v,h1,_⟩:=hcell k A hk
            show w.cell? _=some ((w.cell? _).getD undef)
            rw[h1];rfl
          · obtain⟨v,h1,h2⟩:=hcell k A hk
            show VRel _ none A ((w.cell? _).getD undef)
            rw[h1];exact h2
    · cases h
   case h_9 fs hu=>
    split at h
    · rename_i hl
      simp only[Option.map_eq_some_iff] at h
      obtain⟨xs,hx,rfl⟩:=h
      obtain⟨e1,e2⟩:=Yh hx
      obtain⟨L,h1,h2,h3,h4⟩:=Q1 (R:=Sh P) fs.toList 0 _ _ xs (hP.tile t ht fs hu) hl.symm (Nat.zero_le _) (fun i f y hf hy=>by
       obtain⟨y',hy',hr⟩:=e2 i f hf
       rw[hy] at hy'
       cases hy'
       exact Qi hP n _ _ _ (by unfold ZN at hS;rw[hu] at hS;exact hS f (List.mem_of_getElem? hf)) hr) e1
      refine⟨(L.map (·.1)).flatten,?_,by simpa using h4⟩
      have:=Sh.struct (P:=P) t fs L hu (by simpa using h1) (fun i f x hf hx=>h2 i f x (by simpa using hf) hx)
      rw[h3] at this
      simp only[jh]
      rwa [Nat.add_comm]
    · cases h
   all_goals first
    |cases h;done
    |exact other (by simp[*]) (by simp[*]) (by simp[*]) (by simp[*]) (by simp[*])
end
end Go.Ga

namespace Go.Ga
open Go Go.ChangeShapes Go.WideShapes Go.RowKit
def pe (P:Program)(S:List TypeId):Bool:=
 S.all fun t=>match P.underlying t with
  |some .bool=>true
  |some (.int _)=>true
  |some .string=>true
  |some (.slice e)=>decide (0<P.cellsOf e)&&S.contains e
  |some (.struct fs)=>fs.toList.all (fun f=>S.contains f.type)&&(Yn P 0 fs.toList==some (P.cellsOf t))
  |_=>false
theorem k8 {P:Program}{S:List TypeId}(h:pe P S=true):WN P S:=by
 refine⟨fun t ht=>?_,fun t ht fs hu=>?_⟩
 · have:=List.all_eq_true.1 h t ht
   unfold ZN
   cases hu:P.underlying t with
   |none=>rw[hu] at this;cases this
   | some d=>
     rw[hu] at this
     cases d with
     |bool=>trivial
     |int k=>trivial
     |string=>trivial
     | slice e=>
       simp only[Bool.and_eq_true,decide_eq_true_eq,List.contains_iff_mem] at this
       exact this
     | struct fs=>
       simp only[Bool.and_eq_true,List.all_eq_true,List.contains_iff_mem] at this
       exact this.1
     |_=>cases this
 · have:=List.all_eq_true.1 h t ht
   rw[hu] at this
   simp only[Bool.and_eq_true,beq_iff_eq] at this
   exact this.2
section
variable {H:Type} {enc:TypeId×Value→H} {P:Program}
theorem Kq {W W':World}(hO:Gi W W')(hos:W'.os=W.os)(hout:W'.output=W.output)(may:MemPlace→Prop):W.keptBut W' may:=by
 refine⟨hos,hout,fun i hi=>?_⟩
 rw[hO i hi]
 cases W.heap[i]? with
 |none=>rfl
 | some o=>cases o with
   |cells c t fr=>exact⟨rfl,rfl,rfl,fun _ _=>rfl⟩
   |map es clock=>exact .inr ⟨rfl,rfl⟩
   |_=>rfl
theorem JJ {w:World}{sp:Nat→Bool}{gs:List (DataW H)}{ps:List MemPlace}(h:DataW.TrodVars enc P w sp [] gs ps):gs=[]∧ps=[]:=by
 cases gs with
 |nil=>exact⟨rfl,h⟩
 |cons=>cases h
theorem vZ {S:List TypeId}(hS:∀t∈S,ZN P S t){f:Func}{s:ChangeSpec}{W W':World}{args:Array Value}{ds gs:List (DataW H)}{before:List MemPlace}(hW:DataW.Whole enc P f.params.toList s.vars false W args.toList ds gs before)
    (hts:∀t∈f.params.toList,t∈S) (hv:s.vars=[]) (hres:(s.fn H (ds++gs)).results=[.lit (.bool true)]) (harg:(s.fn H (ds++gs)).args=ds) (hvr:(s.fn H (ds++gs)).vars=[]) {tb:TypeId} (hrt:f.resultTypes= #[tb]) (hb:P.underlying tb=some .bool) (hO:Gi W W') (hos:W'.os=W.os) (hout:W'.output=W.output):
    s.post enc P f false true false false W args (.bool true) W':=by
  have hW':=hW
  obtain⟨p,q,hA,hV,hpq,hz,hn⟩:=hW
  rw[hv] at hV
  obtain⟨rfl,rfl⟩:=JJ hV
  rw[List.append_nil] at hpq
  subst hpq
  have hres':∀(b:Nat) (sp:Nat→Bool) (hd:Bool),DataW.TrodAll enc P W' b sp hd f.resultTypes.toList ((Value.bool true).resultList f.resultTypes.size) (s.fn H (ds++[])).results []:=fun b sp hd=>by
    rw[hres,hrt]
    exact⟨[],[],⟨1,by simp[DataW.trod,hb,Value.cells]⟩,rfl,rfl⟩
  refine⟨ds,[],before,[],before,[],hW',hres' _ _ _,?_,?_,Kq hO hos hout _,fun h=>by cases h⟩
  · rw[harg]
    exact QF hS hO hts hA fun x hx=>by simpa using hW'.lt x hx
  · rw[hvr,hv];rfl
def SA (P:Program)(t:TypeId)(A:za)(b:Nat):Prop:=
 ((∃fs,P.underlying t=some (.struct fs))∧∃As,A= .agg As∧Sh P t As b)∨((∀fs,P.underlying t≠some (.struct fs))∧Sh P t [A] b)
inductive Gh (P:Program):List TypeId→List za→Nat→Prop
 |nil:Gh P [] [] 0
 |cons (t:TypeId) (A:za) (b:Nat) (ts:List TypeId) (As:List za) (c:Nat) (h:SA P t A b) (hr:Gh P ts As c):Gh P (t::ts) (A::As) (b+c)
theorem uU {S:List TypeId}(hP:WN P S){w:World}{base:Nat}{t:TypeId}{v:Value}{d:DataW H}{ps:List MemPlace}(hok:Value.okWide P w .any base t v)(ht:t∈S)(h:DataW.Trod enc P w 0 (fun _=>true) true t v d ps):
    ∃A,SA P t A (jh d)∧VRel (Env.plain w) none A v:=by
  obtain⟨fuel,h⟩:=h
  obtain⟨As,hS,hl,hc⟩:=Qi hP fuel t _ _ ht h
  have hna:∀n e,P.underlying t≠some (.array n e):=fun n e hu=>by
    have:=hP.at_ t ht
    unfold ZN at this
    rw[hu] at this
    exact this
  by_cases hs:∃fs,P.underlying t=some (.struct fs)
  · obtain⟨fs,hs⟩:=hs
    unfold Value.okWide at hok
    rw[hs] at hok
    obtain⟨cs,rfl,_,_⟩:=hok
    refine⟨.agg As,.inl ⟨⟨fs,hs⟩,As,rfl,hS⟩,.agg none As cs (by simpa[Value.cells] using hl.symm) fun k A v hA hv=>hc k A v hA (by simpa[Value.cells] using hv)⟩
  · have hns:∀fs,P.underlying t≠some (.struct fs):=fun fs e=>hs ⟨fs,e⟩
    have hv:v.cells= #[v]:=by
      cases v with
      | agg cs=>
        exfalso
        unfold Value.okWide at hok
        cases hu:P.underlying t with
        | none=>
          rw[hu] at hok
          simp[Cell.okWide,Cell.ok,hu] at hok
        | some dsc=>
          rw[hu] at hok
          cases dsc with
          |struct fs=>exact hns fs hu
          |array n e=>exact hna n e hu
          |_=>simp[Cell.okWide,Cell.ok,hu] at hok
      |_=>rfl
    rw[hv] at hl hc
    have:∃A,As=[A]:=by
      match As,hl with
      |[A],_=>exact⟨A,rfl⟩
    obtain⟨A,rfl⟩:=this
    exact⟨A,.inr ⟨hns,hS⟩,hc 0 A v rfl rfl⟩
theorem qd {S:List TypeId}(hP:WN P S){w:World}{base:Nat}:∀{ts:List TypeId} {vs:List Value} {ds:List (DataW H)} {ps:List MemPlace},(∀(j:Nat) t v,ts[j]?=some t→vs[j]?=some v→Value.okWide P w .any base t v)→(∀t∈ts,t∈S)→
    DataW.TrodAll enc P w 0 (fun _=>true) true ts vs ds ps→∃As,Gh P ts As (bulkL ds)∧As.length=vs.length∧∀(k:Nat) A v,As[k]?=some A→vs[k]?=some v→VRel (Env.plain w) none A v
  |[],[],[],ps,_,_,_=>⟨[],.nil,rfl,fun k A v h=>by simp at h⟩
  | t::ts,v::vs,d::ds,ps,hok,hna,⟨p,q,h1,h2,_⟩=>by
    obtain⟨A,hA,hv⟩:=uU hP (hok 0 t v rfl rfl) (hna t (.head _)) h1
    obtain⟨As,hAs,hl,hvs⟩:=qd hP (fun j t' v' ht hv'=>hok (j+1) t' v' (by simpa using ht) (by simpa using hv')) (fun t ht=>hna t (.tail _ ht)) h2
    refine⟨A::As,.cons t A _ ts As _ hA hAs,by simp[hl],fun k B u hB hu=>?_⟩
    cases k with
    |zero=>simp at hB hu;subst hB;subst hu;exact hv
    |succ k=>exact hvs k B u (by simpa using hB) (by simpa using hu)
theorem wS {S:List TypeId}(hP:WN P S){f:Nat}{fn:Func}{s:ChangeSpec}{B:Nat}{W:World}{base:Nat}{args:Array Value}{ds gs:List (DataW H)}{before:List MemPlace}
    (hval:∀(j:Nat) t v,fn.params[j]?=some t→args[j]?=some v→Value.okWide P W .any base t v) (hna:∀t∈fn.params.toList,t∈S)
    (hW:DataW.Whole enc P fn.params.toList s.vars false W args.toList ds gs before) (hv:s.vars=[]) (hres:(s.fn H (ds++gs)).results=[.lit (.bool true)]) (harg:(s.fn H (ds++gs)).args=ds) (hvr:(s.fn H (ds++gs)).vars=[])
    {tb:TypeId} (hrt:fn.resultTypes= #[tb]) (hb:P.underlying tb=some .bool) (hbk:bulkL (ds++gs)≤B)
    (hT:Ja P (Env.plain W)) (H0:∀As b,Gh P fn.params.toList As b→b≤B→zD P [] f As [] fun r _=>r= .sc (.bool true)):
    Calls P f args W fun e W'=>∃v,e= .returned v∧s.post enc P fn false true false false W args v W':=by
  have hW':=hW
  obtain⟨p,q,hA,hV,hpq,hz,hn⟩:=hW
  rw[hv] at hV
  obtain⟨rfl,rfl⟩:=JJ hV
  obtain⟨As,hAs,hl,hvs⟩:=qd hP (fun j t v ht hv'=>hval j t v (by simpa using ht) (by simpa using hv')) hna hA
  rw[List.append_nil] at hbk
  have hC:=(H0 As _ hAs hbk).2 (Env.plain W) args hT ⟨rfl,fun b q h=>(by cases h),fun id cs h=>(by simp at h)⟩ (by simpa using hl.symm) fun k A v hA' hv'=>(hvs k A v hA' (by simpa using hv')).any rfl _
  refine hC.mono fun e W' ⟨v,r,h',E',he,hw,_,hr,hp,hq⟩=>?_
  subst he hw hq
  cases hr
  refine⟨_,rfl,vZ hP.at_ hW' hna hv hres harg hvr hrt hb (fun b hlt=>(hp.old b rfl hlt).2) hp.os hp.output⟩
end
end Go.Ga

namespace Go.Ga
open Go
def Pc (n:Nat)(j:Nat):Option Nat:=if j<n then some j else none
theorem zD.less {P:Program}{L L':List (List Nat)}{f:Nat}{args:List za}{h:Heap}{Q:za→Heap→Prop}(H:zD P L f args h Q)(hL:∀r∈L',r∈L):zD P L' f args h Q:=
 ⟨H.1,fun E vs h0 h1 h2 h3=>(H.2 E vs h0 h1 h2 h3).mono fun _ _ ⟨v,r,h',E',a,b,c,d,e,q⟩=>⟨v,r,h',E',a,b,c,d,⟨e.size,e.os,e.tape,e.output,e.old,e.far,e.farB,e.ids,fun b r hr=>e.keep b r ⟨hL r hr.1,hr.2⟩⟩,q⟩⟩
theorem zD.nil {P:Program}{L:List (List Nat)}{f:Nat}{args:List za}{h:Heap}{Q:za→Heap→Prop}(H:zD P L f args h Q):zD P [] f args h Q:=H.less fun r hr=>by cases hr
attribute [go_sem] Pc
end Go.Ga

namespace Go.Ga
open Go
def zR {α:Type}(f:α→List za):List α→List za
 |[]=>[]
 |x::l=>f x++zR f l
section
variable {α:Type} {f:α→List za} {sz:Nat}
theorem qL (hf:∀x,(f x).length=sz):∀l:List α,(zR f l).length=l.length*sz
 |[]=>by simp[zR]
 |x::l=>by simp only[zR,List.length_append,hf,qL hf l,List.length_cons,Nat.add_mul];omega
theorem Qr (hf:∀x,(f x).length=sz):∀(l:List α) (k:Nat),(zR f l).drop (k*sz)=zR f (l.drop k)
 |[],k=>by simp[zR]
 |x::l,0=>by simp
 | x::l,k+1=>by
   simp only[zR,List.drop_succ_cons]
   rw[←Qr hf l k,Nat.add_mul,Nat.one_mul,List.drop_append,hf]
   rw[List.drop_of_length_le (by rw[hf];omega),List.nil_append]
   congr 1;omega
theorem v7 (hf:∀x,(f x).length=sz){l:List α}{k:Nat}{x:α}(h:l[k]?=some x)(r:Nat)(hr:r<sz):(zR f l)[k*sz+r]?=(f x)[r]?:=by
 rw[←List.getElem?_drop,Qr hf]
 have hlt:k<l.length:=(List.getElem?_eq_some_iff.1 h).1
 rw[List.drop_eq_getElem_cons hlt]
 have hx:l[k]=x:=by rw[List.getElem?_eq_getElem hlt] at h;exact Option.some.inj h
 rw[hx]
 simp only[zR]
 rw[List.getElem?_append_left (by rw[hf];exact hr)]
theorem yT (hf:∀x,(f x).length=sz){l:List α}{k:Nat}{x:α}(h:l[k]?=some x):((zR f l).drop (k*sz)).take sz=f x:=by
 rw[Qr hf]
 have hlt:k<l.length:=(List.getElem?_eq_some_iff.1 h).1
 rw[List.drop_eq_getElem_cons hlt]
 have hx:l[k]=x:=by rw[List.getElem?_eq_getElem hlt] at h;exact Option.some.inj h
 rw[hx]
 simp only[zR]
 rw[List.take_append_of_le_length (by rw[hf];exact Nat.le_refl _),List.take_of_length_le (by rw[hf];exact Nat.le_refl _)]
theorem Jg (h:∀x,za.plainL (f x)=true):∀l:List α,za.plainL (zR f l)=true
 |[]=>rfl
 | x::l=>by
   have app:∀a b:List za,za.plainL a=true→za.plainL b=true→za.plainL (a++b)=true:=fun a b ha hb=>by
    induction a with
    |nil=>exact hb
    |cons y a ih=>simp only[za.plainL,Bool.and_eq_true] at ha;simp only[List.cons_append,za.plainL,ha.1,ih ha.2,Bool.and_self]
   exact app _ _ (h x) (Jg h l)
theorem JT (h:∀x,za.flatL (f x)=true):∀l:List α,za.flatL (zR f l)=true
 |[]=>rfl
 | x::l=>by
   have app:∀a b:List za,za.flatL a=true→za.flatL b=true→za.flatL (a++b)=true:=fun a b ha hb=>by
    induction a with
    |nil=>exact hb
    |cons y a ih=>simp only[za.flatL,Bool.and_eq_true] at ha;simp only[List.cons_append,za.flatL,ha.1,ih ha.2,Bool.and_self]
   exact app _ _ (h x) (JT h l)
theorem jO (h:∀x,za.cellOkL (f x)=true):∀l:List α,za.cellOkL (zR f l)=true
 |[]=>rfl
 | x::l=>by
   have app:∀a b:List za,za.cellOkL a=true→za.cellOkL b=true→za.cellOkL (a++b)=true:=fun a b ha hb=>by
    induction a with
    |nil=>exact hb
    |cons y a ih=>simp only[za.cellOkL,Bool.and_eq_true] at ha;simp only[List.cons_append,za.cellOkL,ha.1,ih ha.2,Bool.and_self]
   exact app _ _ (h x) (jO h l)
end
def two (x:Int×Int):List za:=[.sc (.int .i64 x.1),.sc (.int .i64 x.2)]
theorem gl (x:Int×Int):(two x).length=2:=rfl
def PL (x:Int×Int×Int):List za:=[.sc (.int .i64 x.1),.sc (.int .i64 x.2.1),.sc (.int .i64 x.2.2)]
theorem gm (x:Int×Int×Int):(PL x).length=3:=rfl
abbrev wM (l:List (Int×Int)):List za:=zR two l
abbrev wO (l:List (Int×Int×Int)):List za:=zR PL l
theorem xF (l:List (Int×Int)):(wM l).length=l.length*2:=qL gl l
theorem xI (l:List (Int×Int×Int)):(wO l).length=l.length*3:=qL gm l
theorem Qh (l:List (Int×Int)):za.plainL (wM l)=true:=Jg (fun _=>rfl) l
theorem Qj (l:List (Int×Int×Int)):za.plainL (wO l)=true:=Jg (fun _=>rfl) l
theorem vo (l:List (Int×Int)):za.flatL (wM l)=true:=JT (fun _=>rfl) l
theorem vt (l:List (Int×Int×Int)):za.flatL (wO l)=true:=JT (fun _=>rfl) l
theorem xH (l:List (Int×Int)):za.cellOkL (wM l)=true:=jO (fun _=>rfl) l
theorem xK (l:List (Int×Int×Int)):za.cellOkL (wO l)=true:=jO (fun _=>rfl) l
theorem q6 (l:List (Int×Int)):za.copyableL (wM l)=true:=plain_copyableL _ (Qh l)
theorem q7 (l:List (Int×Int×Int)):za.copyableL (wO l)=true:=plain_copyableL _ (Qj l)
theorem xG (l:List (Int×Int)):za.freezeL (wM l)=wM l:=copyable_freezeL _ (q6 l)
theorem xJ (l:List (Int×Int×Int)):za.freezeL (wO l)=wO l:=copyable_freezeL _ (q7 l)
theorem w8 (l:List (Int×Int)):za.ids0L (wM l)=true:=plain_ids0L _ (Qh l)
theorem Wa (l:List (Int×Int×Int)):za.ids0L (wO l)=true:=plain_ids0L _ (Qj l)
theorem km (g:Nat→Option Nat)(l:List (Int×Int)):za.renL g (wM l)=wM l:=ids0_renL g _ (w8 l)
theorem kp (g:Nat→Option Nat)(l:List (Int×Int×Int)):za.renL g (wO l)=wO l:=ids0_renL g _ (Wa l)
attribute [go_sem] xF xI Qh Qj vo vt xH xK q6 q7 xG xJ w8 Wa km kp
end Go.Ga

namespace Go.Ga
open Go
section
variable {P:Program} {rs:List Nat} {N:Nat} {V:List Nat} {L:List (List Nat)} {x:zT} {K:ZO→zb→Prop} {st:zb}
theorem Zm (p:List Nat)(sz:Nat)(hp:st.at p=some (.sc (.slice none 0 0)))(h:jv P rs N V L x K ((st.kill (za.under p true)).setAt p (.own (some sz) []))):jv P rs N V L x K st:=
 yk (fun E tm R=>by
  obtain⟨u,hu,hr⟩:=R.at_ hp rfl
  cases hr
  have U:zS p E E:=⟨Nat.le_refl _,E.ids_refl,fun _ h _=>⟨h,rfl⟩,fun _ _ h _=>⟨h,rfl⟩⟩
  exact⟨E,R.turn (keep:=true) hp rfl (fun _=>⟨_,_,rfl⟩) U R.lim rfl hu (.ownNil _ sz),zB.refl E,rfl⟩) h
theorem zC (p:List Nat){sz:Option Nat}{cs:List za}(hp:st.at p=some (.own sz cs))(h:jv P rs N V L x K ((st.kill (za.under p false)).setAt p (za.own sz cs).freeze)):jv P rs N V L x K st:=
 yk (fun E tm R=>by
  obtain⟨u,hu,hr⟩:=R.at_ hp rfl
  have U:zS p E (E.freeze p):=jL p
  have hB:VRel (E.freeze p) (some p) (za.own sz cs).freeze u:=hr.frozen p _ fun ℓ e=>by cases e;exact List.prefix_refl _
  exact⟨_,R.turn (keep:=false) hp rfl (fun e=>by cases e) U (JW R.lim) rfl hu hB,Jf (Zz (zr hp)),rfl⟩) h
end
def yL (A' A:za):Prop:=∀E po v,VRel E po A' v→VRel E po A v
theorem yL.refl (A:za):yL A A:=fun _ _ _ h=>h
theorem yL.imm (sz:Nat):yL (.sc (.slice none 0 0)) (.imm sz []):=fun _ _ _ h=>by cases h;exact .immNil _ _ _
theorem yL.own (sz:Nat):yL (.sc (.slice none 0 0)) (.own (some sz) []):=fun _ _ _ h=>by cases h;exact .ownNil _ _
theorem yL.dead (A:za):yL A .dead:=fun _ _ v _=> .dead _ v
inductive JF :List za→List za→Prop
 |nil:JF [] []
 |cons {A' A:za} {l' l:List za} (h:yL A' A) (hl:JF l' l):JF (A'::l') (A::l)
theorem JF.get :∀{l' l:List za},JF l' l→l'.length=l.length∧∀(k:Nat) A,l[k]?=some A→∃A',l'[k]?=some A'∧yL A' A
 |_,_,.nil=>⟨rfl,fun k A h=>by simp at h⟩
 | _,_,.cons (A':=A') h hl=>by
   obtain⟨h1,h2⟩:=hl.get
   refine⟨by simp[h1],fun k A hA=>?_⟩
   cases k with
   |zero=>simp at hA;subst hA;exact⟨A',rfl,h⟩
   |succ k=>simp at hA;simpa using h2 k A hA
theorem JF.refl :∀l:List za,JF l l
 |[]=> .nil
 |A::l=> .cons (.refl A) (.refl l)
def jU (l:List (List Nat)):List za:=l.map fun xs=> .own (some 1) (Z4 xs)
def Jd (l:List (List Nat)):List za:=l.map fun xs=> .imm 1 (Z4 xs)
theorem vO (l:List (List Nat)):(jU l).length=l.length:=by simp[jU]
theorem vQ (l:List (List Nat)):(Jd l).length=l.length:=by simp[Jd]
theorem vM (l:List (List Nat))(k:Nat)(x:List Nat):(jU l).set k (.own (some 1) (Z4 x))=jU (l.set k x):=by simp[jU,List.map_set]
theorem QL :∀l:List (List Nat),za.freezeL (jU l)=Jd l
 |[]=>rfl
 | x::l=>by
   have ih:=QL l
   simp only[jU,Jd,List.map_cons,za.freezeL,za.freeze,yV] at ih⊢
   rw[ih]
theorem Jc :∀l:List (List Nat),za.plainL (Jd l)=true
 |[]=>rfl
 | x::l=>by
   have ih:=Jc l
   simp only[Jd,List.map_cons,za.plainL,za.plain,JV,Bool.true_and] at ih⊢
   exact ih
theorem QN :∀l:List (List Nat),za.cellOkL (Jd l)=true
 |[]=>rfl
 | x::l=>by
   have ih:=QN l
   simp only[Jd,List.map_cons,za.cellOkL,za.cellOk,Bool.true_and] at ih⊢
   exact ih
theorem QM :∀l:List (List Nat),za.cellOkL (jU l)=true
 |[]=>rfl
 | x::l=>by
   have ih:=QM l
   simp only[jU,List.map_cons,za.cellOkL,za.cellOk,Bool.true_and] at ih⊢
   exact ih
theorem Yx :∀l:List (List Nat),za.flatL (jU l)=true
 |[]=>rfl
 | x::l=>by
   have ih:=Yx l
   simp only[jU,List.map_cons,za.flatL,za.flat,Wi,Bool.true_and] at ih⊢
   exact ih
theorem Qn :∀l:List (List Nat),za.ids0L (jU l)=true
 |[]=>rfl
 | x::l=>by
   have ih:=Qn l
   simp only[jU,List.map_cons,za.ids0L,za.ids0,yr,Bool.true_and] at ih⊢
   exact ih
theorem qi (l:List (List Nat)):za.copyableL (Jd l)=true:=plain_copyableL _ (Jc l)
theorem W4 (l:List (List Nat)):za.freezeL (Jd l)=Jd l:=copyable_freezeL _ (qi l)
theorem Yy (l:List (List Nat)):za.ids0L (Jd l)=true:=plain_ids0L _ (Jc l)
theorem vP (g:Nat→Option Nat)(l:List (List Nat)):za.renL g (Jd l)=Jd l:=ids0_renL g _ (Yy l)
theorem vN (g:Nat→Option Nat)(l:List (List Nat)):za.renL g (jU l)=jU l:=ids0_renL g _ (Qn l)
theorem Wh (l:List Nat)(x:Nat):Z4 l++[.sc (.int .i64 (x:Int))]=Z4 (l++[x]):=by simp[Z4]
theorem PP (zs:List Value):zy zs 1=zs.map .sc++[]:=rfl
theorem PO (zs:List Value):zy zs 2=zs.map .sc++(zs.map .sc++[]):=rfl
theorem PN (zs:List Value):zy zs 3=zs.map .sc++(zs.map .sc++(zs.map .sc++[])):=rfl
attribute [go_sem] PP PO PN vO vQ vM QL Jc QN QM Yx Qn qi W4 Yy vP vN
end Go.Ga

namespace Go.Ga
open Go
section
variable {P:Program} {t:TypeId} {b:Nat}
def Wo (n:Int):Prop:= -9223372036854775808≤n∧n≤9223372036854775807
theorem WP {n:Int}(h:(Lit.int .i64 n).wf=true):Wo n:=by
 simp only[Lit.wf,decide_eq_true_eq,Bool.and_eq_true] at h
 have e1:IntKind.min .i64= -9223372036854775808:=by decide
 have e2:IntKind.max .i64=9223372036854775807:=by decide
 rw[e1,e2] at h
 exact h
theorem WW {k:IntKind}{cs:List za}(hu:P.underlying t=some (.int k))(h:Sh P t cs b):∃n,cs=[.sc (.int k n)]∧(Lit.int k n).wf=true∧b=1:=by
 cases h with
 |int _ k' n hu' hw=>rw[hu] at hu';cases hu';exact⟨n,rfl,hw,rfl⟩
 |bool _ _ h'=>rw[hu] at h';cases h'
 |string _ _ h'=>rw[hu] at h';cases h'
 |slice _ _ _ _ h'=>rw[hu] at h';cases h'
 |struct _ _ _ h'=>rw[hu] at h';cases h'
 |other _ _ _ h1=>exact absurd hu (h1 k)
theorem vE {cs:List za}(hu:P.underlying t=some .string)(h:Sh P t cs b):∃s,cs=[.sc (.string s)]∧s.size<b:=by
 cases h with
 |string _ s _=>exact⟨s,rfl,Nat.lt_succ_self _⟩
 |int _ _ _ h'=>rw[hu] at h';cases h'
 |bool _ _ h'=>rw[hu] at h';cases h'
 |slice _ _ _ _ h'=>rw[hu] at h';cases h'
 |struct _ _ _ h'=>rw[hu] at h';cases h'
 |other _ _ _ _ _ h3=>exact absurd hu h3
theorem kE {e:TypeId}{cs:List za}(hu:P.underlying t=some (.slice e))(h:Sh P t cs b):∃(L:List (List za×Nat)) (more:Nat),cs=[.imm (P.cellsOf e) (L.map (·.1)).flatten]∧b=1+(L.map (·.2)).sum+more∧∀x∈L,Sh P e x.1 x.2:=by
 cases h with
 |slice _ e' L more hu' hl hh=>rw[hu] at hu';cases hu';exact⟨L,more,rfl,rfl,hh⟩
 |int _ _ _ h'=>rw[hu] at h';cases h'
 |bool _ _ h'=>rw[hu] at h';cases h'
 |string _ _ h'=>rw[hu] at h';cases h'
 |struct _ _ _ h'=>rw[hu] at h';cases h'
 |other _ _ _ _ _ _ h4=>exact absurd hu (h4 e)
theorem vD {fs:Array Field}{cs:List za}(hu:P.underlying t=some (.struct fs))(h:Sh P t cs b):∃(L:List (List za×Nat)),cs=(L.map (·.1)).flatten∧b=1+(L.map (·.2)).sum∧L.length=fs.size∧∀(i:Nat) f x,fs[i]?=some f→L[i]?=some x→Sh P f.type x.1 x.2:=by
 cases h with
 |struct _ fs' L hu' hl hh=>rw[hu] at hu';cases hu';exact⟨L,rfl,rfl,hl,hh⟩
 |int _ _ _ h'=>rw[hu] at h';cases h'
 |bool _ _ h'=>rw[hu] at h';cases h'
 |string _ _ h'=>rw[hu] at h';cases h'
 |slice _ _ _ _ h'=>rw[hu] at h';cases h'
 |other _ _ _ _ _ _ _ h5=>exact absurd hu (h5 fs)
theorem x9 {α:Type}{f:α→List za}{R:α→Prop}:∀{L:List (List za×Nat)},(∀x∈L,∃y,x.1=f y∧R y∧1≤x.2)→∃ys:List α,(L.map (·.1)).flatten=zR f ys∧(∀y∈ys,R y)∧ys.length≤(L.map (·.2)).sum
 |[],_=>⟨[],rfl,fun y h=>(by cases h),Nat.le_refl _⟩
 | x::L,h=>by
   obtain⟨y,h1,h2,h3⟩:=h x (.head _)
   obtain⟨ys,g1,g2,g3⟩:=x9 (L:=L) fun z hz=>h z (.tail _ hz)
   refine⟨y::ys,by simp only[List.map_cons,List.flatten_cons,zR,h1,g1],fun z hz=>?_,by simp only[List.map_cons,List.sum_cons,List.length_cons];omega⟩
   cases hz with
   |head=>exact h2
   |tail _ hz=>exact g2 z hz
theorem Uj (xs:List Int):zR (fun n=>[za.sc (.int .i64 n)]) xs=ints xs:=by
 induction xs with
 |nil=>rfl
 |cons x xs ih=>simp only[zR,ih,ints,List.map_cons,List.singleton_append]
theorem gB {e:TypeId}{cs:List za}(hu:P.underlying t=some (.slice e))(he:P.underlying e=some (.int .i64))(hc:P.cellsOf e=1)(h:Sh P t cs b):∃xs:List Int,cs=[.imm 1 (ints xs)]∧(∀x∈xs,Wo x)∧xs.length<b:=by
 obtain⟨L,more,rfl,rfl,hL⟩:=kE hu h
 obtain⟨ys,h1,h2,h3⟩:=x9 (f:=fun n=>[za.sc (.int .i64 n)]) (R:=Wo) (L:=L) fun x hx=>by
  obtain⟨n,g1,g2,g3⟩:=WW he (hL x hx)
  exact⟨n,g1,WP g2,by omega⟩
 exact⟨ys,by rw[h1,hc,Uj],h2,by omega⟩
theorem pc {A:za}(hu:∀fs,P.underlying t≠some (.struct fs))(h:SA P t A b):Sh P t [A] b:=by
 rcases h with⟨⟨fs,h⟩,_⟩|⟨_,h⟩
 · exact absurd h (hu fs)
 · exact h
theorem vJ {A:za}{fs:Array Field}(hu:P.underlying t=some (.struct fs))(h:SA P t A b):∃cs,A= .agg cs∧Sh P t cs b:=by
 rcases h with⟨_,cs,h1,h2⟩|⟨h,_⟩
 · exact⟨cs,h1,h2⟩
 · exact absurd hu (h fs)
theorem xV {ts:List TypeId}{As:List za}(h:Gh P (t::ts) As b):∃A As' c d,As=A::As'∧b=c+d∧SA P t A c∧Gh P ts As' d:=by
 cases h with
 |cons _ A c _ As' d h hr=>exact⟨A,As',c,d,rfl,rfl,h,hr⟩
theorem gE {As:List za}(h:Gh P [] As b):As=[]:=by cases h;rfl
theorem vK {A:za}(hu:P.underlying t=some .string)(h:SA P t A b):∃s,A= .sc (.string s)∧s.size<b:=by
 obtain⟨n,h1,h2⟩:=vE hu (pc (fun fs h=>by rw[hu] at h;cases h) h)
 exact⟨n,by injection h1,h2⟩
end
end Go.Ga

namespace Go.Ga
open Go
end Go.Ga

namespace Go.Ga
open Go
def qb (vs:List (Nat×za)):List (Nat×za)→List (Nat×za)
 |[]=>vs
 |(i,A)::l=>qb (uN vs i A) l
theorem zz (vs:List (Nat×za)):qb vs []=vs:=rfl
theorem zq (vs:List (Nat×za))(i:Nat)(A:za)(l:List (Nat×za)):qb vs ((i,A)::l)=qb (uN vs i A) l:=rfl
theorem p9 {A B:Prop}(h:A→B)(a:A):B:=h a
theorem PC (x y a b:za):zO [x,y] 0 [a,b]=[a,b]:=rfl
theorem PB (x y z a b c:za):zO [x,y,z] 0 [a,b,c]=[a,b,c]:=rfl
theorem p8 (n:Nat):n*2 / 2=n:=by omega
theorem PF (n:Nat):n*3 / 3=n:=by omega
theorem Vq {k:Nat}(h:k<4611686018427387904):IntKind.i64.wrap ((k:Int)+1)=((k+1:Nat):Int):=by rw[IntWalk.i64_in _ (by omega)];omega
theorem PS {α:Type}(x:α)[Decidable (x≠x)]:decide (x≠x)=false:=decide_eq_false (fun h=>h rfl)
theorem PU {α:Type}(x:α)[Decidable (x=x)]:decide (x=x)=true:=decide_eq_true rfl
theorem gW (a b c d:Int):qu [.sc (.int .i64 a),.sc (.int .i64 b)] [.sc (.int .i64 c),.sc (.int .i64 d)]=some (decide ((a,b)=(c,d))):=by
 simp[qu]
attribute [go_sem] Int.toNat_zero Int.toNat_one Nat.div_one Int.cast_ofNat_Int decide_true decide_false bne_self_eq_false Bool.not_false Bool.not_true Nat.zero_le or_self true_or or_true List.length_set List.length_range Jl gW Option.bind_some wE PC PB p8 PF xF xI PS PU zz zq
theorem JF.own {sz:Nat}{l' l:List za}(h:JF l' l):yL (.own (some sz) l') (.own (some sz) l):=fun E po v hv=>by
 obtain⟨h1,h2⟩:=h.get
 cases hv with
 | own ℓ _ _ b o len cap arr T f hO hb hl hc hm ha hf hh=>
   refine .own ℓ sz l b o len cap arr T f hO hb (by rw[←h1];exact hl) hc hm ha (fun k A hA=>?_) fun k A hA=>?_
   · obtain⟨A',hA',_⟩:=h2 k A hA;exact hf k A' hA'
   · obtain⟨A',hA',hs⟩:=h2 k A hA;exact hs _ _ _ (hh k A' hA')
 | ownNil=>
   cases l with
   |nil=>exact .ownNil _ _
   |cons=>simp at h1
theorem JF.imm {sz:Nat}{l' l:List za}(h:JF l' l):yL (.imm sz l') (.imm sz l):=fun E po v hv=>by
 obtain⟨h1,h2⟩:=h.get
 cases hv with
 | imm _ _ _ b o len cap f hO hb hl hc hf hh=>
   refine .imm po sz l b o len cap f hO hb (by rw[←h1];exact hl) hc (fun k A hA=>?_) fun k A hA=>?_
   · obtain⟨A',hA',_⟩:=h2 k A hA;exact hf k A' hA'
   · obtain⟨A',hA',hs⟩:=h2 k A hA;exact hs _ _ _ (hh k A' hA')
 | immNil=>
   cases l with
   |nil=>exact .immNil _ _ _
   |cons=>simp at h1
theorem JF.agg {l' l:List za}(h:JF l' l):yL (.agg l') (.agg l):=fun E po v hv=>by
 obtain⟨h1,h2⟩:=h.get
 cases hv with
 | agg _ _ vs hs hh=>
   refine .agg po l vs (by rw[←h1];exact hs) fun k A v hA hv=>?_
   obtain⟨A',hA',hs'⟩:=h2 k A hA
   exact hs' _ _ _ (hh k A' v hA' hv)
section
variable {P:Program} {rs:List Nat} {N:Nat} {V:List Nat} {L:List (List Nat)} {x:zT} {K:ZO→zb→Prop} {st:zb}
end
def jK (xs:List Bool):List za:=xs.map fun b=> .sc (.bool b)
theorem V9 (xs:List Bool):(jK xs).length=xs.length:=by simp[jK]
theorem V7 (xs:List Bool)(k:Nat)(b:Bool):(jK xs).set k (.sc (.bool b))=jK (xs.set k b):=by
 simp[jK,List.map_set]
theorem qC (xs:List Bool):za.plainL (jK xs)=true:=(jt _ xs).1
theorem UG (xs:List Bool):za.flatL (jK xs)=true:=(jt _ xs).2
theorem ya :∀xs:List Bool,za.cellOkL (jK xs)=true
 |[]=>rfl
 |b::l=>by show(_&&za.cellOkL (jK l))=true;rw[ya l];rfl
theorem qD (xs:List Bool):za.copyableL (jK xs)=true:=plain_copyableL _ (qC xs)
theorem xu (xs:List Bool):za.freezeL (jK xs)=jK xs:=copyable_freezeL _ (qD xs)
theorem wu (xs:List Bool):za.ids0L (jK xs)=true:=plain_ids0L _ (qC xs)
theorem V8 (g:Nat→Option Nat)(xs:List Bool):za.renL g (jK xs)=jK xs:=ids0_renL g _ (wu xs)
theorem UF (n:Nat):zy [.bool false] n=jK (List.replicate n false):=by
 simp only[zy,List.map]
 induction n with
 |zero=>rfl
 |succ n ih=>simp only[List.replicate_succ,List.flatten_cons,ih];rfl
attribute [go_sem] V9 V7 qC UG ya qD xu wu V8 UF
section
variable {P:Program} {rs:List Nat} {N:Nat} {V:List Nat} {L:List (List Nat)} {K:ZO→zb→Prop} {x:zT}
theorem Qg {vs:List (Nat×za)}{h0:Heap}{α:Type}(J:List Nat)(f:α→List (Nat×za))(g:α→Heap)(inv:α→Nat→Prop)(a0:α)(n0:Nat)(hJ:(J.all fun i=>V.contains i)=true)
    (hs:zb.forget ⟨vs,[],h0⟩ J=⟨qb vs (J.map (fun i=>(i,za.dead))++f a0),[],g a0⟩) (hi:inv a0 n0)
    (h:∀a n,inv a n→∀X:ZO→zb→Prop,(∀s a' m,m<n→s.forget J=⟨qb vs (J.map (fun i=>(i,za.dead))++f a'),[],g a'⟩→inv a' m→X .normal s)→(∀i s,K (.exit i) s→X (.exit i) s)→(∀s,K .ret s→X .ret s)→
      jv P rs N V L x X ⟨qb vs (J.map (fun i=>(i,za.dead))++f a),[],g a⟩):jv P rs N V L (.loop x) K ⟨vs,[],h0⟩:=by
  refine xA (fun n s=>∃a,inv a n∧s.forget J=⟨qb vs (J.map (fun i=>(i,za.dead))++f a),[],g a⟩) n0 ⟨a0,hi,hs⟩ ?_
  rintro n s ⟨a,ha,hst⟩ X hn he hr
  refine Yv J hJ ?_
  rw[hst]
  exact h a n ha X (fun s a' m hm hs' hi'=>hn m s hm ⟨a',hi',hs'⟩) he hr
end
end Go.Ga

namespace Go.Ga
open Go
section
variable {P:Program} {t:TypeId} {b:Nat}
end
end Go.Ga

namespace Go.Ga
open Go
section
variable {L:List (List Nat)} {E:Env} {N:Nat} {V:List Nat} {st:zb} {a:Act} {tm:Array Value}
end
section
variable {P:Program} {rs:List Nat} {N:Nat} {V:List Nat} {L:List (List Nat)} {x:zT} {K:ZO→zb→Prop} {st:zb}
end
end Go.Ga
attribute [go_sem] reduceIte Nat.reduceEqDiff Nat.reduceBEq reduceCtorEq Nat.reduceLT Nat.reduceLeDiff Nat.reduceAdd Nat.reduceSub Nat.reduceMul Nat.reduceDiv Int.reduceAdd Int.reduceNeg Int.reduceEq Int.reduceLT Int.reduceLE

namespace Go.Ga
open Go
end Go.Ga

namespace Go.Ga
open Go
theorem Jt {P:Program}{rs V:List Nat}{N:Nat}{L:List (List Nat)}{x y:zT}{K:ZO→zb→Prop}{st:zb}{c:zp}(h1:jv P rs N V L x K st)(hc:st.ev c= .sc (.bool true):=by first|rfl|(simp only[go_sem];try simp(disch:=omega) only[decide_eq_true,decide_eq_false])):jv P rs N V L (.cond c x y) K st:=yg hc h1
theorem qG {P:Program}{rs V:List Nat}{N:Nat}{L:List (List Nat)}{x y:zT}{K:ZO→zb→Prop}{st:zb}{c:zp}(h1:jv P rs N V L y K st)(hc:st.ev c= .sc (.bool false):=by first|rfl|(simp only[go_sem];try simp(disch:=omega) only[decide_eq_true,decide_eq_false])):jv P rs N V L (.cond c x y) K st:=yh hc h1
def xy (P:Program)(nt k:Nat)(rs V:List Nat)(rss:List QA)(ac:zT)(f:Nat):Prop:=∀{L:List (List Nat)} {args:List za} {h:Heap} {Q:za→Heap→Prop},args.length=k→jv P rs nt V L ac (UA L rss Q) (Wt V args h)→zD P L f args h Q
theorem Xp {P:Program}(hmix:P.follows .mixedOrders=true){f:Nat}{fn:Func}{k:Nat}{rs V:List Nat}{ac:zT}{rss:List QA}(hf:P.funcs[f]?=some fn)(hs:uX P rs V fn=some (ac,rss))(hk:Nat.ble k fn.ntmps=true):xy P fn.ntmps k rs V rss ac f:=
 fun hl H=>Yd hmix hf hs (by rw[hl];exact Nat.le_of_ble_eq_true hk) H
def oM (a b:Nat):zk:=(none,.r (.mov a (.t b)))
def oS (a b:Nat):zk:=(none,.asg a (.t b) true)
def oI (a:Nat)(k:Int):zk:=(none,.asg a (.c (.int .i64 k)) true)
def oZ (a:Nat):zk:=(none,.asg a (.c (.slice none 0 0)) true)
def oO (a:Nat):zk:=(none,.asg a (.c (.bool false)) true)
def oL (a b k:Nat):zk:=(none,.r (.ld a (.t b) k false))
def oT (a b k:Nat):zk:=(none,.r (.ld a (.t b) k true))
def oF (a b k:Nat):zk:=(none,.r (.fldA a (.t b) k))
def oX (a b c k:Nat):zk:=(none,.r (.idxA a (.t b) (.t c) k))
def oN (a b:Nat):zk:=(none,.r (.nilck a (.t b)))
def oE (a b:Nat):zk:=(none,.r (.len a (.t b)))
def oB (a:Nat)(op:BinOp)(b:Nat)(k:Int):zk:=(none,.r (.bin a op 0 (.t b) (.c (.int .i64 k))))
def oD (a:Nat)(op:BinOp)(b c:Nat):zk:=(none,.r (.bin a op 0 (.t b) (.t c)))
def oC (a f x:Nat):zk:=(none,.call a (.f f) [(.t x,false)])
def Kf (a f x y:Nat):zk:=(none,.call a (.f f) [(.t x,false),(.t y,false)])
def PR (a f x y z:Nat):zk:=(none,.call a (.f f) [(.t x,false),(.t y,false),(.t z,false)])
def oP (a b c:Nat):zk:=(none,.r (.pick a (.t b) (.t c) (.c (.bool false))))
def oQ (a b c:Nat):zk:=(none,.r (.pick a (.t b) (.c (.bool true)) (.t c)))
def oW (a b k:Nat):zk:=(none,.st (.t a) (.t b) k)
def oY (a b k:Nat):zk:=(none,.r (.ext a (.t b) k))
def oK (g:Nat)(s:Bool)(a b:Nat):zk:=(some (g,s),.r (.mov a (.t b)))
def QB (g:Nat)(s:Bool)(a b k:Nat):zk:=(some (g,s),.r (.ld a (.t b) k false))
def yU (g:Nat)(s:Bool)(a:Nat)(op:BinOp)(b:Nat)(k:Int):zk:=(some (g,s),.r (.bin a op 0 (.t b) (.c (.int .i64 k))))
def kf (g:Nat)(s:Bool)(a:Nat)(op:BinOp)(b c:Nat):zk:=(some (g,s),.r (.bin a op 0 (.t b) (.t c)))
attribute [go_sem] oM oS oI oZ oO oL oT oF oX oN oE oB oD oC Kf PR oP oQ oW oY oK QB yU kf
end Go.Ga

namespace Go.Ga
open Go
theorem WZ {E:Env}{po:Option (List Nat)}{u v:Value}(h:VRel E po (.sc u) v):u=v:=by
 generalize hA:za.sc u=A at h
 cases h<;>cases hA
 rfl
theorem yZ {P:Program}{L:List (List Nat)}{f:Nat}(hc:j4 P f=true){us:List Value}{v:Value}(H:∀w,Calls P f us.toArray w fun e w'=>e= .returned v∧w'=w):
    zD P L f (us.map .sc) [] fun r h'=>r= .sc v∧h'=[]:=by
  refine⟨hc,fun E vs hT hH hs hv=>?_⟩
  have e:vs=us.toArray:=by
    apply Array.ext
    · simpa using hs
    · intro i h1 h2
      have h3:i<us.length:=by simpa using h2
      have:=hv i (.sc us[i]) vs[i] (by simp[h3]) (by simp[h1])
      rw[←WZ this];simp
  subst e
  refine(H E.w).mono fun e w' ⟨h1,h2⟩=>?_
  subst h1 h2
  exact⟨v,.sc v,[],E,rfl,rfl,hH,.sc _ _,zB.refl E,rfl,rfl⟩
end Go.Ga

namespace Go.Ga
open Go
section
variable {P:Program} {t:TypeId} {b:Nat}
end
end Go.Ga

namespace Go.Ga
open Go Go.RowKit
theorem WM {P:Program}{L:List (List Nat)}{E:Env}(hH:wG E []){Q:za→Heap→Prop}{v:Value}{w':World}(hb:Below E.w.heap.size E.w w')(hq:Q (.sc v) []):
    ∃u r h' E',Ending.returned v= .returned u∧E'.w=w'∧wG E' h'∧VRel E' (some [3]) r u∧zB L E E'∧Q r h':=
  ⟨v,.sc v,[],{E with w:=w'},rfl,rfl,⟨hH.num,fun b q h=>Nat.lt_of_lt_of_le (hH.lim b q h) hb.size,fun id cs h=>by simp at h⟩,.sc _ _,
    ⟨hb.size,hb.os,hb.tape,hb.output,fun b h1 h2=>⟨h1,hb.block b h2⟩,fun b r h=>⟨h,hb.block b (hH.lim b _ h)⟩,fun _ _ h=>h,E.ids_refl,fun b r _ h h2=>⟨.inl h,hb.block b h2⟩⟩,hq⟩
theorem xx {P:Program}{L:List (List Nat)}{f:Nat}(hc:j4 P f=true){us:List Value}{v:Value}
    (H : ∀ w, (∀ g, P.globalNamed "internal/strconv.uint64pow10" = some g → w.var? P "internal/strconv.uint64pow10" = some G3) → Calls P f us.toArray w fun e w' => e = .returned v ∧ Below w.heap.size w w') :
    zD P L f (us.map .sc) [] fun r h'=>r= .sc v∧h'=[]:=by
  refine⟨hc,fun E vs hT hH hs hv=>?_⟩
  have e:vs=us.toArray:=by
    apply Array.ext
    · simpa using hs
    · intro i h1 h2
      have h3:i<us.length:=by simpa using h2
      have:=hv i (.sc us[i]) vs[i] (by simp[h3]) (by simp[h1])
      rw[←WZ this];simp
  subst e
  refine(H E.w fun g hg=>(hT g hg).2.2).mono fun e w' ⟨h1,h2⟩=>?_
  subst h1
  exact WM (P:=P) hH h2 ⟨rfl,rfl⟩
theorem xw {P:Program}{L:List (List Nat)}{f:Nat}(hc:j4 P f=true){x:ByteArray}{xs:List ByteArray}{c v:Value}
    (H:∀bk o cap w,bk<w.heap.size→(x::xs).length≤cap→(∀j y,(x::xs)[j]?=some y→w.cell? ⟨bk,o+j,none⟩=some (.string y))→Calls P f #[.slice (some ⟨bk,o,none⟩) (x::xs).length cap,c] w fun e w'=>e= .returned v∧Below w.heap.size w w'):
    zD P L f [.imm 1 ((x::xs).map fun s=> .sc (.string s)),.sc c] [] fun r h'=>r= .sc v∧h'=[]:=by
  refine⟨hc,fun E vs hT hH hs hv=>?_⟩
  have s2:vs.size=2:=hs
  obtain⟨u,z,rfl⟩:∃u z,vs= #[u,z]:=⟨vs[0],vs[1],by
    apply Array.ext
    · simpa using s2
    · intro i h1 h2
      rcases(show i=0∨i=1 by simp at h2;omega) with rfl|rfl<;>rfl⟩
  obtain rfl:=WZ (hv 1 (.sc c) z rfl rfl)
  have hu:=hv 0 _ u rfl rfl
  generalize hA:za.imm 1 ((x::xs).map fun s=> .sc (.string s))=A at hu
  cases hu with
  | imm _ _ cs b o len cap g hO hb hl hc2 hf hvv=>
    cases hA
    have hll:len=(x::xs).length:=by have:=hl.2;rw[List.length_map] at this;omega
    subst hll
    refine(H b o cap E.w hb hc2 fun j y hy=>?_).mono fun e w' h=>?_
    · have hb2:((x::xs).map fun s=>za.sc (.string s))[j]?=some (.sc (.string y)):=by rw[List.getElem?_map,hy];rfl
      rw[hf j _ hb2,←WZ (hvv j _ hb2)]
    · obtain⟨h1,h2⟩:=h
      subst h1
      exact WM (P:=P) hH h2 ⟨rfl,rfl⟩
  |immNil _ _ a=>cases hA
  |_=>cases hA
end Go.Ga

namespace Go.Ga
open Go
section
variable {P:Program} {t:TypeId} {b:Nat}
theorem gA {fs:Array Field}{t1 t2 t3 t4:TypeId}{cs:List za}(hu:P.underlying t=some (.struct fs))(hf:fs.toList.map (·.type)=[t1,t2,t3,t4])(h:Sh P t cs b):
    ∃c1 b1 c2 b2 c3 b3 c4 b4,cs=c1++c2++c3++c4∧b1≤b∧b2≤b∧b3≤b∧b4≤b∧Sh P t1 c1 b1∧Sh P t2 c2 b2∧Sh P t3 c3 b3∧Sh P t4 c4 b4:=by
  obtain⟨L,rfl,rfl,hl,hh⟩:=vD hu h
  have hfl:∀i T,[t1,t2,t3,t4][i]?=some T→∃f:Field,fs[i]?=some f∧f.type=T:=fun i T hT=>by
    rw[←hf,List.getElem?_map] at hT
    obtain⟨f,g1,g2⟩:=Option.map_eq_some_iff.1 hT
    exact⟨f,by simpa using g1,g2⟩
  have hsz:fs.size=4:=by have:=congrArg List.length hf;simpa using this
  match L,hl with
  | [x,y,z,u],_=>
    obtain⟨f1,a1,a2⟩:=hfl 0 t1 rfl
    obtain⟨f2,b1,b2⟩:=hfl 1 t2 rfl
    obtain⟨f3,e1,e2⟩:=hfl 2 t3 rfl
    obtain⟨f4,g1,g2⟩:=hfl 3 t4 rfl
    exact⟨x.1,x.2,y.1,y.2,z.1,z.2,u.1,u.2,by simp,by simp;omega,by simp;omega,by simp;omega,by simp;omega,a2▸hh 0 f1 x a1 rfl,b2▸hh 1 f2 y b1 rfl,e2▸hh 2 f3 z e1 rfl,g2▸hh 3 f4 u g1 rfl⟩
  |[],hl=>simp at hl;omega
  |[_],hl=>simp at hl;omega
  |[_,_],hl=>simp at hl;omega
  |[_,_,_],hl=>simp at hl;omega
  |_::_::_::_::_::_,hl=>simp at hl;omega
theorem u9 {fs:Array Field}{t1 t2 e:TypeId}{A:za}(hu:P.underlying t=some (.struct fs))(hf:fs.toList.map (·.type)=[t1,t1,t1,t2])(h1:P.underlying t1=some (.int .i64))(h2:P.underlying t2=some (.slice e))(he:P.underlying e=some (.int .i64))(hc:P.cellsOf e=1)(h:SA P t A b):
    ∃(k n m:Int) (xs:List Int),A= .agg [.sc (.int .i64 k),.sc (.int .i64 n),.sc (.int .i64 m),.imm 1 (ints xs)]∧Wo k∧Wo n∧Wo m∧xs.length<b:=by
  obtain⟨cs,rfl,h0⟩:=vJ hu h
  obtain⟨c1,b1,c2,b2,c3,b3,c4,b4,rfl,l1,l2,l3,l4,s1,s2,s3,s4⟩:=gA hu hf h0
  obtain⟨k,rfl,w1,_⟩:=WW h1 s1
  obtain⟨n,rfl,w2,_⟩:=WW h1 s2
  obtain⟨m,rfl,w3,_⟩:=WW h1 s3
  obtain⟨xs,rfl,_,w4⟩:=gB h2 he hc s4
  exact⟨k,n,m,xs,rfl,WP w1,WP w2,WP w3,by omega⟩
theorem Uq {W : World} (h : ∀ g, P.globalNamed "internal/strconv.uint64pow10" = some g → W.var? P "internal/strconv.uint64pow10" = some G3) : Ja P (Env.plain W) := fun g hg => by
 have h1:=h g hg
 refine⟨rfl,?_,h1⟩
 unfold World.var? at h1
 rw[hg,Option.bind_some] at h1
 cases he:W.heap[g]? with
 |none=>rw[he] at h1;cases h1
 |some o=>exact(Array.getElem?_eq_some_iff.1 he).1
end
end Go.Ga
