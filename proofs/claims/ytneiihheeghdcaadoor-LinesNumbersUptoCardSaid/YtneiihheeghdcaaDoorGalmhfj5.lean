/- Values, objects, and code by what it leads to: a library of this claim's own. No condition. -/
import Derived.Test.YtneiihheeghdcaaDoorGalmhfj4
import Derived.Sort.Grow
set_option linter.all false

namespace Go.Ga
open Go
def Z4 (xs:List Nat):List za:=xs.map fun(n:Nat)=> .sc (.int .i64 (n:Int))
def Qr (xs:List Int):List za:=xs.map fun n=> .sc (.int .i64 n)
theorem J5 (xs:List Nat):(Z4 xs).length=xs.length:=by simp[Z4]
theorem VA (xs:List Int):(Qr xs).length=xs.length:=by simp[Qr]
theorem W5 {xs:List Nat}{k:Nat}(h:k<xs.length):(Z4 xs)[k]?=some (.sc (.int .i64 ((xs.getD k 0:Nat):Int))):=by
 simp[Z4,List.getElem?_map,List.getElem?_eq_getElem h,h]
theorem Vp (xs:List Nat)(k n:Nat):(Z4 xs).set k (.sc (.int .i64 (n:Int)))=Z4 (xs.set k n):=by
 simp[Z4,List.map_set]
theorem Vy (xs:List Int)(k:Nat)(n:Int):(Qr xs).set k (.sc (.int .i64 n))=Qr (xs.set k n):=by
 simp[Qr,List.map_set]
mutual
def za.plain :za→Bool
 | .sc _=>true
 | .agg cs=>za.plainL cs
 | .imm _ cs=>za.plainL cs
 | .ia cs=>za.plainL cs
 | .tup cs=>za.plainL cs
 | .fn _ as bs=>za.plainL as&&za.plainL bs
 | .iface _ A=>A.plain
 |_=>false
def za.plainL :List za→Bool
 |[]=>true
 |A::l=>A.plain&&za.plainL l
end
mutual
theorem yZ :∀A:za,A.plain=true→A.copyable=true
 | .sc _,_=>rfl
 | .agg cs,h=>by simp only[za.copyable];exact plain_copyableL cs h
 | .imm _ _,_=>rfl
 | .ia _,_=>rfl
 | .tup cs,h=>by simp only[za.copyable];exact plain_copyableL cs h
 | .fn _ _ _,_=>rfl
 | .iface _ _,_=>rfl
 | .own _ _,h=>by cases h
 | .sl _ _ _ _,h=>by cases h
 | .ptr _ _,h=>by cases h
 | .at_ _,h=>by cases h
 | .addr _ _,h=>by cases h
 | .dead,h=>by cases h
theorem plain_copyableL :∀l:List za,za.plainL l=true→za.copyableL l=true
 |[],_=>rfl
 | A::l,h=>by
   simp only[za.plainL,Bool.and_eq_true] at h
   simp only[za.copyableL,yZ A h.1,plain_copyableL l h.2,Bool.and_self]
end
mutual
theorem yY :∀A:za,A.plain=true→A.ids0=true
 | .sc _,_=>rfl
 | .agg cs,h=>by simp only[za.ids0];exact plain_ids0L cs h
 | .imm _ cs,h=>by simp only[za.ids0];exact plain_ids0L cs h
 | .ia cs,h=>by simp only[za.ids0];exact plain_ids0L cs h
 | .tup cs,h=>by simp only[za.ids0];exact plain_ids0L cs h
 | .fn _ as bs,h=>by
   simp only[za.plain,Bool.and_eq_true] at h
   simp only[za.ids0,plain_ids0L as h.1,plain_ids0L bs h.2,Bool.and_self]
 | .iface _ A,h=>by simp only[za.ids0];exact yY A h
 | .own _ _,h=>by cases h
 | .sl _ _ _ _,h=>by cases h
 | .ptr _ _,h=>by cases h
 | .at_ _,h=>by cases h
 | .addr _ _,h=>by cases h
 | .dead,h=>by cases h
theorem plain_ids0L :∀l:List za,za.plainL l=true→za.ids0L l=true
 |[],_=>rfl
 | A::l,h=>by
   simp only[za.plainL,Bool.and_eq_true] at h
   simp only[za.ids0L,yY A h.1,plain_ids0L l h.2,Bool.and_self]
end
theorem jR {α:Type}(f:α→Value)(xs:List α):za.plainL (xs.map fun x=> .sc (f x))=true∧za.flatL (xs.map fun x=> .sc (f x))=true:=by
 induction xs with
 |nil=>exact⟨rfl,rfl⟩
 |cons x xs ih=>simp only[List.map_cons,za.plainL,za.plain,za.flatL,za.flat,ih,Bool.and_self,and_self]
theorem JC (xs:List Nat):za.plainL (Z4 xs)=true:=(jR _ xs).1
theorem wy (xs:List Nat):za.flatL (Z4 xs)=true:=(jR _ xs).2
theorem q3 (xs:List Int):za.plainL (Qr xs)=true:=(jR _ xs).1
theorem Uz (xs:List Int):za.flatL (Qr xs)=true:=(jR _ xs).2
theorem W6 (xs:List Nat):za.cellOkL (Z4 xs)=true:=by
 induction xs with
 |nil=>rfl
 |cons x xs ih=>exact(Bool.and_eq_true _ _).mpr ⟨rfl,ih⟩
theorem xh (xs:List Int):za.cellOkL (Qr xs)=true:=by
 induction xs with
 |nil=>rfl
 |cons x xs ih=>exact(Bool.and_eq_true _ _).mpr ⟨rfl,ih⟩
theorem qI (xs:List Nat):za.copyableL (Z4 xs)=true:=plain_copyableL _ (JC xs)
theorem qJ (xs:List Int):za.copyableL (Qr xs)=true:=plain_copyableL _ (q3 xs)
theorem yk (xs:List Nat):za.freezeL (Z4 xs)=Z4 xs:=copyable_freezeL _ (qI xs)
theorem xg (xs:List Int):za.freezeL (Qr xs)=Qr xs:=copyable_freezeL _ (qJ xs)
theorem QT (xs:List Nat):za.ids0L (Z4 xs)=true:=plain_ids0L _ (JC xs)
theorem wD (xs:List Int):za.ids0L (Qr xs)=true:=plain_ids0L _ (q3 xs)
theorem Vq (g:Nat→Option Nat)(xs:List Nat):za.renL g (Z4 xs)=Z4 xs:=ids0_renL g _ (QT xs)
theorem Vz (g:Nat→Option Nat)(xs:List Int):za.renL g (Qr xs)=Qr xs:=ids0_renL g _ (wD xs)
section
variable {P:Program} {rs:List Nat} {N:Nat} {V V1 V2:List Nat} {L:List (List Nat)} {x y:zW} {K:ZA→zb→Prop} {st:zb} {gs:List zt} {t:ZQ} {i j d:Nat}
theorem Z6 (h:∀Y:zb→Prop,(∀s,K .normal (s.settle V2)→Y s)→qA P L Y gs (st.settle V1)):ju P rs N V L (.reg V1 gs V2) K st:=ut (h _ fun _ h=>h)
theorem zc (h:∀Y:zb→Prop,(∀s,ju P rs N V L y K (s.settle V2)→Y s)→qA P L Y gs (st.settle V1)):ju P rs N V L (.seq (.reg V1 gs V2) y) K st:=w5 (ut (h _ fun _ h=>h))
theorem ZY (h:∀Y:zb→Prop,(∀s,ju P rs N V L y K (s.settle V2)→Y s)→ZG P Y t [([],L)] (st.settle V1)):ju P rs N V L (.seq (.draw V1 t V2) y) K st:=w5 (vO (h _ fun _ h=>h))
theorem zi (h:∀X:ZA→zb→Prop,(∀s,ju P rs N V L y K s→X .normal s)→(∀i s,K (.exit i) s→X (.exit i) s)→(∀s,K .ret s→X .ret s)→ju P rs N V L x X st):ju P rs N V L (.seq x y) K st:=
 w5 (h _ (fun _ h=>h) (fun _ _ h=>h) fun _ h=>h)
theorem Zn (h:∀X:ZA→zb→Prop,(∀s,K .normal s→X .normal s)→(∀s,K .normal s→X (.exit i) s)→(∀j s,j≠i→K (.exit j) s→X (.exit j) s)→(∀s,K .ret s→X .ret s)→ju P rs N V L x X st):ju P rs N V L (.blk i x) K st:=
 kK (h _ (fun _ h=>h) (fun _ h=>(if_pos rfl).mpr h) (fun j _ hj h=>(if_neg hj).mpr h) fun _ h=>h)
theorem vr (I:Nat→zb→Prop)(n:Nat)(h0:I n st)(h:∀n s,I n s→∀X:ZA→zb→Prop,(∀m s,m<n→I m s→X .normal s)→(∀i s,K (.exit i) s→X (.exit i) s)→(∀s,K .ret s→X .ret s)→ju P rs N V L x X s):ju P rs N V L (.loop x) K st:=
 vM I n h0 fun n s hI=>h n s hI _ (fun m _ hm h=>⟨m,hm,h⟩) (fun _ _ h=>h) fun _ h=>h
theorem zw (h:K .ret st):ju P rs N V L .ret K st:=kJ h
theorem Jc (h:K (.exit i) st):ju P rs N V L (.exit i) K st:=vN h
theorem zA (h:K .normal st):ju P rs N V L .skip K st:=vL h
theorem uN {c:zm}(hc:st.ev c= .sc (.bool true))(h1:ju P rs N V L x K st):ju P rs N V L (.cond c x y) K st:=WT hc (fun _=>h1) fun h=>by cases h
theorem uO {c:zm}(hc:st.ev c= .sc (.bool false))(h1:ju P rs N V L y K st):ju P rs N V L (.cond c x y) K st:=WT hc (fun h=>by cases h) fun _=>h1
theorem V5 {K:zb→Prop}:qA P L K [] st=K st:=rfl
theorem qw {K:zb→Prop}{g:zt}{rest:List zt}:qA P L K (g::rest) st=zZ P L (qA P L K rest) st g:=rfl
theorem Yn {K:zb→Prop}{b:Zx}:zZ P L K st (none,b)=(b.quiet L st=true∧Z3 P L K st b):=rfl
theorem wF {K:zb→Prop}{t:Nat}{want:Bool}{b:Zx}(h:st.get t= .sc (.bool want)):zZ P L K st (some (t,want),b)=(b.quiet L st=true∧Z3 P L K st b):=by
 have h1:want≠(!want):=by cases want<;>decide
 simp[zZ,h,h1]
theorem Yo {K:zb→Prop}{t d:Nat}{want:Bool}{b:Zx}(h:st.get t= .sc (.bool (!want)))(hd:b.dst=some d):zZ P L K st (some (t,want),b)=K (st.putT d (.sc (.tuple #[]))):=by
 have h1:(!want)≠want:=by cases want<;>decide
 simp[zZ,h,h1,hd]
theorem yl {K:zb→Prop}{t d:Nat}{want:Bool}{b:Zx}(h:st.get t= .sc (.tuple #[]))(hd:b.dst=some d):zZ P L K st (some (t,want),b)=K (st.putT d (.sc (.tuple #[]))):=by
 simp[zZ,h,hd]
theorem qU {b:Zx}:(b.quiet [] st=true)=True:=by rw[Ul];exact eq_self true
theorem Ut (j:Nat)(A:za)(l:List (Nat×za))(i:Nat):zI ((j,A)::l) i=if i=j then some A else zI l i:=rfl
theorem Vu (i:Nat):zI [] i=none:=rfl
theorem vu (j:Nat)(A B:za)(l:List (Nat×za))(i:Nat):Xi ((j,A)::l) i B=if i=j then(j,B)::l else(j,A)::Xi l i B:=rfl
theorem gi (vs ts:List (Nat×za))(h:Heap)(i:Nat):zb.get ⟨vs,ts,h⟩ i=ZK (zI ts i) (zI vs i):=rfl
theorem XR (A:za)(x:Option za):ZK (some A) x=A:=rfl
theorem XS (A:za):ZK none (some A)=A:=rfl
theorem Vv :ZK none none= .dead:=rfl
theorem Gk (st:zb)(i:Nat):st.ev (.t i)=st.get i:=rfl
theorem Gn (st:zb)(v:Value):st.ev (.c v)= .sc v:=rfl
theorem Gm (st:zb)(g:Nat):st.ev (.f g)= .fn (.func g) [] []:=rfl
theorem gT (st:zb)(i:Nat):st.evA (.t i)=(st.get i).here i:=rfl
theorem gU (st:zb)(v:Value):st.evA (.c v)= .sc v:=rfl
theorem gS (st:zb)(v:Value):st.evU (.c v)= .sc v:=rfl
theorem gR (st:zb)(g:Nat):st.evU (.f g)= .fn (.func g) [] []:=rfl
theorem u3 (vs ts:List (Nat×za))(h:Heap)(V:List Nat):zb.settle ⟨vs,ts,h⟩ V=⟨V.map fun i=>(i,(ZK (zI ts i) (zI vs i)).cut V),[],h⟩:=rfl
theorem kN (vs ts:List (Nat×za))(h:Heap)(d:Nat)(A:za):zb.putT ⟨vs,ts,h⟩ d A=⟨vs,(d,A)::ts,h⟩:=rfl
theorem kS (vs ts:List (Nat×za))(h:Heap)(f:za→Bool):zb.kill ⟨vs,ts,h⟩ f=⟨j0 f vs,j0 f ts,h⟩:=rfl
theorem XU (f:za→Bool)(j:Nat)(A:za)(l:List (Nat×za)):j0 f ((j,A)::l)=(j,bif f A then .dead else A)::j0 f l:=rfl
theorem Ux (f:za→Bool):j0 f []=[]:=rfl
def ur (vs ts:List (Nat×za))(h:Heap)(i:Nat)(A:za):Option za→zb
 |some _=>⟨vs,Xi ts i A,h⟩
 |none=>⟨Xi vs i A,ts,h⟩
theorem KP (vs ts:List (Nat×za))(h:Heap)(i:Nat)(A:za):zb.set ⟨vs,ts,h⟩ i A=ur vs ts h i A (zI ts i):=by
 unfold zb.set ur
 cases zI ts i<;>rfl
theorem Xz (vs ts:List (Nat×za))(h:Heap)(i:Nat)(A B:za):ur vs ts h i A (some B)=⟨vs,Xi ts i A,h⟩:=rfl
theorem XA (vs ts:List (Nat×za))(h:Heap)(i:Nat)(A:za):ur vs ts h i A none=⟨Xi vs i A,ts,h⟩:=rfl
def uC (i:Nat)(A:za):Option za→za
 |some B=>B
 | none=>match A with
   | .agg cs=>bif za.copyableL cs then .agg cs else .at_ [0,i]
   |A=>A.here i
theorem gQ (vs ts:List (Nat×za))(h:Heap)(i:Nat):zb.evU ⟨vs,ts,h⟩ (.t i)=uC i (ZK (zI ts i) (zI vs i)) (zI ts i):=by
 show(match zI ts i with|some A=>A|none=>match ZK (zI ts i) (zI vs i) with| .agg cs=>bif za.copyableL cs then .agg cs else .at_ [0,i]|A=>A.here i)=_
 unfold uC
 rfl
theorem ua (i:Nat)(A B:za):uC i A (some B)=B:=rfl
theorem gm (v:Value):(za.sc v).cut V= .sc v:=rfl
theorem Ka (cs:List za):(za.agg cs).cut V= .agg cs:=rfl
theorem k7 (sz:Nat)(cs:List za):(za.imm sz cs).cut V= .imm sz cs:=rfl
theorem k6 (hd:Option Nat)(cs:List za):(za.own hd cs).cut V= .own hd cs:=rfl
theorem gl (a b c e:Nat):(za.sl a b c e).cut V= .sl a b c e:=rfl
theorem k5 (a b:Nat):(za.ptr a b).cut V= .ptr a b:=rfl
theorem gp (cs:List za):(za.ia cs).cut V= .ia cs:=rfl
theorem gq (f:Fn)(a b:List za):(za.fn f a b).cut V= .fn f a b:=rfl
theorem UH (t:TypeId)(A:za):(za.iface t A).cut V= .iface t A:=rfl
theorem k4 (cs:List za):(za.tup cs).cut V= .tup cs:=rfl
theorem gn (ks:List Int):(za.mp ks).cut V= .mp ks:=rfl
theorem VR :za.dead.cut V= .dead:=rfl
theorem k9 (ks:List Nat):(za.at_ (0::i::ks)).cut V=bif V.contains i then .at_ (0::i::ks) else .dead:=rfl
theorem k8 (ks:List Nat):(za.at_ (1::ks)).cut V= .at_ (1::ks):=rfl
theorem UJ (ks:List Nat)(k:Nat):(za.addr (0::i::ks) k).cut V=bif V.contains i then .addr (0::i::ks) k else .dead:=rfl
theorem UI (ks:List Nat)(k:Nat):(za.addr (1::ks) k).cut V= .addr (1::ks) k:=rfl
theorem kU (v:Value):(za.sc v).here i= .sc v:=rfl
theorem VI (cs:List za):(za.agg cs).here i= .agg cs:=rfl
theorem VF (sz:Nat)(cs:List za):(za.imm sz cs).here i= .imm sz cs:=rfl
theorem VG (cs:List za):(za.own none cs).here i= .addr [0,i] 0:=rfl
theorem VE (sz:Nat)(cs:List za):(za.own (some sz) cs).here i= .at_ [0,i]:=rfl
theorem kT (a b c e:Nat):(za.sl a b c e).here i= .sl a b c e:=rfl
theorem VD (a b:Nat):(za.ptr a b).here i= .ptr a b:=rfl
theorem kW (cs:List za):(za.ia cs).here i= .ia cs:=rfl
theorem kX (f:Fn)(a b:List za):(za.fn f a b).here i= .fn f a b:=rfl
theorem XW (t:TypeId)(A:za):(za.iface t A).here i= .iface t A:=rfl
theorem VC (cs:List za):(za.tup cs).here i= .tup cs:=rfl
theorem kV (ks:List Int):(za.mp ks).here i= .mp ks:=rfl
theorem VH (p:List Nat):(za.at_ p).here i= .at_ p:=rfl
theorem XX (p:List Nat)(k:Nat):(za.addr p k).here i= .addr p k:=rfl
theorem Ug (v:Value):(za.sc v).rootIs i=false:=rfl
theorem XK (cs:List za):(za.agg cs).rootIs i=false:=rfl
theorem XH (sz:Nat)(cs:List za):(za.imm sz cs).rootIs i=false:=rfl
theorem XG (hd:Option Nat)(cs:List za):(za.own hd cs).rootIs i=false:=rfl
theorem Uf (a b c e:Nat):(za.sl a b c e).rootIs i=false:=rfl
theorem XF (a b:Nat):(za.ptr a b).rootIs i=false:=rfl
theorem Ui (cs:List za):(za.ia cs).rootIs i=false:=rfl
theorem Uj (f:Fn)(a b:List za):(za.fn f a b).rootIs i=false:=rfl
theorem w8 (t:TypeId)(A:za):(za.iface t A).rootIs i=false:=rfl
theorem XE (cs:List za):(za.tup cs).rootIs i=false:=rfl
theorem Uh (ks:List Int):(za.mp ks).rootIs i=false:=rfl
theorem WV :za.dead.rootIs i=false:=rfl
theorem XJ (ks:List Nat):(za.at_ (0::j::ks)).rootIs i=(j==i):=rfl
theorem XI (ks:List Nat):(za.at_ (1::ks)).rootIs i=false:=rfl
theorem Wa (ks:List Nat)(k:Nat):(za.addr (0::j::ks) k).rootIs i=(j==i):=rfl
theorem w9 (ks:List Nat)(k:Nat):(za.addr (1::ks) k).rootIs i=false:=rfl
theorem GA (st:zb)(i:Nat)(ks:List Nat):st.at (0::i::ks)=(st.get i).sub ks:=rfl
def KM (k:Nat)(ks:List Nat):Option (Option (List za))→Option za
 |some (some cs)=>(za.own none cs).sub (k::ks)
 |_=>none
theorem Gz (vs ts:List (Nat×za))(h:Heap)(id k:Nat)(ks:List Nat):zb.at ⟨vs,ts,h⟩ (1::id::k::ks)=KM k ks h[id]?:=by
 simp only[zb.at,KM]
 cases h[id]? with
 |none=>rfl
 |some x=>cases x<;>rfl
theorem uW (k:Nat)(ks:List Nat)(cs:List za):KM k ks (some (some cs))=(za.own none cs).sub (k::ks):=rfl
def Xr (ks:List Nat):Option za→Option za
 |some B=>B.sub ks
 |none=>none
theorem uV (ks:List Nat)(B:za):Xr ks (some B)=B.sub ks:=rfl
theorem ky (A:za):A.sub []=some A:=by cases A<;>rfl
theorem kx (hd:Option Nat)(cs:List za)(k:Nat)(ks:List Nat):(za.own hd cs).sub (k::ks)=Xr ks cs[k]?:=by
 simp only[za.sub,za.kids,Xr];cases cs[k]?<;>rfl
theorem kB (cs:List za)(k:Nat)(ks:List Nat):(za.agg cs).sub (k::ks)=Xr ks cs[k]?:=by
 simp only[za.sub,za.kids,Xr];cases cs[k]?<;>rfl
theorem kw (cs:List za)(k:Nat)(ks:List Nat):(za.tup cs).sub (k::ks)=Xr ks cs[k]?:=by
 simp only[za.sub,za.kids,Xr];cases cs[k]?<;>rfl
def Y6 (cs:List za)(k:Nat)(ks:List Nat)(B:za):Option za→List za
 |some C=>cs.set k (C.setSub ks B)
 |none=>cs
theorem u4 (cs:List za)(k:Nat)(ks:List Nat)(B C:za):Y6 cs k ks B (some C)=cs.set k (C.setSub ks B):=rfl
theorem Xx (A B:za):A.setSub [] B=B:=by cases A<;>rfl
theorem Xw (hd:Option Nat)(cs:List za)(k:Nat)(ks:List Nat)(B:za):(za.own hd cs).setSub (k::ks) B= .own hd (Y6 cs k ks B cs[k]?):=by
 simp only[za.setSub,Y6];cases cs[k]?<;>rfl
theorem Xy (cs:List za)(k:Nat)(ks:List Nat)(B:za):(za.agg cs).setSub (k::ks) B= .agg (Y6 cs k ks B cs[k]?):=by
 simp only[za.setSub,Y6];cases cs[k]?<;>rfl
theorem Xv (cs:List za)(k:Nat)(ks:List Nat)(B:za):(za.tup cs).setSub (k::ks) B= .tup (Y6 cs k ks B cs[k]?):=by
 simp only[za.setSub,Y6];cases cs[k]?<;>rfl
theorem KS (st:zb)(i:Nat)(ks:List Nat)(B:za):st.setAt (0::i::ks) B=st.set i ((st.get i).setSub ks B):=rfl
def KQ (vs ts:List (Nat×za))(h:Heap)(id k:Nat)(ks:List Nat)(B:za):Option (Option (List za))→zb
 |some (some cs)=>⟨vs,ts,h.set id (some (Y6 cs k ks B cs[k]?))⟩
 |_=>⟨vs,ts,h⟩
theorem KR (vs ts:List (Nat×za))(h:Heap)(id k:Nat)(ks:List Nat)(B:za):zb.setAt ⟨vs,ts,h⟩ (1::id::k::ks) B=KQ vs ts h id k ks B h[id]?:=by
 simp only[zb.setAt,KQ]
 cases h[id]? with
 |none=>rfl
 | some x=>cases x with
   |none=>rfl
   |some cs=>simp only[Y6];cases cs[k]?<;>rfl
theorem u5 (vs ts:List (Nat×za))(h:Heap)(id k:Nat)(ks:List Nat)(B:za)(cs:List za):KQ vs ts h id k ks B (some (some cs))=⟨vs,ts,h.set id (some (Y6 cs k ks B cs[k]?))⟩:=rfl
theorem XT (st:zb):st.kill (fun _=>false)=st:=by
 have:∀l:List (Nat×za),j0 (fun _=>false) l=l:=fun l=>by
  induction l with
  |nil=>rfl
  |cons x l ih=>obtain⟨i,A⟩:=x;simp[j0,ih]
 simp[zb.kill,this]
theorem VJ {gb:Nat→Option Nat}{h':Heap}:Yp [] L gb h'=fun _=>false:=by
 funext A
 unfold Yp
 split
 · simp[jb]
 · simp[jb]
 · rfl
theorem WS {gb:Nat→Option Nat}{h':Heap}:∀(i:Nat) (l:Heap),qy (jb []) gb h' i l=l
 |_,[]=>rfl
 | i,o::l=>by
   have ih:=WS (gb:=gb) (h':=h') (i+1) l
   simp only[qy,ih]
   rfl
def wc (st:zb):List (zm×Bool)→List za
 |[]=>[]
 |(x,_)::xs=>V7 st [] true x::wc st xs
theorem wg :∀(args:List (zm×Bool)),∃As,st.useL (QP args [])=some (As,st)∧As.length=args.length∧st.useLQ L (QP args [])=true
 |[]=>⟨[],rfl,rfl,rfl⟩
 | (x,b)::xs=>by
   obtain⟨As,h1,h2,h3⟩:=wg xs
   refine⟨.sc (.bool false)::As,?_,by simp[h2],?_⟩
   · simp only[QP,List.headD_nil,List.tail_nil,zb.useL,zb.use,zb.evU,za.copyable,cond_true,h1]
   · simp only[QP,List.headD_nil,List.tail_nil,zb.useLQ,zb.useQ,zb.use,zb.evU,za.copyable,cond_true,h3,Bool.and_self]
theorem yn {st0:zb}:∀(args:List (zm×Bool)) (As:List za),As.length=args.length→jg st0 st [] true none args [] As=wc st args
 |[],[],_=>rfl
 |[],_::_,h=>by simp at h
 |_::_,[],h=>by simp at h
 | (x,b)::xs,A::As,h=>by
   simp only[jg,List.headD_nil,List.tail_nil,wc,yn xs As (by simpa using h)]
theorem uk {f:zm}{args:List (zm×Bool)}{K:zb→Prop}{g:Nat}{first captured:List za}(hev:st.ev f= .fn (.func g) first captured)
    (H:zF P [] g (Xh st.h [] true first++(wc st args++Xh st.h [] true captured)) [] fun r h'=>h'=[]∧r.flat=true∧r.ids0=true∧K (st.putT d r)):qM P L st d f args K:=by
  unfold qM
  rw[hev]
  refine⟨[],[],true,none,?_⟩
  unfold q7
  obtain⟨As,h1,h2,h3⟩:=wg (st:=st) (L:=L) args
  have hw:∀L:List (List Nat),zQ [] L=[]:=fun L=>by
    induction L with
    |nil=>rfl
    | cons r L ih=>
      unfold zQ
      split
      · rename_i heq;cases heq
      · rename_i heq;cases heq;simp[jb,ih]
      · rename_i heq;cases heq;exact ih
  simp only[yd,h1,yn _ _ h2,h3,WL,hw,Zc]
  refine⟨rfl,rfl,rfl,H.mono fun r h' ⟨e,hf,hi,hk⟩=>?_⟩
  subst e
  refine⟨Nat.le_refl _,fun _=>⟨hf,rfl⟩,?_⟩
  simp only[ZJ,zb.after,VJ,XT,WS,Yl _ _ hi]
  simpa[J1] using hk
theorem vo {f:zm}{args:List (zm×Bool)}{K:zb→Prop}{g:Nat}{first captured:List za}(hev:st.ev f= .fn (.func g) first captured)(ms:List yB)(bo:List Nat)(ln:Bool)(pl:Option (List Nat))
    (H:q7 P L st d g first captured args ms bo ln pl K):qM P L st d f args K:=by
  unfold qM
  rw[hev]
  exact⟨ms,bo,ln,pl,H⟩
end
end Go.Ga

namespace Go.Ga
open Go
section
variable {P:Program} {L:List (List Nat)} {K:zb→Prop} {st st0 st1:zb} {d:Nat}
theorem Kb {b:Zx}{rest:List zt}:qA P [] K ((none,b)::rest) st=Z3 P [] (qA P [] K rest) st b:=by
 rw[qw,Yn,qU,true_and]
theorem V6 {t:Nat}{want:Bool}{b:Zx}{rest:List zt}(h:st.get t= .sc (.bool want)):qA P [] K ((some (t,want),b)::rest) st=Z3 P [] (qA P [] K rest) st b:=by
 rw[qw,wF h,qU,true_and]
theorem vn {t d:Nat}{want:Bool}{b:Zx}{rest:List zt}(h:st.get t= .sc (.bool (!want)))(hd:b.dst=some d):qA P [] K ((some (t,want),b)::rest) st=qA P [] K rest (st.putT d (.sc (.tuple #[]))):=by
 rw[qw,Yo h hd]
theorem uh {t d:Nat}{want:Bool}{b:Zx}{rest:List zt}(h:st.get t= .sc (.tuple #[]))(hd:b.dst=some d):qA P [] K ((some (t,want),b)::rest) st=qA P [] K rest (st.putT d (.sc (.tuple #[]))):=by
 rw[qw,yl h hd]
theorem uS {wl:List ZX}:ZG P K .done wl st=K st:=rfl
theorem uQ {later:List Nat}{gd:Option (Nat×Bool)}{o:Xk}{t:ZQ}{wl:List ZX}:ZG P K (.take later (gd,.r o) t) wl st=zZ P [] (ZG P K t ((later,jI st o)::wl)) st (gd,.r o):=rfl
theorem vz {i:Nat}{g:zt}{t:ZQ}{wl:List ZX}:ZG P K (.one i g t) wl st=zZ P (jm (z8 i wl)) (ZG P K t (z8 i wl)) st g:=rfl
theorem uR {i:Nat}{g:zt}{l:List (Nat×zt)}{t:ZQ}{wl:List ZX}:ZG P K (.many ((i,g)::l) t) wl st=zZ P [] (ZG P K (.many l t) (z8 i wl)) st g:=rfl
theorem Xo {t:ZQ}{wl:List ZX}:ZG P K (.many [] t) wl st=ZG P K t wl st:=rfl
theorem vy {i j:Nat}{g h:zt}{t u:ZQ}{wl:List ZX}:ZG P K (.two i g t j h u) wl st=(zZ P (jm (z8 i wl)) (ZG P K t (z8 i wl)) st g∧zZ P (jm (z8 j wl)) (ZG P K u (z8 j wl)) st h):=rfl
theorem Xn {i j k:Nat}{g h m:zt}{t u v:ZQ}{wl:List ZX}:ZG P K (.three i g t j h u k m v) wl st=(zZ P (jm (z8 i wl)) (ZG P K t (z8 i wl)) st g∧zZ P (jm (z8 j wl)) (ZG P K u (z8 j wl)) st h∧zZ P (jm (z8 k wl)) (ZG P K v (z8 k wl)) st m):=rfl
theorem w0 (cs:List za)(k:Nat)(A:za):zM cs k [A]=cs.set k A:=rfl
theorem VO {rss:List q9}{Q:za→Heap→Prop}{s:zb}:ub [] rss Q .ret s=match wb rss s with
    |some (As,s')=>Q (XM As) s'.h
    |none=>False:=by
  simp only[ub,qx,true_and]<;>rfl
theorem UD {rss:List q9}{Q:za→Heap→Prop}{s:zb}:ub [] rss Q .normal s=match wb rss s with
    |some (As,s')=>Q (XM As) s'.h
    |none=>False:=by
  simp only[ub,qx,true_and]<;>rfl
theorem zL {f:zm}{args:List (zm×Bool)}{g:Nat}{first captured As:List za}(hev:st.ev f= .fn (.func g) first captured)(hargs:Xh st.h [] true first++(wc st args++Xh st.h [] true captured)=As)
    (H:zF P [] g As [] fun r h'=>h'=[]∧r.flat=true∧r.ids0=true∧K (st.putT d r)):qM P L st d f args K:=
  uk hev (by rw[hargs];exact H)
theorem jp {f:zm}{args:List (zm×Bool)}{g:Nat}{first captured As args':List za}{x:Option (List Nat×Nat×List za)}{h0:Heap}{L':List (List Nat)}(ms:List yB)(bo:List Nat)(ln:Bool)(pl:Option (List Nat))
    (hev:st.ev f= .fn (.func g) first captured) (htake:yd st pl=some (x,st0)) (huse:st0.useL (QP args ms)=some (As,st1)) (hnd:J4 bo=true) (hbo:bo.all (fun i=>decide (i<st1.h.length))=true)
    (hq:(WL L pl&&st0.useLQ L (QP args ms))=true) (hW:zQ bo L=L') (hargs:Xh st1.h bo ln first++(jg st st1 bo ln x args ms As++Xh st1.h bo ln captured)=args') (hin:Zc st1.h bo x=h0)
    (H:zF P L' g args' h0 fun r h'=>h0.length≤h'.length∧(ln=true→r.flat=true∧Qv h'=true)∧ZJ L d bo h0.length x st1 K r h'):qM P L st d f args K:=by
  refine vo hev ms bo ln pl ?_
  unfold q7
  rw[htake]
  simp only[]
  rw[huse]
  simp only[]
  refine⟨hnd,hbo,hq,?_⟩
  rw[hW,hargs,hin]
  exact H
end
attribute [go_sem] ke zb.bnd um kg zb.cpyQ kf Xb Xd Xa zb.mputQ gn kV Uh Xf zb.roomTo za.slQ za.isAgg yl uh List.getElem?_drop List.drop_drop V6 vn V5 Yn wF Yo Z3 jf Zl Zx.dst Xk.dst Ut Vu vu gi XR XS Vv Gk Gn Gm gT gU gQ gS gR ua uC u3 kN kS XU Ux KP Xz XA zb.assign gm Ka k7 k6 gl k5 gp gq UH k4 VR k9 k8 UJ UI kU VI VF VG VE kT VD kW kX XW VC VH XX Ug XK XH XG Uf XF Ui Uj w8 XE WV XJ XI Wa w9 za.copyable za.copyableL kj zb.use zb.isNil zb.blank QS ZD cond_true cond_false List.map List.getElem?_cons_zero List.getElem?_cons_succ cellsOf Q1 Option.some.injEq List.contains_cons List.contains_nil Bool.or_false Bool.or_true Bool.true_or Bool.false_or Bool.and_true Bool.true_and wJ Option.getD_some Option.getD_none XM List.length_cons List.length_nil uS uQ vz vy Xn uR Xo z8 jm jI Zx.quiet GA Gz uW uV ky kx kB kw u4 Xx Xw Xy Xv KS KR u5 zb.owned Gb zb.stQ zb.useQ zb.useLQ zb.appQ za.cells w0 za.cellOkL za.cellOk za.aggCopy za.under List.isPrefixOf zb.storeObj za.inObj J5 VA Vp Vy za.int? Wk uA WA List.filter_cons List.filter_nil List.flatMap_cons List.flatMap_nil List.all_cons List.all_nil clear Int.toNat_natCast Nat.mul_one Nat.add_one_le_iff Nat.zero_add Nat.add_zero true_and and_true List.length_map List.set_cons_zero List.set_cons_succ zb.useL List.append_nil List.nil_append List.cons_append List.singleton_append Bool.not_true Bool.not_false Bool.not_eq_true Bool.and_self Bool.or_self Bool.and_false Bool.false_and KK ki Xe km kb kh YZ Xc zb.bound zb.dec Zg wI List.drop_zero List.drop_succ_cons List.drop_nil List.take_succ_cons List.take_zero List.take_nil zb.lenOf zb.shareAt za.freeze za.freezeL zb.given zb.more zb.moreQ Option.map_some Option.map_none Int.natCast_nonneg beq_self_eq_true bne_self_eq_false List.getElem?_nil List.set_set Kb qU QP jg V7 gA KL Xh wc Y2 Zc zQ J4 jb yd WL qy J1 Qv zU Yp za.ren za.renL za.flat za.flatL za.ids0 za.ids0L za.plain za.plainL JC wy W6 qI yk QT Vq q3 Uz xh qJ xg wD Vz wb XM VO UD clear zb.forget List.headD_cons List.headD_nil List.tail_cons List.tail_nil Option.isNone_none Option.isNone_some Option.isSome_none Option.isSome_some za.isAlias List.isEmpty_nil List.isEmpty_cons
end Go.Ga

namespace Go.Ga
open Go
theorem Jh {α β:Type}{f g:α→Option β}:∀{l:List α} {r:List β},l.mapM f=some r→(∀x∈l,∀y∈r,f x=some y→g x=some y)→l.mapM g=some r
 |[],r,h,_=>by simpa using h
 | x ::l,r,h,hk=>by
   rw[List.mapM_cons] at h⊢
   cases hx:f x with
   |none=>rw[hx] at h;cases h
   | some y=>
     rw[hx] at h
     cases hr:l.mapM f with
     |none=>rw[hr] at h;cases h
     | some r'=>
       rw[hr] at h
       cases h
       rw[hk x (.head _) y (.head _) hx]
       have:=Jh hr fun z hz w hw=>hk z (.tail _ hz) w (.tail _ hw)
       rw[this]
       rfl
def Kg (w w':World):Prop:=∀b,b<w.heap.size→w'.heap[b]?=w.heap[b]?
section
variable {H:Type} {enc:TypeId×Value→H} {P:Program} {w w':World}
theorem Kg.cell (h:Kg w w'){a:Addr}{v:Value}(hc:w.cell? a=some v):w'.cell? a=some v:=by
 have hb:a.block<w.heap.size:=World.block_lt_of_cell? w _ hc
 unfold World.cell? at hc⊢
 rw[h _ hb]
 exact hc
theorem Kg.cells (h:Kg w w'){base:Nat}{a:Addr}{n:Nat}{cs:List Value}(hc:w.cells? base a n=some cs):w'.cells? base a n=some cs:=by
 unfold World.cells? at hc⊢
 split at hc
 · rename_i hb
   rw[if_pos hb]
   exact Jh hc fun i _ v _ hv=>h.cell hv
 · cases hc
def Zz (P:Program)(S:List TypeId)(t:TypeId):Prop:=
 match P.underlying t with
 |some .bool=>True
 |some (.int _)=>True
 |some .string=>True
 |some (.slice e)=>0<P.cellsOf e∧e∈S
 |some (.struct fs)=>∀f∈fs.toList,f.type∈S
 |_=>False
theorem Y4 {S:List TypeId}(hO:Kg w w'){sp:Nat→Bool}{r r':TypeId→List Value→Option (DataW H×List MemPlace)}{t:TypeId}{cs:List Value}{x:DataW H×List MemPlace}
    (hS:Zz P S t) (hr:∀t cs y,t∈S→r t cs=some y→(∀p∈y.2,sp p.block=true)→r' t cs=some y) (hsp:∀p∈x.2,sp p.block=true) (h:DataW.trodStep enc P w 0 (fun _=>true) true r t cs=some x):DataW.trodStep enc P w' 0 sp true r' t cs=some x:=by
  unfold DataW.trodStep at h⊢
  split at h
  case h_1=>exact h
  case h_2=>exact h
  case h_3=>exact h
  case h_4=>exact h
  case h_5=>exact h
  case h_6 e a hu=>unfold Zz at hS;rw[hu] at hS;exact hS.elim
  case h_7=>exact h
  case h_8 e a len cap hu=>
    unfold Zz at hS
    rw[hu] at hS
    obtain⟨hc,heS⟩:=hS
    simp only at h⊢
    split at h
    · rename_i hcond
      rw[if_pos hcond]
      simp only[if_true,Option.map_eq_some_iff,Option.bind_eq_some_iff] at h⊢
      obtain⟨elems,he,rest,hrest,rfl⟩:=h
      have hsub:∀y∈elems++rest,∀p∈y.2,sp p.block=true:=fun y hy p hp=>hsp p (List.mem_append_right _ (List.mem_flatMap.2 ⟨y,hy,hp⟩))
      have one:∀i y,y∈elems++rest→(w.cells? 0 (a.add (i*P.cellsOf e)) (P.cellsOf e)).bind (r e)=some y→(w'.cells? 0 (a.add (i*P.cellsOf e)) (P.cellsOf e)).bind (r' e)=some y:=fun i y hm hy=>by
        simp only[Option.bind_eq_some_iff] at hy⊢
        obtain⟨cs',hc,hy⟩:=hy
        exact⟨cs',hO.cells hc,hr _ _ _ heS hy (hsub y hm)⟩
      refine⟨elems,Jh he fun i _ y hy h=>one i y (List.mem_append_left _ hy) h,rest,?_,rfl⟩
      split
      · exact Jh hrest fun j _ y hy h=>one (len+j) y (List.mem_append_right _ hy) h
      · rename_i hns
        have hrow:(elems.length+rest.length)*P.cellsOf e=0∨0<(elems.length+rest.length)*P.cellsOf e:=Nat.eq_zero_or_pos _
        rcases hrow with h0|h0
        · have hl:elems.length+rest.length=0:=by
            rcases Nat.eq_zero_or_pos (elems.length+rest.length) with e0|e0
            · exact e0
            · have:=Nat.mul_pos e0 hc;omega
          have:rest=[]:=List.eq_nil_of_length_eq_zero (by omega)
          rw[this]
        · exfalso
          refine hns (hsp (.cell a.block (a.off+0)) (List.mem_append_left _ ?_))
          exact MemPlace.mem_row.2 ⟨0,h0,rfl⟩
    · cases h
  case h_9 fs hu=>
    unfold Zz at hS
    rw[hu] at hS
    split at h
    · rename_i hl
      rw[if_pos hl]
      simp only[Option.map_eq_some_iff] at h⊢
      obtain⟨xs,hx,rfl⟩:=h
      exact⟨xs,Jh hx fun f hf y hy h=>hr _ _ _ (hS f hf) h fun p hp=>hsp p (List.mem_flatMap.2 ⟨y,hy,hp⟩),rfl⟩
    · cases h
  case h_14 k e b hu=>unfold Zz at hS;rw[hu] at hS;exact hS.elim
  case h_10 n e hu=>unfold Zz at hS;rw[hu] at hS;exact hS.elim
  all_goals exact h
theorem wm {S:List TypeId}(hS:∀t∈S,Zz P S t)(hO:Kg w w'){sp:Nat→Bool}:∀(n:Nat) (t:TypeId) (cs:List Value) (x:DataW H×List MemPlace),t∈S→DataW.trod enc P w 0 (fun _=>true) true n t cs=some x→(∀p∈x.2,sp p.block=true)→DataW.trod enc P w' 0 sp true n t cs=some x
 |0,_,_,_,_,h,_=>by simp[DataW.trod] at h
 | n+1,t,cs,x,ht,h,hsp=>by
   rw[DataW.trod_step] at h⊢
   exact Y4 hO (hS t ht) (wm hS hO n) hsp h
theorem Qc {S:List TypeId}(hS:∀t∈S,Zz P S t)(hO:Kg w w'){sp:Nat→Bool}:∀{ts:List TypeId} {vs:List Value} {ds:List (DataW H)} {ps:List MemPlace},(∀t∈ts,t∈S)→DataW.TrodAll enc P w 0 (fun _=>true) true ts vs ds ps→(∀p∈ps,sp p.block=true)→DataW.TrodAll enc P w' 0 sp true ts vs ds ps
 |[],[],[],ps,_,h,_=>h
 | t::ts,v::vs,d::ds,ps,ht,⟨p,q,⟨fuel,h1⟩,h2,he⟩,hsp=>by
   subst he
   exact⟨p,q,⟨fuel,wm hS hO fuel t _ _ (ht t (.head _)) h1 fun x hx=>hsp x (List.mem_append_left _ hx)⟩,Qc hS hO (fun t h=>ht t (.tail _ h)) h2 fun x hx=>hsp x (List.mem_append_right _ hx),rfl⟩
end
end Go.Ga

namespace Go.Ga
open Go
inductive Sh (P:Program):TypeId→List za→Nat→Prop
 |bool (t:TypeId) (b:Bool) (hu:P.underlying t=some .bool):Sh P t [.sc (.bool b)] 1
 |int (t:TypeId) (k:IntKind) (n:Int) (hu:P.underlying t=some (.int k)) (hw:(Lit.int k n).wf=true):Sh P t [.sc (.int k n)] 1
 |string (t:TypeId) (s:ByteArray) (hu:P.underlying t=some .string):Sh P t [.sc (.string s)] (s.size+1)
 |slice (t e:TypeId) (L:List (List za×Nat)) (more:Nat) (hu:P.underlying t=some (.slice e)) (hl:∀x∈L,x.1.length=P.cellsOf e) (h:∀x∈L,Sh P e x.1 x.2):Sh P t [.imm (P.cellsOf e) (L.map (·.1)).flatten] (1+(L.map (·.2)).sum+more)
 |struct (t:TypeId) (fs:Array Field) (L:List (List za×Nat)) (hu:P.underlying t=some (.struct fs)) (hl:L.length=fs.size) (h:∀(i:Nat) f x,fs[i]?=some f→L[i]?=some x→Sh P f.type x.1 x.2):Sh P t (L.map (·.1)).flatten (1+(L.map (·.2)).sum)
 |other (t:TypeId) (n b:Nat) (h1:∀k,P.underlying t≠some (.int k)) (h2:P.underlying t≠some .bool) (h3:P.underlying t≠some .string) (h4:∀e,P.underlying t≠some (.slice e)) (h5:∀fs,P.underlying t≠some (.struct fs)):Sh P t (List.replicate n .dead) b
mutual
def Z5 {H:Type}:DataW H→Nat
 | .lit (.string bytes)=>bytes.length+1
 | .lit _=>1
 | .nil=>1
 | .ptr d=>Z5 d+1
 | .slice elems spare=>bulkL elems+bulkL spare+1
 | .agg parts=>bulkL parts+1
 | .iface _ d=>Z5 d+1
 | .map entries=>bulkE entries+1
 | .held _=>1
def bulkL {H:Type}:List (DataW H)→Nat
 |[]=>0
 |d::r=>Z5 d+bulkL r
def bulkE {H:Type}:List (Lit×DataW H)→Nat
 |[]=>0
 |x::r=>bulk1 x+bulkE r
def bulk1 {H:Type}:Lit×DataW H→Nat
 |(.string bytes,d)=>bytes.length+Z5 d+1
 |(_,d)=>Z5 d+1
end
def yJ (P:Program):Nat→List Field→Option Nat
 |n,[]=>some n
 |n,f::fs=>if f.offset=n then yJ P (n+P.cellsOf f.type) fs else none
def Env.plain (w:World):Env:=⟨w,fun _=>none,fun _=>0,fun _=>0,fun _=>0,0⟩
theorem yD {α β:Type}{f:α→Option β}:∀{l:List α} {r:List β},l.mapM f=some r→r.length=l.length∧∀(i:Nat) x,l[i]?=some x→∃y,r[i]?=some y∧f x=some y
 |[],r,h=>by simp at h;subst h;exact⟨rfl,fun i x hx=>by simp at hx⟩
 | a ::l,r,h=>by
   rw[List.mapM_cons] at h
   cases hx:f a with
   |none=>rw[hx] at h;cases h
   | some y=>
     rw[hx] at h
     cases hr:l.mapM f with
     |none=>rw[hr] at h;cases h
     | some r'=>
       rw[hr] at h
       cases h
       obtain⟨h1,h2⟩:=yD hr
       refine⟨by simp[h1],fun i x hi=>?_⟩
       cases i with
       |zero=>simp at hi;subst hi;exact⟨y,rfl,hx⟩
       |succ i=>simpa using h2 i x (by simpa using hi)
theorem Yu {sz:Nat}(hsz:0<sz):∀{L:List (List za)},(∀l∈L,l.length=sz)→L.flatten.length=L.length*sz∧∀(k:Nat) A,L.flatten[k]?=some A→∃l,L[k / sz]?=some l∧l[k%sz]?=some A
 |[],_=>⟨by simp,fun k A h=>by simp at h⟩
 | l ::L,hl=>by
   obtain⟨h1,h2⟩:=Yu hsz (L:=L) fun x hx=>hl x (.tail _ hx)
   have hl0:=hl l (.head _)
   refine⟨by simp[h1,hl0,Nat.add_mul,Nat.add_comm],fun k A h=>?_⟩
   rw[List.flatten_cons,List.getElem?_append] at h
   split at h
   · rename_i hlt
     rw[hl0] at hlt
     rw[Nat.div_eq_of_lt hlt,Nat.mod_eq_of_lt hlt]
     exact⟨l,rfl,h⟩
   · rename_i hge
     rw[hl0] at hge h
     obtain⟨l',h3,h4⟩:=h2 _ A h
     have hk:k=(k - sz)+sz:=by omega
     rw[hk,Nat.add_div_right _ hsz,Nat.add_mod_right]
     exact⟨l',by simpa using h3,h4⟩
section
variable {H:Type} {enc:TypeId×Value→H} {P:Program} {w:World}
def Cells (w:World)(As:List za)(cs:List Value):Prop:=As.length=cs.length∧∀(k:Nat) A v,As[k]?=some A→cs[k]?=some v→VRel (Env.plain w) none A v
theorem jM {A:za}{v:Value}(h:VRel (Env.plain w) none A v):Cells w [A] [v]:=⟨rfl,fun k B u hB hu=>by
 cases k with
 |zero=>cases hB;cases hu;exact h
 |succ k=>simp at hB⟩
theorem ue (cs:List Value):Cells w (List.replicate cs.length .dead) cs:=⟨by simp,fun k A v hA _=>by
 rw[List.getElem?_replicate] at hA
 split at hA
 · cases hA;exact .dead _ _
 · cases hA⟩
structure wU (P:Program)(S:List TypeId):Prop where
 at_:∀t∈S,Zz P S t
 tile:∀t∈S,∀fs,P.underlying t=some (.struct fs)→yJ P 0 fs.toList=some (P.cellsOf t)
theorem vh (l:List (DataW H)):bulkL l=(l.map Z5).sum:=by
 induction l with
 |nil=>rfl
 |cons x l ih=>simp[bulkL,ih]
theorem Qz {R:TypeId→List za→Nat→Prop}:∀(fs:List Field) (n m:Nat) (cs:List Value) (xs:List (DataW H×List MemPlace)),yJ P n fs=some m→m=cs.length→n≤cs.length→
    (∀(i:Nat) f y,fs[i]?=some f→xs[i]?=some y→∃As,R f.type As (Z5 y.1)∧Cells w As ((cs.drop f.offset).take (P.cellsOf f.type)))→xs.length=fs.length→
    ∃L:List (List za×Nat),L.length=fs.length∧(∀(i:Nat) f x,fs[i]?=some f→L[i]?=some x→R f.type x.1 x.2)∧(L.map (·.2)).sum=bulkL (xs.map (·.1))∧Cells w (L.map (·.1)).flatten (cs.drop n)
  | [],n,m,cs,xs,ht,hm,_,_,hl=>by
    cases ht
    have:xs=[]:=List.eq_nil_of_length_eq_zero (by simpa using hl)
    subst this
    subst hm
    exact⟨[],rfl,fun i f x h=>by simp at h,rfl,by simp[Cells]⟩
  |f::fs,n,m,cs,[],ht,hm,hn,h,hl=>by simp at hl
  | f ::fs,n,m,cs,y::xs,ht,hm,hn,h,hl=>by
    simp only[yJ] at ht
    split at ht
    · rename_i ho
      obtain⟨As,hR,hc⟩:=h 0 f y rfl rfl
      rw[ho] at hc
      have hle:n+P.cellsOf f.type≤cs.length:=by
        have key:∀(fs:List Field) (a m:Nat),yJ P a fs=some m→a≤m:=by
          intro fs
          induction fs with
          |nil=>intro a m h;cases h;exact Nat.le_refl _
          | cons g gs ih=>
            intro a m h
            simp only[yJ] at h
            split at h
            · have:=ih _ _ h;omega
            · cases h
        have:=key _ _ _ ht
        omega
      obtain⟨L,h1,h2,h3,h4⟩:=Qz fs (n+P.cellsOf f.type) m cs xs ht hm hle (fun i g z hg hz=>h (i+1) g z (by simpa using hg) (by simpa using hz)) (by simpa using hl)
      refine⟨(As,Z5 y.1)::L,by simp[h1],fun i g x hg hx=>?_,by simp[bulkL,h3],?_⟩
      · cases i with
        |zero=>simp at hg hx;subst hg;subst hx;exact hR
        |succ i=>exact h2 i g x (by simpa using hg) (by simpa using hx)
      · have hlen:((cs.drop n).take (P.cellsOf f.type)).length=P.cellsOf f.type:=by simp;omega
        have hA:As.length=P.cellsOf f.type:=hc.1.trans hlen
        refine⟨?_,fun k A v hA' hv=>?_⟩
        · have:=h4.1
          simp only[List.map_cons,List.flatten_cons,List.length_append,List.length_drop] at this⊢
          omega
        · simp only[List.map_cons,List.flatten_cons] at hA'
          rw[List.getElem?_append] at hA'
          split at hA'
          · rename_i hlt
            refine hc.2 k A v hA' ?_
            rw[List.getElem?_take_of_lt (by omega)]
            exact hv
          · rename_i hge
            refine h4.2 _ A v hA' ?_
            rw[List.getElem?_drop] at hv⊢
            rw[←hv]
            congr 1
            omega
    · cases ht
theorem qP {S :List TypeId}(hP:wU P S):∀(n:Nat) (t:TypeId) (cs:List Value) (x:DataW H×List MemPlace),t∈S→DataW.trod enc P w 0 (fun _=>true) true n t cs=some x→∃As,Sh P t As (Z5 x.1)∧Cells w As cs
 |0,_,_,_,_,h=>by simp[DataW.trod] at h
 | n + 1, t, cs,x,ht,h=>by
   have hS:=hP.at_ t ht
   rw[DataW.trod_step] at h
   unfold DataW.trodStep at h
   have other:(∀k,P.underlying t≠some (.int k))→P.underlying t≠some .bool→P.underlying t≠some .string→(∀e,P.underlying t≠some (.slice e))→(∀fs,P.underlying t≠some (.struct fs))→∃As,Sh P t As (Z5 x.1)∧Cells w As cs:=
    fun h1 h2 h3 h4 h5=>⟨_,.other t cs.length _ h1 h2 h3 h4 h5,ue cs⟩
   split at h
   case h_1 b hu=>cases h;exact⟨_,.bool t b hu,jM (.sc _ _)⟩
   case h_2 k k' m hu=>
    split at h
    · rename_i hc
      obtain⟨rfl,hw⟩:=hc
      cases h
      exact⟨_,.int t _ m hu hw,jM (.sc _ _)⟩
    · cases h
   case h_4 s hu=>
    split at h
    · cases h
      refine⟨_,?_,jM (.sc _ _)⟩
      have e:Z5 (DataW.lit (H:=H) (.string s.data.toList))=s.size+1:=by
       simp only[Z5]
       rw[Array.length_toList]
       rfl
      show Sh P t _ (Z5 (DataW.lit (H:=H) (.string s.data.toList)))
      rw[e]
      exact .string t s hu
    · cases h
   case h_7 hu=> 
    rename_i e
    cases h
    have:=Sh.slice (P:=P) t e [] 0 hu (fun x hx=>by cases hx) (fun x hx=>by cases hx)
    exact⟨_,by simpa[Z5] using this,jM (.immNil _ _ _)⟩
   case h_8 e a len cap hu=>
    simp only at h
    split at h
    · rename_i hcond
      obtain⟨_,hlc,_⟩:=hcond
      unfold Zz at hS
      rw[hu] at hS
      obtain⟨hsz,heS⟩:=hS
      simp only[if_true,Option.map_eq_some_iff,Option.bind_eq_some_iff] at h
      obtain⟨elems,he,rest,hrest,rfl⟩:=h
      obtain⟨e1,e2⟩:=yD he
      obtain⟨r1,r2⟩:=yD hrest
      simp only[List.length_range] at e1 r1
      have one:∀i y,elems[i]?=some y→∃As,Sh P e As (Z5 y.1)∧As.length=P.cellsOf e∧∀(k:Nat) A,As[k]?=some A→∃v,w.cell? ((a.add (i*P.cellsOf e)).add k)=some v∧VRel (Env.plain w) none A v:=by
       intro i y hy
       have hi:i<len:=by rw[←e1];exact(List.getElem?_eq_some_iff.1 hy).1
       obtain⟨y',hy',hr⟩:=e2 i i (by simp[hi])
       rw[hy] at hy'
       cases hy'
       simp only[Option.bind_eq_some_iff] at hr
       obtain⟨cs',hc,hr⟩:=hr
       obtain⟨_,hl',hcell⟩:=World.cells?_some hc
       obtain⟨As,hS,hA⟩:=qP hP n _ _ _ heS hr
       refine⟨As,hS,hA.1.trans hl',fun k A hk=>?_⟩
       have hlt:k<cs'.length:=by rw[←hA.1];exact(List.getElem?_eq_some_iff.1 hk).1
       refine⟨cs'[k],?_,hA.2 k A _ hk (List.getElem?_eq_getElem hlt)⟩
       rw[hcell k (by omega)]
       exact List.getElem?_eq_getElem hlt
      have hL:∃L:List (List za×Nat),L.length=elems.length∧∀(i:Nat) z y,L[i]?=some z→elems[i]?=some y→Sh P e z.1 z.2∧z.2=Z5 y.1∧z.1.length=P.cellsOf e∧∀(k:Nat) A,z.1[k]?=some A→∃v,w.cell? ((a.add (i*P.cellsOf e)).add k)=some v∧VRel (Env.plain w) none A v:=by
       have key:∀(l:List (DataW H×List MemPlace)) (o:Nat),(∀i y,l[i]?=some y→elems[o+i]?=some y)→∃L:List (List za×Nat),L.length=l.length∧∀(i:Nat) z y,L[i]?=some z→l[i]?=some y→Sh P e z.1 z.2∧z.2=Z5 y.1∧z.1.length=P.cellsOf e∧∀(k:Nat) A,z.1[k]?=some A→∃v,w.cell? ((a.add ((o+i)*P.cellsOf e)).add k)=some v∧VRel (Env.plain w) none A v:=by
        intro l
        induction l with
        |nil=>intro o _;exact⟨[],rfl,fun i z y h=>by simp at h⟩
        | cons y0 l ih=>
          intro o hl
          obtain⟨L,h1,h2⟩:=ih (o+1) fun i y hy=>by
           have:=hl (i+1) y (by simpa using hy)
           rwa [show o+(i+1)=o+1+i by omega] at this
          obtain⟨As,h3,h4,h5⟩:=one (o+0) y0 (hl 0 y0 rfl)
          refine⟨(As,Z5 y0.1)::L,by simp[h1],fun i z y hz hy=>?_⟩
          cases i with
          |zero=>simp at hz hy;subst hz;subst hy;exact⟨h3,rfl,h4,h5⟩
          | succ i=>
            have:=h2 i z y (by simpa using hz) (by simpa using hy)
            rwa [show o+1+i=o+(i+1) by omega] at this
       have:=key elems 0 fun i y hy=>by rw[Nat.zero_add];exact hy
       simpa using this
      obtain⟨L,hl1,hl2⟩:=hL
      have hget:∀z∈L,∃i y,L[i]?=some z∧elems[i]?=some y:=fun z hz=>by
       obtain⟨i,hi⟩:=List.mem_iff_getElem?.1 hz
       have hlt:i<elems.length:=by rw[←hl1];exact(List.getElem?_eq_some_iff.1 hi).1
       exact⟨i,_,hi,List.getElem?_eq_getElem hlt⟩
      have hlen:∀z∈L,z.1.length=P.cellsOf e:=fun z hz=>by
       obtain⟨i,y,h1,h2⟩:=hget z hz
       exact(hl2 i z y h1 h2).2.2.1
      have hsum:(L.map (·.2)).sum=bulkL (elems.map (·.1)):=by
       rw[vh]
       congr 1
       apply List.ext_getElem?
       intro i
       rw[List.getElem?_map,List.getElem?_map,List.getElem?_map]
       cases hz:L[i]? with
       | none=>
         have:elems[i]?=none:=by rw[List.getElem?_eq_none_iff] at hz⊢;omega
         rw[this];rfl
       | some z=>
         have hlt:i<elems.length:=by rw[←hl1];exact(List.getElem?_eq_some_iff.1 hz).1
         have hy:=List.getElem?_eq_getElem hlt
         rw[hy]
         simp[(hl2 i z _ hz hy).2.1]
      have hS:=Sh.slice (P:=P) t e L (bulkL (rest.map (·.1))) hu hlen (fun z hz=>by
       obtain⟨i,y,h1,h2⟩:=hget z hz
       exact(hl2 i z y h1 h2).1)
      rw[hsum] at hS
      refine⟨_,?_,jM (A:= .imm (P.cellsOf e) (L.map (·.1)).flatten) ?_⟩
      · simp only[Z5]
        rwa [show bulkL (elems.map (·.1))+bulkL (rest.map (·.1))+1=1+bulkL (elems.map (·.1))+bulkL (rest.map (·.1)) by omega]
      · by_cases h0:cap=0
        · have:L=[]:=List.eq_nil_of_length_eq_zero (by omega)
          subst this
          have hl0:len=0:=by omega
          subst hl0 h0
          exact .immNil _ _ _
        · 
          have hfirst:∃v,w.cell? a=some v:=by
           have hz:∃y cs',w.cells? 0 (a.add (0*P.cellsOf e)) (P.cellsOf e)=some cs'∧DataW.trod enc P w 0 (fun _=>true) true n e cs'=some y:=by
            by_cases hlen0:len=0
            · subst hlen0
              obtain⟨y,_,hr⟩:=r2 0 0 (by rw[List.getElem?_range (by omega)])
              simp only[Option.bind_eq_some_iff] at hr
              obtain⟨cs',hc,hr⟩:=hr
              exact⟨y,cs',hc,hr⟩
            · obtain⟨y,_,hr⟩:=e2 0 0 (by rw[List.getElem?_range (by omega)])
              simp only[Option.bind_eq_some_iff] at hr
              obtain⟨cs',hc,hr⟩:=hr
              exact⟨y,cs',hc,hr⟩
           obtain⟨y,cs',hc,_⟩:=hz
           obtain⟨_,hl',hcell⟩:=World.cells?_some hc
           have hlt:0<cs'.length:=by omega
           refine⟨cs'[0],?_⟩
           have:=hcell 0 hsz
           rw[List.getElem?_eq_getElem hlt] at this
           simpa[Addr.add] using this
          obtain⟨v0,hv0⟩:=hfirst
          obtain⟨b,o,sp⟩:=a
          have hspn:sp=none:=by
           cases sp with
           |none=>rfl
           | some s=>
             simp only[World.cell?] at hv0
             split at hv0
             · simp at hv0
             · cases hv0
          subst hspn
          have hb:b<w.heap.size:=World.block_lt_of_cell? w _ hv0
          obtain⟨f1,f2⟩:=Yu hsz (L:=L.map (·.1)) (fun l hl=>by
           obtain⟨z,hz,rfl⟩:=List.mem_map.1 hl
           exact hlen z hz)
          have hcell:∀(k:Nat) A,((L.map (·.1)).flatten)[k]?=some A→∃v,w.cell? ⟨b,o+k,none⟩=some v∧VRel (Env.plain w) none A v:=fun k A hk=>by
           obtain⟨l,h1,h2⟩:=f2 k A hk
           rw[List.getElem?_map] at h1
           obtain⟨z,hz,rfl⟩:=Option.map_eq_some_iff.1 h1
           have hlt:k / P.cellsOf e<elems.length:=by rw[←hl1];exact(List.getElem?_eq_some_iff.1 hz).1
           obtain⟨v,h3,h4⟩:=(hl2 _ z _ hz (List.getElem?_eq_getElem hlt)).2.2.2 _ A h2
           refine⟨v,?_,h4⟩
           rw[Addr.add_lit,Addr.add_lit] at h3
           have hk':o+k / P.cellsOf e*P.cellsOf e+k%P.cellsOf e=o+k:=by rw[Nat.add_assoc,Nat.mul_comm];congr 1;exact Nat.div_add_mod k _
           rwa [hk'] at h3
          refine .imm none _ _ b o len cap (fun k=>(w.cell? ⟨b,o+k,none⟩).getD undef) rfl hb ⟨hsz,by rw[f1];simp[hl1,e1]⟩ hlc (fun k A hk=>?_) fun k A hk=>?_
          · obtain⟨v,h1,_⟩:=hcell k A hk
            show w.cell? _=some ((w.cell? _).getD undef)
            rw[h1];rfl
          · obtain⟨v,h1,h2⟩:=hcell k A hk
            show VRel _ none A ((w.cell? _).getD undef)
            rw[h1];exact h2
    · cases h
   case h_9 fs hu=>
    split at h
    · rename_i hl
      simp only[Option.map_eq_some_iff] at h
      obtain⟨xs,hx,rfl⟩:=h
      obtain⟨e1,e2⟩:=yD hx
      obtain⟨L,h1,h2,h3,h4⟩:=Qz (R:=Sh P) fs.toList 0 _ _ xs (hP.tile t ht fs hu) hl.symm (Nat.zero_le _) (fun i f y hf hy=>by
       obtain⟨y',hy',hr⟩:=e2 i f hf
       rw[hy] at hy'
       cases hy'
       exact qP hP n _ _ _ (by unfold Zz at hS;rw[hu] at hS;exact hS f (List.mem_of_getElem? hf)) hr) e1
      refine⟨(L.map (·.1)).flatten,?_,by simpa using h4⟩
      have:=Sh.struct (P:=P) t fs L hu (by simpa using h1) (fun i f x hf hx=>h2 i f x (by simpa using hf) hx)
      rw[h3] at this
      simp only[Z5]
      rwa [Nat.add_comm]
    · cases h
   all_goals first
    |cases h;done
    |exact other (by simp[*]) (by simp[*]) (by simp[*]) (by simp[*]) (by simp[*])
end
end Go.Ga

namespace Go.Ga
open Go Go.ChangeShapes Go.WideShapes Go.RowKit
def KX (P:Program)(S:List TypeId):Bool:=
 S.all fun t=>match P.underlying t with
  |some .bool=>true
  |some (.int _)=>true
  |some .string=>true
  |some (.slice e)=>decide (0<P.cellsOf e)&&S.contains e
  |some (.struct fs)=>fs.toList.all (fun f=>S.contains f.type)&&(yJ P 0 fs.toList==some (P.cellsOf t))
  |_=>false
theorem Vg {P:Program}{S:List TypeId}(h:KX P S=true):wU P S:=by
 refine⟨fun t ht=>?_,fun t ht fs hu=>?_⟩
 · have:=List.all_eq_true.1 h t ht
   unfold Zz
   cases hu:P.underlying t with
   |none=>rw[hu] at this;cases this
   | some d=>
     rw[hu] at this
     cases d with
     |bool=>trivial
     |int k=>trivial
     |string=>trivial
     | slice e=>
       simp only[Bool.and_eq_true,decide_eq_true_eq,List.contains_iff_mem] at this
       exact this
     | struct fs=>
       simp only[Bool.and_eq_true,List.all_eq_true,List.contains_iff_mem] at this
       exact this.1
     |_=>cases this
 · have:=List.all_eq_true.1 h t ht
   rw[hu] at this
   simp only[Bool.and_eq_true,beq_iff_eq] at this
   exact this.2
section
variable {H:Type} {enc:TypeId×Value→H} {P:Program}
theorem Vx {W W':World}(hO:Kg W W')(hos:W'.os=W.os)(hout:W'.output=W.output)(may:MemPlace→Prop):W.keptBut W' may:=by
 refine⟨hos,hout,fun i hi=>?_⟩
 rw[hO i hi]
 cases W.heap[i]? with
 |none=>rfl
 | some o=>cases o with
   |cells c t fr=>exact⟨rfl,rfl,rfl,fun _ _=>rfl⟩
   |map es clock=>exact .inr ⟨rfl,rfl⟩
   |_=>rfl
theorem Jp {w:World}{sp:Nat→Bool}{gs:List (DataW H)}{ps:List MemPlace}(h:DataW.TrodVars enc P w sp [] gs ps):gs=[]∧ps=[]:=by
 cases gs with
 |nil=>exact⟨rfl,h⟩
 |cons=>cases h
theorem Um {S:List TypeId}(hS:∀t∈S,Zz P S t){f:Func}{s:ChangeSpec}{W W':World}{args:Array Value}{ds gs:List (DataW H)}{before:List MemPlace}(hW:DataW.Whole enc P f.params.toList s.vars false W args.toList ds gs before)
    (hts:∀t∈f.params.toList,t∈S) (hv:s.vars=[]) (hres:(s.fn H (ds++gs)).results=[.lit (.bool true)]) (harg:(s.fn H (ds++gs)).args=ds) (hvr:(s.fn H (ds++gs)).vars=[]) {tb:TypeId} (hrt:f.resultTypes= #[tb]) (hb:P.underlying tb=some .bool) (hO:Kg W W') (hos:W'.os=W.os) (hout:W'.output=W.output):
    s.post enc P f false true false false W args (.bool true) W':=by
  have hW':=hW
  obtain⟨p,q,hA,hV,hpq,hz,hn⟩:=hW
  rw[hv] at hV
  obtain⟨rfl,rfl⟩:=Jp hV
  rw[List.append_nil] at hpq
  subst hpq
  have hres':∀(b:Nat) (sp:Nat→Bool) (hd:Bool),DataW.TrodAll enc P W' b sp hd f.resultTypes.toList ((Value.bool true).resultList f.resultTypes.size) (s.fn H (ds++[])).results []:=fun b sp hd=>by
    rw[hres,hrt]
    exact⟨[],[],⟨1,by simp[DataW.trod,hb,Value.cells]⟩,rfl,rfl⟩
  refine⟨ds,[],before,[],before,[],hW',hres' _ _ _,?_,?_,Vx hO hos hout _,fun h=>by cases h⟩
  · rw[harg]
    exact Qc hS hO hts hA fun x hx=>by simpa using hW'.lt x hx
  · rw[hvr,hv];rfl
def SA (P:Program)(t:TypeId)(A:za)(b:Nat):Prop:=
 ((∃fs,P.underlying t=some (.struct fs))∧∃As,A= .agg As∧Sh P t As b)∨((∀fs,P.underlying t≠some (.struct fs))∧Sh P t [A] b)
inductive Kf (P:Program):List TypeId→List za→Nat→Prop
 |nil:Kf P [] [] 0
 |cons (t:TypeId) (A:za) (b:Nat) (ts:List TypeId) (As:List za) (c:Nat) (h:SA P t A b) (hr:Kf P ts As c):Kf P (t::ts) (A::As) (b+c)
theorem Xp {S:List TypeId}(hP:wU P S){w:World}{base:Nat}{t:TypeId}{v:Value}{d:DataW H}{ps:List MemPlace}(hok:Value.okWide P w .any base t v)(ht:t∈S)(h:DataW.Trod enc P w 0 (fun _=>true) true t v d ps):
    ∃A,SA P t A (Z5 d)∧VRel (Env.plain w) none A v:=by
  obtain⟨fuel,h⟩:=h
  obtain⟨As,hS,hl,hc⟩:=qP hP fuel t _ _ ht h
  have hna:∀n e,P.underlying t≠some (.array n e):=fun n e hu=>by
    have:=hP.at_ t ht
    unfold Zz at this
    rw[hu] at this
    exact this
  by_cases hs:∃fs,P.underlying t=some (.struct fs)
  · obtain⟨fs,hs⟩:=hs
    unfold Value.okWide at hok
    rw[hs] at hok
    obtain⟨cs,rfl,_,_⟩:=hok
    refine⟨.agg As,.inl ⟨⟨fs,hs⟩,As,rfl,hS⟩,.agg none As cs (by simpa[Value.cells] using hl.symm) fun k A v hA hv=>hc k A v hA (by simpa[Value.cells] using hv)⟩
  · have hns:∀fs,P.underlying t≠some (.struct fs):=fun fs e=>hs ⟨fs,e⟩
    have hv:v.cells= #[v]:=by
      cases v with
      | agg cs=>
        exfalso
        unfold Value.okWide at hok
        cases hu:P.underlying t with
        | none=>
          rw[hu] at hok
          simp[Cell.okWide,Cell.ok,hu] at hok
        | some dsc=>
          rw[hu] at hok
          cases dsc with
          |struct fs=>exact hns fs hu
          |array n e=>exact hna n e hu
          |_=>simp[Cell.okWide,Cell.ok,hu] at hok
      |_=>rfl
    rw[hv] at hl hc
    have:∃A,As=[A]:=by
      match As,hl with
      |[A],_=>exact⟨A,rfl⟩
    obtain⟨A,rfl⟩:=this
    exact⟨A,.inr ⟨hns,hS⟩,hc 0 A v rfl rfl⟩
theorem JU {S:List TypeId}(hP:wU P S){w:World}{base:Nat}:∀{ts:List TypeId} {vs:List Value} {ds:List (DataW H)} {ps:List MemPlace},(∀(j:Nat) t v,ts[j]?=some t→vs[j]?=some v→Value.okWide P w .any base t v)→(∀t∈ts,t∈S)→
    DataW.TrodAll enc P w 0 (fun _=>true) true ts vs ds ps→∃As,Kf P ts As (bulkL ds)∧As.length=vs.length∧∀(k:Nat) A v,As[k]?=some A→vs[k]?=some v→VRel (Env.plain w) none A v
  |[],[],[],ps,_,_,_=>⟨[],.nil,rfl,fun k A v h=>by simp at h⟩
  | t::ts,v::vs,d::ds,ps,hok,hna,⟨p,q,h1,h2,_⟩=>by
    obtain⟨A,hA,hv⟩:=Xp hP (hok 0 t v rfl rfl) (hna t (.head _)) h1
    obtain⟨As,hAs,hl,hvs⟩:=JU hP (fun j t' v' ht hv'=>hok (j+1) t' v' (by simpa using ht) (by simpa using hv')) (fun t ht=>hna t (.tail _ ht)) h2
    refine⟨A::As,.cons t A _ ts As _ hA hAs,by simp[hl],fun k B u hB hu=>?_⟩
    cases k with
    |zero=>simp at hB hu;subst hB;subst hu;exact hv
    |succ k=>exact hvs k B u (by simpa using hB) (by simpa using hu)
theorem Y8 {S:List TypeId}(hP:wU P S){f:Nat}{fn:Func}{s:ChangeSpec}{B:Nat}{W:World}{base:Nat}{args:Array Value}{ds gs:List (DataW H)}{before:List MemPlace}
    (hval:∀(j:Nat) t v,fn.params[j]?=some t→args[j]?=some v→Value.okWide P W .any base t v) (hna:∀t∈fn.params.toList,t∈S)
    (hW:DataW.Whole enc P fn.params.toList s.vars false W args.toList ds gs before) (hv:s.vars=[]) (hres:(s.fn H (ds++gs)).results=[.lit (.bool true)]) (harg:(s.fn H (ds++gs)).args=ds) (hvr:(s.fn H (ds++gs)).vars=[])
    {tb:TypeId} (hrt:fn.resultTypes= #[tb]) (hb:P.underlying tb=some .bool) (hbk:bulkL (ds++gs)≤B)
    (H0:∀As b,Kf P fn.params.toList As b→b≤B→zF P [] f As [] fun r _=>r= .sc (.bool true)):
    Calls P f args W fun e W'=>∃v,e= .returned v∧s.post enc P fn false true false false W args v W':=by
  have hW':=hW
  obtain⟨p,q,hA,hV,hpq,hz,hn⟩:=hW
  rw[hv] at hV
  obtain⟨rfl,rfl⟩:=Jp hV
  obtain⟨As,hAs,hl,hvs⟩:=JU hP (fun j t v ht hv'=>hval j t v (by simpa using ht) (by simpa using hv')) hna hA
  rw[List.append_nil] at hbk
  have hC:=(H0 As _ hAs hbk).2 (Env.plain W) args ⟨rfl,fun b q h=>(by cases h),fun id cs h=>(by simp at h)⟩ (by simpa using hl.symm) fun k A v hA' hv'=>(hvs k A v hA' (by simpa using hv')).any rfl _
  refine hC.mono fun e W' ⟨v,r,h',E',he,hw,_,hr,hp,hq⟩=>?_
  subst he hw hq
  cases hr
  refine⟨_,rfl,Um hP.at_ hW' hna hv hres harg hvr hrt hb (fun b hlt=>(hp.old b rfl hlt).2) hp.os hp.output⟩
end
end Go.Ga

namespace Go.Ga
open Go
def gN (n:Nat)(j:Nat):Option Nat:=if j<n then some j else none
theorem zF.less {P:Program}{L L':List (List Nat)}{f:Nat}{args:List za}{h:Heap}{Q:za→Heap→Prop}(H:zF P L f args h Q)(hL:∀r∈L',r∈L):zF P L' f args h Q:=
 ⟨H.1,fun E vs h1 h2 h3=>(H.2 E vs h1 h2 h3).mono fun _ _ ⟨v,r,h',E',a,b,c,d,e,q⟩=>⟨v,r,h',E',a,b,c,d,⟨e.size,e.os,e.tape,e.output,e.old,e.far,e.farB,e.ids,fun b r hr=>e.keep b r ⟨hL r hr.1,hr.2⟩⟩,q⟩⟩
theorem zF.nil {P:Program}{L:List (List Nat)}{f:Nat}{args:List za}{h:Heap}{Q:za→Heap→Prop}(H:zF P L f args h Q):zF P [] f args h Q:=H.less fun r hr=>by cases hr
attribute [go_sem] gN
end Go.Ga

namespace Go.Ga
open Go
def zY {α:Type}(f:α→List za):List α→List za
 |[]=>[]
 |x::l=>f x++zY f l
section
variable {α:Type} {f:α→List za} {sz:Nat}
theorem qo (hf:∀x,(f x).length=sz):∀l:List α,(zY f l).length=l.length*sz
 |[]=>by simp[zY]
 |x::l=>by simp only[zY,List.length_append,hf,qo hf l,List.length_cons,Nat.add_mul];omega
theorem qX (hf:∀x,(f x).length=sz):∀(l:List α) (k:Nat),(zY f l).drop (k*sz)=zY f (l.drop k)
 |[],k=>by simp[zY]
 |x::l,0=>by simp
 | x::l,k+1=>by
   simp only[zY,List.drop_succ_cons]
   rw[←qX hf l k,Nat.add_mul,Nat.one_mul,List.drop_append,hf]
   rw[List.drop_of_length_le (by rw[hf];omega),List.nil_append]
   congr 1;omega
theorem Un (hf:∀x,(f x).length=sz){l:List α}{k:Nat}{x:α}(h:l[k]?=some x)(r:Nat)(hr:r<sz):(zY f l)[k*sz+r]?=(f x)[r]?:=by
 rw[←List.getElem?_drop,qX hf]
 have hlt:k<l.length:=(List.getElem?_eq_some_iff.1 h).1
 rw[List.drop_eq_getElem_cons hlt]
 have hx:l[k]=x:=by rw[List.getElem?_eq_getElem hlt] at h;exact Option.some.inj h
 rw[hx]
 simp only[zY]
 rw[List.getElem?_append_left (by rw[hf];exact hr)]
theorem W0 (hf:∀x,(f x).length=sz){l:List α}{k:Nat}{x:α}(h:l[k]?=some x):((zY f l).drop (k*sz)).take sz=f x:=by
 rw[qX hf]
 have hlt:k<l.length:=(List.getElem?_eq_some_iff.1 h).1
 rw[List.drop_eq_getElem_cons hlt]
 have hx:l[k]=x:=by rw[List.getElem?_eq_getElem hlt] at h;exact Option.some.inj h
 rw[hx]
 simp only[zY]
 rw[List.take_append_of_le_length (by rw[hf];exact Nat.le_refl _),List.take_of_length_le (by rw[hf];exact Nat.le_refl _)]
theorem jW (h:∀x,za.plainL (f x)=true):∀l:List α,za.plainL (zY f l)=true
 |[]=>rfl
 | x::l=>by
   have app:∀a b:List za,za.plainL a=true→za.plainL b=true→za.plainL (a++b)=true:=fun a b ha hb=>by
    induction a with
    |nil=>exact hb
    |cons y a ih=>simp only[za.plainL,Bool.and_eq_true] at ha;simp only[List.cons_append,za.plainL,ha.1,ih ha.2,Bool.and_self]
   exact app _ _ (h x) (jW h l)
theorem JA (h:∀x,za.flatL (f x)=true):∀l:List α,za.flatL (zY f l)=true
 |[]=>rfl
 | x::l=>by
   have app:∀a b:List za,za.flatL a=true→za.flatL b=true→za.flatL (a++b)=true:=fun a b ha hb=>by
    induction a with
    |nil=>exact hb
    |cons y a ih=>simp only[za.flatL,Bool.and_eq_true] at ha;simp only[List.cons_append,za.flatL,ha.1,ih ha.2,Bool.and_self]
   exact app _ _ (h x) (JA h l)
theorem jB (h:∀x,za.cellOkL (f x)=true):∀l:List α,za.cellOkL (zY f l)=true
 |[]=>rfl
 | x::l=>by
   have app:∀a b:List za,za.cellOkL a=true→za.cellOkL b=true→za.cellOkL (a++b)=true:=fun a b ha hb=>by
    induction a with
    |nil=>exact hb
    |cons y a ih=>simp only[za.cellOkL,Bool.and_eq_true] at ha;simp only[List.cons_append,za.cellOkL,ha.1,ih ha.2,Bool.and_self]
   exact app _ _ (h x) (jB h l)
end
def two (x:Int×Int):List za:=[.sc (.int .i64 x.1),.sc (.int .i64 x.2)]
theorem kr (x:Int×Int):(two x).length=2:=rfl
def Gr (x:Int×Int×Int):List za:=[.sc (.int .i64 x.1),.sc (.int .i64 x.2.1),.sc (.int .i64 x.2.2)]
theorem ku (x:Int×Int×Int):(Gr x).length=3:=rfl
abbrev Y3 (l:List (Int×Int)):List za:=zY two l
abbrev Y5 (l:List (Int×Int×Int)):List za:=zY Gr l
theorem WF (l:List (Int×Int)):(Y3 l).length=l.length*2:=qo kr l
theorem WI (l:List (Int×Int×Int)):(Y5 l).length=l.length*3:=qo ku l
theorem qO (l:List (Int×Int)):za.plainL (Y3 l)=true:=jW (fun _=>rfl) l
theorem qQ (l:List (Int×Int×Int)):za.plainL (Y5 l)=true:=jW (fun _=>rfl) l
theorem uP (l:List (Int×Int)):za.flatL (Y3 l)=true:=JA (fun _=>rfl) l
theorem uT (l:List (Int×Int×Int)):za.flatL (Y5 l)=true:=JA (fun _=>rfl) l
theorem WH (l:List (Int×Int)):za.cellOkL (Y3 l)=true:=jB (fun _=>rfl) l
theorem WK (l:List (Int×Int×Int)):za.cellOkL (Y5 l)=true:=jB (fun _=>rfl) l
theorem qD (l:List (Int×Int)):za.copyableL (Y3 l)=true:=plain_copyableL _ (qO l)
theorem qE (l:List (Int×Int×Int)):za.copyableL (Y5 l)=true:=plain_copyableL _ (qQ l)
theorem WG (l:List (Int×Int)):za.freezeL (Y3 l)=Y3 l:=copyable_freezeL _ (qD l)
theorem WJ (l:List (Int×Int×Int)):za.freezeL (Y5 l)=Y5 l:=copyable_freezeL _ (qE l)
theorem wj (l:List (Int×Int)):za.ids0L (Y3 l)=true:=plain_ids0L _ (qO l)
theorem wn (l:List (Int×Int×Int)):za.ids0L (Y5 l)=true:=plain_ids0L _ (qQ l)
theorem vx (g:Nat→Option Nat)(l:List (Int×Int)):za.renL g (Y3 l)=Y3 l:=ids0_renL g _ (wj l)
theorem vA (g:Nat→Option Nat)(l:List (Int×Int×Int)):za.renL g (Y5 l)=Y5 l:=ids0_renL g _ (wn l)
attribute [go_sem] WF WI qO qQ uP uT WH WK qD qE WG WJ wj wn vx vA
end Go.Ga

namespace Go.Ga
open Go
section
variable {P:Program} {rs:List Nat} {N:Nat} {V:List Nat} {L:List (List Nat)} {x:zW} {K:ZA→zb→Prop} {st:zb}
theorem Z7 (p:List Nat)(sz:Nat)(hp:st.at p=some (.sc (.slice none 0 0)))(h:ju P rs N V L x K ((st.kill (za.under p true)).setAt p (.own (some sz) []))):ju P rs N V L x K st:=
 QM (fun E tm R=>by
  obtain⟨u,hu,hr⟩:=R.at_ hp rfl
  cases hr
  have U:zP p E E:=⟨Nat.le_refl _,E.ids_refl,fun _ h _=>⟨h,rfl⟩,fun _ _ h _=>⟨h,rfl⟩⟩
  exact⟨E,R.turn (keep:=true) hp rfl (fun _=>⟨_,_,rfl⟩) U R.lim rfl hu (.ownNil _ sz),zz.refl E,rfl⟩) h
theorem zX (p:List Nat){sz:Option Nat}{cs:List za}(hp:st.at p=some (.own sz cs))(h:ju P rs N V L x K ((st.kill (za.under p false)).setAt p (za.own sz cs).freeze)):ju P rs N V L x K st:=
 QM (fun E tm R=>by
  obtain⟨u,hu,hr⟩:=R.at_ hp rfl
  have U:zP p E (E.freeze p):=jy p
  have hB:VRel (E.freeze p) (some p) (za.own sz cs).freeze u:=hr.frozen p _ fun ℓ e=>by cases e;exact List.prefix_refl _
  exact⟨_,R.turn (keep:=false) hp rfl (fun e=>by cases e) U (JD R.lim) rfl hu hB,jV (Zo (zn hp)),rfl⟩) h
end
def ya (A' A:za):Prop:=∀E po v,VRel E po A' v→VRel E po A v
theorem ya.refl (A:za):ya A A:=fun _ _ _ h=>h
theorem ya.imm (sz:Nat):ya (.sc (.slice none 0 0)) (.imm sz []):=fun _ _ _ h=>by cases h;exact .immNil _ _ _
theorem ya.own (sz:Nat):ya (.sc (.slice none 0 0)) (.own (some sz) []):=fun _ _ _ h=>by cases h;exact .ownNil _ _
theorem ya.dead (A:za):ya A .dead:=fun _ _ v _=> .dead _ v
inductive Jl :List za→List za→Prop
 |nil:Jl [] []
 |cons {A' A:za} {l' l:List za} (h:ya A' A) (hl:Jl l' l):Jl (A'::l') (A::l)
theorem Jl.get :∀{l' l:List za},Jl l' l→l'.length=l.length∧∀(k:Nat) A,l[k]?=some A→∃A',l'[k]?=some A'∧ya A' A
 |_,_,.nil=>⟨rfl,fun k A h=>by simp at h⟩
 | _,_,.cons (A':=A') h hl=>by
   obtain⟨h1,h2⟩:=hl.get
   refine⟨by simp[h1],fun k A hA=>?_⟩
   cases k with
   |zero=>simp at hA;subst hA;exact⟨A',rfl,h⟩
   |succ k=>simp at hA;simpa using h2 k A hA
theorem Jl.refl :∀l:List za,Jl l l
 |[]=> .nil
 |A::l=> .cons (.refl A) (.refl l)
def jH (l:List (List Nat)):List za:=l.map fun xs=> .own (some 1) (Z4 xs)
def jT (l:List (List Nat)):List za:=l.map fun xs=> .imm 1 (Z4 xs)
theorem Ub (l:List (List Nat)):(jH l).length=l.length:=by simp[jH]
theorem Ud (l:List (List Nat)):(jT l).length=l.length:=by simp[jT]
theorem u9 (l:List (List Nat))(k:Nat)(x:List Nat):(jH l).set k (.own (some 1) (Z4 x))=jH (l.set k x):=by simp[jH,List.map_set]
theorem Qi :∀l:List (List Nat),za.freezeL (jH l)=jT l
 |[]=>rfl
 | x::l=>by
   have ih:=Qi l
   simp only[jH,jT,List.map_cons,za.freezeL,za.freeze,yk] at ih⊢
   rw[ih]
theorem jS :∀l:List (List Nat),za.plainL (jT l)=true
 |[]=>rfl
 | x::l=>by
   have ih:=jS l
   simp only[jT,List.map_cons,za.plainL,za.plain,JC,Bool.true_and] at ih⊢
   exact ih
theorem Qk :∀l:List (List Nat),za.cellOkL (jT l)=true
 |[]=>rfl
 | x::l=>by
   have ih:=Qk l
   simp only[jT,List.map_cons,za.cellOkL,za.cellOk,Bool.true_and] at ih⊢
   exact ih
theorem Qj :∀l:List (List Nat),za.cellOkL (jH l)=true
 |[]=>rfl
 | x::l=>by
   have ih:=Qj l
   simp only[jH,List.map_cons,za.cellOkL,za.cellOk,Bool.true_and] at ih⊢
   exact ih
theorem yS :∀l:List (List Nat),za.flatL (jH l)=true
 |[]=>rfl
 | x::l=>by
   have ih:=yS l
   simp only[jH,List.map_cons,za.flatL,za.flat,wy,Bool.true_and] at ih⊢
   exact ih
theorem qT :∀l:List (List Nat),za.ids0L (jH l)=true
 |[]=>rfl
 | x::l=>by
   have ih:=qT l
   simp only[jH,List.map_cons,za.ids0L,za.ids0,QT,Bool.true_and] at ih⊢
   exact ih
theorem JZ (l:List (List Nat)):za.copyableL (jT l)=true:=plain_copyableL _ (jS l)
theorem w7 (l:List (List Nat)):za.freezeL (jT l)=jT l:=copyable_freezeL _ (JZ l)
theorem yT (l:List (List Nat)):za.ids0L (jT l)=true:=plain_ids0L _ (jS l)
theorem Uc (g:Nat→Option Nat)(l:List (List Nat)):za.renL g (jT l)=jT l:=ids0_renL g _ (yT l)
theorem Ua (g:Nat→Option Nat)(l:List (List Nat)):za.renL g (jH l)=jH l:=ids0_renL g _ (qT l)
theorem wx (l:List Nat)(x:Nat):Z4 l++[.sc (.int .i64 (x:Int))]=Z4 (l++[x]):=by simp[Z4]
theorem Gv (zs:List Value):zv zs 1=zs.map .sc++[]:=rfl
theorem Gu (zs:List Value):zv zs 2=zs.map .sc++(zs.map .sc++[]):=rfl
theorem Gt (zs:List Value):zv zs 3=zs.map .sc++(zs.map .sc++(zs.map .sc++[])):=rfl
attribute [go_sem] Gv Gu Gt Ub Ud u9 Qi jS Qk Qj yS qT JZ w7 yT Uc Ua
end Go.Ga

namespace Go.Ga
open Go
section
variable {P:Program} {t:TypeId} {b:Nat}
theorem KO {k:IntKind}{cs:List za}(hu:P.underlying t=some (.int k))(h:Sh P t cs b):∃n,cs=[.sc (.int k n)]∧(Lit.int k n).wf=true∧b=1:=by
 cases h with
 |int _ k' n hu' hw=>rw[hu] at hu';cases hu';exact⟨n,rfl,hw,rfl⟩
 |bool _ _ h'=>rw[hu] at h';cases h'
 |string _ _ h'=>rw[hu] at h';cases h'
 |slice _ _ _ _ h'=>rw[hu] at h';cases h'
 |struct _ _ _ h'=>rw[hu] at h';cases h'
 |other _ _ _ h1=>exact absurd hu (h1 k)
theorem KU {A:za}(hu:∀fs,P.underlying t≠some (.struct fs))(h:SA P t A b):Sh P t [A] b:=by
 rcases h with⟨⟨fs,h⟩,_⟩|⟨_,h⟩
 · exact absurd h (hu fs)
 · exact h
theorem vP {ts:List TypeId}{As:List za}(h:Kf P (t::ts) As b):∃A As' c d,As=A::As'∧b=c+d∧SA P t A c∧Kf P ts As' d:=by
 cases h with
 |cons _ A c _ As' d h hr=>exact⟨A,As',c,d,rfl,rfl,h,hr⟩
theorem kL {As:List za}(h:Kf P [] As b):As=[]:=by cases h;rfl
theorem KV {k:IntKind}{A:za}(hu:P.underlying t=some (.int k))(h:SA P t A b):∃n,A= .sc (.int k n)∧(Lit.int k n).wf=true:=by
 obtain⟨n,h1,h2,_⟩:=KO hu (KU (fun fs h=>by rw[hu] at h;cases h) h)
 exact⟨n,by injection h1,h2⟩
end
end Go.Ga

namespace Go.Ga
open Go
end Go.Ga

namespace Go.Ga
open Go
def JS (vs:List (Nat×za)):List (Nat×za)→List (Nat×za)
 |[]=>vs
 |(i,A)::l=>JS (Xi vs i A) l
theorem zC (vs:List (Nat×za)):JS vs []=vs:=rfl
theorem zx (vs:List (Nat×za))(i:Nat)(A:za)(l:List (Nat×za)):JS vs ((i,A)::l)=JS (Xi vs i A) l:=rfl
theorem Gg (x y a b:za):zM [x,y] 0 [a,b]=[a,b]:=rfl
theorem Gf (x y z a b c:za):zM [x,y,z] 0 [a,b,c]=[a,b,c]:=rfl
theorem gK (n:Nat):n*2 / 2=n:=by omega
theorem Gj (n:Nat):n*3 / 3=n:=by omega
theorem UB {k:Nat}(h:k<4611686018427387904):IntKind.i64.wrap ((k:Int)+1)=((k+1:Nat):Int):=by rw[IntWalk.i64_in _ (by omega)];omega
theorem Gx {α:Type}(x:α)[Decidable (x≠x)]:decide (x≠x)=false:=decide_eq_false (fun h=>h rfl)
theorem Gy {α:Type}(x:α)[Decidable (x=x)]:decide (x=x)=true:=decide_eq_true rfl
theorem k0 (a b c d:Int):qa [.sc (.int .i64 a),.sc (.int .i64 b)] [.sc (.int .i64 c),.sc (.int .i64 d)]=some (decide ((a,b)=(c,d))):=by
 simp[qa]
attribute [go_sem] Int.toNat_zero Int.toNat_one Nat.div_one Int.cast_ofNat_Int decide_true decide_false bne_self_eq_false Bool.not_false Bool.not_true Nat.zero_le or_self true_or or_true List.length_set List.length_range j4 k0 Option.bind_some YY Gg Gf gK Gj WF WI Gx Gy zC zx
theorem Jl.own {sz:Nat}{l' l:List za}(h:Jl l' l):ya (.own (some sz) l') (.own (some sz) l):=fun E po v hv=>by
 obtain⟨h1,h2⟩:=h.get
 cases hv with
 | own ℓ _ _ b o len cap arr T f hO hb hl hc hm ha hf hh=>
   refine .own ℓ sz l b o len cap arr T f hO hb (by rw[←h1];exact hl) hc hm ha (fun k A hA=>?_) fun k A hA=>?_
   · obtain⟨A',hA',_⟩:=h2 k A hA;exact hf k A' hA'
   · obtain⟨A',hA',hs⟩:=h2 k A hA;exact hs _ _ _ (hh k A' hA')
 | ownNil=>
   cases l with
   |nil=>exact .ownNil _ _
   |cons=>simp at h1
theorem Jl.imm {sz:Nat}{l' l:List za}(h:Jl l' l):ya (.imm sz l') (.imm sz l):=fun E po v hv=>by
 obtain⟨h1,h2⟩:=h.get
 cases hv with
 | imm _ _ _ b o len cap f hO hb hl hc hf hh=>
   refine .imm po sz l b o len cap f hO hb (by rw[←h1];exact hl) hc (fun k A hA=>?_) fun k A hA=>?_
   · obtain⟨A',hA',_⟩:=h2 k A hA;exact hf k A' hA'
   · obtain⟨A',hA',hs⟩:=h2 k A hA;exact hs _ _ _ (hh k A' hA')
 | immNil=>
   cases l with
   |nil=>exact .immNil _ _ _
   |cons=>simp at h1
theorem Jl.agg {l' l:List za}(h:Jl l' l):ya (.agg l') (.agg l):=fun E po v hv=>by
 obtain⟨h1,h2⟩:=h.get
 cases hv with
 | agg _ _ vs hs hh=>
   refine .agg po l vs (by rw[←h1];exact hs) fun k A v hA hv=>?_
   obtain⟨A',hA',hs'⟩:=h2 k A hA
   exact hs' _ _ _ (hh k A' v hA' hv)
section
variable {P:Program} {rs:List Nat} {N:Nat} {V:List Nat} {L:List (List Nat)} {x:zW} {K:ZA→zb→Prop} {st:zb}
end
def jx (xs:List Bool):List za:=xs.map fun b=> .sc (.bool b)
theorem vl (xs:List Bool):(jx xs).length=xs.length:=by simp[jx]
theorem vi (xs:List Bool)(k:Nat)(b:Bool):(jx xs).set k (.sc (.bool b))=jx (xs.set k b):=by
 simp[jx,List.map_set]
theorem qi (xs:List Bool):za.plainL (jx xs)=true:=(jR _ xs).1
theorem ug (xs:List Bool):za.flatL (jx xs)=true:=(jR _ xs).2
theorem QD :∀xs:List Bool,za.cellOkL (jx xs)=true
 |[]=>rfl
 |b::l=>by show(_&&za.cellOkL (jx l))=true;rw[QD l];rfl
theorem qj (xs:List Bool):za.copyableL (jx xs)=true:=plain_copyableL _ (qi xs)
theorem Wz (xs:List Bool):za.freezeL (jx xs)=jx xs:=copyable_freezeL _ (qj xs)
theorem YN (xs:List Bool):za.ids0L (jx xs)=true:=plain_ids0L _ (qi xs)
theorem vk (g:Nat→Option Nat)(xs:List Bool):za.renL g (jx xs)=jx xs:=ids0_renL g _ (YN xs)
theorem uf (n:Nat):zv [.bool false] n=jx (List.replicate n false):=by
 simp only[zv,List.map]
 induction n with
 |zero=>rfl
 |succ n ih=>simp only[List.replicate_succ,List.flatten_cons,ih];rfl
attribute [go_sem] vl vi qi ug QD qj Wz YN vk uf
section
variable {P:Program} {rs:List Nat} {N:Nat} {V:List Nat} {L:List (List Nat)} {K:ZA→zb→Prop} {x:zW}
theorem QJ {vs:List (Nat×za)}{h0:Heap}{α:Type}(J:List Nat)(f:α→List (Nat×za))(g:α→Heap)(inv:α→Nat→Prop)(a0:α)(n0:Nat)(hJ:(J.all fun i=>V.contains i)=true)
    (hs:zb.forget ⟨vs,[],h0⟩ J=⟨JS vs (J.map (fun i=>(i,za.dead))++f a0),[],g a0⟩) (hi:inv a0 n0)
    (h:∀a n,inv a n→∀X:ZA→zb→Prop,(∀s a' m,m<n→s.forget J=⟨JS vs (J.map (fun i=>(i,za.dead))++f a'),[],g a'⟩→inv a' m→X .normal s)→(∀i s,K (.exit i) s→X (.exit i) s)→(∀s,K .ret s→X .ret s)→
      ju P rs N V L x X ⟨JS vs (J.map (fun i=>(i,za.dead))++f a),[],g a⟩):ju P rs N V L (.loop x) K ⟨vs,[],h0⟩:=by
  refine vr (fun n s=>∃a,inv a n∧s.forget J=⟨JS vs (J.map (fun i=>(i,za.dead))++f a),[],g a⟩) n0 ⟨a0,hi,hs⟩ ?_
  rintro n s ⟨a,ha,hst⟩ X hn he hr
  refine XC J hJ ?_
  rw[hst]
  exact h a n ha X (fun s a' m hm hs' hi'=>hn m s hm ⟨a',hi',hs'⟩) he hr
end
end Go.Ga

namespace Go.Ga
open Go
section
variable {P:Program} {t:TypeId} {b:Nat}
end
end Go.Ga

namespace Go.Ga
open Go
section
variable {L:List (List Nat)} {E:Env} {N:Nat} {V:List Nat} {st:zb} {a:Act} {tm:Array Value}
end
section
variable {P:Program} {rs:List Nat} {N:Nat} {V:List Nat} {L:List (List Nat)} {x:zW} {K:ZA→zb→Prop} {st:zb}
end
end Go.Ga
attribute [go_sem] reduceIte Nat.reduceEqDiff Nat.reduceBEq reduceCtorEq Nat.reduceLT Nat.reduceLeDiff Nat.reduceAdd Nat.reduceSub Nat.reduceMul Nat.reduceDiv Int.reduceAdd Int.reduceNeg Int.reduceEq Int.reduceLT Int.reduceLE

namespace Go.Ga
open Go
end Go.Ga

namespace Go.Ga
open Go
theorem QI {P:Program}{rs V:List Nat}{N:Nat}{L:List (List Nat)}{x y:zW}{K:ZA→zb→Prop}{st:zb}{c:zm}(h1:ju P rs N V L x K st)(hc:st.ev c= .sc (.bool true):=by first|rfl|(simp only[go_sem];try simp(disch:=omega) only[decide_eq_true,decide_eq_false])):ju P rs N V L (.cond c x y) K st:=uN hc h1
theorem yb {P:Program}{rs V:List Nat}{N:Nat}{L:List (List Nat)}{x y:zW}{K:ZA→zb→Prop}{st:zb}{c:zm}(h1:ju P rs N V L y K st)(hc:st.ev c= .sc (.bool false):=by first|rfl|(simp only[go_sem];try simp(disch:=omega) only[decide_eq_true,decide_eq_false])):ju P rs N V L (.cond c x y) K st:=uO hc h1
def vp (P:Program)(nt k:Nat)(rs V:List Nat)(rss:List q9)(ac:zW)(f:Nat):Prop:=∀{L:List (List Nat)} {args:List za} {h:Heap} {Q:za→Heap→Prop},args.length=k→ju P rs nt V L ac (ub L rss Q) (wJ V args h)→zF P L f args h Q
theorem vq {P:Program}(hmix:P.follows .mixedOrders=true){f:Nat}{fn:Func}{k:Nat}{rs V:List Nat}{ac:zW}{rss:List q9}(hf:P.funcs[f]?=some fn)(hs:Xs P rs V fn=some (ac,rss))(hk:Nat.ble k fn.ntmps=true):vp P fn.ntmps k rs V rss ac f:=
 fun hl H=>yz hmix hf hs (by rw[hl];exact Nat.le_of_ble_eq_true hk) H
def oM (a b:Nat):zt:=(none,.r (.mov a (.t b)))
def oS (a b:Nat):zt:=(none,.asg a (.t b) true)
def oI (a:Nat)(k:Int):zt:=(none,.asg a (.c (.int .i64 k)) true)
def oZ (a:Nat):zt:=(none,.asg a (.c (.slice none 0 0)) true)
def oO (a:Nat):zt:=(none,.asg a (.c (.bool false)) true)
def oL (a b k:Nat):zt:=(none,.r (.ld a (.t b) k false))
def oT (a b k:Nat):zt:=(none,.r (.ld a (.t b) k true))
def oF (a b k:Nat):zt:=(none,.r (.fldA a (.t b) k))
def oX (a b c k:Nat):zt:=(none,.r (.idxA a (.t b) (.t c) k))
def oN (a b:Nat):zt:=(none,.r (.nilck a (.t b)))
def oE (a b:Nat):zt:=(none,.r (.len a (.t b)))
def oB (a:Nat)(op:BinOp)(b:Nat)(k:Int):zt:=(none,.r (.bin a op 0 (.t b) (.c (.int .i64 k))))
def oD (a:Nat)(op:BinOp)(b c:Nat):zt:=(none,.r (.bin a op 0 (.t b) (.t c)))
def oC (a f x:Nat):zt:=(none,.call a (.f f) [(.t x,false)])
def Vn (a f x y:Nat):zt:=(none,.call a (.f f) [(.t x,false),(.t y,false)])
def Gw (a f x y z:Nat):zt:=(none,.call a (.f f) [(.t x,false),(.t y,false),(.t z,false)])
def oP (a b c:Nat):zt:=(none,.r (.pick a (.t b) (.t c) (.c (.bool false))))
def oQ (a b c:Nat):zt:=(none,.r (.pick a (.t b) (.c (.bool true)) (.t c)))
def oW (a b k:Nat):zt:=(none,.st (.t a) (.t b) k)
def oY (a b k:Nat):zt:=(none,.r (.ext a (.t b) k))
def oK (g:Nat)(s:Bool)(a b:Nat):zt:=(some (g,s),.r (.mov a (.t b)))
def XN (g:Nat)(s:Bool)(a b k:Nat):zt:=(some (g,s),.r (.ld a (.t b) k false))
def XO (g:Nat)(s:Bool)(a:Nat)(op:BinOp)(b:Nat)(k:Int):zt:=(some (g,s),.r (.bin a op 0 (.t b) (.c (.int .i64 k))))
def ko (g:Nat)(s:Bool)(a:Nat)(op:BinOp)(b c:Nat):zt:=(some (g,s),.r (.bin a op 0 (.t b) (.t c)))
attribute [go_sem] oM oS oI oZ oO oL oT oF oX oN oE oB oD oC Vn Gw oP oQ oW oY oK XN XO ko
end Go.Ga

namespace Go.Ga
open Go
theorem KT {E:Env}{po:Option (List Nat)}{u v:Value}(h:VRel E po (.sc u) v):u=v:=by
 generalize hA:za.sc u=A at h
 cases h<;>cases hA
 rfl
theorem yo {P:Program}{L:List (List Nat)}{f:Nat}(hc:qc P f=true){us:List Value}{v:Value}(H:∀w,Calls P f us.toArray w fun e w'=>e= .returned v∧w'=w):
    zF P L f (us.map .sc) [] fun r h'=>r= .sc v∧h'=[]:=by
  refine⟨hc,fun E vs hH hs hv=>?_⟩
  have e:vs=us.toArray:=by
    apply Array.ext
    · simpa using hs
    · intro i h1 h2
      have h3:i<us.length:=by simpa using h2
      have:=hv i (.sc us[i]) vs[i] (by simp[h3]) (by simp[h1])
      rw[←KT this];simp
  subst e
  refine(H E.w).mono fun e w' ⟨h1,h2⟩=>?_
  subst h1 h2
  exact⟨v,.sc v,[],E,rfl,rfl,hH,.sc _ _,zz.refl E,rfl,rfl⟩
end Go.Ga
