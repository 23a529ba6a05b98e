/- Values, objects, and code by what it leads to: a library of this claim's own. No condition. -/
import Derived.Test.YtneiihheeghdcaaDoorGalmhfj4
import Derived.Sort.Grow
set_option linter.all false

namespace Go.Ga
open Go
def Z3 (xs:List Nat):List za:=xs.map fun(n:Nat)=> .sc (.int .i64 (n:Int))
def Ql (xs:List Int):List za:=xs.map fun n=> .sc (.int .i64 n)
theorem J2 (xs:List Nat):(Z3 xs).length=xs.length:=by simp[Z3]
theorem Vi (xs:List Int):(Ql xs).length=xs.length:=by simp[Ql]
theorem WR {xs:List Nat}{k:Nat}(h:k<xs.length):(Z3 xs)[k]?=some (.sc (.int .i64 ((xs.getD k 0:Nat):Int))):=by
 simp[Z3,List.getElem?_map,List.getElem?_eq_getElem h,h]
theorem v7 (xs:List Nat)(k n:Nat):(Z3 xs).set k (.sc (.int .i64 (n:Int)))=Z3 (xs.set k n):=by
 simp[Z3,List.map_set]
theorem Vg (xs:List Int)(k:Nat)(n:Int):(Ql xs).set k (.sc (.int .i64 n))=Ql (xs.set k n):=by
 simp[Ql,List.map_set]
mutual
def za.plain :za→Bool
 | .sc _=>true
 | .agg cs=>za.plainL cs
 | .imm _ cs=>za.plainL cs
 | .ia cs=>za.plainL cs
 | .tup cs=>za.plainL cs
 | .fn _ as bs=>za.plainL as&&za.plainL bs
 | .iface _ A=>A.plain
 |_=>false
def za.plainL :List za→Bool
 |[]=>true
 |A::l=>A.plain&&za.plainL l
end
mutual
theorem yU :∀A:za,A.plain=true→A.copyable=true
 | .sc _,_=>rfl
 | .agg cs,h=>by simp only[za.copyable];exact plain_copyableL cs h
 | .imm _ _,_=>rfl
 | .ia _,_=>rfl
 | .tup cs,h=>by simp only[za.copyable];exact plain_copyableL cs h
 | .fn _ _ _,_=>rfl
 | .iface _ _,_=>rfl
 | .own _ _,h=>by cases h
 | .sl _ _ _ _,h=>by cases h
 | .ptr _ _,h=>by cases h
 | .at_ _,h=>by cases h
 | .addr _ _,h=>by cases h
 | .dead,h=>by cases h
theorem plain_copyableL :∀l:List za,za.plainL l=true→za.copyableL l=true
 |[],_=>rfl
 | A::l,h=>by
   simp only[za.plainL,Bool.and_eq_true] at h
   simp only[za.copyableL,yU A h.1,plain_copyableL l h.2,Bool.and_self]
end
mutual
theorem yT :∀A:za,A.plain=true→A.ids0=true
 | .sc _,_=>rfl
 | .agg cs,h=>by simp only[za.ids0];exact plain_ids0L cs h
 | .imm _ cs,h=>by simp only[za.ids0];exact plain_ids0L cs h
 | .ia cs,h=>by simp only[za.ids0];exact plain_ids0L cs h
 | .tup cs,h=>by simp only[za.ids0];exact plain_ids0L cs h
 | .fn _ as bs,h=>by
   simp only[za.plain,Bool.and_eq_true] at h
   simp only[za.ids0,plain_ids0L as h.1,plain_ids0L bs h.2,Bool.and_self]
 | .iface _ A,h=>by simp only[za.ids0];exact yT A h
 | .own _ _,h=>by cases h
 | .sl _ _ _ _,h=>by cases h
 | .ptr _ _,h=>by cases h
 | .at_ _,h=>by cases h
 | .addr _ _,h=>by cases h
 | .dead,h=>by cases h
theorem plain_ids0L :∀l:List za,za.plainL l=true→za.ids0L l=true
 |[],_=>rfl
 | A::l,h=>by
   simp only[za.plainL,Bool.and_eq_true] at h
   simp only[za.ids0L,yT A h.1,plain_ids0L l h.2,Bool.and_self]
end
theorem jN {α:Type}(f:α→Value)(xs:List α):za.plainL (xs.map fun x=> .sc (f x))=true∧za.flatL (xs.map fun x=> .sc (f x))=true:=by
 induction xs with
 |nil=>exact⟨rfl,rfl⟩
 |cons x xs ih=>simp only[List.map_cons,za.plainL,za.plain,za.flatL,za.flat,ih,Bool.and_self,and_self]
theorem JC (xs:List Nat):za.plainL (Z3 xs)=true:=(jN _ xs).1
theorem wn (xs:List Nat):za.flatL (Z3 xs)=true:=(jN _ xs).2
theorem qV (xs:List Int):za.plainL (Ql xs)=true:=(jN _ xs).1
theorem Uk (xs:List Int):za.flatL (Ql xs)=true:=(jN _ xs).2
theorem WS (xs:List Nat):za.cellOkL (Z3 xs)=true:=by
 induction xs with
 |nil=>rfl
 |cons x xs ih=>exact(Bool.and_eq_true _ _).mpr ⟨rfl,ih⟩
theorem W4 (xs:List Int):za.cellOkL (Ql xs)=true:=by
 induction xs with
 |nil=>rfl
 |cons x xs ih=>exact(Bool.and_eq_true _ _).mpr ⟨rfl,ih⟩
theorem qE (xs:List Nat):za.copyableL (Z3 xs)=true:=plain_copyableL _ (JC xs)
theorem qF (xs:List Int):za.copyableL (Ql xs)=true:=plain_copyableL _ (qV xs)
theorem yb (xs:List Nat):za.freezeL (Z3 xs)=Z3 xs:=copyable_freezeL _ (qE xs)
theorem W0 (xs:List Int):za.freezeL (Ql xs)=Ql xs:=copyable_freezeL _ (qF xs)
theorem QL (xs:List Nat):za.ids0L (Z3 xs)=true:=plain_ids0L _ (JC xs)
theorem wu (xs:List Int):za.ids0L (Ql xs)=true:=plain_ids0L _ (qV xs)
theorem v8 (g:Nat→Option Nat)(xs:List Nat):za.renL g (Z3 xs)=Z3 xs:=ids0_renL g _ (QL xs)
theorem Vh (g:Nat→Option Nat)(xs:List Int):za.renL g (Ql xs)=Ql xs:=ids0_renL g _ (wu xs)
section
variable {P:Program} {rs:List Nat} {N:Nat} {V V1 V2:List Nat} {L:List (List Nat)} {x y:zV} {K:ZC→zb→Prop} {st:zb} {gs:List zv} {t:ZV} {i j d:Nat}
theorem Z5 (h:∀Y:zb→Prop,(∀s,K .normal (s.settle V2)→Y s)→qx P L Y gs (st.settle V1)):jq P rs N V L (.reg V1 gs V2) K st:=XX (h _ fun _ h=>h)
theorem zc (h:∀Y:zb→Prop,(∀s,jq P rs N V L y K (s.settle V2)→Y s)→qx P L Y gs (st.settle V1)):jq P rs N V L (.seq (.reg V1 gs V2) y) K st:=wS (XX (h _ fun _ h=>h))
theorem je (h:∀Y:zb→Prop,(∀s,jq P rs N V L y K (s.settle V2)→Y s)→ZI P Y t [([],L)] (st.settle V1)):jq P rs N V L (.seq (.draw V1 t V2) y) K st:=wS (vv (h _ fun _ h=>h))
theorem zr (h:∀X:ZC→zb→Prop,(∀s,jq P rs N V L y K s→X .normal s)→(∀i s,K (.exit i) s→X (.exit i) s)→(∀s,K .ret s→X .ret s)→jq P rs N V L x X st):jq P rs N V L (.seq x y) K st:=
 wS (h _ (fun _ h=>h) (fun _ _ h=>h) fun _ h=>h)
theorem Zp (h:∀X:ZC→zb→Prop,(∀s,K .normal s→X .normal s)→(∀s,K .normal s→X (.exit i) s)→(∀j s,j≠i→K (.exit j) s→X (.exit j) s)→(∀s,K .ret s→X .ret s)→jq P rs N V L x X st):jq P rs N V L (.blk i x) K st:=
 ko (h _ (fun _ h=>h) (fun _ h=>(if_pos rfl).mpr h) (fun j _ hj h=>(if_neg hj).mpr h) fun _ h=>h)
theorem U8 (I:Nat→zb→Prop)(n:Nat)(h0:I n st)(h:∀n s,I n s→∀X:ZC→zb→Prop,(∀m s,m<n→I m s→X .normal s)→(∀i s,K (.exit i) s→X (.exit i) s)→(∀s,K .ret s→X .ret s)→jq P rs N V L x X s):jq P rs N V L (.loop x) K st:=
 vt I n h0 fun n s hI=>h n s hI _ (fun m _ hm h=>⟨m,hm,h⟩) (fun _ _ h=>h) fun _ h=>h
theorem zz (h:K .ret st):jq P rs N V L .ret K st:=kn h
theorem Ja (h:K (.exit i) st):jq P rs N V L (.exit i) K st:=vu h
theorem zC (h:K .normal st):jq P rs N V L .skip K st:=vr h
theorem uw {c:zl}(hc:st.ev c= .sc (.bool true))(h1:jq P rs N V L x K st):jq P rs N V L (.cond c x y) K st:=WI hc (fun _=>h1) fun h=>by cases h
theorem ux {c:zl}(hc:st.ev c= .sc (.bool false))(h1:jq P rs N V L y K st):jq P rs N V L (.cond c x y) K st:=WI hc (fun h=>by cases h) fun _=>h1
theorem VJ {K:zb→Prop}:qx P L K [] st=K st:=rfl
theorem qt {K:zb→Prop}{g:zv}{rest:List zv}:qx P L K (g::rest) st=zY P L (qx P L K rest) st g:=rfl
theorem Yj {K:zb→Prop}{b:Zz}:zY P L K st (none,b)=(b.quiet L st=true∧Z2 P L K st b):=rfl
theorem ww {K:zb→Prop}{t:Nat}{want:Bool}{b:Zz}(h:st.get t= .sc (.bool want)):zY P L K st (some (t,want),b)=(b.quiet L st=true∧Z2 P L K st b):=by
 have h1:want≠(!want):=by cases want<;>decide
 simp[zY,h,h1]
theorem Yk {K:zb→Prop}{t d:Nat}{want:Bool}{b:Zz}(h:st.get t= .sc (.bool (!want)))(hd:b.dst=some d):zY P L K st (some (t,want),b)=K (st.putT d (.sc (.tuple #[]))):=by
 have h1:(!want)≠want:=by cases want<;>decide
 simp[zY,h,h1,hd]
theorem yc {K:zb→Prop}{t d:Nat}{want:Bool}{b:Zz}(h:st.get t= .sc (.tuple #[]))(hd:b.dst=some d):zY P L K st (some (t,want),b)=K (st.putT d (.sc (.tuple #[]))):=by
 simp[zY,h,hd]
theorem qP {b:Zz}:(b.quiet [] st=true)=True:=by rw[u3];exact eq_self true
theorem Ue (j:Nat)(A:za)(l:List (Nat×za))(i:Nat):zH ((j,A)::l) i=if i=j then some A else zH l i:=rfl
theorem Vc (i:Nat):zH [] i=none:=rfl
theorem vb (j:Nat)(A B:za)(l:List (Nat×za))(i:Nat):xY ((j,A)::l) i B=if i=j then(j,B)::l else(j,A)::xY l i B:=rfl
theorem KW (vs ts:List (Nat×za))(h:Heap)(i:Nat):zb.get ⟨vs,ts,h⟩ i=ZL (zH ts i) (zH vs i):=rfl
theorem Xy (A:za)(x:Option za):ZL (some A) x=A:=rfl
theorem Xz (A:za):ZL none (some A)=A:=rfl
theorem Vd :ZL none none= .dead:=rfl
theorem gY (st:zb)(i:Nat):st.ev (.t i)=st.get i:=rfl
theorem g0 (st:zb)(v:Value):st.ev (.c v)= .sc v:=rfl
theorem gZ (st:zb)(g:Nat):st.ev (.f g)= .fn (.func g) [] []:=rfl
theorem gA (st:zb)(i:Nat):st.evA (.t i)=(st.get i).here i:=rfl
theorem gB (st:zb)(v:Value):st.evA (.c v)= .sc v:=rfl
theorem gz (st:zb)(v:Value):st.evU (.c v)= .sc v:=rfl
theorem gy (st:zb)(g:Nat):st.evU (.f g)= .fn (.func g) [] []:=rfl
theorem uK (vs ts:List (Nat×za))(h:Heap)(V:List Nat):zb.settle ⟨vs,ts,h⟩ V=⟨V.map fun i=>(i,(ZL (zH ts i) (zH vs i)).cut V),[],h⟩:=rfl
theorem kr (vs ts:List (Nat×za))(h:Heap)(d:Nat)(A:za):zb.putT ⟨vs,ts,h⟩ d A=⟨vs,(d,A)::ts,h⟩:=rfl
theorem kz (vs ts:List (Nat×za))(h:Heap)(f:za→Bool):zb.kill ⟨vs,ts,h⟩ f=⟨jW f vs,jW f ts,h⟩:=rfl
theorem XB (f:za→Bool)(j:Nat)(A:za)(l:List (Nat×za)):jW f ((j,A)::l)=(j,bif f A then .dead else A)::jW f l:=rfl
theorem Ui (f:za→Bool):jW f []=[]:=rfl
def XW (vs ts:List (Nat×za))(h:Heap)(i:Nat)(A:za):Option za→zb
 |some _=>⟨vs,xY ts i A,h⟩
 |none=>⟨xY vs i A,ts,h⟩
theorem Kx (vs ts:List (Nat×za))(h:Heap)(i:Nat)(A:za):zb.set ⟨vs,ts,h⟩ i A=XW vs ts h i A (zH ts i):=by
 unfold zb.set XW
 cases zH ts i<;>rfl
theorem Xh (vs ts:List (Nat×za))(h:Heap)(i:Nat)(A B:za):XW vs ts h i A (some B)=⟨vs,xY ts i A,h⟩:=rfl
theorem Xi (vs ts:List (Nat×za))(h:Heap)(i:Nat)(A:za):XW vs ts h i A none=⟨xY vs i A,ts,h⟩:=rfl
def uf (i:Nat)(A:za):Option za→za
 |some B=>B
 | none=>match A with
   | .agg cs=>bif za.copyableL cs then .agg cs else .at_ [0,i]
   |A=>A.here i
theorem gx (vs ts:List (Nat×za))(h:Heap)(i:Nat):zb.evU ⟨vs,ts,h⟩ (.t i)=uf i (ZL (zH ts i) (zH vs i)) (zH ts i):=by
 show(match zH ts i with|some A=>A|none=>match ZL (zH ts i) (zH vs i) with| .agg cs=>bif za.copyableL cs then .agg cs else .at_ [0,i]|A=>A.here i)=_
 unfold uf
 rfl
theorem XI (i:Nat)(A B:za):uf i A (some B)=B:=rfl
theorem K1 (v:Value):(za.sc v).cut V= .sc v:=rfl
theorem kO (cs:List za):(za.agg cs).cut V= .agg cs:=rfl
theorem kL (sz:Nat)(cs:List za):(za.imm sz cs).cut V= .imm sz cs:=rfl
theorem kK (hd:Option Nat)(cs:List za):(za.own hd cs).cut V= .own hd cs:=rfl
theorem K0 (a b c e:Nat):(za.sl a b c e).cut V= .sl a b c e:=rfl
theorem kJ (a b:Nat):(za.ptr a b).cut V= .ptr a b:=rfl
theorem K3 (cs:List za):(za.ia cs).cut V= .ia cs:=rfl
theorem K4 (f:Fn)(a b:List za):(za.fn f a b).cut V= .fn f a b:=rfl
theorem Uq (t:TypeId)(A:za):(za.iface t A).cut V= .iface t A:=rfl
theorem kI (cs:List za):(za.tup cs).cut V= .tup cs:=rfl
theorem K2 (ks:List Int):(za.mp ks).cut V= .mp ks:=rfl
theorem Vy :za.dead.cut V= .dead:=rfl
theorem kN (ks:List Nat):(za.at_ (0::i::ks)).cut V=bif V.contains i then .at_ (0::i::ks) else .dead:=rfl
theorem kM (ks:List Nat):(za.at_ (1::ks)).cut V= .at_ (1::ks):=rfl
theorem Us (ks:List Nat)(k:Nat):(za.addr (0::i::ks) k).cut V=bif V.contains i then .addr (0::i::ks) k else .dead:=rfl
theorem Ur (ks:List Nat)(k:Nat):(za.addr (1::ks) k).cut V= .addr (1::ks) k:=rfl
theorem kB (v:Value):(za.sc v).here i= .sc v:=rfl
theorem Vq (cs:List za):(za.agg cs).here i= .agg cs:=rfl
theorem Vn (sz:Nat)(cs:List za):(za.imm sz cs).here i= .imm sz cs:=rfl
theorem Vo (cs:List za):(za.own none cs).here i= .addr [0,i] 0:=rfl
theorem Vm (sz:Nat)(cs:List za):(za.own (some sz) cs).here i= .at_ [0,i]:=rfl
theorem kA (a b c e:Nat):(za.sl a b c e).here i= .sl a b c e:=rfl
theorem Vl (a b:Nat):(za.ptr a b).here i= .ptr a b:=rfl
theorem kD (cs:List za):(za.ia cs).here i= .ia cs:=rfl
theorem kE (f:Fn)(a b:List za):(za.fn f a b).here i= .fn f a b:=rfl
theorem XD (t:TypeId)(A:za):(za.iface t A).here i= .iface t A:=rfl
theorem Vk (cs:List za):(za.tup cs).here i= .tup cs:=rfl
theorem kC (ks:List Int):(za.mp ks).here i= .mp ks:=rfl
theorem Vp (p:List Nat):(za.at_ p).here i= .at_ p:=rfl
theorem XE (p:List Nat)(k:Nat):(za.addr p k).here i= .addr p k:=rfl
theorem uW (v:Value):(za.sc v).rootIs i=false:=rfl
theorem Xs (cs:List za):(za.agg cs).rootIs i=false:=rfl
theorem Xp (sz:Nat)(cs:List za):(za.imm sz cs).rootIs i=false:=rfl
theorem Xo (hd:Option Nat)(cs:List za):(za.own hd cs).rootIs i=false:=rfl
theorem uV (a b c e:Nat):(za.sl a b c e).rootIs i=false:=rfl
theorem Xn (a b:Nat):(za.ptr a b).rootIs i=false:=rfl
theorem uY (cs:List za):(za.ia cs).rootIs i=false:=rfl
theorem uZ (f:Fn)(a b:List za):(za.fn f a b).rootIs i=false:=rfl
theorem wV (t:TypeId)(A:za):(za.iface t A).rootIs i=false:=rfl
theorem Xm (cs:List za):(za.tup cs).rootIs i=false:=rfl
theorem uX (ks:List Int):(za.mp ks).rootIs i=false:=rfl
theorem WL :za.dead.rootIs i=false:=rfl
theorem Xr (ks:List Nat):(za.at_ (0::j::ks)).rootIs i=(j==i):=rfl
theorem Xq (ks:List Nat):(za.at_ (1::ks)).rootIs i=false:=rfl
theorem wX (ks:List Nat)(k:Nat):(za.addr (0::j::ks) k).rootIs i=(j==i):=rfl
theorem wW (ks:List Nat)(k:Nat):(za.addr (1::ks) k).rootIs i=false:=rfl
theorem Gj (st:zb)(i:Nat)(ks:List Nat):st.at (0::i::ks)=(st.get i).sub ks:=rfl
def Ku (k:Nat)(ks:List Nat):Option (Option (List za))→Option za
 |some (some cs)=>(za.own none cs).sub (k::ks)
 |_=>none
theorem Gi (vs ts:List (Nat×za))(h:Heap)(id k:Nat)(ks:List Nat):zb.at ⟨vs,ts,h⟩ (1::id::k::ks)=Ku k ks h[id]?:=by
 simp only[zb.at,Ku]
 cases h[id]? with
 |none=>rfl
 |some x=>cases x<;>rfl
theorem uF (k:Nat)(ks:List Nat)(cs:List za):Ku k ks (some (some cs))=(za.own none cs).sub (k::ks):=rfl
def Xa (ks:List Nat):Option za→Option za
 |some B=>B.sub ks
 |none=>none
theorem uE (ks:List Nat)(B:za):Xa ks (some B)=B.sub ks:=rfl
theorem V7 (A:za):A.sub []=some A:=by cases A<;>rfl
theorem V6 (hd:Option Nat)(cs:List za)(k:Nat)(ks:List Nat):(za.own hd cs).sub (k::ks)=Xa ks cs[k]?:=by
 simp only[za.sub,za.kids,Xa];cases cs[k]?<;>rfl
theorem ka (cs:List za)(k:Nat)(ks:List Nat):(za.agg cs).sub (k::ks)=Xa ks cs[k]?:=by
 simp only[za.sub,za.kids,Xa];cases cs[k]?<;>rfl
theorem V5 (cs:List za)(k:Nat)(ks:List Nat):(za.tup cs).sub (k::ks)=Xa ks cs[k]?:=by
 simp only[za.sub,za.kids,Xa];cases cs[k]?<;>rfl
def YY (cs:List za)(k:Nat)(ks:List Nat)(B:za):Option za→List za
 |some C=>cs.set k (C.setSub ks B)
 |none=>cs
theorem uL (cs:List za)(k:Nat)(ks:List Nat)(B C:za):YY cs k ks B (some C)=cs.set k (C.setSub ks B):=rfl
theorem Xf (A B:za):A.setSub [] B=B:=by cases A<;>rfl
theorem Xe (hd:Option Nat)(cs:List za)(k:Nat)(ks:List Nat)(B:za):(za.own hd cs).setSub (k::ks) B= .own hd (YY cs k ks B cs[k]?):=by
 simp only[za.setSub,YY];cases cs[k]?<;>rfl
theorem Xg (cs:List za)(k:Nat)(ks:List Nat)(B:za):(za.agg cs).setSub (k::ks) B= .agg (YY cs k ks B cs[k]?):=by
 simp only[za.setSub,YY];cases cs[k]?<;>rfl
theorem Xd (cs:List za)(k:Nat)(ks:List Nat)(B:za):(za.tup cs).setSub (k::ks) B= .tup (YY cs k ks B cs[k]?):=by
 simp only[za.setSub,YY];cases cs[k]?<;>rfl
theorem KA (st:zb)(i:Nat)(ks:List Nat)(B:za):st.setAt (0::i::ks) B=st.set i ((st.get i).setSub ks B):=rfl
def Ky (vs ts:List (Nat×za))(h:Heap)(id k:Nat)(ks:List Nat)(B:za):Option (Option (List za))→zb
 |some (some cs)=>⟨vs,ts,h.set id (some (YY cs k ks B cs[k]?))⟩
 |_=>⟨vs,ts,h⟩
theorem Kz (vs ts:List (Nat×za))(h:Heap)(id k:Nat)(ks:List Nat)(B:za):zb.setAt ⟨vs,ts,h⟩ (1::id::k::ks) B=Ky vs ts h id k ks B h[id]?:=by
 simp only[zb.setAt,Ky]
 cases h[id]? with
 |none=>rfl
 | some x=>cases x with
   |none=>rfl
   |some cs=>simp only[YY];cases cs[k]?<;>rfl
theorem uM (vs ts:List (Nat×za))(h:Heap)(id k:Nat)(ks:List Nat)(B:za)(cs:List za):Ky vs ts h id k ks B (some (some cs))=⟨vs,ts,h.set id (some (YY cs k ks B cs[k]?))⟩:=rfl
theorem XA (st:zb):st.kill (fun _=>false)=st:=by
 have:∀l:List (Nat×za),jW (fun _=>false) l=l:=fun l=>by
  induction l with
  |nil=>rfl
  |cons x l ih=>obtain⟨i,A⟩:=x;simp[jW,ih]
 simp[zb.kill,this]
theorem Vr {gb:Nat→Option Nat}{h':Heap}:Yl [] L gb h'=fun _=>false:=by
 funext A
 unfold Yl
 split
 · simp[jc]
 · simp[jc]
 · rfl
theorem WH {gb:Nat→Option Nat}{h':Heap}:∀(i:Nat) (l:Heap),qv (jc []) gb h' i l=l
 |_,[]=>rfl
 | i,o::l=>by
   have ih:=WH (gb:=gb) (h':=h') (i+1) l
   simp only[qv,ih]
   rfl
def Y5 (st:zb):List (zl×Bool)→List za
 |[]=>[]
 |(x,_)::xs=>VL st [] true x::Y5 st xs
theorem Y8 :∀(args:List (zl×Bool)),∃As,st.useL (QH args [])=some (As,st)∧As.length=args.length∧st.useLQ L (QH args [])=true
 |[]=>⟨[],rfl,rfl,rfl⟩
 | (x,b)::xs=>by
   obtain⟨As,h1,h2,h3⟩:=Y8 xs
   refine⟨.sc (.bool false)::As,?_,by simp[h2],?_⟩
   · simp only[QH,List.headD_nil,List.tail_nil,zb.useL,zb.use,zb.evU,za.copyable,cond_true,h1]
   · simp only[QH,List.headD_nil,List.tail_nil,zb.useLQ,zb.useQ,zb.use,zb.evU,za.copyable,cond_true,h3,Bool.and_self]
theorem ye {st0:zb}:∀(args:List (zl×Bool)) (As:List za),As.length=args.length→jf st0 st [] true none args [] As=Y5 st args
 |[],[],_=>rfl
 |[],_::_,h=>by simp at h
 |_::_,[],h=>by simp at h
 | (x,b)::xs,A::As,h=>by
   simp only[jf,List.headD_nil,List.tail_nil,Y5,ye xs As (by simpa using h)]
theorem XR {f:zl}{args:List (zl×Bool)}{K:zb→Prop}{g:Nat}{first captured:List za}(hev:st.ev f= .fn (.func g) first captured)
    (H:zJ P [] g (xX st.h [] true first++(Y5 st args++xX st.h [] true captured)) [] fun r h'=>h'=[]∧r.flat=true∧r.ids0=true∧K (st.putT d r)):qI P L st d f args K:=by
  unfold qI
  rw[hev]
  refine⟨[],[],true,none,?_⟩
  unfold qZ
  obtain⟨As,h1,h2,h3⟩:=Y8 (st:=st) (L:=L) args
  have hw:∀L:List (List Nat),zP [] L=[]:=fun L=>by
    induction L with
    |nil=>rfl
    | cons r L ih=>
      unfold zP
      split
      · rename_i heq;cases heq
      · rename_i heq;cases heq;simp[jc,ih]
      · rename_i heq;cases heq;exact ih
  simp only[Q3,h1,ye _ _ h2,h3,WA,hw,Zd]
  refine⟨rfl,rfl,rfl,H.mono fun r h' ⟨e,hf,hi,hk⟩=>?_⟩
  subst e
  refine⟨Nat.le_refl _,fun _=>⟨hf,rfl⟩,?_⟩
  simp only[jb,zb.after,Vr,XA,WH,Yh _ _ hi]
  simpa[JY] using hk
theorem U5 {f:zl}{args:List (zl×Bool)}{K:zb→Prop}{g:Nat}{first captured:List za}(hev:st.ev f= .fn (.func g) first captured)(ms:List yr)(bo:List Nat)(ln:Bool)(pl:Option (List Nat))
    (H:qZ P L st d g first captured args ms bo ln pl K):qI P L st d f args K:=by
  unfold qI
  rw[hev]
  exact⟨ms,bo,ln,pl,H⟩
end
end Go.Ga

namespace Go.Ga
open Go
section
variable {P:Program} {L:List (List Nat)} {K:zb→Prop} {st st0 st1:zb} {d:Nat}
theorem kQ {b:Zz}{rest:List zv}:qx P [] K ((none,b)::rest) st=Z2 P [] (qx P [] K rest) st b:=by
 rw[qt,Yj,qP,true_and]
theorem VK {t:Nat}{want:Bool}{b:Zz}{rest:List zv}(h:st.get t= .sc (.bool want)):qx P [] K ((some (t,want),b)::rest) st=Z2 P [] (qx P [] K rest) st b:=by
 rw[qt,ww h,qP,true_and]
theorem U4 {t d:Nat}{want:Bool}{b:Zz}{rest:List zv}(h:st.get t= .sc (.bool (!want)))(hd:b.dst=some d):qx P [] K ((some (t,want),b)::rest) st=qx P [] K rest (st.putT d (.sc (.tuple #[]))):=by
 rw[qt,Yk h hd]
theorem XO {t d:Nat}{want:Bool}{b:Zz}{rest:List zv}(h:st.get t= .sc (.tuple #[]))(hd:b.dst=some d):qx P [] K ((some (t,want),b)::rest) st=qx P [] K rest (st.putT d (.sc (.tuple #[]))):=by
 rw[qt,yc h hd]
theorem uB {wl:List ZX}:ZI P K .done wl st=K st:=rfl
theorem uz {later:List Nat}{gd:Option (Nat×Bool)}{o:xZ}{t:ZV}{wl:List ZX}:ZI P K (.take later (gd,.r o) t) wl st=zY P [] (ZI P K t ((later,jF st o)::wl)) st (gd,.r o):=rfl
theorem vf {i:Nat}{g:zv}{t:ZV}{wl:List ZX}:ZI P K (.one i g t) wl st=zY P (jl (z8 i wl)) (ZI P K t (z8 i wl)) st g:=rfl
theorem uA {i:Nat}{g:zv}{l:List (Nat×zv)}{t:ZV}{wl:List ZX}:ZI P K (.many ((i,g)::l) t) wl st=zY P [] (ZI P K (.many l t) (z8 i wl)) st g:=rfl
theorem x7 {t:ZV}{wl:List ZX}:ZI P K (.many [] t) wl st=ZI P K t wl st:=rfl
theorem ve {i j:Nat}{g h:zv}{t u:ZV}{wl:List ZX}:ZI P K (.two i g t j h u) wl st=(zY P (jl (z8 i wl)) (ZI P K t (z8 i wl)) st g∧zY P (jl (z8 j wl)) (ZI P K u (z8 j wl)) st h):=rfl
theorem x6 {i j k:Nat}{g h m:zv}{t u v:ZV}{wl:List ZX}:ZI P K (.three i g t j h u k m v) wl st=(zY P (jl (z8 i wl)) (ZI P K t (z8 i wl)) st g∧zY P (jl (z8 j wl)) (ZI P K u (z8 j wl)) st h∧zY P (jl (z8 k wl)) (ZI P K v (z8 k wl)) st m):=rfl
theorem wR (cs:List za)(k:Nat)(A:za):zK cs k [A]=cs.set k A:=rfl
theorem Vx {rss:List q4}{Q:za→Heap→Prop}{s:zb}:XJ [] rss Q .ret s=match Y4 rss s with
    |some (As,s')=>Q (Xu As) s'.h
    |none=>False:=by
  simp only[XJ,qu,true_and]<;>rfl
theorem Uo {rss:List q4}{Q:za→Heap→Prop}{s:zb}:XJ [] rss Q .normal s=match Y4 rss s with
    |some (As,s')=>Q (Xu As) s'.h
    |none=>False:=by
  simp only[XJ,qu,true_and]<;>rfl
theorem Ze {f:zl}{args:List (zl×Bool)}{g:Nat}{first captured As:List za}(hev:st.ev f= .fn (.func g) first captured)(hargs:xX st.h [] true first++(Y5 st args++xX st.h [] true captured)=As)
    (H:zJ P [] g As [] fun r h'=>h'=[]∧r.flat=true∧r.ids0=true∧K (st.putT d r)):qI P L st d f args K:=
  XR hev (by rw[hargs];exact H)
theorem Ji {f:zl}{args:List (zl×Bool)}{g:Nat}{first captured As args':List za}{x:Option (List Nat×Nat×List za)}{h0:Heap}{L':List (List Nat)}(ms:List yr)(bo:List Nat)(ln:Bool)(pl:Option (List Nat))
    (hev:st.ev f= .fn (.func g) first captured) (htake:Q3 st pl=some (x,st0)) (huse:st0.useL (QH args ms)=some (As,st1)) (hnd:J1 bo=true) (hbo:bo.all (fun i=>decide (i<st1.h.length))=true)
    (hq:(WA L pl&&st0.useLQ L (QH args ms))=true) (hW:zP bo L=L') (hargs:xX st1.h bo ln first++(jf st st1 bo ln x args ms As++xX st1.h bo ln captured)=args') (hin:Zd st1.h bo x=h0)
    (H:zJ P L' g args' h0 fun r h'=>h0.length≤h'.length∧(ln=true→r.flat=true∧Qp h'=true)∧jb L d bo h0.length x st1 K r h'):qI P L st d f args K:=by
  refine U5 hev ms bo ln pl ?_
  unfold qZ
  rw[htake]
  simp only[]
  rw[huse]
  simp only[]
  refine⟨hnd,hbo,hq,?_⟩
  rw[hW,hargs,hin]
  exact H
end
attribute [go_sem] VQ zb.bnd XT VS zb.cpyQ VR xR xT xQ zb.mputQ K2 kC uX xV zb.roomTo za.slQ za.isAgg yc XO List.getElem?_drop List.drop_drop VK U4 VJ Yj ww Yk Z2 jd Zn Zz.dst xZ.dst Ue Vc vb KW Xy Xz Vd gY g0 gZ gA gB gx gz gy XI uf uK kr kz XB Ui Kx Xh Xi zb.assign K1 kO kL kK K0 kJ K3 K4 Uq kI Vy kN kM Us Ur kB Vq Vn Vo Vm kA Vl kD kE XD Vk Vp XE uW Xs Xp Xo uV Xn uY uZ wV Xm WL Xr Xq wX wW za.copyable za.copyableL VV zb.use zb.isNil zb.blank QK ZF cond_true cond_false List.map List.getElem?_cons_zero List.getElem?_cons_succ cellsOf QR Option.some.injEq List.contains_cons List.contains_nil Bool.or_false Bool.or_true Bool.true_or Bool.false_or Bool.and_true Bool.true_and wz Option.getD_some Option.getD_none Xu List.length_cons List.length_nil uB uz vf ve x6 uA x7 z8 jl jF Zz.quiet Gj Gi uF uE V7 V6 ka V5 uL Xf Xe Xg Xd KA Kz uM zb.owned gO zb.stQ zb.useQ zb.useLQ zb.appQ za.cells wR za.cellOkL za.cellOk za.aggCopy za.under List.isPrefixOf zb.storeObj za.inObj J2 Vi v7 Vg za.int? Wb ud Wo List.filter_cons List.filter_nil List.flatMap_cons List.flatMap_nil List.all_cons List.all_nil clear Int.toNat_natCast Nat.mul_one Nat.add_one_le_iff Nat.zero_add Nat.add_zero true_and and_true List.length_map List.set_cons_zero List.set_cons_succ zb.useL List.append_nil List.nil_append List.cons_append List.singleton_append Bool.not_true Bool.not_false Bool.not_eq_true Bool.and_self Bool.or_self Bool.and_false Bool.false_and Ks VU xU VW VP VT YR xS zb.bound zb.dec Zj wy List.drop_zero List.drop_succ_cons List.drop_nil List.take_succ_cons List.take_zero List.take_nil zb.lenOf zb.shareAt za.freeze za.freezeL zb.given zb.more zb.moreQ Option.map_some Option.map_none Int.natCast_nonneg beq_self_eq_true bne_self_eq_false List.getElem?_nil List.set_set kQ qP QH jf VL ge Kt xX Y5 YU Zd zP J1 jc Q3 WA qv JY Qp zT Yl za.ren za.renL za.flat za.flatL za.ids0 za.ids0L za.plain za.plainL JC wn WS qE yb QL v8 qV Uk W4 qF W0 wu Vh Y4 Xu Vx Uo clear zb.forget List.headD_cons List.headD_nil List.tail_cons List.tail_nil Option.isNone_none Option.isNone_some Option.isSome_none Option.isSome_some za.isAlias List.isEmpty_nil List.isEmpty_cons
end Go.Ga

namespace Go.Ga
open Go
theorem Jf {α β:Type}{f g:α→Option β}:∀{l:List α} {r:List β},l.mapM f=some r→(∀x∈l,∀y∈r,f x=some y→g x=some y)→l.mapM g=some r
 |[],r,h,_=>by simpa using h
 | x ::l,r,h,hk=>by
   rw[List.mapM_cons] at h⊢
   cases hx:f x with
   |none=>rw[hx] at h;cases h
   | some y=>
     rw[hx] at h
     cases hr:l.mapM f with
     |none=>rw[hr] at h;cases h
     | some r'=>
       rw[hr] at h
       cases h
       rw[hk x (.head _) y (.head _) hx]
       have:=Jf hr fun z hz w hw=>hk z (.tail _ hz) w (.tail _ hw)
       rw[this]
       rfl
def kV (w w':World):Prop:=∀b,b<w.heap.size→w'.heap[b]?=w.heap[b]?
section
variable {H:Type} {enc:TypeId×Value→H} {P:Program} {w w':World}
theorem kV.cell (h:kV w w'){a:Addr}{v:Value}(hc:w.cell? a=some v):w'.cell? a=some v:=by
 have hb:a.block<w.heap.size:=World.block_lt_of_cell? w _ hc
 unfold World.cell? at hc⊢
 rw[h _ hb]
 exact hc
theorem kV.cells (h:kV w w'){base:Nat}{a:Addr}{n:Nat}{cs:List Value}(hc:w.cells? base a n=some cs):w'.cells? base a n=some cs:=by
 unfold World.cells? at hc⊢
 split at hc
 · rename_i hb
   rw[if_pos hb]
   exact Jf hc fun i _ v _ hv=>h.cell hv
 · cases hc
def ZB (P:Program)(S:List TypeId)(t:TypeId):Prop:=
 match P.underlying t with
 |some .bool=>True
 |some (.int _)=>True
 |some .string=>True
 |some (.slice e)=>0<P.cellsOf e∧e∈S
 |some (.struct fs)=>∀f∈fs.toList,f.type∈S
 |_=>False
theorem YW {S:List TypeId}(hO:kV w w'){sp:Nat→Bool}{r r':TypeId→List Value→Option (DataW H×List MemPlace)}{t:TypeId}{cs:List Value}{x:DataW H×List MemPlace}
    (hS:ZB P S t) (hr:∀t cs y,t∈S→r t cs=some y→(∀p∈y.2,sp p.block=true)→r' t cs=some y) (hsp:∀p∈x.2,sp p.block=true) (h:DataW.trodStep enc P w 0 (fun _=>true) true r t cs=some x):DataW.trodStep enc P w' 0 sp true r' t cs=some x:=by
  unfold DataW.trodStep at h⊢
  split at h
  case h_1=>exact h
  case h_2=>exact h
  case h_3=>exact h
  case h_4=>exact h
  case h_5=>exact h
  case h_6 e a hu=>unfold ZB at hS;rw[hu] at hS;exact hS.elim
  case h_7=>exact h
  case h_8 e a len cap hu=>
    unfold ZB at hS
    rw[hu] at hS
    obtain⟨hc,heS⟩:=hS
    simp only at h⊢
    split at h
    · rename_i hcond
      rw[if_pos hcond]
      simp only[if_true,Option.map_eq_some_iff,Option.bind_eq_some_iff] at h⊢
      obtain⟨elems,he,rest,hrest,rfl⟩:=h
      have hsub:∀y∈elems++rest,∀p∈y.2,sp p.block=true:=fun y hy p hp=>hsp p (List.mem_append_right _ (List.mem_flatMap.2 ⟨y,hy,hp⟩))
      have one:∀i y,y∈elems++rest→(w.cells? 0 (a.add (i*P.cellsOf e)) (P.cellsOf e)).bind (r e)=some y→(w'.cells? 0 (a.add (i*P.cellsOf e)) (P.cellsOf e)).bind (r' e)=some y:=fun i y hm hy=>by
        simp only[Option.bind_eq_some_iff] at hy⊢
        obtain⟨cs',hc,hy⟩:=hy
        exact⟨cs',hO.cells hc,hr _ _ _ heS hy (hsub y hm)⟩
      refine⟨elems,Jf he fun i _ y hy h=>one i y (List.mem_append_left _ hy) h,rest,?_,rfl⟩
      split
      · exact Jf hrest fun j _ y hy h=>one (len+j) y (List.mem_append_right _ hy) h
      · rename_i hns
        have hrow:(elems.length+rest.length)*P.cellsOf e=0∨0<(elems.length+rest.length)*P.cellsOf e:=Nat.eq_zero_or_pos _
        rcases hrow with h0|h0
        · have hl:elems.length+rest.length=0:=by
            rcases Nat.eq_zero_or_pos (elems.length+rest.length) with e0|e0
            · exact e0
            · have:=Nat.mul_pos e0 hc;omega
          have:rest=[]:=List.eq_nil_of_length_eq_zero (by omega)
          rw[this]
        · exfalso
          refine hns (hsp (.cell a.block (a.off+0)) (List.mem_append_left _ ?_))
          exact MemPlace.mem_row.2 ⟨0,h0,rfl⟩
    · cases h
  case h_9 fs hu=>
    unfold ZB at hS
    rw[hu] at hS
    split at h
    · rename_i hl
      rw[if_pos hl]
      simp only[Option.map_eq_some_iff] at h⊢
      obtain⟨xs,hx,rfl⟩:=h
      exact⟨xs,Jf hx fun f hf y hy h=>hr _ _ _ (hS f hf) h fun p hp=>hsp p (List.mem_flatMap.2 ⟨y,hy,hp⟩),rfl⟩
    · cases h
  case h_14 k e b hu=>unfold ZB at hS;rw[hu] at hS;exact hS.elim
  case h_10 n e hu=>unfold ZB at hS;rw[hu] at hS;exact hS.elim
  all_goals exact h
theorem wc {S:List TypeId}(hS:∀t∈S,ZB P S t)(hO:kV w w'){sp:Nat→Bool}:∀(n:Nat) (t:TypeId) (cs:List Value) (x:DataW H×List MemPlace),t∈S→DataW.trod enc P w 0 (fun _=>true) true n t cs=some x→(∀p∈x.2,sp p.block=true)→DataW.trod enc P w' 0 sp true n t cs=some x
 |0,_,_,_,_,h,_=>by simp[DataW.trod] at h
 | n+1,t,cs,x,ht,h,hsp=>by
   rw[DataW.trod_step] at h⊢
   exact YW hO (hS t ht) (wc hS hO n) hsp h
theorem q6 {S:List TypeId}(hS:∀t∈S,ZB P S t)(hO:kV w w'){sp:Nat→Bool}:∀{ts:List TypeId} {vs:List Value} {ds:List (DataW H)} {ps:List MemPlace},(∀t∈ts,t∈S)→DataW.TrodAll enc P w 0 (fun _=>true) true ts vs ds ps→(∀p∈ps,sp p.block=true)→DataW.TrodAll enc P w' 0 sp true ts vs ds ps
 |[],[],[],ps,_,h,_=>h
 | t::ts,v::vs,d::ds,ps,ht,⟨p,q,⟨fuel,h1⟩,h2,he⟩,hsp=>by
   subst he
   exact⟨p,q,⟨fuel,wc hS hO fuel t _ _ (ht t (.head _)) h1 fun x hx=>hsp x (List.mem_append_left _ hx)⟩,q6 hS hO (fun t h=>ht t (.tail _ h)) h2 fun x hx=>hsp x (List.mem_append_right _ hx),rfl⟩
end
end Go.Ga

namespace Go.Ga
open Go
inductive Sh (P:Program):TypeId→List za→Nat→Prop
 |bool (t:TypeId) (b:Bool) (hu:P.underlying t=some .bool):Sh P t [.sc (.bool b)] 1
 |int (t:TypeId) (k:IntKind) (n:Int) (hu:P.underlying t=some (.int k)) (hw:(Lit.int k n).wf=true):Sh P t [.sc (.int k n)] 1
 |string (t:TypeId) (s:ByteArray) (hu:P.underlying t=some .string):Sh P t [.sc (.string s)] (s.size+1)
 |slice (t e:TypeId) (L:List (List za×Nat)) (more:Nat) (hu:P.underlying t=some (.slice e)) (hl:∀x∈L,x.1.length=P.cellsOf e) (h:∀x∈L,Sh P e x.1 x.2):Sh P t [.imm (P.cellsOf e) (L.map (·.1)).flatten] (1+(L.map (·.2)).sum+more)
 |struct (t:TypeId) (fs:Array Field) (L:List (List za×Nat)) (hu:P.underlying t=some (.struct fs)) (hl:L.length=fs.size) (h:∀(i:Nat) f x,fs[i]?=some f→L[i]?=some x→Sh P f.type x.1 x.2):Sh P t (L.map (·.1)).flatten (1+(L.map (·.2)).sum)
 |other (t:TypeId) (n b:Nat) (h1:∀k,P.underlying t≠some (.int k)) (h2:P.underlying t≠some .bool) (h3:P.underlying t≠some .string) (h4:∀e,P.underlying t≠some (.slice e)) (h5:∀fs,P.underlying t≠some (.struct fs)):Sh P t (List.replicate n .dead) b
mutual
def Z4 {H:Type}:DataW H→Nat
 | .lit (.string bytes)=>bytes.length+1
 | .lit _=>1
 | .nil=>1
 | .ptr d=>Z4 d+1
 | .slice elems spare=>bulkL elems+bulkL spare+1
 | .agg parts=>bulkL parts+1
 | .iface _ d=>Z4 d+1
 | .map entries=>bulkE entries+1
 | .held _=>1
def bulkL {H:Type}:List (DataW H)→Nat
 |[]=>0
 |d::r=>Z4 d+bulkL r
def bulkE {H:Type}:List (Lit×DataW H)→Nat
 |[]=>0
 |x::r=>bulk1 x+bulkE r
def bulk1 {H:Type}:Lit×DataW H→Nat
 |(.string bytes,d)=>bytes.length+Z4 d+1
 |(_,d)=>Z4 d+1
end
def yD (P:Program):Nat→List Field→Option Nat
 |n,[]=>some n
 |n,f::fs=>if f.offset=n then yD P (n+P.cellsOf f.type) fs else none
def Env.plain (w:World):Env:=⟨w,fun _=>none,fun _=>0,fun _=>0,fun _=>0,0⟩
theorem yw {α β:Type}{f:α→Option β}:∀{l:List α} {r:List β},l.mapM f=some r→r.length=l.length∧∀(i:Nat) x,l[i]?=some x→∃y,r[i]?=some y∧f x=some y
 |[],r,h=>by simp at h;subst h;exact⟨rfl,fun i x hx=>by simp at hx⟩
 | a ::l,r,h=>by
   rw[List.mapM_cons] at h
   cases hx:f a with
   |none=>rw[hx] at h;cases h
   | some y=>
     rw[hx] at h
     cases hr:l.mapM f with
     |none=>rw[hr] at h;cases h
     | some r'=>
       rw[hr] at h
       cases h
       obtain⟨h1,h2⟩:=yw hr
       refine⟨by simp[h1],fun i x hi=>?_⟩
       cases i with
       |zero=>simp at hi;subst hi;exact⟨y,rfl,hx⟩
       |succ i=>simpa using h2 i x (by simpa using hi)
theorem Yq {sz:Nat}(hsz:0<sz):∀{L:List (List za)},(∀l∈L,l.length=sz)→L.flatten.length=L.length*sz∧∀(k:Nat) A,L.flatten[k]?=some A→∃l,L[k / sz]?=some l∧l[k%sz]?=some A
 |[],_=>⟨by simp,fun k A h=>by simp at h⟩
 | l ::L,hl=>by
   obtain⟨h1,h2⟩:=Yq hsz (L:=L) fun x hx=>hl x (.tail _ hx)
   have hl0:=hl l (.head _)
   refine⟨by simp[h1,hl0,Nat.add_mul,Nat.add_comm],fun k A h=>?_⟩
   rw[List.flatten_cons,List.getElem?_append] at h
   split at h
   · rename_i hlt
     rw[hl0] at hlt
     rw[Nat.div_eq_of_lt hlt,Nat.mod_eq_of_lt hlt]
     exact⟨l,rfl,h⟩
   · rename_i hge
     rw[hl0] at hge h
     obtain⟨l',h3,h4⟩:=h2 _ A h
     have hk:k=(k - sz)+sz:=by omega
     rw[hk,Nat.add_div_right _ hsz,Nat.add_mod_right]
     exact⟨l',by simpa using h3,h4⟩
section
variable {H:Type} {enc:TypeId×Value→H} {P:Program} {w:World}
def Cells (w:World)(As:List za)(cs:List Value):Prop:=As.length=cs.length∧∀(k:Nat) A v,As[k]?=some A→cs[k]?=some v→VRel (Env.plain w) none A v
theorem jJ {A:za}{v:Value}(h:VRel (Env.plain w) none A v):Cells w [A] [v]:=⟨rfl,fun k B u hB hu=>by
 cases k with
 |zero=>cases hB;cases hu;exact h
 |succ k=>simp at hB⟩
theorem XL (cs:List Value):Cells w (List.replicate cs.length .dead) cs:=⟨by simp,fun k A v hA _=>by
 rw[List.getElem?_replicate] at hA
 split at hA
 · cases hA;exact .dead _ _
 · cases hA⟩
structure wK (P:Program)(S:List TypeId):Prop where
 at_:∀t∈S,ZB P S t
 tile:∀t∈S,∀fs,P.underlying t=some (.struct fs)→yD P 0 fs.toList=some (P.cellsOf t)
theorem UX (l:List (DataW H)):bulkL l=(l.map Z4).sum:=by
 induction l with
 |nil=>rfl
 |cons x l ih=>simp[bulkL,ih]
theorem Qs {R:TypeId→List za→Nat→Prop}:∀(fs:List Field) (n m:Nat) (cs:List Value) (xs:List (DataW H×List MemPlace)),yD P n fs=some m→m=cs.length→n≤cs.length→
    (∀(i:Nat) f y,fs[i]?=some f→xs[i]?=some y→∃As,R f.type As (Z4 y.1)∧Cells w As ((cs.drop f.offset).take (P.cellsOf f.type)))→xs.length=fs.length→
    ∃L:List (List za×Nat),L.length=fs.length∧(∀(i:Nat) f x,fs[i]?=some f→L[i]?=some x→R f.type x.1 x.2)∧(L.map (·.2)).sum=bulkL (xs.map (·.1))∧Cells w (L.map (·.1)).flatten (cs.drop n)
  | [],n,m,cs,xs,ht,hm,_,_,hl=>by
    cases ht
    have:xs=[]:=List.eq_nil_of_length_eq_zero (by simpa using hl)
    subst this
    subst hm
    exact⟨[],rfl,fun i f x h=>by simp at h,rfl,by simp[Cells]⟩
  |f::fs,n,m,cs,[],ht,hm,hn,h,hl=>by simp at hl
  | f ::fs,n,m,cs,y::xs,ht,hm,hn,h,hl=>by
    simp only[yD] at ht
    split at ht
    · rename_i ho
      obtain⟨As,hR,hc⟩:=h 0 f y rfl rfl
      rw[ho] at hc
      have hle:n+P.cellsOf f.type≤cs.length:=by
        have key:∀(fs:List Field) (a m:Nat),yD P a fs=some m→a≤m:=by
          intro fs
          induction fs with
          |nil=>intro a m h;cases h;exact Nat.le_refl _
          | cons g gs ih=>
            intro a m h
            simp only[yD] at h
            split at h
            · have:=ih _ _ h;omega
            · cases h
        have:=key _ _ _ ht
        omega
      obtain⟨L,h1,h2,h3,h4⟩:=Qs fs (n+P.cellsOf f.type) m cs xs ht hm hle (fun i g z hg hz=>h (i+1) g z (by simpa using hg) (by simpa using hz)) (by simpa using hl)
      refine⟨(As,Z4 y.1)::L,by simp[h1],fun i g x hg hx=>?_,by simp[bulkL,h3],?_⟩
      · cases i with
        |zero=>simp at hg hx;subst hg;subst hx;exact hR
        |succ i=>exact h2 i g x (by simpa using hg) (by simpa using hx)
      · have hlen:((cs.drop n).take (P.cellsOf f.type)).length=P.cellsOf f.type:=by simp;omega
        have hA:As.length=P.cellsOf f.type:=hc.1.trans hlen
        refine⟨?_,fun k A v hA' hv=>?_⟩
        · have:=h4.1
          simp only[List.map_cons,List.flatten_cons,List.length_append,List.length_drop] at this⊢
          omega
        · simp only[List.map_cons,List.flatten_cons] at hA'
          rw[List.getElem?_append] at hA'
          split at hA'
          · rename_i hlt
            refine hc.2 k A v hA' ?_
            rw[List.getElem?_take_of_lt (by omega)]
            exact hv
          · rename_i hge
            refine h4.2 _ A v hA' ?_
            rw[List.getElem?_drop] at hv⊢
            rw[←hv]
            congr 1
            omega
    · cases ht
theorem qK {S :List TypeId}(hP:wK P S):∀(n:Nat) (t:TypeId) (cs:List Value) (x:DataW H×List MemPlace),t∈S→DataW.trod enc P w 0 (fun _=>true) true n t cs=some x→∃As,Sh P t As (Z4 x.1)∧Cells w As cs
 |0,_,_,_,_,h=>by simp[DataW.trod] at h
 | n + 1, t, cs,x,ht,h=>by
   have hS:=hP.at_ t ht
   rw[DataW.trod_step] at h
   unfold DataW.trodStep at h
   have other:(∀k,P.underlying t≠some (.int k))→P.underlying t≠some .bool→P.underlying t≠some .string→(∀e,P.underlying t≠some (.slice e))→(∀fs,P.underlying t≠some (.struct fs))→∃As,Sh P t As (Z4 x.1)∧Cells w As cs:=
    fun h1 h2 h3 h4 h5=>⟨_,.other t cs.length _ h1 h2 h3 h4 h5,XL cs⟩
   split at h
   case h_1 b hu=>cases h;exact⟨_,.bool t b hu,jJ (.sc _ _)⟩
   case h_2 k k' m hu=>
    split at h
    · rename_i hc
      obtain⟨rfl,hw⟩:=hc
      cases h
      exact⟨_,.int t _ m hu hw,jJ (.sc _ _)⟩
    · cases h
   case h_4 s hu=>
    split at h
    · cases h
      refine⟨_,?_,jJ (.sc _ _)⟩
      have e:Z4 (DataW.lit (H:=H) (.string s.data.toList))=s.size+1:=by
       simp only[Z4]
       rw[Array.length_toList]
       rfl
      show Sh P t _ (Z4 (DataW.lit (H:=H) (.string s.data.toList)))
      rw[e]
      exact .string t s hu
    · cases h
   case h_7 hu=> 
    rename_i e
    cases h
    have:=Sh.slice (P:=P) t e [] 0 hu (fun x hx=>by cases hx) (fun x hx=>by cases hx)
    exact⟨_,by simpa[Z4] using this,jJ (.immNil _ _ _)⟩
   case h_8 e a len cap hu=>
    simp only at h
    split at h
    · rename_i hcond
      obtain⟨_,hlc,_⟩:=hcond
      unfold ZB at hS
      rw[hu] at hS
      obtain⟨hsz,heS⟩:=hS
      simp only[if_true,Option.map_eq_some_iff,Option.bind_eq_some_iff] at h
      obtain⟨elems,he,rest,hrest,rfl⟩:=h
      obtain⟨e1,e2⟩:=yw he
      obtain⟨r1,r2⟩:=yw hrest
      simp only[List.length_range] at e1 r1
      have one:∀i y,elems[i]?=some y→∃As,Sh P e As (Z4 y.1)∧As.length=P.cellsOf e∧∀(k:Nat) A,As[k]?=some A→∃v,w.cell? ((a.add (i*P.cellsOf e)).add k)=some v∧VRel (Env.plain w) none A v:=by
       intro i y hy
       have hi:i<len:=by rw[←e1];exact(List.getElem?_eq_some_iff.1 hy).1
       obtain⟨y',hy',hr⟩:=e2 i i (by simp[hi])
       rw[hy] at hy'
       cases hy'
       simp only[Option.bind_eq_some_iff] at hr
       obtain⟨cs',hc,hr⟩:=hr
       obtain⟨_,hl',hcell⟩:=World.cells?_some hc
       obtain⟨As,hS,hA⟩:=qK hP n _ _ _ heS hr
       refine⟨As,hS,hA.1.trans hl',fun k A hk=>?_⟩
       have hlt:k<cs'.length:=by rw[←hA.1];exact(List.getElem?_eq_some_iff.1 hk).1
       refine⟨cs'[k],?_,hA.2 k A _ hk (List.getElem?_eq_getElem hlt)⟩
       rw[hcell k (by omega)]
       exact List.getElem?_eq_getElem hlt
      have hL:∃L:List (List za×Nat),L.length=elems.length∧∀(i:Nat) z y,L[i]?=some z→elems[i]?=some y→Sh P e z.1 z.2∧z.2=Z4 y.1∧z.1.length=P.cellsOf e∧∀(k:Nat) A,z.1[k]?=some A→∃v,w.cell? ((a.add (i*P.cellsOf e)).add k)=some v∧VRel (Env.plain w) none A v:=by
       have key:∀(l:List (DataW H×List MemPlace)) (o:Nat),(∀i y,l[i]?=some y→elems[o+i]?=some y)→∃L:List (List za×Nat),L.length=l.length∧∀(i:Nat) z y,L[i]?=some z→l[i]?=some y→Sh P e z.1 z.2∧z.2=Z4 y.1∧z.1.length=P.cellsOf e∧∀(k:Nat) A,z.1[k]?=some A→∃v,w.cell? ((a.add ((o+i)*P.cellsOf e)).add k)=some v∧VRel (Env.plain w) none A v:=by
        intro l
        induction l with
        |nil=>intro o _;exact⟨[],rfl,fun i z y h=>by simp at h⟩
        | cons y0 l ih=>
          intro o hl
          obtain⟨L,h1,h2⟩:=ih (o+1) fun i y hy=>by
           have:=hl (i+1) y (by simpa using hy)
           rwa [show o+(i+1)=o+1+i by omega] at this
          obtain⟨As,h3,h4,h5⟩:=one (o+0) y0 (hl 0 y0 rfl)
          refine⟨(As,Z4 y0.1)::L,by simp[h1],fun i z y hz hy=>?_⟩
          cases i with
          |zero=>simp at hz hy;subst hz;subst hy;exact⟨h3,rfl,h4,h5⟩
          | succ i=>
            have:=h2 i z y (by simpa using hz) (by simpa using hy)
            rwa [show o+1+i=o+(i+1) by omega] at this
       have:=key elems 0 fun i y hy=>by rw[Nat.zero_add];exact hy
       simpa using this
      obtain⟨L,hl1,hl2⟩:=hL
      have hget:∀z∈L,∃i y,L[i]?=some z∧elems[i]?=some y:=fun z hz=>by
       obtain⟨i,hi⟩:=List.mem_iff_getElem?.1 hz
       have hlt:i<elems.length:=by rw[←hl1];exact(List.getElem?_eq_some_iff.1 hi).1
       exact⟨i,_,hi,List.getElem?_eq_getElem hlt⟩
      have hlen:∀z∈L,z.1.length=P.cellsOf e:=fun z hz=>by
       obtain⟨i,y,h1,h2⟩:=hget z hz
       exact(hl2 i z y h1 h2).2.2.1
      have hsum:(L.map (·.2)).sum=bulkL (elems.map (·.1)):=by
       rw[UX]
       congr 1
       apply List.ext_getElem?
       intro i
       rw[List.getElem?_map,List.getElem?_map,List.getElem?_map]
       cases hz:L[i]? with
       | none=>
         have:elems[i]?=none:=by rw[List.getElem?_eq_none_iff] at hz⊢;omega
         rw[this];rfl
       | some z=>
         have hlt:i<elems.length:=by rw[←hl1];exact(List.getElem?_eq_some_iff.1 hz).1
         have hy:=List.getElem?_eq_getElem hlt
         rw[hy]
         simp[(hl2 i z _ hz hy).2.1]
      have hS:=Sh.slice (P:=P) t e L (bulkL (rest.map (·.1))) hu hlen (fun z hz=>by
       obtain⟨i,y,h1,h2⟩:=hget z hz
       exact(hl2 i z y h1 h2).1)
      rw[hsum] at hS
      refine⟨_,?_,jJ (A:= .imm (P.cellsOf e) (L.map (·.1)).flatten) ?_⟩
      · simp only[Z4]
        rwa [show bulkL (elems.map (·.1))+bulkL (rest.map (·.1))+1=1+bulkL (elems.map (·.1))+bulkL (rest.map (·.1)) by omega]
      · by_cases h0:cap=0
        · have:L=[]:=List.eq_nil_of_length_eq_zero (by omega)
          subst this
          have hl0:len=0:=by omega
          subst hl0 h0
          exact .immNil _ _ _
        · 
          have hfirst:∃v,w.cell? a=some v:=by
           have hz:∃y cs',w.cells? 0 (a.add (0*P.cellsOf e)) (P.cellsOf e)=some cs'∧DataW.trod enc P w 0 (fun _=>true) true n e cs'=some y:=by
            by_cases hlen0:len=0
            · subst hlen0
              obtain⟨y,_,hr⟩:=r2 0 0 (by rw[List.getElem?_range (by omega)])
              simp only[Option.bind_eq_some_iff] at hr
              obtain⟨cs',hc,hr⟩:=hr
              exact⟨y,cs',hc,hr⟩
            · obtain⟨y,_,hr⟩:=e2 0 0 (by rw[List.getElem?_range (by omega)])
              simp only[Option.bind_eq_some_iff] at hr
              obtain⟨cs',hc,hr⟩:=hr
              exact⟨y,cs',hc,hr⟩
           obtain⟨y,cs',hc,_⟩:=hz
           obtain⟨_,hl',hcell⟩:=World.cells?_some hc
           have hlt:0<cs'.length:=by omega
           refine⟨cs'[0],?_⟩
           have:=hcell 0 hsz
           rw[List.getElem?_eq_getElem hlt] at this
           simpa[Addr.add] using this
          obtain⟨v0,hv0⟩:=hfirst
          obtain⟨b,o,sp⟩:=a
          have hspn:sp=none:=by
           cases sp with
           |none=>rfl
           | some s=>
             simp only[World.cell?] at hv0
             split at hv0
             · simp at hv0
             · cases hv0
          subst hspn
          have hb:b<w.heap.size:=World.block_lt_of_cell? w _ hv0
          obtain⟨f1,f2⟩:=Yq hsz (L:=L.map (·.1)) (fun l hl=>by
           obtain⟨z,hz,rfl⟩:=List.mem_map.1 hl
           exact hlen z hz)
          have hcell:∀(k:Nat) A,((L.map (·.1)).flatten)[k]?=some A→∃v,w.cell? ⟨b,o+k,none⟩=some v∧VRel (Env.plain w) none A v:=fun k A hk=>by
           obtain⟨l,h1,h2⟩:=f2 k A hk
           rw[List.getElem?_map] at h1
           obtain⟨z,hz,rfl⟩:=Option.map_eq_some_iff.1 h1
           have hlt:k / P.cellsOf e<elems.length:=by rw[←hl1];exact(List.getElem?_eq_some_iff.1 hz).1
           obtain⟨v,h3,h4⟩:=(hl2 _ z _ hz (List.getElem?_eq_getElem hlt)).2.2.2 _ A h2
           refine⟨v,?_,h4⟩
           rw[Addr.add_lit,Addr.add_lit] at h3
           have hk':o+k / P.cellsOf e*P.cellsOf e+k%P.cellsOf e=o+k:=by rw[Nat.add_assoc,Nat.mul_comm];congr 1;exact Nat.div_add_mod k _
           rwa [hk'] at h3
          refine .imm none _ _ b o len cap (fun k=>(w.cell? ⟨b,o+k,none⟩).getD undef) rfl hb ⟨hsz,by rw[f1];simp[hl1,e1]⟩ hlc (fun k A hk=>?_) fun k A hk=>?_
          · obtain⟨v,h1,_⟩:=hcell k A hk
            show w.cell? _=some ((w.cell? _).getD undef)
            rw[h1];rfl
          · obtain⟨v,h1,h2⟩:=hcell k A hk
            show VRel _ none A ((w.cell? _).getD undef)
            rw[h1];exact h2
    · cases h
   case h_9 fs hu=>
    split at h
    · rename_i hl
      simp only[Option.map_eq_some_iff] at h
      obtain⟨xs,hx,rfl⟩:=h
      obtain⟨e1,e2⟩:=yw hx
      obtain⟨L,h1,h2,h3,h4⟩:=Qs (R:=Sh P) fs.toList 0 _ _ xs (hP.tile t ht fs hu) hl.symm (Nat.zero_le _) (fun i f y hf hy=>by
       obtain⟨y',hy',hr⟩:=e2 i f hf
       rw[hy] at hy'
       cases hy'
       exact qK hP n _ _ _ (by unfold ZB at hS;rw[hu] at hS;exact hS f (List.mem_of_getElem? hf)) hr) e1
      refine⟨(L.map (·.1)).flatten,?_,by simpa using h4⟩
      have:=Sh.struct (P:=P) t fs L hu (by simpa using h1) (fun i f x hf hx=>h2 i f x (by simpa using hf) hx)
      rw[h3] at this
      simp only[Z4]
      rwa [Nat.add_comm]
    · cases h
   all_goals first
    |cases h;done
    |exact other (by simp[*]) (by simp[*]) (by simp[*]) (by simp[*]) (by simp[*])
end
end Go.Ga

namespace Go.Ga
open Go Go.ChangeShapes Go.WideShapes Go.RowKit
def KE (P:Program)(S:List TypeId):Bool:=
 S.all fun t=>match P.underlying t with
  |some .bool=>true
  |some (.int _)=>true
  |some .string=>true
  |some (.slice e)=>decide (0<P.cellsOf e)&&S.contains e
  |some (.struct fs)=>fs.toList.all (fun f=>S.contains f.type)&&(yD P 0 fs.toList==some (P.cellsOf t))
  |_=>false
theorem vS {P:Program}{S:List TypeId}(h:KE P S=true):wK P S:=by
 refine⟨fun t ht=>?_,fun t ht fs hu=>?_⟩
 · have:=List.all_eq_true.1 h t ht
   unfold ZB
   cases hu:P.underlying t with
   |none=>rw[hu] at this;cases this
   | some d=>
     rw[hu] at this
     cases d with
     |bool=>trivial
     |int k=>trivial
     |string=>trivial
     | slice e=>
       simp only[Bool.and_eq_true,decide_eq_true_eq,List.contains_iff_mem] at this
       exact this
     | struct fs=>
       simp only[Bool.and_eq_true,List.all_eq_true,List.contains_iff_mem] at this
       exact this.1
     |_=>cases this
 · have:=List.all_eq_true.1 h t ht
   rw[hu] at this
   simp only[Bool.and_eq_true,beq_iff_eq] at this
   exact this.2
section
variable {H:Type} {enc:TypeId×Value→H} {P:Program}
theorem Vf {W W':World}(hO:kV W W')(hos:W'.os=W.os)(hout:W'.output=W.output)(may:MemPlace→Prop):W.keptBut W' may:=by
 refine⟨hos,hout,fun i hi=>?_⟩
 rw[hO i hi]
 cases W.heap[i]? with
 |none=>rfl
 | some o=>cases o with
   |cells c t fr=>exact⟨rfl,rfl,rfl,fun _ _=>rfl⟩
   |map es clock=>exact .inr ⟨rfl,rfl⟩
   |_=>rfl
theorem Jp {w:World}{sp:Nat→Bool}{gs:List (DataW H)}{ps:List MemPlace}(h:DataW.TrodVars enc P w sp [] gs ps):gs=[]∧ps=[]:=by
 cases gs with
 |nil=>exact⟨rfl,h⟩
 |cons=>cases h
theorem u4 {S:List TypeId}(hS:∀t∈S,ZB P S t){f:Func}{s:ChangeSpec}{W W':World}{args:Array Value}{ds gs:List (DataW H)}{before:List MemPlace}(hW:DataW.Whole enc P f.params.toList s.vars false W args.toList ds gs before)
    (hts:∀t∈f.params.toList,t∈S) (hv:s.vars=[]) (hres:(s.fn H (ds++gs)).results=[.lit (.bool true)]) (harg:(s.fn H (ds++gs)).args=ds) (hvr:(s.fn H (ds++gs)).vars=[]) {tb:TypeId} (hrt:f.resultTypes= #[tb]) (hb:P.underlying tb=some .bool) (hO:kV W W') (hos:W'.os=W.os) (hout:W'.output=W.output):
    s.post enc P f false true false false W args (.bool true) W':=by
  have hW':=hW
  obtain⟨p,q,hA,hV,hpq,hz,hn⟩:=hW
  rw[hv] at hV
  obtain⟨rfl,rfl⟩:=Jp hV
  rw[List.append_nil] at hpq
  subst hpq
  have hres':∀(b:Nat) (sp:Nat→Bool) (hd:Bool),DataW.TrodAll enc P W' b sp hd f.resultTypes.toList ((Value.bool true).resultList f.resultTypes.size) (s.fn H (ds++[])).results []:=fun b sp hd=>by
    rw[hres,hrt]
    exact⟨[],[],⟨1,by simp[DataW.trod,hb,Value.cells]⟩,rfl,rfl⟩
  refine⟨ds,[],before,[],before,[],hW',hres' _ _ _,?_,?_,Vf hO hos hout _,fun h=>by cases h⟩
  · rw[harg]
    exact q6 hS hO hts hA fun x hx=>by simpa using hW'.lt x hx
  · rw[hvr,hv];rfl
def SA (P:Program)(t:TypeId)(A:za)(b:Nat):Prop:=
 ((∃fs,P.underlying t=some (.struct fs))∧∃As,A= .agg As∧Sh P t As b)∨((∀fs,P.underlying t≠some (.struct fs))∧Sh P t [A] b)
inductive kU (P:Program):List TypeId→List za→Nat→Prop
 |nil:kU P [] [] 0
 |cons (t:TypeId) (A:za) (b:Nat) (ts:List TypeId) (As:List za) (c:Nat) (h:SA P t A b) (hr:kU P ts As c):kU P (t::ts) (A::As) (b+c)
theorem x8 {S:List TypeId}(hP:wK P S){w:World}{base:Nat}{t:TypeId}{v:Value}{d:DataW H}{ps:List MemPlace}(hok:Value.okWide P w .any base t v)(ht:t∈S)(h:DataW.Trod enc P w 0 (fun _=>true) true t v d ps):
    ∃A,SA P t A (Z4 d)∧VRel (Env.plain w) none A v:=by
  obtain⟨fuel,h⟩:=h
  obtain⟨As,hS,hl,hc⟩:=qK hP fuel t _ _ ht h
  have hna:∀n e,P.underlying t≠some (.array n e):=fun n e hu=>by
    have:=hP.at_ t ht
    unfold ZB at this
    rw[hu] at this
    exact this
  by_cases hs:∃fs,P.underlying t=some (.struct fs)
  · obtain⟨fs,hs⟩:=hs
    unfold Value.okWide at hok
    rw[hs] at hok
    obtain⟨cs,rfl,_,_⟩:=hok
    refine⟨.agg As,.inl ⟨⟨fs,hs⟩,As,rfl,hS⟩,.agg none As cs (by simpa[Value.cells] using hl.symm) fun k A v hA hv=>hc k A v hA (by simpa[Value.cells] using hv)⟩
  · have hns:∀fs,P.underlying t≠some (.struct fs):=fun fs e=>hs ⟨fs,e⟩
    have hv:v.cells= #[v]:=by
      cases v with
      | agg cs=>
        exfalso
        unfold Value.okWide at hok
        cases hu:P.underlying t with
        | none=>
          rw[hu] at hok
          simp[Cell.okWide,Cell.ok,hu] at hok
        | some dsc=>
          rw[hu] at hok
          cases dsc with
          |struct fs=>exact hns fs hu
          |array n e=>exact hna n e hu
          |_=>simp[Cell.okWide,Cell.ok,hu] at hok
      |_=>rfl
    rw[hv] at hl hc
    have:∃A,As=[A]:=by
      match As,hl with
      |[A],_=>exact⟨A,rfl⟩
    obtain⟨A,rfl⟩:=this
    exact⟨A,.inr ⟨hns,hS⟩,hc 0 A v rfl rfl⟩
theorem JS {S:List TypeId}(hP:wK P S){w:World}{base:Nat}:∀{ts:List TypeId} {vs:List Value} {ds:List (DataW H)} {ps:List MemPlace},(∀(j:Nat) t v,ts[j]?=some t→vs[j]?=some v→Value.okWide P w .any base t v)→(∀t∈ts,t∈S)→
    DataW.TrodAll enc P w 0 (fun _=>true) true ts vs ds ps→∃As,kU P ts As (bulkL ds)∧As.length=vs.length∧∀(k:Nat) A v,As[k]?=some A→vs[k]?=some v→VRel (Env.plain w) none A v
  |[],[],[],ps,_,_,_=>⟨[],.nil,rfl,fun k A v h=>by simp at h⟩
  | t::ts,v::vs,d::ds,ps,hok,hna,⟨p,q,h1,h2,_⟩=>by
    obtain⟨A,hA,hv⟩:=x8 hP (hok 0 t v rfl rfl) (hna t (.head _)) h1
    obtain⟨As,hAs,hl,hvs⟩:=JS hP (fun j t' v' ht hv'=>hok (j+1) t' v' (by simpa using ht) (by simpa using hv')) (fun t ht=>hna t (.tail _ ht)) h2
    refine⟨A::As,.cons t A _ ts As _ hA hAs,by simp[hl],fun k B u hB hu=>?_⟩
    cases k with
    |zero=>simp at hB hu;subst hB;subst hu;exact hv
    |succ k=>exact hvs k B u (by simpa using hB) (by simpa using hu)
theorem Y1 {S:List TypeId}(hP:wK P S){f:Nat}{fn:Func}{s:ChangeSpec}{B:Nat}{W:World}{base:Nat}{args:Array Value}{ds gs:List (DataW H)}{before:List MemPlace}
    (hval:∀(j:Nat) t v,fn.params[j]?=some t→args[j]?=some v→Value.okWide P W .any base t v) (hna:∀t∈fn.params.toList,t∈S)
    (hW:DataW.Whole enc P fn.params.toList s.vars false W args.toList ds gs before) (hv:s.vars=[]) (hres:(s.fn H (ds++gs)).results=[.lit (.bool true)]) (harg:(s.fn H (ds++gs)).args=ds) (hvr:(s.fn H (ds++gs)).vars=[])
    {tb:TypeId} (hrt:fn.resultTypes= #[tb]) (hb:P.underlying tb=some .bool) (hbk:bulkL (ds++gs)≤B)
    (H0:∀As b,kU P fn.params.toList As b→b≤B→zJ P [] f As [] fun r _=>r= .sc (.bool true)):
    Calls P f args W fun e W'=>∃v,e= .returned v∧s.post enc P fn false true false false W args v W':=by
  have hW':=hW
  obtain⟨p,q,hA,hV,hpq,hz,hn⟩:=hW
  rw[hv] at hV
  obtain⟨rfl,rfl⟩:=Jp hV
  obtain⟨As,hAs,hl,hvs⟩:=JS hP (fun j t v ht hv'=>hval j t v (by simpa using ht) (by simpa using hv')) hna hA
  rw[List.append_nil] at hbk
  have hC:=(H0 As _ hAs hbk).2 (Env.plain W) args ⟨rfl,fun b q h=>(by cases h),fun id cs h=>(by simp at h)⟩ (by simpa using hl.symm) fun k A v hA' hv'=>(hvs k A v hA' (by simpa using hv')).any rfl _
  refine hC.mono fun e W' ⟨v,r,h',E',he,hw,_,hr,hp,hq⟩=>?_
  subst he hw hq
  cases hr
  refine⟨_,rfl,u4 hP.at_ hW' hna hv hres harg hvr hrt hb (fun b hlt=>(hp.old b rfl hlt).2) hp.os hp.output⟩
end
end Go.Ga

namespace Go.Ga
open Go
def gt (n:Nat)(j:Nat):Option Nat:=if j<n then some j else none
theorem zJ.less {P:Program}{L L':List (List Nat)}{f:Nat}{args:List za}{h:Heap}{Q:za→Heap→Prop}(H:zJ P L f args h Q)(hL:∀r∈L',r∈L):zJ P L' f args h Q:=
 ⟨H.1,fun E vs h1 h2 h3=>(H.2 E vs h1 h2 h3).mono fun _ _ ⟨v,r,h',E',a,b,c,d,e,q⟩=>⟨v,r,h',E',a,b,c,d,⟨e.size,e.os,e.tape,e.output,e.old,e.far,e.farB,e.ids,fun b r hr=>e.keep b r ⟨hL r hr.1,hr.2⟩⟩,q⟩⟩
theorem zJ.nil {P:Program}{L:List (List Nat)}{f:Nat}{args:List za}{h:Heap}{Q:za→Heap→Prop}(H:zJ P L f args h Q):zJ P [] f args h Q:=H.less fun r hr=>by cases hr
attribute [go_sem] gt
end Go.Ga

namespace Go.Ga
open Go
def zX {α:Type}(f:α→List za):List α→List za
 |[]=>[]
 |x::l=>f x++zX f l
section
variable {α:Type} {f:α→List za} {sz:Nat}
theorem ql (hf:∀x,(f x).length=sz):∀l:List α,(zX f l).length=l.length*sz
 |[]=>by simp[zX]
 |x::l=>by simp only[zX,List.length_append,hf,ql hf l,List.length_cons,Nat.add_mul];omega
theorem qS (hf:∀x,(f x).length=sz):∀(l:List α) (k:Nat),(zX f l).drop (k*sz)=zX f (l.drop k)
 |[],k=>by simp[zX]
 |x::l,0=>by simp
 | x::l,k+1=>by
   simp only[zX,List.drop_succ_cons]
   rw[←qS hf l k,Nat.add_mul,Nat.one_mul,List.drop_append,hf]
   rw[List.drop_of_length_le (by rw[hf];omega),List.nil_append]
   congr 1;omega
theorem u5 (hf:∀x,(f x).length=sz){l:List α}{k:Nat}{x:α}(h:l[k]?=some x)(r:Nat)(hr:r<sz):(zX f l)[k*sz+r]?=(f x)[r]?:=by
 rw[←List.getElem?_drop,qS hf]
 have hlt:k<l.length:=(List.getElem?_eq_some_iff.1 h).1
 rw[List.drop_eq_getElem_cons hlt]
 have hx:l[k]=x:=by rw[List.getElem?_eq_getElem hlt] at h;exact Option.some.inj h
 rw[hx]
 simp only[zX]
 rw[List.getElem?_append_left (by rw[hf];exact hr)]
theorem WQ (hf:∀x,(f x).length=sz){l:List α}{k:Nat}{x:α}(h:l[k]?=some x):((zX f l).drop (k*sz)).take sz=f x:=by
 rw[qS hf]
 have hlt:k<l.length:=(List.getElem?_eq_some_iff.1 h).1
 rw[List.drop_eq_getElem_cons hlt]
 have hx:l[k]=x:=by rw[List.getElem?_eq_getElem hlt] at h;exact Option.some.inj h
 rw[hx]
 simp only[zX]
 rw[List.take_append_of_le_length (by rw[hf];exact Nat.le_refl _),List.take_of_length_le (by rw[hf];exact Nat.le_refl _)]
theorem jS (h:∀x,za.plainL (f x)=true):∀l:List α,za.plainL (zX f l)=true
 |[]=>rfl
 | x::l=>by
   have app:∀a b:List za,za.plainL a=true→za.plainL b=true→za.plainL (a++b)=true:=fun a b ha hb=>by
    induction a with
    |nil=>exact hb
    |cons y a ih=>simp only[za.plainL,Bool.and_eq_true] at ha;simp only[List.cons_append,za.plainL,ha.1,ih ha.2,Bool.and_self]
   exact app _ _ (h x) (jS h l)
theorem JA (h:∀x,za.flatL (f x)=true):∀l:List α,za.flatL (zX f l)=true
 |[]=>rfl
 | x::l=>by
   have app:∀a b:List za,za.flatL a=true→za.flatL b=true→za.flatL (a++b)=true:=fun a b ha hb=>by
    induction a with
    |nil=>exact hb
    |cons y a ih=>simp only[za.flatL,Bool.and_eq_true] at ha;simp only[List.cons_append,za.flatL,ha.1,ih ha.2,Bool.and_self]
   exact app _ _ (h x) (JA h l)
theorem jy (h:∀x,za.cellOkL (f x)=true):∀l:List α,za.cellOkL (zX f l)=true
 |[]=>rfl
 | x::l=>by
   have app:∀a b:List za,za.cellOkL a=true→za.cellOkL b=true→za.cellOkL (a++b)=true:=fun a b ha hb=>by
    induction a with
    |nil=>exact hb
    |cons y a ih=>simp only[za.cellOkL,Bool.and_eq_true] at ha;simp only[List.cons_append,za.cellOkL,ha.1,ih ha.2,Bool.and_self]
   exact app _ _ (h x) (jy h l)
end
def two (x:Int×Int):List za:=[.sc (.int .i64 x.1),.sc (.int .i64 x.2)]
theorem V3 (x:Int×Int):(two x).length=2:=rfl
def g8 (x:Int×Int×Int):List za:=[.sc (.int .i64 x.1),.sc (.int .i64 x.2.1),.sc (.int .i64 x.2.2)]
theorem V4 (x:Int×Int×Int):(g8 x).length=3:=rfl
abbrev YV (l:List (Int×Int)):List za:=zX two l
abbrev YX (l:List (Int×Int×Int)):List za:=zX g8 l
theorem Wu (l:List (Int×Int)):(YV l).length=l.length*2:=ql V3 l
theorem Wx (l:List (Int×Int×Int)):(YX l).length=l.length*3:=ql V4 l
theorem qJ (l:List (Int×Int)):za.plainL (YV l)=true:=jS (fun _=>rfl) l
theorem qL (l:List (Int×Int×Int)):za.plainL (YX l)=true:=jS (fun _=>rfl) l
theorem uy (l:List (Int×Int)):za.flatL (YV l)=true:=JA (fun _=>rfl) l
theorem uC (l:List (Int×Int×Int)):za.flatL (YX l)=true:=JA (fun _=>rfl) l
theorem Ww (l:List (Int×Int)):za.cellOkL (YV l)=true:=jy (fun _=>rfl) l
theorem Wz (l:List (Int×Int×Int)):za.cellOkL (YX l)=true:=jy (fun _=>rfl) l
theorem qz (l:List (Int×Int)):za.copyableL (YV l)=true:=plain_copyableL _ (qJ l)
theorem qA (l:List (Int×Int×Int)):za.copyableL (YX l)=true:=plain_copyableL _ (qL l)
theorem Wv (l:List (Int×Int)):za.freezeL (YV l)=YV l:=copyable_freezeL _ (qz l)
theorem Wy (l:List (Int×Int×Int)):za.freezeL (YX l)=YX l:=copyable_freezeL _ (qA l)
theorem wb (l:List (Int×Int)):za.ids0L (YV l)=true:=plain_ids0L _ (qJ l)
theorem wd (l:List (Int×Int×Int)):za.ids0L (YX l)=true:=plain_ids0L _ (qL l)
theorem vd (g:Nat→Option Nat)(l:List (Int×Int)):za.renL g (YV l)=YV l:=ids0_renL g _ (wb l)
theorem vg (g:Nat→Option Nat)(l:List (Int×Int×Int)):za.renL g (YX l)=YX l:=ids0_renL g _ (wd l)
attribute [go_sem] Wu Wx qJ qL uy uC Ww Wz qz qA Wv Wy wb wd vd vg
end Go.Ga

namespace Go.Ga
open Go
section
variable {P:Program} {rs:List Nat} {N:Nat} {V:List Nat} {L:List (List Nat)} {x:zV} {K:ZC→zb→Prop} {st:zb}
theorem Z7 (p:List Nat)(sz:Nat)(hp:st.at p=some (.sc (.slice none 0 0)))(h:jq P rs N V L x K ((st.kill (za.under p true)).setAt p (.own (some sz) []))):jq P rs N V L x K st:=
 QE (fun E tm R=>by
  obtain⟨u,hu,hr⟩:=R.at_ hp rfl
  cases hr
  have U:zN p E E:=⟨Nat.le_refl _,E.ids_refl,fun _ h _=>⟨h,rfl⟩,fun _ _ h _=>⟨h,rfl⟩⟩
  exact⟨E,R.turn (keep:=true) hp rfl (fun _=>⟨_,_,rfl⟩) U R.lim rfl hu (.ownNil _ sz),zy.refl E,rfl⟩) h
theorem zW (p:List Nat){sz:Option Nat}{cs:List za}(hp:st.at p=some (.own sz cs))(h:jq P rs N V L x K ((st.kill (za.under p false)).setAt p (za.own sz cs).freeze)):jq P rs N V L x K st:=
 QE (fun E tm R=>by
  obtain⟨u,hu,hr⟩:=R.at_ hp rfl
  have U:zN p E (E.freeze p):=jv p
  have hB:VRel (E.freeze p) (some p) (za.own sz cs).freeze u:=hr.frozen p _ fun ℓ e=>by cases e;exact List.prefix_refl _
  exact⟨_,R.turn (keep:=false) hp rfl (fun e=>by cases e) U (JD R.lim) rfl hu hB,jR (Zq (zm hp)),rfl⟩) h
end
def Q0 (A' A:za):Prop:=∀E po v,VRel E po A' v→VRel E po A v
theorem Q0.refl (A:za):Q0 A A:=fun _ _ _ h=>h
theorem Q0.imm (sz:Nat):Q0 (.sc (.slice none 0 0)) (.imm sz []):=fun _ _ _ h=>by cases h;exact .immNil _ _ _
theorem Q0.own (sz:Nat):Q0 (.sc (.slice none 0 0)) (.own (some sz) []):=fun _ _ _ h=>by cases h;exact .ownNil _ _
theorem Q0.dead (A:za):Q0 A .dead:=fun _ _ v _=> .dead _ v
inductive Jk :List za→List za→Prop
 |nil:Jk [] []
 |cons {A' A:za} {l' l:List za} (h:Q0 A' A) (hl:Jk l' l):Jk (A'::l') (A::l)
theorem Jk.get :∀{l' l:List za},Jk l' l→l'.length=l.length∧∀(k:Nat) A,l[k]?=some A→∃A',l'[k]?=some A'∧Q0 A' A
 |_,_,.nil=>⟨rfl,fun k A h=>by simp at h⟩
 | _,_,.cons (A':=A') h hl=>by
   obtain⟨h1,h2⟩:=hl.get
   refine⟨by simp[h1],fun k A hA=>?_⟩
   cases k with
   |zero=>simp at hA;subst hA;exact⟨A',rfl,h⟩
   |succ k=>simp at hA;simpa using h2 k A hA
theorem Jk.refl :∀l:List za,Jk l l
 |[]=> .nil
 |A::l=> .cons (.refl A) (.refl l)
def jE (l:List (List Nat)):List za:=l.map fun xs=> .own (some 1) (Z3 xs)
def jP (l:List (List Nat)):List za:=l.map fun xs=> .imm 1 (Z3 xs)
theorem uR (l:List (List Nat)):(jE l).length=l.length:=by simp[jE]
theorem uT (l:List (List Nat)):(jP l).length=l.length:=by simp[jP]
theorem uP (l:List (List Nat))(k:Nat)(x:List Nat):(jE l).set k (.own (some 1) (Z3 x))=jE (l.set k x):=by simp[jE,List.map_set]
theorem Qc :∀l:List (List Nat),za.freezeL (jE l)=jP l
 |[]=>rfl
 | x::l=>by
   have ih:=Qc l
   simp only[jE,jP,List.map_cons,za.freezeL,za.freeze,yb] at ih⊢
   rw[ih]
theorem jO :∀l:List (List Nat),za.plainL (jP l)=true
 |[]=>rfl
 | x::l=>by
   have ih:=jO l
   simp only[jP,List.map_cons,za.plainL,za.plain,JC,Bool.true_and] at ih⊢
   exact ih
theorem Qe :∀l:List (List Nat),za.cellOkL (jP l)=true
 |[]=>rfl
 | x::l=>by
   have ih:=Qe l
   simp only[jP,List.map_cons,za.cellOkL,za.cellOk,Bool.true_and] at ih⊢
   exact ih
theorem Qd :∀l:List (List Nat),za.cellOkL (jE l)=true
 |[]=>rfl
 | x::l=>by
   have ih:=Qd l
   simp only[jE,List.map_cons,za.cellOkL,za.cellOk,Bool.true_and] at ih⊢
   exact ih
theorem yN :∀l:List (List Nat),za.flatL (jE l)=true
 |[]=>rfl
 | x::l=>by
   have ih:=yN l
   simp only[jE,List.map_cons,za.flatL,za.flat,wn,Bool.true_and] at ih⊢
   exact ih
theorem qO :∀l:List (List Nat),za.ids0L (jE l)=true
 |[]=>rfl
 | x::l=>by
   have ih:=qO l
   simp only[jE,List.map_cons,za.ids0L,za.ids0,QL,Bool.true_and] at ih⊢
   exact ih
theorem JW (l:List (List Nat)):za.copyableL (jP l)=true:=plain_copyableL _ (jO l)
theorem wU (l:List (List Nat)):za.freezeL (jP l)=jP l:=copyable_freezeL _ (JW l)
theorem yO (l:List (List Nat)):za.ids0L (jP l)=true:=plain_ids0L _ (jO l)
theorem uS (g:Nat→Option Nat)(l:List (List Nat)):za.renL g (jP l)=jP l:=ids0_renL g _ (yO l)
theorem uQ (g:Nat→Option Nat)(l:List (List Nat)):za.renL g (jE l)=jE l:=ids0_renL g _ (qO l)
theorem wm (l:List Nat)(x:Nat):Z3 l++[.sc (.int .i64 (x:Int))]=Z3 (l++[x]):=by simp[Z3]
theorem Ge (zs:List Value):zq zs 1=zs.map .sc++[]:=rfl
theorem Gd (zs:List Value):zq zs 2=zs.map .sc++(zs.map .sc++[]):=rfl
theorem Gc (zs:List Value):zq zs 3=zs.map .sc++(zs.map .sc++(zs.map .sc++[])):=rfl
attribute [go_sem] Ge Gd Gc uR uT uP Qc jO Qe Qd yN qO JW wU yO uS uQ
end Go.Ga

namespace Go.Ga
open Go
section
variable {P:Program} {t:TypeId} {b:Nat}
theorem Kw {k:IntKind}{cs:List za}(hu:P.underlying t=some (.int k))(h:Sh P t cs b):∃n,cs=[.sc (.int k n)]∧(Lit.int k n).wf=true∧b=1:=by
 cases h with
 |int _ k' n hu' hw=>rw[hu] at hu';cases hu';exact⟨n,rfl,hw,rfl⟩
 |bool _ _ h'=>rw[hu] at h';cases h'
 |string _ _ h'=>rw[hu] at h';cases h'
 |slice _ _ _ _ h'=>rw[hu] at h';cases h'
 |struct _ _ _ h'=>rw[hu] at h';cases h'
 |other _ _ _ h1=>exact absurd hu (h1 k)
theorem KC {A:za}(hu:∀fs,P.underlying t≠some (.struct fs))(h:SA P t A b):Sh P t [A] b:=by
 rcases h with⟨⟨fs,h⟩,_⟩|⟨_,h⟩
 · exact absurd h (hu fs)
 · exact h
theorem WJ {ts:List TypeId}{As:List za}(h:kU P (t::ts) As b):∃A As' c d,As=A::As'∧b=c+d∧SA P t A c∧kU P ts As' d:=by
 cases h with
 |cons _ A c _ As' d h hr=>exact⟨A,As',c,d,rfl,rfl,h,hr⟩
theorem kp {As:List za}(h:kU P [] As b):As=[]:=by cases h;rfl
theorem vy {k:IntKind}{A:za}(hu:P.underlying t=some (.int k))(h:SA P t A b):∃n,A= .sc (.int k n)∧(Lit.int k n).wf=true:=by
 obtain⟨n,h1,h2,_⟩:=Kw hu (KC (fun fs h=>by rw[hu] at h;cases h) h)
 exact⟨n,by injection h1,h2⟩
end
end Go.Ga

namespace Go.Ga
open Go
end Go.Ga

namespace Go.Ga
open Go
def JQ (vs:List (Nat×za)):List (Nat×za)→List (Nat×za)
 |[]=>vs
 |(i,A)::l=>JQ (xY vs i A) l
theorem zB (vs:List (Nat×za)):JQ vs []=vs:=rfl
theorem zw (vs:List (Nat×za))(i:Nat)(A:za)(l:List (Nat×za)):JQ vs ((i,A)::l)=JQ (xY vs i A) l:=rfl
theorem gU (x y a b:za):zK [x,y] 0 [a,b]=[a,b]:=rfl
theorem gT (x y z a b c:za):zK [x,y,z] 0 [a,b,c]=[a,b,c]:=rfl
theorem gp (n:Nat):n*2 / 2=n:=by omega
theorem gX (n:Nat):n*3 / 3=n:=by omega
theorem Um {k:Nat}(h:k<4611686018427387904):IntKind.i64.wrap ((k:Int)+1)=((k+1:Nat):Int):=by rw[IntWalk.i64_in _ (by omega)];omega
theorem Gg {α:Type}(x:α)[Decidable (x≠x)]:decide (x≠x)=false:=decide_eq_false (fun h=>h rfl)
theorem Gh {α:Type}(x:α)[Decidable (x=x)]:decide (x=x)=true:=decide_eq_true rfl
theorem kH (a b c d:Int):J7 [.sc (.int .i64 a),.sc (.int .i64 b)] [.sc (.int .i64 c),.sc (.int .i64 d)]=some (decide ((a,b)=(c,d))):=by
 simp[J7]
attribute [go_sem] Int.toNat_zero Int.toNat_one Nat.div_one Int.cast_ofNat_Int decide_true decide_false bne_self_eq_false Bool.not_false Bool.not_true Nat.zero_le or_self true_or or_true List.length_set List.length_range jX kH Option.bind_some YQ gU gT gp gX Wu Wx Gg Gh zB zw
theorem Jk.own {sz:Nat}{l' l:List za}(h:Jk l' l):Q0 (.own (some sz) l') (.own (some sz) l):=fun E po v hv=>by
 obtain⟨h1,h2⟩:=h.get
 cases hv with
 | own ℓ _ _ b o len cap arr T f hO hb hl hc hm ha hf hh=>
   refine .own ℓ sz l b o len cap arr T f hO hb (by rw[←h1];exact hl) hc hm ha (fun k A hA=>?_) fun k A hA=>?_
   · obtain⟨A',hA',_⟩:=h2 k A hA;exact hf k A' hA'
   · obtain⟨A',hA',hs⟩:=h2 k A hA;exact hs _ _ _ (hh k A' hA')
 | ownNil=>
   cases l with
   |nil=>exact .ownNil _ _
   |cons=>simp at h1
theorem Jk.imm {sz:Nat}{l' l:List za}(h:Jk l' l):Q0 (.imm sz l') (.imm sz l):=fun E po v hv=>by
 obtain⟨h1,h2⟩:=h.get
 cases hv with
 | imm _ _ _ b o len cap f hO hb hl hc hf hh=>
   refine .imm po sz l b o len cap f hO hb (by rw[←h1];exact hl) hc (fun k A hA=>?_) fun k A hA=>?_
   · obtain⟨A',hA',_⟩:=h2 k A hA;exact hf k A' hA'
   · obtain⟨A',hA',hs⟩:=h2 k A hA;exact hs _ _ _ (hh k A' hA')
 | immNil=>
   cases l with
   |nil=>exact .immNil _ _ _
   |cons=>simp at h1
theorem Jk.agg {l' l:List za}(h:Jk l' l):Q0 (.agg l') (.agg l):=fun E po v hv=>by
 obtain⟨h1,h2⟩:=h.get
 cases hv with
 | agg _ _ vs hs hh=>
   refine .agg po l vs (by rw[←h1];exact hs) fun k A v hA hv=>?_
   obtain⟨A',hA',hs'⟩:=h2 k A hA
   exact hs' _ _ _ (hh k A' v hA' hv)
section
variable {P:Program} {rs:List Nat} {N:Nat} {V:List Nat} {L:List (List Nat)} {x:zV} {K:ZC→zb→Prop} {st:zb}
end
def ju (xs:List Bool):List za:=xs.map fun b=> .sc (.bool b)
theorem U0 (xs:List Bool):(ju xs).length=xs.length:=by simp[ju]
theorem UY (xs:List Bool)(k:Nat)(b:Bool):(ju xs).set k (.sc (.bool b))=ju (xs.set k b):=by
 simp[ju,List.map_set]
theorem qf (xs:List Bool):za.plainL (ju xs)=true:=(jN _ xs).1
theorem XN (xs:List Bool):za.flatL (ju xs)=true:=(jN _ xs).2
theorem Qw :∀xs:List Bool,za.cellOkL (ju xs)=true
 |[]=>rfl
 |b::l=>by show(_&&za.cellOkL (ju l))=true;rw[Qw l];rfl
theorem qg (xs:List Bool):za.copyableL (ju xs)=true:=plain_copyableL _ (qf xs)
theorem Wn (xs:List Bool):za.freezeL (ju xs)=ju xs:=copyable_freezeL _ (qg xs)
theorem YF (xs:List Bool):za.ids0L (ju xs)=true:=plain_ids0L _ (qf xs)
theorem UZ (g:Nat→Option Nat)(xs:List Bool):za.renL g (ju xs)=ju xs:=ids0_renL g _ (YF xs)
theorem XM (n:Nat):zq [.bool false] n=ju (List.replicate n false):=by
 simp only[zq,List.map]
 induction n with
 |zero=>rfl
 |succ n ih=>simp only[List.replicate_succ,List.flatten_cons,ih];rfl
attribute [go_sem] U0 UY qf XN Qw qg Wn YF UZ XM
section
variable {P:Program} {rs:List Nat} {N:Nat} {V:List Nat} {L:List (List Nat)} {K:ZC→zb→Prop} {x:zV}
theorem QB {vs:List (Nat×za)}{h0:Heap}{α:Type}(J:List Nat)(f:α→List (Nat×za))(g:α→Heap)(inv:α→Nat→Prop)(a0:α)(n0:Nat)(hJ:(J.all fun i=>V.contains i)=true)
    (hs:zb.forget ⟨vs,[],h0⟩ J=⟨JQ vs (J.map (fun i=>(i,za.dead))++f a0),[],g a0⟩) (hi:inv a0 n0)
    (h:∀a n,inv a n→∀X:ZC→zb→Prop,(∀s a' m,m<n→s.forget J=⟨JQ vs (J.map (fun i=>(i,za.dead))++f a'),[],g a'⟩→inv a' m→X .normal s)→(∀i s,K (.exit i) s→X (.exit i) s)→(∀s,K .ret s→X .ret s)→
      jq P rs N V L x X ⟨JQ vs (J.map (fun i=>(i,za.dead))++f a),[],g a⟩):jq P rs N V L (.loop x) K ⟨vs,[],h0⟩:=by
  refine U8 (fun n s=>∃a,inv a n∧s.forget J=⟨JQ vs (J.map (fun i=>(i,za.dead))++f a),[],g a⟩) n0 ⟨a0,hi,hs⟩ ?_
  rintro n s ⟨a,ha,hst⟩ X hn he hr
  refine Xk J hJ ?_
  rw[hst]
  exact h a n ha X (fun s a' m hm hs' hi'=>hn m s hm ⟨a',hi',hs'⟩) he hr
end
end Go.Ga

namespace Go.Ga
open Go
section
variable {P:Program} {t:TypeId} {b:Nat}
end
end Go.Ga

namespace Go.Ga
open Go
section
variable {L:List (List Nat)} {E:Env} {N:Nat} {V:List Nat} {st:zb} {a:Act} {tm:Array Value}
end
section
variable {P:Program} {rs:List Nat} {N:Nat} {V:List Nat} {L:List (List Nat)} {x:zV} {K:ZC→zb→Prop} {st:zb}
end
end Go.Ga
attribute [go_sem] reduceIte Nat.reduceEqDiff Nat.reduceBEq reduceCtorEq Nat.reduceLT Nat.reduceLeDiff Nat.reduceAdd Nat.reduceSub Nat.reduceMul Nat.reduceDiv Int.reduceAdd Int.reduceNeg Int.reduceEq Int.reduceLT Int.reduceLE

namespace Go.Ga
open Go
end Go.Ga

namespace Go.Ga
open Go
theorem Q1 {P:Program}{rs V:List Nat}{N:Nat}{L:List (List Nat)}{x y:zV}{K:ZC→zb→Prop}{st:zb}{c:zl}(h1:jq P rs N V L x K st)(hc:st.ev c= .sc (.bool true):=by first|rfl|(simp only[go_sem];try simp(disch:=omega) only[decide_eq_true,decide_eq_false])):jq P rs N V L (.cond c x y) K st:=uw hc h1
theorem yu {P:Program}{rs V:List Nat}{N:Nat}{L:List (List Nat)}{x y:zV}{K:ZC→zb→Prop}{st:zb}{c:zl}(h1:jq P rs N V L y K st)(hc:st.ev c= .sc (.bool false):=by first|rfl|(simp only[go_sem];try simp(disch:=omega) only[decide_eq_true,decide_eq_false])):jq P rs N V L (.cond c x y) K st:=ux hc h1
def U6 (P:Program)(nt k:Nat)(rs V:List Nat)(rss:List q4)(ac:zV)(f:Nat):Prop:=∀{L:List (List Nat)} {args:List za} {h:Heap} {Q:za→Heap→Prop},args.length=k→jq P rs nt V L ac (XJ L rss Q) (wz V args h)→zJ P L f args h Q
theorem Vs {P:Program}(hmix:P.follows .mixedOrders=true){f:Nat}{fn:Func}{k:Nat}{rs V:List Nat}{ac:zV}{rss:List q4}(hf:P.funcs[f]?=some fn)(hs:Xb P rs V fn=some (ac,rss))(hk:Nat.ble k fn.ntmps=true):U6 P fn.ntmps k rs V rss ac f:=
 fun hl H=>yp hmix hf hs (by rw[hl];exact Nat.le_of_ble_eq_true hk) H
def oM (a b:Nat):zv:=(none,.r (.mov a (.t b)))
def oS (a b:Nat):zv:=(none,.asg a (.t b) true)
def oI (a:Nat)(k:Int):zv:=(none,.asg a (.c (.int .i64 k)) true)
def oZ (a:Nat):zv:=(none,.asg a (.c (.slice none 0 0)) true)
def oO (a:Nat):zv:=(none,.asg a (.c (.bool false)) true)
def oL (a b k:Nat):zv:=(none,.r (.ld a (.t b) k false))
def oT (a b k:Nat):zv:=(none,.r (.ld a (.t b) k true))
def oF (a b k:Nat):zv:=(none,.r (.fldA a (.t b) k))
def oX (a b c k:Nat):zv:=(none,.r (.idxA a (.t b) (.t c) k))
def oN (a b:Nat):zv:=(none,.r (.nilck a (.t b)))
def oE (a b:Nat):zv:=(none,.r (.len a (.t b)))
def oB (a:Nat)(op:BinOp)(b:Nat)(k:Int):zv:=(none,.r (.bin a op 0 (.t b) (.c (.int .i64 k))))
def oD (a:Nat)(op:BinOp)(b c:Nat):zv:=(none,.r (.bin a op 0 (.t b) (.t c)))
def oC (a f x:Nat):zv:=(none,.call a (.f f) [(.t x,false)])
def v6 (a f x y:Nat):zv:=(none,.call a (.f f) [(.t x,false),(.t y,false)])
def Gf (a f x y z:Nat):zv:=(none,.call a (.f f) [(.t x,false),(.t y,false),(.t z,false)])
def oP (a b c:Nat):zv:=(none,.r (.pick a (.t b) (.t c) (.c (.bool false))))
def oQ (a b c:Nat):zv:=(none,.r (.pick a (.t b) (.c (.bool true)) (.t c)))
def oW (a b k:Nat):zv:=(none,.st (.t a) (.t b) k)
def oY (a b k:Nat):zv:=(none,.r (.ext a (.t b) k))
def oK (g:Nat)(s:Bool)(a b:Nat):zv:=(some (g,s),.r (.mov a (.t b)))
def Xv (g:Nat)(s:Bool)(a b k:Nat):zv:=(some (g,s),.r (.ld a (.t b) k false))
def u9 (g:Nat)(s:Bool)(a:Nat)(op:BinOp)(b:Nat)(k:Int):zv:=(some (g,s),.r (.bin a op 0 (.t b) (.c (.int .i64 k))))
def vZ (g:Nat)(s:Bool)(a:Nat)(op:BinOp)(b c:Nat):zv:=(some (g,s),.r (.bin a op 0 (.t b) (.t c)))
attribute [go_sem] oM oS oI oZ oO oL oT oF oX oN oE oB oD oC v6 Gf oP oQ oW oY oK Xv u9 vZ
end Go.Ga

namespace Go.Ga
open Go
theorem KB {E:Env}{po:Option (List Nat)}{u v:Value}(h:VRel E po (.sc u) v):u=v:=by
 generalize hA:za.sc u=A at h
 cases h<;>cases hA
 rfl
theorem yf {P:Program}{L:List (List Nat)}{f:Nat}(hc:J9 P f=true){us:List Value}{v:Value}(H:∀w,Calls P f us.toArray w fun e w'=>e= .returned v∧w'=w):
    zJ P L f (us.map .sc) [] fun r h'=>r= .sc v∧h'=[]:=by
  refine⟨hc,fun E vs hH hs hv=>?_⟩
  have e:vs=us.toArray:=by
    apply Array.ext
    · simpa using hs
    · intro i h1 h2
      have h3:i<us.length:=by simpa using h2
      have:=hv i (.sc us[i]) vs[i] (by simp[h3]) (by simp[h1])
      rw[←KB this];simp
  subst e
  refine(H E.w).mono fun e w' ⟨h1,h2⟩=>?_
  subst h1 h2
  exact⟨v,.sc v,[],E,rfl,rfl,hH,.sc _ _,zy.refl E,rfl,rfl⟩
end Go.Ga
