/- Values, objects, and code by what it leads to: a library of this claim's own. No condition. -/
import Derived.Test.YtneiihheeghdcaaDoorGcciijd4
import Derived.Sort.Grow
set_option linter.all false

namespace Go.Ga
open Go
def Z6 (xs:List Nat):List zb:=xs.map fun(n:Nat)=> .sc (.int .i64 (n:Int))
def ints (xs:List Int):List zb:=xs.map fun n=> .sc (.int .i64 n)
theorem qc (xs:List Nat):(Z6 xs).length=xs.length:=by simp[Z6]
theorem zm (xs:List Int):(ints xs).length=xs.length:=by simp[ints]
theorem UL {xs:List Nat}{k:Nat}(h:k<xs.length):(Z6 xs)[k]?=some (.sc (.int .i64 ((xs.getD k 0:Nat):Int))):=by
 simp[Z6,List.getElem?_map,List.getElem?_eq_getElem h,h]
theorem O9 {xs:List Int}{k:Nat}(h:k<xs.length):(ints xs)[k]?=some (.sc (.int .i64 (xs.getD k 0))):=by
 simp[ints,List.getElem?_map,List.getElem?_eq_getElem h,h]
theorem OW (xs:List Nat)(k n:Nat):(Z6 xs).set k (.sc (.int .i64 (n:Int)))=Z6 (xs.set k n):=by
 simp[Z6,List.map_set]
theorem UV (xs:List Int)(k:Nat)(n:Int):(ints xs).set k (.sc (.int .i64 n))=ints (xs.set k n):=by
 simp[ints,List.map_set]
mutual
def zb.plain :zb→Bool
 | .sc _=>true
 | .agg cs=>zb.plainL cs
 | .imm _ cs=>zb.plainL cs
 | .ia cs=>zb.plainL cs
 | .tup cs=>zb.plainL cs
 | .fn _ as bs=>zb.plainL as&&zb.plainL bs
 | .iface _ A=>A.plain
 |_=>false
def zb.plainL :List zb→Bool
 |[]=>true
 |A::l=>A.plain&&zb.plainL l
end
mutual
theorem We :∀A:zb,A.plain=true→A.copyable=true
 | .sc _,_=>rfl
 | .agg cs,h=>by simp only[zb.copyable];exact plain_copyableL cs h
 | .imm _ _,_=>rfl
 | .ia _,_=>rfl
 | .tup cs,h=>by simp only[zb.copyable];exact plain_copyableL cs h
 | .fn _ _ _,_=>rfl
 | .iface _ _,_=>rfl
 | .own _ _,h=>by cases h
 | .sl _ _ _ _,h=>by cases h
 | .ptr _ _,h=>by cases h
 | .at_ _,h=>by cases h
 | .addr _ _,h=>by cases h
 | .dead,h=>by cases h
theorem plain_copyableL :∀l:List zb,zb.plainL l=true→zb.copyableL l=true
 |[],_=>rfl
 | A::l,h=>by
   simp only[zb.plainL,Bool.and_eq_true] at h
   simp only[zb.copyableL,We A h.1,plain_copyableL l h.2,Bool.and_self]
end
mutual
theorem Wd :∀A:zb,A.plain=true→A.ids0=true
 | .sc _,_=>rfl
 | .agg cs,h=>by simp only[zb.ids0];exact plain_ids0L cs h
 | .imm _ cs,h=>by simp only[zb.ids0];exact plain_ids0L cs h
 | .ia cs,h=>by simp only[zb.ids0];exact plain_ids0L cs h
 | .tup cs,h=>by simp only[zb.ids0];exact plain_ids0L cs h
 | .fn _ as bs,h=>by
   simp only[zb.plain,Bool.and_eq_true] at h
   simp only[zb.ids0,plain_ids0L as h.1,plain_ids0L bs h.2,Bool.and_self]
 | .iface _ A,h=>by simp only[zb.ids0];exact Wd A h
 | .own _ _,h=>by cases h
 | .sl _ _ _ _,h=>by cases h
 | .ptr _ _,h=>by cases h
 | .at_ _,h=>by cases h
 | .addr _ _,h=>by cases h
 | .dead,h=>by cases h
theorem plain_ids0L :∀l:List zb,zb.plainL l=true→zb.ids0L l=true
 |[],_=>rfl
 | A::l,h=>by
   simp only[zb.plainL,Bool.and_eq_true] at h
   simp only[zb.ids0L,Wd A h.1,plain_ids0L l h.2,Bool.and_self]
end
theorem j5 {α:Type}(f:α→Value)(xs:List α):zb.plainL (xs.map fun x=> .sc (f x))=true∧zb.flatL (xs.map fun x=> .sc (f x))=true:=by
 induction xs with
 |nil=>exact⟨rfl,rfl⟩
 |cons x xs ih=>simp only[List.map_cons,zb.plainL,zb.plain,zb.flatL,zb.flat,ih,Bool.and_self,and_self]
theorem qI (xs:List Nat):zb.plainL (Z6 xs)=true:=(j5 _ xs).1
theorem Xp (xs:List Nat):zb.flatL (Z6 xs)=true:=(j5 _ xs).2
theorem yr (xs:List Int):zb.plainL (ints xs)=true:=(j5 _ xs).1
theorem pz (xs:List Int):zb.flatL (ints xs)=true:=(j5 _ xs).2
theorem UM (xs:List Nat):zb.cellOkL (Z6 xs)=true:=by
 induction xs with
 |nil=>rfl
 |cons x xs ih=>exact(Bool.and_eq_true _ _).mpr ⟨rfl,ih⟩
theorem UX (xs:List Int):zb.cellOkL (ints xs)=true:=by
 induction xs with
 |nil=>rfl
 |cons x xs ih=>exact(Bool.and_eq_true _ _).mpr ⟨rfl,ih⟩
theorem Q8 (xs:List Nat):zb.copyableL (Z6 xs)=true:=plain_copyableL _ (qI xs)
theorem Q9 (xs:List Int):zb.copyableL (ints xs)=true:=plain_copyableL _ (yr xs)
theorem wn (xs:List Nat):zb.freezeL (Z6 xs)=Z6 xs:=copyable_freezeL _ (Q8 xs)
theorem UW (xs:List Int):zb.freezeL (ints xs)=ints xs:=copyable_freezeL _ (Q9 xs)
theorem YA (xs:List Nat):zb.ids0L (Z6 xs)=true:=plain_ids0L _ (qI xs)
theorem Xw (xs:List Int):zb.ids0L (ints xs)=true:=plain_ids0L _ (yr xs)
theorem OX (g:Nat→Option Nat)(xs:List Nat):zb.renL g (Z6 xs)=Z6 xs:=ids0_renL g _ (YA xs)
theorem O8 (g:Nat→Option Nat)(xs:List Int):zb.renL g (ints xs)=ints xs:=ids0_renL g _ (Xw xs)
section
variable {P:Program} {rs:List Nat} {N:Nat} {V V1 V2:List Nat} {L:List (List Nat)} {x y:zM} {K:Z5→zc→Prop} {st:zc} {gs:List zl} {t:ZP} {i j d:Nat}
theorem zt (h:∀Y:zc→Prop,(∀s,K .normal (s.settle V2)→Y s)→Q0 P L Y gs (st.settle V1)):j7 P rs N V L (.reg V1 gs V2) K st:=gJ (h _ fun _ h=>h)
theorem za (h:∀Y:zc→Prop,(∀s,j7 P rs N V L y K (s.settle V2)→Y s)→Q0 P L Y gs (st.settle V1)):j7 P rs N V L (.seq (.reg V1 gs V2) y) K st:=uD (gJ (h _ fun _ h=>h))
theorem Zb (h:∀Y:zc→Prop,(∀s,j7 P rs N V L y K (s.settle V2)→Y s)→jh P Y t [([],L)] (st.settle V1)):j7 P rs N V L (.seq (.draw V1 t V2) y) K st:=uD (Of (h _ fun _ h=>h))
theorem zf (h:∀X:Z5→zc→Prop,(∀s,j7 P rs N V L y K s→X .normal s)→(∀i s,K (.exit i) s→X (.exit i) s)→(∀s,K .ret s→X .ret s)→j7 P rs N V L x X st):j7 P rs N V L (.seq x y) K st:=
 uD (h _ (fun _ h=>h) (fun _ _ h=>h) fun _ h=>h)
theorem zr (h:∀X:Z5→zc→Prop,(∀s,K .normal s→X .normal s)→(∀s,K .normal s→X (.exit i) s)→(∀j s,j≠i→K (.exit j) s→X (.exit j) s)→(∀s,K .ret s→X .ret s)→j7 P rs N V L x X st):j7 P rs N V L (.blk i x) K st:=
 zbr (h _ (fun _ h=>h) (fun _ h=>(if_pos rfl).mpr h) (fun j _ hj h=>(if_neg hj).mpr h) fun _ h=>h)
theorem yD (I:Nat→zc→Prop)(n:Nat)(h0:I n st)(h:∀n s,I n s→∀X:Z5→zc→Prop,(∀m s,m<n→I m s→X .normal s)→(∀i s,K (.exit i) s→X (.exit i) s)→(∀s,K .ret s→X .ret s)→j7 P rs N V L x X s):j7 P rs N V L (.loop x) K st:=
 Od I n h0 fun n s hI=>h n s hI _ (fun m _ hm h=>⟨m,hm,h⟩) (fun _ _ h=>h) fun _ h=>h
theorem zd (h:K .ret st):j7 P rs N V L .ret K st:=zbq h
theorem zS (h:K (.exit i) st):j7 P rs N V L (.exit i) K st:=Oe h
theorem zi (h:K .normal st):j7 P rs N V L .skip K st:=Oc h
theorem wP {c:zB}{v:Bool}(hc:st.ev c= .sc (.bool v))(h1:v=true→j7 P rs N V L x K st)(h2:v=false→j7 P rs N V L y K st):j7 P rs N V L (.cond c x y) K st:=wZ hc h1 h2
theorem jV {c:zB}(hc:st.ev c= .sc (.bool true))(h1:j7 P rs N V L x K st):j7 P rs N V L (.cond c x y) K st:=wZ hc (fun _=>h1) fun h=>by cases h
theorem jW {c:zB}(hc:st.ev c= .sc (.bool false))(h1:j7 P rs N V L y K st):j7 P rs N V L (.cond c x y) K st:=wZ hc (fun h=>by cases h) fun _=>h1
theorem zaR {K:zc→Prop}:Q0 P L K [] st=K st:=rfl
theorem QW {K:zc→Prop}{g:zl}{rest:List zl}:Q0 P L K (g::rest) st=Zv P L (Q0 P L K rest) st g:=rfl
theorem Wy {K:zc→Prop}{b:Z2}:Zv P L K st (none,b)=(b.quiet L st=true∧jJ P L K st b):=rfl
theorem Xz {K:zc→Prop}{t:Nat}{want:Bool}{b:Z2}(h:st.get t= .sc (.bool want)):Zv P L K st (some (t,want),b)=(b.quiet L st=true∧jJ P L K st b):=by
 have h1:want≠(!want):=by cases want<;>decide
 simp[Zv,h,h1]
theorem Wz {K:zc→Prop}{t d:Nat}{want:Bool}{b:Z2}(h:st.get t= .sc (.bool (!want)))(hd:b.dst=some d):Zv P L K st (some (t,want),b)=K (st.putT d (.sc (.tuple #[]))):=by
 have h1:(!want)≠want:=by cases want<;>decide
 simp[Zv,h,h1,hd]
theorem wq {K:zc→Prop}{t d:Nat}{want:Bool}{b:Z2}(h:st.get t= .sc (.tuple #[]))(hd:b.dst=some d):Zv P L K st (some (t,want),b)=K (st.putT d (.sc (.tuple #[]))):=by
 simp[Zv,h,hd]
theorem yl {b:Z2}:(b.quiet [] st=true)=True:=by rw[G5];exact eq_self true
theorem pr (j:Nat)(A:zb)(l:List (Nat×zb))(i:Nat):zX ((j,A)::l) i=if i=j then some A else zX l i:=rfl
theorem O1 (i:Nat):zX [] i=none:=rfl
theorem oq (j:Nat)(A B:zb)(l:List (Nat×zb))(i:Nat):Kt ((j,A)::l) i B=if i=j then(j,B)::l else(j,A)::Kt l i B:=rfl
theorem zej (vs ts:List (Nat×zb))(h:Heap)(i:Nat):zc.get ⟨vs,ts,h⟩ i=jm (zX ts i) (zX vs i):=rfl
theorem K5 (A:zb)(x:Option zb):jm (some A) x=A:=rfl
theorem K6 (A:zb):jm none (some A)=A:=rfl
theorem O2 :jm none none= .dead:=rfl
theorem zfh (st:zc)(i:Nat):st.ev (.t i)=st.get i:=rfl
theorem zfj (st:zc)(v:Value):st.ev (.c v)= .sc v:=rfl
theorem zfi (st:zc)(g:Nat):st.ev (.f g)= .fn (.func g) [] []:=rfl
theorem zeU (st:zc)(i:Nat):st.evA (.t i)=(st.get i).here i:=rfl
theorem zeV (st:zc)(v:Value):st.evA (.c v)= .sc v:=rfl
theorem zeT (st:zc)(v:Value):st.evU (.c v)= .sc v:=rfl
theorem zeS (st:zc)(g:Nat):st.evU (.f g)= .fn (.func g) [] []:=rfl
theorem GG (vs ts:List (Nat×zb))(h:Heap)(V:List Nat):zc.settle ⟨vs,ts,h⟩ V=⟨V.map fun i=>(i,(jm (zX ts i) (zX vs i)).cut V),[],h⟩:=rfl
theorem zbv (vs ts:List (Nat×zb))(h:Heap)(d:Nat)(A:zb):zc.putT ⟨vs,ts,h⟩ d A=⟨vs,(d,A)::ts,h⟩:=rfl
theorem zbD (vs ts:List (Nat×zb))(h:Heap)(f:zb→Bool):zc.kill ⟨vs,ts,h⟩ f=⟨JZ f vs,JZ f ts,h⟩:=rfl
theorem K9 (f:zb→Bool)(j:Nat)(A:zb)(l:List (Nat×zb)):JZ f ((j,A)::l)=(j,bif f A then .dead else A)::JZ f l:=rfl
theorem px (f:zb→Bool):JZ f []=[]:=rfl
def gI (vs ts:List (Nat×zb))(h:Heap)(i:Nat)(A:zb):Option zb→zc
 |some _=>⟨vs,Kt ts i A,h⟩
 |none=>⟨Kt vs i A,ts,h⟩
theorem zdw (vs ts:List (Nat×zb))(h:Heap)(i:Nat)(A:zb):zc.set ⟨vs,ts,h⟩ i A=gI vs ts h i A (zX ts i):=by
 unfold zc.set gI
 cases zX ts i<;>rfl
theorem KJ (vs ts:List (Nat×zb))(h:Heap)(i:Nat)(A B:zb):gI vs ts h i A (some B)=⟨vs,Kt ts i A,h⟩:=rfl
theorem KK (vs ts:List (Nat×zb))(h:Heap)(i:Nat)(A:zb):gI vs ts h i A none=⟨Kt vs i A,ts,h⟩:=rfl
def gX (i:Nat)(A:zb):Option zb→zb
 |some B=>B
 | none=>match A with
   | .agg cs=>bif zb.copyableL cs then .agg cs else .at_ [0,i]
   |A=>A.here i
theorem zeR (vs ts:List (Nat×zb))(h:Heap)(i:Nat):zc.evU ⟨vs,ts,h⟩ (.t i)=gX i (jm (zX ts i) (zX vs i)) (zX ts i):=by
 show(match zX ts i with|some A=>A|none=>match jm (zX ts i) (zX vs i) with| .agg cs=>bif zb.copyableL cs then .agg cs else .at_ [0,i]|A=>A.here i)=_
 unfold gX
 rfl
theorem gk (i:Nat)(A B:zb):gX i A (some B)=B:=rfl
theorem zeq (v:Value):(zb.sc v).cut V= .sc v:=rfl
theorem zbY (cs:List zb):(zb.agg cs).cut V= .agg cs:=rfl
theorem zbV (sz:Nat)(cs:List zb):(zb.imm sz cs).cut V= .imm sz cs:=rfl
theorem zbU (hd:Option Nat)(cs:List zb):(zb.own hd cs).cut V= .own hd cs:=rfl
theorem zep (a b c e:Nat):(zb.sl a b c e).cut V= .sl a b c e:=rfl
theorem zbT (a b:Nat):(zb.ptr a b).cut V= .ptr a b:=rfl
theorem zet (cs:List zb):(zb.ia cs).cut V= .ia cs:=rfl
theorem zeu (f:Fn)(a b:List zb):(zb.fn f a b).cut V= .fn f a b:=rfl
theorem pH (t:TypeId)(A:zb):(zb.iface t A).cut V= .iface t A:=rfl
theorem zbS (cs:List zb):(zb.tup cs).cut V= .tup cs:=rfl
theorem zes (ks:List Int):(zb.mp ks).cut V= .mp ks:=rfl
theorem zat :zb.dead.cut V= .dead:=rfl
theorem zbX (ks:List Nat):(zb.at_ (0::i::ks)).cut V=bif V.contains i then .at_ (0::i::ks) else .dead:=rfl
theorem zbW (ks:List Nat):(zb.at_ (1::ks)).cut V= .at_ (1::ks):=rfl
theorem pJ (ks:List Nat)(k:Nat):(zb.addr (0::i::ks) k).cut V=bif V.contains i then .addr (0::i::ks) k else .dead:=rfl
theorem pI (ks:List Nat)(k:Nat):(zb.addr (1::ks) k).cut V= .addr (1::ks) k:=rfl
theorem zbI (v:Value):(zb.sc v).here i= .sc v:=rfl
theorem zaj (cs:List zb):(zb.agg cs).here i= .agg cs:=rfl
theorem zag (sz:Nat)(cs:List zb):(zb.imm sz cs).here i= .imm sz cs:=rfl
theorem zah (cs:List zb):(zb.own none cs).here i= .addr [0,i] 0:=rfl
theorem zaf (sz:Nat)(cs:List zb):(zb.own (some sz) cs).here i= .at_ [0,i]:=rfl
theorem zbH (a b c e:Nat):(zb.sl a b c e).here i= .sl a b c e:=rfl
theorem zae (a b:Nat):(zb.ptr a b).here i= .ptr a b:=rfl
theorem zbK (cs:List zb):(zb.ia cs).here i= .ia cs:=rfl
theorem zbL (f:Fn)(a b:List zb):(zb.fn f a b).here i= .fn f a b:=rfl
theorem ge (t:TypeId)(A:zb):(zb.iface t A).here i= .iface t A:=rfl
theorem zad (cs:List zb):(zb.tup cs).here i= .tup cs:=rfl
theorem zbJ (ks:List Int):(zb.mp ks).here i= .mp ks:=rfl
theorem zai (p:List Nat):(zb.at_ p).here i= .at_ p:=rfl
theorem gf (p:List Nat)(k:Nat):(zb.addr p k).here i= .addr p k:=rfl
theorem GW (v:Value):(zb.sc v).rootIs i=false:=rfl
theorem KU (cs:List zb):(zb.agg cs).rootIs i=false:=rfl
theorem KR (sz:Nat)(cs:List zb):(zb.imm sz cs).rootIs i=false:=rfl
theorem KQ (hd:Option Nat)(cs:List zb):(zb.own hd cs).rootIs i=false:=rfl
theorem GV (a b c e:Nat):(zb.sl a b c e).rootIs i=false:=rfl
theorem KP (a b:Nat):(zb.ptr a b).rootIs i=false:=rfl
theorem GY (cs:List zb):(zb.ia cs).rootIs i=false:=rfl
theorem GZ (f:Fn)(a b:List zb):(zb.fn f a b).rootIs i=false:=rfl
theorem uG (t:TypeId)(A:zb):(zb.iface t A).rootIs i=false:=rfl
theorem KO (cs:List zb):(zb.tup cs).rootIs i=false:=rfl
theorem GX (ks:List Int):(zb.mp ks).rootIs i=false:=rfl
theorem Uz :zb.dead.rootIs i=false:=rfl
theorem KT (ks:List Nat):(zb.at_ (0::j::ks)).rootIs i=(j==i):=rfl
theorem KS (ks:List Nat):(zb.at_ (1::ks)).rootIs i=false:=rfl
theorem uI (ks:List Nat)(k:Nat):(zb.addr (0::j::ks) k).rootIs i=(j==i):=rfl
theorem uH (ks:List Nat)(k:Nat):(zb.addr (1::ks) k).rootIs i=false:=rfl
theorem at0 (st:zc)(i:Nat)(ks:List Nat):st.at (0::i::ks)=(st.get i).sub ks:=rfl
def zdu (k:Nat)(ks:List Nat):Option (Option (List zb))→Option zb
 |some (some cs)=>(zb.own none cs).sub (k::ks)
 |_=>none
theorem at1 (vs ts:List (Nat×zb))(h:Heap)(id k:Nat)(ks:List Nat):zc.at ⟨vs,ts,h⟩ (1::id::k::ks)=zdu k ks h[id]?:=by
 simp only[zc.at,zdu]
 cases h[id]? with
 |none=>rfl
 |some x=>cases x<;>rfl
theorem Gz (k:Nat)(ks:List Nat)(cs:List zb):zdu k ks (some (some cs))=(zb.own none cs).sub (k::ks):=rfl
def KC (ks:List Nat):Option zb→Option zb
 |some B=>B.sub ks
 |none=>none
theorem Gy (ks:List Nat)(B:zb):KC ks (some B)=B.sub ks:=rfl
theorem zbd (A:zb):A.sub []=some A:=by cases A<;>rfl
theorem zbc (hd:Option Nat)(cs:List zb)(k:Nat)(ks:List Nat):(zb.own hd cs).sub (k::ks)=KC ks cs[k]?:=by
 simp only[zb.sub,zb.kids,KC];cases cs[k]?<;>rfl
theorem zbg (cs:List zb)(k:Nat)(ks:List Nat):(zb.agg cs).sub (k::ks)=KC ks cs[k]?:=by
 simp only[zb.sub,zb.kids,KC];cases cs[k]?<;>rfl
theorem zbb (cs:List zb)(k:Nat)(ks:List Nat):(zb.tup cs).sub (k::ks)=KC ks cs[k]?:=by
 simp only[zb.sub,zb.kids,KC];cases cs[k]?<;>rfl
def xO (cs:List zb)(k:Nat)(ks:List Nat)(B:zb):Option zb→List zb
 |some C=>cs.set k (C.setSub ks B)
 |none=>cs
theorem GH (cs:List zb)(k:Nat)(ks:List Nat)(B C:zb):xO cs k ks B (some C)=cs.set k (C.setSub ks B):=rfl
theorem KH (A B:zb):A.setSub [] B=B:=by cases A<;>rfl
theorem KG (hd:Option Nat)(cs:List zb)(k:Nat)(ks:List Nat)(B:zb):(zb.own hd cs).setSub (k::ks) B= .own hd (xO cs k ks B cs[k]?):=by
 simp only[zb.setSub,xO];cases cs[k]?<;>rfl
theorem KI (cs:List zb)(k:Nat)(ks:List Nat)(B:zb):(zb.agg cs).setSub (k::ks) B= .agg (xO cs k ks B cs[k]?):=by
 simp only[zb.setSub,xO];cases cs[k]?<;>rfl
theorem KF (cs:List zb)(k:Nat)(ks:List Nat)(B:zb):(zb.tup cs).setSub (k::ks) B= .tup (xO cs k ks B cs[k]?):=by
 simp only[zb.setSub,xO];cases cs[k]?<;>rfl
theorem zdz (st:zc)(i:Nat)(ks:List Nat)(B:zb):st.setAt (0::i::ks) B=st.set i ((st.get i).setSub ks B):=rfl
def zdx (vs ts:List (Nat×zb))(h:Heap)(id k:Nat)(ks:List Nat)(B:zb):Option (Option (List zb))→zc
 |some (some cs)=>⟨vs,ts,h.set id (some (xO cs k ks B cs[k]?))⟩
 |_=>⟨vs,ts,h⟩
theorem zdy (vs ts:List (Nat×zb))(h:Heap)(id k:Nat)(ks:List Nat)(B:zb):zc.setAt ⟨vs,ts,h⟩ (1::id::k::ks) B=zdx vs ts h id k ks B h[id]?:=by
 simp only[zc.setAt,zdx]
 cases h[id]? with
 |none=>rfl
 | some x=>cases x with
   |none=>rfl
   |some cs=>simp only[xO];cases cs[k]?<;>rfl
theorem GI (vs ts:List (Nat×zb))(h:Heap)(id k:Nat)(ks:List Nat)(B:zb)(cs:List zb):zdx vs ts h id k ks B (some (some cs))=⟨vs,ts,h.set id (some (xO cs k ks B cs[k]?))⟩:=rfl
theorem K8 (st:zc):st.kill (fun _=>false)=st:=by
 have:∀l:List (Nat×zb),JZ (fun _=>false) l=l:=fun l=>by
  induction l with
  |nil=>rfl
  |cons x l ih=>obtain⟨i,A⟩:=x;simp[JZ,ih]
 simp[zc.kill,this]
theorem zak {gb:Nat→Option Nat}{h':Heap}:WA [] L gb h'=fun _=>false:=by
 funext A
 unfold WA
 split
 · simp[jT]
 · simp[jT]
 · rfl
theorem Ux {gb:Nat→Option Nat}{h':Heap}:∀(i:Nat) (l:Heap),QY (jT []) gb h' i l=l
 |_,[]=>rfl
 | i,o::l=>by
   have ih:=Ux (gb:=gb) (h':=h') (i+1) l
   simp only[QY,ih]
   rfl
def xV (st:zc):List (zB×Bool)→List zb
 |[]=>[]
 |(x,_)::xs=>zaT st [] true x::xV st xs
theorem x9 :∀(args:List (zB×Bool)),∃As,st.useL (Yu args [])=some (As,st)∧As.length=args.length∧st.useLQ L (Yu args [])=true
 |[]=>⟨[],rfl,rfl,rfl⟩
 | (x,b)::xs=>by
   obtain⟨As,h1,h2,h3⟩:=x9 xs
   refine⟨.sc (.bool false)::As,?_,by simp[h2],?_⟩
   · simp only[Yu,List.headD_nil,List.tail_nil,zc.useL,zc.use,zc.evU,zb.copyable,cond_true,h1]
   · simp only[Yu,List.headD_nil,List.tail_nil,zc.useLQ,zc.useQ,zc.use,zc.evU,zb.copyable,cond_true,h3,Bool.and_self]
theorem wt {st0:zc}:∀(args:List (zB×Bool)) (As:List zb),As.length=args.length→j0 st0 st [] true none args [] As=xV st args
 |[],[],_=>rfl
 |[],_::_,h=>by simp at h
 |_::_,[],h=>by simp at h
 | (x,b)::xs,A::As,h=>by
   simp only[j0,List.headD_nil,List.tail_nil,xV,wt xs As (by simpa using h)]
theorem gB {f:zB}{args:List (zB×Bool)}{K:zc→Prop}{g:Nat}{first captured:List zb}(hev:st.ev f= .fn (.func g) first captured)
    (H:zn P [] g (Ks st.h [] true first++(xV st args++Ks st.h [] true captured)) [] fun r h'=>h'=[]∧r.flat=true∧r.ids0=true∧K (st.putT d r)):yc P L st d f args K:=by
  unfold yc
  rw[hev]
  refine⟨[],[],true,none,?_⟩
  unfold yz
  obtain⟨As,h1,h2,h3⟩:=x9 (st:=st) (L:=L) args
  have hw:∀L:List (List Nat),zJ [] L=[]:=fun L=>by
    induction L with
    |nil=>rfl
    | cons r L ih=>
      unfold zJ
      split
      · rename_i heq;cases heq
      · rename_i heq;cases heq;simp[jT,ih]
      · rename_i heq;cases heq;exact ih
  simp only[we,h1,wt _ _ h2,h3,Un,hw,ZF]
  refine⟨rfl,rfl,rfl,H.mono fun r h' ⟨e,hf,hi,hk⟩=>?_⟩
  subst e
  refine⟨Nat.le_refl _,fun _=>⟨hf,rfl⟩,?_⟩
  simp only[zZ,zc.after,zak,K8,Ux,Ww _ _ hi]
  simpa[Qh] using hk
theorem oo {f:zB}{args:List (zB×Bool)}{K:zc→Prop}{g:Nat}{first captured:List zb}(hev:st.ev f= .fn (.func g) first captured)(ms:List wH)(bo:List Nat)(ln:Bool)(pl:Option (List Nat))
    (H:yz P L st d g first captured args ms bo ln pl K):yc P L st d f args K:=by
  unfold yc
  rw[hev]
  exact⟨ms,bo,ln,pl,H⟩
end
end Go.Ga

namespace Go.Ga
open Go
section
variable {P:Program} {L:List (List Nat)} {K:zc→Prop} {st st0 st1:zc} {d:Nat}
theorem zb3 {b:Z2}{rest:List zl}:Q0 P [] K ((none,b)::rest) st=jJ P [] (Q0 P [] K rest) st b:=by
 rw[QW,Wy,yl,true_and]
theorem zaS {t:Nat}{want:Bool}{b:Z2}{rest:List zl}(h:st.get t= .sc (.bool want)):Q0 P [] K ((some (t,want),b)::rest) st=jJ P [] (Q0 P [] K rest) st b:=by
 rw[QW,Xz h,yl,true_and]
theorem oh {t d:Nat}{want:Bool}{b:Z2}{rest:List zl}(h:st.get t= .sc (.bool (!want)))(hd:b.dst=some d):Q0 P [] K ((some (t,want),b)::rest) st=Q0 P [] K rest (st.putT d (.sc (.tuple #[]))):=by
 rw[QW,Wz h hd]
theorem gy {t d:Nat}{want:Bool}{b:Z2}{rest:List zl}(h:st.get t= .sc (.tuple #[]))(hd:b.dst=some d):Q0 P [] K ((some (t,want),b)::rest) st=Q0 P [] K rest (st.putT d (.sc (.tuple #[]))):=by
 rw[QW,wq h hd]
theorem Gv {wl:List jC}:jh P K .done wl st=K st:=rfl
theorem Gt {later:List Nat}{gd:Option (Nat×Bool)}{o:Kv}{t:ZP}{wl:List jC}:jh P K (.take later (gd,.r o) t) wl st=Zv P [] (jh P K t ((later,JC st o)::wl)) st (gd,.r o):=rfl
theorem oA {i:Nat}{g:zl}{t:ZP}{wl:List jC}:jh P K (.one i g t) wl st=Zv P (Jf (ZB i wl)) (jh P K t (ZB i wl)) st g:=rfl
theorem Gu {i:Nat}{g:zl}{l:List (Nat×zl)}{t:ZP}{wl:List jC}:jh P K (.many ((i,g)::l) t) wl st=Zv P [] (jh P K (.many l t) (ZB i wl)) st g:=rfl
theorem Kz {t:ZP}{wl:List jC}:jh P K (.many [] t) wl st=jh P K t wl st:=rfl
theorem oz {i j:Nat}{g h:zl}{t u:ZP}{wl:List jC}:jh P K (.two i g t j h u) wl st=(Zv P (Jf (ZB i wl)) (jh P K t (ZB i wl)) st g∧Zv P (Jf (ZB j wl)) (jh P K u (ZB j wl)) st h):=rfl
theorem Ky {i j k:Nat}{g h m:zl}{t u v:ZP}{wl:List jC}:jh P K (.three i g t j h u k m v) wl st=(Zv P (Jf (ZB i wl)) (jh P K t (ZB i wl)) st g∧Zv P (Jf (ZB j wl)) (jh P K u (ZB j wl)) st h∧Zv P (Jf (ZB k wl)) (jh P K v (ZB k wl)) st m):=rfl
theorem uC (cs:List zb)(k:Nat)(A:zb):zT cs k [A]=cs.set k A:=rfl
theorem zaq {rss:List yC}{Q:zb→Heap→Prop}{s:zc}:gm [] rss Q .ret s=match xU rss s with
    |some (As,s')=>Q (KZ As) s'.h
    |none=>False:=by
  simp only[gm,QX,true_and]<;>rfl
theorem pD {rss:List yC}{Q:zb→Heap→Prop}{s:zc}:gm [] rss Q .normal s=match xU rss s with
    |some (As,s')=>Q (KZ As) s'.h
    |none=>False:=by
  simp only[gm,QX,true_and]<;>rfl
theorem zh {f:zB}{args:List (zB×Bool)}{g:Nat}{first captured As:List zb}(hev:st.ev f= .fn (.func g) first captured)(hargs:Ks st.h [] true first++(xV st args++Ks st.h [] true captured)=As)
    (H:zn P [] g As [] fun r h'=>h'=[]∧r.flat=true∧r.ids0=true∧K (st.putT d r)):yc P L st d f args K:=
  gB hev (by rw[hargs];exact H)
theorem z7 {f:zB}{args:List (zB×Bool)}{g:Nat}{first captured As args':List zb}{x:Option (List Nat×Nat×List zb)}{h0:Heap}{L':List (List Nat)}(ms:List wH)(bo:List Nat)(ln:Bool)(pl:Option (List Nat))
    (hev:st.ev f= .fn (.func g) first captured) (htake:we st pl=some (x,st0)) (huse:st0.useL (Yu args ms)=some (As,st1)) (hnd:Qk bo=true) (hbo:bo.all (fun i=>decide (i<st1.h.length))=true)
    (hq:(Un L pl&&st0.useLQ L (Yu args ms))=true) (hW:zJ bo L=L') (hargs:Ks st1.h bo ln first++(j0 st st1 bo ln x args ms As++Ks st1.h bo ln captured)=args') (hin:ZF st1.h bo x=h0)
    (H:zn P L' g args' h0 fun r h'=>h0.length≤h'.length∧(ln=true→r.flat=true∧Qp h'=true)∧zZ L d bo h0.length x st1 K r h'):yc P L st d f args K:=by
  refine oo hev ms bo ln pl ?_
  unfold yz
  rw[htake]
  simp only[]
  rw[huse]
  simp only[]
  refine⟨hnd,hbo,hq,?_⟩
  rw[hW,hargs,hin]
  exact H
end
attribute [go_sem] za0 zc.bnd wI za2 zc.cpyQ za1 Km Ko Kl zc.mputQ zes zbJ GX Kq zc.roomTo zb.slQ zb.isAgg wq gy List.getElem?_drop List.drop_drop zaS oh zaR Wy Xz Wz jJ jU ZQ Z2.dst Kv.dst pr O1 oq zej K5 K6 O2 zfh zfj zfi zeU zeV zeR zeT zeS gk gX GG zbv zbD K9 px zdw KJ KK zc.assign zeq zbY zbV zbU zep zbT zet zeu pH zbS zat zbX zbW pJ pI zbI zaj zag zah zaf zbH zae zbK zbL ge zad zai gf GW KU KR KQ GV KP GY GZ uG KO Uz KT KS uI uH zb.copyable zb.copyableL za5 zc.use zc.isNil zc.blank Yy je cond_true cond_false List.map List.getElem?_cons_zero List.getElem?_cons_succ cellsOf YG Option.some.injEq List.contains_cons List.contains_nil Bool.or_false Bool.or_true Bool.true_or Bool.false_or Bool.and_true Bool.true_and XC Option.getD_some Option.getD_none KZ List.length_cons List.length_nil Gv Gt oA oz Ky Gu Kz ZB Jf JC Z2.quiet at0 at1 Gz Gy zbd zbc zbg zbb GH KH KG KI KF zdz zdy GI zc.owned aSt zc.stQ zc.useQ zc.useLQ zc.appQ zb.cells uC zb.cellOkL zb.cellOk zb.aggCopy zb.under List.isPrefixOf zc.storeObj zb.inObj qc zm OW UV zb.int? uS gU u7 List.filter_cons List.filter_nil List.flatMap_cons List.flatMap_nil List.all_cons List.all_nil clear Int.toNat_natCast Nat.mul_one Nat.add_one_le_iff Nat.zero_add Nat.add_zero true_and and_true List.length_map List.set_cons_zero List.set_cons_succ zc.useL List.append_nil List.nil_append List.cons_append List.singleton_append Bool.not_true Bool.not_false Bool.not_eq_true Bool.and_self Bool.or_self Bool.and_false Bool.false_and aMk za4 Kp za6 zaZ za3 xF Kn zc.bound zc.dec ZK XB List.drop_zero List.drop_succ_cons List.drop_nil List.take_succ_cons List.take_zero List.take_nil zc.lenOf zc.shareAt zb.freeze zb.freezeL zc.given zc.more zc.moreQ Option.map_some Option.map_none Int.natCast_nonneg beq_self_eq_true bne_self_eq_false List.getElem?_nil List.set_set zb3 yl Yu j0 zaT vwV vw1 Ks xV xK ZF zJ Qk jT we Un QY Qh Qp Zq WA zb.ren zb.renL zb.flat zb.flatL zb.ids0 zb.ids0L zb.plain zb.plainL qI Xp UM Q8 wn YA OX yr pz UX Q9 UW Xw O8 xU KZ zaq pD clear zc.forget List.headD_cons List.headD_nil List.tail_cons List.tail_nil Option.isNone_none Option.isNone_some Option.isSome_none Option.isSome_some zb.isAlias List.isEmpty_nil List.isEmpty_cons
end Go.Ga

namespace Go.Ga
open Go
theorem qe {α β:Type}{f g:α→Option β}:∀{l:List α} {r:List β},l.mapM f=some r→(∀x∈l,∀y∈r,f x=some y→g x=some y)→l.mapM g=some r
 |[],r,h,_=>by simpa using h
 | x ::l,r,h,hk=>by
   rw[List.mapM_cons] at h⊢
   cases hx:f x with
   |none=>rw[hx] at h;cases h
   | some y=>
     rw[hx] at h
     cases hr:l.mapM f with
     |none=>rw[hr] at h;cases h
     | some r'=>
       rw[hr] at h
       cases h
       rw[hk x (.head _) y (.head _) hx]
       have:=qe hr fun z hz w hw=>hk z (.tail _ hz) w (.tail _ hw)
       rw[this]
       rfl
def Old (w w':World):Prop:=∀b,b<w.heap.size→w'.heap[b]?=w.heap[b]?
section
variable {H:Type} {enc:TypeId×Value→H} {P:Program} {w w':World}
theorem Old.cell (h:Old w w'){a:Addr}{v:Value}(hc:w.cell? a=some v):w'.cell? a=some v:=by
 have hb:a.block<w.heap.size:=World.block_lt_of_cell? w _ hc
 unfold World.cell? at hc⊢
 rw[h _ hb]
 exact hc
theorem Old.cells (h:Old w w'){base:Nat}{a:Addr}{n:Nat}{cs:List Value}(hc:w.cells? base a n=some cs):w'.cells? base a n=some cs:=by
 unfold World.cells? at hc⊢
 split at hc
 · rename_i hb
   rw[if_pos hb]
   exact qe hc fun i _ v _ hv=>h.cell hv
 · cases hc
def Z4 (P:Program)(S:List TypeId)(t:TypeId):Prop:=
 match P.underlying t with
 |some .bool=>True
 |some (.int _)=>True
 |some .string=>True
 |some (.slice e)=>0<P.cellsOf e∧e∈S
 |some (.struct fs)=>∀f∈fs.toList,f.type∈S
 |_=>False
theorem xM {S:List TypeId}(hO:Old w w'){sp:Nat→Bool}{r r':TypeId→List Value→Option (DataW H×List MemPlace)}{t:TypeId}{cs:List Value}{x:DataW H×List MemPlace}
    (hS:Z4 P S t) (hr:∀t cs y,t∈S→r t cs=some y→(∀p∈y.2,sp p.block=true)→r' t cs=some y) (hsp:∀p∈x.2,sp p.block=true) (h:DataW.trodStep enc P w 0 (fun _=>true) true r t cs=some x):DataW.trodStep enc P w' 0 sp true r' t cs=some x:=by
  unfold DataW.trodStep at h⊢
  split at h
  case h_1=>exact h
  case h_2=>exact h
  case h_3=>exact h
  case h_4=>exact h
  case h_5=>exact h
  case h_6 e a hu=>unfold Z4 at hS;rw[hu] at hS;exact hS.elim
  case h_7=>exact h
  case h_8 e a len cap hu=>
    unfold Z4 at hS
    rw[hu] at hS
    obtain⟨hc,heS⟩:=hS
    simp only at h⊢
    split at h
    · rename_i hcond
      rw[if_pos hcond]
      simp only[if_true,Option.map_eq_some_iff,Option.bind_eq_some_iff] at h⊢
      obtain⟨elems,he,rest,hrest,rfl⟩:=h
      have hsub:∀y∈elems++rest,∀p∈y.2,sp p.block=true:=fun y hy p hp=>hsp p (List.mem_append_right _ (List.mem_flatMap.2 ⟨y,hy,hp⟩))
      have one:∀i y,y∈elems++rest→(w.cells? 0 (a.add (i*P.cellsOf e)) (P.cellsOf e)).bind (r e)=some y→(w'.cells? 0 (a.add (i*P.cellsOf e)) (P.cellsOf e)).bind (r' e)=some y:=fun i y hm hy=>by
        simp only[Option.bind_eq_some_iff] at hy⊢
        obtain⟨cs',hc,hy⟩:=hy
        exact⟨cs',hO.cells hc,hr _ _ _ heS hy (hsub y hm)⟩
      refine⟨elems,qe he fun i _ y hy h=>one i y (List.mem_append_left _ hy) h,rest,?_,rfl⟩
      split
      · exact qe hrest fun j _ y hy h=>one (len+j) y (List.mem_append_right _ hy) h
      · rename_i hns
        have hrow:(elems.length+rest.length)*P.cellsOf e=0∨0<(elems.length+rest.length)*P.cellsOf e:=Nat.eq_zero_or_pos _
        rcases hrow with h0|h0
        · have hl:elems.length+rest.length=0:=by
            rcases Nat.eq_zero_or_pos (elems.length+rest.length) with e0|e0
            · exact e0
            · have:=Nat.mul_pos e0 hc;omega
          have:rest=[]:=List.eq_nil_of_length_eq_zero (by omega)
          rw[this]
        · exfalso
          refine hns (hsp (.cell a.block (a.off+0)) (List.mem_append_left _ ?_))
          exact MemPlace.mem_row.2 ⟨0,h0,rfl⟩
    · cases h
  case h_9 fs hu=>
    unfold Z4 at hS
    rw[hu] at hS
    split at h
    · rename_i hl
      rw[if_pos hl]
      simp only[Option.map_eq_some_iff] at h⊢
      obtain⟨xs,hx,rfl⟩:=h
      exact⟨xs,qe hx fun f hf y hy h=>hr _ _ _ (hS f hf) h fun p hp=>hsp p (List.mem_flatMap.2 ⟨y,hy,hp⟩),rfl⟩
    · cases h
  case h_14 k e b hu=>unfold Z4 at hS;rw[hu] at hS;exact hS.elim
  case h_10 n e hu=>unfold Z4 at hS;rw[hu] at hS;exact hS.elim
  all_goals exact h
theorem Xd {S:List TypeId}(hS:∀t∈S,Z4 P S t)(hO:Old w w'){sp:Nat→Bool}:∀(n:Nat) (t:TypeId) (cs:List Value) (x:DataW H×List MemPlace),t∈S→DataW.trod enc P w 0 (fun _=>true) true n t cs=some x→(∀p∈x.2,sp p.block=true)→DataW.trod enc P w' 0 sp true n t cs=some x
 |0,_,_,_,_,h,_=>by simp[DataW.trod] at h
 | n+1,t,cs,x,ht,h,hsp=>by
   rw[DataW.trod_step] at h⊢
   exact xM hO (hS t ht) (Xd hS hO n) hsp h
theorem yF {S:List TypeId}(hS:∀t∈S,Z4 P S t)(hO:Old w w'){sp:Nat→Bool}:∀{ts:List TypeId} {vs:List Value} {ds:List (DataW H)} {ps:List MemPlace},(∀t∈ts,t∈S)→DataW.TrodAll enc P w 0 (fun _=>true) true ts vs ds ps→(∀p∈ps,sp p.block=true)→DataW.TrodAll enc P w' 0 sp true ts vs ds ps
 |[],[],[],ps,_,h,_=>h
 | t::ts,v::vs,d::ds,ps,ht,⟨p,q,⟨fuel,h1⟩,h2,he⟩,hsp=>by
   subst he
   exact⟨p,q,⟨fuel,Xd hS hO fuel t _ _ (ht t (.head _)) h1 fun x hx=>hsp x (List.mem_append_left _ hx)⟩,yF hS hO (fun t h=>ht t (.tail _ h)) h2 fun x hx=>hsp x (List.mem_append_right _ hx),rfl⟩
end
end Go.Ga

namespace Go.Ga
open Go
inductive Sh (P:Program):TypeId→List zb→Nat→Prop
 |bool (t:TypeId) (b:Bool) (hu:P.underlying t=some .bool):Sh P t [.sc (.bool b)] 1
 |int (t:TypeId) (k:IntKind) (n:Int) (hu:P.underlying t=some (.int k)) (hw:(Lit.int k n).wf=true):Sh P t [.sc (.int k n)] 1
 |string (t:TypeId) (s:ByteArray) (hu:P.underlying t=some .string):Sh P t [.sc (.string s)] (s.size+1)
 |slice (t e:TypeId) (L:List (List zb×Nat)) (more:Nat) (hu:P.underlying t=some (.slice e)) (hl:∀x∈L,x.1.length=P.cellsOf e) (h:∀x∈L,Sh P e x.1 x.2):Sh P t [.imm (P.cellsOf e) (L.map (·.1)).flatten] (1+(L.map (·.2)).sum+more)
 |struct (t:TypeId) (fs:Array Field) (L:List (List zb×Nat)) (hu:P.underlying t=some (.struct fs)) (hl:L.length=fs.size) (h:∀(i:Nat) f x,fs[i]?=some f→L[i]?=some x→Sh P f.type x.1 x.2):Sh P t (L.map (·.1)).flatten (1+(L.map (·.2)).sum)
 |other (t:TypeId) (n b:Nat) (h1:∀k,P.underlying t≠some (.int k)) (h2:P.underlying t≠some .bool) (h3:P.underlying t≠some .string) (h4:∀e,P.underlying t≠some (.slice e)) (h5:∀fs,P.underlying t≠some (.struct fs)):Sh P t (List.replicate n .dead) b
mutual
def jK {H:Type}:DataW H→Nat
 | .lit (.string bytes)=>bytes.length+1
 | .lit _=>1
 | .nil=>1
 | .ptr d=>jK d+1
 | .slice elems spare=>bulkL elems+bulkL spare+1
 | .agg parts=>bulkL parts+1
 | .iface _ d=>jK d+1
 | .map entries=>bulkE entries+1
 | .held _=>1
def bulkL {H:Type}:List (DataW H)→Nat
 |[]=>0
 |d::r=>jK d+bulkL r
def bulkE {H:Type}:List (Lit×DataW H)→Nat
 |[]=>0
 |x::r=>bulk1 x+bulkE r
def bulk1 {H:Type}:Lit×DataW H→Nat
 |(.string bytes,d)=>bytes.length+jK d+1
 |(_,d)=>jK d+1
end
def wR (P:Program):Nat→List Field→Option Nat
 |n,[]=>some n
 |n,f::fs=>if f.offset=n then wR P (n+P.cellsOf f.type) fs else none
def Env.plain (w:World):Env:=⟨w,fun _=>none,fun _=>0,fun _=>0,fun _=>0,0⟩
theorem wK {α β:Type}{f:α→Option β}:∀{l:List α} {r:List β},l.mapM f=some r→r.length=l.length∧∀(i:Nat) x,l[i]?=some x→∃y,r[i]?=some y∧f x=some y
 |[],r,h=>by simp at h;subst h;exact⟨rfl,fun i x hx=>by simp at hx⟩
 | a ::l,r,h=>by
   rw[List.mapM_cons] at h
   cases hx:f a with
   |none=>rw[hx] at h;cases h
   | some y=>
     rw[hx] at h
     cases hr:l.mapM f with
     |none=>rw[hr] at h;cases h
     | some r'=>
       rw[hr] at h
       cases h
       obtain⟨h1,h2⟩:=wK hr
       refine⟨by simp[h1],fun i x hi=>?_⟩
       cases i with
       |zero=>simp at hi;subst hi;exact⟨y,rfl,hx⟩
       |succ i=>simpa using h2 i x (by simpa using hi)
theorem WF {sz:Nat}(hsz:0<sz):∀{L:List (List zb)},(∀l∈L,l.length=sz)→L.flatten.length=L.length*sz∧∀(k:Nat) A,L.flatten[k]?=some A→∃l,L[k / sz]?=some l∧l[k%sz]?=some A
 |[],_=>⟨by simp,fun k A h=>by simp at h⟩
 | l ::L,hl=>by
   obtain⟨h1,h2⟩:=WF hsz (L:=L) fun x hx=>hl x (.tail _ hx)
   have hl0:=hl l (.head _)
   refine⟨by simp[h1,hl0,Nat.add_mul,Nat.add_comm],fun k A h=>?_⟩
   rw[List.flatten_cons,List.getElem?_append] at h
   split at h
   · rename_i hlt
     rw[hl0] at hlt
     rw[Nat.div_eq_of_lt hlt,Nat.mod_eq_of_lt hlt]
     exact⟨l,rfl,h⟩
   · rename_i hge
     rw[hl0] at hge h
     obtain⟨l',h3,h4⟩:=h2 _ A h
     have hk:k=(k - sz)+sz:=by omega
     rw[hk,Nat.add_div_right _ hsz,Nat.add_mod_right]
     exact⟨l',by simpa using h3,h4⟩
section
variable {H:Type} {enc:TypeId×Value→H} {P:Program} {w:World}
def Cells (w:World)(As:List zb)(cs:List Value):Prop:=As.length=cs.length∧∀(k:Nat) A v,As[k]?=some A→cs[k]?=some v→VRel (Env.plain w) none A v
theorem JH {A:zb}{v:Value}(h:VRel (Env.plain w) none A v):Cells w [A] [v]:=⟨rfl,fun k B u hB hu=>by
 cases k with
 |zero=>cases hB;cases hu;exact h
 |succ k=>simp at hB⟩
theorem gt (cs:List Value):Cells w (List.replicate cs.length .dead) cs:=⟨by simp,fun k A v hA _=>by
 rw[List.getElem?_replicate] at hA
 split at hA
 · cases hA;exact .dead _ _
 · cases hA⟩
structure ur (P:Program)(S:List TypeId):Prop where
 at_:∀t∈S,Z4 P S t
 tile:∀t∈S,∀fs,P.underlying t=some (.struct fs)→wR P 0 fs.toList=some (P.cellsOf t)
theorem P9 (l:List (DataW H)):bulkL l=(l.map jK).sum:=by
 induction l with
 |nil=>rfl
 |cons x l ih=>simp[bulkL,ih]
theorem y6 {R:TypeId→List zb→Nat→Prop}:∀(fs:List Field) (n m:Nat) (cs:List Value) (xs:List (DataW H×List MemPlace)),wR P n fs=some m→m=cs.length→n≤cs.length→
    (∀(i:Nat) f y,fs[i]?=some f→xs[i]?=some y→∃As,R f.type As (jK y.1)∧Cells w As ((cs.drop f.offset).take (P.cellsOf f.type)))→xs.length=fs.length→
    ∃L:List (List zb×Nat),L.length=fs.length∧(∀(i:Nat) f x,fs[i]?=some f→L[i]?=some x→R f.type x.1 x.2)∧(L.map (·.2)).sum=bulkL (xs.map (·.1))∧Cells w (L.map (·.1)).flatten (cs.drop n)
  | [],n,m,cs,xs,ht,hm,_,_,hl=>by
    cases ht
    have:xs=[]:=List.eq_nil_of_length_eq_zero (by simpa using hl)
    subst this
    subst hm
    exact⟨[],rfl,fun i f x h=>by simp at h,rfl,by simp[Cells]⟩
  |f::fs,n,m,cs,[],ht,hm,hn,h,hl=>by simp at hl
  | f ::fs,n,m,cs,y::xs,ht,hm,hn,h,hl=>by
    simp only[wR] at ht
    split at ht
    · rename_i ho
      obtain⟨As,hR,hc⟩:=h 0 f y rfl rfl
      rw[ho] at hc
      have hle:n+P.cellsOf f.type≤cs.length:=by
        have key:∀(fs:List Field) (a m:Nat),wR P a fs=some m→a≤m:=by
          intro fs
          induction fs with
          |nil=>intro a m h;cases h;exact Nat.le_refl _
          | cons g gs ih=>
            intro a m h
            simp only[wR] at h
            split at h
            · have:=ih _ _ h;omega
            · cases h
        have:=key _ _ _ ht
        omega
      obtain⟨L,h1,h2,h3,h4⟩:=y6 fs (n+P.cellsOf f.type) m cs xs ht hm hle (fun i g z hg hz=>h (i+1) g z (by simpa using hg) (by simpa using hz)) (by simpa using hl)
      refine⟨(As,jK y.1)::L,by simp[h1],fun i g x hg hx=>?_,by simp[bulkL,h3],?_⟩
      · cases i with
        |zero=>simp at hg hx;subst hg;subst hx;exact hR
        |succ i=>exact h2 i g x (by simpa using hg) (by simpa using hx)
      · have hlen:((cs.drop n).take (P.cellsOf f.type)).length=P.cellsOf f.type:=by simp;omega
        have hA:As.length=P.cellsOf f.type:=hc.1.trans hlen
        refine⟨?_,fun k A v hA' hv=>?_⟩
        · have:=h4.1
          simp only[List.map_cons,List.flatten_cons,List.length_append,List.length_drop] at this⊢
          omega
        · simp only[List.map_cons,List.flatten_cons] at hA'
          rw[List.getElem?_append] at hA'
          split at hA'
          · rename_i hlt
            refine hc.2 k A v hA' ?_
            rw[List.getElem?_take_of_lt (by omega)]
            exact hv
          · rename_i hge
            refine h4.2 _ A v hA' ?_
            rw[List.getElem?_drop] at hv⊢
            rw[←hv]
            congr 1
            omega
    · cases ht
theorem ye {S :List TypeId}(hP:ur P S):∀(n:Nat) (t:TypeId) (cs:List Value) (x:DataW H×List MemPlace),t∈S→DataW.trod enc P w 0 (fun _=>true) true n t cs=some x→∃As,Sh P t As (jK x.1)∧Cells w As cs
 |0,_,_,_,_,h=>by simp[DataW.trod] at h
 | n + 1, t, cs,x,ht,h=>by
   have hS:=hP.at_ t ht
   rw[DataW.trod_step] at h
   unfold DataW.trodStep at h
   have other:(∀k,P.underlying t≠some (.int k))→P.underlying t≠some .bool→P.underlying t≠some .string→(∀e,P.underlying t≠some (.slice e))→(∀fs,P.underlying t≠some (.struct fs))→∃As,Sh P t As (jK x.1)∧Cells w As cs:=
    fun h1 h2 h3 h4 h5=>⟨_,.other t cs.length _ h1 h2 h3 h4 h5,gt cs⟩
   split at h
   case h_1 b hu=>cases h;exact⟨_,.bool t b hu,JH (.sc _ _)⟩
   case h_2 k k' m hu=>
    split at h
    · rename_i hc
      obtain⟨rfl,hw⟩:=hc
      cases h
      exact⟨_,.int t _ m hu hw,JH (.sc _ _)⟩
    · cases h
   case h_4 s hu=>
    split at h
    · cases h
      refine⟨_,?_,JH (.sc _ _)⟩
      have e:jK (DataW.lit (H:=H) (.string s.data.toList))=s.size+1:=by
       simp only[jK]
       rw[Array.length_toList]
       rfl
      show Sh P t _ (jK (DataW.lit (H:=H) (.string s.data.toList)))
      rw[e]
      exact .string t s hu
    · cases h
   case h_7 hu=> 
    rename_i e
    cases h
    have:=Sh.slice (P:=P) t e [] 0 hu (fun x hx=>by cases hx) (fun x hx=>by cases hx)
    exact⟨_,by simpa[jK] using this,JH (.immNil _ _ _)⟩
   case h_8 e a len cap hu=>
    simp only at h
    split at h
    · rename_i hcond
      obtain⟨_,hlc,_⟩:=hcond
      unfold Z4 at hS
      rw[hu] at hS
      obtain⟨hsz,heS⟩:=hS
      simp only[if_true,Option.map_eq_some_iff,Option.bind_eq_some_iff] at h
      obtain⟨elems,he,rest,hrest,rfl⟩:=h
      obtain⟨e1,e2⟩:=wK he
      obtain⟨r1,r2⟩:=wK hrest
      simp only[List.length_range] at e1 r1
      have one:∀i y,elems[i]?=some y→∃As,Sh P e As (jK y.1)∧As.length=P.cellsOf e∧∀(k:Nat) A,As[k]?=some A→∃v,w.cell? ((a.add (i*P.cellsOf e)).add k)=some v∧VRel (Env.plain w) none A v:=by
       intro i y hy
       have hi:i<len:=by rw[←e1];exact(List.getElem?_eq_some_iff.1 hy).1
       obtain⟨y',hy',hr⟩:=e2 i i (by simp[hi])
       rw[hy] at hy'
       cases hy'
       simp only[Option.bind_eq_some_iff] at hr
       obtain⟨cs',hc,hr⟩:=hr
       obtain⟨_,hl',hcell⟩:=World.cells?_some hc
       obtain⟨As,hS,hA⟩:=ye hP n _ _ _ heS hr
       refine⟨As,hS,hA.1.trans hl',fun k A hk=>?_⟩
       have hlt:k<cs'.length:=by rw[←hA.1];exact(List.getElem?_eq_some_iff.1 hk).1
       refine⟨cs'[k],?_,hA.2 k A _ hk (List.getElem?_eq_getElem hlt)⟩
       rw[hcell k (by omega)]
       exact List.getElem?_eq_getElem hlt
      have hL:∃L:List (List zb×Nat),L.length=elems.length∧∀(i:Nat) z y,L[i]?=some z→elems[i]?=some y→Sh P e z.1 z.2∧z.2=jK y.1∧z.1.length=P.cellsOf e∧∀(k:Nat) A,z.1[k]?=some A→∃v,w.cell? ((a.add (i*P.cellsOf e)).add k)=some v∧VRel (Env.plain w) none A v:=by
       have key:∀(l:List (DataW H×List MemPlace)) (o:Nat),(∀i y,l[i]?=some y→elems[o+i]?=some y)→∃L:List (List zb×Nat),L.length=l.length∧∀(i:Nat) z y,L[i]?=some z→l[i]?=some y→Sh P e z.1 z.2∧z.2=jK y.1∧z.1.length=P.cellsOf e∧∀(k:Nat) A,z.1[k]?=some A→∃v,w.cell? ((a.add ((o+i)*P.cellsOf e)).add k)=some v∧VRel (Env.plain w) none A v:=by
        intro l
        induction l with
        |nil=>intro o _;exact⟨[],rfl,fun i z y h=>by simp at h⟩
        | cons y0 l ih=>
          intro o hl
          obtain⟨L,h1,h2⟩:=ih (o+1) fun i y hy=>by
           have:=hl (i+1) y (by simpa using hy)
           rwa [show o+(i+1)=o+1+i by omega] at this
          obtain⟨As,h3,h4,h5⟩:=one (o+0) y0 (hl 0 y0 rfl)
          refine⟨(As,jK y0.1)::L,by simp[h1],fun i z y hz hy=>?_⟩
          cases i with
          |zero=>simp at hz hy;subst hz;subst hy;exact⟨h3,rfl,h4,h5⟩
          | succ i=>
            have:=h2 i z y (by simpa using hz) (by simpa using hy)
            rwa [show o+1+i=o+(i+1) by omega] at this
       have:=key elems 0 fun i y hy=>by rw[Nat.zero_add];exact hy
       simpa using this
      obtain⟨L,hl1,hl2⟩:=hL
      have hget:∀z∈L,∃i y,L[i]?=some z∧elems[i]?=some y:=fun z hz=>by
       obtain⟨i,hi⟩:=List.mem_iff_getElem?.1 hz
       have hlt:i<elems.length:=by rw[←hl1];exact(List.getElem?_eq_some_iff.1 hi).1
       exact⟨i,_,hi,List.getElem?_eq_getElem hlt⟩
      have hlen:∀z∈L,z.1.length=P.cellsOf e:=fun z hz=>by
       obtain⟨i,y,h1,h2⟩:=hget z hz
       exact(hl2 i z y h1 h2).2.2.1
      have hsum:(L.map (·.2)).sum=bulkL (elems.map (·.1)):=by
       rw[P9]
       congr 1
       apply List.ext_getElem?
       intro i
       rw[List.getElem?_map,List.getElem?_map,List.getElem?_map]
       cases hz:L[i]? with
       | none=>
         have:elems[i]?=none:=by rw[List.getElem?_eq_none_iff] at hz⊢;omega
         rw[this];rfl
       | some z=>
         have hlt:i<elems.length:=by rw[←hl1];exact(List.getElem?_eq_some_iff.1 hz).1
         have hy:=List.getElem?_eq_getElem hlt
         rw[hy]
         simp[(hl2 i z _ hz hy).2.1]
      have hS:=Sh.slice (P:=P) t e L (bulkL (rest.map (·.1))) hu hlen (fun z hz=>by
       obtain⟨i,y,h1,h2⟩:=hget z hz
       exact(hl2 i z y h1 h2).1)
      rw[hsum] at hS
      refine⟨_,?_,JH (A:= .imm (P.cellsOf e) (L.map (·.1)).flatten) ?_⟩
      · simp only[jK]
        rwa [show bulkL (elems.map (·.1))+bulkL (rest.map (·.1))+1=1+bulkL (elems.map (·.1))+bulkL (rest.map (·.1)) by omega]
      · by_cases h0:cap=0
        · have:L=[]:=List.eq_nil_of_length_eq_zero (by omega)
          subst this
          have hl0:len=0:=by omega
          subst hl0 h0
          exact .immNil _ _ _
        · 
          have hfirst:∃v,w.cell? a=some v:=by
           have hz:∃y cs',w.cells? 0 (a.add (0*P.cellsOf e)) (P.cellsOf e)=some cs'∧DataW.trod enc P w 0 (fun _=>true) true n e cs'=some y:=by
            by_cases hlen0:len=0
            · subst hlen0
              obtain⟨y,_,hr⟩:=r2 0 0 (by rw[List.getElem?_range (by omega)])
              simp only[Option.bind_eq_some_iff] at hr
              obtain⟨cs',hc,hr⟩:=hr
              exact⟨y,cs',hc,hr⟩
            · obtain⟨y,_,hr⟩:=e2 0 0 (by rw[List.getElem?_range (by omega)])
              simp only[Option.bind_eq_some_iff] at hr
              obtain⟨cs',hc,hr⟩:=hr
              exact⟨y,cs',hc,hr⟩
           obtain⟨y,cs',hc,_⟩:=hz
           obtain⟨_,hl',hcell⟩:=World.cells?_some hc
           have hlt:0<cs'.length:=by omega
           refine⟨cs'[0],?_⟩
           have:=hcell 0 hsz
           rw[List.getElem?_eq_getElem hlt] at this
           simpa[Addr.add] using this
          obtain⟨v0,hv0⟩:=hfirst
          obtain⟨b,o,sp⟩:=a
          have hspn:sp=none:=by
           cases sp with
           |none=>rfl
           | some s=>
             simp only[World.cell?] at hv0
             split at hv0
             · simp at hv0
             · cases hv0
          subst hspn
          have hb:b<w.heap.size:=World.block_lt_of_cell? w _ hv0
          obtain⟨f1,f2⟩:=WF hsz (L:=L.map (·.1)) (fun l hl=>by
           obtain⟨z,hz,rfl⟩:=List.mem_map.1 hl
           exact hlen z hz)
          have hcell:∀(k:Nat) A,((L.map (·.1)).flatten)[k]?=some A→∃v,w.cell? ⟨b,o+k,none⟩=some v∧VRel (Env.plain w) none A v:=fun k A hk=>by
           obtain⟨l,h1,h2⟩:=f2 k A hk
           rw[List.getElem?_map] at h1
           obtain⟨z,hz,rfl⟩:=Option.map_eq_some_iff.1 h1
           have hlt:k / P.cellsOf e<elems.length:=by rw[←hl1];exact(List.getElem?_eq_some_iff.1 hz).1
           obtain⟨v,h3,h4⟩:=(hl2 _ z _ hz (List.getElem?_eq_getElem hlt)).2.2.2 _ A h2
           refine⟨v,?_,h4⟩
           rw[Addr.add_lit,Addr.add_lit] at h3
           have hk':o+k / P.cellsOf e*P.cellsOf e+k%P.cellsOf e=o+k:=by rw[Nat.add_assoc,Nat.mul_comm];congr 1;exact Nat.div_add_mod k _
           rwa [hk'] at h3
          refine .imm none _ _ b o len cap (fun k=>(w.cell? ⟨b,o+k,none⟩).getD undef) rfl hb ⟨hsz,by rw[f1];simp[hl1,e1]⟩ hlc (fun k A hk=>?_) fun k A hk=>?_
          · obtain⟨v,h1,_⟩:=hcell k A hk
            show w.cell? _=some ((w.cell? _).getD undef)
            rw[h1];rfl
          · obtain⟨v,h1,h2⟩:=hcell k A hk
            show VRel _ none A ((w.cell? _).getD undef)
            rw[h1];exact h2
    · cases h
   case h_9 fs hu=>
    split at h
    · rename_i hl
      simp only[Option.map_eq_some_iff] at h
      obtain⟨xs,hx,rfl⟩:=h
      obtain⟨e1,e2⟩:=wK hx
      obtain⟨L,h1,h2,h3,h4⟩:=y6 (R:=Sh P) fs.toList 0 _ _ xs (hP.tile t ht fs hu) hl.symm (Nat.zero_le _) (fun i f y hf hy=>by
       obtain⟨y',hy',hr⟩:=e2 i f hf
       rw[hy] at hy'
       cases hy'
       exact ye hP n _ _ _ (by unfold Z4 at hS;rw[hu] at hS;exact hS f (List.mem_of_getElem? hf)) hr) e1
      refine⟨(L.map (·.1)).flatten,?_,by simpa using h4⟩
      have:=Sh.struct (P:=P) t fs L hu (by simpa using h1) (fun i f x hf hx=>h2 i f x (by simpa using hf) hx)
      rw[h3] at this
      simp only[jK]
      rwa [Nat.add_comm]
    · cases h
   all_goals first
    |cases h;done
    |exact other (by simp[*]) (by simp[*]) (by simp[*]) (by simp[*]) (by simp[*])
end
end Go.Ga

namespace Go.Ga
open Go Go.ChangeShapes Go.WideShapes Go.RowKit
def zdB (P:Program)(S:List TypeId):Bool:=
 S.all fun t=>match P.underlying t with
  |some .bool=>true
  |some (.int _)=>true
  |some .string=>true
  |some (.slice e)=>decide (0<P.cellsOf e)&&S.contains e
  |some (.struct fs)=>fs.toList.all (fun f=>S.contains f.type)&&(wR P 0 fs.toList==some (P.cellsOf t))
  |_=>false
theorem OL {P:Program}{S:List TypeId}(h:zdB P S=true):ur P S:=by
 refine⟨fun t ht=>?_,fun t ht fs hu=>?_⟩
 · have:=List.all_eq_true.1 h t ht
   unfold Z4
   cases hu:P.underlying t with
   |none=>rw[hu] at this;cases this
   | some d=>
     rw[hu] at this
     cases d with
     |bool=>trivial
     |int k=>trivial
     |string=>trivial
     | slice e=>
       simp only[Bool.and_eq_true,decide_eq_true_eq,List.contains_iff_mem] at this
       exact this
     | struct fs=>
       simp only[Bool.and_eq_true,List.all_eq_true,List.contains_iff_mem] at this
       exact this.1
     |_=>cases this
 · have:=List.all_eq_true.1 h t ht
   rw[hu] at this
   simp only[Bool.and_eq_true,beq_iff_eq] at this
   exact this.2
section
variable {H:Type} {enc:TypeId×Value→H} {P:Program}
theorem O6 {W W':World}(hO:Old W W')(hos:W'.os=W.os)(hout:W'.output=W.output)(may:MemPlace→Prop):W.keptBut W' may:=by
 refine⟨hos,hout,fun i hi=>?_⟩
 rw[hO i hi]
 cases W.heap[i]? with
 |none=>rfl
 | some o=>cases o with
   |cells c t fr=>exact⟨rfl,rfl,rfl,fun _ _=>rfl⟩
   |map es clock=>exact .inr ⟨rfl,rfl⟩
   |_=>rfl
theorem qt {w:World}{sp:Nat→Bool}{gs:List (DataW H)}{ps:List MemPlace}(h:DataW.TrodVars enc P w sp [] gs ps):gs=[]∧ps=[]:=by
 cases gs with
 |nil=>exact⟨rfl,h⟩
 |cons=>cases h
theorem G6 {S:List TypeId}(hS:∀t∈S,Z4 P S t){f:Func}{s:ChangeSpec}{W W':World}{args:Array Value}{ds gs:List (DataW H)}{before:List MemPlace}(hW:DataW.Whole enc P f.params.toList s.vars false W args.toList ds gs before)
    (hts:∀t∈f.params.toList,t∈S) (hv:s.vars=[]) (hres:(s.fn H (ds++gs)).results=[.lit (.bool true)]) (harg:(s.fn H (ds++gs)).args=ds) (hvr:(s.fn H (ds++gs)).vars=[]) {tb:TypeId} (hrt:f.resultTypes= #[tb]) (hb:P.underlying tb=some .bool) (hO:Old W W') (hos:W'.os=W.os) (hout:W'.output=W.output):
    s.post enc P f false true false false W args (.bool true) W':=by
  have hW':=hW
  obtain⟨p,q,hA,hV,hpq,hz,hn⟩:=hW
  rw[hv] at hV
  obtain⟨rfl,rfl⟩:=qt hV
  rw[List.append_nil] at hpq
  subst hpq
  have hres':∀(b:Nat) (sp:Nat→Bool) (hd:Bool),DataW.TrodAll enc P W' b sp hd f.resultTypes.toList ((Value.bool true).resultList f.resultTypes.size) (s.fn H (ds++[])).results []:=fun b sp hd=>by
    rw[hres,hrt]
    exact⟨[],[],⟨1,by simp[DataW.trod,hb,Value.cells]⟩,rfl,rfl⟩
  refine⟨ds,[],before,[],before,[],hW',hres' _ _ _,?_,?_,O6 hO hos hout _,fun h=>by cases h⟩
  · rw[harg]
    exact yF hS hO hts hA fun x hx=>by simpa using hW'.lt x hx
  · rw[hvr,hv];rfl
def SA (P:Program)(t:TypeId)(A:zb)(b:Nat):Prop:=
 ((∃fs,P.underlying t=some (.struct fs))∧∃As,A= .agg As∧Sh P t As b)∨((∀fs,P.underlying t≠some (.struct fs))∧Sh P t [A] b)
inductive SAs (P:Program):List TypeId→List zb→Nat→Prop
 |nil:SAs P [] [] 0
 |cons (t:TypeId) (A:zb) (b:Nat) (ts:List TypeId) (As:List zb) (c:Nat) (h:SA P t A b) (hr:SAs P ts As c):SAs P (t::ts) (A::As) (b+c)
theorem KA {S:List TypeId}(hP:ur P S){w:World}{base:Nat}{t:TypeId}{v:Value}{d:DataW H}{ps:List MemPlace}(hok:Value.okWide P w .any base t v)(ht:t∈S)(h:DataW.Trod enc P w 0 (fun _=>true) true t v d ps):
    ∃A,SA P t A (jK d)∧VRel (Env.plain w) none A v:=by
  obtain⟨fuel,h⟩:=h
  obtain⟨As,hS,hl,hc⟩:=ye hP fuel t _ _ ht h
  have hna:∀n e,P.underlying t≠some (.array n e):=fun n e hu=>by
    have:=hP.at_ t ht
    unfold Z4 at this
    rw[hu] at this
    exact this
  by_cases hs:∃fs,P.underlying t=some (.struct fs)
  · obtain⟨fs,hs⟩:=hs
    unfold Value.okWide at hok
    rw[hs] at hok
    obtain⟨cs,rfl,_,_⟩:=hok
    refine⟨.agg As,.inl ⟨⟨fs,hs⟩,As,rfl,hS⟩,.agg none As cs (by simpa[Value.cells] using hl.symm) fun k A v hA hv=>hc k A v hA (by simpa[Value.cells] using hv)⟩
  · have hns:∀fs,P.underlying t≠some (.struct fs):=fun fs e=>hs ⟨fs,e⟩
    have hv:v.cells= #[v]:=by
      cases v with
      | agg cs=>
        exfalso
        unfold Value.okWide at hok
        cases hu:P.underlying t with
        | none=>
          rw[hu] at hok
          simp[Cell.okWide,Cell.ok,hu] at hok
        | some dsc=>
          rw[hu] at hok
          cases dsc with
          |struct fs=>exact hns fs hu
          |array n e=>exact hna n e hu
          |_=>simp[Cell.okWide,Cell.ok,hu] at hok
      |_=>rfl
    rw[hv] at hl hc
    have:∃A,As=[A]:=by
      match As,hl with
      |[A],_=>exact⟨A,rfl⟩
    obtain⟨A,rfl⟩:=this
    exact⟨A,.inr ⟨hns,hS⟩,hc 0 A v rfl rfl⟩
theorem Qa {S:List TypeId}(hP:ur P S){w:World}{base:Nat}:∀{ts:List TypeId} {vs:List Value} {ds:List (DataW H)} {ps:List MemPlace},(∀(j:Nat) t v,ts[j]?=some t→vs[j]?=some v→Value.okWide P w .any base t v)→(∀t∈ts,t∈S)→
    DataW.TrodAll enc P w 0 (fun _=>true) true ts vs ds ps→∃As,SAs P ts As (bulkL ds)∧As.length=vs.length∧∀(k:Nat) A v,As[k]?=some A→vs[k]?=some v→VRel (Env.plain w) none A v
  |[],[],[],ps,_,_,_=>⟨[],.nil,rfl,fun k A v h=>by simp at h⟩
  | t::ts,v::vs,d::ds,ps,hok,hna,⟨p,q,h1,h2,_⟩=>by
    obtain⟨A,hA,hv⟩:=KA hP (hok 0 t v rfl rfl) (hna t (.head _)) h1
    obtain⟨As,hAs,hl,hvs⟩:=Qa hP (fun j t' v' ht hv'=>hok (j+1) t' v' (by simpa using ht) (by simpa using hv')) (fun t ht=>hna t (.tail _ ht)) h2
    refine⟨A::As,.cons t A _ ts As _ hA hAs,by simp[hl],fun k B u hB hu=>?_⟩
    cases k with
    |zero=>simp at hB hu;subst hB;subst hu;exact hv
    |succ k=>exact hvs k B u (by simpa using hB) (by simpa using hu)
theorem xR {S:List TypeId}(hP:ur P S){f:Nat}{fn:Func}{s:ChangeSpec}{B:Nat}{W:World}{base:Nat}{args:Array Value}{ds gs:List (DataW H)}{before:List MemPlace}
    (hval:∀(j:Nat) t v,fn.params[j]?=some t→args[j]?=some v→Value.okWide P W .any base t v) (hna:∀t∈fn.params.toList,t∈S)
    (hW:DataW.Whole enc P fn.params.toList s.vars false W args.toList ds gs before) (hv:s.vars=[]) (hres:(s.fn H (ds++gs)).results=[.lit (.bool true)]) (harg:(s.fn H (ds++gs)).args=ds) (hvr:(s.fn H (ds++gs)).vars=[])
    {tb:TypeId} (hrt:fn.resultTypes= #[tb]) (hb:P.underlying tb=some .bool) (hbk:bulkL (ds++gs)≤B)
    (hT:JO P (Env.plain W)) (H0:∀As b,SAs P fn.params.toList As b→b≤B→zn P [] f As [] fun r _=>r= .sc (.bool true)):
    Calls P f args W fun e W'=>∃v,e= .returned v∧s.post enc P fn false true false false W args v W':=by
  have hW':=hW
  obtain⟨p,q,hA,hV,hpq,hz,hn⟩:=hW
  rw[hv] at hV
  obtain⟨rfl,rfl⟩:=qt hV
  obtain⟨As,hAs,hl,hvs⟩:=Qa hP (fun j t v ht hv'=>hval j t v (by simpa using ht) (by simpa using hv')) hna hA
  rw[List.append_nil] at hbk
  have hC:=(H0 As _ hAs hbk).2 (Env.plain W) args hT ⟨rfl,fun b q h=>(by cases h),fun id cs h=>(by simp at h)⟩ (by simpa using hl.symm) fun k A v hA' hv'=>(hvs k A v hA' (by simpa using hv')).any rfl _
  refine hC.mono fun e W' ⟨v,r,h',E',he,hw,_,hr,hp,hq⟩=>?_
  subst he hw hq
  cases hr
  refine⟨_,rfl,G6 hP.at_ hW' hna hv hres harg hvr hrt hb (fun b hlt=>(hp.old b rfl hlt).2) hp.os hp.output⟩
end
end Go.Ga

namespace Go.Ga
open Go
def zeN (n:Nat)(j:Nat):Option Nat:=if j<n then some j else none
theorem zn.less {P:Program}{L L':List (List Nat)}{f:Nat}{args:List zb}{h:Heap}{Q:zb→Heap→Prop}(H:zn P L f args h Q)(hL:∀r∈L',r∈L):zn P L' f args h Q:=
 ⟨H.1,fun E vs h0 h1 h2 h3=>(H.2 E vs h0 h1 h2 h3).mono fun _ _ ⟨v,r,h',E',a,b,c,d,e,q⟩=>⟨v,r,h',E',a,b,c,d,⟨e.size,e.os,e.tape,e.output,e.old,e.far,e.farB,e.ids,fun b r hr=>e.keep b r ⟨hL r hr.1,hr.2⟩⟩,q⟩⟩
theorem zn.nil {P:Program}{L:List (List Nat)}{f:Nat}{args:List zb}{h:Heap}{Q:zb→Heap→Prop}(H:zn P L f args h Q):zn P [] f args h Q:=H.less fun r hr=>by cases hr
attribute [go_sem] zeN
end Go.Ga

namespace Go.Ga
open Go
def Ze {α:Type}(f:α→List zb):List α→List zb
 |[]=>[]
 |x::l=>f x++Ze f l
section
variable {α:Type} {f:α→List zb} {sz:Nat}
theorem QJ (hf:∀x,(f x).length=sz):∀l:List α,(Ze f l).length=l.length*sz
 |[]=>by simp[Ze]
 |x::l=>by simp only[Ze,List.length_append,hf,QJ hf l,List.length_cons,Nat.add_mul];omega
theorem yo (hf:∀x,(f x).length=sz):∀(l:List α) (k:Nat),(Ze f l).drop (k*sz)=Ze f (l.drop k)
 |[],k=>by simp[Ze]
 |x::l,0=>by simp
 | x::l,k+1=>by
   simp only[Ze,List.drop_succ_cons]
   rw[←yo hf l k,Nat.add_mul,Nat.one_mul,List.drop_append,hf]
   rw[List.drop_of_length_le (by rw[hf];omega),List.nil_append]
   congr 1;omega
theorem pd (hf:∀x,(f x).length=sz){l:List α}{k:Nat}{x:α}(h:l[k]?=some x)(r:Nat)(hr:r<sz):(Ze f l)[k*sz+r]?=(f x)[r]?:=by
 rw[←List.getElem?_drop,yo hf]
 have hlt:k<l.length:=(List.getElem?_eq_some_iff.1 h).1
 rw[List.drop_eq_getElem_cons hlt]
 have hx:l[k]=x:=by rw[List.getElem?_eq_getElem hlt] at h;exact Option.some.inj h
 rw[hx]
 simp only[Ze]
 rw[List.getElem?_append_left (by rw[hf];exact hr)]
theorem wm (hf:∀x,(f x).length=sz){l:List α}{k:Nat}{x:α}(h:l[k]?=some x):((Ze f l).drop (k*sz)).take sz=f x:=by
 rw[yo hf]
 have hlt:k<l.length:=(List.getElem?_eq_some_iff.1 h).1
 rw[List.drop_eq_getElem_cons hlt]
 have hx:l[k]=x:=by rw[List.getElem?_eq_getElem hlt] at h;exact Option.some.inj h
 rw[hx]
 simp only[Ze]
 rw[List.take_append_of_le_length (by rw[hf];exact Nat.le_refl _),List.take_of_length_le (by rw[hf];exact Nat.le_refl _)]
theorem JV (h:∀x,zb.plainL (f x)=true):∀l:List α,zb.plainL (Ze f l)=true
 |[]=>rfl
 | x::l=>by
   have app:∀a b:List zb,zb.plainL a=true→zb.plainL b=true→zb.plainL (a++b)=true:=fun a b ha hb=>by
    induction a with
    |nil=>exact hb
    |cons y a ih=>simp only[zb.plainL,Bool.and_eq_true] at ha;simp only[List.cons_append,zb.plainL,ha.1,ih ha.2,Bool.and_self]
   exact app _ _ (h x) (JV h l)
theorem qF (h:∀x,zb.flatL (f x)=true):∀l:List α,zb.flatL (Ze f l)=true
 |[]=>rfl
 | x::l=>by
   have app:∀a b:List zb,zb.flatL a=true→zb.flatL b=true→zb.flatL (a++b)=true:=fun a b ha hb=>by
    induction a with
    |nil=>exact hb
    |cons y a ih=>simp only[zb.flatL,Bool.and_eq_true] at ha;simp only[List.cons_append,zb.flatL,ha.1,ih ha.2,Bool.and_self]
   exact app _ _ (h x) (qF h l)
theorem Jq (h:∀x,zb.cellOkL (f x)=true):∀l:List α,zb.cellOkL (Ze f l)=true
 |[]=>rfl
 | x::l=>by
   have app:∀a b:List zb,zb.cellOkL a=true→zb.cellOkL b=true→zb.cellOkL (a++b)=true:=fun a b ha hb=>by
    induction a with
    |nil=>exact hb
    |cons y a ih=>simp only[zb.cellOkL,Bool.and_eq_true] at ha;simp only[List.cons_append,zb.cellOkL,ha.1,ih ha.2,Bool.and_self]
   exact app _ _ (h x) (Jq h l)
end
def two (x:Int×Int):List zb:=[.sc (.int .i64 x.1),.sc (.int .i64 x.2)]
theorem za9 (x:Int×Int):(two x).length=2:=rfl
def tri (x:Int×Int×Int):List zb:=[.sc (.int .i64 x.1),.sc (.int .i64 x.2.1),.sc (.int .i64 x.2.2)]
theorem zba (x:Int×Int×Int):(tri x).length=3:=rfl
abbrev xL (l:List (Int×Int)):List zb:=Ze two l
abbrev xN (l:List (Int×Int×Int)):List zb:=Ze tri l
theorem Uh (l:List (Int×Int)):(xL l).length=l.length*2:=QJ za9 l
theorem Uk (l:List (Int×Int×Int)):(xN l).length=l.length*3:=QJ zba l
theorem yd (l:List (Int×Int)):zb.plainL (xL l)=true:=JV (fun _=>rfl) l
theorem yf (l:List (Int×Int×Int)):zb.plainL (xN l)=true:=JV (fun _=>rfl) l
theorem Gs (l:List (Int×Int)):zb.flatL (xL l)=true:=qF (fun _=>rfl) l
theorem Gw (l:List (Int×Int×Int)):zb.flatL (xN l)=true:=qF (fun _=>rfl) l
theorem Uj (l:List (Int×Int)):zb.cellOkL (xL l)=true:=Jq (fun _=>rfl) l
theorem Um (l:List (Int×Int×Int)):zb.cellOkL (xN l)=true:=Jq (fun _=>rfl) l
theorem Q3 (l:List (Int×Int)):zb.copyableL (xL l)=true:=plain_copyableL _ (yd l)
theorem Q4 (l:List (Int×Int×Int)):zb.copyableL (xN l)=true:=plain_copyableL _ (yf l)
theorem Ui (l:List (Int×Int)):zb.freezeL (xL l)=xL l:=copyable_freezeL _ (Q3 l)
theorem Ul (l:List (Int×Int×Int)):zb.freezeL (xN l)=xN l:=copyable_freezeL _ (Q4 l)
theorem Xc (l:List (Int×Int)):zb.ids0L (xL l)=true:=plain_ids0L _ (yd l)
theorem Xe (l:List (Int×Int×Int)):zb.ids0L (xN l)=true:=plain_ids0L _ (yf l)
theorem ow (g:Nat→Option Nat)(l:List (Int×Int)):zb.renL g (xL l)=xL l:=ids0_renL g _ (Xc l)
theorem oG (g:Nat→Option Nat)(l:List (Int×Int×Int)):zb.renL g (xN l)=xN l:=ids0_renL g _ (Xe l)
attribute [go_sem] Uh Uk yd yf Gs Gw Uj Um Q3 Q4 Ui Ul Xc Xe ow oG
end Go.Ga

namespace Go.Ga
open Go
section
variable {P:Program} {rs:List Nat} {N:Nat} {V:List Nat} {L:List (List Nat)} {x:zM} {K:Z5→zc→Prop} {st:zc}
theorem Za (p:List Nat)(sz:Nat)(hp:st.at p=some (.sc (.slice none 0 0)))(h:j7 P rs N V L x K ((st.kill (zb.under p true)).setAt p (.own (some sz) []))):j7 P rs N V L x K st:=
 Yq (fun E tm R=>by
  obtain⟨u,hu,hr⟩:=R.at_ hp rfl
  cases hr
  have U:Zh p E E:=⟨Nat.le_refl _,E.ids_refl,fun _ h _=>⟨h,rfl⟩,fun _ _ h _=>⟨h,rfl⟩⟩
  exact⟨E,R.turn (keep:=true) hp rfl (fun _=>⟨_,_,rfl⟩) U R.lim rfl hu (.ownNil _ sz),zL.refl E,rfl⟩) h
theorem zv (p:List Nat){sz:Option Nat}{cs:List zb}(hp:st.at p=some (.own sz cs))(h:j7 P rs N V L x K ((st.kill (zb.under p false)).setAt p (zb.own sz cs).freeze)):j7 P rs N V L x K st:=
 Yq (fun E tm R=>by
  obtain⟨u,hu,hr⟩:=R.at_ hp rfl
  have U:Zh p E (E.freeze p):=jP p
  have hB:VRel (E.freeze p) (some p) (zb.own sz cs).freeze u:=hr.frozen p _ fun ℓ e=>by cases e;exact List.prefix_refl _
  exact⟨_,R.turn (keep:=false) hp rfl (fun e=>by cases e) U (JF R.lim) rfl hu hB,jF (ZS (zC hp)),rfl⟩) h
end
def wc (A' A:zb):Prop:=∀E po v,VRel E po A' v→VRel E po A v
theorem wc.refl (A:zb):wc A A:=fun _ _ _ h=>h
theorem wc.imm (sz:Nat):wc (.sc (.slice none 0 0)) (.imm sz []):=fun _ _ _ h=>by cases h;exact .immNil _ _ _
theorem wc.own (sz:Nat):wc (.sc (.slice none 0 0)) (.own (some sz) []):=fun _ _ _ h=>by cases h;exact .ownNil _ _
theorem wc.dead (A:zb):wc A .dead:=fun _ _ v _=> .dead _ v
inductive qn :List zb→List zb→Prop
 |nil:qn [] []
 |cons {A' A:zb} {l' l:List zb} (h:wc A' A) (hl:qn l' l):qn (A'::l') (A::l)
theorem qn.get :∀{l' l:List zb},qn l' l→l'.length=l.length∧∀(k:Nat) A,l[k]?=some A→∃A',l'[k]?=some A'∧wc A' A
 |_,_,.nil=>⟨rfl,fun k A h=>by simp at h⟩
 | _,_,.cons (A':=A') h hl=>by
   obtain⟨h1,h2⟩:=hl.get
   refine⟨by simp[h1],fun k A hA=>?_⟩
   cases k with
   |zero=>simp at hA;subst hA;exact⟨A',rfl,h⟩
   |succ k=>simp at hA;simpa using h2 k A hA
theorem qn.refl :∀l:List zb,qn l l
 |[]=> .nil
 |A::l=> .cons (.refl A) (.refl l)
def JB (l:List (List Nat)):List zb:=l.map fun xs=> .own (some 1) (Z6 xs)
def JT (l:List (List Nat)):List zb:=l.map fun xs=> .imm 1 (Z6 xs)
theorem GR (l:List (List Nat)):(JB l).length=l.length:=by simp[JB]
theorem GT (l:List (List Nat)):(JT l).length=l.length:=by simp[JT]
theorem GP (l:List (List Nat))(k:Nat)(x:List Nat):(JB l).set k (.own (some 1) (Z6 x))=JB (l.set k x):=by simp[JB,List.map_set]
theorem yL :∀l:List (List Nat),zb.freezeL (JB l)=JT l
 |[]=>rfl
 | x::l=>by
   have ih:=yL l
   simp only[JB,JT,List.map_cons,zb.freezeL,zb.freeze,wn] at ih⊢
   rw[ih]
theorem JS :∀l:List (List Nat),zb.plainL (JT l)=true
 |[]=>rfl
 | x::l=>by
   have ih:=JS l
   simp only[JT,List.map_cons,zb.plainL,zb.plain,qI,Bool.true_and] at ih⊢
   exact ih
theorem yN :∀l:List (List Nat),zb.cellOkL (JT l)=true
 |[]=>rfl
 | x::l=>by
   have ih:=yN l
   simp only[JT,List.map_cons,zb.cellOkL,zb.cellOk,Bool.true_and] at ih⊢
   exact ih
theorem yM :∀l:List (List Nat),zb.cellOkL (JB l)=true
 |[]=>rfl
 | x::l=>by
   have ih:=yM l
   simp only[JB,List.map_cons,zb.cellOkL,zb.cellOk,Bool.true_and] at ih⊢
   exact ih
theorem w6 :∀l:List (List Nat),zb.flatL (JB l)=true
 |[]=>rfl
 | x::l=>by
   have ih:=w6 l
   simp only[JB,List.map_cons,zb.flatL,zb.flat,Xp,Bool.true_and] at ih⊢
   exact ih
theorem yj :∀l:List (List Nat),zb.ids0L (JB l)=true
 |[]=>rfl
 | x::l=>by
   have ih:=yj l
   simp only[JB,List.map_cons,zb.ids0L,zb.ids0,YA,Bool.true_and] at ih⊢
   exact ih
theorem Qf (l:List (List Nat)):zb.copyableL (JT l)=true:=plain_copyableL _ (JS l)
theorem uF (l:List (List Nat)):zb.freezeL (JT l)=JT l:=copyable_freezeL _ (Qf l)
theorem w7 (l:List (List Nat)):zb.ids0L (JT l)=true:=plain_ids0L _ (JS l)
theorem GS (g:Nat→Option Nat)(l:List (List Nat)):zb.renL g (JT l)=JT l:=ids0_renL g _ (w7 l)
theorem GQ (g:Nat→Option Nat)(l:List (List Nat)):zb.renL g (JB l)=JB l:=ids0_renL g _ (yj l)
theorem Yz (l:List Nat)(x:Nat):Z6 l++[.sc (.int .i64 (x:Int))]=Z6 (l++[x]):=by simp[Z6]
theorem zc1 (zs:List Value):zu zs 1=zs.map .sc++[]:=rfl
theorem zc2 (zs:List Value):zu zs 2=zs.map .sc++(zs.map .sc++[]):=rfl
theorem zc3 (zs:List Value):zu zs 3=zs.map .sc++(zs.map .sc++(zs.map .sc++[])):=rfl
attribute [go_sem] zc1 zc2 zc3 GR GT GP yL JS yN yM w6 yj Qf uF w7 GS GQ
end Go.Ga

namespace Go.Ga
open Go
section
variable {P:Program} {t:TypeId} {b:Nat}
def Xx (n:Int):Prop:= -9223372036854775808≤n∧n≤9223372036854775807
theorem uu {n:Int}(h:(Lit.int .i64 n).wf=true):Xx n:=by
 simp only[Lit.wf,decide_eq_true_eq,Bool.and_eq_true] at h
 have e1:IntKind.min .i64= -9223372036854775808:=by decide
 have e2:IntKind.max .i64=9223372036854775807:=by decide
 rw[e1,e2] at h
 exact h
theorem wX {k:IntKind}{cs:List zb}(hu:P.underlying t=some (.int k))(h:Sh P t cs b):∃n,cs=[.sc (.int k n)]∧(Lit.int k n).wf=true∧b=1:=by
 cases h with
 |int _ k' n hu' hw=>rw[hu] at hu';cases hu';exact⟨n,rfl,hw,rfl⟩
 |bool _ _ h'=>rw[hu] at h';cases h'
 |string _ _ h'=>rw[hu] at h';cases h'
 |slice _ _ _ _ h'=>rw[hu] at h';cases h'
 |struct _ _ _ h'=>rw[hu] at h';cases h'
 |other _ _ _ h1=>exact absurd hu (h1 k)
theorem GF {cs:List zb}(hu:P.underlying t=some .string)(h:Sh P t cs b):∃s,cs=[.sc (.string s)]∧s.size<b:=by
 cases h with
 |string _ s _=>exact⟨s,rfl,Nat.lt_succ_self _⟩
 |int _ _ _ h'=>rw[hu] at h';cases h'
 |bool _ _ h'=>rw[hu] at h';cases h'
 |slice _ _ _ _ h'=>rw[hu] at h';cases h'
 |struct _ _ _ h'=>rw[hu] at h';cases h'
 |other _ _ _ _ _ h3=>exact absurd hu h3
theorem Uw {e:TypeId}{cs:List zb}(hu:P.underlying t=some (.slice e))(h:Sh P t cs b):∃(L:List (List zb×Nat)) (more:Nat),cs=[.imm (P.cellsOf e) (L.map (·.1)).flatten]∧b=1+(L.map (·.2)).sum+more∧∀x∈L,Sh P e x.1 x.2:=by
 cases h with
 |slice _ e' L more hu' hl hh=>rw[hu] at hu';cases hu';exact⟨L,more,rfl,rfl,hh⟩
 |int _ _ _ h'=>rw[hu] at h';cases h'
 |bool _ _ h'=>rw[hu] at h';cases h'
 |string _ _ h'=>rw[hu] at h';cases h'
 |struct _ _ _ h'=>rw[hu] at h';cases h'
 |other _ _ _ _ _ _ h4=>exact absurd hu (h4 e)
theorem GE {fs:Array Field}{cs:List zb}(hu:P.underlying t=some (.struct fs))(h:Sh P t cs b):∃(L:List (List zb×Nat)),cs=(L.map (·.1)).flatten∧b=1+(L.map (·.2)).sum∧L.length=fs.size∧∀(i:Nat) f x,fs[i]?=some f→L[i]?=some x→Sh P f.type x.1 x.2:=by
 cases h with
 |struct _ fs' L hu' hl hh=>rw[hu] at hu';cases hu';exact⟨L,rfl,rfl,hl,hh⟩
 |int _ _ _ h'=>rw[hu] at h';cases h'
 |bool _ _ h'=>rw[hu] at h';cases h'
 |string _ _ h'=>rw[hu] at h';cases h'
 |slice _ _ _ _ h'=>rw[hu] at h';cases h'
 |other _ _ _ _ _ _ _ h5=>exact absurd hu (h5 fs)
theorem Wf {α:Type}{f:α→List zb}{R:α→Prop}:∀{L:List (List zb×Nat)},(∀x∈L,∃y,x.1=f y∧R y∧1≤x.2)→∃ys:List α,(L.map (·.1)).flatten=Ze f ys∧(∀y∈ys,R y)∧ys.length≤(L.map (·.2)).sum
 |[],_=>⟨[],rfl,fun y h=>(by cases h),Nat.le_refl _⟩
 | x::L,h=>by
   obtain⟨y,h1,h2,h3⟩:=h x (.head _)
   obtain⟨ys,g1,g2,g3⟩:=Wf (L:=L) fun z hz=>h z (.tail _ hz)
   refine⟨y::ys,by simp only[List.map_cons,List.flatten_cons,Ze,h1,g1],fun z hz=>?_,by simp only[List.map_cons,List.sum_cons,List.length_cons];omega⟩
   cases hz with
   |head=>exact h2
   |tail _ hz=>exact g2 z hz
theorem KX (xs:List Int):Ze (fun n=>[zb.sc (.int .i64 n)]) xs=ints xs:=by
 induction xs with
 |nil=>rfl
 |cons x xs ih=>simp only[Ze,ih,ints,List.map_cons,List.singleton_append]
theorem zbp {e:TypeId}{cs:List zb}(hu:P.underlying t=some (.slice e))(he:P.underlying e=some (.int .i64))(hc:P.cellsOf e=1)(h:Sh P t cs b):∃xs:List Int,cs=[.imm 1 (ints xs)]∧(∀x∈xs,Xx x)∧xs.length<b:=by
 obtain⟨L,more,rfl,rfl,hL⟩:=Uw hu h
 obtain⟨ys,h1,h2,h3⟩:=Wf (f:=fun n=>[zb.sc (.int .i64 n)]) (R:=Xx) (L:=L) fun x hx=>by
  obtain⟨n,g1,g2,g3⟩:=wX he (hL x hx)
  exact⟨n,g1,uu g2,by omega⟩
 exact⟨ys,by rw[h1,hc,KX],h2,by omega⟩
theorem Ok {A:zb}(hu:∀fs,P.underlying t≠some (.struct fs))(h:SA P t A b):Sh P t [A] b:=by
 rcases h with⟨⟨fs,h⟩,_⟩|⟨_,h⟩
 · exact absurd h (hu fs)
 · exact h
theorem GK {A:zb}{fs:Array Field}(hu:P.underlying t=some (.struct fs))(h:SA P t A b):∃cs,A= .agg cs∧Sh P t cs b:=by
 rcases h with⟨_,cs,h1,h2⟩|⟨h,_⟩
 · exact⟨cs,h1,h2⟩
 · exact absurd hu (h fs)
theorem w5 {ts:List TypeId}{As:List zb}(h:SAs P (t::ts) As b):∃A As' c d,As=A::As'∧b=c+d∧SA P t A c∧SAs P ts As' d:=by
 cases h with
 |cons _ A c _ As' d h hr=>exact⟨A,As',c,d,rfl,rfl,h,hr⟩
theorem zbs {As:List zb}(h:SAs P [] As b):As=[]:=by cases h;rfl
theorem GL {A:zb}(hu:P.underlying t=some .string)(h:SA P t A b):∃s,A= .sc (.string s)∧s.size<b:=by
 obtain⟨n,h1,h2⟩:=GF hu (Ok (fun fs h=>by rw[hu] at h;cases h) h)
 exact⟨n,by injection h1,h2⟩
end
end Go.Ga

namespace Go.Ga
open Go
end Go.Ga

namespace Go.Ga
open Go
def q7 (vs:List (Nat×zb)):List (Nat×zb)→List (Nat×zb)
 |[]=>vs
 |(i,A)::l=>q7 (Kt vs i A) l
theorem zg (vs:List (Nat×zb)):q7 vs []=vs:=rfl
theorem ze (vs:List (Nat×zb))(i:Nat)(A:zb)(l:List (Nat×zb)):q7 vs ((i,A)::l)=q7 (Kt vs i A) l:=rfl
theorem pm {A B:Prop}(h:A→B)(a:A):B:=h a
theorem zfc (x y a b:zb):zT [x,y] 0 [a,b]=[a,b]:=rfl
theorem zfb (x y z a b c:zb):zT [x,y,z] 0 [a,b,c]=[a,b,c]:=rfl
theorem zeK (n:Nat):n*2 / 2=n:=by omega
theorem zff (n:Nat):n*3 / 3=n:=by omega
theorem JN {k:Nat}(h:k<4611686018427387904):IntKind.i64.wrap ((k:Int)+1)=((k+1:Nat):Int):=by rw[IntWalk.i64_in _ (by omega)];omega
theorem nen {α:Type}(x:α)[Decidable (x≠x)]:decide (x≠x)=false:=decide_eq_false (fun h=>h rfl)
theorem eqn {α:Type}(x:α)[Decidable (x=x)]:decide (x=x)=true:=decide_eq_true rfl
theorem zbO (a b c d:Int):Qq [.sc (.int .i64 a),.sc (.int .i64 b)] [.sc (.int .i64 c),.sc (.int .i64 d)]=some (decide ((a,b)=(c,d))):=by
 simp[Qq]
attribute [go_sem] Int.toNat_zero Int.toNat_one Nat.div_one Int.cast_ofNat_Int decide_true decide_false bne_self_eq_false Bool.not_false Bool.not_true Nat.zero_le or_self true_or or_true List.length_set List.length_range J0 zbO Option.bind_some xE zfc zfb zeK zff Uh Uk nen eqn zg ze
theorem qn.own {sz:Nat}{l' l:List zb}(h:qn l' l):wc (.own (some sz) l') (.own (some sz) l):=fun E po v hv=>by
 obtain⟨h1,h2⟩:=h.get
 cases hv with
 | own ℓ _ _ b o len cap arr T f hO hb hl hc hm ha hf hh=>
   refine .own ℓ sz l b o len cap arr T f hO hb (by rw[←h1];exact hl) hc hm ha (fun k A hA=>?_) fun k A hA=>?_
   · obtain⟨A',hA',_⟩:=h2 k A hA;exact hf k A' hA'
   · obtain⟨A',hA',hs⟩:=h2 k A hA;exact hs _ _ _ (hh k A' hA')
 | ownNil=>
   cases l with
   |nil=>exact .ownNil _ _
   |cons=>simp at h1
theorem qn.imm {sz:Nat}{l' l:List zb}(h:qn l' l):wc (.imm sz l') (.imm sz l):=fun E po v hv=>by
 obtain⟨h1,h2⟩:=h.get
 cases hv with
 | imm _ _ _ b o len cap f hO hb hl hc hf hh=>
   refine .imm po sz l b o len cap f hO hb (by rw[←h1];exact hl) hc (fun k A hA=>?_) fun k A hA=>?_
   · obtain⟨A',hA',_⟩:=h2 k A hA;exact hf k A' hA'
   · obtain⟨A',hA',hs⟩:=h2 k A hA;exact hs _ _ _ (hh k A' hA')
 | immNil=>
   cases l with
   |nil=>exact .immNil _ _ _
   |cons=>simp at h1
theorem qn.agg {l' l:List zb}(h:qn l' l):wc (.agg l') (.agg l):=fun E po v hv=>by
 obtain⟨h1,h2⟩:=h.get
 cases hv with
 | agg _ _ vs hs hh=>
   refine .agg po l vs (by rw[←h1];exact hs) fun k A v hA hv=>?_
   obtain⟨A',hA',hs'⟩:=h2 k A hA
   exact hs' _ _ _ (hh k A' v hA' hv)
section
variable {P:Program} {rs:List Nat} {N:Nat} {V:List Nat} {L:List (List Nat)} {x:zM} {K:Z5→zc→Prop} {st:zc}
end
def Jn (xs:List Bool):List zb:=xs.map fun b=> .sc (.bool b)
theorem od (xs:List Bool):(Jn xs).length=xs.length:=by simp[Jn]
theorem oa (xs:List Bool)(k:Nat)(b:Bool):(Jn xs).set k (.sc (.bool b))=Jn (xs.set k b):=by
 simp[Jn,List.map_set]
theorem QA (xs:List Bool):zb.plainL (Jn xs)=true:=(j5 _ xs).1
theorem gx (xs:List Bool):zb.flatL (Jn xs)=true:=(j5 _ xs).2
theorem Yk :∀xs:List Bool,zb.cellOkL (Jn xs)=true
 |[]=>rfl
 |b::l=>by show(_&&zb.cellOkL (Jn l))=true;rw[Yk l];rfl
theorem QB (xs:List Bool):zb.copyableL (Jn xs)=true:=plain_copyableL _ (QA xs)
theorem u6 (xs:List Bool):zb.freezeL (Jn xs)=Jn xs:=copyable_freezeL _ (QB xs)
theorem xu (xs:List Bool):zb.ids0L (Jn xs)=true:=plain_ids0L _ (QA xs)
theorem ob (g:Nat→Option Nat)(xs:List Bool):zb.renL g (Jn xs)=Jn xs:=ids0_renL g _ (xu xs)
theorem gw (n:Nat):zu [.bool false] n=Jn (List.replicate n false):=by
 simp only[zu,List.map]
 induction n with
 |zero=>rfl
 |succ n ih=>simp only[List.replicate_succ,List.flatten_cons,ih];rfl
attribute [go_sem] od oa QA gx Yk QB u6 xu ob gw
section
variable {P:Program} {rs:List Nat} {N:Nat} {V:List Nat} {L:List (List Nat)} {K:Z5→zc→Prop} {x:zM}
theorem ZL {vs:List (Nat×zb)}{h0:Heap}{α:Type}(J:List Nat)(f:α→List (Nat×zb))(g:α→Heap)(inv:α→Nat→Prop)(a0:α)(n0:Nat)(hJ:(J.all fun i=>V.contains i)=true)
    (hs:zc.forget ⟨vs,[],h0⟩ J=⟨q7 vs (J.map (fun i=>(i,zb.dead))++f a0),[],g a0⟩) (hi:inv a0 n0)
    (h:∀a n,inv a n→∀X:Z5→zc→Prop,(∀s a' m,m<n→s.forget J=⟨q7 vs (J.map (fun i=>(i,zb.dead))++f a'),[],g a'⟩→inv a' m→X .normal s)→(∀i s,K (.exit i) s→X (.exit i) s)→(∀s,K .ret s→X .ret s)→
      j7 P rs N V L x X ⟨q7 vs (J.map (fun i=>(i,zb.dead))++f a),[],g a⟩):j7 P rs N V L (.loop x) K ⟨vs,[],h0⟩:=by
  refine yD (fun n s=>∃a,inv a n∧s.forget J=⟨q7 vs (J.map (fun i=>(i,zb.dead))++f a),[],g a⟩) n0 ⟨a0,hi,hs⟩ ?_
  rintro n s ⟨a,ha,hst⟩ X hn he hr
  refine jb J hJ ?_
  rw[hst]
  exact h a n ha X (fun s a' m hm hs' hi'=>hn m s hm ⟨a',hi',hs'⟩) he hr
end
end Go.Ga

namespace Go.Ga
open Go
section
variable {P:Program} {t:TypeId} {b:Nat}
end
end Go.Ga

namespace Go.Ga
open Go
section
variable {L:List (List Nat)} {E:Env} {N:Nat} {V:List Nat} {st:zc} {a:Act} {tm:Array Value}
end
section
variable {P:Program} {rs:List Nat} {N:Nat} {V:List Nat} {L:List (List Nat)} {x:zM} {K:Z5→zc→Prop} {st:zc}
end
end Go.Ga
attribute [go_sem] reduceIte Nat.reduceEqDiff Nat.reduceBEq reduceCtorEq Nat.reduceLT Nat.reduceLeDiff Nat.reduceAdd Nat.reduceSub Nat.reduceMul Nat.reduceDiv Int.reduceAdd Int.reduceNeg Int.reduceEq Int.reduceLT Int.reduceLE

namespace Go.Ga
open Go
theorem zn.fzArgs {P:Program}{L:List (List Nat)}{f:Nat}{args:List zb}{h:Heap}{Q:zb→Heap→Prop}(H:zn P L f (args.map zb.freeze) h Q):zn P L f args h Q:=by
 refine⟨H.1,fun E vs hT hH hs hv=>?_⟩
 have U:Zh [3] E (E.freeze [3]):=jP [3]
 have hH2:wG (E.freeze [3]) h:=⟨hH.num,JF hH.lim,fun id cs hcs=>by
  have hid:id<E.n:=by rw[hH.num];exact(List.getElem?_eq_some_iff.1 hcs).1
  exact(hH.objs id cs hcs).keep U hid (zy (by decide))⟩
 refine(H.2 (E.freeze [3]) vs (hT.pres (L:=[]) (jF Wl)) hH2 (by rw[List.length_map];exact hs) fun k A v hA hv'=>?_).mono ?_
 · rw[List.getElem?_map] at hA
   cases hA0:args[k]? with
   |none=>rw[hA0] at hA;cases hA
   | some A0=>
     rw[hA0] at hA
     cases hA
     exact(hv k A0 v hA0 hv').frozen [3] _ fun ℓ e=>by cases e;exact⟨[k],rfl⟩
 · rintro e w' ⟨v,r,h',E',he,hw,hH',hr,hP,hQ⟩
   exact⟨v,r,h',E',he,hw,hH',hr,(jF Wl).trans hP,hQ⟩
end Go.Ga

namespace Go.Ga
open Go
theorem Zl {P:Program}{rs V:List Nat}{N:Nat}{L:List (List Nat)}{x y:zM}{K:Z5→zc→Prop}{st:zc}{c:zB}(h1:j7 P rs N V L x K st)(hc:st.ev c= .sc (.bool true):=by first|rfl|(simp only[go_sem];try simp(disch:=omega) only[decide_eq_true,decide_eq_false])):j7 P rs N V L (.cond c x y) K st:=jV hc h1
theorem ZD {P:Program}{rs V:List Nat}{N:Nat}{L:List (List Nat)}{x y:zM}{K:Z5→zc→Prop}{st:zc}{c:zB}(h1:j7 P rs N V L y K st)(hc:st.ev c= .sc (.bool false):=by first|rfl|(simp only[go_sem];try simp(disch:=omega) only[decide_eq_true,decide_eq_false])):j7 P rs N V L (.cond c x y) K st:=jW hc h1
def qP (P:Program)(nt k:Nat)(rs V:List Nat)(rss:List yC)(ac:zM)(f:Nat):Prop:=∀{L:List (List Nat)} {args:List zb} {h:Heap} {Q:zb→Heap→Prop},args.length=k→j7 P rs nt V L ac (gm L rss Q) (XC V args h)→zn P L f args h Q
theorem qT {P:Program}(hmix:P.follows .mixedOrders=true){f:Nat}{fn:Func}{k:Nat}{rs V:List Nat}{ac:zM}{rss:List yC}(hf:P.funcs[f]?=some fn)(hs:KD P rs V fn=some (ac,rss))(hk:Nat.ble k fn.ntmps=true):qP P fn.ntmps k rs V rss ac f:=
 fun hl H=>wE hmix hf hs (by rw[hl];exact Nat.le_of_ble_eq_true hk) H
def oM (a b:Nat):zl:=(none,.r (.mov a (.t b)))
def oS (a b:Nat):zl:=(none,.asg a (.t b) true)
def oI (a:Nat)(k:Int):zl:=(none,.asg a (.c (.int .i64 k)) true)
def oZ (a:Nat):zl:=(none,.asg a (.c (.slice none 0 0)) true)
def oO (a:Nat):zl:=(none,.asg a (.c (.bool false)) true)
def oL (a b k:Nat):zl:=(none,.r (.ld a (.t b) k false))
def oT (a b k:Nat):zl:=(none,.r (.ld a (.t b) k true))
def oF (a b k:Nat):zl:=(none,.r (.fldA a (.t b) k))
def oX (a b c k:Nat):zl:=(none,.r (.idxA a (.t b) (.t c) k))
def oN (a b:Nat):zl:=(none,.r (.nilck a (.t b)))
def oE (a b:Nat):zl:=(none,.r (.len a (.t b)))
def oB (a:Nat)(op:BinOp)(b:Nat)(k:Int):zl:=(none,.r (.bin a op 0 (.t b) (.c (.int .i64 k))))
def oD (a:Nat)(op:BinOp)(b c:Nat):zl:=(none,.r (.bin a op 0 (.t b) (.t c)))
def oC (a f x:Nat):zl:=(none,.call a (.f f) [(.t x,false)])
def xH (a f x y:Nat):zl:=(none,.call a (.f f) [(.t x,false),(.t y,false)])
def oC3 (a f x y z:Nat):zl:=(none,.call a (.f f) [(.t x,false),(.t y,false),(.t z,false)])
def oP (a b c:Nat):zl:=(none,.r (.pick a (.t b) (.t c) (.c (.bool false))))
def oQ (a b c:Nat):zl:=(none,.r (.pick a (.t b) (.c (.bool true)) (.t c)))
def oW (a b k:Nat):zl:=(none,.st (.t a) (.t b) k)
def oY (a b k:Nat):zl:=(none,.r (.ext a (.t b) k))
def oK (g:Nat)(s:Bool)(a b:Nat):zl:=(some (g,s),.r (.mov a (.t b)))
def qo (g:Nat)(s:Bool)(a b k:Nat):zl:=(some (g,s),.r (.ld a (.t b) k false))
def qV (g:Nat)(s:Bool)(a:Nat)(op:BinOp)(b:Nat)(k:Int):zl:=(some (g,s),.r (.bin a op 0 (.t b) (.c (.int .i64 k))))
def Xn (g:Nat)(s:Bool)(a:Nat)(op:BinOp)(b c:Nat):zl:=(some (g,s),.r (.bin a op 0 (.t b) (.t c)))
attribute [go_sem] oM oS oI oZ oO oL oT oF oX oN oE oB oD oC xH oC3 oP oQ oW oY oK qo qV Xn
end Go.Ga

namespace Go.Ga
open Go
theorem Yr {E:Env}{po:Option (List Nat)}{u v:Value}(h:VRel E po (.sc u) v):u=v:=by
 generalize hA:zb.sc u=A at h
 cases h<;>cases hA
 rfl
theorem wu {P:Program}{L:List (List Nat)}{f:Nat}(hc:Ji P f=true){us:List Value}{v:Value}(H:∀w,Calls P f us.toArray w fun e w'=>e= .returned v∧w'=w):
    zn P L f (us.map .sc) [] fun r h'=>r= .sc v∧h'=[]:=by
  refine⟨hc,fun E vs hT hH hs hv=>?_⟩
  have e:vs=us.toArray:=by
    apply Array.ext
    · simpa using hs
    · intro i h1 h2
      have h3:i<us.length:=by simpa using h2
      have:=hv i (.sc us[i]) vs[i] (by simp[h3]) (by simp[h1])
      rw[←Yr this];simp
  subst e
  refine(H E.w).mono fun e w' ⟨h1,h2⟩=>?_
  subst h1 h2
  exact⟨v,.sc v,[],E,rfl,rfl,hH,.sc _ _,zL.refl E,rfl,rfl⟩
theorem Ua {P:Program}{L:List (List Nat)}{f:Nat}(hc:Ji P f=true){l:List UInt8}{c v:Value}
    (H1:∀a cap w,(∀i,i<l.length→w.cell? (Addr.add a i)=some (.int .u8 ((l.getD i 0).toNat:Int)))→Calls P f #[.slice (some a) l.length cap,c] w fun e w'=>e= .returned v∧w'=w)
    (H2:l=[]→∀w,Calls P f #[.slice none 0 0,c] w fun e w'=>e= .returned v∧w'=w):
    zn P L f [.imm 1 (ZG l),.sc c] [] fun r h'=>r= .sc v∧h'=[]:=by
  refine⟨hc,fun E vs hT hH hs hv=>?_⟩
  have s2:vs.size=2:=hs
  obtain⟨u,z,rfl⟩:∃u z,vs= #[u,z]:=⟨vs[0],vs[1],by
    apply Array.ext
    · simpa using s2
    · intro i h1 h2
      rcases(show i=0∨i=1 by simp at h2;omega) with rfl|rfl<;>rfl⟩
  obtain rfl:=Yr (hv 1 (.sc c) z rfl rfl)
  have hu:=hv 0 _ u rfl rfl
  generalize hA:zb.imm 1 (ZG l)=A at hu
  cases hu with
  | imm _ _ cs b o len cap g hO hb hl hc2 hf hvv=>
    cases hA
    have hll:len=l.length:=by have:=hl.2;rw[zU] at this;omega
    subst hll
    refine(H1 ⟨b,o,none⟩ cap E.w fun i hi=>?_).mono fun e w' h=>?_
    · have hb2:(ZG l)[i]?=some (.sc (.int .u8 ((l.getD i 0).toNat:Int))):=by
        unfold ZG
        rw[List.getElem?_map,List.getElem?_eq_getElem hi,List.getD_eq_getElem?_getD,List.getElem?_eq_getElem hi];rfl
      rw[Addr.add_lit,hf i _ hb2,←Yr (hvv i _ hb2)]
    · obtain⟨h1,h2⟩:=h
      subst h1
      exact⟨v,.sc v,[],E,rfl,h2.symm,hH,.sc _ _,zL.refl E,rfl,rfl⟩
  | immNil _ _ a=>
    have hl0:l=[]:=by
      cases l with
      |nil=>rfl
      |cons x r=>cases hA
    cases a with
    |none=>exact(H2 hl0 E.w).mono fun e w' h=>by obtain⟨h1,h2⟩:=h;subst h1;exact⟨v,.sc v,[],E,rfl,h2.symm,hH,.sc _ _,zL.refl E,rfl,rfl⟩
    | some a=>
      subst hl0
      exact(H1 a 0 E.w fun i hi=>by simp at hi).mono fun e w' h=>by obtain⟨h1,h2⟩:=h;subst h1;exact⟨v,.sc v,[],E,rfl,h2.symm,hH,.sc _ _,zL.refl E,rfl,rfl⟩
  |_=>cases hA
end Go.Ga

namespace Go.Ga
open Go
section
variable {P:Program} {t:TypeId} {b:Nat}
theorem pc {α:Type}(f:α→zb)(l:List α):Ze (fun x=>[f x]) l=l.map f:=by
 induction l with
 |nil=>rfl
 |cons x l ih=>simp only[Ze,ih,List.map_cons,List.singleton_append]
end
end Go.Ga

namespace Go.Ga
open Go Go.RowKit
theorem uq {P:Program}{L:List (List Nat)}{E:Env}(hH:wG E []){Q:zb→Heap→Prop}{v:Value}{w':World}(hb:Below E.w.heap.size E.w w')(hq:Q (.sc v) []):
    ∃u r h' E',Ending.returned v= .returned u∧E'.w=w'∧wG E' h'∧VRel E' (some [3]) r u∧zL L E E'∧Q r h':=
  ⟨v,.sc v,[],{E with w:=w'},rfl,rfl,⟨hH.num,fun b q h=>Nat.lt_of_lt_of_le (hH.lim b q h) hb.size,fun id cs h=>by simp at h⟩,.sc _ _,
    ⟨hb.size,hb.os,hb.tape,hb.output,fun b h1 h2=>⟨h1,hb.block b h2⟩,fun b r h=>⟨h,hb.block b (hH.lim b _ h)⟩,fun _ _ h=>h,E.ids_refl,fun b r _ h h2=>⟨.inl h,hb.block b h2⟩⟩,hq⟩
theorem Ub {P:Program}{L:List (List Nat)}{f:Nat}(hc:Ji P f=true){us:List Value}{v:Value}
    (H : ∀ w, (∀ g, P.globalNamed "internal/strconv.uint64pow10" = some g → w.var? P "internal/strconv.uint64pow10" = some zdt) → Calls P f us.toArray w fun e w' => e = .returned v ∧ Below w.heap.size w w') :
    zn P L f (us.map .sc) [] fun r h'=>r= .sc v∧h'=[]:=by
  refine⟨hc,fun E vs hT hH hs hv=>?_⟩
  have e:vs=us.toArray:=by
    apply Array.ext
    · simpa using hs
    · intro i h1 h2
      have h3:i<us.length:=by simpa using h2
      have:=hv i (.sc us[i]) vs[i] (by simp[h3]) (by simp[h1])
      rw[←Yr this];simp
  subst e
  refine(H E.w fun g hg=>(hT g hg).2.2).mono fun e w' ⟨h1,h2⟩=>?_
  subst h1
  exact uq (P:=P) hH h2 ⟨rfl,rfl⟩
theorem u9 {P:Program}{L:List (List Nat)}{f:Nat}(hc:Ji P f=true){x:ByteArray}{xs:List ByteArray}{c v:Value}
    (H:∀bk o cap w,bk<w.heap.size→(x::xs).length≤cap→(∀j y,(x::xs)[j]?=some y→w.cell? ⟨bk,o+j,none⟩=some (.string y))→Calls P f #[.slice (some ⟨bk,o,none⟩) (x::xs).length cap,c] w fun e w'=>e= .returned v∧Below w.heap.size w w'):
    zn P L f [.imm 1 ((x::xs).map fun s=> .sc (.string s)),.sc c] [] fun r h'=>r= .sc v∧h'=[]:=by
  refine⟨hc,fun E vs hT hH hs hv=>?_⟩
  have s2:vs.size=2:=hs
  obtain⟨u,z,rfl⟩:∃u z,vs= #[u,z]:=⟨vs[0],vs[1],by
    apply Array.ext
    · simpa using s2
    · intro i h1 h2
      rcases(show i=0∨i=1 by simp at h2;omega) with rfl|rfl<;>rfl⟩
  obtain rfl:=Yr (hv 1 (.sc c) z rfl rfl)
  have hu:=hv 0 _ u rfl rfl
  generalize hA:zb.imm 1 ((x::xs).map fun s=> .sc (.string s))=A at hu
  cases hu with
  | imm _ _ cs b o len cap g hO hb hl hc2 hf hvv=>
    cases hA
    have hll:len=(x::xs).length:=by have:=hl.2;rw[List.length_map] at this;omega
    subst hll
    refine(H b o cap E.w hb hc2 fun j y hy=>?_).mono fun e w' h=>?_
    · have hb2:((x::xs).map fun s=>zb.sc (.string s))[j]?=some (.sc (.string y)):=by rw[List.getElem?_map,hy];rfl
      rw[hf j _ hb2,←Yr (hvv j _ hb2)]
    · obtain⟨h1,h2⟩:=h
      subst h1
      exact uq (P:=P) hH h2 ⟨rfl,rfl⟩
  |immNil _ _ a=>cases hA
  |_=>cases hA
end Go.Ga

namespace Go.Ga
open Go
section
variable {P:Program} {t:TypeId} {b:Nat}
theorem zbo {fs:Array Field}{t1 t2 t3 t4:TypeId}{cs:List zb}(hu:P.underlying t=some (.struct fs))(hf:fs.toList.map (·.type)=[t1,t2,t3,t4])(h:Sh P t cs b):
    ∃c1 b1 c2 b2 c3 b3 c4 b4,cs=c1++c2++c3++c4∧b1≤b∧b2≤b∧b3≤b∧b4≤b∧Sh P t1 c1 b1∧Sh P t2 c2 b2∧Sh P t3 c3 b3∧Sh P t4 c4 b4:=by
  obtain⟨L,rfl,rfl,hl,hh⟩:=GE hu h
  have hfl:∀i T,[t1,t2,t3,t4][i]?=some T→∃f:Field,fs[i]?=some f∧f.type=T:=fun i T hT=>by
    rw[←hf,List.getElem?_map] at hT
    obtain⟨f,g1,g2⟩:=Option.map_eq_some_iff.1 hT
    exact⟨f,by simpa using g1,g2⟩
  have hsz:fs.size=4:=by have:=congrArg List.length hf;simpa using this
  match L,hl with
  | [x,y,z,u],_=>
    obtain⟨f1,a1,a2⟩:=hfl 0 t1 rfl
    obtain⟨f2,b1,b2⟩:=hfl 1 t2 rfl
    obtain⟨f3,e1,e2⟩:=hfl 2 t3 rfl
    obtain⟨f4,g1,g2⟩:=hfl 3 t4 rfl
    exact⟨x.1,x.2,y.1,y.2,z.1,z.2,u.1,u.2,by simp,by simp;omega,by simp;omega,by simp;omega,by simp;omega,a2▸hh 0 f1 x a1 rfl,b2▸hh 1 f2 y b1 rfl,e2▸hh 2 f3 z e1 rfl,g2▸hh 3 f4 u g1 rfl⟩
  |[],hl=>simp at hl;omega
  |[_],hl=>simp at hl;omega
  |[_,_],hl=>simp at hl;omega
  |[_,_,_],hl=>simp at hl;omega
  |_::_::_::_::_::_,hl=>simp at hl;omega
theorem KM {fs:Array Field}{t1 t2 e:TypeId}{A:zb}(hu:P.underlying t=some (.struct fs))(hf:fs.toList.map (·.type)=[t1,t1,t1,t2])(h1:P.underlying t1=some (.int .i64))(h2:P.underlying t2=some (.slice e))(he:P.underlying e=some (.int .i64))(hc:P.cellsOf e=1)(h:SA P t A b):
    ∃(k n m:Int) (xs:List Int),A= .agg [.sc (.int .i64 k),.sc (.int .i64 n),.sc (.int .i64 m),.imm 1 (ints xs)]∧Xx k∧Xx n∧Xx m∧xs.length<b:=by
  obtain⟨cs,rfl,h0⟩:=GK hu h
  obtain⟨c1,b1,c2,b2,c3,b3,c4,b4,rfl,l1,l2,l3,l4,s1,s2,s3,s4⟩:=zbo hu hf h0
  obtain⟨k,rfl,w1,_⟩:=wX h1 s1
  obtain⟨n,rfl,w2,_⟩:=wX h1 s2
  obtain⟨m,rfl,w3,_⟩:=wX h1 s3
  obtain⟨xs,rfl,_,w4⟩:=zbp h2 he hc s4
  exact⟨k,n,m,xs,rfl,uu w1,uu w2,uu w3,by omega⟩
theorem Ob {e:TypeId}{cs:List zb}(hu:P.underlying t=some (.slice e))(he:P.underlying e=some (.int .u8))(hc:P.cellsOf e=1)(h:Sh P t cs b):∃xs:List UInt8,cs=[.imm 1 (ZG xs)]∧xs.length<b:=by
 obtain⟨L,more,rfl,rfl,hL⟩:=Uw hu h
 obtain⟨ys,h1,h2,h3⟩:=Wf (f:=fun n:UInt8=>[zb.sc (.int .u8 (n.toNat:Int))]) (R:=fun _=>True) (L:=L) fun x hx=>by
  obtain⟨n,g1,g2,g3⟩:=wX he (hL x hx)
  have h4:0≤n∧n<256:=by
   simp[Lit.wf,IntKind.min,IntKind.max,IntKind.signed,IntKind.bits,IntKind.wrap] at g2
   omega
  refine⟨UInt8.ofNat n.toNat,?_,trivial,by omega⟩
  rw[g1,UInt8.toNat_ofNat']
  have:((n.toNat%2^8:Nat):Int)=n:=by omega
  rw[this]
 exact⟨ys,by rw[h1,hc,pc];rfl,by omega⟩
theorem Ol {e:TypeId}{A:zb}(hu:P.underlying t=some (.slice e))(he:P.underlying e=some (.int .u8))(hc:P.cellsOf e=1)(h:SA P t A b):∃xs:List UInt8,A= .imm 1 (ZG xs)∧xs.length<b:=by
 obtain⟨xs,h1,h2⟩:=Ob hu he hc (Ok (fun fs h=>by rw[hu] at h;cases h) h)
 exact⟨xs,by injection h1,h2⟩
theorem K7 {W : World} (h : ∀ g, P.globalNamed "internal/strconv.uint64pow10" = some g → W.var? P "internal/strconv.uint64pow10" = some zdt) : JO P (Env.plain W) := fun g hg => by
 have h1:=h g hg
 refine⟨rfl,?_,h1⟩
 unfold World.var? at h1
 rw[hg,Option.bind_some] at h1
 cases he:W.heap[g]? with
 |none=>rw[he] at h1;cases h1
 |some o=>exact(Array.getElem?_eq_some_iff.1 he).1
end
end Go.Ga
