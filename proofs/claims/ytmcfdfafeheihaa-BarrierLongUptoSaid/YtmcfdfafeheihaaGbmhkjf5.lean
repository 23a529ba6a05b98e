/- Values, objects, and code by what it leads to: a library of this claim's own. No condition. -/
import Derived.Test.YtmcfdfafeheihaaGbmhkjf4
import Derived.Sort.Grow
set_option linter.all false

namespace Go.Ga
open Go
def zJ (xs:List Nat):List zc:=xs.map fun(n:Nat)=> .sc (.int .i64 (n:Int))
def zl (xs:List Int):List zc:=xs.map fun n=> .sc (.int .i64 n)
theorem Zo (xs:List Nat):(zJ xs).length=xs.length:=by simp[zJ]
theorem zj (xs:List Int):(zl xs).length=xs.length:=by simp[zl]
theorem zx {xs:List Nat}{k:Nat}(h:k<xs.length):(zJ xs)[k]?=some (.sc (.int .i64 ((xs.getD k 0:Nat):Int))):=by
 simp[zJ,List.getElem?_map,List.getElem?_eq_getElem h,h]
theorem zg {xs:List Int}{k:Nat}(h:k<xs.length):(zl xs)[k]?=some (.sc (.int .i64 (xs.getD k 0))):=by
 simp[zl,List.getElem?_map,List.getElem?_eq_getElem h,h]
theorem zgm (xs:List Nat)(k n:Nat):(zJ xs).set k (.sc (.int .i64 (n:Int)))=zJ (xs.set k n):=by
 simp[zJ,List.map_set]
theorem jv (xs:List Int)(k:Nat)(n:Int):(zl xs).set k (.sc (.int .i64 n))=zl (xs.set k n):=by
 simp[zl,List.map_set]
mutual
def zc.plain :zc→Bool
 | .sc _=>true
 | .agg cs=>zc.plainL cs
 | .imm _ cs=>zc.plainL cs
 | .ia cs=>zc.plainL cs
 | .tup cs=>zc.plainL cs
 | .fn _ as bs=>zc.plainL as&&zc.plainL bs
 | .iface _ A=>A.plain
 |_=>false
def zc.plainL :List zc→Bool
 |[]=>true
 |A::l=>A.plain&&zc.plainL l
end
mutual
theorem Xy :∀A:zc,A.plain=true→A.copyable=true
 | .sc _,_=>rfl
 | .agg cs,h=>by simp only[zc.copyable];exact plain_copyableL cs h
 | .imm _ _,_=>rfl
 | .ia _,_=>rfl
 | .tup cs,h=>by simp only[zc.copyable];exact plain_copyableL cs h
 | .fn _ _ _,_=>rfl
 | .iface _ _,_=>rfl
 | .own _ _,h=>by cases h
 | .sl _ _ _ _,h=>by cases h
 | .ptr _ _,h=>by cases h
 | .at_ _,h=>by cases h
 | .addr _ _,h=>by cases h
 | .dead,h=>by cases h
theorem plain_copyableL :∀l:List zc,zc.plainL l=true→zc.copyableL l=true
 |[],_=>rfl
 | A::l,h=>by
   simp only[zc.plainL,Bool.and_eq_true] at h
   simp only[zc.copyableL,Xy A h.1,plain_copyableL l h.2,Bool.and_self]
end
mutual
theorem Xx :∀A:zc,A.plain=true→A.ids0=true
 | .sc _,_=>rfl
 | .agg cs,h=>by simp only[zc.ids0];exact plain_ids0L cs h
 | .imm _ cs,h=>by simp only[zc.ids0];exact plain_ids0L cs h
 | .ia cs,h=>by simp only[zc.ids0];exact plain_ids0L cs h
 | .tup cs,h=>by simp only[zc.ids0];exact plain_ids0L cs h
 | .fn _ as bs,h=>by
   simp only[zc.plain,Bool.and_eq_true] at h
   simp only[zc.ids0,plain_ids0L as h.1,plain_ids0L bs h.2,Bool.and_self]
 | .iface _ A,h=>by simp only[zc.ids0];exact Xx A h
 | .own _ _,h=>by cases h
 | .sl _ _ _ _,h=>by cases h
 | .ptr _ _,h=>by cases h
 | .at_ _,h=>by cases h
 | .addr _ _,h=>by cases h
 | .dead,h=>by cases h
theorem plain_ids0L :∀l:List zc,zc.plainL l=true→zc.ids0L l=true
 |[],_=>rfl
 | A::l,h=>by
   simp only[zc.plainL,Bool.and_eq_true] at h
   simp only[zc.ids0L,Xx A h.1,plain_ids0L l h.2,Bool.and_self]
end
theorem Yc {α:Type}(f:α→Value)(xs:List α):zc.plainL (xs.map fun x=> .sc (f x))=true∧zc.flatL (xs.map fun x=> .sc (f x))=true:=by
 induction xs with
 |nil=>exact⟨rfl,rfl⟩
 |cons x xs ih=>simp only[List.map_cons,zc.plainL,zc.plain,zc.flatL,zc.flat,ih,Bool.and_self,and_self]
theorem QW (xs:List Nat):zc.plainL (zJ xs)=true:=(Yc _ xs).1
theorem Va (xs:List Nat):zc.flatL (zJ xs)=true:=(Yc _ xs).2
theorem wd (xs:List Int):zc.plainL (zl xs)=true:=(Yc _ xs).1
theorem zeW (xs:List Int):zc.flatL (zl xs)=true:=(Yc _ xs).2
theorem gz (xs:List Nat):zc.cellOkL (zJ xs)=true:=by
 induction xs with
 |nil=>rfl
 |cons x xs ih=>exact(Bool.and_eq_true _ _).mpr ⟨rfl,ih⟩
theorem gO (xs:List Int):zc.cellOkL (zl xs)=true:=by
 induction xs with
 |nil=>rfl
 |cons x xs ih=>exact(Bool.and_eq_true _ _).mpr ⟨rfl,ih⟩
theorem qX (xs:List Nat):zc.copyableL (zJ xs)=true:=plain_copyableL _ (QW xs)
theorem qZ (xs:List Int):zc.copyableL (zl xs)=true:=plain_copyableL _ (wd xs)
theorem xC (xs:List Nat):zc.freezeL (zJ xs)=zJ xs:=copyable_freezeL _ (qX xs)
theorem gN (xs:List Int):zc.freezeL (zl xs)=zl xs:=copyable_freezeL _ (qZ xs)
theorem WO (xs:List Nat):zc.ids0L (zJ xs)=true:=plain_ids0L _ (QW xs)
theorem Vk (xs:List Int):zc.ids0L (zl xs)=true:=plain_ids0L _ (wd xs)
theorem zgn (g:Nat→Option Nat)(xs:List Nat):zc.renL g (zJ xs)=zJ xs:=ids0_renL g _ (WO xs)
theorem zgI (g:Nat→Option Nat)(xs:List Int):zc.renL g (zl xs)=zl xs:=ids0_renL g _ (Vk xs)
section
variable {P:Program} {rs:List Nat} {N:Nat} {V V1 V2:List Nat} {L:List (List Nat)} {x y:zC} {K:jF→zb→Prop} {st:zb} {gs:List zm} {t:Zh} {i j d:Nat}
theorem zn (h:∀Y:zb→Prop,(∀s,K .normal (s.settle V2)→Y s)→Yy P L Y gs (st.settle V1)):JA P rs N V L (.reg V1 gs V2) K st:=zdh (h _ fun _ h=>h)
theorem Jq (h:∀Y:zb→Prop,(∀s,K .normal (s.settle V2)→Y s)→jK P Y t [([],L)] (st.settle V1)):JA P rs N V L (.draw V1 t V2) K st:=K9 (h _ fun _ h=>h)
theorem za (h:∀Y:zb→Prop,(∀s,JA P rs N V L y K (s.settle V2)→Y s)→Yy P L Y gs (st.settle V1)):JA P rs N V L (.seq (.reg V1 gs V2) y) K st:=kY (zdh (h _ fun _ h=>h))
theorem zw (h:∀Y:zb→Prop,(∀s,JA P rs N V L y K (s.settle V2)→Y s)→jK P Y t [([],L)] (st.settle V1)):JA P rs N V L (.seq (.draw V1 t V2) y) K st:=kY (K9 (h _ fun _ h=>h))
theorem zf (h:∀X:jF→zb→Prop,(∀s,JA P rs N V L y K s→X .normal s)→(∀i s,K (.exit i) s→X (.exit i) s)→(∀s,K .ret s→X .ret s)→JA P rs N V L x X st):JA P rs N V L (.seq x y) K st:=
 kY (h _ (fun _ h=>h) (fun _ _ h=>h) fun _ h=>h)
theorem zp (h:∀X:jF→zb→Prop,(∀s,K .normal s→X .normal s)→(∀s,K .normal s→X (.exit i) s)→(∀j s,j≠i→K (.exit j) s→X (.exit j) s)→(∀s,K .ret s→X .ret s)→JA P rs N V L x X st):JA P rs N V L (.blk i x) K st:=
 zij (h _ (fun _ h=>h) (fun _ h=>(if_pos rfl).mpr h) (fun j _ hj h=>(if_neg hj).mpr h) fun _ h=>h)
theorem zfp (I:Nat→zb→Prop)(n:Nat)(h0:I n st)(h:∀n s,I n s→∀X:jF→zb→Prop,(∀m s,m<n→I m s→X .normal s)→(∀i s,K (.exit i) s→X (.exit i) s)→(∀s,K .ret s→X .ret s)→JA P rs N V L x X s):JA P rs N V L (.loop x) K st:=
 zfL I n h0 fun n s hI=>h n s hI _ (fun m _ hm h=>⟨m,hm,h⟩) (fun _ _ h=>h) fun _ h=>h
theorem zi (h:K .ret st):JA P rs N V L .ret K st:=zii h
theorem zy (h:K (.exit i) st):JA P rs N V L (.exit i) K st:=zfM h
theorem zh (h:K .normal st):JA P rs N V L .skip K st:=zfJ h
theorem ZM {c:zQ}(hc:st.ev c= .sc (.bool true))(h1:JA P rs N V L x K st):JA P rs N V L (.cond c x y) K st:=ga hc (fun _=>h1) fun h=>by cases h
theorem ZA {c:zQ}(hc:st.ev c= .sc (.bool false))(h1:JA P rs N V L y K st):JA P rs N V L (.cond c x y) K st:=ga hc (fun h=>by cases h) fun _=>h1
theorem zhJ {K:zb→Prop}:Yy P L K [] st=K st:=rfl
theorem zS {K:zb→Prop}{g:zm}{rest:List zm}:Yy P L K (g::rest) st=ZP P L (Yy P L K rest) st g:=rfl
theorem zM {K:zb→Prop}{b:ZS}:ZP P L K st (none,b)=(b.quiet L st=true∧Jo P L K st b):=rfl
theorem Vp {K:zb→Prop}{t:Nat}{want:Bool}{b:ZS}(h:st.get t= .sc (.bool want)):ZP P L K st (some (t,want),b)=(b.quiet L st=true∧Jo P L K st b):=by
 have h1:want≠(!want):=by cases want<;>decide
 simp[ZP,h,h1]
theorem ui {K:zb→Prop}{t d:Nat}{want:Bool}{b:ZS}(h:st.get t= .sc (.bool (!want)))(hd:b.dst=some d):ZP P L K st (some (t,want),b)=K (st.putT d (.sc (.tuple #[]))):=by
 have h1:(!want)≠want:=by cases want<;>decide
 simp[ZP,h,h1,hd]
theorem xF {K:zb→Prop}{t d:Nat}{want:Bool}{b:ZS}(h:st.get t= .sc (.tuple #[]))(hd:b.dst=some d):ZP P L K st (some (t,want),b)=K (st.putT d (.sc (.tuple #[]))):=by
 simp[ZP,h,hd]
theorem YY {b:ZS}:(b.quiet [] st=true)=True:=by rw[zex];exact eq_self true
theorem zeO (j:Nat)(A:zc)(l:List (Nat×zc))(i:Nat):Zn ((j,A)::l) i=if i=j then some A else Zn l i:=rfl
theorem zgB (i:Nat):Zn [] i=none:=rfl
theorem zfr (j:Nat)(A B:zc)(l:List (Nat×zc))(i:Nat):upd ((j,A)::l) i B=if i=j then(j,B)::l else(j,A)::upd l i B:=rfl
theorem zmB (vs ts:List (Nat×zc))(h:Heap)(i:Nat):zb.get ⟨vs,ts,h⟩ i=jX (Zn ts i) (Zn vs i):=rfl
theorem zcy (A:zc)(x:Option zc):jX (some A) x=A:=rfl
theorem zcz (A:zc):jX none (some A)=A:=rfl
theorem zgC :jX none none= .dead:=rfl
theorem znt (st:zb)(i:Nat):st.ev (.t i)=st.get i:=rfl
theorem znv (st:zb)(v:Value):st.ev (.c v)= .sc v:=rfl
theorem znu (st:zb)(g:Nat):st.ev (.f g)= .fn (.func g) [] []:=rfl
theorem zm7 (st:zb)(i:Nat):st.evA (.t i)=(st.get i).here i:=rfl
theorem zm8 (st:zb)(v:Value):st.evA (.c v)= .sc v:=rfl
theorem zm6 (st:zb)(v:Value):st.evU (.c v)= .sc v:=rfl
theorem zm5 (st:zb)(g:Nat):st.evU (.f g)= .fn (.func g) [] []:=rfl
theorem zeb (vs ts:List (Nat×zc))(h:Heap)(V:List Nat):zb.settle ⟨vs,ts,h⟩ V=⟨V.map fun i=>(i,(jX (Zn ts i) (Zn vs i)).cut V),[],h⟩:=rfl
theorem ziq (vs ts:List (Nat×zc))(h:Heap)(d:Nat)(A:zc):zb.putT ⟨vs,ts,h⟩ d A=⟨vs,(d,A)::ts,h⟩:=rfl
theorem ziD (vs ts:List (Nat×zc))(h:Heap)(f:zc→Bool):zb.kill ⟨vs,ts,h⟩ f=⟨qO f vs,qO f ts,h⟩:=rfl
theorem zcD (f:zc→Bool)(j:Nat)(A:zc)(l:List (Nat×zc)):qO f ((j,A)::l)=(j,bif f A then .dead else A)::qO f l:=rfl
theorem zeT (f:zc→Bool):qO f []=[]:=rfl
def zdg (vs ts:List (Nat×zc))(h:Heap)(i:Nat)(A:zc):Option zc→zb
 |some _=>⟨vs,upd ts i A,h⟩
 |none=>⟨upd vs i A,ts,h⟩
theorem zlj (vs ts:List (Nat×zc))(h:Heap)(i:Nat)(A:zc):zb.set ⟨vs,ts,h⟩ i A=zdg vs ts h i A (Zn ts i):=by
 unfold zb.set zdg
 cases Zn ts i<;>rfl
theorem zcb (vs ts:List (Nat×zc))(h:Heap)(i:Nat)(A B:zc):zdg vs ts h i A (some B)=⟨vs,upd ts i A,h⟩:=rfl
theorem zcc (vs ts:List (Nat×zc))(h:Heap)(i:Nat)(A:zc):zdg vs ts h i A none=⟨upd vs i A,ts,h⟩:=rfl
def zdG (i:Nat)(A:zc):Option zc→zc
 |some B=>B
 | none=>match A with
   | .agg cs=>bif zc.copyableL cs then .agg cs else .at_ [0,i]
   |A=>A.here i
theorem zm4 (vs ts:List (Nat×zc))(h:Heap)(i:Nat):zb.evU ⟨vs,ts,h⟩ (.t i)=zdG i (jX (Zn ts i) (Zn vs i)) (Zn ts i):=by
 show(match Zn ts i with|some A=>A|none=>match jX (Zn ts i) (Zn vs i) with| .agg cs=>bif zc.copyableL cs then .agg cs else .at_ [0,i]|A=>A.here i)=_
 unfold zdG
 rfl
theorem zcL (i:Nat)(A B:zc):zdG i A (some B)=B:=rfl
theorem zmG (v:Value):(zc.sc v).cut V= .sc v:=rfl
theorem ziZ (cs:List zc):(zc.agg cs).cut V= .agg cs:=rfl
theorem ziW (sz:Nat)(cs:List zc):(zc.imm sz cs).cut V= .imm sz cs:=rfl
theorem ziV (hd:Option Nat)(cs:List zc):(zc.own hd cs).cut V= .own hd cs:=rfl
theorem zmF (a b c e:Nat):(zc.sl a b c e).cut V= .sl a b c e:=rfl
theorem ziU (a b:Nat):(zc.ptr a b).cut V= .ptr a b:=rfl
theorem zmI (cs:List zc):(zc.ia cs).cut V= .ia cs:=rfl
theorem zmJ (f:Fn)(a b:List zc):(zc.fn f a b).cut V= .fn f a b:=rfl
theorem ze4 (t:TypeId)(A:zc):(zc.iface t A).cut V= .iface t A:=rfl
theorem ziT (cs:List zc):(zc.tup cs).cut V= .tup cs:=rfl
theorem zmH (ks:List Int):(zc.mp ks).cut V= .mp ks:=rfl
theorem zhb :zc.dead.cut V= .dead:=rfl
theorem ziY (ks:List Nat):(zc.at_ (0::i::ks)).cut V=bif V.contains i then .at_ (0::i::ks) else .dead:=rfl
theorem ziX (ks:List Nat):(zc.at_ (1::ks)).cut V= .at_ (1::ks):=rfl
theorem ze6 (ks:List Nat)(k:Nat):(zc.addr (0::i::ks) k).cut V=bif V.contains i then .addr (0::i::ks) k else .dead:=rfl
theorem ze5 (ks:List Nat)(k:Nat):(zc.addr (1::ks) k).cut V= .addr (1::ks) k:=rfl
theorem ziH (v:Value):(zc.sc v).here i= .sc v:=rfl
theorem zgQ (cs:List zc):(zc.agg cs).here i= .agg cs:=rfl
theorem zgN (sz:Nat)(cs:List zc):(zc.imm sz cs).here i= .imm sz cs:=rfl
theorem zgO (cs:List zc):(zc.own none cs).here i= .addr [0,i] 0:=rfl
theorem zgM (sz:Nat)(cs:List zc):(zc.own (some sz) cs).here i= .at_ [0,i]:=rfl
theorem ziG (a b c e:Nat):(zc.sl a b c e).here i= .sl a b c e:=rfl
theorem zgL (a b:Nat):(zc.ptr a b).here i= .ptr a b:=rfl
theorem ziJ (cs:List zc):(zc.ia cs).here i= .ia cs:=rfl
theorem ziK (f:Fn)(a b:List zc):(zc.fn f a b).here i= .fn f a b:=rfl
theorem zcH (t:TypeId)(A:zc):(zc.iface t A).here i= .iface t A:=rfl
theorem zgK (cs:List zc):(zc.tup cs).here i= .tup cs:=rfl
theorem ziI (ks:List Int):(zc.mp ks).here i= .mp ks:=rfl
theorem zgP (p:List Nat):(zc.at_ p).here i= .at_ p:=rfl
theorem zcI (p:List Nat)(k:Nat):(zc.addr p k).here i= .addr p k:=rfl
theorem zeo (v:Value):(zc.sc v).rootIs i=false:=rfl
theorem zcn (cs:List zc):(zc.agg cs).rootIs i=false:=rfl
theorem zck (sz:Nat)(cs:List zc):(zc.imm sz cs).rootIs i=false:=rfl
theorem zcj (hd:Option Nat)(cs:List zc):(zc.own hd cs).rootIs i=false:=rfl
theorem zen (a b c e:Nat):(zc.sl a b c e).rootIs i=false:=rfl
theorem zci (a b:Nat):(zc.ptr a b).rootIs i=false:=rfl
theorem zeq (cs:List zc):(zc.ia cs).rootIs i=false:=rfl
theorem zer (f:Fn)(a b:List zc):(zc.fn f a b).rootIs i=false:=rfl
theorem k8 (t:TypeId)(A:zc):(zc.iface t A).rootIs i=false:=rfl
theorem zch (cs:List zc):(zc.tup cs).rootIs i=false:=rfl
theorem zep (ks:List Int):(zc.mp ks).rootIs i=false:=rfl
theorem gg :zc.dead.rootIs i=false:=rfl
theorem zcm (ks:List Nat):(zc.at_ (0::j::ks)).rootIs i=(j==i):=rfl
theorem zcl (ks:List Nat):(zc.at_ (1::ks)).rootIs i=false:=rfl
theorem Ka (ks:List Nat)(k:Nat):(zc.addr (0::j::ks) k).rootIs i=(j==i):=rfl
theorem k9 (ks:List Nat)(k:Nat):(zc.addr (1::ks) k).rootIs i=false:=rfl
theorem at0 (st:zb)(i:Nat)(ks:List Nat):st.at (0::i::ks)=(st.get i).sub ks:=rfl
def zli (k:Nat)(ks:List Nat):Option (Option (List zc))→Option zc
 |some (some cs)=>(zc.own none cs).sub (k::ks)
 |_=>none
theorem at1 (vs ts:List (Nat×zc))(h:Heap)(id k:Nat)(ks:List Nat):zb.at ⟨vs,ts,h⟩ (1::id::k::ks)=zli k ks h[id]?:=by
 simp only[zb.at,zli]
 cases h[id]? with
 |none=>rfl
 |some x=>cases x<;>rfl
theorem zd9 (k:Nat)(ks:List Nat)(cs:List zc):zli k ks (some (some cs))=(zc.own none cs).sub (k::ks):=rfl
def zb2 (ks:List Nat):Option zc→Option zc
 |some B=>B.sub ks
 |none=>none
theorem zd8 (ks:List Nat)(B:zc):zb2 ks (some B)=B.sub ks:=rfl
theorem zh9 (A:zc):A.sub []=some A:=by cases A<;>rfl
theorem zh8 (hd:Option Nat)(cs:List zc)(k:Nat)(ks:List Nat):(zc.own hd cs).sub (k::ks)=zb2 ks cs[k]?:=by
 simp only[zc.sub,zc.kids,zb2];cases cs[k]?<;>rfl
theorem zic (cs:List zc)(k:Nat)(ks:List Nat):(zc.agg cs).sub (k::ks)=zb2 ks cs[k]?:=by
 simp only[zc.sub,zc.kids,zb2];cases cs[k]?<;>rfl
theorem zh7 (cs:List zc)(k:Nat)(ks:List Nat):(zc.tup cs).sub (k::ks)=zb2 ks cs[k]?:=by
 simp only[zc.sub,zc.kids,zb2];cases cs[k]?<;>rfl
def vl (cs:List zc)(k:Nat)(ks:List Nat)(B:zc):Option zc→List zc
 |some C=>cs.set k (C.setSub ks B)
 |none=>cs
theorem zec (cs:List zc)(k:Nat)(ks:List Nat)(B C:zc):vl cs k ks B (some C)=cs.set k (C.setSub ks B):=rfl
theorem zb9 (A B:zc):A.setSub [] B=B:=by cases A<;>rfl
theorem zb8 (hd:Option Nat)(cs:List zc)(k:Nat)(ks:List Nat)(B:zc):(zc.own hd cs).setSub (k::ks) B= .own hd (vl cs k ks B cs[k]?):=by
 simp only[zc.setSub,vl];cases cs[k]?<;>rfl
theorem zca (cs:List zc)(k:Nat)(ks:List Nat)(B:zc):(zc.agg cs).setSub (k::ks) B= .agg (vl cs k ks B cs[k]?):=by
 simp only[zc.setSub,vl];cases cs[k]?<;>rfl
theorem zb7 (cs:List zc)(k:Nat)(ks:List Nat)(B:zc):(zc.tup cs).setSub (k::ks) B= .tup (vl cs k ks B cs[k]?):=by
 simp only[zc.setSub,vl];cases cs[k]?<;>rfl
theorem zlm (st:zb)(i:Nat)(ks:List Nat)(B:zc):st.setAt (0::i::ks) B=st.set i ((st.get i).setSub ks B):=rfl
def zlk (vs ts:List (Nat×zc))(h:Heap)(id k:Nat)(ks:List Nat)(B:zc):Option (Option (List zc))→zb
 |some (some cs)=>⟨vs,ts,h.set id (some (vl cs k ks B cs[k]?))⟩
 |_=>⟨vs,ts,h⟩
theorem zll (vs ts:List (Nat×zc))(h:Heap)(id k:Nat)(ks:List Nat)(B:zc):zb.setAt ⟨vs,ts,h⟩ (1::id::k::ks) B=zlk vs ts h id k ks B h[id]?:=by
 simp only[zb.setAt,zlk]
 cases h[id]? with
 |none=>rfl
 | some x=>cases x with
   |none=>rfl
   |some cs=>simp only[vl];cases cs[k]?<;>rfl
theorem zed (vs ts:List (Nat×zc))(h:Heap)(id k:Nat)(ks:List Nat)(B:zc)(cs:List zc):zlk vs ts h id k ks B (some (some cs))=⟨vs,ts,h.set id (some (vl cs k ks B cs[k]?))⟩:=rfl
theorem zcC (st:zb):st.kill (fun _=>false)=st:=by
 have:∀l:List (Nat×zc),qO (fun _=>false) l=l:=fun l=>by
  induction l with
  |nil=>rfl
  |cons x l ih=>obtain⟨i,A⟩:=x;simp[qO,ih]
 simp[zb.kill,this]
theorem zgV {gb:Nat→Option Nat}{h':Heap}:gone [] L gb h'=fun _=>false:=by
 funext A
 unfold gone
 split
 · simp[Jz]
 · simp[Jz]
 · rfl
theorem K7 {gb:Nat→Option Nat}{h':Heap}:∀(i:Nat) (l:Heap),Yu (Jz []) gb h' i l=l
 |_,[]=>rfl
 | i,o::l=>by
   have ih:=K7 (gb:=gb) (h':=h') (i+1) l
   simp only[Yu,ih]
   rfl
def vv (st:zb):List (zQ×Bool)→List zc
 |[]=>[]
 |(x,_)::xs=>zhL st [] true x::vv st xs
theorem vD :∀(args:List (zQ×Bool)),∃As,st.useL (WG args [])=some (As,st)∧As.length=args.length∧st.useLQ L (WG args [])=true
 |[]=>⟨[],rfl,rfl,rfl⟩
 | (x,b)::xs=>by
   obtain⟨As,h1,h2,h3⟩:=vD xs
   refine⟨.sc (.bool false)::As,?_,by simp[h2],?_⟩
   · simp only[WG,List.headD_nil,List.tail_nil,zb.useL,zb.use,zb.evU,zc.copyable,cond_true,h1]
   · simp only[WG,List.headD_nil,List.tail_nil,zb.useLQ,zb.useQ,zb.use,zb.evU,zc.copyable,cond_true,h3,Bool.and_self]
theorem xH {st0:zb}:∀(args:List (zQ×Bool)) (As:List zc),As.length=args.length→JL st0 st [] true none args [] As=vv st args
 |[],[],_=>rfl
 |[],_::_,h=>by simp at h
 |_::_,[],h=>by simp at h
 | (x,b)::xs,A::As,h=>by
   simp only[JL,List.headD_nil,List.tail_nil,vv,xH xs As (by simpa using h)]
theorem zc4 {f:zQ}{args:List (zQ×Bool)}{K:zb→Prop}{g:Nat}{first captured:List zc}(hev:st.ev f= .fn (.func g) first captured)
    (H:zo P [] g (vwL st.h [] true first++(vv st args++vwL st.h [] true captured)) [] fun r h'=>h'=[]∧r.flat=true∧r.ids0=true∧K (st.putT d r)):YO P L st d f args K:=by
  unfold YO
  rw[hev]
  refine⟨[],[],true,none,?_⟩
  unfold wm
  obtain⟨As,h1,h2,h3⟩:=vD (st:=st) (L:=L) args
  have hw:∀L:List (List Nat),zt [] L=[]:=fun L=>by
    induction L with
    |nil=>rfl
    | cons r L ih=>
      unfold zt
      split
      · rename_i heq;cases heq
      · rename_i heq;cases heq;simp[Jz,ih]
      · rename_i heq;cases heq;exact ih
  simp only[xv,h1,xH _ _ h2,h3,K0,hw,Z2]
  refine⟨rfl,rfl,rfl,H.mono fun r h' ⟨e,hf,hi,hk⟩=>?_⟩
  subst e
  refine⟨Nat.le_refl _,fun _=>⟨hf,rfl⟩,?_⟩
  simp only[zq,zb.after,zgV,zcC,K7,ug _ _ hi]
  simpa[QQ] using hk
theorem zfk {f:zQ}{args:List (zQ×Bool)}{K:zb→Prop}{g:Nat}{first captured:List zc}(hev:st.ev f= .fn (.func g) first captured)(ms:List xV)(bo:List Nat)(ln:Bool)(pl:Option (List Nat))
    (H:wm P L st d g first captured args ms bo ln pl K):YO P L st d f args K:=by
  unfold YO
  rw[hev]
  exact⟨ms,bo,ln,pl,H⟩
end
end Go.Ga

namespace Go.Ga
open Go
section
variable {P:Program} {L:List (List Nat)} {K:zb→Prop} {st st0 st1:zb} {d:Nat}
theorem zi1 {b:ZS}{rest:List zm}:Yy P [] K ((none,b)::rest) st=Jo P [] (Yy P [] K rest) st b:=by
 rw[zS,zM,YY,true_and]
theorem zhK {t:Nat}{want:Bool}{b:ZS}{rest:List zm}(h:st.get t= .sc (.bool want)):Yy P [] K ((some (t,want),b)::rest) st=Jo P [] (Yy P [] K rest) st b:=by
 rw[zS,Vp h,YY,true_and]
theorem zfj {t d:Nat}{want:Bool}{b:ZS}{rest:List zm}(h:st.get t= .sc (.bool (!want)))(hd:b.dst=some d):Yy P [] K ((some (t,want),b)::rest) st=Yy P [] K rest (st.putT d (.sc (.tuple #[]))):=by
 rw[zS,ui h hd]
theorem zcW {t d:Nat}{want:Bool}{b:ZS}{rest:List zm}(h:st.get t= .sc (.tuple #[]))(hd:b.dst=some d):Yy P [] K ((some (t,want),b)::rest) st=Yy P [] K rest (st.putT d (.sc (.tuple #[]))):=by
 rw[zS,xF h hd]
theorem zd6 {wl:List Jf}:jK P K .done wl st=K st:=rfl
theorem zd4 {later:List Nat}{gd:Option (Nat×Bool)}{o:AOp}{t:Zh}{wl:List Jf}:jK P K (.take later (gd,.r o) t) wl st=ZP P [] (jK P K t ((later,QP st o)::wl)) st (gd,.r o):=rfl
theorem zfx {i:Nat}{g:zm}{t:Zh}{wl:List Jf}:jK P K (.one i g t) wl st=ZP P (JG (ZY i wl)) (jK P K t (ZY i wl)) st g:=rfl
theorem zd5 {i:Nat}{g:zm}{l:List (Nat×zm)}{t:Zh}{wl:List Jf}:jK P K (.many ((i,g)::l) t) wl st=ZP P [] (jK P K (.many l t) (ZY i wl)) st g:=rfl
theorem zbZ {t:Zh}{wl:List Jf}:jK P K (.many [] t) wl st=jK P K t wl st:=rfl
theorem zfw {i j:Nat}{g h:zm}{t u:Zh}{wl:List Jf}:jK P K (.two i g t j h u) wl st=(ZP P (JG (ZY i wl)) (jK P K t (ZY i wl)) st g∧ZP P (JG (ZY j wl)) (jK P K u (ZY j wl)) st h):=rfl
theorem zbY {i j k:Nat}{g h m:zm}{t u v:Zh}{wl:List Jf}:jK P K (.three i g t j h u k m v) wl st=(ZP P (JG (ZY i wl)) (jK P K t (ZY i wl)) st g∧ZP P (JG (ZY j wl)) (jK P K u (ZY j wl)) st h∧ZP P (JG (ZY k wl)) (jK P K v (ZY k wl)) st m):=rfl
theorem kX (cs:List zc)(k:Nat)(A:zc):Zp cs k [A]=cs.set k A:=rfl
theorem zg8 {rss:List wq}{Q:zc→Heap→Prop}{s:zb}:Je [] rss Q .ret s=match vt rss s with
    |some (As,s')=>Q (zcu As) s'.h
    |none=>False:=by
  simp only[Je,Ys,true_and]<;>rfl
theorem ze2 {rss:List wq}{Q:zc→Heap→Prop}{s:zb}:Je [] rss Q .normal s=match vt rss s with
    |some (As,s')=>Q (zcu As) s'.h
    |none=>False:=by
  simp only[Je,Ys,true_and]<;>rfl
theorem zk {f:zQ}{args:List (zQ×Bool)}{g:Nat}{first captured As:List zc}(hev:st.ev f= .fn (.func g) first captured)(hargs:vwL st.h [] true first++(vv st args++vwL st.h [] true captured)=As)
    (H:zo P [] g As [] fun r h'=>h'=[]∧r.flat=true∧r.ids0=true∧K (st.putT d r)):YO P L st d f args K:=
  zc4 hev (by rw[hargs];exact H)
theorem zr {f:zQ}{args:List (zQ×Bool)}{g:Nat}{first captured As args':List zc}{x:Option (List Nat×Nat×List zc)}{h0:Heap}{L':List (List Nat)}(ms:List xV)(bo:List Nat)(ln:Bool)(pl:Option (List Nat))
    (hev:st.ev f= .fn (.func g) first captured) (htake:xv st pl=some (x,st0)) (huse:st0.useL (WG args ms)=some (As,st1)) (hnd:yD bo=true) (hbo:bo.all (fun i=>decide (i<st1.h.length))=true)
    (hq:(K0 L pl&&st0.useLQ L (WG args ms))=true) (hW:zt bo L=L') (hargs:vwL st1.h bo ln first++(JL st st1 bo ln x args ms As++vwL st1.h bo ln captured)=args') (hin:Z2 st1.h bo x=h0)
    (H:zo P L' g args' h0 fun r h'=>h0.length≤h'.length∧(ln=true→r.flat=true∧Jv h'=true)∧zq L d bo h0.length x st1 K r h'):YO P L st d f args K:=by
  refine zfk hev ms bo ln pl ?_
  unfold wm
  rw[htake]
  simp only[]
  rw[huse]
  simp only[]
  refine⟨hnd,hbo,hq,?_⟩
  rw[hW,hargs,hin]
  exact H
end
attribute [go_sem] zhS zb.cpyQ zhR zbN zbP zbM zb.mputQ zmH ziI zep zbR zb.roomTo zc.slQ zc.isAgg xF zcW List.getElem?_drop List.drop_drop zhK zfj zhJ zM Vp ui Jo J5 jt ZS.dst AOp.dst zeO zgB zfr zmB zcy zcz zgC znt znv znu zm7 zm8 zm4 zm6 zm5 zcL zdG zeb ziq ziD zcD zeT zlj zcb zcc zb.assign zmG ziZ ziW ziV zmF ziU zmI zmJ ze4 ziT zhb ziY ziX ze6 ze5 ziH zgQ zgN zgO zgM ziG zgL ziJ ziK zcH zgK zgP zcI zeo zcn zck zcj zen zci zeq zer k8 zch gg zcm zcl Ka k9 zc.copyable zc.copyableL zhV zb.use zb.isNil zb.blank WM jN cond_true cond_false List.map List.getElem?_cons_zero List.getElem?_cons_succ cellsOf WV Option.some.injEq List.contains_cons List.contains_nil Bool.or_false Bool.or_true Bool.true_or Bool.false_or Bool.and_true Bool.true_and Vw Option.getD_some Option.getD_none zcu List.length_cons List.length_nil zd6 zd4 zfx zfw zbY zd5 zbZ ZY JG QP ZS.quiet at0 at1 zd9 zd8 zh9 zh8 zic zh7 zec zb9 zb8 zca zb7 zlm zll zed zb.owned aSt zb.stQ zb.useQ zb.useLQ zb.appQ zc.cells kX zc.cellOkL zc.cellOk zc.aggCopy zc.under List.isPrefixOf zb.storeObj zc.inObj Zo zj zgm jv zc.int? X0 zdz KE List.filter_cons List.filter_nil List.flatMap_cons List.flatMap_nil List.all_cons List.all_nil clear Int.toNat_natCast Nat.mul_one Nat.add_one_le_iff Nat.zero_add Nat.add_zero true_and and_true List.length_map List.set_cons_zero List.set_cons_succ zb.useL List.append_nil List.nil_append List.cons_append List.singleton_append Bool.not_true Bool.not_false Bool.not_eq_true Bool.and_self Bool.or_self Bool.and_false Bool.false_and aMk zhU zbQ zhW zhQ zhT U9 zbO zb.bound zb.dec jc Vv List.drop_zero List.drop_succ_cons List.drop_nil List.take_succ_cons List.take_zero List.take_nil zb.lenOf zb.shareAt zc.freeze zc.freezeL zb.given zb.more zb.moreQ Option.map_some Option.map_none Int.natCast_nonneg beq_self_eq_true bne_self_eq_false List.getElem?_nil List.set_set zi1 YY WG JL zhL vwV vw1 vwL vv vf Z2 zt yD Jz xv K0 Yu QQ Jv ZK gone zc.ren zc.renL zc.flat zc.flatL zc.ids0 zc.ids0L zc.plain zc.plainL QW Va gz qX xC WO zgn wd zeW gO qZ gN Vk zgI vt zcu zg8 ze2 clear zb.forget List.headD_cons List.headD_nil List.tail_cons List.tail_nil Option.isNone_none Option.isNone_some Option.isSome_none Option.isSome_some zc.isAlias List.isEmpty_nil List.isEmpty_cons
end Go.Ga

namespace Go.Ga
open Go
theorem Qj {α β:Type}{f g:α→Option β}:∀{l:List α} {r:List β},l.mapM f=some r→(∀x∈l,∀y∈r,f x=some y→g x=some y)→l.mapM g=some r
 |[],r,h,_=>by simpa using h
 | x ::l,r,h,hk=>by
   rw[List.mapM_cons] at h⊢
   cases hx:f x with
   |none=>rw[hx] at h;cases h
   | some y=>
     rw[hx] at h
     cases hr:l.mapM f with
     |none=>rw[hr] at h;cases h
     | some r'=>
       rw[hr] at h
       cases h
       rw[hk x (.head _) y (.head _) hx]
       have:=Qj hr fun z hz w hw=>hk z (.tail _ hz) w (.tail _ hw)
       rw[this]
       rfl
def Old (w w':World):Prop:=∀b,b<w.heap.size→w'.heap[b]?=w.heap[b]?
section
variable {H:Type} {enc:TypeId×Value→H} {P:Program} {w w':World}
theorem Old.cell (h:Old w w'){a:Addr}{v:Value}(hc:w.cell? a=some v):w'.cell? a=some v:=by
 have hb:a.block<w.heap.size:=World.block_lt_of_cell? w _ hc
 unfold World.cell? at hc⊢
 rw[h _ hb]
 exact hc
theorem Old.cells (h:Old w w'){base:Nat}{a:Addr}{n:Nat}{cs:List Value}(hc:w.cells? base a n=some cs):w'.cells? base a n=some cs:=by
 unfold World.cells? at hc⊢
 split at hc
 · rename_i hb
   rw[if_pos hb]
   exact Qj hc fun i _ v _ hv=>h.cell hv
 · cases hc
def jE (P:Program)(S:List TypeId)(t:TypeId):Prop:=
 match P.underlying t with
 |some .bool=>True
 |some (.int _)=>True
 |some .string=>True
 |some (.slice e)=>0<P.cellsOf e∧e∈S
 |some (.struct fs)=>∀f∈fs.toList,f.type∈S
 |_=>False
theorem vh {S:List TypeId}(hO:Old w w'){sp:Nat→Bool}{r r':TypeId→List Value→Option (DataW H×List MemPlace)}{t:TypeId}{cs:List Value}{x:DataW H×List MemPlace}
    (hS:jE P S t) (hr:∀t cs y,t∈S→r t cs=some y→(∀p∈y.2,sp p.block=true)→r' t cs=some y) (hsp:∀p∈x.2,sp p.block=true) (h:DataW.trodStep enc P w 0 (fun _=>true) true r t cs=some x):DataW.trodStep enc P w' 0 sp true r' t cs=some x:=by
  unfold DataW.trodStep at h⊢
  split at h
  case h_1=>exact h
  case h_2=>exact h
  case h_3=>exact h
  case h_4=>exact h
  case h_5=>exact h
  case h_6 e a hu=>unfold jE at hS;rw[hu] at hS;exact hS.elim
  case h_7=>exact h
  case h_8 e a len cap hu=>
    unfold jE at hS
    rw[hu] at hS
    obtain⟨hc,heS⟩:=hS
    simp only at h⊢
    split at h
    · rename_i hcond
      rw[if_pos hcond]
      simp only[if_true,Option.map_eq_some_iff,Option.bind_eq_some_iff] at h⊢
      obtain⟨elems,he,rest,hrest,rfl⟩:=h
      have hsub:∀y∈elems++rest,∀p∈y.2,sp p.block=true:=fun y hy p hp=>hsp p (List.mem_append_right _ (List.mem_flatMap.2 ⟨y,hy,hp⟩))
      have one:∀i y,y∈elems++rest→(w.cells? 0 (a.add (i*P.cellsOf e)) (P.cellsOf e)).bind (r e)=some y→(w'.cells? 0 (a.add (i*P.cellsOf e)) (P.cellsOf e)).bind (r' e)=some y:=fun i y hm hy=>by
        simp only[Option.bind_eq_some_iff] at hy⊢
        obtain⟨cs',hc,hy⟩:=hy
        exact⟨cs',hO.cells hc,hr _ _ _ heS hy (hsub y hm)⟩
      refine⟨elems,Qj he fun i _ y hy h=>one i y (List.mem_append_left _ hy) h,rest,?_,rfl⟩
      split
      · exact Qj hrest fun j _ y hy h=>one (len+j) y (List.mem_append_right _ hy) h
      · rename_i hns
        have hrow:(elems.length+rest.length)*P.cellsOf e=0∨0<(elems.length+rest.length)*P.cellsOf e:=Nat.eq_zero_or_pos _
        rcases hrow with h0|h0
        · have hl:elems.length+rest.length=0:=by
            rcases Nat.eq_zero_or_pos (elems.length+rest.length) with e0|e0
            · exact e0
            · have:=Nat.mul_pos e0 hc;omega
          have:rest=[]:=List.eq_nil_of_length_eq_zero (by omega)
          rw[this]
        · exfalso
          refine hns (hsp (.cell a.block (a.off+0)) (List.mem_append_left _ ?_))
          exact MemPlace.mem_row.2 ⟨0,h0,rfl⟩
    · cases h
  case h_9 fs hu=>
    unfold jE at hS
    rw[hu] at hS
    split at h
    · rename_i hl
      rw[if_pos hl]
      simp only[Option.map_eq_some_iff] at h⊢
      obtain⟨xs,hx,rfl⟩:=h
      exact⟨xs,Qj hx fun f hf y hy h=>hr _ _ _ (hS f hf) h fun p hp=>hsp p (List.mem_flatMap.2 ⟨y,hy,hp⟩),rfl⟩
    · cases h
  case h_14 k e b hu=>unfold jE at hS;rw[hu] at hS;exact hS.elim
  case h_10 n e hu=>unfold jE at hS;rw[hu] at hS;exact hS.elim
  all_goals exact h
theorem vI {S:List TypeId}(hS:∀t∈S,jE P S t)(hO:Old w w'){sp:Nat→Bool}:∀(n:Nat) (t:TypeId) (cs:List Value) (x:DataW H×List MemPlace),t∈S→DataW.trod enc P w 0 (fun _=>true) true n t cs=some x→(∀p∈x.2,sp p.block=true)→DataW.trod enc P w' 0 sp true n t cs=some x
 |0,_,_,_,_,h,_=>by simp[DataW.trod] at h
 | n+1,t,cs,x,ht,h,hsp=>by
   rw[DataW.trod_step] at h⊢
   exact vh hO (hS t ht) (vI hS hO n) hsp h
theorem wA {S:List TypeId}(hS:∀t∈S,jE P S t)(hO:Old w w'){sp:Nat→Bool}:∀{ts:List TypeId} {vs:List Value} {ds:List (DataW H)} {ps:List MemPlace},(∀t∈ts,t∈S)→DataW.TrodAll enc P w 0 (fun _=>true) true ts vs ds ps→(∀p∈ps,sp p.block=true)→DataW.TrodAll enc P w' 0 sp true ts vs ds ps
 |[],[],[],ps,_,h,_=>h
 | t::ts,v::vs,d::ds,ps,ht,⟨p,q,⟨fuel,h1⟩,h2,he⟩,hsp=>by
   subst he
   exact⟨p,q,⟨fuel,vI hS hO fuel t _ _ (ht t (.head _)) h1 fun x hx=>hsp x (List.mem_append_left _ hx)⟩,wA hS hO (fun t h=>ht t (.tail _ h)) h2 fun x hx=>hsp x (List.mem_append_right _ hx),rfl⟩
end
end Go.Ga

namespace Go.Ga
open Go
inductive Sh (P:Program):TypeId→List zc→Nat→Prop
 |bool (t:TypeId) (b:Bool) (hu:P.underlying t=some .bool):Sh P t [.sc (.bool b)] 1
 |int (t:TypeId) (k:IntKind) (n:Int) (hu:P.underlying t=some (.int k)) (hw:(Lit.int k n).wf=true):Sh P t [.sc (.int k n)] 1
 |string (t:TypeId) (s:ByteArray) (hu:P.underlying t=some .string):Sh P t [.sc (.string s)] (s.size+1)
 |slice (t e:TypeId) (L:List (List zc×Nat)) (more:Nat) (hu:P.underlying t=some (.slice e)) (hl:∀x∈L,x.1.length=P.cellsOf e) (h:∀x∈L,Sh P e x.1 x.2):Sh P t [.imm (P.cellsOf e) (L.map (·.1)).flatten] (1+(L.map (·.2)).sum+more)
 |struct (t:TypeId) (fs:Array Field) (L:List (List zc×Nat)) (hu:P.underlying t=some (.struct fs)) (hl:L.length=fs.size) (h:∀(i:Nat) f x,fs[i]?=some f→L[i]?=some x→Sh P f.type x.1 x.2):Sh P t (L.map (·.1)).flatten (1+(L.map (·.2)).sum)
 |other (t:TypeId) (n b:Nat) (h1:∀k,P.underlying t≠some (.int k)) (h2:P.underlying t≠some .bool) (h3:P.underlying t≠some .string) (h4:∀e,P.underlying t≠some (.slice e)) (h5:∀fs,P.underlying t≠some (.struct fs)):Sh P t (List.replicate n .dead) b
mutual
def Jp {H:Type}:DataW H→Nat
 | .lit (.string bytes)=>bytes.length+1
 | .lit _=>1
 | .nil=>1
 | .ptr d=>Jp d+1
 | .slice elems spare=>bulkL elems+bulkL spare+1
 | .agg parts=>bulkL parts+1
 | .iface _ d=>Jp d+1
 | .map entries=>bulkE entries+1
 | .held _=>1
def bulkL {H:Type}:List (DataW H)→Nat
 |[]=>0
 |d::r=>Jp d+bulkL r
def bulkE {H:Type}:List (Lit×DataW H)→Nat
 |[]=>0
 |x::r=>bulk1 x+bulkE r
def bulk1 {H:Type}:Lit×DataW H→Nat
 |(.string bytes,d)=>bytes.length+Jp d+1
 |(_,d)=>Jp d+1
end
def Xh (P:Program):Nat→List Field→Option Nat
 |n,[]=>some n
 |n,f::fs=>if f.offset=n then Xh P (n+P.cellsOf f.type) fs else none
def Env.plain (w:World):Env:=⟨w,fun _=>none,fun _=>0,fun _=>0,fun _=>0,0⟩
theorem xZ {α β:Type}{f:α→Option β}:∀{l:List α} {r:List β},l.mapM f=some r→r.length=l.length∧∀(i:Nat) x,l[i]?=some x→∃y,r[i]?=some y∧f x=some y
 |[],r,h=>by simp at h;subst h;exact⟨rfl,fun i x hx=>by simp at hx⟩
 | a ::l,r,h=>by
   rw[List.mapM_cons] at h
   cases hx:f a with
   |none=>rw[hx] at h;cases h
   | some y=>
     rw[hx] at h
     cases hr:l.mapM f with
     |none=>rw[hr] at h;cases h
     | some r'=>
       rw[hr] at h
       cases h
       obtain⟨h1,h2⟩:=xZ hr
       refine⟨by simp[h1],fun i x hi=>?_⟩
       cases i with
       |zero=>simp at hi;subst hi;exact⟨y,rfl,hx⟩
       |succ i=>simpa using h2 i x (by simpa using hi)
theorem uo {sz:Nat}(hsz:0<sz):∀{L:List (List zc)},(∀l∈L,l.length=sz)→L.flatten.length=L.length*sz∧∀(k:Nat) A,L.flatten[k]?=some A→∃l,L[k / sz]?=some l∧l[k%sz]?=some A
 |[],_=>⟨by simp,fun k A h=>by simp at h⟩
 | l ::L,hl=>by
   obtain⟨h1,h2⟩:=uo hsz (L:=L) fun x hx=>hl x (.tail _ hx)
   have hl0:=hl l (.head _)
   refine⟨by simp[h1,hl0,Nat.add_mul,Nat.add_comm],fun k A h=>?_⟩
   rw[List.flatten_cons,List.getElem?_append] at h
   split at h
   · rename_i hlt
     rw[hl0] at hlt
     rw[Nat.div_eq_of_lt hlt,Nat.mod_eq_of_lt hlt]
     exact⟨l,rfl,h⟩
   · rename_i hge
     rw[hl0] at hge h
     obtain⟨l',h3,h4⟩:=h2 _ A h
     have hk:k=(k - sz)+sz:=by omega
     rw[hk,Nat.add_div_right _ hsz,Nat.add_mod_right]
     exact⟨l',by simpa using h3,h4⟩
section
variable {H:Type} {enc:TypeId×Value→H} {P:Program} {w:World}
def Cells (w:World)(As:List zc)(cs:List Value):Prop:=As.length=cs.length∧∀(k:Nat) A v,As[k]?=some A→cs[k]?=some v→VRel (Env.plain w) none A v
theorem qw {A:zc}{v:Value}(h:VRel (Env.plain w) none A v):Cells w [A] [v]:=⟨rfl,fun k B u hB hu=>by
 cases k with
 |zero=>cases hB;cases hu;exact h
 |succ k=>simp at hB⟩
theorem zcR (cs:List Value):Cells w (List.replicate cs.length .dead) cs:=⟨by simp,fun k A v hA _=>by
 rw[List.getElem?_replicate] at hA
 split at hA
 · cases hA;exact .dead _ _
 · cases hA⟩
structure Plain (P:Program)(S:List TypeId):Prop where
 at_:∀t∈S,jE P S t
 tile:∀t∈S,∀fs,P.underlying t=some (.struct fs)→Xh P 0 fs.toList=some (P.cellsOf t)
theorem zff (l:List (DataW H)):bulkL l=(l.map Jp).sum:=by
 induction l with
 |nil=>rfl
 |cons x l ih=>simp[bulkL,ih]
theorem wW {R:TypeId→List zc→Nat→Prop}:∀(fs:List Field) (n m:Nat) (cs:List Value) (xs:List (DataW H×List MemPlace)),Xh P n fs=some m→m=cs.length→n≤cs.length→
    (∀(i:Nat) f y,fs[i]?=some f→xs[i]?=some y→∃As,R f.type As (Jp y.1)∧Cells w As ((cs.drop f.offset).take (P.cellsOf f.type)))→xs.length=fs.length→
    ∃L:List (List zc×Nat),L.length=fs.length∧(∀(i:Nat) f x,fs[i]?=some f→L[i]?=some x→R f.type x.1 x.2)∧(L.map (·.2)).sum=bulkL (xs.map (·.1))∧Cells w (L.map (·.1)).flatten (cs.drop n)
  | [],n,m,cs,xs,ht,hm,_,_,hl=>by
    cases ht
    have:xs=[]:=List.eq_nil_of_length_eq_zero (by simpa using hl)
    subst this
    subst hm
    exact⟨[],rfl,fun i f x h=>by simp at h,rfl,by simp[Cells]⟩
  |f::fs,n,m,cs,[],ht,hm,hn,h,hl=>by simp at hl
  | f ::fs,n,m,cs,y::xs,ht,hm,hn,h,hl=>by
    simp only[Xh] at ht
    split at ht
    · rename_i ho
      obtain⟨As,hR,hc⟩:=h 0 f y rfl rfl
      rw[ho] at hc
      have hle:n+P.cellsOf f.type≤cs.length:=by
        have key:∀(fs:List Field) (a m:Nat),Xh P a fs=some m→a≤m:=by
          intro fs
          induction fs with
          |nil=>intro a m h;cases h;exact Nat.le_refl _
          | cons g gs ih=>
            intro a m h
            simp only[Xh] at h
            split at h
            · have:=ih _ _ h;omega
            · cases h
        have:=key _ _ _ ht
        omega
      obtain⟨L,h1,h2,h3,h4⟩:=wW fs (n+P.cellsOf f.type) m cs xs ht hm hle (fun i g z hg hz=>h (i+1) g z (by simpa using hg) (by simpa using hz)) (by simpa using hl)
      refine⟨(As,Jp y.1)::L,by simp[h1],fun i g x hg hx=>?_,by simp[bulkL,h3],?_⟩
      · cases i with
        |zero=>simp at hg hx;subst hg;subst hx;exact hR
        |succ i=>exact h2 i g x (by simpa using hg) (by simpa using hx)
      · have hlen:((cs.drop n).take (P.cellsOf f.type)).length=P.cellsOf f.type:=by simp;omega
        have hA:As.length=P.cellsOf f.type:=hc.1.trans hlen
        refine⟨?_,fun k A v hA' hv=>?_⟩
        · have:=h4.1
          simp only[List.map_cons,List.flatten_cons,List.length_append,List.length_drop] at this⊢
          omega
        · simp only[List.map_cons,List.flatten_cons] at hA'
          rw[List.getElem?_append] at hA'
          split at hA'
          · rename_i hlt
            refine hc.2 k A v hA' ?_
            rw[List.getElem?_take_of_lt (by omega)]
            exact hv
          · rename_i hge
            refine h4.2 _ A v hA' ?_
            rw[List.getElem?_drop] at hv⊢
            rw[←hv]
            congr 1
            omega
    · cases ht
theorem YS {S :List TypeId}(hP:Plain P S):∀(n:Nat) (t:TypeId) (cs:List Value) (x:DataW H×List MemPlace),t∈S→DataW.trod enc P w 0 (fun _=>true) true n t cs=some x→∃As,Sh P t As (Jp x.1)∧Cells w As cs
 |0,_,_,_,_,h=>by simp[DataW.trod] at h
 | n + 1, t, cs,x,ht,h=>by
   have hS:=hP.at_ t ht
   rw[DataW.trod_step] at h
   unfold DataW.trodStep at h
   have other:(∀k,P.underlying t≠some (.int k))→P.underlying t≠some .bool→P.underlying t≠some .string→(∀e,P.underlying t≠some (.slice e))→(∀fs,P.underlying t≠some (.struct fs))→∃As,Sh P t As (Jp x.1)∧Cells w As cs:=
    fun h1 h2 h3 h4 h5=>⟨_,.other t cs.length _ h1 h2 h3 h4 h5,zcR cs⟩
   split at h
   case h_1 b hu=>cases h;exact⟨_,.bool t b hu,qw (.sc _ _)⟩
   case h_2 k k' m hu=>
    split at h
    · rename_i hc
      obtain⟨rfl,hw⟩:=hc
      cases h
      exact⟨_,.int t _ m hu hw,qw (.sc _ _)⟩
    · cases h
   case h_4 s hu=>
    split at h
    · cases h
      refine⟨_,?_,qw (.sc _ _)⟩
      have e:Jp (DataW.lit (H:=H) (.string s.data.toList))=s.size+1:=by
       simp only[Jp]
       rw[Array.length_toList]
       rfl
      show Sh P t _ (Jp (DataW.lit (H:=H) (.string s.data.toList)))
      rw[e]
      exact .string t s hu
    · cases h
   case h_7 hu=> 
    rename_i e
    cases h
    have:=Sh.slice (P:=P) t e [] 0 hu (fun x hx=>by cases hx) (fun x hx=>by cases hx)
    exact⟨_,by simpa[Jp] using this,qw (.immNil _ _ _)⟩
   case h_8 e a len cap hu=>
    simp only at h
    split at h
    · rename_i hcond
      obtain⟨_,hlc,_⟩:=hcond
      unfold jE at hS
      rw[hu] at hS
      obtain⟨hsz,heS⟩:=hS
      simp only[if_true,Option.map_eq_some_iff,Option.bind_eq_some_iff] at h
      obtain⟨elems,he,rest,hrest,rfl⟩:=h
      obtain⟨e1,e2⟩:=xZ he
      obtain⟨r1,r2⟩:=xZ hrest
      simp only[List.length_range] at e1 r1
      have one:∀i y,elems[i]?=some y→∃As,Sh P e As (Jp y.1)∧As.length=P.cellsOf e∧∀(k:Nat) A,As[k]?=some A→∃v,w.cell? ((a.add (i*P.cellsOf e)).add k)=some v∧VRel (Env.plain w) none A v:=by
       intro i y hy
       have hi:i<len:=by rw[←e1];exact(List.getElem?_eq_some_iff.1 hy).1
       obtain⟨y',hy',hr⟩:=e2 i i (by simp[hi])
       rw[hy] at hy'
       cases hy'
       simp only[Option.bind_eq_some_iff] at hr
       obtain⟨cs',hc,hr⟩:=hr
       obtain⟨_,hl',hcell⟩:=World.cells?_some hc
       obtain⟨As,hS,hA⟩:=YS hP n _ _ _ heS hr
       refine⟨As,hS,hA.1.trans hl',fun k A hk=>?_⟩
       have hlt:k<cs'.length:=by rw[←hA.1];exact(List.getElem?_eq_some_iff.1 hk).1
       refine⟨cs'[k],?_,hA.2 k A _ hk (List.getElem?_eq_getElem hlt)⟩
       rw[hcell k (by omega)]
       exact List.getElem?_eq_getElem hlt
      have hL:∃L:List (List zc×Nat),L.length=elems.length∧∀(i:Nat) z y,L[i]?=some z→elems[i]?=some y→Sh P e z.1 z.2∧z.2=Jp y.1∧z.1.length=P.cellsOf e∧∀(k:Nat) A,z.1[k]?=some A→∃v,w.cell? ((a.add (i*P.cellsOf e)).add k)=some v∧VRel (Env.plain w) none A v:=by
       have key:∀(l:List (DataW H×List MemPlace)) (o:Nat),(∀i y,l[i]?=some y→elems[o+i]?=some y)→∃L:List (List zc×Nat),L.length=l.length∧∀(i:Nat) z y,L[i]?=some z→l[i]?=some y→Sh P e z.1 z.2∧z.2=Jp y.1∧z.1.length=P.cellsOf e∧∀(k:Nat) A,z.1[k]?=some A→∃v,w.cell? ((a.add ((o+i)*P.cellsOf e)).add k)=some v∧VRel (Env.plain w) none A v:=by
        intro l
        induction l with
        |nil=>intro o _;exact⟨[],rfl,fun i z y h=>by simp at h⟩
        | cons y0 l ih=>
          intro o hl
          obtain⟨L,h1,h2⟩:=ih (o+1) fun i y hy=>by
           have:=hl (i+1) y (by simpa using hy)
           rwa [show o+(i+1)=o+1+i by omega] at this
          obtain⟨As,h3,h4,h5⟩:=one (o+0) y0 (hl 0 y0 rfl)
          refine⟨(As,Jp y0.1)::L,by simp[h1],fun i z y hz hy=>?_⟩
          cases i with
          |zero=>simp at hz hy;subst hz;subst hy;exact⟨h3,rfl,h4,h5⟩
          | succ i=>
            have:=h2 i z y (by simpa using hz) (by simpa using hy)
            rwa [show o+1+i=o+(i+1) by omega] at this
       have:=key elems 0 fun i y hy=>by rw[Nat.zero_add];exact hy
       simpa using this
      obtain⟨L,hl1,hl2⟩:=hL
      have hget:∀z∈L,∃i y,L[i]?=some z∧elems[i]?=some y:=fun z hz=>by
       obtain⟨i,hi⟩:=List.mem_iff_getElem?.1 hz
       have hlt:i<elems.length:=by rw[←hl1];exact(List.getElem?_eq_some_iff.1 hi).1
       exact⟨i,_,hi,List.getElem?_eq_getElem hlt⟩
      have hlen:∀z∈L,z.1.length=P.cellsOf e:=fun z hz=>by
       obtain⟨i,y,h1,h2⟩:=hget z hz
       exact(hl2 i z y h1 h2).2.2.1
      have hsum:(L.map (·.2)).sum=bulkL (elems.map (·.1)):=by
       rw[zff]
       congr 1
       apply List.ext_getElem?
       intro i
       rw[List.getElem?_map,List.getElem?_map,List.getElem?_map]
       cases hz:L[i]? with
       | none=>
         have:elems[i]?=none:=by rw[List.getElem?_eq_none_iff] at hz⊢;omega
         rw[this];rfl
       | some z=>
         have hlt:i<elems.length:=by rw[←hl1];exact(List.getElem?_eq_some_iff.1 hz).1
         have hy:=List.getElem?_eq_getElem hlt
         rw[hy]
         simp[(hl2 i z _ hz hy).2.1]
      have hS:=Sh.slice (P:=P) t e L (bulkL (rest.map (·.1))) hu hlen (fun z hz=>by
       obtain⟨i,y,h1,h2⟩:=hget z hz
       exact(hl2 i z y h1 h2).1)
      rw[hsum] at hS
      refine⟨_,?_,qw (A:= .imm (P.cellsOf e) (L.map (·.1)).flatten) ?_⟩
      · simp only[Jp]
        rwa [show bulkL (elems.map (·.1))+bulkL (rest.map (·.1))+1=1+bulkL (elems.map (·.1))+bulkL (rest.map (·.1)) by omega]
      · by_cases h0:cap=0
        · have:L=[]:=List.eq_nil_of_length_eq_zero (by omega)
          subst this
          have hl0:len=0:=by omega
          subst hl0 h0
          exact .immNil _ _ _
        · 
          have hfirst:∃v,w.cell? a=some v:=by
           have hz:∃y cs',w.cells? 0 (a.add (0*P.cellsOf e)) (P.cellsOf e)=some cs'∧DataW.trod enc P w 0 (fun _=>true) true n e cs'=some y:=by
            by_cases hlen0:len=0
            · subst hlen0
              obtain⟨y,_,hr⟩:=r2 0 0 (by rw[List.getElem?_range (by omega)])
              simp only[Option.bind_eq_some_iff] at hr
              obtain⟨cs',hc,hr⟩:=hr
              exact⟨y,cs',hc,hr⟩
            · obtain⟨y,_,hr⟩:=e2 0 0 (by rw[List.getElem?_range (by omega)])
              simp only[Option.bind_eq_some_iff] at hr
              obtain⟨cs',hc,hr⟩:=hr
              exact⟨y,cs',hc,hr⟩
           obtain⟨y,cs',hc,_⟩:=hz
           obtain⟨_,hl',hcell⟩:=World.cells?_some hc
           have hlt:0<cs'.length:=by omega
           refine⟨cs'[0],?_⟩
           have:=hcell 0 hsz
           rw[List.getElem?_eq_getElem hlt] at this
           simpa[Addr.add] using this
          obtain⟨v0,hv0⟩:=hfirst
          obtain⟨b,o,sp⟩:=a
          have hspn:sp=none:=by
           cases sp with
           |none=>rfl
           | some s=>
             simp only[World.cell?] at hv0
             split at hv0
             · simp at hv0
             · cases hv0
          subst hspn
          have hb:b<w.heap.size:=World.block_lt_of_cell? w _ hv0
          obtain⟨f1,f2⟩:=uo hsz (L:=L.map (·.1)) (fun l hl=>by
           obtain⟨z,hz,rfl⟩:=List.mem_map.1 hl
           exact hlen z hz)
          have hcell:∀(k:Nat) A,((L.map (·.1)).flatten)[k]?=some A→∃v,w.cell? ⟨b,o+k,none⟩=some v∧VRel (Env.plain w) none A v:=fun k A hk=>by
           obtain⟨l,h1,h2⟩:=f2 k A hk
           rw[List.getElem?_map] at h1
           obtain⟨z,hz,rfl⟩:=Option.map_eq_some_iff.1 h1
           have hlt:k / P.cellsOf e<elems.length:=by rw[←hl1];exact(List.getElem?_eq_some_iff.1 hz).1
           obtain⟨v,h3,h4⟩:=(hl2 _ z _ hz (List.getElem?_eq_getElem hlt)).2.2.2 _ A h2
           refine⟨v,?_,h4⟩
           rw[Addr.add_lit,Addr.add_lit] at h3
           have hk':o+k / P.cellsOf e*P.cellsOf e+k%P.cellsOf e=o+k:=by rw[Nat.add_assoc,Nat.mul_comm];congr 1;exact Nat.div_add_mod k _
           rwa [hk'] at h3
          refine .imm none _ _ b o len cap (fun k=>(w.cell? ⟨b,o+k,none⟩).getD undef) rfl hb ⟨hsz,by rw[f1];simp[hl1,e1]⟩ hlc (fun k A hk=>?_) fun k A hk=>?_
          · obtain⟨v,h1,_⟩:=hcell k A hk
            show w.cell? _=some ((w.cell? _).getD undef)
            rw[h1];rfl
          · obtain⟨v,h1,h2⟩:=hcell k A hk
            show VRel _ none A ((w.cell? _).getD undef)
            rw[h1];exact h2
    · cases h
   case h_9 fs hu=>
    split at h
    · rename_i hl
      simp only[Option.map_eq_some_iff] at h
      obtain⟨xs,hx,rfl⟩:=h
      obtain⟨e1,e2⟩:=xZ hx
      obtain⟨L,h1,h2,h3,h4⟩:=wW (R:=Sh P) fs.toList 0 _ _ xs (hP.tile t ht fs hu) hl.symm (Nat.zero_le _) (fun i f y hf hy=>by
       obtain⟨y',hy',hr⟩:=e2 i f hf
       rw[hy] at hy'
       cases hy'
       exact YS hP n _ _ _ (by unfold jE at hS;rw[hu] at hS;exact hS f (List.mem_of_getElem? hf)) hr) e1
      refine⟨(L.map (·.1)).flatten,?_,by simpa using h4⟩
      have:=Sh.struct (P:=P) t fs L hu (by simpa using h1) (fun i f x hf hx=>h2 i f x (by simpa using hf) hx)
      rw[h3] at this
      simp only[Jp]
      rwa [Nat.add_comm]
    · cases h
   all_goals first
    |cases h;done
    |exact other (by simp[*]) (by simp[*]) (by simp[*]) (by simp[*]) (by simp[*])
end
end Go.Ga

namespace Go.Ga
open Go Go.ChangeShapes Go.WideShapes Go.RowKit
def zlo (P:Program)(S:List TypeId):Bool:=
 S.all fun t=>match P.underlying t with
  |some .bool=>true
  |some (.int _)=>true
  |some .string=>true
  |some (.slice e)=>decide (0<P.cellsOf e)&&S.contains e
  |some (.struct fs)=>fs.toList.all (fun f=>S.contains f.type)&&(Xh P 0 fs.toList==some (P.cellsOf t))
  |_=>false
theorem zga {P:Program}{S:List TypeId}(h:zlo P S=true):Plain P S:=by
 refine⟨fun t ht=>?_,fun t ht fs hu=>?_⟩
 · have:=List.all_eq_true.1 h t ht
   unfold jE
   cases hu:P.underlying t with
   |none=>rw[hu] at this;cases this
   | some d=>
     rw[hu] at this
     cases d with
     |bool=>trivial
     |int k=>trivial
     |string=>trivial
     | slice e=>
       simp only[Bool.and_eq_true,decide_eq_true_eq,List.contains_iff_mem] at this
       exact this
     | struct fs=>
       simp only[Bool.and_eq_true,List.all_eq_true,List.contains_iff_mem] at this
       exact this.1
     |_=>cases this
 · have:=List.all_eq_true.1 h t ht
   rw[hu] at this
   simp only[Bool.and_eq_true,beq_iff_eq] at this
   exact this.2
section
variable {H:Type} {enc:TypeId×Value→H} {P:Program}
theorem zgF {W W':World}(hO:Old W W')(hos:W'.os=W.os)(hout:W'.output=W.output)(may:MemPlace→Prop):W.keptBut W' may:=by
 refine⟨hos,hout,fun i hi=>?_⟩
 rw[hO i hi]
 cases W.heap[i]? with
 |none=>rfl
 | some o=>cases o with
   |cells c t fr=>exact⟨rfl,rfl,rfl,fun _ _=>rfl⟩
   |map es clock=>exact .inr ⟨rfl,rfl⟩
   |_=>rfl
theorem QG {w:World}{sp:Nat→Bool}{gs:List (DataW H)}{ps:List MemPlace}(h:DataW.TrodVars enc P w sp [] gs ps):gs=[]∧ps=[]:=by
 cases gs with
 |nil=>exact⟨rfl,h⟩
 |cons=>cases h
theorem zey {S:List TypeId}(hS:∀t∈S,jE P S t){f:Func}{s:ChangeSpec}{W W':World}{args:Array Value}{ds gs:List (DataW H)}{before:List MemPlace}(hW:DataW.Whole enc P f.params.toList s.vars false W args.toList ds gs before)
    (hts:∀t∈f.params.toList,t∈S) (hv:s.vars=[]) (hres:(s.fn H (ds++gs)).results=[.lit (.bool true)]) (harg:(s.fn H (ds++gs)).args=ds) (hvr:(s.fn H (ds++gs)).vars=[]) {tb:TypeId} (hrt:f.resultTypes= #[tb]) (hb:P.underlying tb=some .bool) (hO:Old W W') (hos:W'.os=W.os) (hout:W'.output=W.output):
    s.post enc P f false true false false W args (.bool true) W':=by
  have hW':=hW
  obtain⟨p,q,hA,hV,hpq,hz,hn⟩:=hW
  rw[hv] at hV
  obtain⟨rfl,rfl⟩:=QG hV
  rw[List.append_nil] at hpq
  subst hpq
  have hres':∀(b:Nat) (sp:Nat→Bool) (hd:Bool),DataW.TrodAll enc P W' b sp hd f.resultTypes.toList ((Value.bool true).resultList f.resultTypes.size) (s.fn H (ds++[])).results []:=fun b sp hd=>by
    rw[hres,hrt]
    exact⟨[],[],⟨1,by simp[DataW.trod,hb,Value.cells]⟩,rfl,rfl⟩
  refine⟨ds,[],before,[],before,[],hW',hres' _ _ _,?_,?_,zgF hO hos hout _,fun h=>by cases h⟩
  · rw[harg]
    exact wA hS hO hts hA fun x hx=>by simpa using hW'.lt x hx
  · rw[hvr,hv];rfl
def SA (P:Program)(t:TypeId)(A:zc)(b:Nat):Prop:=
 ((∃fs,P.underlying t=some (.struct fs))∧∃As,A= .agg As∧Sh P t As b)∨((∀fs,P.underlying t≠some (.struct fs))∧Sh P t [A] b)
inductive SAs (P:Program):List TypeId→List zc→Nat→Prop
 |nil:SAs P [] [] 0
 |cons (t:TypeId) (A:zc) (b:Nat) (ts:List TypeId) (As:List zc) (c:Nat) (h:SA P t A b) (hr:SAs P ts As c):SAs P (t::ts) (A::As) (b+c)
theorem zb0 {S:List TypeId}(hP:Plain P S){w:World}{base:Nat}{t:TypeId}{v:Value}{d:DataW H}{ps:List MemPlace}(hok:Value.okWide P w .any base t v)(ht:t∈S)(h:DataW.Trod enc P w 0 (fun _=>true) true t v d ps):
    ∃A,SA P t A (Jp d)∧VRel (Env.plain w) none A v:=by
  obtain⟨fuel,h⟩:=h
  obtain⟨As,hS,hl,hc⟩:=YS hP fuel t _ _ ht h
  have hna:∀n e,P.underlying t≠some (.array n e):=fun n e hu=>by
    have:=hP.at_ t ht
    unfold jE at this
    rw[hu] at this
    exact this
  by_cases hs:∃fs,P.underlying t=some (.struct fs)
  · obtain⟨fs,hs⟩:=hs
    unfold Value.okWide at hok
    rw[hs] at hok
    obtain⟨cs,rfl,_,_⟩:=hok
    refine⟨.agg As,.inl ⟨⟨fs,hs⟩,As,rfl,hS⟩,.agg none As cs (by simpa[Value.cells] using hl.symm) fun k A v hA hv=>hc k A v hA (by simpa[Value.cells] using hv)⟩
  · have hns:∀fs,P.underlying t≠some (.struct fs):=fun fs e=>hs ⟨fs,e⟩
    have hv:v.cells= #[v]:=by
      cases v with
      | agg cs=>
        exfalso
        unfold Value.okWide at hok
        cases hu:P.underlying t with
        | none=>
          rw[hu] at hok
          simp[Cell.okWide,Cell.ok,hu] at hok
        | some dsc=>
          rw[hu] at hok
          cases dsc with
          |struct fs=>exact hns fs hu
          |array n e=>exact hna n e hu
          |_=>simp[Cell.okWide,Cell.ok,hu] at hok
      |_=>rfl
    rw[hv] at hl hc
    have:∃A,As=[A]:=by
      match As,hl with
      |[A],_=>exact⟨A,rfl⟩
    obtain⟨A,rfl⟩:=this
    exact⟨A,.inr ⟨hns,hS⟩,hc 0 A v rfl rfl⟩
theorem yl {S:List TypeId}(hP:Plain P S){w:World}{base:Nat}:∀{ts:List TypeId} {vs:List Value} {ds:List (DataW H)} {ps:List MemPlace},(∀(j:Nat) t v,ts[j]?=some t→vs[j]?=some v→Value.okWide P w .any base t v)→(∀t∈ts,t∈S)→
    DataW.TrodAll enc P w 0 (fun _=>true) true ts vs ds ps→∃As,SAs P ts As (bulkL ds)∧As.length=vs.length∧∀(k:Nat) A v,As[k]?=some A→vs[k]?=some v→VRel (Env.plain w) none A v
  |[],[],[],ps,_,_,_=>⟨[],.nil,rfl,fun k A v h=>by simp at h⟩
  | t::ts,v::vs,d::ds,ps,hok,hna,⟨p,q,h1,h2,_⟩=>by
    obtain⟨A,hA,hv⟩:=zb0 hP (hok 0 t v rfl rfl) (hna t (.head _)) h1
    obtain⟨As,hAs,hl,hvs⟩:=yl hP (fun j t' v' ht hv'=>hok (j+1) t' v' (by simpa using ht) (by simpa using hv')) (fun t ht=>hna t (.tail _ ht)) h2
    refine⟨A::As,.cons t A _ ts As _ hA hAs,by simp[hl],fun k B u hB hu=>?_⟩
    cases k with
    |zero=>simp at hB hu;subst hB;subst hu;exact hv
    |succ k=>exact hvs k B u (by simpa using hB) (by simpa using hu)
theorem vo {S:List TypeId}(hP:Plain P S){f:Nat}{fn:Func}{s:ChangeSpec}{B:Nat}{W:World}{base:Nat}{args:Array Value}{ds gs:List (DataW H)}{before:List MemPlace}
    (hval:∀(j:Nat) t v,fn.params[j]?=some t→args[j]?=some v→Value.okWide P W .any base t v) (hna:∀t∈fn.params.toList,t∈S)
    (hW:DataW.Whole enc P fn.params.toList s.vars false W args.toList ds gs before) (hv:s.vars=[]) (hres:(s.fn H (ds++gs)).results=[.lit (.bool true)]) (harg:(s.fn H (ds++gs)).args=ds) (hvr:(s.fn H (ds++gs)).vars=[])
    {tb:TypeId} (hrt:fn.resultTypes= #[tb]) (hb:P.underlying tb=some .bool) (hbk:bulkL (ds++gs)≤B)
    (H0:∀As b,SAs P fn.params.toList As b→b≤B→zo P [] f As [] fun r _=>r= .sc (.bool true)):
    Calls P f args W fun e W'=>∃v,e= .returned v∧s.post enc P fn false true false false W args v W':=by
  have hW':=hW
  obtain⟨p,q,hA,hV,hpq,hz,hn⟩:=hW
  rw[hv] at hV
  obtain⟨rfl,rfl⟩:=QG hV
  obtain⟨As,hAs,hl,hvs⟩:=yl hP (fun j t v ht hv'=>hval j t v (by simpa using ht) (by simpa using hv')) hna hA
  rw[List.append_nil] at hbk
  have hC:=(H0 As _ hAs hbk).2 (Env.plain W) args ⟨rfl,fun b q h=>(by cases h),fun id cs h=>(by simp at h)⟩ (by simpa using hl.symm) fun k A v hA' hv'=>(hvs k A v hA' (by simpa using hv')).any rfl _
  refine hC.mono fun e W' ⟨v,r,h',E',he,hw,_,hr,hp,hq⟩=>?_
  subst he hw hq
  cases hr
  refine⟨_,rfl,zey hP.at_ hW' hna hv hres harg hvr hrt hb (fun b hlt=>(hp.old b rfl hlt).2) hp.os hp.output⟩
end
end Go.Ga

namespace Go.Ga
open Go
def gL (n:Nat)(j:Nat):Option Nat:=if j<n then some j else none
def Jj (n:Nat)(O:Nat→Option (List Nat))(b:Nat):Option (List Nat):=
 match O b with
 |some (1::j::r)=>if j<n then some (1::j::r) else none
 |x=>x
def Env.trim (E:Env)(n:Nat):Env:={E with O:=Jj n E.O,n:=n}
theorem zo.trim {P:Program}{L:List (List Nat)}{f:Nat}{args:List zc}{h:Heap}{Q:zc→Heap→Prop}(H:zo P L f args h fun r h'=>h.length≤h'.length∧Q (r.ren (gL h.length)) (QQ (gL h.length) (h'.take h.length))):zo P L f args h Q:=by
 refine⟨H.1,fun E vs h1 h2 h3=>(H.2 E vs h1 h2 h3).mono fun e w' ⟨v,r,h',E',he,hw,HR,hr,hP,hle,hQ⟩=>?_⟩
 have hg:YP E' (E'.trim h.length) (gL h.length):=fun id j hj hid=>by
  unfold gL at hj
  split at hj
  · cases hj;rename_i hlt;exact⟨hlt,rfl,rfl,rfl⟩
  · cases hj
 have hN:∀b,E'.O b=none→b<E'.w.heap.size→(E'.trim h.length).O b=none∧(E'.trim h.length).w.heap[b]?=E'.w.heap[b]?:=fun b hb _=>⟨by show Jj _ _ b=none;simp[Jj,hb],rfl⟩
 have h3':∀b s,E'.O b=some ([3]++s)→(E'.trim h.length).O b=some ([3]++s):=fun b s hb=>by show Jj _ _ b=_;simp[Jj,hb]
 have h1':∀id b s,id<h.length→E'.O b=some ([1,id]++s)→(E'.trim h.length).O b=some ([1,id]++s):=fun id b s hid hb=>by show Jj _ _ b=_;simp[Jj,hb,hid]
 refine⟨v,_,_,E'.trim h.length,he,hw,?_,?_,?_,hQ⟩
 · refine⟨?_,fun b q hb=>?_,fun id cs hcs=>?_⟩
   · show h.length=(QQ _ _).length
     rw[wL,List.length_take];omega
   · have hb':Jj h.length E'.O b=some q:=hb
     cases hO:E'.O b with
     |none=>simp[Jj,hO] at hb'
     |some ℓ=>exact HR.lim b ℓ hO
   · obtain⟨cs0,h0,rfl⟩:=wM _ _ _ hcs
     rw[List.getElem?_take] at h0
     split at h0
     · rename_i hid
       obtain⟨hO,arr,T,f,hb,ha,hl,hf,hv⟩:=HR.objs id cs0 h0
       refine⟨(h1' id _ [] hid (by simpa using hO):(E'.trim h.length).O (E'.ρ id)=some ([1,id]++[])),arr,T,f,hb,ha,by rw[zG];exact hl,fun k A hk=>?_,fun k A hk=>?_⟩
       · obtain⟨B,hB,_⟩:=zz hk
         exact hf k B hB
       · obtain⟨B,hB,rfl⟩:=zz hk
         exact(hv k B hB).renK hg (Nat.le_refl _) hN (fun b s hb=>⟨h1' id b s hid hb,rfl⟩)
     · cases h0
 · have:=VRel.renK (p:=[3]) (q:=[3]) (r:=[]) hg (Nat.le_refl _) hN (fun b s hb=>⟨h3' b s hb,rfl⟩) (by simpa using hr)
   simpa using this
 · refine⟨hP.size,hP.os,hP.tape,hP.output,fun b hb hs=>?_,fun b r hb=>?_,fun b r hb=>?_,⟨by rw[h1.num];exact Nat.le_refl _,hP.ids.2⟩,fun b r hr hb hs=>?_⟩
   · obtain⟨x1,x2⟩:=hP.old b hb hs
     exact⟨by show Jj _ _ b=none;simp[Jj,x1],x2⟩
   · obtain⟨x1,x2⟩:=hP.far b r hb
     exact⟨by show Jj _ _ b=_;simp[Jj,x1],x2⟩
   · refine hP.farB b r ?_
     have hb':Jj h.length E'.O b=some (2::r):=hb
     unfold Jj at hb'
     split at hb'
     · split at hb'<;>cases hb'
     · exact hb'
   · obtain⟨x1,x2⟩:=hP.keep b r hr hb hs
     refine⟨?_,x2⟩
     rcases x1 with x1|x1
     · show Jj _ _ b=_∨Jj _ _ b=_
       unfold Jj
       rw[x1]
       split
       · rename_i heq;cases heq;split
         · exact .inl rfl
         · exact .inr rfl
       · exact .inl rfl
     · right;show Jj _ _ b=none;simp[Jj,x1]
theorem zo.less {P:Program}{L L':List (List Nat)}{f:Nat}{args:List zc}{h:Heap}{Q:zc→Heap→Prop}(H:zo P L f args h Q)(hL:∀r∈L',r∈L):zo P L' f args h Q:=
 ⟨H.1,fun E vs h1 h2 h3=>(H.2 E vs h1 h2 h3).mono fun _ _ ⟨v,r,h',E',a,b,c,d,e,q⟩=>⟨v,r,h',E',a,b,c,d,⟨e.size,e.os,e.tape,e.output,e.old,e.far,e.farB,e.ids,fun b r hr=>e.keep b r ⟨hL r hr.1,hr.2⟩⟩,q⟩⟩
theorem zo.nil {P:Program}{L:List (List Nat)}{f:Nat}{args:List zc}{h:Heap}{Q:zc→Heap→Prop}(H:zo P L f args h Q):zo P [] f args h Q:=H.less fun r hr=>by cases hr
attribute [go_sem] gL
end Go.Ga

namespace Go.Ga
open Go
def ZD {α:Type}(f:α→List zc):List α→List zc
 |[]=>[]
 |x::l=>f x++ZD f l
section
variable {α:Type} {f:α→List zc} {sz:Nat}
theorem WH (hf:∀x,(f x).length=sz):∀l:List α,(ZD f l).length=l.length*sz
 |[]=>by simp[ZD]
 |x::l=>by simp only[ZD,List.length_append,hf,WH hf l,List.length_cons,Nat.add_mul];omega
theorem packs_append :∀l m:List α,ZD f (l++m)=ZD f l++ZD f m
 |[],m=>rfl
 |x::l,m=>by simp only[List.cons_append,ZD,packs_append l m,List.append_assoc]
theorem qp (hf:∀x,(f x).length=sz):∀(l:List α) (k:Nat),(ZD f l).drop (k*sz)=ZD f (l.drop k)
 |[],k=>by simp[ZD]
 |x::l,0=>by simp
 | x::l,k+1=>by
   simp only[ZD,List.drop_succ_cons]
   rw[←qp hf l k,Nat.add_mul,Nat.one_mul,List.drop_append,hf]
   rw[List.drop_of_length_le (by rw[hf];omega),List.nil_append]
   congr 1;omega
theorem Y4 (hf:∀x,(f x).length=sz):∀(l:List α) (k:Nat),(ZD f l).take (k*sz)=ZD f (l.take k)
 |[],k=>by simp[ZD]
 |x::l,0=>by simp[ZD]
 | x::l,k+1=>by
   simp only[ZD,List.take_succ_cons]
   rw[←Y4 hf l k,Nat.add_mul,Nat.one_mul,List.take_append,hf]
   rw[List.take_of_length_le (by rw[hf];omega)]
   congr 2;omega
theorem vX (hf:∀x,(f x).length=sz){l:List α}{k:Nat}{x:α}(h:l[k]?=some x)(r:Nat)(hr:r<sz):(ZD f l)[k*sz+r]?=(f x)[r]?:=by
 rw[←List.getElem?_drop,qp hf]
 have hlt:k<l.length:=(List.getElem?_eq_some_iff.1 h).1
 rw[List.drop_eq_getElem_cons hlt]
 have hx:l[k]=x:=by rw[List.getElem?_eq_getElem hlt] at h;exact Option.some.inj h
 rw[hx]
 simp only[ZD]
 rw[List.getElem?_append_left (by rw[hf];exact hr)]
theorem gt (hf:∀x,(f x).length=sz){l:List α}{k:Nat}{x:α}(h:l[k]?=some x):((ZD f l).drop (k*sz)).take sz=f x:=by
 rw[qp hf]
 have hlt:k<l.length:=(List.getElem?_eq_some_iff.1 h).1
 rw[List.drop_eq_getElem_cons hlt]
 have hx:l[k]=x:=by rw[List.getElem?_eq_getElem hlt] at h;exact Option.some.inj h
 rw[hx]
 simp only[ZD]
 rw[List.take_append_of_le_length (by rw[hf];exact Nat.le_refl _),List.take_of_length_le (by rw[hf];exact Nat.le_refl _)]
theorem zeB (hf:∀x,(f x).length=sz){l:List α}{k:Nat}(h:k<l.length)(x:α):(ZD f l).take (k*sz)++f x++(ZD f l).drop (k*sz+sz)=ZD f (l.set k x):=by
 have e:k*sz+sz=(k+1)*sz:=by rw[Nat.add_mul,Nat.one_mul]
 rw[e,qp hf,Y4 hf,List.set_eq_take_append_cons_drop,if_pos h,packs_append]
 simp only[ZD,List.append_assoc]
theorem yC (h:∀x,zc.plainL (f x)=true):∀l:List α,zc.plainL (ZD f l)=true
 |[]=>rfl
 | x::l=>by
   have app:∀a b:List zc,zc.plainL a=true→zc.plainL b=true→zc.plainL (a++b)=true:=fun a b ha hb=>by
    induction a with
    |nil=>exact hb
    |cons y a ih=>simp only[zc.plainL,Bool.and_eq_true] at ha;simp only[List.cons_append,zc.plainL,ha.1,ih ha.2,Bool.and_self]
   exact app _ _ (h x) (yC h l)
theorem Y5 (h:∀x,zc.flatL (f x)=true):∀l:List α,zc.flatL (ZD f l)=true
 |[]=>rfl
 | x::l=>by
   have app:∀a b:List zc,zc.flatL a=true→zc.flatL b=true→zc.flatL (a++b)=true:=fun a b ha hb=>by
    induction a with
    |nil=>exact hb
    |cons y a ih=>simp only[zc.flatL,Bool.and_eq_true] at ha;simp only[List.cons_append,zc.flatL,ha.1,ih ha.2,Bool.and_self]
   exact app _ _ (h x) (Y5 h l)
theorem QU (h:∀x,zc.cellOkL (f x)=true):∀l:List α,zc.cellOkL (ZD f l)=true
 |[]=>rfl
 | x::l=>by
   have app:∀a b:List zc,zc.cellOkL a=true→zc.cellOkL b=true→zc.cellOkL (a++b)=true:=fun a b ha hb=>by
    induction a with
    |nil=>exact hb
    |cons y a ih=>simp only[zc.cellOkL,Bool.and_eq_true] at ha;simp only[List.cons_append,zc.cellOkL,ha.1,ih ha.2,Bool.and_self]
   exact app _ _ (h x) (QU h l)
end
def two (x:Int×Int):List zc:=[.sc (.int .i64 x.1),.sc (.int .i64 x.2)]
theorem QF (x:Int×Int):(two x).length=2:=rfl
def tri (x:Int×Int×Int):List zc:=[.sc (.int .i64 x.1),.sc (.int .i64 x.2.1),.sc (.int .i64 x.2.2)]
theorem zh4 (x:Int×Int×Int):(tri x).length=3:=rfl
abbrev zY (l:List (Int×Int)):List zc:=ZD two l
abbrev vi (l:List (Int×Int×Int)):List zc:=ZD tri l
theorem ZI (l:List (Int×Int)):(zY l).length=l.length*2:=WH QF l
theorem KW (l:List (Int×Int×Int)):(vi l).length=l.length*3:=WH zh4 l
theorem YR (l:List (Int×Int)):zc.plainL (zY l)=true:=yC (fun _=>rfl) l
theorem YT (l:List (Int×Int×Int)):zc.plainL (vi l)=true:=yC (fun _=>rfl) l
theorem zd1 (l:List (Int×Int)):zc.flatL (zY l)=true:=Y5 (fun _=>rfl) l
theorem zd7 (l:List (Int×Int×Int)):zc.flatL (vi l)=true:=Y5 (fun _=>rfl) l
theorem qF (l:List (Int×Int)):zc.cellOkL (zY l)=true:=QU (fun _=>rfl) l
theorem KZ (l:List (Int×Int×Int)):zc.cellOkL (vi l)=true:=QU (fun _=>rfl) l
theorem YF (l:List (Int×Int)):zc.copyableL (zY l)=true:=plain_copyableL _ (YR l)
theorem YG (l:List (Int×Int×Int)):zc.copyableL (vi l)=true:=plain_copyableL _ (YT l)
theorem xu (l:List (Int×Int)):zc.freezeL (zY l)=zY l:=copyable_freezeL _ (YF l)
theorem KX (l:List (Int×Int×Int)):zc.freezeL (vi l)=vi l:=copyable_freezeL _ (YG l)
theorem vG (l:List (Int×Int)):zc.ids0L (zY l)=true:=plain_ids0L _ (YR l)
theorem vJ (l:List (Int×Int×Int)):zc.ids0L (vi l)=true:=plain_ids0L _ (YT l)
theorem zfv (g:Nat→Option Nat)(l:List (Int×Int)):zc.renL g (zY l)=zY l:=ids0_renL g _ (vG l)
theorem zfy (g:Nat→Option Nat)(l:List (Int×Int×Int)):zc.renL g (vi l)=vi l:=ids0_renL g _ (vJ l)
theorem KT {l:List (Int×Int)}{k:Nat}{x:Int×Int}(h:l[k]?=some x):(zY l)[k*2]?=some (.sc (.int .i64 x.1)):=vX QF h 0 (by decide)
theorem KS {l:List (Int×Int)}{k:Nat}{x:Int×Int}(h:l[k]?=some x):(zY l)[k*2+1]?=some (.sc (.int .i64 x.2)):=vX QF h 1 (by decide)
theorem zU {l:List (Int×Int)}{k:Nat}{x:Int×Int}(h:l[k]?=some x):((zY l).drop (k*2)).take 2=[.sc (.int .i64 x.1),.sc (.int .i64 x.2)]:=gt QF h
theorem zh2 {l:List (Int×Int)}{k:Nat}(h:k<l.length)(a b:Int):Zp (zY l) (k*2) [.sc (.int .i64 a),.sc (.int .i64 b)]=zY (l.set k (a,b)):=zeB QF h (a,b)
attribute [go_sem] ZI KW YR YT zd1 zd7 qF KZ YF YG xu KX vG vJ zfv zfy
end Go.Ga

namespace Go.Ga
open Go
section
variable {P:Program} {rs:List Nat} {N:Nat} {V:List Nat} {L:List (List Nat)} {x:zC} {K:jF→zb→Prop} {st:zb}
theorem jC (p:List Nat)(sz:Nat)(hp:st.at p=some (.sc (.slice none 0 0)))(h:JA P rs N V L x K ((st.kill (zc.under p true)).setAt p (.own (some sz) []))):JA P rs N V L x K st:=
 qf (fun E tm R=>by
  obtain⟨u,hu,hr⟩:=R.at_ hp rfl
  cases hr
  have U:Zq p E E:=⟨Nat.le_refl _,E.ids_refl,fun _ h _=>⟨h,rfl⟩,fun _ _ h _=>⟨h,rfl⟩⟩
  exact⟨E,R.turn (keep:=true) hp rfl (fun _=>⟨_,_,rfl⟩) U R.lim rfl hu (.ownNil _ sz),Zc.refl E,rfl⟩) h
theorem ZB (p:List Nat){sz:Option Nat}{cs:List zc}(hp:st.at p=some (.own sz cs))(h:JA P rs N V L x K ((st.kill (zc.under p false)).setAt p (zc.own sz cs).freeze)):JA P rs N V L x K st:=
 qf (fun E tm R=>by
  obtain⟨u,hu,hr⟩:=R.at_ hp rfl
  have U:Zq p E (E.freeze p):=J7 p
  have hB:VRel (E.freeze p) (some p) (zc.own sz cs).freeze u:=hr.frozen p _ fun ℓ e=>by cases e;exact List.prefix_refl _
  exact⟨_,R.turn (keep:=false) hp rfl (fun e=>by cases e) U (QX R.lim) rfl hu hB,qJ (Z8 (zO hp)),rfl⟩) h
end
def Qz (A' A:zc):Prop:=∀E po v,VRel E po A' v→VRel E po A v
theorem Qz.refl (A:zc):Qz A A:=fun _ _ _ h=>h
theorem Qz.imm (sz:Nat):Qz (.sc (.slice none 0 0)) (.imm sz []):=fun _ _ _ h=>by cases h;exact .immNil _ _ _
theorem Qz.own (sz:Nat):Qz (.sc (.slice none 0 0)) (.own (some sz) []):=fun _ _ _ h=>by cases h;exact .ownNil _ _
theorem Qz.dead (A:zc):Qz A .dead:=fun _ _ v _=> .dead _ v
inductive JY :List zc→List zc→Prop
 |nil:JY [] []
 |cons {A' A:zc} {l' l:List zc} (h:Qz A' A) (hl:JY l' l):JY (A'::l') (A::l)
theorem JY.get :∀{l' l:List zc},JY l' l→l'.length=l.length∧∀(k:Nat) A,l[k]?=some A→∃A',l'[k]?=some A'∧Qz A' A
 |_,_,.nil=>⟨rfl,fun k A h=>by simp at h⟩
 | _,_,.cons (A':=A') h hl=>by
   obtain⟨h1,h2⟩:=hl.get
   refine⟨by simp[h1],fun k A hA=>?_⟩
   cases k with
   |zero=>simp at hA;subst hA;exact⟨A',rfl,h⟩
   |succ k=>simp at hA;simpa using h2 k A hA
theorem JY.refl :∀l:List zc,JY l l
 |[]=> .nil
 |A::l=> .cons (.refl A) (.refl l)
def ZJ (l:List (List Nat)):List zc:=l.map fun xs=> .own (some 1) (zJ xs)
def Zv (l:List (List Nat)):List zc:=l.map fun xs=> .imm 1 (zJ xs)
theorem zek (l:List (List Nat)):(ZJ l).length=l.length:=by simp[ZJ]
theorem qg (l:List (List Nat)):(Zv l).length=l.length:=by simp[Zv]
theorem vQ {l:List (List Nat)}{k:Nat}{x:List Nat}(h:l[k]?=some x):(ZJ l)[k]?=some (.own (some 1) (zJ x)):=by simp[ZJ,h]
theorem Qc {l:List (List Nat)}{k:Nat}{x:List Nat}(h:l[k]?=some x):(Zv l)[k]?=some (.imm 1 (zJ x)):=by simp[Zv,h]
theorem zei (l:List (List Nat))(k:Nat)(x:List Nat):(ZJ l).set k (.own (some 1) (zJ x))=ZJ (l.set k x):=by simp[ZJ,List.map_set]
theorem Xq (l:List (List Nat))(x:List Nat):ZJ l++[.own (some 1) (zJ x)]=ZJ (l++[x]):=by simp[ZJ]
theorem QO :∀l:List (List Nat),zc.freezeL (ZJ l)=Zv l
 |[]=>rfl
 | x::l=>by
   have ih:=QO l
   simp only[ZJ,Zv,List.map_cons,zc.freezeL,zc.freeze,xC] at ih⊢
   rw[ih]
theorem qH :∀l:List (List Nat),zc.plainL (Zv l)=true
 |[]=>rfl
 | x::l=>by
   have ih:=qH l
   simp only[Zv,List.map_cons,zc.plainL,zc.plain,QW,Bool.true_and] at ih⊢
   exact ih
theorem wJ :∀l:List (List Nat),zc.cellOkL (Zv l)=true
 |[]=>rfl
 | x::l=>by
   have ih:=wJ l
   simp only[Zv,List.map_cons,zc.cellOkL,zc.cellOk,Bool.true_and] at ih⊢
   exact ih
theorem J9 :∀l:List (List Nat),zc.cellOkL (ZJ l)=true
 |[]=>rfl
 | x::l=>by
   have ih:=J9 l
   simp only[ZJ,List.map_cons,zc.cellOkL,zc.cellOk,Bool.true_and] at ih⊢
   exact ih
theorem Xr :∀l:List (List Nat),zc.flatL (ZJ l)=true
 |[]=>rfl
 | x::l=>by
   have ih:=Xr l
   simp only[ZJ,List.map_cons,zc.flatL,zc.flat,Va,Bool.true_and] at ih⊢
   exact ih
theorem YW :∀l:List (List Nat),zc.ids0L (ZJ l)=true
 |[]=>rfl
 | x::l=>by
   have ih:=YW l
   simp only[ZJ,List.map_cons,zc.ids0L,zc.ids0,WO,Bool.true_and] at ih⊢
   exact ih
theorem yw (l:List (List Nat)):zc.copyableL (Zv l)=true:=plain_copyableL _ (qH l)
theorem k7 (l:List (List Nat)):zc.freezeL (Zv l)=Zv l:=copyable_freezeL _ (yw l)
theorem Xs (l:List (List Nat)):zc.ids0L (Zv l)=true:=plain_ids0L _ (qH l)
theorem zel (g:Nat→Option Nat)(l:List (List Nat)):zc.renL g (Zv l)=Zv l:=ids0_renL g _ (Xs l)
theorem vP (g:Nat→Option Nat)(l:List (List Nat)):zc.renL g (ZJ l)=ZJ l:=ids0_renL g _ (YW l)
theorem jg (l:List Nat)(x:Nat):zJ l++[.sc (.int .i64 (x:Int))]=zJ (l++[x]):=by simp[zJ]
theorem Wx (l:List (Int×Int))(a b:Int):zY l++[.sc (.int .i64 a),.sc (.int .i64 b)]=zY (l++[(a,b)]):=by simp[zY,packs_append,ZD,two]
theorem zeJ (n:Nat):zF [.int .i64 0] n=zJ (List.replicate n 0):=by
 induction n with
 |zero=>rfl
 | succ n ih=>
   simp only[zF,List.replicate_succ,List.flatten_cons,zJ,List.map_cons] at ih⊢
   rw[ih];rfl
theorem zc1 (zs:List Value):zF zs 1=zs.map .sc++[]:=rfl
theorem zc2 (zs:List Value):zF zs 2=zs.map .sc++(zs.map .sc++[]):=rfl
theorem zc3 (zs:List Value):zF zs 3=zs.map .sc++(zs.map .sc++(zs.map .sc++[])):=rfl
attribute [go_sem] zc1 zc2 zc3 zek qg zei QO qH wJ J9 Xr YW yw k7 Xs zel vP
end Go.Ga

namespace Go.Ga
open Go
section
variable {P:Program} {t:TypeId} {b:Nat}
def zdB (n:Int):Prop:= -9223372036854775808≤n∧n≤9223372036854775807
theorem zlf {n:Int}(h:(Lit.int .i64 n).wf=true):zdB n:=by
 simp only[Lit.wf,decide_eq_true_eq,Bool.and_eq_true] at h
 have e1:IntKind.min .i64= -9223372036854775808:=by decide
 have e2:IntKind.max .i64=9223372036854775807:=by decide
 rw[e1,e2] at h
 exact h
theorem zfI {k:IntKind}{cs:List zc}(hu:P.underlying t=some (.int k))(h:Sh P t cs b):∃n,cs=[.sc (.int k n)]∧(Lit.int k n).wf=true∧b=1:=by
 cases h with
 |int _ k' n hu' hw=>rw[hu] at hu';cases hu';exact⟨n,rfl,hw,rfl⟩
 |bool _ _ h'=>rw[hu] at h';cases h'
 |string _ _ h'=>rw[hu] at h';cases h'
 |slice _ _ _ _ h'=>rw[hu] at h';cases h'
 |struct _ _ _ h'=>rw[hu] at h';cases h'
 |other _ _ _ h1=>exact absurd hu (h1 k)
theorem zfH {e:TypeId}{cs:List zc}(hu:P.underlying t=some (.slice e))(h:Sh P t cs b):∃(L:List (List zc×Nat)) (more:Nat),cs=[.imm (P.cellsOf e) (L.map (·.1)).flatten]∧b=1+(L.map (·.2)).sum+more∧∀x∈L,Sh P e x.1 x.2:=by
 cases h with
 |slice _ e' L more hu' hl hh=>rw[hu] at hu';cases hu';exact⟨L,more,rfl,rfl,hh⟩
 |int _ _ _ h'=>rw[hu] at h';cases h'
 |bool _ _ h'=>rw[hu] at h';cases h'
 |string _ _ h'=>rw[hu] at h';cases h'
 |struct _ _ _ h'=>rw[hu] at h';cases h'
 |other _ _ _ _ _ _ h4=>exact absurd hu (h4 e)
theorem gq {α:Type}{f:α→List zc}{R:α→Prop}:∀{L:List (List zc×Nat)},(∀x∈L,∃y,x.1=f y∧R y∧1≤x.2)→∃ys:List α,(L.map (·.1)).flatten=ZD f ys∧(∀y∈ys,R y)∧ys.length≤(L.map (·.2)).sum
 |[],_=>⟨[],rfl,fun y h=>(by cases h),Nat.le_refl _⟩
 | x::L,h=>by
   obtain⟨y,h1,h2,h3⟩:=h x (.head _)
   obtain⟨ys,g1,g2,g3⟩:=gq (L:=L) fun z hz=>h z (.tail _ hz)
   refine⟨y::ys,by simp only[List.map_cons,List.flatten_cons,ZD,h1,g1],fun z hz=>?_,by simp only[List.map_cons,List.sum_cons,List.length_cons];omega⟩
   cases hz with
   |head=>exact h2
   |tail _ hz=>exact g2 z hz
theorem zct (xs:List Int):ZD (fun n=>[zc.sc (.int .i64 n)]) xs=zl xs:=by
 induction xs with
 |nil=>rfl
 |cons x xs ih=>simp only[ZD,ih,zl,List.map_cons,List.singleton_append]
theorem zih {e:TypeId}{cs:List zc}(hu:P.underlying t=some (.slice e))(he:P.underlying e=some (.int .i64))(hc:P.cellsOf e=1)(h:Sh P t cs b):∃xs:List Int,cs=[.imm 1 (zl xs)]∧(∀x∈xs,zdB x)∧xs.length<b:=by
 obtain⟨L,more,rfl,rfl,hL⟩:=zfH hu h
 obtain⟨ys,h1,h2,h3⟩:=gq (f:=fun n=>[zc.sc (.int .i64 n)]) (R:=zdB) (L:=L) fun x hx=>by
  obtain⟨n,g1,g2,g3⟩:=zfI he (hL x hx)
  exact⟨n,g1,zlf g2,by omega⟩
 exact⟨ys,by rw[h1,hc,zct],h2,by omega⟩
theorem zfN {A:zc}(hu:∀fs,P.underlying t≠some (.struct fs))(h:SA P t A b):Sh P t [A] b:=by
 rcases h with⟨⟨fs,h⟩,_⟩|⟨_,h⟩
 · exact absurd h (hu fs)
 · exact h
theorem wE {ts:List TypeId}{As:List zc}(h:SAs P (t::ts) As b):∃A As' c d,As=A::As'∧b=c+d∧SA P t A c∧SAs P ts As' d:=by
 cases h with
 |cons _ A c _ As' d h hr=>exact⟨A,As',c,d,rfl,rfl,h,hr⟩
theorem zik {As:List zc}(h:SAs P [] As b):As=[]:=by cases h;rfl
theorem zce {k:IntKind}{A:zc}(hu:P.underlying t=some (.int k))(h:SA P t A b):∃n,A= .sc (.int k n)∧(Lit.int k n).wf=true:=by
 obtain⟨n,h1,h2,_⟩:=zfI hu (zfN (fun fs h=>by rw[hu] at h;cases h) h)
 exact⟨n,by injection h1,h2⟩
theorem zil {e:TypeId}{A:zc}(hu:P.underlying t=some (.slice e))(he:P.underlying e=some (.int .i64))(hc:P.cellsOf e=1)(h:SA P t A b):∃xs:List Int,A= .imm 1 (zl xs)∧(∀x∈xs,zdB x)∧xs.length<b:=by
 obtain⟨xs,h1,h2⟩:=zih hu he hc (zfN (fun fs h=>by rw[hu] at h;cases h) h)
 exact⟨xs,by injection h1,h2⟩
end
end Go.Ga

namespace Go.Ga
open Go
theorem zgR {α:Type}[Inhabited α](enc:α→Value)(w:World)(n blk off:Nat)(d:Array α)(os:Array Obj){b:Nat}(hb:b<w.heap.size):
    (Sort.grow (Sort.putRow enc (Sort.ahead w n) blk off d) os).heap[b]?=if blk=b then(w.heap[b]?).map (Sort.onCells (Sort.putCells enc off d)) else w.heap[b]?:=by
  unfold Sort.grow Sort.putRow Sort.mapBlock Sort.ahead
  simp only
  rw[Array.getElem?_append_left (by simpa using hb),Array.getElem?_modify]
theorem zc0 {P:Program}{f:Nat}(hc:yN P f=true)(g:List Int→List Int)(hg:∀zs,(g zs).length=zs.length)(zs:List Int)
    (H:∀(blk off cap:Nat) (w:World),Sort.Holds (Value.int .i64) w blk off zs.toArray→blk<w.heap.size→
      Calls P f #[.slice (some ⟨blk,off,none⟩) zs.length cap] w fun e w'=>e= .returned (.tuple #[])∧∃n os,w'=Sort.grow (Sort.putRow (Value.int .i64) (Sort.ahead w n) blk off (g zs).toArray) os):
    zo P [] f [.sl 0 0 zs.length 1] [some (zl zs)] fun r h'=>r= .tup []∧h'=[some (zl (g zs))]:=by
  refine⟨hc,fun E vs hH hs hv=>?_⟩
  have hs1:vs.size=1:=hs
  have hv0:=hv 0 _ vs[0] rfl (by simp[hs1])
  have evs:vs= #[vs[0]]:=by
    apply Array.ext
    · simpa using hs1
    · intro i h1 h2
      have:i=0:=by omega
      subst this;rfl
  rw[evs]
  generalize vs[0]=v0 at hv0
  cases hv0 with
  |sl po id off len cap sz hn hcap hm hk=>
  obtain⟨hO,arr,T,fv,hb,ha,hcs,hf,hr⟩:=hH.objs 0 _ rfl
  have hsize:E.ρ 0<E.w.heap.size:=hH.lim _ _ hO
  have hlen:(zl zs).length=zs.length:=zj zs
  have hfk:∀k (h:k<zs.length),fv k= .int .i64 zs[k]:=by
    intro k h
    have e:(zl zs)[k]?=some (.sc (.int .i64 zs[k])):=by simp[zl,h]
    have:=hr k _ e
    generalize fv k=u at this
    cases this
    rfl
  have hak:∀k,k<zs.length→arr[E.β 0+k]?=some (fv k):=fun k h=>hf k _ (by rw[List.getElem?_eq_getElem (by rw[hlen];exact h)])
  have hold:Sort.Holds (Value.int .i64) E.w (E.ρ 0) (E.β 0+0) zs.toArray:=by
    intro j hj
    have hj:j<zs.length:=by simpa using hj
    have e:=hak j hj
    rw[hfk j hj] at e
    constructor
    · simp[World.cell?,hb,e,hj]
    · simp[World.frozen?,hb]
  refine(H (E.ρ 0) (E.β 0+0) cap E.w hold hsize).mono ?_
  rintro e w' ⟨rfl,n,os,rfl⟩
  have hw:∀b,b<E.w.heap.size→(Sort.grow (Sort.putRow (Value.int .i64) (Sort.ahead E.w n) (E.ρ 0) (E.β 0+0) (g zs).toArray) os).heap[b]?=if E.ρ 0=b then(E.w.heap[b]?).map (Sort.onCells (Sort.putCells (Value.int .i64) (E.β 0+0) (g zs).toArray)) else E.w.heap[b]?:=
    fun b hb=>zgR _ _ _ _ _ _ _ hb
  have hsz:E.w.heap.size≤(Sort.grow (Sort.putRow (Value.int .i64) (Sort.ahead E.w n) (E.ρ 0) (E.β 0+0) (g zs).toArray) os).heap.size:=by
    simp[Sort.grow,Sort.putRow,Sort.mapBlock,Sort.ahead]
  generalize hW:Sort.grow (Sort.putRow (Value.int .i64) (Sort.ahead E.w n) (E.ρ 0) (E.β 0+0) (g zs).toArray) os=W at hw hsz
  have hos:W.os=E.w.os∧W.tape=E.w.tape∧W.output=E.w.output:=by subst hW;exact⟨rfl,rfl,rfl⟩
  refine⟨.tuple #[],.tup [],[some (zl (g zs))],{E with w:=W},rfl,rfl,?_,.tup _ _ _ rfl (fun k A v h=>by simp at h),?_,rfl,rfl⟩
  · refine⟨hH.num,fun b q h=>Nat.lt_of_lt_of_le (hH.lim b q h) hsz,?_⟩
    intro id cs h
    have hid:id=0∧cs=zl (g zs):=by
      cases id with
      |zero=>simp at h;exact⟨rfl,h.symm⟩
      |succ k=>simp at h
    obtain⟨rfl,rfl⟩:=hid
    refine⟨hO,Sort.putCells (Value.int .i64) (E.β 0+0) (g zs).toArray arr,T,fun k=> .int .i64 ((g zs).getD k 0),?_,?_,?_,?_,?_⟩
    · show W.heap[E.ρ 0]?=_
      rw[hw _ hsize,if_pos rfl,hb]
      rfl
    · simpa[Sort.putCells] using ha
    · rw[zj,hg,←hlen];exact hcs
    · intro k A hk'
      have hk1:k<(g zs).length:=by
        have:=(List.getElem?_eq_some_iff.1 hk').1
        rwa [zj] at this
      have hk2:k<zs.length:=by rw[←hg];exact hk1
      show(Sort.putCells (Value.int .i64) (E.β 0+0) (g zs).toArray arr)[E.β 0+k]?=_
      unfold Sort.putCells
      rw[Array.getElem?_mapIdx,hak k hk2]
      simp[hk1]
    · intro k A hk'
      have hk1:k<(g zs).length:=by
        have:=(List.getElem?_eq_some_iff.1 hk').1
        rwa [zj] at this
      have:A= .sc (.int .i64 ((g zs).getD k 0)):=by
        have:=hk'
        simp[zl,hk1] at this
        rw[←this]
        simp[hk1]
      rw[this]
      exact .sc _ _
  · have hne:∀b,(∀q,E.O b=some q→q≠ [1,0])→b<E.w.heap.size→W.heap[b]?=E.w.heap[b]?:=by
      intro b h1 h2
      rw[hw b h2,if_neg]
      intro hh
      subst hh
      exact h1 _ hO rfl
    refine⟨hsz,hos.1,hos.2.1,hos.2.2,?_,?_,fun b r h=>h,⟨Nat.le_refl _,fun _ _=>⟨rfl,rfl,rfl⟩⟩,?_⟩
    · intro b h1 h2
      exact⟨h1,hne b (fun q hq=>by rw[h1] at hq;cases hq) h2⟩
    · intro b r h
      exact⟨h,hne b (fun q hq=>by rw[h] at hq;cases hq;simp) (hH.lim _ _ h)⟩
    · intro b r hW' _ _
      exact absurd hW'.1 (by simp)
end Go.Ga

namespace Go.Ga
open Go
def yk (vs:List (Nat×zc)):List (Nat×zc)→List (Nat×zc)
 |[]=>vs
 |(i,A)::l=>yk (upd vs i A) l
theorem ze (vs:List (Nat×zc)):yk vs []=vs:=rfl
theorem zd (vs:List (Nat×zc))(i:Nat)(A:zc)(l:List (Nat×zc)):yk vs ((i,A)::l)=yk (upd vs i A) l:=rfl
theorem znp (x y a b:zc):Zp [x,y] 0 [a,b]=[a,b]:=rfl
theorem zno (x y z a b c:zc):Zp [x,y,z] 0 [a,b,c]=[a,b,c]:=rfl
theorem XK (n:Nat):n*2 / 2=n:=by omega
theorem znr (n:Nat):n*3 / 3=n:=by omega
theorem zH {k:Nat}(h:k<4611686018427387904):IntKind.i64.wrap ((k:Int)+1)=((k+1:Nat):Int):=by rw[IntWalk.i64_in _ (by omega)];omega
theorem wU {k:Nat}(h:k<4611686018427387904):IntKind.i64.wrap (((k+1:Nat):Int) - 1)=(k:Int):=by rw[IntWalk.i64_in _ (by omega)];omega
theorem nen {α:Type}(x:α)[Decidable (x≠x)]:decide (x≠x)=false:=decide_eq_false (fun h=>h rfl)
theorem eqn {α:Type}(x:α)[Decidable (x=x)]:decide (x=x)=true:=decide_eq_true rfl
theorem zd2 (l:List (Int×Int))(k:Nat):(zY l).drop (k*2)=zY (l.drop k):=qp QF l k
theorem zd0 (l:List (Int×Int))(k:Nat):(zY l).take (k*2)=zY (l.take k):=Y4 QF l k
theorem twos_append (l m:List (Int×Int)):zY (l++m)=zY l++zY m:=packs_append l m
theorem uv (l:List (Int×Int))(lo hi:Nat):Zs (zY l) 2 lo hi=zY ((l.drop lo).take (hi - lo)):=by
 rw[Zs,zd2,zd0]
theorem zha (l:List Nat)(lo hi:Nat):Zs (zJ l) 1 lo hi=zJ ((l.drop lo).take (hi - lo)):=by
 simp[Zs,zJ]
theorem ziS (a b c d:Int):yL [.sc (.int .i64 a),.sc (.int .i64 b)] [.sc (.int .i64 c),.sc (.int .i64 d)]=some (decide ((a,b)=(c,d))):=by
 simp[yL]
attribute [go_sem] Int.toNat_zero Int.toNat_one Nat.div_one Int.cast_ofNat_Int decide_true decide_false bne_self_eq_false Bool.not_false Bool.not_true Nat.zero_le or_self true_or or_true List.length_set List.length_range qP ziS Option.bind_some U8 znp zno XK znr ZI KW nen eqn ze zd
theorem JY.own {sz:Nat}{l' l:List zc}(h:JY l' l):Qz (.own (some sz) l') (.own (some sz) l):=fun E po v hv=>by
 obtain⟨h1,h2⟩:=h.get
 cases hv with
 | own ℓ _ _ b o len cap arr T f hO hb hl hc hm ha hf hh=>
   refine .own ℓ sz l b o len cap arr T f hO hb (by rw[←h1];exact hl) hc hm ha (fun k A hA=>?_) fun k A hA=>?_
   · obtain⟨A',hA',_⟩:=h2 k A hA;exact hf k A' hA'
   · obtain⟨A',hA',hs⟩:=h2 k A hA;exact hs _ _ _ (hh k A' hA')
 | ownNil=>
   cases l with
   |nil=>exact .ownNil _ _
   |cons=>simp at h1
theorem JY.imm {sz:Nat}{l' l:List zc}(h:JY l' l):Qz (.imm sz l') (.imm sz l):=fun E po v hv=>by
 obtain⟨h1,h2⟩:=h.get
 cases hv with
 | imm _ _ _ b o len cap f hO hb hl hc hf hh=>
   refine .imm po sz l b o len cap f hO hb (by rw[←h1];exact hl) hc (fun k A hA=>?_) fun k A hA=>?_
   · obtain⟨A',hA',_⟩:=h2 k A hA;exact hf k A' hA'
   · obtain⟨A',hA',hs⟩:=h2 k A hA;exact hs _ _ _ (hh k A' hA')
 | immNil=>
   cases l with
   |nil=>exact .immNil _ _ _
   |cons=>simp at h1
theorem JY.agg {l' l:List zc}(h:JY l' l):Qz (.agg l') (.agg l):=fun E po v hv=>by
 obtain⟨h1,h2⟩:=h.get
 cases hv with
 | agg _ _ vs hs hh=>
   refine .agg po l vs (by rw[←h1];exact hs) fun k A v hA hv=>?_
   obtain⟨A',hA',hs'⟩:=h2 k A hA
   exact hs' _ _ _ (hh k A' v hA' hv)
theorem JY.rep {A' A:zc}(h:Qz A' A):∀n,JY (List.replicate n A') (List.replicate n A)
 |0=> .nil
 |n+1=> .cons h (JY.rep h n)
section
variable {P:Program} {rs:List Nat} {N:Nat} {V:List Nat} {L:List (List Nat)} {x:zC} {K:jF→zb→Prop} {st:zb}
theorem K8 (p:List Nat){A:zc}(B:zc)(hp:st.at p=some A)(hA:A.isAlias=false)(hs:Qz A B)(h:JA P rs N V L x K ((st.kill (zc.under p false)).setAt p B)):JA P rs N V L x K st:=
 qf (fun E tm R=>by
  obtain⟨u,hu,hr⟩:=R.at_ hp hA
  have U:Zq p E E:=⟨Nat.le_refl _,E.ids_refl,fun _ h _=>⟨h,rfl⟩,fun _ _ h _=>⟨h,rfl⟩⟩
  exact⟨E,R.turn (keep:=false) hp hA (fun e=>by cases e) U R.lim rfl hu (hs _ _ _ hr),Zc.refl E,rfl⟩) h
theorem WB (p:List Nat){cs:List zc}(hp:st.at p=some (.own none cs))(h:JA P rs N V [] x K (st.shareAt p cs (.ptr st.h.length 0))):JA P rs N V [] x K st:=
 qf (fun E tm R=>by
  obtain⟨E1,R1,_,P1,hw,_⟩:=xA (a:=⟨tm,[]⟩) (L:=[]) (l:=[]) R hp (fun y hy=>by cases hy) rfl
  exact⟨E1,R1,P1,hw⟩) h
end
theorem zfo (n:Nat):zF [.slice none 0 0] n=List.replicate n (.sc (.slice none 0 0)):=by
 simp only[zF,List.map]
 induction n with
 |zero=>rfl
 |succ n ih=>simp only[List.replicate_succ,List.flatten_cons,ih];rfl
theorem zej (n:Nat):ZJ (List.replicate n [])=List.replicate n (.own (some 1) []):=by
 simp[ZJ,zJ]
theorem zee (n:Nat):Qz (.own (some 1) (zF [.slice none 0 0] n)) (.own (some 1) (ZJ (List.replicate n []))):=by
 rw[zfo,zej]
 exact(JY.rep (Qz.own 1) n).own
def Zd (xs:List Bool):List zc:=xs.map fun b=> .sc (.bool b)
theorem Zy (xs:List Bool):(Zd xs).length=xs.length:=by simp[Zd]
theorem Jn {xs:List Bool}{k:Nat}(h:k<xs.length):(Zd xs)[k]?=some (.sc (.bool (xs.getD k false))):=by
 simp[Zd,List.getD_eq_getElem?_getD,List.getElem?_eq_getElem h]
theorem xi (xs:List Bool)(k:Nat)(b:Bool):(Zd xs).set k (.sc (.bool b))=Zd (xs.set k b):=by
 simp[Zd,List.map_set]
theorem y5 (xs:List Bool):zc.plainL (Zd xs)=true:=(Yc _ xs).1
theorem zcU (xs:List Bool):zc.flatL (Zd xs)=true:=(Yc _ xs).2
theorem Ws :∀xs:List Bool,zc.cellOkL (Zd xs)=true
 |[]=>rfl
 |b::l=>by show(_&&zc.cellOkL (Zd l))=true;rw[Ws l];rfl
theorem y6 (xs:List Bool):zc.copyableL (Zd xs)=true:=plain_copyableL _ (y5 xs)
theorem KD (xs:List Bool):zc.freezeL (Zd xs)=Zd xs:=copyable_freezeL _ (y6 xs)
theorem UT (xs:List Bool):zc.ids0L (Zd xs)=true:=plain_ids0L _ (y5 xs)
theorem zfh (g:Nat→Option Nat)(xs:List Bool):zc.renL g (Zd xs)=Zd xs:=ids0_renL g _ (UT xs)
theorem US (n:Nat):zF [.bool false] n=Zd (List.replicate n false):=by
 simp only[zF,List.map]
 induction n with
 |zero=>rfl
 |succ n ih=>simp only[List.replicate_succ,List.flatten_cons,ih];rfl
attribute [go_sem] Zy xi y5 zcU Ws y6 KD UT zfh US
theorem zo.seen {P:Program}{L:List (List Nat)}{f:Nat}{args:List zc}{h:Heap}{Q Q':zc→Heap→Prop}(H:zo P L f args h Q)(hs:∀r h',Q r h'→∃r',Qz r r'∧Q' r' h'):zo P L f args h Q':=by
 refine⟨H.1,fun E vs hH hsz hv=>(H.2 E vs hH hsz hv).mono ?_⟩
 rintro e w' ⟨v,r,h',E',he,hw,hH',hr,hP,hQ⟩
 obtain⟨r',h1,h2⟩:=hs r h' hQ
 exact⟨v,r',h',E',he,hw,hH',h1 _ _ _ hr,hP,h2⟩
theorem zo.frz {P:Program}{L:List (List Nat)}{f:Nat}{args:List zc}{h:Heap}{Q:zc→Heap→Prop}(H:zo P L f args h Q):zo P L f args h fun r h'=>∃r0,r=r0.freeze∧Q r0 h':=by
 refine⟨H.1,fun E vs hH hs hv=>(H.2 E vs hH hs hv).mono ?_⟩
 rintro e w' ⟨v,r,h',E',he,hw,hH',hr,hP,hQ⟩
 have U:Zq [3] E' (E'.freeze [3]):=J7 [3]
 refine⟨v,r.freeze,h',E'.freeze [3],he,hw,⟨hH'.num,QX hH'.lim,fun id cs hcs=>?_⟩,hr.frozen [3] _ (fun ℓ e=>by cases e;exact List.prefix_refl _),hP.trans (qJ Kl),r,rfl,hQ⟩
 have hid:id<E'.n:=by rw[hH'.num];exact(List.getElem?_eq_some_iff.1 hcs).1
 exact(hH'.objs id cs hcs).keep U hid (zI (by decide))
section
variable {P:Program} {rs:List Nat} {N:Nat} {V:List Nat} {L:List (List Nat)} {K:jF→zb→Prop} {x:zC}
theorem zP {vs:List (Nat×zc)}{h0:Heap}{α:Type}(J:List Nat)(f:α→List (Nat×zc))(g:α→Heap)(inv:α→Nat→Prop)(a0:α)(n0:Nat)(hJ:(J.all fun i=>V.contains i)=true)
    (hs:zb.forget ⟨vs,[],h0⟩ J=⟨yk vs (J.map (fun i=>(i,zc.dead))++f a0),[],g a0⟩) (hi:inv a0 n0)
    (h:∀a n,inv a n→∀X:jF→zb→Prop,(∀s a' m,m<n→s.forget J=⟨yk vs (J.map (fun i=>(i,zc.dead))++f a'),[],g a'⟩→inv a' m→X .normal s)→(∀i s,K (.exit i) s→X (.exit i) s)→(∀s,K .ret s→X .ret s)→
      JA P rs N V L x X ⟨yk vs (J.map (fun i=>(i,zc.dead))++f a),[],g a⟩):JA P rs N V L (.loop x) K ⟨vs,[],h0⟩:=by
  refine zfp (fun n s=>∃a,inv a n∧s.forget J=⟨yk vs (J.map (fun i=>(i,zc.dead))++f a),[],g a⟩) n0 ⟨a0,hi,hs⟩ ?_
  rintro n s ⟨a,ha,hst⟩ X hn he hr
  refine zcd J hJ ?_
  rw[hst]
  exact h a n ha X (fun s a' m hm hs' hi'=>hn m s hm ⟨a',hi',hs'⟩) he hr
end
end Go.Ga

namespace Go.Ga
open Go
section
variable {P:Program} {t:TypeId} {b:Nat}
end
end Go.Ga

namespace Go.Ga
open Go
section
variable {L:List (List Nat)} {E:Env} {N:Nat} {V:List Nat} {st:zb} {a:Act} {tm:Array Value}
theorem zb4 (R:zK E N V st tm){p:List Nat}{sz:Nat}{cs:List zc}(h:st.at p=some (.own (some sz) cs))(hne:cs≠ [])(hq:clear L p=true):
    ∃E1,zK E1 N V (st.shareAt p cs (.sl st.h.length 0 (cs.length / sz) sz)) tm∧Zc L E E1∧E1.w=E.w:=by
  obtain⟨u,hu,hr⟩:=R.at_ h rfl
  have hp:=zO h
  cases hr with
  |ownNil=>exact absurd rfl hne
  | own _ _ _ b o len cap arr T f hO hb hl hc hm ha hf hh=>
    let E1:=E.more b o (cap*sz)
    have R1:=R.more b o (cap*sz)
    have hat1:zb.at {st with h:=st.h++[none]} p=some (.own (some sz) cs):=by
      match p,h with
      |0::i::ks,h=>exact h
      | 1 ::id::k::ks,h=>
        simp only[zb.at] at h⊢
        split at h
        · rename_i cs' hcs
          have:(st.h++[none])[id]?=some (some cs'):=by rw[List.getElem?_append_left (List.getElem?_eq_some_iff.1 hcs).1];exact hcs
          rw[this];exact h
        · cases h
    have hpv1:zL E1 tm p=some (.slice (some ⟨b,o,none⟩) len cap):=by
      have:zL E1 tm p=zL E tm p:=by
        match p,h with
        |0::i::ks,_=>rfl
        | 1 ::id::k::ks,h=>
          simp only[zb.at] at h
          split at h
          · rename_i cs' hcs
            have:id<E.n:=by rw[R.num];exact(List.getElem?_eq_some_iff.1 hcs).1
            simp only[zL,Env.ptr,E1,Env.more,Nat.ne_of_lt this,if_false]
          · cases h
      rw[this];exact hu
    have U1:Zq p E1 (E1.relab p [1,E.n]):=Zm p [1,E.n]
    have hlim1:=jh (E:=E1) (p:=p) (q:=[1,E.n]) R1.lim
    have hdiv:cs.length / sz=len:=by rw[hl.2,Nat.mul_div_cancel _ hl.1]
    have hptr:VRel (E1.relab p [1,E.n]) (some p) (.sl E.n 0 (cs.length / sz) sz) (.slice (some ⟨b,o,none⟩) len cap):=by
      have:=VRel.sl (E:=E1.relab p [1,E.n]) (some p) E.n 0 len cap sz (by simp[E1,Env.more,Env.relab]) hc hm (by simp[E1,Env.more,Env.relab])
      rw[hdiv]
      simpa[E1,Env.more,Env.relab] using this
    have R2:=R1.turn (B':= .sl E.n 0 (cs.length / sz) sz) (keep:=false) hat1 rfl (fun e=>by cases e) U1 hlim1 rfl hpv1 hptr
    rw[Vi,Xo (by
      obtain⟨C',h1,h2⟩:=x7 (bad:=zc.under p false) (fun A h=>qm h) h
      rw[h1];simp)] at R2
    have hOR:QA (E1.relab p [1,E.n]) E.n cs:=by
      refine⟨?_,arr,T,f,?_,?_,?_,?_,?_⟩
      · show relab p [1,E.n] E.O (if E.n=E.n then b else E.ρ E.n)=_
        rw[if_pos rfl]
        simpa using Jk (q:=[1,E.n]) (r:=[]) (by simpa using hO)
      · show E.w.heap[if E.n=E.n then b else E.ρ E.n]?=_
        rw[if_pos rfl];exact hb
      · simp[E1,Env.more,Env.relab,ha]
      · simp[E1,Env.more,Env.relab,hl.2]
        exact Nat.mul_le_mul_right _ hc
      · intro k A hk;simpa[E1,Env.more,Env.relab] using hf k A hk
      · intro k A hk
        have h1:VRel E1 (some (p++[k])) A (f k):=VRel.keep (E:=E) (E':=E1) yH (Nat.le_refl _) (hh k A hk) fun _ _=>⟨rfl,rfl⟩
        exact(h1.moved p [1,E.n] [k]).2 rfl
    have hlen:((st.kill (zc.under p false)).setAt p (.sl E.n 0 (cs.length / sz) sz)).h.length=E.n:=by rw[vM,R.num];rfl
    have R3:=R2.revive (id:=E.n) (cs:=cs) (h':=((st.kill (zc.under p false)).setAt p (.sl E.n 0 (cs.length / sz) sz)).h++[some cs]) (by simp) (by rw[List.getElem?_append_right (by omega)];simp[hlen])
      (fun j hj=>by
        show _=(((st.kill (zc.under p false)).setAt p (.sl E.n 0 (cs.length / sz) sz)).h++[none])[j]?
        rw[List.getElem?_append,List.getElem?_append]
        split
        · rfl
        · rename_i hge
          have:1≤j - ((st.kill (zc.under p false)).setAt p (.sl E.n 0 (cs.length / sz) sz)).h.length:=by omega
          rw[List.getElem?_eq_none (by simpa using this),List.getElem?_eq_none (by simpa using this)])
      (by
        show(((st.kill (zc.under p false)).setAt p (.sl E.n 0 (cs.length / sz) sz)).h++[none])[E.n]?=_
        rw[List.getElem?_append_right (by omega)];simp[hlen]) hOR
    refine⟨E1.relab p [1,E.n],?_,WF.trans (zR (Z8 hp) (xD _) (qi hq)),rfl⟩
    rw[show st.h.length=E.n from R.num.symm]
    exact R3
end
section
variable {P:Program} {rs:List Nat} {N:Nat} {V:List Nat} {L:List (List Nat)} {x:zC} {K:jF→zb→Prop} {st:zb}
theorem zfK (p:List Nat){sz:Nat}{cs:List zc}(hp:st.at p=some (.own (some sz) cs))(hne:cs≠ [])(h:JA P rs N V [] x K (st.shareAt p cs (.sl st.h.length 0 (cs.length / sz) sz))):JA P rs N V [] x K st:=
 qf (fun E tm R=>by
  obtain⟨E1,R1,P1,hw⟩:=zb4 (L:=[]) R hp hne rfl
  exact⟨E1,R1,P1,hw⟩) h
end
end Go.Ga
attribute [go_sem] reduceIte Nat.reduceEqDiff Nat.reduceBEq reduceCtorEq Nat.reduceLT Nat.reduceLeDiff Nat.reduceAdd Nat.reduceSub Nat.reduceMul Nat.reduceDiv Int.reduceAdd Int.reduceNeg Int.reduceEq Int.reduceLT Int.reduceLE

namespace Go.Ga
open Go
end Go.Ga

namespace Go.Ga
open Go
theorem Zw {P:Program}{rs V:List Nat}{N:Nat}{L:List (List Nat)}{x y:zC}{K:jF→zb→Prop}{st:zb}{c:zQ}(h1:JA P rs N V L x K st)(hc:st.ev c= .sc (.bool true):=by first|rfl|(simp only[go_sem];try simp(disch:=omega) only[decide_eq_true,decide_eq_false])):JA P rs N V L (.cond c x y) K st:=ZM hc h1
theorem Zr {P:Program}{rs V:List Nat}{N:Nat}{L:List (List Nat)}{x y:zC}{K:jF→zb→Prop}{st:zb}{c:zQ}(h1:JA P rs N V L y K st)(hc:st.ev c= .sc (.bool false):=by first|rfl|(simp only[go_sem];try simp(disch:=omega) only[decide_eq_true,decide_eq_false])):JA P rs N V L (.cond c x y) K st:=ZA hc h1
def jQ (P:Program)(nt k:Nat)(rs V:List Nat)(rss:List wq)(ac:zC)(f:Nat):Prop:=∀{L:List (List Nat)} {args:List zc} {h:Heap} {Q:zc→Heap→Prop},args.length=k→JA P rs nt V L ac (Je L rss Q) (Vw V args h)→zo P L f args h Q
theorem jR {P:Program}(hmix:P.follows .mixedOrders=true){f:Nat}{fn:Func}{k:Nat}{rs V:List Nat}{ac:zC}{rss:List wq}(hf:P.funcs[f]?=some fn)(hs:zb3 P rs V fn=some (ac,rss))(hk:Nat.ble k fn.ntmps=true):jQ P fn.ntmps k rs V rss ac f:=
 fun hl H=>xS hmix hf hs (by rw[hl];exact Nat.le_of_ble_eq_true hk) H
def oM (a b:Nat):zm:=(none,.r (.mov a (.t b)))
def oS (a b:Nat):zm:=(none,.asg a (.t b) true)
def oI (a:Nat)(k:Int):zm:=(none,.asg a (.c (.int .i64 k)) true)
def oZ (a:Nat):zm:=(none,.asg a (.c (.slice none 0 0)) true)
def oO (a:Nat):zm:=(none,.asg a (.c (.bool false)) true)
def oL (a b k:Nat):zm:=(none,.r (.ld a (.t b) k false))
def oT (a b k:Nat):zm:=(none,.r (.ld a (.t b) k true))
def oF (a b k:Nat):zm:=(none,.r (.fldA a (.t b) k))
def oX (a b c k:Nat):zm:=(none,.r (.idxA a (.t b) (.t c) k))
def oN (a b:Nat):zm:=(none,.r (.nilck a (.t b)))
def oE (a b:Nat):zm:=(none,.r (.len a (.t b)))
def oB (a:Nat)(op:BinOp)(b:Nat)(k:Int):zm:=(none,.r (.bin a op 0 (.t b) (.c (.int .i64 k))))
def oD (a:Nat)(op:BinOp)(b c:Nat):zm:=(none,.r (.bin a op 0 (.t b) (.t c)))
def oC (a f x:Nat):zm:=(none,.call a (.f f) [(.t x,false)])
def qx (a f x y:Nat):zm:=(none,.call a (.f f) [(.t x,false),(.t y,false)])
def oC3 (a f x y z:Nat):zm:=(none,.call a (.f f) [(.t x,false),(.t y,false),(.t z,false)])
def oP (a b c:Nat):zm:=(none,.r (.pick a (.t b) (.t c) (.c (.bool false))))
def oQ (a b c:Nat):zm:=(none,.r (.pick a (.t b) (.c (.bool true)) (.t c)))
def oW (a b k:Nat):zm:=(none,.st (.t a) (.t b) k)
def oY (a b k:Nat):zm:=(none,.r (.ext a (.t b) k))
def oK (g:Nat)(s:Bool)(a b:Nat):zm:=(some (g,s),.r (.mov a (.t b)))
def QB (g:Nat)(s:Bool)(a b k:Nat):zm:=(some (g,s),.r (.ld a (.t b) k false))
def KJ (g:Nat)(s:Bool)(a:Nat)(op:BinOp)(b:Nat)(k:Int):zm:=(some (g,s),.r (.bin a op 0 (.t b) (.c (.int .i64 k))))
def WL (g:Nat)(s:Bool)(a:Nat)(op:BinOp)(b c:Nat):zm:=(some (g,s),.r (.bin a op 0 (.t b) (.t c)))
attribute [go_sem] oM oS oI oZ oO oL oT oF oX oN oE oB oD oC qx oC3 oP oQ oW oY oK QB KJ WL
end Go.Ga
