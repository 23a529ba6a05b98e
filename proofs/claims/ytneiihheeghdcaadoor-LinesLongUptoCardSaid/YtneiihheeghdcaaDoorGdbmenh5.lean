/- Values, objects, and code by what it leads to: a library of this claim's own. No condition. -/
import Derived.Test.YtneiihheeghdcaaDoorGdbmenh4
import Derived.Sort.Grow
set_option linter.all false

namespace Go.Ga
open Go
inductive Ql where
 |tmp (t:Nat)
 |cell (t n:Nat) (ag:Bool)
def Jm (P:Program):ResultVar→Option Ql
 | .tmp t=>some (.tmp t)
 | .cell t ty=>(P.underlying ty).bind fun dsc=>(P.info? ty).map fun inf=> .cell t inf.size (z8 dsc)
def wd :List Ql→zb→Option (List za×zb)
 |[],st=>some ([],st)
 | .tmp t::rest,st=>match st.use (.t t) true with
   | some (A,st1)=>match wd rest st1 with
     |some (As,st2)=>some (A::As,st2)
     |none=>none
   |none=>none
 | .cell t n ag::rest,st=>match jd st (.ld 0 (.t t) n ag) with
   | some A=>bif A.copyable then match wd rest st with
     |some (As,st2)=>some (A::As,st2)
     |none=>none
     else none
   |none=>none
def XY :List za→za
 |[A]=>A
 |As=> .tup As
def wK (V:List Nat)(args:List za)(h:Heap):zb:={vs:=V.map fun i=>(i,(args[i]?).getD .dead),ts:=[],h:=h}
def yu (L:List (List Nat)):List Ql→zb→Bool
 |[],_=>true
 | .tmp t::rest,st=>st.useQ L (.t t) true&&match st.use (.t t) true with
   |some (_,st1)=>yu L rest st1
   |none=>true
 | .cell _ _ _::rest,st=>yu L rest st
theorem qM :∀(rss:List Ql) (st:zb),yu [] rss st=true
 |[],_=>rfl
 | .tmp t::rest,st=>by
   simp only[yu,J1,Bool.true_and]
   split
   · exact qM rest _
   · rfl
 | .cell _ _ _::rest,st=>qM rest st
def ul (L:List (List Nat))(rss:List Ql)(Q:za→Heap→Prop)(e:ZB)(s:zb):Prop:=
 match e with
 | .exit _=>False
 | _=>yu L rss s=true∧match wd rss s with
   |some (As,s')=>Q (XY As) s'.h
   |none=>False
section
variable {L:List (List Nat)} {E:Env} {N:Nat} {V:List Nat} {st:zb} {a:Act} {P:Program} {o:Oper} {d:Nat} {tm:Array Value} {rs:List Nat} {ops:Array Oper}
theorem xa {r:Array Value}{p:List Nat}{v:Value}(h:zr E tm p=some v):zr E (tm++r) p=some v:=by
 match p,h with
 | 0 ::i::ks,h=>
   simp only[zr] at h⊢
   cases hi:tm[i]? with
   |none=>rw[hi] at h;cases h
   | some u=>
     rw[hi] at h
     rw[Array.getElem?_append_left (Array.getElem?_eq_some_iff.1 hi).1,hi]
     exact h
 |1::id::ks,h=>exact h
theorem Zt.ext {r:Array Value}{i:Nat}{A:za}(h:Zt E st tm i A):Zt E st (tm++r) i A:=by
 have hg:∀v,tm[i]?=some v→(tm++r)[i]?=some v:=fun v hv=>by rw[Array.getElem?_append_left (Array.getElem?_eq_some_iff.1 hv).1];exact hv
 cases A with
 |dead=>trivial
 |at_ p=>obtain⟨B,v,h1,h2,h3,h4⟩:=h;exact⟨B,v,h1,h2,xa h3,hg v h4⟩
 |addr p k=>obtain⟨hd,cs,v,b,o,h1,h2,h3,h4⟩:=h;exact⟨hd,cs,v,b,o,h1,xa h2,h3,hg _ h4⟩
 |_=>obtain⟨v,h1,h2⟩:=h;exact⟨v,hg v h1,h2⟩
theorem zi.ext (R:zi E N V st tm)(r:Array Value):zi E (N+r.size) V st (tm++r):=
 ⟨by simp[R.size],R.keys,R.num,R.disj,R.lim,R.roots,fun i=>(R.slots i).ext,R.objs⟩
theorem gc :∀l:List Nat,∃m,∀x∈l,x<m
 |[]=>⟨0,fun x hx=>by cases hx⟩
 | y::l=>by
   obtain⟨m,hm⟩:=gc l
   refine⟨y+m+1,fun x hx=>?_⟩
   cases hx with
   |head=>omega
   |tail _ hx=>have:=hm x hx;omega
theorem gz (R:zi E N V st a.tmps){x:Operand}{ox:zm}(hx:zd x=some ox){n:Nat}{ag:Bool}{A:za}(h:jd st (.ld d ox n ag)=some A):∃b k,a.eval x= .pointer (some ⟨b,k,none⟩):=by
 simp only[jd] at h
 split at h
 · rename_i id k hb
   obtain⟨v,po,h1,h2,_⟩:=zj R hx (zO hb rfl) rfl
   cases h2;exact⟨_,_,h1⟩
 · rename_i cs hb
   obtain⟨v,po,h1,h2,_⟩:=zj R hx (zO hb rfl) rfl
   cases h2;exact⟨_,_,h1⟩
 · rename_i p k hb
   obtain⟨hd,cs,v,b,o',h1,h2,h3,h4,h5⟩:=jP R hx hb
   exact⟨_,_,h4⟩
 · cases h
def Uv (tm:Array Value):ResultVar→Sem Value
 | .tmp t=>pure (tm.getD t undef)
 | .cell a t=>do loadVar t (←asAddr (tm.getD a undef))
theorem UZ (R:zi E N V st a.tmps){t:Nat}{ty:TypeId}{dsc:TypeDesc}{inf:TypeInfo}(hu:P.underlying ty=some dsc)(hi:P.info? ty=some inf){A:za}(h:jd st (.ld 0 (.t t) inf.size (z8 dsc))=some A)(hc:A.copyable=true):
    ∃v,(Uv a.tmps (.cell t ty)).run P E.w= .ok v E.w∧∀po,VRel E po A v:=by
  obtain⟨m,hm⟩:=gc (V++st.ts.map (·.1)++[N])
  have hN:N<m:=hm N (by simp)
  let r:Array Value:=Array.replicate (m+1 - N) undef
  let a':Act:={tmps:=a.tmps++r,defers:=[]}
  have R':zi E (N+r.size) V st a'.tmps:=R.ext r
  have hs:N+r.size=m+1:=by simp[r];omega
  rw[hs] at R'
  have F:zo (m+1) V st m:=⟨Nat.lt_succ_self m,fun hv=>Nat.lt_irrefl _ (hm m (by simp[hv])),fun ht=>Nat.lt_irrefl _ (hm m (by simp only[List.mem_append];exact .inl (.inr ht)))⟩
  let o : Oper := { dst := some m, op := .load ty (.tmp t), type := 0, pos := "", after := #[], guard := none }
  obtain⟨v,rd,hrd,hy,R2⟩:=gq (P:=P) (o:=o) (d:=m) R' F hu hi (x:= .tmp t) (ox:= .t t) rfl rfl h
  obtain⟨b,k,hp⟩:=gz R (x:= .tmp t) (ox:= .t t) rfl h
  have hp':a'.eval (.tmp t)= .pointer (some ⟨b,k,none⟩):=by
    simp only[Act.eval] at hp⊢
    have hlt:t<a.tmps.size:=by
      rcases Nat.lt_or_ge t a.tmps.size with h'|h'
      · exact h'
      · simp[Array.getElem?_eq_none h',undef] at hp
    have e:a'.tmps[t]?=a.tmps[t]?:=Array.getElem?_append_left hlt
    rw[Array.getD_eq_getD_getElem?] at hp⊢
    rw[e]
    exact hp
  have hrun:=hy E.w fun c hc=>(hrd c hc).1
  have hrun2:(loadVar ty ⟨b,k,none⟩).run P E.w= .ok v E.w:=by
    simp only[execOp,o,hp',Instr.loadAt,Instr.sureAddr,Sem.run_bind,Sem.run_pure,Result.andThen_ok] at hrun
    cases hl:(loadVar ty ⟨b,k,none⟩).run P E.w with
    |ok u w=>rw[hl] at hrun;simp at hrun;rw[hrun.1,hrun.2]
    |halt x w=>rw[hl] at hrun;simp at hrun
  refine⟨v,?_,fun po=>?_⟩
  · have e:a.tmps.getD t undef= .pointer (some ⟨b,k,none⟩):=by
      simpa[Act.eval] using hp
    simp only[Uv,e,asAddr,Sem.run_bind,Sem.run_pure,Result.andThen_ok]
    exact hrun2
  · have hs:=R2.slots m
    rw[zb.get_putT,if_pos rfl] at hs
    obtain⟨u,h1,h2⟩:=hs.out (Z7 hc)
    rw[yU (by rw[R'.size];exact Nat.lt_succ_self m)] at h1
    cases h1
    exact h2.copy po hc
def uC :List Value→Value
 |[v]=>v
 |vs=> .tuple vs.toArray
theorem W8 {fn:Func}{tm:Array Value}{w:World}{vs:List Value}(h:(fn.results.toList.mapM (Uv tm)).run P w= .ok vs w):
    (results fn tm).run P w= .ok (uC vs) w:=by
  have e:results fn tm=(fn.results.mapM (Uv tm))>>=fun vs=>pure (if h:vs.size=1 then vs[0] else .tuple vs):=rfl
  rw[e,Array.mapM_eq_mapM_toList]
  simp only[Sem.run_bind,Sem.run_map,h,Result.andThen_ok,Sem.run_pure]
  congr 1
  match vs with
  |[]=>rfl
  |[v]=>rfl
  |v::u::l=>simp[uC]
theorem Qk :∀(rvs:List ResultVar) (rss:List Ql) {E:Env} {st st1:zb} {As:List za} (j:Nat) {l:List (Nat×za×Value)},rvs.map (Jm P)=rss.map some→zi E N V st a.tmps→wd rss st=some (As,st1)→yu L rss st=true→Xr E l→(∀y∈l,y.1<j)→
    ∃E1 vs,zi E1 N V st1 a.tmps∧Xr E1 l∧vs.length=As.length∧(∀(k:Nat) A v,As[k]?=some A→vs[k]?=some v→VRel E1 (some [9,j+k]) A v)∧zy L E E1∧E1.w=E.w∧(rvs.mapM (Uv a.tmps)).run P E.w= .ok vs E.w
  | [],[],E,st,st1,As,j,l,_,R,h,_,Fl,_=>by
    cases h
    exact⟨E,[],R,Fl,rfl,fun k A x hA=>by simp at hA,zy.refl E,rfl,by simp⟩
  |[],y::os,E,st,st1,As,j,l,hm,R,h,_,Fl,_=>by simp at hm
  |x::xs,[],E,st,st1,As,j,l,hm,R,h,_,Fl,_=>by simp at hm
  | .tmp t::xs,y::os,E,st,st1,As,j,l,hm,R,h,hq,Fl,hj=>by
    simp only[List.map_cons,List.cons.injEq,Jm,Option.some.injEq] at hm
    obtain⟨rfl,hm⟩:=hm
    unfold wd at h
    simp only[yu,Bool.and_eq_true] at hq
    split at h
    · rename_i A st2 hu
      simp only[hu] at hq
      split at h
      · rename_i As' st3 hr
        cases h
        obtain⟨E1,R1,F1,P1,hw1⟩:=Zv (L:=L) R (x:= .tmp t) rfl hu j Fl (fun y hy=>Nat.ne_of_lt (hj y hy)) hq.1
        obtain⟨E2,vs,R2,F2,hlen,hv,P2,hw2,hrun⟩:=Qk xs os (j+1) hm R1 hr hq.2 F1 (fun y hy=>by
          cases hy with
          |head=>exact Nat.lt_succ_self j
          |tail _ hy=>exact Nat.lt_succ_of_lt (hj y hy))
        refine⟨E2,a.eval (.tmp t)::vs,R2,fun y hy=>F2 y (.tail _ hy),by simp[hlen],fun k B x' hB hx'=>?_,P1.trans P2,hw2.trans hw1,?_⟩
        · cases k with
          | zero=>
            simp at hB hx'
            subst hB hx'
            exact F2 _ (.head _)
          | succ k=>
            simp at hB hx'
            have:=hv k B x' hB hx'
            rwa [show j+(k+1)=j+1+k by omega]
        · rw[hw1] at hrun
          simp only[List.mapM_cons,Sem.run_bind,Uv,Sem.run_pure,Result.andThen_ok,hrun]
          rfl
      · cases h
    · cases h
  | .cell t ty::xs,y::os,E,st,st1,As,j,l,hm,R,h,hq,Fl,hj=>by
    simp only[List.map_cons,List.cons.injEq,Jm] at hm
    obtain⟨hy,hm⟩:=hm
    obtain⟨dsc,hu,hy⟩:=zf hy
    obtain⟨inf,hi,rfl⟩:=zn hy
    unfold wd at h
    split at h
    · rename_i A hA
      cases hc:A.copyable with
      |false=>rw[hc] at h;cases h
      | true=>
        rw[hc] at h
        simp only[cond_true] at h
        split at h
        · rename_i As' st2 hr
          cases h
          obtain⟨v,hrun1,hv1⟩:=UZ R hu hi hA hc
          obtain⟨E2,vs,R2,F2,hlen,hv,P2,hw2,hrun⟩:=Qk xs os (j+1) (l:=(j,A,v)::l) hm R hr hq (fun y hy=>by
            cases hy with
            |head=>exact hv1 _
            |tail _ hy=>exact Fl y hy) (fun y hy=>by
            cases hy with
            |head=>exact Nat.lt_succ_self j
            |tail _ hy=>exact Nat.lt_succ_of_lt (hj y hy))
          refine⟨E2,v::vs,R2,fun y hy=>F2 y (.tail _ hy),by simp[hlen],fun k B x' hB hx'=>?_,P2,hw2,?_⟩
          · cases k with
            | zero=>
              simp at hB hx'
              subst hB hx'
              exact F2 _ (.head _)
            | succ k=>
              simp at hB hx'
              have:=hv k B x' hB hx'
              rwa [show j+(k+1)=j+1+k by omega]
          · simp only[List.mapM_cons,Sem.run_bind,hrun1,Result.andThen_ok,hrun,Sem.run_pure]
        · cases h
    · cases h
theorem Up {A:za}(h:A.isAlias=false):A.root=none:=by
 cases A<;>first
  |rfl
  |cases h
theorem X0 :qe [3]:=⟨by simp,by simp⟩
theorem gw :qe [0]:=⟨by simp,by simp⟩
theorem gv :qe [9]:=⟨by simp,by simp⟩
theorem wc (hmix : P.follows .mixedOrders = true) {f : Nat} {fn : Func} {c : Code} {ac : zW} {rss : List Ql} {args : List za} {h : Heap} {Q : za → Heap → Prop} (hf : P.funcs[f]? = some fn) (hn : (fn.name != "runtime.NumGoroutine") = true) (hb : fn.body = some c)
    (hs:Zb P rs fn.ntmps V c=some ac) (hr:fn.results.toList.map (Jm P)=rss.map some) (hl:args.length≤fn.ntmps) (H:jx P rs fn.ntmps V L ac (ul L rss Q) (wK V args h)):zJ P L f args h Q:=by
  refine⟨by unfold qm;rw[hf];simp[hb];simpa using hn,fun E vs hT HR hsz hvs=>?_⟩
  let E0:=E.relab [3] [0]
  have P0:zy L E E0:=zk X0 gw fun r hr=>zN (by decide) [] r hr
  let tm0:Array Value:=vs++Array.replicate (fn.ntmps - vs.size) undef
  have hna:∀(k:Nat) A,args[k]?=some A→A≠ .dead→A.isAlias=false:=fun k A hA hd=>by
    have hlt:k<vs.size:=by rw[hsz];exact(List.getElem?_eq_some_iff.1 hA).1
    have:=hvs k A vs[k] hA (Array.getElem?_eq_getElem hlt)
    cases A<;>first
      |rfl
      |exact absurd rfl hd
      |cases this
  have hget:∀i,(wK V args h).get i=if i∈V then(args[i]?).getD .dead else .dead:=fun i=>by
    show ZM (zG [] i) (zG (V.map fun i=>(i,(args[i]?).getD .dead)) i)=_
    rw[Yi (fun i=>(args[i]?).getD .dead)]
    split<;>rfl
  have R0 : zi E0 fn.ntmps V (wK V args h) tm0:=by
    refine⟨?_,?_,HR.num,fun _ _=>List.not_mem_nil,Zx HR.lim,fun i A r hA hr'=>?_,fun i=>?_,fun id cs hcs=>?_⟩
    · simp only[tm0,Array.size_append,Array.size_replicate,hsz];omega
    · show(V.map fun i=>(i,(args[i]?).getD .dead)).map (·.1)=V
      rw[List.map_map]
      exact List.map_id'' (fun _=>rfl) V
    · rw[hget] at hA
      split at hA
      · cases ha:args[i]? with
        |none=>rw[ha] at hA;subst hA;cases hr'
        | some B=>
          rw[ha] at hA
          simp only[Option.getD_some] at hA
          subst hA
          by_cases hd:B= .dead
          · subst hd;cases hr'
          · have:=hna i B ha hd
            rw[Up this] at hr'
            cases hr'
      · subst hA;cases hr'
    · rw[hget]
      split
      · cases ha:args[i]? with
        |none=>trivial
        | some B=>
          simp only[Option.getD_some]
          by_cases hd:B= .dead
          · subst hd;trivial
          · have hlt:i<vs.size:=by rw[hsz];exact(List.getElem?_eq_some_iff.1 ha).1
            have h1:=hvs i B vs[i] ha (Array.getElem?_eq_getElem hlt)
            refine Zt.mk (v:=vs[i]) ?_ ((h1.moved [3] [0] [i]).2 rfl)
            simp only[tm0]
            rw[Array.getElem?_append_left hlt,Array.getElem?_eq_getElem hlt]
      · trivial
    · exact JU.keep (zI [3] [0]) (by rw[HR.num];exact(List.getElem?_eq_some_iff.1 hcs).1) (HR.objs id cs hcs) (zl (by decide))
  refine calls_of_wp hf hb ?_
  refine H hmix c hs _ E0 {tmps:=tm0,defers:=[]} (hT.pres P0) R0 (fun e E1 st1 a1 R1 hd P1 hk=>?_) (fun ch a w hq=>by obtain⟨_,v,r,h',E',he,_⟩:=hq;cases he)
  have fin:(yu L rss st1=true∧match wd rss st1 with|some (As,s')=>Q (XY As) s'.h|none=>False)→a1.defers=[]∧∃v,(results fn a1.tmps).run P E1.w= .ok v E1.w∧
      ∃v' r h' E',Ending.returned v= .returned v'∧E'.w=E1.w∧WI E' h'∧VRel E' (some [3]) r v'∧zy L E E'∧Q r h':=by
    rintro⟨hq,hk⟩
    split at hk
    · rename_i As s' hres
      obtain⟨E2,ws,R2,_,hlen,hv,P2,hw2,hrun⟩:=Qk (L:=L) fn.results.toList rss 0 (l:=[]) hr R1 hres hq (fun x hx=>by cases hx) (fun y hy=>by cases hy)
      refine⟨hd,uC ws,W8 hrun,uC ws,XY As,s'.h,?_⟩
      have multi:VRel (E2.relab [9] [3]) (some [3]) (.tup As) (.tuple ws.toArray):=by
        refine .tup _ _ _ (by simp[hlen]) fun k A v hA hv'=>?_
        have:=hv k A v hA (by simpa using hv')
        rw[Nat.zero_add] at this
        exact(this.moved [9] [3] [k]).2 rfl
      have R3:zi (E2.relab [9] [3]) fn.ntmps V s' a1.tmps:=R2.under (zI [9] [3]) (Zx R2.lim) rfl (fun _ _=>zl (by decide)) (fun _=>zl (by decide)) (fun _ _ _ _ _=>zl (by decide))
      have P3:zy L E (E2.relab [9] [3]):=((P0.trans P1).trans P2).trans (zk gv X0 fun r hr=>zN (by decide) [] r hr)
      match As,ws,hlen,hv,hk,multi with
      |[],[],_,_,hk,multi=>exact⟨E2.relab [9] [3],rfl,hw2,R3.hrel,multi,P3,hk⟩
      | [A],[v],_,hv,hk,_=>
        have h1:=hv 0 A v rfl rfl
        exact⟨E2.relab [9,0] [3],rfl,hw2,(R2.land [3]).hrel,h1.land [3],((P0.trans P1).trans P2).trans (zk (z6 _) X0 fun r hr=>zN (by decide) [0] r hr),hk⟩
      |A::B::As,v::u::ws,_,_,hk,multi=>exact⟨E2.relab [9] [3],rfl,hw2,R3.hrel,multi,P3,hk⟩
      |[],_::_,hl,_,_,_=>simp at hl
      |_::_,[],hl,_,_,_=>simp at hl
      |[_],_::_::_,hl,_,_,_=>simp at hl
      |_::_::_,[_],hl,_,_,_=>simp at hl
    · exact hk.elim
  cases e with
  |normal=>exact fin hk
  |ret=>exact fin hk
  |exit id=>exact hk.elim
end
end Go.Ga

namespace Go.Ga
open Go
def yG (P:Program):List ResultVar→Option (List Ql)
 |[]=>some []
 |x::l=>(Jm P x).bind fun y=>(yG P l).map fun r=>y::r
def XE (P:Program)(rs V:List Nat)(fn:Func):Option (zW×List Ql):=
 if (fn.name != "runtime.NumGoroutine") = true then fn.body.bind fun c => (Zb P rs fn.ntmps V c).bind fun ac => (yG P fn.results.toList).map fun rss => (ac, rss) else none
theorem yP {P:Program}:∀(l:List ResultVar) {rss:List Ql},yG P l=some rss→l.map (Jm P)=rss.map some
 |[],rss,h=>by cases h;rfl
 | x::l,rss,h=>by
   simp only[yG] at h
   obtain⟨y,hy,h⟩:=zf h
   obtain⟨r,hr,rfl⟩:=zn h
   simp[hy,yP l hr]
theorem yD {P:Program}(hmix:P.follows .mixedOrders=true){f:Nat}{fn:Func}{rs V:List Nat}{ac:zW}{rss:List Ql}(hf:P.funcs[f]?=some fn)(hs:XE P rs V fn=some (ac,rss)){L:List (List Nat)}{args:List za}{h:Heap}{Q:za→Heap→Prop}
    (hl:args.length≤fn.ntmps) (H:jx P rs fn.ntmps V L ac (ul L rss Q) (wK V args h)):zJ P L f args h Q:=by
  unfold XE at hs
  split at hs
  · rename_i hn
    obtain⟨c,hc,hs⟩:=zf hs
    obtain⟨ac',hac,hs⟩:=zf hs
    obtain⟨r,hr,he⟩:=zn hs
    cases he
    exact wc hmix hf hn hc hac (yP _ hr) hl H
  · cases hs
end Go.Ga

namespace Go.Ga
open Go
def Z1 (xs:List Nat):List za:=xs.map fun(n:Nat)=> .sc (.int .i64 (n:Int))
def ints (xs:List Int):List za:=xs.map fun n=> .sc (.int .i64 n)
theorem jN (xs:List Nat):(Z1 xs).length=xs.length:=by simp[Z1]
theorem VR (xs:List Int):(ints xs).length=xs.length:=by simp[ints]
theorem xf {xs:List Nat}{k:Nat}(h:k<xs.length):(Z1 xs)[k]?=some (.sc (.int .i64 ((xs.getD k 0:Nat):Int))):=by
 simp[Z1,List.getElem?_map,List.getElem?_eq_getElem h,h]
theorem VF (xs:List Nat)(k n:Nat):(Z1 xs).set k (.sc (.int .i64 (n:Int)))=Z1 (xs.set k n):=by
 simp[Z1,List.map_set]
theorem VP (xs:List Int)(k:Nat)(n:Int):(ints xs).set k (.sc (.int .i64 n))=ints (xs.set k n):=by
 simp[ints,List.map_set]
mutual
def za.plain :za→Bool
 | .sc _=>true
 | .agg cs=>za.plainL cs
 | .imm _ cs=>za.plainL cs
 | .ia cs=>za.plainL cs
 | .tup cs=>za.plainL cs
 | .fn _ as bs=>za.plainL as&&za.plainL bs
 | .iface _ A=>A.plain
 |_=>false
def za.plainL :List za→Bool
 |[]=>true
 |A::l=>A.plain&&za.plainL l
end
mutual
theorem y6 :∀A:za,A.plain=true→A.copyable=true
 | .sc _,_=>rfl
 | .agg cs,h=>by simp only[za.copyable];exact plain_copyableL cs h
 | .imm _ _,_=>rfl
 | .ia _,_=>rfl
 | .tup cs,h=>by simp only[za.copyable];exact plain_copyableL cs h
 | .fn _ _ _,_=>rfl
 | .iface _ _,_=>rfl
 | .own _ _,h=>by cases h
 | .sl _ _ _ _,h=>by cases h
 | .ptr _ _,h=>by cases h
 | .at_ _,h=>by cases h
 | .addr _ _,h=>by cases h
 | .dead,h=>by cases h
theorem plain_copyableL :∀l:List za,za.plainL l=true→za.copyableL l=true
 |[],_=>rfl
 | A::l,h=>by
   simp only[za.plainL,Bool.and_eq_true] at h
   simp only[za.copyableL,y6 A h.1,plain_copyableL l h.2,Bool.and_self]
end
mutual
theorem y5 :∀A:za,A.plain=true→A.ids0=true
 | .sc _,_=>rfl
 | .agg cs,h=>by simp only[za.ids0];exact plain_ids0L cs h
 | .imm _ cs,h=>by simp only[za.ids0];exact plain_ids0L cs h
 | .ia cs,h=>by simp only[za.ids0];exact plain_ids0L cs h
 | .tup cs,h=>by simp only[za.ids0];exact plain_ids0L cs h
 | .fn _ as bs,h=>by
   simp only[za.plain,Bool.and_eq_true] at h
   simp only[za.ids0,plain_ids0L as h.1,plain_ids0L bs h.2,Bool.and_self]
 | .iface _ A,h=>by simp only[za.ids0];exact y5 A h
 | .own _ _,h=>by cases h
 | .sl _ _ _ _,h=>by cases h
 | .ptr _ _,h=>by cases h
 | .at_ _,h=>by cases h
 | .addr _ _,h=>by cases h
 | .dead,h=>by cases h
theorem plain_ids0L :∀l:List za,za.plainL l=true→za.ids0L l=true
 |[],_=>rfl
 | A::l,h=>by
   simp only[za.plainL,Bool.and_eq_true] at h
   simp only[za.ids0L,y5 A h.1,plain_ids0L l h.2,Bool.and_self]
end
theorem jj {α:Type}(f:α→Value)(xs:List α):za.plainL (xs.map fun x=> .sc (f x))=true∧za.flatL (xs.map fun x=> .sc (f x))=true:=by
 induction xs with
 |nil=>exact⟨rfl,rfl⟩
 |cons x xs ih=>simp only[List.map_cons,za.plainL,za.plain,za.flatL,za.flat,ih,Bool.and_self,and_self]
theorem JN (xs:List Nat):za.plainL (Z1 xs)=true:=(jj _ xs).1
theorem wA (xs:List Nat):za.flatL (Z1 xs)=true:=(jj _ xs).2
theorem Qf (xs:List Int):za.plainL (ints xs)=true:=(jj _ xs).1
theorem UL (xs:List Int):za.flatL (ints xs)=true:=(jj _ xs).2
theorem xg (xs:List Nat):za.cellOkL (Z1 xs)=true:=by
 induction xs with
 |nil=>rfl
 |cons x xs ih=>exact(Bool.and_eq_true _ _).mpr ⟨rfl,ih⟩
theorem xp (xs:List Int):za.cellOkL (ints xs)=true:=by
 induction xs with
 |nil=>rfl
 |cons x xs ih=>exact(Bool.and_eq_true _ _).mpr ⟨rfl,ih⟩
theorem qV (xs:List Nat):za.copyableL (Z1 xs)=true:=plain_copyableL _ (JN xs)
theorem qW (xs:List Int):za.copyableL (ints xs)=true:=plain_copyableL _ (Qf xs)
theorem yn (xs:List Nat):za.freezeL (Z1 xs)=Z1 xs:=copyable_freezeL _ (qV xs)
theorem xo (xs:List Int):za.freezeL (ints xs)=ints xs:=copyable_freezeL _ (qW xs)
theorem QZ (xs:List Nat):za.ids0L (Z1 xs)=true:=plain_ids0L _ (JN xs)
theorem wF (xs:List Int):za.ids0L (ints xs)=true:=plain_ids0L _ (Qf xs)
theorem VG (g:Nat→Option Nat)(xs:List Nat):za.renL g (Z1 xs)=Z1 xs:=ids0_renL g _ (QZ xs)
theorem VQ (g:Nat→Option Nat)(xs:List Int):za.renL g (ints xs)=ints xs:=ids0_renL g _ (wF xs)
section
variable {P:Program} {rs:List Nat} {N:Nat} {V V1 V2:List Nat} {L:List (List Nat)} {x y:zW} {K:ZB→zb→Prop} {st:zb} {gs:List zu} {t:ZV} {i j d:Nat}
theorem ZH (h:∀Y:zb→Prop,(∀s,K .normal (s.settle V2)→Y s)→qO P L Y gs (st.settle V1)):jx P rs N V L (.reg V1 gs V2) K st:=uA (h _ fun _ h=>h)
theorem zc (h:∀Y:zb→Prop,(∀s,jx P rs N V L y K (s.settle V2)→Y s)→qO P L Y gs (st.settle V1)):jx P rs N V L (.seq (.reg V1 gs V2) y) K st:=w7 (uA (h _ fun _ h=>h))
theorem jf (h:∀Y:zb→Prop,(∀s,jx P rs N V L y K (s.settle V2)→Y s)→ZI P Y t [([],L)] (st.settle V1)):jx P rs N V L (.seq (.draw V1 t V2) y) K st:=w7 (v8 (h _ fun _ h=>h))
theorem zh (h:∀X:ZB→zb→Prop,(∀s,jx P rs N V L y K s→X .normal s)→(∀i s,K (.exit i) s→X (.exit i) s)→(∀s,K .ret s→X .ret s)→jx P rs N V L x X st):jx P rs N V L (.seq x y) K st:=
 w7 (h _ (fun _ h=>h) (fun _ _ h=>h) fun _ h=>h)
theorem Ze (h:∀X:ZB→zb→Prop,(∀s,K .normal s→X .normal s)→(∀s,K .normal s→X (.exit i) s)→(∀j s,j≠i→K (.exit j) s→X (.exit j) s)→(∀s,K .ret s→X .ret s)→jx P rs N V L x X st):jx P rs N V L (.blk i x) K st:=
 Kd (h _ (fun _ h=>h) (fun _ h=>(if_pos rfl).mpr h) (fun j _ hj h=>(if_neg hj).mpr h) fun _ h=>h)
theorem vH (I:Nat→zb→Prop)(n:Nat)(h0:I n st)(h:∀n s,I n s→∀X:ZB→zb→Prop,(∀m s,m<n→I m s→X .normal s)→(∀i s,K (.exit i) s→X (.exit i) s)→(∀s,K .ret s→X .ret s)→jx P rs N V L x X s):jx P rs N V L (.loop x) K st:=
 v6 I n h0 fun n s hI=>h n s hI _ (fun m _ hm h=>⟨m,hm,h⟩) (fun _ _ h=>h) fun _ h=>h
theorem zA (h:K .ret st):jx P rs N V L .ret K st:=Kc h
theorem jF (h:K (.exit i) st):jx P rs N V L (.exit i) K st:=v7 h
theorem zz (h:K .normal st):jx P rs N V L .skip K st:=v1 h
theorem uY {c:zm}(hc:st.ev c= .sc (.bool true))(h1:jx P rs N V L x K st):jx P rs N V L (.cond c x y) K st:=W5 hc (fun _=>h1) fun h=>by cases h
theorem uZ {c:zm}(hc:st.ev c= .sc (.bool false))(h1:jx P rs N V L y K st):jx P rs N V L (.cond c x y) K st:=W5 hc (fun h=>by cases h) fun _=>h1
theorem kw {K:zb→Prop}:qO P L K [] st=K st:=rfl
theorem qL {K:zb→Prop}{g:zu}{rest:List zu}:qO P L K (g::rest) st=zZ P L (qO P L K rest) st g:=rfl
theorem Yq {K:zb→Prop}{b:Zy}:zZ P L K st (none,b)=(b.quiet L st=true∧Z0 P L K st b):=rfl
theorem wH {K:zb→Prop}{t:Nat}{want:Bool}{b:Zy}(h:st.get t= .sc (.bool want)):zZ P L K st (some (t,want),b)=(b.quiet L st=true∧Z0 P L K st b):=by
 have h1:want≠(!want):=by cases want<;>decide
 simp[zZ,h,h1]
theorem Yr {K:zb→Prop}{t d:Nat}{want:Bool}{b:Zy}(h:st.get t= .sc (.bool (!want)))(hd:b.dst=some d):zZ P L K st (some (t,want),b)=K (st.putT d (.sc (.tuple #[]))):=by
 have h1:(!want)≠want:=by cases want<;>decide
 simp[zZ,h,h1,hd]
theorem yo {K:zb→Prop}{t d:Nat}{want:Bool}{b:Zy}(h:st.get t= .sc (.tuple #[]))(hd:b.dst=some d):zZ P L K st (some (t,want),b)=K (st.putT d (.sc (.tuple #[]))):=by
 simp[zZ,h,hd]
theorem q9 {b:Zy}:(b.quiet [] st=true)=True:=by rw[Uw];exact eq_self true
theorem UD (j:Nat)(A:za)(l:List (Nat×za))(i:Nat):zG ((j,A)::l) i=if i=j then some A else zG l i:=rfl
theorem VK (i:Nat):zG [] i=none:=rfl
theorem vJ (j:Nat)(A B:za)(l:List (Nat×za))(i:Nat):Xt ((j,A)::l) i B=if i=j then(j,B)::l else(j,A)::Xt l i B:=rfl
theorem gL (vs ts:List (Nat×za))(h:Heap)(i:Nat):zb.get ⟨vs,ts,h⟩ i=ZM (zG ts i) (zG vs i):=rfl
theorem ua (A:za)(x:Option za):ZM (some A) x=A:=rfl
theorem ub (A:za):ZM none (some A)=A:=rfl
theorem VL :ZM none none= .dead:=rfl
theorem GP (st:zb)(i:Nat):st.ev (.t i)=st.get i:=rfl
theorem GR (st:zb)(v:Value):st.ev (.c v)= .sc v:=rfl
theorem GQ (st:zb)(g:Nat):st.ev (.f g)= .fn (.func g) [] []:=rfl
theorem Gs (st:zb)(i:Nat):st.evA (.t i)=(st.get i).here i:=rfl
theorem Gt (st:zb)(v:Value):st.evA (.c v)= .sc v:=rfl
theorem Gr (st:zb)(v:Value):st.evU (.c v)= .sc v:=rfl
theorem Gq (st:zb)(g:Nat):st.evU (.f g)= .fn (.func g) [] []:=rfl
theorem Uf (vs ts:List (Nat×za))(h:Heap)(V:List Nat):zb.settle ⟨vs,ts,h⟩ V=⟨V.map fun i=>(i,(ZM (zG ts i) (zG vs i)).cut V),[],h⟩:=rfl
theorem Kh (vs ts:List (Nat×za))(h:Heap)(d:Nat)(A:za):zb.putT ⟨vs,ts,h⟩ d A=⟨vs,(d,A)::ts,h⟩:=rfl
theorem Km (vs ts:List (Nat×za))(h:Heap)(f:za→Bool):zb.kill ⟨vs,ts,h⟩ f=⟨j7 f vs,j7 f ts,h⟩:=rfl
theorem ud (f:za→Bool)(j:Nat)(A:za)(l:List (Nat×za)):j7 f ((j,A)::l)=(j,bif f A then .dead else A)::j7 f l:=rfl
theorem UJ (f:za→Bool):j7 f []=[]:=rfl
def uz (vs ts:List (Nat×za))(h:Heap)(i:Nat)(A:za):Option za→zb
 |some _=>⟨vs,Xt ts i A,h⟩
 |none=>⟨Xt vs i A,ts,h⟩
theorem gj (vs ts:List (Nat×za))(h:Heap)(i:Nat)(A:za):zb.set ⟨vs,ts,h⟩ i A=uz vs ts h i A (zG ts i):=by
 unfold zb.set uz
 cases zG ts i<;>rfl
theorem XK (vs ts:List (Nat×za))(h:Heap)(i:Nat)(A B:za):uz vs ts h i A (some B)=⟨vs,Xt ts i A,h⟩:=rfl
theorem XL (vs ts:List (Nat×za))(h:Heap)(i:Nat)(A:za):uz vs ts h i A none=⟨Xt vs i A,ts,h⟩:=rfl
def uJ (i:Nat)(A:za):Option za→za
 |some B=>B
 | none=>match A with
   | .agg cs=>bif za.copyableL cs then .agg cs else .at_ [0,i]
   |A=>A.here i
theorem Gp (vs ts:List (Nat×za))(h:Heap)(i:Nat):zb.evU ⟨vs,ts,h⟩ (.t i)=uJ i (ZM (zG ts i) (zG vs i)) (zG ts i):=by
 show(match zG ts i with|some A=>A|none=>match ZM (zG ts i) (zG vs i) with| .agg cs=>bif za.copyableL cs then .agg cs else .at_ [0,i]|A=>A.here i)=_
 unfold uJ
 rfl
theorem uk (i:Nat)(A B:za):uJ i A (some B)=B:=rfl
theorem gP (v:Value):(za.sc v).cut V= .sc v:=rfl
theorem KB (cs:List za):(za.agg cs).cut V= .agg cs:=rfl
theorem Ky (sz:Nat)(cs:List za):(za.imm sz cs).cut V= .imm sz cs:=rfl
theorem Kx (hd:Option Nat)(cs:List za):(za.own hd cs).cut V= .own hd cs:=rfl
theorem gO (a b c e:Nat):(za.sl a b c e).cut V= .sl a b c e:=rfl
theorem Kw (a b:Nat):(za.ptr a b).cut V= .ptr a b:=rfl
theorem gR (cs:List za):(za.ia cs).cut V= .ia cs:=rfl
theorem gS (f:Fn)(a b:List za):(za.fn f a b).cut V= .fn f a b:=rfl
theorem UT (t:TypeId)(A:za):(za.iface t A).cut V= .iface t A:=rfl
theorem Kv (cs:List za):(za.tup cs).cut V= .tup cs:=rfl
theorem gQ (ks:List Int):(za.mp ks).cut V= .mp ks:=rfl
theorem kf :za.dead.cut V= .dead:=rfl
theorem KA (ks:List Nat):(za.at_ (0::i::ks)).cut V=bif V.contains i then .at_ (0::i::ks) else .dead:=rfl
theorem Kz (ks:List Nat):(za.at_ (1::ks)).cut V= .at_ (1::ks):=rfl
theorem UV (ks:List Nat)(k:Nat):(za.addr (0::i::ks) k).cut V=bif V.contains i then .addr (0::i::ks) k else .dead:=rfl
theorem UU (ks:List Nat)(k:Nat):(za.addr (1::ks) k).cut V= .addr (1::ks) k:=rfl
theorem Ko (v:Value):(za.sc v).here i= .sc v:=rfl
theorem V3 (cs:List za):(za.agg cs).here i= .agg cs:=rfl
theorem VY (sz:Nat)(cs:List za):(za.imm sz cs).here i= .imm sz cs:=rfl
theorem VZ (cs:List za):(za.own none cs).here i= .addr [0,i] 0:=rfl
theorem VX (sz:Nat)(cs:List za):(za.own (some sz) cs).here i= .at_ [0,i]:=rfl
theorem Kn (a b c e:Nat):(za.sl a b c e).here i= .sl a b c e:=rfl
theorem VW (a b:Nat):(za.ptr a b).here i= .ptr a b:=rfl
theorem Kq (cs:List za):(za.ia cs).here i= .ia cs:=rfl
theorem Kr (f:Fn)(a b:List za):(za.fn f a b).here i= .fn f a b:=rfl
theorem uf (t:TypeId)(A:za):(za.iface t A).here i= .iface t A:=rfl
theorem VV (cs:List za):(za.tup cs).here i= .tup cs:=rfl
theorem Kp (ks:List Int):(za.mp ks).here i= .mp ks:=rfl
theorem V0 (p:List Nat):(za.at_ p).here i= .at_ p:=rfl
theorem ug (p:List Nat)(k:Nat):(za.addr p k).here i= .addr p k:=rfl
theorem Ur (v:Value):(za.sc v).rootIs i=false:=rfl
theorem XV (cs:List za):(za.agg cs).rootIs i=false:=rfl
theorem XS (sz:Nat)(cs:List za):(za.imm sz cs).rootIs i=false:=rfl
theorem XR (hd:Option Nat)(cs:List za):(za.own hd cs).rootIs i=false:=rfl
theorem Uq (a b c e:Nat):(za.sl a b c e).rootIs i=false:=rfl
theorem XQ (a b:Nat):(za.ptr a b).rootIs i=false:=rfl
theorem Ut (cs:List za):(za.ia cs).rootIs i=false:=rfl
theorem Uu (f:Fn)(a b:List za):(za.fn f a b).rootIs i=false:=rfl
theorem Wa (t:TypeId)(A:za):(za.iface t A).rootIs i=false:=rfl
theorem XP (cs:List za):(za.tup cs).rootIs i=false:=rfl
theorem Us (ks:List Int):(za.mp ks).rootIs i=false:=rfl
theorem W7 :za.dead.rootIs i=false:=rfl
theorem XU (ks:List Nat):(za.at_ (0::j::ks)).rootIs i=(j==i):=rfl
theorem XT (ks:List Nat):(za.at_ (1::ks)).rootIs i=false:=rfl
theorem Wc (ks:List Nat)(k:Nat):(za.addr (0::j::ks) k).rootIs i=(j==i):=rfl
theorem Wb (ks:List Nat)(k:Nat):(za.addr (1::ks) k).rootIs i=false:=rfl
theorem G4 (st:zb)(i:Nat)(ks:List Nat):st.at (0::i::ks)=(st.get i).sub ks:=rfl
def gh (k:Nat)(ks:List Nat):Option (Option (List za))→Option za
 |some (some cs)=>(za.own none cs).sub (k::ks)
 |_=>none
theorem G3 (vs ts:List (Nat×za))(h:Heap)(id k:Nat)(ks:List Nat):zb.at ⟨vs,ts,h⟩ (1::id::k::ks)=gh k ks h[id]?:=by
 simp only[zb.at,gh]
 cases h[id]? with
 |none=>rfl
 |some x=>cases x<;>rfl
theorem Ua (k:Nat)(ks:List Nat)(cs:List za):gh k ks (some (some cs))=(za.own none cs).sub (k::ks):=rfl
def XD (ks:List Nat):Option za→Option za
 |some B=>B.sub ks
 |none=>none
theorem u9 (ks:List Nat)(B:za):XD ks (some B)=B.sub ks:=rfl
theorem kW (A:za):A.sub []=some A:=by cases A<;>rfl
theorem kV (hd:Option Nat)(cs:List za)(k:Nat)(ks:List Nat):(za.own hd cs).sub (k::ks)=XD ks cs[k]?:=by
 simp only[za.sub,za.kids,XD];cases cs[k]?<;>rfl
theorem kZ (cs:List za)(k:Nat)(ks:List Nat):(za.agg cs).sub (k::ks)=XD ks cs[k]?:=by
 simp only[za.sub,za.kids,XD];cases cs[k]?<;>rfl
theorem kU (cs:List za)(k:Nat)(ks:List Nat):(za.tup cs).sub (k::ks)=XD ks cs[k]?:=by
 simp only[za.sub,za.kids,XD];cases cs[k]?<;>rfl
def Y7 (cs:List za)(k:Nat)(ks:List Nat)(B:za):Option za→List za
 |some C=>cs.set k (C.setSub ks B)
 |none=>cs
theorem Ug (cs:List za)(k:Nat)(ks:List Nat)(B C:za):Y7 cs k ks B (some C)=cs.set k (C.setSub ks B):=rfl
theorem XI (A B:za):A.setSub [] B=B:=by cases A<;>rfl
theorem XH (hd:Option Nat)(cs:List za)(k:Nat)(ks:List Nat)(B:za):(za.own hd cs).setSub (k::ks) B= .own hd (Y7 cs k ks B cs[k]?):=by
 simp only[za.setSub,Y7];cases cs[k]?<;>rfl
theorem XJ (cs:List za)(k:Nat)(ks:List Nat)(B:za):(za.agg cs).setSub (k::ks) B= .agg (Y7 cs k ks B cs[k]?):=by
 simp only[za.setSub,Y7];cases cs[k]?<;>rfl
theorem XG (cs:List za)(k:Nat)(ks:List Nat)(B:za):(za.tup cs).setSub (k::ks) B= .tup (Y7 cs k ks B cs[k]?):=by
 simp only[za.setSub,Y7];cases cs[k]?<;>rfl
theorem gm (st:zb)(i:Nat)(ks:List Nat)(B:za):st.setAt (0::i::ks) B=st.set i ((st.get i).setSub ks B):=rfl
def gk (vs ts:List (Nat×za))(h:Heap)(id k:Nat)(ks:List Nat)(B:za):Option (Option (List za))→zb
 |some (some cs)=>⟨vs,ts,h.set id (some (Y7 cs k ks B cs[k]?))⟩
 |_=>⟨vs,ts,h⟩
theorem gl (vs ts:List (Nat×za))(h:Heap)(id k:Nat)(ks:List Nat)(B:za):zb.setAt ⟨vs,ts,h⟩ (1::id::k::ks) B=gk vs ts h id k ks B h[id]?:=by
 simp only[zb.setAt,gk]
 cases h[id]? with
 |none=>rfl
 | some x=>cases x with
   |none=>rfl
   |some cs=>simp only[Y7];cases cs[k]?<;>rfl
theorem Uh (vs ts:List (Nat×za))(h:Heap)(id k:Nat)(ks:List Nat)(B:za)(cs:List za):gk vs ts h id k ks B (some (some cs))=⟨vs,ts,h.set id (some (Y7 cs k ks B cs[k]?))⟩:=rfl
theorem uc (st:zb):st.kill (fun _=>false)=st:=by
 have:∀l:List (Nat×za),j7 (fun _=>false) l=l:=fun l=>by
  induction l with
  |nil=>rfl
  |cons x l ih=>obtain⟨i,A⟩:=x;simp[j7,ih]
 simp[zb.kill,this]
theorem V4 {gb:Nat→Option Nat}{h':Heap}:Ys [] L gb h'=fun _=>false:=by
 funext A
 unfold Ys
 split
 · simp[jb]
 · simp[jb]
 · rfl
theorem W4 {gb:Nat→Option Nat}{h':Heap}:∀(i:Nat) (l:Heap),qN (jb []) gb h' i l=l
 |_,[]=>rfl
 | i,o::l=>by
   have ih:=W4 (gb:=gb) (h':=h') (i+1) l
   simp only[qN,ih]
   rfl
def we (st:zb):List (zm×Bool)→List za
 |[]=>[]
 |(x,_)::xs=>ky st [] true x::we st xs
theorem wi :∀(args:List (zm×Bool)),∃As,st.useL (QV args [])=some (As,st)∧As.length=args.length∧st.useLQ L (QV args [])=true
 |[]=>⟨[],rfl,rfl,rfl⟩
 | (x,b)::xs=>by
   obtain⟨As,h1,h2,h3⟩:=wi xs
   refine⟨.sc (.bool false)::As,?_,by simp[h2],?_⟩
   · simp only[QV,List.headD_nil,List.tail_nil,zb.useL,zb.use,zb.evU,za.copyable,cond_true,h1]
   · simp only[QV,List.headD_nil,List.tail_nil,zb.useLQ,zb.useQ,zb.use,zb.evU,za.copyable,cond_true,h3,Bool.and_self]
theorem yq {st0:zb}:∀(args:List (zm×Bool)) (As:List za),As.length=args.length→jh st0 st [] true none args [] As=we st args
 |[],[],_=>rfl
 |[],_::_,h=>by simp at h
 |_::_,[],h=>by simp at h
 | (x,b)::xs,A::As,h=>by
   simp only[jh,List.headD_nil,List.tail_nil,we,yq xs As (by simpa using h)]
theorem uv {f:zm}{args:List (zm×Bool)}{K:zb→Prop}{g:Nat}{first captured:List za}(hev:st.ev f= .fn (.func g) first captured)
    (H:zJ P [] g (Xs st.h [] true first++(we st args++Xs st.h [] true captured)) [] fun r h'=>h'=[]∧r.flat=true∧r.ids0=true∧K (st.putT d r)):qZ P L st d f args K:=by
  unfold qZ
  rw[hev]
  refine⟨[],[],true,none,?_⟩
  unfold Qj
  obtain⟨As,h1,h2,h3⟩:=wi (st:=st) (L:=L) args
  have hw:∀L:List (List Nat),zQ [] L=[]:=fun L=>by
    induction L with
    |nil=>rfl
    | cons r L ih=>
      unfold zQ
      split
      · rename_i heq;cases heq
      · rename_i heq;cases heq;simp[jb,ih]
      · rename_i heq;cases heq;exact ih
  simp only[yh,h1,yq _ _ h2,h3,WS,hw,Zc]
  refine⟨rfl,rfl,rfl,H.mono fun r h' ⟨e,hf,hi,hk⟩=>?_⟩
  subst e
  refine⟨Nat.le_refl _,fun _=>⟨hf,rfl⟩,?_⟩
  simp only[ja,zb.after,V4,uc,W4,Yo _ _ hi]
  simpa[qb] using hk
theorem vF {f:zm}{args:List (zm×Bool)}{K:zb→Prop}{g:Nat}{first captured:List za}(hev:st.ev f= .fn (.func g) first captured)(ms:List yF)(bo:List Nat)(ln:Bool)(pl:Option (List Nat))
    (H:Qj P L st d g first captured args ms bo ln pl K):qZ P L st d f args K:=by
  unfold qZ
  rw[hev]
  exact⟨ms,bo,ln,pl,H⟩
end
end Go.Ga

namespace Go.Ga
open Go
section
variable {P:Program} {L:List (List Nat)} {K:zb→Prop} {st st0 st1:zb} {d:Nat}
theorem KD {b:Zy}{rest:List zu}:qO P [] K ((none,b)::rest) st=Z0 P [] (qO P [] K rest) st b:=by
 rw[qL,Yq,q9,true_and]
theorem kx {t:Nat}{want:Bool}{b:Zy}{rest:List zu}(h:st.get t= .sc (.bool want)):qO P [] K ((some (t,want),b)::rest) st=Z0 P [] (qO P [] K rest) st b:=by
 rw[qL,wH h,q9,true_and]
theorem vC {t d:Nat}{want:Bool}{b:Zy}{rest:List zu}(h:st.get t= .sc (.bool (!want)))(hd:b.dst=some d):qO P [] K ((some (t,want),b)::rest) st=qO P [] K rest (st.putT d (.sc (.tuple #[]))):=by
 rw[qL,Yr h hd]
theorem ur {t d:Nat}{want:Bool}{b:Zy}{rest:List zu}(h:st.get t= .sc (.tuple #[]))(hd:b.dst=some d):qO P [] K ((some (t,want),b)::rest) st=qO P [] K rest (st.putT d (.sc (.tuple #[]))):=by
 rw[qL,yo h hd]
theorem u5 {wl:List ZX}:ZI P K .done wl st=K st:=rfl
theorem u3 {later:List Nat}{gd:Option (Nat×Bool)}{o:Xw}{t:ZV}{wl:List ZX}:ZI P K (.take later (gd,.r o) t) wl st=zZ P [] (ZI P K t ((later,jK st o)::wl)) st (gd,.r o):=rfl
theorem vO {i:Nat}{g:zu}{t:ZV}{wl:List ZX}:ZI P K (.one i g t) wl st=zZ P (jq (z7 i wl)) (ZI P K t (z7 i wl)) st g:=rfl
theorem u4 {i:Nat}{g:zu}{l:List (Nat×zu)}{t:ZV}{wl:List ZX}:ZI P K (.many ((i,g)::l) t) wl st=zZ P [] (ZI P K (.many l t) (z7 i wl)) st g:=rfl
theorem XA {t:ZV}{wl:List ZX}:ZI P K (.many [] t) wl st=ZI P K t wl st:=rfl
theorem vN {i j:Nat}{g h:zu}{t u:ZV}{wl:List ZX}:ZI P K (.two i g t j h u) wl st=(zZ P (jq (z7 i wl)) (ZI P K t (z7 i wl)) st g∧zZ P (jq (z7 j wl)) (ZI P K u (z7 j wl)) st h):=rfl
theorem Xz {i j k:Nat}{g h m:zu}{t u v:ZV}{wl:List ZX}:ZI P K (.three i g t j h u k m v) wl st=(zZ P (jq (z7 i wl)) (ZI P K t (z7 i wl)) st g∧zZ P (jq (z7 j wl)) (ZI P K u (z7 j wl)) st h∧zZ P (jq (z7 k wl)) (ZI P K v (z7 k wl)) st m):=rfl
theorem w6 (cs:List za)(k:Nat)(A:za):zK cs k [A]=cs.set k A:=rfl
theorem ka {rss:List Ql}{Q:za→Heap→Prop}{s:zb}:ul [] rss Q .ret s=match wd rss s with
    |some (As,s')=>Q (XY As) s'.h
    |none=>False:=by
  simp only[ul,qM,true_and]<;>rfl
theorem UQ {rss:List Ql}{Q:za→Heap→Prop}{s:zb}:ul [] rss Q .normal s=match wd rss s with
    |some (As,s')=>Q (XY As) s'.h
    |none=>False:=by
  simp only[ul,qM,true_and]<;>rfl
theorem Zd {f:zm}{args:List (zm×Bool)}{g:Nat}{first captured As:List za}(hev:st.ev f= .fn (.func g) first captured)(hargs:Xs st.h [] true first++(we st args++Xs st.h [] true captured)=As)
    (H:zJ P [] g As [] fun r h'=>h'=[]∧r.flat=true∧r.ids0=true∧K (st.putT d r)):qZ P L st d f args K:=
  uv hev (by rw[hargs];exact H)
theorem Jt {f:zm}{args:List (zm×Bool)}{g:Nat}{first captured As args':List za}{x:Option (List Nat×Nat×List za)}{h0:Heap}{L':List (List Nat)}(ms:List yF)(bo:List Nat)(ln:Bool)(pl:Option (List Nat))
    (hev:st.ev f= .fn (.func g) first captured) (htake:yh st pl=some (x,st0)) (huse:st0.useL (QV args ms)=some (As,st1)) (hnd:qd bo=true) (hbo:bo.all (fun i=>decide (i<st1.h.length))=true)
    (hq:(WS L pl&&st0.useLQ L (QV args ms))=true) (hW:zQ bo L=L') (hargs:Xs st1.h bo ln first++(jh st st1 bo ln x args ms As++Xs st1.h bo ln captured)=args') (hin:Zc st1.h bo x=h0)
    (H:zJ P L' g args' h0 fun r h'=>h0.length≤h'.length∧(ln=true→r.flat=true∧QE h'=true)∧ja L d bo h0.length x st1 K r h'):qZ P L st d f args K:=by
  refine vF hev ms bo ln pl ?_
  unfold Qj
  rw[htake]
  simp only[]
  rw[huse]
  simp only[]
  refine⟨hnd,hbo,hq,?_⟩
  rw[hW,hargs,hin]
  exact H
end
attribute [go_sem] kF Xq kD zb.bnd wZ kG zb.cpyQ kE Xl Xn Xk zb.mputQ gQ Kp Us Xp zb.roomTo za.slQ za.isAgg yo ur List.getElem?_drop List.drop_drop kx vC kw Yq wH Yr Z0 jd Zh Zy.dst Xw.dst UD VK vJ gL ua ub VL GP GR GQ Gs Gt Gp Gr Gq uk uJ Uf Kh Km ud UJ gj XK XL zb.assign gP KB Ky Kx gO Kw gR gS UT Kv kf KA Kz UV UU Ko V3 VY VZ VX Kn VW Kq Kr uf VV V0 ug Ur XV XS XR Uq XQ Ut Uu Wa XP W7 XU XT Wc Wb za.copyable za.copyableL kJ zb.use zb.isNil zb.blank QY ZF cond_true cond_false List.map List.getElem?_cons_zero List.getElem?_cons_succ cellsOf Q4 Option.some.injEq List.contains_cons List.contains_nil Bool.or_false Bool.or_true Bool.true_or Bool.false_or Bool.and_true Bool.true_and wK Option.getD_some Option.getD_none XY List.length_cons List.length_nil u5 u3 vO vN Xz u4 XA z7 jq jK Zy.quiet G4 G3 Ua u9 kW kV kZ kU Ug XI XH XJ XG gm gl Uh zb.owned GH zb.stQ zb.useQ zb.useLQ zb.appQ za.cells w6 za.cellOkL za.cellOk za.aggCopy za.under List.isPrefixOf zb.storeObj za.inObj jN VR VF VP za.int? Wq uH WH List.filter_cons List.filter_nil List.flatMap_cons List.flatMap_nil List.all_cons List.all_nil clear Int.toNat_natCast Nat.mul_one Nat.add_one_le_iff Nat.zero_add Nat.add_zero true_and and_true List.length_map List.set_cons_zero List.set_cons_succ zb.useL List.append_nil List.nil_append List.cons_append List.singleton_append Bool.not_true Bool.not_false Bool.not_eq_true Bool.and_self Bool.or_self Bool.and_false Bool.false_and gf kI Xo kK kC kH YZ Xm zb.bound zb.dec Zi wJ List.drop_zero List.drop_succ_cons List.drop_nil List.take_succ_cons List.take_zero List.take_nil zb.lenOf zb.shareAt za.freeze za.freezeL zb.given zb.more zb.moreQ Option.map_some Option.map_none Int.natCast_nonneg beq_self_eq_true bne_self_eq_false List.getElem?_nil List.set_set KD q9 QV jh ky g6 gg Xs we Y3 Zc zQ qd jb yh WS qN qb QE zU Ys za.ren za.renL za.flat za.flatL za.ids0 za.ids0L za.plain za.plainL JN wA xg qV yn QZ VG Qf UL xp qW xo wF VQ wd XY ka UQ clear zb.forget List.headD_cons List.headD_nil List.tail_cons List.tail_nil Option.isNone_none Option.isNone_some Option.isSome_none Option.isSome_some za.isAlias List.isEmpty_nil List.isEmpty_cons
end Go.Ga

namespace Go.Ga
open Go
theorem Jq {α β:Type}{f g:α→Option β}:∀{l:List α} {r:List β},l.mapM f=some r→(∀x∈l,∀y∈r,f x=some y→g x=some y)→l.mapM g=some r
 |[],r,h,_=>by simpa using h
 | x ::l,r,h,hk=>by
   rw[List.mapM_cons] at h⊢
   cases hx:f x with
   |none=>rw[hx] at h;cases h
   | some y=>
     rw[hx] at h
     cases hr:l.mapM f with
     |none=>rw[hr] at h;cases h
     | some r'=>
       rw[hr] at h
       cases h
       rw[hk x (.head _) y (.head _) hx]
       have:=Jq hr fun z hz w hw=>hk z (.tail _ hz) w (.tail _ hw)
       rw[this]
       rfl
def KI (w w':World):Prop:=∀b,b<w.heap.size→w'.heap[b]?=w.heap[b]?
section
variable {H:Type} {enc:TypeId×Value→H} {P:Program} {w w':World}
theorem KI.cell (h:KI w w'){a:Addr}{v:Value}(hc:w.cell? a=some v):w'.cell? a=some v:=by
 have hb:a.block<w.heap.size:=World.block_lt_of_cell? w _ hc
 unfold World.cell? at hc⊢
 rw[h _ hb]
 exact hc
theorem KI.cells (h:KI w w'){base:Nat}{a:Addr}{n:Nat}{cs:List Value}(hc:w.cells? base a n=some cs):w'.cells? base a n=some cs:=by
 unfold World.cells? at hc⊢
 split at hc
 · rename_i hb
   rw[if_pos hb]
   exact Jq hc fun i _ v _ hv=>h.cell hv
 · cases hc
def ZA (P:Program)(S:List TypeId)(t:TypeId):Prop:=
 match P.underlying t with
 |some .bool=>True
 |some (.int _)=>True
 |some .string=>True
 |some (.slice e)=>0<P.cellsOf e∧e∈S
 |some (.struct fs)=>∀f∈fs.toList,f.type∈S
 |_=>False
theorem Y5 {S:List TypeId}(hO:KI w w'){sp:Nat→Bool}{r r':TypeId→List Value→Option (DataW H×List MemPlace)}{t:TypeId}{cs:List Value}{x:DataW H×List MemPlace}
    (hS:ZA P S t) (hr:∀t cs y,t∈S→r t cs=some y→(∀p∈y.2,sp p.block=true)→r' t cs=some y) (hsp:∀p∈x.2,sp p.block=true) (h:DataW.trodStep enc P w 0 (fun _=>true) true r t cs=some x):DataW.trodStep enc P w' 0 sp true r' t cs=some x:=by
  unfold DataW.trodStep at h⊢
  split at h
  case h_1=>exact h
  case h_2=>exact h
  case h_3=>exact h
  case h_4=>exact h
  case h_5=>exact h
  case h_6 e a hu=>unfold ZA at hS;rw[hu] at hS;exact hS.elim
  case h_7=>exact h
  case h_8 e a len cap hu=>
    unfold ZA at hS
    rw[hu] at hS
    obtain⟨hc,heS⟩:=hS
    simp only at h⊢
    split at h
    · rename_i hcond
      rw[if_pos hcond]
      simp only[if_true,Option.map_eq_some_iff,Option.bind_eq_some_iff] at h⊢
      obtain⟨elems,he,rest,hrest,rfl⟩:=h
      have hsub:∀y∈elems++rest,∀p∈y.2,sp p.block=true:=fun y hy p hp=>hsp p (List.mem_append_right _ (List.mem_flatMap.2 ⟨y,hy,hp⟩))
      have one:∀i y,y∈elems++rest→(w.cells? 0 (a.add (i*P.cellsOf e)) (P.cellsOf e)).bind (r e)=some y→(w'.cells? 0 (a.add (i*P.cellsOf e)) (P.cellsOf e)).bind (r' e)=some y:=fun i y hm hy=>by
        simp only[Option.bind_eq_some_iff] at hy⊢
        obtain⟨cs',hc,hy⟩:=hy
        exact⟨cs',hO.cells hc,hr _ _ _ heS hy (hsub y hm)⟩
      refine⟨elems,Jq he fun i _ y hy h=>one i y (List.mem_append_left _ hy) h,rest,?_,rfl⟩
      split
      · exact Jq hrest fun j _ y hy h=>one (len+j) y (List.mem_append_right _ hy) h
      · rename_i hns
        have hrow:(elems.length+rest.length)*P.cellsOf e=0∨0<(elems.length+rest.length)*P.cellsOf e:=Nat.eq_zero_or_pos _
        rcases hrow with h0|h0
        · have hl:elems.length+rest.length=0:=by
            rcases Nat.eq_zero_or_pos (elems.length+rest.length) with e0|e0
            · exact e0
            · have:=Nat.mul_pos e0 hc;omega
          have:rest=[]:=List.eq_nil_of_length_eq_zero (by omega)
          rw[this]
        · exfalso
          refine hns (hsp (.cell a.block (a.off+0)) (List.mem_append_left _ ?_))
          exact MemPlace.mem_row.2 ⟨0,h0,rfl⟩
    · cases h
  case h_9 fs hu=>
    unfold ZA at hS
    rw[hu] at hS
    split at h
    · rename_i hl
      rw[if_pos hl]
      simp only[Option.map_eq_some_iff] at h⊢
      obtain⟨xs,hx,rfl⟩:=h
      exact⟨xs,Jq hx fun f hf y hy h=>hr _ _ _ (hS f hf) h fun p hp=>hsp p (List.mem_flatMap.2 ⟨y,hy,hp⟩),rfl⟩
    · cases h
  case h_14 k e b hu=>unfold ZA at hS;rw[hu] at hS;exact hS.elim
  case h_10 n e hu=>unfold ZA at hS;rw[hu] at hS;exact hS.elim
  all_goals exact h
theorem wo {S:List TypeId}(hS:∀t∈S,ZA P S t)(hO:KI w w'){sp:Nat→Bool}:∀(n:Nat) (t:TypeId) (cs:List Value) (x:DataW H×List MemPlace),t∈S→DataW.trod enc P w 0 (fun _=>true) true n t cs=some x→(∀p∈x.2,sp p.block=true)→DataW.trod enc P w' 0 sp true n t cs=some x
 |0,_,_,_,_,h,_=>by simp[DataW.trod] at h
 | n+1,t,cs,x,ht,h,hsp=>by
   rw[DataW.trod_step] at h⊢
   exact Y5 hO (hS t ht) (wo hS hO n) hsp h
theorem Qp {S:List TypeId}(hS:∀t∈S,ZA P S t)(hO:KI w w'){sp:Nat→Bool}:∀{ts:List TypeId} {vs:List Value} {ds:List (DataW H)} {ps:List MemPlace},(∀t∈ts,t∈S)→DataW.TrodAll enc P w 0 (fun _=>true) true ts vs ds ps→(∀p∈ps,sp p.block=true)→DataW.TrodAll enc P w' 0 sp true ts vs ds ps
 |[],[],[],ps,_,h,_=>h
 | t::ts,v::vs,d::ds,ps,ht,⟨p,q,⟨fuel,h1⟩,h2,he⟩,hsp=>by
   subst he
   exact⟨p,q,⟨fuel,wo hS hO fuel t _ _ (ht t (.head _)) h1 fun x hx=>hsp x (List.mem_append_left _ hx)⟩,Qp hS hO (fun t h=>ht t (.tail _ h)) h2 fun x hx=>hsp x (List.mem_append_right _ hx),rfl⟩
end
end Go.Ga

namespace Go.Ga
open Go
inductive Sh (P:Program):TypeId→List za→Nat→Prop
 |bool (t:TypeId) (b:Bool) (hu:P.underlying t=some .bool):Sh P t [.sc (.bool b)] 1
 |int (t:TypeId) (k:IntKind) (n:Int) (hu:P.underlying t=some (.int k)) (hw:(Lit.int k n).wf=true):Sh P t [.sc (.int k n)] 1
 |string (t:TypeId) (s:ByteArray) (hu:P.underlying t=some .string):Sh P t [.sc (.string s)] (s.size+1)
 |slice (t e:TypeId) (L:List (List za×Nat)) (more:Nat) (hu:P.underlying t=some (.slice e)) (hl:∀x∈L,x.1.length=P.cellsOf e) (h:∀x∈L,Sh P e x.1 x.2):Sh P t [.imm (P.cellsOf e) (L.map (·.1)).flatten] (1+(L.map (·.2)).sum+more)
 |struct (t:TypeId) (fs:Array Field) (L:List (List za×Nat)) (hu:P.underlying t=some (.struct fs)) (hl:L.length=fs.size) (h:∀(i:Nat) f x,fs[i]?=some f→L[i]?=some x→Sh P f.type x.1 x.2):Sh P t (L.map (·.1)).flatten (1+(L.map (·.2)).sum)
 |other (t:TypeId) (n b:Nat) (h1:∀k,P.underlying t≠some (.int k)) (h2:P.underlying t≠some .bool) (h3:P.underlying t≠some .string) (h4:∀e,P.underlying t≠some (.slice e)) (h5:∀fs,P.underlying t≠some (.struct fs)):Sh P t (List.replicate n .dead) b
mutual
def Z2 {H:Type}:DataW H→Nat
 | .lit (.string bytes)=>bytes.length+1
 | .lit _=>1
 | .nil=>1
 | .ptr d=>Z2 d+1
 | .slice elems spare=>bulkL elems+bulkL spare+1
 | .agg parts=>bulkL parts+1
 | .iface _ d=>Z2 d+1
 | .map entries=>bulkE entries+1
 | .held _=>1
def bulkL {H:Type}:List (DataW H)→Nat
 |[]=>0
 |d::r=>Z2 d+bulkL r
def bulkE {H:Type}:List (Lit×DataW H)→Nat
 |[]=>0
 |x::r=>bulk1 x+bulkE r
def bulk1 {H:Type}:Lit×DataW H→Nat
 |(.string bytes,d)=>bytes.length+Z2 d+1
 |(_,d)=>Z2 d+1
end
def yN (P:Program):Nat→List Field→Option Nat
 |n,[]=>some n
 |n,f::fs=>if f.offset=n then yN P (n+P.cellsOf f.type) fs else none
def Env.plain (w:World):Env:=⟨w,fun _=>none,fun _=>0,fun _=>0,fun _=>0,0⟩
theorem yH {α β:Type}{f:α→Option β}:∀{l:List α} {r:List β},l.mapM f=some r→r.length=l.length∧∀(i:Nat) x,l[i]?=some x→∃y,r[i]?=some y∧f x=some y
 |[],r,h=>by simp at h;subst h;exact⟨rfl,fun i x hx=>by simp at hx⟩
 | a ::l,r,h=>by
   rw[List.mapM_cons] at h
   cases hx:f a with
   |none=>rw[hx] at h;cases h
   | some y=>
     rw[hx] at h
     cases hr:l.mapM f with
     |none=>rw[hr] at h;cases h
     | some r'=>
       rw[hr] at h
       cases h
       obtain⟨h1,h2⟩:=yH hr
       refine⟨by simp[h1],fun i x hi=>?_⟩
       cases i with
       |zero=>simp at hi;subst hi;exact⟨y,rfl,hx⟩
       |succ i=>simpa using h2 i x (by simpa using hi)
theorem Yx {sz:Nat}(hsz:0<sz):∀{L:List (List za)},(∀l∈L,l.length=sz)→L.flatten.length=L.length*sz∧∀(k:Nat) A,L.flatten[k]?=some A→∃l,L[k / sz]?=some l∧l[k%sz]?=some A
 |[],_=>⟨by simp,fun k A h=>by simp at h⟩
 | l ::L,hl=>by
   obtain⟨h1,h2⟩:=Yx hsz (L:=L) fun x hx=>hl x (.tail _ hx)
   have hl0:=hl l (.head _)
   refine⟨by simp[h1,hl0,Nat.add_mul,Nat.add_comm],fun k A h=>?_⟩
   rw[List.flatten_cons,List.getElem?_append] at h
   split at h
   · rename_i hlt
     rw[hl0] at hlt
     rw[Nat.div_eq_of_lt hlt,Nat.mod_eq_of_lt hlt]
     exact⟨l,rfl,h⟩
   · rename_i hge
     rw[hl0] at hge h
     obtain⟨l',h3,h4⟩:=h2 _ A h
     have hk:k=(k - sz)+sz:=by omega
     rw[hk,Nat.add_div_right _ hsz,Nat.add_mod_right]
     exact⟨l',by simpa using h3,h4⟩
section
variable {H:Type} {enc:TypeId×Value→H} {P:Program} {w:World}
def Cells (w:World)(As:List za)(cs:List Value):Prop:=As.length=cs.length∧∀(k:Nat) A v,As[k]?=some A→cs[k]?=some v→VRel (Env.plain w) none A v
theorem jQ {A:za}{v:Value}(h:VRel (Env.plain w) none A v):Cells w [A] [v]:=⟨rfl,fun k B u hB hu=>by
 cases k with
 |zero=>cases hB;cases hu;exact h
 |succ k=>simp at hB⟩
theorem un (cs:List Value):Cells w (List.replicate cs.length .dead) cs:=⟨by simp,fun k A v hA _=>by
 rw[List.getElem?_replicate] at hA
 split at hA
 · cases hA;exact .dead _ _
 · cases hA⟩
structure wV (P:Program)(S:List TypeId):Prop where
 at_:∀t∈S,ZA P S t
 tile:∀t∈S,∀fs,P.underlying t=some (.struct fs)→yN P 0 fs.toList=some (P.cellsOf t)
theorem vx (l:List (DataW H)):bulkL l=(l.map Z2).sum:=by
 induction l with
 |nil=>rfl
 |cons x l ih=>simp[bulkL,ih]
theorem QG {R:TypeId→List za→Nat→Prop}:∀(fs:List Field) (n m:Nat) (cs:List Value) (xs:List (DataW H×List MemPlace)),yN P n fs=some m→m=cs.length→n≤cs.length→
    (∀(i:Nat) f y,fs[i]?=some f→xs[i]?=some y→∃As,R f.type As (Z2 y.1)∧Cells w As ((cs.drop f.offset).take (P.cellsOf f.type)))→xs.length=fs.length→
    ∃L:List (List za×Nat),L.length=fs.length∧(∀(i:Nat) f x,fs[i]?=some f→L[i]?=some x→R f.type x.1 x.2)∧(L.map (·.2)).sum=bulkL (xs.map (·.1))∧Cells w (L.map (·.1)).flatten (cs.drop n)
  | [],n,m,cs,xs,ht,hm,_,_,hl=>by
    cases ht
    have:xs=[]:=List.eq_nil_of_length_eq_zero (by simpa using hl)
    subst this
    subst hm
    exact⟨[],rfl,fun i f x h=>by simp at h,rfl,by simp[Cells]⟩
  |f::fs,n,m,cs,[],ht,hm,hn,h,hl=>by simp at hl
  | f ::fs,n,m,cs,y::xs,ht,hm,hn,h,hl=>by
    simp only[yN] at ht
    split at ht
    · rename_i ho
      obtain⟨As,hR,hc⟩:=h 0 f y rfl rfl
      rw[ho] at hc
      have hle:n+P.cellsOf f.type≤cs.length:=by
        have key:∀(fs:List Field) (a m:Nat),yN P a fs=some m→a≤m:=by
          intro fs
          induction fs with
          |nil=>intro a m h;cases h;exact Nat.le_refl _
          | cons g gs ih=>
            intro a m h
            simp only[yN] at h
            split at h
            · have:=ih _ _ h;omega
            · cases h
        have:=key _ _ _ ht
        omega
      obtain⟨L,h1,h2,h3,h4⟩:=QG fs (n+P.cellsOf f.type) m cs xs ht hm hle (fun i g z hg hz=>h (i+1) g z (by simpa using hg) (by simpa using hz)) (by simpa using hl)
      refine⟨(As,Z2 y.1)::L,by simp[h1],fun i g x hg hx=>?_,by simp[bulkL,h3],?_⟩
      · cases i with
        |zero=>simp at hg hx;subst hg;subst hx;exact hR
        |succ i=>exact h2 i g x (by simpa using hg) (by simpa using hx)
      · have hlen:((cs.drop n).take (P.cellsOf f.type)).length=P.cellsOf f.type:=by simp;omega
        have hA:As.length=P.cellsOf f.type:=hc.1.trans hlen
        refine⟨?_,fun k A v hA' hv=>?_⟩
        · have:=h4.1
          simp only[List.map_cons,List.flatten_cons,List.length_append,List.length_drop] at this⊢
          omega
        · simp only[List.map_cons,List.flatten_cons] at hA'
          rw[List.getElem?_append] at hA'
          split at hA'
          · rename_i hlt
            refine hc.2 k A v hA' ?_
            rw[List.getElem?_take_of_lt (by omega)]
            exact hv
          · rename_i hge
            refine h4.2 _ A v hA' ?_
            rw[List.getElem?_drop] at hv⊢
            rw[←hv]
            congr 1
            omega
    · cases ht
theorem q3 {S :List TypeId}(hP:wV P S):∀(n:Nat) (t:TypeId) (cs:List Value) (x:DataW H×List MemPlace),t∈S→DataW.trod enc P w 0 (fun _=>true) true n t cs=some x→∃As,Sh P t As (Z2 x.1)∧Cells w As cs
 |0,_,_,_,_,h=>by simp[DataW.trod] at h
 | n + 1, t, cs,x,ht,h=>by
   have hS:=hP.at_ t ht
   rw[DataW.trod_step] at h
   unfold DataW.trodStep at h
   have other:(∀k,P.underlying t≠some (.int k))→P.underlying t≠some .bool→P.underlying t≠some .string→(∀e,P.underlying t≠some (.slice e))→(∀fs,P.underlying t≠some (.struct fs))→∃As,Sh P t As (Z2 x.1)∧Cells w As cs:=
    fun h1 h2 h3 h4 h5=>⟨_,.other t cs.length _ h1 h2 h3 h4 h5,un cs⟩
   split at h
   case h_1 b hu=>cases h;exact⟨_,.bool t b hu,jQ (.sc _ _)⟩
   case h_2 k k' m hu=>
    split at h
    · rename_i hc
      obtain⟨rfl,hw⟩:=hc
      cases h
      exact⟨_,.int t _ m hu hw,jQ (.sc _ _)⟩
    · cases h
   case h_4 s hu=>
    split at h
    · cases h
      refine⟨_,?_,jQ (.sc _ _)⟩
      have e:Z2 (DataW.lit (H:=H) (.string s.data.toList))=s.size+1:=by
       simp only[Z2]
       rw[Array.length_toList]
       rfl
      show Sh P t _ (Z2 (DataW.lit (H:=H) (.string s.data.toList)))
      rw[e]
      exact .string t s hu
    · cases h
   case h_7 hu=> 
    rename_i e
    cases h
    have:=Sh.slice (P:=P) t e [] 0 hu (fun x hx=>by cases hx) (fun x hx=>by cases hx)
    exact⟨_,by simpa[Z2] using this,jQ (.immNil _ _ _)⟩
   case h_8 e a len cap hu=>
    simp only at h
    split at h
    · rename_i hcond
      obtain⟨_,hlc,_⟩:=hcond
      unfold ZA at hS
      rw[hu] at hS
      obtain⟨hsz,heS⟩:=hS
      simp only[if_true,Option.map_eq_some_iff,Option.bind_eq_some_iff] at h
      obtain⟨elems,he,rest,hrest,rfl⟩:=h
      obtain⟨e1,e2⟩:=yH he
      obtain⟨r1,r2⟩:=yH hrest
      simp only[List.length_range] at e1 r1
      have one:∀i y,elems[i]?=some y→∃As,Sh P e As (Z2 y.1)∧As.length=P.cellsOf e∧∀(k:Nat) A,As[k]?=some A→∃v,w.cell? ((a.add (i*P.cellsOf e)).add k)=some v∧VRel (Env.plain w) none A v:=by
       intro i y hy
       have hi:i<len:=by rw[←e1];exact(List.getElem?_eq_some_iff.1 hy).1
       obtain⟨y',hy',hr⟩:=e2 i i (by simp[hi])
       rw[hy] at hy'
       cases hy'
       simp only[Option.bind_eq_some_iff] at hr
       obtain⟨cs',hc,hr⟩:=hr
       obtain⟨_,hl',hcell⟩:=World.cells?_some hc
       obtain⟨As,hS,hA⟩:=q3 hP n _ _ _ heS hr
       refine⟨As,hS,hA.1.trans hl',fun k A hk=>?_⟩
       have hlt:k<cs'.length:=by rw[←hA.1];exact(List.getElem?_eq_some_iff.1 hk).1
       refine⟨cs'[k],?_,hA.2 k A _ hk (List.getElem?_eq_getElem hlt)⟩
       rw[hcell k (by omega)]
       exact List.getElem?_eq_getElem hlt
      have hL:∃L:List (List za×Nat),L.length=elems.length∧∀(i:Nat) z y,L[i]?=some z→elems[i]?=some y→Sh P e z.1 z.2∧z.2=Z2 y.1∧z.1.length=P.cellsOf e∧∀(k:Nat) A,z.1[k]?=some A→∃v,w.cell? ((a.add (i*P.cellsOf e)).add k)=some v∧VRel (Env.plain w) none A v:=by
       have key:∀(l:List (DataW H×List MemPlace)) (o:Nat),(∀i y,l[i]?=some y→elems[o+i]?=some y)→∃L:List (List za×Nat),L.length=l.length∧∀(i:Nat) z y,L[i]?=some z→l[i]?=some y→Sh P e z.1 z.2∧z.2=Z2 y.1∧z.1.length=P.cellsOf e∧∀(k:Nat) A,z.1[k]?=some A→∃v,w.cell? ((a.add ((o+i)*P.cellsOf e)).add k)=some v∧VRel (Env.plain w) none A v:=by
        intro l
        induction l with
        |nil=>intro o _;exact⟨[],rfl,fun i z y h=>by simp at h⟩
        | cons y0 l ih=>
          intro o hl
          obtain⟨L,h1,h2⟩:=ih (o+1) fun i y hy=>by
           have:=hl (i+1) y (by simpa using hy)
           rwa [show o+(i+1)=o+1+i by omega] at this
          obtain⟨As,h3,h4,h5⟩:=one (o+0) y0 (hl 0 y0 rfl)
          refine⟨(As,Z2 y0.1)::L,by simp[h1],fun i z y hz hy=>?_⟩
          cases i with
          |zero=>simp at hz hy;subst hz;subst hy;exact⟨h3,rfl,h4,h5⟩
          | succ i=>
            have:=h2 i z y (by simpa using hz) (by simpa using hy)
            rwa [show o+1+i=o+(i+1) by omega] at this
       have:=key elems 0 fun i y hy=>by rw[Nat.zero_add];exact hy
       simpa using this
      obtain⟨L,hl1,hl2⟩:=hL
      have hget:∀z∈L,∃i y,L[i]?=some z∧elems[i]?=some y:=fun z hz=>by
       obtain⟨i,hi⟩:=List.mem_iff_getElem?.1 hz
       have hlt:i<elems.length:=by rw[←hl1];exact(List.getElem?_eq_some_iff.1 hi).1
       exact⟨i,_,hi,List.getElem?_eq_getElem hlt⟩
      have hlen:∀z∈L,z.1.length=P.cellsOf e:=fun z hz=>by
       obtain⟨i,y,h1,h2⟩:=hget z hz
       exact(hl2 i z y h1 h2).2.2.1
      have hsum:(L.map (·.2)).sum=bulkL (elems.map (·.1)):=by
       rw[vx]
       congr 1
       apply List.ext_getElem?
       intro i
       rw[List.getElem?_map,List.getElem?_map,List.getElem?_map]
       cases hz:L[i]? with
       | none=>
         have:elems[i]?=none:=by rw[List.getElem?_eq_none_iff] at hz⊢;omega
         rw[this];rfl
       | some z=>
         have hlt:i<elems.length:=by rw[←hl1];exact(List.getElem?_eq_some_iff.1 hz).1
         have hy:=List.getElem?_eq_getElem hlt
         rw[hy]
         simp[(hl2 i z _ hz hy).2.1]
      have hS:=Sh.slice (P:=P) t e L (bulkL (rest.map (·.1))) hu hlen (fun z hz=>by
       obtain⟨i,y,h1,h2⟩:=hget z hz
       exact(hl2 i z y h1 h2).1)
      rw[hsum] at hS
      refine⟨_,?_,jQ (A:= .imm (P.cellsOf e) (L.map (·.1)).flatten) ?_⟩
      · simp only[Z2]
        rwa [show bulkL (elems.map (·.1))+bulkL (rest.map (·.1))+1=1+bulkL (elems.map (·.1))+bulkL (rest.map (·.1)) by omega]
      · by_cases h0:cap=0
        · have:L=[]:=List.eq_nil_of_length_eq_zero (by omega)
          subst this
          have hl0:len=0:=by omega
          subst hl0 h0
          exact .immNil _ _ _
        · 
          have hfirst:∃v,w.cell? a=some v:=by
           have hz:∃y cs',w.cells? 0 (a.add (0*P.cellsOf e)) (P.cellsOf e)=some cs'∧DataW.trod enc P w 0 (fun _=>true) true n e cs'=some y:=by
            by_cases hlen0:len=0
            · subst hlen0
              obtain⟨y,_,hr⟩:=r2 0 0 (by rw[List.getElem?_range (by omega)])
              simp only[Option.bind_eq_some_iff] at hr
              obtain⟨cs',hc,hr⟩:=hr
              exact⟨y,cs',hc,hr⟩
            · obtain⟨y,_,hr⟩:=e2 0 0 (by rw[List.getElem?_range (by omega)])
              simp only[Option.bind_eq_some_iff] at hr
              obtain⟨cs',hc,hr⟩:=hr
              exact⟨y,cs',hc,hr⟩
           obtain⟨y,cs',hc,_⟩:=hz
           obtain⟨_,hl',hcell⟩:=World.cells?_some hc
           have hlt:0<cs'.length:=by omega
           refine⟨cs'[0],?_⟩
           have:=hcell 0 hsz
           rw[List.getElem?_eq_getElem hlt] at this
           simpa[Addr.add] using this
          obtain⟨v0,hv0⟩:=hfirst
          obtain⟨b,o,sp⟩:=a
          have hspn:sp=none:=by
           cases sp with
           |none=>rfl
           | some s=>
             simp only[World.cell?] at hv0
             split at hv0
             · simp at hv0
             · cases hv0
          subst hspn
          have hb:b<w.heap.size:=World.block_lt_of_cell? w _ hv0
          obtain⟨f1,f2⟩:=Yx hsz (L:=L.map (·.1)) (fun l hl=>by
           obtain⟨z,hz,rfl⟩:=List.mem_map.1 hl
           exact hlen z hz)
          have hcell:∀(k:Nat) A,((L.map (·.1)).flatten)[k]?=some A→∃v,w.cell? ⟨b,o+k,none⟩=some v∧VRel (Env.plain w) none A v:=fun k A hk=>by
           obtain⟨l,h1,h2⟩:=f2 k A hk
           rw[List.getElem?_map] at h1
           obtain⟨z,hz,rfl⟩:=Option.map_eq_some_iff.1 h1
           have hlt:k / P.cellsOf e<elems.length:=by rw[←hl1];exact(List.getElem?_eq_some_iff.1 hz).1
           obtain⟨v,h3,h4⟩:=(hl2 _ z _ hz (List.getElem?_eq_getElem hlt)).2.2.2 _ A h2
           refine⟨v,?_,h4⟩
           rw[Addr.add_lit,Addr.add_lit] at h3
           have hk':o+k / P.cellsOf e*P.cellsOf e+k%P.cellsOf e=o+k:=by rw[Nat.add_assoc,Nat.mul_comm];congr 1;exact Nat.div_add_mod k _
           rwa [hk'] at h3
          refine .imm none _ _ b o len cap (fun k=>(w.cell? ⟨b,o+k,none⟩).getD undef) rfl hb ⟨hsz,by rw[f1];simp[hl1,e1]⟩ hlc (fun k A hk=>?_) fun k A hk=>?_
          · obtain⟨v,h1,_⟩:=hcell k A hk
            show w.cell? _=some ((w.cell? _).getD undef)
            rw[h1];rfl
          · obtain⟨v,h1,h2⟩:=hcell k A hk
            show VRel _ none A ((w.cell? _).getD undef)
            rw[h1];exact h2
    · cases h
   case h_9 fs hu=>
    split at h
    · rename_i hl
      simp only[Option.map_eq_some_iff] at h
      obtain⟨xs,hx,rfl⟩:=h
      obtain⟨e1,e2⟩:=yH hx
      obtain⟨L,h1,h2,h3,h4⟩:=QG (R:=Sh P) fs.toList 0 _ _ xs (hP.tile t ht fs hu) hl.symm (Nat.zero_le _) (fun i f y hf hy=>by
       obtain⟨y',hy',hr⟩:=e2 i f hf
       rw[hy] at hy'
       cases hy'
       exact q3 hP n _ _ _ (by unfold ZA at hS;rw[hu] at hS;exact hS f (List.mem_of_getElem? hf)) hr) e1
      refine⟨(L.map (·.1)).flatten,?_,by simpa using h4⟩
      have:=Sh.struct (P:=P) t fs L hu (by simpa using h1) (fun i f x hf hx=>h2 i f x (by simpa using hf) hx)
      rw[h3] at this
      simp only[Z2]
      rwa [Nat.add_comm]
    · cases h
   all_goals first
    |cases h;done
    |exact other (by simp[*]) (by simp[*]) (by simp[*]) (by simp[*]) (by simp[*])
end
end Go.Ga

namespace Go.Ga
open Go Go.ChangeShapes Go.WideShapes Go.RowKit
def gr (P:Program)(S:List TypeId):Bool:=
 S.all fun t=>match P.underlying t with
  |some .bool=>true
  |some (.int _)=>true
  |some .string=>true
  |some (.slice e)=>decide (0<P.cellsOf e)&&S.contains e
  |some (.struct fs)=>fs.toList.all (fun f=>S.contains f.type)&&(yN P 0 fs.toList==some (P.cellsOf t))
  |_=>false
theorem Vw {P:Program}{S:List TypeId}(h:gr P S=true):wV P S:=by
 refine⟨fun t ht=>?_,fun t ht fs hu=>?_⟩
 · have:=List.all_eq_true.1 h t ht
   unfold ZA
   cases hu:P.underlying t with
   |none=>rw[hu] at this;cases this
   | some d=>
     rw[hu] at this
     cases d with
     |bool=>trivial
     |int k=>trivial
     |string=>trivial
     | slice e=>
       simp only[Bool.and_eq_true,decide_eq_true_eq,List.contains_iff_mem] at this
       exact this
     | struct fs=>
       simp only[Bool.and_eq_true,List.all_eq_true,List.contains_iff_mem] at this
       exact this.1
     |_=>cases this
 · have:=List.all_eq_true.1 h t ht
   rw[hu] at this
   simp only[Bool.and_eq_true,beq_iff_eq] at this
   exact this.2
section
variable {H:Type} {enc:TypeId×Value→H} {P:Program}
theorem VO {W W':World}(hO:KI W W')(hos:W'.os=W.os)(hout:W'.output=W.output)(may:MemPlace→Prop):W.keptBut W' may:=by
 refine⟨hos,hout,fun i hi=>?_⟩
 rw[hO i hi]
 cases W.heap[i]? with
 |none=>rfl
 | some o=>cases o with
   |cells c t fr=>exact⟨rfl,rfl,rfl,fun _ _=>rfl⟩
   |map es clock=>exact .inr ⟨rfl,rfl⟩
   |_=>rfl
theorem JA {w:World}{sp:Nat→Bool}{gs:List (DataW H)}{ps:List MemPlace}(h:DataW.TrodVars enc P w sp [] gs ps):gs=[]∧ps=[]:=by
 cases gs with
 |nil=>exact⟨rfl,h⟩
 |cons=>cases h
theorem Ux {S:List TypeId}(hS:∀t∈S,ZA P S t){f:Func}{s:ChangeSpec}{W W':World}{args:Array Value}{ds gs:List (DataW H)}{before:List MemPlace}(hW:DataW.Whole enc P f.params.toList s.vars false W args.toList ds gs before)
    (hts:∀t∈f.params.toList,t∈S) (hv:s.vars=[]) (hres:(s.fn H (ds++gs)).results=[.lit (.bool true)]) (harg:(s.fn H (ds++gs)).args=ds) (hvr:(s.fn H (ds++gs)).vars=[]) {tb:TypeId} (hrt:f.resultTypes= #[tb]) (hb:P.underlying tb=some .bool) (hO:KI W W') (hos:W'.os=W.os) (hout:W'.output=W.output):
    s.post enc P f false true false false W args (.bool true) W':=by
  have hW':=hW
  obtain⟨p,q,hA,hV,hpq,hz,hn⟩:=hW
  rw[hv] at hV
  obtain⟨rfl,rfl⟩:=JA hV
  rw[List.append_nil] at hpq
  subst hpq
  have hres':∀(b:Nat) (sp:Nat→Bool) (hd:Bool),DataW.TrodAll enc P W' b sp hd f.resultTypes.toList ((Value.bool true).resultList f.resultTypes.size) (s.fn H (ds++[])).results []:=fun b sp hd=>by
    rw[hres,hrt]
    exact⟨[],[],⟨1,by simp[DataW.trod,hb,Value.cells]⟩,rfl,rfl⟩
  refine⟨ds,[],before,[],before,[],hW',hres' _ _ _,?_,?_,VO hO hos hout _,fun h=>by cases h⟩
  · rw[harg]
    exact Qp hS hO hts hA fun x hx=>by simpa using hW'.lt x hx
  · rw[hvr,hv];rfl
def SA (P:Program)(t:TypeId)(A:za)(b:Nat):Prop:=
 ((∃fs,P.underlying t=some (.struct fs))∧∃As,A= .agg As∧Sh P t As b)∨((∀fs,P.underlying t≠some (.struct fs))∧Sh P t [A] b)
inductive KH (P:Program):List TypeId→List za→Nat→Prop
 |nil:KH P [] [] 0
 |cons (t:TypeId) (A:za) (b:Nat) (ts:List TypeId) (As:List za) (c:Nat) (h:SA P t A b) (hr:KH P ts As c):KH P (t::ts) (A::As) (b+c)
theorem XB {S:List TypeId}(hP:wV P S){w:World}{base:Nat}{t:TypeId}{v:Value}{d:DataW H}{ps:List MemPlace}(hok:Value.okWide P w .any base t v)(ht:t∈S)(h:DataW.Trod enc P w 0 (fun _=>true) true t v d ps):
    ∃A,SA P t A (Z2 d)∧VRel (Env.plain w) none A v:=by
  obtain⟨fuel,h⟩:=h
  obtain⟨As,hS,hl,hc⟩:=q3 hP fuel t _ _ ht h
  have hna:∀n e,P.underlying t≠some (.array n e):=fun n e hu=>by
    have:=hP.at_ t ht
    unfold ZA at this
    rw[hu] at this
    exact this
  by_cases hs:∃fs,P.underlying t=some (.struct fs)
  · obtain⟨fs,hs⟩:=hs
    unfold Value.okWide at hok
    rw[hs] at hok
    obtain⟨cs,rfl,_,_⟩:=hok
    refine⟨.agg As,.inl ⟨⟨fs,hs⟩,As,rfl,hS⟩,.agg none As cs (by simpa[Value.cells] using hl.symm) fun k A v hA hv=>hc k A v hA (by simpa[Value.cells] using hv)⟩
  · have hns:∀fs,P.underlying t≠some (.struct fs):=fun fs e=>hs ⟨fs,e⟩
    have hv:v.cells= #[v]:=by
      cases v with
      | agg cs=>
        exfalso
        unfold Value.okWide at hok
        cases hu:P.underlying t with
        | none=>
          rw[hu] at hok
          simp[Cell.okWide,Cell.ok,hu] at hok
        | some dsc=>
          rw[hu] at hok
          cases dsc with
          |struct fs=>exact hns fs hu
          |array n e=>exact hna n e hu
          |_=>simp[Cell.okWide,Cell.ok,hu] at hok
      |_=>rfl
    rw[hv] at hl hc
    have:∃A,As=[A]:=by
      match As,hl with
      |[A],_=>exact⟨A,rfl⟩
    obtain⟨A,rfl⟩:=this
    exact⟨A,.inr ⟨hns,hS⟩,hc 0 A v rfl rfl⟩
theorem J4 {S:List TypeId}(hP:wV P S){w:World}{base:Nat}:∀{ts:List TypeId} {vs:List Value} {ds:List (DataW H)} {ps:List MemPlace},(∀(j:Nat) t v,ts[j]?=some t→vs[j]?=some v→Value.okWide P w .any base t v)→(∀t∈ts,t∈S)→
    DataW.TrodAll enc P w 0 (fun _=>true) true ts vs ds ps→∃As,KH P ts As (bulkL ds)∧As.length=vs.length∧∀(k:Nat) A v,As[k]?=some A→vs[k]?=some v→VRel (Env.plain w) none A v
  |[],[],[],ps,_,_,_=>⟨[],.nil,rfl,fun k A v h=>by simp at h⟩
  | t::ts,v::vs,d::ds,ps,hok,hna,⟨p,q,h1,h2,_⟩=>by
    obtain⟨A,hA,hv⟩:=XB hP (hok 0 t v rfl rfl) (hna t (.head _)) h1
    obtain⟨As,hAs,hl,hvs⟩:=J4 hP (fun j t' v' ht hv'=>hok (j+1) t' v' (by simpa using ht) (by simpa using hv')) (fun t ht=>hna t (.tail _ ht)) h2
    refine⟨A::As,.cons t A _ ts As _ hA hAs,by simp[hl],fun k B u hB hu=>?_⟩
    cases k with
    |zero=>simp at hB hu;subst hB;subst hu;exact hv
    |succ k=>exact hvs k B u (by simpa using hB) (by simpa using hu)
theorem wa {S:List TypeId}(hP:wV P S){f:Nat}{fn:Func}{s:ChangeSpec}{B:Nat}{W:World}{base:Nat}{args:Array Value}{ds gs:List (DataW H)}{before:List MemPlace}
    (hval:∀(j:Nat) t v,fn.params[j]?=some t→args[j]?=some v→Value.okWide P W .any base t v) (hna:∀t∈fn.params.toList,t∈S)
    (hW:DataW.Whole enc P fn.params.toList s.vars false W args.toList ds gs before) (hv:s.vars=[]) (hres:(s.fn H (ds++gs)).results=[.lit (.bool true)]) (harg:(s.fn H (ds++gs)).args=ds) (hvr:(s.fn H (ds++gs)).vars=[])
    {tb:TypeId} (hrt:fn.resultTypes= #[tb]) (hb:P.underlying tb=some .bool) (hbk:bulkL (ds++gs)≤B)
    (hT:jV P (Env.plain W)) (H0:∀As b,KH P fn.params.toList As b→b≤B→zJ P [] f As [] fun r _=>r= .sc (.bool true)):
    Calls P f args W fun e W'=>∃v,e= .returned v∧s.post enc P fn false true false false W args v W':=by
  have hW':=hW
  obtain⟨p,q,hA,hV,hpq,hz,hn⟩:=hW
  rw[hv] at hV
  obtain⟨rfl,rfl⟩:=JA hV
  obtain⟨As,hAs,hl,hvs⟩:=J4 hP (fun j t v ht hv'=>hval j t v (by simpa using ht) (by simpa using hv')) hna hA
  rw[List.append_nil] at hbk
  have hC:=(H0 As _ hAs hbk).2 (Env.plain W) args hT ⟨rfl,fun b q h=>(by cases h),fun id cs h=>(by simp at h)⟩ (by simpa using hl.symm) fun k A v hA' hv'=>(hvs k A v hA' (by simpa using hv')).any rfl _
  refine hC.mono fun e W' ⟨v,r,h',E',he,hw,_,hr,hp,hq⟩=>?_
  subst he hw hq
  cases hr
  refine⟨_,rfl,Ux hP.at_ hW' hna hv hres harg hvr hrt hb (fun b hlt=>(hp.old b rfl hlt).2) hp.os hp.output⟩
end
end Go.Ga

namespace Go.Ga
open Go
def Gj (n:Nat)(j:Nat):Option Nat:=if j<n then some j else none
theorem zJ.less {P:Program}{L L':List (List Nat)}{f:Nat}{args:List za}{h:Heap}{Q:za→Heap→Prop}(H:zJ P L f args h Q)(hL:∀r∈L',r∈L):zJ P L' f args h Q:=
 ⟨H.1,fun E vs h0 h1 h2 h3=>(H.2 E vs h0 h1 h2 h3).mono fun _ _ ⟨v,r,h',E',a,b,c,d,e,q⟩=>⟨v,r,h',E',a,b,c,d,⟨e.size,e.os,e.tape,e.output,e.old,e.far,e.farB,e.ids,fun b r hr=>e.keep b r ⟨hL r hr.1,hr.2⟩⟩,q⟩⟩
theorem zJ.nil {P:Program}{L:List (List Nat)}{f:Nat}{args:List za}{h:Heap}{Q:za→Heap→Prop}(H:zJ P L f args h Q):zJ P [] f args h Q:=H.less fun r hr=>by cases hr
attribute [go_sem] Gj
end Go.Ga

namespace Go.Ga
open Go
def zY {α:Type}(f:α→List za):List α→List za
 |[]=>[]
 |x::l=>f x++zY f l
section
variable {α:Type} {f:α→List za} {sz:Nat}
theorem qA (hf:∀x,(f x).length=sz):∀l:List α,(zY f l).length=l.length*sz
 |[]=>by simp[zY]
 |x::l=>by simp only[zY,List.length_append,hf,qA hf l,List.length_cons,Nat.add_mul];omega
theorem Qc (hf:∀x,(f x).length=sz):∀(l:List α) (k:Nat),(zY f l).drop (k*sz)=zY f (l.drop k)
 |[],k=>by simp[zY]
 |x::l,0=>by simp
 | x::l,k+1=>by
   simp only[zY,List.drop_succ_cons]
   rw[←Qc hf l k,Nat.add_mul,Nat.one_mul,List.drop_append,hf]
   rw[List.drop_of_length_le (by rw[hf];omega),List.nil_append]
   congr 1;omega
theorem Uy (hf:∀x,(f x).length=sz){l:List α}{k:Nat}{x:α}(h:l[k]?=some x)(r:Nat)(hr:r<sz):(zY f l)[k*sz+r]?=(f x)[r]?:=by
 rw[←List.getElem?_drop,Qc hf]
 have hlt:k<l.length:=(List.getElem?_eq_some_iff.1 h).1
 rw[List.drop_eq_getElem_cons hlt]
 have hx:l[k]=x:=by rw[List.getElem?_eq_getElem hlt] at h;exact Option.some.inj h
 rw[hx]
 simp only[zY]
 rw[List.getElem?_append_left (by rw[hf];exact hr)]
theorem xd (hf:∀x,(f x).length=sz){l:List α}{k:Nat}{x:α}(h:l[k]?=some x):((zY f l).drop (k*sz)).take sz=f x:=by
 rw[Qc hf]
 have hlt:k<l.length:=(List.getElem?_eq_some_iff.1 h).1
 rw[List.drop_eq_getElem_cons hlt]
 have hx:l[k]=x:=by rw[List.getElem?_eq_getElem hlt] at h;exact Option.some.inj h
 rw[hx]
 simp only[zY]
 rw[List.take_append_of_le_length (by rw[hf];exact Nat.le_refl _),List.take_of_length_le (by rw[hf];exact Nat.le_refl _)]
theorem j4 (h:∀x,za.plainL (f x)=true):∀l:List α,za.plainL (zY f l)=true
 |[]=>rfl
 | x::l=>by
   have app:∀a b:List za,za.plainL a=true→za.plainL b=true→za.plainL (a++b)=true:=fun a b ha hb=>by
    induction a with
    |nil=>exact hb
    |cons y a ih=>simp only[za.plainL,Bool.and_eq_true] at ha;simp only[List.cons_append,za.plainL,ha.1,ih ha.2,Bool.and_self]
   exact app _ _ (h x) (j4 h l)
theorem JL (h:∀x,za.flatL (f x)=true):∀l:List α,za.flatL (zY f l)=true
 |[]=>rfl
 | x::l=>by
   have app:∀a b:List za,za.flatL a=true→za.flatL b=true→za.flatL (a++b)=true:=fun a b ha hb=>by
    induction a with
    |nil=>exact hb
    |cons y a ih=>simp only[za.flatL,Bool.and_eq_true] at ha;simp only[List.cons_append,za.flatL,ha.1,ih ha.2,Bool.and_self]
   exact app _ _ (h x) (JL h l)
theorem jD (h:∀x,za.cellOkL (f x)=true):∀l:List α,za.cellOkL (zY f l)=true
 |[]=>rfl
 | x::l=>by
   have app:∀a b:List za,za.cellOkL a=true→za.cellOkL b=true→za.cellOkL (a++b)=true:=fun a b ha hb=>by
    induction a with
    |nil=>exact hb
    |cons y a ih=>simp only[za.cellOkL,Bool.and_eq_true] at ha;simp only[List.cons_append,za.cellOkL,ha.1,ih ha.2,Bool.and_self]
   exact app _ _ (h x) (jD h l)
end
def two (x:Int×Int):List za:=[.sc (.int .i64 x.1),.sc (.int .i64 x.2)]
theorem kS (x:Int×Int):(two x).length=2:=rfl
def GU (x:Int×Int×Int):List za:=[.sc (.int .i64 x.1),.sc (.int .i64 x.2.1),.sc (.int .i64 x.2.2)]
theorem kT (x:Int×Int×Int):(GU x).length=3:=rfl
abbrev Y4 (l:List (Int×Int)):List za:=zY two l
abbrev Y6 (l:List (Int×Int×Int)):List za:=zY GU l
theorem WM (l:List (Int×Int)):(Y4 l).length=l.length*2:=qA kS l
theorem WP (l:List (Int×Int×Int)):(Y6 l).length=l.length*3:=qA kT l
theorem q2 (l:List (Int×Int)):za.plainL (Y4 l)=true:=j4 (fun _=>rfl) l
theorem q4 (l:List (Int×Int×Int)):za.plainL (Y6 l)=true:=j4 (fun _=>rfl) l
theorem u0 (l:List (Int×Int)):za.flatL (Y4 l)=true:=JL (fun _=>rfl) l
theorem u6 (l:List (Int×Int×Int)):za.flatL (Y6 l)=true:=JL (fun _=>rfl) l
theorem WO (l:List (Int×Int)):za.cellOkL (Y4 l)=true:=jD (fun _=>rfl) l
theorem WR (l:List (Int×Int×Int)):za.cellOkL (Y6 l)=true:=jD (fun _=>rfl) l
theorem qQ (l:List (Int×Int)):za.copyableL (Y4 l)=true:=plain_copyableL _ (q2 l)
theorem qR (l:List (Int×Int×Int)):za.copyableL (Y6 l)=true:=plain_copyableL _ (q4 l)
theorem WN (l:List (Int×Int)):za.freezeL (Y4 l)=Y4 l:=copyable_freezeL _ (qQ l)
theorem WQ (l:List (Int×Int×Int)):za.freezeL (Y6 l)=Y6 l:=copyable_freezeL _ (qR l)
theorem wn (l:List (Int×Int)):za.ids0L (Y4 l)=true:=plain_ids0L _ (q2 l)
theorem wq (l:List (Int×Int×Int)):za.ids0L (Y6 l)=true:=plain_ids0L _ (q4 l)
theorem vM (g:Nat→Option Nat)(l:List (Int×Int)):za.renL g (Y4 l)=Y4 l:=ids0_renL g _ (wn l)
theorem vP (g:Nat→Option Nat)(l:List (Int×Int×Int)):za.renL g (Y6 l)=Y6 l:=ids0_renL g _ (wq l)
attribute [go_sem] WM WP q2 q4 u0 u6 WO WR qQ qR WN WQ wn wq vM vP
end Go.Ga

namespace Go.Ga
open Go
section
variable {P:Program} {rs:List Nat} {N:Nat} {V:List Nat} {L:List (List Nat)} {x:zW} {K:ZB→zb→Prop} {st:zb}
theorem Z3 (p:List Nat)(sz:Nat)(hp:st.at p=some (.sc (.slice none 0 0)))(h:jx P rs N V L x K ((st.kill (za.under p true)).setAt p (.own (some sz) []))):jx P rs N V L x K st:=
 QT (fun E tm R=>by
  obtain⟨u,hu,hr⟩:=R.at_ hp rfl
  cases hr
  have U:zM p E E:=⟨Nat.le_refl _,E.ids_refl,fun _ h _=>⟨h,rfl⟩,fun _ _ h _=>⟨h,rfl⟩⟩
  exact⟨E,R.turn (keep:=true) hp rfl (fun _=>⟨_,_,rfl⟩) U R.lim rfl hu (.ownNil _ sz),zy.refl E,rfl⟩) h
theorem zX (p:List Nat){sz:Option Nat}{cs:List za}(hp:st.at p=some (.own sz cs))(h:jx P rs N V L x K ((st.kill (za.under p false)).setAt p (za.own sz cs).freeze)):jx P rs N V L x K st:=
 QT (fun E tm R=>by
  obtain⟨u,hu,hr⟩:=R.at_ hp rfl
  have U:zM p E (E.freeze p):=jA p
  have hB:VRel (E.freeze p) (some p) (za.own sz cs).freeze u:=hr.frozen p _ fun ℓ e=>by cases e;exact List.prefix_refl _
  exact⟨_,R.turn (keep:=false) hp rfl (fun e=>by cases e) U (JO R.lim) rfl hu hB,j0 (Zo (zq hp)),rfl⟩) h
end
def ye (A' A:za):Prop:=∀E po v,VRel E po A' v→VRel E po A v
theorem ye.refl (A:za):ye A A:=fun _ _ _ h=>h
theorem ye.imm (sz:Nat):ye (.sc (.slice none 0 0)) (.imm sz []):=fun _ _ _ h=>by cases h;exact .immNil _ _ _
theorem ye.own (sz:Nat):ye (.sc (.slice none 0 0)) (.own (some sz) []):=fun _ _ _ h=>by cases h;exact .ownNil _ _
theorem ye.dead (A:za):ye A .dead:=fun _ _ v _=> .dead _ v
inductive Jv :List za→List za→Prop
 |nil:Jv [] []
 |cons {A' A:za} {l' l:List za} (h:ye A' A) (hl:Jv l' l):Jv (A'::l') (A::l)
theorem Jv.get :∀{l' l:List za},Jv l' l→l'.length=l.length∧∀(k:Nat) A,l[k]?=some A→∃A',l'[k]?=some A'∧ye A' A
 |_,_,.nil=>⟨rfl,fun k A h=>by simp at h⟩
 | _,_,.cons (A':=A') h hl=>by
   obtain⟨h1,h2⟩:=hl.get
   refine⟨by simp[h1],fun k A hA=>?_⟩
   cases k with
   |zero=>simp at hA;subst hA;exact⟨A',rfl,h⟩
   |succ k=>simp at hA;simpa using h2 k A hA
theorem Jv.refl :∀l:List za,Jv l l
 |[]=> .nil
 |A::l=> .cons (.refl A) (.refl l)
def jJ (l:List (List Nat)):List za:=l.map fun xs=> .own (some 1) (Z1 xs)
def jY (l:List (List Nat)):List za:=l.map fun xs=> .imm 1 (Z1 xs)
theorem Um (l:List (List Nat)):(jJ l).length=l.length:=by simp[jJ]
theorem Uo (l:List (List Nat)):(jY l).length=l.length:=by simp[jY]
theorem Uk (l:List (List Nat))(k:Nat)(x:List Nat):(jJ l).set k (.own (some 1) (Z1 x))=jJ (l.set k x):=by simp[jJ,List.map_set]
theorem Qu :∀l:List (List Nat),za.freezeL (jJ l)=jY l
 |[]=>rfl
 | x::l=>by
   have ih:=Qu l
   simp only[jJ,jY,List.map_cons,za.freezeL,za.freeze,yn] at ih⊢
   rw[ih]
theorem jX :∀l:List (List Nat),za.plainL (jY l)=true
 |[]=>rfl
 | x::l=>by
   have ih:=jX l
   simp only[jY,List.map_cons,za.plainL,za.plain,JN,Bool.true_and] at ih⊢
   exact ih
theorem Qw :∀l:List (List Nat),za.cellOkL (jY l)=true
 |[]=>rfl
 | x::l=>by
   have ih:=Qw l
   simp only[jY,List.map_cons,za.cellOkL,za.cellOk,Bool.true_and] at ih⊢
   exact ih
theorem Qv :∀l:List (List Nat),za.cellOkL (jJ l)=true
 |[]=>rfl
 | x::l=>by
   have ih:=Qv l
   simp only[jJ,List.map_cons,za.cellOkL,za.cellOk,Bool.true_and] at ih⊢
   exact ih
theorem yV :∀l:List (List Nat),za.flatL (jJ l)=true
 |[]=>rfl
 | x::l=>by
   have ih:=yV l
   simp only[jJ,List.map_cons,za.flatL,za.flat,wA,Bool.true_and] at ih⊢
   exact ih
theorem q8 :∀l:List (List Nat),za.ids0L (jJ l)=true
 |[]=>rfl
 | x::l=>by
   have ih:=q8 l
   simp only[jJ,List.map_cons,za.ids0L,za.ids0,QZ,Bool.true_and] at ih⊢
   exact ih
theorem qa (l:List (List Nat)):za.copyableL (jY l)=true:=plain_copyableL _ (jX l)
theorem w9 (l:List (List Nat)):za.freezeL (jY l)=jY l:=copyable_freezeL _ (qa l)
theorem yW (l:List (List Nat)):za.ids0L (jY l)=true:=plain_ids0L _ (jX l)
theorem Un (g:Nat→Option Nat)(l:List (List Nat)):za.renL g (jY l)=jY l:=ids0_renL g _ (yW l)
theorem Ul (g:Nat→Option Nat)(l:List (List Nat)):za.renL g (jJ l)=jJ l:=ids0_renL g _ (q8 l)
theorem wz (l:List Nat)(x:Nat):Z1 l++[.sc (.int .i64 (x:Int))]=Z1 (l++[x]):=by simp[Z1]
theorem GY (zs:List Value):zv zs 1=zs.map .sc++[]:=rfl
theorem GX (zs:List Value):zv zs 2=zs.map .sc++(zs.map .sc++[]):=rfl
theorem GW (zs:List Value):zv zs 3=zs.map .sc++(zs.map .sc++(zs.map .sc++[])):=rfl
attribute [go_sem] GY GX GW Um Uo Uk Qu jX Qw Qv yV q8 qa w9 yW Un Ul
end Go.Ga

namespace Go.Ga
open Go
section
variable {P:Program} {t:TypeId} {b:Nat}
theorem Kb {cs:List za}(hu:P.underlying t=some .bool)(h:Sh P t cs b):∃v,cs=[.sc (.bool v)]∧b=1:=by
 cases h with
 |bool _ v _=>exact⟨v,rfl,rfl⟩
 |int _ _ _ h'=>rw[hu] at h';cases h'
 |string _ _ h'=>rw[hu] at h';cases h'
 |slice _ _ _ _ h'=>rw[hu] at h';cases h'
 |struct _ _ _ h'=>rw[hu] at h';cases h'
 |other _ _ _ _ h2=>exact absurd hu h2
theorem gp {A:za}(hu:∀fs,P.underlying t≠some (.struct fs))(h:SA P t A b):Sh P t [A] b:=by
 rcases h with⟨⟨fs,h⟩,_⟩|⟨_,h⟩
 · exact absurd h (hu fs)
 · exact h
theorem Va {ts:List TypeId}{As:List za}(h:KH P (t::ts) As b):∃A As' c d,As=A::As'∧b=c+d∧SA P t A c∧KH P ts As' d:=by
 cases h with
 |cons _ A c _ As' d h hr=>exact⟨A,As',c,d,rfl,rfl,h,hr⟩
theorem Ke {As:List za}(h:KH P [] As b):As=[]:=by cases h;rfl
theorem Kf {A:za}(hu:P.underlying t=some .bool)(h:SA P t A b):∃v,A= .sc (.bool v):=by
 obtain⟨n,h1,_⟩:=Kb hu (gp (fun fs h=>by rw[hu] at h;cases h) h)
 exact⟨n,by injection h1⟩
end
end Go.Ga

namespace Go.Ga
open Go
end Go.Ga

namespace Go.Ga
open Go
def J2 (vs:List (Nat×za)):List (Nat×za)→List (Nat×za)
 |[]=>vs
 |(i,A)::l=>J2 (Xt vs i A) l
theorem zw (vs:List (Nat×za)):J2 vs []=vs:=rfl
theorem zp (vs:List (Nat×za))(i:Nat)(A:za)(l:List (Nat×za)):J2 vs ((i,A)::l)=J2 (Xt vs i A) l:=rfl
theorem GL (x y a b:za):zK [x,y] 0 [a,b]=[a,b]:=rfl
theorem GK (x y z a b c:za):zK [x,y,z] 0 [a,b,c]=[a,b,c]:=rfl
theorem Gg (n:Nat):n*2 / 2=n:=by omega
theorem GO (n:Nat):n*3 / 3=n:=by omega
theorem UN {k:Nat}(h:k<4611686018427387904):IntKind.i64.wrap ((k:Int)+1)=((k+1:Nat):Int):=by rw[IntWalk.i64_in _ (by omega)];omega
theorem G1 {α:Type}(x:α)[Decidable (x≠x)]:decide (x≠x)=false:=decide_eq_false (fun h=>h rfl)
theorem G2 {α:Type}(x:α)[Decidable (x=x)]:decide (x=x)=true:=decide_eq_true rfl
theorem Ku (a b c d:Int):qk [.sc (.int .i64 a),.sc (.int .i64 b)] [.sc (.int .i64 c),.sc (.int .i64 d)]=some (decide ((a,b)=(c,d))):=by
 simp[qk]
attribute [go_sem] Int.toNat_zero Int.toNat_one Nat.div_one Int.cast_ofNat_Int decide_true decide_false bne_self_eq_false Bool.not_false Bool.not_true Nat.zero_le or_self true_or or_true List.length_set List.length_range j8 Ku Option.bind_some YY GL GK Gg GO WM WP G1 G2 zw zp
theorem Jv.own {sz:Nat}{l' l:List za}(h:Jv l' l):ye (.own (some sz) l') (.own (some sz) l):=fun E po v hv=>by
 obtain⟨h1,h2⟩:=h.get
 cases hv with
 | own ℓ _ _ b o len cap arr T f hO hb hl hc hm ha hf hh=>
   refine .own ℓ sz l b o len cap arr T f hO hb (by rw[←h1];exact hl) hc hm ha (fun k A hA=>?_) fun k A hA=>?_
   · obtain⟨A',hA',_⟩:=h2 k A hA;exact hf k A' hA'
   · obtain⟨A',hA',hs⟩:=h2 k A hA;exact hs _ _ _ (hh k A' hA')
 | ownNil=>
   cases l with
   |nil=>exact .ownNil _ _
   |cons=>simp at h1
theorem Jv.imm {sz:Nat}{l' l:List za}(h:Jv l' l):ye (.imm sz l') (.imm sz l):=fun E po v hv=>by
 obtain⟨h1,h2⟩:=h.get
 cases hv with
 | imm _ _ _ b o len cap f hO hb hl hc hf hh=>
   refine .imm po sz l b o len cap f hO hb (by rw[←h1];exact hl) hc (fun k A hA=>?_) fun k A hA=>?_
   · obtain⟨A',hA',_⟩:=h2 k A hA;exact hf k A' hA'
   · obtain⟨A',hA',hs⟩:=h2 k A hA;exact hs _ _ _ (hh k A' hA')
 | immNil=>
   cases l with
   |nil=>exact .immNil _ _ _
   |cons=>simp at h1
theorem Jv.agg {l' l:List za}(h:Jv l' l):ye (.agg l') (.agg l):=fun E po v hv=>by
 obtain⟨h1,h2⟩:=h.get
 cases hv with
 | agg _ _ vs hs hh=>
   refine .agg po l vs (by rw[←h1];exact hs) fun k A v hA hv=>?_
   obtain⟨A',hA',hs'⟩:=h2 k A hA
   exact hs' _ _ _ (hh k A' v hA' hv)
section
variable {P:Program} {rs:List Nat} {N:Nat} {V:List Nat} {L:List (List Nat)} {x:zW} {K:ZB→zb→Prop} {st:zb}
end
def jz (xs:List Bool):List za:=xs.map fun b=> .sc (.bool b)
theorem vA (xs:List Bool):(jz xs).length=xs.length:=by simp[jz]
theorem vy (xs:List Bool)(k:Nat)(b:Bool):(jz xs).set k (.sc (.bool b))=jz (xs.set k b):=by
 simp[jz,List.map_set]
theorem qs (xs:List Bool):za.plainL (jz xs)=true:=(jj _ xs).1
theorem uq (xs:List Bool):za.flatL (jz xs)=true:=(jj _ xs).2
theorem QL :∀xs:List Bool,za.cellOkL (jz xs)=true
 |[]=>rfl
 |b::l=>by show(_&&za.cellOkL (jz l))=true;rw[QL l];rfl
theorem qt (xs:List Bool):za.copyableL (jz xs)=true:=plain_copyableL _ (qs xs)
theorem WG (xs:List Bool):za.freezeL (jz xs)=jz xs:=copyable_freezeL _ (qt xs)
theorem YN (xs:List Bool):za.ids0L (jz xs)=true:=plain_ids0L _ (qs xs)
theorem vz (g:Nat→Option Nat)(xs:List Bool):za.renL g (jz xs)=jz xs:=ids0_renL g _ (YN xs)
theorem up (n:Nat):zv [.bool false] n=jz (List.replicate n false):=by
 simp only[zv,List.map]
 induction n with
 |zero=>rfl
 |succ n ih=>simp only[List.replicate_succ,List.flatten_cons,ih];rfl
attribute [go_sem] vA vy qs uq QL qt WG YN vz up
section
variable {P:Program} {rs:List Nat} {N:Nat} {V:List Nat} {L:List (List Nat)} {K:ZB→zb→Prop} {x:zW}
theorem q1 {vs:List (Nat×za)}{h0:Heap}{α:Type}(J:List Nat)(f:α→List (Nat×za))(g:α→Heap)(inv:α→Nat→Prop)(a0:α)(n0:Nat)(hJ:(J.all fun i=>V.contains i)=true)
    (hs:zb.forget ⟨vs,[],h0⟩ J=⟨J2 vs (J.map (fun i=>(i,za.dead))++f a0),[],g a0⟩) (hi:inv a0 n0)
    (h:∀a n,inv a n→∀X:ZB→zb→Prop,(∀s a' m,m<n→s.forget J=⟨J2 vs (J.map (fun i=>(i,za.dead))++f a'),[],g a'⟩→inv a' m→X .normal s)→(∀i s,K (.exit i) s→X (.exit i) s)→(∀s,K .ret s→X .ret s)→
      jx P rs N V L x X ⟨J2 vs (J.map (fun i=>(i,za.dead))++f a),[],g a⟩):jx P rs N V L (.loop x) K ⟨vs,[],h0⟩:=by
  refine vH (fun n s=>∃a,inv a n∧s.forget J=⟨J2 vs (J.map (fun i=>(i,za.dead))++f a),[],g a⟩) n0 ⟨a0,hi,hs⟩ ?_
  rintro n s ⟨a,ha,hst⟩ X hn he hr
  refine XN J hJ ?_
  rw[hst]
  exact h a n ha X (fun s a' m hm hs' hi'=>hn m s hm ⟨a',hi',hs'⟩) he hr
end
end Go.Ga

namespace Go.Ga
open Go
section
variable {P:Program} {t:TypeId} {b:Nat}
end
end Go.Ga

namespace Go.Ga
open Go
section
variable {L:List (List Nat)} {E:Env} {N:Nat} {V:List Nat} {st:zb} {a:Act} {tm:Array Value}
end
section
variable {P:Program} {rs:List Nat} {N:Nat} {V:List Nat} {L:List (List Nat)} {x:zW} {K:ZB→zb→Prop} {st:zb}
end
end Go.Ga
attribute [go_sem] reduceIte Nat.reduceEqDiff Nat.reduceBEq reduceCtorEq Nat.reduceLT Nat.reduceLeDiff Nat.reduceAdd Nat.reduceSub Nat.reduceMul Nat.reduceDiv Int.reduceAdd Int.reduceNeg Int.reduceEq Int.reduceLT Int.reduceLE

namespace Go.Ga
open Go
end Go.Ga

namespace Go.Ga
open Go
theorem Qm {P:Program}{rs V:List Nat}{N:Nat}{L:List (List Nat)}{x y:zW}{K:ZB→zb→Prop}{st:zb}{c:zm}(h1:jx P rs N V L x K st)(hc:st.ev c= .sc (.bool true):=by first|rfl|(simp only[go_sem];try simp(disch:=omega) only[decide_eq_true,decide_eq_false])):jx P rs N V L (.cond c x y) K st:=uY hc h1
theorem QQ {P:Program}{rs V:List Nat}{N:Nat}{L:List (List Nat)}{x y:zW}{K:ZB→zb→Prop}{st:zb}{c:zm}(h1:jx P rs N V L y K st)(hc:st.ev c= .sc (.bool false):=by first|rfl|(simp only[go_sem];try simp(disch:=omega) only[decide_eq_true,decide_eq_false])):jx P rs N V L (.cond c x y) K st:=uZ hc h1
def vG (P:Program)(nt k:Nat)(rs V:List Nat)(rss:List Ql)(ac:zW)(f:Nat):Prop:=∀{L:List (List Nat)} {args:List za} {h:Heap} {Q:za→Heap→Prop},args.length=k→jx P rs nt V L ac (ul L rss Q) (wK V args h)→zJ P L f args h Q
theorem V5 {P:Program}(hmix:P.follows .mixedOrders=true){f:Nat}{fn:Func}{k:Nat}{rs V:List Nat}{ac:zW}{rss:List Ql}(hf:P.funcs[f]?=some fn)(hs:XE P rs V fn=some (ac,rss))(hk:Nat.ble k fn.ntmps=true):vG P fn.ntmps k rs V rss ac f:=
 fun hl H=>yD hmix hf hs (by rw[hl];exact Nat.le_of_ble_eq_true hk) H
def oM (a b:Nat):zu:=(none,.r (.mov a (.t b)))
def oS (a b:Nat):zu:=(none,.asg a (.t b) true)
def oI (a:Nat)(k:Int):zu:=(none,.asg a (.c (.int .i64 k)) true)
def oZ (a:Nat):zu:=(none,.asg a (.c (.slice none 0 0)) true)
def oO (a:Nat):zu:=(none,.asg a (.c (.bool false)) true)
def oL (a b k:Nat):zu:=(none,.r (.ld a (.t b) k false))
def oT (a b k:Nat):zu:=(none,.r (.ld a (.t b) k true))
def oF (a b k:Nat):zu:=(none,.r (.fldA a (.t b) k))
def oX (a b c k:Nat):zu:=(none,.r (.idxA a (.t b) (.t c) k))
def oN (a b:Nat):zu:=(none,.r (.nilck a (.t b)))
def oE (a b:Nat):zu:=(none,.r (.len a (.t b)))
def oB (a:Nat)(op:BinOp)(b:Nat)(k:Int):zu:=(none,.r (.bin a op 0 (.t b) (.c (.int .i64 k))))
def oD (a:Nat)(op:BinOp)(b c:Nat):zu:=(none,.r (.bin a op 0 (.t b) (.t c)))
def oC (a f x:Nat):zu:=(none,.call a (.f f) [(.t x,false)])
def VD (a f x y:Nat):zu:=(none,.call a (.f f) [(.t x,false),(.t y,false)])
def G0 (a f x y z:Nat):zu:=(none,.call a (.f f) [(.t x,false),(.t y,false),(.t z,false)])
def oP (a b c:Nat):zu:=(none,.r (.pick a (.t b) (.t c) (.c (.bool false))))
def oQ (a b c:Nat):zu:=(none,.r (.pick a (.t b) (.c (.bool true)) (.t c)))
def oW (a b k:Nat):zu:=(none,.st (.t a) (.t b) k)
def oY (a b k:Nat):zu:=(none,.r (.ext a (.t b) k))
def oK (g:Nat)(s:Bool)(a b:Nat):zu:=(some (g,s),.r (.mov a (.t b)))
def Xu (g:Nat)(s:Bool)(a b k:Nat):zu:=(some (g,s),.r (.ld a (.t b) k false))
def Xv (g:Nat)(s:Bool)(a:Nat)(op:BinOp)(b:Nat)(k:Int):zu:=(some (g,s),.r (.bin a op 0 (.t b) (.c (.int .i64 k))))
def kP (g:Nat)(s:Bool)(a:Nat)(op:BinOp)(b c:Nat):zu:=(some (g,s),.r (.bin a op 0 (.t b) (.t c)))
attribute [go_sem] oM oS oI oZ oO oL oT oF oX oN oE oB oD oC VD G0 oP oQ oW oY oK Xu Xv kP
end Go.Ga

namespace Go.Ga
open Go
theorem gn {E:Env}{po:Option (List Nat)}{u v:Value}(h:VRel E po (.sc u) v):u=v:=by
 generalize hA:za.sc u=A at h
 cases h<;>cases hA
 rfl
theorem yr {P:Program}{L:List (List Nat)}{f:Nat}(hc:qm P f=true){us:List Value}{v:Value}(H:∀w,Calls P f us.toArray w fun e w'=>e= .returned v∧w'=w):
    zJ P L f (us.map .sc) [] fun r h'=>r= .sc v∧h'=[]:=by
  refine⟨hc,fun E vs hT hH hs hv=>?_⟩
  have e:vs=us.toArray:=by
    apply Array.ext
    · simpa using hs
    · intro i h1 h2
      have h3:i<us.length:=by simpa using h2
      have:=hv i (.sc us[i]) vs[i] (by simp[h3]) (by simp[h1])
      rw[←gn this];simp
  subst e
  refine(H E.w).mono fun e w' ⟨h1,h2⟩=>?_
  subst h1 h2
  exact⟨v,.sc v,[],E,rfl,rfl,hH,.sc _ _,zy.refl E,rfl,rfl⟩
end Go.Ga

namespace Go.Ga
open Go
section
variable {P:Program} {t:TypeId} {b:Nat}
end
end Go.Ga

namespace Go.Ga
open Go Go.RowKit
end Go.Ga

namespace Go.Ga
open Go
section
variable {P:Program} {t:TypeId} {b:Nat}
theorem UG {W:World}:jV P (Env.plain W):=trivial
end
end Go.Ga
