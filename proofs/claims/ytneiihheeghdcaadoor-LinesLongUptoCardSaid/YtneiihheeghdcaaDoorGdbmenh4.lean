/- Values, objects, and code by what it leads to: a library of this claim's own. No condition. -/
import Derived.Test.YtneiihheeghdcaaDoorGdbmenh3
import Derived.Lib.AppendStr
set_option linter.all false

namespace Go.Ga
open Go
section
variable {L:List (List Nat)} {E:Env} {N:Nat} {V:List Nat} {st:zb} {a:Act} {P:Program} {o:Oper} {d:Nat} {t u e:TypeId} {i:TypeInfo} {z:Value} {x s:Operand} {ox os:zm}
def Env.stamp (E:Env)(b n:Nat):Env:={E with w:=E.w.freeze ⟨b,n,none⟩ 1}
theorem Z5 {w:World}{b b' n:Nat}(h:b'≠b):(w.freeze ⟨b,n,none⟩ 1).heap[b']?=w.heap[b']?:=by
 unfold World.freeze
 rw[if_neg (by decide)]
 simp only[Array.getElem?_modify]
 rw[if_neg (fun e=>h e.symm)]
theorem Jb {w:World}{b n:Nat}:(w.freeze ⟨b,n,none⟩ 1).heap.size=w.heap.size:=by
 unfold World.freeze
 rw[if_neg (by decide)]
 simp
theorem Jw.stamp {w:World}{b:Nat}{arr:Array Value}{T:TypeId}(h:Jw w b arr T):Jw (w.freeze ⟨b,arr.size,none⟩ 1) b arr T:=by
 obtain⟨⟨lo,hi⟩,h1,h2⟩:=h
 refine⟨if lo==hi then(arr.size,arr.size+1) else(min lo arr.size,max hi (arr.size+1)),?_,?_⟩
 · unfold World.freeze
   rw[if_neg (by decide)]
   simp only[Array.getElem?_modify,if_pos,h1,Option.map_some]
 · by_cases e:lo=hi
   · subst e;simp
   · have e2:(lo==hi)=false:=by simpa using e
     simp only[e2]
     simp only at h2
     left
     show arr.size≤min lo arr.size
     omega
theorem yf {b n:Nat}{p:List Nat}(hO:E.O b=some p):zM p E (E.stamp b n) where
 size:=by simp[Env.stamp,Jb]
 ids:=⟨Nat.le_refl _,fun _ _=>⟨rfl,rfl,rfl⟩⟩
 none_ b' hb' _:=⟨hb',Z5 fun e=>by rw[e,hO] at hb';cases hb'⟩
 else_ b' q hq hp:=⟨hq,Z5 fun e=>by rw[e,hO] at hq;cases hq;exact hp (List.prefix_refl _)⟩
theorem UE {b n:Nat}(hl:∀b q,E.O b=some q→b<E.w.heap.size):∀b' q,(E.stamp b n).O b'=some q→b'<(E.stamp b n).w.heap.size:=by
 intro b' q h
 simp only[Env.stamp,Jb]
 exact hl b' q h
theorem qi {w:World}{b n:Nat}:(w.freeze ⟨b,n,none⟩ 1).os=w.os∧(w.freeze ⟨b,n,none⟩ 1).tape=w.tape∧(w.freeze ⟨b,n,none⟩ 1).output=w.output:=by
 unfold World.freeze
 rw[if_neg (by decide)]
 exact⟨rfl,rfl,rfl⟩
theorem XX {b n:Nat}{p:List Nat}(hO:E.O b=some p)(hm:qe p)(hw:¬kL L p):zy L E (E.stamp b n) where
 size:=by simp[Env.stamp,Jb]
 os:=qi.1
 tape:=qi.2.1
 output:=qi.2.2
 old:=(yf hO).none_
 far b' r hb':=⟨hb',Z5 fun e=>by rw[e,hO] at hb';exact jO hm (List.prefix_refl _) r (Option.some.inj hb')⟩
 farB _ _ h:=h
 ids:=⟨Nat.le_refl _,fun _ _=>⟨rfl,rfl,rfl⟩⟩
 keep b' r hr hb' _:=⟨.inl hb',Z5 fun e=>by rw[e,hO] at hb';cases hb';exact hw hr⟩
theorem VRel.stampKeep {b n:Nat}{p:List Nat}(hO:E.O b=some p){k:Nat}{A:za}{v:Value}(h:VRel E (some (p++[k])) A v):VRel (E.stamp b n) (some (p++[k])) A v:=
 VRel.keep (E:=E) (E':=E.stamp b n) ⟨Nat.le_refl _,fun _ _=>⟨rfl,rfl,rfl⟩⟩ (by simp[Env.stamp,Jb]) h fun b' hb'=>⟨rfl,Z5 fun e=>by
  subst e
  rcases hb' with hb'|⟨ℓ,q,hℓ,hq,hpre⟩
  · rw[hO] at hb';cases hb'.1
  · rw[hO] at hq;cases hq;cases hℓ;exact J8 (k:=k) (ks:=[]) hpre⟩
def kF (st:zb)(d:Nat)(x:zm):Option zb:=
 match st.use x true with
 |some (.own (some sz) cs,st1)=>if 0<cs.length then some (st1.putT d (.own (some sz) cs)) else none
 |_=>none
theorem GC (R:zi E N V st a.tmps)(F:zo N V st d)(ho:o.op= .convert t t x)(hu:P.underlying t=some (.slice e))(he:P.underlying e=some (.int .u8))(hx:zd x=some ox){st':zb}(h:kF st d ox=some st')(hq:st.useQ L ox true=true):Jj L E N V st' a P o d:=by
 unfold kF at h
 split at h
 case h_2=>cases h
 rename_i sz cs st1 hus
 split at h
 case isFalse=>cases h
 rename_i hne
 cases h
 obtain⟨E1,R1,F1,P1,hw1⟩:=Zv R hx hus 0 (l:=[]) (fun x hx=>by cases hx) (fun x hx=>by cases hx) hq
 have hS:VRel E1 (some [9,0]) (.own (some sz) cs) (a.eval x):=F1 _ (List.mem_cons_self ..)
 obtain⟨b,k,len,cap,arr,T,f,hv,hO,hb,hsz,hcl,hlc,hcm,ha,hf,hvv⟩:=ww hS hne
 have F3:zo N V st1 d:=F.of (zP hus)
 have hv2:VRel (E1.stamp b arr.size) (some [9,0]) (.own (some sz) cs) (.slice (some ⟨b,k,none⟩) len cap):=
  .own [9,0] sz cs b k len cap arr T f hO hb.stamp ⟨hsz,hcl⟩ hlc hcm ha hf fun j A hA=>(hvv j A hA).stampKeep hO
 have R4:=R1.flight (j:=0) (ks:=[]) (yf (n:=arr.size) hO) (UE R1.lim) rfl
 have R5:=(R4.land (j:=0) [0,d]).putT_val F3.lt F3.v F3.t (hv2.land [0,d])
 refine⟨_,(E1.stamp b arr.size).relab [9,0] [0,d],?_,R5,(P1.trans (XX hO (z6 _) (zN (by decide) _ _ (List.prefix_refl _)))).trans (zk (z6 _) (jp _ _) (zN (by decide) _))⟩
 obtain⟨fz,hb1,_⟩:=hb
 have hsh:E1.w.shape? b=some (T,arr.size):=by unfold World.shape?;rw[hb1]
 rw[←hw1]
 simp[execOp,ho,hv,convert,run_underlying hu,run_underlying he,markStringish,hsh]
 rfl
theorem vD (ht:P.underlying t=some (.slice e))(hu:P.underlying u=some .string)(hi:P.info? e=some i)(hs1:i.size=1){w:World}{b k n cap:Nat}{arr:Array Value}{T:TypeId}(hb:Jw w b arr T)(s:ByteArray)
    (hroom:n+s.size≤cap) (hfit:k+n+s.size≤arr.size) (ty:TypeId):
    (Builtin.append_ #[t,u] ty #[.slice (some ⟨b,k,none⟩) n cap,.string s]).run P w= .ok (.slice (some ⟨b,k,none⟩) (n+s.size) cap) (w.setRow b (arr.toList.take (k+n)++Lib.strCells s++arr.toList.drop (k+n+s.size)).toArray):=by
  have hf:=Lib.run_firstCells_string (P:=P) w 1 s
  have hst:=Z4 (P:=P) b (k+n) T (Lib.strCells s) 0 arr w hb (by simpa[Lib.strCells_length] using hfit) (Lib.strCells_oneCell s)
  simp only[Nat.add_zero,Lib.strCells_length] at hst
  simp[Builtin.append_,run_underlying ht,run_underlying hu,sizeOf,typeInfo,hi,hs1,Builtin.lenOf,hroom,hf,Addr.add_lit,hst]
def Xq (st:zb)(d:Nat)(s x:zm)(bs:Nat):Option zb:=
 match st.use s true with
 | some (.own (some sz) cs,st1)=>match st1.ev x with
   | .sc (.string b)=>if sz=1∧0<cs.length∧(cs.length+b.size)*bs≤140737488355328 then some (st1.putT d (.own (some 1) (cs++JX b.data.toList))) else none
   |_=>none
 |_=>none
theorem vv (s:ByteArray){k:Nat}{A:za}{v:Value}(h:(JX s.data.toList)[k]?=some A)(h':(Lib.strCells s)[k]?=some v):A= .sc v:=by
 unfold JX at h
 unfold Lib.strCells at h'
 rw[List.getElem?_map] at h h'
 cases hx:s.data.toList[k]? with
 |none=>rw[hx] at h;cases h
 |some y=>rw[hx] at h h';cases h;cases h';rfl
theorem vE (ht:P.underlying t=some (.slice e))(hu:P.underlying u=some .string)(hi:P.info? e=some i)(hz:i.zero=some z)(hs1:i.size=1){w:World}{b k n cap:Nat}{olds:List Value}(hlo:olds.length=n)
    (holds:∀j v,olds[j]?=some v→w.cell? ⟨b,k+j,none⟩=some v) (s:ByteArray) (hg:cap<n+s.size) (h63:n+s.size≤9223372036854775807) (hbytes:(n+s.size)*i.bytes≤140737488355328) (ty:TypeId):
    ∃c',n+s.size≤c'∧c'≤maxLen∧(Builtin.append_ #[t,u] ty #[.slice (some ⟨b,k,none⟩) n cap,.string s]).run P w= .ok (.slice (some ⟨w.heap.size,0,none⟩) (n+s.size) c') (w.drew.alloc (.cells (olds.toArray++(Lib.strCells s).toArray++Builtin.zeroCells z.cells (c' - (n+s.size))) e)):=by
  have hfit:=growslice_fits (need:=n+s.size) (old:=cap) (bytes:=i.bytes) (by omega) hbytes
  refine⟨grownCap w (n+s.size) cap e,?_,grownCap_le_maxLen w _ _ e (by simp[maxLen];omega),?_⟩
  · simp only[grownCap,Question.cut];omega
  · exact Lib.run_append_grow_string w t u ty e i z ht hu hi hz ⟨b,k,none⟩ n cap olds (by rw[hs1,hlo,Nat.mul_one]) (fun j v hj=>by rw[Addr.add_lit];exact holds j v hj) s hg (by omega) hfit
theorem gZ (R:zi E N V st a.tmps)(F:zo N V st d)(ho:o.op= .call {callee:= .builtin .append,args:= #[s,x],argTypes:= #[t,u]})(ht:P.underlying t=some (.slice e))(hu:P.underlying u=some .string)(hi:P.info? e=some i)(hz:i.zero=some z)(hzs:z.cells.size=i.size)(hs1:i.size=1)(hby:0<i.bytes)
    (hs:zd s=some os) (hx:zd x=some ox) {st':zb} (h:Xq st d os ox i.bytes=some st') (hq:st.useQ L os true=true):Jj L E N V st' a P o d:=by
  unfold Xq at h
  split at h
  case h_2=>cases h
  rename_i sz cs st1 hus
  split at h
  case h_2=>cases h
  rename_i bs hev
  split at h
  case isFalse=>cases h
  rename_i hc
  obtain⟨rfl,hne,hbytes⟩:=hc
  cases h
  obtain⟨E3,R3,F1,P3,hw3⟩:=Zv R hs hus 0 (l:=[]) (fun x hx=>by cases hx) (fun x hx=>by cases hx) hq
  have hS3:VRel E3 (some [9,0]) (.own (some 1) cs) (a.eval s):=F1 _ (List.mem_cons_self ..)
  have hxv:a.eval x= .string bs:=Za R3 hx hev
  have F3:zo N V st1 d:=F.of (zP hus)
  have hrun:∀w,(execOp a.eval o).run P w=((Builtin.append_ #[t,u] o.type #[a.eval s,a.eval x]).run P w).andThen (fun v w=> .ok (.value v) w):=fun w=>by
    simp[execOp,ho,resolve,invoke,builtin]
  have hnl:(Lib.strCells bs).length=(JX bs.data.toList).length:=by rw[ZL,Lib.strCells_length,Array.length_toList];rfl
  have hsz2:(JX bs.data.toList).length=bs.size:=by rw[ZL,Array.length_toList];rfl
  have hxs:∀(E':Env) (po:Option (List Nat)) (k:Nat) A u,(JX bs.data.toList)[k]?=some A→(Lib.strCells bs)[k]?=some u→VRel E' po A u:=fun E' po k A u hA hu=>by
    rw[vv bs hA hu];exact .sc _ _
  have hb63:cs.length+bs.size≤140737488355328:=Nat.le_trans (Nat.le_mul_of_pos_right _ hby) hbytes
  by_cases hnil:a.eval s= .slice none 0 0
  · rw[hnil] at hS3
    cases hS3
    simp at hne
  · obtain ⟨b,k,n,cap,arr,T,hsv,hO,hbb,hsz,hcn,hnc,hcm,ha,olds,hol,hold,holdv⟩:=wx hS3 hnil
    rw[Nat.mul_one] at hcn ha
    by_cases hroom:n+bs.size≤cap
    · have hfit:k+n+bs.size≤arr.size:=by omega
      have hr:=vD (P:=P) ht hu hi hs1 hbb bs hroom hfit o.type
      let arr':=(arr.toList.take (k+n)++Lib.strCells bs++arr.toList.drop (k+n+bs.size)).toArray
      have hfit2:k+n+(Lib.strCells bs).length≤arr.size:=by rw[hnl,hsz2];exact hfit
      have hs':arr'.size=arr.size:=by
        have:=Jn (arr:=arr) (vs:=Lib.strCells bs) (s:=k+n) hfit2
        rwa [hnl,hsz2] at this
      have hget:∀j A,(cs++JX bs.data.toList)[j]?=some A→∃u,arr'[k+j]?=some u∧VRel (E3.row b arr') (some ([9,0]++[j])) A u:=by
        intro j A hj
        have hg:=qy (arr:=arr) (vs:=Lib.strCells bs) (s:=k+n) hfit2 (k+j)
        rw[hnl,hsz2] at hg
        rw[List.getElem?_append] at hj
        split at hj
        · rename_i hlt
          rw[if_neg (by omega)] at hg
          have hlt':j<olds.length:=by omega
          have hoj:=hold j _ (List.getElem?_eq_getElem hlt')
          exact⟨_,hg.trans hoj,(holdv j A _ hj (List.getElem?_eq_getElem hlt')).rowKeep hO⟩
        · rename_i hge
          have hlt:j - cs.length<(JX bs.data.toList).length:=(List.getElem?_eq_some_iff.1 hj).1
          rw[if_pos (by omega),show k+j - (k+n)=j - cs.length by omega] at hg
          have hlt':j - cs.length<(Lib.strCells bs).length:=by omega
          rw[List.getElem?_eq_getElem hlt'] at hg
          exact⟨_,hg,hxs _ _ _ A _ hj (List.getElem?_eq_getElem hlt')⟩
      have hv:VRel (E3.row b arr') (some [9,0]) (.own (some 1) (cs++JX bs.data.toList)) (.slice (some ⟨b,k,none⟩) (n+bs.size) cap):=
        .own [9,0] 1 _ b k (n+bs.size) cap arr' T (fun j=>arr'.getD (k+j) undef) hO (hbb.set hs') ⟨Nat.one_pos,by rw[List.length_append,hcn,hsz2,Nat.mul_one]⟩ hroom hcm (by rw[hs',Nat.mul_one];exact ha)
          (fun j A hj=>by
            obtain⟨u,hu,_⟩:=hget j A hj
            simp[Array.getD,(Array.getElem?_eq_some_iff.1 hu).1])
          (fun j A hj=>by
            obtain⟨u,hu,hr⟩:=hget j A hj
            have e:arr'.getD (k+j) undef=u:=by simp[Array.getD,(Array.getElem?_eq_some_iff.1 hu).1,(Array.getElem?_eq_some_iff.1 hu).2]
            rw[e];exact hr)
      have R4:=R3.flight (j:=0) (ks:=[]) (jg (arr:=arr') hO) (qE R3.lim) rfl
      have R5:=(R4.land (j:=0) [0,d]).putT_val F3.lt F3.v F3.t (hv.land [0,d])
      refine⟨_,(E3.row b arr').relab [9,0] [0,d],?_,R5,(P3.trans (Jp hO (z6 _) (zN (by decide) _ _ (List.prefix_refl _)))).trans (zk (z6 _) (jp _ _) (zN (by decide) _))⟩
      rw[hrun,hsv,hxv,←hw3,hr]
      rfl
    · have R4:=R3.land (j:=0) [0,d]
      obtain⟨c',hc1,hc2,hr⟩:=vE (P:=P) (w:=(E3.relab [9,0] [0,d]).w) (b:=b) (k:=k) (n:=n) (cap:=cap) (olds:=olds) ht hu hi hz hs1 (by omega) (fun j v hj=>by
        show E3.w.cell? _=_
        rw[hbb.cell]
        exact hold j v hj) bs (by omega) (by omega) (by rw[←hcn];exact hbytes) o.type
      have:=qI (L:=L) (P:=P) (o:=o) (e:=e) (z:=z) R4 F3 (olds:=olds) (news:=Lib.strCells bs) (cs:=cs) (xs:=JX bs.data.toList) hol hnl Nat.one_pos (n:=n) (m:=bs.size) (c':=c') (by rw[Nat.mul_one];exact hcn) (by rw[Nat.mul_one];exact hsz2) (hzs.trans hs1) hc1 hc2
        (fun j A u hA hu=>by
          have:=((holdv j A u hA hu).moved [9,0] [0,d] [j]).2 rfl
          simpa using this)
        (fun j A u hA hu=>hxs _ _ _ A u hA hu) (by rw[hrun,hsv,hxv,hr];rfl)
      obtain⟨v,E4,h1,h2,h3⟩:=this
      exact⟨v,E4,by rw[←hw3];exact h1,h2,(P3.trans (zk (z6 _) (jp _ _) (zN (by decide) _))).trans h3⟩
end
end Go.Ga

namespace Go.Ga
open Go
def y8 (xs:List Operand)(mv:Bool):Option (List (zm×Bool)):=(xs.mapM zd).map fun l=>l.map fun o=>(o,mv)
def QX :Option Operand→Option (Option zm)
 |none=>some none
 |some x=>(zd x).map some
def YO (P:Program)(t:TypeId)(d:TypeDesc):Option Nat:=
 match d with
 | .int _=>some 0
 | .string=>some 0
 | .bool=>some 1
 | .pointer _=>some 2
 | .slice _=>some 3
 | .func _ _ _=>some 4
 | .struct fs=>if yO P t fs=true then some (6+fs.toList.length) else none
 |_=>none
def Ks (P:Program)(t:TypeId):Bool:=
 match P.underlying t with
 |some (.array _ e)=>(P.info? e).isSome
 |some (.struct fields)=>(fields.toList.mapM (fun f=>(P.info? f.type).map fun i=>(f.offset,i.size))).isSome
 |_=>false
def JK (P:Program)(t:TypeId):List (Nat×Operand)→Option (List ((Nat×Nat)×zm×Bool))
 |[]=>some []
 |(i,x)::l=>(ZR P t i).bind fun pl=>(zd x).bind fun ox=>(JK P t l).map fun r=>(pl,ox,true)::r
def JJ (sz:Nat):List (Nat×Operand)→Option (List ((Nat×Nat)×zm×Bool))
 |[]=>some []
 |(i,x)::l=>(zd x).bind fun ox=>(JJ sz l).map fun r=>((i*sz,sz),ox,true)::r
def zm.same :zm→zm→Bool
 | .t i,.t j=>i==j
 | .c (.int _ a),.c (.int _ b)=>a==b
 |_,_=>false
inductive Zy where
 |r (o:Xw)
 |asg (d:Nat) (x:zm) (mv:Bool)
 |mk (d:Nat) (l c:zm) (sz bs:Nat) (zs:List Value)
 |mko (d:Nat) (l c:zm) (sz bs:Nat) (zs:List Value)
 |capq (d:Nat) (x:zm)
 |appz (d:Nat) (s x:zm) (sz bs:Nat) (zs:List Value)
 |cpy (d:Nat) (s x:zm) (sz:Nat)
 |s2b (d:Nat) (x:zm)
 |cvs (d:Nat) (x:zm)
 |apps (d:Nat) (s x:zm) (bs:Nat)
 |bad (d:Option Nat)
 |mkmp (d:Nat)
 |mget (d:Nat) (x k:zm)
 |mput (x k v:zm)
 |blds (d len sz:Nat) (parts:List ((Nat×Nat)×zm×Bool)) (zs:List Value)
 |bld (d:Nat) (parts:List ((Nat×Nat)×zm×Bool)) (zs:List Value)
 |app (d:Nat) (s x:zm) (sz bs:Nat)
 |slc (d:Nat) (x:zm) (lo hi:Option zm) (sz:Nat)
 |box (d:Nat) (x:zm)
 |alloc (d:Nat) (zs:List Value)
 |mkfn (d:Nat) (f:Fn) (first captured:List (zm×Bool))
 |st (x v:zm) (n:Nat)
 |call (d:Nat) (f:zm) (args:List (zm×Bool))
def Zy.dst :Zy→Option Nat
 | .r o=>o.dst
 | .asg d _ _| .mk d _ _ _ _ _| .mko d _ _ _ _ _| .capq d _| .mkmp d| .mget d _ _| .appz d _ _ _ _ _| .cpy d _ _ _| .s2b d _| .cvs d _| .apps d _ _ _| .blds d _ _ _ _| .bld d _ _| .app d _ _ _ _| .slc d _ _ _ _| .box d _| .alloc d _| .mkfn d _ _ _| .call d _ _=>some d
 | .st _ _ _=>none
 | .mput _ _ _=>none
 | .bad d=>d
def J5 (P:Program)(rs:List Nat×List Nat)(o:Oper):Option Zy:=
 match o.op,o.dst with
 | .move x,some d=>(zd x).map fun ox=>if rs.2.contains d=true then .asg d ox true else .r (.mov d ox)
 | .assign x,some d=>(zd x).map fun ox=> .asg d ox true
 | .pick c x y,some d=>(zd c).bind fun oc=>(zd x).bind fun ox=>(zd y).map fun oy=> .r (.pick d oc ox oy)
 | .binOp op t x y _,some d=>(P.underlying t).bind fun dsc=>(YO P t dsc).bind fun tag=>(zd x).bind fun ox=>(zd y).map fun oy=> .r (.bin d op tag ox oy)
 | .unOp .not _ x,some d=>(zd x).map fun ox=> .r (.notb d ox)
 | .convert s t x,some d=>match P.underlying s,P.underlying t with
   |some (.int _),some (.int k)=>(zd x).map fun ox=> .r (.conv d k ox)
   | some .string,some (.slice e)=>match P.underlying e with
     |some (.int .u8)=>(zd x).map fun ox=> .s2b d ox
     |_=>none
   | some (.slice e),some .string=>match P.underlying e with
     |some (.int .u8)=>(zd x).map fun ox=> .r (.box d ox)
     |_=>none
   | some (.slice e),some (.slice _)=>match P.underlying e with
     |some (.int .u8)=>if s=t then(zd x).map fun ox=> .cvs d ox else none
     |_=>none
   |_,_=>none
 | .nilCheck x,some d=>(zd x).map fun ox=> .r (.nilck d ox)
 | .fieldAddr s x i,some d=>match P.underlying s with
   |some (.struct fs)=>(fs[i]?).bind fun fl=>(P.info? fl.type).bind fun inf=>if inf.size=0 then none else(zd x).map fun ox=> .r (.fldA d ox fl.offset)
   |_=>none
 | .field s x i,some d=>match P.underlying s with
   |some (.struct fs)=>(fs[i]?).bind fun fl=>(P.underlying fl.type).bind fun dsc=>(P.info? fl.type).bind fun inf=>(zd x).map fun ox=> .r (.fld d ox fl.offset inf.size (z8 dsc))
   |_=>none
 | .indexAddr t x i,some d=>match P.underlying t with
   |some (.slice e)=>(P.info? e).bind fun inf=>if inf.size=0 then none else(zd x).bind fun ox=>(zd i).map fun oi=> .r (.idxA d ox oi inf.size)
   |some (.array n e)=>(P.info? e).bind fun inf=>(zd x).bind fun ox=>(zd i).map fun oi=> .r (.idxP d ox oi n inf.size)
   |_=>none
 | .index t x i,some d=>match P.underlying t with
   |some .string=>(zd x).bind fun ox=>(zd i).map fun oi=> .r (.idxS d ox oi)
   |some (.array n e)=>(P.underlying e).bind fun dsc=>(P.info? e).bind fun inf=>(zd x).bind fun ox=>(zd i).map fun oi=> .r (.idxV d ox oi n inf.size (z8 dsc))
   |_=>none
 | .load t x,some d=>(P.underlying t).bind fun dsc=>(P.info? t).bind fun inf=>(zd x).map fun ox=> .r (.ld d ox inf.size (z8 dsc))
 | .store t x v,none=>(P.info? t).bind fun inf=>(zd x).bind fun ox=>(zd v).map fun ov=> .st ox ov inf.size
 | .extract x i,some d=>(zd x).map fun ox=> .r (.ext d ox i)
 | .makeSlice t l c,some d=>match P.underlying t with
   |some (.slice e)=>(P.info? e).bind fun inf=>inf.zero.bind fun z=>if z.cells.size=inf.size∧0<inf.size then(zd l).bind fun ol=>(zd c).map fun oc=>bif ol.same oc then .mk d ol oc inf.size inf.bytes z.cells.toList else .mko d ol oc inf.size inf.bytes z.cells.toList else none
   |_=>none
 | .buildSlice t len parts,some d=>match P.underlying t with
   |some (.slice e)=>(P.info? e).bind fun inf=>inf.zero.bind fun z=>if z.cells.size=inf.size∧0<inf.size then(JJ inf.size parts.toList).map fun ps=> .blds d len inf.size ps z.cells.toList else none
   |_=>none
 | .build t parts,some d=>(P.info? t).bind fun inf=>inf.zero.bind fun z=>if Ks P t=true then(JK P t parts.toList).map fun ps=> .bld d ps z.cells.toList else none
 | .box _ x,some d=>(zd x).map fun ox=> .box d ox
 | .alloc t,some d=>(P.info? t).bind fun inf=>inf.zero.map fun z=> .alloc d z.cells.toList
 | .makeFunc f first captured,some d=>(y8 first.toList false).bind fun o1=>(y8 captured.toList false).map fun o2=> .mkfn d f o1 o2
 | .slice t x lo hi none,some d=>match P.underlying t with
   |some (.slice e)=>(P.info? e).bind fun inf=>if inf.size=0 then none else(zd x).bind fun ox=>(QX lo).bind fun olo=>(QX hi).map fun ohi=> .slc d ox olo ohi inf.size
   |some .string=>(zd x).bind fun ox=>(QX lo).bind fun olo=>(QX hi).map fun ohi=> .r (.slc d ox olo ohi 0)
   | some (.array n e)=>match hi with
     |none=>(P.info? e).bind fun inf=>if inf.size=0 then none else(zd x).bind fun ox=>(QX lo).map fun olo=> .r (.slc d ox olo (some (.c (.int .i64 (n:Int)))) inf.size)
     |some _=>none
   |_=>none
 | .call c,some d=>match c.callee with
   | .value f=>(zd f).bind fun of=>(y8 c.args.toList false).map fun as=> .call d of as
   | .builtin .len=>match c.args.toList,c.argTypes.toList with
     | [x],[t]=>match P.underlying t with
       |some (.slice _)=>(zd x).map fun ox=> .r (.len d ox)
       |some .string=>(zd x).map fun ox=> .r (.lenS d ox)
       |_=>none
     |_,_=>none
   | .builtin .cap=>match c.args.toList,c.argTypes.toList with
     | [x],[t]=>match P.underlying t with
       |some (.slice _)=>(zd x).map fun ox=> .capq d ox
       |_=>none
     |_,_=>none
   | .builtin .max=>match c.args.toList with
     |[x,y]=>(zd x).bind fun ox=>(zd y).map fun oy=> .r (.mm d true ox oy)
     |_=>none
   | .builtin .min=>match c.args.toList with
     |[x,y]=>(zd x).bind fun ox=>(zd y).map fun oy=> .r (.mm d false ox oy)
     |_=>none
   | .builtin .append=>match c.args.toList,c.argTypes.toList with
     | [s,x],[t,t']=>if t=t' then match P.underlying t with
       |some (.slice e)=>(P.info? e).bind fun inf=>inf.zero.bind fun z=>if z.cells.size=inf.size∧0<inf.size∧0<inf.bytes then(zd s).bind fun os=>(zd x).map fun ox=> .app d os ox inf.size inf.bytes else none
       |_=>none
       else match P.underlying t,P.underlying t' with
        |some (.slice e),some (.int _)=>(P.info? e).bind fun inf=>inf.zero.bind fun z=>if z.cells.size=inf.size∧0<inf.size then(zd s).bind fun os=>(zd x).map fun ox=> .appz d os ox inf.size inf.bytes z.cells.toList else none
        |some (.slice e),some .string=>(P.info? e).bind fun inf=>inf.zero.bind fun z=>if z.cells.size=inf.size∧inf.size=1∧0<inf.bytes then(zd s).bind fun os=>(zd x).map fun ox=> .apps d os ox inf.bytes else none
        |_,_=>none
     |_,_=>none
   | .builtin .copy=>match c.args.toList,c.argTypes.toList with
     | [s,x],[t,_]=>match P.underlying t with
       |some (.slice e)=>(P.info? e).bind fun inf=>if 0<inf.size then(zd s).bind fun os=>(zd x).map fun ox=> .cpy d os ox inf.size else none
       |_=>none
     |_,_=>none
   |_=>none
 | .makeMap _ none,some d=>some (.mkmp d)
 | .lookup t x k false,some d=>match P.underlying t with
   | some (.map kt et)=>match P.underlying kt with
     | some (.int _)=>(P.info? et).bind fun inf=>match inf.zero with
       |some (.bool false)=>(zd x).bind fun ox=>(zd k).map fun ok=> .mget d ox ok
       |_=>none
     |_=>none
   |_=>none
 | .mapUpdate t x k v,none=>match P.underlying t with
   | some (.map kt _)=>match P.underlying kt with
     |some (.int _)=>(zd x).bind fun ox=>(zd k).bind fun ok=>(zd v).map fun ov=> .mput ox ok ov
     |_=>none
   |_=>none
 | .insert t x k v,none=>match P.underlying t with
   | some (.map kt _)=>match P.underlying kt with
     |some (.int _)=>(zd x).bind fun ox=>(zd k).bind fun ok=>(zd v).map fun ov=> .mput ox ok ov
     |_=>none
   |_=>none
 |_,_=>none
def Zh :Option zb→(zb→Prop)→Prop
 |some s,K=>K s
 |none,_=>False
def ZQ (P:Program)(rs:List Nat×List Nat)(o:Oper):Option Zy:=match J5 P rs o with
 |some b=>some b
 |none=>some (.bad o.dst)
def zb.blank (st:zb):za→Bool
 | .imm _ []=>true
 | .own (some _) []=>true
 | .at_ p=>match st.owned p with
   |some (some _,[])=>true
   |_=>false
 |_=>false
def QY (K:zb→Prop)(st:zb):Xw→Prop
 | .bin d op tag x y=>tag=3∧st.blank (st.ev x)=true∧st.isNil 3 (st.ev y)=some true∧match ZF op true,ZF op false with
   |some A,some B=>K (st.putT d A)∧K (st.putT d B)
   |_,_=>False
 |_=>False
def Z0 (P:Program)(L:List (List Nat))(K:zb→Prop)(st:zb):Zy→Prop
 | .r o=>match jd st o,o.dst with
   |some A,some d=>K (st.putT d A)
   |none,some _=>QY K st o
   |_,none=>False
 | .asg d x mv=>Zh (kJ st d x mv) K
 | .mk d l c sz bs zs=>Zh (gf st d l c sz bs zs) K
 | .mko d l c sz bs zs=>Zh (kE st d l c sz bs zs) K
 | .capq d x=>match st.evA x with
   | .sl id off len sz=>match st.h[id]? with
     |some (some cs)=>∀n:Nat,len≤n→cs.length≤off+n*sz→n≤9223372036854775807→K (st.putT d (.sc (.int .i64 (n:Int))))
     |_=>False
   | .sc u=>j8 u=true∧K (st.putT d (.sc (.int .i64 0)))
   |_=>False
 | .bad _=>False
 | .mkmp d=>Zh (Xl st d) K
 | .mget d x k=>Zh (Xn st d x k) K
 | .mput x k v=>Zh (Xk st x k v) K
 | .appz d s x sz bs zs=>Zh (Xp st d s x sz bs zs) K
 | .cpy d s x sz=>Zh (kG st d s x sz) K
 | .s2b d x=>Zh (kD st d x) K
 | .cvs d x=>Zh (kF st d x) K
 | .apps d s x bs=>Zh (Xq st d s x bs) K
 | .blds d len sz ps zs=>Zh (Xo st d len sz ps zs) K
 | .bld d ps zs=>Zh (kI st d ps zs) K
 | .app d s x sz bs=>Zh (kK st d s x sz bs) K
 | .slc d x lo hi sz=>Zh (kC st d x lo hi sz) K
 | .box d x=>Zh (kH st d x) K
 | .alloc d zs=>Zh (YZ st d zs) K
 | .mkfn d f o1 o2=>Zh (Xm st d f o1 o2) K
 | .st x v n=>Zh (GH st x v n) K
 | .call d f as=>qZ P L st d f as K
section
variable {L:List (List Nat)} {E:Env} {N:Nat} {V:List Nat} {st:zb} {a:Act} {P:Program} {o:Oper} {d:Nat} {tm:Array Value} {rs:List Nat×List Nat}
def Zy.fresh (N:Nat)(V:List Nat)(st:zb):Zy→Prop
 | .asg d _ _=>d∈V∧d<N
 | .st _ _ _=>True
 |b=>∀d,b.dst=some d→zo N V st d
theorem uy {next:Act→World→Prop}{Q:Exit→Act→World→Prop}{v:Value}{w w':World}(hr:(execOp a.eval o).run P w= .ok (.value v) w')(hd:o.dst=some d)(h:next (a.put (some d) v) w'):o.wp P a w next Q:=by
 unfold Oper.wp
 rw[hr,Oper.upon_value,hd]
 exact h
theorem vW {next:Act→World→Prop}{Q:Exit→Act→World→Prop}{w w':World}(hr:(execOp a.eval o).run P w= .ok .skip w')(hd:o.dst=none)(h:next a w'):o.wp P a w next Q:=by
 unfold Oper.wp
 rw[hr,Oper.upon_skip,hd]
 exact h
def uw (L:List (List Nat))(E:Env)(N:Nat)(V:List Nat)(a:Act)(K:zb→Prop)(next:Act→World→Prop):Prop:=
 ∀E' st' a',zi E' N V st' a'.tmps→a'.defers=a.defers→zy L E E'→K st'→next a' E'.w
theorem je {st':zb}{K:zb→Prop}{next:Act→World→Prop}{Q:Exit→Act→World→Prop}(h:Jj L E N V st' a P o d)(hd:o.dst=some d)(hk:K st')(hK:uw L E N V a K next):o.wp P a E.w next Q:=by
 obtain⟨v,E',hr,R',P'⟩:=h
 exact uy hr hd (hK E' st' (a.put (some d) v) R' rfl P' hk)
def Zy.quiet (L:List (List Nat))(st:zb):Zy→Bool
 | .r _=>true
 | .asg _ x mv=>st.useQ L x mv
 | .mk _ _ _ _ _ _=>true
 | .mko _ _ _ _ _ _=>true
 | .capq _ _=>true
 | .bad _=>true
 | .mkmp _=>true
 | .mget _ _ _=>true
 | .mput x _ _=>st.mputQ L x
 | .appz _ _ _ _ _ _=>true
 | .cpy _ s _ _=>st.cpyQ L s
 | .s2b _ _=>true
 | .cvs _ x=>st.useQ L x true
 | .apps _ s _ _=>st.useQ L s true
 | .blds _ _ _ ps _=>st.useLQ L (ps.map (·.2))
 | .bld _ ps _=>st.useLQ L (ps.map (·.2))
 | .app _ s x _ _=>st.appQ L s x
 | .slc _ x _ _ _=>st.useQ L x true
 | .box _ x=>st.useQ L x true
 | .alloc _ _=>true
 | .mkfn _ _ o1 o2=>st.useLQ L (o1++o2)
 | .st x v _=>st.stQ L x v
 | .call _ _ _=>true
theorem Uw {b:Zy}:b.quiet [] st=true:=by
 cases b<;>first
  |rfl
  |exact J1
  |exact wj _
  |exact kz
  |exact k9
  |exact Uz
  |exact kg
theorem K1 {A:za}{K:zb→Prop}{next:Act→World→Prop}{Q:Exit→Act→World→Prop}{Ls:List (List Nat)}(h:ZW Ls E N V st a P o d A)(hd:o.dst=some d)(hk:K (st.putT d A))(hK:uw L E N V a K next):o.wp P a E.w next Q:=by
 obtain⟨v,rd,hrd,hy,R'⟩:=h
 exact uy (hy E.w fun c hc=>(hrd c hc).1) hd (hK E _ (a.put (some d) v) R' rfl (zy.refl E) hk)
theorem Yf :∀(xs:List Operand) {l:List zm},xs.mapM zd=some l→xs.map zd=l.map some
 |[],l,h=>by simp at h;subst h;rfl
 | x ::xs,l,h=>by
   rw[List.mapM_cons] at h
   cases hx:zd x with
   |none=>rw[hx] at h;cases h
   | some ox=>
     rw[hx] at h
     cases hr:xs.mapM zd with
     |none=>rw[hr] at h;cases h
     | some l'=>
       rw[hr] at h
       cases h
       simp[hx,Yf xs hr]
theorem Qd {xs:List Operand}{mv:Bool}{l:List (zm×Bool)}(h:y8 xs mv=some l):xs.map zd=l.map fun y=>some y.1:=by
 unfold y8 at h
 obtain⟨l',h1,rfl⟩:=Option.map_eq_some_iff.1 h
 rw[Yf xs h1,List.map_map]
 rfl
theorem ZY {x:Option Operand}{ox:Option zm}(h:QX x=some ox):qu x ox:=by
 cases x with
 |none=>cases h;trivial
 | some x=>
   obtain⟨y,h1,rfl⟩:=Option.map_eq_some_iff.1 h
   exact h1
theorem qT {sz:Nat}:∀(ps:List (Nat×Operand)) {l:List ((Nat×Nat)×zm×Bool)},JJ sz ps=some l→(ps.map (·.2)).map zd=(l.map (·.2)).map (fun y=>some y.1)∧ps.map (fun x=>(x.1*sz,sz))=l.map (·.1)
 |[],l,h=>by cases h;exact⟨rfl,rfl⟩
 | (i,x)::ps,l,h=>by
   simp only[JJ] at h
   obtain⟨ox,hx,h⟩:=Option.bind_eq_some_iff.1 h
   obtain⟨r,hr,rfl⟩:=Option.map_eq_some_iff.1 h
   obtain⟨h1,h2⟩:=qT ps hr
   exact⟨by simp only[List.map_cons,hx];rw[h1],by simp only[List.map_cons];rw[h2]⟩
theorem qU {t:TypeId}:∀(ps:List (Nat×Operand)) {l:List ((Nat×Nat)×zm×Bool)},JK P t ps=some l→(ps.map (·.2)).map zd=(l.map (·.2)).map (fun y=>some y.1)∧ps.map (fun x=>ZR P t x.1)=l.map (fun y=>some y.1)
 |[],l,h=>by cases h;exact⟨rfl,rfl⟩
 | (i,x)::ps,l,h=>by
   simp only[JK] at h
   obtain⟨pl,hp,h⟩:=Option.bind_eq_some_iff.1 h
   obtain⟨ox,hx,h⟩:=Option.bind_eq_some_iff.1 h
   obtain⟨r,hr,rfl⟩:=Option.map_eq_some_iff.1 h
   obtain⟨h1,h2⟩:=qU ps hr
   exact⟨by simp only[List.map_cons,hx];rw[h1],by simp only[List.map_cons,hp];rw[h2]⟩
def YU (P:Program)(L:List (List Nat))(K:zb→Prop)(st:zb):Zy→Prop
 | .r o=>∃A d,jd st o=some A∧o.dst=some d∧K (st.putT d A)
 |b=>Z0 P L K st b
theorem KJ {ao:Xw}{K:zb→Prop}(h:YU P L K st (.r ao)):∃A d,jd st ao=some A∧ao.dst=some d∧K (st.putT d A):=h
theorem Ve {ao:Xw}{K:zb→Prop}(h:Z0 P L K st (.r ao)):YU P L K st (.r ao)∨QY K st ao:=by
 simp only[Z0] at h
 split at h
 · rename_i A d h1 h2;exact .inl ⟨A,d,h1,h2,h⟩
 · exact .inr h
 · exact h.elim
theorem zn {α β:Type}{x:Option α}{f:α→β}{r:β}(h:x.map f=some r):∃y,x=some y∧f y=r:=Option.map_eq_some_iff.1 h
theorem zf {α β:Type}{x:Option α}{f:α→Option β}{r:β}(h:x.bind f=some r):∃y,x=some y∧f y=some r:=Option.bind_eq_some_iff.1 h
end
end Go.Ga

namespace Go.Ga
open Go
section
variable {L:List (List Nat)} {E:Env} {N:Nat} {V:List Nat} {st:zb} {a:Act} {P:Program} {o:Oper} {d:Nat} {tm:Array Value} {rs:List Nat×List Nat}
theorem Ud {op:BinOp}{tag:Nat}{ox oy:zm}(hs:J5 P rs o=some (.r (.bin d op tag ox oy))):∃t x y yt dsc,o.op= .binOp op t x y yt∧o.dst=some d∧P.underlying t=some dsc∧YO P t dsc=some tag∧zd x=some ox∧zd y=some oy:=by
 unfold J5 at hs
 split at hs
 case h_4=>
  rename_i op' t x y yt d' ho hd
  obtain⟨dsc,hu,hs⟩:=zf hs
  obtain⟨tag',ht,hs⟩:=zf hs
  obtain⟨ox',hx,hs⟩:=zf hs
  obtain⟨oy',hy,hs⟩:=zn hs
  cases hs
  exact⟨t,x,y,yt,dsc,ho,hd,hu,ht,hx,hy⟩
 all_goals try (simp[Option.map_eq_some_iff,Option.bind_eq_some_iff] at hs;done)
 all_goals (repeat' split at hs)
 all_goals try (simp[Option.map_eq_some_iff,Option.bind_eq_some_iff] at hs;done)
 all_goals exfalso
 all_goals
  obtain⟨_,_,hs⟩:=zf hs
  first
  | (split at hs
     · obtain⟨_,_,hs⟩:=zf hs
       obtain⟨_,_,hs⟩:=zn hs
       cases hs
     · cases hs)
  |skip
 all_goals
  obtain⟨_,_,hs⟩:=zf hs
  split at hs
  case isFalse=>cases hs
  first
  | (obtain⟨ol,_,hs⟩:=zf hs
     obtain⟨oc,_,hs⟩:=zn hs
     cases hso:ol.same oc<;>rw[hso] at hs<;>cases hs)
  |trace_state
theorem vB (R:zi E N V st a.tmps){x:Operand}{ox:zm}(hx:zd x=some ox){e:TypeId}(h:st.blank (st.ev ox)=true):∃b,QP (.slice e) (a.eval x) b:=by
 unfold zb.blank at h
 split at h
 · rename_i hb
   obtain⟨v,po,h1,h2,_⟩:=zj R hx hb rfl
   cases h2<;>exact⟨_,_,_,_,h1,rfl⟩
 · rename_i hb
   obtain⟨v,po,h1,h2,_⟩:=zj R hx hb rfl
   cases h2<;>exact⟨_,_,_,_,h1,rfl⟩
 · rename_i p hb
   split at h
   · rename_i sz hown
     obtain⟨B,v,h1,h2,h3,h4,h5⟩:=qX R hx hb
     unfold zb.owned at hown
     rw[h1] at hown
     cases B with
     | own hd cs'=>
       simp at hown
       obtain⟨rfl,rfl⟩:=hown
       cases h5 with
       |own=>exact⟨_,_,_,_,h4,rfl⟩
       |ownNil=>exact⟨_,_,_,_,h4,rfl⟩
     |_=>cases hown
   · cases h
 · cases h
theorem Yb {ao:Xw}{K:zb→Prop}{Ls:List (List Nat)}(R:zi E N V st a.tmps)(hs:ZQ P rs o=some (.r ao))(F:∀d,ao.dst=some d→zo N V st d)(h:QY K st ao):
    ∃A d,o.dst=some d∧ao.dst=some d∧ZW Ls E N V st a P o d A∧K (st.putT d A)∧(∃v,A= .sc v):=by
  unfold QY at h
  split at h
  case h_2=>exact h.elim
  rename_i d op tag ox oy
  obtain⟨rfl,h1,h2,h3⟩:=h
  unfold ZQ at hs
  split at hs
  case h_2=>cases hs
  rename_i b0 hs0
  cases hs
  obtain⟨t,x,y,yt,dsc,ho,hd,hu,ht,hx,hy⟩:=Ud hs0
  obtain⟨e,rfl⟩:∃e,dsc= .slice e:=by
    cases dsc<;>simp only[YO] at ht<;>try (cases ht;done)
    · exact⟨_,rfl⟩
    · split at ht
      · injection ht with ht;omega
      · cases ht
  obtain⟨b,hb⟩:=vB (e:=e) R hx h1
  have hc:QP (.slice e) (a.eval y) true:=Jr R hy (dsc:= .slice e) h2
  split at h3
  case h_2=>exact h3.elim
  rename_i A B hA hB
  have hAB:∃C,ZF op (b&&true)=some C∧K (st.putT d C):=by
    cases b
    · exact⟨B,hB,h3.2⟩
    · exact⟨A,hA,h3.1⟩
  obtain⟨C,hC,hK⟩:=hAB
  obtain⟨r,rfl,_⟩:=qx (P:=P) (x:=x) (y:=y) hu hb hc (.inr rfl) hC default
  refine⟨.sc r,d,hd,rfl,.pure (fun w=>?_) (z2 R (F d rfl) r),hK,r,rfl⟩
  obtain⟨r',hr,hrun⟩:=qx (P:=P) (x:=x) (y:=y) hu hb hc (.inr rfl) hC w
  cases hr
  simp only[execOp,ho]
  simp only[Sem.run_bind] at hrun⊢
  rw[hrun]
  rfl
end
end Go.Ga

namespace Go.Ga
open Go
section
variable {L:List (List Nat)} {E:Env} {N:Nat} {V:List Nat} {st:zb} {a:Act} {P:Program} {o:Oper} {d:Nat} {tm:Array Value} {rs:List Nat×List Nat}
theorem ZP {ao:Xw}{K:zb→Prop}{next:Act→World→Prop}{Q:Exit→Act→World→Prop}(hd:o.dst=some d)(hao:ao.dst=some d)(hF:Zy.fresh N V st (.r ao))(h:YU P L K st (.r ao))(hK:uw L E N V a K next)
    (hr:∀A,zo N V st d→jd st ao=some A→ZW (jK st ao) E N V st a P o d A):o.wp P a E.w next Q:=by
  obtain⟨A,d',h1,h2,h3⟩:=KJ h
  rw[hao] at h2
  cases h2
  exact K1 (hr A (hF d hao) h1) hd h3 hK
theorem Zg {x:Option zb}{K:zb→Prop}(h:Zh x K):∃s,x=some s∧K s:=by
 cases x with
 |none=>exact h.elim
 |some s=>exact⟨s,rfl,h⟩
theorem yk {b:Zy}{K:zb→Prop}{next:Act→World→Prop}{Q:Exit→Act→World→Prop}(hT:jV P E)(R:zi E N V st a.tmps)(hs:ZQ P rs o=some b)(hF:b.fresh N V st)(h:YU P L K st b)(hq:b.quiet L st=true)(hK:uw L E N V a K next):o.wp P a E.w next Q:=by
 unfold ZQ at hs
 split at hs
 case h_2=>cases hs;exact h.elim
 rename_i b0 hs0
 cases hs
 replace hs:=hs0
 clear hs0
 unfold J5 at hs
 split at hs
 · rename_i x d ho hd
   obtain⟨ox,hx,rfl⟩:=zn hs
   split at hF<;>rename_i hcr
   · rw[if_pos hcr] at h hq
     obtain⟨s,h1,h2⟩:=Zg h
     exact je (ge R hF.1 hF.2 (.inr ho) hx h1 hq) hd h2 hK
   · rw[if_neg hcr] at h
     exact ZP hd rfl hF h hK fun A F h1=>KK R F ho hx h1
 · rename_i x d ho hd
   obtain⟨ox,hx,rfl⟩:=zn hs
   obtain⟨s,h1,h2⟩:=Zg h
   exact je (ge R hF.1 hF.2 (.inl ho) hx h1 hq) hd h2 hK
 · rename_i c x y d ho hd
   obtain⟨oc,hc,hs⟩:=zf hs
   obtain⟨ox,hx,hs⟩:=zf hs
   obtain⟨oy,hy,rfl⟩:=zn hs
   exact ZP hd rfl hF h hK fun A F h1=>Vh R F ho hc hx hy h1
 · rename_i op t x y yt d ho hd
   obtain⟨dsc,hu,hs⟩:=zf hs
   obtain⟨tag,ht,hs⟩:=zf hs
   obtain⟨ox,hx,hs⟩:=zf hs
   obtain⟨oy,hy,rfl⟩:=zn hs
   refine ZP hd rfl hF h hK fun A F h1=>?_
   cases dsc<;>simp only[YO] at ht<;>try (cases ht;done)
   case struct fs=>
    split at ht
    · rename_i hok
      cases ht
      exact Vq R F ho hu hok hx hy h1
    · cases ht
   all_goals cases ht
   · exact Vr R F ho hu hx hy h1
   · exact We R F ho hx hy h1
   · exact We R F ho hx hy h1
   · exact QU R F ho hu hx hy h1
   · exact QU R F ho hu hx hy h1
   · exact QU R F ho hu hx hy h1
 · rename_i t x d ho hd
   obtain⟨ox,hx,rfl⟩:=zn hs
   exact ZP hd rfl hF h hK fun A F h1=>Vi R F ho hx h1
 · rename_i s t x d ho hd
   split at hs
   · rename_i k1 k2 h1 h2
     obtain⟨ox,hx,rfl⟩:=zn hs
     exact ZP hd rfl hF h hK fun A F h3=>Vp R F ho h1 h2 hx h3
   · rename_i e h1 h2
     split at hs
     · rename_i h4
       obtain⟨ox,hx,rfl⟩:=zn hs
       obtain⟨s',k1,k2⟩:=Zg h
       exact je (GA R (hF d rfl) ho h1 h2 h4 hx k1) hd k2 hK
     · cases hs
   · rename_i e h1 h2
     split at hs
     · rename_i h4
       obtain⟨ox,hx,rfl⟩:=zn hs
       exact ZP hd rfl hF h hK fun A F h3=>KO R F ho h1 h4 h2 hx h3
     · cases hs
   · rename_i e e' h1 h2
     split at hs
     · rename_i h4
       split at hs
       · rename_i hst
         subst hst
         obtain⟨ox,hx,rfl⟩:=zn hs
         obtain⟨s',k1,k2⟩:=Zg h
         exact je (GC R (hF d rfl) ho h1 h4 hx k1 hq) hd k2 hK
       · cases hs
     · cases hs
   · cases hs
 · rename_i x d ho hd
   obtain⟨ox,hx,rfl⟩:=zn hs
   exact ZP hd rfl hF h hK fun A F h1=>uB R F ho hx h1
 · rename_i s x i d ho hd
   split at hs
   · rename_i fs hu
     obtain⟨fl,hf,hs⟩:=zf hs
     obtain⟨inf,hi,hs⟩:=zf hs
     split at hs
     · cases hs
     · rename_i hz
       obtain⟨ox,hx,rfl⟩:=zn hs
       exact ZP hd rfl hF h hK fun A F h1=>Vo R F ho hu hf hi hz hx h1
   · cases hs
 · rename_i s x i d ho hd
   split at hs
   · rename_i fs hu
     obtain⟨fl,hf,hs⟩:=zf hs
     obtain⟨dsc,hdd,hs⟩:=zf hs
     obtain⟨inf,hi,hs⟩:=zf hs
     obtain⟨ox,hx,rfl⟩:=zn hs
     exact ZP hd rfl hF h hK fun A F h1=>KM R F ho hu hf hdd hi hx h1
   · cases hs
 · rename_i t x i d ho hd
   split at hs
   · rename_i e hu
     obtain⟨inf,hi,hs⟩:=zf hs
     split at hs
     · cases hs
     · rename_i hz
       obtain⟨ox,hx,hs⟩:=zf hs
       obtain⟨oi,hoi,rfl⟩:=zn hs
       exact ZP hd rfl hF h hK fun A F h1=>Vn R F ho hu hi (Nat.pos_of_ne_zero hz) hx hoi h1
   · rename_i n e hu
     obtain⟨inf,hi,hs⟩:=zf hs
     obtain⟨ox,hx,hs⟩:=zf hs
     obtain⟨oi,hoi,rfl⟩:=zn hs
     exact ZP hd rfl hF h hK fun A F h1=>Vm R F ho hu hi hx hoi h1
   · cases hs
 · rename_i t x i d ho hd
   split at hs
   · rename_i hu
     obtain⟨ox,hx,hs⟩:=zf hs
     obtain⟨oi,hoi,rfl⟩:=zn hs
     exact ZP hd rfl hF h hK fun A F h1=>Vl R F ho hu hx hoi h1
   · rename_i n e hu
     obtain⟨dsc,hdd,hs⟩:=zf hs
     obtain⟨inf,hi,hs⟩:=zf hs
     obtain⟨ox,hx,hs⟩:=zf hs
     obtain⟨oi,hoi,rfl⟩:=zn hs
     exact ZP hd rfl hF h hK fun A F h1=>Vk R F ho hu hdd hi hx hoi h1
   · cases hs
 · rename_i t x d ho hd
   obtain⟨dsc,hu,hs⟩:=zf hs
   obtain⟨inf,hi,hs⟩:=zf hs
   obtain⟨ox,hx,rfl⟩:=zn hs
   exact ZP hd rfl hF h hK fun A F h1=>gq R F hu hi ho hx h1
 · rename_i t x v ho hd
   obtain⟨inf,hi,hs⟩:=zf hs
   obtain⟨ox,hx,hs⟩:=zf hs
   obtain⟨ov,hv,rfl⟩:=zn hs
   obtain⟨s,h1,h2⟩:=Zg h
   obtain⟨E',hr,R',P'⟩:=GS (P:=P) (o:=o) R ho hi hx hv h1 hq
   exact vW hr hd (hK E' s a R' rfl P' h2)
 · rename_i x i d ho hd
   obtain⟨ox,hx,rfl⟩:=zn hs
   exact ZP hd rfl hF h hK fun A F h1=>KN R F ho hx h1
 · rename_i t l c d ho hd
   split at hs
   · rename_i e hu
     obtain⟨inf,hi,hs⟩:=zf hs
     obtain⟨z,hz,hs⟩:=zf hs
     split at hs
     · rename_i hc
       obtain⟨ol,hl,hs⟩:=zf hs
       obtain⟨oc,hoc,rfl⟩:=zn hs
       cases hsm:ol.same oc with
       | true=>
         rw[hsm] at h hF
         obtain⟨s,h1,h2⟩:=Zg h
         exact je (GT R (hF d rfl) ho hu hi hz hc.1 hc.2 hl hoc h1) hd h2 hK
       | false=>
         rw[hsm] at h hF
         obtain⟨s,h1,h2⟩:=Zg h
         exact je (GB R (hF d rfl) ho hu hi hz hc.1 hc.2 hl hoc h1) hd h2 hK
     · cases hs
   · cases hs
 · rename_i t len parts d ho hd
   split at hs
   · rename_i e hu
     obtain⟨inf,hi,hs⟩:=zf hs
     obtain⟨z,hz,hs⟩:=zf hs
     split at hs
     · rename_i hc
       obtain⟨ps,hps,rfl⟩:=zn hs
       obtain⟨s,h1,h2⟩:=Zg h
       obtain⟨p1,p2⟩:=qT _ hps
       exact je (gX R (hF d rfl) ho hu hi hz hc.1 hc.2 p1 p2 h1 hq) hd h2 hK
     · cases hs
   · cases hs
 · rename_i t parts d ho hd
   obtain⟨inf,hi,hs⟩:=zf hs
   obtain⟨z,hz,hs⟩:=zf hs
   split at hs
   · rename_i hc
     obtain⟨ps,hps,rfl⟩:=zn hs
     obtain⟨s,h1,h2⟩:=Zg h
     obtain⟨p1,p2⟩:=qU _ hps
     exact je (GF R (hF d rfl) ho hi hz hc p1 p2 h1 hq) hd h2 hK
   · cases hs
 · rename_i t x d ho hd
   obtain⟨ox,hx,rfl⟩:=zn hs
   obtain⟨s,h1,h2⟩:=Zg h
   exact je (GE R (hF d rfl) ho hx h1 hq) hd h2 hK
 · rename_i t d ho hd
   obtain⟨inf,hi,hs⟩:=zf hs
   obtain⟨z,hz,rfl⟩:=zn hs
   obtain⟨s,h1,h2⟩:=Zg (x:=YZ st d z.cells.toList) (K:=K) h
   exact je (KF R (hF d rfl) ho hi hz h1) hd h2 hK
 · rename_i f first captured d ho hd
   obtain⟨o1,ho1,hs⟩:=zf hs
   obtain⟨o2,ho2,rfl⟩:=zn hs
   obtain⟨s,h1,h2⟩:=Zg h
   exact je (gU R (hF d rfl) ho (Qd ho1) (Qd ho2) h1 hq) hd h2 hK
 · rename_i t x lo hi d ho hd
   split at hs
   · rename_i e hu
     obtain⟨inf,hi',hs⟩:=zf hs
     split at hs
     · cases hs
     · rename_i hz
       obtain⟨ox,hx,hs⟩:=zf hs
       obtain⟨olo,hlo,hs⟩:=zf hs
       obtain⟨ohi,hhi,rfl⟩:=zn hs
       obtain⟨s,h1,h2⟩:=Zg h
       exact je (Gz R (hF d rfl) ho hu hi' (Nat.pos_of_ne_zero hz) hx (ZY hlo) (ZY hhi) h1 hq) hd h2 hK
   · rename_i hu
     obtain⟨ox,hx,hs⟩:=zf hs
     obtain⟨olo,hlo,hs⟩:=zf hs
     obtain⟨ohi,hhi,rfl⟩:=zn hs
     exact ZP hd rfl hF h hK fun A F h3=>Vf R F ho hu hx (ZY hlo) (ZY hhi) h3
   · rename_i n e hu
     split at hs
     · obtain⟨inf,hi',hs⟩:=zf hs
       split at hs
       · cases hs
       · rename_i hz
         obtain⟨ox,hx,hs⟩:=zf hs
         obtain⟨olo,hlo,rfl⟩:=zn hs
         exact ZP hd rfl hF h hK fun A F h3=>Vg R F ho hu hi' hz hx (ZY hlo) h3
     · cases hs
   · cases hs
 · rename_i c d ho hd
   split at hs
   · rename_i f hc
     obtain⟨of,hf,hs⟩:=zf hs
     obtain⟨as,has,rfl⟩:=zn hs
     refine gW hT R (hF d rfl) ho hc hd hf (Qd has) h fun E' st' v R' P' hk=>hK E' st' (a.put (some d) v) R' rfl P' hk
   · rename_i hc
     split at hs
     · rename_i x t hx1 ht1
       have hc':c={callee:= .builtin .len,args:= #[x],argTypes:= #[t]}:=by
        cases c with
        | mk callee args argTypes=>
          simp only at hc hx1 ht1
          subst hc
          congr
          · apply Array.ext';simpa using hx1
          · apply Array.ext';simpa using ht1
       subst hc'
       split at hs
       · rename_i e hu
         obtain⟨ox,hx,rfl⟩:=zn hs
         exact ZP hd rfl hF h hK fun A F h1=>KL R F ho hu hx h1
       · rename_i hu
         obtain⟨ox,hx,rfl⟩:=zn hs
         exact ZP hd rfl hF h hK fun A F h1=>Vj R F ho hu hx h1
       · cases hs
     · cases hs
   · rename_i hc
     split at hs
     · rename_i x t hx1 ht1
       have hc':c={callee:= .builtin .cap,args:= #[x],argTypes:= #[t]}:=by
        cases c with
        | mk callee args argTypes=>
          simp only at hc hx1 ht1
          subst hc
          congr
          · apply Array.ext';simpa using hx1
          · apply Array.ext';simpa using ht1
       subst hc'
       split at hs
       · rename_i e hu
         obtain⟨ox,hx,rfl⟩:=zn hs
         have F:=hF d rfl
         simp only[YU,Z0] at h
         split at h
         · rename_i id off len sz hev
           split at h
           · rename_i cs hcs
             obtain⟨v,po,h1,h2,_⟩:=zj R hx (zO hev rfl) rfl
             cases h2 with
             | sl _ _ _ _ cap _ hn hlc hm hk=>
               obtain⟨_,_,_,_,_,_,hlk,_⟩:=R.objs id cs hcs
               have hcap:cap≤9223372036854775807:=by simpa[maxLen] using hm
               refine uy (v:= .int .i64 (cap:Int)) (w':=E.w) (by simp[execOp,ho,resolve,invoke,builtin,Builtin.cap_,h1,run_underlying hu,goInt]) hd (hK E _ (a.put (some d) (.int .i64 (cap:Int))) (z2 R F _) rfl (zy.refl E) (h cap hlc (by omega) hcap))
           · exact h.elim
         · rename_i u hev
           obtain⟨hu1,h⟩:=h
           obtain rfl:=JP hu1
           have h1:a.eval x= .slice none 0 0:=Za R hx (zO hev rfl)
           exact uy (v:= .int .i64 (0:Int)) (w':=E.w) (by simp[execOp,ho,resolve,invoke,builtin,Builtin.cap_,h1,run_underlying hu,goInt]) hd (hK E _ (a.put (some d) (.int .i64 0)) (z2 R F _) rfl (zy.refl E) h)
         · exact h.elim
       · cases hs
     · cases hs
   · rename_i hc
     split at hs
     · rename_i x y hx1
       have hc':c={callee:= .builtin (if true=true then .max else .min),args:= #[x,y],argTypes:=c.argTypes}:=by
        cases c with
        | mk callee args argTypes=>
          simp only at hc hx1
          subst hc
          congr
          apply Array.ext';simpa using hx1
       obtain⟨ox,hx,hs⟩:=zf hs
       obtain⟨oy,hy,rfl⟩:=zn hs
       exact ZP hd rfl hF h hK fun A F h1=>Kg (mx:=true) R F (by rw[ho,←hc']) hx hy h1
     · cases hs
   · rename_i hc
     split at hs
     · rename_i x y hx1
       have hc':c={callee:= .builtin (if false=true then .max else .min),args:= #[x,y],argTypes:=c.argTypes}:=by
        cases c with
        | mk callee args argTypes=>
          simp only at hc hx1
          subst hc
          congr
          apply Array.ext';simpa using hx1
       obtain⟨ox,hx,hs⟩:=zf hs
       obtain⟨oy,hy,rfl⟩:=zn hs
       exact ZP hd rfl hF h hK fun A F h1=>Kg (mx:=false) R F (by rw[ho,←hc']) hx hy h1
     · cases hs
   · rename_i hc
     split at hs
     · rename_i s x t t' hx1 ht1
       split at hs
       · rename_i htt
         subst htt
         have hc':c={callee:= .builtin .append,args:= #[s,x],argTypes:= #[t,t]}:=by
          cases c with
          | mk callee args argTypes=>
            simp only at hc hx1 ht1
            subst hc
            congr
            · apply Array.ext';simpa using hx1
            · apply Array.ext';simpa using ht1
         subst hc'
         split at hs
         · rename_i e hu
           obtain⟨inf,hi,hs⟩:=zf hs
           obtain⟨z,hz,hs⟩:=zf hs
           split at hs
           · rename_i hcond
             obtain⟨os,hos,hs⟩:=zf hs
             obtain⟨ox,hx,rfl⟩:=zn hs
             obtain⟨s',h1,h2⟩:=Zg h
             exact je (GG R (hF d rfl) ho hu hi hz hcond.1 hcond.2.1 hcond.2.2 hos hx h1 hq) hd h2 hK
           · cases hs
         · cases hs
       · have hc':c={callee:= .builtin .append,args:= #[s,x],argTypes:= #[t,t']}:=by
          cases c with
          | mk callee args argTypes=>
            simp only at hc hx1 ht1
            subst hc
            congr
            · apply Array.ext';simpa using hx1
            · apply Array.ext';simpa using ht1
         subst hc'
         split at hs
         · rename_i e k hu hu'
           obtain⟨inf,hi,hs⟩:=zf hs
           obtain⟨z,hz,hs⟩:=zf hs
           split at hs
           · rename_i hcond
             obtain⟨os,hos,hs⟩:=zf hs
             obtain⟨ox,hx,rfl⟩:=zn hs
             obtain⟨s',h1,h2⟩:=Zg h
             exact je (gY R (hF d rfl) ho hu hu' hi hz hcond.1 hcond.2 hos hx h1) hd h2 hK
           · cases hs
         · rename_i e hu hu'
           obtain⟨inf,hi,hs⟩:=zf hs
           obtain⟨z,hz,hs⟩:=zf hs
           split at hs
           · rename_i hcond
             obtain⟨os,hos,hs⟩:=zf hs
             obtain⟨ox,hx,rfl⟩:=zn hs
             obtain⟨s',h1,h2⟩:=Zg h
             exact je (gZ R (hF d rfl) ho hu hu' hi hz hcond.1 hcond.2.1 hcond.2.2 hos hx h1 hq) hd h2 hK
           · cases hs
         · cases hs
     · cases hs
   · rename_i hc
     split at hs
     · rename_i s x t t' hx1 ht1
       have hc':c={callee:= .builtin .copy,args:= #[s,x],argTypes:= #[t,t']}:=by
        cases c with
        | mk callee args argTypes=>
          simp only at hc hx1 ht1
          subst hc
          congr
          · apply Array.ext';simpa using hx1
          · apply Array.ext';simpa using ht1
       subst hc'
       split at hs
       · rename_i e hu
         obtain⟨inf,hi,hs⟩:=zf hs
         split at hs
         · rename_i hcond
           obtain⟨os,hos,hs⟩:=zf hs
           obtain⟨ox,hx,rfl⟩:=zn hs
           obtain⟨s',h1,h2⟩:=Zg h
           exact je (GD R (hF d rfl) ho hu hi hcond hos hx h1 hq) hd h2 hK
         · cases hs
       · cases hs
     · cases hs
   · cases hs
 · rename_i t d ho hd
   cases hs
   obtain⟨s',h1,h2⟩:=Zg (x:=Xl st d) (K:=K) h
   exact je (gT R (hF d rfl) ho h1) hd h2 hK
 · rename_i t x k d ho hd
   split at hs
   · rename_i kt et ht
     split at hs
     · rename_i kd hk
       obtain⟨inf,hi,hs⟩:=zf hs
       split at hs
       · rename_i hz
         obtain⟨ox,hx,hs⟩:=zf hs
         obtain⟨ok,hok,rfl⟩:=zn hs
         obtain⟨s',h1,h2⟩:=Zg h
         exact je (gV R (hF d rfl) ho ht hk hi hz hx hok h1) hd h2 hK
       · cases hs
     · cases hs
   · cases hs
 · rename_i t x k v ho hd
   split at hs
   · rename_i kt et ht
     split at hs
     · rename_i kd hk
       obtain⟨ox,hx,hs⟩:=zf hs
       obtain⟨ok,hok,hs⟩:=zf hs
       obtain⟨ov,hov,rfl⟩:=zn hs
       obtain⟨s',h1,h2⟩:=Zg h
       obtain⟨E',hr,R',P'⟩:=kB (P:=P) (o:=o) R (.inl ho) ht hk hx hok hov h1 hq
       exact vW hr hd (hK E' s' a R' rfl P' h2)
     · cases hs
   · cases hs
 · rename_i t x k v ho hd
   split at hs
   · rename_i kt et ht
     split at hs
     · rename_i kd hk
       obtain⟨ox,hx,hs⟩:=zf hs
       obtain⟨ok,hok,hs⟩:=zf hs
       obtain⟨ov,hov,rfl⟩:=zn hs
       obtain⟨s',h1,h2⟩:=Zg h
       obtain⟨E',hr,R',P'⟩:=kB (P:=P) (o:=o) R (.inr ho) ht hk hx hok hov h1 hq
       exact vW hr hd (hK E' s' a R' rfl P' h2)
     · cases hs
   · cases hs
 · cases hs
theorem yR {b:Zy}{K:zb→Prop}{next:Act→World→Prop}{Q:Exit→Act→World→Prop}(hT:jV P E)(R:zi E N V st a.tmps)(hs:ZQ P rs o=some b)(hF:b.fresh N V st)(h:Z0 P L K st b)(hq:b.quiet L st=true)(hK:uw L E N V a K next):o.wp P a E.w next Q:=by
 cases b with
 | r ao=>
   rcases Ve h with h|h
   · exact yk hT R hs hF h hq hK
   · obtain⟨A,d,h1,h2,h3,h4,_⟩:=Yb (Ls:=jK st ao) R hs (fun d hd=>hF d hd) h
     exact K1 h3 h1 h4 hK
 |_=>exact yk hT R hs hF h hq hK
end
end Go.Ga

namespace Go.Ga
open Go
abbrev zu :=Option (Nat×Bool)×Zy
def JF (P:Program)(rs:List Nat×List Nat)(ops:Array Oper)(o:Oper):Option zu:=
 match o.guard with
 |none=>(ZQ P rs o).map fun b=>(none,b)
 | some (j,want)=>match(ops[j]?).bind (·.dst) with
   |some t=>(ZQ P rs o).bind fun b=>if b.dst=o.dst then some (some (t,want),b) else none
   |none=>none
def Zy.keys (b:Zy)(ks:List Nat):List Nat:=
 match b with
 | .asg _ _ _=>ks
 | .st _ _ _=>ks
 | b=>match b.dst with
   |some d=>d::ks
   |none=>ks
def Zy.ok (N:Nat)(V ks:List Nat):Zy→Bool
 | .asg d _ _=>V.contains d&&d<N
 | .st _ _ _=>true
 | b=>match b.dst with
   |some d=>d<N&& !V.contains d&& !ks.contains d
   |none=>true
def zZ (P:Program)(L:List (List Nat))(K:zb→Prop)(st:zb):zu→Prop
 |(none,b)=>b.quiet L st=true∧Z0 P L K st b
 | (some (t,want),b)=>match st.get t with
   | .sc (.bool v)=>(v=want→b.quiet L st=true∧Z0 P L K st b)∧(v=(!want)→match b.dst with|some d=>K (st.putT d (.sc (.tuple #[])))|none=>False)
   | .sc (.tuple vs)=>vs= #[]∧match b.dst with|some d=>K (st.putT d (.sc (.tuple #[])))|none=>False
   |_=>False
def qO (P:Program)(L:List (List Nat))(K:zb→Prop):List zu→zb→Prop
 |[],st=>K st
 |g::rest,st=>zZ P L (qO P L K rest) st g
def Wj (N:Nat)(V:List Nat)(g:zu)(ks:List Nat):Bool:=g.2.ok N V ks&&(match g with|(some _,.asg _ _ _)=>false|(some _,.st _ _ _)=>false|_=>true)
def Wi (N:Nat)(V:List Nat):List zu→List Nat→Bool
 |[],_=>true
 |g::rest,ks=>Wj N V g ks&&Wi N V rest (g.2.keys ks)
section
variable {L:List (List Nat)} {E:Env} {N:Nat} {V:List Nat} {st:zb} {a:Act} {P:Program} {o:Oper} {d:Nat} {tm:Array Value} {rs:List Nat×List Nat}
theorem Zp {x:Option zb}{K K':zb→Prop}(h:Zh x K)(hk:∀s,x=some s→K s→K' s):Zh x K':=by
 cases x with
 |none=>exact h.elim
 |some s=>exact hk s rfl h
theorem YT {b:Zy}{K:zb→Prop}(h:Z0 P L K st b):Z0 P L (fun s=>s.ts.map (·.1)=b.keys (st.ts.map (·.1))∧K s) st b:=by
 cases b with
 | r o=>
   simp only[Z0] at h⊢
   split at h
   · rename_i A d h1 h2
     exact⟨by simp[Zy.keys,Zy.dst,h2,zb.putT],h⟩
   · rename_i d h1 h2
     unfold QY at h⊢
     split at h
     case h_2=>exact h.elim
     cases h2
     obtain⟨e1,e2,e3,h⟩:=h
     refine⟨e1,e2,e3,?_⟩
     split at h
     · exact⟨⟨by simp[Zy.keys,Zy.dst,Xw.dst,zb.putT],h.1⟩,by simp[Zy.keys,Zy.dst,Xw.dst,zb.putT],h.2⟩
     · exact h.elim
   · exact h.elim
 | asg d x mv=>
   refine Zp h fun s hs hk=>⟨?_,hk⟩
   unfold kJ at hs
   split at hs
   · rename_i A st1 hu;cases hs;exact ju.trans (zP hu)
   · cases hs
 | mk d l c sz bs zs=>
   refine Zp h fun s hs hk=>⟨?_,hk⟩
   unfold gf at hs
   split at hs
   · split at hs
     · cases hs;rfl
     · cases hs
   · cases hs
 | mko d l c sz bs zs=>
   refine Zp h fun s hs hk=>⟨?_,hk⟩
   unfold kE at hs
   split at hs
   · split at hs
     · cases hs;rfl
     · cases hs
   · cases hs
 | capq d x=>
   simp only[Z0] at h⊢
   split at h
   · split at h
     · exact fun n h1 h2 h3=>⟨rfl,h n h1 h2 h3⟩
     · exact h.elim
   · exact⟨h.1,rfl,h.2⟩
   · exact h.elim
 |bad d=>exact h.elim
 | mkmp d=>
   have h':Zh (Xl st d) K:=h
   exact Zp (K':=fun s=>s.ts.map (·.1)=(Zy.mkmp d).keys (st.ts.map (·.1))∧K s) h' fun s hs hk=>⟨by cases hs;rfl,hk⟩
 | mget d x k=>
   refine Zp h fun s hs hk=>⟨?_,hk⟩
   unfold Xn at hs
   split at hs
   · split at hs
     · cases hs;rfl
     · cases hs
   · cases hs
 | mput x k v=>
   refine Zp h fun s hs hk=>⟨?_,hk⟩
   unfold Xk at hs
   split at hs
   · split at hs
     · rcases zE hs with⟨_,hs⟩|⟨_,hs⟩
       · cases hs
       · cases hs;exact ZC.trans z1
     · cases hs
   · cases hs
 | s2b d x=>
   refine Zp h fun s hs hk=>⟨?_,hk⟩
   unfold kD at hs
   split at hs
   · cases hs;rfl
   · cases hs
 | cvs d x=>
   refine Zp h fun s hs hk=>⟨?_,hk⟩
   unfold kF at hs
   split at hs
   · rename_i hu
     split at hs
     · cases hs
       show d::_=d::_
       congr 1
       exact zP hu
     · cases hs
   · cases hs
 | apps d s x bs=>
   refine Zp h fun s hs hk=>⟨?_,hk⟩
   unfold Xq at hs
   split at hs
   · rename_i hu
     split at hs
     · split at hs
       · cases hs
         show d::_=d::_
         congr 1
         exact zP hu
       · cases hs
     · cases hs
   · cases hs
 | cpy d s x sz=>
   refine Zp h fun s' hs hk=>⟨?_,hk⟩
   unfold kG at hs
   split at hs
   · split at hs
     · split at hs
       · split at hs
         · cases hs
           show d::_=d::_
           congr 1
           simp only[zb.storeObj]
           exact z1
         · cases hs
       · cases hs
     · cases hs
   · split at hs
     · split at hs
       · cases hs;rfl
       · cases hs
     · cases hs
   · cases hs
 | appz d s x sz bs zs=>
   refine Zp h fun s hs hk=>⟨?_,hk⟩
   unfold Xp at hs
   split at hs
   · split at hs
     · split at hs
       · cases hs;rfl
       · cases hs
     · cases hs
   · cases hs
 | blds d len sz ps zs=>
   refine Zp h fun s hs hk=>⟨?_,hk⟩
   unfold Xo at hs
   split at hs
   · rename_i As st1 hu
     split at hs
     · split at hs
       · cases hs;simp[Zy.keys,Zy.dst,zb.putT,Zj _ hu]
       · cases hs
     · cases hs
   · cases hs
 | bld d ps zs=>
   refine Zp h fun s hs hk=>⟨?_,hk⟩
   unfold kI at hs
   split at hs
   · rename_i As st1 hu
     split at hs
     · cases hs;simp[Zy.keys,Zy.dst,zb.putT,Zj _ hu]
     · cases hs
   · cases hs
 | app d s x sz bs=>
   refine Zp h fun s' hs hk=>⟨?_,hk⟩
   unfold kK at hs
   split at hs
   · rename_i S st1 hu
     split at hs
     · rename_i xs st2 hu2
       split at hs
       · split at hs
         · split at hs
           · cases hs;simp[Zy.keys,Zy.dst,zb.putT,qD hu2,zP hu]
           · cases hs
         · split at hs
           · cases hs;simp[Zy.keys,Zy.dst,zb.putT,qD hu2,zP hu]
           · cases hs
         · split at hs
           · split at hs
             · cases hs;simp[Zy.keys,Zy.dst,zb.putT,zb.storeObj,z1,qD hu2,zP hu]
             · cases hs
           · cases hs
         · cases hs
       · cases hs
     · cases hs
   · cases hs
 | slc d x lo hi sz=>
   refine Zp h fun s' hs hk=>⟨?_,hk⟩
   unfold kC at hs
   split at hs
   · rename_i A st1 hu
     split at hs
     all_goals first
      |(cases hs;done)
      | (split at hs
         · split at hs
           · cases hs;simp[Zy.keys,Zy.dst,zb.putT,zP hu]
           · cases hs
         · cases hs)
   · cases hs
 | box d x=>
   refine Zp h fun s' hs hk=>⟨?_,hk⟩
   unfold kH at hs
   split at hs
   · rename_i cs st1 hu;cases hs;simp[Zy.keys,Zy.dst,zb.putT,zP hu]
   · rename_i A st1 _ hu
     rcases zE hs with⟨_,hs⟩|⟨_,hs⟩
     · cases hs;simp[Zy.keys,Zy.dst,zb.putT,zP hu]
     · cases hs
   · cases hs
 | alloc d zs=>
   have h':Zh (YZ st d zs) K:=h
   exact Zp (K':=fun s=>s.ts.map (·.1)=(Zy.alloc d zs).keys (st.ts.map (·.1))∧K s) h' fun s hs hk=>⟨by cases hs;rfl,hk⟩
 | mkfn d f o1 o2=>
   refine Zp h fun s' hs hk=>⟨?_,hk⟩
   unfold Xm at hs
   split at hs
   · rename_i As st1 hu
     rcases zE hs with⟨_,hs⟩|⟨_,hs⟩
     · cases hs;simp[Zy.keys,Zy.dst,zb.putT,Zj _ hu]
     · cases hs
   · cases hs
 | st x v n=>
   refine Zp h fun s' hs hk=>⟨?_,hk⟩
   unfold GH at hs
   split at hs
   · rename_i A st1 hu
     split at hs
     · split at hs
       · split at hs
         · split at hs
           · cases hs;exact ZC.trans (z1.trans (zP hu))
           · cases hs
         · cases hs
       · split at hs
         · split at hs
           · cases hs;exact z1.trans (zP hu)
           · cases hs
         · cases hs
       · cases hs
     · cases hs
   · cases hs
 | call d f as=>
   simp only[Z0,qZ] at h⊢
   split at h
   · rename_i g first captured hev
     obtain⟨ms,bo,ln,pl,h⟩:=h
     refine⟨ms,bo,ln,pl,?_⟩
     unfold Qj at h⊢
     split at h
     case h_2=>exact h.elim
     rename_i x0 st0 htake
     split at h
     case h_2=>exact h.elim
     rename_i As st1 huse
     refine⟨h.1,h.2.1,h.2.2.1,h.2.2.2.mono fun r h' hk=>⟨hk.1,hk.2.1,?_⟩⟩
     have hk3:=hk.2.2
     have hks:∀mm r,((st1.after bo L mm h').putT d r).ts.map (·.1)=d::st.ts.map (·.1):=fun mm r=>by
      show d::(st1.after bo L mm h').ts.map (·.1)=_
      rw[JT,Zj _ huse,JC htake]
     unfold ja at hk3⊢
     split
     · exact⟨hks _ _,hk3⟩
     · rename_i p sz cs _
       simp only[] at hk3
       generalize h'[bo.length]?=z at hk3⊢
       cases z with
       |none=>exact⟨hks _ _,hk3⟩
       | some y=>
         cases y with
         |none=>exact⟨hks _ _,hk3⟩
         | some cs'=>
           refine⟨hk3.1,hk3.2.1,hk3.2.2.1,?_,hk3.2.2.2⟩
           show d::(zb.setAt _ _ _).ts.map (·.1)=_
           rw[ZC,JT,Zj _ huse,JC htake]
           rfl
   · exact h.elim
theorem jL {b:Zy}{ks:List Nat}(h:b.ok N V ks=true)(hk:st.ts.map (·.1)=ks):b.fresh N V st:=by
 cases b with
 |asg d x m=>simp only[Zy.ok,Bool.and_eq_true,List.contains_iff_mem,decide_eq_true_eq] at h;exact h
 |st x v n=>trivial
 | r o=>
   intro d hd
   simp only[Zy.ok,Zy.dst] at h hd
   rw[hd] at h
   simp only[Bool.and_eq_true,decide_eq_true_eq,Bool.not_eq_true',List.contains_eq_mem] at h
   exact⟨h.1.1,by simpa using h.1.2,by rw[hk];simpa using h.2⟩
 |mput x k v=>intro d' hd;cases hd
 | _=>
   intro d' hd
   simp only[Zy.ok,Zy.dst] at h hd
   cases hd
   simp only[Bool.and_eq_true,decide_eq_true_eq,Bool.not_eq_true',List.contains_eq_mem] at h
   exact⟨h.1.1,by simpa using h.1.2,by rw[hk];simpa using h.2⟩
theorem J0 {ops:Array Oper}(hg:o.guard=none):Region.wanted o (yielded ops a.tmps)=true:=by simp[Region.wanted,hg]
theorem JZ {ops:Array Oper}(R:zi E N V st a.tmps){j t:Nat}{want v:Bool}(hg:o.guard=some (j,want))(hj:(ops[j]?).bind (·.dst)=some t)(hv:st.get t= .sc (.bool v)):
    Region.wanted o (yielded ops a.tmps)=(v==want):=by
  have h1:a.eval (.tmp t)= .bool v:=Za (ox:= .t t) R rfl hv
  obtain⟨u,h2,h3⟩:=(R.slots t).out (by rw[hv];rfl)
  rw[hv] at h3
  cases h3
  simp only[Region.wanted,hg,yielded,hj,Option.bind_some,h2]
  cases v<;>cases want<;>rfl
theorem Jz {ops:Array Oper}(R:zi E N V st a.tmps){j t:Nat}{want:Bool}(hg:o.guard=some (j,want))(hj:(ops[j]?).bind (·.dst)=some t)(hv:st.get t= .sc (.tuple #[])):
    Region.wanted o (yielded ops a.tmps)=false:=by
  obtain⟨u,h2,h3⟩:=(R.slots t).out (by rw[hv];rfl)
  rw[hv] at h3
  cases h3
  simp only[Region.wanted,hg,yielded,hj,Option.bind_some,h2]
  cases want<;>rfl
theorem gK {Q : Exit→Act→World→Prop}{ops:Array Oper}{os:List Oper}{g:zu}{K:zb→Prop}(hT:jV P E)(R:zi E N V st a.tmps)(hs:JF P rs ops o=some g)(hok:Wj N V g (st.ts.map (·.1))=true)(h:zZ P L K st g)
    (hK:∀E' st' a',zi E' N V st' a'.tmps→a'.defers=a.defers→zy L E E'→st'.ts.map (·.1)=g.2.keys (st.ts.map (·.1))→K st'→wpList P ops Q os a' E'.w):wpList P ops Q (o::os) a E.w:=by
  obtain⟨gd,b⟩:=g
  simp only[Wj,Bool.and_eq_true] at hok
  obtain⟨hok1,hok2⟩:=hok
  have go:b.quiet L st=true∧Z0 P L K st b→ZQ P rs o=some b→o.wp P a E.w (wpList P ops Q os) Q:=fun⟨hq,hstep⟩ hstrip=>
    yR hT R hstrip (jL hok1 rfl) (YT hstep) hq fun E' st' a' R' hd P' hk=>hK E' st' a' R' hd P' hk.1 hk.2
  unfold wpList
  unfold JF at hs
  split at hs
  · rename_i hg
    obtain⟨b',hb,e⟩:=zn hs
    cases e
    simp only[J0 hg,if_true]
    exact .inl (go h hb)
  · rename_i j want hg
    split at hs
    · rename_i t ht
      obtain⟨b',hb,e⟩:=zf hs
      split at e
      case isFalse=>cases e
      rename_i hdd
      cases e
      simp only[zZ] at h
      split at h
      · rename_i v hv
        simp only[JZ (ops:=ops) R hg ht hv]
        cases hvw:(v==want) with
        |true=>exact .inl (go (h.1 (by simpa using hvw)) hb)
        | false =>
          simp only[Bool.false_eq_true,if_false]
          have h3:=h.2 (by cases v<;>cases want<;>simp at hvw⊢)
          split at h3
          · rename_i d hd
            have F:=jL (st:=st) hok1 rfl
            have hbd:o.dst=some d∧zo N V st d∧b.keys (st.ts.map (·.1))=d::st.ts.map (·.1):=by
              refine⟨hdd.symm.trans hd,?_,?_⟩
              · cases b with
                |asg=>simp at hok2
                |st=>simp at hok2
                |_=>exact F d hd
              · cases b with
                |asg=>simp at hok2
                |st=>simp at hok2
                |r o=>simp only[Zy.keys];rw[hd]
                |mput=>cases hd
                |_=>cases hd;rfl
            obtain⟨hd1,F1,hkeys⟩:=hbd
            rw[hd1]
            exact hK E _ (a.put (some d) undef) (z2 R F1 undef) rfl (zy.refl E) hkeys.symm h3
          · exact h3.elim
      · rename_i vs hv
        obtain⟨rfl,h3⟩:=h
        simp only[Jz (ops:=ops) R hg ht hv]
        simp only[Bool.false_eq_true,if_false]
        split at h3
        · rename_i d hd
          have F:=jL (st:=st) hok1 rfl
          have hbd:o.dst=some d∧zo N V st d∧b.keys (st.ts.map (·.1))=d::st.ts.map (·.1):=by
            refine⟨hdd.symm.trans hd,?_,?_⟩
            · cases b with
              |asg=>simp at hok2
              |st=>simp at hok2
              |_=>exact F d hd
            · cases b with
              |asg=>simp at hok2
              |st=>simp at hok2
              |r o=>simp only[Zy.keys];rw[hd]
              |mput=>cases hd
              |_=>cases hd;rfl
          obtain⟨hd1,F1,hkeys⟩:=hbd
          rw[hd1]
          exact hK E _ (a.put (some d) undef) (z2 R F1 undef) rfl (zy.refl E) hkeys.symm h3
        · exact h3.elim
      · exact h.elim
    · cases hs
theorem YV {ops:Array Oper}{Q:Exit→Act→World→Prop}:∀(os:List Oper) (gs:List zu) {E:Env} {st:zb} {a:Act} {K:zb→Prop},os.map (JF P rs ops)=gs.map some→jV P E→zi E N V st a.tmps→Wi N V gs (st.ts.map (·.1))=true→qO P L K gs st→
    uw L E N V a K (Q .normal)→wpList P ops Q os a E.w
  |[],[],E,st,a,K,_,_,R,_,h,hK=>hK E st a R rfl (zy.refl E) h
  |[],_::_,E,st,a,K,hm,_,R,_,h,hK=>by simp at hm
  |_::_,[],E,st,a,K,hm,_,R,_,h,hK=>by simp at hm
  | o::os,g::gs,E,st,a,K,hm,hT,R,hok,h,hK=>by
    simp only[List.map_cons,List.cons.injEq] at hm
    simp only[Wi,Bool.and_eq_true] at hok
    exact gK hT R hm.1 hok.1 h fun E' st' a' R' hd P' hks hk=>YV os gs hm.2 (hT.pres P') R' (by rw[hks];exact hok.2) hk fun E2 st2 a2 R2 hd2 P2 hk2=>hK E2 st2 a2 R2 (hd2.trans hd) (P'.trans P2) hk2
end
end Go.Ga

namespace Go.Ga
open Go
abbrev zL :=List Nat×List (List Nat)×List (Addr×Value)
def zL.keep (i:Nat)(ws:List zL):List zL:=ws.filter fun x=> !x.1.contains i
section
variable {P:Program} {ops:Array Oper} {Q:Exit→Act→World→Prop} {md:Region.Mode}
def ZG (P:Program)(ops:Array Oper)(o:Oper)(rd:List (Addr×Value))(v:Value)(a:Act):Prop:=
 (Region.wanted o (yielded ops a.tmps)=true∧∀w:World,(∀c∈rd,w.cell? c.1=some c.2)→(execOp a.eval o).run P w= .ok (.value v) w)∨(Region.wanted o (yielded ops a.tmps)=false∧v=undef)
theorem ZG.of_same {o:Oper}{rd:List (Addr×Value)}{v:Value}{a a':Act}(hy:ZG P ops o rd v a)(he:execOp a'.eval o=execOp a.eval o)(hw:Region.wanted o (yielded ops a'.tmps)=Region.wanted o (yielded ops a.tmps)):ZG P ops o rd v a':=by
 unfold ZG
 rw[he,hw]
 exact hy
theorem ZG.wpOp {i:Nat}{o:Oper}{rd:List (Addr×Value)}{v:Value}{a:Act}(hi:ops[i]?=some o)(hy:ZG P ops o rd v a){K:Act→World→Prop}{w:World}(hrd:∀c∈rd,w.cell? c.1=some c.2)(h:K (a.put o.dst v) w):wpOp P ops Q i K a w:=by
 unfold Go.wpOp
 rw[hi]
 rcases hy with⟨h1,h2⟩|⟨h1,rfl⟩
 · simp only[h1,if_true,Oper.wp,h2 w hrd,Oper.upon]
   exact .inl h
 · simp only[h1,Bool.false_eq_true,if_false]
   exact h
theorem Xx {j:Nat}{o:Oper}(hj:ops[j]?=some o){K:Act→World→Prop}{a:Act}{w:World}(h:wpOp P ops Q j K a w):
    wpOp P ops Q j (fun a' w'=>(∃u ds,a'=({a with defers:=ds}:Act).put o.dst u)∧K a' w') a w:=by
  have self:∀u,∃u' ds,a.put o.dst u=({a with defers:=ds}:Act).put o.dst u':=fun u=>⟨u,a.defers,rfl⟩
  unfold Go.wpOp at h⊢
  rw[hj] at h⊢
  simp only[] at h⊢
  split
  · rename_i hw
    rw[if_pos hw] at h
    refine h.imp (fun h=>?_) id
    unfold Oper.wp at h⊢
    generalize (execOp a.eval o).run P w=r at h
    cases r with
    | ok n w'=>
      cases n with
      |value v=>exact⟨self _,h⟩
      |skip=>exact⟨self _,h⟩
      |defer d=>exact⟨⟨undef,d::a.defers,rfl⟩,h⟩
      | enter f args=>
        refine Calls.mono h fun e w'' he=>?_
        cases e with
        |returned u=>exact⟨self _,he⟩
        |panicked c=>exact he
        |outgrown=>exact he
      |row row args=>exact Rows.mono h fun u w'' he=>⟨self _,he⟩
      |_=>exact h.elim
    | halt x w'=>
      cases x<;>first
        |exact h
        |exact h.elim
  · rename_i hw
    rw[if_neg hw] at h
    exact⟨self _,h⟩
def yj (o:Oper)(v:Value):Oper:={o with op:= .move (.const v),guard:=none}
theorem w5 (o:Oper)(v:Value)(a:Act):Yields P ops (yj o v) v a:=
 .inl ⟨by simp[yj,Region.wanted],fun w=>by simp[yj,execOp,Act.eval]⟩
theorem WX {x y:Oper}{v:Value}(h:x.apart ops y=true):(yj x v).apart ops y=true:=by
 obtain⟨h1,h2,h3⟩:=Oper.apart_spec h
 have e:(yj x v).looksAt ops=[]:=by simp[Oper.looksAt,yj,Op.operands]
 unfold Oper.apart
 rw[e]
 have e2:(yj x v).dst=x.dst:=rfl
 rw[e2]
 cases hx:x.dst with
 |none=>cases y.dst<;>rfl
 | some d=>
   have g1:=h1 d hx
   have g2:=h2 d hx
   cases hy:y.dst with
   |none=>simp[g1]
   | some d'=>
     rw[hy] at g2
     have g3:¬d'=d:=fun e=>g2 (by rw[e])
     simp[g1,g3]
def jw (P:Program)(md:Region.Mode)(ops:Array Oper)(Q:Exit→Act→World→Prop):Nat→List zL→Array Bool→Act→World→Prop
 |0,_,listed,a,w=>Region.ready md ops listed=[]∧Q .normal a w
 | fuel+1,ws,listed,a,w=>
   (Region.ready md ops listed=[]→Q .normal a w)∧
   ∀i∈Region.ready md ops listed,wpOp P ops Q i (fun a' w'=>(∀x∈zL.keep i ws,∀c∈x.2.2,w.cell? c.1=some c.2→w'.cell? c.1=some c.2)∧jw P md ops Q fuel (zL.keep i ws) (listed.setIfInBounds i true) a' w') a w
theorem qP :∀(fuel:Nat) (ws:List zL) (listed:Array Bool) (a:Act) (w:World),jw P md ops Q fuel ws listed a w→wpAny P md ops Q fuel listed a w
 |0,_,_,_,_,h=>h
 |fuel+1,_,_,_,_,h=>⟨h.1,fun i hi=>wpOp_mono (fun a' w' h'=>qP fuel _ _ a' w' h'.2) (h.2 i hi)⟩
theorem Jd :∀(fuel:Nat) (ws ws':List zL) (listed:Array Bool) (a:Act) (w:World),(∀x∈ws,x∈ws')→jw P md ops Q fuel ws' listed a w→jw P md ops Q fuel ws listed a w
 |0,_,_,_,_,_,_,h=>h
 | fuel+1,ws,ws',_,_,_,hs,h=>by
   have hk:∀i,∀x∈zL.keep i ws,x∈zL.keep i ws':=fun i x hx=>by
    rw[zL.keep,List.mem_filter] at hx⊢
    exact⟨hs x hx.1,hx.2⟩
   exact⟨h.1,fun i hi=>wpOp_mono (fun a' w' h'=>⟨fun x hx=>h'.1 x (hk i x hx),Jd fuel _ _ _ a' w' (hk i) h'.2⟩) (h.2 i hi)⟩
theorem wW {i:Nat}{oi:Oper}{v:Value}{later:List Nat}{Ls:List (List Nat)}{rd:List (Addr×Value)}(hi:ops[i]?=some oi)(hsel:Region.noSelect ops=true)(hQ:∀c a w,¬Q (.panic c) a w)
    (hlater:∀k∈later,∀o,ops[k]?=some o→∃e∈o.after,Region.binds md e=true∧(e.on=i∨e.on∈later)) (hself:i∉later):
    ∀ (fuel:Nat) (ws:List zL) (listed:Array Bool) (a:Act) (w:World),
      (∀j oj,ops[j]?=some oj→j≠i→listed.getD j true=false→j∉later→oi.apart ops oj=true)→(∀k∈later,listed.getD k false=false)→
      i∈Region.ready md ops listed→ZG P ops oi rd v a→(∀c∈rd,w.cell? c.1=some c.2)→(later,Ls,rd)∈ws→
      jw P md ops Q fuel ws (listed.setIfInBounds i true) (a.put oi.dst v) w→jw P md ops Q (fuel+1) ws listed a w:=by
  have here:∀(fuel:Nat) (ws:List zL) (listed:Array Bool) (a:Act) (w:World),ZG P ops oi rd v a→(∀c∈rd,w.cell? c.1=some c.2)→
      jw P md ops Q fuel ws (listed.setIfInBounds i true) (a.put oi.dst v) w→
      wpOp P ops Q i (fun a' w'=>(∀x∈zL.keep i ws,∀c∈x.2.2,w.cell? c.1=some c.2→w'.cell? c.1=some c.2)∧jw P md ops Q fuel (zL.keep i ws) (listed.setIfInBounds i true) a' w') a w:=
    fun fuel ws listed a w hy hrd H=>hy.wpOp hi hrd ⟨fun _ _ _ _ h=>h,Jd fuel _ _ _ _ _ (fun x hx=>(List.mem_filter.1 hx).1) H⟩
  intro fuel
  induction fuel with
  | zero=>
    intro ws listed a w _ _ hr hy hrd _ H
    refine⟨fun h=>(by rw[h] at hr;cases hr),fun j hj=>?_⟩
    by_cases hji:j=i
    · subst hji;exact here 0 ws listed a w hy hrd H
    · have h1:=H.1
      have h2:=ready_mono hj hji
      rw[h1] at h2;cases h2
  | succ fuel ih=>
    intro ws listed a w hfree hlist hr hy hrd hmem H
    refine⟨fun h=>(by rw[h] at hr;cases hr),fun j hj=>?_⟩
    by_cases hji:j=i
    · subst hji;exact here _ ws listed a w hy hrd H
    · have h1:=H.2 j (ready_mono hj hji)
      obtain⟨hjun,oj,hoj,hall⟩:=mem_ready.1 hj
      have hiun:=(mem_ready.1 hr).1
      have hjl:j∉later:=fun hjl=>by
        obtain⟨e,he,hb,hon⟩:=hlater j hjl oj hoj
        have h2:=hall e he hb
        rcases hon with hon|hon
        · rw[hon] at h2
          rcases Nat.lt_or_ge i listed.size with h'|h'
          · simp[h'] at hiun h2;rw[hiun] at h2;cases h2
          · simp[Array.getElem?_eq_none h'] at h2
        · rw[hlist _ hon] at h2;cases h2
      have hap:=hfree j oj hoj hji hjun hjl
      have h2:=Xx hoj (wpOp_put hoj (WX (v:=v) hap) (fun cs b=>by simp[yj]) (Region.noSelect_spec hsel j oj · · hoj) (fun c a w h=>absurd h (hQ c _ w)) (w5 oi v a) h1)
      obtain⟨_,_,hap3⟩:=Oper.apart_spec hap
      have hfree':∀k ok,ops[k]?=some ok→k≠i→(listed.setIfInBounds j true).getD k true=false→k∉later→oi.apart ops ok=true:=fun k ok hk hki hun hno=>by
        refine hfree k ok hk hki ?_ hno
        by_cases hjk:j=k
        · subst hjk;exact hjun
        · rwa [getD_set_ne true hjk] at hun
      have hlist':∀k∈later,(listed.setIfInBounds j true).getD k false=false:=fun k hk=>by
        have hjk:j≠k:=fun e=>hjl (by rw[e];exact hk)
        rw[getD_set_ne false hjk];exact hlist k hk
      have hmem':(later,Ls,rd)∈zL.keep j ws:=List.mem_filter.2 ⟨hmem,by simpa using hjl⟩
      refine wpOp_mono (fun a' w' h3=>?_) h2
      obtain⟨⟨u,ds,rfl⟩,_,hk,h4⟩:=h3
      refine⟨hk,ih (zL.keep j ws) (listed.setIfInBounds j true) _ w' hfree' hlist' (ready_mono hr (Ne.symm hji)) ?_ (fun c hc=>hk _ hmem' c hc (hrd c hc)) hmem' ?_⟩
      · have hy2:ZG P ops oi rd v ({a with defers:=ds}:Act):=hy.of_same rfl rfl
        exact hy2.of_same (execOp_put oi (Region.noSelect_spec hsel i oi · · hi) _ oj.dst u hap3) (wanted_put oi _ oj.dst u hap3)
      · rw[Array.setIfInBounds_comm _ _ hji]
        exact h4
end
end Go.Ga

namespace Go.Ga
open Go
section
variable {L:List (List Nat)} {E:Env} {N:Nat} {V:List Nat} {st:zb} {a:Act} {P:Program} {o:Oper} {d:Nat} {tm:Array Value} {rs:List Nat×List Nat}
theorem XW {ao:Xw}{A:za}(R:zi E N V st a.tmps)(hs:ZQ P rs o=some (.r ao))(h:jd st ao=some A)(F:∀d,ao.dst=some d→zo N V st d):
    ∃d,o.dst=some d∧ao.dst=some d∧ZW (jK st ao) E N V st a P o d A:=by
  unfold ZQ at hs
  split at hs
  case h_2=>cases hs
  rename_i b0 hs0
  cases hs
  replace hs:=hs0
  clear hs0
  unfold J5 at hs
  split at hs
  · rename_i x d ho hd
    obtain⟨ox,hx,he⟩:=zn hs
    split at he
    · cases he
    · cases he
      exact⟨d,hd,rfl,KK R (F d rfl) ho hx h⟩
  · rename_i x d ho hd
    obtain⟨ox,hx,he⟩:=zn hs
    cases he
  · rename_i c x y d ho hd
    obtain⟨oc,hc,hs⟩:=zf hs
    obtain⟨ox,hx,hs⟩:=zf hs
    obtain⟨oy,hy,he⟩:=zn hs
    cases he
    exact⟨d,hd,rfl,Vh R (F d rfl) ho hc hx hy h⟩
  · rename_i op t x y yt d ho hd
    obtain⟨dsc,hu,hs⟩:=zf hs
    obtain⟨tag,ht,hs⟩:=zf hs
    obtain⟨ox,hx,hs⟩:=zf hs
    obtain⟨oy,hy,he⟩:=zn hs
    cases he
    refine⟨d,hd,rfl,?_⟩
    cases dsc<;>simp only[YO] at ht<;>try (cases ht;done)
    case struct fs=>
      split at ht
      · rename_i hok
        cases ht
        exact Vq R (F d rfl) ho hu hok hx hy h
      · cases ht
    all_goals cases ht
    · exact Vr R (F d rfl) ho hu hx hy h
    · exact We R (F d rfl) ho hx hy h
    · exact We R (F d rfl) ho hx hy h
    · exact QU R (F d rfl) ho hu hx hy h
    · exact QU R (F d rfl) ho hu hx hy h
    · exact QU R (F d rfl) ho hu hx hy h
  · rename_i t x d ho hd
    obtain⟨ox,hx,he⟩:=zn hs
    cases he
    exact⟨d,hd,rfl,Vi R (F d rfl) ho hx h⟩
  · rename_i s t x d ho hd
    split at hs
    · rename_i k1 k2 h1 h2
      obtain⟨ox,hx,he⟩:=zn hs
      cases he
      exact⟨d,hd,rfl,Vp R (F d rfl) ho h1 h2 hx h⟩
    · rename_i e h1 h2
      split at hs
      · obtain⟨ox,hx,he⟩:=zn hs
        cases he
      · cases hs
    · rename_i e h1 h2
      split at hs
      · rename_i h4
        obtain⟨ox,hx,he⟩:=zn hs
        cases he
        exact⟨d,hd,rfl,KO R (F d rfl) ho h1 h4 h2 hx h⟩
      · cases hs
    · split at hs
      · split at hs
        · obtain⟨ox,hx,he⟩:=zn hs
          cases he
        · cases hs
      · cases hs
    · cases hs
  · rename_i x d ho hd
    obtain⟨ox,hx,he⟩:=zn hs
    cases he
    exact⟨d,hd,rfl,uB R (F d rfl) ho hx h⟩
  · rename_i s x i d ho hd
    split at hs
    · rename_i fs hu
      obtain⟨fl,hf,hs⟩:=zf hs
      obtain⟨inf,hi,hs⟩:=zf hs
      split at hs
      · cases hs
      · rename_i hz
        obtain⟨ox,hx,he⟩:=zn hs
        cases he
        exact⟨d,hd,rfl,Vo R (F d rfl) ho hu hf hi hz hx h⟩
    · cases hs
  · rename_i s x i d ho hd
    split at hs
    · rename_i fs hu
      obtain⟨fl,hf,hs⟩:=zf hs
      obtain⟨dsc,hdd,hs⟩:=zf hs
      obtain⟨inf,hi,hs⟩:=zf hs
      obtain⟨ox,hx,he⟩:=zn hs
      cases he
      exact⟨d,hd,rfl,KM R (F d rfl) ho hu hf hdd hi hx h⟩
    · cases hs
  · rename_i t x i d ho hd
    split at hs
    · rename_i e hu
      obtain⟨inf,hi,hs⟩:=zf hs
      split at hs
      · cases hs
      · rename_i hz
        obtain⟨ox,hx,hs⟩:=zf hs
        obtain⟨oi,hoi,he⟩:=zn hs
        cases he
        exact⟨d,hd,rfl,Vn R (F d rfl) ho hu hi (Nat.pos_of_ne_zero hz) hx hoi h⟩
    · rename_i n e hu
      obtain⟨inf,hi,hs⟩:=zf hs
      obtain⟨ox,hx,hs⟩:=zf hs
      obtain⟨oi,hoi,he⟩:=zn hs
      cases he
      exact⟨d,hd,rfl,Vm R (F d rfl) ho hu hi hx hoi h⟩
    · cases hs
  · rename_i t x i d ho hd
    split at hs
    · rename_i hu
      obtain⟨ox,hx,hs⟩:=zf hs
      obtain⟨oi,hoi,he⟩:=zn hs
      cases he
      exact⟨d,hd,rfl,Vl R (F d rfl) ho hu hx hoi h⟩
    · rename_i n e hu
      obtain⟨dsc,hdd,hs⟩:=zf hs
      obtain⟨inf,hi,hs⟩:=zf hs
      obtain⟨ox,hx,hs⟩:=zf hs
      obtain⟨oi,hoi,he⟩:=zn hs
      cases he
      exact⟨d,hd,rfl,Vk R (F d rfl) ho hu hdd hi hx hoi h⟩
    · cases hs
  · rename_i t x d ho hd
    obtain⟨dsc,hu,hs⟩:=zf hs
    obtain⟨inf,hi,hs⟩:=zf hs
    obtain⟨ox,hx,he⟩:=zn hs
    cases he
    exact⟨d,hd,rfl,gq R (F d rfl) hu hi ho hx h⟩
  · rename_i t x v ho hd
    obtain⟨inf,hi,hs⟩:=zf hs
    obtain⟨ox,hx,hs⟩:=zf hs
    obtain⟨ov,hv,he⟩:=zn hs
    cases he
  · rename_i x i d ho hd
    obtain⟨ox,hx,he⟩:=zn hs
    cases he
    exact⟨d,hd,rfl,KN R (F d rfl) ho hx h⟩
  · rename_i t l c d ho hd
    split at hs
    · rename_i e hu
      obtain⟨inf,hi,hs⟩:=zf hs
      obtain⟨z,hz,hs⟩:=zf hs
      split at hs
      · rename_i hc
        obtain⟨ol,hl,hs⟩:=zf hs
        obtain⟨oc,hoc,he⟩:=zn hs
        cases hsm:ol.same oc<;>rw[hsm] at he<;>cases he
      · cases hs
    · cases hs
  · rename_i t len parts d ho hd
    split at hs
    · rename_i e hu
      obtain⟨inf,hi,hs⟩:=zf hs
      obtain⟨z,hz,hs⟩:=zf hs
      split at hs
      · rename_i hc
        obtain⟨ps,hps,he⟩:=zn hs
        cases he
      · cases hs
    · cases hs
  · rename_i t parts d ho hd
    obtain⟨inf,hi,hs⟩:=zf hs
    obtain⟨z,hz,hs⟩:=zf hs
    split at hs
    · rename_i hc
      obtain⟨ps,hps,he⟩:=zn hs
      cases he
    · cases hs
  · rename_i t x d ho hd
    obtain⟨ox,hx,he⟩:=zn hs
    cases he
  · rename_i t d ho hd
    obtain⟨inf,hi,hs⟩:=zf hs
    obtain⟨z,hz,he⟩:=zn hs
    cases he
  · rename_i f first captured d ho hd
    obtain⟨o1,ho1,hs⟩:=zf hs
    obtain⟨o2,ho2,he⟩:=zn hs
    cases he
  · rename_i t x lo hi d ho hd
    split at hs
    · rename_i e hu
      obtain⟨inf,hi',hs⟩:=zf hs
      split at hs
      · cases hs
      · rename_i hz
        obtain⟨ox,hx,hs⟩:=zf hs
        obtain⟨olo,hlo,hs⟩:=zf hs
        obtain⟨ohi,hhi,he⟩:=zn hs
        cases he
    · rename_i hu
      obtain⟨ox,hx,hs⟩:=zf hs
      obtain⟨olo,hlo,hs⟩:=zf hs
      obtain⟨ohi,hhi,he⟩:=zn hs
      cases he
      exact⟨d,hd,rfl,Vf R (F d rfl) ho hu hx (ZY hlo) (ZY hhi) h⟩
    · rename_i n e hu
      split at hs
      · obtain⟨inf,hi',hs⟩:=zf hs
        split at hs
        · cases hs
        · rename_i hz
          obtain⟨ox,hx,hs⟩:=zf hs
          obtain⟨olo,hlo,he⟩:=zn hs
          cases he
          exact⟨d,hd,rfl,Vg R (F d rfl) ho hu hi' hz hx (ZY hlo) h⟩
      · cases hs
    · cases hs
  · rename_i c d ho hd
    split at hs
    · rename_i f hc
      obtain⟨of,hf,hs⟩:=zf hs
      obtain⟨as,has,he⟩:=zn hs
      cases he
    · rename_i hc
      split at hs
      · rename_i x t hx1 ht1
        have hc':c={callee:= .builtin .len,args:= #[x],argTypes:= #[t]}:=by
          cases c with
          | mk callee args argTypes=>
            simp only at hc hx1 ht1
            subst hc
            congr
            · apply Array.ext';simpa using hx1
            · apply Array.ext';simpa using ht1
        subst hc'
        split at hs
        · rename_i e hu
          obtain⟨ox,hx,he⟩:=zn hs
          cases he
          exact⟨d,hd,rfl,KL R (F d rfl) ho hu hx h⟩
        · rename_i hu
          obtain⟨ox,hx,he⟩:=zn hs
          cases he
          exact⟨d,hd,rfl,Vj R (F d rfl) ho hu hx h⟩
        · cases hs
      · cases hs
    · rename_i hc
      split at hs
      · split at hs
        · obtain⟨ox,hx,he⟩:=zn hs
          cases he
        · cases hs
      · cases hs
    · rename_i hc
      split at hs
      · rename_i x y hx1
        have hc':c={callee:= .builtin (if true=true then .max else .min),args:= #[x,y],argTypes:=c.argTypes}:=by
          cases c with
          | mk callee args argTypes=>
            simp only at hc hx1
            subst hc
            congr
            apply Array.ext';simpa using hx1
        obtain⟨ox,hx,hs⟩:=zf hs
        obtain⟨oy,hy,he⟩:=zn hs
        cases he
        exact⟨d,hd,rfl,Kg (mx:=true) R (F d rfl) (by rw[ho,←hc']) hx hy h⟩
      · cases hs
    · rename_i hc
      split at hs
      · rename_i x y hx1
        have hc':c={callee:= .builtin (if false=true then .max else .min),args:= #[x,y],argTypes:=c.argTypes}:=by
          cases c with
          | mk callee args argTypes=>
            simp only at hc hx1
            subst hc
            congr
            apply Array.ext';simpa using hx1
        obtain⟨ox,hx,hs⟩:=zf hs
        obtain⟨oy,hy,he⟩:=zn hs
        cases he
        exact⟨d,hd,rfl,Kg (mx:=false) R (F d rfl) (by rw[ho,←hc']) hx hy h⟩
      · cases hs
    · rename_i hc
      split at hs
      · rename_i s x t t' hx1 ht1
        split at hs
        · rename_i htt
          subst htt
          have hc':c={callee:= .builtin .append,args:= #[s,x],argTypes:= #[t,t]}:=by
            cases c with
            | mk callee args argTypes=>
              simp only at hc hx1 ht1
              subst hc
              congr
              · apply Array.ext';simpa using hx1
              · apply Array.ext';simpa using ht1
          subst hc'
          split at hs
          · rename_i e hu
            obtain⟨inf,hi,hs⟩:=zf hs
            obtain⟨z,hz,hs⟩:=zf hs
            split at hs
            · rename_i hcond
              obtain⟨os,hos,hs⟩:=zf hs
              obtain⟨ox,hx,he⟩:=zn hs
              cases he
            · cases hs
          · cases hs
        · split at hs
          · rename_i e k hu hu'
            obtain⟨inf,hi,hs⟩:=zf hs
            obtain⟨z,hz,hs⟩:=zf hs
            split at hs
            · rename_i hcond
              obtain⟨os,hos,hs⟩:=zf hs
              obtain⟨ox,hx,he⟩:=zn hs
              cases he
            · cases hs
          · obtain⟨inf,hi,hs⟩:=zf hs
            obtain⟨z,hz,hs⟩:=zf hs
            split at hs
            · obtain⟨os,hos,hs⟩:=zf hs
              obtain⟨ox,hx,he⟩:=zn hs
              cases he
            · cases hs
          · cases hs
      · cases hs
    · split at hs
      · split at hs
        · obtain⟨inf,hi,hs⟩:=zf hs
          split at hs
          · obtain⟨os,hos,hs⟩:=zf hs
            obtain⟨ox,hx,he⟩:=zn hs
            cases he
          · cases hs
        · cases hs
      · cases hs
    · cases hs
  · cases hs
  · split at hs
    · split at hs
      · obtain⟨_,_,hs⟩:=zf hs
        split at hs
        · obtain⟨_,_,hs⟩:=zf hs
          obtain⟨_,_,he⟩:=zn hs
          cases he
        · cases hs
      · cases hs
    · cases hs
  · split at hs
    · split at hs
      · obtain⟨_,_,hs⟩:=zf hs
        obtain⟨_,_,hs⟩:=zf hs
        obtain⟨_,_,he⟩:=zn hs
        cases he
      · cases hs
    · cases hs
  · split at hs
    · split at hs
      · obtain⟨_,_,hs⟩:=zf hs
        obtain⟨_,_,hs⟩:=zf hs
        obtain⟨_,_,he⟩:=zn hs
        cases he
      · cases hs
    · cases hs
  · cases hs
end
end Go.Ga

namespace Go.Ga
open Go
inductive Sk where
 |done
 |take (i:Nat) (later:List Nat) (t:Sk)
 |one (i:Nat) (t:Sk)
 |two (i:Nat) (t:Sk) (j:Nat) (u:Sk)
 |three (i:Nat) (t:Sk) (j:Nat) (u:Sk) (k:Nat) (v:Sk)
 |many (l:List Nat) (t:Sk)
inductive ZV where
 |done
 |take (later:List Nat) (g:zu) (t:ZV)
 |one (i:Nat) (g:zu) (t:ZV)
 |two (i:Nat) (g:zu) (t:ZV) (j:Nat) (h:zu) (u:ZV)
 |three (i:Nat) (g:zu) (t:ZV) (j:Nat) (h:zu) (u:ZV) (k:Nat) (m:zu) (v:ZV)
 |many (l:List (Nat×zu)) (t:ZV)
def JV (P:Program)(rs:List Nat×List Nat)(ops:Array Oper)(i:Nat):Option zu:=(ops[i]?).bind (JF P rs ops)
def Sk.build (P:Program)(rs:List Nat×List Nat)(ops:Array Oper):Sk→Option ZV
 | .done=>some .done
 | .take i later t=>(JV P rs ops i).bind fun g=>(t.build P rs ops).map fun t'=> .take later g t'
 | .one i t=>(JV P rs ops i).bind fun g=>(t.build P rs ops).map fun t'=> .one i g t'
 | .two i t j u=>(JV P rs ops i).bind fun g=>(t.build P rs ops).bind fun t'=>(JV P rs ops j).bind fun h=>(u.build P rs ops).map fun u'=> .two i g t' j h u'
 | .three i t j u k v=>(JV P rs ops i).bind fun g=>(t.build P rs ops).bind fun t'=>(JV P rs ops j).bind fun h=>(u.build P rs ops).bind fun u'=>(JV P rs ops k).bind fun m=>(v.build P rs ops).map fun v'=> .three i g t' j h u' k m v'
 | .many l t=>(l.mapM fun i=>(JV P rs ops i).map fun g=>(i,g)).bind fun l'=>(t.build P rs ops).map fun t'=> .many l' t'
def Y1 (listed:Array Bool)(l:List Nat):Array Bool:=l.foldl (fun a i=>a.setIfInBounds i true) listed
def XC (ops:Array Oper)(listed:Array Bool)(i:Nat)(later:List Nat):Bool:=
 !later.contains i&&
 later.all (fun k=> !listed.getD k false&&match ops[k]? with|some o=>o.after.any (fun e=>Region.binds .any e&&(e.on==i||later.contains e.on))|none=>true)&&
 match ops[i]? with
 |none=>false
 |some oi=>(List.range ops.size).all fun j=>j==i||listed.getD j true||later.contains j||match ops[j]? with
  |some oj=>oi.apart ops oj
  |none=>true
def Sk.ok (ops:Array Oper):Nat→Array Bool→Sk→Bool
 |_,listed,.done=>(Region.ready .any ops listed).isEmpty
 |fuel+1,listed,.take i later t=>(Region.ready .any ops listed).contains i&&XC ops listed i later&&t.ok ops fuel (listed.setIfInBounds i true)
 |fuel+1,listed,.one i t=>(Region.ready .any ops listed)==[i]&&t.ok ops fuel (listed.setIfInBounds i true)
 |fuel+1,listed,.two i t j u=>(Region.ready .any ops listed)==[i,j]&&t.ok ops fuel (listed.setIfInBounds i true)&&u.ok ops fuel (listed.setIfInBounds j true)
 |fuel+1,listed,.three i t j u k v=>(Region.ready .any ops listed)==[i,j,k]&&t.ok ops fuel (listed.setIfInBounds i true)&&u.ok ops fuel (listed.setIfInBounds j true)&&v.ok ops fuel (listed.setIfInBounds k true)
 |fuel,listed,.many l t=>decide (l.length≤fuel)&&((Region.ready .any ops listed)==l&&(l.all (fun i=>(Region.ready .any ops (Y1 listed (l.erase i)))==[i])&&t.ok ops (fuel - l.length) (Y1 listed l)))
 |0,_,_=>false
def j5 (ds:List Nat):zm→Bool
 | .t j=> !ds.contains j
 |_=>true
def yz (l:List (Nat×zu)):List Nat:=l.filterMap fun p=>p.2.2.dst
def Wl (N:Nat)(V:List Nat)(ds:List Nat):List (Nat×zu)→List Nat→Bool
 |[],_=>true
 |(_,g)::l,ks=>(match g with|(none,.mk _ x y _ _ _)=>j5 ds x&&j5 ds y|_=>false)&&(Wj N V g ks&&Wl N V ds l (g.2.keys ks))
def QA :List (Nat×zu)→List Nat→List Nat
 |[],ks=>ks
 |(_,g)::l,ks=>QA l (g.2.keys ks)
def ZV.okT (N:Nat)(V:List Nat):ZV→List Nat→Bool
 | .done,_=>true
 | .take _ g t,ks=>Wj N V g ks&&t.okT N V (g.2.keys ks)
 | .one _ g t,ks=>Wj N V g ks&&t.okT N V (g.2.keys ks)
 | .two _ g t _ h u,ks=>Wj N V g ks&&t.okT N V (g.2.keys ks)&&Wj N V h ks&&u.okT N V (h.2.keys ks)
 | .three _ g t _ h u _ m v,ks=>Wj N V g ks&&t.okT N V (g.2.keys ks)&&Wj N V h ks&&u.okT N V (h.2.keys ks)&&Wj N V m ks&&v.okT N V (m.2.keys ks)
 | .many l t,ks=>Wl N V (yz l) l ks&&t.okT N V (QA l ks)
abbrev ZX :=List Nat×List (List Nat)
def z7 (i:Nat)(wl:List ZX):List ZX:=wl.filter fun x=> !x.1.contains i
def jq (wl:List ZX):List (List Nat):=wl.flatMap (·.2)
def gt (P:Program)(X:List ZX→zb→Prop):List (Nat×zu)→List ZX→zb→Prop
 |[],wl,st=>X wl st
 |(i,g)::l,wl,st=>zZ P [] (gt P X l (z7 i wl)) st g
def ZI (P:Program)(K:zb→Prop):ZV→List ZX→zb→Prop
 | .done,_,st=>K st
 | .take later g t,wl,st=>match g.2 with
   | .r o=>zZ P [] (ZI P K t ((later,jK st o)::wl)) st g
   |_=>False
 | .one i g t,wl,st=>zZ P (jq (z7 i wl)) (ZI P K t (z7 i wl)) st g
 | .two i g t j h u,wl,st=>zZ P (jq (z7 i wl)) (ZI P K t (z7 i wl)) st g∧zZ P (jq (z7 j wl)) (ZI P K u (z7 j wl)) st h
 | .three i g t j h u k m v,wl,st=>zZ P (jq (z7 i wl)) (ZI P K t (z7 i wl)) st g∧zZ P (jq (z7 j wl)) (ZI P K u (z7 j wl)) st h∧zZ P (jq (z7 k wl)) (ZI P K v (z7 k wl)) st m
 | .many l t,wl,st=>gt P (ZI P K t) l wl st
def yE (E:Env)(ws:List zL):Prop:=
 ∀x∈ws,∀c∈x.2.2,(E.O c.1.block=none∧c.1.block<E.w.heap.size)∨∃r∈x.2.1,(r.head?=some 0∨r.head?=some 1)∧E.O c.1.block=some r∧c.1.block<E.w.heap.size
def yC (ws:List zL):List ZX:=ws.map fun x=>(x.1,x.2.1)
section
variable {L:List (List Nat)} {E:Env} {N:Nat} {V:List Nat} {st:zb} {a:Act} {P:Program} {o:Oper} {d:Nat} {tm:Array Value} {rs:List Nat×List Nat} {ops:Array Oper} {Q:Exit→Act→World→Prop}
theorem Yk (i:Nat)(ws:List zL):z7 i (yC ws)=yC (zL.keep i ws):=by
 unfold z7 yC zL.keep
 rw[List.filter_map]
 rfl
theorem yE.kept {ws:List zL}{E':Env}(W:yE E ws)(P':zy (jq (yC ws)) E E'):yE E' ws∧∀x∈ws,∀c∈x.2.2,E'.w.heap[c.1.block]?=E.w.heap[c.1.block]?:=by
 have key:∀x∈ws,∀c∈x.2.2,((E'.O c.1.block=none∧c.1.block<E'.w.heap.size)∨∃r∈x.2.1,(r.head?=some 0∨r.head?=some 1)∧E'.O c.1.block=some r∧c.1.block<E'.w.heap.size)∧E'.w.heap[c.1.block]?=E.w.heap[c.1.block]?:=by
  intro x hx c hc
  rcases W x hx c hc with⟨h1,h2⟩|⟨r,h1,h2,h3,h4⟩
  · obtain⟨h3,h4⟩:=P'.old _ h1 h2
    exact⟨.inl ⟨h3,Nat.lt_of_lt_of_le h2 P'.size⟩,h4⟩
  · have hw:kL (jq (yC ws)) r:=⟨List.mem_flatMap.2 ⟨(x.1,x.2.1),List.mem_map.2 ⟨x,hx,rfl⟩,h1⟩,h2⟩
    obtain⟨h5,h6⟩:=P'.keep _ r hw h3 h4
    have h7:=Nat.lt_of_lt_of_le h4 P'.size
    rcases h5 with h5|h5
    · exact⟨.inr ⟨r,h1,h2,h5,h7⟩,h6⟩
    · exact⟨.inl ⟨h5,h7⟩,h6⟩
 exact⟨fun x hx c hc=>(key x hx c hc).1,fun x hx c hc=>(key x hx c hc).2⟩
theorem yE.sub {ws ws':List zL}(W:yE E ws)(h:∀x∈ws',x∈ws):yE E ws':=fun x hx=>W x (h x hx)
theorem K0 {i : Nat}{g:zu}{K:zb→Prop}{X:Act→World→Prop}(hT:jV P E)(R:zi E N V st a.tmps)(hi:ops[i]?=some o)(hs:JF P rs ops o=some g)(hok:Wj N V g (st.ts.map (·.1))=true)(h:zZ P L K st g)
    (hK:∀E' st' a',zi E' N V st' a'.tmps→a'.defers=a.defers→zy L E E'→st'.ts.map (·.1)=g.2.keys (st.ts.map (·.1))→K st'→X a' E'.w):wpOp P ops Q i X a E.w:=by
  obtain⟨gd,b⟩:=g
  simp only[Wj,Bool.and_eq_true] at hok
  obtain⟨hok1,hok2⟩:=hok
  have go:b.quiet L st=true∧Z0 P L K st b→ZQ P rs o=some b→o.wp P a E.w X Q:=fun⟨hq,hstep⟩ hstrip=>
    yR hT R hstrip (jL hok1 rfl) (YT hstep) hq fun E' st' a' R' hd P' hk=>hK E' st' a' R' hd P' hk.1 hk.2
  unfold Go.wpOp
  rw[hi]
  unfold JF at hs
  split at hs
  · rename_i hg
    obtain⟨b',hb,e⟩:=zn hs
    cases e
    simp only[J0 hg,if_true]
    exact .inl (go h hb)
  · rename_i j want hg
    split at hs
    · rename_i t ht
      obtain⟨b',hb,e⟩:=zf hs
      split at e
      case isFalse=>cases e
      rename_i hdd
      cases e
      simp only[zZ] at h
      split at h
      · rename_i v hv
        simp only[JZ (ops:=ops) R hg ht hv]
        cases hvw:(v==want) with
        |true=>exact .inl (go (h.1 (by simpa using hvw)) hb)
        | false =>
          simp only[Bool.false_eq_true,if_false]
          have h3:=h.2 (by cases v<;>cases want<;>simp at hvw⊢)
          split at h3
          · rename_i d hd
            have F:=jL (st:=st) hok1 rfl
            have hbd:o.dst=some d∧zo N V st d∧b.keys (st.ts.map (·.1))=d::st.ts.map (·.1):=by
              refine⟨hdd.symm.trans hd,?_,?_⟩
              · cases b with
                |asg=>simp at hok2
                |st=>simp at hok2
                |_=>exact F d hd
              · cases b with
                |asg=>simp at hok2
                |st=>simp at hok2
                |r o=>simp only[Zy.keys];rw[hd]
                |mput=>cases hd
                |_=>cases hd;rfl
            obtain⟨hd1,F1,hkeys⟩:=hbd
            rw[hd1]
            exact hK E _ (a.put (some d) undef) (z2 R F1 undef) rfl (zy.refl E) hkeys.symm h3
          · exact h3.elim
      · rename_i vs hv
        obtain⟨rfl,h3⟩:=h
        simp only[Jz (ops:=ops) R hg ht hv]
        simp only[Bool.false_eq_true,if_false]
        split at h3
        · rename_i d hd
          have F:=jL (st:=st) hok1 rfl
          have hbd:o.dst=some d∧zo N V st d∧b.keys (st.ts.map (·.1))=d::st.ts.map (·.1):=by
            refine⟨hdd.symm.trans hd,?_,?_⟩
            · cases b with
              |asg=>simp at hok2
              |st=>simp at hok2
              |_=>exact F d hd
            · cases b with
              |asg=>simp at hok2
              |st=>simp at hok2
              |r o=>simp only[Zy.keys];rw[hd]
              |mput=>cases hd
              |_=>cases hd;rfl
          obtain⟨hd1,F1,hkeys⟩:=hbd
          rw[hd1]
          exact hK E _ (a.put (some d) undef) (z2 R F1 undef) rfl (zy.refl E) hkeys.symm h3
        · exact h3.elim
      · exact h.elim
    · cases hs
theorem Gk {g :zu}{ao:Xw}{K:zb→Prop}(R:zi E N V st a.tmps)(hs:JF P rs ops o=some g)(hao:g.2= .r ao)(hok:Wj N V g (st.ts.map (·.1))=true)(h:zZ P [] K st g):
    ∃ v rd st',ZG P ops o rd v a∧(∀c∈rd,E.w.cell? c.1=some c.2∧((E.O c.1.block=none∧c.1.block<E.w.heap.size)∨∃r∈jK st ao,(r.head?=some 0∨r.head?=some 1)∧E.O c.1.block=some r∧c.1.block<E.w.heap.size))∧
      zi E N V st' (a.put o.dst v).tmps∧K st'∧st'.ts.map (·.1)=g.2.keys (st.ts.map (·.1)):=by
  obtain⟨gd,b⟩:=g
  simp only at hao
  subst hao
  simp only[Wj,Bool.and_eq_true] at hok
  obtain⟨hok1,_⟩:=hok
  have F:=jL (st:=st) hok1 rfl
  have go:Z0 P [] K st (.r ao)→ZQ P rs o=some (.r ao)→Region.wanted o (yielded ops a.tmps)=true→∃v rd st',ZG P ops o rd v a∧(∀c∈rd,E.w.cell? c.1=some c.2∧((E.O c.1.block=none∧c.1.block<E.w.heap.size)∨∃r∈jK st ao,(r.head?=some 0∨r.head?=some 1)∧E.O c.1.block=some r∧c.1.block<E.w.heap.size))∧
      zi E N V st' (a.put o.dst v).tmps∧K st'∧st'.ts.map (·.1)=(Zy.r ao).keys (st.ts.map (·.1)):=by
    intro hstep hstrip hw
    obtain⟨A,d,hd1,h2,⟨v,rd,hrd,hy,R'⟩,h3⟩:∃A d,o.dst=some d∧ao.dst=some d∧ZW (jK st ao) E N V st a P o d A∧K (st.putT d A):=by
      rcases Ve hstep with h|h
      · obtain⟨A,d,h1,h2,h3⟩:=KJ h
        obtain⟨d',hd1,hd2,hro⟩:=XW R hstrip h1 F
        rw[h2] at hd2
        cases hd2
        exact⟨A,d,hd1,h2,hro,h3⟩
      · obtain⟨A,d,h1,h2,h3,h4,_⟩:=Yb (Ls:=jK st ao) R hstrip F h
        exact⟨A,d,h1,h2,h3,h4⟩
    exact⟨v,rd,st.putT d A,.inl ⟨hw,hy⟩,hrd,by rw[hd1];exact R',h3,by simp[Zy.keys,Zy.dst,h2,zb.putT]⟩
  unfold JF at hs
  split at hs
  · rename_i hg
    obtain⟨b',hb,e⟩:=zn hs
    cases e
    exact go h.2 hb (J0 hg)
  · rename_i j want hg
    split at hs
    · rename_i t ht
      obtain⟨b',hb,e⟩:=zf hs
      split at e
      case isFalse=>cases e
      rename_i hdd
      cases e
      simp only[zZ] at h
      split at h
      · rename_i v hv
        have hwt:=JZ (ops:=ops) R hg ht hv
        cases hvw:(v==want) with
        |true=>exact go (h.1 (by simpa using hvw)).2 hb (hwt.trans hvw)
        | false=>
          have h3:=h.2 (by cases v<;>cases want<;>simp at hvw⊢)
          split at h3
          · rename_i d hd
            have F1:=F d hd
            refine⟨undef,[],st.putT d (.sc (.tuple #[])),.inr ⟨hwt.trans hvw,rfl⟩,(fun c hc=>by cases hc),?_,h3,?_⟩
            · rw[hdd.symm.trans hd]
              exact z2 R F1 undef
            · simp only[Zy.keys];rw[hd];rfl
          · exact h3.elim
      · rename_i vs hv
        obtain⟨rfl,h3⟩:=h
        split at h3
        · rename_i d hd
          have F1:=F d hd
          refine⟨undef,[],st.putT d (.sc (.tuple #[])),.inr ⟨Jz (ops:=ops) R hg ht hv,rfl⟩,(fun c hc=>by cases hc),?_,h3,?_⟩
          · rw[hdd.symm.trans hd]
            exact z2 R F1 undef
          · simp only[Zy.keys];rw[hd];rfl
        · exact h3.elim
      · exact h.elim
    · cases hs
theorem Wd {md:Region.Mode}{listed:Array Bool}{i:Nat}(h:(Region.ready md ops listed==[i])=true):Region.ready md ops listed=[i]:=by simpa using h
def g7 (st:zb)(l c:zm)(sz bs:Nat)(zs:List Value):Option za:=
 match st.dec l,st.dec c with
 |some n,some m=>if 0≤n∧n≤m∧bs*m.toNat≤140737488355328∧m≤9223372036854775807 then some (.own (some sz) (zv zs n.toNat)) else none
 |_,_=>none
def jy (st:zb):zu→Option (Nat×za)
 |(none,.mk d l c sz bs zs)=>(g7 st l c sz bs zs).map fun A=>(d,A)
 |_=>none
theorem Qy {d:Nat}{l c:zm}{sz bs:Nat}{zs:List Value}:jy st (none,.mk d l c sz bs zs)=(g7 st l c sz bs zs).map fun A=>(d,A):=rfl
def Yv (ds:List Nat):zu→Bool
 |(none,.mk _ x y _ _ _)=>j5 ds x&&j5 ds y
 |_=>false
theorem qj {ds:List Nat}{g:zu}(h:Yv ds g=true):∃d l c sz bs zs,g=(none,.mk d l c sz bs zs)∧j5 ds l=true∧j5 ds c=true:=by
 obtain⟨gd,b⟩:=g
 cases gd with
 |some _=>cases h
 | none=>
   cases b with
   |mk d l c sz bs zs=>simp only[Yv,Bool.and_eq_true] at h;exact⟨d,l,c,sz,bs,zs,rfl,h.1,h.2⟩
   |_=>cases h
theorem KG (d:Nat)(l c:zm)(sz bs:Nat)(zs:List Value):gf st d l c sz bs zs=(g7 st l c sz bs zs).map (st.putT d):=by
 unfold gf g7
 cases st.dec l with
 |none=>rfl
 | some n=>
   cases st.dec c with
   |none=>rfl
   | some m=>
     simp only[]
     split<;>rfl
theorem wB {g:zu}{d:Nat}{A:za}(h:jy st g=some (d,A)):g.2.dst=some d:=by
 obtain⟨gd,b⟩:=g
 cases gd with
 |some _=>cases h
 | none=>
   cases b with
   | mk d' l c sz bs zs=>
     rw[Qy] at h
     obtain⟨A',_,e⟩:=Option.map_eq_some_iff.1 h
     cases e;rfl
   |_=>cases h
theorem xu {Ls:List (List Nat)}{K:zb→Prop}{d:Nat}{l c:zm}{sz bs:Nat}{zs:List Value}:zZ P Ls K st (none,.mk d l c sz bs zs)↔∃A,jy st (none,.mk d l c sz bs zs)=some (d,A)∧K (st.putT d A):=by
 show(true=true∧Zh (gf st d l c sz bs zs) K)↔_
 rw[KG,Qy]
 cases h:g7 st l c sz bs zs with
 |none=>simp[Zh]
 |some A=>simp[Zh]
theorem xC {ds:List Nat}{x:zm}(h:j5 ds x=true){X:List (Nat×za)}(hX:∀p∈X,p.1∈ds):zb.dec {st with ts:=X++st.ts} x=st.dec x:=by
 unfold zb.dec
 cases x with
 | t j=>
   simp only[j5,Bool.not_eq_true',List.contains_eq_mem,decide_eq_false_iff_not] at h
   have:zG (X++st.ts) j=zG st.ts j:=by
    induction X with
    |nil=>rfl
    | cons p X ih=>
      obtain⟨i,A⟩:=p
      rw[List.cons_append]
      show(if j=i then some A else zG (X++st.ts) j)=_
      rw[if_neg (fun e=>h (by have:=hX (i,A) (by simp);rw[e];exact this)),ih fun p hp=>hX p (by simp[hp])]
   show(za.int? (ZM (zG (X++st.ts) j) (zG st.vs j)))=_
   rw[this];rfl
 |c v=>rfl
 |f g=>rfl
theorem Yd {ds:List Nat}{g:zu}(h:Yv ds g=true){X:List (Nat×za)}(hX:∀p∈X,p.1∈ds):jy {st with ts:=X++st.ts} g=jy st g:=by
 obtain⟨d,l,c,sz,bs,zs,rfl,h1,h2⟩:=qj h
 rw[Qy,Qy]
 unfold g7
 rw[xC h1 hX,xC h2 hX]
theorem UC {X Y:List (Nat×za)}(h:X.Perm Y):(X.map (·.1)).Nodup→∀j,zG X j=zG Y j:=by
 induction h with
 |nil=>intro _ _;rfl
 | cons x _ ih=>
   intro hn j
   obtain⟨i,A⟩:=x
   rw[List.map_cons,List.nodup_cons] at hn
   show(if j=i then some A else _)=(if j=i then some A else _)
   rw[ih hn.2 j]
 | swap x y l=>
   intro hn j
   obtain⟨i,A⟩:=x
   obtain⟨k,B⟩:=y
   simp only[List.map_cons,List.nodup_cons,List.mem_cons,not_or] at hn
   show(if j=k then some B else if j=i then some A else zG l j)=(if j=i then some A else if j=k then some B else zG l j)
   by_cases e1:j=k
   · by_cases e2:j=i
     · exact absurd (e1.symm.trans e2) hn.1.1
     · rw[if_pos e1,if_neg e2,if_pos e1]
   · rw[if_neg e1,if_neg e1]
 | trans h1 _ ih1 ih2=>
   intro hn j
   rw[ih1 hn j,ih2 ((h1.map _).nodup_iff.1 hn) j]
theorem xj (X T:List (Nat×za))(j:Nat):zG (X++T) j=(match zG X j with|some A=>some A|none=>zG T j):=by
 induction X with
 |nil=>rfl
 | cons p X ih=>
   obtain⟨i,A⟩:=p
   rw[List.cons_append]
   show(if j=i then some A else zG (X++T) j)=(match(if j=i then some A else zG X j) with|some A=>some A|none=>zG T j)
   split
   · rfl
   · exact ih
theorem zi.perm {E:Env}{tm:Array Value}{X X' T:List (Nat×za)}(h:X.Perm X')(hn:(X.map (·.1)).Nodup)(R:zi E N V {st with ts:=X++T} tm):zi E N V {st with ts:=X'++T} tm:=by
 have hg:∀i,zb.get {st with ts:=X'++T} i=zb.get {st with ts:=X++T} i:=fun i=>by
  show ZM (zG (X'++T) i) (zG st.vs i)=ZM (zG (X++T) i) (zG st.vs i)
  rw[xj,xj,UC h hn]
 have hat:∀p,zb.at {st with ts:=X'++T} p=zb.at {st with ts:=X++T} p:=fun p=>by
  match p with
  |[]=>rfl
  |[0]=>rfl
  |[1]=>rfl
  |[1,_]=>rfl
  |0::i::ks=>show(zb.get {st with ts:=X'++T} i).sub ks=_;rw[hg];rfl
  |1::id::k::ks=>rfl
  |(_+2)::_=>rfl
 have hm:∀r,r∈(X++T).map (·.1)↔r∈(X'++T).map (·.1):=fun r=>((h.append_right T).map _).mem_iff
 refine⟨R.size,R.keys,R.num,fun d hd hk=>R.disj d hd ((hm d).2 hk),R.lim,fun i A r hA hr=>?_,fun i=>?_,R.objs⟩
 · rcases R.roots i A r ((hg i).symm.trans hA) hr with h1|h1
   · exact .inl h1
   · exact .inr ((hm r).1 h1)
 · have hs:=R.slots i
   rw[hg i]
   generalize zb.get {st with ts:=X++T} i=A at hs
   cases A with
   | at_ p=>
     obtain⟨B,v,k1,k2⟩:=hs
     exact⟨B,v,(hat p).trans k1,k2⟩
   | addr p k=>
     obtain⟨hd,cs,v,b,o,k1,k2⟩:=hs
     exact⟨hd,cs,v,b,o,(hat p).trans k1,k2⟩
   |_=>exact hs
theorem VJ (listed:Array Bool)(i j:Nat):(listed.setIfInBounds i true).setIfInBounds j true=(listed.setIfInBounds j true).setIfInBounds i true:=by
 by_cases h:i=j
 · subst h;rfl
 · exact Array.setIfInBounds_comm _ _ h
theorem xh {S T:List Nat}(h:S.Perm T):∀listed:Array Bool,Y1 listed S=Y1 listed T:=by
 induction h with
 |nil=>intro _;rfl
 |cons x _ ih=>intro l;exact ih _
 |swap x y S=>intro l;show Y1 ((l.setIfInBounds y true).setIfInBounds x true) S=Y1 ((l.setIfInBounds x true).setIfInBounds y true) S;rw[VJ]
 |trans _ _ ih1 ih2=>intro l;exact(ih1 l).trans (ih2 l)
theorem Yg (listed:Array Bool)(S:List Nat)(i:Nat):Y1 listed (i::S)=(Y1 listed S).setIfInBounds i true:=by
 rw[xh (List.perm_append_singleton i S).symm]
 simp[Y1,List.foldl_append]
theorem Yh (listed:Array Bool)(S:List Nat):(Y1 listed S).size=listed.size:=by
 induction S with
 |nil=>rfl
 |cons i S ih=>rw[Yg];simpa using ih
theorem Wo (listed:Array Bool)(S:List Nat)(j:Nat)(b:Bool)(hj:j<listed.size):(Y1 listed S).getD j b=(decide (j∈S)||listed.getD j b):=by
 induction S with
 |nil=>simp[Y1]
 | cons i S ih=>
   have hs:=Yh listed S
   rw[Yg]
   simp only[Array.getD_eq_getD_getElem?] at ih⊢
   by_cases e:i=j
   · subst e;simp[Array.getElem?_setIfInBounds,hs,hj]
   · rw[Array.getElem?_setIfInBounds_ne e,ih];simp[Ne.symm e]
def jr (S:List Nat)(ws:List zL):List zL:=ws.filter fun x=>S.all fun i=> !x.1.contains i
theorem Qe (i:Nat)(S:List Nat)(ws:List zL):zL.keep i (jr S ws)=jr (i::S) ws:=by
 unfold zL.keep jr
 rw[List.filter_filter]
 rfl
theorem ue {S T:List Nat}(h:S.Perm T)(ws:List zL):jr S ws=jr T ws:=by
 unfold jr
 refine List.filter_congr fun x _=>?_
 rw[Bool.eq_iff_iff,List.all_eq_true,List.all_eq_true]
 exact⟨fun k i hi=>k i (h.mem_iff.2 hi),fun k i hi=>k i (h.mem_iff.1 hi)⟩
theorem Yc {X:List ZX→zb→Prop}{ds:List Nat}:∀(l:List (Nat×zu)) (S:List Nat) (ws:List zL) (Y:List (Nat×za)),(∀p∈l,Yv ds p.2=true∧∀d,p.2.2.dst=some d→d∈ds)→(∀p∈Y,p.1∈ds)→gt P X l (yC (jr S ws)) {st with ts:=Y++st.ts}→
    ∃kvs:List (Nat×za),l.map (fun p=>jy st p.2)=kvs.map some∧X (yC (jr ((l.map (·.1)).reverse++S) ws)) {st with ts:=(kvs.reverse++Y)++st.ts}
  |[],S,ws,Y,_,_,h=>⟨[],rfl,h⟩
  | (i,g)::l,S,ws,Y,hl,hY,h=>by
    obtain⟨hf,hd⟩:=hl (i,g) (by simp)
    obtain⟨d,x,c,sz,bs,zs,rfl,h1,h2⟩:=qj hf
    obtain⟨A,hA,hk⟩:=xu.1 h
    rw[Yd hf hY] at hA
    rw[Yk,Qe] at hk
    obtain⟨kvs,e,hX⟩:=Yc l (i::S) ws ((d,A)::Y) (fun p hp=>hl p (by simp[hp])) (fun p hp=>by
      rcases List.mem_cons.1 hp with rfl|hp
      · exact hd d rfl
      · exact hY p hp) hk
    refine⟨(d,A)::kvs,by rw[List.map_cons,List.map_cons,e,hA],?_⟩
    simpa using hX
theorem ready_mono {A B:Array Bool}{i:Nat}(h:i∈Region.ready .any ops A)(hs:∀j,A.getD j false=true→B.getD j false=true)(hB:B.getD i true=false):i∈Region.ready .any ops B:=by
 unfold Region.ready at h⊢
 rw[List.mem_filter] at h⊢
 obtain⟨h1,h2⟩:=h
 refine⟨h1,?_⟩
 rw[Bool.and_eq_true] at h2⊢
 refine⟨by rw[hB];rfl,?_⟩
 have h3:=h2.2
 cases ho:ops[i]? with
 |none=>rw[ho] at h3;cases h3
 | some o=>
   rw[ho] at h3
   simp only[Option.map_some,Option.getD_some] at h3⊢
   rw[Array.all_eq_true'] at h3⊢
   intro e he
   have:=h3 e he
   rw[Bool.or_eq_true] at this⊢
   exact this.imp id (hs e.on)
theorem Qz {ds:List Nat}:∀(l:List (Nat×zu)) (ks:List Nat),Wl N V ds l ks=true→(∀p∈l,Yv ds p.2=true∧∃d,p.2.2.dst=some d∧d<N∧d∉V∧d∉ks)∧(yz l).Nodup∧QA l ks=(yz l).reverse++ks
 |[],ks,_=>⟨by simp,List.nodup_nil,rfl⟩
 | (i, g)::l,ks,h=>by
   simp only[Wl,Bool.and_eq_true] at h
   obtain⟨h1,h2,h3⟩:=h
   have hf:Yv ds g=true:=by
    obtain⟨gd,b⟩:=g
    cases gd with
    |some _=>cases h1
    |none=>cases b<;>first|exact h1|cases h1
   obtain⟨d,x,c,sz,bs,zs,rfl,k1,k2⟩:=qj hf
   have hd:d<N∧d∉V∧d∉ks:=by
    simp only[Wj,Bool.and_eq_true] at h2
    have:=h2.1
    simp only[Zy.ok,Zy.dst,Bool.and_eq_true,decide_eq_true_eq,Bool.not_eq_true',List.contains_eq_mem,decide_eq_false_iff_not] at this
    exact⟨this.1.1,this.1.2,this.2⟩
   obtain⟨j1,j2,j3⟩:=Qz l (d::ks) h3
   refine⟨fun p hp=>?_,?_,?_⟩
   · rcases List.mem_cons.1 hp with rfl|hp
     · exact⟨hf,d,rfl,hd⟩
     · obtain⟨a1,d',a2,a3,a4,a5⟩:=j1 p hp
       exact⟨a1,d',a2,a3,a4,fun h=>a5 (List.mem_cons_of_mem _ h)⟩
   · show(d::yz l).Nodup
     rw[List.nodup_cons]
     refine⟨fun hm=>?_,j2⟩
     obtain⟨p,hp,hpd⟩:=List.mem_filterMap.1 hm
     obtain⟨_,d',a2,_,_,a5⟩:=j1 p hp
     rw[a2] at hpd
     cases hpd
     exact a5 (by simp)
   · show QA l (d::ks)=(d::yz l).reverse++ks
     rw[j3];simp
theorem VB {g:zu}{ds ks ks':List Nat}(hf:Yv ds g=true){d:Nat}(hd:g.2.dst=some d)(h1:d<N)(h2:d∉V)(h3:d∉ks'):Wj N V g ks'=true:=by
 obtain⟨d',x,c,sz,bs,zs,rfl,k1,k2⟩:=qj hf
 cases hd
 simp[Wj,Zy.ok,Zy.dst,h1,h2,h3]
theorem xi {listed:Array Bool}{S T:List Nat}(h:∀i∈S,i∈T)(j:Nat)(hj:(Y1 listed S).getD j false=true):(Y1 listed T).getD j false=true:=by
 by_cases hs:j<listed.size
 · rw[Wo _ _ _ _ hs] at hj⊢
   rw[Bool.or_eq_true,decide_eq_true_iff] at hj⊢
   exact hj.imp (h j) id
 · rw[Array.getD_eq_getD_getElem?,Array.getElem?_eq_none (by rw[Yh];omega)] at hj
   cases hj
theorem W9 {A:Array Bool}{i:Nat}(h:i∈Region.ready .any ops A):A.getD i true=false∧i<A.size:=by
 have:=(List.mem_filter.1 h).2
 rw[Bool.and_eq_true] at this
 have h1:A.getD i true=false:=by simpa using this.1
 refine⟨h1,?_⟩
 refine Classical.byContradiction fun hn=>?_
 rw[Array.getD_eq_getD_getElem?,Array.getElem?_eq_none (by omega)] at h1
 cases h1
theorem vK {listed:Array Bool}{S:List Nat}{i:Nat}(h:listed.getD i true=false)(hi:i<listed.size)(hS:i∉S):(Y1 listed S).getD i true=false:=by
 rw[Wo _ _ _ _ hi,h,decide_eq_false hS];rfl
theorem vQ (hQ:∀c a w,¬Q (.panic c) a w)(hsel:Region.noSelect ops=true):∀(sk:Sk) (t:ZV) (fuel:Nat) (listed:Array Bool) (ws:List zL) {E:Env} {st:zb} {a:Act} {K:zb→Prop},sk.build P rs ops=some t→sk.ok ops fuel listed=true→t.okT N V (st.ts.map (·.1))=true→
    jV P E→zi E N V st a.tmps→yE E ws→([],L,[])∈ws→ZI P K t (yC ws) st→uw L E N V a K (Q .normal)→jw P .any ops Q fuel ws listed a E.w:=by
  have eff:∀{i:Nat} {g:zu} {fuel:Nat} {listed:Array Bool} {ws:List zL} {E:Env} {st:zb} {a:Act} {K:zb→Prop} {t:ZV},JV P rs ops i=some g→Wj N V g (st.ts.map (·.1))=true→jV P E→zi E N V st a.tmps→yE E ws→([],L,[])∈ws→
      zZ P (jq (z7 i (yC ws))) (ZI P K t (z7 i (yC ws))) st g→
      (∀E' st' a',jV P E'→zi E' N V st' a'.tmps→a'.defers=a.defers→zy L E E'→yE E' (zL.keep i ws)→([],L,[])∈zL.keep i ws→st'.ts.map (·.1)=g.2.keys (st.ts.map (·.1))→ZI P K t (yC (zL.keep i ws)) st'→jw P .any ops Q fuel (zL.keep i ws) (listed.setIfInBounds i true) a' E'.w)→
      wpOp P ops Q i (fun a' w'=>(∀x∈zL.keep i ws,∀c∈x.2.2,E.w.cell? c.1=some c.2→w'.cell? c.1=some c.2)∧jw P .any ops Q fuel (zL.keep i ws) (listed.setIfInBounds i true) a' w') a E.w:=by
    intro i g fuel listed ws E st a K t hg hok hT R W hL h ih
    obtain⟨o,ho,hs⟩:=Option.bind_eq_some_iff.1 hg
    rw[Yk] at h
    have hL':([],L,[])∈zL.keep i ws:=List.mem_filter.2 ⟨hL,by simp⟩
    have W1:yE E (zL.keep i ws):=W.sub fun x hx=>(List.mem_filter.1 hx).1
    refine K0 hT R ho hs hok h fun E' st' a' R' hd P' hks hk=>?_
    obtain⟨W2,hc⟩:=W1.kept P'
    refine⟨fun x hx c hc' hcell=>?_,ih E' st' a' (hT.pres P') R' hd ⟨P'.size,P'.os,P'.tape,P'.output,P'.old,P'.far,P'.farB,P'.ids,fun b r h=>P'.keep b r ⟨List.mem_flatMap.2 ⟨([],L),List.mem_map.2 ⟨_,hL',rfl⟩,h.1⟩,h.2⟩⟩ W2 hL' hks hk⟩
    have:=hc x hx c hc'
    simp only[World.cell?] at hcell⊢
    rw[this]
    exact hcell
  intro sk
  induction sk with
  | done=>
    intro t fuel listed ws E st a K hb hok hokT hT R W hL h hK
    cases hb
    have hr:Region.ready .any ops listed=[]:=by
      cases fuel<;>simpa[Sk.ok] using hok
    cases fuel with
    |zero=>exact⟨hr,hK E st a R rfl (zy.refl E) h⟩
    |succ fuel=>exact⟨fun _=>hK E st a R rfl (zy.refl E) h,by rw[hr];simp⟩
  | take i later t ih=>
    intro t0 fuel listed ws E st a K hb hok hokT hT R W hL h hK
    cases fuel with
    |zero=>cases hok
    | succ fuel=>
      simp only[Sk.ok,Bool.and_eq_true] at hok
      obtain⟨⟨hr,htk⟩,hok3⟩:=hok
      simp only[Sk.build] at hb
      obtain⟨g,hg,hb⟩:=zf hb
      obtain⟨t',ht',rfl⟩:=zn hb
      obtain⟨oi,hoi,hs⟩:=Option.bind_eq_some_iff.1 hg
      simp only[ZV.okT,Bool.and_eq_true] at hokT
      obtain⟨hokG,hokT⟩:=hokT
      simp only[ZI] at h
      split at h
      · rename_i ao hao
        obtain⟨v,rd,st',hy,hrd,R',hk,hks⟩:=Gk R hs hao hokG h
        unfold XC at htk
        rw[hoi] at htk
        simp only[Bool.and_eq_true,Bool.not_eq_true',List.contains_eq_mem,decide_eq_false_iff_not,List.all_eq_true] at htk
        obtain⟨⟨hself,hlat⟩,hfree⟩:=htk
        have H:=ih t' fuel (listed.setIfInBounds i true) ((later,jK st ao,rd)::ws) (a:=a.put oi.dst v) ht' hok3 (by rw[hks];exact hokT) hT R' (fun x hx c hc=>by
          cases hx with
          |head=>exact(hrd c hc).2
          |tail _ hx=>exact W x hx c hc) (.tail _ hL) hk (fun E2 st2 a2 R2 hd2 P2 hk2=>hK E2 st2 a2 R2 (hd2.trans (by cases oi.dst<;>rfl)) P2 hk2)
        have H2:=wW (Ls:=jK st ao) hoi hsel hQ (fun k hk' o ho=>by
          have:=(hlat k hk').2
          rw[ho] at this
          simp only[] at this
          obtain⟨e,he,hb⟩:=Array.any_eq_true'.1 this
          simp only[Bool.and_eq_true,Bool.or_eq_true,beq_iff_eq,List.contains_eq_mem,decide_eq_true_eq] at hb
          exact⟨e,he,hb.1,hb.2⟩) hself fuel ((later,jK st ao,rd)::ws) listed a E.w (fun j oj hj hji hun hjl=>by
          have:=hfree j (List.mem_range.2 (Array.getElem?_eq_some_iff.1 hj).1)
          rw[hj] at this
          simp only[Bool.or_eq_true,beq_iff_eq,hji,false_or,hun,Bool.false_eq_true,List.contains_eq_mem,decide_eq_true_eq,hjl] at this
          exact this) (fun k hk'=>(hlat k hk').1) (by simpa using hr) hy (fun c hc=>(hrd c hc).1) (.head _) H
        exact Jd _ _ _ _ _ _ (fun x hx=> .tail _ hx) H2
      · exact h.elim
  | one i t ih=>
    intro t0 fuel listed ws E st a K hb hok hokT hT R W hL h hK
    cases fuel with
    |zero=>cases hok
    | succ fuel=>
      simp only[Sk.ok,Bool.and_eq_true] at hok
      obtain⟨hr,hok3⟩:=hok
      have hr:=Wd hr
      simp only[Sk.build] at hb
      obtain⟨g,hg,hb⟩:=zf hb
      obtain⟨t',ht',rfl⟩:=zn hb
      simp only[ZV.okT,Bool.and_eq_true] at hokT
      simp only[ZI] at h
      refine⟨fun h0=>(by rw[hr] at h0;cases h0),fun j hj=>?_⟩
      rw[hr] at hj
      cases List.mem_singleton.1 hj
      exact eff hg hokT.1 hT R W hL h fun E' st' a' hT' R' hd P' W' hL' hks hk=>ih t' fuel _ _ ht' hok3 (by rw[hks];exact hokT.2) hT' R' W' hL' hk fun E2 st2 a2 R2 hd2 P2 hk2=>hK E2 st2 a2 R2 (hd2.trans hd) (P'.trans P2) hk2
  | two i t j u ih1 ih2=>
    intro t0 fuel listed ws E st a K hb hok hokT hT R W hL h hK
    cases fuel with
    |zero=>cases hok
    | succ fuel=>
      simp only[Sk.ok,Bool.and_eq_true] at hok
      obtain⟨⟨hr,hok3⟩,hok4⟩:=hok
      have hr:Region.ready .any ops listed=[i,j]:=by simpa using hr
      simp only[Sk.build] at hb
      obtain⟨g,hg,hb⟩:=zf hb
      obtain⟨t',ht',hb⟩:=zf hb
      obtain⟨g2,hg2,hb⟩:=zf hb
      obtain⟨u',hu',rfl⟩:=zn hb
      simp only[ZV.okT,Bool.and_eq_true] at hokT
      obtain⟨⟨⟨o1,o2⟩,o3⟩,o4⟩:=hokT
      simp only[ZI] at h
      refine⟨fun h0=>(by rw[hr] at h0;cases h0),fun k hk=>?_⟩
      rw[hr] at hk
      rcases List.mem_cons.1 hk with rfl|hk
      · exact eff hg o1 hT R W hL h.1 fun E' st' a' hT' R' hd P' W' hL' hks hk=>ih1 t' fuel _ _ ht' hok3 (by rw[hks];exact o2) hT' R' W' hL' hk fun E2 st2 a2 R2 hd2 P2 hk2=>hK E2 st2 a2 R2 (hd2.trans hd) (P'.trans P2) hk2
      · cases List.mem_singleton.1 hk
        exact eff hg2 o3 hT R W hL h.2 fun E' st' a' hT' R' hd P' W' hL' hks hk=>ih2 u' fuel _ _ hu' hok4 (by rw[hks];exact o4) hT' R' W' hL' hk fun E2 st2 a2 R2 hd2 P2 hk2=>hK E2 st2 a2 R2 (hd2.trans hd) (P'.trans P2) hk2
  | three i t j u q v ih1 ih2 ih3=>
    intro t0 fuel listed ws E st a K hb hok hokT hT R W hL h hK
    cases fuel with
    |zero=>cases hok
    | succ fuel=>
      simp only[Sk.ok,Bool.and_eq_true] at hok
      obtain⟨⟨⟨hr,hok3⟩,hok4⟩,hok5⟩:=hok
      have hr:Region.ready .any ops listed=[i,j,q]:=by simpa using hr
      simp only[Sk.build] at hb
      obtain⟨g,hg,hb⟩:=zf hb
      obtain⟨t',ht',hb⟩:=zf hb
      obtain⟨g2,hg2,hb⟩:=zf hb
      obtain⟨u',hu',hb⟩:=zf hb
      obtain⟨g3,hg3,hb⟩:=zf hb
      obtain⟨v',hv',rfl⟩:=zn hb
      simp only[ZV.okT,Bool.and_eq_true] at hokT
      obtain⟨⟨⟨⟨⟨o1,o2⟩,o3⟩,o4⟩,o5⟩,o6⟩:=hokT
      simp only[ZI] at h
      refine⟨fun h0=>(by rw[hr] at h0;cases h0),fun k hk=>?_⟩
      rw[hr] at hk
      rcases List.mem_cons.1 hk with rfl|hk
      · exact eff hg o1 hT R W hL h.1 fun E' st' a' hT' R' hd P' W' hL' hks hk=>ih1 t' fuel _ _ ht' hok3 (by rw[hks];exact o2) hT' R' W' hL' hk fun E2 st2 a2 R2 hd2 P2 hk2=>hK E2 st2 a2 R2 (hd2.trans hd) (P'.trans P2) hk2
      · rcases List.mem_cons.1 hk with rfl|hk
        · exact eff hg2 o3 hT R W hL h.2.1 fun E' st' a' hT' R' hd P' W' hL' hks hk=>ih2 u' fuel _ _ hu' hok4 (by rw[hks];exact o4) hT' R' W' hL' hk fun E2 st2 a2 R2 hd2 P2 hk2=>hK E2 st2 a2 R2 (hd2.trans hd) (P'.trans P2) hk2
        · cases List.mem_singleton.1 hk
          exact eff hg3 o5 hT R W hL h.2.2 fun E' st' a' hT' R' hd P' W' hL' hks hk=>ih3 v' fuel _ _ hv' hok5 (by rw[hks];exact o6) hT' R' W' hL' hk fun E2 st2 a2 R2 hd2 P2 hk2=>hK E2 st2 a2 R2 (hd2.trans hd) (P'.trans P2) hk2
  | many l t ih=>
    intro t0 fuel listed ws E st a K hb hok hokT hT R W hL h hK
    simp only[Sk.ok,Bool.and_eq_true,decide_eq_true_eq,beq_iff_eq,List.all_eq_true] at hok
    obtain⟨hfuel,hrd,hchk,hok3⟩:=hok
    simp only[Sk.build] at hb
    obtain⟨l',hl',hb⟩:=zf hb
    obtain⟨t',ht',rfl⟩:=zn hb
    simp only[ZV.okT,Bool.and_eq_true] at hokT
    obtain⟨hmany,hokT⟩:=hokT
    obtain⟨hfr,hnd,hkeys⟩:=Qz l' _ hmany
    have hpair:∀(l:List Nat) (l':List (Nat×zu)),(l.mapM fun i=>(JV P rs ops i).map fun g=>(i,g))=some l'→l'.map (·.1)=l∧∀p∈l',JV P rs ops p.1=some p.2:=by
      intro l
      induction l with
      |nil=>intro l' h;simp at h;subst h;exact⟨rfl,by simp⟩
      | cons i l ih=>
        intro l' h
        rw[List.mapM_cons] at h
        obtain⟨p,hp,h⟩:=Option.bind_eq_some_iff.1 h
        obtain⟨r,hr,h⟩:=Option.bind_eq_some_iff.1 h
        obtain⟨g,hg,rfl⟩:=Option.map_eq_some_iff.1 hp
        cases h
        obtain⟨e1,e2⟩:=ih r hr
        refine⟨by rw[List.map_cons,e1],fun p hp=>?_⟩
        rcases List.mem_cons.1 hp with rfl|hp
        · exact hg
        · exact e2 p hp
    obtain⟨hidx,hgop⟩:=hpair l l' hl'
    have hlen:l'.length=l.length:=by rw[←hidx,List.length_map]
    have hlnd:l.Nodup:=by rw[←hrd];exact List.nodup_range.filter _
    have hk0:jr [] ws=ws:=by unfold jr;simp
    simp only[ZI] at h
    obtain⟨kvs,hkv,hX⟩:=Yc (st:=st) l' [] ws [] (fun p hp=>⟨(hfr p hp).1,fun d hd=>List.mem_filterMap.2 ⟨p,hp,hd⟩⟩) (by simp) (by rw[hk0];exact h)
    have hkd:kvs.map (·.1)=yz l':=by
      have:∀(l:List (Nat×zu)) (kvs:List (Nat×za)),l.map (fun p=>jy st p.2)=kvs.map some→kvs.map (·.1)=yz l:=by
        intro l
        induction l with
        |nil=>intro kvs h;cases kvs with|nil=>rfl|cons _ _=>cases h
        | cons p l ih=>
          intro kvs h
          cases kvs with
          |nil=>cases h
          | cons q kvs=>
            rw[List.map_cons,List.map_cons,List.cons.injEq] at h
            have hd:=wB h.1
            show q.1::kvs.map (·.1)=yz (p::l)
            rw[ih kvs h.2]
            unfold yz
            rw[List.filterMap_cons,hd]
      exact this l' kvs hkv
    have main :∀(n:Nat) (Rm:List (Nat×zu)) (S:List Nat) (X:List (Nat×za)) (E1:Env) (a1:Act),Rm.length=n→(Rm.map (·.1)++S).Perm l→(∀p∈Rm,p∈l')→(Rm.map (fun p=>jy st p.2)++X.map some).Perm (kvs.map some)→zi E1 N V {st with ts:=X++st.ts} a1.tmps→yE E1 (jr S ws)→a1.defers=a.defers→zy L E E1→jw P .any ops Q (n+(fuel - l.length)) (jr S ws) (Y1 listed S) a1 E1.w:=by
      intro n
      induction n with
      | zero=>
        intro Rm S X E1 a1 hRm hS _ hXp R1 W1 hd1 P1
        cases List.length_eq_zero_iff.1 hRm
        have hS:S.Perm l:=hS
        have hXk:X.Perm kvs:=by
          have h1:(X.map some).Perm (kvs.map some):=hXp
          have h2:=h1.filterMap id
          simpa[List.filterMap_map] using h2
        have hXn:(X.map (·.1)).Nodup:=by rw[(hXk.map _).nodup_iff,hkd];exact hnd
        have R2:=zi.perm (hXk.trans (List.reverse_perm kvs).symm) hXn R1
        have hk1:jr ((l'.map (·.1)).reverse++[]) ws=jr S ws:=ue (by rw[List.append_nil,hidx];exact(List.reverse_perm l).trans hS.symm) ws
        rw[hk1,List.append_nil] at hX
        rw[Nat.zero_add,xh hS]
        refine ih t' _ _ _ ht' hok3 ?_ (hT.pres P1) R2 W1 (List.mem_filter.2 ⟨hL,by simp⟩) hX fun E2 st2 a2 R2 hd2 P2 hk2=>hK E2 st2 a2 R2 (hd2.trans hd1) (P1.trans P2) hk2
        show t'.okT N V ((kvs.reverse++st.ts).map (·.1))=true
        rw[List.map_append,List.map_reverse,hkd,←hkeys];exact hokT
      | succ n ihn=>
        intro Rm S X E1 a1 hRm hS hsub hXp R1 W1 hd1 P1
        have hnd1:(Rm.map (·.1)++S).Nodup:=hS.nodup_iff.2 hlnd
        have hin:∀i∈Region.ready .any ops (Y1 listed S),i∈Rm.map (·.1):=by
          intro i hi
          obtain⟨u1,u2⟩:=W9 hi
          rw[Yh] at u2
          rw[Wo _ _ _ _ u2,Bool.or_eq_false_iff,decide_eq_false_iff_not] at u1
          by_cases hil:i∈l
          · rcases List.mem_append.1 (hS.mem_iff.2 hil) with h|h
            · exact h
            · exact absurd h u1.1
          · cases Rm with
            |nil=>cases hRm
            | cons r Rm=>
              have hr:r.1∈l:=hS.mem_iff.1 (by simp)
              have hrS:r.1∉S:=fun h=>(List.nodup_append.1 hnd1).2.2 r.1 (by simp) r.1 h rfl
              have:=ready_mono (B:=Y1 listed (l.erase r.1)) hi (xi fun j hj=>(List.mem_erase_of_ne (fun(e:j=r.1)=>hrS (by rw[←e];exact hj))).2 (hS.mem_iff.1 (List.mem_append.2 (.inr hj)))) (vK u1.2 u2 fun h=>hil (List.mem_of_mem_erase h))
              rw[hchk r.1 hr] at this
              rw[List.mem_singleton.1 this] at hil
              exact absurd hr hil
        have hne:Region.ready .any ops (Y1 listed S)≠ []:=by
          cases Rm with
          |nil=>cases hRm
          | cons r Rm=>
            have hr:r.1∈l:=hS.mem_iff.1 (by simp)
            have hrS:r.1∉S:=fun h=>(List.nodup_append.1 hnd1).2.2 r.1 (by simp) r.1 h rfl
            rw[←hrd] at hr
            obtain⟨u1,u2⟩:=W9 hr
            have:=ready_mono (B:=Y1 listed S) hr (fun j hj=>by
              have:(Y1 listed []).getD j false=true:=hj
              exact xi (by simp) j this) (vK u1 u2 hrS)
            intro e
            rw[e] at this;cases this
        rw[show n+1+(fuel - l.length)=(n+(fuel - l.length))+1 by omega]
        refine⟨fun h0=>absurd h0 hne,fun i hi=>?_⟩
        obtain⟨⟨i',g⟩,hp,rfl⟩:=List.mem_map.1 (hin i hi)
        obtain⟨R1',R2',rfl⟩:=List.append_of_mem hp
        obtain⟨hf,d,hdd,d1,d2,d3⟩:=hfr _ (hsub _ hp)
        obtain⟨o,ho,hs⟩:=Option.bind_eq_some_iff.1 (hgop _ (hsub _ hp))
        have hds:d∈yz l':=List.mem_filterMap.2 ⟨_,hsub _ hp,hdd⟩
        obtain⟨kv,hkv1,hkv2⟩:∃kv,jy st g=some kv∧kv∈kvs:=by
          have:jy st g∈kvs.map some:=hXp.mem_iff.1 (List.mem_append.2 (.inl (List.mem_map.2 ⟨_,hp,rfl⟩)))
          obtain⟨kv,h1,h2⟩:=List.mem_map.1 this
          exact⟨kv,h2.symm,h1⟩
        obtain⟨d',A⟩:=kv
        have hd':=wB hkv1
        rw[hdd] at hd'
        cases hd'
        have hXsub:∀q∈X,q∈kvs:=fun q hq=>by
          have:some q∈kvs.map some:=hXp.mem_iff.1 (List.mem_append.2 (.inr (List.mem_map.2 ⟨q,hq,rfl⟩)))
          obtain⟨q',h1,h2⟩:=List.mem_map.1 this
          cases h2;exact h1
        have hXds:∀q∈X,q.1∈yz l':=fun q hq=>by rw[←hkd];exact List.mem_map.2 ⟨q,hXsub q hq,rfl⟩
        have hvals:(some (d,A)::(R1'.map (fun p=>jy st p.2)++R2'.map (fun p=>jy st p.2))++X.map some).Perm (kvs.map some):=by
          refine List.Perm.trans ?_ hXp
          rw[List.map_append,List.map_cons,hkv1]
          exact(List.perm_middle.symm).append_right _
        have hkn:((d,A)::X).map (·.1)|>.Nodup:=by
          have h1:((some (d,A)::X.map some)).Sublist (some (d,A)::(R1'.map (fun p=>jy st p.2)++R2'.map (fun p=>jy st p.2))++X.map some):=by
            rw[List.cons_append]
            exact List.Sublist.cons_cons _ (List.sublist_append_right _ _)
          have h2:((some (d,A)::(R1'.map (fun p=>jy st p.2)++R2'.map (fun p=>jy st p.2))++X.map some).map fun o=>o.map (·.1)).Nodup:=by
            rw[(hvals.map _).nodup_iff]
            have:(kvs.map some).map (fun o:Option (Nat×za)=>o.map (·.1))=(yz l').map some:=by rw[←hkd];simp
            rw[this]
            exact List.pairwise_map.2 (hnd.imp fun h e=>h (Option.some.inj e))
          have h3:=(h1.map fun o:Option (Nat×za)=>o.map (·.1)).nodup h2
          have h4:((some (d,A)::X.map some).map fun o:Option (Nat×za)=>o.map (·.1))=(((d,A)::X).map (·.1)).map some:=by simp
          rw[h4] at h3
          exact(List.pairwise_map.1 h3).imp fun h e=>h (congrArg some e)
        have hdX:d∉(X++st.ts).map (·.1):=by
          rw[List.map_append,List.mem_append,not_or]
          rw[List.map_cons,List.nodup_cons] at hkn
          exact⟨hkn.1,d3⟩
        obtain⟨d'',x,c,sz,bs,zs,rfl,k1,k2⟩:=qj hf
        cases hdd
        have hL1:([],L,[])∈jr (i'::S) ws:=List.mem_filter.2 ⟨hL,by simp⟩
        have W2:yE E1 (jr (i'::S) ws):=W1.sub fun x hx=>by
          rw[←Qe] at hx
          exact(List.mem_filter.1 hx).1
        rw[Qe,←Yg]
        refine K0 (st:={st with ts:=X++st.ts}) (L:=jq (yC (jr (i'::S) ws))) (K:=fun s=>s=zb.putT {st with ts:=X++st.ts} d A) (hT.pres P1) R1 ho hs (VB (ks:=[]) hf rfl d1 d2 hdX) (xu.2 ⟨A,by rw[Yd hf hXds];exact hkv1,rfl⟩) fun E' st' a' R' hd P' hks hk=>?_
        subst hk
        obtain⟨W3,hc⟩:=W2.kept P'
        refine⟨fun x hx c hc' hcell=>?_,ihn (R1'++R2') (i'::S) ((d,A)::X) E' a' ?_ ?_ (fun p hp=>hsub p ?_) ?_ R' W3 (hd.trans hd1) (P1.trans ⟨P'.size,P'.os,P'.tape,P'.output,P'.old,P'.far,P'.farB,P'.ids,fun b r h=>P'.keep b r ⟨List.mem_flatMap.2 ⟨([],L),List.mem_map.2 ⟨_,hL1,rfl⟩,h.1⟩,h.2⟩⟩)⟩
        · have:=hc x hx c hc'
          simp only[World.cell?] at hcell⊢
          rw[this]
          exact hcell
        · simp at hRm⊢;omega
        · refine List.Perm.trans ?_ hS
          rw[List.map_append,List.map_append,List.map_cons,List.append_assoc,List.append_assoc,List.cons_append]
          exact List.Perm.append_left _ List.perm_middle
        · rcases List.mem_append.1 hp with hp|hp
          · exact List.mem_append.2 (.inl hp)
          · exact List.mem_append.2 (.inr (List.mem_cons_of_mem _ hp))
        · refine List.Perm.trans ?_ hvals
          rw[List.map_append,List.map_cons]
          exact List.perm_middle
    have:=main l'.length l' [] [] E a rfl (by rw[List.append_nil,hidx]) (fun p hp=>hp) (by rw[hkv];simp) R (by rw[hk0];exact W) rfl (zy.refl E)
    rw[hk0,hlen,show l.length+(fuel - l.length)=fuel by omega] at this
    exact this
end
end Go.Ga

namespace Go.Ga
open Go
def za.cut (V:List Nat)(A:za):za:=
 match A.root with
 |some r=>bif V.contains r then A else .dead
 |none=>A
def zb.settle (st:zb)(V:List Nat):zb:={vs:=V.map fun i=>(i,(st.get i).cut V),ts:=[],h:=st.h}
inductive ZB where
 |normal
 |exit (id:Nat)
 |ret
inductive zW where
 |skip
 |reg (V1:List Nat) (gs:List zu) (V2:List Nat)
 |draw (V1:List Nat) (t:ZV) (V2:List Nat)
 |seq (a b:zW)
 |cond (c:zm) (a b:zW)
 |blk (id:Nat) (a:zW)
 |loop (a:zW)
 |exit (id:Nat)
 |ret
def Gu (ops:Array Oper):List Nat:=ops.toList.filterMap fun o=>match o.op with| .assign _=>none|_=>o.dst
def uK (V:List Nat)(ops:Array Oper):List Nat:=
 V.filter fun d=>(List.range ops.size).any fun j=>match ops[j]? with
  | some o=>(match o.op with| .move _=>o.dst==some d|_=>false)&&(List.range j).any fun i=>match ops[i]? with
    |some p=>p.op.operands.toList.any fun x=>match x with| .tmp t=>t==d|_=>false
    |none=>false
  |none=>false
def xk (ops:Array Oper)(i:Nat):List Nat:=
 ((List.range ops.size).foldl (fun(l:List Nat) k=>if k≠i∧(((ops[k]?).map fun o=>o.after.any fun e=>Region.binds .any e&&(e.on==i||l.contains e.on)).getD false)=true then k::l else l) []).reverse
def gA (P:Program)(rs:List Nat×List Nat)(ops:Array Oper)(i:Nat):Bool:=
 match JV P rs ops i with
 |some (_,.r _)=>true
 |_=>false
def Qx (P:Program)(rs:List Nat×List Nat)(ops:Array Oper):Nat→Array Bool→Sk
 |0,_=> .done
 | fuel+1,listed=>
   let rd:=Region.ready .any ops listed
   match rd.find? (fun i=>gA P rs ops i&&XC ops listed i (xk ops i)) with
   |some i=> .take i (xk ops i) (Qx P rs ops fuel (listed.setIfInBounds i true))
   | none=>match rd with
     |[i]=> .one i (Qx P rs ops fuel (listed.setIfInBounds i true))
     |[i,j]=> .two i (Qx P rs ops fuel (listed.setIfInBounds i true)) j (Qx P rs ops fuel (listed.setIfInBounds j true))
     |[i,j,k]=> .three i (Qx P rs ops fuel (listed.setIfInBounds i true)) j (Qx P rs ops fuel (listed.setIfInBounds j true)) k (Qx P rs ops fuel (listed.setIfInBounds k true))
     |[]=> .done
     |l=> .many l (Qx P rs ops fuel (Y1 listed l))
def Zb (P:Program)(rs:List Nat)(N:Nat)(V:List Nat):Code→Option zW
 | .skip=>some .skip
 | .region _ ops false=>
   let cr:=uK V ops
   let V1:=V.filter fun i=> !(Gu ops).contains i||cr.contains i
   (ops.toList.mapM (JF P (rs,cr) ops)).bind fun gs=>if Wi N V1 gs []=true then some (.reg V1 gs V) else none
 | .region _ ops true=>
   let cr:=uK V ops
   let V1:=V.filter fun i=> !(Gu ops).contains i||cr.contains i
   let sk:=Qx P (rs,cr) ops ops.size (Array.replicate ops.size false)
   if sk.ok ops ops.size (Array.replicate ops.size false)=true∧Region.noSelect ops=true then(sk.build P (rs,cr) ops).bind fun t=>if t.okT N V1 []=true then some (.draw V1 t V) else none else none
 | .seq a b=>(Zb P rs N V a).bind fun a'=>(Zb P rs N V b).map fun b'=> .seq a' b'
 | .cond c a b=>(zd c).bind fun c'=>(Zb P rs N V a).bind fun a'=>(Zb P rs N V b).map fun b'=> .cond c' a' b'
 | .block id a=>(Zb P rs N V a).map fun a'=> .blk id a'
 | .loop a=>(Zb P rs N V a).map fun a'=> .loop a'
 | .exit id=>some (.exit id)
 | .ret=>some .ret
 |_=>none
section
variable {L:List (List Nat)} {E:Env} {N:Nat} {V:List Nat} {st:zb} {a:Act} {P:Program} {o:Oper} {d:Nat} {tm:Array Value} {rs:List Nat} {ops:Array Oper} {Q:Exit→Act→World→Prop}
theorem Yi (f:Nat→za):∀(V:List Nat) (i:Nat),zG (V.map fun i=>(i,f i)) i=if i∈V then some (f i) else none
 |[],i=>by simp[zG]
 | j ::V,i=>by
   simp only[List.map_cons,zG]
   by_cases h:i=j
   · subst h;simp
   · rw[if_neg h,Yi f V i]
     simp[h]
theorem q7 (V:List Nat)(i:Nat):(st.settle V).get i=if i∈V then(st.get i).cut V else .dead:=by
 show ZM (zG [] i) (zG (V.map fun i=>(i,(st.get i).cut V)) i)=_
 rw[Yi (fun i=>(st.get i).cut V)]
 split<;>rfl
theorem QF {A:za}(h:A.isAlias=false):A.cut V=A:=by
 cases A<;>simp[za.isAlias] at h<;>rfl
theorem wL (V:List Nat)(A:za):(A.cut V=A∧∀r,A.root=some r→r∈V)∨A.cut V= .dead:=by
 unfold za.cut
 cases h:A.root with
 |none=>exact .inl ⟨rfl,fun r hr=>by cases hr⟩
 | some r=>
   cases hc:V.contains r with
   |true=>exact .inl ⟨by simp only[hc];rfl,fun r' hr=>by cases hr;simpa using hc⟩
   |false=>exact .inr (by simp only[hc];rfl)
theorem zi.settle (R:zi E N V st tm)(V':List Nat):zi E N V' (st.settle V') tm:=by
 refine⟨R.size,?_,R.num,fun _ _=>List.not_mem_nil,R.lim,fun i A r hA hr=>?_,fun i=>?_,R.objs⟩
 · show(V'.map fun i=>(i,(st.get i).cut V')).map (·.1)=V'
   rw[List.map_map]
   exact List.map_id'' (fun _=>rfl) V'
 · rw[q7] at hA
   split at hA
   · rcases wL V' (st.get i) with⟨h1,h2⟩|h1
     · rw[h1] at hA;subst hA;exact .inl (h2 r hr)
     · rw[h1] at hA;subst hA;cases hr
   · subst hA;cases hr
 · rw[q7]
   split
   · rcases wL V' (st.get i) with⟨h1,h2⟩|h1
     · rw[h1]
       refine Zt.carry (R.slots i) rfl (fun v _ h=>h) fun p hp B hB hA=>⟨⟨B,?_,hA,fun hd cs e=>⟨hd,cs,e⟩⟩,rfl⟩
       match p,hB with
       | 0::r::ks,hB=>
         have hr:r∈V':=h2 r (Qi hp rfl)
         rw[zB] at hB⊢
         rw[q7,if_pos hr]
         cases ks with
         |nil=>simp only[za.sub,Option.some.injEq] at hB⊢;rw[hB];exact QF hA
         |cons k ks=>rw[QF (za.sub_cons_nonalias hB)];exact hB
       |1::id::k::ks,hB=>exact hB
     · rw[h1];trivial
   · trivial
def ZB.to :ZB→Exit
 | .normal=> .normal
 | .exit id=> .exit id
 | .ret=> .ret
def GI (L:List (List Nat))(E:Env)(N:Nat)(V:List Nat)(a:Act)(K:ZB→zb→Prop)(Q:Exit→Act→World→Prop):Prop:=
 ∀e E' st' a',zi E' N V st' a'.tmps→a'.defers=a.defers→zy L E E'→K e st'→Q e.to a' E'.w
theorem wC {α β:Type}{f:α→Option β}:∀(xs:List α) {l:List β},xs.mapM f=some l→xs.map f=l.map some
 |[],l,h=>by simp at h;subst h;rfl
 | x ::xs,l,h=>by
   rw[List.mapM_cons] at h
   cases hx:f x with
   |none=>rw[hx] at h;cases h
   | some y=>
     rw[hx] at h
     cases hr:xs.mapM f with
     |none=>rw[hr] at h;cases h
     | some l'=>
       rw[hr] at h
       cases h
       simp[hx,wC xs hr]
def jx (P:Program)(rs:List Nat)(N:Nat)(V:List Nat)(L:List (List Nat))(ac:zW)(K:ZB→zb→Prop)(st:zb):Prop:=
 P.follows .mixedOrders=true→∀c,Zb P rs N V c=some ac→∀(Q:Exit→Act→World→Prop) (E:Env) (a:Act),jV P E→zi E N V st a.tmps→GI L E N V a K Q→(∀ch a w,¬Q (.panic ch) a w)→c.wp P Q a E.w
def GM (P:Program)(rs:List Nat)(N:Nat)(V:List Nat)(L:List (List Nat))(b:zW)(K:ZB→zb→Prop)(e:ZB)(s:zb):Prop:=
 match e with
 | .normal=>jx P rs N V L b K s
 | .exit id=>K (.exit id) s
 | .ret=>K .ret s
def Gy (id:Nat)(K:ZB→zb→Prop)(e:ZB)(s:zb):Prop:=
 match e with
 | .normal=>K .normal s
 | .exit j=>if j=id then K .normal s else K (.exit j) s
 | .ret=>K .ret s
def Gh (I:Nat→zb→Prop)(n:Nat)(K:ZB→zb→Prop)(e:ZB)(s:zb):Prop:=
 match e with
 | .normal=>∃m,m<n∧I m s
 | .exit id=>K (.exit id) s
 | .ret=>K .ret s
def zW.kind :zW→Nat
 | .skip=>0| .reg _ _ _=>1| .draw _ _ _=>2| .seq _ _=>3| .cond _ _ _=>4| .blk _ _=>5| .loop _=>6| .exit _=>7| .ret=>8
def Gi :Code→Nat
 | .skip=>0| .region _ _ false=>1| .region _ _ true=>2| .seq _ _=>3| .cond _ _ _=>4| .block _ _=>5| .loop _=>6| .exit _=>7| .ret=>8|_=>9
theorem zD {c:Code}{ac:zW}(hs:Zb P rs N V c=some ac):Gi c=ac.kind:=by
 cases c with
 | region id ops draw=>
   cases draw with
   | false=>
     simp only[Zb] at hs
     obtain⟨gs,hgs,hs⟩:=zf hs
     split at hs
     · cases hs;rfl
     · cases hs
   | true=>
     simp only[Zb] at hs
     split at hs
     · obtain⟨t,ht,hs⟩:=zf hs
       split at hs
       · cases hs;rfl
       · cases hs
     · cases hs
 |skip=>cases hs;rfl
 |seq=>simp only[Zb] at hs;obtain⟨_,_,hs⟩:=zf hs;obtain⟨_,_,rfl⟩:=zn hs;rfl
 |cond=>simp only[Zb] at hs;obtain⟨_,_,hs⟩:=zf hs;obtain⟨_,_,hs⟩:=zf hs;obtain⟨_,_,rfl⟩:=zn hs;rfl
 |block=>simp only[Zb] at hs;obtain⟨_,_,rfl⟩:=zn hs;rfl
 |loop=>simp only[Zb] at hs;obtain⟨_,_,rfl⟩:=zn hs;rfl
 |exit=>cases hs;rfl
 |ret=>cases hs;rfl
 |_=>cases hs
variable {x y:zW} {i:Nat} {t:ZV} {gs:List zu} {V1 V2:List Nat} {K:ZB→zb→Prop}
theorem v1 (h:K .normal st):jx P rs N V L .skip K st:=fun _ c hs Q E a hT R hK _=>by
 cases c with
 |skip=>exact wp_skip (hK .normal E st a R rfl (zy.refl E) h)
 |region _ _ d=>have:=zD hs;cases d<;>cases this
 |_=>have:=zD hs;cases this
theorem uA (h:qO P L (fun s=>K .normal (s.settle V2)) gs (st.settle V1)):jx P rs N V L (.reg V1 gs V2) K st:=fun _ c hs Q E a hT R hK hQ=>by
 cases c with
 | region id ops d=>
   cases d with
   | false=>
     simp only[Zb] at hs
     obtain⟨gs,hgs,hs⟩:=zf hs
     split at hs
     · rename_i hok
       cases hs
       exact wp_region_list (YV ops.toList gs (wC _ hgs) hT (R.settle _) hok h fun E' st' a' R' hd P' hk=>hK .normal E' _ a' (R'.settle V) hd P' hk)
     · cases hs
   |true=>have:=zD hs;cases this
 |_=>have:=zD hs;cases this
theorem v8 (h:ZI P (fun s=>K .normal (s.settle V2)) t [([],L)] (st.settle V1)):jx P rs N V L (.draw V1 t V2) K st:=fun hmix c hs Q E a hT R hK hQ=>by
 cases c with
 | region id ops d=>
   cases d with
   |false=>have:=zD hs;cases this
   | true =>
     simp only[Zb] at hs
     split at hs
     · rename_i hok
       obtain⟨t,ht,hs⟩:=zf hs
       split at hs
       · rename_i hokT
         cases hs
         refine wp_region_any hmix ?_
         have R1:zi {E with w:={E.w with drawn:=E.w.drawn+1}} N V st a.tmps:=R.drew
         have:=vQ (L:=L) (ws:=[([],L,[])]) hQ hok.2 _ t _ _ ht hok.1 hokT (hT.pres (qz (L:=[]))) (R1.settle _) (fun x hx=>by cases List.mem_singleton.1 hx;exact fun c hc=>by cases hc) (.head _) h
          (fun E' st' a' R' hd P' hk=>hK .normal E' _ a' (R'.settle V) hd (qz.trans P') hk)
         exact qP _ _ _ _ _ this
       · cases hs
     · cases hs
 |_=>have:=zD hs;cases this
theorem w7 (h:jx P rs N V L x (GM P rs N V L y K) st):jx P rs N V L (.seq x y) K st:=fun hmix c hs Q E a hT R hK hQ=>by
 cases c with
 | seq c1 c2=>
   simp only[Zb] at hs
   obtain⟨a',ha,hs⟩:=zf hs
   obtain⟨b',hb,hs⟩:=zn hs
   cases hs
   refine wp_seq (h hmix c1 ha _ E a hT R (fun e E' st' a1 R' hd P' hk=>?_) fun ch a w h=>hQ ch a w h)
   cases e with
   |normal=>exact hk hmix c2 hb _ E' a1 (hT.pres P') R' (fun e E2 st2 a2 R2 hd2 P2 hk2=>hK e E2 st2 a2 R2 (hd2.trans hd) (P'.trans P2) hk2) hQ
   |exit id=>exact hK (.exit id) E' st' a1 R' hd P' hk
   |ret=>exact hK .ret E' st' a1 R' hd P' hk
 |region _ _ d=>have:=zD hs;cases d<;>cases this
 |_=>have:=zD hs;cases this
theorem W5 {c:zm}{v:Bool}(hc:st.ev c= .sc (.bool v))(h1:v=true→jx P rs N V L x K st)(h2:v=false→jx P rs N V L y K st):jx P rs N V L (.cond c x y) K st:=fun hmix c' hs Q E a hT R hK hQ=>by
 cases c' with
 | cond o c1 c2=>
   simp only[Zb] at hs
   obtain⟨o',ho,hs⟩:=zf hs
   obtain⟨a',ha,hs⟩:=zf hs
   obtain⟨b',hb,hs⟩:=zn hs
   cases hs
   exact wp_cond_split (Za R ho hc) (fun e=>h1 e hmix c1 ha _ E a hT R hK hQ) fun e=>h2 e hmix c2 hb _ E a hT R hK hQ
 |region _ _ d=>have:=zD hs;cases d<;>cases this
 |_=>have:=zD hs;cases this
theorem Kd (h:jx P rs N V L x (Gy i K) st):jx P rs N V L (.blk i x) K st:=fun hmix c hs Q E a hT R hK hQ=>by
 cases c with
 | block id c1=>
   simp only[Zb] at hs
   obtain⟨a',ha,hs⟩:=zn hs
   cases hs
   refine wp_block (h hmix c1 ha _ E a hT R (fun e E' st' a1 R' hd P' hk=>?_) fun ch a w h=>hQ ch a w h)
   cases e with
   |normal=>exact hK .normal E' st' a1 R' hd P' hk
   | exit j=>
     simp only[Gy] at hk
     simp only[ZB.to,Exit.inBlock]
     by_cases hj:j=i
     · simp only[hj,if_true] at hk⊢;exact hK .normal E' st' a1 R' hd P' hk
     · simp only[hj,if_false] at hk⊢;exact hK (.exit j) E' st' a1 R' hd P' hk
   |ret=>exact hK .ret E' st' a1 R' hd P' hk
 |region _ _ d=>have:=zD hs;cases d<;>cases this
 |_=>have:=zD hs;cases this
theorem v6 (I:Nat→zb→Prop)(n:Nat)(h0:I n st)(h:∀n s,I n s→jx P rs N V L x (Gh I n K) s):jx P rs N V L (.loop x) K st:=fun hmix c hs Q E a hT R hK hQ=>by
 cases c with
 | loop c1=>
   simp only[Zb] at hs
   obtain⟨a',ha,hs⟩:=zn hs
   cases hs
   refine wp_loop_ghost (fun n a1 w=>∃E1 s,E1.w=w∧zi E1 N V s a1.tmps∧a1.defers=a.defers∧zy L E E1∧I n s) n ⟨E,st,rfl,R,rfl,zy.refl E,h0⟩ ?_
   rintro n a1 _ ⟨E1,s,rfl,R1,hd1,P1,hI1⟩
   refine h n s hI1 hmix c1 ha _ E1 a1 (hT.pres P1) R1 (fun e E' st' a2 R' hd P' hk=>?_) fun ch a w h=>hQ ch a w h
   cases e with
   | normal=>
     obtain⟨m,hm,hIm⟩:=hk
     exact⟨m,hm,E',st',rfl,R',hd.trans hd1,P1.trans P',hIm⟩
   |exit j=>exact hK (.exit j) E' st' a2 R' (hd.trans hd1) (P1.trans P') hk
   |ret=>exact hK .ret E' st' a2 R' (hd.trans hd1) (P1.trans P') hk
 |region _ _ d=>have:=zD hs;cases d<;>cases this
 |_=>have:=zD hs;cases this
theorem v7 (h:K (.exit i) st):jx P rs N V L (.exit i) K st:=fun _ c hs Q E a hT R hK _=>by
 cases c with
 |exit j=>cases hs;exact wp_exit (hK (.exit i) E st a R rfl (zy.refl E) h)
 |region _ _ d=>have:=zD hs;cases d<;>cases this
 |_=>have:=zD hs;cases this
theorem Kc (h:K .ret st):jx P rs N V L .ret K st:=fun _ c hs Q E a hT R hK _=>by
 cases c with
 |ret=>cases hs;exact wp_ret (hK .ret E st a R rfl (zy.refl E) h)
 |region _ _ d=>have:=zD hs;cases d<;>cases this
 |_=>have:=zD hs;cases this
def GJ (L:List (List Nat))(N:Nat)(V:List Nat)(st st':zb):Prop:=∀E tm,zi E N V st tm→∃E',zi E' N V st' tm∧zy L E E'∧E'.w=E.w
theorem QT {st':zb}(hg:GJ L N V st st')(h:jx P rs N V L x K st'):jx P rs N V L x K st:=fun hmix c hs Q E a hT R hK hQ=>by
 obtain⟨E',R',P',hw⟩:=hg E a.tmps R
 have:=h hmix c hs Q E' a (hT.pres P') R' (fun e E2 st2 a2 R2 hd2 P2 hk=>hK e E2 st2 a2 R2 hd2 (P'.trans P2) hk) hQ
 rwa [hw] at this
def zb.forget (st:zb):List Nat→zb
 |[]=>st
 |i::l=>(st.assign i .dead).forget l
theorem zi.forget :∀(l:List Nat) {st:zb},(l.all fun i=>V.contains i)=true→zi E N V st tm→zi E N V (st.forget l) tm
 |[],_,_,R=>R
 | i::l,st,h,R=>by
   simp only[List.all_cons,Bool.and_eq_true,List.contains_iff_mem] at h
   exact zi.forget l h.2 (R.assign_dead (.inl h.1))
theorem XN (l:List Nat)(hl:(l.all fun i=>V.contains i)=true)(h:jx P rs N V L x K (st.forget l)):jx P rs N V L x K st:=
 QT (fun E _ R=>⟨E,R.forget l hl,zy.refl E,rfl⟩) h
end
end Go.Ga
