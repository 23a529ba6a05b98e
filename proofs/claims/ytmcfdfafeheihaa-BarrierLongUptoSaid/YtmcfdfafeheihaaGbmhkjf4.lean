/- Values, objects, and code by what it leads to: a library of this claim's own. No condition. -/
import Derived.Test.YtmcfdfafeheihaaGbmhkjf3
set_option linter.all false

namespace Go.Ga
open Go
section
variable {L:List (List Nat)} {E:Env} {N:Nat} {V:List Nat} {st:zb} {a:Act} {P:Program} {o:Oper} {d:Nat} {tm:Array Value} {rs:List Nat×List Nat}
theorem zea {op:BinOp}{tag:Nat}{ox oy:zQ}(hs:ym P rs o=some (.r (.bin d op tag ox oy))):∃t x y yt dsc,o.op= .binOp op t x y yt∧o.dst=some d∧P.underlying t=some dsc∧UU P t dsc=some tag∧zv x=some ox∧zv y=some oy:=by
 unfold ym at hs
 split at hs
 case h_4=>
  rename_i op' t x y yt d' ho hd
  obtain⟨dsc,hu,hs⟩:=zD hs
  obtain⟨tag',ht,hs⟩:=zD hs
  obtain⟨ox',hx,hs⟩:=zD hs
  obtain⟨oy',hy,hs⟩:=zW hs
  cases hs
  exact⟨t,x,y,yt,dsc,ho,hd,hu,ht,hx,hy⟩
 all_goals try (simp[Option.map_eq_some_iff,Option.bind_eq_some_iff] at hs;done)
 all_goals (repeat' split at hs)
 all_goals try (simp[Option.map_eq_some_iff,Option.bind_eq_some_iff] at hs;done)
 all_goals exfalso
 all_goals
  obtain⟨_,_,hs⟩:=zD hs
  first
  | (split at hs
     · obtain⟨_,_,hs⟩:=zD hs
       obtain⟨_,_,hs⟩:=zW hs
       cases hs
     · cases hs)
  |skip
 all_goals
  obtain⟨_,_,hs⟩:=zD hs
  split at hs
  case isFalse=>cases hs
  first
  | (obtain⟨ol,_,hs⟩:=zD hs
     obtain⟨oc,_,hs⟩:=zW hs
     cases hso:ol.same oc<;>rw[hso] at hs<;>cases hs)
  |trace_state
theorem zfi (R:zK E N V st a.tmps){x:Operand}{ox:zQ}(hx:zv x=some ox){e:TypeId}(h:st.blank (st.ev ox)=true):∃b,Wv (.slice e) (a.eval x) b:=by
 unfold zb.blank at h
 split at h
 · rename_i hb
   obtain⟨v,po,h1,h2,_⟩:=zN R hx hb rfl
   cases h2<;>exact⟨_,_,_,_,h1,rfl⟩
 · rename_i hb
   obtain⟨v,po,h1,h2,_⟩:=zN R hx hb rfl
   cases h2<;>exact⟨_,_,_,_,h1,rfl⟩
 · rename_i p hb
   split at h
   · rename_i sz hown
     obtain⟨B,v,h1,h2,h3,h4,h5⟩:=YM R hx hb
     unfold zb.owned at hown
     rw[h1] at hown
     cases B with
     | own hd cs'=>
       simp at hown
       obtain⟨rfl,rfl⟩:=hown
       cases h5 with
       |own=>exact⟨_,_,_,_,h4,rfl⟩
       |ownNil=>exact⟨_,_,_,_,h4,rfl⟩
     |_=>cases hown
   · cases h
 · cases h
theorem XH {ao:AOp}{K:zb→Prop}{Ls:List (List Nat)}(R:zK E N V st a.tmps)(hs:j8 P rs o=some (.r ao))(F:∀d,ao.dst=some d→zX N V st d)(h:WM K st ao):
    ∃A d,o.dst=some d∧ao.dst=some d∧JB Ls E N V st a P o d A∧K (st.putT d A)∧(∃v,A= .sc v):=by
  unfold WM at h
  split at h
  case h_2=>exact h.elim
  rename_i d op tag ox oy
  obtain⟨rfl,h1,h2,h3⟩:=h
  unfold j8 at hs
  split at hs
  case h_2=>cases hs
  rename_i b0 hs0
  cases hs
  obtain⟨t,x,y,yt,dsc,ho,hd,hu,ht,hx,hy⟩:=zea hs0
  obtain⟨e,rfl⟩:∃e,dsc= .slice e:=by
    cases dsc<;>simp only[UU] at ht<;>try (cases ht;done)
    · exact⟨_,rfl⟩
    · split at ht
      · injection ht with ht;omega
      · cases ht
  obtain⟨b,hb⟩:=zfi (e:=e) R hx h1
  have hc:Wv (.slice e) (a.eval y) true:=Qk R hy (dsc:= .slice e) h2
  split at h3
  case h_2=>exact h3.elim
  rename_i A B hA hB
  have hAB:∃C,jN op (b&&true)=some C∧K (st.putT d C):=by
    cases b
    · exact⟨B,hB,h3.2⟩
    · exact⟨A,hA,h3.1⟩
  obtain⟨C,hC,hK⟩:=hAB
  obtain⟨r,rfl,_⟩:=Ye (P:=P) (x:=x) (y:=y) hu hb hc (.inr rfl) hC default
  refine⟨.sc r,d,hd,rfl,.pure (fun w=>?_) (ju R (F d rfl) r),hK,r,rfl⟩
  obtain⟨r',hr,hrun⟩:=Ye (P:=P) (x:=x) (y:=y) hu hb hc (.inr rfl) hC w
  cases hr
  simp only[execOp,ho]
  simp only[Sem.run_bind] at hrun⊢
  rw[hrun]
  rfl
end
end Go.Ga

namespace Go.Ga
open Go
section
variable {L:List (List Nat)} {E:Env} {N:Nat} {V:List Nat} {st:zb} {a:Act} {P:Program} {o:Oper} {d:Nat} {tm:Array Value} {rs:List Nat×List Nat}
theorem JF {ao:AOp}{K:zb→Prop}{next:Act→World→Prop}{Q:Exit→Act→World→Prop}(hd:o.dst=some d)(hao:ao.dst=some d)(hF:ZS.fresh N V st (.r ao))(h:UZ P L K st (.r ao))(hK:zc7 L E N V a K next)
    (hr:∀A,zX N V st d→J5 st ao=some A→JB (QP st ao) E N V st a P o d A):o.wp P a E.w next Q:=by
  obtain⟨A,d',h1,h2,h3⟩:=zi9 h
  rw[hao] at h2
  cases h2
  exact zka (hr A (hF d hao) h1) hd h3 hK
theorem jB {x:Option zb}{K:zb→Prop}(h:jt x K):∃s,x=some s∧K s:=by
 cases x with
 |none=>exact h.elim
 |some s=>exact⟨s,rfl,h⟩
theorem xz {b:ZS}{K:zb→Prop}{next:Act→World→Prop}{Q:Exit→Act→World→Prop}(R:zK E N V st a.tmps)(hs:j8 P rs o=some b)(hF:b.fresh N V st)(h:UZ P L K st b)(hq:b.quiet L st=true)(hK:zc7 L E N V a K next):o.wp P a E.w next Q:=by
 unfold j8 at hs
 split at hs
 case h_2=>cases hs;exact h.elim
 rename_i b0 hs0
 cases hs
 replace hs:=hs0
 clear hs0
 unfold ym at hs
 split at hs
 · rename_i x d ho hd
   obtain⟨ox,hx,rfl⟩:=zW hs
   split at hF<;>rename_i hcr
   · rw[if_pos hcr] at h hq
     obtain⟨s,h1,h2⟩:=jB h
     exact qv (zla R hF.1 hF.2 (.inr ho) hx h1 hq) hd h2 hK
   · rw[if_neg hcr] at h
     exact JF hd rfl hF h hK fun A F h1=>zja R F ho hx h1
 · rename_i x d ho hd
   obtain⟨ox,hx,rfl⟩:=zW hs
   obtain⟨s,h1,h2⟩:=jB h
   exact qv (zla R hF.1 hF.2 (.inl ho) hx h1 hq) hd h2 hK
 · rename_i c x y d ho hd
   obtain⟨oc,hc,hs⟩:=zD hs
   obtain⟨ox,hx,hs⟩:=zD hs
   obtain⟨oy,hy,rfl⟩:=zW hs
   exact JF hd rfl hF h hK fun A F h1=>zfU R F ho hc hx hy h1
 · rename_i op t x y yt d ho hd
   obtain⟨dsc,hu,hs⟩:=zD hs
   obtain⟨tag,ht,hs⟩:=zD hs
   obtain⟨ox,hx,hs⟩:=zD hs
   obtain⟨oy,hy,rfl⟩:=zW hs
   refine JF hd rfl hF h hK fun A F h1=>?_
   cases dsc<;>simp only[UU] at ht<;>try (cases ht;done)
   case struct fs=>
    split at ht
    · rename_i hok
      cases ht
      exact zf3 R F ho hu hok hx hy h1
    · cases ht
   all_goals cases ht
   · exact zf4 R F ho hu hx hy h1
   · exact Kd R F ho hx hy h1
   · exact Kd R F ho hx hy h1
   · exact WD R F ho hu hx hy h1
   · exact WD R F ho hu hx hy h1
   · exact WD R F ho hu hx hy h1
 · rename_i t x d ho hd
   obtain⟨ox,hx,rfl⟩:=zW hs
   exact JF hd rfl hF h hK fun A F h1=>zfV R F ho hx h1
 · rename_i s t x d ho hd
   split at hs
   · rename_i k1 k2 h1 h2
     obtain⟨ox,hx,rfl⟩:=zW hs
     exact JF hd rfl hF h hK fun A F h3=>zf2 R F ho h1 h2 hx h3
   · cases hs
 · rename_i x d ho hd
   obtain⟨ox,hx,rfl⟩:=zW hs
   exact JF hd rfl hF h hK fun A F h1=>zdi R F ho hx h1
 · rename_i s x i d ho hd
   split at hs
   · rename_i fs hu
     obtain⟨fl,hf,hs⟩:=zD hs
     obtain⟨inf,hi,hs⟩:=zD hs
     split at hs
     · cases hs
     · rename_i hz
       obtain⟨ox,hx,rfl⟩:=zW hs
       exact JF hd rfl hF h hK fun A F h1=>zf1 R F ho hu hf hi hz hx h1
   · cases hs
 · rename_i s x i d ho hd
   split at hs
   · rename_i fs hu
     obtain⟨fl,hf,hs⟩:=zD hs
     obtain⟨dsc,hdd,hs⟩:=zD hs
     obtain⟨inf,hi,hs⟩:=zD hs
     obtain⟨ox,hx,rfl⟩:=zW hs
     exact JF hd rfl hF h hK fun A F h1=>zjc R F ho hu hf hdd hi hx h1
   · cases hs
 · rename_i t x i d ho hd
   split at hs
   · rename_i e hu
     obtain⟨inf,hi,hs⟩:=zD hs
     split at hs
     · cases hs
     · rename_i hz
       obtain⟨ox,hx,hs⟩:=zD hs
       obtain⟨oi,hoi,rfl⟩:=zW hs
       exact JF hd rfl hF h hK fun A F h1=>zf0 R F ho hu hi (Nat.pos_of_ne_zero hz) hx hoi h1
   · rename_i n e hu
     obtain⟨inf,hi,hs⟩:=zD hs
     obtain⟨ox,hx,hs⟩:=zD hs
     obtain⟨oi,hoi,rfl⟩:=zW hs
     exact JF hd rfl hF h hK fun A F h1=>zfZ R F ho hu hi hx hoi h1
   · cases hs
 · rename_i t x i d ho hd
   split at hs
   · rename_i hu
     obtain⟨ox,hx,hs⟩:=zD hs
     obtain⟨oi,hoi,rfl⟩:=zW hs
     exact JF hd rfl hF h hK fun A F h1=>zfY R F ho hu hx hoi h1
   · rename_i n e hu
     obtain⟨dsc,hdd,hs⟩:=zD hs
     obtain⟨inf,hi,hs⟩:=zD hs
     obtain⟨ox,hx,hs⟩:=zD hs
     obtain⟨oi,hoi,rfl⟩:=zW hs
     exact JF hd rfl hF h hK fun A F h1=>zfX R F ho hu hdd hi hx hoi h1
   · cases hs
 · rename_i t x d ho hd
   obtain⟨dsc,hu,hs⟩:=zD hs
   obtain⟨inf,hi,hs⟩:=zD hs
   obtain⟨ox,hx,rfl⟩:=zW hs
   exact JF hd rfl hF h hK fun A F h1=>zln R F hu hi ho hx h1
 · rename_i t x v ho hd
   obtain⟨inf,hi,hs⟩:=zD hs
   obtain⟨ox,hx,hs⟩:=zD hs
   obtain⟨ov,hv,rfl⟩:=zW hs
   obtain⟨s,h1,h2⟩:=jB h
   obtain⟨E',hr,R',P'⟩:=znw (P:=P) (o:=o) R ho hi hx hv h1 hq
   exact zfF hr hd (hK E' s a R' rfl P' h2)
 · rename_i x i d ho hd
   obtain⟨ox,hx,rfl⟩:=zW hs
   exact JF hd rfl hF h hK fun A F h1=>zjd R F ho hx h1
 · rename_i t l c d ho hd
   split at hs
   · rename_i e hu
     obtain⟨inf,hi,hs⟩:=zD hs
     obtain⟨z,hz,hs⟩:=zD hs
     split at hs
     · rename_i hc
       obtain⟨ol,hl,hs⟩:=zD hs
       obtain⟨oc,hoc,rfl⟩:=zW hs
       cases hsm:ol.same oc with
       | true=>
         rw[hsm] at h hF
         obtain⟨s,h1,h2⟩:=jB h
         exact qv (znx R (hF d rfl) ho hu hi hz hc.1 hc.2 hl hoc h1) hd h2 hK
       | false=>
         rw[hsm] at h hF
         obtain⟨s,h1,h2⟩:=jB h
         exact qv (zne R (hF d rfl) ho hu hi hz hc.1 hc.2 hl hoc h1) hd h2 hK
     · cases hs
   · cases hs
 · rename_i t len parts d ho hd
   split at hs
   · rename_i e hu
     obtain⟨inf,hi,hs⟩:=zD hs
     obtain⟨z,hz,hs⟩:=zD hs
     split at hs
     · rename_i hc
       obtain⟨ps,hps,rfl⟩:=zW hs
       obtain⟨s,h1,h2⟩:=jB h
       obtain⟨p1,p2⟩:=YI _ hps
       exact qv (zmO R (hF d rfl) ho hu hi hz hc.1 hc.2 p1 p2 h1 hq) hd h2 hK
     · cases hs
   · cases hs
 · rename_i t parts d ho hd
   obtain⟨inf,hi,hs⟩:=zD hs
   obtain⟨z,hz,hs⟩:=zD hs
   split at hs
   · rename_i hc
     obtain⟨ps,hps,rfl⟩:=zW hs
     obtain⟨s,h1,h2⟩:=jB h
     obtain⟨p1,p2⟩:=YJ _ hps
     exact qv (znh R (hF d rfl) ho hi hz hc p1 p2 h1 hq) hd h2 hK
   · cases hs
 · rename_i t x d ho hd
   obtain⟨ox,hx,rfl⟩:=zW hs
   obtain⟨s,h1,h2⟩:=jB h
   exact qv (zng R (hF d rfl) ho hx h1 hq) hd h2 hK
 · rename_i t d ho hd
   obtain⟨inf,hi,hs⟩:=zD hs
   obtain⟨z,hz,rfl⟩:=zW hs
   obtain⟨s,h1,h2⟩:=jB (x:=U9 st d z.cells.toList) (K:=K) h
   exact qv (zi3 R (hF d rfl) ho hi hz h1) hd h2 hK
 · rename_i f first captured d ho hd
   obtain⟨o1,ho1,hs⟩:=zD hs
   obtain⟨o2,ho2,rfl⟩:=zW hs
   obtain⟨s,h1,h2⟩:=jB h
   exact qv (zmL R (hF d rfl) ho (Y6 ho1) (Y6 ho2) h1 hq) hd h2 hK
 · rename_i t x lo hi d ho hd
   split at hs
   · rename_i e hu
     obtain⟨inf,hi',hs⟩:=zD hs
     split at hs
     · cases hs
     · rename_i hz
       obtain⟨ox,hx,hs⟩:=zD hs
       obtain⟨olo,hlo,hs⟩:=zD hs
       obtain⟨ohi,hhi,rfl⟩:=zW hs
       obtain⟨s,h1,h2⟩:=jB h
       exact qv (znd R (hF d rfl) ho hu hi' (Nat.pos_of_ne_zero hz) hx (vY hlo) (vY hhi) h1 hq) hd h2 hK
   · cases hs
 · rename_i c d ho hd
   split at hs
   · rename_i f hc
     obtain⟨of,hf,hs⟩:=zD hs
     obtain⟨as,has,rfl⟩:=zW hs
     refine zmN R (hF d rfl) ho hc hd hf (Y6 has) h fun E' st' v R' P' hk=>hK E' st' (a.put (some d) v) R' rfl P' hk
   · rename_i hc
     split at hs
     · rename_i x t hx1 ht1
       have hc':c={callee:= .builtin .len,args:= #[x],argTypes:= #[t]}:=by
        cases c with
        | mk callee args argTypes=>
          simp only at hc hx1 ht1
          subst hc
          congr
          · apply Array.ext';simpa using hx1
          · apply Array.ext';simpa using ht1
       subst hc'
       split at hs
       · rename_i e hu
         obtain⟨ox,hx,rfl⟩:=zW hs
         exact JF hd rfl hF h hK fun A F h1=>zjb R F ho hu hx h1
       · rename_i hu
         obtain⟨ox,hx,rfl⟩:=zW hs
         exact JF hd rfl hF h hK fun A F h1=>zfW R F ho hu hx h1
       · cases hs
     · cases hs
   · rename_i hc
     split at hs
     · rename_i x t hx1 ht1
       have hc':c={callee:= .builtin .cap,args:= #[x],argTypes:= #[t]}:=by
        cases c with
        | mk callee args argTypes=>
          simp only at hc hx1 ht1
          subst hc
          congr
          · apply Array.ext';simpa using hx1
          · apply Array.ext';simpa using ht1
       subst hc'
       split at hs
       · rename_i e hu
         obtain⟨ox,hx,rfl⟩:=zW hs
         have F:=hF d rfl
         simp only[UZ,Jo] at h
         split at h
         · rename_i id off len sz hev
           split at h
           · rename_i cs hcs
             obtain⟨v,po,h1,h2,_⟩:=zN R hx (ZG hev rfl) rfl
             cases h2 with
             | sl _ _ _ _ cap _ hn hlc hm hk=>
               obtain⟨_,_,_,_,_,_,hlk,_⟩:=R.objs id cs hcs
               have hcap:cap≤9223372036854775807:=by simpa[maxLen] using hm
               refine zdc (v:= .int .i64 (cap:Int)) (w':=E.w) (by simp[execOp,ho,resolve,invoke,builtin,Builtin.cap_,h1,run_underlying hu,goInt]) hd (hK E _ (a.put (some d) (.int .i64 (cap:Int))) (ju R F _) rfl (Zc.refl E) (h cap hlc (by omega) hcap))
           · exact h.elim
         · rename_i u hev
           obtain⟨hu1,h⟩:=h
           obtain rfl:=Q2 hu1
           have h1:a.eval x= .slice none 0 0:=jj R hx (ZG hev rfl)
           exact zdc (v:= .int .i64 (0:Int)) (w':=E.w) (by simp[execOp,ho,resolve,invoke,builtin,Builtin.cap_,h1,run_underlying hu,goInt]) hd (hK E _ (a.put (some d) (.int .i64 0)) (ju R F _) rfl (Zc.refl E) h)
         · exact h.elim
       · cases hs
     · cases hs
   · rename_i hc
     split at hs
     · rename_i x y hx1
       have hc':c={callee:= .builtin (if true=true then .max else .min),args:= #[x,y],argTypes:=c.argTypes}:=by
        cases c with
        | mk callee args argTypes=>
          simp only at hc hx1
          subst hc
          congr
          apply Array.ext';simpa using hx1
       obtain⟨ox,hx,hs⟩:=zD hs
       obtain⟨oy,hy,rfl⟩:=zW hs
       exact JF hd rfl hF h hK fun A F h1=>zip (mx:=true) R F (by rw[ho,←hc']) hx hy h1
     · cases hs
   · rename_i hc
     split at hs
     · rename_i x y hx1
       have hc':c={callee:= .builtin (if false=true then .max else .min),args:= #[x,y],argTypes:=c.argTypes}:=by
        cases c with
        | mk callee args argTypes=>
          simp only at hc hx1
          subst hc
          congr
          apply Array.ext';simpa using hx1
       obtain⟨ox,hx,hs⟩:=zD hs
       obtain⟨oy,hy,rfl⟩:=zW hs
       exact JF hd rfl hF h hK fun A F h1=>zip (mx:=false) R F (by rw[ho,←hc']) hx hy h1
     · cases hs
   · rename_i hc
     split at hs
     · rename_i s x t t' hx1 ht1
       split at hs
       · rename_i htt
         subst htt
         have hc':c={callee:= .builtin .append,args:= #[s,x],argTypes:= #[t,t]}:=by
          cases c with
          | mk callee args argTypes=>
            simp only at hc hx1 ht1
            subst hc
            congr
            · apply Array.ext';simpa using hx1
            · apply Array.ext';simpa using ht1
         subst hc'
         split at hs
         · rename_i e hu
           obtain⟨inf,hi,hs⟩:=zD hs
           obtain⟨z,hz,hs⟩:=zD hs
           split at hs
           · rename_i hcond
             obtain⟨os,hos,hs⟩:=zD hs
             obtain⟨ox,hx,rfl⟩:=zW hs
             obtain⟨s',h1,h2⟩:=jB h
             exact qv (zni R (hF d rfl) ho hu hi hz hcond.1 hcond.2.1 hcond.2.2 hos hx h1 hq) hd h2 hK
           · cases hs
         · cases hs
       · have hc':c={callee:= .builtin .append,args:= #[s,x],argTypes:= #[t,t']}:=by
          cases c with
          | mk callee args argTypes=>
            simp only at hc hx1 ht1
            subst hc
            congr
            · apply Array.ext';simpa using hx1
            · apply Array.ext';simpa using ht1
         subst hc'
         split at hs
         · rename_i e k hu hu'
           obtain⟨inf,hi,hs⟩:=zD hs
           obtain⟨z,hz,hs⟩:=zD hs
           split at hs
           · rename_i hcond
             obtain⟨os,hos,hs⟩:=zD hs
             obtain⟨ox,hx,rfl⟩:=zW hs
             obtain⟨s',h1,h2⟩:=jB h
             exact qv (zmP R (hF d rfl) ho hu hu' hi hz hcond.1 hcond.2 hos hx h1) hd h2 hK
           · cases hs
         · cases hs
     · cases hs
   · rename_i hc
     split at hs
     · rename_i s x t t' hx1 ht1
       have hc':c={callee:= .builtin .copy,args:= #[s,x],argTypes:= #[t,t']}:=by
        cases c with
        | mk callee args argTypes=>
          simp only at hc hx1 ht1
          subst hc
          congr
          · apply Array.ext';simpa using hx1
          · apply Array.ext';simpa using ht1
       subst hc'
       split at hs
       · rename_i e hu
         obtain⟨inf,hi,hs⟩:=zD hs
         split at hs
         · rename_i hcond
           obtain⟨os,hos,hs⟩:=zD hs
           obtain⟨ox,hx,rfl⟩:=zW hs
           obtain⟨s',h1,h2⟩:=jB h
           exact qv (znf R (hF d rfl) ho hu hi hcond hos hx h1 hq) hd h2 hK
         · cases hs
       · cases hs
     · cases hs
   · cases hs
 · rename_i t d ho hd
   cases hs
   obtain⟨s',h1,h2⟩:=jB (x:=zbN st d) (K:=K) h
   exact qv (zmK R (hF d rfl) ho h1) hd h2 hK
 · rename_i t x k d ho hd
   split at hs
   · rename_i kt et ht
     split at hs
     · rename_i kd hk
       obtain⟨inf,hi,hs⟩:=zD hs
       split at hs
       · rename_i hz
         obtain⟨ox,hx,hs⟩:=zD hs
         obtain⟨ok,hok,rfl⟩:=zW hs
         obtain⟨s',h1,h2⟩:=jB h
         exact qv (zmM R (hF d rfl) ho ht hk hi hz hx hok h1) hd h2 hK
       · cases hs
     · cases hs
   · cases hs
 · rename_i t x k v ho hd
   split at hs
   · rename_i kt et ht
     split at hs
     · rename_i kd hk
       obtain⟨ox,hx,hs⟩:=zD hs
       obtain⟨ok,hok,hs⟩:=zD hs
       obtain⟨ov,hov,rfl⟩:=zW hs
       obtain⟨s',h1,h2⟩:=jB h
       obtain⟨E',hr,R',P'⟩:=zhP (P:=P) (o:=o) R (.inl ho) ht hk hx hok hov h1 hq
       exact zfF hr hd (hK E' s' a R' rfl P' h2)
     · cases hs
   · cases hs
 · rename_i t x k v ho hd
   split at hs
   · rename_i kt et ht
     split at hs
     · rename_i kd hk
       obtain⟨ox,hx,hs⟩:=zD hs
       obtain⟨ok,hok,hs⟩:=zD hs
       obtain⟨ov,hov,rfl⟩:=zW hs
       obtain⟨s',h1,h2⟩:=jB h
       obtain⟨E',hr,R',P'⟩:=zhP (P:=P) (o:=o) R (.inr ho) ht hk hx hok hov h1 hq
       exact zfF hr hd (hK E' s' a R' rfl P' h2)
     · cases hs
   · cases hs
 · cases hs
theorem Xk {b:ZS}{K:zb→Prop}{next:Act→World→Prop}{Q:Exit→Act→World→Prop}(R:zK E N V st a.tmps)(hs:j8 P rs o=some b)(hF:b.fresh N V st)(h:Jo P L K st b)(hq:b.quiet L st=true)(hK:zc7 L E N V a K next):o.wp P a E.w next Q:=by
 cases b with
 | r ao=>
   rcases zfQ h with h|h
   · exact xz R hs hF h hq hK
   · obtain⟨A,d,h1,h2,h3,h4,_⟩:=XH (Ls:=QP st ao) R hs (fun d hd=>hF d hd) h
     exact zka h3 h1 h4 hK
 |_=>exact xz R hs hF h hq hK
end
end Go.Ga

namespace Go.Ga
open Go
abbrev zm :=Option (Nat×Bool)×ZS
def QM (P:Program)(rs:List Nat×List Nat)(ops:Array Oper)(o:Oper):Option zm:=
 match o.guard with
 |none=>(j8 P rs o).map fun b=>(none,b)
 | some (j,want)=>match(ops[j]?).bind (·.dst) with
   |some t=>(j8 P rs o).bind fun b=>if b.dst=o.dst then some (some (t,want),b) else none
   |none=>none
def ZS.keys (b:ZS)(ks:List Nat):List Nat:=
 match b with
 | .asg _ _ _=>ks
 | .st _ _ _=>ks
 | b=>match b.dst with
   |some d=>d::ks
   |none=>ks
def ZS.ok (N:Nat)(V ks:List Nat):ZS→Bool
 | .asg d _ _=>V.contains d&&d<N
 | .st _ _ _=>true
 | b=>match b.dst with
   |some d=>d<N&& !V.contains d&& !ks.contains d
   |none=>true
def ZP (P:Program)(L:List (List Nat))(K:zb→Prop)(st:zb):zm→Prop
 |(none,b)=>b.quiet L st=true∧Jo P L K st b
 | (some (t,want),b)=>match st.get t with
   | .sc (.bool v)=>(v=want→b.quiet L st=true∧Jo P L K st b)∧(v=(!want)→match b.dst with|some d=>K (st.putT d (.sc (.tuple #[])))|none=>False)
   | .sc (.tuple vs)=>vs= #[]∧match b.dst with|some d=>K (st.putT d (.sc (.tuple #[])))|none=>False
   |_=>False
def Yy (P:Program)(L:List (List Nat))(K:zb→Prop):List zm→zb→Prop
 |[],st=>K st
 |g::rest,st=>ZP P L (Yy P L K rest) st g
def Kk (N:Nat)(V:List Nat)(g:zm)(ks:List Nat):Bool:=g.2.ok N V ks&&(match g with|(some _,.asg _ _ _)=>false|(some _,.st _ _ _)=>false|_=>true)
def Kj (N:Nat)(V:List Nat):List zm→List Nat→Bool
 |[],_=>true
 |g::rest,ks=>Kk N V g ks&&Kj N V rest (g.2.keys ks)
section
variable {L:List (List Nat)} {E:Env} {N:Nat} {V:List Nat} {st:zb} {a:Act} {P:Program} {o:Oper} {d:Nat} {tm:Array Value} {rs:List Nat×List Nat}
theorem jZ {x:Option zb}{K K':zb→Prop}(h:jt x K)(hk:∀s,x=some s→K s→K' s):jt x K':=by
 cases x with
 |none=>exact h.elim
 |some s=>exact hk s rfl h
theorem UY {b:ZS}{K:zb→Prop}(h:Jo P L K st b):Jo P L (fun s=>s.ts.map (·.1)=b.keys (st.ts.map (·.1))∧K s) st b:=by
 cases b with
 | r o=>
   simp only[Jo] at h⊢
   split at h
   · rename_i A d h1 h2
     exact⟨by simp[ZS.keys,ZS.dst,h2,zb.putT],h⟩
   · rename_i d h1 h2
     unfold WM at h⊢
     split at h
     case h_2=>exact h.elim
     cases h2
     obtain⟨e1,e2,e3,h⟩:=h
     refine⟨e1,e2,e3,?_⟩
     split at h
     · exact⟨⟨by simp[ZS.keys,ZS.dst,AOp.dst,zb.putT],h.1⟩,by simp[ZS.keys,ZS.dst,AOp.dst,zb.putT],h.2⟩
     · exact h.elim
   · exact h.elim
 | asg d x mv=>
   refine jZ h fun s hs hk=>⟨?_,hk⟩
   unfold zhV at hs
   split at hs
   · rename_i A st1 hu;cases hs;exact JX.trans (Z3 hu)
   · cases hs
 | mk d l c sz bs zs=>
   refine jZ h fun s hs hk=>⟨?_,hk⟩
   unfold aMk at hs
   split at hs
   · split at hs
     · cases hs;rfl
     · cases hs
   · cases hs
 | mko d l c sz bs zs=>
   refine jZ h fun s hs hk=>⟨?_,hk⟩
   unfold zhR at hs
   split at hs
   · split at hs
     · cases hs;rfl
     · cases hs
   · cases hs
 | capq d x=>
   simp only[Jo] at h⊢
   split at h
   · split at h
     · exact fun n h1 h2 h3=>⟨rfl,h n h1 h2 h3⟩
     · exact h.elim
   · exact⟨h.1,rfl,h.2⟩
   · exact h.elim
 |bad d=>exact h.elim
 | mkmp d=>
   have h':jt (zbN st d) K:=h
   exact jZ (K':=fun s=>s.ts.map (·.1)=(ZS.mkmp d).keys (st.ts.map (·.1))∧K s) h' fun s hs hk=>⟨by cases hs;rfl,hk⟩
 | mget d x k=>
   refine jZ h fun s hs hk=>⟨?_,hk⟩
   unfold zbP at hs
   split at hs
   · split at hs
     · cases hs;rfl
     · cases hs
   · cases hs
 | mput x k v=>
   refine jZ h fun s hs hk=>⟨?_,hk⟩
   unfold zbM at hs
   split at hs
   · split at hs
     · rcases Zk hs with⟨_,hs⟩|⟨_,hs⟩
       · cases hs
       · cases hs;exact jM.trans ZT
     · cases hs
   · cases hs
 | cpy d s x sz=>
   refine jZ h fun s' hs hk=>⟨?_,hk⟩
   unfold zhS at hs
   split at hs
   · split at hs
     · split at hs
       · split at hs
         · cases hs
           show d::_=d::_
           congr 1
           simp only[zb.storeObj]
           exact ZT
         · cases hs
       · cases hs
     · cases hs
   · split at hs
     · split at hs
       · cases hs;rfl
       · cases hs
     · cases hs
   · cases hs
 | appz d s x sz bs zs=>
   refine jZ h fun s hs hk=>⟨?_,hk⟩
   unfold zbR at hs
   split at hs
   · split at hs
     · split at hs
       · cases hs;rfl
       · cases hs
     · cases hs
   · cases hs
 | blds d len sz ps zs=>
   refine jZ h fun s hs hk=>⟨?_,hk⟩
   unfold zbQ at hs
   split at hs
   · rename_i As st1 hu
     split at hs
     · split at hs
       · cases hs;simp[ZS.keys,ZS.dst,zb.putT,je _ hu]
       · cases hs
     · cases hs
   · cases hs
 | bld d ps zs=>
   refine jZ h fun s hs hk=>⟨?_,hk⟩
   unfold zhU at hs
   split at hs
   · rename_i As st1 hu
     split at hs
     · cases hs;simp[ZS.keys,ZS.dst,zb.putT,je _ hu]
     · cases hs
   · cases hs
 | app d s x sz bs=>
   refine jZ h fun s' hs hk=>⟨?_,hk⟩
   unfold zhW at hs
   split at hs
   · rename_i S st1 hu
     split at hs
     · rename_i xs st2 hu2
       split at hs
       · split at hs
         · split at hs
           · cases hs;simp[ZS.keys,ZS.dst,zb.putT,Yg hu2,Z3 hu]
           · cases hs
         · split at hs
           · cases hs;simp[ZS.keys,ZS.dst,zb.putT,Yg hu2,Z3 hu]
           · cases hs
         · split at hs
           · split at hs
             · cases hs;simp[ZS.keys,ZS.dst,zb.putT,zb.storeObj,ZT,Yg hu2,Z3 hu]
             · cases hs
           · cases hs
         · cases hs
       · cases hs
     · cases hs
   · cases hs
 | slc d x lo hi sz=>
   refine jZ h fun s' hs hk=>⟨?_,hk⟩
   unfold zhQ at hs
   split at hs
   · rename_i A st1 hu
     split at hs
     all_goals first
      |(cases hs;done)
      | (split at hs
         · split at hs
           · cases hs;simp[ZS.keys,ZS.dst,zb.putT,Z3 hu]
           · cases hs
         · cases hs)
   · cases hs
 | box d x=>
   refine jZ h fun s' hs hk=>⟨?_,hk⟩
   unfold zhT at hs
   split at hs
   · rename_i cs st1 hu;cases hs;simp[ZS.keys,ZS.dst,zb.putT,Z3 hu]
   · rename_i A st1 _ hu
     rcases Zk hs with⟨_,hs⟩|⟨_,hs⟩
     · cases hs;simp[ZS.keys,ZS.dst,zb.putT,Z3 hu]
     · cases hs
   · cases hs
 | alloc d zs=>
   have h':jt (U9 st d zs) K:=h
   exact jZ (K':=fun s=>s.ts.map (·.1)=(ZS.alloc d zs).keys (st.ts.map (·.1))∧K s) h' fun s hs hk=>⟨by cases hs;rfl,hk⟩
 | mkfn d f o1 o2=>
   refine jZ h fun s' hs hk=>⟨?_,hk⟩
   unfold zbO at hs
   split at hs
   · rename_i As st1 hu
     rcases Zk hs with⟨_,hs⟩|⟨_,hs⟩
     · cases hs;simp[ZS.keys,ZS.dst,zb.putT,je _ hu]
     · cases hs
   · cases hs
 | st x v n=>
   refine jZ h fun s' hs hk=>⟨?_,hk⟩
   unfold aSt at hs
   split at hs
   · rename_i A st1 hu
     split at hs
     · split at hs
       · split at hs
         · split at hs
           · cases hs;exact jM.trans (ZT.trans (Z3 hu))
           · cases hs
         · cases hs
       · split at hs
         · split at hs
           · cases hs;exact ZT.trans (Z3 hu)
           · cases hs
         · cases hs
       · cases hs
     · cases hs
   · cases hs
 | call d f as=>
   simp only[Jo,YO] at h⊢
   split at h
   · rename_i g first captured hev
     obtain⟨ms,bo,ln,pl,h⟩:=h
     refine⟨ms,bo,ln,pl,?_⟩
     unfold wm at h⊢
     split at h
     case h_2=>exact h.elim
     rename_i x0 st0 htake
     split at h
     case h_2=>exact h.elim
     rename_i As st1 huse
     refine⟨h.1,h.2.1,h.2.2.1,h.2.2.2.mono fun r h' hk=>⟨hk.1,hk.2.1,?_⟩⟩
     have hk3:=hk.2.2
     have hks:∀mm r,((st1.after bo L mm h').putT d r).ts.map (·.1)=d::st.ts.map (·.1):=fun mm r=>by
      show d::(st1.after bo L mm h').ts.map (·.1)=_
      rw[Q6,je _ huse,QI htake]
     unfold zq at hk3⊢
     split
     · exact⟨hks _ _,hk3⟩
     · rename_i p sz cs _
       simp only[] at hk3
       generalize h'[bo.length]?=z at hk3⊢
       cases z with
       |none=>exact⟨hks _ _,hk3⟩
       | some y=>
         cases y with
         |none=>exact⟨hks _ _,hk3⟩
         | some cs'=>
           refine⟨hk3.1,hk3.2.1,hk3.2.2.1,?_,hk3.2.2.2⟩
           show d::(zb.setAt _ _ _).ts.map (·.1)=_
           rw[jM,Q6,je _ huse,QI htake]
           rfl
   · exact h.elim
theorem qq {b:ZS}{ks:List Nat}(h:b.ok N V ks=true)(hk:st.ts.map (·.1)=ks):b.fresh N V st:=by
 cases b with
 |asg d x m=>simp only[ZS.ok,Bool.and_eq_true,List.contains_iff_mem,decide_eq_true_eq] at h;exact h
 |st x v n=>trivial
 | r o=>
   intro d hd
   simp only[ZS.ok,ZS.dst] at h hd
   rw[hd] at h
   simp only[Bool.and_eq_true,decide_eq_true_eq,Bool.not_eq_true',List.contains_eq_mem] at h
   exact⟨h.1.1,by simpa using h.1.2,by rw[hk];simpa using h.2⟩
 |mput x k v=>intro d' hd;cases hd
 | _=>
   intro d' hd
   simp only[ZS.ok,ZS.dst] at h hd
   cases hd
   simp only[Bool.and_eq_true,decide_eq_true_eq,Bool.not_eq_true',List.contains_eq_mem] at h
   exact⟨h.1.1,by simpa using h.1.2,by rw[hk];simpa using h.2⟩
theorem yf {ops:Array Oper}(hg:o.guard=none):Region.wanted o (yielded ops a.tmps)=true:=by simp[Region.wanted,hg]
theorem ye {ops:Array Oper}(R:zK E N V st a.tmps){j t:Nat}{want v:Bool}(hg:o.guard=some (j,want))(hj:(ops[j]?).bind (·.dst)=some t)(hv:st.get t= .sc (.bool v)):
    Region.wanted o (yielded ops a.tmps)=(v==want):=by
  have h1:a.eval (.tmp t)= .bool v:=jj (ox:= .t t) R rfl hv
  obtain⟨u,h2,h3⟩:=(R.slots t).out (by rw[hv];rfl)
  rw[hv] at h3
  cases h3
  simp only[Region.wanted,hg,yielded,hj,Option.bind_some,h2]
  cases v<;>cases want<;>rfl
theorem QE {ops:Array Oper}(R:zK E N V st a.tmps){j t:Nat}{want:Bool}(hg:o.guard=some (j,want))(hj:(ops[j]?).bind (·.dst)=some t)(hv:st.get t= .sc (.tuple #[])):
    Region.wanted o (yielded ops a.tmps)=false:=by
  obtain⟨u,h2,h3⟩:=(R.slots t).out (by rw[hv];rfl)
  rw[hv] at h3
  cases h3
  simp only[Region.wanted,hg,yielded,hj,Option.bind_some,h2]
  cases want<;>rfl
theorem zmA {Q:Exit→Act→World→Prop}{ops:Array Oper}{os:List Oper}{g:zm}{K:zb→Prop}(R:zK E N V st a.tmps)(hs:QM P rs ops o=some g)(hok:Kk N V g (st.ts.map (·.1))=true)(h:ZP P L K st g)
    (hK:∀E' st' a',zK E' N V st' a'.tmps→a'.defers=a.defers→Zc L E E'→st'.ts.map (·.1)=g.2.keys (st.ts.map (·.1))→K st'→wpList P ops Q os a' E'.w):wpList P ops Q (o::os) a E.w:=by
  obtain⟨gd,b⟩:=g
  simp only[Kk,Bool.and_eq_true] at hok
  obtain⟨hok1,hok2⟩:=hok
  have go:b.quiet L st=true∧Jo P L K st b→j8 P rs o=some b→o.wp P a E.w (wpList P ops Q os) Q:=fun⟨hq,hstep⟩ hstrip=>
    Xk R hstrip (qq hok1 rfl) (UY hstep) hq fun E' st' a' R' hd P' hk=>hK E' st' a' R' hd P' hk.1 hk.2
  unfold wpList
  unfold QM at hs
  split at hs
  · rename_i hg
    obtain⟨b',hb,e⟩:=zW hs
    cases e
    simp only[yf hg,if_true]
    exact .inl (go h hb)
  · rename_i j want hg
    split at hs
    · rename_i t ht
      obtain⟨b',hb,e⟩:=zD hs
      split at e
      case isFalse=>cases e
      rename_i hdd
      cases e
      simp only[ZP] at h
      split at h
      · rename_i v hv
        simp only[ye (ops:=ops) R hg ht hv]
        cases hvw:(v==want) with
        |true=>exact .inl (go (h.1 (by simpa using hvw)) hb)
        | false =>
          simp only[Bool.false_eq_true,if_false]
          have h3:=h.2 (by cases v<;>cases want<;>simp at hvw⊢)
          split at h3
          · rename_i d hd
            have F:=qq (st:=st) hok1 rfl
            have hbd:o.dst=some d∧zX N V st d∧b.keys (st.ts.map (·.1))=d::st.ts.map (·.1):=by
              refine⟨hdd.symm.trans hd,?_,?_⟩
              · cases b with
                |asg=>simp at hok2
                |st=>simp at hok2
                |_=>exact F d hd
              · cases b with
                |asg=>simp at hok2
                |st=>simp at hok2
                |r o=>simp only[ZS.keys];rw[hd]
                |mput=>cases hd
                |_=>cases hd;rfl
            obtain⟨hd1,F1,hkeys⟩:=hbd
            rw[hd1]
            exact hK E _ (a.put (some d) undef) (ju R F1 undef) rfl (Zc.refl E) hkeys.symm h3
          · exact h3.elim
      · rename_i vs hv
        obtain⟨rfl,h3⟩:=h
        simp only[QE (ops:=ops) R hg ht hv]
        simp only[Bool.false_eq_true,if_false]
        split at h3
        · rename_i d hd
          have F:=qq (st:=st) hok1 rfl
          have hbd:o.dst=some d∧zX N V st d∧b.keys (st.ts.map (·.1))=d::st.ts.map (·.1):=by
            refine⟨hdd.symm.trans hd,?_,?_⟩
            · cases b with
              |asg=>simp at hok2
              |st=>simp at hok2
              |_=>exact F d hd
            · cases b with
              |asg=>simp at hok2
              |st=>simp at hok2
              |r o=>simp only[ZS.keys];rw[hd]
              |mput=>cases hd
              |_=>cases hd;rfl
          obtain⟨hd1,F1,hkeys⟩:=hbd
          rw[hd1]
          exact hK E _ (a.put (some d) undef) (ju R F1 undef) rfl (Zc.refl E) hkeys.symm h3
        · exact h3.elim
      · exact h.elim
    · cases hs
theorem U5 {ops:Array Oper}{Q:Exit→Act→World→Prop}:∀(os:List Oper) (gs:List zm) {E:Env} {st:zb} {a:Act} {K:zb→Prop},os.map (QM P rs ops)=gs.map some→zK E N V st a.tmps→Kj N V gs (st.ts.map (·.1))=true→Yy P L K gs st→
    zc7 L E N V a K (Q .normal)→wpList P ops Q os a E.w
  |[],[],E,st,a,K,_,R,_,h,hK=>hK E st a R rfl (Zc.refl E) h
  |[],_::_,E,st,a,K,hm,R,_,h,hK=>by simp at hm
  |_::_,[],E,st,a,K,hm,R,_,h,hK=>by simp at hm
  | o::os,g::gs,E,st,a,K,hm,R,hok,h,hK=>by
    simp only[List.map_cons,List.cons.injEq] at hm
    simp only[Kj,Bool.and_eq_true] at hok
    exact zmA R hm.1 hok.1 h fun E' st' a' R' hd P' hks hk=>U5 os gs hm.2 R' (by rw[hks];exact hok.2) hk fun E2 st2 a2 R2 hd2 P2 hk2=>hK E2 st2 a2 R2 (hd2.trans hd) (P'.trans P2) hk2
end
end Go.Ga

namespace Go.Ga
open Go
abbrev Zu :=List Nat×List (List Nat)×List (Addr×Value)
def Zu.keep (i:Nat)(ws:List Zu):List Zu:=ws.filter fun x=> !x.1.contains i
section
variable {P:Program} {ops:Array Oper} {Q:Exit→Act→World→Prop} {md:Region.Mode}
def jP (P:Program)(ops:Array Oper)(o:Oper)(rd:List (Addr×Value))(v:Value)(a:Act):Prop:=
 (Region.wanted o (yielded ops a.tmps)=true∧∀w:World,(∀c∈rd,w.cell? c.1=some c.2)→(execOp a.eval o).run P w= .ok (.value v) w)∨(Region.wanted o (yielded ops a.tmps)=false∧v=undef)
theorem jP.of_same {o:Oper}{rd:List (Addr×Value)}{v:Value}{a a':Act}(hy:jP P ops o rd v a)(he:execOp a'.eval o=execOp a.eval o)(hw:Region.wanted o (yielded ops a'.tmps)=Region.wanted o (yielded ops a.tmps)):jP P ops o rd v a':=by
 unfold jP
 rw[he,hw]
 exact hy
theorem jP.wpOp {i:Nat}{o:Oper}{rd:List (Addr×Value)}{v:Value}{a:Act}(hi:ops[i]?=some o)(hy:jP P ops o rd v a){K:Act→World→Prop}{w:World}(hrd:∀c∈rd,w.cell? c.1=some c.2)(h:K (a.put o.dst v) w):wpOp P ops Q i K a w:=by
 unfold Go.wpOp
 rw[hi]
 rcases hy with⟨h1,h2⟩|⟨h1,rfl⟩
 · simp only[h1,if_true,Oper.wp,h2 w hrd,Oper.upon]
   exact .inl h
 · simp only[h1,Bool.false_eq_true,if_false]
   exact h
theorem zbV {j:Nat}{o:Oper}(hj:ops[j]?=some o){K:Act→World→Prop}{a:Act}{w:World}(h:wpOp P ops Q j K a w):
    wpOp P ops Q j (fun a' w'=>(∃u ds,a'=({a with defers:=ds}:Act).put o.dst u)∧K a' w') a w:=by
  have self:∀u,∃u' ds,a.put o.dst u=({a with defers:=ds}:Act).put o.dst u':=fun u=>⟨u,a.defers,rfl⟩
  unfold Go.wpOp at h⊢
  rw[hj] at h⊢
  simp only[] at h⊢
  split
  · rename_i hw
    rw[if_pos hw] at h
    refine h.imp (fun h=>?_) id
    unfold Oper.wp at h⊢
    generalize (execOp a.eval o).run P w=r at h
    cases r with
    | ok n w'=>
      cases n with
      |value v=>exact⟨self _,h⟩
      |skip=>exact⟨self _,h⟩
      |defer d=>exact⟨⟨undef,d::a.defers,rfl⟩,h⟩
      | enter f args=>
        refine Calls.mono h fun e w'' he=>?_
        cases e with
        |returned u=>exact⟨self _,he⟩
        |panicked c=>exact he
        |outgrown=>exact he
      |row row args=>exact Rows.mono h fun u w'' he=>⟨self _,he⟩
      |_=>exact h.elim
    | halt x w'=>
      cases x<;>first
        |exact h
        |exact h.elim
  · rename_i hw
    rw[if_neg hw] at h
    exact⟨self _,h⟩
def xx (o:Oper)(v:Value):Oper:={o with op:= .move (.const v),guard:=none}
theorem kW (o:Oper)(v:Value)(a:Act):Yields P ops (xx o v) v a:=
 .inl ⟨by simp[xx,Region.wanted],fun w=>by simp[xx,execOp,Act.eval]⟩
theorem K3 {x y:Oper}{v:Value}(h:x.apart ops y=true):(xx x v).apart ops y=true:=by
 obtain⟨h1,h2,h3⟩:=Oper.apart_spec h
 have e:(xx x v).looksAt ops=[]:=by simp[Oper.looksAt,xx,Op.operands]
 unfold Oper.apart
 rw[e]
 have e2:(xx x v).dst=x.dst:=rfl
 rw[e2]
 cases hx:x.dst with
 |none=>cases y.dst<;>rfl
 | some d=>
   have g1:=h1 d hx
   have g2:=h2 d hx
   cases hy:y.dst with
   |none=>simp[g1]
   | some d'=>
     rw[hy] at g2
     have g3:¬d'=d:=fun e=>g2 (by rw[e])
     simp[g1,g3]
def JZ (P:Program)(md:Region.Mode)(ops:Array Oper)(Q:Exit→Act→World→Prop):Nat→List Zu→Array Bool→Act→World→Prop
 |0,_,listed,a,w=>Region.ready md ops listed=[]∧Q .normal a w
 | fuel+1,ws,listed,a,w=>
   (Region.ready md ops listed=[]→Q .normal a w)∧
   ∀i∈Region.ready md ops listed,wpOp P ops Q i (fun a' w'=>(∀x∈Zu.keep i ws,∀c∈x.2.2,w.cell? c.1=some c.2→w'.cell? c.1=some c.2)∧JZ P md ops Q fuel (Zu.keep i ws) (listed.setIfInBounds i true) a' w') a w
theorem YA :∀(fuel:Nat) (ws:List Zu) (listed:Array Bool) (a:Act) (w:World),JZ P md ops Q fuel ws listed a w→wpAny P md ops Q fuel listed a w
 |0,_,_,_,_,h=>h
 |fuel+1,_,_,_,_,h=>⟨h.1,fun i hi=>wpOp_mono (fun a' w' h'=>YA fuel _ _ a' w' h'.2) (h.2 i hi)⟩
theorem qW :∀(fuel:Nat) (ws ws':List Zu) (listed:Array Bool) (a:Act) (w:World),(∀x∈ws,x∈ws')→JZ P md ops Q fuel ws' listed a w→JZ P md ops Q fuel ws listed a w
 |0,_,_,_,_,_,_,h=>h
 | fuel+1,ws,ws',_,_,_,hs,h=>by
   have hk:∀i,∀x∈Zu.keep i ws,x∈Zu.keep i ws':=fun i x hx=>by
    rw[Zu.keep,List.mem_filter] at hx⊢
    exact⟨hs x hx.1,hx.2⟩
   exact⟨h.1,fun i hi=>wpOp_mono (fun a' w' h'=>⟨fun x hx=>h'.1 x (hk i x hx),qW fuel _ _ _ a' w' (hk i) h'.2⟩) (h.2 i hi)⟩
theorem kS {i:Nat}{oi:Oper}{v:Value}{later:List Nat}{Ls:List (List Nat)}{rd:List (Addr×Value)}(hi:ops[i]?=some oi)(hsel:Region.noSelect ops=true)(hQ:∀c a w,¬Q (.panic c) a w)
    (hlater:∀k∈later,∀o,ops[k]?=some o→∃e∈o.after,Region.binds md e=true∧(e.on=i∨e.on∈later)) (hself:i∉later):
    ∀ (fuel:Nat) (ws:List Zu) (listed:Array Bool) (a:Act) (w:World),
      (∀j oj,ops[j]?=some oj→j≠i→listed.getD j true=false→j∉later→oi.apart ops oj=true)→(∀k∈later,listed.getD k false=false)→
      i∈Region.ready md ops listed→jP P ops oi rd v a→(∀c∈rd,w.cell? c.1=some c.2)→(later,Ls,rd)∈ws→
      JZ P md ops Q fuel ws (listed.setIfInBounds i true) (a.put oi.dst v) w→JZ P md ops Q (fuel+1) ws listed a w:=by
  have here:∀(fuel:Nat) (ws:List Zu) (listed:Array Bool) (a:Act) (w:World),jP P ops oi rd v a→(∀c∈rd,w.cell? c.1=some c.2)→
      JZ P md ops Q fuel ws (listed.setIfInBounds i true) (a.put oi.dst v) w→
      wpOp P ops Q i (fun a' w'=>(∀x∈Zu.keep i ws,∀c∈x.2.2,w.cell? c.1=some c.2→w'.cell? c.1=some c.2)∧JZ P md ops Q fuel (Zu.keep i ws) (listed.setIfInBounds i true) a' w') a w:=
    fun fuel ws listed a w hy hrd H=>hy.wpOp hi hrd ⟨fun _ _ _ _ h=>h,qW fuel _ _ _ _ _ (fun x hx=>(List.mem_filter.1 hx).1) H⟩
  intro fuel
  induction fuel with
  | zero=>
    intro ws listed a w _ _ hr hy hrd _ H
    refine⟨fun h=>(by rw[h] at hr;cases hr),fun j hj=>?_⟩
    by_cases hji:j=i
    · subst hji;exact here 0 ws listed a w hy hrd H
    · have h1:=H.1
      have h2:=ready_mono hj hji
      rw[h1] at h2;cases h2
  | succ fuel ih=>
    intro ws listed a w hfree hlist hr hy hrd hmem H
    refine⟨fun h=>(by rw[h] at hr;cases hr),fun j hj=>?_⟩
    by_cases hji:j=i
    · subst hji;exact here _ ws listed a w hy hrd H
    · have h1:=H.2 j (ready_mono hj hji)
      obtain⟨hjun,oj,hoj,hall⟩:=mem_ready.1 hj
      have hiun:=(mem_ready.1 hr).1
      have hjl:j∉later:=fun hjl=>by
        obtain⟨e,he,hb,hon⟩:=hlater j hjl oj hoj
        have h2:=hall e he hb
        rcases hon with hon|hon
        · rw[hon] at h2
          rcases Nat.lt_or_ge i listed.size with h'|h'
          · simp[h'] at hiun h2;rw[hiun] at h2;cases h2
          · simp[Array.getElem?_eq_none h'] at h2
        · rw[hlist _ hon] at h2;cases h2
      have hap:=hfree j oj hoj hji hjun hjl
      have h2:=zbV hoj (wpOp_put hoj (K3 (v:=v) hap) (fun cs b=>by simp[xx]) (Region.noSelect_spec hsel j oj · · hoj) (fun c a w h=>absurd h (hQ c _ w)) (kW oi v a) h1)
      obtain⟨_,_,hap3⟩:=Oper.apart_spec hap
      have hfree':∀k ok,ops[k]?=some ok→k≠i→(listed.setIfInBounds j true).getD k true=false→k∉later→oi.apart ops ok=true:=fun k ok hk hki hun hno=>by
        refine hfree k ok hk hki ?_ hno
        by_cases hjk:j=k
        · subst hjk;exact hjun
        · rwa [getD_set_ne true hjk] at hun
      have hlist':∀k∈later,(listed.setIfInBounds j true).getD k false=false:=fun k hk=>by
        have hjk:j≠k:=fun e=>hjl (by rw[e];exact hk)
        rw[getD_set_ne false hjk];exact hlist k hk
      have hmem':(later,Ls,rd)∈Zu.keep j ws:=List.mem_filter.2 ⟨hmem,by simpa using hjl⟩
      refine wpOp_mono (fun a' w' h3=>?_) h2
      obtain⟨⟨u,ds,rfl⟩,_,hk,h4⟩:=h3
      refine⟨hk,ih (Zu.keep j ws) (listed.setIfInBounds j true) _ w' hfree' hlist' (ready_mono hr (Ne.symm hji)) ?_ (fun c hc=>hk _ hmem' c hc (hrd c hc)) hmem' ?_⟩
      · have hy2:jP P ops oi rd v ({a with defers:=ds}:Act):=hy.of_same rfl rfl
        exact hy2.of_same (execOp_put oi (Region.noSelect_spec hsel i oi · · hi) _ oj.dst u hap3) (wanted_put oi _ oj.dst u hap3)
      · rw[Array.setIfInBounds_comm _ _ hji]
        exact h4
end
end Go.Ga

namespace Go.Ga
open Go
section
variable {L:List (List Nat)} {E:Env} {N:Nat} {V:List Nat} {st:zb} {a:Act} {P:Program} {o:Oper} {d:Nat} {tm:Array Value} {rs:List Nat×List Nat}
theorem zco {ao:AOp}{A:zc}(R:zK E N V st a.tmps)(hs:j8 P rs o=some (.r ao))(h:J5 st ao=some A)(F:∀d,ao.dst=some d→zX N V st d):
    ∃d,o.dst=some d∧ao.dst=some d∧JB (QP st ao) E N V st a P o d A:=by
  unfold j8 at hs
  split at hs
  case h_2=>cases hs
  rename_i b0 hs0
  cases hs
  replace hs:=hs0
  clear hs0
  unfold ym at hs
  split at hs
  · rename_i x d ho hd
    obtain⟨ox,hx,he⟩:=zW hs
    split at he
    · cases he
    · cases he
      exact⟨d,hd,rfl,zja R (F d rfl) ho hx h⟩
  · rename_i x d ho hd
    obtain⟨ox,hx,he⟩:=zW hs
    cases he
  · rename_i c x y d ho hd
    obtain⟨oc,hc,hs⟩:=zD hs
    obtain⟨ox,hx,hs⟩:=zD hs
    obtain⟨oy,hy,he⟩:=zW hs
    cases he
    exact⟨d,hd,rfl,zfU R (F d rfl) ho hc hx hy h⟩
  · rename_i op t x y yt d ho hd
    obtain⟨dsc,hu,hs⟩:=zD hs
    obtain⟨tag,ht,hs⟩:=zD hs
    obtain⟨ox,hx,hs⟩:=zD hs
    obtain⟨oy,hy,he⟩:=zW hs
    cases he
    refine⟨d,hd,rfl,?_⟩
    cases dsc<;>simp only[UU] at ht<;>try (cases ht;done)
    case struct fs=>
      split at ht
      · rename_i hok
        cases ht
        exact zf3 R (F d rfl) ho hu hok hx hy h
      · cases ht
    all_goals cases ht
    · exact zf4 R (F d rfl) ho hu hx hy h
    · exact Kd R (F d rfl) ho hx hy h
    · exact Kd R (F d rfl) ho hx hy h
    · exact WD R (F d rfl) ho hu hx hy h
    · exact WD R (F d rfl) ho hu hx hy h
    · exact WD R (F d rfl) ho hu hx hy h
  · rename_i t x d ho hd
    obtain⟨ox,hx,he⟩:=zW hs
    cases he
    exact⟨d,hd,rfl,zfV R (F d rfl) ho hx h⟩
  · rename_i s t x d ho hd
    split at hs
    · rename_i k1 k2 h1 h2
      obtain⟨ox,hx,he⟩:=zW hs
      cases he
      exact⟨d,hd,rfl,zf2 R (F d rfl) ho h1 h2 hx h⟩
    · cases hs
  · rename_i x d ho hd
    obtain⟨ox,hx,he⟩:=zW hs
    cases he
    exact⟨d,hd,rfl,zdi R (F d rfl) ho hx h⟩
  · rename_i s x i d ho hd
    split at hs
    · rename_i fs hu
      obtain⟨fl,hf,hs⟩:=zD hs
      obtain⟨inf,hi,hs⟩:=zD hs
      split at hs
      · cases hs
      · rename_i hz
        obtain⟨ox,hx,he⟩:=zW hs
        cases he
        exact⟨d,hd,rfl,zf1 R (F d rfl) ho hu hf hi hz hx h⟩
    · cases hs
  · rename_i s x i d ho hd
    split at hs
    · rename_i fs hu
      obtain⟨fl,hf,hs⟩:=zD hs
      obtain⟨dsc,hdd,hs⟩:=zD hs
      obtain⟨inf,hi,hs⟩:=zD hs
      obtain⟨ox,hx,he⟩:=zW hs
      cases he
      exact⟨d,hd,rfl,zjc R (F d rfl) ho hu hf hdd hi hx h⟩
    · cases hs
  · rename_i t x i d ho hd
    split at hs
    · rename_i e hu
      obtain⟨inf,hi,hs⟩:=zD hs
      split at hs
      · cases hs
      · rename_i hz
        obtain⟨ox,hx,hs⟩:=zD hs
        obtain⟨oi,hoi,he⟩:=zW hs
        cases he
        exact⟨d,hd,rfl,zf0 R (F d rfl) ho hu hi (Nat.pos_of_ne_zero hz) hx hoi h⟩
    · rename_i n e hu
      obtain⟨inf,hi,hs⟩:=zD hs
      obtain⟨ox,hx,hs⟩:=zD hs
      obtain⟨oi,hoi,he⟩:=zW hs
      cases he
      exact⟨d,hd,rfl,zfZ R (F d rfl) ho hu hi hx hoi h⟩
    · cases hs
  · rename_i t x i d ho hd
    split at hs
    · rename_i hu
      obtain⟨ox,hx,hs⟩:=zD hs
      obtain⟨oi,hoi,he⟩:=zW hs
      cases he
      exact⟨d,hd,rfl,zfY R (F d rfl) ho hu hx hoi h⟩
    · rename_i n e hu
      obtain⟨dsc,hdd,hs⟩:=zD hs
      obtain⟨inf,hi,hs⟩:=zD hs
      obtain⟨ox,hx,hs⟩:=zD hs
      obtain⟨oi,hoi,he⟩:=zW hs
      cases he
      exact⟨d,hd,rfl,zfX R (F d rfl) ho hu hdd hi hx hoi h⟩
    · cases hs
  · rename_i t x d ho hd
    obtain⟨dsc,hu,hs⟩:=zD hs
    obtain⟨inf,hi,hs⟩:=zD hs
    obtain⟨ox,hx,he⟩:=zW hs
    cases he
    exact⟨d,hd,rfl,zln R (F d rfl) hu hi ho hx h⟩
  · rename_i t x v ho hd
    obtain⟨inf,hi,hs⟩:=zD hs
    obtain⟨ox,hx,hs⟩:=zD hs
    obtain⟨ov,hv,he⟩:=zW hs
    cases he
  · rename_i x i d ho hd
    obtain⟨ox,hx,he⟩:=zW hs
    cases he
    exact⟨d,hd,rfl,zjd R (F d rfl) ho hx h⟩
  · rename_i t l c d ho hd
    split at hs
    · rename_i e hu
      obtain⟨inf,hi,hs⟩:=zD hs
      obtain⟨z,hz,hs⟩:=zD hs
      split at hs
      · rename_i hc
        obtain⟨ol,hl,hs⟩:=zD hs
        obtain⟨oc,hoc,he⟩:=zW hs
        cases hsm:ol.same oc<;>rw[hsm] at he<;>cases he
      · cases hs
    · cases hs
  · rename_i t len parts d ho hd
    split at hs
    · rename_i e hu
      obtain⟨inf,hi,hs⟩:=zD hs
      obtain⟨z,hz,hs⟩:=zD hs
      split at hs
      · rename_i hc
        obtain⟨ps,hps,he⟩:=zW hs
        cases he
      · cases hs
    · cases hs
  · rename_i t parts d ho hd
    obtain⟨inf,hi,hs⟩:=zD hs
    obtain⟨z,hz,hs⟩:=zD hs
    split at hs
    · rename_i hc
      obtain⟨ps,hps,he⟩:=zW hs
      cases he
    · cases hs
  · rename_i t x d ho hd
    obtain⟨ox,hx,he⟩:=zW hs
    cases he
  · rename_i t d ho hd
    obtain⟨inf,hi,hs⟩:=zD hs
    obtain⟨z,hz,he⟩:=zW hs
    cases he
  · rename_i f first captured d ho hd
    obtain⟨o1,ho1,hs⟩:=zD hs
    obtain⟨o2,ho2,he⟩:=zW hs
    cases he
  · rename_i t x lo hi d ho hd
    split at hs
    · rename_i e hu
      obtain⟨inf,hi',hs⟩:=zD hs
      split at hs
      · cases hs
      · rename_i hz
        obtain⟨ox,hx,hs⟩:=zD hs
        obtain⟨olo,hlo,hs⟩:=zD hs
        obtain⟨ohi,hhi,he⟩:=zW hs
        cases he
    · cases hs
  · rename_i c d ho hd
    split at hs
    · rename_i f hc
      obtain⟨of,hf,hs⟩:=zD hs
      obtain⟨as,has,he⟩:=zW hs
      cases he
    · rename_i hc
      split at hs
      · rename_i x t hx1 ht1
        have hc':c={callee:= .builtin .len,args:= #[x],argTypes:= #[t]}:=by
          cases c with
          | mk callee args argTypes=>
            simp only at hc hx1 ht1
            subst hc
            congr
            · apply Array.ext';simpa using hx1
            · apply Array.ext';simpa using ht1
        subst hc'
        split at hs
        · rename_i e hu
          obtain⟨ox,hx,he⟩:=zW hs
          cases he
          exact⟨d,hd,rfl,zjb R (F d rfl) ho hu hx h⟩
        · rename_i hu
          obtain⟨ox,hx,he⟩:=zW hs
          cases he
          exact⟨d,hd,rfl,zfW R (F d rfl) ho hu hx h⟩
        · cases hs
      · cases hs
    · rename_i hc
      split at hs
      · split at hs
        · obtain⟨ox,hx,he⟩:=zW hs
          cases he
        · cases hs
      · cases hs
    · rename_i hc
      split at hs
      · rename_i x y hx1
        have hc':c={callee:= .builtin (if true=true then .max else .min),args:= #[x,y],argTypes:=c.argTypes}:=by
          cases c with
          | mk callee args argTypes=>
            simp only at hc hx1
            subst hc
            congr
            apply Array.ext';simpa using hx1
        obtain⟨ox,hx,hs⟩:=zD hs
        obtain⟨oy,hy,he⟩:=zW hs
        cases he
        exact⟨d,hd,rfl,zip (mx:=true) R (F d rfl) (by rw[ho,←hc']) hx hy h⟩
      · cases hs
    · rename_i hc
      split at hs
      · rename_i x y hx1
        have hc':c={callee:= .builtin (if false=true then .max else .min),args:= #[x,y],argTypes:=c.argTypes}:=by
          cases c with
          | mk callee args argTypes=>
            simp only at hc hx1
            subst hc
            congr
            apply Array.ext';simpa using hx1
        obtain⟨ox,hx,hs⟩:=zD hs
        obtain⟨oy,hy,he⟩:=zW hs
        cases he
        exact⟨d,hd,rfl,zip (mx:=false) R (F d rfl) (by rw[ho,←hc']) hx hy h⟩
      · cases hs
    · rename_i hc
      split at hs
      · rename_i s x t t' hx1 ht1
        split at hs
        · rename_i htt
          subst htt
          have hc':c={callee:= .builtin .append,args:= #[s,x],argTypes:= #[t,t]}:=by
            cases c with
            | mk callee args argTypes=>
              simp only at hc hx1 ht1
              subst hc
              congr
              · apply Array.ext';simpa using hx1
              · apply Array.ext';simpa using ht1
          subst hc'
          split at hs
          · rename_i e hu
            obtain⟨inf,hi,hs⟩:=zD hs
            obtain⟨z,hz,hs⟩:=zD hs
            split at hs
            · rename_i hcond
              obtain⟨os,hos,hs⟩:=zD hs
              obtain⟨ox,hx,he⟩:=zW hs
              cases he
            · cases hs
          · cases hs
        · split at hs
          · rename_i e k hu hu'
            obtain⟨inf,hi,hs⟩:=zD hs
            obtain⟨z,hz,hs⟩:=zD hs
            split at hs
            · rename_i hcond
              obtain⟨os,hos,hs⟩:=zD hs
              obtain⟨ox,hx,he⟩:=zW hs
              cases he
            · cases hs
          · cases hs
      · cases hs
    · split at hs
      · split at hs
        · obtain⟨inf,hi,hs⟩:=zD hs
          split at hs
          · obtain⟨os,hos,hs⟩:=zD hs
            obtain⟨ox,hx,he⟩:=zW hs
            cases he
          · cases hs
        · cases hs
      · cases hs
    · cases hs
  · cases hs
  · split at hs
    · split at hs
      · obtain⟨_,_,hs⟩:=zD hs
        split at hs
        · obtain⟨_,_,hs⟩:=zD hs
          obtain⟨_,_,he⟩:=zW hs
          cases he
        · cases hs
      · cases hs
    · cases hs
  · split at hs
    · split at hs
      · obtain⟨_,_,hs⟩:=zD hs
        obtain⟨_,_,hs⟩:=zD hs
        obtain⟨_,_,he⟩:=zW hs
        cases he
      · cases hs
    · cases hs
  · split at hs
    · split at hs
      · obtain⟨_,_,hs⟩:=zD hs
        obtain⟨_,_,hs⟩:=zD hs
        obtain⟨_,_,he⟩:=zW hs
        cases he
      · cases hs
    · cases hs
  · cases hs
end
end Go.Ga

namespace Go.Ga
open Go
inductive Sk where
 |done
 |take (i:Nat) (later:List Nat) (t:Sk)
 |one (i:Nat) (t:Sk)
 |two (i:Nat) (t:Sk) (j:Nat) (u:Sk)
 |three (i:Nat) (t:Sk) (j:Nat) (u:Sk) (k:Nat) (v:Sk)
 |many (l:List Nat) (t:Sk)
inductive Zh where
 |done
 |take (later:List Nat) (g:zm) (t:Zh)
 |one (i:Nat) (g:zm) (t:Zh)
 |two (i:Nat) (g:zm) (t:Zh) (j:Nat) (h:zm) (u:Zh)
 |three (i:Nat) (g:zm) (t:Zh) (j:Nat) (h:zm) (u:Zh) (k:Nat) (m:zm) (v:Zh)
 |many (l:List (Nat×zm)) (t:Zh)
def ya (P:Program)(rs:List Nat×List Nat)(ops:Array Oper)(i:Nat):Option zm:=(ops[i]?).bind (QM P rs ops)
def Sk.build (P:Program)(rs:List Nat×List Nat)(ops:Array Oper):Sk→Option Zh
 | .done=>some .done
 | .take i later t=>(ya P rs ops i).bind fun g=>(t.build P rs ops).map fun t'=> .take later g t'
 | .one i t=>(ya P rs ops i).bind fun g=>(t.build P rs ops).map fun t'=> .one i g t'
 | .two i t j u=>(ya P rs ops i).bind fun g=>(t.build P rs ops).bind fun t'=>(ya P rs ops j).bind fun h=>(u.build P rs ops).map fun u'=> .two i g t' j h u'
 | .three i t j u k v=>(ya P rs ops i).bind fun g=>(t.build P rs ops).bind fun t'=>(ya P rs ops j).bind fun h=>(u.build P rs ops).bind fun u'=>(ya P rs ops k).bind fun m=>(v.build P rs ops).map fun v'=> .three i g t' j h u' k m v'
 | .many l t=>(l.mapM fun i=>(ya P rs ops i).map fun g=>(i,g)).bind fun l'=>(t.build P rs ops).map fun t'=> .many l' t'
def ve (listed:Array Bool)(l:List Nat):Array Bool:=l.foldl (fun a i=>a.setIfInBounds i true) listed
def zb1 (ops:Array Oper)(listed:Array Bool)(i:Nat)(later:List Nat):Bool:=
 !later.contains i&&
 later.all (fun k=> !listed.getD k false&&match ops[k]? with|some o=>o.after.any (fun e=>Region.binds .any e&&(e.on==i||later.contains e.on))|none=>true)&&
 match ops[i]? with
 |none=>false
 |some oi=>(List.range ops.size).all fun j=>j==i||listed.getD j true||later.contains j||match ops[j]? with
  |some oj=>oi.apart ops oj
  |none=>true
def Sk.ok (ops:Array Oper):Nat→Array Bool→Sk→Bool
 |_,listed,.done=>(Region.ready .any ops listed).isEmpty
 |fuel+1,listed,.take i later t=>(Region.ready .any ops listed).contains i&&zb1 ops listed i later&&t.ok ops fuel (listed.setIfInBounds i true)
 |fuel+1,listed,.one i t=>(Region.ready .any ops listed)==[i]&&t.ok ops fuel (listed.setIfInBounds i true)
 |fuel+1,listed,.two i t j u=>(Region.ready .any ops listed)==[i,j]&&t.ok ops fuel (listed.setIfInBounds i true)&&u.ok ops fuel (listed.setIfInBounds j true)
 |fuel+1,listed,.three i t j u k v=>(Region.ready .any ops listed)==[i,j,k]&&t.ok ops fuel (listed.setIfInBounds i true)&&u.ok ops fuel (listed.setIfInBounds j true)&&v.ok ops fuel (listed.setIfInBounds k true)
 |fuel,listed,.many l t=>decide (l.length≤fuel)&&((Region.ready .any ops listed)==l&&(l.all (fun i=>(Region.ready .any ops (ve listed (l.erase i)))==[i])&&t.ok ops (fuel - l.length) (ve listed l)))
 |0,_,_=>false
def qK (ds:List Nat):zQ→Bool
 | .t j=> !ds.contains j
 |_=>true
def xO (l:List (Nat×zm)):List Nat:=l.filterMap fun p=>p.2.2.dst
def Km (N:Nat)(V:List Nat)(ds:List Nat):List (Nat×zm)→List Nat→Bool
 |[],_=>true
 |(_,g)::l,ks=>(match g with|(none,.mk _ x y _ _ _)=>qK ds x&&qK ds y|_=>false)&&(Kk N V g ks&&Km N V ds l (g.2.keys ks))
def wQ :List (Nat×zm)→List Nat→List Nat
 |[],ks=>ks
 |(_,g)::l,ks=>wQ l (g.2.keys ks)
def Zh.okT (N:Nat)(V:List Nat):Zh→List Nat→Bool
 | .done,_=>true
 | .take _ g t,ks=>Kk N V g ks&&t.okT N V (g.2.keys ks)
 | .one _ g t,ks=>Kk N V g ks&&t.okT N V (g.2.keys ks)
 | .two _ g t _ h u,ks=>Kk N V g ks&&t.okT N V (g.2.keys ks)&&Kk N V h ks&&u.okT N V (h.2.keys ks)
 | .three _ g t _ h u _ m v,ks=>Kk N V g ks&&t.okT N V (g.2.keys ks)&&Kk N V h ks&&u.okT N V (h.2.keys ks)&&Kk N V m ks&&v.okT N V (m.2.keys ks)
 | .many l t,ks=>Km N V (xO l) l ks&&t.okT N V (wQ l ks)
abbrev Jf :=List Nat×List (List Nat)
def ZY (i:Nat)(wl:List Jf):List Jf:=wl.filter fun x=> !x.1.contains i
def JG (wl:List Jf):List (List Nat):=wl.flatMap (·.2)
def zlt (P:Program)(X:List Jf→zb→Prop):List (Nat×zm)→List Jf→zb→Prop
 |[],wl,st=>X wl st
 |(i,g)::l,wl,st=>ZP P [] (zlt P X l (ZY i wl)) st g
def jK (P:Program)(K:zb→Prop):Zh→List Jf→zb→Prop
 | .done,_,st=>K st
 | .take later g t,wl,st=>match g.2 with
   | .r o=>ZP P [] (jK P K t ((later,QP st o)::wl)) st g
   |_=>False
 | .one i g t,wl,st=>ZP P (JG (ZY i wl)) (jK P K t (ZY i wl)) st g
 | .two i g t j h u,wl,st=>ZP P (JG (ZY i wl)) (jK P K t (ZY i wl)) st g∧ZP P (JG (ZY j wl)) (jK P K u (ZY j wl)) st h
 | .three i g t j h u k m v,wl,st=>ZP P (JG (ZY i wl)) (jK P K t (ZY i wl)) st g∧ZP P (JG (ZY j wl)) (jK P K u (ZY j wl)) st h∧ZP P (JG (ZY k wl)) (jK P K v (ZY k wl)) st m
 | .many l t,wl,st=>zlt P (jK P K t) l wl st
def xT (E:Env)(ws:List Zu):Prop:=
 ∀x∈ws,∀c∈x.2.2,(E.O c.1.block=none∧c.1.block<E.w.heap.size)∨∃r∈x.2.1,(r.head?=some 0∨r.head?=some 1)∧E.O c.1.block=some r∧c.1.block<E.w.heap.size
def xR (ws:List Zu):List Jf:=ws.map fun x=>(x.1,x.2.1)
section
variable {L:List (List Nat)} {E:Env} {N:Nat} {V:List Nat} {st:zb} {a:Act} {P:Program} {o:Oper} {d:Nat} {tm:Array Value} {rs:List Nat×List Nat} {ops:Array Oper} {Q:Exit→Act→World→Prop}
theorem XY (i:Nat)(ws:List Zu):ZY i (xR ws)=xR (Zu.keep i ws):=by
 unfold ZY xR Zu.keep
 rw[List.filter_map]
 rfl
theorem xT.kept {ws:List Zu}{E':Env}(W:xT E ws)(P':Zc (JG (xR ws)) E E'):xT E' ws∧∀x∈ws,∀c∈x.2.2,E'.w.heap[c.1.block]?=E.w.heap[c.1.block]?:=by
 have key:∀x∈ws,∀c∈x.2.2,((E'.O c.1.block=none∧c.1.block<E'.w.heap.size)∨∃r∈x.2.1,(r.head?=some 0∨r.head?=some 1)∧E'.O c.1.block=some r∧c.1.block<E'.w.heap.size)∧E'.w.heap[c.1.block]?=E.w.heap[c.1.block]?:=by
  intro x hx c hc
  rcases W x hx c hc with⟨h1,h2⟩|⟨r,h1,h2,h3,h4⟩
  · obtain⟨h3,h4⟩:=P'.old _ h1 h2
    exact⟨.inl ⟨h3,Nat.lt_of_lt_of_le h2 P'.size⟩,h4⟩
  · have hw:Wat (JG (xR ws)) r:=⟨List.mem_flatMap.2 ⟨(x.1,x.2.1),List.mem_map.2 ⟨x,hx,rfl⟩,h1⟩,h2⟩
    obtain⟨h5,h6⟩:=P'.keep _ r hw h3 h4
    have h7:=Nat.lt_of_lt_of_le h4 P'.size
    rcases h5 with h5|h5
    · exact⟨.inr ⟨r,h1,h2,h5,h7⟩,h6⟩
    · exact⟨.inl ⟨h5,h7⟩,h6⟩
 exact⟨fun x hx c hc=>(key x hx c hc).1,fun x hx c hc=>(key x hx c hc).2⟩
theorem xT.sub {ws ws':List Zu}(W:xT E ws)(h:∀x∈ws',x∈ws):xT E ws':=fun x hx=>W x (h x hx)
theorem zj8 {i:Nat}{g:zm}{K:zb→Prop}{X:Act→World→Prop}(R:zK E N V st a.tmps)(hi:ops[i]?=some o)(hs:QM P rs ops o=some g)(hok:Kk N V g (st.ts.map (·.1))=true)(h:ZP P L K st g)
    (hK:∀E' st' a',zK E' N V st' a'.tmps→a'.defers=a.defers→Zc L E E'→st'.ts.map (·.1)=g.2.keys (st.ts.map (·.1))→K st'→X a' E'.w):wpOp P ops Q i X a E.w:=by
  obtain⟨gd,b⟩:=g
  simp only[Kk,Bool.and_eq_true] at hok
  obtain⟨hok1,hok2⟩:=hok
  have go:b.quiet L st=true∧Jo P L K st b→j8 P rs o=some b→o.wp P a E.w X Q:=fun⟨hq,hstep⟩ hstrip=>
    Xk R hstrip (qq hok1 rfl) (UY hstep) hq fun E' st' a' R' hd P' hk=>hK E' st' a' R' hd P' hk.1 hk.2
  unfold Go.wpOp
  rw[hi]
  unfold QM at hs
  split at hs
  · rename_i hg
    obtain⟨b',hb,e⟩:=zW hs
    cases e
    simp only[yf hg,if_true]
    exact .inl (go h hb)
  · rename_i j want hg
    split at hs
    · rename_i t ht
      obtain⟨b',hb,e⟩:=zD hs
      split at e
      case isFalse=>cases e
      rename_i hdd
      cases e
      simp only[ZP] at h
      split at h
      · rename_i v hv
        simp only[ye (ops:=ops) R hg ht hv]
        cases hvw:(v==want) with
        |true=>exact .inl (go (h.1 (by simpa using hvw)) hb)
        | false =>
          simp only[Bool.false_eq_true,if_false]
          have h3:=h.2 (by cases v<;>cases want<;>simp at hvw⊢)
          split at h3
          · rename_i d hd
            have F:=qq (st:=st) hok1 rfl
            have hbd:o.dst=some d∧zX N V st d∧b.keys (st.ts.map (·.1))=d::st.ts.map (·.1):=by
              refine⟨hdd.symm.trans hd,?_,?_⟩
              · cases b with
                |asg=>simp at hok2
                |st=>simp at hok2
                |_=>exact F d hd
              · cases b with
                |asg=>simp at hok2
                |st=>simp at hok2
                |r o=>simp only[ZS.keys];rw[hd]
                |mput=>cases hd
                |_=>cases hd;rfl
            obtain⟨hd1,F1,hkeys⟩:=hbd
            rw[hd1]
            exact hK E _ (a.put (some d) undef) (ju R F1 undef) rfl (Zc.refl E) hkeys.symm h3
          · exact h3.elim
      · rename_i vs hv
        obtain⟨rfl,h3⟩:=h
        simp only[QE (ops:=ops) R hg ht hv]
        simp only[Bool.false_eq_true,if_false]
        split at h3
        · rename_i d hd
          have F:=qq (st:=st) hok1 rfl
          have hbd:o.dst=some d∧zX N V st d∧b.keys (st.ts.map (·.1))=d::st.ts.map (·.1):=by
            refine⟨hdd.symm.trans hd,?_,?_⟩
            · cases b with
              |asg=>simp at hok2
              |st=>simp at hok2
              |_=>exact F d hd
            · cases b with
              |asg=>simp at hok2
              |st=>simp at hok2
              |r o=>simp only[ZS.keys];rw[hd]
              |mput=>cases hd
              |_=>cases hd;rfl
          obtain⟨hd1,F1,hkeys⟩:=hbd
          rw[hd1]
          exact hK E _ (a.put (some d) undef) (ju R F1 undef) rfl (Zc.refl E) hkeys.symm h3
        · exact h3.elim
      · exact h.elim
    · cases hs
theorem zm1 {g:zm}{ao:AOp}{K:zb→Prop}(R:zK E N V st a.tmps)(hs:QM P rs ops o=some g)(hao:g.2= .r ao)(hok:Kk N V g (st.ts.map (·.1))=true)(h:ZP P [] K st g):
    ∃ v rd st',jP P ops o rd v a∧(∀c∈rd,E.w.cell? c.1=some c.2∧((E.O c.1.block=none∧c.1.block<E.w.heap.size)∨∃r∈QP st ao,(r.head?=some 0∨r.head?=some 1)∧E.O c.1.block=some r∧c.1.block<E.w.heap.size))∧
      zK E N V st' (a.put o.dst v).tmps∧K st'∧st'.ts.map (·.1)=g.2.keys (st.ts.map (·.1)):=by
  obtain⟨gd,b⟩:=g
  simp only at hao
  subst hao
  simp only[Kk,Bool.and_eq_true] at hok
  obtain⟨hok1,_⟩:=hok
  have F:=qq (st:=st) hok1 rfl
  have go:Jo P [] K st (.r ao)→j8 P rs o=some (.r ao)→Region.wanted o (yielded ops a.tmps)=true→∃v rd st',jP P ops o rd v a∧(∀c∈rd,E.w.cell? c.1=some c.2∧((E.O c.1.block=none∧c.1.block<E.w.heap.size)∨∃r∈QP st ao,(r.head?=some 0∨r.head?=some 1)∧E.O c.1.block=some r∧c.1.block<E.w.heap.size))∧
      zK E N V st' (a.put o.dst v).tmps∧K st'∧st'.ts.map (·.1)=(ZS.r ao).keys (st.ts.map (·.1)):=by
    intro hstep hstrip hw
    obtain⟨A,d,hd1,h2,⟨v,rd,hrd,hy,R'⟩,h3⟩:∃A d,o.dst=some d∧ao.dst=some d∧JB (QP st ao) E N V st a P o d A∧K (st.putT d A):=by
      rcases zfQ hstep with h|h
      · obtain⟨A,d,h1,h2,h3⟩:=zi9 h
        obtain⟨d',hd1,hd2,hro⟩:=zco R hstrip h1 F
        rw[h2] at hd2
        cases hd2
        exact⟨A,d,hd1,h2,hro,h3⟩
      · obtain⟨A,d,h1,h2,h3,h4,_⟩:=XH (Ls:=QP st ao) R hstrip F h
        exact⟨A,d,h1,h2,h3,h4⟩
    exact⟨v,rd,st.putT d A,.inl ⟨hw,hy⟩,hrd,by rw[hd1];exact R',h3,by simp[ZS.keys,ZS.dst,h2,zb.putT]⟩
  unfold QM at hs
  split at hs
  · rename_i hg
    obtain⟨b',hb,e⟩:=zW hs
    cases e
    exact go h.2 hb (yf hg)
  · rename_i j want hg
    split at hs
    · rename_i t ht
      obtain⟨b',hb,e⟩:=zD hs
      split at e
      case isFalse=>cases e
      rename_i hdd
      cases e
      simp only[ZP] at h
      split at h
      · rename_i v hv
        have hwt:=ye (ops:=ops) R hg ht hv
        cases hvw:(v==want) with
        |true=>exact go (h.1 (by simpa using hvw)).2 hb (hwt.trans hvw)
        | false=>
          have h3:=h.2 (by cases v<;>cases want<;>simp at hvw⊢)
          split at h3
          · rename_i d hd
            have F1:=F d hd
            refine⟨undef,[],st.putT d (.sc (.tuple #[])),.inr ⟨hwt.trans hvw,rfl⟩,(fun c hc=>by cases hc),?_,h3,?_⟩
            · rw[hdd.symm.trans hd]
              exact ju R F1 undef
            · simp only[ZS.keys];rw[hd];rfl
          · exact h3.elim
      · rename_i vs hv
        obtain⟨rfl,h3⟩:=h
        split at h3
        · rename_i d hd
          have F1:=F d hd
          refine⟨undef,[],st.putT d (.sc (.tuple #[])),.inr ⟨QE (ops:=ops) R hg ht hv,rfl⟩,(fun c hc=>by cases hc),?_,h3,?_⟩
          · rw[hdd.symm.trans hd]
            exact ju R F1 undef
          · simp only[ZS.keys];rw[hd];rfl
        · exact h3.elim
      · exact h.elim
    · cases hs
theorem Kb {md:Region.Mode}{listed:Array Bool}{i:Nat}(h:(Region.ready md ops listed==[i])=true):Region.ready md ops listed=[i]:=by simpa using h
def mkV (st:zb)(l c:zQ)(sz bs:Nat)(zs:List Value):Option zc:=
 match st.dec l,st.dec c with
 |some n,some m=>if 0≤n∧n≤m∧bs*m.toNat≤140737488355328∧m≤9223372036854775807 then some (.own (some sz) (zF zs n.toNat)) else none
 |_,_=>none
def J6 (st:zb):zm→Option (Nat×zc)
 |(none,.mk d l c sz bs zs)=>(mkV st l c sz bs zs).map fun A=>(d,A)
 |_=>none
theorem wO {d:Nat}{l c:zQ}{sz bs:Nat}{zs:List Value}:J6 st (none,.mk d l c sz bs zs)=(mkV st l c sz bs zs).map fun A=>(d,A):=rfl
def ul (ds:List Nat):zm→Bool
 |(none,.mk _ x y _ _ _)=>qK ds x&&qK ds y
 |_=>false
theorem yK {ds:List Nat}{g:zm}(h:ul ds g=true):∃d l c sz bs zs,g=(none,.mk d l c sz bs zs)∧qK ds l=true∧qK ds c=true:=by
 obtain⟨gd,b⟩:=g
 cases gd with
 |some _=>cases h
 | none=>
   cases b with
   |mk d l c sz bs zs=>simp only[ul,Bool.and_eq_true] at h;exact⟨d,l,c,sz,bs,zs,rfl,h.1,h.2⟩
   |_=>cases h
theorem zi4 (d:Nat)(l c:zQ)(sz bs:Nat)(zs:List Value):aMk st d l c sz bs zs=(mkV st l c sz bs zs).map (st.putT d):=by
 unfold aMk mkV
 cases st.dec l with
 |none=>rfl
 | some n=>
   cases st.dec c with
   |none=>rfl
   | some m=>
     simp only[]
     split<;>rfl
theorem Vd {g:zm}{d:Nat}{A:zc}(h:J6 st g=some (d,A)):g.2.dst=some d:=by
 obtain⟨gd,b⟩:=g
 cases gd with
 |some _=>cases h
 | none=>
   cases b with
   | mk d' l c sz bs zs=>
     rw[wO] at h
     obtain⟨A',_,e⟩:=Option.map_eq_some_iff.1 h
     cases e;rfl
   |_=>cases h
theorem gR {Ls:List (List Nat)}{K:zb→Prop}{d:Nat}{l c:zQ}{sz bs:Nat}{zs:List Value}:ZP P Ls K st (none,.mk d l c sz bs zs)↔∃A,J6 st (none,.mk d l c sz bs zs)=some (d,A)∧K (st.putT d A):=by
 show(true=true∧jt (aMk st d l c sz bs zs) K)↔_
 rw[zi4,wO]
 cases h:mkV st l c sz bs zs with
 |none=>simp[jt]
 |some A=>simp[jt]
theorem gY {ds:List Nat}{x:zQ}(h:qK ds x=true){X:List (Nat×zc)}(hX:∀p∈X,p.1∈ds):zb.dec {st with ts:=X++st.ts} x=st.dec x:=by
 unfold zb.dec
 cases x with
 | t j=>
   simp only[qK,Bool.not_eq_true',List.contains_eq_mem,decide_eq_false_iff_not] at h
   have:Zn (X++st.ts) j=Zn st.ts j:=by
    induction X with
    |nil=>rfl
    | cons p X ih=>
      obtain⟨i,A⟩:=p
      rw[List.cons_append]
      show(if j=i then some A else Zn (X++st.ts) j)=_
      rw[if_neg (fun e=>h (by have:=hX (i,A) (by simp);rw[e];exact this)),ih fun p hp=>hX p (by simp[hp])]
   show(zc.int? (jX (Zn (X++st.ts) j) (Zn st.vs j)))=_
   rw[this];rfl
 |c v=>rfl
 |f g=>rfl
theorem XO {ds:List Nat}{g:zm}(h:ul ds g=true){X:List (Nat×zc)}(hX:∀p∈X,p.1∈ds):J6 {st with ts:=X++st.ts} g=J6 st g:=by
 obtain⟨d,l,c,sz,bs,zs,rfl,h1,h2⟩:=yK h
 rw[wO,wO]
 unfold mkV
 rw[gY h1 hX,gY h2 hX]
theorem zeN {X Y:List (Nat×zc)}(h:X.Perm Y):(X.map (·.1)).Nodup→∀j,Zn X j=Zn Y j:=by
 induction h with
 |nil=>intro _ _;rfl
 | cons x _ ih=>
   intro hn j
   obtain⟨i,A⟩:=x
   rw[List.map_cons,List.nodup_cons] at hn
   show(if j=i then some A else _)=(if j=i then some A else _)
   rw[ih hn.2 j]
 | swap x y l=>
   intro hn j
   obtain⟨i,A⟩:=x
   obtain⟨k,B⟩:=y
   simp only[List.map_cons,List.nodup_cons,List.mem_cons,not_or] at hn
   show(if j=k then some B else if j=i then some A else Zn l j)=(if j=i then some A else if j=k then some B else Zn l j)
   by_cases e1:j=k
   · by_cases e2:j=i
     · exact absurd (e1.symm.trans e2) hn.1.1
     · rw[if_pos e1,if_neg e2,if_pos e1]
   · rw[if_neg e1,if_neg e1]
 | trans h1 _ ih1 ih2=>
   intro hn j
   rw[ih1 hn j,ih2 ((h1.map _).nodup_iff.1 hn) j]
theorem gF (X T:List (Nat×zc))(j:Nat):Zn (X++T) j=(match Zn X j with|some A=>some A|none=>Zn T j):=by
 induction X with
 |nil=>rfl
 | cons p X ih=>
   obtain⟨i,A⟩:=p
   rw[List.cons_append]
   show(if j=i then some A else Zn (X++T) j)=(match(if j=i then some A else Zn X j) with|some A=>some A|none=>Zn T j)
   split
   · rfl
   · exact ih
theorem zK.perm {E:Env}{tm:Array Value}{X X' T:List (Nat×zc)}(h:X.Perm X')(hn:(X.map (·.1)).Nodup)(R:zK E N V {st with ts:=X++T} tm):zK E N V {st with ts:=X'++T} tm:=by
 have hg:∀i,zb.get {st with ts:=X'++T} i=zb.get {st with ts:=X++T} i:=fun i=>by
  show jX (Zn (X'++T) i) (Zn st.vs i)=jX (Zn (X++T) i) (Zn st.vs i)
  rw[gF,gF,zeN h hn]
 have hat:∀p,zb.at {st with ts:=X'++T} p=zb.at {st with ts:=X++T} p:=fun p=>by
  match p with
  |[]=>rfl
  |[0]=>rfl
  |[1]=>rfl
  |[1,_]=>rfl
  |0::i::ks=>show(zb.get {st with ts:=X'++T} i).sub ks=_;rw[hg];rfl
  |1::id::k::ks=>rfl
  |(_+2)::_=>rfl
 have hm:∀r,r∈(X++T).map (·.1)↔r∈(X'++T).map (·.1):=fun r=>((h.append_right T).map _).mem_iff
 refine⟨R.size,R.keys,R.num,fun d hd hk=>R.disj d hd ((hm d).2 hk),R.lim,fun i A r hA hr=>?_,fun i=>?_,R.objs⟩
 · rcases R.roots i A r ((hg i).symm.trans hA) hr with h1|h1
   · exact .inl h1
   · exact .inr ((hm r).1 h1)
 · have hs:=R.slots i
   rw[hg i]
   generalize zb.get {st with ts:=X++T} i=A at hs
   cases A with
   | at_ p=>
     obtain⟨B,v,k1,k2⟩:=hs
     exact⟨B,v,(hat p).trans k1,k2⟩
   | addr p k=>
     obtain⟨hd,cs,v,b,o,k1,k2⟩:=hs
     exact⟨hd,cs,v,b,o,(hat p).trans k1,k2⟩
   |_=>exact hs
theorem zgA (listed:Array Bool)(i j:Nat):(listed.setIfInBounds i true).setIfInBounds j true=(listed.setIfInBounds j true).setIfInBounds i true:=by
 by_cases h:i=j
 · subst h;rfl
 · exact Array.setIfInBounds_comm _ _ h
theorem gC {S T:List Nat}(h:S.Perm T):∀listed:Array Bool,ve listed S=ve listed T:=by
 induction h with
 |nil=>intro _;rfl
 |cons x _ ih=>intro l;exact ih _
 |swap x y S=>intro l;show ve ((l.setIfInBounds y true).setIfInBounds x true) S=ve ((l.setIfInBounds x true).setIfInBounds y true) S;rw[zgA]
 |trans _ _ ih1 ih2=>intro l;exact(ih1 l).trans (ih2 l)
theorem XR (listed:Array Bool)(S:List Nat)(i:Nat):ve listed (i::S)=(ve listed S).setIfInBounds i true:=by
 rw[gC (List.perm_append_singleton i S).symm]
 simp[ve,List.foldl_append]
theorem XS (listed:Array Bool)(S:List Nat):(ve listed S).size=listed.size:=by
 induction S with
 |nil=>rfl
 |cons i S ih=>rw[XR];simpa using ih
theorem Kn (listed:Array Bool)(S:List Nat)(j:Nat)(b:Bool)(hj:j<listed.size):(ve listed S).getD j b=(decide (j∈S)||listed.getD j b):=by
 induction S with
 |nil=>simp[ve]
 | cons i S ih=>
   have hs:=XS listed S
   rw[XR]
   simp only[Array.getD_eq_getD_getElem?] at ih⊢
   by_cases e:i=j
   · subst e;simp[Array.getElem?_setIfInBounds,hs,hj]
   · rw[Array.getElem?_setIfInBounds_ne e,ih];simp[Ne.symm e]
def JV (S:List Nat)(ws:List Zu):List Zu:=ws.filter fun x=>S.all fun i=> !x.1.contains i
theorem Y9 (i:Nat)(S:List Nat)(ws:List Zu):Zu.keep i (JV S ws)=JV (i::S) ws:=by
 unfold Zu.keep JV
 rw[List.filter_filter]
 rfl
theorem zcE {S T:List Nat}(h:S.Perm T)(ws:List Zu):JV S ws=JV T ws:=by
 unfold JV
 refine List.filter_congr fun x _=>?_
 rw[Bool.eq_iff_iff,List.all_eq_true,List.all_eq_true]
 exact⟨fun k i hi=>k i (h.mem_iff.2 hi),fun k i hi=>k i (h.mem_iff.1 hi)⟩
theorem XM {X:List Jf→zb→Prop}{ds:List Nat}:∀(l:List (Nat×zm)) (S:List Nat) (ws:List Zu) (Y:List (Nat×zc)),(∀p∈l,ul ds p.2=true∧∀d,p.2.2.dst=some d→d∈ds)→(∀p∈Y,p.1∈ds)→zlt P X l (xR (JV S ws)) {st with ts:=Y++st.ts}→
    ∃kvs:List (Nat×zc),l.map (fun p=>J6 st p.2)=kvs.map some∧X (xR (JV ((l.map (·.1)).reverse++S) ws)) {st with ts:=(kvs.reverse++Y)++st.ts}
  |[],S,ws,Y,_,_,h=>⟨[],rfl,h⟩
  | (i,g)::l,S,ws,Y,hl,hY,h=>by
    obtain⟨hf,hd⟩:=hl (i,g) (by simp)
    obtain⟨d,x,c,sz,bs,zs,rfl,h1,h2⟩:=yK hf
    obtain⟨A,hA,hk⟩:=gR.1 h
    rw[XO hf hY] at hA
    rw[XY,Y9] at hk
    obtain⟨kvs,e,hX⟩:=XM l (i::S) ws ((d,A)::Y) (fun p hp=>hl p (by simp[hp])) (fun p hp=>by
      rcases List.mem_cons.1 hp with rfl|hp
      · exact hd d rfl
      · exact hY p hp) hk
    refine⟨(d,A)::kvs,by rw[List.map_cons,List.map_cons,e,hA],?_⟩
    simpa using hX
theorem ready_mono {A B:Array Bool}{i:Nat}(h:i∈Region.ready .any ops A)(hs:∀j,A.getD j false=true→B.getD j false=true)(hB:B.getD i true=false):i∈Region.ready .any ops B:=by
 unfold Region.ready at h⊢
 rw[List.mem_filter] at h⊢
 obtain⟨h1,h2⟩:=h
 refine⟨h1,?_⟩
 rw[Bool.and_eq_true] at h2⊢
 refine⟨by rw[hB];rfl,?_⟩
 have h3:=h2.2
 cases ho:ops[i]? with
 |none=>rw[ho] at h3;cases h3
 | some o=>
   rw[ho] at h3
   simp only[Option.map_some,Option.getD_some] at h3⊢
   rw[Array.all_eq_true'] at h3⊢
   intro e he
   have:=h3 e he
   rw[Bool.or_eq_true] at this⊢
   exact this.imp id (hs e.on)
theorem wP {ds:List Nat}:∀(l:List (Nat×zm)) (ks:List Nat),Km N V ds l ks=true→(∀p∈l,ul ds p.2=true∧∃d,p.2.2.dst=some d∧d<N∧d∉V∧d∉ks)∧(xO l).Nodup∧wQ l ks=(xO l).reverse++ks
 |[],ks,_=>⟨by simp,List.nodup_nil,rfl⟩
 | (i, g)::l,ks,h=>by
   simp only[Km,Bool.and_eq_true] at h
   obtain⟨h1,h2,h3⟩:=h
   have hf:ul ds g=true:=by
    obtain⟨gd,b⟩:=g
    cases gd with
    |some _=>cases h1
    |none=>cases b<;>first|exact h1|cases h1
   obtain⟨d,x,c,sz,bs,zs,rfl,k1,k2⟩:=yK hf
   have hd:d<N∧d∉V∧d∉ks:=by
    simp only[Kk,Bool.and_eq_true] at h2
    have:=h2.1
    simp only[ZS.ok,ZS.dst,Bool.and_eq_true,decide_eq_true_eq,Bool.not_eq_true',List.contains_eq_mem,decide_eq_false_iff_not] at this
    exact⟨this.1.1,this.1.2,this.2⟩
   obtain⟨j1,j2,j3⟩:=wP l (d::ks) h3
   refine⟨fun p hp=>?_,?_,?_⟩
   · rcases List.mem_cons.1 hp with rfl|hp
     · exact⟨hf,d,rfl,hd⟩
     · obtain⟨a1,d',a2,a3,a4,a5⟩:=j1 p hp
       exact⟨a1,d',a2,a3,a4,fun h=>a5 (List.mem_cons_of_mem _ h)⟩
   · show(d::xO l).Nodup
     rw[List.nodup_cons]
     refine⟨fun hm=>?_,j2⟩
     obtain⟨p,hp,hpd⟩:=List.mem_filterMap.1 hm
     obtain⟨_,d',a2,_,_,a5⟩:=j1 p hp
     rw[a2] at hpd
     cases hpd
     exact a5 (by simp)
   · show wQ l (d::ks)=(d::xO l).reverse++ks
     rw[j3];simp
theorem zgg {g:zm}{ds ks ks':List Nat}(hf:ul ds g=true){d:Nat}(hd:g.2.dst=some d)(h1:d<N)(h2:d∉V)(h3:d∉ks'):Kk N V g ks'=true:=by
 obtain⟨d',x,c,sz,bs,zs,rfl,k1,k2⟩:=yK hf
 cases hd
 simp[Kk,ZS.ok,ZS.dst,h1,h2,h3]
theorem gD {listed:Array Bool}{S T:List Nat}(h:∀i∈S,i∈T)(j:Nat)(hj:(ve listed S).getD j false=true):(ve listed T).getD j false=true:=by
 by_cases hs:j<listed.size
 · rw[Kn _ _ _ _ hs] at hj⊢
   rw[Bool.or_eq_true,decide_eq_true_iff] at hj⊢
   exact hj.imp (h j) id
 · rw[Array.getD_eq_getD_getElem?,Array.getElem?_eq_none (by rw[XS];omega)] at hj
   cases hj
theorem gj {A:Array Bool}{i:Nat}(h:i∈Region.ready .any ops A):A.getD i true=false∧i<A.size:=by
 have:=(List.mem_filter.1 h).2
 rw[Bool.and_eq_true] at this
 have h1:A.getD i true=false:=by simpa using this.1
 refine⟨h1,?_⟩
 refine Classical.byContradiction fun hn=>?_
 rw[Array.getD_eq_getD_getElem?,Array.getElem?_eq_none (by omega)] at h1
 cases h1
theorem zfu {listed:Array Bool}{S:List Nat}{i:Nat}(h:listed.getD i true=false)(hi:i<listed.size)(hS:i∉S):(ve listed S).getD i true=false:=by
 rw[Kn _ _ _ _ hi,h,decide_eq_false hS];rfl
theorem zfz (hQ:∀c a w,¬Q (.panic c) a w)(hsel:Region.noSelect ops=true):∀(sk:Sk) (t:Zh) (fuel:Nat) (listed:Array Bool) (ws:List Zu) {E:Env} {st:zb} {a:Act} {K:zb→Prop},sk.build P rs ops=some t→sk.ok ops fuel listed=true→t.okT N V (st.ts.map (·.1))=true→
    zK E N V st a.tmps→xT E ws→([],L,[])∈ws→jK P K t (xR ws) st→zc7 L E N V a K (Q .normal)→JZ P .any ops Q fuel ws listed a E.w:=by
  have eff:∀{i:Nat} {g:zm} {fuel:Nat} {listed:Array Bool} {ws:List Zu} {E:Env} {st:zb} {a:Act} {K:zb→Prop} {t:Zh},ya P rs ops i=some g→Kk N V g (st.ts.map (·.1))=true→zK E N V st a.tmps→xT E ws→([],L,[])∈ws→
      ZP P (JG (ZY i (xR ws))) (jK P K t (ZY i (xR ws))) st g→
      (∀E' st' a',zK E' N V st' a'.tmps→a'.defers=a.defers→Zc L E E'→xT E' (Zu.keep i ws)→([],L,[])∈Zu.keep i ws→st'.ts.map (·.1)=g.2.keys (st.ts.map (·.1))→jK P K t (xR (Zu.keep i ws)) st'→JZ P .any ops Q fuel (Zu.keep i ws) (listed.setIfInBounds i true) a' E'.w)→
      wpOp P ops Q i (fun a' w'=>(∀x∈Zu.keep i ws,∀c∈x.2.2,E.w.cell? c.1=some c.2→w'.cell? c.1=some c.2)∧JZ P .any ops Q fuel (Zu.keep i ws) (listed.setIfInBounds i true) a' w') a E.w:=by
    intro i g fuel listed ws E st a K t hg hok R W hL h ih
    obtain⟨o,ho,hs⟩:=Option.bind_eq_some_iff.1 hg
    rw[XY] at h
    have hL':([],L,[])∈Zu.keep i ws:=List.mem_filter.2 ⟨hL,by simp⟩
    have W1:xT E (Zu.keep i ws):=W.sub fun x hx=>(List.mem_filter.1 hx).1
    refine zj8 R ho hs hok h fun E' st' a' R' hd P' hks hk=>?_
    obtain⟨W2,hc⟩:=W1.kept P'
    refine⟨fun x hx c hc' hcell=>?_,ih E' st' a' R' hd ⟨P'.size,P'.os,P'.tape,P'.output,P'.old,P'.far,P'.farB,P'.ids,fun b r h=>P'.keep b r ⟨List.mem_flatMap.2 ⟨([],L),List.mem_map.2 ⟨_,hL',rfl⟩,h.1⟩,h.2⟩⟩ W2 hL' hks hk⟩
    have:=hc x hx c hc'
    simp only[World.cell?] at hcell⊢
    rw[this]
    exact hcell
  intro sk
  induction sk with
  | done=>
    intro t fuel listed ws E st a K hb hok hokT R W hL h hK
    cases hb
    have hr:Region.ready .any ops listed=[]:=by
      cases fuel<;>simpa[Sk.ok] using hok
    cases fuel with
    |zero=>exact⟨hr,hK E st a R rfl (Zc.refl E) h⟩
    |succ fuel=>exact⟨fun _=>hK E st a R rfl (Zc.refl E) h,by rw[hr];simp⟩
  | take i later t ih=>
    intro t0 fuel listed ws E st a K hb hok hokT R W hL h hK
    cases fuel with
    |zero=>cases hok
    | succ fuel=>
      simp only[Sk.ok,Bool.and_eq_true] at hok
      obtain⟨⟨hr,htk⟩,hok3⟩:=hok
      simp only[Sk.build] at hb
      obtain⟨g,hg,hb⟩:=zD hb
      obtain⟨t',ht',rfl⟩:=zW hb
      obtain⟨oi,hoi,hs⟩:=Option.bind_eq_some_iff.1 hg
      simp only[Zh.okT,Bool.and_eq_true] at hokT
      obtain⟨hokG,hokT⟩:=hokT
      simp only[jK] at h
      split at h
      · rename_i ao hao
        obtain⟨v,rd,st',hy,hrd,R',hk,hks⟩:=zm1 R hs hao hokG h
        unfold zb1 at htk
        rw[hoi] at htk
        simp only[Bool.and_eq_true,Bool.not_eq_true',List.contains_eq_mem,decide_eq_false_iff_not,List.all_eq_true] at htk
        obtain⟨⟨hself,hlat⟩,hfree⟩:=htk
        have H:=ih t' fuel (listed.setIfInBounds i true) ((later,QP st ao,rd)::ws) (a:=a.put oi.dst v) ht' hok3 (by rw[hks];exact hokT) R' (fun x hx c hc=>by
          cases hx with
          |head=>exact(hrd c hc).2
          |tail _ hx=>exact W x hx c hc) (.tail _ hL) hk (fun E2 st2 a2 R2 hd2 P2 hk2=>hK E2 st2 a2 R2 (hd2.trans (by cases oi.dst<;>rfl)) P2 hk2)
        have H2:=kS (Ls:=QP st ao) hoi hsel hQ (fun k hk' o ho=>by
          have:=(hlat k hk').2
          rw[ho] at this
          simp only[] at this
          obtain⟨e,he,hb⟩:=Array.any_eq_true'.1 this
          simp only[Bool.and_eq_true,Bool.or_eq_true,beq_iff_eq,List.contains_eq_mem,decide_eq_true_eq] at hb
          exact⟨e,he,hb.1,hb.2⟩) hself fuel ((later,QP st ao,rd)::ws) listed a E.w (fun j oj hj hji hun hjl=>by
          have:=hfree j (List.mem_range.2 (Array.getElem?_eq_some_iff.1 hj).1)
          rw[hj] at this
          simp only[Bool.or_eq_true,beq_iff_eq,hji,false_or,hun,Bool.false_eq_true,List.contains_eq_mem,decide_eq_true_eq,hjl] at this
          exact this) (fun k hk'=>(hlat k hk').1) (by simpa using hr) hy (fun c hc=>(hrd c hc).1) (.head _) H
        exact qW _ _ _ _ _ _ (fun x hx=> .tail _ hx) H2
      · exact h.elim
  | one i t ih=>
    intro t0 fuel listed ws E st a K hb hok hokT R W hL h hK
    cases fuel with
    |zero=>cases hok
    | succ fuel=>
      simp only[Sk.ok,Bool.and_eq_true] at hok
      obtain⟨hr,hok3⟩:=hok
      have hr:=Kb hr
      simp only[Sk.build] at hb
      obtain⟨g,hg,hb⟩:=zD hb
      obtain⟨t',ht',rfl⟩:=zW hb
      simp only[Zh.okT,Bool.and_eq_true] at hokT
      simp only[jK] at h
      refine⟨fun h0=>(by rw[hr] at h0;cases h0),fun j hj=>?_⟩
      rw[hr] at hj
      cases List.mem_singleton.1 hj
      exact eff hg hokT.1 R W hL h fun E' st' a' R' hd P' W' hL' hks hk=>ih t' fuel _ _ ht' hok3 (by rw[hks];exact hokT.2) R' W' hL' hk fun E2 st2 a2 R2 hd2 P2 hk2=>hK E2 st2 a2 R2 (hd2.trans hd) (P'.trans P2) hk2
  | two i t j u ih1 ih2=>
    intro t0 fuel listed ws E st a K hb hok hokT R W hL h hK
    cases fuel with
    |zero=>cases hok
    | succ fuel=>
      simp only[Sk.ok,Bool.and_eq_true] at hok
      obtain⟨⟨hr,hok3⟩,hok4⟩:=hok
      have hr:Region.ready .any ops listed=[i,j]:=by simpa using hr
      simp only[Sk.build] at hb
      obtain⟨g,hg,hb⟩:=zD hb
      obtain⟨t',ht',hb⟩:=zD hb
      obtain⟨g2,hg2,hb⟩:=zD hb
      obtain⟨u',hu',rfl⟩:=zW hb
      simp only[Zh.okT,Bool.and_eq_true] at hokT
      obtain⟨⟨⟨o1,o2⟩,o3⟩,o4⟩:=hokT
      simp only[jK] at h
      refine⟨fun h0=>(by rw[hr] at h0;cases h0),fun k hk=>?_⟩
      rw[hr] at hk
      rcases List.mem_cons.1 hk with rfl|hk
      · exact eff hg o1 R W hL h.1 fun E' st' a' R' hd P' W' hL' hks hk=>ih1 t' fuel _ _ ht' hok3 (by rw[hks];exact o2) R' W' hL' hk fun E2 st2 a2 R2 hd2 P2 hk2=>hK E2 st2 a2 R2 (hd2.trans hd) (P'.trans P2) hk2
      · cases List.mem_singleton.1 hk
        exact eff hg2 o3 R W hL h.2 fun E' st' a' R' hd P' W' hL' hks hk=>ih2 u' fuel _ _ hu' hok4 (by rw[hks];exact o4) R' W' hL' hk fun E2 st2 a2 R2 hd2 P2 hk2=>hK E2 st2 a2 R2 (hd2.trans hd) (P'.trans P2) hk2
  | three i t j u q v ih1 ih2 ih3=>
    intro t0 fuel listed ws E st a K hb hok hokT R W hL h hK
    cases fuel with
    |zero=>cases hok
    | succ fuel=>
      simp only[Sk.ok,Bool.and_eq_true] at hok
      obtain⟨⟨⟨hr,hok3⟩,hok4⟩,hok5⟩:=hok
      have hr:Region.ready .any ops listed=[i,j,q]:=by simpa using hr
      simp only[Sk.build] at hb
      obtain⟨g,hg,hb⟩:=zD hb
      obtain⟨t',ht',hb⟩:=zD hb
      obtain⟨g2,hg2,hb⟩:=zD hb
      obtain⟨u',hu',hb⟩:=zD hb
      obtain⟨g3,hg3,hb⟩:=zD hb
      obtain⟨v',hv',rfl⟩:=zW hb
      simp only[Zh.okT,Bool.and_eq_true] at hokT
      obtain⟨⟨⟨⟨⟨o1,o2⟩,o3⟩,o4⟩,o5⟩,o6⟩:=hokT
      simp only[jK] at h
      refine⟨fun h0=>(by rw[hr] at h0;cases h0),fun k hk=>?_⟩
      rw[hr] at hk
      rcases List.mem_cons.1 hk with rfl|hk
      · exact eff hg o1 R W hL h.1 fun E' st' a' R' hd P' W' hL' hks hk=>ih1 t' fuel _ _ ht' hok3 (by rw[hks];exact o2) R' W' hL' hk fun E2 st2 a2 R2 hd2 P2 hk2=>hK E2 st2 a2 R2 (hd2.trans hd) (P'.trans P2) hk2
      · rcases List.mem_cons.1 hk with rfl|hk
        · exact eff hg2 o3 R W hL h.2.1 fun E' st' a' R' hd P' W' hL' hks hk=>ih2 u' fuel _ _ hu' hok4 (by rw[hks];exact o4) R' W' hL' hk fun E2 st2 a2 R2 hd2 P2 hk2=>hK E2 st2 a2 R2 (hd2.trans hd) (P'.trans P2) hk2
        · cases List.mem_singleton.1 hk
          exact eff hg3 o5 R W hL h.2.2 fun E' st' a' R' hd P' W' hL' hks hk=>ih3 v' fuel _ _ hv' hok5 (by rw[hks];exact o6) R' W' hL' hk fun E2 st2 a2 R2 hd2 P2 hk2=>hK E2 st2 a2 R2 (hd2.trans hd) (P'.trans P2) hk2
  | many l t ih=>
    intro t0 fuel listed ws E st a K hb hok hokT R W hL h hK
    simp only[Sk.ok,Bool.and_eq_true,decide_eq_true_eq,beq_iff_eq,List.all_eq_true] at hok
    obtain⟨hfuel,hrd,hchk,hok3⟩:=hok
    simp only[Sk.build] at hb
    obtain⟨l',hl',hb⟩:=zD hb
    obtain⟨t',ht',rfl⟩:=zW hb
    simp only[Zh.okT,Bool.and_eq_true] at hokT
    obtain⟨hmany,hokT⟩:=hokT
    obtain⟨hfr,hnd,hkeys⟩:=wP l' _ hmany
    have hpair:∀(l:List Nat) (l':List (Nat×zm)),(l.mapM fun i=>(ya P rs ops i).map fun g=>(i,g))=some l'→l'.map (·.1)=l∧∀p∈l',ya P rs ops p.1=some p.2:=by
      intro l
      induction l with
      |nil=>intro l' h;simp at h;subst h;exact⟨rfl,by simp⟩
      | cons i l ih=>
        intro l' h
        rw[List.mapM_cons] at h
        obtain⟨p,hp,h⟩:=Option.bind_eq_some_iff.1 h
        obtain⟨r,hr,h⟩:=Option.bind_eq_some_iff.1 h
        obtain⟨g,hg,rfl⟩:=Option.map_eq_some_iff.1 hp
        cases h
        obtain⟨e1,e2⟩:=ih r hr
        refine⟨by rw[List.map_cons,e1],fun p hp=>?_⟩
        rcases List.mem_cons.1 hp with rfl|hp
        · exact hg
        · exact e2 p hp
    obtain⟨hidx,hgop⟩:=hpair l l' hl'
    have hlen:l'.length=l.length:=by rw[←hidx,List.length_map]
    have hlnd:l.Nodup:=by rw[←hrd];exact List.nodup_range.filter _
    have hk0:JV [] ws=ws:=by unfold JV;simp
    simp only[jK] at h
    obtain⟨kvs,hkv,hX⟩:=XM (st:=st) l' [] ws [] (fun p hp=>⟨(hfr p hp).1,fun d hd=>List.mem_filterMap.2 ⟨p,hp,hd⟩⟩) (by simp) (by rw[hk0];exact h)
    have hkd:kvs.map (·.1)=xO l':=by
      have:∀(l:List (Nat×zm)) (kvs:List (Nat×zc)),l.map (fun p=>J6 st p.2)=kvs.map some→kvs.map (·.1)=xO l:=by
        intro l
        induction l with
        |nil=>intro kvs h;cases kvs with|nil=>rfl|cons _ _=>cases h
        | cons p l ih=>
          intro kvs h
          cases kvs with
          |nil=>cases h
          | cons q kvs=>
            rw[List.map_cons,List.map_cons,List.cons.injEq] at h
            have hd:=Vd h.1
            show q.1::kvs.map (·.1)=xO (p::l)
            rw[ih kvs h.2]
            unfold xO
            rw[List.filterMap_cons,hd]
      exact this l' kvs hkv
    have main :∀(n:Nat) (Rm:List (Nat×zm)) (S:List Nat) (X:List (Nat×zc)) (E1:Env) (a1:Act),Rm.length=n→(Rm.map (·.1)++S).Perm l→(∀p∈Rm,p∈l')→(Rm.map (fun p=>J6 st p.2)++X.map some).Perm (kvs.map some)→zK E1 N V {st with ts:=X++st.ts} a1.tmps→xT E1 (JV S ws)→a1.defers=a.defers→Zc L E E1→JZ P .any ops Q (n+(fuel - l.length)) (JV S ws) (ve listed S) a1 E1.w:=by
      intro n
      induction n with
      | zero=>
        intro Rm S X E1 a1 hRm hS _ hXp R1 W1 hd1 P1
        cases List.length_eq_zero_iff.1 hRm
        have hS:S.Perm l:=hS
        have hXk:X.Perm kvs:=by
          have h1:(X.map some).Perm (kvs.map some):=hXp
          have h2:=h1.filterMap id
          simpa[List.filterMap_map] using h2
        have hXn:(X.map (·.1)).Nodup:=by rw[(hXk.map _).nodup_iff,hkd];exact hnd
        have R2:=zK.perm (hXk.trans (List.reverse_perm kvs).symm) hXn R1
        have hk1:JV ((l'.map (·.1)).reverse++[]) ws=JV S ws:=zcE (by rw[List.append_nil,hidx];exact(List.reverse_perm l).trans hS.symm) ws
        rw[hk1,List.append_nil] at hX
        rw[Nat.zero_add,gC hS]
        refine ih t' _ _ _ ht' hok3 ?_ R2 W1 (List.mem_filter.2 ⟨hL,by simp⟩) hX fun E2 st2 a2 R2 hd2 P2 hk2=>hK E2 st2 a2 R2 (hd2.trans hd1) (P1.trans P2) hk2
        show t'.okT N V ((kvs.reverse++st.ts).map (·.1))=true
        rw[List.map_append,List.map_reverse,hkd,←hkeys];exact hokT
      | succ n ihn=>
        intro Rm S X E1 a1 hRm hS hsub hXp R1 W1 hd1 P1
        have hnd1:(Rm.map (·.1)++S).Nodup:=hS.nodup_iff.2 hlnd
        have hin:∀i∈Region.ready .any ops (ve listed S),i∈Rm.map (·.1):=by
          intro i hi
          obtain⟨u1,u2⟩:=gj hi
          rw[XS] at u2
          rw[Kn _ _ _ _ u2,Bool.or_eq_false_iff,decide_eq_false_iff_not] at u1
          by_cases hil:i∈l
          · rcases List.mem_append.1 (hS.mem_iff.2 hil) with h|h
            · exact h
            · exact absurd h u1.1
          · cases Rm with
            |nil=>cases hRm
            | cons r Rm=>
              have hr:r.1∈l:=hS.mem_iff.1 (by simp)
              have hrS:r.1∉S:=fun h=>(List.nodup_append.1 hnd1).2.2 r.1 (by simp) r.1 h rfl
              have:=ready_mono (B:=ve listed (l.erase r.1)) hi (gD fun j hj=>(List.mem_erase_of_ne (fun(e:j=r.1)=>hrS (by rw[←e];exact hj))).2 (hS.mem_iff.1 (List.mem_append.2 (.inr hj)))) (zfu u1.2 u2 fun h=>hil (List.mem_of_mem_erase h))
              rw[hchk r.1 hr] at this
              rw[List.mem_singleton.1 this] at hil
              exact absurd hr hil
        have hne:Region.ready .any ops (ve listed S)≠ []:=by
          cases Rm with
          |nil=>cases hRm
          | cons r Rm=>
            have hr:r.1∈l:=hS.mem_iff.1 (by simp)
            have hrS:r.1∉S:=fun h=>(List.nodup_append.1 hnd1).2.2 r.1 (by simp) r.1 h rfl
            rw[←hrd] at hr
            obtain⟨u1,u2⟩:=gj hr
            have:=ready_mono (B:=ve listed S) hr (fun j hj=>by
              have:(ve listed []).getD j false=true:=hj
              exact gD (by simp) j this) (zfu u1 u2 hrS)
            intro e
            rw[e] at this;cases this
        rw[show n+1+(fuel - l.length)=(n+(fuel - l.length))+1 by omega]
        refine⟨fun h0=>absurd h0 hne,fun i hi=>?_⟩
        obtain⟨⟨i',g⟩,hp,rfl⟩:=List.mem_map.1 (hin i hi)
        obtain⟨R1',R2',rfl⟩:=List.append_of_mem hp
        obtain⟨hf,d,hdd,d1,d2,d3⟩:=hfr _ (hsub _ hp)
        obtain⟨o,ho,hs⟩:=Option.bind_eq_some_iff.1 (hgop _ (hsub _ hp))
        have hds:d∈xO l':=List.mem_filterMap.2 ⟨_,hsub _ hp,hdd⟩
        obtain⟨kv,hkv1,hkv2⟩:∃kv,J6 st g=some kv∧kv∈kvs:=by
          have:J6 st g∈kvs.map some:=hXp.mem_iff.1 (List.mem_append.2 (.inl (List.mem_map.2 ⟨_,hp,rfl⟩)))
          obtain⟨kv,h1,h2⟩:=List.mem_map.1 this
          exact⟨kv,h2.symm,h1⟩
        obtain⟨d',A⟩:=kv
        have hd':=Vd hkv1
        rw[hdd] at hd'
        cases hd'
        have hXsub:∀q∈X,q∈kvs:=fun q hq=>by
          have:some q∈kvs.map some:=hXp.mem_iff.1 (List.mem_append.2 (.inr (List.mem_map.2 ⟨q,hq,rfl⟩)))
          obtain⟨q',h1,h2⟩:=List.mem_map.1 this
          cases h2;exact h1
        have hXds:∀q∈X,q.1∈xO l':=fun q hq=>by rw[←hkd];exact List.mem_map.2 ⟨q,hXsub q hq,rfl⟩
        have hvals:(some (d,A)::(R1'.map (fun p=>J6 st p.2)++R2'.map (fun p=>J6 st p.2))++X.map some).Perm (kvs.map some):=by
          refine List.Perm.trans ?_ hXp
          rw[List.map_append,List.map_cons,hkv1]
          exact(List.perm_middle.symm).append_right _
        have hkn:((d,A)::X).map (·.1)|>.Nodup:=by
          have h1:((some (d,A)::X.map some)).Sublist (some (d,A)::(R1'.map (fun p=>J6 st p.2)++R2'.map (fun p=>J6 st p.2))++X.map some):=by
            rw[List.cons_append]
            exact List.Sublist.cons_cons _ (List.sublist_append_right _ _)
          have h2:((some (d,A)::(R1'.map (fun p=>J6 st p.2)++R2'.map (fun p=>J6 st p.2))++X.map some).map fun o=>o.map (·.1)).Nodup:=by
            rw[(hvals.map _).nodup_iff]
            have:(kvs.map some).map (fun o:Option (Nat×zc)=>o.map (·.1))=(xO l').map some:=by rw[←hkd];simp
            rw[this]
            exact List.pairwise_map.2 (hnd.imp fun h e=>h (Option.some.inj e))
          have h3:=(h1.map fun o:Option (Nat×zc)=>o.map (·.1)).nodup h2
          have h4:((some (d,A)::X.map some).map fun o:Option (Nat×zc)=>o.map (·.1))=(((d,A)::X).map (·.1)).map some:=by simp
          rw[h4] at h3
          exact(List.pairwise_map.1 h3).imp fun h e=>h (congrArg some e)
        have hdX:d∉(X++st.ts).map (·.1):=by
          rw[List.map_append,List.mem_append,not_or]
          rw[List.map_cons,List.nodup_cons] at hkn
          exact⟨hkn.1,d3⟩
        obtain⟨d'',x,c,sz,bs,zs,rfl,k1,k2⟩:=yK hf
        cases hdd
        have hL1:([],L,[])∈JV (i'::S) ws:=List.mem_filter.2 ⟨hL,by simp⟩
        have W2:xT E1 (JV (i'::S) ws):=W1.sub fun x hx=>by
          rw[←Y9] at hx
          exact(List.mem_filter.1 hx).1
        rw[Y9,←XR]
        refine zj8 (st:={st with ts:=X++st.ts}) (L:=JG (xR (JV (i'::S) ws))) (K:=fun s=>s=zb.putT {st with ts:=X++st.ts} d A) R1 ho hs (zgg (ks:=[]) hf rfl d1 d2 hdX) (gR.2 ⟨A,by rw[XO hf hXds];exact hkv1,rfl⟩) fun E' st' a' R' hd P' hks hk=>?_
        subst hk
        obtain⟨W3,hc⟩:=W2.kept P'
        refine⟨fun x hx c hc' hcell=>?_,ihn (R1'++R2') (i'::S) ((d,A)::X) E' a' ?_ ?_ (fun p hp=>hsub p ?_) ?_ R' W3 (hd.trans hd1) (P1.trans ⟨P'.size,P'.os,P'.tape,P'.output,P'.old,P'.far,P'.farB,P'.ids,fun b r h=>P'.keep b r ⟨List.mem_flatMap.2 ⟨([],L),List.mem_map.2 ⟨_,hL1,rfl⟩,h.1⟩,h.2⟩⟩)⟩
        · have:=hc x hx c hc'
          simp only[World.cell?] at hcell⊢
          rw[this]
          exact hcell
        · simp at hRm⊢;omega
        · refine List.Perm.trans ?_ hS
          rw[List.map_append,List.map_append,List.map_cons,List.append_assoc,List.append_assoc,List.cons_append]
          exact List.Perm.append_left _ List.perm_middle
        · rcases List.mem_append.1 hp with hp|hp
          · exact List.mem_append.2 (.inl hp)
          · exact List.mem_append.2 (.inr (List.mem_cons_of_mem _ hp))
        · refine List.Perm.trans ?_ hvals
          rw[List.map_append,List.map_cons]
          exact List.perm_middle
    have:=main l'.length l' [] [] E a rfl (by rw[List.append_nil,hidx]) (fun p hp=>hp) (by rw[hkv];simp) R (by rw[hk0];exact W) rfl (Zc.refl E)
    rw[hk0,hlen,show l.length+(fuel - l.length)=fuel by omega] at this
    exact this
end
end Go.Ga

namespace Go.Ga
open Go
def zc.cut (V:List Nat)(A:zc):zc:=
 match A.root with
 |some r=>bif V.contains r then A else .dead
 |none=>A
def zb.settle (st:zb)(V:List Nat):zb:={vs:=V.map fun i=>(i,(st.get i).cut V),ts:=[],h:=st.h}
inductive jF where
 |normal
 |exit (id:Nat)
 |ret
inductive zC where
 |skip
 |reg (V1:List Nat) (gs:List zm) (V2:List Nat)
 |draw (V1:List Nat) (t:Zh) (V2:List Nat)
 |seq (a b:zC)
 |cond (c:zQ) (a b:zC)
 |blk (id:Nat) (a:zC)
 |loop (a:zC)
 |exit (id:Nat)
 |ret
def zm9 (ops:Array Oper):List Nat:=ops.toList.filterMap fun o=>match o.op with| .assign _=>none|_=>o.dst
def zdK (V:List Nat)(ops:Array Oper):List Nat:=
 V.filter fun d=>(List.range ops.size).any fun j=>match ops[j]? with
  | some o=>(match o.op with| .move _=>o.dst==some d|_=>false)&&(List.range j).any fun i=>match ops[i]? with
    |some p=>p.op.operands.toList.any fun x=>match x with| .tmp t=>t==d|_=>false
    |none=>false
  |none=>false
def gG (ops:Array Oper)(i:Nat):List Nat:=
 ((List.range ops.size).foldl (fun(l:List Nat) k=>if k≠i∧(((ops[k]?).map fun o=>o.after.any fun e=>Region.binds .any e&&(e.on==i||l.contains e.on)).getD false)=true then k::l else l) []).reverse
def zlC (P:Program)(rs:List Nat×List Nat)(ops:Array Oper)(i:Nat):Bool:=
 match ya P rs ops i with
 |some (_,.r _)=>true
 |_=>false
def wN (P:Program)(rs:List Nat×List Nat)(ops:Array Oper):Nat→Array Bool→Sk
 |0,_=> .done
 | fuel+1,listed=>
   let rd:=Region.ready .any ops listed
   match rd.find? (fun i=>zlC P rs ops i&&zb1 ops listed i (gG ops i)) with
   |some i=> .take i (gG ops i) (wN P rs ops fuel (listed.setIfInBounds i true))
   | none=>match rd with
     |[i]=> .one i (wN P rs ops fuel (listed.setIfInBounds i true))
     |[i,j]=> .two i (wN P rs ops fuel (listed.setIfInBounds i true)) j (wN P rs ops fuel (listed.setIfInBounds j true))
     |[i,j,k]=> .three i (wN P rs ops fuel (listed.setIfInBounds i true)) j (wN P rs ops fuel (listed.setIfInBounds j true)) k (wN P rs ops fuel (listed.setIfInBounds k true))
     |[]=> .done
     |l=> .many l (wN P rs ops fuel (ve listed l))
def Z1 (P:Program)(rs:List Nat)(N:Nat)(V:List Nat):Code→Option zC
 | .skip=>some .skip
 | .region _ ops false=>
   let cr:=zdK V ops
   let V1:=V.filter fun i=> !(zm9 ops).contains i||cr.contains i
   (ops.toList.mapM (QM P (rs,cr) ops)).bind fun gs=>if Kj N V1 gs []=true then some (.reg V1 gs V) else none
 | .region _ ops true=>
   let cr:=zdK V ops
   let V1:=V.filter fun i=> !(zm9 ops).contains i||cr.contains i
   let sk:=wN P (rs,cr) ops ops.size (Array.replicate ops.size false)
   if sk.ok ops ops.size (Array.replicate ops.size false)=true∧Region.noSelect ops=true then(sk.build P (rs,cr) ops).bind fun t=>if t.okT N V1 []=true then some (.draw V1 t V) else none else none
 | .seq a b=>(Z1 P rs N V a).bind fun a'=>(Z1 P rs N V b).map fun b'=> .seq a' b'
 | .cond c a b=>(zv c).bind fun c'=>(Z1 P rs N V a).bind fun a'=>(Z1 P rs N V b).map fun b'=> .cond c' a' b'
 | .block id a=>(Z1 P rs N V a).map fun a'=> .blk id a'
 | .loop a=>(Z1 P rs N V a).map fun a'=> .loop a'
 | .exit id=>some (.exit id)
 | .ret=>some .ret
 |_=>none
section
variable {L:List (List Nat)} {E:Env} {N:Nat} {V:List Nat} {st:zb} {a:Act} {P:Program} {o:Oper} {d:Nat} {tm:Array Value} {rs:List Nat} {ops:Array Oper} {Q:Exit→Act→World→Prop}
theorem XT (f:Nat→zc):∀(V:List Nat) (i:Nat),Zn (V.map fun i=>(i,f i)) i=if i∈V then some (f i) else none
 |[],i=>by simp[Zn]
 | j ::V,i=>by
   simp only[List.map_cons,Zn]
   by_cases h:i=j
   · subst h;simp
   · rw[if_neg h,XT f V i]
     simp[h]
theorem YU (V:List Nat)(i:Nat):(st.settle V).get i=if i∈V then(st.get i).cut V else .dead:=by
 show jX (Zn [] i) (Zn (V.map fun i=>(i,(st.get i).cut V)) i)=_
 rw[XT (fun i=>(st.get i).cut V)]
 split<;>rfl
theorem wV {A:zc}(h:A.isAlias=false):A.cut V=A:=by
 cases A<;>simp[zc.isAlias] at h<;>rfl
theorem Vx (V:List Nat)(A:zc):(A.cut V=A∧∀r,A.root=some r→r∈V)∨A.cut V= .dead:=by
 unfold zc.cut
 cases h:A.root with
 |none=>exact .inl ⟨rfl,fun r hr=>by cases hr⟩
 | some r=>
   cases hc:V.contains r with
   |true=>exact .inl ⟨by simp only[hc];rfl,fun r' hr=>by cases hr;simpa using hc⟩
   |false=>exact .inr (by simp only[hc];rfl)
theorem zK.settle (R:zK E N V st tm)(V':List Nat):zK E N V' (st.settle V') tm:=by
 refine⟨R.size,?_,R.num,fun _ _=>List.not_mem_nil,R.lim,fun i A r hA hr=>?_,fun i=>?_,R.objs⟩
 · show(V'.map fun i=>(i,(st.get i).cut V')).map (·.1)=V'
   rw[List.map_map]
   exact List.map_id'' (fun _=>rfl) V'
 · rw[YU] at hA
   split at hA
   · rcases Vx V' (st.get i) with⟨h1,h2⟩|h1
     · rw[h1] at hA;subst hA;exact .inl (h2 r hr)
     · rw[h1] at hA;subst hA;cases hr
   · subst hA;cases hr
 · rw[YU]
   split
   · rcases Vx V' (st.get i) with⟨h1,h2⟩|h1
     · rw[h1]
       refine jx.carry (R.slots i) rfl (fun v _ h=>h) fun p hp B hB hA=>⟨⟨B,?_,hA,fun hd cs e=>⟨hd,cs,e⟩⟩,rfl⟩
       match p,hB with
       | 0::r::ks,hB=>
         have hr:r∈V':=h2 r (wj hp rfl)
         rw[Ze] at hB⊢
         rw[YU,if_pos hr]
         cases ks with
         |nil=>simp only[zc.sub,Option.some.injEq] at hB⊢;rw[hB];exact wV hA
         |cons k ks=>rw[wV (zc.sub_cons_nonalias hB)];exact hB
       |1::id::k::ks,hB=>exact hB
     · rw[h1];trivial
   · trivial
def jF.to :jF→Exit
 | .normal=> .normal
 | .exit id=> .exit id
 | .ret=> .ret
def znl (L:List (List Nat))(E:Env)(N:Nat)(V:List Nat)(a:Act)(K:jF→zb→Prop)(Q:Exit→Act→World→Prop):Prop:=
 ∀e E' st' a',zK E' N V st' a'.tmps→a'.defers=a.defers→Zc L E E'→K e st'→Q e.to a' E'.w
theorem Vf {α β:Type}{f:α→Option β}:∀(xs:List α) {l:List β},xs.mapM f=some l→xs.map f=l.map some
 |[],l,h=>by simp at h;subst h;rfl
 | x ::xs,l,h=>by
   rw[List.mapM_cons] at h
   cases hx:f x with
   |none=>rw[hx] at h;cases h
   | some y=>
     rw[hx] at h
     cases hr:xs.mapM f with
     |none=>rw[hr] at h;cases h
     | some l'=>
       rw[hr] at h
       cases h
       simp[hx,Vf xs hr]
def JA (P:Program)(rs:List Nat)(N:Nat)(V:List Nat)(L:List (List Nat))(ac:zC)(K:jF→zb→Prop)(st:zb):Prop:=
 P.follows .mixedOrders=true→∀c,Z1 P rs N V c=some ac→∀(Q:Exit→Act→World→Prop) (E:Env) (a:Act),zK E N V st a.tmps→znl L E N V a K Q→(∀ch a w,¬Q (.panic ch) a w)→c.wp P Q a E.w
def znq (P:Program)(rs:List Nat)(N:Nat)(V:List Nat)(L:List (List Nat))(b:zC)(K:jF→zb→Prop)(e:jF)(s:zb):Prop:=
 match e with
 | .normal=>JA P rs N V L b K s
 | .exit id=>K (.exit id) s
 | .ret=>K .ret s
def znc (id:Nat)(K:jF→zb→Prop)(e:jF)(s:zb):Prop:=
 match e with
 | .normal=>K .normal s
 | .exit j=>if j=id then K .normal s else K (.exit j) s
 | .ret=>K .ret s
def zmZ (I:Nat→zb→Prop)(n:Nat)(K:jF→zb→Prop)(e:jF)(s:zb):Prop:=
 match e with
 | .normal=>∃m,m<n∧I m s
 | .exit id=>K (.exit id) s
 | .ret=>K .ret s
def zC.kind :zC→Nat
 | .skip=>0| .reg _ _ _=>1| .draw _ _ _=>2| .seq _ _=>3| .cond _ _ _=>4| .blk _ _=>5| .loop _=>6| .exit _=>7| .ret=>8
def zm0 :Code→Nat
 | .skip=>0| .region _ _ false=>1| .region _ _ true=>2| .seq _ _=>3| .cond _ _ _=>4| .block _ _=>5| .loop _=>6| .exit _=>7| .ret=>8|_=>9
theorem Zj {c:Code}{ac:zC}(hs:Z1 P rs N V c=some ac):zm0 c=ac.kind:=by
 cases c with
 | region id ops draw=>
   cases draw with
   | false=>
     simp only[Z1] at hs
     obtain⟨gs,hgs,hs⟩:=zD hs
     split at hs
     · cases hs;rfl
     · cases hs
   | true=>
     simp only[Z1] at hs
     split at hs
     · obtain⟨t,ht,hs⟩:=zD hs
       split at hs
       · cases hs;rfl
       · cases hs
     · cases hs
 |skip=>cases hs;rfl
 |seq=>simp only[Z1] at hs;obtain⟨_,_,hs⟩:=zD hs;obtain⟨_,_,rfl⟩:=zW hs;rfl
 |cond=>simp only[Z1] at hs;obtain⟨_,_,hs⟩:=zD hs;obtain⟨_,_,hs⟩:=zD hs;obtain⟨_,_,rfl⟩:=zW hs;rfl
 |block=>simp only[Z1] at hs;obtain⟨_,_,rfl⟩:=zW hs;rfl
 |loop=>simp only[Z1] at hs;obtain⟨_,_,rfl⟩:=zW hs;rfl
 |exit=>cases hs;rfl
 |ret=>cases hs;rfl
 |_=>cases hs
variable {x y:zC} {i:Nat} {t:Zh} {gs:List zm} {V1 V2:List Nat} {K:jF→zb→Prop}
theorem zfJ (h:K .normal st):JA P rs N V L .skip K st:=fun _ c hs Q E a R hK _=>by
 cases c with
 |skip=>exact wp_skip (hK .normal E st a R rfl (Zc.refl E) h)
 |region _ _ d=>have:=Zj hs;cases d<;>cases this
 |_=>have:=Zj hs;cases this
theorem zdh (h:Yy P L (fun s=>K .normal (s.settle V2)) gs (st.settle V1)):JA P rs N V L (.reg V1 gs V2) K st:=fun _ c hs Q E a R hK hQ=>by
 cases c with
 | region id ops d=>
   cases d with
   | false=>
     simp only[Z1] at hs
     obtain⟨gs,hgs,hs⟩:=zD hs
     split at hs
     · rename_i hok
       cases hs
       exact wp_region_list (U5 ops.toList gs (Vf _ hgs) (R.settle _) hok h fun E' st' a' R' hd P' hk=>hK .normal E' _ a' (R'.settle V) hd P' hk)
     · cases hs
   |true=>have:=Zj hs;cases this
 |_=>have:=Zj hs;cases this
theorem K9 (h:jK P (fun s=>K .normal (s.settle V2)) t [([],L)] (st.settle V1)):JA P rs N V L (.draw V1 t V2) K st:=fun hmix c hs Q E a R hK hQ=>by
 cases c with
 | region id ops d=>
   cases d with
   |false=>have:=Zj hs;cases this
   | true =>
     simp only[Z1] at hs
     split at hs
     · rename_i hok
       obtain⟨t,ht,hs⟩:=zD hs
       split at hs
       · rename_i hokT
         cases hs
         refine wp_region_any hmix ?_
         have R1:zK {E with w:={E.w with drawn:=E.w.drawn+1}} N V st a.tmps:=R.drew
         have:=zfz (L:=L) (ws:=[([],L,[])]) hQ hok.2 _ t _ _ ht hok.1 hokT (R1.settle _) (fun x hx=>by cases List.mem_singleton.1 hx;exact fun c hc=>by cases hc) (.head _) h
          (fun E' st' a' R' hd P' hk=>hK .normal E' _ a' (R'.settle V) hd (vU.trans P') hk)
         exact YA _ _ _ _ _ this
       · cases hs
     · cases hs
 |_=>have:=Zj hs;cases this
theorem kY (h:JA P rs N V L x (znq P rs N V L y K) st):JA P rs N V L (.seq x y) K st:=fun hmix c hs Q E a R hK hQ=>by
 cases c with
 | seq c1 c2=>
   simp only[Z1] at hs
   obtain⟨a',ha,hs⟩:=zD hs
   obtain⟨b',hb,hs⟩:=zW hs
   cases hs
   refine wp_seq (h hmix c1 ha _ E a R (fun e E' st' a1 R' hd P' hk=>?_) fun ch a w h=>hQ ch a w h)
   cases e with
   |normal=>exact hk hmix c2 hb _ E' a1 R' (fun e E2 st2 a2 R2 hd2 P2 hk2=>hK e E2 st2 a2 R2 (hd2.trans hd) (P'.trans P2) hk2) hQ
   |exit id=>exact hK (.exit id) E' st' a1 R' hd P' hk
   |ret=>exact hK .ret E' st' a1 R' hd P' hk
 |region _ _ d=>have:=Zj hs;cases d<;>cases this
 |_=>have:=Zj hs;cases this
theorem ga {c:zQ}{v:Bool}(hc:st.ev c= .sc (.bool v))(h1:v=true→JA P rs N V L x K st)(h2:v=false→JA P rs N V L y K st):JA P rs N V L (.cond c x y) K st:=fun hmix c' hs Q E a R hK hQ=>by
 cases c' with
 | cond o c1 c2=>
   simp only[Z1] at hs
   obtain⟨o',ho,hs⟩:=zD hs
   obtain⟨a',ha,hs⟩:=zD hs
   obtain⟨b',hb,hs⟩:=zW hs
   cases hs
   exact wp_cond_split (jj R ho hc) (fun e=>h1 e hmix c1 ha _ E a R hK hQ) fun e=>h2 e hmix c2 hb _ E a R hK hQ
 |region _ _ d=>have:=Zj hs;cases d<;>cases this
 |_=>have:=Zj hs;cases this
theorem zij (h:JA P rs N V L x (znc i K) st):JA P rs N V L (.blk i x) K st:=fun hmix c hs Q E a R hK hQ=>by
 cases c with
 | block id c1=>
   simp only[Z1] at hs
   obtain⟨a',ha,hs⟩:=zW hs
   cases hs
   refine wp_block (h hmix c1 ha _ E a R (fun e E' st' a1 R' hd P' hk=>?_) fun ch a w h=>hQ ch a w h)
   cases e with
   |normal=>exact hK .normal E' st' a1 R' hd P' hk
   | exit j=>
     simp only[znc] at hk
     simp only[jF.to,Exit.inBlock]
     by_cases hj:j=i
     · simp only[hj,if_true] at hk⊢;exact hK .normal E' st' a1 R' hd P' hk
     · simp only[hj,if_false] at hk⊢;exact hK (.exit j) E' st' a1 R' hd P' hk
   |ret=>exact hK .ret E' st' a1 R' hd P' hk
 |region _ _ d=>have:=Zj hs;cases d<;>cases this
 |_=>have:=Zj hs;cases this
theorem zfL (I:Nat→zb→Prop)(n:Nat)(h0:I n st)(h:∀n s,I n s→JA P rs N V L x (zmZ I n K) s):JA P rs N V L (.loop x) K st:=fun hmix c hs Q E a R hK hQ=>by
 cases c with
 | loop c1=>
   simp only[Z1] at hs
   obtain⟨a',ha,hs⟩:=zW hs
   cases hs
   refine wp_loop_ghost (fun n a1 w=>∃E1 s,E1.w=w∧zK E1 N V s a1.tmps∧a1.defers=a.defers∧Zc L E E1∧I n s) n ⟨E,st,rfl,R,rfl,Zc.refl E,h0⟩ ?_
   rintro n a1 _ ⟨E1,s,rfl,R1,hd1,P1,hI1⟩
   refine h n s hI1 hmix c1 ha _ E1 a1 R1 (fun e E' st' a2 R' hd P' hk=>?_) fun ch a w h=>hQ ch a w h
   cases e with
   | normal=>
     obtain⟨m,hm,hIm⟩:=hk
     exact⟨m,hm,E',st',rfl,R',hd.trans hd1,P1.trans P',hIm⟩
   |exit j=>exact hK (.exit j) E' st' a2 R' (hd.trans hd1) (P1.trans P') hk
   |ret=>exact hK .ret E' st' a2 R' (hd.trans hd1) (P1.trans P') hk
 |region _ _ d=>have:=Zj hs;cases d<;>cases this
 |_=>have:=Zj hs;cases this
theorem zfM (h:K (.exit i) st):JA P rs N V L (.exit i) K st:=fun _ c hs Q E a R hK _=>by
 cases c with
 |exit j=>cases hs;exact wp_exit (hK (.exit i) E st a R rfl (Zc.refl E) h)
 |region _ _ d=>have:=Zj hs;cases d<;>cases this
 |_=>have:=Zj hs;cases this
theorem zii (h:K .ret st):JA P rs N V L .ret K st:=fun _ c hs Q E a R hK _=>by
 cases c with
 |ret=>cases hs;exact wp_ret (hK .ret E st a R rfl (Zc.refl E) h)
 |region _ _ d=>have:=Zj hs;cases d<;>cases this
 |_=>have:=Zj hs;cases this
def znm (L:List (List Nat))(N:Nat)(V:List Nat)(st st':zb):Prop:=∀E tm,zK E N V st tm→∃E',zK E' N V st' tm∧Zc L E E'∧E'.w=E.w
theorem qf {st':zb}(hg:znm L N V st st')(h:JA P rs N V L x K st'):JA P rs N V L x K st:=fun hmix c hs Q E a R hK hQ=>by
 obtain⟨E',R',P',hw⟩:=hg E a.tmps R
 have:=h hmix c hs Q E' a R' (fun e E2 st2 a2 R2 hd2 P2 hk=>hK e E2 st2 a2 R2 hd2 (P'.trans P2) hk) hQ
 rwa [hw] at this
def zb.forget (st:zb):List Nat→zb
 |[]=>st
 |i::l=>(st.assign i .dead).forget l
theorem zK.forget :∀(l:List Nat) {st:zb},(l.all fun i=>V.contains i)=true→zK E N V st tm→zK E N V (st.forget l) tm
 |[],_,_,R=>R
 | i::l,st,h,R=>by
   simp only[List.all_cons,Bool.and_eq_true,List.contains_iff_mem] at h
   exact zK.forget l h.2 (R.assign_dead (.inl h.1))
theorem zcd (l:List Nat)(hl:(l.all fun i=>V.contains i)=true)(h:JA P rs N V L x K (st.forget l)):JA P rs N V L x K st:=
 qf (fun E _ R=>⟨E,R.forget l hl,Zc.refl E,rfl⟩) h
end
end Go.Ga

namespace Go.Ga
open Go
inductive wq where
 |tmp (t:Nat)
 |cell (t n:Nat) (ag:Bool)
def Qa (P:Program):ResultVar→Option wq
 | .tmp t=>some (.tmp t)
 | .cell t ty=>(P.underlying ty).bind fun dsc=>(P.info? ty).map fun inf=> .cell t inf.size (ZZ dsc)
def vt :List wq→zb→Option (List zc×zb)
 |[],st=>some ([],st)
 | .tmp t::rest,st=>match st.use (.t t) true with
   | some (A,st1)=>match vt rest st1 with
     |some (As,st2)=>some (A::As,st2)
     |none=>none
   |none=>none
 | .cell t n ag::rest,st=>match J5 st (.ld 0 (.t t) n ag) with
   | some A=>bif A.copyable then match vt rest st with
     |some (As,st2)=>some (A::As,st2)
     |none=>none
     else none
   |none=>none
def zcu :List zc→zc
 |[A]=>A
 |As=> .tup As
def Vw (V:List Nat)(args:List zc)(h:Heap):zb:={vs:=V.map fun i=>(i,(args[i]?).getD .dead),ts:=[],h:=h}
def qV (L:List (List Nat)):List wq→zb→Bool
 |[],_=>true
 | .tmp t::rest,st=>st.useQ L (.t t) true&&match st.use (.t t) true with
   |some (_,st1)=>qV L rest st1
   |none=>true
 | .cell _ _ _::rest,st=>qV L rest st
theorem Ys :∀(rss:List wq) (st:zb),qV [] rss st=true
 |[],_=>rfl
 | .tmp t::rest,st=>by
   simp only[qV,yj,Bool.true_and]
   split
   · exact Ys rest _
   · rfl
 | .cell _ _ _::rest,st=>Ys rest st
def Je (L:List (List Nat))(rss:List wq)(Q:zc→Heap→Prop)(e:jF)(s:zb):Prop:=
 match e with
 | .exit _=>False
 | _=>qV L rss s=true∧match vt rss s with
   |some (As,s')=>Q (zcu As) s'.h
   |none=>False
section
variable {L:List (List Nat)} {E:Env} {N:Nat} {V:List Nat} {st:zb} {a:Act} {P:Program} {o:Oper} {d:Nat} {tm:Array Value} {rs:List Nat} {ops:Array Oper}
theorem gm {r:Array Value}{p:List Nat}{v:Value}(h:zL E tm p=some v):zL E (tm++r) p=some v:=by
 match p,h with
 | 0 ::i::ks,h=>
   simp only[zL] at h⊢
   cases hi:tm[i]? with
   |none=>rw[hi] at h;cases h
   | some u=>
     rw[hi] at h
     rw[Array.getElem?_append_left (Array.getElem?_eq_some_iff.1 hi).1,hi]
     exact h
 |1::id::ks,h=>exact h
theorem jx.ext {r:Array Value}{i:Nat}{A:zc}(h:jx E st tm i A):jx E st (tm++r) i A:=by
 have hg:∀v,tm[i]?=some v→(tm++r)[i]?=some v:=fun v hv=>by rw[Array.getElem?_append_left (Array.getElem?_eq_some_iff.1 hv).1];exact hv
 cases A with
 |dead=>trivial
 |at_ p=>obtain⟨B,v,h1,h2,h3,h4⟩:=h;exact⟨B,v,h1,h2,gm h3,hg v h4⟩
 |addr p k=>obtain⟨hd,cs,v,b,o,h1,h2,h3,h4⟩:=h;exact⟨hd,cs,v,b,o,h1,gm h2,h3,hg _ h4⟩
 |_=>obtain⟨v,h1,h2⟩:=h;exact⟨v,hg v h1,h2⟩
theorem zK.ext (R:zK E N V st tm)(r:Array Value):zK E (N+r.size) V st (tm++r):=
 ⟨by simp[R.size],R.keys,R.num,R.disj,R.lim,R.roots,fun i=>(R.slots i).ext,R.objs⟩
theorem zk9 :∀l:List Nat,∃m,∀x∈l,x<m
 |[]=>⟨0,fun x hx=>by cases hx⟩
 | y::l=>by
   obtain⟨m,hm⟩:=zk9 l
   refine⟨y+m+1,fun x hx=>?_⟩
   cases hx with
   |head=>omega
   |tail _ hx=>have:=hm x hx;omega
theorem zly (R:zK E N V st a.tmps){x:Operand}{ox:zQ}(hx:zv x=some ox){n:Nat}{ag:Bool}{A:zc}(h:J5 st (.ld d ox n ag)=some A):∃b k,a.eval x= .pointer (some ⟨b,k,none⟩):=by
 simp only[J5] at h
 split at h
 · rename_i id k hb
   obtain⟨v,po,h1,h2,_⟩:=zN R hx (ZG hb rfl) rfl
   cases h2;exact⟨_,_,h1⟩
 · rename_i cs hb
   obtain⟨v,po,h1,h2,_⟩:=zN R hx (ZG hb rfl) rfl
   cases h2;exact⟨_,_,h1⟩
 · rename_i p k hb
   obtain⟨hd,cs,v,b,o',h1,h2,h3,h4,h5⟩:=qu R hx hb
   exact⟨_,_,h4⟩
 · cases h
def zet (tm:Array Value):ResultVar→Sem Value
 | .tmp t=>pure (tm.getD t undef)
 | .cell a t=>do loadVar t (←asAddr (tm.getD a undef))
theorem zfd (R:zK E N V st a.tmps){t:Nat}{ty:TypeId}{dsc:TypeDesc}{inf:TypeInfo}(hu:P.underlying ty=some dsc)(hi:P.info? ty=some inf){A:zc}(h:J5 st (.ld 0 (.t t) inf.size (ZZ dsc))=some A)(hc:A.copyable=true):
    ∃v,(zet a.tmps (.cell t ty)).run P E.w= .ok v E.w∧∀po,VRel E po A v:=by
  obtain⟨m,hm⟩:=zk9 (V++st.ts.map (·.1)++[N])
  have hN:N<m:=hm N (by simp)
  let r:Array Value:=Array.replicate (m+1 - N) undef
  let a':Act:={tmps:=a.tmps++r,defers:=[]}
  have R':zK E (N+r.size) V st a'.tmps:=R.ext r
  have hs:N+r.size=m+1:=by simp[r];omega
  rw[hs] at R'
  have F:zX (m+1) V st m:=⟨Nat.lt_succ_self m,fun hv=>Nat.lt_irrefl _ (hm m (by simp[hv])),fun ht=>Nat.lt_irrefl _ (hm m (by simp only[List.mem_append];exact .inl (.inr ht)))⟩
  let o : Oper := { dst := some m, op := .load ty (.tmp t), type := 0, pos := "", after := #[], guard := none }
  obtain⟨v,rd,hrd,hy,R2⟩:=zln (P:=P) (o:=o) (d:=m) R' F hu hi (x:= .tmp t) (ox:= .t t) rfl rfl h
  obtain⟨b,k,hp⟩:=zly R (x:= .tmp t) (ox:= .t t) rfl h
  have hp':a'.eval (.tmp t)= .pointer (some ⟨b,k,none⟩):=by
    simp only[Act.eval] at hp⊢
    have hlt:t<a.tmps.size:=by
      rcases Nat.lt_or_ge t a.tmps.size with h'|h'
      · exact h'
      · simp[Array.getElem?_eq_none h',undef] at hp
    have e:a'.tmps[t]?=a.tmps[t]?:=Array.getElem?_append_left hlt
    rw[Array.getD_eq_getD_getElem?] at hp⊢
    rw[e]
    exact hp
  have hrun:=hy E.w fun c hc=>(hrd c hc).1
  have hrun2:(loadVar ty ⟨b,k,none⟩).run P E.w= .ok v E.w:=by
    simp only[execOp,o,hp',Instr.loadAt,Instr.sureAddr,Sem.run_bind,Sem.run_pure,Result.andThen_ok] at hrun
    cases hl:(loadVar ty ⟨b,k,none⟩).run P E.w with
    |ok u w=>rw[hl] at hrun;simp at hrun;rw[hrun.1,hrun.2]
    |halt x w=>rw[hl] at hrun;simp at hrun
  refine⟨v,?_,fun po=>?_⟩
  · have e:a.tmps.getD t undef= .pointer (some ⟨b,k,none⟩):=by
      simpa[Act.eval] using hp
    simp only[zet,e,asAddr,Sem.run_bind,Sem.run_pure,Result.andThen_ok]
    exact hrun2
  · have hs:=R2.slots m
    rw[zb.get_putT,if_pos rfl] at hs
    obtain⟨u,h1,h2⟩:=hs.out (Jw hc)
    rw[Xn (by rw[R'.size];exact Nat.lt_succ_self m)] at h1
    cases h1
    exact h2.copy po hc
def zdl :List Value→Value
 |[v]=>v
 |vs=> .tuple vs.toArray
theorem gi {fn:Func}{tm:Array Value}{w:World}{vs:List Value}(h:(fn.results.toList.mapM (zet tm)).run P w= .ok vs w):
    (results fn tm).run P w= .ok (zdl vs) w:=by
  have e:results fn tm=(fn.results.mapM (zet tm))>>=fun vs=>pure (if h:vs.size=1 then vs[0] else .tuple vs):=rfl
  rw[e,Array.mapM_eq_mapM_toList]
  simp only[Sem.run_bind,Sem.run_map,h,Result.andThen_ok,Sem.run_pure]
  congr 1
  match vs with
  |[]=>rfl
  |[v]=>rfl
  |v::u::l=>simp[zdl]
theorem wo :∀(rvs:List ResultVar) (rss:List wq) {E:Env} {st st1:zb} {As:List zc} (j:Nat) {l:List (Nat×zc×Value)},rvs.map (Qa P)=rss.map some→zK E N V st a.tmps→vt rss st=some (As,st1)→qV L rss st=true→Fly E l→(∀y∈l,y.1<j)→
    ∃E1 vs,zK E1 N V st1 a.tmps∧Fly E1 l∧vs.length=As.length∧(∀(k:Nat) A v,As[k]?=some A→vs[k]?=some v→VRel E1 (some [9,j+k]) A v)∧Zc L E E1∧E1.w=E.w∧(rvs.mapM (zet a.tmps)).run P E.w= .ok vs E.w
  | [],[],E,st,st1,As,j,l,_,R,h,_,Fl,_=>by
    cases h
    exact⟨E,[],R,Fl,rfl,fun k A x hA=>by simp at hA,Zc.refl E,rfl,by simp⟩
  |[],y::os,E,st,st1,As,j,l,hm,R,h,_,Fl,_=>by simp at hm
  |x::xs,[],E,st,st1,As,j,l,hm,R,h,_,Fl,_=>by simp at hm
  | .tmp t::xs,y::os,E,st,st1,As,j,l,hm,R,h,hq,Fl,hj=>by
    simp only[List.map_cons,List.cons.injEq,Qa,Option.some.injEq] at hm
    obtain⟨rfl,hm⟩:=hm
    unfold vt at h
    simp only[qV,Bool.and_eq_true] at hq
    split at h
    · rename_i A st2 hu
      simp only[hu] at hq
      split at h
      · rename_i As' st3 hr
        cases h
        obtain⟨E1,R1,F1,P1,hw1⟩:=Ji (L:=L) R (x:= .tmp t) rfl hu j Fl (fun y hy=>Nat.ne_of_lt (hj y hy)) hq.1
        obtain⟨E2,vs,R2,F2,hlen,hv,P2,hw2,hrun⟩:=wo xs os (j+1) hm R1 hr hq.2 F1 (fun y hy=>by
          cases hy with
          |head=>exact Nat.lt_succ_self j
          |tail _ hy=>exact Nat.lt_succ_of_lt (hj y hy))
        refine⟨E2,a.eval (.tmp t)::vs,R2,fun y hy=>F2 y (.tail _ hy),by simp[hlen],fun k B x' hB hx'=>?_,P1.trans P2,hw2.trans hw1,?_⟩
        · cases k with
          | zero=>
            simp at hB hx'
            subst hB hx'
            exact F2 _ (.head _)
          | succ k=>
            simp at hB hx'
            have:=hv k B x' hB hx'
            rwa [show j+(k+1)=j+1+k by omega]
        · rw[hw1] at hrun
          simp only[List.mapM_cons,Sem.run_bind,zet,Sem.run_pure,Result.andThen_ok,hrun]
          rfl
      · cases h
    · cases h
  | .cell t ty::xs,y::os,E,st,st1,As,j,l,hm,R,h,hq,Fl,hj=>by
    simp only[List.map_cons,List.cons.injEq,Qa] at hm
    obtain⟨hy,hm⟩:=hm
    obtain⟨dsc,hu,hy⟩:=zD hy
    obtain⟨inf,hi,rfl⟩:=zW hy
    unfold vt at h
    split at h
    · rename_i A hA
      cases hc:A.copyable with
      |false=>rw[hc] at h;cases h
      | true=>
        rw[hc] at h
        simp only[cond_true] at h
        split at h
        · rename_i As' st2 hr
          cases h
          obtain⟨v,hrun1,hv1⟩:=zfd R hu hi hA hc
          obtain⟨E2,vs,R2,F2,hlen,hv,P2,hw2,hrun⟩:=wo xs os (j+1) (l:=(j,A,v)::l) hm R hr hq (fun y hy=>by
            cases hy with
            |head=>exact hv1 _
            |tail _ hy=>exact Fl y hy) (fun y hy=>by
            cases hy with
            |head=>exact Nat.lt_succ_self j
            |tail _ hy=>exact Nat.lt_succ_of_lt (hj y hy))
          refine⟨E2,v::vs,R2,fun y hy=>F2 y (.tail _ hy),by simp[hlen],fun k B x' hB hx'=>?_,P2,hw2,?_⟩
          · cases k with
            | zero=>
              simp at hB hx'
              subst hB hx'
              exact F2 _ (.head _)
            | succ k=>
              simp at hB hx'
              have:=hv k B x' hB hx'
              rwa [show j+(k+1)=j+1+k by omega]
          · simp only[List.mapM_cons,Sem.run_bind,hrun1,Result.andThen_ok,hrun,Sem.run_pure]
        · cases h
    · cases h
theorem zem {A:zc}(h:A.isAlias=false):A.root=none:=by
 cases A<;>first
  |rfl
  |cases h
theorem Kl :Yw [3]:=⟨by simp,by simp⟩
theorem zlv :Yw [0]:=⟨by simp,by simp⟩
theorem zlu :Yw [9]:=⟨by simp,by simp⟩
theorem vr (hmix : P.follows .mixedOrders = true) {f : Nat} {fn : Func} {c : Code} {ac : zC} {rss : List wq} {args : List zc} {h : Heap} {Q : zc → Heap → Prop} (hf : P.funcs[f]? = some fn) (hn : (fn.name != "runtime.NumGoroutine") = true) (hb : fn.body = some c)
    (hs:Z1 P rs fn.ntmps V c=some ac) (hr:fn.results.toList.map (Qa P)=rss.map some) (hl:args.length≤fn.ntmps) (H:JA P rs fn.ntmps V L ac (Je L rss Q) (Vw V args h)):zo P L f args h Q:=by
  refine⟨by unfold yN;rw[hf];simp[hb];simpa using hn,fun E vs HR hsz hvs=>?_⟩
  let E0:=E.relab [3] [0]
  have P0:Zc L E E0:=zR Kl zlv fun r hr=>ZR (by decide) [] r hr
  let tm0:Array Value:=vs++Array.replicate (fn.ntmps - vs.size) undef
  have hna:∀(k:Nat) A,args[k]?=some A→A≠ .dead→A.isAlias=false:=fun k A hA hd=>by
    have hlt:k<vs.size:=by rw[hsz];exact(List.getElem?_eq_some_iff.1 hA).1
    have:=hvs k A vs[k] hA (Array.getElem?_eq_getElem hlt)
    cases A<;>first
      |rfl
      |exact absurd rfl hd
      |cases this
  have hget:∀i,(Vw V args h).get i=if i∈V then(args[i]?).getD .dead else .dead:=fun i=>by
    show jX (Zn [] i) (Zn (V.map fun i=>(i,(args[i]?).getD .dead)) i)=_
    rw[XT (fun i=>(args[i]?).getD .dead)]
    split<;>rfl
  have R0 : zK E0 fn.ntmps V (Vw V args h) tm0:=by
    refine⟨?_,?_,HR.num,fun _ _=>List.not_mem_nil,jh HR.lim,fun i A r hA hr'=>?_,fun i=>?_,fun id cs hcs=>?_⟩
    · simp only[tm0,Array.size_append,Array.size_replicate,hsz];omega
    · show(V.map fun i=>(i,(args[i]?).getD .dead)).map (·.1)=V
      rw[List.map_map]
      exact List.map_id'' (fun _=>rfl) V
    · rw[hget] at hA
      split at hA
      · cases ha:args[i]? with
        |none=>rw[ha] at hA;subst hA;cases hr'
        | some B=>
          rw[ha] at hA
          simp only[Option.getD_some] at hA
          subst hA
          by_cases hd:B= .dead
          · subst hd;cases hr'
          · have:=hna i B ha hd
            rw[zem this] at hr'
            cases hr'
      · subst hA;cases hr'
    · rw[hget]
      split
      · cases ha:args[i]? with
        |none=>trivial
        | some B=>
          simp only[Option.getD_some]
          by_cases hd:B= .dead
          · subst hd;trivial
          · have hlt:i<vs.size:=by rw[hsz];exact(List.getElem?_eq_some_iff.1 ha).1
            have h1:=hvs i B vs[i] ha (Array.getElem?_eq_getElem hlt)
            refine jx.mk (v:=vs[i]) ?_ ((h1.moved [3] [0] [i]).2 rfl)
            simp only[tm0]
            rw[Array.getElem?_append_left hlt,Array.getElem?_eq_getElem hlt]
      · trivial
    · exact QA.keep (Zm [3] [0]) (by rw[HR.num];exact(List.getElem?_eq_some_iff.1 hcs).1) (HR.objs id cs hcs) (zI (by decide))
  refine calls_of_wp hf hb ?_
  refine H hmix c hs _ E0 {tmps:=tm0,defers:=[]} R0 (fun e E1 st1 a1 R1 hd P1 hk=>?_) (fun ch a w hq=>by obtain⟨_,v,r,h',E',he,_⟩:=hq;cases he)
  have fin:(qV L rss st1=true∧match vt rss st1 with|some (As,s')=>Q (zcu As) s'.h|none=>False)→a1.defers=[]∧∃v,(results fn a1.tmps).run P E1.w= .ok v E1.w∧
      ∃v' r h' E',Ending.returned v= .returned v'∧E'.w=E1.w∧KG E' h'∧VRel E' (some [3]) r v'∧Zc L E E'∧Q r h':=by
    rintro⟨hq,hk⟩
    split at hk
    · rename_i As s' hres
      obtain⟨E2,ws,R2,_,hlen,hv,P2,hw2,hrun⟩:=wo (L:=L) fn.results.toList rss 0 (l:=[]) hr R1 hres hq (fun x hx=>by cases hx) (fun y hy=>by cases hy)
      refine⟨hd,zdl ws,gi hrun,zdl ws,zcu As,s'.h,?_⟩
      have multi:VRel (E2.relab [9] [3]) (some [3]) (.tup As) (.tuple ws.toArray):=by
        refine .tup _ _ _ (by simp[hlen]) fun k A v hA hv'=>?_
        have:=hv k A v hA (by simpa using hv')
        rw[Nat.zero_add] at this
        exact(this.moved [9] [3] [k]).2 rfl
      have R3:zK (E2.relab [9] [3]) fn.ntmps V s' a1.tmps:=R2.under (Zm [9] [3]) (jh R2.lim) rfl (fun _ _=>zI (by decide)) (fun _=>zI (by decide)) (fun _ _ _ _ _=>zI (by decide))
      have P3:Zc L E (E2.relab [9] [3]):=((P0.trans P1).trans P2).trans (zR zlu Kl fun r hr=>ZR (by decide) [] r hr)
      match As,ws,hlen,hv,hk,multi with
      |[],[],_,_,hk,multi=>exact⟨E2.relab [9] [3],rfl,hw2,R3.hrel,multi,P3,hk⟩
      | [A],[v],_,hv,hk,_=>
        have h1:=hv 0 A v rfl rfl
        exact⟨E2.relab [9,0] [3],rfl,hw2,(R2.land [3]).hrel,h1.land [3],((P0.trans P1).trans P2).trans (zR (jD _) Kl fun r hr=>ZR (by decide) [0] r hr),hk⟩
      |A::B::As,v::u::ws,_,_,hk,multi=>exact⟨E2.relab [9] [3],rfl,hw2,R3.hrel,multi,P3,hk⟩
      |[],_::_,hl,_,_,_=>simp at hl
      |_::_,[],hl,_,_,_=>simp at hl
      |[_],_::_::_,hl,_,_,_=>simp at hl
      |_::_::_,[_],hl,_,_,_=>simp at hl
    · exact hk.elim
  cases e with
  |normal=>exact fin hk
  |ret=>exact fin hk
  |exit id=>exact hk.elim
end
end Go.Ga

namespace Go.Ga
open Go
def xW (P:Program):List ResultVar→Option (List wq)
 |[]=>some []
 |x::l=>(Qa P x).bind fun y=>(xW P l).map fun r=>y::r
def zb3 (P:Program)(rs V:List Nat)(fn:Func):Option (zC×List wq):=
 if (fn.name != "runtime.NumGoroutine") = true then fn.body.bind fun c => (Z1 P rs fn.ntmps V c).bind fun ac => (xW P fn.results.toList).map fun rss => (ac, rss) else none
theorem Xj {P:Program}:∀(l:List ResultVar) {rss:List wq},xW P l=some rss→l.map (Qa P)=rss.map some
 |[],rss,h=>by cases h;rfl
 | x::l,rss,h=>by
   simp only[xW] at h
   obtain⟨y,hy,h⟩:=zD h
   obtain⟨r,hr,rfl⟩:=zW h
   simp[hy,Xj l hr]
theorem xS {P:Program}(hmix:P.follows .mixedOrders=true){f:Nat}{fn:Func}{rs V:List Nat}{ac:zC}{rss:List wq}(hf:P.funcs[f]?=some fn)(hs:zb3 P rs V fn=some (ac,rss)){L:List (List Nat)}{args:List zc}{h:Heap}{Q:zc→Heap→Prop}
    (hl:args.length≤fn.ntmps) (H:JA P rs fn.ntmps V L ac (Je L rss Q) (Vw V args h)):zo P L f args h Q:=by
  unfold zb3 at hs
  split at hs
  · rename_i hn
    obtain⟨c,hc,hs⟩:=zD hs
    obtain⟨ac',hac,hs⟩:=zD hs
    obtain⟨r,hr,he⟩:=zW hs
    cases he
    exact vr hmix hf hn hc hac (Xj _ hr) hl H
  · cases hs
end Go.Ga
