/- Values, objects, and code by what it leads to: a library of this claim's own. No condition. -/
import Derived.Test.YtmcfdfafeheihaaGbmhkjf2
set_option linter.all false

namespace Go.Ga
open Go
def zb.bound (st:zb)(dflt:Nat):Option zQ→Option Nat
 |none=>some dflt
 | some x=>match st.dec x with
   |some n=>if 0≤n then some n.toNat else none
   |none=>none
def Zs (cs:List zc)(sz lo hi:Nat):List zc:=(cs.drop (lo*sz)).take ((hi - lo)*sz)
def zb.roomTo (st:zb)(id n:Nat):Bool:=match st.h[id]? with
 |some (some cs)=>decide (n≤cs.length)
 |_=>false
def zhQ (st:zb)(d:Nat)(x:zQ)(lo hi:Option zQ)(sz:Nat):Option zb:=
 match st.use x true with
 | some (A,st1)=>
   match A with
   | .imm s cs=>match st1.bound 0 lo,st1.bound (cs.length / s) hi with
     |some l,some h=>if s=sz∧l≤h∧h≤cs.length / s then some (st1.putT d (.imm sz (Zs cs sz l h))) else none
     |_,_=>none
   | .own (some s) cs=>match st1.bound 0 lo,st1.bound (cs.length / s) hi with
     |some l,some h=>if s=sz∧l≤h∧h≤cs.length / s∧(l=0∨zc.copyableL cs=true) then some (st1.putT d (.own (some sz) (Zs cs sz l h))) else none
     |_,_=>none
   | .sl id off len s=>match st1.bound 0 lo,st1.bound len hi with
     |some l,some h=>if s=sz∧l≤h∧(h≤len∨st1.roomTo id (off+h*sz)=true)∧(l=0∨l<h) then some (st1.putT d (.sl id (off+l*sz) (h - l) sz)) else none
     |_,_=>none
   | .sc u=>match st1.bound 0 lo,st1.bound 0 hi with
     |some l,some h=>if qP u=true∧l=0∧h=0 then some (st1.putT d (.sc u)) else none
     |_,_=>none
   |_=>none
 |none=>none
section
variable {L:List (List Nat)} {E:Env} {N:Nat} {V:List Nat} {st:zb} {a:Act} {P:Program} {o:Oper} {d:Nat} {tm:Array Value}
theorem xh (R:zK E N V st a.tmps){x:Operand}{ox:zQ}(hx:zv x=some ox){dflt n:Nat}(h:st.bound dflt (some ox)=some n):∃k,a.eval x= .int k (n:Int):=by
 simp only[zb.bound] at h
 split at h
 · rename_i m hm
   split at h
   · cases h
     obtain⟨k,hk⟩:=q7 R hx hm
     exact⟨k,by rw[hk];congr 1;omega⟩
   · cases h
 · cases h
def vc :Option Operand→Option zQ→Prop
 |none,none=>True
 |some x,some ox=>zv x=some ox
 |_,_=>False
theorem JI (R:zK E N V st a.tmps){lo hi:Option Operand}{olo ohi:Option zQ}(hlo:vc lo olo)(hhi:vc hi ohi){len cap l h:Nat}(h1:st.bound 0 olo=some l)(h2:st.bound len ohi=some h)(hlh:l≤h)(hh:h≤cap)(b:Bool)(w:World):
    (Instr.sliceBounds b len cap (lo.map a.eval) (hi.map a.eval) none).run P w= .ok (l,h,cap) w:=by
  have hh':(h:Int)≤(cap:Int):=by omega
  have hl':(l:Int)≤(h:Int):=by omega
  have n1:¬cap<h:=by omega
  have n2:¬h<l:=by omega
  cases lo with
  | none=>
    cases olo with
    |some _=>exact hlo.elim
    | none=>
      cases h1
      cases hi with
      | none=>
        cases ohi with
        |some _=>exact hhi.elim
        |none=>cases h2;simp[Instr.sliceBounds]
      | some y=>
        cases ohi with
        |none=>exact hhi.elim
        | some oy=>
          obtain⟨k2,e2⟩:=xh R hhi h2
          simp[Instr.sliceBounds,Instr.sliceBound,asIntOf,e2,n1]
  | some x=>
    cases olo with
    |none=>exact hlo.elim
    | some ox=>
      obtain⟨k1,e1⟩:=xh R hlo h1
      cases hi with
      | none=>
        cases ohi with
        |some _=>exact hhi.elim
        |none=>cases h2;simp[Instr.sliceBounds,Instr.sliceBound,asIntOf,e1,n2]
      | some y=>
        cases ohi with
        |none=>exact hhi.elim
        | some oy=>
          obtain⟨k2,e2⟩:=xh R hhi h2
          simp[Instr.sliceBounds,Instr.sliceBound,asIntOf,e1,e2,hh,hlh]
theorem x9 {cs:List zc}{sz l h k:Nat}{A:zc}(hk:(Zs cs sz l h)[k]?=some A):cs[l*sz+k]?=some A∧k<(h - l)*sz:=by
 unfold Zs at hk
 rw[List.getElem?_take] at hk
 split at hk
 · rename_i hlt;exact⟨jm hk,hlt⟩
 · cases hk
theorem zdI {cs:List zc}{sz l h n:Nat}(hc:cs.length=n*sz)(hh:h≤n)(hl:l≤h):(Zs cs sz l h).length=(h - l)*sz:=by
 have h1:h*sz≤n*sz:=Nat.mul_le_mul_right _ hh
 have h2:l*sz≤h*sz:=Nat.mul_le_mul_right _ hl
 simp only[Zs,List.length_take,List.length_drop,hc,Nat.sub_mul]
 omega
theorem Yd {t e:TypeId}{inf:TypeInfo}(hu:P.underlying t=some (.slice e))(hi:P.info? e=some inf){p:Option Addr}{len cap l h:Nat}{lo hi':Option Value}{w:World}(hb:(Instr.sliceBounds true len cap lo hi' none).run P w= .ok (l,h,cap) w):
    (Instr.sliceAt t (.slice p len cap) lo hi' none).run P w= .ok (.slice (if cap=l then p else p.map (·.add (l*inf.size))) (h - l) (cap - l)) w:=by
  simp[Instr.sliceAt,Instr.slice,run_underlying hu,hb,sizeOf,typeInfo,hi]
theorem uw {b k cap l sz:Nat}:(if cap=l then some (⟨b,k,none⟩:Addr) else(some (⟨b,k,none⟩:Addr)).map (·.add (l*sz)))=some ⟨b,if cap=l then k else k+l*sz,none⟩:=by
 split<;>simp[Addr.add_lit]
theorem znd (R : zK E N V st a.tmps)(F:zX N V st d){t e:TypeId}{inf:TypeInfo}{x:Operand}{ox:zQ}{lo hi:Option Operand}{olo ohi:Option zQ}(ho:o.op= .slice t x lo hi none)(hu':P.underlying t=some (.slice e))(hi':P.info? e=some inf)(hsz:0<inf.size)
    (hx:zv x=some ox) (hlo:vc lo olo) (hhi:vc hi ohi) {st':zb} (h:zhQ st d ox olo ohi inf.size=some st') (hq:st.useQ L ox true=true):yc L E N V st' a P o d:=by
  unfold zhQ at h
  split at h
  · rename_i A st1 hu
    obtain⟨E1,R1,F1,P1,hw1⟩:=Ji R hx hu 0 (l:=[]) (fun x hx=>by cases hx) (fun x hx=>by cases hx) hq
    have hA:VRel E1 (some [9,0]) A (a.eval x):=F1 _ (List.mem_cons_self ..)
    have Fs:=F.of (Z3 hu)
    have hrun:∀w,(execOp a.eval o).run P w=((Instr.sliceAt t (a.eval x) (lo.map a.eval) (hi.map a.eval) none).run P w).andThen (fun v w=> .ok (.value v) w):=fun w=>by simp[execOp,ho]
    cases A with
    | imm s cs=>
      simp only[] at h
      split at h
      · rename_i l hh h1 h2
        split at h
        · rename_i hc
          obtain⟨rfl,hl,hle⟩:=hc
          cases h
          generalize hy:a.eval x=y at hA
          cases hA with
          | imm _ _ _ b k len cap f hO hb hlen hcap hf hv=>
            have e1:cs.length / inf.size=len:=by rw[hlen.2,Nat.mul_div_cancel _ hlen.1]
            rw[e1] at h2 hle
            have hr:=Yd (P:=P) hu' hi' (p:=some ⟨b,k,none⟩) (JI (P:=P) R1 hlo hhi h1 h2 hl (Nat.le_trans hle hcap) true E.w)
            rw[uw] at hr
            refine⟨_,E1,by rw[hrun,hy,hr,hw1];rfl,R1.putT_val Fs.lt Fs.v Fs.t ?_,P1⟩
            refine .imm _ _ _ b _ (hh - l) (cap - l) (fun j=>f (l*inf.size+j)) hO hb ⟨hsz,zdI hlen.2 hle hl⟩ (by omega) (fun j A hj=>?_) fun j A hj=>hv _ A (x9 hj).1
            obtain⟨h3,h4⟩:=x9 hj
            have hne:cap≠l:=fun e=>by
              have:hh - l=0:=by omega
              rw[this] at h4;simp at h4
            rw[if_neg hne,Nat.add_assoc]
            exact hf _ A h3
          | immNil _ _ pa=>
            have e1:([]:List zc).length / inf.size=0:=by simp
            rw[e1] at h2 hle
            have hl0:l=0:=by omega
            have hh0:hh=0:=by omega
            subst hl0 hh0
            have hr:=Yd (P:=P) hu' hi' (p:=pa) (JI (P:=P) R1 hlo hhi h1 h2 hl (Nat.le_refl _) true E.w)
            refine⟨_,E1,by rw[hrun,hy,hr,hw1];rfl,R1.putT_val Fs.lt Fs.v Fs.t ?_,P1⟩
            simp only[if_true,show Zs [] inf.size 0 0=[] by simp[Zs]]
            exact .immNil _ _ _
        · cases h
      · cases h
    | own hd cs =>
      cases hd with
      |none=>cases h
      | some s=>
        simp only[] at h
        split at h
        · rename_i l hh h1 h2
          split at h
          · rename_i hc
            obtain⟨rfl,hl,hle,hcp⟩:=hc
            cases h
            generalize hy:a.eval x=y at hA
            cases hA with
            | own _ _ _ b k len cap arr T f hO hb hlen hcap hm ha hf hv=>
              have e1:cs.length / inf.size=len:=by rw[hlen.2,Nat.mul_div_cancel _ hlen.1]
              rw[e1] at h2 hle
              have hr:=Yd (P:=P) hu' hi' (p:=some ⟨b,k,none⟩) (JI (P:=P) R1 hlo hhi h1 h2 hl (Nat.le_trans hle hcap) true E.w)
              rw[uw] at hr
              have hv2:VRel E1 (some [9,0]) (.own (some inf.size) (Zs cs inf.size l hh)) (.slice (some ⟨b,if cap=l then k else k+l*inf.size,none⟩) (hh - l) (cap - l)):=by
                have hmul:l*inf.size≤cap*inf.size:=Nat.mul_le_mul_right _ (by omega)
                refine .own _ _ _ b _ (hh - l) (cap - l) arr T (fun j=>f (l*inf.size+j)) hO hb ⟨hsz,zdI hlen.2 hle hl⟩ (by omega) (by omega) ?_ (fun j A hj=>?_) fun j A hj=>?_
                · rw[Nat.sub_mul];split<;>omega
                · obtain⟨h3,h4⟩:=x9 hj
                  have hne:cap≠l:=fun e=>by
                    have:hh - l=0:=by omega
                    rw[this] at h4;simp at h4
                  rw[if_neg hne,Nat.add_assoc]
                  exact hf _ A h3
                · have h3:=(x9 hj).1
                  rcases hcp with rfl|hcp
                  · have:=hv _ A h3
                    simpa using this
                  · exact(hv _ A h3).copy _ (Zi hcp h3)
              refine⟨_,E1.relab [9,0] [0,d],?_,(R1.land [0,d]).putT_val Fs.lt Fs.v Fs.t (hv2.land [0,d]),P1.trans (zR (jD _) (qL _ _) (ZR (by decide) _))⟩
              rw[hrun,hy,hr,←hw1];rfl
            | ownNil=>
              have e1:([]:List zc).length / inf.size=0:=by simp
              rw[e1] at h2 hle
              have hl0:l=0:=by omega
              have hh0:hh=0:=by omega
              subst hl0 hh0
              have hr:=Yd (P:=P) hu' hi' (p:=none) (JI (P:=P) R1 hlo hhi h1 h2 hl (Nat.le_refl _) true E.w)
              refine⟨_,E1,by rw[hrun,hy,hr,hw1];rfl,R1.putT_val Fs.lt Fs.v Fs.t ?_,P1⟩
              simp only[if_true,show Zs [] inf.size 0 0=[] by simp[Zs]]
              exact .ownNil _ _
          · cases h
        · cases h
    | sl id off len s=>
      simp only[] at h
      split at h
      · rename_i l hh h1 h2
        split at h
        · rename_i hc
          obtain⟨rfl,hl,hle,hl0⟩:=hc
          cases h
          generalize hy:a.eval x=y at hA
          cases hA with
          | sl _ _ _ _ cap _ hid hcap hm hκ=>
            have hle:hh≤cap:=by
              rcases hle with hle|hle
              · exact Nat.le_trans hle hcap
              · unfold zb.roomTo at hle
                split at hle
                · rename_i cs hcs
                  obtain⟨_,_,_,_,_,_,hlk,_⟩:=R1.objs id cs hcs
                  have h1:off+hh*inf.size≤cs.length:=of_decide_eq_true hle
                  have:hh*inf.size≤cap*inf.size:=by omega
                  exact Nat.le_of_mul_le_mul_right this hsz
                · cases hle
            have hr:=Yd (P:=P) hu' hi' (p:=some ⟨E1.ρ id,E1.β id+off,none⟩) (JI (P:=P) R1 hlo hhi h1 h2 hl hle true E.w)
            rw[uw] at hr
            have hadr:(if cap=l then E1.β id+off else E1.β id+off+l*inf.size)=E1.β id+off+l*inf.size:=by
              split
              · rcases hl0 with rfl|h0
                · simp
                · omega
              · rfl
            · rw[hadr] at hr
              refine⟨_,E1,by rw[hrun,hy,hr,hw1];rfl,R1.putT_val Fs.lt Fs.v Fs.t ?_,P1⟩
              have hmul:l*inf.size≤cap*inf.size:=Nat.mul_le_mul_right _ (by omega)
              have:=VRel.sl (E:=E1) (some [0,d]) id (off+l*inf.size) (hh - l) (cap - l) inf.size hid (by omega) (by omega) (by rw[Nat.sub_mul];omega)
              rwa [←Nat.add_assoc] at this
        · cases h
      · cases h
    | sc u=>
      simp only[] at h
      split at h
      · rename_i l hh h1 h2
        split at h
        · rename_i hc
          obtain⟨hn,rfl,rfl⟩:=hc
          cases h
          have:=Q2 hn
          subst this
          generalize hy:a.eval x=y at hA
          cases hA
          have hr:=Yd (P:=P) hu' hi' (p:=none) (JI (P:=P) R1 hlo hhi h1 h2 (Nat.le_refl _) (Nat.le_refl _) true E.w)
          refine⟨_,E1,by rw[hrun,hy,hr,hw1];rfl,R1.putT_val Fs.lt Fs.v Fs.t ?_,P1⟩
          simp only[if_true]
          exact .sc _ _
        · cases h
      · cases h
    |_=>cases h
  · cases h
end
end Go.Ga

namespace Go.Ga
open Go
mutual
def zc.ids0 :zc→Bool
 | .agg cs=>zc.ids0L cs
 | .imm _ cs=>zc.ids0L cs
 | .own _ cs=>zc.ids0L cs
 | .ia cs=>zc.ids0L cs
 | .tup cs=>zc.ids0L cs
 | .sl _ _ _ _=>false
 | .ptr _ _=>false
 | .fn _ as bs=>zc.ids0L as&&zc.ids0L bs
 | .iface _ A=>A.ids0
 |_=>true
def zc.ids0L :List zc→Bool
 |[]=>true
 |A::l=>A.ids0&&zc.ids0L l
end
mutual
def zc.flat :zc→Bool
 | .agg cs=>zc.flatL cs
 | .imm _ _=>false
 | .own _ cs=>zc.flatL cs
 | .ia _=>false
 | .tup cs=>zc.flatL cs
 | .fn _ as bs=>zc.flatL as&&zc.flatL bs
 | .iface _ A=>A.flat
 |_=>true
def zc.flatL :List zc→Bool
 |[]=>true
 |A::l=>A.flat&&zc.flatL l
end
mutual
def zc.ren (g:Nat→Option Nat):zc→zc
 | .agg cs=> .agg (zc.renL g cs)
 | .imm sz cs=> .imm sz (zc.renL g cs)
 | .own hd cs=> .own hd (zc.renL g cs)
 | .ia cs=> .ia (zc.renL g cs)
 | .tup cs=> .tup (zc.renL g cs)
 | .sl id off len sz=>match g id with
   |some j=> .sl j off len sz
   |none=> .dead
 | .ptr id off=>match g id with
   |some j=> .ptr j off
   |none=> .dead
 | .fn f as bs=> .fn f (zc.renL g as) (zc.renL g bs)
 | .iface t A=> .iface t (A.ren g)
 |A=>A
def zc.renL (g:Nat→Option Nat):List zc→List zc
 |[]=>[]
 |A::l=>A.ren g::zc.renL g l
end
mutual
theorem ug (g:Nat→Option Nat):∀A:zc,A.ids0=true→A.ren g=A
 | .sc _,_=>rfl
 | .agg cs,h=>by simp only[zc.ren,ids0_renL g cs h]
 | .imm _ cs,h=>by simp only[zc.ren,ids0_renL g cs h]
 | .own _ cs,h=>by simp only[zc.ren,ids0_renL g cs h]
 | .ia cs,h=>by simp only[zc.ren,ids0_renL g cs h]
 | .tup cs,h=>by simp only[zc.ren,ids0_renL g cs h]
 | .sl _ _ _ _,h=>by cases h
 | .ptr _ _,h=>by cases h
 | .fn _ as bs,h=>by
   simp only[zc.ids0,Bool.and_eq_true] at h
   simp only[zc.ren,ids0_renL g as h.1,ids0_renL g bs h.2]
 | .iface _ A,h=>by simp only[zc.ren,ug g A h]
 | .at_ _,_=>rfl
 | .addr _ _,_=>rfl
 | .mp _,_=>rfl
 | .dead,_=>rfl
theorem ids0_renL (g:Nat→Option Nat):∀l:List zc,zc.ids0L l=true→zc.renL g l=l
 |[],_=>rfl
 | A::l,h=>by
   simp only[zc.ids0L,Bool.and_eq_true] at h
   simp only[zc.renL,ug g A h.1,ids0_renL g l h.2]
end
mutual
theorem xP :∀A:zc,A.copyable=true→A.freeze=A
 | .agg cs,h=>by simp only[zc.freeze,copyable_freezeL cs h]
 | .tup cs,h=>by simp only[zc.freeze,copyable_freezeL cs h]
 | .own _ _,h=>by cases h
 | .sc _,_=>rfl
 | .imm _ _,_=>rfl
 | .ia _,_=>rfl
 | .sl _ _ _ _,_=>rfl
 | .ptr _ _,_=>rfl
 | .fn _ _ _,_=>rfl
 | .iface _ _,_=>rfl
 | .at_ _,_=>rfl
 | .addr _ _,_=>rfl
 | .mp _,h=>by cases h
 | .dead,_=>rfl
theorem copyable_freezeL :∀l:List zc,zc.copyableL l=true→zc.freezeL l=l
 |[],_=>rfl
 | A::l,h=>by
   simp only[zc.copyableL,Bool.and_eq_true] at h
   simp only[zc.freezeL,xP A h.1,copyable_freezeL l h.2]
end
theorem zG (g:Nat→Option Nat):∀l:List zc,(zc.renL g l).length=l.length
 |[]=>rfl
 |A::l=>by simp[zc.renL,zG g l]
theorem Xt (g:Nat→Option Nat):∀(l:List zc) (k:Nat),(zc.renL g l)[k]?=(l[k]?).map (zc.ren g)
 |[],k=>by simp[zc.renL]
 |A::l,0=>by simp[zc.renL]
 |A::l,k+1=>by simp[zc.renL,Xt g l k]
theorem zz {g:Nat→Option Nat}{l:List zc}{k:Nat}{A:zc}(h:(zc.renL g l)[k]?=some A):∃B,l[k]?=some B∧A=B.ren g:=by
 rw[Xt] at h
 cases hl:l[k]? with
 |none=>simp[hl] at h
 |some B=>simp[hl] at h;exact⟨B,rfl,h.symm⟩
theorem ji :∀{l:List zc} {k:Nat} {A:zc},zc.flatL l=true→l[k]?=some A→A.flat=true
 |[],_,_,_,h=>by simp at h
 | B::l,0,A,h,h2=>by
   simp only[zc.flatL,Bool.and_eq_true] at h
   simp at h2;subst h2;exact h.1
 | B::l,k+1,A,h,h2=>by
   simp only[zc.flatL,Bool.and_eq_true] at h
   exact ji h.2 (by simpa using h2)
def YP (E E':Env)(g:Nat→Option Nat):Prop:=
 ∀id j,g id=some j→id<E.n→j<E'.n∧E'.ρ j=E.ρ id∧E'.β j=E.β id∧E'.κ j=E.κ id
theorem VRel.renSl {E E':Env}{g:Nat→Option Nat}(hg:YP E E' g){po po':Option (List Nat)}{id off len sz:Nat}{v:Value}(h:VRel E po (.sl id off len sz) v):VRel E' po' ((zc.sl id off len sz).ren g) v:=by
 cases h with
 | sl _ _ _ _ cap _ hn hc hm hk=>
   simp only[zc.ren]
   cases e:g id with
   |none=>exact .dead _ _
   | some j=>
     obtain⟨h1,h2,h3,h4⟩:=hg id j e hn
     have:=VRel.sl (E:=E') po' j off len cap sz h1 hc hm (hk.trans h4.symm)
     rwa [h2,h3] at this
theorem VRel.renPtr {E E':Env}{g:Nat→Option Nat}(hg:YP E E' g){po po':Option (List Nat)}{id off:Nat}{v:Value}(h:VRel E po (.ptr id off) v):VRel E' po' ((zc.ptr id off).ren g) v:=by
 cases h with
 | ptr _ _ _ hn=>
   simp only[zc.ren]
   cases e:g id with
   |none=>exact .dead _ _
   | some j=>
     obtain⟨h1,h2,h3,_⟩:=hg id j e hn
     have:=VRel.ptr (E:=E') po' j off h1
     rwa [h2,h3] at this
theorem VRel.renM (M:Prop){E E':Env}{g:Nat→Option Nat}{p q:List Nat}(hg:YP E E' g)(hsz:E.w.heap.size≤E'.w.heap.size)(hN:∀b,E.O b=none→b<E.w.heap.size→E'.O b=none∧E'.w.heap[b]?=E.w.heap[b]?)
    (hP:M→∀b s,E.O b=some (p++s)→E'.O b=some (q++s)∧E'.w.heap[b]?=E.w.heap[b]?) {po:Option (List Nat)} {A:zc} {v:Value} (h:VRel E po A v):
    ∀r,(po=none→∀po',VRel E' po' (A.ren g) v)∧(M→po=some (p++r)→VRel E' (some (q++r)) (A.ren g) v):=by
  induction h with
  |sc po v=>exact fun r=>⟨fun _ _=> .sc _ v,fun _ _=> .sc _ v⟩
  |dead po v=>exact fun r=>⟨fun _ _=> .dead _ v,fun _ _=> .dead _ v⟩
  | agg po cs vs hs h ih=>
    refine fun r=>⟨fun hp po'=>?_,fun M hp=>?_⟩
    · subst hp
      refine .agg _ _ vs (by rw[hs,zG]) fun k A v h1 h2=>?_
      obtain⟨B,hB,rfl⟩:=zz h1
      exact(ih k B v hB h2 []).1 rfl _
    · subst hp
      refine .agg _ _ vs (by rw[hs,zG]) fun k A v h1 h2=>?_
      obtain⟨B,hB,rfl⟩:=zz h1
      have:=(ih k B v hB h2 (r++[k])).2 M (by simp)
      simpa using this
  | imm po sz cs b o len cap f hO hb hl hc hf h ih=>
    obtain⟨h1,h2⟩:=hN b hO hb
    have key:∀po',VRel E' po' (.imm sz (zc.renL g cs)) (.slice (some ⟨b,o,none⟩) len cap):=fun po'=>
      .imm _ sz _ b o len cap f h1 (Nat.lt_of_lt_of_le hb hsz) (by rw[zG];exact hl) hc (fun k A hA=>by
        obtain⟨B,hB,_⟩:=zz hA
        exact(jn h2).trans (hf k B hB)) fun k A hA=>by
        obtain⟨B,hB,rfl⟩:=zz hA
        exact(ih k B hB []).1 rfl none
    exact fun r=>⟨fun _ po'=>key po',fun _ _=>key _⟩
  |immNil po sz a=>exact fun r=>⟨fun _ _=> .immNil _ sz a,fun _ _=> .immNil _ sz a⟩
  | own ℓ sz cs b o len cap arr T f hO hb hl hc hm ha hf h ih=>
    refine fun r=>⟨fun hp=>(by cases hp),fun M hp=>?_⟩
    cases hp
    obtain⟨h1,h2⟩:=hP M b r hO
    refine .own _ sz _ b o len cap arr T f h1 (h2.trans hb) (by rw[zG];exact hl) hc hm ha (fun k A hA=>?_) fun k A hA=>?_
    · obtain⟨B,hB,_⟩:=zz hA
      exact hf k B hB
    · obtain⟨B,hB,rfl⟩:=zz hA
      have:=(ih k B hB (r++[k])).2 M (by simp)
      simpa using this
  |ownNil po sz=>exact fun r=>⟨fun _ _=> .ownNil _ sz,fun _ _=> .ownNil _ sz⟩
  | box ℓ cs b arr T f hO hb ha hf h ih=>
    refine fun r=>⟨fun hp=>(by cases hp),fun M hp=>?_⟩
    cases hp
    obtain⟨h1,h2⟩:=hP M b r hO
    refine .box _ _ b arr T f h1 (h2.trans hb) (by rw[zG];exact ha) (fun k A hA=>?_) fun k A hA=>?_
    · obtain⟨B,hB,_⟩:=zz hA
      exact hf k B hB
    · obtain⟨B,hB,rfl⟩:=zz hA
      have:=(ih k B hB (r++[k])).2 M (by simp)
      simpa using this
  | sl po id off len cap sz hn hc hm hκ=>
    have:=fun po'=>VRel.renSl (po':=po') hg (VRel.sl po id off len cap sz hn hc hm hκ)
    exact fun r=>⟨fun _ po'=>this po',fun _ _=>this _⟩
  | ptr po id off hn=>
    have:=fun po'=>VRel.renPtr (po':=po') hg (VRel.ptr po id off hn)
    exact fun r=>⟨fun _ po'=>this po',fun _ _=>this _⟩
  | ia po cs b o f hO hb hf h ih=>
    obtain⟨h1,h2⟩:=hN b hO hb
    have key:∀po',VRel E' po' (.ia (zc.renL g cs)) (.pointer (some ⟨b,o,none⟩)):=fun po'=>
      .ia _ _ b o f h1 (Nat.lt_of_lt_of_le hb hsz) (fun k A hA=>by
        obtain⟨B,hB,_⟩:=zz hA
        exact(jn h2).trans (hf k B hB)) fun k A hA=>by
        obtain⟨B,hB,rfl⟩:=zz hA
        exact(ih k B hB []).1 rfl none
    exact fun r=>⟨fun _ po'=>key po',fun _ _=>key _⟩
  | fn po f as bs us vs hu hv h1 h2 ih1 ih2=>
    have key:∀po',VRel E' po' (.fn f (zc.renL g as) (zc.renL g bs)) (.func f us vs):=fun po'=>
      .fn _ f _ _ us vs (by rw[hu,zG]) (by rw[hv,zG]) (fun k A v a b=>by
        obtain⟨B,hB,rfl⟩:=zz a
        exact(ih1 k B v hB b []).1 rfl none) fun k A v a b=>by
        obtain⟨B,hB,rfl⟩:=zz a
        exact(ih2 k B v hB b []).1 rfl none
    exact fun r=>⟨fun _ po'=>key po',fun _ _=>key _⟩
  |iface po t A v h ih=>exact fun r=>⟨fun _ _=> .iface _ t _ v ((ih []).1 rfl none),fun _ _=> .iface _ t _ v ((ih []).1 rfl none)⟩
  | tup po cs vs hs h ih=>
    refine fun r=>⟨fun hp po'=>?_,fun M hp=>?_⟩
    · subst hp
      refine .tup _ _ vs (by rw[hs,zG]) fun k A v h1 h2=>?_
      obtain⟨B,hB,rfl⟩:=zz h1
      exact(ih k B v hB h2 []).1 rfl _
    · subst hp
      refine .tup _ _ vs (by rw[hs,zG]) fun k A v h1 h2=>?_
      obtain⟨B,hB,rfl⟩:=zz h1
      have:=(ih k B v hB h2 (r++[k])).2 M (by simp)
      simpa using this
  | mp ℓ ks b es c hO hb he=>
    refine fun r=>⟨fun hp=>(by cases hp),fun M hp=>?_⟩
    cases hp
    obtain⟨h1,h2⟩:=hP M b r hO
    exact .mp _ ks b es c h1 (h2.trans hb) he
theorem VRel.renK {E E':Env}{g:Nat→Option Nat}{p q:List Nat}(hg:YP E E' g)(hsz:E.w.heap.size≤E'.w.heap.size)(hN:∀b,E.O b=none→b<E.w.heap.size→E'.O b=none∧E'.w.heap[b]?=E.w.heap[b]?)
    (hP:∀b s,E.O b=some (p++s)→E'.O b=some (q++s)∧E'.w.heap[b]?=E.w.heap[b]?) {r:List Nat} {A:zc} {v:Value} (h:VRel E (some (p++r)) A v):VRel E' (some (q++r)) (A.ren g) v:=
  (h.renM True hg hsz hN (fun _=>hP) r).2 trivial rfl
theorem VRel.renN {E E':Env}{g:Nat→Option Nat}(hg:YP E E' g)(hsz:E.w.heap.size≤E'.w.heap.size)(hN:∀b,E.O b=none→b<E.w.heap.size→E'.O b=none∧E'.w.heap[b]?=E.w.heap[b]?)
    {A:zc} {v:Value} (h:VRel E none A v) (po':Option (List Nat)):VRel E' po' (A.ren g) v:=
  (h.renM False (p:=[]) (q:=[]) hg hsz hN (fun f=>f.elim) []).1 rfl po'
theorem VRel.renF {E E':Env}{g:Nat→Option Nat}{p:List Nat}(hg:YP E E' g)(hsz:E.w.heap.size≤E'.w.heap.size)(hN:∀b,E.O b=none→b<E.w.heap.size→E'.O b=none∧E'.w.heap[b]?=E.w.heap[b]?)
    (hP:∀b s,E.O b=some (p++s)→b<E.w.heap.size→E'.O b=none∧E'.w.heap[b]?=E.w.heap[b]?) {po:Option (List Nat)} {A:zc} {v:Value} (h:VRel E po A v):
    (po=none∨∃r,po=some (p++r))→∀po',VRel E' po' (A.freeze.ren g) v:=by
  induction h with
  |sc po v=>exact fun _ _=> .sc _ v
  |dead po v=>exact fun _ _=> .dead _ v
  | agg po cs vs hs h ih=>
    intro hp po'
    refine .agg _ _ vs (by rw[hs,zG,ZL]) fun k A v h1 h2=>?_
    obtain⟨B,hB,rfl⟩:=zz h1
    obtain⟨C,hC,rfl⟩:=Zb hB
    refine ih k C v hC h2 ?_ _
    rcases hp with rfl|⟨r,rfl⟩
    · exact .inl rfl
    · exact .inr ⟨r++[k],by simp⟩
  |imm po sz cs b o len cap f hO hb hl hc hf h ih=>exact fun _ po'=>(VRel.imm none sz cs b o len cap f hO hb hl hc hf h).renN hg hsz hN po'
  |immNil po sz a=>exact fun _ _=> .immNil _ sz a
  | own ℓ sz cs b o len cap arr T f hO hb hl hc hm ha hf h ih=>
    intro hp po'
    rcases hp with hp|⟨r,hp⟩
    · cases hp
    · cases hp
      obtain⟨h1,h2⟩:=hP b r hO (ZV hb)
      refine .imm _ sz _ b o len cap f h1 (Nat.lt_of_lt_of_le (ZV hb) hsz) (by rw[zG,ZL];exact hl) hc (fun k A hA=>?_) fun k A hA=>?_
      · obtain⟨B,hB,_⟩:=zz hA
        obtain⟨C,hC,_⟩:=Zb hB
        exact(jn h2).trans ((zu hb).trans (hf k C hC))
      · obtain⟨B,hB,rfl⟩:=zz hA
        obtain⟨C,hC,rfl⟩:=Zb hB
        exact ih k C hC (.inr ⟨r++[k],by simp⟩) none
  |ownNil po sz=>exact fun _ _=> .immNil _ sz none
  | box ℓ cs b arr T f hO hb ha hf h ih=>
    intro hp po'
    rcases hp with hp|⟨r,hp⟩
    · cases hp
    · cases hp
      obtain⟨h1,h2⟩:=hP b r hO (ZV hb)
      refine .ia _ _ b 0 f h1 (Nat.lt_of_lt_of_le (ZV hb) hsz) (fun k A hA=>?_) fun k A hA=>?_
      · obtain⟨B,hB,_⟩:=zz hA
        obtain⟨C,hC,_⟩:=Zb hB
        rw[Nat.zero_add]
        exact(jn h2).trans ((zu hb).trans (hf k C hC))
      · obtain⟨B,hB,rfl⟩:=zz hA
        obtain⟨C,hC,rfl⟩:=Zb hB
        exact ih k C hC (.inr ⟨r++[k],by simp⟩) none
  |sl po id off len cap sz hn hc hm hκ=>exact fun _ _=>VRel.renSl hg (VRel.sl po id off len cap sz hn hc hm hκ)
  |ptr po id off hn=>exact fun _ _=>VRel.renPtr hg (VRel.ptr po id off hn)
  |ia po cs b o f hO hb hf h ih=>exact fun _ po'=>(VRel.ia none cs b o f hO hb hf h).renN hg hsz hN po'
  |fn po f as bs us vs hu hv h1 h2 ih1 ih2=>exact fun _ po'=>(VRel.fn none f as bs us vs hu hv h1 h2).renN hg hsz hN po'
  |iface po t A v h ih=>exact fun _ po'=>(VRel.iface none t A v h).renN hg hsz hN po'
  | tup po cs vs hs h ih=>
    intro hp po'
    refine .tup _ _ vs (by rw[hs,zG,ZL]) fun k A v h1 h2=>?_
    obtain⟨B,hB,rfl⟩:=zz h1
    obtain⟨C,hC,rfl⟩:=Zb hB
    refine ih k C v hC h2 ?_ _
    rcases hp with rfl|⟨r,rfl⟩
    · exact .inl rfl
    · exact .inr ⟨r++[k],by simp⟩
  |mp ℓ ks b es c hO hb he=>exact fun _ po'=> .dead _ _
theorem VRel.renX {E E':Env}{g:Nat→Option Nat}{p q:List Nat}(hg:YP E E' g)
    (hP:∀b s,E.O b=some (p++s)→E'.O b=some (q++s)∧E'.w.heap[b]?=E.w.heap[b]?) {po:Option (List Nat)} {A:zc} {v:Value} (h:VRel E po A v):
    A.flat=true→∀r,(po=none→∀po',VRel E' po' (A.ren g) v)∧(po=some (p++r)→VRel E' (some (q++r)) (A.ren g) v):=by
  induction h with
  |sc po v=>exact fun _ r=>⟨fun _ _=> .sc _ v,fun _=> .sc _ v⟩
  |dead po v=>exact fun _ r=>⟨fun _ _=> .dead _ v,fun _=> .dead _ v⟩
  | agg po cs vs hs h ih=>
    refine fun hf r=>⟨fun hp po'=>?_,fun hp=>?_⟩
    · subst hp
      refine .agg _ _ vs (by rw[hs,zG]) fun k A v h1 h2=>?_
      obtain⟨B,hB,rfl⟩:=zz h1
      exact(ih k B v hB h2 (ji hf hB) []).1 rfl _
    · subst hp
      refine .agg _ _ vs (by rw[hs,zG]) fun k A v h1 h2=>?_
      obtain⟨B,hB,rfl⟩:=zz h1
      have:=(ih k B v hB h2 (ji hf hB) (r++[k])).2 (by simp)
      simpa using this
  |imm po sz cs b o len cap f hO hb hl hc hf h ih=>exact fun hfl=>by cases hfl
  |immNil po sz a=>exact fun hfl=>by cases hfl
  | own ℓ sz cs b o len cap arr T f hO hb hl hc hm ha hf h ih=>
    refine fun hfl r=>⟨fun hp=>(by cases hp),fun hp=>?_⟩
    cases hp
    obtain⟨h1,h2⟩:=hP b r hO
    refine .own _ sz _ b o len cap arr T f h1 (h2.trans hb) (by rw[zG];exact hl) hc hm ha (fun k A hA=>?_) fun k A hA=>?_
    · obtain⟨B,hB,_⟩:=zz hA
      exact hf k B hB
    · obtain⟨B,hB,rfl⟩:=zz hA
      have:=(ih k B hB (ji hfl hB) (r++[k])).2 (by simp)
      simpa using this
  |ownNil po sz=>exact fun _ r=>⟨fun _ _=> .ownNil _ sz,fun _=> .ownNil _ sz⟩
  | box ℓ cs b arr T f hO hb ha hf h ih=>
    refine fun hfl r=>⟨fun hp=>(by cases hp),fun hp=>?_⟩
    cases hp
    obtain⟨h1,h2⟩:=hP b r hO
    refine .box _ _ b arr T f h1 (h2.trans hb) (by rw[zG];exact ha) (fun k A hA=>?_) fun k A hA=>?_
    · obtain⟨B,hB,_⟩:=zz hA
      exact hf k B hB
    · obtain⟨B,hB,rfl⟩:=zz hA
      have:=(ih k B hB (ji hfl hB) (r++[k])).2 (by simp)
      simpa using this
  | sl po id off len cap sz hn hc hm hκ=>
    have:=fun po'=>VRel.renSl (po':=po') hg (VRel.sl po id off len cap sz hn hc hm hκ)
    exact fun _ r=>⟨fun _ po'=>this po',fun _=>this _⟩
  | ptr po id off hn=>
    have:=fun po'=>VRel.renPtr (po':=po') hg (VRel.ptr po id off hn)
    exact fun _ r=>⟨fun _ po'=>this po',fun _=>this _⟩
  |ia po cs b o f hO hb hf h ih=>exact fun hfl=>by cases hfl
  | fn po f as bs us vs hu hv h1 h2 ih1 ih2=>
    intro hfl
    simp only[zc.flat,Bool.and_eq_true] at hfl
    have key:∀po',VRel E' po' (.fn f (zc.renL g as) (zc.renL g bs)) (.func f us vs):=fun po'=>
      .fn _ f _ _ us vs (by rw[hu,zG]) (by rw[hv,zG]) (fun k A v a b=>by
        obtain⟨B,hB,rfl⟩:=zz a
        exact(ih1 k B v hB b (ji hfl.1 hB) []).1 rfl none) fun k A v a b=>by
        obtain⟨B,hB,rfl⟩:=zz a
        exact(ih2 k B v hB b (ji hfl.2 hB) []).1 rfl none
    exact fun r=>⟨fun _ po'=>key po',fun _=>key _⟩
  |iface po t A v h ih=>exact fun hfl r=>⟨fun _ _=> .iface _ t _ v ((ih hfl []).1 rfl none),fun _=> .iface _ t _ v ((ih hfl []).1 rfl none)⟩
  | tup po cs vs hs h ih=>
    refine fun hf r=>⟨fun hp po'=>?_,fun hp=>?_⟩
    · subst hp
      refine .tup _ _ vs (by rw[hs,zG]) fun k A v h1 h2=>?_
      obtain⟨B,hB,rfl⟩:=zz h1
      exact(ih k B v hB h2 (ji hf hB) []).1 rfl _
    · subst hp
      refine .tup _ _ vs (by rw[hs,zG]) fun k A v h1 h2=>?_
      obtain⟨B,hB,rfl⟩:=zz h1
      have:=(ih k B v hB h2 (ji hf hB) (r++[k])).2 (by simp)
      simpa using this
  | mp ℓ ks b es c hO hb he=>
    refine fun hfl r=>⟨fun hp=>(by cases hp),fun hp=>?_⟩
    cases hp
    obtain⟨h1,h2⟩:=hP b r hO
    exact .mp _ ks b es c h1 (h2.trans hb) he
end Go.Ga

namespace Go.Ga
open Go
structure KG (E:Env)(h:Heap):Prop where
 num:E.n=h.length
 lim:∀b q,E.O b=some q→b<E.w.heap.size
 objs:∀id cs,h[id]?=some (some cs)→QA E id cs
def yN (P:Program)(f:Nat):Bool:=
 match P.funcs[f]? with
 | some fn => fn.name != "runtime.NumGoroutine" && fn.body.isSome
 |none=>false
def zo (P:Program)(L:List (List Nat))(f:Nat)(args:List zc)(h:Heap)(Q:zc→Heap→Prop):Prop:=
 yN P f=true∧∀(E:Env) (vs:Array Value),KG E h→vs.size=args.length→(∀(k:Nat) A v,args[k]?=some A→vs[k]?=some v→VRel E (some [3,k]) A v)→
  Calls P f vs E.w fun e w'=>∃v r h' E',e= .returned v∧E'.w=w'∧KG E' h'∧VRel E' (some [3]) r v∧Zc L E E'∧Q r h'
theorem zo.mono {P:Program}{L:List (List Nat)}{f:Nat}{args:List zc}{h:Heap}{Q Q':zc→Heap→Prop}(H:zo P L f args h Q)(hq:∀r h',Q r h'→Q' r h'):zo P L f args h Q':=
 ⟨H.1,fun E vs h1 h2 h3=>(H.2 E vs h1 h2 h3).mono fun _ _ ⟨v,r,h',E',a,b,c,d,e,f⟩=>⟨v,r,h',E',a,b,c,d,e,hq r h' f⟩⟩
def Jz :List Nat→Nat→Option Nat
 |[],_=>none
 |b::l,i=>if i=b then some 0 else(Jz l i).map (· +1)
theorem wS :∀{bo:List Nat} {id j:Nat},Jz bo id=some j→bo[j]?=some id
 |[],_,_,h=>by cases h
 | b ::l,i,j,h=>by
   unfold Jz at h
   split at h
   · rename_i e;cases h;simp[e]
   · obtain⟨k,hk,rfl⟩:=Option.map_eq_some_iff.1 h
     simpa using wS hk
def yD :List Nat→Bool
 |[]=>true
 |b::l=>(Jz l b).isNone&&yD l
theorem ud :∀{l:List Nat} {id:Nat},id∈l→Jz l id≠none
 | b ::l,i,h=>by
   unfold Jz
   split
   · simp
   · rename_i hne
     cases h with
     |head=>exact absurd rfl hne
     |tail _ h=>simpa using ud h
theorem ue :∀{bo:List Nat} {id j:Nat},yD bo=true→bo[j]?=some id→Jz bo id=some j
 |[],_,_,_,h=>by simp at h
 |b::l,i,0,_,h=>by simp at h;simp[Jz,h]
 | b ::l,i,j+1,hn,h=>by
   simp only[yD,Bool.and_eq_true] at hn
   have h':l[j]?=some i:=by simpa using h
   unfold Jz
   split
   · rename_i e
     subst e
     have:=ud (List.mem_of_getElem? h')
     rw[Option.isNone_iff_eq_none] at hn
     exact absurd hn.1 this
   · simp[ue hn.2 h']
def gI (g:Nat→Option Nat)(ln:Bool)(m:Nat)(ℓ:List Nat):Option (List Nat):=
 match ℓ with
 | 1::id::r=>match g id with
   |some j=>some (1::j::r)
   |none=>bif ln then none else some (2::1::id::r)
 |9::0::r=>some (1::m::r)
 |9::(k+1)::r=>some (3::k::r)
 |ℓ=>bif ln then none else some (2::ℓ)
def Env.sub (E:Env)(bo:List Nat)(ln:Bool)(mm b o κ:Nat):Env:=
 {w:=E.w,O:=fun b=>(E.O b).bind (gI (Jz bo) ln bo.length),ρ:=fun j=>if j<bo.length then E.ρ (bo.getD j 0) else b,β:=fun j=>if j<bo.length then E.β (bo.getD j 0) else o,κ:=fun j=>if j<bo.length then E.κ (bo.getD j 0) else κ,n:=mm}
def jl (E:Env)(bo:List Nat)(mm:Nat)(O3:Nat→Option (List Nat))(b:Nat):Option (List Nat):=
 match O3 b with
 |some (1::j::r)=>some (if j<bo.length then 1::bo.getD j 0::r else if j<mm then 9::0::r else 1::(E.n+(j - mm))::r)
 |some (3::r)=>some (9::1::r)
 | _ =>match E.O b with
   | some (1::id::r)=>match Jz bo id with
     |some _=>none
     |none=>some (1::id::r)
   |some (9::_)=>none
   |x=>x
def Env.out (E E3:Env)(bo:List Nat)(mm:Nat):Env:=
 {w:=E3.w,O:=jl E bo mm E3.O,ρ:=fun id=>if id<E.n then E.ρ id else E3.ρ (mm+(id - E.n)),β:=fun id=>if id<E.n then E.β id else E3.β (mm+(id - E.n)),κ:=fun id=>if id<E.n then E.κ id else E3.κ (mm+(id - E.n)),n:=E.n+(E3.n - mm)}
def ZK (bo:List Nat)(mm n:Nat)(j:Nat):Option Nat:=if j<bo.length then bo[j]? else if j<mm then none else some (n+(j - mm))
def zt (bo:List Nat):List (List Nat)→List (List Nat)
 |[]=>[]
 | (1::id::s)::L=>match Jz bo id with
   |some j=>(1::j::s)::zt bo L
   |none=>zt bo L
 |_::L=>zt bo L
theorem yd {bo:List Nat}{id j:Nat}{s:List Nat}(hg:Jz bo id=some j):∀{L:List (List Nat)},(1::id::s)∈L→(1::j::s)∈zt bo L
 | r ::L,h=>by
   cases h with
   |head=>simp[zt,hg]
   | tail _ h=>
     have ih:=yd hg h
     unfold zt
     split
     · rename_i heq;cases heq
     · rename_i heq
       cases heq
       split
       · exact .tail _ ih
       · exact ih
     · rename_i heq;cases heq;exact ih
section
variable {L:List (List Nat)} {E E3:Env} {N:Nat} {V:List Nat} {st:zb} {tm:Array Value} {bo:List Nat} {ln:Bool} {mm pb po pk:Nat}
theorem qn {b:Nat}(h:E.O b=none):(E.sub bo ln mm pb po pk).O b=none:=by simp[Env.sub,h]
theorem kV {b id j:Nat}{s:List Nat}(hg:Jz bo id=some j)(h:E.O b=some ([1,id]++s)):(E.sub bo ln mm pb po pk).O b=some ([1,j]++s):=by simp[Env.sub,h,gI,hg]
theorem zib {b k:Nat}{s:List Nat}(h:E.O b=some ([9,k+1]++s)):(E.sub bo ln mm pb po pk).O b=some ([3,k]++s):=by simp[Env.sub,h,gI]
theorem zdb {b:Nat}{s:List Nat}(h:E.O b=some ([9,0]++s)):(E.sub bo ln mm pb po pk).O b=some ([1,bo.length]++s):=by simp[Env.sub,h,gI]
def Hid (bo:List Nat)(ℓ:List Nat):Prop:=match ℓ with
 |1::id::_=>Jz bo id=none
 |9::_=>False
 |_=>True
theorem QK {b:Nat}{ℓ:List Nat}(hh:Hid bo ℓ)(h:E.O b=some ℓ):(E.sub bo ln mm pb po pk).O b=bif ln then none else some (2::ℓ):=by
 simp only[Env.sub,h,Option.bind_some]
 unfold gI
 unfold Hid at hh
 split
 · simp only[] at hh;rw[hh]
 · simp at hh
 · simp at hh
 · rfl
theorem zia (hlim:∀b q,E.O b=some q→b<E.w.heap.size):∀b q,(E.sub bo ln mm pb po pk).O b=some q→b<E.w.heap.size:=fun b q h=>by
 cases hO:E.O b with
 |none=>rw[qn hO] at h;cases h
 |some ℓ=>exact hlim b ℓ hO
theorem qR {bo:List Nat}{j id:Nat}(h:bo[j]?=some id):bo.getD j 0=id∧j<bo.length:=by
 refine⟨by simp[List.getD_eq_getElem?_getD,h],(List.getElem?_eq_some_iff.1 h).1⟩
theorem QJ (hmm:bo.length≤mm):YP E (E.sub bo ln mm pb po pk) (Jz bo):=fun id j hg hid=>by
 obtain⟨h1,h2⟩:=qR (wS hg)
 refine⟨Nat.lt_of_lt_of_le h2 hmm,?_,?_,?_⟩
 · show(if j<bo.length then E.ρ (bo.getD j 0) else _)=_;rw[if_pos h2,h1]
 · show(if j<bo.length then E.β (bo.getD j 0) else _)=_;rw[if_pos h2,h1]
 · show(if j<bo.length then E.κ (bo.getD j 0) else _)=_;rw[if_pos h2,h1]
theorem Ja (hlim:∀b q,E.O b=some q→b<E.w.heap.size){L':List (List Nat)}(P3:Zc L' (E.sub bo ln mm pb po pk) E3){b:Nat}(h:E.O b=none∧b<E.w.heap.size∨∃ℓ,E.O b=some ℓ∧Hid bo ℓ):
    (E.out E3 bo mm).O b=E.O b∧E3.w.heap[b]?=E.w.heap[b]?:=by
  have fin:∀x,E3.O b=x→(x=none∨∃r,x=some (2::r))→(E.out E3 bo mm).O b=E.O b:=by
    intro x hx hx'
    show jl E bo mm E3.O b=E.O b
    unfold jl
    rw[hx]
    have h2:(match E.O b with
        | some (1::id::r)=>match Jz bo id with
          |some _=>none
          |none=>some (1::id::r)
        |some (9::_)=>none
        |x=>x)=E.O b:=by
      rcases h with⟨h,_⟩|⟨ℓ,h,hh⟩
      · rw[h]
      · rw[h]
        unfold Hid at hh
        split
        · rename_i heq;cases heq;simp only[] at hh;rw[hh]
        · rename_i r heq
          cases heq
          simp at hh
        · rfl
    rcases hx' with rfl|⟨r,rfl⟩
    · exact h2
    · exact h2
  rcases h with⟨h,hb⟩|⟨ℓ,h,hh⟩
  · obtain⟨h1,h2⟩:=P3.old b (qn h) hb
    exact⟨fin _ h1 (.inl rfl),h2⟩
  · have h0:=QK (ln:=ln) (mm:=mm) (pb:=pb) (po:=po) (pk:=pk) hh h
    cases hl:ln with
    | true=>
      subst hl
      obtain⟨h1,h2⟩:=P3.old b h0 (hlim b ℓ h)
      exact⟨fin _ h1 (.inl rfl),h2⟩
    | false=>
      subst hl
      obtain⟨h1,h2⟩:=P3.far b ℓ h0
      exact⟨fin _ h1 (.inr ⟨_,rfl⟩),h2⟩
theorem zgf {L':List (List Nat)}(P3:Zc L' (E.sub bo ln mm pb po pk) E3){b j id:Nat}{s:List Nat}(hj:bo[j]?=some id)(h:E3.O b=some ([1,j]++s)):(E.out E3 bo mm).O b=some ([1,id]++s):=by
 obtain⟨h1,h2⟩:=qR hj
 show jl E bo mm E3.O b=_
 simp only[jl,h,List.cons_append,List.nil_append]
 rw[if_pos h2,h1]
theorem zdn {b:Nat}{s:List Nat}(hmm:bo.length<mm)(h:E3.O b=some ([1,bo.length]++s)):(E.out E3 bo mm).O b=some ([9,0]++s):=by
 show jl E bo mm E3.O b=_
 simp only[jl,h,List.cons_append,List.nil_append]
 rw[if_neg (Nat.lt_irrefl _),if_pos hmm]
theorem zit {b j:Nat}{s:List Nat}(hm:bo.length≤mm)(hmm:mm≤j)(h:E3.O b=some ([1,j]++s)):(E.out E3 bo mm).O b=some ([1,E.n+(j - mm)]++s):=by
 show jl E bo mm E3.O b=_
 simp only[jl,h,List.cons_append,List.nil_append]
 rw[if_neg (by omega),if_neg (by omega)]
theorem zis {b:Nat}{s:List Nat}(h:E3.O b=some ([3]++s)):(E.out E3 bo mm).O b=some ([9,1]++s):=by
 show jl E bo mm E3.O b=_
 simp only[jl,h,List.cons_append,List.nil_append]
theorem zge (hlim:∀b q,E.O b=some q→b<E.w.heap.size){L':List (List Nat)}(P3:Zc L' (E.sub bo false mm pb po pk) E3){b:Nat}(h:E3.O b=none):(E.out E3 bo mm).O b=none:=by
 show jl E bo mm E3.O b=none
 simp only[jl,h]
 split
 · rename_i id r hO
   cases hi:Jz bo id with
   |some j=>rfl
   | none=>
     have h0:=QK (ln:=false) (mm:=mm) (pb:=pb) (po:=po) (pk:=pk) (E:=E) (bo:=bo) (b:=b) (ℓ:=1::id::r) hi hO
     rw[(P3.far b _ h0).1] at h
     cases h
 · rfl
 · rename_i h1 h2
   cases hO:E.O b with
   |none=>rfl
   | some ℓ=>
     have hh:Hid bo ℓ:=by
      unfold Hid
      split
      · exact absurd hO (h1 _ _)
      · exact h2 _ hO
      · trivial
     have h0:=QK (ln:=false) (mm:=mm) (pb:=pb) (po:=po) (pk:=pk) (E:=E) (bo:=bo) (b:=b) hh hO
     rw[(P3.far b _ h0).1] at h
     cases h
theorem zdm {L':List (List Nat)}{h:Heap}(hn:E.n=h.length)(hbo:bo.all (fun i=>decide (i<h.length))=true)(hm:bo.length≤mm)(h3:mm≤E3.n)(P3:Zc L' (E.sub bo ln mm pb po pk) E3):YP E3 (E.out E3 bo mm) (ZK bo mm h.length):=fun j id hg hj=>by
 unfold ZK at hg
 split at hg
 · rename_i hlt
   obtain⟨h1,h2⟩:=qR hg
   have hid:id<E.n:=by
    have:=List.all_eq_true.1 hbo id (List.mem_of_getElem? hg)
    rw[hn];exact of_decide_eq_true this
   obtain⟨e1,e2,e3⟩:=P3.ids.2 j (show j<mm by omega)
   refine⟨show id<E.n+(E3.n - mm) by omega,?_,?_,?_⟩
   · show(if id<E.n then E.ρ id else _)=_
     rw[if_pos hid,e1]
     show _=(if j<bo.length then E.ρ (bo.getD j 0) else _)
     rw[if_pos hlt,h1]
   · show(if id<E.n then E.β id else _)=_
     rw[if_pos hid,e2]
     show _=(if j<bo.length then E.β (bo.getD j 0) else _)
     rw[if_pos hlt,h1]
   · show(if id<E.n then E.κ id else _)=_
     rw[if_pos hid,e3]
     show _=(if j<bo.length then E.κ (bo.getD j 0) else _)
     rw[if_pos hlt,h1]
 · split at hg
   · cases hg
   · rename_i h1 h2
     cases hg
     have e:mm+(h.length+(j - mm) - h.length)=j:=by omega
     refine⟨show h.length+(j - mm)<E.n+(E3.n - mm) by omega,?_,?_,?_⟩
     · show(if h.length+(j - mm)<E.n then E.ρ _ else E3.ρ (mm+(h.length+(j - mm) - E.n)))=_
       rw[if_neg (by omega),hn,e]
     · show(if h.length+(j - mm)<E.n then E.β _ else E3.β (mm+(h.length+(j - mm) - E.n)))=_
       rw[if_neg (by omega),hn,e]
     · show(if h.length+(j - mm)<E.n then E.κ _ else E3.κ (mm+(h.length+(j - mm) - E.n)))=_
       rw[if_neg (by omega),hn,e]
theorem zgd (hlim:∀b q,E.O b=some q→b<E.w.heap.size)(hm:bo.length≤mm)(h3:mm≤E3.n)(P3:Zc (zt bo L) (E.sub bo ln mm pb po pk) E3):Zc L E (E.out E3 bo mm) where
 size:=P3.size
 os:=P3.os
 tape:=P3.tape
 output:=P3.output
 old b hb hs:=by
  obtain⟨h1,h2⟩:=Ja hlim P3 (.inl ⟨hb,hs⟩)
  exact⟨h1.trans hb,h2⟩
 far b r hb:=by
  obtain⟨h1,h2⟩:=Ja hlim P3 (.inr ⟨_,hb,trivial⟩)
  exact⟨h1.trans hb,h2⟩
 farB b r hb:=by
  have hb':jl E bo mm E3.O b=some (2::r):=hb
  unfold jl at hb'
  split at hb'
  · split at hb'
    · cases hb'
    · split at hb'<;>cases hb'
  · cases hb'
  · split at hb'
    · split at hb'<;>cases hb'
    · cases hb'
    · exact hb'
 ids:=⟨show E.n≤E.n+(E3.n - mm) by omega,fun id hid=>⟨if_pos hid,if_pos hid,if_pos hid⟩⟩
 keep b r hr hb hs:=by
  have hid:Hid bo r→((E.out E3 bo mm).O b=some r∨(E.out E3 bo mm).O b=none)∧(E.out E3 bo mm).w.heap[b]?=E.w.heap[b]?:=fun hh=>by
   obtain⟨h1,h2⟩:=Ja hlim P3 (.inr ⟨_,hb,hh⟩)
   exact⟨.inl (h1.trans hb),h2⟩
  match r,hr,hb,hid with
  |[],hr,_,_=>rcases hr.2 with h|h<;>cases h
  | x :: r, hr,hb,hid=>
    have hx:x=0∨x=1:=by
     rcases hr.2 with h|h
     · exact .inl (by simpa using h)
     · exact .inr (by simpa using h)
    rcases hx with rfl|rfl
    · exact hid trivial
    · cases r with
      |nil=>exact hid trivial
      | cons id s=>
        cases hi:Jz bo id with
        |none=>exact hid hi
        | some j=>
          have hw:Wat (zt bo L) (1::j::s):=⟨yd hi hr.1,.inr rfl⟩
          have hO:(E.sub bo ln mm pb po pk).O b=some (1::j::s):=kV hi hb
          obtain⟨h1,h2⟩:=P3.keep b _ hw hO hs
          refine⟨?_,h2⟩
          rcases h1 with h1|h1
          · exact .inl (zgf P3 (wS hi) h1)
          · refine .inr ?_
            show jl E bo mm E3.O b=none
            simp only[jl,h1,hb,hi]
theorem ziu (hlim:∀b q,E.O b=some q→b<E.w.heap.size){L':List (List Nat)}(P3:Zc L' (E.sub bo ln mm pb po pk) E3)(hl3:∀b q,E3.O b=some q→b<E3.w.heap.size):∀b q,(E.out E3 bo mm).O b=some q→b<E3.w.heap.size:=fun b q h=>by
 have h':jl E bo mm E3.O b=some q:=h
 cases hO:E3.O b with
 |some ℓ=>exact hl3 b ℓ hO
 | none=>
   unfold jl at h'
   rw[hO] at h'
   simp only[] at h'
   cases hE:E.O b with
   |none=>rw[hE] at h';simp at h'
   |some ℓ=>exact Nat.lt_of_lt_of_le (hlim b ℓ hE) P3.size
theorem zK.hrel (R:zK E N V st tm):KG E st.h:=⟨R.num,R.lim,R.objs⟩
end
end Go.Ga

namespace Go.Ga
open Go
def vw1 (h:Heap)(bo:List Nat)(ln:Bool):zc→zc
 | .ptr id c=>match Jz bo id with
   |some j=> .ptr j c
   | none=>match ln,h[id]? with
     |true,some (some cs)=> .ia ((zc.renL (Jz bo) (zc.freezeL cs)).drop c)
     |_,_=> .dead
 | .sl id off len sz=>match Jz bo id with
   |some j=> .sl j off len sz
   | none=>match ln,h[id]? with
     |true,some (some cs)=>if 0<sz∧off+len*sz≤cs.length then .imm sz (((zc.renL (Jz bo) (zc.freezeL cs)).drop off).take (len*sz)) else .dead
     |_,_=> .dead
 |A=>bif A.copyable then A.ren (Jz bo) else bif ln then A.freeze.ren (Jz bo) else .dead
def vwV (h:Heap)(bo:List Nat)(ln:Bool):zc→zc
 | .agg cs=>bif (zc.agg cs).copyable then .agg (cs.map (vw1 h bo ln)) else vw1 h bo ln (.agg cs)
 |A=>vw1 h bo ln A
def vf (bo:List Nat):List Nat→Bool
 |0::_=>true
 |1::id::_=>(Jz bo id).isNone
 |_=>false
def zhL (st:zb)(bo:List Nat)(ln:Bool)(x:zQ):zc:=
 match st.evA x with
 | .at_ p=>match ln&&vf bo p,st.at p with
   |true,some B=>B.freeze.ren (Jz bo)
   |_,_=> .dead
 | .addr p c=>match ln&&vf bo p,st.at p with
   |true,some (.own _ cs)=> .ia ((zc.renL (Jz bo) (zc.freezeL cs)).drop c)
   |_,_=> .dead
 |A=>vwV st.h bo ln A
section
variable {L:List (List Nat)} {E E3:Env} {N:Nat} {V:List Nat} {st:zb} {tm:Array Value} {bo:List Nat} {ln:Bool} {mm pb po pk:Nat}
theorem KL {p s:List Nat}(h:vf bo p=true):Hid bo (p++s):=by
 unfold vf at h
 split at h
 · trivial
 · exact Option.isNone_iff_eq_none.1 h
 · cases h
theorem q9 (hmm:bo.length≤mm){p:List Nat}(hp:vf bo p=true){q:Option (List Nat)}{A:zc}{v:Value}(h:VRel E q A v)(hq:q=none∨∃r,q=some (p++r))(q':Option (List Nat)):
    VRel (E.sub bo true mm pb po pk) q' (A.freeze.ren (Jz bo)) v:=
  h.renF (p:=p) (QJ hmm) (Nat.le_refl _) (fun _ h _=>⟨qn h,rfl⟩) (fun _ s h _=>⟨QK (KL hp) h,rfl⟩) hq q'
theorem zfD (hmm:bo.length≤mm){A:zc}{v:Value}(h:VRel E none A v)(q':Option (List Nat)):VRel (E.sub bo ln mm pb po pk) q' (A.ren (Jz bo)) v:=
 h.renN (QJ hmm) (Nat.le_refl _) (fun _ h _=>⟨qn h,rfl⟩) q'
theorem Ww (hmm:bo.length≤mm)(H:KG E st.h){q:Option (List Nat)}{A:zc}{v:Value}(h:VRel E q A v)(hq:q=none∨∃i r,q=some ([0,i]++r))(q':Option (List Nat)):
    VRel (E.sub bo ln mm pb po pk) q' (vw1 st.h bo ln A) v:=by
  have gen:(A.copyable=true∨ln=true∨ln=false)→VRel (E.sub bo ln mm pb po pk) q' (bif A.copyable then A.ren (Jz bo) else bif ln then A.freeze.ren (Jz bo) else .dead) v:=fun _=>by
    cases hc:A.copyable with
    |true=>exact zfD hmm (h.copy none hc) q'
    | false=>
      cases ln with
      |false=>exact .dead _ _
      | true=>
        rcases hq with rfl|⟨i,r,rfl⟩
        · exact q9 hmm (p:=[0,0]) rfl h (.inl rfl) q'
        · exact q9 hmm (p:=[0,i]) rfl h (.inr ⟨r,rfl⟩) q'
  have gen':=gen (by cases ln<;>simp)
  cases A with
  | ptr id c=>
    simp only[vw1]
    have h0:=VRel.renPtr (po':=q') (QJ (ln:=ln) (pb:=pb) (po:=po) (pk:=pk) hmm) h
    cases hi:Jz bo id with
    |some j=>simp only[zc.ren,hi] at h0;exact h0
    | none=>
      simp only[]
      split
      · rename_i cs hcs
        obtain⟨hO,arr,T,f,hb,ha,hl,hf,hv⟩:=H.objs id cs hcs
        cases h with
        | ptr _ _ _ hn=>
          refine VRel.iaDrop (.ia _ _ _ _ f (QK (ln:=true) (ℓ:=[1,id]) hi hO) (ZV hb) (fun k A hA=>?_) fun k A hA=>?_) c
          · obtain⟨B,hB,_⟩:=zz hA
            obtain⟨C,hC,_⟩:=Zb hB
            exact(zu hb).trans (hf k C hC)
          · obtain⟨B,hB,rfl⟩:=zz hA
            obtain⟨C,hC,rfl⟩:=Zb hB
            exact q9 hmm (p:=[1,id]) (by simp[vf,hi]) (hv k C hC) (.inr ⟨_,rfl⟩) none
      · exact .dead _ _
  | sl id off len sz=>
    simp only[vw1]
    have h0:=VRel.renSl (po':=q') (QJ (ln:=ln) (pb:=pb) (po:=po) (pk:=pk) hmm) h
    cases hi:Jz bo id with
    |some j=>simp only[zc.ren,hi] at h0;exact h0
    | none=>
      simp only[]
      split
      · rename_i cs hcs
        split
        · rename_i hfit
          obtain⟨hO,arr,T,f,hb,ha,hl,hf,hv⟩:=H.objs id cs hcs
          cases h with
          | sl _ _ _ _ cap _ hn hc hm hk=>
            have hget:∀k A,(((zc.renL (Jz bo) (zc.freezeL cs)).drop off).take (len*sz))[k]?=some A→∃C,cs[off+k]?=some C∧A=C.freeze.ren (Jz bo):=fun k A hA=>by
              obtain⟨hA,_⟩:=WK _ _ hA
              obtain⟨B,hB,rfl⟩:=zz hA
              obtain⟨C,hC,rfl⟩:=Zb hB
              exact⟨C,hC,rfl⟩
            refine .imm _ _ _ _ _ len cap (fun k=>f (off+k)) (QK (ln:=true) (ℓ:=[1,id]) hi hO) (ZV hb) ⟨hfit.1,?_⟩ hc (fun k A hA=>?_) fun k A hA=>?_
            · rw[List.length_take,List.length_drop,zG,ZL];omega
            · obtain⟨C,hC,_⟩:=hget k A hA
              rw[Nat.add_assoc]
              exact(zu hb).trans (hf _ C hC)
            · obtain⟨C,hC,rfl⟩:=hget k A hA
              exact q9 hmm (p:=[1,id]) (by simp[vf,hi]) (hv _ C hC) (.inr ⟨_,rfl⟩) none
        · exact .dead _ _
      · exact .dead _ _
  |_=>exact gen'
theorem y9 (hmm:bo.length≤mm)(H:KG E st.h){q:Option (List Nat)}{A:zc}{v:Value}(h:VRel E q A v)(hq:q=none∨∃i r,q=some ([0,i]++r))(q':Option (List Nat)):
    VRel (E.sub bo ln mm pb po pk) q' (vwV st.h bo ln A) v:=by
  unfold vwV
  split
  · rename_i cs
    cases hc:(zc.agg cs).copyable with
    |false=>exact Ww hmm H h hq q'
    | true=>
      have h0:=h.copy none hc
      cases h0 with
      | agg _ _ vs hs hh=>
        refine .agg _ _ vs (by rw[List.length_map];exact hs) fun k A v h1 h2=>?_
        rw[List.getElem?_map] at h1
        obtain⟨B,hB,rfl⟩:=Option.map_eq_some_iff.1 h1
        exact Ww hmm H (hh k B v hB h2) (.inl rfl) _
  · exact Ww hmm H h hq q'
end
section
variable {L:List (List Nat)} {E E3:Env} {N:Nat} {V:List Nat} {st:zb} {a:Act} {bo:List Nat} {ln:Bool} {mm pb po pk:Nat}
theorem zcX (hmm:bo.length≤mm)(R:zK E N V st a.tmps){x:Operand}{ox:zQ}(hx:zv x=some ox)(q':Option (List Nat)):VRel (E.sub bo ln mm pb po pk) q' (zhL st bo ln ox) (a.eval x):=by
  unfold zhL
  split
  · rename_i p hA
    split
    · rename_i B hok hB
      simp only[Bool.and_eq_true] at hok
      obtain⟨rfl,hok⟩:=hok
      obtain⟨B',v,h1,h2,h3,h4,h5⟩:=ut R hx hA
      rw[hB] at h1
      cases h1
      rw[h4]
      exact q9 hmm hok h5 (.inr ⟨[],by simp⟩) q'
    · exact .dead _ _
  · rename_i p c hA
    split
    · rename_i hd cs hok hB
      simp only[Bool.and_eq_true] at hok
      obtain⟨rfl,hok⟩:=hok
      obtain⟨hd',cs',v,b,o',h1,h2,h3,h4,h5⟩:=qu R hx hA
      rw[hB] at h1
      cases h1
      rw[h4]
      have key:∀(arr:Array Value) (T:TypeId) (f:Nat→Value),E.O b=some p→E.w.heap[b]?=some (.cells arr T (0,0))→(∀k A,cs[k]?=some A→arr[o'+k]?=some (f k))→(∀(k:Nat) A,cs[k]?=some A→VRel E (some (p++[k])) A (f k))→
          VRel (E.sub bo true mm pb po pk) q' (.ia ((zc.renL (Jz bo) (zc.freezeL cs)).drop c)) (.pointer (some ⟨b,o'+c,none⟩)):=fun arr T f hO hb hf hv=>by
        refine VRel.iaDrop (.ia _ _ _ _ f (QK (ln:=true) (ℓ:=p) (by simpa using KL (s:=[]) hok) hO) (ZV hb) (fun k A hA=>?_) fun k A hA=>?_) c
        · obtain⟨B,hB,_⟩:=zz hA
          obtain⟨C,hC,_⟩:=Zb hB
          exact(zu hb).trans (hf k C hC)
        · obtain⟨B,hB,rfl⟩:=zz hA
          obtain⟨C,hC,rfl⟩:=Zb hB
          exact q9 hmm hok (hv k C hC) (.inr ⟨_,rfl⟩) none
      cases h5 with
      |own _ sz _ _ _ len cap arr T f hO hb hl hc hm ha hf hv=>cases h3;exact key arr T f hO hb hf hv
      |ownNil=>cases h3
      |box _ _ _ arr T f hO hb ha hf hv=>cases h3;exact key arr T f hO hb (fun k A h=>by rw[Nat.zero_add];exact hf k A h) hv
    · exact .dead _ _
  · rename_i A h1 h2
    generalize hA:st.evA ox=A at h1 h2
    have hn:A.isAlias=false∨A= .dead:=by
      cases A<;>first
        |exact .inl rfl
        |exact .inr rfl
        |exact absurd rfl (h1 _)
        |exact absurd rfl (h2 _ _)
    rcases hn with hn|rfl
    · obtain⟨v,po',h3,h4,h5⟩:=zN R hx (ZG hA hn) hn
      rw[h3]
      cases ox with
      | t i=>
        obtain⟨_,rfl⟩:=h5 i rfl
        exact y9 hmm R.hrel h4 (.inr ⟨i,[],rfl⟩) q'
      | c u=>
        cases hA
        cases h4
        exact .sc _ _
      | f g=>
        cases hA
        exact y9 (q:=none) hmm R.hrel (h4.copy none rfl) (.inl rfl) q'
    · cases ln<;>exact .dead _ _
end
end Go.Ga

namespace Go.Ga
open Go
def Yu (g gb:Nat→Option Nat)(h':Heap):Nat→Heap→Heap
 |_,[]=>[]
 | i,o::l=>(match g i with
   | some j=>match h'[j]? with
     |some (some cs)=>some (zc.renL gb cs)
     |_=>none
   |none=>o)::Yu g gb h' (i+1) l
def Jv :Heap→Bool
 |[]=>true
 |none::l=>Jv l
 |some cs::l=>zc.flatL cs&&Jv l
def QQ (g:Nat→Option Nat):Heap→Heap
 |[]=>[]
 |none::l=>none::QQ g l
 |some cs::l=>some (zc.renL g cs)::QQ g l
theorem JR (g gb:Nat→Option Nat)(h':Heap):∀(i:Nat) (l:Heap),(Yu g gb h' i l).length=l.length
 |_,[]=>rfl
 |i,o::l=>by simp[Yu,JR g gb h' (i+1) l]
theorem yr (g gb:Nat→Option Nat)(h':Heap):∀(i:Nat) (l:Heap) (k:Nat),(Yu g gb h' i l)[k]?=(l[k]?).map fun o=>match g (i+k) with
    | some j=>match h'[j]? with
      |some (some cs)=>some (zc.renL gb cs)
      |_=>none
    |none=>o
  |_,[],k=>by simp[Yu]
  |i,o::l,0=>by simp[Yu]
  | i,o::l,k+1=>by
    simp only[Yu,List.getElem?_cons_succ,yr g gb h' (i+1) l k]
    rw[show i+1+k=i+(k+1) by omega]
theorem wL (g:Nat→Option Nat):∀l:Heap,(QQ g l).length=l.length
 |[]=>rfl
 |none::l=>by simp[QQ,wL g l]
 |some cs::l=>by simp[QQ,wL g l]
theorem wM (g:Nat→Option Nat):∀(l:Heap) (k:Nat) {cs:List zc},(QQ g l)[k]?=some (some cs)→∃cs',l[k]?=some (some cs')∧cs=zc.renL g cs'
 |[],k,_,h=>by simp[QQ] at h
 |none::l,0,_,h=>by simp[QQ] at h
 |some cs::l,0,_,h=>by simp[QQ] at h;exact⟨cs,rfl,h.symm⟩
 |none::l,k+1,_,h=>wM g l k (by simpa[QQ] using h)
 |some cs::l,k+1,_,h=>wM g l k (by simpa[QQ] using h)
theorem Yk :∀{l:Heap} {k:Nat} {cs:List zc},Jv l=true→l[k]?=some (some cs)→zc.flatL cs=true
 |[],_,_,_,h=>by simp at h
 |none::l,0,_,_,h=>by simp at h
 |some cs::l,0,_,hf,h=>by simp at h;subst h;simp only[Jv,Bool.and_eq_true] at hf;exact hf.1
 |none::l,k+1,_,hf,h=>Yk (l:=l) (k:=k) hf (by simpa using h)
 |some cs::l,k+1,_,hf,h=>by simp only[Jv,Bool.and_eq_true] at hf;exact Yk (l:=l) (k:=k) hf.2 (by simpa using h)
def gone (bo:List Nat)(L:List (List Nat))(gb:Nat→Option Nat)(h':Heap):zc→Bool
 | .at_ (1::id::c::ks)=>match Jz bo id with
   |none=>false
   | some j=> !(ks.isEmpty&&L.contains [1,id]&&match h'[j]? with
     | some (some cs)=>match cs[c]? with
       |some B=> !(B.ren gb).isAlias
       |none=>false
     |_=>false)
 | .addr (1::id::_::_) _=>(Jz bo id).isSome
 |_=>false
theorem vn {bo:List Nat}{L:List (List Nat)}{gb:Nat→Option Nat}{h':Heap}{A:zc}(h:A.isAlias=false):gone bo L gb h' A=false:=by
 cases A<;>simp[zc.isAlias] at h<;>rfl
def zb.after (st:zb)(bo:List Nat)(L:List (List Nat))(mm:Nat)(h':Heap):zb:=
 let gb:=ZK bo mm st.h.length
 let s:=st.kill (gone bo L gb h')
 {s with h:=Yu (Jz bo) gb h' 0 st.h++QQ gb (h'.drop mm)}
theorem VRel.wayP {E E':Env}{p0:List Nat}(hk:∀b q,E.O b=some (p0++q)→E'.w.heap[b]?=E.w.heap[b]?):∀(ks:List Nat) {ℓ:List Nat} {A B:zc} {v:Value},VRel E (some (p0++ℓ)) A v→A.sub ks=some B→Zl E'.w v ks=Zl E.w v ks:=by
 intro ks
 induction ks with
 |nil=>intro ℓ A B v _ _;cases v<;>simp[Zl]
 | cons k ks ih=>
   intro ℓ A B v h hB
   cases h with
   | own _ sz cs b o len cap arr T f hO hb hl hc hm ha hf h=>
     simp only[zc.sub,zc.kids] at hB
     cases hk':cs[k]? with
     |none=>simp[hk'] at hB
     | some C=>
       simp only[hk'] at hB
       have hb':=hk b ℓ hO
       simp only[Zl,zu hb,zu (hb'.trans hb),hf k C hk']
       exact ih (ℓ:=ℓ++[k]) (by simpa using h k C hk') hB
   | box _ cs b arr T f hO hb ha hf h=>
     simp only[zc.sub,zc.kids] at hB
     cases hk':cs[k]? with
     |none=>simp[hk'] at hB
     | some C=>
       simp only[hk'] at hB
       have hb':=hk b ℓ hO
       simp only[Zl,Nat.zero_add,zu hb,zu (hb'.trans hb),hf k C hk']
       exact ih (ℓ:=ℓ++[k]) (by simpa using h k C hk') hB
   | agg _ cs vs hs h=>
     simp only[zc.sub,zc.kids] at hB
     cases hk':cs[k]? with
     |none=>simp[hk'] at hB
     | some C=>
       simp only[hk'] at hB
       have hlt:k<vs.size:=by rw[hs];exact(List.getElem?_eq_some_iff.1 hk').1
       simp only[Zl]
       rw[Array.getElem?_eq_getElem hlt]
       exact ih (ℓ:=ℓ++[k]) (by simpa using h k C _ hk' (Array.getElem?_eq_getElem hlt)) hB
   | tup _ cs vs hs h=>
     simp only[zc.sub,zc.kids] at hB
     cases hk':cs[k]? with
     |none=>simp[hk'] at hB
     | some C=>
       simp only[hk'] at hB
       have hlt:k<vs.size:=by rw[hs];exact(List.getElem?_eq_some_iff.1 hk').1
       simp only[Zl]
       rw[Array.getElem?_eq_getElem hlt]
       exact ih (ℓ:=ℓ++[k]) (by simpa using h k C _ hk' (Array.getElem?_eq_getElem hlt)) hB
   |_=>simp[zc.sub,zc.kids] at hB
theorem VRel.pres {L:List (List Nat)}{E E':Env}{A:zc}{v:Value}(h:VRel E none A v)(P:Zc L E E'):VRel E' none A v:=
 h.keep P.ids P.size fun b hb=>by
  rcases hb with hb|⟨ℓ,q,hℓ,_⟩
  · obtain⟨h1,h2⟩:=P.old b hb.1 hb.2
    exact⟨h1.trans hb.1.symm,h2⟩
  · cases hℓ
section
variable {L:List (List Nat)} {E E3:Env} {N:Nat} {V:List Nat} {st:zb} {tm:Array Value} {bo:List Nat} {ln:Bool} {mm pb po pk:Nat} {h':Heap}
theorem zdy (hlim:∀b q,E.O b=some q→b<E.w.heap.size){L':List (List Nat)}(P3:Zc L' (E.sub bo ln mm pb po pk) E3){p:List Nat}(hp:∀s,Hid bo (p++s)){A:zc}{v:Value}(h:VRel E (some p) A v):VRel (E.out E3 bo mm) (some p) A v:=
 VRel.keep (E:=E) (E':=E.out E3 bo mm) ⟨show E.n≤E.n+(E3.n - mm) by omega,fun id hid=>⟨if_pos hid,if_pos hid,if_pos hid⟩⟩ P3.size h fun b hb=>by
  rcases hb with hb|⟨ℓ,q,hℓ,hO,hpre⟩
  · exact Ja hlim P3 (.inl hb)
  · cases hℓ
    obtain⟨s,rfl⟩:=hpre
    exact Ja hlim P3 (.inr ⟨_,hO,hp s⟩)
theorem UV (hlim:∀b q,E.O b=some q→b<E.w.heap.size)(hn:E.n=st.h.length)(hbo:bo.all (fun i=>decide (i<st.h.length))=true)(hm:bo.length≤mm)(h3:mm≤E3.n){L':List (List Nat)}(P3:Zc L' (E.sub bo ln mm pb po pk) E3){p q:List Nat}
    (hpq:∀b s,E3.O b=some (p++s)→(E.out E3 bo mm).O b=some (q++s)) {A:zc} (hf:ln=true→A.flat=true) {r:List Nat} {v:Value} (h:VRel E3 (some (p++r)) A v):VRel (E.out E3 bo mm) (some (q++r)) (A.ren (ZK bo mm st.h.length)) v:=by
  cases hl:ln with
  |true=>exact(h.renX (zdm hn hbo hm h3 P3) (fun b s hb=>⟨hpq b s hb,rfl⟩) (hf hl) r).2 rfl
  |false=>subst hl;exact h.renK (zdm hn hbo hm h3 P3) (Nat.le_refl _) (fun b hb _=>⟨zge hlim P3 hb,rfl⟩) (fun b s hb=>⟨hpq b s hb,rfl⟩)
theorem xm (i:Nat):(st.after bo L mm h').get i=bif gone bo L (ZK bo mm st.h.length) h' (st.get i) then .dead else st.get i:=zb.get_kill st _ i
theorem uh {i:Nat}(s:List Nat):Hid bo ([0,i]++s):=trivial
theorem Yj {id:Nat}(h:Jz bo id=none)(s:List Nat):Hid bo ([1,id]++s):=h
theorem zK.after (R : zK E N V st tm)(hnd:yD bo=true)(hbo:bo.all (fun i=>decide (i<st.h.length))=true)(hm:bo.length≤mm)(P3:Zc (zt bo L) (E.sub bo ln mm pb po pk) E3)(H3:KG E3 h')(hmm:mm≤h'.length)
    (hfl:ln=true→Jv h'=true):zK (E.out E3 bo mm) N V (st.after bo L mm h') tm:=by
  have hna:∀A:zc,A.isAlias=false→gone bo L (ZK bo mm st.h.length) h' A=false:=fun A h=>vn h
  have R1:=R.kill hna
  have h3:mm≤E3.n:=by rw[H3.num];exact hmm
  have hhid:∀id,Jz bo id=none→(st.after bo L mm h').h[id]?=st.h[id]?∨st.h[id]?=none:=fun id hid=>by
    rcases Nat.lt_or_ge id st.h.length with hlt|hge
    · left
      show(Yu _ _ _ 0 st.h++_)[id]?=_
      rw[List.getElem?_append_left (by rw[JR];exact hlt),yr]
      simp[hid]
    · exact .inr (List.getElem?_eq_none hge)
  refine⟨R1.size,R1.keys,?_,R1.disj,ziu R.lim P3 H3.lim,R1.roots,fun i=>?_,fun id cs hcs=>?_⟩
  · show E.n+(E3.n - mm)=(Yu _ _ _ 0 st.h++QQ _ (h'.drop mm)).length
    rw[List.length_append,JR,wL,List.length_drop,R.num,H3.num]
  · 
    have hway0:∀j ks B,st.at (0::j::ks)=some B→B.isAlias=false→zL (E.out E3 bo mm) tm (0::j::ks)=zL E tm (0::j::ks):=fun j ks B hB hA=>by
      cases ks with
      |nil=>simp[zL,Zl]
      | cons k ks=>
        rw[Ze] at hB
        obtain⟨v,hv,hr⟩:=(R.slots j).out (zc.sub_cons_nonalias hB)
        simp only[zL,hv]
        exact VRel.wayP (p0:=[0,j]) (E:=E) (E':=E.out E3 bo mm) (fun b q hb=>(Ja R.lim P3 (.inr ⟨_,hb,uh q⟩)).2) (k::ks) (ℓ:=[]) (by simpa using hr) hB
    have hat0:∀j ks B,st.at (0::j::ks)=some B→B.isAlias=false→(st.after bo L mm h').at (0::j::ks)=some B:=fun j ks B hB hA=>by
      rw[Ze] at hB⊢
      rw[xm]
      cases ks with
      | nil=>
        have:st.get j=B:=by simpa[zc.sub] using hB
        rw[this,hna B hA];simp[zc.sub]
      |cons k ks=>rw[hna _ (zc.sub_cons_nonalias hB)];exact hB
    have hway1:∀id c ks B,Jz bo id=none→st.at (1::id::c::ks)=some B→(st.after bo L mm h').at (1::id::c::ks)=some B∧zL (E.out E3 bo mm) tm (1::id::c::ks)=zL E tm (1::id::c::ks):=fun id c ks B hid hB=>by
      simp only[zb.at] at hB⊢
      split at hB
      · rename_i cs hcs
        have hcs':(st.after bo L mm h').h[id]?=some (some cs):=by
          rcases hhid id hid with h|h
          · rw[h];exact hcs
          · rw[h] at hcs;cases hcs
        rw[hcs']
        refine⟨hB,?_⟩
        obtain⟨hO,arr,T,f,hb,ha,hl,hf,hv⟩:=R.objs id cs hcs
        have hidn:id<E.n:=by rw[R.num];exact(List.getElem?_eq_some_iff.1 hcs).1
        have hb':=(Ja R.lim P3 (.inr ⟨_,hO,Yj hid []⟩)).2
        simp only[zc.sub,zc.kids] at hB
        cases hk:cs[c]? with
        |none=>simp[hk] at hB
        | some D=>
          simp only[hk] at hB
          have e1:(E.out E3 bo mm).ρ id=E.ρ id:=if_pos hidn
          have e2:(E.out E3 bo mm).β id=E.β id:=if_pos hidn
          simp only[zL,Env.ptr,Zl,e1,e2,zu hb,zu (show(E.out E3 bo mm).w.heap[E.ρ id]?=_ from hb'.trans hb),hf c D hk]
          exact VRel.wayP (p0:=[1,id]) (E:=E) (E':=E.out E3 bo mm) (fun b q hb=>(Ja R.lim P3 (.inr ⟨_,hb,Yj hid q⟩)).2) ks (ℓ:=[c]) (hv c D hk) hB
      · cases hB
    have hR:=R.slots i
    rw[xm]
    cases hg:gone bo L (ZK bo mm st.h.length) h' (st.get i) with
    |true=>trivial
    | false =>
      simp only[cond_false]
      generalize hAi:st.get i=A at hg hR
      have val:A.isAlias=false→jx (E.out E3 bo mm) (st.after bo L mm h') tm i A:=fun hA=>by
        obtain⟨v,hv,hr⟩:=hR.out hA
        exact jx.mk hv (zdy R.lim P3 (p:=[0,i]) uh hr)
      cases A with
      |dead=>trivial
      | at_ p =>
        obtain⟨B,v,h1,h2,h3',h4⟩:=hR
        match p,zO h1,h1,h3',hg with
        |0::j::ks,_,h1,h3',_=>exact⟨B,v,hat0 j ks B h1 h2,h2,(hway0 j ks B h1 h2).trans h3',h4⟩
        | 1 :: id ::c::ks,_,h1,h3',hg=>
          simp only[gone] at hg
          split at hg
          · rename_i hid
            obtain⟨h5,h6⟩:=hway1 id c ks B hid h1
            exact⟨B,v,h5,h2,h6.trans h3',h4⟩
          · rename_i j hid
            simp only[Bool.not_eq_false',Bool.and_eq_true,List.isEmpty_iff,List.contains_iff_mem] at hg
            obtain⟨⟨rfl,hL⟩,hg⟩:=hg
            split at hg
            · rename_i cs' hcs'
              split at hg
              · rename_i B' hB'
                simp only[zb.at] at h1
                split at h1
                · rename_i cs hcs
                  obtain⟨hO,arr,T,f,hb,ha,hl,hf,hv⟩:=R.objs id cs hcs
                  have hidl:id<st.h.length:=(List.getElem?_eq_some_iff.1 hcs).1
                  have hidn:id<E.n:=by rw[R.num];exact hidl
                  have hw:Wat (zt bo L) [1,j]:=⟨yd hid hL,.inr rfl⟩
                  have hO2:(E.sub bo ln mm pb po pk).O (E.ρ id)=some [1,j]:=kV (s:=[]) hid hO
                  have hb':=(P3.keep _ _ hw hO2 (ZV hb)).2
                  refine⟨B'.ren (ZK bo mm st.h.length),v,?_,by simpa using hg,?_,h4⟩
                  · have e:(st.after bo L mm h').h[id]?=some (some (zc.renL (ZK bo mm st.h.length) cs')):=by
                      show(Yu _ _ _ 0 st.h++_)[id]?=_
                      rw[List.getElem?_append_left (by rw[JR];exact hidl),yr,hcs]
                      simp[hid,hcs']
                    simp only[zb.at,e,zc.sub,zc.kids,Xt,hB',Option.map_some]
                  · rw[←h3']
                    have e1:(E.out E3 bo mm).ρ id=E.ρ id:=if_pos hidn
                    have e2:(E.out E3 bo mm).β id=E.β id:=if_pos hidn
                    have e3:(E.out E3 bo mm).w.cell? ⟨E.ρ id,E.β id+c,none⟩=E.w.cell? ⟨E.ρ id,E.β id+c,none⟩:=jn hb'
                    simp only[zL,Env.ptr,Zl,e1,e2,e3]
                · cases h1
              · cases hg
            · cases hg
      | addr p k=>
        obtain⟨hd,cs,v,b,o,h1,h2,h3',h4⟩:=hR
        match p,zO h1,h1,h2,hg with
        |0::j::ks,_,h1,h2,_=>exact⟨hd,cs,v,b,o,hat0 j ks _ h1 rfl,(hway0 j ks _ h1 rfl).trans h2,h3',h4⟩
        | 1::id::c::ks,_,h1,h2,hg=>
          have hid:Jz bo id=none:=by simpa[gone] using hg
          obtain⟨h5,h6⟩:=hway1 id c ks _ hid h1
          exact⟨hd,cs,v,b,o,h5,h6.trans h2,h3',h4⟩
      |_=>exact val rfl
  · 
    have hcs':(Yu (Jz bo) (ZK bo mm st.h.length) h' 0 st.h++QQ (ZK bo mm st.h.length) (h'.drop mm))[id]?=some (some cs):=hcs
    have back:∀j cs0,h'[j]?=some (some cs0)→(∀b s,E3.O b=some ([1,j]++s)→(E.out E3 bo mm).O b=some ([1,id]++s))→(E.out E3 bo mm).ρ id=E3.ρ j→(E.out E3 bo mm).β id=E3.β j→(E.out E3 bo mm).κ id=E3.κ j→
        QA (E.out E3 bo mm) id (zc.renL (ZK bo mm st.h.length) cs0):=fun j cs0 hj hO' e1 e2 e3=>by
      obtain⟨hO,arr,T,f,hb,ha,hl,hf,hv⟩:=H3.objs j cs0 hj
      refine⟨?_,arr,T,f,?_,?_,?_,fun k A hk=>?_,fun k A hk=>?_⟩
      · rw[e1];simpa using hO' _ [] (by simpa using hO)
      · rw[e1];exact hb
      · rw[e2,e3];exact ha
      · rw[e3,zG];exact hl
      · obtain⟨B,hB,_⟩:=zz hk
        rw[e2];exact hf k B hB
      · obtain⟨B,hB,rfl⟩:=zz hk
        exact UV R.lim R.num hbo hm h3 P3 hO' (fun hl=>ji (Yk (hfl hl) hj) hB) (hv k B hB)
    rcases Nat.lt_or_ge id st.h.length with hlt|hge
    · rw[List.getElem?_append_left (by rw[JR];exact hlt),yr,List.getElem?_eq_getElem hlt] at hcs'
      simp only[Option.map_some,Option.some.injEq,Nat.zero_add] at hcs'
      have hidn:id<E.n:=by rw[R.num];exact hlt
      cases hid:Jz bo id with
      | none=>
        rw[hid] at hcs'
        simp only[] at hcs'
        obtain⟨hO,arr,T,f,hb,ha,hl,hf,hv⟩:=R.objs id cs (by rw[List.getElem?_eq_getElem hlt,hcs'])
        have e1:(E.out E3 bo mm).ρ id=E.ρ id:=if_pos hidn
        have e2:(E.out E3 bo mm).β id=E.β id:=if_pos hidn
        have e3:(E.out E3 bo mm).κ id=E.κ id:=if_pos hidn
        obtain⟨h5,h6⟩:=Ja R.lim P3 (.inr ⟨_,hO,Yj hid []⟩)
        refine⟨by rw[e1];exact h5.trans hO,arr,T,f,by rw[e1];exact h6.trans hb,by rw[e2,e3];exact ha,by rw[e3];exact hl,fun k A hk=>by rw[e2];exact hf k A hk,fun k A hk=>?_⟩
        exact zdy R.lim P3 (fun s=>by rw[List.append_assoc];exact Yj hid _) (hv k A hk)
      | some j=>
        rw[hid] at hcs'
        simp only[] at hcs'
        split at hcs'
        · rename_i cs0 hj
          have hcs'':=Option.some.inj hcs'
          subst hcs''
          obtain⟨g1,g2⟩:=qR (wS hid)
          obtain⟨x1,x2,x3⟩:=P3.ids.2 j (show j<mm by omega)
          refine back j cs0 hj (fun b s hb=>zgf P3 (wS hid) hb) ?_ ?_ ?_
          · show(if id<E.n then E.ρ id else _)=_
            rw[if_pos hidn,x1]
            show _=(if j<bo.length then E.ρ (bo.getD j 0) else _)
            rw[if_pos g2,g1]
          · show(if id<E.n then E.β id else _)=_
            rw[if_pos hidn,x2]
            show _=(if j<bo.length then E.β (bo.getD j 0) else _)
            rw[if_pos g2,g1]
          · show(if id<E.n then E.κ id else _)=_
            rw[if_pos hidn,x3]
            show _=(if j<bo.length then E.κ (bo.getD j 0) else _)
            rw[if_pos g2,g1]
        · cases hcs'
    · rw[List.getElem?_append_right (by rw[JR];exact hge),JR] at hcs'
      obtain⟨cs0,hj,rfl⟩:=wM _ _ _ hcs'
      rw[List.getElem?_drop] at hj
      have hge':¬id<E.n:=by rw[R.num];omega
      refine back (mm+(id - st.h.length)) cs0 hj (fun b s hb=>?_) ?_ ?_ ?_
      · have:=zit (E:=E) (bo:=bo) hm (by omega) hb
        rw[this,R.num]
        have e:st.h.length+(mm+(id - st.h.length) - mm)=id:=by omega
        rw[e]
      · show(if id<E.n then _ else E3.ρ (mm+(id - E.n)))=_
        rw[if_neg hge',R.num]
      · show(if id<E.n then _ else E3.β (mm+(id - E.n)))=_
        rw[if_neg hge',R.num]
      · show(if id<E.n then _ else E3.κ (mm+(id - E.n)))=_
        rw[if_neg hge',R.num]
end
end Go.Ga

namespace Go.Ga
open Go
section
variable {L:List (List Nat)} {E E3:Env} {N:Nat} {V:List Nat} {st:zb} {tm:Array Value} {bo:List Nat} {ln:Bool} {mm pb po pk:Nat} {h':Heap}
theorem zK.fill (R:zK E N V st tm){p:List Nat}{B:zc}{u:Value}(hB:B.isAlias=false)(h:st.at p=some .dead)(hk:∀i ks,p=0::i::ks→i∈V∨i∈st.ts.map (·.1))(hu:zL E tm p=some u)(h':VRel E (some p) B u):
    zK E N V (st.setAt p B) tm:=by
  have U:Zq p E E:=⟨Nat.le_refl _,E.ids_refl,fun _ h _=>⟨h,rfl⟩,fun _ _ h _=>⟨h,rfl⟩⟩
  match p,zO h,h,hk,hu,h',U with
  | 0 :: i :: ks,_,h,hk,hu,h',U=>
    have hki:=hk i ks rfl
    have key:∀A:zc,(st.set i A).get i=A:=fun A=>st.get_set A (by
      rcases hki with h|h
      · exact .inr (jz.2 (by rw[R.keys];exact h))
      · exact .inl (jz.2 h))
    have hget:∀j,(st.setAt (0::i::ks) B).get j=if i=j then(st.get i).setSub ks B else st.get j:=fun j=>by
      show(st.set i _).get j=_
      by_cases hij:i=j
      · subst hij;rw[if_pos rfl];exact key _
      · rw[if_neg hij];exact st.get_set_ne _ hij
    have hh:(st.setAt (0::i::ks) B).h=st.h:=(zb.set_keys _ _ _).2.2
    have hts:(st.setAt (0::i::ks) B).ts.map (·.1)=st.ts.map (·.1):=(zb.set_keys _ _ _).2.1
    have hslot:∃va,tm[i]?=some va∧VRel E (some [0,i]) ((st.get i).setSub ks B) va:=by
      rw[Ze] at h
      cases ks with
      | nil=>
        have e:(st.get i).setSub [] B=B:=by cases st.get i<;>rfl
        rw[e]
        simp only[zL] at hu
        cases hv:tm[i]? with
        |none=>rw[hv] at hu;cases hu
        | some va=>
          rw[hv] at hu
          simp only[] at hu
          have:va=u:=by cases va<;>simpa[Zl] using hu
          subst this
          exact⟨va,rfl,h'⟩
      | cons k ks=>
        obtain⟨va,hva,hra⟩:=(R.slots i).out (zc.sub_cons_nonalias h)
        have hu':Zl E.w va (k::ks)=some u:=by simpa[zL,hva] using hu
        exact⟨va,hva,VRel.turn (k::ks) (ℓ:=[0,i]) U hra h hu' h'⟩
    obtain⟨va,hva,hra⟩:=hslot
    have hna:((st.get i).setSub ks B).isAlias=false:=by
      rw[Ze] at h
      cases ks with
      | nil=>
        have e:(st.get i).setSub [] B=B:=by cases st.get i<;>rfl
        rw[e];exact hB
      | cons k ks=>
        generalize st.get i=X at h
        cases X<;>simp[zc.sub,zc.kids] at h<;>rfl
    refine⟨R.size,(zb.set_keys _ _ _).1.trans R.keys,by rw[R.num,hh],by rw[hts];exact R.disj,R.lim,fun j A r hA hr=>?_,fun j=>?_,fun id cs hcs=>?_⟩
    · rw[hts]
      rw[hget] at hA
      by_cases hij:i=j
      · subst hij
        rw[if_pos rfl] at hA
        subst hA
        cases hx:(st.get i).setSub ks B<;>rw[hx] at hr hna<;>first|(cases hr;done)|(cases hna;done)
      · rw[if_neg hij] at hA;exact R.roots j A r hA hr
    · rw[hget]
      by_cases hij:i=j
      · subst hij;rw[if_pos rfl];exact jx.mk hva hra
      · rw[if_neg hij]
        refine jx.carry (R.slots j) rfl (fun v _ h=>h) fun q hq C hC hCA=>⟨?_,rfl⟩
        match q,zO hC,hC with
        | 0 ::l::js,_,hC=>
          rw[Ze] at hC⊢
          rw[hget]
          by_cases hil:i=l
          · subst hil
            rw[if_pos rfl]
            rw[Ze] at h
            obtain⟨C',c1,c2,c3,c4⟩:=QN ks js B h hC (fun⟨hx,hne⟩=>by
              obtain⟨s,rfl⟩:=hx
              rw[sub_append,h] at hC
              cases s with
              |nil=>exact hne (by simp)
              |cons k s=>simp[zc.sub,zc.kids] at hC)
            by_cases hjk:js=ks
            · subst hjk;rw[h] at hC;cases hC;cases hCA
            · rcases c4 hjk with rfl|⟨hd,cs,cs',rfl,rfl⟩|⟨cs,cs',rfl,rfl⟩|⟨cs,cs',rfl,rfl⟩
              · exact⟨_,c1,hCA,fun hd cs e=>⟨hd,cs,e⟩⟩
              · exact⟨_,c1,rfl,fun _ _ _=>⟨_,_,rfl⟩⟩
              · exact⟨_,c1,rfl,fun _ _ e=>by cases e⟩
              · exact⟨_,c1,rfl,fun _ _ e=>by cases e⟩
          · rw[if_neg hil];exact⟨C,hC,hCA,fun hd cs e=>⟨hd,cs,e⟩⟩
        |1::id::c::js,_,hC=>exact⟨C,by simp only[zb.at,hh];exact hC,hCA,fun hd cs e=>⟨hd,cs,e⟩⟩
    · rw[hh] at hcs;exact R.objs id cs hcs
  | 1 :: id ::k::ks,_,h,_,hu,h',U=>
    have h0:=h
    simp only[zb.at] at h
    split at h
    · rename_i cs hcs
      have hidl:id<st.h.length:=(List.getElem?_eq_some_iff.1 hcs).1
      have hidn:id<E.n:=by rw[R.num];exact hidl
      simp only[zc.sub,zc.kids] at h
      cases hk:cs[k]? with
      |none=>simp[hk] at h
      | some D=>
        simp only[hk] at h
        have hkl:k<cs.length:=(List.getElem?_eq_some_iff.1 hk).1
        have hh:(st.setAt (1::id::k::ks) B).h=st.h.set id (some (cs.set k (D.setSub ks B))):=by simp only[zb.setAt,hcs,hk]
        have hvs:(st.setAt (1::id::k::ks) B).vs=st.vs:=by simp only[zb.setAt,hcs]
        have hts:(st.setAt (1::id::k::ks) B).ts=st.ts:=by simp only[zb.setAt,hcs]
        have hget:∀j,(st.setAt (1::id::k::ks) B).get j=st.get j:=fun j=>by simp only[zb.get,hvs,hts]
        refine⟨R.size,by rw[hvs];exact R.keys,by rw[R.num,hh,List.length_set],by rw[hts];exact R.disj,R.lim,fun j A r hA hr=>by rw[hget] at hA;rw[hts];exact R.roots j A r hA hr,fun j=>?_,fun id' cs' hcs'=>?_⟩
        · rw[hget]
          refine jx.carry (R.slots j) rfl (fun v _ h=>h) fun q hq C hC hCA=>⟨?_,rfl⟩
          match q,zO hC,hC with
          |0::l::js,_,hC=>exact⟨C,by rw[Ze] at hC⊢;rw[hget];exact hC,hCA,fun hd cs e=>⟨hd,cs,e⟩⟩
          | 1 ::id'::k'::js,_,hC=>
            simp only[zb.at,hh,List.getElem?_set] at hC⊢
            by_cases hid:id=id'
            · subst hid
              rw[hcs] at hC
              simp only[if_true,hidl]
              simp only[zc.sub,zc.kids,List.getElem?_set] at hC⊢
              by_cases hkk:k=k'
              · subst hkk
                rw[hk] at hC
                simp only[if_true,hkl] at hC⊢
                obtain⟨C',c1,c2,c3,c4⟩:=QN ks js B h hC (fun⟨hx,hne⟩=>by
                  obtain⟨s,rfl⟩:=hx
                  rw[sub_append,h] at hC
                  cases s with
                  |nil=>exact hne (by simp)
                  |cons k s=>simp[zc.sub,zc.kids] at hC)
                by_cases hjk:js=ks
                · subst hjk;rw[h] at hC;cases hC;cases hCA
                · rcases c4 hjk with rfl|⟨hd,cs,cs',rfl,rfl⟩|⟨cs,cs',rfl,rfl⟩|⟨cs,cs',rfl,rfl⟩
                  · exact⟨_,c1,hCA,fun hd cs e=>⟨hd,cs,e⟩⟩
                  · exact⟨_,c1,rfl,fun _ _ _=>⟨_,_,rfl⟩⟩
                  · exact⟨_,c1,rfl,fun _ _ e=>by cases e⟩
                  · exact⟨_,c1,rfl,fun _ _ e=>by cases e⟩
              · rw[if_neg hkk]
                exact⟨C,hC,hCA,fun hd cs e=>⟨hd,cs,e⟩⟩
            · rw[if_neg hid]
              exact⟨C,hC,hCA,fun hd cs e=>⟨hd,cs,e⟩⟩
        · rw[hh,List.getElem?_set] at hcs'
          by_cases hid:id=id'
          · subst hid
            simp[hidl] at hcs'
            subst hcs'
            exact QA.turn U hidn (R.objs id cs hcs) hk h (by simpa[zL] using hu) h'
          · rw[if_neg hid] at hcs';exact R.objs id' cs' hcs'
    · cases h
def xv (st:zb):Option (List Nat)→Option (Option (List Nat×Nat×List zc)×zb)
 |none=>some (none,st)
 | some p=>match st.at p with
   |some (.own (some sz) cs)=>if 0<cs.length then some (some (p,sz,cs),(st.kill (zc.under p false)).setAt p .dead) else none
   |_=>none
def K0 (L:List (List Nat)):Option (List Nat)→Bool
 |none=>true
 |some p=>clear L p
theorem K1 (R:zK E N V st tm){pl:Option (List Nat)}{x:Option (List Nat×Nat×List zc)}{st1:zb}(h:xv st pl=some (x,st1))(hq:K0 L pl=true):
    ∃E1,zK E1 N V st1 tm∧Zc L E E1∧E1.w=E.w∧(∀p,zL E1 tm p=zL E tm p)∧(x=none∨∃p sz cs v,x=some (p,sz,cs)∧st.at p=some (.own (some sz) cs)∧0<cs.length∧zL E tm p=some v∧VRel E1 (some [9,0]) (.own (some sz) cs) v):=by
  cases pl with
  |none=>cases h;exact⟨E,R,Zc.refl E,rfl,fun _=>rfl,.inl rfl⟩
  | some p=>
    simp only[xv] at h
    split at h
    · rename_i sz cs hp
      split at h
      · rename_i hlen
        cases h
        obtain⟨v,hv,hr⟩:=R.at_ hp rfl
        have U:Zq p E (E.relab p [9,0]):=Zm p [9,0]
        have R2:=R.turn (B':= .dead) (keep:=false) hp rfl (fun e=>by cases e) U (jh R.lim) rfl hv (.dead _ _)
        exact⟨_,R2,zR (Z8 (zO hp)) (jD _) (qi hq),rfl,fun _=>rfl,.inr ⟨p,sz,cs,v,rfl,hp,hlen,hv,by simpa using (hr.moved p [9,0] []).2 (by simp)⟩⟩
      · cases h
    · cases h
inductive xV where
 |vw
 |mv
 |fz
 |bo
def WG :List (zQ×Bool)→List xV→List (zQ×Bool)
 |[],_=>[]
 | (x,_)::xs,ms=>(match ms.headD .vw with
   | .mv=>(x,true)
   | .fz=>(x,false)
   |_=>(.c (.bool false),false))::WG xs ms.tail
def yA :List Operand→List xV→List Operand
 |[],_=>[]
 | x::xs,ms=>(match ms.headD .vw with
   | .mv=>x
   | .fz=>x
   |_=> .const (.bool false))::yA xs ms.tail
theorem gp :∀(xs:List Operand) (os:List (zQ×Bool)) (ms:List xV),xs.map zv=os.map (fun y=>some y.1)→(yA xs ms).map zv=(WG os ms).map fun y=>some y.1
 |[],[],_,_=>rfl
 |[],_::_,_,h=>by simp at h
 |_::_,[],_,h=>by simp at h
 | x::xs,(o,b)::os,ms,h=>by
   simp only[List.map_cons,List.cons.injEq] at h
   simp only[yA,WG,List.map_cons,gp xs os ms.tail h.2,List.cons.injEq,and_true]
   cases ms.headD .vw<;>first
    |exact h.1
    |rfl
theorem vV :∀(xs:List Operand) (ms:List xV),(yA xs ms).length=xs.length
 |[],_=>rfl
 |_::xs,ms=>by simp[yA,vV xs ms.tail]
def JL (st0 st:zb)(bo:List Nat)(ln:Bool)(pl:Option (List Nat×Nat×List zc)):List (zQ×Bool)→List xV→List zc→List zc
 | (x,_)::xs,ms,A::As=>(match ms.headD .vw with
   | .vw=>zhL st bo ln x
   | .bo=>match pl,st0.evA x with
     |some (p,sz,cs),.at_ q=>if q=p then .sl bo.length 0 (cs.length / sz) sz else .dead
     |_,_=> .dead
   |_=>A.ren (Jz bo))::JL st0 st bo ln pl xs ms.tail As
 |_,_,_=>[]
theorem U6 {st0:zb}{pl:Option (List Nat×Nat×List zc)}:∀(os:List (zQ×Bool)) (ms:List xV) (As:List zc),As.length=os.length→(JL st0 st bo ln pl os ms As).length=os.length
 |[],_,[],_=>rfl
 |[],_,_::_,h=>by simp at h
 |_::_,_,[],h=>by simp at h
 |(x,_)::xs,ms,A::As,h=>by simp[JL,U6 xs ms.tail As (by simpa using h)]
def Z2 (h:Heap)(bo:List Nat)(pl:Option (List Nat×Nat×List zc)):Heap:=
 bo.map (fun id=>match h[id]? with|some (some cs)=>some (zc.renL (Jz bo) cs)|_=>none)++match pl with|some (_,_,cs)=>[some (zc.renL (Jz bo) cs)]|none=>[]
theorem zeC {p:List Nat}{sz:Nat}{cs:List zc}{v:Value}(h:VRel E (some p) (.own (some sz) cs) v)(hc:0<cs.length):∃(b o len cap:Nat) (arr:Array Value) (T:TypeId) (f:Nat→Value),v= .slice (some ⟨b,o,none⟩) len cap∧E.O b=some p∧E.w.heap[b]?=some (.cells arr T (0,0))∧0<sz∧cs.length=len*sz∧len≤cap∧cap≤maxLen∧o+cap*sz≤arr.size∧
    (∀k A,cs[k]?=some A→arr[o+k]?=some (f k))∧∀(k:Nat) A,cs[k]?=some A→VRel E (some (p++[k])) A (f k):=by
  cases h with
  |own _ _ _ b o len cap arr T f hO hb hl hc hm ha hf h=>exact⟨b,o,len,cap,arr,T,f,rfl,hO,hb,hl.1,hl.2,hc,hm,ha,hf,h⟩
  |ownNil=>simp at hc
theorem Ks (H:KG E st.h)(hnd:yD bo=true){pl:Option (List Nat×Nat×List zc)} (hpl:match pl with
      |none=>True
      |some (_,sz,cs)=>∃(arr:Array Value) (T:TypeId) (f:Nat→Value),E.O pb=some [9,0]∧E.w.heap[pb]?=some (.cells arr T (0,0))∧cs.length≤pk∧po+pk≤arr.size∧(∀k A,cs[k]?=some A→arr[po+k]?=some (f k))∧∀(k:Nat) A,cs[k]?=some A→VRel E (some ([9,0]++[k])) A (f k)) (hmm:mm=(Z2 st.h bo pl).length):
    KG (E.sub bo ln mm pb po pk) (Z2 st.h bo pl) where
  num:=hmm
  lim:=zia H.lim
  objs j cs hcs:=by
    have hm:bo.length≤mm:=by rw[hmm];simp[Z2]
    unfold Z2 at hcs
    rcases Nat.lt_or_ge j bo.length with hlt|hge
    · rw[List.getElem?_append_left (by simpa using hlt),List.getElem?_map,List.getElem?_eq_getElem hlt] at hcs
      simp only[Option.map_some,Option.some.injEq] at hcs
      split at hcs
      · rename_i cs0 h0
        have hcs':=Option.some.inj hcs
        subst hcs'
        obtain⟨hO,arr,T,f,hb,ha,hl,hf,hv⟩:=H.objs _ cs0 h0
        have hg:Jz bo bo[j]=some j:=ue hnd (List.getElem?_eq_getElem hlt)
        have hD:bo.getD j 0=bo[j]:=by simp[List.getD_eq_getElem?_getD,hlt]
        have e1:(E.sub bo ln mm pb po pk).ρ j=E.ρ bo[j]:=by show(if j<bo.length then E.ρ (bo.getD j 0) else _)=_;rw[if_pos hlt,hD]
        have e2:(E.sub bo ln mm pb po pk).β j=E.β bo[j]:=by show(if j<bo.length then E.β (bo.getD j 0) else _)=_;rw[if_pos hlt,hD]
        have e3:(E.sub bo ln mm pb po pk).κ j=E.κ bo[j]:=by show(if j<bo.length then E.κ (bo.getD j 0) else _)=_;rw[if_pos hlt,hD]
        refine⟨by rw[e1];exact kV (s:=[]) hg hO,arr,T,f,by rw[e1];exact hb,by rw[e2,e3];exact ha,by rw[e3,zG];exact hl,fun k A hk=>?_,fun k A hk=>?_⟩
        · obtain⟨B,hB,_⟩:=zz hk
          rw[e2];exact hf k B hB
        · obtain⟨B,hB,rfl⟩:=zz hk
          exact(hv k B hB).renK (QJ hm) (Nat.le_refl _) (fun _ h _=>⟨qn h,rfl⟩) (fun _ _ h=>⟨kV hg h,rfl⟩)
      · cases hcs
    · rw[List.getElem?_append_right (by simpa using hge)] at hcs
      cases pl with
      |none=>simp at hcs
      | some x=>
        obtain⟨p,sz,cs0⟩:=x
        simp only[List.length_map] at hcs
        have hj:j=bo.length:=by
          have:=(List.getElem?_eq_some_iff.1 hcs).1
          simp at this;omega
        subst hj
        simp at hcs
        subst hcs
        obtain⟨arr,T,f,hO,hb,hl,ha,hf,hv⟩:=hpl
        have e1:(E.sub bo ln mm pb po pk).ρ bo.length=pb:=if_neg (Nat.lt_irrefl _)
        have e2:(E.sub bo ln mm pb po pk).β bo.length=po:=if_neg (Nat.lt_irrefl _)
        have e3:(E.sub bo ln mm pb po pk).κ bo.length=pk:=if_neg (Nat.lt_irrefl _)
        refine⟨by rw[e1];exact zdb (s:=[]) hO,arr,T,f,by rw[e1];exact hb,by rw[e2,e3];exact ha,by rw[e3,zG];exact hl,fun k A hk=>?_,fun k A hk=>?_⟩
        · obtain⟨B,hB,_⟩:=zz hk
          rw[e2];exact hf k B hB
        · obtain⟨B,hB,rfl⟩:=zz hk
          exact(hv k B hB).renK (QJ hm) (Nat.le_refl _) (fun _ h _=>⟨qn h,rfl⟩) (fun _ _ h=>⟨zdb h,rfl⟩)
end
end Go.Ga

namespace Go.Ga
open Go
def vwL (h:Heap)(bo:List Nat)(ln:Bool):List zc→List zc
 |[]=>[]
 |A::l=>vwV h bo ln A::vwL h bo ln l
theorem wu (h:Heap)(bo:List Nat)(ln:Bool):∀l:List zc,(vwL h bo ln l).length=l.length
 |[]=>rfl
 |A::l=>by simp[vwL,wu h bo ln l]
theorem kT (h:Heap)(bo:List Nat)(ln:Bool):∀(l:List zc) (k:Nat),(vwL h bo ln l)[k]?=(l[k]?).map (vwV h bo ln)
 |[],k=>by simp[vwL]
 |A::l,0=>by simp[vwL]
 |A::l,k+1=>by simp[vwL,kT h bo ln l k]
def zq (L:List (List Nat))(d:Nat)(bo:List Nat)(mm:Nat)(x:Option (List Nat×Nat×List zc))(st:zb)(K:zb→Prop)(r:zc)(h':Heap):Prop:=
 match x with
 |none=>K ((st.after bo L mm h').putT d (r.ren (ZK bo mm st.h.length)))
 | some (p,sz,cs)=>match h'[bo.length]? with
   |some (some cs')=>cs'.length=cs.length∧vf bo p=true∧(st.after bo L mm h').at p=some .dead∧K (((st.after bo L mm h').setAt p (.own (some sz) (zc.renL (ZK bo mm st.h.length) cs'))).putT d (r.ren (ZK bo mm st.h.length)))
   |_=>K ((st.after bo L mm h').putT d (r.ren (ZK bo mm st.h.length)))
def wm (P:Program)(L:List (List Nat))(st:zb)(d g:Nat)(first captured:List zc)(args:List (zQ×Bool))(ms:List xV)(bo:List Nat)(ln:Bool)(pl:Option (List Nat))(K:zb→Prop):Prop:=
 match xv st pl with
 | some (x,st0)=>match st0.useL (WG args ms) with
   | some (As,st1)=>yD bo=true∧bo.all (fun i=>decide (i<st1.h.length))=true∧(K0 L pl&&st0.useLQ L (WG args ms))=true∧
    zo P (zt bo L) g (vwL st1.h bo ln first++(JL st st1 bo ln x args ms As++vwL st1.h bo ln captured)) (Z2 st1.h bo x) fun r h'=>
     (Z2 st1.h bo x).length≤h'.length∧(ln=true→r.flat=true∧Jv h'=true)∧zq L d bo (Z2 st1.h bo x).length x st1 K r h'
   |none=>False
 |none=>False
def YO (P:Program)(L:List (List Nat))(st:zb)(d:Nat)(f:zQ)(args:List (zQ×Bool))(K:zb→Prop):Prop:=
 match st.ev f with
 | .fn (.func g) first captured=>∃(ms:List xV) (bo:List Nat) (ln:Bool) (pl:Option (List Nat)),wm P L st d g first captured args ms bo ln pl K
 |_=>False
section
variable {L:List (List Nat)} {E E3:Env} {N:Nat} {V:List Nat} {st st0:zb} {a:Act} {tm:Array Value} {bo:List Nat} {ln:Bool} {mm pb po pk:Nat} {h':Heap} {P:Program} {o:Oper} {d:Nat}
theorem Wt (hmm:bo.length≤mm)(R:zK E N V st a.tmps){pl:Option (List Nat×Nat×List zc)}(hbo:∀p sz cs x ox,pl=some (p,sz,cs)→zv x=some ox→st0.evA ox= .at_ p→∀q',VRel (E.sub bo ln mm pb po pk) q' (.sl bo.length 0 (cs.length / sz) sz) (a.eval x)):
    ∀(xs:List Operand) (os:List (zQ×Bool)) (ms:List xV) (As:List zc) (j:Nat),xs.map zv=os.map (fun y=>some y.1)→(∀(k:Nat) A x,As[k]?=some A→(yA xs ms)[k]?=some x→VRel E (some [9,j+1+k]) A (a.eval x))→
    ∀k B x,(JL st0 st bo ln pl os ms As)[k]?=some B→xs[k]?=some x→VRel (E.sub bo ln mm pb po pk) (some [3,j+k]) B (a.eval x)
  |[],os,ms,As,j,hm,_,k,B,x,_,hx=>by simp at hx
  |y::xs,[],ms,As,j,hm,_,k,B,x,_,_=>by simp at hm
  |y::xs,(o,b)::os,ms,[],j,hm,_,k,B,x,hB,_=>by simp[JL] at hB
  | y ::xs,(o,b)::os,ms,A::As,j,hm,h,k,B,x,hB,hx=>by
    simp only[List.map_cons,List.cons.injEq] at hm
    cases k with
    | zero=>
      simp only[JL,List.getElem?_cons_zero,Option.some.injEq] at hB hx
      subst hx
      have moved:(yA (y::xs) ms)[0]?=some y→VRel (E.sub bo ln mm pb po pk) (some [3,j]) (A.ren (Jz bo)) (a.eval y):=fun hp=>by
        have h1:=h 0 A y rfl hp
        exact VRel.renK (p:=[9,j+1]) (q:=[3,j]) (r:=[]) (QJ hmm) (Nat.le_refl _) (fun _ h _=>⟨qn h,rfl⟩) (fun _ _ h=>⟨zib h,rfl⟩) (by simpa using h1)
      cases hmd:ms.headD .vw with
      | vw=>
        rw[hmd] at hB
        simp only[] at hB
        subst hB
        exact zcX hmm R hm.1 _
      |mv=>rw[hmd] at hB;simp only[] at hB;subst hB;exact moved (by unfold yA;rw[hmd];rfl)
      |fz=>rw[hmd] at hB;simp only[] at hB;subst hB;exact moved (by unfold yA;rw[hmd];rfl)
      | bo=>
        rw[hmd] at hB
        simp only[] at hB
        split at hB
        · rename_i p sz cs q hpl hev
          split at hB
          · rename_i e
            subst e
            subst hB
            exact hbo _ _ _ _ _ rfl hm.1 hev _
          · subst hB;exact .dead _ _
        · subst hB;exact .dead _ _
    | succ k=>
      have:=Wt hmm R hbo xs os ms.tail As (j+1) hm.2 (fun k A x hA hx=>by
        have:=h (k+1) A x (by simpa using hA) (by simpa[yA] using hx)
        rwa [show j+1+(k+1)=j+1+1+k by omega] at this) k B x (by simpa[JL] using hB) (by simpa using hx)
      rwa [show j+1+k=j+(k+1) by omega] at this
theorem zgc (R:zK E N V st tm)(hm:bo.length≤mm){L':List (List Nat)}(P3:Zc L' (E.sub bo ln mm pb po pk) E3){p:List Nat}{B:zc}(hp:vf bo p=true)(hlt:∀id r,p=1::id::r→id<st.h.length)(hB:(st.after bo L mm h').at p=some B):zL (E.out E3 bo mm) tm p=zL E tm p:=by
 match p,zO hB,hp,hlt,hB with
 | 0 ::j::ks,_,_,_,hB=>
   cases ks with
   |nil=>simp[zL,Zl]
   | cons k ks=>
     rw[Ze,xm] at hB
     cases hg:gone bo L (ZK bo mm st.h.length) h' (st.get j) with
     |true=>rw[hg] at hB;simp[zc.sub,zc.kids] at hB
     | false=>
       rw[hg] at hB
       simp only[cond_false] at hB
       obtain⟨v,hv,hr⟩:=(R.slots j).out (zc.sub_cons_nonalias hB)
       simp only[zL,hv]
       exact VRel.wayP (p0:=[0,j]) (E:=E) (E':=E.out E3 bo mm) (fun b q hb=>(Ja R.lim P3 (.inr ⟨_,hb,uh q⟩)).2) (k::ks) (ℓ:=[]) (by simpa using hr) hB
 | 1 :: id::c::ks,_,hp,hlt,hB=>
   have hid:Jz bo id=none:=Option.isNone_iff_eq_none.1 hp
   simp only[zb.at] at hB
   split at hB
   · rename_i cs hcs
     have hidl:id<st.h.length:=hlt id _ rfl
     · have hcs0:st.h[id]?=some (some cs):=by
        have e:(Yu (Jz bo) (ZK bo mm st.h.length) h' 0 st.h++QQ (ZK bo mm st.h.length) (h'.drop mm))[id]?=some (some cs):=hcs
        rw[List.getElem?_append_left (by rw[JR];exact hidl),yr] at e
        simpa[hid] using e
       obtain⟨hO,arr,T,f,hb,ha,hl,hf,hv⟩:=R.objs id cs hcs0
       have hidn:id<E.n:=by rw[R.num];exact hidl
       have hb':=(Ja R.lim P3 (.inr ⟨_,hO,Yj hid []⟩)).2
       simp only[zc.sub,zc.kids] at hB
       cases hk:cs[c]? with
       |none=>simp[hk] at hB
       | some D=>
         simp only[hk] at hB
         have e1:(E.out E3 bo mm).ρ id=E.ρ id:=if_pos hidn
         have e2:(E.out E3 bo mm).β id=E.β id:=if_pos hidn
         simp only[zL,Env.ptr,Zl,e1,e2,zu hb,zu (show(E.out E3 bo mm).w.heap[E.ρ id]?=_ from hb'.trans hb),hf c D hk]
         exact VRel.wayP (p0:=[1,id]) (E:=E) (E':=E.out E3 bo mm) (fun b q hb=>(Ja R.lim P3 (.inr ⟨_,hb,Yj hid q⟩)).2) ks (ℓ:=[c]) (hv c D hk) hB
   · cases hB
theorem zf6 (R:zK E N V st a.tmps){j:Nat}(F:zX N V st d){A:zc}{v:Value}(h:VRel E (some [9,j]) A v):zK (E.relab [9,j] [0,d]) N V (st.putT d A) (a.tmps.setIfInBounds d v):=
 (R.land [0,d]).putT_val F.lt F.v F.t (h.land [0,d])
theorem vq {g : Nat} (h : yN P g = true) : ∃ fn, P.funcs[g]? = some fn ∧ ¬ fn.name = "runtime.NumGoroutine" ∧ ¬ fn.body = none := by
 unfold yN at h
 split at h
 · rename_i fn hfn
   refine⟨fn,hfn,?_,?_⟩
   · simp only[Bool.and_eq_true,bne_iff_ne,ne_eq] at h
     exact h.1
   · simp only[Bool.and_eq_true] at h
     intro hb
     rw[hb] at h
     simp at h
 · cases h
theorem QI {pl:Option (List Nat)}{x:Option (List Nat×Nat×List zc)}{st1:zb}(h:xv st pl=some (x,st1)):st1.ts.map (·.1)=st.ts.map (·.1):=by
 cases pl with
 |none=>cases h;rfl
 | some p=>
   simp only[xv] at h
   split at h
   · split at h
     · cases h;exact jM.trans ZT
     · cases h
   · cases h
theorem Q6 :(st.after bo L mm h').ts.map (·.1)=st.ts.map (·.1):=ZT
theorem vS {E E':Env}{p:List Nat}(hw:E'.w=E.w)(hi:∀id,E'.ρ id=E.ρ id∧E'.β id=E.β id):zL E' tm p=zL E tm p:=by
 match p with
 |[]=>rfl
 |[0]=>rfl
 |[1]=>rfl
 |0::i::ks=>simp only[zL,hw]
 |1::id::ks=>simp only[zL,Env.ptr,hw,(hi id).1,(hi id).2]
 |(n+2)::ks=>rfl
theorem zf5 {E E':Env}{p:List Nat}(hw:E'.w=E.w)(hi:E.ids E')(hlt:∀id r,p=1::id::r→id<E.n):zL E' tm p=zL E tm p:=by
 match p,hlt with
 |[],_=>rfl
 |[0],_=>rfl
 |[1],_=>rfl
 |0::i::ks,_=>simp only[zL,hw]
 | 1::id::ks,hlt=>
   obtain⟨h1,h2,_⟩:=hi.2 id (hlt id ks rfl)
   simp only[zL,Env.ptr,hw,h1,h2]
 |(n+2)::ks,_=>rfl
theorem zi2 (R:zK E N V st a.tmps)(F:zX N V st d){c:Call}{fo:Operand}{oargs:List (zQ×Bool)}(ho:o.op= .call c)(hc:c.callee= .value fo)(hdst:o.dst=some d)(hargs:c.args.toList.map zv=oargs.map fun y=>some y.1)
    {g:Nat} {first captured:List zc} {x:Value} (hx:a.eval fo=x) (hrx:VRel E none (.fn (.func g) first captured) x) {ms:List xV} {pl:Option (List Nat)}
    {K:zb→Prop} {next:Act→World→Prop} {Q:Exit→Act→World→Prop} (h:wm P L st d g first captured oargs ms bo ln pl K)
    (hK:∀E' st' v,zK E' N V st' (a.tmps.setIfInBounds d v)→Zc L E E'→K st'→next (a.put (some d) v) E'.w):o.wp P a E.w next Q:=by
  unfold wm at h
  split at h
  case h_2=>exact h.elim
  rename_i x0 st0 htake
  split at h
  case h_2=>exact h.elim
  rename_i As st1 huse
  obtain⟨hnd,hbo,hq,hcall⟩:=h
  rw[Bool.and_eq_true] at hq
  have Rz:zK (E.freeze [9]) N V st a.tmps:=R.under (J7 [9]) (QX R.lim) rfl (fun _ _=>zI (by decide)) (fun _=>zI (by decide)) (fun _ _ _ _ _=>zI (by decide))
  have Pz:Zc L E (E.freeze [9]):=qJ (jD _)
  obtain⟨E0,R0,P0,hw0,hpv0,hx0⟩:=K1 Rz htake hq.1
  have hl0:∃l:List (Nat×zc×Value),Fly E0 l∧(∀y∈l,y.1<1+first.length)∧(x0=none∨∃p sz cs v,x0=some (p,sz,cs)∧st.at p=some (.own (some sz) cs)∧0<cs.length∧zL E a.tmps p=some v∧(0,zc.own (some sz) cs,v)∈l):=by
    rcases hx0 with h|⟨p,sz,cs,v,h1,h2,h3,h4,h5⟩
    · exact⟨[],(fun x hx=>by cases hx),(fun x hx=>by cases hx),.inl h⟩
    · refine⟨[(0,.own (some sz) cs,v)],(fun x hx=>?_),(fun x hx=>?_),.inr ⟨p,sz,cs,v,h1,h2,h3,?_,.head _⟩⟩
      · cases List.mem_singleton.1 hx;exact h5
      · cases List.mem_singleton.1 hx;exact Nat.lt_of_lt_of_le Nat.zero_lt_one (Nat.le_add_right _ _)
      · rw[←h4];exact(vS rfl fun _=>⟨rfl,rfl⟩).symm
  obtain⟨l,Fl,hlj,hxl⟩:=hl0
  obtain⟨E1,R1,F1,hlen,hv,P1,hw1⟩:=ql (yA c.args.toList ms) (WG oargs ms) (1+first.length) (gp _ _ ms hargs) R0 huse hq.2 Fl hlj
  have P01:Zc L E E1:=(Pz.trans P0).trans P1
  have hwE:E1.w=E.w:=hw1.trans hw0
  have hAs:As.length=oargs.length:=by
    have:=congrArg List.length hargs
    simp only[List.length_map] at this
    rw[hlen,vV,this]
  cases hrx with
  |fn _ _ _ _ us vs hus hvs h1 h2=>
  have hpl:∃pb po pk,(match x0 with
      |none=>True
      |some (_,sz,cs)=>∃(arr:Array Value) (T:TypeId) (f:Nat→Value),E1.O pb=some [9,0]∧E1.w.heap[pb]?=some (.cells arr T (0,0))∧cs.length≤pk∧po+pk≤arr.size∧(∀k A,cs[k]?=some A→arr[po+k]?=some (f k))∧∀(k:Nat) A,cs[k]?=some A→VRel E1 (some ([9,0]++[k])) A (f k))∧
      (x0=none∨∃p sz cs len cap,x0=some (p,sz,cs)∧st.at p=some (.own (some sz) cs)∧zL E a.tmps p=some (.slice (some ⟨pb,po,none⟩) len cap)∧0<sz∧cs.length=len*sz∧len≤cap∧cap≤maxLen∧pk=cap*sz):=by
    rcases hxl with rfl|⟨p,sz,cs,v,rfl,h3,h4,h5,h6⟩
    · exact⟨0,0,0,trivial,.inl rfl⟩
    · obtain⟨b,o',len,cap,arr,T,f,rfl,hO,hb,hsz,hcl,hlc,hcm,ha,hf,hvv⟩:=zeC (F1 _ h6) h4
      refine⟨b,o',cap*sz,⟨arr,T,f,hO,hb,?_,ha,hf,hvv⟩,.inr ⟨p,sz,cs,len,cap,rfl,h3,h5,hsz,hcl,hlc,hcm,rfl⟩⟩
      rw[hcl];exact Nat.mul_le_mul_right _ hlc
  obtain⟨pb,po,pk,hpl1,hpl2⟩:=hpl
  have hmm:bo.length≤(Z2 st1.h bo x0).length:=by simp[Z2]
  have HR:=Ks (ln:=ln) (pb:=pb) (po:=po) (pk:=pk) R1.hrel hnd hpl1 rfl
  have hbor:∀p sz cs x ox,x0=some (p,sz,cs)→zv x=some ox→st.evA ox= .at_ p→∀q',VRel (E1.sub bo ln (Z2 st1.h bo x0).length pb po pk) q' (.sl bo.length 0 (cs.length / sz) sz) (a.eval x):=by
    intro p sz cs x ox hx0' hox hev q'
    rcases hpl2 with h|⟨p',sz',cs',len,cap,h3,h4,h5,hsz,hcl,hlc,hcm,rfl⟩
    · rw[hx0'] at h;cases h
    · rw[h3] at hx0'
      cases hx0'
      obtain⟨B,v,g1,g2,g3,g4,g5⟩:=ut R hox hev
      rw[g4]
      rw[h5] at g3
      cases g3
      have hd:cs.length / sz=len:=by rw[hcl];exact Nat.mul_div_cancel _ hsz
      rw[hd]
      have:=VRel.sl (E:=E1.sub bo ln (Z2 st1.h bo x0).length pb po (cap*sz)) q' bo.length 0 len cap sz (by show bo.length<(Z2 st1.h bo x0).length;subst h3;simp[Z2]) hlc hcm (by
        show 0+cap*sz=if bo.length<bo.length then _ else _
        rw[if_neg (Nat.lt_irrefl _),Nat.zero_add])
      rw[show(E1.sub bo ln (Z2 st1.h bo x0).length pb po (cap*sz)).ρ bo.length=pb from if_neg (Nat.lt_irrefl _),show(E1.sub bo ln (Z2 st1.h bo x0).length pb po (cap*sz)).β bo.length=po from if_neg (Nat.lt_irrefl _)] at this
      exact this
  have hxs:c.args.size=oargs.length:=by
    have:=congrArg List.length hargs
    simpa using this
  have hAl:(JL st st1 bo ln x0 oargs ms As).length=oargs.length:=U6 _ _ _ hAs
  have hrun1:=hcall.2 (E1.sub bo ln (Z2 st1.h bo x0).length pb po pk) (us++(c.args.map a.eval++vs)) HR (by
      simp only[Array.size_append,List.length_append,wu,Array.size_map,hAl,hus,hvs,hxs]) (fun k A v hA hv'=>by
    have hvl:(us++(c.args.map a.eval++vs)).toList=us.toList++(c.args.toList.map a.eval++vs.toList):=by simp
    have hv2:(us.toList++(c.args.toList.map a.eval++vs.toList))[k]?=some v:=by rw[←hvl,Array.getElem?_toList];exact hv'
    have hl1:us.toList.length=first.length:=by simpa using hus
    have hl2:(c.args.toList.map a.eval).length=oargs.length:=by simpa using hxs
    rcases Nat.lt_or_ge k first.length with c1|c1
    · rw[List.getElem?_append_left (by rw[wu];exact c1),kT] at hA
      rw[List.getElem?_append_left (by rw[hl1];exact c1)] at hv2
      obtain⟨B,hB,rfl⟩:=Option.map_eq_some_iff.1 hA
      exact y9 hmm R1.hrel ((h1 k B v hB (by simpa using hv2)).pres P01) (.inl rfl) _
    · rw[List.getElem?_append_right (by rw[wu];exact c1),wu] at hA
      rw[List.getElem?_append_right (by rw[hl1];exact c1),hl1] at hv2
      rcases Nat.lt_or_ge (k - first.length) oargs.length with c2|c2
      · rw[List.getElem?_append_left (by rw[hAl];exact c2)] at hA
        rw[List.getElem?_append_left (by rw[hl2];exact c2),List.getElem?_map] at hv2
        obtain⟨y,hy,rfl⟩:=Option.map_eq_some_iff.1 hv2
        have:=Wt hmm R1 (pl:=x0) hbor c.args.toList oargs ms As first.length hargs (fun k A x hA hx=>by
          have:=hv k A x hA hx
          rwa [show 1+first.length+k=first.length+1+k by omega] at this) _ A y hA hy
        rwa [show first.length+(k - first.length)=k by omega] at this
      · rw[List.getElem?_append_right (by rw[hAl];exact c2),hAl,kT] at hA
        rw[List.getElem?_append_right (by rw[hl2];exact c2),hl2] at hv2
        obtain⟨B,hB,rfl⟩:=Option.map_eq_some_iff.1 hA
        exact y9 hmm R1.hrel ((h2 _ B v hB (by simpa using hv2)).pres P01) (.inl rfl) _)
  obtain⟨fn,hfn,hname,hnb⟩:=vq hcall.1
  have hrun:(execOp a.eval o).run P E.w= .ok (.enter g (us++(c.args.map a.eval++vs))) E.w:=by
    simp[execOp,ho,resolve,hc,hx,Deferred.ofValue,invoke,callFunc,hfn,hname,hnb]
  unfold Oper.wp
  rw[hrun,Oper.upon_enter]
  have hw:(E1.sub bo ln (Z2 st1.h bo x0).length pb po pk).w=E.w:=hwE
  rw[hw] at hrun1
  refine hrun1.mono fun e w' ⟨v,r,h',E3,he,hw',H3,hr,P3,hle,hfl,hout⟩=>?_
  subst he
  subst hw'
  rw[hdst]
  generalize hM:(Z2 st1.h bo x0).length=mm at*
  have h3:mm≤E3.n:=by rw[H3.num];exact hle
  have R4:=R1.after hnd hbo hmm P3 H3 hle fun hl=>(hfl hl).2
  have P4:Zc L E (E1.out E3 bo mm):=P01.trans (zgd R1.lim hmm h3 P3)
  have F4:zX N V (st1.after bo L mm h') d:=F.of (Q6.trans ((je _ huse).trans (QI htake)))
  have hres:VRel (E1.out E3 bo mm) (some [9,1]) (r.ren (ZK bo mm st1.h.length)) v:=
    UV (p:=[3]) (q:=[9,1]) (r:=[]) R1.lim R1.num hbo hmm h3 P3 (fun b s hb=>zis hb) (fun hl=>(hfl hl).1) hr
  have last:K ((st1.after bo L mm h').putT d (r.ren (ZK bo mm st1.h.length)))→next (a.put (some d) v) E3.w:=fun hk=>
    hK ((E1.out E3 bo mm).relab [9,1] [0,d]) _ v (zf6 R4 F4 hres) (P4.trans (zR (jD _) (qL _ _) (ZR (by decide) _))) hk
  unfold zq at hout
  split at hout
  · exact last hout
  · rename_i p sz cs htk
    split at hout
    · rename_i cs' hcs'
      obtain⟨hcl',hvp,hdead,hk⟩:=hout
      rcases hpl2 with h|⟨p',sz',cs0,len,cap,h30,h4,h5,hsz,hcl,hlc,hcm,rfl⟩
      · cases h
      · have e1:=congrArg Prod.fst (Option.some.inj h30)
        have e2:=congrArg (fun y=>y.2.1) (Option.some.inj h30)
        have e3:=congrArg (fun y=>y.2.2) (Option.some.inj h30)
        simp only[] at e1 e2 e3
        subst e1 e2 e3
        have hm1:bo.length<mm:=by rw[←hM];simp[Z2]
        obtain⟨hO,arr,T,f,hb,ha,hl,hf,hvv⟩:=H3.objs bo.length cs' hcs'
        obtain⟨x1,x2,x3⟩:=P3.ids.2 bo.length hm1
        have y1:E3.ρ bo.length=pb:=x1.trans (if_neg (Nat.lt_irrefl _))
        have y2:E3.β bo.length=po:=x2.trans (if_neg (Nat.lt_irrefl _))
        have y3:E3.κ bo.length=cap*sz:=x3.trans (if_neg (Nat.lt_irrefl _))
        rw[y1] at hO hb
        rw[y2,y3] at ha
        rw[y2] at hf
        have hown:VRel (E1.out E3 bo mm) (some [9,0]) (.own (some sz) (zc.renL (ZK bo mm st1.h.length) cs')) (.slice (some ⟨pb,po,none⟩) len cap):=by
          refine .own _ sz _ pb po len cap arr T f (zdn (s:=[]) hm1 hO) hb ⟨hsz,by rw[zG,hcl',hcl]⟩ hlc hcm ha (fun k A hk=>?_) fun k A hk=>?_
          · obtain⟨B,hB,_⟩:=zz hk
            exact hf k B hB
          · obtain⟨B,hB,rfl⟩:=zz hk
            exact UV (p:=[1,bo.length]) (q:=[9,0]) R1.lim R1.num hbo hmm h3 P3 (fun b s hb=>zdn hm1 hb) (fun hl=>ji (Yk (hfl hl).2 hcs') hB) (hvv k B hB)
        have hidlt:∀id r,p=1::id::r→id<st.h.length:=fun id r e=>by
          subst e
          cases r with
          |nil=>simp[zb.at] at h4
          | cons c r=>
            simp only[zb.at] at h4
            split at h4
            · rename_i hh;exact(List.getElem?_eq_some_iff.1 hh).1
            · cases h4
        have hgrow:st.h.length≤st1.h.length:=by rw[←R.num,←R1.num];exact P01.ids.1
        have hpv:zL (E1.out E3 bo mm) a.tmps p=some (.slice (some ⟨pb,po,none⟩) len cap):=by
          rw[zgc R1 hmm P3 hvp (fun id r e=>Nat.lt_of_lt_of_le (hidlt id r e) hgrow) hdead]
          rw[zf5 hwE P01.ids (fun id r e=>by rw[R.num];exact hidlt id r e)]
          exact h5
        have hroot:∀i ks,p=0::i::ks→i∈V∨i∈(st1.after bo L mm h').ts.map (·.1):=fun i ks e=>by
          subst e
          rw[Q6,je _ huse,QI htake]
          exact R.root_at h4 (by simp)
        have R5:=(R4.land p).fill (B:= .own (some sz) (zc.renL (ZK bo mm st1.h.length) cs')) rfl hdead hroot ((vS rfl fun _=>⟨rfl,rfl⟩).trans hpv) (hown.land p)
        have hres5:VRel ((E1.out E3 bo mm).relab [9,0] p) (some [9,1]) (r.ren (ZK bo mm st1.h.length)) v:=hres.aside [9,0] p fun ℓ e=>by cases e;exact zhN (by decide)
        have F5:zX N V ((st1.after bo L mm h').setAt p (.own (some sz) (zc.renL (ZK bo mm st1.h.length) cs'))) d:=F4.of jM
        exact hK (((E1.out E3 bo mm).relab [9,0] p).relab [9,1] [0,d]) _ v (zf6 R5 F5 hres5) ((P4.trans (zR (jD _) (Z8 (zO h4)) (ZR (by decide) _))).trans (zR (jD _) (qL _ _) (ZR (by decide) _))) hk
    · exact last hout
theorem zmN (R:zK E N V st a.tmps)(F:zX N V st d){c:Call}{fo:Operand}{of:zQ}{oargs:List (zQ×Bool)}(ho:o.op= .call c)(hc:c.callee= .value fo)(hdst:o.dst=some d)(hf:zv fo=some of)(hargs:c.args.toList.map zv=oargs.map fun y=>some y.1)
    {K:zb→Prop} {next:Act→World→Prop} {Q:Exit→Act→World→Prop} (h:YO P L st d of oargs K)
    (hK:∀E' st' v,zK E' N V st' (a.tmps.setIfInBounds d v)→Zc L E E'→K st'→next (a.put (some d) v) E'.w):o.wp P a E.w next Q:=by
  unfold YO at h
  split at h
  · rename_i g first captured hev
    obtain⟨ms,bo,ln,pl,h⟩:=h
    obtain⟨x,po,hx1,hx2,_⟩:=zN R hf hev rfl
    have hx3:VRel E none (.fn (.func g) first captured) x:=by
      cases hx2 with
      |fn _ _ _ _ us vs hus hvs h1 h2=>exact .fn _ _ _ _ us vs hus hvs h1 h2
    exact zi2 R F ho hc hdst hargs hx1 hx3 h hK
  · exact h.elim
end
end Go.Ga

namespace Go.Ga
open Go
section
variable {L:List (List Nat)} {E:Env} {N:Nat} {V:List Nat} {st:zb} {a:Act} {P:Program} {o:Oper} {d:Nat} {t t' e:TypeId} {i:TypeInfo} {z:Value}
def zbR (st:zb)(d:Nat)(s x:zQ)(sz bs:Nat)(zs:List Value):Option zb:=
 match st.ev s with
 | .sc u=>match st.dec x with
   |some n=>if qP u=true∧0<n∧bs*n.toNat≤140737488355328∧n≤9223372036854775807 then some (st.putT d (.own (some sz) (zF zs n.toNat))) else none
   |none=>none
 |_=>none
theorem zfP {k:IntKind}(ht:P.underlying t=some (.slice e))(ht':P.underlying t'=some (.int k))(hi:P.info? e=some i)(hz:i.zero=some z)(hzs:z.cells.size=i.size)(hsz:0<i.size)(w:World)(kk:IntKind){n:Nat}(h0:0<n)(hb:i.bytes*n≤140737488355328)(h63:n≤9223372036854775807)(ty:TypeId):
    ∃c',0+n≤c'∧c'≤maxLen∧(Builtin.append_ #[t,t'] ty #[.slice none 0 0,.int kk (n:Int)]).run P w= .ok (.slice (some ⟨w.heap.size,0,none⟩) (0+n) c') (w.drew.alloc (.cells (([]:List Value).toArray++(Builtin.zeroCells z.cells n).toList.toArray++Builtin.zeroCells z.cells (c' - (0+n))) e)):=by
  rw[Nat.zero_add]
  refine⟨grownCap w n 0 e,?_,grownCap_le_maxLen w _ _ e (by simp[maxLen];omega),?_⟩
  · simp only[grownCap,Question.cut];omega
  · have hw:IntKind.i64.wrap (n:Int)=(n:Int):=IntWalk.i64_in _ (by omega)
    have h1:¬((n:Int)<0):=by omega
    have hb':(n:Int)*(i.bytes:Int)≤140737488355328:=by rw[←Int.natCast_mul,Nat.mul_comm];omega
    have h2:¬(281474976710656<(n:Int)*(i.bytes:Int)):=by omega
    have hn:¬(n≤0):=by omega
    have hn':¬(n=0):=by omega
    have h63':¬(9223372036854775807<(n:Int)):=by omega
    have hfit:=growslice_fits (need:=n) (old:=0) (bytes:=i.bytes) (by omega) (by rw[Nat.mul_comm];exact hb)
    have h48':¬(281474976710656<Builtin.nextslicecap n 0*i.bytes):=by omega
    have hs0:¬(n*i.size=0):=by have:=Nat.mul_pos h0 hsz;omega
    simp[Builtin.append_,run_underlying ht,run_underlying ht',sizeOf,typeInfo,zeroValue,hi,hz,asInt,asIntOf,hw,h1,h2,hn,hn',hs0,h63',h48',Question.forced,newRow,grownCap,Builtin.firstCells]
theorem zmP (R:zK E N V st a.tmps)(F:zX N V st d){s x:Operand}{os ox:zQ}{k:IntKind}(ho:o.op= .call {callee:= .builtin .append,args:= #[s,x],argTypes:= #[t,t']})(ht:P.underlying t=some (.slice e))(ht':P.underlying t'=some (.int k))(hi:P.info? e=some i)(hz:i.zero=some z)(hzs:z.cells.size=i.size)(hsz:0<i.size)
    (hs:zv s=some os) (hx:zv x=some ox) {st':zb} (h:zbR st d os ox i.size i.bytes z.cells.toList=some st'):yc L E N V st' a P o d:=by
  unfold zbR at h
  split at h
  case h_2=>cases h
  rename_i u hu
  split at h
  case h_2=>cases h
  rename_i n hn
  split at h
  case isFalse=>cases h
  rename_i hc
  obtain⟨h1,h2,h3,h4⟩:=hc
  cases h
  obtain rfl:=Q2 h1
  have hnil:a.eval s= .slice none 0 0:=jj R hs hu
  obtain⟨kk,hxe⟩:=q7 R hx hn
  obtain⟨c',hc1,hc2,hr⟩:=zfP (P:=P) ht ht' hi hz hzs hsz E.w kk (n:=n.toNat) (by omega) h3 (by omega) o.type
  rw[show((n.toNat:Nat):Int)=n by omega] at hr
  have hzl:z.cells.toList.length=i.size:=by rw[Array.length_toList];exact hzs
  have hlen:=j6 z.cells.toList n.toNat
  refine WS (L:=L) (P:=P) (o:=o) (e:=e) (z:=z) R F (olds:=[]) (news:=(Builtin.zeroCells z.cells n.toNat).toList) (cs:=[]) (xs:=zF z.cells.toList n.toNat) rfl ?_ hsz (n:=0) (m:=n.toNat) (c':=c') (by simp) ?_ hzs hc1 hc2 (fun k A u hA=>by simp at hA) (fun k A u hA hu=>?_) ?_
  · rw[Array.length_toList,size_zeroCells,hlen,hzl,hzs]
  · rw[hlen,hzl]
  · obtain⟨hlt,hz',rfl⟩:=jy hA
    have:u=z.cells.toList[k%z.cells.toList.length]:=by
      simp[Builtin.zeroCells] at hu
      obtain⟨j,hj,rfl⟩:=hu
      obtain⟨hj1,hj2⟩:=List.getElem?_eq_some_iff.1 hj
      obtain rfl:k=j:=by simpa using hj2
      have:k%z.cells.size<z.cells.size:=by simpa using hz'
      simp[this]
    rw[this]
    exact .sc _ _
  · have hrun:(execOp a.eval o).run P E.w=((Builtin.append_ #[t,t'] o.type #[a.eval s,a.eval x]).run P E.w).andThen (fun v w=> .ok (.value v) w):=by
      simp[execOp,ho,resolve,invoke,builtin]
    rw[hrun,hnil,hxe,hr];rfl
end
end Go.Ga

namespace Go.Ga
open Go
section
variable {L:List (List Nat)} {E:Env} {N:Nat} {V:List Nat} {st:zb} {a:Act} {P:Program} {o:Oper} {d:Nat}
def Env.obj (E:Env)(b:Nat)(x:Obj):Env:={E with w:={E.w with heap:=E.w.heap.setIfInBounds b x}}
theorem Yf {b b':Nat}{x:Obj}(h:b'≠b):(E.obj b x).w.heap[b']?=E.w.heap[b']?:=by
 show(E.w.heap.setIfInBounds b x)[b']?=_
 rw[Array.getElem?_setIfInBounds_ne (fun e=>h e.symm)]
theorem XF {b:Nat}{x:Obj}:(E.obj b x).w.heap.size=E.w.heap.size:=by simp[Env.obj]
theorem zgi {b:Nat}{x:Obj}(h:b<E.w.heap.size):(E.obj b x).w.heap[b]?=some x:=by
 show(E.w.heap.setIfInBounds b x)[b]?=_
 simp[h]
theorem vF {b:Nat}{x:Obj}{p:List Nat}(hO:E.O b=some p):Zq p E (E.obj b x) where
 size:=by rw[XF];exact Nat.le_refl _
 ids:=⟨Nat.le_refl _,fun _ _=>⟨rfl,rfl,rfl⟩⟩
 none_ b' hb' _:=⟨hb',Yf fun e=>by rw[e,hO] at hb';cases hb'⟩
 else_ b' q hq hp:=⟨hq,Yf fun e=>by rw[e,hO] at hq;cases hq;exact hp (List.prefix_refl _)⟩
theorem ziC {b:Nat}{x:Obj}(hl:∀b q,E.O b=some q→b<E.w.heap.size):∀b' q,(E.obj b x).O b'=some q→b'<(E.obj b x).w.heap.size:=by
 intro b' q h
 rw[XF]
 exact hl b' q h
theorem zf9 {b:Nat}{x:Obj}{p:List Nat}(hO:E.O b=some p)(hm:Yw p)(hw:¬Wat L p):Zc L E (E.obj b x) where
 size:=by rw[XF];exact Nat.le_refl _
 os:=rfl
 tape:=rfl
 output:=rfl
 old:=(vF hO).none_
 far b' r hb':=⟨hb',Yf fun e=>by rw[e,hO] at hb';exact Qh hm (List.prefix_refl _) r (Option.some.inj hb')⟩
 farB _ _ h:=h
 ids:=⟨Nat.le_refl _,fun _ _=>⟨rfl,rfl,rfl⟩⟩
 keep b' r hr hb' _:=⟨.inl hb',Yf fun e=>by rw[e,hO] at hb';cases hb';exact hw hr⟩
theorem Ku (kd:IntKind)(n:Int):∀(es:List MapEntry) (ks:List Int) (i:Nat),es.map (fun e=>(e.key,e.val))=mpE ks→
    (n∈ks→∃j,Instr.findNow (.int kd) (.int .i64 n) es i=some (some (i+j,.bool true))∧j<es.length)∧(n∉ks→Instr.findNow (.int kd) (.int .i64 n) es i=some none)
  | [],ks,i,h=>by
    have:ks=[]:=by cases ks with
      |nil=>rfl
      |cons k ks=>simp[mpE] at h
    subst this
    exact⟨fun h=>(by cases h),fun _=>rfl⟩
  |e::es,[],i,h=>by simp[mpE] at h
  | e ::es,k::ks,i,h=>by
    simp only[mpE,List.map_cons,List.cons.injEq,Prod.mk.injEq] at h
    obtain⟨⟨h1,h2⟩,h3⟩:=h
    replace h3:es.map (fun e=>(e.key,e.val))=mpE ks:=h3
    have ih:=Ku kd n es ks (i+1) h3
    have hs:Instr.sameNow (.int kd) (.int .i64 n) e.key=some (n==k):=by rw[h1];simp[Instr.sameNow]
    by_cases hn:n=k
    · subst hn
      rw[beq_self_eq_true] at hs
      refine⟨fun _=>⟨0,?_,by simp⟩,fun h=>absurd (List.mem_cons_self ..) h⟩
      simp only[Instr.findNow,hs,h2,Nat.add_zero]
    · have hb:(n==k)=false:=by simp[hn]
      rw[hb] at hs
      refine⟨fun hm=>?_,fun hm=>?_⟩
      · rcases List.mem_cons.1 hm with h|h
        · exact absurd h hn
        · obtain⟨j,h4,h5⟩:=ih.1 h
          refine⟨j+1,?_,by simp;omega⟩
          simp only[Instr.findNow,hs,h4]
          congr 3;omega
      · simp only[Instr.findNow,hs]
        exact ih.2 fun h=>hm (List.mem_cons_of_mem _ h)
def zbN (st:zb)(d:Nat):Option zb:=some (st.putT d (.mp []))
theorem zmK (R:zK E N V st a.tmps)(F:zX N V st d){t:TypeId}(ho:o.op= .makeMap t none){st':zb}(h:zbN st d=some st'):yc L E N V st' a P o d:=by
 cases h
 have hrun:(execOp a.eval o).run P E.w= .ok (.value (.map (some E.w.heap.size))) (E.w.alloc (.map #[] 0)):=by
  simp[execOp,ho,Instr.makeMap]
 have hp:Zq [9,0] E (E.fresh (.map #[] 0) [0,d]):=by
  have U:=qE R.lim (.map #[] 0) [0,d]
  refine⟨U.size,U.ids,U.none_,fun b q hb _=>⟨by simp[Env.fresh,Nat.ne_of_lt (R.lim b q hb),hb],JM (R.lim b q hb)⟩⟩
 have R1:=R.flight hp (WQ R.lim _ _) rfl
 refine⟨_,E.fresh (.map #[] 0) [0,d],hrun,R1.putT_val F.lt F.v F.t ?_,Y3 R.lim _ (qL d [])⟩
 refine .mp [0,d] [] E.w.heap.size #[] 0 qS ?_ rfl
 show(E.w.heap.push _)[E.w.heap.size]?=_
 simp
def zbP (st:zb)(d:Nat)(x k:zQ):Option zb:=
 match st.ev x,st.ev k with
 | .at_ p,.sc (.int .i64 n)=>match st.at p with
   |some (.mp ks)=>some (st.putT d (.sc (.bool (decide (n∈ks)))))
   |_=>none
 |_,_=>none
theorem WU {kt:TypeId}{kd:IntKind}(hk:P.underlying kt=some (.int kd))(e:Bool)(v:Value)(w:World):(Instr.checkKey e 10000 kt v).run P w= .ok () w:=by
 show(Instr.checkKey e (9999+1) kt v).run P w=_
 unfold Instr.checkKey
 generalize (9999:Nat)=m
 simp[run_underlying hk]
theorem zmM (R:zK E N V st a.tmps)(F:zX N V st d){t kt et:TypeId}{kd:IntKind}{inf:TypeInfo}{x k:Operand}{ox ok:zQ}(ho:o.op= .lookup t x k false)(ht:P.underlying t=some (.map kt et))(hk:P.underlying kt=some (.int kd))
    (hi:P.info? et=some inf) (hz:inf.zero=some (.bool false)) (hx:zv x=some ox) (hok:zv k=some ok) {st':zb} (h:zbP st d ox ok=some st'):yc L E N V st' a P o d:=by
  unfold zbP at h
  split at h
  · rename_i p n hA hK
    split at h
    · rename_i ks hB
      cases h
      obtain⟨B,v,h1,h2,h3,h4,h5⟩:=YM R hx hA
      rw[hB] at h1
      cases h1
      have hkv:a.eval k= .int .i64 n:=jj R hok hK
      cases h5 with
      | mp _ _ b es c hO hb he=>
        have hf:=Ku kd n es.toList ks 0 he
        have hrun:(execOp a.eval o).run P E.w= .ok (.value (.bool (decide (n∈ks)))) E.w:=by
          by_cases hm:n∈ks
          · obtain⟨j,hj,_⟩:=hf.1 hm
            simp[execOp,ho,h4,hkv,Instr.lookup,run_underlying ht,run_underlying hk,getObj,Sem.run,hb,WU hk,Instr.findKey,hj,hm]
          · have hj:=hf.2 hm
            simp[execOp,ho,h4,hkv,Instr.lookup,run_underlying ht,run_underlying hk,getObj,Sem.run,hb,WU hk,Instr.findKey,hj,hm,zeroValue,typeInfo,hi,hz]
        exact⟨_,E,hrun,ju R F _,Zc.refl E⟩
    · cases h
  · cases h
def zbM (st:zb)(x k v:zQ):Option zb:=
 match st.ev x,st.ev k,st.ev v with
 | .at_ p,.sc (.int .i64 n),.sc (.bool true)=>match st.at p with
   |some (.mp ks)=>bif decide (n∈ks) then none else some ((st.kill (zc.under p false)).setAt p (.mp (ks++[n])))
   |_=>none
 |_,_,_=>none
def zb.mputQ (L:List (List Nat))(st:zb)(x:zQ):Bool:=
 match st.ev x with
 | .at_ p=> !L.contains p
 |_=>true
theorem zeL {x:zQ}:st.mputQ [] x=true:=by
 unfold zb.mputQ
 split<;>rfl
theorem zhP (R:zK E N V st a.tmps){t kt et:TypeId}{kd:IntKind}{x k v:Operand}{ox ok ov:zQ}(ho:o.op= .mapUpdate t x k v∨o.op= .insert t x k v)(ht:P.underlying t=some (.map kt et))(hk:P.underlying kt=some (.int kd))
    (hx:zv x=some ox) (hok:zv k=some ok) (hv:zv v=some ov) {st':zb} (h:zbM st ox ok ov=some st') (hq:st.mputQ L ox=true):zmQ L E N V st' a P o:=by
  unfold zbM at h
  split at h
  · rename_i p n hA hK hV
    split at h
    · rename_i ks hB
      rcases Zk h with⟨_,h⟩|⟨hnm,h⟩
      · cases h
      have hm:n∉ks:=of_decide_eq_false hnm
      cases h
      unfold zb.mputQ at hq
      rw[hA] at hq
      simp only[] at hq
      obtain⟨B,u,h1,h2,h3,h4,h5⟩:=YM R hx hA
      rw[hB] at h1
      cases h1
      have hkv:a.eval k= .int .i64 n:=jj R hok hK
      have hvv:a.eval v= .bool true:=jj R hv hV
      have hpl:=zO hB
      cases h5 with
      | mp _ _ b es c hO hb he=>
        have hlt:=R.lim _ _ hO
        have hf:=Ku kd n es.toList ks 0 he
        have turn:∀(x':Obj) (ks':List Int) (es':Array MapEntry) (c':Nat),x'= .map es' c'→es'.toList.map (fun e=>(e.key,e.val))=mpE ks'→(execOp a.eval o).run P E.w= .ok .skip (E.obj b x').w→
            zmQ L E N V ((st.kill (zc.under p false)).setAt p (.mp ks')) a P o:=fun x' ks' es' c' hx' he' hrun=>by
          subst hx'
          refine⟨E.obj b (.map es' c'),hrun,R.turn (B':= .mp ks') (keep:=false) hB rfl (fun e=>by cases e) (vF hO) (ziC R.lim) rfl h3 ?_,zf9 hO (Z8 hpl) (qr hq)⟩
          exact .mp p ks' b es' c' hO (zgi hlt) he'
        have hj:=hf.2 hm
        refine turn (.map (es.push {key:= .int .i64 n,val:= .bool true,born:=c}) (c+1)) (ks++[n]) _ _ rfl (by simp[he,mpE]) ?_
        rcases ho with ho|ho<;>
          simp[execOp,ho,h4,hkv,hvv,Instr.mapUpdate,run_underlying ht,run_underlying hk,getObj,setObj,Sem.run,hb,WU hk,Instr.findKey,hj,Env.obj]
    · cases h
  · cases h
end
end Go.Ga

namespace Go.Ga
open Go
section
variable {L:List (List Nat)} {E:Env} {N:Nat} {V:List Nat} {st:zb} {a:Act} {P:Program} {o:Oper} {d:Nat} {t t' e:TypeId} {i:TypeInfo} {z:Value}
def zhS (st:zb)(d:Nat)(s x:zQ)(sz:Nat):Option zb:=
 match st.evA s with
 | .sl id off len s'=>match st.h[id]? with
   | some (some cs)=>match st.given sz (st.evA x) with
     |some xs=>if s'=sz∧off+min (xs.length / sz) len*sz≤cs.length∧zc.copyableL xs=true∧zc.cellOkL xs=true then some ((st.storeObj id (Zp cs off (xs.take (min (xs.length / sz) len*sz)))).putT d (.sc (.int .i64 ((min (xs.length / sz) len:Nat):Int)))) else none
     |none=>none
   |_=>none
 | .at_ p=>match st.at p with
   | some (.own (some _) [])=>match st.given sz (st.evA x) with
     |some _=>some (st.putT d (.sc (.int .i64 0)))
     |none=>none
   |_=>none
 |_=>none
def zb.cpyQ (L:List (List Nat))(st:zb)(s:zQ):Bool:=
 match st.evA s with
 | .sl id _ _ _=> !L.contains [1,id]
 |_=>true
theorem zhc {st:zb}{s:zQ}:st.cpyQ [] s=true:=by
 unfold zb.cpyQ
 split<;>rfl
theorem zfO (ht:P.underlying t=some (.slice e))(hi:P.info? e=some i){w:World}{b k len cap m:Nat}{arr:Array Value}{T:TypeId}(hb:w.heap[b]?=some (.cells arr T (0,0))){v:Value}{news:List Value}(h:Holds w i.size m v news)
    (hfit:k+(news.take (min m len*i.size)).length≤arr.size) (h1:∀u∈news,u.oneCell'=true) (ty:TypeId):
    (Builtin.copy_ #[t,t'] ty #[.slice (some ⟨b,k,none⟩) len cap,v]).run P w= .ok (.int .i64 ((min m len:Nat):Int)) (w.setRow b (arr.toList.take k++news.take (min m len*i.size)++arr.toList.drop (k+(news.take (min m len*i.size)).length)).toArray):=by
  have hst:=run_storeCells_at P b k T (news.take (min m len*i.size)) 0 arr w hb (by simpa using hfit) (fun u hu=>h1 u (List.mem_of_mem_take hu))
  simp only[Nat.add_zero] at hst
  have hnm:Nat.min m len=min m len:=rfl
  obtain⟨hl,h|⟨b',k',c,rfl,hc⟩⟩:=h
  · obtain⟨p,rfl,rfl⟩:=h
    have hn0:news=[]:=by simpa using hl
    subst hn0
    have h00:min 0 len=0:=Nat.zero_min len
    have hf:(Builtin.firstCells i.size (min 0 len) (.slice p 0 0)).run P w= .ok #[] w:=by
      rw[h00]
      cases p with
      |none=>simp[Builtin.firstCells]
      |some a=>exact run_firstCells_some w i.size 0 a 0 0 [] (by simp) (fun j u hj=>by simp at hj)
    simp[h00] at hst hf
    simp[Builtin.copy_,run_underlying ht,sizeOf,typeInfo,hi,Builtin.lenOf,hf,hst,goInt,h00]
  · have hlen:(news.take (min m len*i.size)).length=min m len*i.size:=by
      rw[List.length_take,hl]
      exact Nat.min_eq_left (Nat.mul_le_mul_right _ (Nat.min_le_left _ _))
    have hf:=run_firstCells_some (P:=P) w i.size (min m len) ⟨b',k',none⟩ m c (news.take (min m len*i.size)) hlen (fun j u hj=>by
      rw[Addr.add_lit]
      refine hc j u ?_
      rw[List.getElem?_take] at hj
      split at hj
      · exact hj
      · cases hj)
    simp[Builtin.copy_,run_underlying ht,sizeOf,typeInfo,hi,Builtin.lenOf,hnm,hf,hst,goInt]
theorem zeh (ht:P.underlying t=some (.slice e))(hi:P.info? e=some i){w:World}{ba:Option Addr}{cap m:Nat}{v:Value}{news:List Value}(h:Holds w i.size m v news)(ty:TypeId):
    (Builtin.copy_ #[t,t'] ty #[.slice ba 0 cap,v]).run P w= .ok (.int .i64 0) w:=by
  have h00:min m 0=0:=Nat.min_zero m
  have hnm:Nat.min m 0=0:=Nat.min_zero m
  have hf:∃p c,v= .slice p m c∧(Builtin.firstCells i.size 0 v).run P w= .ok #[] w:=by
    obtain⟨hl,h|⟨b',k',c,rfl,hc⟩⟩:=h
    · obtain⟨p,rfl,rfl⟩:=h
      refine⟨p,0,rfl,?_⟩
      cases p with
      |none=>simp[Builtin.firstCells]
      |some a=>exact run_firstCells_some w i.size 0 a 0 0 [] (by simp) (fun j u hj=>by simp at hj)
    · exact⟨_,c,rfl,run_firstCells_some w i.size 0 _ m c [] (by simp) (fun j u hj=>by simp at hj)⟩
  obtain⟨p,c,rfl,hf⟩:=hf
  cases ba with
  |none=>simp[Builtin.copy_,run_underlying ht,sizeOf,typeInfo,hi,Builtin.lenOf,hnm,hf,goInt]
  |some a=>simp[Builtin.copy_,run_underlying ht,sizeOf,typeInfo,hi,Builtin.lenOf,hnm,hf,goInt,storeCells]
theorem znf (R:zK E N V st a.tmps)(F:zX N V st d){s x:Operand}{os ox:zQ}(ho:o.op= .call {callee:= .builtin .copy,args:= #[s,x],argTypes:= #[t,t']})(ht:P.underlying t=some (.slice e))(hi:P.info? e=some i)(hsz:0<i.size)
    (hs:zv s=some os) (hx:zv x=some ox) {st':zb} (h:zhS st d os ox i.size=some st') (hq:st.cpyQ L os=true):yc L E N V st' a P o d:=by
  unfold zhS at h
  unfold zb.cpyQ at hq
  have hXna:∀xs,st.given i.size (st.evA ox)=some xs→∃X,st.evA ox=X∧X.isAlias=false:=fun xs hgx=>by
    refine⟨_,rfl,?_⟩
    generalize st.evA ox=X at hgx
    cases X<;>first|rfl|(simp only[zb.given] at hgx;cases hgx)
  have hrun:(execOp a.eval o).run P E.w=((Builtin.copy_ #[t,t'] o.type #[a.eval s,a.eval x]).run P E.w).andThen (fun v w=> .ok (.value v) w):=by
    simp[execOp,ho,resolve,invoke,builtin]
  split at h
  case h_3=>cases h
  case h_2=>
    rename_i p hev
    split at h
    case h_2=>cases h
    rename_i s' hp
    split at h
    case h_2=>cases h
    rename_i xs hgx
    cases h
    obtain⟨B,v,h1,h2,h3,h4,h5⟩:=ut R hs hev
    rw[hp] at h1
    cases h1
    obtain⟨X,hX,hna⟩:=hXna _ hgx
    rw[hX] at hgx
    obtain⟨v2,po',k1,k2,_⟩:=zN R hx (ZG hX hna) hna
    obtain⟨m,news,hHold,hnl,hxs⟩:=yJ R hsz k2 hgx
    have h0:∃ba cap,v= .slice ba 0 cap:=by
      cases h5 with
      | own _ _ _ b k len cap arr T f hO hb hl hc hm ha hf hh=>
        have hz:len=0:=by
          have:=hl.2
          rcases Nat.mul_eq_zero.1 this.symm with h|h
          · exact h
          · have:=hl.1;omega
        subst hz
        exact⟨_,_,rfl⟩
      |ownNil=>exact⟨_,_,rfl⟩
    obtain⟨ba,cap,rfl⟩:=h0
    refine⟨.int .i64 0,E,?_,R.putT_val F.lt F.v F.t (.sc _ _),Zc.refl E⟩
    rw[hrun,h4,k1,zeh ht hi hHold]
    rfl
  rename_i id off len s' hsv
  rw[hsv] at hq
  simp only[] at hq
  split at h
  case h_2=>cases h
  rename_i cs hcs
  split at h
  case h_2=>cases h
  rename_i xs hgx
  split at h
  case isFalse=>cases h
  rename_i hc
  obtain⟨rfl,hle,hcp,hok⟩:=hc
  cases h
  obtain⟨y,po,h1,h2,_⟩:=zN R hs (ZG hsv rfl) rfl
  obtain⟨X,hX,hna⟩:=hXna _ hgx
  rw[hX] at hgx
  obtain⟨v,po',k1,k2,_⟩:=zN R hx (ZG hX hna) hna
  obtain⟨m,news,hHold,hnl,hxs⟩:=yJ R hsz k2 hgx
  have hxm:xs.length=m*i.size:=hnl▸hHold.1
  have hdiv:xs.length / i.size=m:=by rw[hxm,Nat.mul_div_cancel _ hsz]
  rw[hdiv] at hle⊢
  have hone:∀u∈news,u.oneCell'=true:=by
    intro u hu
    obtain⟨j,hj⟩:=List.mem_iff_getElem?.1 hu
    have hlt:j<xs.length:=by rw[←hnl];exact(List.getElem?_eq_some_iff.1 hj).1
    exact(hxs j _ u (List.getElem?_eq_getElem hlt) hj none).oneCell (qU hok (List.getElem?_eq_getElem hlt))
  cases h2 with
  | sl _ _ _ _ cap _ hid hcap hm hκ=>
    obtain⟨hO,arr,T,f,hb,ha,hl,hf,hold⟩:=R.objs id cs hcs
    have hmn:min m len*i.size≤m*i.size:=Nat.mul_le_mul_right _ (Nat.min_le_left _ _)
    have hxl:(xs.take (min m len*i.size)).length=min m len*i.size:=by rw[List.length_take,hxm];exact Nat.min_eq_left hmn
    have hnl2:(news.take (min m len*i.size)).length=min m len*i.size:=by rw[List.length_take,hnl,hxm];exact Nat.min_eq_left hmn
    have hle':off+(xs.take (min m len*i.size)).length≤cs.length:=by rw[hxl];exact hle
    have hfit:E.β id+off+(news.take (min m len*i.size)).length≤arr.size:=by rw[hnl2];omega
    have hr:=zfO (P:=P) (t':=t') ht hi hb (len:=len) (cap:=cap) hHold hfit hone o.type
    let arr':=(arr.toList.take (E.β id+off)++news.take (min m len*i.size)++arr.toList.drop (E.β id+off+(news.take (min m len*i.size)).length)).toArray
    have hs':arr'.size=arr.size:=yx hfit
    have hOR:QA (E.row (E.ρ id) arr') id (Zp cs off (xs.take (min m len*i.size))):=by
      refine⟨hO,arr',T,fun j=>arr'.getD (E.β id+j) undef,setRow_heap _ _ _ _ _ _ hb,by rw[hs'];exact ha,by rw[ZE hle'];exact hl,fun j B hj=>?_,fun j B hj=>?_⟩
      · have hlt:j<cs.length:=by rw[←ZE hle'];exact(List.getElem?_eq_some_iff.1 hj).1
        have:E.β id+j<arr'.size:=by rw[hs'];omega
        show arr'[E.β id+j]?=some (arr'.getD (E.β id+j) undef)
        simp[Array.getD,this]
      · have hlt:j<cs.length:=by rw[←ZE hle'];exact(List.getElem?_eq_some_iff.1 hj).1
        have hlt2:E.β id+j<arr'.size:=by rw[hs'];omega
        have hg:=wK (arr:=arr) (vs:=news.take (min m len*i.size)) hfit (E.β id+j)
        have hgd:∀u,arr'[E.β id+j]?=some u→arr'.getD (E.β id+j) undef=u:=fun u hu=>by simp[Array.getD,hlt2,(Array.getElem?_eq_some_iff.1 hu).2]
        show VRel (E.row (E.ρ id) arr') (some ([1,id]++[j])) B (arr'.getD (E.β id+j) undef)
        rw[J8 hle'] at hj
        split at hj
        · rename_i hjk
          rw[hxl] at hjk
          rw[if_pos (by rw[hnl2];omega)] at hg
          have hlt3:j - off<(news.take (min m len*i.size)).length:=by rw[hnl2];omega
          rw[show E.β id+j - (E.β id+off)=j - off by omega,List.getElem?_eq_getElem hlt3] at hg
          rw[hgd _ hg]
          have hj':xs[j - off]?=some B:=by
            rw[List.getElem?_take,if_pos (by omega)] at hj
            exact hj
          have hn':news[j - off]?=some ((news.take (min m len*i.size))[j - off]):=by
            have:=List.getElem?_eq_getElem hlt3
            rw[List.getElem?_take,if_pos (by omega)] at this
            exact this
          have:=(hxs _ B _ hj' hn' none).copy (some ([1,id]++[j])) (Zi hcp hj')
          exact this.rowKeep hO
        · rename_i hjk
          rw[hxl] at hjk
          rw[if_neg (by rw[hnl2];omega)] at hg
          have hw:=hf j B hj
          rw[hgd _ (hg.trans hw)]
          exact(hold j B hj).rowKeep hO
    have R4:=R.obj hcs (qe (arr:=arr') hO) (wR R.lim) rfl hOR
    have F4:zX N V (st.storeObj id (Zp cs off (xs.take (min m len*i.size)))) d:=F.of (by simp only[zb.storeObj];exact ZT)
    refine⟨.int .i64 ((min m len:Nat):Int),E.row (E.ρ id) arr',?_,R4.putT_val F4.lt F4.v F4.t (.sc _ _),yz hO (xD _) (qr hq)⟩
    rw[hrun,h1,k1,hr]
    rfl
end
end Go.Ga

namespace Go.Ga
open Go
def XE (xs:List Operand)(mv:Bool):Option (List (zQ×Bool)):=(xs.mapM zv).map fun l=>l.map fun o=>(o,mv)
def zcv :Option Operand→Option (Option zQ)
 |none=>some none
 |some x=>(zv x).map some
def UU (P:Program)(t:TypeId)(d:TypeDesc):Option Nat:=
 match d with
 | .int _=>some 0
 | .string=>some 0
 | .bool=>some 1
 | .pointer _=>some 2
 | .slice _=>some 3
 | .func _ _ _=>some 4
 | .struct fs=>if Xi P t fs=true then some (6+fs.toList.length) else none
 |_=>none
def ziL (P:Program)(t:TypeId):Bool:=
 match P.underlying t with
 |some (.array _ e)=>(P.info? e).isSome
 |some (.struct fields)=>(fields.toList.mapM (fun f=>(P.info? f.type).map fun i=>(f.offset,i.size))).isSome
 |_=>false
def QT (P:Program)(t:TypeId):List (Nat×Operand)→Option (List ((Nat×Nat)×zQ×Bool))
 |[]=>some []
 |(i,x)::l=>(j9 P t i).bind fun pl=>(zv x).bind fun ox=>(QT P t l).map fun r=>(pl,ox,true)::r
def QS (sz:Nat):List (Nat×Operand)→Option (List ((Nat×Nat)×zQ×Bool))
 |[]=>some []
 |(i,x)::l=>(zv x).bind fun ox=>(QS sz l).map fun r=>((i*sz,sz),ox,true)::r
def zQ.same :zQ→zQ→Bool
 | .t i,.t j=>i==j
 | .c (.int _ a),.c (.int _ b)=>a==b
 |_,_=>false
inductive ZS where
 |r (o:AOp)
 |asg (d:Nat) (x:zQ) (mv:Bool)
 |mk (d:Nat) (l c:zQ) (sz bs:Nat) (zs:List Value)
 |mko (d:Nat) (l c:zQ) (sz bs:Nat) (zs:List Value)
 |capq (d:Nat) (x:zQ)
 |appz (d:Nat) (s x:zQ) (sz bs:Nat) (zs:List Value)
 |cpy (d:Nat) (s x:zQ) (sz:Nat)
 |bad (d:Option Nat)
 |mkmp (d:Nat)
 |mget (d:Nat) (x k:zQ)
 |mput (x k v:zQ)
 |blds (d len sz:Nat) (parts:List ((Nat×Nat)×zQ×Bool)) (zs:List Value)
 |bld (d:Nat) (parts:List ((Nat×Nat)×zQ×Bool)) (zs:List Value)
 |app (d:Nat) (s x:zQ) (sz bs:Nat)
 |slc (d:Nat) (x:zQ) (lo hi:Option zQ) (sz:Nat)
 |box (d:Nat) (x:zQ)
 |alloc (d:Nat) (zs:List Value)
 |mkfn (d:Nat) (f:Fn) (first captured:List (zQ×Bool))
 |st (x v:zQ) (n:Nat)
 |call (d:Nat) (f:zQ) (args:List (zQ×Bool))
def ZS.dst :ZS→Option Nat
 | .r o=>o.dst
 | .asg d _ _| .mk d _ _ _ _ _| .mko d _ _ _ _ _| .capq d _| .mkmp d| .mget d _ _| .appz d _ _ _ _ _| .cpy d _ _ _| .blds d _ _ _ _| .bld d _ _| .app d _ _ _ _| .slc d _ _ _ _| .box d _| .alloc d _| .mkfn d _ _ _| .call d _ _=>some d
 | .st _ _ _=>none
 | .mput _ _ _=>none
 | .bad d=>d
def ym (P:Program)(rs:List Nat×List Nat)(o:Oper):Option ZS:=
 match o.op,o.dst with
 | .move x,some d=>(zv x).map fun ox=>if rs.2.contains d=true then .asg d ox true else .r (.mov d ox)
 | .assign x,some d=>(zv x).map fun ox=> .asg d ox true
 | .pick c x y,some d=>(zv c).bind fun oc=>(zv x).bind fun ox=>(zv y).map fun oy=> .r (.pick d oc ox oy)
 | .binOp op t x y _,some d=>(P.underlying t).bind fun dsc=>(UU P t dsc).bind fun tag=>(zv x).bind fun ox=>(zv y).map fun oy=> .r (.bin d op tag ox oy)
 | .unOp .not _ x,some d=>(zv x).map fun ox=> .r (.notb d ox)
 | .convert s t x,some d=>match P.underlying s,P.underlying t with
   |some (.int _),some (.int k)=>(zv x).map fun ox=> .r (.conv d k ox)
   |_,_=>none
 | .nilCheck x,some d=>(zv x).map fun ox=> .r (.nilck d ox)
 | .fieldAddr s x i,some d=>match P.underlying s with
   |some (.struct fs)=>(fs[i]?).bind fun fl=>(P.info? fl.type).bind fun inf=>if inf.size=0 then none else(zv x).map fun ox=> .r (.fldA d ox fl.offset)
   |_=>none
 | .field s x i,some d=>match P.underlying s with
   |some (.struct fs)=>(fs[i]?).bind fun fl=>(P.underlying fl.type).bind fun dsc=>(P.info? fl.type).bind fun inf=>(zv x).map fun ox=> .r (.fld d ox fl.offset inf.size (ZZ dsc))
   |_=>none
 | .indexAddr t x i,some d=>match P.underlying t with
   |some (.slice e)=>(P.info? e).bind fun inf=>if inf.size=0 then none else(zv x).bind fun ox=>(zv i).map fun oi=> .r (.idxA d ox oi inf.size)
   |some (.array n e)=>(P.info? e).bind fun inf=>(zv x).bind fun ox=>(zv i).map fun oi=> .r (.idxP d ox oi n inf.size)
   |_=>none
 | .index t x i,some d=>match P.underlying t with
   |some .string=>(zv x).bind fun ox=>(zv i).map fun oi=> .r (.idxS d ox oi)
   |some (.array n e)=>(P.underlying e).bind fun dsc=>(P.info? e).bind fun inf=>(zv x).bind fun ox=>(zv i).map fun oi=> .r (.idxV d ox oi n inf.size (ZZ dsc))
   |_=>none
 | .load t x,some d=>(P.underlying t).bind fun dsc=>(P.info? t).bind fun inf=>(zv x).map fun ox=> .r (.ld d ox inf.size (ZZ dsc))
 | .store t x v,none=>(P.info? t).bind fun inf=>(zv x).bind fun ox=>(zv v).map fun ov=> .st ox ov inf.size
 | .extract x i,some d=>(zv x).map fun ox=> .r (.ext d ox i)
 | .makeSlice t l c,some d=>match P.underlying t with
   |some (.slice e)=>(P.info? e).bind fun inf=>inf.zero.bind fun z=>if z.cells.size=inf.size∧0<inf.size then(zv l).bind fun ol=>(zv c).map fun oc=>bif ol.same oc then .mk d ol oc inf.size inf.bytes z.cells.toList else .mko d ol oc inf.size inf.bytes z.cells.toList else none
   |_=>none
 | .buildSlice t len parts,some d=>match P.underlying t with
   |some (.slice e)=>(P.info? e).bind fun inf=>inf.zero.bind fun z=>if z.cells.size=inf.size∧0<inf.size then(QS inf.size parts.toList).map fun ps=> .blds d len inf.size ps z.cells.toList else none
   |_=>none
 | .build t parts,some d=>(P.info? t).bind fun inf=>inf.zero.bind fun z=>if ziL P t=true then(QT P t parts.toList).map fun ps=> .bld d ps z.cells.toList else none
 | .box _ x,some d=>(zv x).map fun ox=> .box d ox
 | .alloc t,some d=>(P.info? t).bind fun inf=>inf.zero.map fun z=> .alloc d z.cells.toList
 | .makeFunc f first captured,some d=>(XE first.toList false).bind fun o1=>(XE captured.toList false).map fun o2=> .mkfn d f o1 o2
 | .slice t x lo hi none,some d=>match P.underlying t with
   |some (.slice e)=>(P.info? e).bind fun inf=>if inf.size=0 then none else(zv x).bind fun ox=>(zcv lo).bind fun olo=>(zcv hi).map fun ohi=> .slc d ox olo ohi inf.size
   |_=>none
 | .call c,some d=>match c.callee with
   | .value f=>(zv f).bind fun of=>(XE c.args.toList false).map fun as=> .call d of as
   | .builtin .len=>match c.args.toList,c.argTypes.toList with
     | [x],[t]=>match P.underlying t with
       |some (.slice _)=>(zv x).map fun ox=> .r (.len d ox)
       |some .string=>(zv x).map fun ox=> .r (.lenS d ox)
       |_=>none
     |_,_=>none
   | .builtin .cap=>match c.args.toList,c.argTypes.toList with
     | [x],[t]=>match P.underlying t with
       |some (.slice _)=>(zv x).map fun ox=> .capq d ox
       |_=>none
     |_,_=>none
   | .builtin .max=>match c.args.toList with
     |[x,y]=>(zv x).bind fun ox=>(zv y).map fun oy=> .r (.mm d true ox oy)
     |_=>none
   | .builtin .min=>match c.args.toList with
     |[x,y]=>(zv x).bind fun ox=>(zv y).map fun oy=> .r (.mm d false ox oy)
     |_=>none
   | .builtin .append=>match c.args.toList,c.argTypes.toList with
     | [s,x],[t,t']=>if t=t' then match P.underlying t with
       |some (.slice e)=>(P.info? e).bind fun inf=>inf.zero.bind fun z=>if z.cells.size=inf.size∧0<inf.size∧0<inf.bytes then(zv s).bind fun os=>(zv x).map fun ox=> .app d os ox inf.size inf.bytes else none
       |_=>none
       else match P.underlying t,P.underlying t' with
        |some (.slice e),some (.int _)=>(P.info? e).bind fun inf=>inf.zero.bind fun z=>if z.cells.size=inf.size∧0<inf.size then(zv s).bind fun os=>(zv x).map fun ox=> .appz d os ox inf.size inf.bytes z.cells.toList else none
        |_,_=>none
     |_,_=>none
   | .builtin .copy=>match c.args.toList,c.argTypes.toList with
     | [s,x],[t,_]=>match P.underlying t with
       |some (.slice e)=>(P.info? e).bind fun inf=>if 0<inf.size then(zv s).bind fun os=>(zv x).map fun ox=> .cpy d os ox inf.size else none
       |_=>none
     |_,_=>none
   |_=>none
 | .makeMap _ none,some d=>some (.mkmp d)
 | .lookup t x k false,some d=>match P.underlying t with
   | some (.map kt et)=>match P.underlying kt with
     | some (.int _)=>(P.info? et).bind fun inf=>match inf.zero with
       |some (.bool false)=>(zv x).bind fun ox=>(zv k).map fun ok=> .mget d ox ok
       |_=>none
     |_=>none
   |_=>none
 | .mapUpdate t x k v,none=>match P.underlying t with
   | some (.map kt _)=>match P.underlying kt with
     |some (.int _)=>(zv x).bind fun ox=>(zv k).bind fun ok=>(zv v).map fun ov=> .mput ox ok ov
     |_=>none
   |_=>none
 | .insert t x k v,none=>match P.underlying t with
   | some (.map kt _)=>match P.underlying kt with
     |some (.int _)=>(zv x).bind fun ox=>(zv k).bind fun ok=>(zv v).map fun ov=> .mput ox ok ov
     |_=>none
   |_=>none
 |_,_=>none
def jt :Option zb→(zb→Prop)→Prop
 |some s,K=>K s
 |none,_=>False
def j8 (P:Program)(rs:List Nat×List Nat)(o:Oper):Option ZS:=match ym P rs o with
 |some b=>some b
 |none=>some (.bad o.dst)
def zb.blank (st:zb):zc→Bool
 | .imm _ []=>true
 | .own (some _) []=>true
 | .at_ p=>match st.owned p with
   |some (some _,[])=>true
   |_=>false
 |_=>false
def WM (K:zb→Prop)(st:zb):AOp→Prop
 | .bin d op tag x y=>tag=3∧st.blank (st.ev x)=true∧st.isNil 3 (st.ev y)=some true∧match jN op true,jN op false with
   |some A,some B=>K (st.putT d A)∧K (st.putT d B)
   |_,_=>False
 |_=>False
def Jo (P:Program)(L:List (List Nat))(K:zb→Prop)(st:zb):ZS→Prop
 | .r o=>match J5 st o,o.dst with
   |some A,some d=>K (st.putT d A)
   |none,some _=>WM K st o
   |_,none=>False
 | .asg d x mv=>jt (zhV st d x mv) K
 | .mk d l c sz bs zs=>jt (aMk st d l c sz bs zs) K
 | .mko d l c sz bs zs=>jt (zhR st d l c sz bs zs) K
 | .capq d x=>match st.evA x with
   | .sl id off len sz=>match st.h[id]? with
     |some (some cs)=>∀n:Nat,len≤n→cs.length≤off+n*sz→n≤9223372036854775807→K (st.putT d (.sc (.int .i64 (n:Int))))
     |_=>False
   | .sc u=>qP u=true∧K (st.putT d (.sc (.int .i64 0)))
   |_=>False
 | .bad _=>False
 | .mkmp d=>jt (zbN st d) K
 | .mget d x k=>jt (zbP st d x k) K
 | .mput x k v=>jt (zbM st x k v) K
 | .appz d s x sz bs zs=>jt (zbR st d s x sz bs zs) K
 | .cpy d s x sz=>jt (zhS st d s x sz) K
 | .blds d len sz ps zs=>jt (zbQ st d len sz ps zs) K
 | .bld d ps zs=>jt (zhU st d ps zs) K
 | .app d s x sz bs=>jt (zhW st d s x sz bs) K
 | .slc d x lo hi sz=>jt (zhQ st d x lo hi sz) K
 | .box d x=>jt (zhT st d x) K
 | .alloc d zs=>jt (U9 st d zs) K
 | .mkfn d f o1 o2=>jt (zbO st d f o1 o2) K
 | .st x v n=>jt (aSt st x v n) K
 | .call d f as=>YO P L st d f as K
section
variable {L:List (List Nat)} {E:Env} {N:Nat} {V:List Nat} {st:zb} {a:Act} {P:Program} {o:Oper} {d:Nat} {tm:Array Value} {rs:List Nat×List Nat}
def ZS.fresh (N:Nat)(V:List Nat)(st:zb):ZS→Prop
 | .asg d _ _=>d∈V∧d<N
 | .st _ _ _=>True
 |b=>∀d,b.dst=some d→zX N V st d
theorem zdc {next:Act→World→Prop}{Q:Exit→Act→World→Prop}{v:Value}{w w':World}(hr:(execOp a.eval o).run P w= .ok (.value v) w')(hd:o.dst=some d)(h:next (a.put (some d) v) w'):o.wp P a w next Q:=by
 unfold Oper.wp
 rw[hr,Oper.upon_value,hd]
 exact h
theorem zfF {next:Act→World→Prop}{Q:Exit→Act→World→Prop}{w w':World}(hr:(execOp a.eval o).run P w= .ok .skip w')(hd:o.dst=none)(h:next a w'):o.wp P a w next Q:=by
 unfold Oper.wp
 rw[hr,Oper.upon_skip,hd]
 exact h
def zc7 (L:List (List Nat))(E:Env)(N:Nat)(V:List Nat)(a:Act)(K:zb→Prop)(next:Act→World→Prop):Prop:=
 ∀E' st' a',zK E' N V st' a'.tmps→a'.defers=a.defers→Zc L E E'→K st'→next a' E'.w
theorem qv {st':zb}{K:zb→Prop}{next:Act→World→Prop}{Q:Exit→Act→World→Prop}(h:yc L E N V st' a P o d)(hd:o.dst=some d)(hk:K st')(hK:zc7 L E N V a K next):o.wp P a E.w next Q:=by
 obtain⟨v,E',hr,R',P'⟩:=h
 exact zdc hr hd (hK E' st' (a.put (some d) v) R' rfl P' hk)
def ZS.quiet (L:List (List Nat))(st:zb):ZS→Bool
 | .r _=>true
 | .asg _ x mv=>st.useQ L x mv
 | .mk _ _ _ _ _ _=>true
 | .mko _ _ _ _ _ _=>true
 | .capq _ _=>true
 | .bad _=>true
 | .mkmp _=>true
 | .mget _ _ _=>true
 | .mput x _ _=>st.mputQ L x
 | .appz _ _ _ _ _ _=>true
 | .cpy _ s _ _=>st.cpyQ L s
 | .blds _ _ _ ps _=>st.useLQ L (ps.map (·.2))
 | .bld _ ps _=>st.useLQ L (ps.map (·.2))
 | .app _ s x _ _=>st.appQ L s x
 | .slc _ x _ _ _=>st.useQ L x true
 | .box _ x=>st.useQ L x true
 | .alloc _ _=>true
 | .mkfn _ _ o1 o2=>st.useLQ L (o1++o2)
 | .st x v _=>st.stQ L x v
 | .call _ _ _=>true
theorem zex {b:ZS}:b.quiet [] st=true:=by
 cases b<;>first
  |rfl
  |exact yj
  |exact vE _
  |exact zhM
  |exact zie
  |exact zeL
  |exact zhc
theorem zka {A:zc}{K:zb→Prop}{next:Act→World→Prop}{Q:Exit→Act→World→Prop}{Ls:List (List Nat)}(h:JB Ls E N V st a P o d A)(hd:o.dst=some d)(hk:K (st.putT d A))(hK:zc7 L E N V a K next):o.wp P a E.w next Q:=by
 obtain⟨v,rd,hrd,hy,R'⟩:=h
 exact zdc (hy E.w fun c hc=>(hrd c hc).1) hd (hK E _ (a.put (some d) v) R' rfl (Zc.refl E) hk)
theorem XP :∀(xs:List Operand) {l:List zQ},xs.mapM zv=some l→xs.map zv=l.map some
 |[],l,h=>by simp at h;subst h;rfl
 | x ::xs,l,h=>by
   rw[List.mapM_cons] at h
   cases hx:zv x with
   |none=>rw[hx] at h;cases h
   | some ox=>
     rw[hx] at h
     cases hr:xs.mapM zv with
     |none=>rw[hr] at h;cases h
     | some l'=>
       rw[hr] at h
       cases h
       simp[hx,XP xs hr]
theorem Y6 {xs:List Operand}{mv:Bool}{l:List (zQ×Bool)}(h:XE xs mv=some l):xs.map zv=l.map fun y=>some y.1:=by
 unfold XE at h
 obtain⟨l',h1,rfl⟩:=Option.map_eq_some_iff.1 h
 rw[XP xs h1,List.map_map]
 rfl
theorem vY {x:Option Operand}{ox:Option zQ}(h:zcv x=some ox):vc x ox:=by
 cases x with
 |none=>cases h;trivial
 | some x=>
   obtain⟨y,h1,rfl⟩:=Option.map_eq_some_iff.1 h
   exact h1
theorem YI {sz:Nat}:∀(ps:List (Nat×Operand)) {l:List ((Nat×Nat)×zQ×Bool)},QS sz ps=some l→(ps.map (·.2)).map zv=(l.map (·.2)).map (fun y=>some y.1)∧ps.map (fun x=>(x.1*sz,sz))=l.map (·.1)
 |[],l,h=>by cases h;exact⟨rfl,rfl⟩
 | (i,x)::ps,l,h=>by
   simp only[QS] at h
   obtain⟨ox,hx,h⟩:=Option.bind_eq_some_iff.1 h
   obtain⟨r,hr,rfl⟩:=Option.map_eq_some_iff.1 h
   obtain⟨h1,h2⟩:=YI ps hr
   exact⟨by simp only[List.map_cons,hx];rw[h1],by simp only[List.map_cons];rw[h2]⟩
theorem YJ {t:TypeId}:∀(ps:List (Nat×Operand)) {l:List ((Nat×Nat)×zQ×Bool)},QT P t ps=some l→(ps.map (·.2)).map zv=(l.map (·.2)).map (fun y=>some y.1)∧ps.map (fun x=>j9 P t x.1)=l.map (fun y=>some y.1)
 |[],l,h=>by cases h;exact⟨rfl,rfl⟩
 | (i,x)::ps,l,h=>by
   simp only[QT] at h
   obtain⟨pl,hp,h⟩:=Option.bind_eq_some_iff.1 h
   obtain⟨ox,hx,h⟩:=Option.bind_eq_some_iff.1 h
   obtain⟨r,hr,rfl⟩:=Option.map_eq_some_iff.1 h
   obtain⟨h1,h2⟩:=YJ ps hr
   exact⟨by simp only[List.map_cons,hx];rw[h1],by simp only[List.map_cons,hp];rw[h2]⟩
def UZ (P:Program)(L:List (List Nat))(K:zb→Prop)(st:zb):ZS→Prop
 | .r o=>∃A d,J5 st o=some A∧o.dst=some d∧K (st.putT d A)
 |b=>Jo P L K st b
theorem zi9 {ao:AOp}{K:zb→Prop}(h:UZ P L K st (.r ao)):∃A d,J5 st ao=some A∧ao.dst=some d∧K (st.putT d A):=h
theorem zfQ {ao:AOp}{K:zb→Prop}(h:Jo P L K st (.r ao)):UZ P L K st (.r ao)∨WM K st ao:=by
 simp only[Jo] at h
 split at h
 · rename_i A d h1 h2;exact .inl ⟨A,d,h1,h2,h⟩
 · exact .inr h
 · exact h.elim
theorem zW {α β:Type}{x:Option α}{f:α→β}{r:β}(h:x.map f=some r):∃y,x=some y∧f y=r:=Option.map_eq_some_iff.1 h
theorem zD {α β:Type}{x:Option α}{f:α→Option β}{r:β}(h:x.bind f=some r):∃y,x=some y∧f y=some r:=Option.bind_eq_some_iff.1 h
end
end Go.Ga
