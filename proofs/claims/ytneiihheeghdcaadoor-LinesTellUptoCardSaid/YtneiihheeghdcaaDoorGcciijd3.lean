/- Values, objects, and code by what it leads to: a library of this claim's own. No condition. -/
import Derived.Test.YtneiihheeghdcaaDoorGcciijd2
set_option linter.all false

namespace Go.Ga
open Go
def zc.bound (st:zc)(dflt:Nat):Option zB→Option Nat
 |none=>some dflt
 | some x=>match st.dec x with
   |some n=>if 0≤n then some n.toNat else none
   |none=>none
def Zd (cs:List zb)(sz lo hi:Nat):List zb:=(cs.drop (lo*sz)).take ((hi - lo)*sz)
def zc.roomTo (st:zc)(id n:Nat):Bool:=match st.h[id]? with
 |some (some cs)=>decide (n≤cs.length)
 |_=>false
def zaZ (st:zc)(d:Nat)(x:zB)(lo hi:Option zB)(sz:Nat):Option zc:=
 match st.use x true with
 | some (A,st1)=>
   match A with
   | .imm s cs=>match st1.bound 0 lo,st1.bound (cs.length / s) hi with
     |some l,some h=>if s=sz∧l≤h∧h≤cs.length / s then some (st1.putT d (.imm sz (Zd cs sz l h))) else none
     |_,_=>none
   | .own (some s) cs=>match st1.bound 0 lo,st1.bound (cs.length / s) hi with
     |some l,some h=>if s=sz∧l≤h∧h≤cs.length / s∧(l=0∨zb.copyableL cs=true) then some (st1.putT d (.own (some sz) (Zd cs sz l h))) else none
     |_,_=>none
   | .sl id off len s=>match st1.bound 0 lo,st1.bound len hi with
     |some l,some h=>if s=sz∧l≤h∧(h≤len∨st1.roomTo id (off+h*sz)=true)∧(l=0∨l<h) then some (st1.putT d (.sl id (off+l*sz) (h - l) sz)) else none
     |_,_=>none
   | .sc u=>match st1.bound 0 lo,st1.bound 0 hi with
     |some l,some h=>if J0 u=true∧l=0∧h=0 then some (st1.putT d (.sc u)) else none
     |_,_=>none
   |_=>none
 |none=>none
section
variable {L:List (List Nat)} {E:Env} {N:Nat} {V:List Nat} {st:zc} {a:Act} {P:Program} {o:Oper} {d:Nat} {tm:Array Value}
theorem Y8 (R:zA E N V st a.tmps){x:Operand}{ox:zB}(hx:zj x=some ox){dflt n:Nat}(h:st.bound dflt (some ox)=some n):∃k,a.eval x= .int k (n:Int):=by
 simp only[zc.bound] at h
 split at h
 · rename_i m hm
   split at h
   · cases h
     obtain⟨k,hk⟩:=J7 R hx hm
     exact⟨k,by rw[hk];congr 1;omega⟩
   · cases h
 · cases h
def QC :Option Operand→Option zB→Prop
 |none,none=>True
 |some x,some ox=>zj x=some ox
 |_,_=>False
theorem jc (R:zA E N V st a.tmps){lo hi:Option Operand}{olo ohi:Option zB}(hlo:QC lo olo)(hhi:QC hi ohi){len cap l h:Nat}(h1:st.bound 0 olo=some l)(h2:st.bound len ohi=some h)(hlh:l≤h)(hh:h≤cap)(b:Bool)(w:World):
    (Instr.sliceBounds b len cap (lo.map a.eval) (hi.map a.eval) none).run P w= .ok (l,h,cap) w:=by
  have hh':(h:Int)≤(cap:Int):=by omega
  have hl':(l:Int)≤(h:Int):=by omega
  have n1:¬cap<h:=by omega
  have n2:¬h<l:=by omega
  cases lo with
  | none=>
    cases olo with
    |some _=>exact hlo.elim
    | none=>
      cases h1
      cases hi with
      | none=>
        cases ohi with
        |some _=>exact hhi.elim
        |none=>cases h2;simp[Instr.sliceBounds]
      | some y=>
        cases ohi with
        |none=>exact hhi.elim
        | some oy=>
          obtain⟨k2,e2⟩:=Y8 R hhi h2
          simp[Instr.sliceBounds,Instr.sliceBound,asIntOf,e2,n1]
  | some x=>
    cases olo with
    |none=>exact hlo.elim
    | some ox=>
      obtain⟨k1,e1⟩:=Y8 R hlo h1
      cases hi with
      | none=>
        cases ohi with
        |some _=>exact hhi.elim
        |none=>cases h2;simp[Instr.sliceBounds,Instr.sliceBound,asIntOf,e1,n2]
      | some y=>
        cases ohi with
        |none=>exact hhi.elim
        | some oy=>
          obtain⟨k2,e2⟩:=Y8 R hhi h2
          simp[Instr.sliceBounds,Instr.sliceBound,asIntOf,e1,e2,hh,hlh]
theorem wM {cs:List zb}{sz l h k:Nat}{A:zb}(hk:(Zd cs sz l h)[k]?=some A):cs[l*sz+k]?=some A∧k<(h - l)*sz:=by
 unfold Zd at hk
 rw[List.getElem?_take] at hk
 split at hk
 · rename_i hlt;exact⟨ZU hk,hlt⟩
 · cases hk
theorem QS {cs:List zb}{sz l h n:Nat}(hc:cs.length=n*sz)(hh:h≤n)(hl:l≤h):(Zd cs sz l h).length=(h - l)*sz:=by
 have h1:h*sz≤n*sz:=Nat.mul_le_mul_right _ hh
 have h2:l*sz≤h*sz:=Nat.mul_le_mul_right _ hl
 simp only[Zd,List.length_take,List.length_drop,hc,Nat.sub_mul]
 omega
theorem QE {t e:TypeId}{inf:TypeInfo}(hu:P.underlying t=some (.slice e))(hi:P.info? e=some inf){p:Option Addr}{len cap l h:Nat}{lo hi':Option Value}{w:World}(hb:(Instr.sliceBounds true len cap lo hi' none).run P w= .ok (l,h,cap) w):
    (Instr.sliceAt t (.slice p len cap) lo hi' none).run P w= .ok (.slice (if cap=l then p else p.map (·.add (l*inf.size))) (h - l) (cap - l)) w:=by
  simp[Instr.sliceAt,Instr.slice,run_underlying hu,hb,sizeOf,typeInfo,hi]
theorem WH {b k cap l sz:Nat}:(if cap=l then some (⟨b,k,none⟩:Addr) else(some (⟨b,k,none⟩:Addr)).map (·.add (l*sz)))=some ⟨b,if cap=l then k else k+l*sz,none⟩:=by
 split<;>simp[Addr.add_lit]
theorem ze0 (R : zA E N V st a.tmps)(F:zG N V st d){t e:TypeId}{inf:TypeInfo}{x:Operand}{ox:zB}{lo hi:Option Operand}{olo ohi:Option zB}(ho:o.op= .slice t x lo hi none)(hu':P.underlying t=some (.slice e))(hi':P.info? e=some inf)(hsz:0<inf.size)
    (hx:zj x=some ox) (hlo:QC lo olo) (hhi:QC hi ohi) {st':zc} (h:zaZ st d ox olo ohi inf.size=some st') (hq:st.useQ L ox true=true):qQ L E N V st' a P o d:=by
  unfold zaZ at h
  split at h
  · rename_i A st1 hu
    obtain⟨E1,R1,F1,P1,hw1⟩:=jE R hx hu 0 (l:=[]) (fun x hx=>by cases hx) (fun x hx=>by cases hx) hq
    have hA:VRel E1 (some [9,0]) A (a.eval x):=F1 _ (List.mem_cons_self ..)
    have Fs:=F.of (ZI hu)
    have hrun:∀w,(execOp a.eval o).run P w=((Instr.sliceAt t (a.eval x) (lo.map a.eval) (hi.map a.eval) none).run P w).andThen (fun v w=> .ok (.value v) w):=fun w=>by simp[execOp,ho]
    cases A with
    | imm s cs=>
      simp only[] at h
      split at h
      · rename_i l hh h1 h2
        split at h
        · rename_i hc
          obtain⟨rfl,hl,hle⟩:=hc
          cases h
          generalize hy:a.eval x=y at hA
          cases hA with
          | imm _ _ _ b k len cap f hO hb hlen hcap hf hv=>
            have e1:cs.length / inf.size=len:=by rw[hlen.2,Nat.mul_div_cancel _ hlen.1]
            rw[e1] at h2 hle
            have hr:=QE (P:=P) hu' hi' (p:=some ⟨b,k,none⟩) (jc (P:=P) R1 hlo hhi h1 h2 hl (Nat.le_trans hle hcap) true E.w)
            rw[WH] at hr
            refine⟨_,E1,by rw[hrun,hy,hr,hw1];rfl,R1.putT_val Fs.lt Fs.v Fs.t ?_,P1⟩
            refine .imm _ _ _ b _ (hh - l) (cap - l) (fun j=>f (l*inf.size+j)) hO hb ⟨hsz,QS hlen.2 hle hl⟩ (by omega) (fun j A hj=>?_) fun j A hj=>hv _ A (wM hj).1
            obtain⟨h3,h4⟩:=wM hj
            have hne:cap≠l:=fun e=>by
              have:hh - l=0:=by omega
              rw[this] at h4;simp at h4
            rw[if_neg hne,Nat.add_assoc]
            exact hf _ A h3
          | immNil _ _ pa=>
            have e1:([]:List zb).length / inf.size=0:=by simp
            rw[e1] at h2 hle
            have hl0:l=0:=by omega
            have hh0:hh=0:=by omega
            subst hl0 hh0
            have hr:=QE (P:=P) hu' hi' (p:=pa) (jc (P:=P) R1 hlo hhi h1 h2 hl (Nat.le_refl _) true E.w)
            refine⟨_,E1,by rw[hrun,hy,hr,hw1];rfl,R1.putT_val Fs.lt Fs.v Fs.t ?_,P1⟩
            simp only[if_true,show Zd [] inf.size 0 0=[] by simp[Zd]]
            exact .immNil _ _ _
        · cases h
      · cases h
    | own hd cs =>
      cases hd with
      |none=>cases h
      | some s=>
        simp only[] at h
        split at h
        · rename_i l hh h1 h2
          split at h
          · rename_i hc
            obtain⟨rfl,hl,hle,hcp⟩:=hc
            cases h
            generalize hy:a.eval x=y at hA
            cases hA with
            | own _ _ _ b k len cap arr T f hO hb hlen hcap hm ha hf hv=>
              have e1:cs.length / inf.size=len:=by rw[hlen.2,Nat.mul_div_cancel _ hlen.1]
              rw[e1] at h2 hle
              have hr:=QE (P:=P) hu' hi' (p:=some ⟨b,k,none⟩) (jc (P:=P) R1 hlo hhi h1 h2 hl (Nat.le_trans hle hcap) true E.w)
              rw[WH] at hr
              have hv2:VRel E1 (some [9,0]) (.own (some inf.size) (Zd cs inf.size l hh)) (.slice (some ⟨b,if cap=l then k else k+l*inf.size,none⟩) (hh - l) (cap - l)):=by
                have hmul:l*inf.size≤cap*inf.size:=Nat.mul_le_mul_right _ (by omega)
                refine .own _ _ _ b _ (hh - l) (cap - l) arr T (fun j=>f (l*inf.size+j)) hO hb ⟨hsz,QS hlen.2 hle hl⟩ (by omega) (by omega) ?_ (fun j A hj=>?_) fun j A hj=>?_
                · rw[Nat.sub_mul];split<;>omega
                · obtain⟨h3,h4⟩:=wM hj
                  have hne:cap≠l:=fun e=>by
                    have:hh - l=0:=by omega
                    rw[this] at h4;simp at h4
                  rw[if_neg hne,Nat.add_assoc]
                  exact hf _ A h3
                · have h3:=(wM hj).1
                  rcases hcp with rfl|hcp
                  · have:=hv _ A h3
                    simpa using this
                  · exact(hv _ A h3).copy _ (zP hcp h3)
              refine⟨_,E1.relab [9,0] [0,d],?_,(R1.land [0,d]).putT_val Fs.lt Fs.v Fs.t (hv2.land [0,d]),P1.trans (zI (ZR _) (JX _ _) (Zx (by decide) _))⟩
              rw[hrun,hy,hr,←hw1];rfl
            | ownNil=>
              have e1:([]:List zb).length / inf.size=0:=by simp
              rw[e1] at h2 hle
              have hl0:l=0:=by omega
              have hh0:hh=0:=by omega
              subst hl0 hh0
              have hr:=QE (P:=P) hu' hi' (p:=none) (jc (P:=P) R1 hlo hhi h1 h2 hl (Nat.le_refl _) true E.w)
              refine⟨_,E1,by rw[hrun,hy,hr,hw1];rfl,R1.putT_val Fs.lt Fs.v Fs.t ?_,P1⟩
              simp only[if_true,show Zd [] inf.size 0 0=[] by simp[Zd]]
              exact .ownNil _ _
          · cases h
        · cases h
    | sl id off len s=>
      simp only[] at h
      split at h
      · rename_i l hh h1 h2
        split at h
        · rename_i hc
          obtain⟨rfl,hl,hle,hl0⟩:=hc
          cases h
          generalize hy:a.eval x=y at hA
          cases hA with
          | sl _ _ _ _ cap _ hid hcap hm hκ=>
            have hle:hh≤cap:=by
              rcases hle with hle|hle
              · exact Nat.le_trans hle hcap
              · unfold zc.roomTo at hle
                split at hle
                · rename_i cs hcs
                  obtain⟨_,_,_,_,_,_,hlk,_⟩:=R1.objs id cs hcs
                  have h1:off+hh*inf.size≤cs.length:=of_decide_eq_true hle
                  have:hh*inf.size≤cap*inf.size:=by omega
                  exact Nat.le_of_mul_le_mul_right this hsz
                · cases hle
            have hr:=QE (P:=P) hu' hi' (p:=some ⟨E1.ρ id,E1.β id+off,none⟩) (jc (P:=P) R1 hlo hhi h1 h2 hl hle true E.w)
            rw[WH] at hr
            have hadr:(if cap=l then E1.β id+off else E1.β id+off+l*inf.size)=E1.β id+off+l*inf.size:=by
              split
              · rcases hl0 with rfl|h0
                · simp
                · omega
              · rfl
            · rw[hadr] at hr
              refine⟨_,E1,by rw[hrun,hy,hr,hw1];rfl,R1.putT_val Fs.lt Fs.v Fs.t ?_,P1⟩
              have hmul:l*inf.size≤cap*inf.size:=Nat.mul_le_mul_right _ (by omega)
              have:=VRel.sl (E:=E1) (some [0,d]) id (off+l*inf.size) (hh - l) (cap - l) inf.size hid (by omega) (by omega) (by rw[Nat.sub_mul];omega)
              rwa [←Nat.add_assoc] at this
        · cases h
      · cases h
    | sc u=>
      simp only[] at h
      split at h
      · rename_i l hh h1 h2
        split at h
        · rename_i hc
          obtain⟨hn,rfl,rfl⟩:=hc
          cases h
          have:=qJ hn
          subst this
          generalize hy:a.eval x=y at hA
          cases hA
          have hr:=QE (P:=P) hu' hi' (p:=none) (jc (P:=P) R1 hlo hhi h1 h2 (Nat.le_refl _) (Nat.le_refl _) true E.w)
          refine⟨_,E1,by rw[hrun,hy,hr,hw1];rfl,R1.putT_val Fs.lt Fs.v Fs.t ?_,P1⟩
          simp only[if_true]
          exact .sc _ _
        · cases h
      · cases h
    |_=>cases h
  · cases h
end
end Go.Ga

namespace Go.Ga
open Go
mutual
def zb.ids0 :zb→Bool
 | .agg cs=>zb.ids0L cs
 | .imm _ cs=>zb.ids0L cs
 | .own _ cs=>zb.ids0L cs
 | .ia cs=>zb.ids0L cs
 | .tup cs=>zb.ids0L cs
 | .sl _ _ _ _=>false
 | .ptr _ _=>false
 | .fn _ as bs=>zb.ids0L as&&zb.ids0L bs
 | .iface _ A=>A.ids0
 |_=>true
def zb.ids0L :List zb→Bool
 |[]=>true
 |A::l=>A.ids0&&zb.ids0L l
end
mutual
def zb.flat :zb→Bool
 | .agg cs=>zb.flatL cs
 | .imm _ _=>false
 | .own _ cs=>zb.flatL cs
 | .ia _=>false
 | .tup cs=>zb.flatL cs
 | .fn _ as bs=>zb.flatL as&&zb.flatL bs
 | .iface _ A=>A.flat
 |_=>true
def zb.flatL :List zb→Bool
 |[]=>true
 |A::l=>A.flat&&zb.flatL l
end
mutual
def zb.ren (g:Nat→Option Nat):zb→zb
 | .agg cs=> .agg (zb.renL g cs)
 | .imm sz cs=> .imm sz (zb.renL g cs)
 | .own hd cs=> .own hd (zb.renL g cs)
 | .ia cs=> .ia (zb.renL g cs)
 | .tup cs=> .tup (zb.renL g cs)
 | .sl id off len sz=>match g id with
   |some j=> .sl j off len sz
   |none=> .dead
 | .ptr id off=>match g id with
   |some j=> .ptr j off
   |none=> .dead
 | .fn f as bs=> .fn f (zb.renL g as) (zb.renL g bs)
 | .iface t A=> .iface t (A.ren g)
 |A=>A
def zb.renL (g:Nat→Option Nat):List zb→List zb
 |[]=>[]
 |A::l=>A.ren g::zb.renL g l
end
mutual
theorem Ww (g:Nat→Option Nat):∀A:zb,A.ids0=true→A.ren g=A
 | .sc _,_=>rfl
 | .agg cs,h=>by simp only[zb.ren,ids0_renL g cs h]
 | .imm _ cs,h=>by simp only[zb.ren,ids0_renL g cs h]
 | .own _ cs,h=>by simp only[zb.ren,ids0_renL g cs h]
 | .ia cs,h=>by simp only[zb.ren,ids0_renL g cs h]
 | .tup cs,h=>by simp only[zb.ren,ids0_renL g cs h]
 | .sl _ _ _ _,h=>by cases h
 | .ptr _ _,h=>by cases h
 | .fn _ as bs,h=>by
   simp only[zb.ids0,Bool.and_eq_true] at h
   simp only[zb.ren,ids0_renL g as h.1,ids0_renL g bs h.2]
 | .iface _ A,h=>by simp only[zb.ren,Ww g A h]
 | .at_ _,_=>rfl
 | .addr _ _,_=>rfl
 | .mp _,_=>rfl
 | .dead,_=>rfl
theorem ids0_renL (g:Nat→Option Nat):∀l:List zb,zb.ids0L l=true→zb.renL g l=l
 |[],_=>rfl
 | A::l,h=>by
   simp only[zb.ids0L,Bool.and_eq_true] at h
   simp only[zb.renL,Ww g A h.1,ids0_renL g l h.2]
end
mutual
theorem wC :∀A:zb,A.copyable=true→A.freeze=A
 | .agg cs,h=>by simp only[zb.freeze,copyable_freezeL cs h]
 | .tup cs,h=>by simp only[zb.freeze,copyable_freezeL cs h]
 | .own _ _,h=>by cases h
 | .sc _,_=>rfl
 | .imm _ _,_=>rfl
 | .ia _,_=>rfl
 | .sl _ _ _ _,_=>rfl
 | .ptr _ _,_=>rfl
 | .fn _ _ _,_=>rfl
 | .iface _ _,_=>rfl
 | .at_ _,_=>rfl
 | .addr _ _,_=>rfl
 | .mp _,h=>by cases h
 | .dead,_=>rfl
theorem copyable_freezeL :∀l:List zb,zb.copyableL l=true→zb.freezeL l=l
 |[],_=>rfl
 | A::l,h=>by
   simp only[zb.copyableL,Bool.and_eq_true] at h
   simp only[zb.freezeL,wC A h.1,copyable_freezeL l h.2]
end
theorem zw (g:Nat→Option Nat):∀l:List zb,(zb.renL g l).length=l.length
 |[]=>rfl
 |A::l=>by simp[zb.renL,zw g l]
theorem w9 (g:Nat→Option Nat):∀(l:List zb) (k:Nat),(zb.renL g l)[k]?=(l[k]?).map (zb.ren g)
 |[],k=>by simp[zb.renL]
 |A::l,0=>by simp[zb.renL]
 |A::l,k+1=>by simp[zb.renL,w9 g l k]
theorem zo {g:Nat→Option Nat}{l:List zb}{k:Nat}{A:zb}(h:(zb.renL g l)[k]?=some A):∃B,l[k]?=some B∧A=B.ren g:=by
 rw[w9] at h
 cases hl:l[k]? with
 |none=>simp[hl] at h
 |some B=>simp[hl] at h;exact⟨B,rfl,h.symm⟩
theorem ZN :∀{l:List zb} {k:Nat} {A:zb},zb.flatL l=true→l[k]?=some A→A.flat=true
 |[],_,_,_,h=>by simp at h
 | B::l,0,A,h,h2=>by
   simp only[zb.flatL,Bool.and_eq_true] at h
   simp at h2;subst h2;exact h.1
 | B::l,k+1,A,h,h2=>by
   simp only[zb.flatL,Bool.and_eq_true] at h
   exact ZN h.2 (by simpa using h2)
def Yn (E E':Env)(g:Nat→Option Nat):Prop:=
 ∀id j,g id=some j→id<E.n→j<E'.n∧E'.ρ j=E.ρ id∧E'.β j=E.β id∧E'.κ j=E.κ id
theorem VRel.renSl {E E':Env}{g:Nat→Option Nat}(hg:Yn E E' g){po po':Option (List Nat)}{id off len sz:Nat}{v:Value}(h:VRel E po (.sl id off len sz) v):VRel E' po' ((zb.sl id off len sz).ren g) v:=by
 cases h with
 | sl _ _ _ _ cap _ hn hc hm hk=>
   simp only[zb.ren]
   cases e:g id with
   |none=>exact .dead _ _
   | some j=>
     obtain⟨h1,h2,h3,h4⟩:=hg id j e hn
     have:=VRel.sl (E:=E') po' j off len cap sz h1 hc hm (hk.trans h4.symm)
     rwa [h2,h3] at this
theorem VRel.renPtr {E E':Env}{g:Nat→Option Nat}(hg:Yn E E' g){po po':Option (List Nat)}{id off:Nat}{v:Value}(h:VRel E po (.ptr id off) v):VRel E' po' ((zb.ptr id off).ren g) v:=by
 cases h with
 | ptr _ _ _ hn=>
   simp only[zb.ren]
   cases e:g id with
   |none=>exact .dead _ _
   | some j=>
     obtain⟨h1,h2,h3,_⟩:=hg id j e hn
     have:=VRel.ptr (E:=E') po' j off h1
     rwa [h2,h3] at this
theorem VRel.renM (M:Prop){E E':Env}{g:Nat→Option Nat}{p q:List Nat}(hg:Yn E E' g)(hsz:E.w.heap.size≤E'.w.heap.size)(hN:∀b,E.O b=none→b<E.w.heap.size→E'.O b=none∧E'.w.heap[b]?=E.w.heap[b]?)
    (hP:M→∀b s,E.O b=some (p++s)→E'.O b=some (q++s)∧E'.w.heap[b]?=E.w.heap[b]?) {po:Option (List Nat)} {A:zb} {v:Value} (h:VRel E po A v):
    ∀r,(po=none→∀po',VRel E' po' (A.ren g) v)∧(M→po=some (p++r)→VRel E' (some (q++r)) (A.ren g) v):=by
  induction h with
  |sc po v=>exact fun r=>⟨fun _ _=> .sc _ v,fun _ _=> .sc _ v⟩
  |dead po v=>exact fun r=>⟨fun _ _=> .dead _ v,fun _ _=> .dead _ v⟩
  | agg po cs vs hs h ih=>
    refine fun r=>⟨fun hp po'=>?_,fun M hp=>?_⟩
    · subst hp
      refine .agg _ _ vs (by rw[hs,zw]) fun k A v h1 h2=>?_
      obtain⟨B,hB,rfl⟩:=zo h1
      exact(ih k B v hB h2 []).1 rfl _
    · subst hp
      refine .agg _ _ vs (by rw[hs,zw]) fun k A v h1 h2=>?_
      obtain⟨B,hB,rfl⟩:=zo h1
      have:=(ih k B v hB h2 (r++[k])).2 M (by simp)
      simpa using this
  | imm po sz cs b o len cap f hO hb hl hc hf h ih=>
    obtain⟨h1,h2⟩:=hN b hO hb
    have key:∀po',VRel E' po' (.imm sz (zb.renL g cs)) (.slice (some ⟨b,o,none⟩) len cap):=fun po'=>
      .imm _ sz _ b o len cap f h1 (Nat.lt_of_lt_of_le hb hsz) (by rw[zw];exact hl) hc (fun k A hA=>by
        obtain⟨B,hB,_⟩:=zo hA
        exact(ZV h2).trans (hf k B hB)) fun k A hA=>by
        obtain⟨B,hB,rfl⟩:=zo hA
        exact(ih k B hB []).1 rfl none
    exact fun r=>⟨fun _ po'=>key po',fun _ _=>key _⟩
  |immNil po sz a=>exact fun r=>⟨fun _ _=> .immNil _ sz a,fun _ _=> .immNil _ sz a⟩
  | own ℓ sz cs b o len cap arr T f hO hb hl hc hm ha hf h ih=>
    refine fun r=>⟨fun hp=>(by cases hp),fun M hp=>?_⟩
    cases hp
    obtain⟨h1,h2⟩:=hP M b r hO
    refine .own _ sz _ b o len cap arr T f h1 (h2.trans hb) (by rw[zw];exact hl) hc hm ha (fun k A hA=>?_) fun k A hA=>?_
    · obtain⟨B,hB,_⟩:=zo hA
      exact hf k B hB
    · obtain⟨B,hB,rfl⟩:=zo hA
      have:=(ih k B hB (r++[k])).2 M (by simp)
      simpa using this
  |ownNil po sz=>exact fun r=>⟨fun _ _=> .ownNil _ sz,fun _ _=> .ownNil _ sz⟩
  | box ℓ cs b arr T f hO hb ha hf h ih=>
    refine fun r=>⟨fun hp=>(by cases hp),fun M hp=>?_⟩
    cases hp
    obtain⟨h1,h2⟩:=hP M b r hO
    refine .box _ _ b arr T f h1 (h2.trans hb) (by rw[zw];exact ha) (fun k A hA=>?_) fun k A hA=>?_
    · obtain⟨B,hB,_⟩:=zo hA
      exact hf k B hB
    · obtain⟨B,hB,rfl⟩:=zo hA
      have:=(ih k B hB (r++[k])).2 M (by simp)
      simpa using this
  | sl po id off len cap sz hn hc hm hκ=>
    have:=fun po'=>VRel.renSl (po':=po') hg (VRel.sl po id off len cap sz hn hc hm hκ)
    exact fun r=>⟨fun _ po'=>this po',fun _ _=>this _⟩
  | ptr po id off hn=>
    have:=fun po'=>VRel.renPtr (po':=po') hg (VRel.ptr po id off hn)
    exact fun r=>⟨fun _ po'=>this po',fun _ _=>this _⟩
  | ia po cs b o f hO hb hf h ih=>
    obtain⟨h1,h2⟩:=hN b hO hb
    have key:∀po',VRel E' po' (.ia (zb.renL g cs)) (.pointer (some ⟨b,o,none⟩)):=fun po'=>
      .ia _ _ b o f h1 (Nat.lt_of_lt_of_le hb hsz) (fun k A hA=>by
        obtain⟨B,hB,_⟩:=zo hA
        exact(ZV h2).trans (hf k B hB)) fun k A hA=>by
        obtain⟨B,hB,rfl⟩:=zo hA
        exact(ih k B hB []).1 rfl none
    exact fun r=>⟨fun _ po'=>key po',fun _ _=>key _⟩
  | fn po f as bs us vs hu hv h1 h2 ih1 ih2=>
    have key:∀po',VRel E' po' (.fn f (zb.renL g as) (zb.renL g bs)) (.func f us vs):=fun po'=>
      .fn _ f _ _ us vs (by rw[hu,zw]) (by rw[hv,zw]) (fun k A v a b=>by
        obtain⟨B,hB,rfl⟩:=zo a
        exact(ih1 k B v hB b []).1 rfl none) fun k A v a b=>by
        obtain⟨B,hB,rfl⟩:=zo a
        exact(ih2 k B v hB b []).1 rfl none
    exact fun r=>⟨fun _ po'=>key po',fun _ _=>key _⟩
  |iface po t A v h ih=>exact fun r=>⟨fun _ _=> .iface _ t _ v ((ih []).1 rfl none),fun _ _=> .iface _ t _ v ((ih []).1 rfl none)⟩
  | tup po cs vs hs h ih=>
    refine fun r=>⟨fun hp po'=>?_,fun M hp=>?_⟩
    · subst hp
      refine .tup _ _ vs (by rw[hs,zw]) fun k A v h1 h2=>?_
      obtain⟨B,hB,rfl⟩:=zo h1
      exact(ih k B v hB h2 []).1 rfl _
    · subst hp
      refine .tup _ _ vs (by rw[hs,zw]) fun k A v h1 h2=>?_
      obtain⟨B,hB,rfl⟩:=zo h1
      have:=(ih k B v hB h2 (r++[k])).2 M (by simp)
      simpa using this
  | mp ℓ ks b es c hO hb he=>
    refine fun r=>⟨fun hp=>(by cases hp),fun M hp=>?_⟩
    cases hp
    obtain⟨h1,h2⟩:=hP M b r hO
    exact .mp _ ks b es c h1 (h2.trans hb) he
theorem VRel.renK {E E':Env}{g:Nat→Option Nat}{p q:List Nat}(hg:Yn E E' g)(hsz:E.w.heap.size≤E'.w.heap.size)(hN:∀b,E.O b=none→b<E.w.heap.size→E'.O b=none∧E'.w.heap[b]?=E.w.heap[b]?)
    (hP:∀b s,E.O b=some (p++s)→E'.O b=some (q++s)∧E'.w.heap[b]?=E.w.heap[b]?) {r:List Nat} {A:zb} {v:Value} (h:VRel E (some (p++r)) A v):VRel E' (some (q++r)) (A.ren g) v:=
  (h.renM True hg hsz hN (fun _=>hP) r).2 trivial rfl
theorem VRel.renN {E E':Env}{g:Nat→Option Nat}(hg:Yn E E' g)(hsz:E.w.heap.size≤E'.w.heap.size)(hN:∀b,E.O b=none→b<E.w.heap.size→E'.O b=none∧E'.w.heap[b]?=E.w.heap[b]?)
    {A:zb} {v:Value} (h:VRel E none A v) (po':Option (List Nat)):VRel E' po' (A.ren g) v:=
  (h.renM False (p:=[]) (q:=[]) hg hsz hN (fun f=>f.elim) []).1 rfl po'
theorem VRel.renF {E E':Env}{g:Nat→Option Nat}{p:List Nat}(hg:Yn E E' g)(hsz:E.w.heap.size≤E'.w.heap.size)(hN:∀b,E.O b=none→b<E.w.heap.size→E'.O b=none∧E'.w.heap[b]?=E.w.heap[b]?)
    (hP:∀b s,E.O b=some (p++s)→b<E.w.heap.size→E'.O b=none∧E'.w.heap[b]?=E.w.heap[b]?) {po:Option (List Nat)} {A:zb} {v:Value} (h:VRel E po A v):
    (po=none∨∃r,po=some (p++r))→∀po',VRel E' po' (A.freeze.ren g) v:=by
  induction h with
  |sc po v=>exact fun _ _=> .sc _ v
  |dead po v=>exact fun _ _=> .dead _ v
  | agg po cs vs hs h ih=>
    intro hp po'
    refine .agg _ _ vs (by rw[hs,zw,Zr]) fun k A v h1 h2=>?_
    obtain⟨B,hB,rfl⟩:=zo h1
    obtain⟨C,hC,rfl⟩:=zN hB
    refine ih k C v hC h2 ?_ _
    rcases hp with rfl|⟨r,rfl⟩
    · exact .inl rfl
    · exact .inr ⟨r++[k],by simp⟩
  |imm po sz cs b o len cap f hO hb hl hc hf h ih=>exact fun _ po'=>(VRel.imm none sz cs b o len cap f hO hb hl hc hf h).renN hg hsz hN po'
  |immNil po sz a=>exact fun _ _=> .immNil _ sz a
  | own ℓ sz cs b o len cap arr T f hO hb hl hc hm ha hf h ih=>
    intro hp po'
    rcases hp with hp|⟨r,hp⟩
    · cases hp
    · cases hp
      obtain⟨h1,h2⟩:=hP b r hO (ZA hb)
      refine .imm _ sz _ b o len cap f h1 (Nat.lt_of_lt_of_le (ZA hb) hsz) (by rw[zw,Zr];exact hl) hc (fun k A hA=>?_) fun k A hA=>?_
      · obtain⟨B,hB,_⟩:=zo hA
        obtain⟨C,hC,_⟩:=zN hB
        exact(ZV h2).trans ((zk hb).trans (hf k C hC))
      · obtain⟨B,hB,rfl⟩:=zo hA
        obtain⟨C,hC,rfl⟩:=zN hB
        exact ih k C hC (.inr ⟨r++[k],by simp⟩) none
  |ownNil po sz=>exact fun _ _=> .immNil _ sz none
  | box ℓ cs b arr T f hO hb ha hf h ih=>
    intro hp po'
    rcases hp with hp|⟨r,hp⟩
    · cases hp
    · cases hp
      obtain⟨h1,h2⟩:=hP b r hO (ZA hb)
      refine .ia _ _ b 0 f h1 (Nat.lt_of_lt_of_le (ZA hb) hsz) (fun k A hA=>?_) fun k A hA=>?_
      · obtain⟨B,hB,_⟩:=zo hA
        obtain⟨C,hC,_⟩:=zN hB
        rw[Nat.zero_add]
        exact(ZV h2).trans ((zk hb).trans (hf k C hC))
      · obtain⟨B,hB,rfl⟩:=zo hA
        obtain⟨C,hC,rfl⟩:=zN hB
        exact ih k C hC (.inr ⟨r++[k],by simp⟩) none
  |sl po id off len cap sz hn hc hm hκ=>exact fun _ _=>VRel.renSl hg (VRel.sl po id off len cap sz hn hc hm hκ)
  |ptr po id off hn=>exact fun _ _=>VRel.renPtr hg (VRel.ptr po id off hn)
  |ia po cs b o f hO hb hf h ih=>exact fun _ po'=>(VRel.ia none cs b o f hO hb hf h).renN hg hsz hN po'
  |fn po f as bs us vs hu hv h1 h2 ih1 ih2=>exact fun _ po'=>(VRel.fn none f as bs us vs hu hv h1 h2).renN hg hsz hN po'
  |iface po t A v h ih=>exact fun _ po'=>(VRel.iface none t A v h).renN hg hsz hN po'
  | tup po cs vs hs h ih=>
    intro hp po'
    refine .tup _ _ vs (by rw[hs,zw,Zr]) fun k A v h1 h2=>?_
    obtain⟨B,hB,rfl⟩:=zo h1
    obtain⟨C,hC,rfl⟩:=zN hB
    refine ih k C v hC h2 ?_ _
    rcases hp with rfl|⟨r,rfl⟩
    · exact .inl rfl
    · exact .inr ⟨r++[k],by simp⟩
  |mp ℓ ks b es c hO hb he=>exact fun _ po'=> .dead _ _
theorem VRel.renX {E E':Env}{g:Nat→Option Nat}{p q:List Nat}(hg:Yn E E' g)
    (hP:∀b s,E.O b=some (p++s)→E'.O b=some (q++s)∧E'.w.heap[b]?=E.w.heap[b]?) {po:Option (List Nat)} {A:zb} {v:Value} (h:VRel E po A v):
    A.flat=true→∀r,(po=none→∀po',VRel E' po' (A.ren g) v)∧(po=some (p++r)→VRel E' (some (q++r)) (A.ren g) v):=by
  induction h with
  |sc po v=>exact fun _ r=>⟨fun _ _=> .sc _ v,fun _=> .sc _ v⟩
  |dead po v=>exact fun _ r=>⟨fun _ _=> .dead _ v,fun _=> .dead _ v⟩
  | agg po cs vs hs h ih=>
    refine fun hf r=>⟨fun hp po'=>?_,fun hp=>?_⟩
    · subst hp
      refine .agg _ _ vs (by rw[hs,zw]) fun k A v h1 h2=>?_
      obtain⟨B,hB,rfl⟩:=zo h1
      exact(ih k B v hB h2 (ZN hf hB) []).1 rfl _
    · subst hp
      refine .agg _ _ vs (by rw[hs,zw]) fun k A v h1 h2=>?_
      obtain⟨B,hB,rfl⟩:=zo h1
      have:=(ih k B v hB h2 (ZN hf hB) (r++[k])).2 (by simp)
      simpa using this
  |imm po sz cs b o len cap f hO hb hl hc hf h ih=>exact fun hfl=>by cases hfl
  |immNil po sz a=>exact fun hfl=>by cases hfl
  | own ℓ sz cs b o len cap arr T f hO hb hl hc hm ha hf h ih=>
    refine fun hfl r=>⟨fun hp=>(by cases hp),fun hp=>?_⟩
    cases hp
    obtain⟨h1,h2⟩:=hP b r hO
    refine .own _ sz _ b o len cap arr T f h1 (h2.trans hb) (by rw[zw];exact hl) hc hm ha (fun k A hA=>?_) fun k A hA=>?_
    · obtain⟨B,hB,_⟩:=zo hA
      exact hf k B hB
    · obtain⟨B,hB,rfl⟩:=zo hA
      have:=(ih k B hB (ZN hfl hB) (r++[k])).2 (by simp)
      simpa using this
  |ownNil po sz=>exact fun _ r=>⟨fun _ _=> .ownNil _ sz,fun _=> .ownNil _ sz⟩
  | box ℓ cs b arr T f hO hb ha hf h ih=>
    refine fun hfl r=>⟨fun hp=>(by cases hp),fun hp=>?_⟩
    cases hp
    obtain⟨h1,h2⟩:=hP b r hO
    refine .box _ _ b arr T f h1 (h2.trans hb) (by rw[zw];exact ha) (fun k A hA=>?_) fun k A hA=>?_
    · obtain⟨B,hB,_⟩:=zo hA
      exact hf k B hB
    · obtain⟨B,hB,rfl⟩:=zo hA
      have:=(ih k B hB (ZN hfl hB) (r++[k])).2 (by simp)
      simpa using this
  | sl po id off len cap sz hn hc hm hκ=>
    have:=fun po'=>VRel.renSl (po':=po') hg (VRel.sl po id off len cap sz hn hc hm hκ)
    exact fun _ r=>⟨fun _ po'=>this po',fun _=>this _⟩
  | ptr po id off hn=>
    have:=fun po'=>VRel.renPtr (po':=po') hg (VRel.ptr po id off hn)
    exact fun _ r=>⟨fun _ po'=>this po',fun _=>this _⟩
  |ia po cs b o f hO hb hf h ih=>exact fun hfl=>by cases hfl
  | fn po f as bs us vs hu hv h1 h2 ih1 ih2=>
    intro hfl
    simp only[zb.flat,Bool.and_eq_true] at hfl
    have key:∀po',VRel E' po' (.fn f (zb.renL g as) (zb.renL g bs)) (.func f us vs):=fun po'=>
      .fn _ f _ _ us vs (by rw[hu,zw]) (by rw[hv,zw]) (fun k A v a b=>by
        obtain⟨B,hB,rfl⟩:=zo a
        exact(ih1 k B v hB b (ZN hfl.1 hB) []).1 rfl none) fun k A v a b=>by
        obtain⟨B,hB,rfl⟩:=zo a
        exact(ih2 k B v hB b (ZN hfl.2 hB) []).1 rfl none
    exact fun r=>⟨fun _ po'=>key po',fun _=>key _⟩
  |iface po t A v h ih=>exact fun hfl r=>⟨fun _ _=> .iface _ t _ v ((ih hfl []).1 rfl none),fun _=> .iface _ t _ v ((ih hfl []).1 rfl none)⟩
  | tup po cs vs hs h ih=>
    refine fun hf r=>⟨fun hp po'=>?_,fun hp=>?_⟩
    · subst hp
      refine .tup _ _ vs (by rw[hs,zw]) fun k A v h1 h2=>?_
      obtain⟨B,hB,rfl⟩:=zo h1
      exact(ih k B v hB h2 (ZN hf hB) []).1 rfl _
    · subst hp
      refine .tup _ _ vs (by rw[hs,zw]) fun k A v h1 h2=>?_
      obtain⟨B,hB,rfl⟩:=zo h1
      have:=(ih k B v hB h2 (ZN hf hB) (r++[k])).2 (by simp)
      simpa using this
  | mp ℓ ks b es c hO hb he=>
    refine fun hfl r=>⟨fun hp=>(by cases hp),fun hp=>?_⟩
    cases hp
    obtain⟨h1,h2⟩:=hP b r hO
    exact .mp _ ks b es c h1 (h2.trans hb) he
end Go.Ga

namespace Go.Ga
open Go
structure wG (E:Env)(h:Heap):Prop where
 num:E.n=h.length
 lim:∀b q,E.O b=some q→b<E.w.heap.size
 objs:∀id cs,h[id]?=some (some cs)→qO E id cs
def Ji (P:Program)(f:Nat):Bool:=
 match P.funcs[f]? with
 | some fn => fn.name != "runtime.NumGoroutine" && fn.body.isSome
 |none=>false
def zdt :Array Value:=(((List.range 20).map fun i=>((10^i:Nat):Int)).map fun z=>Value.int .u64 z).toArray
def JO (P : Program) (E : Env) : Prop := ∀ g, P.globalNamed "internal/strconv.uint64pow10" = some g → E.O g = none ∧ g < E.w.heap.size ∧ E.w.var? P "internal/strconv.uint64pow10" = some zdt
theorem JO.turn {P:Program}{E E':Env}(h:JO P E)(hk:∀b,E.O b=none→b<E.w.heap.size→E'.O b=none∧E'.w.heap[b]?=E.w.heap[b]?)(hs:E.w.heap.size≤E'.w.heap.size):JO P E':=fun g hg=>by
 obtain⟨h1,h2,h3⟩:=h g hg
 obtain⟨h4,h5⟩:=hk g h1 h2
 refine⟨h4,Nat.lt_of_lt_of_le h2 hs,?_⟩
 unfold World.var? at h3⊢
 rw[hg,Option.bind_some] at h3⊢
 rw[h5];exact h3
theorem JO.pres {P:Program}{L:List (List Nat)}{E E':Env}(h:JO P E)(p:zL L E E'):JO P E':=h.turn p.old p.size
def zn (P:Program)(L:List (List Nat))(f:Nat)(args:List zb)(h:Heap)(Q:zb→Heap→Prop):Prop:=
 Ji P f=true∧∀(E:Env) (vs:Array Value),JO P E→wG E h→vs.size=args.length→(∀(k:Nat) A v,args[k]?=some A→vs[k]?=some v→VRel E (some [3,k]) A v)→
  Calls P f vs E.w fun e w'=>∃v r h' E',e= .returned v∧E'.w=w'∧wG E' h'∧VRel E' (some [3]) r v∧zL L E E'∧Q r h'
theorem zn.mono {P:Program}{L:List (List Nat)}{f:Nat}{args:List zb}{h:Heap}{Q Q':zb→Heap→Prop}(H:zn P L f args h Q)(hq:∀r h',Q r h'→Q' r h'):zn P L f args h Q':=
 ⟨H.1,fun E vs h0 h1 h2 h3=>(H.2 E vs h0 h1 h2 h3).mono fun _ _ ⟨v,r,h',E',a,b,c,d,e,f⟩=>⟨v,r,h',E',a,b,c,d,e,hq r h' f⟩⟩
def jT :List Nat→Nat→Option Nat
 |[],_=>none
 |b::l,i=>if i=b then some 0 else(jT l i).map (· +1)
theorem yU :∀{bo:List Nat} {id j:Nat},jT bo id=some j→bo[j]?=some id
 |[],_,_,h=>by cases h
 | b ::l,i,j,h=>by
   unfold jT at h
   split at h
   · rename_i e;cases h;simp[e]
   · obtain⟨k,hk,rfl⟩:=Option.map_eq_some_iff.1 h
     simpa using yU hk
def Qk :List Nat→Bool
 |[]=>true
 |b::l=>(jT l b).isNone&&Qk l
theorem Wu :∀{l:List Nat} {id:Nat},id∈l→jT l id≠none
 | b ::l,i,h=>by
   unfold jT
   split
   · simp
   · rename_i hne
     cases h with
     |head=>exact absurd rfl hne
     |tail _ h=>simpa using Wu h
theorem Wv :∀{bo:List Nat} {id j:Nat},Qk bo=true→bo[j]?=some id→jT bo id=some j
 |[],_,_,_,h=>by simp at h
 |b::l,i,0,_,h=>by simp at h;simp[jT,h]
 | b ::l,i,j+1,hn,h=>by
   simp only[Qk,Bool.and_eq_true] at hn
   have h':l[j]?=some i:=by simpa using h
   unfold jT
   split
   · rename_i e
     subst e
     have:=Wu (List.mem_of_getElem? h')
     rw[Option.isNone_iff_eq_none] at hn
     exact absurd hn.1 this
   · simp[Wv hn.2 h']
def UT (g:Nat→Option Nat)(ln:Bool)(m:Nat)(ℓ:List Nat):Option (List Nat):=
 match ℓ with
 | 1::id::r=>match g id with
   |some j=>some (1::j::r)
   |none=>bif ln then none else some (2::1::id::r)
 |9::0::r=>some (1::m::r)
 |9::(k+1)::r=>some (3::k::r)
 |ℓ=>bif ln then none else some (2::ℓ)
def Env.sub (E:Env)(bo:List Nat)(ln:Bool)(mm b o κ:Nat):Env:=
 {w:=E.w,O:=fun b=>(E.O b).bind (UT (jT bo) ln bo.length),ρ:=fun j=>if j<bo.length then E.ρ (bo.getD j 0) else b,β:=fun j=>if j<bo.length then E.β (bo.getD j 0) else o,κ:=fun j=>if j<bo.length then E.κ (bo.getD j 0) else κ,n:=mm}
def ZT (E:Env)(bo:List Nat)(mm:Nat)(O3:Nat→Option (List Nat))(b:Nat):Option (List Nat):=
 match O3 b with
 |some (1::j::r)=>some (if j<bo.length then 1::bo.getD j 0::r else if j<mm then 9::0::r else 1::(E.n+(j - mm))::r)
 |some (3::r)=>some (9::1::r)
 | _ =>match E.O b with
   | some (1::id::r)=>match jT bo id with
     |some _=>none
     |none=>some (1::id::r)
   |some (9::_)=>none
   |x=>x
def Env.out (E E3:Env)(bo:List Nat)(mm:Nat):Env:=
 {w:=E3.w,O:=ZT E bo mm E3.O,ρ:=fun id=>if id<E.n then E.ρ id else E3.ρ (mm+(id - E.n)),β:=fun id=>if id<E.n then E.β id else E3.β (mm+(id - E.n)),κ:=fun id=>if id<E.n then E.κ id else E3.κ (mm+(id - E.n)),n:=E.n+(E3.n - mm)}
def Zq (bo:List Nat)(mm n:Nat)(j:Nat):Option Nat:=if j<bo.length then bo[j]? else if j<mm then none else some (n+(j - mm))
def zJ (bo:List Nat):List (List Nat)→List (List Nat)
 |[]=>[]
 | (1::id::s)::L=>match jT bo id with
   |some j=>(1::j::s)::zJ bo L
   |none=>zJ bo L
 |_::L=>zJ bo L
theorem qX {bo:List Nat}{id j:Nat}{s:List Nat}(hg:jT bo id=some j):∀{L:List (List Nat)},(1::id::s)∈L→(1::j::s)∈zJ bo L
 | r ::L,h=>by
   cases h with
   |head=>simp[zJ,hg]
   | tail _ h=>
     have ih:=qX hg h
     unfold zJ
     split
     · rename_i heq;cases heq
     · rename_i heq
       cases heq
       split
       · exact .tail _ ih
       · exact ih
     · rename_i heq;cases heq;exact ih
section
variable {L:List (List Nat)} {E E3:Env} {N:Nat} {V:List Nat} {st:zc} {tm:Array Value} {bo:List Nat} {ln:Bool} {mm pb po pk:Nat}
theorem Jc {b:Nat}(h:E.O b=none):(E.sub bo ln mm pb po pk).O b=none:=by simp[Env.sub,h]
theorem uA {b id j:Nat}{s:List Nat}(hg:jT bo id=some j)(h:E.O b=some ([1,id]++s)):(E.sub bo ln mm pb po pk).O b=some ([1,j]++s):=by simp[Env.sub,h,UT,hg]
theorem zbf {b k:Nat}{s:List Nat}(h:E.O b=some ([9,k+1]++s)):(E.sub bo ln mm pb po pk).O b=some ([3,k]++s):=by simp[Env.sub,h,UT]
theorem gF {b:Nat}{s:List Nat}(h:E.O b=some ([9,0]++s)):(E.sub bo ln mm pb po pk).O b=some ([1,bo.length]++s):=by simp[Env.sub,h,UT]
def Hid (bo:List Nat)(ℓ:List Nat):Prop:=match ℓ with
 |1::id::_=>jT bo id=none
 |9::_=>False
 |_=>True
theorem qx {b:Nat}{ℓ:List Nat}(hh:Hid bo ℓ)(h:E.O b=some ℓ):(E.sub bo ln mm pb po pk).O b=bif ln then none else some (2::ℓ):=by
 simp only[Env.sub,h,Option.bind_some]
 unfold UT
 unfold Hid at hh
 split
 · simp only[] at hh;rw[hh]
 · simp at hh
 · simp at hh
 · rfl
theorem zbe (hlim:∀b q,E.O b=some q→b<E.w.heap.size):∀b q,(E.sub bo ln mm pb po pk).O b=some q→b<E.w.heap.size:=fun b q h=>by
 cases hO:E.O b with
 |none=>rw[Jc hO] at h;cases h
 |some ℓ=>exact hlim b ℓ hO
theorem J1 {bo:List Nat}{j id:Nat}(h:bo[j]?=some id):bo.getD j 0=id∧j<bo.length:=by
 refine⟨by simp[List.getD_eq_getElem?_getD,h],(List.getElem?_eq_some_iff.1 h).1⟩
theorem qw (hmm:bo.length≤mm):Yn E (E.sub bo ln mm pb po pk) (jT bo):=fun id j hg hid=>by
 obtain⟨h1,h2⟩:=J1 (yU hg)
 refine⟨Nat.lt_of_lt_of_le h2 hmm,?_,?_,?_⟩
 · show(if j<bo.length then E.ρ (bo.getD j 0) else _)=_;rw[if_pos h2,h1]
 · show(if j<bo.length then E.β (bo.getD j 0) else _)=_;rw[if_pos h2,h1]
 · show(if j<bo.length then E.κ (bo.getD j 0) else _)=_;rw[if_pos h2,h1]
theorem jy (hlim:∀b q,E.O b=some q→b<E.w.heap.size){L':List (List Nat)}(P3:zL L' (E.sub bo ln mm pb po pk) E3){b:Nat}(h:E.O b=none∧b<E.w.heap.size∨∃ℓ,E.O b=some ℓ∧Hid bo ℓ):
    (E.out E3 bo mm).O b=E.O b∧E3.w.heap[b]?=E.w.heap[b]?:=by
  have fin:∀x,E3.O b=x→(x=none∨∃r,x=some (2::r))→(E.out E3 bo mm).O b=E.O b:=by
    intro x hx hx'
    show ZT E bo mm E3.O b=E.O b
    unfold ZT
    rw[hx]
    have h2:(match E.O b with
        | some (1::id::r)=>match jT bo id with
          |some _=>none
          |none=>some (1::id::r)
        |some (9::_)=>none
        |x=>x)=E.O b:=by
      rcases h with⟨h,_⟩|⟨ℓ,h,hh⟩
      · rw[h]
      · rw[h]
        unfold Hid at hh
        split
        · rename_i heq;cases heq;simp only[] at hh;rw[hh]
        · rename_i r heq
          cases heq
          simp at hh
        · rfl
    rcases hx' with rfl|⟨r,rfl⟩
    · exact h2
    · exact h2
  rcases h with⟨h,hb⟩|⟨ℓ,h,hh⟩
  · obtain⟨h1,h2⟩:=P3.old b (Jc h) hb
    exact⟨fin _ h1 (.inl rfl),h2⟩
  · have h0:=qx (ln:=ln) (mm:=mm) (pb:=pb) (po:=po) (pk:=pk) hh h
    cases hl:ln with
    | true=>
      subst hl
      obtain⟨h1,h2⟩:=P3.old b h0 (hlim b ℓ h)
      exact⟨fin _ h1 (.inl rfl),h2⟩
    | false=>
      subst hl
      obtain⟨h1,h2⟩:=P3.far b ℓ h0
      exact⟨fin _ h1 (.inr ⟨_,rfl⟩),h2⟩
theorem OR {L':List (List Nat)}(P3:zL L' (E.sub bo ln mm pb po pk) E3){b j id:Nat}{s:List Nat}(hj:bo[j]?=some id)(h:E3.O b=some ([1,j]++s)):(E.out E3 bo mm).O b=some ([1,id]++s):=by
 obtain⟨h1,h2⟩:=J1 hj
 show ZT E bo mm E3.O b=_
 simp only[ZT,h,List.cons_append,List.nil_append]
 rw[if_pos h2,h1]
theorem gN {b:Nat}{s:List Nat}(hmm:bo.length<mm)(h:E3.O b=some ([1,bo.length]++s)):(E.out E3 bo mm).O b=some ([9,0]++s):=by
 show ZT E bo mm E3.O b=_
 simp only[ZT,h,List.cons_append,List.nil_append]
 rw[if_neg (Nat.lt_irrefl _),if_pos hmm]
theorem zby {b j:Nat}{s:List Nat}(hm:bo.length≤mm)(hmm:mm≤j)(h:E3.O b=some ([1,j]++s)):(E.out E3 bo mm).O b=some ([1,E.n+(j - mm)]++s):=by
 show ZT E bo mm E3.O b=_
 simp only[ZT,h,List.cons_append,List.nil_append]
 rw[if_neg (by omega),if_neg (by omega)]
theorem zbx {b:Nat}{s:List Nat}(h:E3.O b=some ([3]++s)):(E.out E3 bo mm).O b=some ([9,1]++s):=by
 show ZT E bo mm E3.O b=_
 simp only[ZT,h,List.cons_append,List.nil_append]
theorem OQ (hlim:∀b q,E.O b=some q→b<E.w.heap.size){L':List (List Nat)}(P3:zL L' (E.sub bo false mm pb po pk) E3){b:Nat}(h:E3.O b=none):(E.out E3 bo mm).O b=none:=by
 show ZT E bo mm E3.O b=none
 simp only[ZT,h]
 split
 · rename_i id r hO
   cases hi:jT bo id with
   |some j=>rfl
   | none=>
     have h0:=qx (ln:=false) (mm:=mm) (pb:=pb) (po:=po) (pk:=pk) (E:=E) (bo:=bo) (b:=b) (ℓ:=1::id::r) hi hO
     rw[(P3.far b _ h0).1] at h
     cases h
 · rfl
 · rename_i h1 h2
   cases hO:E.O b with
   |none=>rfl
   | some ℓ=>
     have hh:Hid bo ℓ:=by
      unfold Hid
      split
      · exact absurd hO (h1 _ _)
      · exact h2 _ hO
      · trivial
     have h0:=qx (ln:=false) (mm:=mm) (pb:=pb) (po:=po) (pk:=pk) (E:=E) (bo:=bo) (b:=b) hh hO
     rw[(P3.far b _ h0).1] at h
     cases h
theorem gM {L':List (List Nat)}{h:Heap}(hn:E.n=h.length)(hbo:bo.all (fun i=>decide (i<h.length))=true)(hm:bo.length≤mm)(h3:mm≤E3.n)(P3:zL L' (E.sub bo ln mm pb po pk) E3):Yn E3 (E.out E3 bo mm) (Zq bo mm h.length):=fun j id hg hj=>by
 unfold Zq at hg
 split at hg
 · rename_i hlt
   obtain⟨h1,h2⟩:=J1 hg
   have hid:id<E.n:=by
    have:=List.all_eq_true.1 hbo id (List.mem_of_getElem? hg)
    rw[hn];exact of_decide_eq_true this
   obtain⟨e1,e2,e3⟩:=P3.ids.2 j (show j<mm by omega)
   refine⟨show id<E.n+(E3.n - mm) by omega,?_,?_,?_⟩
   · show(if id<E.n then E.ρ id else _)=_
     rw[if_pos hid,e1]
     show _=(if j<bo.length then E.ρ (bo.getD j 0) else _)
     rw[if_pos hlt,h1]
   · show(if id<E.n then E.β id else _)=_
     rw[if_pos hid,e2]
     show _=(if j<bo.length then E.β (bo.getD j 0) else _)
     rw[if_pos hlt,h1]
   · show(if id<E.n then E.κ id else _)=_
     rw[if_pos hid,e3]
     show _=(if j<bo.length then E.κ (bo.getD j 0) else _)
     rw[if_pos hlt,h1]
 · split at hg
   · cases hg
   · rename_i h1 h2
     cases hg
     have e:mm+(h.length+(j - mm) - h.length)=j:=by omega
     refine⟨show h.length+(j - mm)<E.n+(E3.n - mm) by omega,?_,?_,?_⟩
     · show(if h.length+(j - mm)<E.n then E.ρ _ else E3.ρ (mm+(h.length+(j - mm) - E.n)))=_
       rw[if_neg (by omega),hn,e]
     · show(if h.length+(j - mm)<E.n then E.β _ else E3.β (mm+(h.length+(j - mm) - E.n)))=_
       rw[if_neg (by omega),hn,e]
     · show(if h.length+(j - mm)<E.n then E.κ _ else E3.κ (mm+(h.length+(j - mm) - E.n)))=_
       rw[if_neg (by omega),hn,e]
theorem OP (hlim:∀b q,E.O b=some q→b<E.w.heap.size)(hm:bo.length≤mm)(h3:mm≤E3.n)(P3:zL (zJ bo L) (E.sub bo ln mm pb po pk) E3):zL L E (E.out E3 bo mm) where
 size:=P3.size
 os:=P3.os
 tape:=P3.tape
 output:=P3.output
 old b hb hs:=by
  obtain⟨h1,h2⟩:=jy hlim P3 (.inl ⟨hb,hs⟩)
  exact⟨h1.trans hb,h2⟩
 far b r hb:=by
  obtain⟨h1,h2⟩:=jy hlim P3 (.inr ⟨_,hb,trivial⟩)
  exact⟨h1.trans hb,h2⟩
 farB b r hb:=by
  have hb':ZT E bo mm E3.O b=some (2::r):=hb
  unfold ZT at hb'
  split at hb'
  · split at hb'
    · cases hb'
    · split at hb'<;>cases hb'
  · cases hb'
  · split at hb'
    · split at hb'<;>cases hb'
    · cases hb'
    · exact hb'
 ids:=⟨show E.n≤E.n+(E3.n - mm) by omega,fun id hid=>⟨if_pos hid,if_pos hid,if_pos hid⟩⟩
 keep b r hr hb hs:=by
  have hid:Hid bo r→((E.out E3 bo mm).O b=some r∨(E.out E3 bo mm).O b=none)∧(E.out E3 bo mm).w.heap[b]?=E.w.heap[b]?:=fun hh=>by
   obtain⟨h1,h2⟩:=jy hlim P3 (.inr ⟨_,hb,hh⟩)
   exact⟨.inl (h1.trans hb),h2⟩
  match r,hr,hb,hid with
  |[],hr,_,_=>rcases hr.2 with h|h<;>cases h
  | x :: r, hr,hb,hid=>
    have hx:x=0∨x=1:=by
     rcases hr.2 with h|h
     · exact .inl (by simpa using h)
     · exact .inr (by simpa using h)
    rcases hx with rfl|rfl
    · exact hid trivial
    · cases r with
      |nil=>exact hid trivial
      | cons id s=>
        cases hi:jT bo id with
        |none=>exact hid hi
        | some j=>
          have hw:Wat (zJ bo L) (1::j::s):=⟨qX hi hr.1,.inr rfl⟩
          have hO:(E.sub bo ln mm pb po pk).O b=some (1::j::s):=uA hi hb
          obtain⟨h1,h2⟩:=P3.keep b _ hw hO hs
          refine⟨?_,h2⟩
          rcases h1 with h1|h1
          · exact .inl (OR P3 (yU hi) h1)
          · refine .inr ?_
            show ZT E bo mm E3.O b=none
            simp only[ZT,h1,hb,hi]
theorem zbz (hlim:∀b q,E.O b=some q→b<E.w.heap.size){L':List (List Nat)}(P3:zL L' (E.sub bo ln mm pb po pk) E3)(hl3:∀b q,E3.O b=some q→b<E3.w.heap.size):∀b q,(E.out E3 bo mm).O b=some q→b<E3.w.heap.size:=fun b q h=>by
 have h':ZT E bo mm E3.O b=some q:=h
 cases hO:E3.O b with
 |some ℓ=>exact hl3 b ℓ hO
 | none=>
   unfold ZT at h'
   rw[hO] at h'
   simp only[] at h'
   cases hE:E.O b with
   |none=>rw[hE] at h';simp at h'
   |some ℓ=>exact Nat.lt_of_lt_of_le (hlim b ℓ hE) P3.size
theorem zA.hrel (R:zA E N V st tm):wG E st.h:=⟨R.num,R.lim,R.objs⟩
end
end Go.Ga

namespace Go.Ga
open Go
def vw1 (h:Heap)(bo:List Nat)(ln:Bool):zb→zb
 | .ptr id c=>match jT bo id with
   |some j=> .ptr j c
   | none=>match ln,h[id]? with
     |true,some (some cs)=> .ia ((zb.renL (jT bo) (zb.freezeL cs)).drop c)
     |_,_=> .dead
 | .sl id off len sz=>match jT bo id with
   |some j=> .sl j off len sz
   | none=>match ln,h[id]? with
     |true,some (some cs)=>if 0<sz∧off+len*sz≤cs.length then .imm sz (((zb.renL (jT bo) (zb.freezeL cs)).drop off).take (len*sz)) else .dead
     |_,_=> .dead
 |A=>bif A.copyable then A.ren (jT bo) else bif ln then A.freeze.ren (jT bo) else .dead
def vwV (h:Heap)(bo:List Nat)(ln:Bool):zb→zb
 | .agg cs=>bif (zb.agg cs).copyable then .agg (cs.map (vw1 h bo ln)) else vw1 h bo ln (.agg cs)
 |A=>vw1 h bo ln A
def xK (bo:List Nat):List Nat→Bool
 |0::_=>true
 |1::id::_=>(jT bo id).isNone
 |_=>false
def zaT (st:zc)(bo:List Nat)(ln:Bool)(x:zB):zb:=
 match st.evA x with
 | .at_ p=>match ln&&xK bo p,st.at p with
   |true,some B=>B.freeze.ren (jT bo)
   |_,_=> .dead
 | .addr p c=>match ln&&xK bo p,st.at p with
   |true,some (.own _ cs)=> .ia ((zb.renL (jT bo) (zb.freezeL cs)).drop c)
   |_,_=> .dead
 |A=>vwV st.h bo ln A
section
variable {L:List (List Nat)} {E E3:Env} {N:Nat} {V:List Nat} {st:zc} {tm:Array Value} {bo:List Nat} {ln:Bool} {mm pb po pk:Nat}
theorem Ud {p s:List Nat}(h:xK bo p=true):Hid bo (p++s):=by
 unfold xK at h
 split at h
 · trivial
 · exact Option.isNone_iff_eq_none.1 h
 · cases h
theorem J9 (hmm:bo.length≤mm){p:List Nat}(hp:xK bo p=true){q:Option (List Nat)}{A:zb}{v:Value}(h:VRel E q A v)(hq:q=none∨∃r,q=some (p++r))(q':Option (List Nat)):
    VRel (E.sub bo true mm pb po pk) q' (A.freeze.ren (jT bo)) v:=
  h.renF (p:=p) (qw hmm) (Nat.le_refl _) (fun _ h _=>⟨Jc h,rfl⟩) (fun _ s h _=>⟨qx (Ud hp) h,rfl⟩) hq q'
theorem oR (hmm:bo.length≤mm){A:zb}{v:Value}(h:VRel E none A v)(q':Option (List Nat)):VRel (E.sub bo ln mm pb po pk) q' (A.ren (jT bo)) v:=
 h.renN (qw hmm) (Nat.le_refl _) (fun _ h _=>⟨Jc h,rfl⟩) q'
theorem Yp (hmm:bo.length≤mm)(H:wG E st.h){q:Option (List Nat)}{A:zb}{v:Value}(h:VRel E q A v)(hq:q=none∨∃i r,q=some ([0,i]++r))(q':Option (List Nat)):
    VRel (E.sub bo ln mm pb po pk) q' (vw1 st.h bo ln A) v:=by
  have gen:(A.copyable=true∨ln=true∨ln=false)→VRel (E.sub bo ln mm pb po pk) q' (bif A.copyable then A.ren (jT bo) else bif ln then A.freeze.ren (jT bo) else .dead) v:=fun _=>by
    cases hc:A.copyable with
    |true=>exact oR hmm (h.copy none hc) q'
    | false=>
      cases ln with
      |false=>exact .dead _ _
      | true=>
        rcases hq with rfl|⟨i,r,rfl⟩
        · exact J9 hmm (p:=[0,0]) rfl h (.inl rfl) q'
        · exact J9 hmm (p:=[0,i]) rfl h (.inr ⟨r,rfl⟩) q'
  have gen':=gen (by cases ln<;>simp)
  cases A with
  | ptr id c=>
    simp only[vw1]
    have h0:=VRel.renPtr (po':=q') (qw (ln:=ln) (pb:=pb) (po:=po) (pk:=pk) hmm) h
    cases hi:jT bo id with
    |some j=>simp only[zb.ren,hi] at h0;exact h0
    | none=>
      simp only[]
      split
      · rename_i cs hcs
        obtain⟨hO,arr,T,f,hb,ha,hl,hf,hv⟩:=H.objs id cs hcs
        cases h with
        | ptr _ _ _ hn=>
          refine VRel.iaDrop (.ia _ _ _ _ f (qx (ln:=true) (ℓ:=[1,id]) hi hO) (ZA hb) (fun k A hA=>?_) fun k A hA=>?_) c
          · obtain⟨B,hB,_⟩:=zo hA
            obtain⟨C,hC,_⟩:=zN hB
            exact(zk hb).trans (hf k C hC)
          · obtain⟨B,hB,rfl⟩:=zo hA
            obtain⟨C,hC,rfl⟩:=zN hB
            exact J9 hmm (p:=[1,id]) (by simp[xK,hi]) (hv k C hC) (.inr ⟨_,rfl⟩) none
      · exact .dead _ _
  | sl id off len sz=>
    simp only[vw1]
    have h0:=VRel.renSl (po':=q') (qw (ln:=ln) (pb:=pb) (po:=po) (pk:=pk) hmm) h
    cases hi:jT bo id with
    |some j=>simp only[zb.ren,hi] at h0;exact h0
    | none=>
      simp only[]
      split
      · rename_i cs hcs
        split
        · rename_i hfit
          obtain⟨hO,arr,T,f,hb,ha,hl,hf,hv⟩:=H.objs id cs hcs
          cases h with
          | sl _ _ _ _ cap _ hn hc hm hk=>
            have hget:∀k A,(((zb.renL (jT bo) (zb.freezeL cs)).drop off).take (len*sz))[k]?=some A→∃C,cs[off+k]?=some C∧A=C.freeze.ren (jT bo):=fun k A hA=>by
              obtain⟨hA,_⟩:=Yv _ _ hA
              obtain⟨B,hB,rfl⟩:=zo hA
              obtain⟨C,hC,rfl⟩:=zN hB
              exact⟨C,hC,rfl⟩
            refine .imm _ _ _ _ _ len cap (fun k=>f (off+k)) (qx (ln:=true) (ℓ:=[1,id]) hi hO) (ZA hb) ⟨hfit.1,?_⟩ hc (fun k A hA=>?_) fun k A hA=>?_
            · rw[List.length_take,List.length_drop,zw,Zr];omega
            · obtain⟨C,hC,_⟩:=hget k A hA
              rw[Nat.add_assoc]
              exact(zk hb).trans (hf _ C hC)
            · obtain⟨C,hC,rfl⟩:=hget k A hA
              exact J9 hmm (p:=[1,id]) (by simp[xK,hi]) (hv _ C hC) (.inr ⟨_,rfl⟩) none
        · exact .dead _ _
      · exact .dead _ _
  |_=>exact gen'
theorem QD (hmm:bo.length≤mm)(H:wG E st.h){q:Option (List Nat)}{A:zb}{v:Value}(h:VRel E q A v)(hq:q=none∨∃i r,q=some ([0,i]++r))(q':Option (List Nat)):
    VRel (E.sub bo ln mm pb po pk) q' (vwV st.h bo ln A) v:=by
  unfold vwV
  split
  · rename_i cs
    cases hc:(zb.agg cs).copyable with
    |false=>exact Yp hmm H h hq q'
    | true=>
      have h0:=h.copy none hc
      cases h0 with
      | agg _ _ vs hs hh=>
        refine .agg _ _ vs (by rw[List.length_map];exact hs) fun k A v h1 h2=>?_
        rw[List.getElem?_map] at h1
        obtain⟨B,hB,rfl⟩:=Option.map_eq_some_iff.1 h1
        exact Yp hmm H (hh k B v hB h2) (.inl rfl) _
  · exact Yp hmm H h hq q'
end
section
variable {L:List (List Nat)} {E E3:Env} {N:Nat} {V:List Nat} {st:zc} {a:Act} {bo:List Nat} {ln:Bool} {mm pb po pk:Nat}
theorem gz (hmm:bo.length≤mm)(R:zA E N V st a.tmps){x:Operand}{ox:zB}(hx:zj x=some ox)(q':Option (List Nat)):VRel (E.sub bo ln mm pb po pk) q' (zaT st bo ln ox) (a.eval x):=by
  unfold zaT
  split
  · rename_i p hA
    split
    · rename_i B hok hB
      simp only[Bool.and_eq_true] at hok
      obtain⟨rfl,hok⟩:=hok
      obtain⟨B',v,h1,h2,h3,h4,h5⟩:=YE R hx hA
      rw[hB] at h1
      cases h1
      rw[h4]
      exact J9 hmm hok h5 (.inr ⟨[],by simp⟩) q'
    · exact .dead _ _
  · rename_i p c hA
    split
    · rename_i hd cs hok hB
      simp only[Bool.and_eq_true] at hok
      obtain⟨rfl,hok⟩:=hok
      obtain⟨hd',cs',v,b,o',h1,h2,h3,h4,h5⟩:=JG R hx hA
      rw[hB] at h1
      cases h1
      rw[h4]
      have key:∀(arr:Array Value) (T:TypeId) (f:Nat→Value),E.O b=some p→E.w.heap[b]?=some (.cells arr T (0,0))→(∀k A,cs[k]?=some A→arr[o'+k]?=some (f k))→(∀(k:Nat) A,cs[k]?=some A→VRel E (some (p++[k])) A (f k))→
          VRel (E.sub bo true mm pb po pk) q' (.ia ((zb.renL (jT bo) (zb.freezeL cs)).drop c)) (.pointer (some ⟨b,o'+c,none⟩)):=fun arr T f hO hb hf hv=>by
        refine VRel.iaDrop (.ia _ _ _ _ f (qx (ln:=true) (ℓ:=p) (by simpa using Ud (s:=[]) hok) hO) (ZA hb) (fun k A hA=>?_) fun k A hA=>?_) c
        · obtain⟨B,hB,_⟩:=zo hA
          obtain⟨C,hC,_⟩:=zN hB
          exact(zk hb).trans (hf k C hC)
        · obtain⟨B,hB,rfl⟩:=zo hA
          obtain⟨C,hC,rfl⟩:=zN hB
          exact J9 hmm hok (hv k C hC) (.inr ⟨_,rfl⟩) none
      cases h5 with
      |own _ sz _ _ _ len cap arr T f hO hb hl hc hm ha hf hv=>cases h3;exact key arr T f hO hb hf hv
      |ownNil=>cases h3
      |box _ _ _ arr T f hO hb ha hf hv=>cases h3;exact key arr T f hO hb (fun k A h=>by rw[Nat.zero_add];exact hf k A h) hv
    · exact .dead _ _
  · rename_i A h1 h2
    generalize hA:st.evA ox=A at h1 h2
    have hn:A.isAlias=false∨A= .dead:=by
      cases A<;>first
        |exact .inl rfl
        |exact .inr rfl
        |exact absurd rfl (h1 _)
        |exact absurd rfl (h2 _ _)
    rcases hn with hn|rfl
    · obtain⟨v,po',h3,h4,h5⟩:=zz R hx (Zi hA hn) hn
      rw[h3]
      cases ox with
      | t i=>
        obtain⟨_,rfl⟩:=h5 i rfl
        exact QD hmm R.hrel h4 (.inr ⟨i,[],rfl⟩) q'
      | c u=>
        cases hA
        cases h4
        exact .sc _ _
      | f g=>
        cases hA
        exact QD (q:=none) hmm R.hrel (h4.copy none rfl) (.inl rfl) q'
    · cases ln<;>exact .dead _ _
end
end Go.Ga

namespace Go.Ga
open Go
def QY (g gb:Nat→Option Nat)(h':Heap):Nat→Heap→Heap
 |_,[]=>[]
 | i,o::l=>(match g i with
   | some j=>match h'[j]? with
     |some (some cs)=>some (zb.renL gb cs)
     |_=>none
   |none=>o)::QY g gb h' (i+1) l
def Qp :Heap→Bool
 |[]=>true
 |none::l=>Qp l
 |some cs::l=>zb.flatL cs&&Qp l
def Qh (g:Nat→Option Nat):Heap→Heap
 |[]=>[]
 |none::l=>none::Qh g l
 |some cs::l=>some (zb.renL g cs)::Qh g l
theorem Jd (g gb:Nat→Option Nat)(h':Heap):∀(i:Nat) (l:Heap),(QY g gb h' i l).length=l.length
 |_,[]=>rfl
 |i,o::l=>by simp[QY,Jd g gb h' (i+1) l]
theorem Qd (g gb:Nat→Option Nat)(h':Heap):∀(i:Nat) (l:Heap) (k:Nat),(QY g gb h' i l)[k]?=(l[k]?).map fun o=>match g (i+k) with
    | some j=>match h'[j]? with
      |some (some cs)=>some (zb.renL gb cs)
      |_=>none
    |none=>o
  |_,[],k=>by simp[QY]
  |i,o::l,0=>by simp[QY]
  | i,o::l,k+1=>by
    simp only[QY,List.getElem?_cons_succ,Qd g gb h' (i+1) l k]
    rw[show i+1+k=i+(k+1) by omega]
theorem Wa (g:Nat→Option Nat):∀l:Heap,(Qh g l).length=l.length
 |[]=>rfl
 |none::l=>by simp[Qh,Wa g l]
 |some cs::l=>by simp[Qh,Wa g l]
theorem Wb (g:Nat→Option Nat):∀(l:Heap) (k:Nat) {cs:List zb},(Qh g l)[k]?=some (some cs)→∃cs',l[k]?=some (some cs')∧cs=zb.renL g cs'
 |[],k,_,h=>by simp[Qh] at h
 |none::l,0,_,h=>by simp[Qh] at h
 |some cs::l,0,_,h=>by simp[Qh] at h;exact⟨cs,rfl,h.symm⟩
 |none::l,k+1,_,h=>Wb g l k (by simpa[Qh] using h)
 |some cs::l,k+1,_,h=>Wb g l k (by simpa[Qh] using h)
theorem QR :∀{l:Heap} {k:Nat} {cs:List zb},Qp l=true→l[k]?=some (some cs)→zb.flatL cs=true
 |[],_,_,_,h=>by simp at h
 |none::l,0,_,_,h=>by simp at h
 |some cs::l,0,_,hf,h=>by simp at h;subst h;simp only[Qp,Bool.and_eq_true] at hf;exact hf.1
 |none::l,k+1,_,hf,h=>QR (l:=l) (k:=k) hf (by simpa using h)
 |some cs::l,k+1,_,hf,h=>by simp only[Qp,Bool.and_eq_true] at hf;exact QR (l:=l) (k:=k) hf.2 (by simpa using h)
def WA (bo:List Nat)(L:List (List Nat))(gb:Nat→Option Nat)(h':Heap):zb→Bool
 | .at_ (1::id::c::ks)=>match jT bo id with
   |none=>false
   | some j=> !(ks.isEmpty&&L.contains [1,id]&&match h'[j]? with
     | some (some cs)=>match cs[c]? with
       |some B=> !(B.ren gb).isAlias
       |none=>false
     |_=>false)
 | .addr (1::id::_::_) _=>(jT bo id).isSome
 |_=>false
theorem xQ {bo:List Nat}{L:List (List Nat)}{gb:Nat→Option Nat}{h':Heap}{A:zb}(h:A.isAlias=false):WA bo L gb h' A=false:=by
 cases A<;>simp[zb.isAlias] at h<;>rfl
def zc.after (st:zc)(bo:List Nat)(L:List (List Nat))(mm:Nat)(h':Heap):zc:=
 let gb:=Zq bo mm st.h.length
 let s:=st.kill (WA bo L gb h')
 {s with h:=QY (jT bo) gb h' 0 st.h++Qh gb (h'.drop mm)}
theorem VRel.wayP {E E':Env}{p0:List Nat}(hk:∀b q,E.O b=some (p0++q)→E'.w.heap[b]?=E.w.heap[b]?):∀(ks:List Nat) {ℓ:List Nat} {A B:zb} {v:Value},VRel E (some (p0++ℓ)) A v→A.sub ks=some B→zW E'.w v ks=zW E.w v ks:=by
 intro ks
 induction ks with
 |nil=>intro ℓ A B v _ _;cases v<;>simp[zW]
 | cons k ks ih=>
   intro ℓ A B v h hB
   cases h with
   | own _ sz cs b o len cap arr T f hO hb hl hc hm ha hf h=>
     simp only[zb.sub,zb.kids] at hB
     cases hk':cs[k]? with
     |none=>simp[hk'] at hB
     | some C=>
       simp only[hk'] at hB
       have hb':=hk b ℓ hO
       simp only[zW,zk hb,zk (hb'.trans hb),hf k C hk']
       exact ih (ℓ:=ℓ++[k]) (by simpa using h k C hk') hB
   | box _ cs b arr T f hO hb ha hf h=>
     simp only[zb.sub,zb.kids] at hB
     cases hk':cs[k]? with
     |none=>simp[hk'] at hB
     | some C=>
       simp only[hk'] at hB
       have hb':=hk b ℓ hO
       simp only[zW,Nat.zero_add,zk hb,zk (hb'.trans hb),hf k C hk']
       exact ih (ℓ:=ℓ++[k]) (by simpa using h k C hk') hB
   | agg _ cs vs hs h=>
     simp only[zb.sub,zb.kids] at hB
     cases hk':cs[k]? with
     |none=>simp[hk'] at hB
     | some C=>
       simp only[hk'] at hB
       have hlt:k<vs.size:=by rw[hs];exact(List.getElem?_eq_some_iff.1 hk').1
       simp only[zW]
       rw[Array.getElem?_eq_getElem hlt]
       exact ih (ℓ:=ℓ++[k]) (by simpa using h k C _ hk' (Array.getElem?_eq_getElem hlt)) hB
   | tup _ cs vs hs h=>
     simp only[zb.sub,zb.kids] at hB
     cases hk':cs[k]? with
     |none=>simp[hk'] at hB
     | some C=>
       simp only[hk'] at hB
       have hlt:k<vs.size:=by rw[hs];exact(List.getElem?_eq_some_iff.1 hk').1
       simp only[zW]
       rw[Array.getElem?_eq_getElem hlt]
       exact ih (ℓ:=ℓ++[k]) (by simpa using h k C _ hk' (Array.getElem?_eq_getElem hlt)) hB
   |_=>simp[zb.sub,zb.kids] at hB
theorem VRel.pres {L:List (List Nat)}{E E':Env}{A:zb}{v:Value}(h:VRel E none A v)(P:zL L E E'):VRel E' none A v:=
 h.keep P.ids P.size fun b hb=>by
  rcases hb with hb|⟨ℓ,q,hℓ,_⟩
  · obtain⟨h1,h2⟩:=P.old b hb.1 hb.2
    exact⟨h1.trans hb.1.symm,h2⟩
  · cases hℓ
section
variable {L:List (List Nat)} {E E3:Env} {N:Nat} {V:List Nat} {st:zc} {tm:Array Value} {bo:List Nat} {ln:Bool} {mm pb po pk:Nat} {h':Heap}
theorem gS (hlim:∀b q,E.O b=some q→b<E.w.heap.size){L':List (List Nat)}(P3:zL L' (E.sub bo ln mm pb po pk) E3){p:List Nat}(hp:∀s,Hid bo (p++s)){A:zb}{v:Value}(h:VRel E (some p) A v):VRel (E.out E3 bo mm) (some p) A v:=
 VRel.keep (E:=E) (E':=E.out E3 bo mm) ⟨show E.n≤E.n+(E3.n - mm) by omega,fun id hid=>⟨if_pos hid,if_pos hid,if_pos hid⟩⟩ P3.size h fun b hb=>by
  rcases hb with hb|⟨ℓ,q,hℓ,hO,hpre⟩
  · exact jy hlim P3 (.inl hb)
  · cases hℓ
    obtain⟨s,rfl⟩:=hpre
    exact jy hlim P3 (.inr ⟨_,hO,hp s⟩)
theorem xw (hlim:∀b q,E.O b=some q→b<E.w.heap.size)(hn:E.n=st.h.length)(hbo:bo.all (fun i=>decide (i<st.h.length))=true)(hm:bo.length≤mm)(h3:mm≤E3.n){L':List (List Nat)}(P3:zL L' (E.sub bo ln mm pb po pk) E3){p q:List Nat}
    (hpq:∀b s,E3.O b=some (p++s)→(E.out E3 bo mm).O b=some (q++s)) {A:zb} (hf:ln=true→A.flat=true) {r:List Nat} {v:Value} (h:VRel E3 (some (p++r)) A v):VRel (E.out E3 bo mm) (some (q++r)) (A.ren (Zq bo mm st.h.length)) v:=by
  cases hl:ln with
  |true=>exact(h.renX (gM hn hbo hm h3 P3) (fun b s hb=>⟨hpq b s hb,rfl⟩) (hf hl) r).2 rfl
  |false=>subst hl;exact h.renK (gM hn hbo hm h3 P3) (Nat.le_refl _) (fun b hb _=>⟨OQ hlim P3 hb,rfl⟩) (fun b s hb=>⟨hpq b s hb,rfl⟩)
theorem wb (i:Nat):(st.after bo L mm h').get i=bif WA bo L (Zq bo mm st.h.length) h' (st.get i) then .dead else st.get i:=zc.get_kill st _ i
theorem Wx {i:Nat}(s:List Nat):Hid bo ([0,i]++s):=trivial
theorem QQ {id:Nat}(h:jT bo id=none)(s:List Nat):Hid bo ([1,id]++s):=h
theorem zA.after (R : zA E N V st tm)(hnd:Qk bo=true)(hbo:bo.all (fun i=>decide (i<st.h.length))=true)(hm:bo.length≤mm)(P3:zL (zJ bo L) (E.sub bo ln mm pb po pk) E3)(H3:wG E3 h')(hmm:mm≤h'.length)
    (hfl:ln=true→Qp h'=true):zA (E.out E3 bo mm) N V (st.after bo L mm h') tm:=by
  have hna:∀A:zb,A.isAlias=false→WA bo L (Zq bo mm st.h.length) h' A=false:=fun A h=>xQ h
  have R1:=R.kill hna
  have h3:mm≤E3.n:=by rw[H3.num];exact hmm
  have hhid:∀id,jT bo id=none→(st.after bo L mm h').h[id]?=st.h[id]?∨st.h[id]?=none:=fun id hid=>by
    rcases Nat.lt_or_ge id st.h.length with hlt|hge
    · left
      show(QY _ _ _ 0 st.h++_)[id]?=_
      rw[List.getElem?_append_left (by rw[Jd];exact hlt),Qd]
      simp[hid]
    · exact .inr (List.getElem?_eq_none hge)
  refine⟨R1.size,R1.keys,?_,R1.disj,zbz R.lim P3 H3.lim,R1.roots,fun i=>?_,fun id cs hcs=>?_⟩
  · show E.n+(E3.n - mm)=(QY _ _ _ 0 st.h++Qh _ (h'.drop mm)).length
    rw[List.length_append,Jd,Wa,List.length_drop,R.num,H3.num]
  · 
    have hway0:∀j ks B,st.at (0::j::ks)=some B→B.isAlias=false→zD (E.out E3 bo mm) tm (0::j::ks)=zD E tm (0::j::ks):=fun j ks B hB hA=>by
      cases ks with
      |nil=>simp[zD,zW]
      | cons k ks=>
        rw[zO] at hB
        obtain⟨v,hv,hr⟩:=(R.slots j).out (zb.sub_cons_nonalias hB)
        simp only[zD,hv]
        exact VRel.wayP (p0:=[0,j]) (E:=E) (E':=E.out E3 bo mm) (fun b q hb=>(jy R.lim P3 (.inr ⟨_,hb,Wx q⟩)).2) (k::ks) (ℓ:=[]) (by simpa using hr) hB
    have hat0:∀j ks B,st.at (0::j::ks)=some B→B.isAlias=false→(st.after bo L mm h').at (0::j::ks)=some B:=fun j ks B hB hA=>by
      rw[zO] at hB⊢
      rw[wb]
      cases ks with
      | nil=>
        have:st.get j=B:=by simpa[zb.sub] using hB
        rw[this,hna B hA];simp[zb.sub]
      |cons k ks=>rw[hna _ (zb.sub_cons_nonalias hB)];exact hB
    have hway1:∀id c ks B,jT bo id=none→st.at (1::id::c::ks)=some B→(st.after bo L mm h').at (1::id::c::ks)=some B∧zD (E.out E3 bo mm) tm (1::id::c::ks)=zD E tm (1::id::c::ks):=fun id c ks B hid hB=>by
      simp only[zc.at] at hB⊢
      split at hB
      · rename_i cs hcs
        have hcs':(st.after bo L mm h').h[id]?=some (some cs):=by
          rcases hhid id hid with h|h
          · rw[h];exact hcs
          · rw[h] at hcs;cases hcs
        rw[hcs']
        refine⟨hB,?_⟩
        obtain⟨hO,arr,T,f,hb,ha,hl,hf,hv⟩:=R.objs id cs hcs
        have hidn:id<E.n:=by rw[R.num];exact(List.getElem?_eq_some_iff.1 hcs).1
        have hb':=(jy R.lim P3 (.inr ⟨_,hO,QQ hid []⟩)).2
        simp only[zb.sub,zb.kids] at hB
        cases hk:cs[c]? with
        |none=>simp[hk] at hB
        | some D=>
          simp only[hk] at hB
          have e1:(E.out E3 bo mm).ρ id=E.ρ id:=if_pos hidn
          have e2:(E.out E3 bo mm).β id=E.β id:=if_pos hidn
          simp only[zD,Env.ptr,zW,e1,e2,zk hb,zk (show(E.out E3 bo mm).w.heap[E.ρ id]?=_ from hb'.trans hb),hf c D hk]
          exact VRel.wayP (p0:=[1,id]) (E:=E) (E':=E.out E3 bo mm) (fun b q hb=>(jy R.lim P3 (.inr ⟨_,hb,QQ hid q⟩)).2) ks (ℓ:=[c]) (hv c D hk) hB
      · cases hB
    have hR:=R.slots i
    rw[wb]
    cases hg:WA bo L (Zq bo mm st.h.length) h' (st.get i) with
    |true=>trivial
    | false =>
      simp only[cond_false]
      generalize hAi:st.get i=A at hg hR
      have val:A.isAlias=false→ZY (E.out E3 bo mm) (st.after bo L mm h') tm i A:=fun hA=>by
        obtain⟨v,hv,hr⟩:=hR.out hA
        exact ZY.mk hv (gS R.lim P3 (p:=[0,i]) Wx hr)
      cases A with
      |dead=>trivial
      | at_ p =>
        obtain⟨B,v,h1,h2,h3',h4⟩:=hR
        match p,zC h1,h1,h3',hg with
        |0::j::ks,_,h1,h3',_=>exact⟨B,v,hat0 j ks B h1 h2,h2,(hway0 j ks B h1 h2).trans h3',h4⟩
        | 1 :: id ::c::ks,_,h1,h3',hg=>
          simp only[WA] at hg
          split at hg
          · rename_i hid
            obtain⟨h5,h6⟩:=hway1 id c ks B hid h1
            exact⟨B,v,h5,h2,h6.trans h3',h4⟩
          · rename_i j hid
            simp only[Bool.not_eq_false',Bool.and_eq_true,List.isEmpty_iff,List.contains_iff_mem] at hg
            obtain⟨⟨rfl,hL⟩,hg⟩:=hg
            split at hg
            · rename_i cs' hcs'
              split at hg
              · rename_i B' hB'
                simp only[zc.at] at h1
                split at h1
                · rename_i cs hcs
                  obtain⟨hO,arr,T,f,hb,ha,hl,hf,hv⟩:=R.objs id cs hcs
                  have hidl:id<st.h.length:=(List.getElem?_eq_some_iff.1 hcs).1
                  have hidn:id<E.n:=by rw[R.num];exact hidl
                  have hw:Wat (zJ bo L) [1,j]:=⟨qX hid hL,.inr rfl⟩
                  have hO2:(E.sub bo ln mm pb po pk).O (E.ρ id)=some [1,j]:=uA (s:=[]) hid hO
                  have hb':=(P3.keep _ _ hw hO2 (ZA hb)).2
                  refine⟨B'.ren (Zq bo mm st.h.length),v,?_,by simpa using hg,?_,h4⟩
                  · have e:(st.after bo L mm h').h[id]?=some (some (zb.renL (Zq bo mm st.h.length) cs')):=by
                      show(QY _ _ _ 0 st.h++_)[id]?=_
                      rw[List.getElem?_append_left (by rw[Jd];exact hidl),Qd,hcs]
                      simp[hid,hcs']
                    simp only[zc.at,e,zb.sub,zb.kids,w9,hB',Option.map_some]
                  · rw[←h3']
                    have e1:(E.out E3 bo mm).ρ id=E.ρ id:=if_pos hidn
                    have e2:(E.out E3 bo mm).β id=E.β id:=if_pos hidn
                    have e3:(E.out E3 bo mm).w.cell? ⟨E.ρ id,E.β id+c,none⟩=E.w.cell? ⟨E.ρ id,E.β id+c,none⟩:=ZV hb'
                    simp only[zD,Env.ptr,zW,e1,e2,e3]
                · cases h1
              · cases hg
            · cases hg
      | addr p k=>
        obtain⟨hd,cs,v,b,o,h1,h2,h3',h4⟩:=hR
        match p,zC h1,h1,h2,hg with
        |0::j::ks,_,h1,h2,_=>exact⟨hd,cs,v,b,o,hat0 j ks _ h1 rfl,(hway0 j ks _ h1 rfl).trans h2,h3',h4⟩
        | 1::id::c::ks,_,h1,h2,hg=>
          have hid:jT bo id=none:=by simpa[WA] using hg
          obtain⟨h5,h6⟩:=hway1 id c ks _ hid h1
          exact⟨hd,cs,v,b,o,h5,h6.trans h2,h3',h4⟩
      |_=>exact val rfl
  · 
    have hcs':(QY (jT bo) (Zq bo mm st.h.length) h' 0 st.h++Qh (Zq bo mm st.h.length) (h'.drop mm))[id]?=some (some cs):=hcs
    have back:∀j cs0,h'[j]?=some (some cs0)→(∀b s,E3.O b=some ([1,j]++s)→(E.out E3 bo mm).O b=some ([1,id]++s))→(E.out E3 bo mm).ρ id=E3.ρ j→(E.out E3 bo mm).β id=E3.β j→(E.out E3 bo mm).κ id=E3.κ j→
        qO (E.out E3 bo mm) id (zb.renL (Zq bo mm st.h.length) cs0):=fun j cs0 hj hO' e1 e2 e3=>by
      obtain⟨hO,arr,T,f,hb,ha,hl,hf,hv⟩:=H3.objs j cs0 hj
      refine⟨?_,arr,T,f,?_,?_,?_,fun k A hk=>?_,fun k A hk=>?_⟩
      · rw[e1];simpa using hO' _ [] (by simpa using hO)
      · rw[e1];exact hb
      · rw[e2,e3];exact ha
      · rw[e3,zw];exact hl
      · obtain⟨B,hB,_⟩:=zo hk
        rw[e2];exact hf k B hB
      · obtain⟨B,hB,rfl⟩:=zo hk
        exact xw R.lim R.num hbo hm h3 P3 hO' (fun hl=>ZN (QR (hfl hl) hj) hB) (hv k B hB)
    rcases Nat.lt_or_ge id st.h.length with hlt|hge
    · rw[List.getElem?_append_left (by rw[Jd];exact hlt),Qd,List.getElem?_eq_getElem hlt] at hcs'
      simp only[Option.map_some,Option.some.injEq,Nat.zero_add] at hcs'
      have hidn:id<E.n:=by rw[R.num];exact hlt
      cases hid:jT bo id with
      | none=>
        rw[hid] at hcs'
        simp only[] at hcs'
        obtain⟨hO,arr,T,f,hb,ha,hl,hf,hv⟩:=R.objs id cs (by rw[List.getElem?_eq_getElem hlt,hcs'])
        have e1:(E.out E3 bo mm).ρ id=E.ρ id:=if_pos hidn
        have e2:(E.out E3 bo mm).β id=E.β id:=if_pos hidn
        have e3:(E.out E3 bo mm).κ id=E.κ id:=if_pos hidn
        obtain⟨h5,h6⟩:=jy R.lim P3 (.inr ⟨_,hO,QQ hid []⟩)
        refine⟨by rw[e1];exact h5.trans hO,arr,T,f,by rw[e1];exact h6.trans hb,by rw[e2,e3];exact ha,by rw[e3];exact hl,fun k A hk=>by rw[e2];exact hf k A hk,fun k A hk=>?_⟩
        exact gS R.lim P3 (fun s=>by rw[List.append_assoc];exact QQ hid _) (hv k A hk)
      | some j=>
        rw[hid] at hcs'
        simp only[] at hcs'
        split at hcs'
        · rename_i cs0 hj
          have hcs'':=Option.some.inj hcs'
          subst hcs''
          obtain⟨g1,g2⟩:=J1 (yU hid)
          obtain⟨x1,x2,x3⟩:=P3.ids.2 j (show j<mm by omega)
          refine back j cs0 hj (fun b s hb=>OR P3 (yU hid) hb) ?_ ?_ ?_
          · show(if id<E.n then E.ρ id else _)=_
            rw[if_pos hidn,x1]
            show _=(if j<bo.length then E.ρ (bo.getD j 0) else _)
            rw[if_pos g2,g1]
          · show(if id<E.n then E.β id else _)=_
            rw[if_pos hidn,x2]
            show _=(if j<bo.length then E.β (bo.getD j 0) else _)
            rw[if_pos g2,g1]
          · show(if id<E.n then E.κ id else _)=_
            rw[if_pos hidn,x3]
            show _=(if j<bo.length then E.κ (bo.getD j 0) else _)
            rw[if_pos g2,g1]
        · cases hcs'
    · rw[List.getElem?_append_right (by rw[Jd];exact hge),Jd] at hcs'
      obtain⟨cs0,hj,rfl⟩:=Wb _ _ _ hcs'
      rw[List.getElem?_drop] at hj
      have hge':¬id<E.n:=by rw[R.num];omega
      refine back (mm+(id - st.h.length)) cs0 hj (fun b s hb=>?_) ?_ ?_ ?_
      · have:=zby (E:=E) (bo:=bo) hm (by omega) hb
        rw[this,R.num]
        have e:st.h.length+(mm+(id - st.h.length) - mm)=id:=by omega
        rw[e]
      · show(if id<E.n then _ else E3.ρ (mm+(id - E.n)))=_
        rw[if_neg hge',R.num]
      · show(if id<E.n then _ else E3.β (mm+(id - E.n)))=_
        rw[if_neg hge',R.num]
      · show(if id<E.n then _ else E3.κ (mm+(id - E.n)))=_
        rw[if_neg hge',R.num]
end
end Go.Ga

namespace Go.Ga
open Go
section
variable {L:List (List Nat)} {E E3:Env} {N:Nat} {V:List Nat} {st:zc} {tm:Array Value} {bo:List Nat} {ln:Bool} {mm pb po pk:Nat} {h':Heap}
theorem zA.fill (R:zA E N V st tm){p:List Nat}{B:zb}{u:Value}(hB:B.isAlias=false)(h:st.at p=some .dead)(hk:∀i ks,p=0::i::ks→i∈V∨i∈st.ts.map (·.1))(hu:zD E tm p=some u)(h':VRel E (some p) B u):
    zA E N V (st.setAt p B) tm:=by
  have U:Zh p E E:=⟨Nat.le_refl _,E.ids_refl,fun _ h _=>⟨h,rfl⟩,fun _ _ h _=>⟨h,rfl⟩⟩
  match p,zC h,h,hk,hu,h',U with
  | 0 :: i :: ks,_,h,hk,hu,h',U=>
    have hki:=hk i ks rfl
    have key:∀A:zb,(st.set i A).get i=A:=fun A=>st.get_set A (by
      rcases hki with h|h
      · exact .inr (Z0.2 (by rw[R.keys];exact h))
      · exact .inl (Z0.2 h))
    have hget:∀j,(st.setAt (0::i::ks) B).get j=if i=j then(st.get i).setSub ks B else st.get j:=fun j=>by
      show(st.set i _).get j=_
      by_cases hij:i=j
      · subst hij;rw[if_pos rfl];exact key _
      · rw[if_neg hij];exact st.get_set_ne _ hij
    have hh:(st.setAt (0::i::ks) B).h=st.h:=(zc.set_keys _ _ _).2.2
    have hts:(st.setAt (0::i::ks) B).ts.map (·.1)=st.ts.map (·.1):=(zc.set_keys _ _ _).2.1
    have hslot:∃va,tm[i]?=some va∧VRel E (some [0,i]) ((st.get i).setSub ks B) va:=by
      rw[zO] at h
      cases ks with
      | nil=>
        have e:(st.get i).setSub [] B=B:=by cases st.get i<;>rfl
        rw[e]
        simp only[zD] at hu
        cases hv:tm[i]? with
        |none=>rw[hv] at hu;cases hu
        | some va=>
          rw[hv] at hu
          simp only[] at hu
          have:va=u:=by cases va<;>simpa[zW] using hu
          subst this
          exact⟨va,rfl,h'⟩
      | cons k ks=>
        obtain⟨va,hva,hra⟩:=(R.slots i).out (zb.sub_cons_nonalias h)
        have hu':zW E.w va (k::ks)=some u:=by simpa[zD,hva] using hu
        exact⟨va,hva,VRel.turn (k::ks) (ℓ:=[0,i]) U hra h hu' h'⟩
    obtain⟨va,hva,hra⟩:=hslot
    have hna:((st.get i).setSub ks B).isAlias=false:=by
      rw[zO] at h
      cases ks with
      | nil=>
        have e:(st.get i).setSub [] B=B:=by cases st.get i<;>rfl
        rw[e];exact hB
      | cons k ks=>
        generalize st.get i=X at h
        cases X<;>simp[zb.sub,zb.kids] at h<;>rfl
    refine⟨R.size,(zc.set_keys _ _ _).1.trans R.keys,by rw[R.num,hh],by rw[hts];exact R.disj,R.lim,fun j A r hA hr=>?_,fun j=>?_,fun id cs hcs=>?_⟩
    · rw[hts]
      rw[hget] at hA
      by_cases hij:i=j
      · subst hij
        rw[if_pos rfl] at hA
        subst hA
        cases hx:(st.get i).setSub ks B<;>rw[hx] at hr hna<;>first|(cases hr;done)|(cases hna;done)
      · rw[if_neg hij] at hA;exact R.roots j A r hA hr
    · rw[hget]
      by_cases hij:i=j
      · subst hij;rw[if_pos rfl];exact ZY.mk hva hra
      · rw[if_neg hij]
        refine ZY.carry (R.slots j) rfl (fun v _ h=>h) fun q hq C hC hCA=>⟨?_,rfl⟩
        match q,zC hC,hC with
        | 0 ::l::js,_,hC=>
          rw[zO] at hC⊢
          rw[hget]
          by_cases hil:i=l
          · subst hil
            rw[if_pos rfl]
            rw[zO] at h
            obtain⟨C',c1,c2,c3,c4⟩:=qB ks js B h hC (fun⟨hx,hne⟩=>by
              obtain⟨s,rfl⟩:=hx
              rw[sub_append,h] at hC
              cases s with
              |nil=>exact hne (by simp)
              |cons k s=>simp[zb.sub,zb.kids] at hC)
            by_cases hjk:js=ks
            · subst hjk;rw[h] at hC;cases hC;cases hCA
            · rcases c4 hjk with rfl|⟨hd,cs,cs',rfl,rfl⟩|⟨cs,cs',rfl,rfl⟩|⟨cs,cs',rfl,rfl⟩
              · exact⟨_,c1,hCA,fun hd cs e=>⟨hd,cs,e⟩⟩
              · exact⟨_,c1,rfl,fun _ _ _=>⟨_,_,rfl⟩⟩
              · exact⟨_,c1,rfl,fun _ _ e=>by cases e⟩
              · exact⟨_,c1,rfl,fun _ _ e=>by cases e⟩
          · rw[if_neg hil];exact⟨C,hC,hCA,fun hd cs e=>⟨hd,cs,e⟩⟩
        |1::id::c::js,_,hC=>exact⟨C,by simp only[zc.at,hh];exact hC,hCA,fun hd cs e=>⟨hd,cs,e⟩⟩
    · rw[hh] at hcs;exact R.objs id cs hcs
  | 1 :: id ::k::ks,_,h,_,hu,h',U=>
    have h0:=h
    simp only[zc.at] at h
    split at h
    · rename_i cs hcs
      have hidl:id<st.h.length:=(List.getElem?_eq_some_iff.1 hcs).1
      have hidn:id<E.n:=by rw[R.num];exact hidl
      simp only[zb.sub,zb.kids] at h
      cases hk:cs[k]? with
      |none=>simp[hk] at h
      | some D=>
        simp only[hk] at h
        have hkl:k<cs.length:=(List.getElem?_eq_some_iff.1 hk).1
        have hh:(st.setAt (1::id::k::ks) B).h=st.h.set id (some (cs.set k (D.setSub ks B))):=by simp only[zc.setAt,hcs,hk]
        have hvs:(st.setAt (1::id::k::ks) B).vs=st.vs:=by simp only[zc.setAt,hcs]
        have hts:(st.setAt (1::id::k::ks) B).ts=st.ts:=by simp only[zc.setAt,hcs]
        have hget:∀j,(st.setAt (1::id::k::ks) B).get j=st.get j:=fun j=>by simp only[zc.get,hvs,hts]
        refine⟨R.size,by rw[hvs];exact R.keys,by rw[R.num,hh,List.length_set],by rw[hts];exact R.disj,R.lim,fun j A r hA hr=>by rw[hget] at hA;rw[hts];exact R.roots j A r hA hr,fun j=>?_,fun id' cs' hcs'=>?_⟩
        · rw[hget]
          refine ZY.carry (R.slots j) rfl (fun v _ h=>h) fun q hq C hC hCA=>⟨?_,rfl⟩
          match q,zC hC,hC with
          |0::l::js,_,hC=>exact⟨C,by rw[zO] at hC⊢;rw[hget];exact hC,hCA,fun hd cs e=>⟨hd,cs,e⟩⟩
          | 1 ::id'::k'::js,_,hC=>
            simp only[zc.at,hh,List.getElem?_set] at hC⊢
            by_cases hid:id=id'
            · subst hid
              rw[hcs] at hC
              simp only[if_true,hidl]
              simp only[zb.sub,zb.kids,List.getElem?_set] at hC⊢
              by_cases hkk:k=k'
              · subst hkk
                rw[hk] at hC
                simp only[if_true,hkl] at hC⊢
                obtain⟨C',c1,c2,c3,c4⟩:=qB ks js B h hC (fun⟨hx,hne⟩=>by
                  obtain⟨s,rfl⟩:=hx
                  rw[sub_append,h] at hC
                  cases s with
                  |nil=>exact hne (by simp)
                  |cons k s=>simp[zb.sub,zb.kids] at hC)
                by_cases hjk:js=ks
                · subst hjk;rw[h] at hC;cases hC;cases hCA
                · rcases c4 hjk with rfl|⟨hd,cs,cs',rfl,rfl⟩|⟨cs,cs',rfl,rfl⟩|⟨cs,cs',rfl,rfl⟩
                  · exact⟨_,c1,hCA,fun hd cs e=>⟨hd,cs,e⟩⟩
                  · exact⟨_,c1,rfl,fun _ _ _=>⟨_,_,rfl⟩⟩
                  · exact⟨_,c1,rfl,fun _ _ e=>by cases e⟩
                  · exact⟨_,c1,rfl,fun _ _ e=>by cases e⟩
              · rw[if_neg hkk]
                exact⟨C,hC,hCA,fun hd cs e=>⟨hd,cs,e⟩⟩
            · rw[if_neg hid]
              exact⟨C,hC,hCA,fun hd cs e=>⟨hd,cs,e⟩⟩
        · rw[hh,List.getElem?_set] at hcs'
          by_cases hid:id=id'
          · subst hid
            simp[hidl] at hcs'
            subst hcs'
            exact qO.turn U hidn (R.objs id cs hcs) hk h (by simpa[zD] using hu) h'
          · rw[if_neg hid] at hcs';exact R.objs id' cs' hcs'
    · cases h
def we (st:zc):Option (List Nat)→Option (Option (List Nat×Nat×List zb)×zc)
 |none=>some (none,st)
 | some p=>match st.at p with
   |some (.own (some sz) cs)=>if 0<cs.length then some (some (p,sz,cs),(st.kill (zb.under p false)).setAt p .dead) else none
   |_=>none
def Un (L:List (List Nat)):Option (List Nat)→Bool
 |none=>true
 |some p=>clear L p
theorem Uo (R:zA E N V st tm){pl:Option (List Nat)}{x:Option (List Nat×Nat×List zb)}{st1:zc}(h:we st pl=some (x,st1))(hq:Un L pl=true):
    ∃E1,zA E1 N V st1 tm∧zL L E E1∧E1.w=E.w∧(∀p,zD E1 tm p=zD E tm p)∧(x=none∨∃p sz cs v,x=some (p,sz,cs)∧st.at p=some (.own (some sz) cs)∧0<cs.length∧zD E tm p=some v∧VRel E1 (some [9,0]) (.own (some sz) cs) v):=by
  cases pl with
  |none=>cases h;exact⟨E,R,zL.refl E,rfl,fun _=>rfl,.inl rfl⟩
  | some p=>
    simp only[we] at h
    split at h
    · rename_i sz cs hp
      split at h
      · rename_i hlen
        cases h
        obtain⟨v,hv,hr⟩:=R.at_ hp rfl
        have U:Zh p E (E.relab p [9,0]):=z8 p [9,0]
        have R2:=R.turn (B':= .dead) (keep:=false) hp rfl (fun e=>by cases e) U (Z1 R.lim) rfl hv (.dead _ _)
        exact⟨_,R2,zI (ZS (zC hp)) (ZR _) (qg hq),rfl,fun _=>rfl,.inr ⟨p,sz,cs,v,rfl,hp,hlen,hv,by simpa using (hr.moved p [9,0] []).2 (by simp)⟩⟩
      · cases h
    · cases h
inductive wH where
 |vw
 |mv
 |fz
 |bo
def Yu :List (zB×Bool)→List wH→List (zB×Bool)
 |[],_=>[]
 | (x,_)::xs,ms=>(match ms.headD .vw with
   | .mv=>(x,true)
   | .fz=>(x,false)
   |_=>(.c (.bool false),false))::Yu xs ms.tail
def Qj :List Operand→List wH→List Operand
 |[],_=>[]
 | x::xs,ms=>(match ms.headD .vw with
   | .mv=>x
   | .fz=>x
   |_=> .const (.bool false))::Qj xs ms.tail
theorem UG :∀(xs:List Operand) (os:List (zB×Bool)) (ms:List wH),xs.map zj=os.map (fun y=>some y.1)→(Qj xs ms).map zj=(Yu os ms).map fun y=>some y.1
 |[],[],_,_=>rfl
 |[],_::_,_,h=>by simp at h
 |_::_,[],_,h=>by simp at h
 | x::xs,(o,b)::os,ms,h=>by
   simp only[List.map_cons,List.cons.injEq] at h
   simp only[Qj,Yu,List.map_cons,UG xs os ms.tail h.2,List.cons.injEq,and_true]
   cases ms.headD .vw<;>first
    |exact h.1
    |rfl
theorem Xk :∀(xs:List Operand) (ms:List wH),(Qj xs ms).length=xs.length
 |[],_=>rfl
 |_::xs,ms=>by simp[Qj,Xk xs ms.tail]
def j0 (st0 st:zc)(bo:List Nat)(ln:Bool)(pl:Option (List Nat×Nat×List zb)):List (zB×Bool)→List wH→List zb→List zb
 | (x,_)::xs,ms,A::As=>(match ms.headD .vw with
   | .vw=>zaT st bo ln x
   | .bo=>match pl,st0.evA x with
     |some (p,sz,cs),.at_ q=>if q=p then .sl bo.length 0 (cs.length / sz) sz else .dead
     |_,_=> .dead
   |_=>A.ren (jT bo))::j0 st0 st bo ln pl xs ms.tail As
 |_,_,_=>[]
theorem xC {st0:zc}{pl:Option (List Nat×Nat×List zb)}:∀(os:List (zB×Bool)) (ms:List wH) (As:List zb),As.length=os.length→(j0 st0 st bo ln pl os ms As).length=os.length
 |[],_,[],_=>rfl
 |[],_,_::_,h=>by simp at h
 |_::_,_,[],h=>by simp at h
 |(x,_)::xs,ms,A::As,h=>by simp[j0,xC xs ms.tail As (by simpa using h)]
def ZF (h:Heap)(bo:List Nat)(pl:Option (List Nat×Nat×List zb)):Heap:=
 bo.map (fun id=>match h[id]? with|some (some cs)=>some (zb.renL (jT bo) cs)|_=>none)++match pl with|some (_,_,cs)=>[some (zb.renL (jT bo) cs)]|none=>[]
theorem pe {p:List Nat}{sz:Nat}{cs:List zb}{v:Value}(h:VRel E (some p) (.own (some sz) cs) v)(hc:0<cs.length):∃(b o len cap:Nat) (arr:Array Value) (T:TypeId) (f:Nat→Value),v= .slice (some ⟨b,o,none⟩) len cap∧E.O b=some p∧E.w.heap[b]?=some (.cells arr T (0,0))∧0<sz∧cs.length=len*sz∧len≤cap∧cap≤maxLen∧o+cap*sz≤arr.size∧
    (∀k A,cs[k]?=some A→arr[o+k]?=some (f k))∧∀(k:Nat) A,cs[k]?=some A→VRel E (some (p++[k])) A (f k):=by
  cases h with
  |own _ _ _ b o len cap arr T f hO hb hl hc hm ha hf h=>exact⟨b,o,len,cap,arr,T,f,rfl,hO,hb,hl.1,hl.2,hc,hm,ha,hf,h⟩
  |ownNil=>simp at hc
theorem uT (H:wG E st.h)(hnd:Qk bo=true){pl:Option (List Nat×Nat×List zb)} (hpl:match pl with
      |none=>True
      |some (_,sz,cs)=>∃(arr:Array Value) (T:TypeId) (f:Nat→Value),E.O pb=some [9,0]∧E.w.heap[pb]?=some (.cells arr T (0,0))∧cs.length≤pk∧po+pk≤arr.size∧(∀k A,cs[k]?=some A→arr[po+k]?=some (f k))∧∀(k:Nat) A,cs[k]?=some A→VRel E (some ([9,0]++[k])) A (f k)) (hmm:mm=(ZF st.h bo pl).length):
    wG (E.sub bo ln mm pb po pk) (ZF st.h bo pl) where
  num:=hmm
  lim:=zbe H.lim
  objs j cs hcs:=by
    have hm:bo.length≤mm:=by rw[hmm];simp[ZF]
    unfold ZF at hcs
    rcases Nat.lt_or_ge j bo.length with hlt|hge
    · rw[List.getElem?_append_left (by simpa using hlt),List.getElem?_map,List.getElem?_eq_getElem hlt] at hcs
      simp only[Option.map_some,Option.some.injEq] at hcs
      split at hcs
      · rename_i cs0 h0
        have hcs':=Option.some.inj hcs
        subst hcs'
        obtain⟨hO,arr,T,f,hb,ha,hl,hf,hv⟩:=H.objs _ cs0 h0
        have hg:jT bo bo[j]=some j:=Wv hnd (List.getElem?_eq_getElem hlt)
        have hD:bo.getD j 0=bo[j]:=by simp[List.getD_eq_getElem?_getD,hlt]
        have e1:(E.sub bo ln mm pb po pk).ρ j=E.ρ bo[j]:=by show(if j<bo.length then E.ρ (bo.getD j 0) else _)=_;rw[if_pos hlt,hD]
        have e2:(E.sub bo ln mm pb po pk).β j=E.β bo[j]:=by show(if j<bo.length then E.β (bo.getD j 0) else _)=_;rw[if_pos hlt,hD]
        have e3:(E.sub bo ln mm pb po pk).κ j=E.κ bo[j]:=by show(if j<bo.length then E.κ (bo.getD j 0) else _)=_;rw[if_pos hlt,hD]
        refine⟨by rw[e1];exact uA (s:=[]) hg hO,arr,T,f,by rw[e1];exact hb,by rw[e2,e3];exact ha,by rw[e3,zw];exact hl,fun k A hk=>?_,fun k A hk=>?_⟩
        · obtain⟨B,hB,_⟩:=zo hk
          rw[e2];exact hf k B hB
        · obtain⟨B,hB,rfl⟩:=zo hk
          exact(hv k B hB).renK (qw hm) (Nat.le_refl _) (fun _ h _=>⟨Jc h,rfl⟩) (fun _ _ h=>⟨uA hg h,rfl⟩)
      · cases hcs
    · rw[List.getElem?_append_right (by simpa using hge)] at hcs
      cases pl with
      |none=>simp at hcs
      | some x=>
        obtain⟨p,sz,cs0⟩:=x
        simp only[List.length_map] at hcs
        have hj:j=bo.length:=by
          have:=(List.getElem?_eq_some_iff.1 hcs).1
          simp at this;omega
        subst hj
        simp at hcs
        subst hcs
        obtain⟨arr,T,f,hO,hb,hl,ha,hf,hv⟩:=hpl
        have e1:(E.sub bo ln mm pb po pk).ρ bo.length=pb:=if_neg (Nat.lt_irrefl _)
        have e2:(E.sub bo ln mm pb po pk).β bo.length=po:=if_neg (Nat.lt_irrefl _)
        have e3:(E.sub bo ln mm pb po pk).κ bo.length=pk:=if_neg (Nat.lt_irrefl _)
        refine⟨by rw[e1];exact gF (s:=[]) hO,arr,T,f,by rw[e1];exact hb,by rw[e2,e3];exact ha,by rw[e3,zw];exact hl,fun k A hk=>?_,fun k A hk=>?_⟩
        · obtain⟨B,hB,_⟩:=zo hk
          rw[e2];exact hf k B hB
        · obtain⟨B,hB,rfl⟩:=zo hk
          exact(hv k B hB).renK (qw hm) (Nat.le_refl _) (fun _ h _=>⟨Jc h,rfl⟩) (fun _ _ h=>⟨gF h,rfl⟩)
end
end Go.Ga

namespace Go.Ga
open Go
def Ks (h:Heap)(bo:List Nat)(ln:Bool):List zb→List zb
 |[]=>[]
 |A::l=>vwV h bo ln A::Ks h bo ln l
theorem yE (h:Heap)(bo:List Nat)(ln:Bool):∀l:List zb,(Ks h bo ln l).length=l.length
 |[]=>rfl
 |A::l=>by simp[Ks,yE h bo ln l]
theorem uv (h:Heap)(bo:List Nat)(ln:Bool):∀(l:List zb) (k:Nat),(Ks h bo ln l)[k]?=(l[k]?).map (vwV h bo ln)
 |[],k=>by simp[Ks]
 |A::l,0=>by simp[Ks]
 |A::l,k+1=>by simp[Ks,uv h bo ln l k]
def zZ (L:List (List Nat))(d:Nat)(bo:List Nat)(mm:Nat)(x:Option (List Nat×Nat×List zb))(st:zc)(K:zc→Prop)(r:zb)(h':Heap):Prop:=
 match x with
 |none=>K ((st.after bo L mm h').putT d (r.ren (Zq bo mm st.h.length)))
 | some (p,sz,cs)=>match h'[bo.length]? with
   |some (some cs')=>cs'.length=cs.length∧xK bo p=true∧(st.after bo L mm h').at p=some .dead∧K (((st.after bo L mm h').setAt p (.own (some sz) (zb.renL (Zq bo mm st.h.length) cs'))).putT d (r.ren (Zq bo mm st.h.length)))
   |_=>K ((st.after bo L mm h').putT d (r.ren (Zq bo mm st.h.length)))
def yz (P:Program)(L:List (List Nat))(st:zc)(d g:Nat)(first captured:List zb)(args:List (zB×Bool))(ms:List wH)(bo:List Nat)(ln:Bool)(pl:Option (List Nat))(K:zc→Prop):Prop:=
 match we st pl with
 | some (x,st0)=>match st0.useL (Yu args ms) with
   | some (As,st1)=>Qk bo=true∧bo.all (fun i=>decide (i<st1.h.length))=true∧(Un L pl&&st0.useLQ L (Yu args ms))=true∧
    zn P (zJ bo L) g (Ks st1.h bo ln first++(j0 st st1 bo ln x args ms As++Ks st1.h bo ln captured)) (ZF st1.h bo x) fun r h'=>
     (ZF st1.h bo x).length≤h'.length∧(ln=true→r.flat=true∧Qp h'=true)∧zZ L d bo (ZF st1.h bo x).length x st1 K r h'
   |none=>False
 |none=>False
def yc (P:Program)(L:List (List Nat))(st:zc)(d:Nat)(f:zB)(args:List (zB×Bool))(K:zc→Prop):Prop:=
 match st.ev f with
 | .fn (.func g) first captured=>∃(ms:List wH) (bo:List Nat) (ln:Bool) (pl:Option (List Nat)),yz P L st d g first captured args ms bo ln pl K
 |_=>False
section
variable {L:List (List Nat)} {E E3:Env} {N:Nat} {V:List Nat} {st st0:zc} {a:Act} {tm:Array Value} {bo:List Nat} {ln:Bool} {mm pb po pk:Nat} {h':Heap} {P:Program} {o:Oper} {d:Nat}
theorem Yl (hmm:bo.length≤mm)(R:zA E N V st a.tmps){pl:Option (List Nat×Nat×List zb)}(hbo:∀p sz cs x ox,pl=some (p,sz,cs)→zj x=some ox→st0.evA ox= .at_ p→∀q',VRel (E.sub bo ln mm pb po pk) q' (.sl bo.length 0 (cs.length / sz) sz) (a.eval x)):
    ∀(xs:List Operand) (os:List (zB×Bool)) (ms:List wH) (As:List zb) (j:Nat),xs.map zj=os.map (fun y=>some y.1)→(∀(k:Nat) A x,As[k]?=some A→(Qj xs ms)[k]?=some x→VRel E (some [9,j+1+k]) A (a.eval x))→
    ∀k B x,(j0 st0 st bo ln pl os ms As)[k]?=some B→xs[k]?=some x→VRel (E.sub bo ln mm pb po pk) (some [3,j+k]) B (a.eval x)
  |[],os,ms,As,j,hm,_,k,B,x,_,hx=>by simp at hx
  |y::xs,[],ms,As,j,hm,_,k,B,x,_,_=>by simp at hm
  |y::xs,(o,b)::os,ms,[],j,hm,_,k,B,x,hB,_=>by simp[j0] at hB
  | y ::xs,(o,b)::os,ms,A::As,j,hm,h,k,B,x,hB,hx=>by
    simp only[List.map_cons,List.cons.injEq] at hm
    cases k with
    | zero=>
      simp only[j0,List.getElem?_cons_zero,Option.some.injEq] at hB hx
      subst hx
      have moved:(Qj (y::xs) ms)[0]?=some y→VRel (E.sub bo ln mm pb po pk) (some [3,j]) (A.ren (jT bo)) (a.eval y):=fun hp=>by
        have h1:=h 0 A y rfl hp
        exact VRel.renK (p:=[9,j+1]) (q:=[3,j]) (r:=[]) (qw hmm) (Nat.le_refl _) (fun _ h _=>⟨Jc h,rfl⟩) (fun _ _ h=>⟨zbf h,rfl⟩) (by simpa using h1)
      cases hmd:ms.headD .vw with
      | vw=>
        rw[hmd] at hB
        simp only[] at hB
        subst hB
        exact gz hmm R hm.1 _
      |mv=>rw[hmd] at hB;simp only[] at hB;subst hB;exact moved (by unfold Qj;rw[hmd];rfl)
      |fz=>rw[hmd] at hB;simp only[] at hB;subst hB;exact moved (by unfold Qj;rw[hmd];rfl)
      | bo=>
        rw[hmd] at hB
        simp only[] at hB
        split at hB
        · rename_i p sz cs q hpl hev
          split at hB
          · rename_i e
            subst e
            subst hB
            exact hbo _ _ _ _ _ rfl hm.1 hev _
          · subst hB;exact .dead _ _
        · subst hB;exact .dead _ _
    | succ k=>
      have:=Yl hmm R hbo xs os ms.tail As (j+1) hm.2 (fun k A x hA hx=>by
        have:=h (k+1) A x (by simpa using hA) (by simpa[Qj] using hx)
        rwa [show j+1+(k+1)=j+1+1+k by omega] at this) k B x (by simpa[j0] using hB) (by simpa using hx)
      rwa [show j+1+k=j+(k+1) by omega] at this
theorem OO (R:zA E N V st tm)(hm:bo.length≤mm){L':List (List Nat)}(P3:zL L' (E.sub bo ln mm pb po pk) E3){p:List Nat}{B:zb}(hp:xK bo p=true)(hlt:∀id r,p=1::id::r→id<st.h.length)(hB:(st.after bo L mm h').at p=some B):zD (E.out E3 bo mm) tm p=zD E tm p:=by
 match p,zC hB,hp,hlt,hB with
 | 0 ::j::ks,_,_,_,hB=>
   cases ks with
   |nil=>simp[zD,zW]
   | cons k ks=>
     rw[zO,wb] at hB
     cases hg:WA bo L (Zq bo mm st.h.length) h' (st.get j) with
     |true=>rw[hg] at hB;simp[zb.sub,zb.kids] at hB
     | false=>
       rw[hg] at hB
       simp only[cond_false] at hB
       obtain⟨v,hv,hr⟩:=(R.slots j).out (zb.sub_cons_nonalias hB)
       simp only[zD,hv]
       exact VRel.wayP (p0:=[0,j]) (E:=E) (E':=E.out E3 bo mm) (fun b q hb=>(jy R.lim P3 (.inr ⟨_,hb,Wx q⟩)).2) (k::ks) (ℓ:=[]) (by simpa using hr) hB
 | 1 :: id::c::ks,_,hp,hlt,hB=>
   have hid:jT bo id=none:=Option.isNone_iff_eq_none.1 hp
   simp only[zc.at] at hB
   split at hB
   · rename_i cs hcs
     have hidl:id<st.h.length:=hlt id _ rfl
     · have hcs0:st.h[id]?=some (some cs):=by
        have e:(QY (jT bo) (Zq bo mm st.h.length) h' 0 st.h++Qh (Zq bo mm st.h.length) (h'.drop mm))[id]?=some (some cs):=hcs
        rw[List.getElem?_append_left (by rw[Jd];exact hidl),Qd] at e
        simpa[hid] using e
       obtain⟨hO,arr,T,f,hb,ha,hl,hf,hv⟩:=R.objs id cs hcs0
       have hidn:id<E.n:=by rw[R.num];exact hidl
       have hb':=(jy R.lim P3 (.inr ⟨_,hO,QQ hid []⟩)).2
       simp only[zb.sub,zb.kids] at hB
       cases hk:cs[c]? with
       |none=>simp[hk] at hB
       | some D=>
         simp only[hk] at hB
         have e1:(E.out E3 bo mm).ρ id=E.ρ id:=if_pos hidn
         have e2:(E.out E3 bo mm).β id=E.β id:=if_pos hidn
         simp only[zD,Env.ptr,zW,e1,e2,zk hb,zk (show(E.out E3 bo mm).w.heap[E.ρ id]?=_ from hb'.trans hb),hf c D hk]
         exact VRel.wayP (p0:=[1,id]) (E:=E) (E':=E.out E3 bo mm) (fun b q hb=>(jy R.lim P3 (.inr ⟨_,hb,QQ hid q⟩)).2) ks (ℓ:=[c]) (hv c D hk) hB
   · cases hB
theorem OI (R:zA E N V st a.tmps){j:Nat}(F:zG N V st d){A:zb}{v:Value}(h:VRel E (some [9,j]) A v):zA (E.relab [9,j] [0,d]) N V (st.putT d A) (a.tmps.setIfInBounds d v):=
 (R.land [0,d]).putT_val F.lt F.v F.t (h.land [0,d])
theorem xS {g : Nat} (h : Ji P g = true) : ∃ fn, P.funcs[g]? = some fn ∧ ¬ fn.name = "runtime.NumGoroutine" ∧ ¬ fn.body = none := by
 unfold Ji at h
 split at h
 · rename_i fn hfn
   refine⟨fn,hfn,?_,?_⟩
   · simp only[Bool.and_eq_true,bne_iff_ne,ne_eq] at h
     exact h.1
   · simp only[Bool.and_eq_true] at h
     intro hb
     rw[hb] at h
     simp at h
 · cases h
theorem qv {pl:Option (List Nat)}{x:Option (List Nat×Nat×List zb)}{st1:zc}(h:we st pl=some (x,st1)):st1.ts.map (·.1)=st.ts.map (·.1):=by
 cases pl with
 |none=>cases h;rfl
 | some p=>
   simp only[we] at h
   split at h
   · split at h
     · cases h;exact ja.trans Zy
     · cases h
   · cases h
theorem qN :(st.after bo L mm h').ts.map (·.1)=st.ts.map (·.1):=Zy
theorem Xi {E E':Env}{p:List Nat}(hw:E'.w=E.w)(hi:∀id,E'.ρ id=E.ρ id∧E'.β id=E.β id):zD E' tm p=zD E tm p:=by
 match p with
 |[]=>rfl
 |[0]=>rfl
 |[1]=>rfl
 |0::i::ks=>simp only[zD,hw]
 |1::id::ks=>simp only[zD,Env.ptr,hw,(hi id).1,(hi id).2]
 |(n+2)::ks=>rfl
theorem OG {E E':Env}{p:List Nat}(hw:E'.w=E.w)(hi:E.ids E')(hlt:∀id r,p=1::id::r→id<E.n):zD E' tm p=zD E tm p:=by
 match p,hlt with
 |[],_=>rfl
 |[0],_=>rfl
 |[1],_=>rfl
 |0::i::ks,_=>simp only[zD,hw]
 | 1::id::ks,hlt=>
   obtain⟨h1,h2,_⟩:=hi.2 id (hlt id ks rfl)
   simp only[zD,Env.ptr,hw,h1,h2]
 |(n+2)::ks,_=>rfl
theorem zb4 (hT:JO P E)(R:zA E N V st a.tmps)(F:zG N V st d){c:Call}{fo:Operand}{oargs:List (zB×Bool)}(ho:o.op= .call c)(hc:c.callee= .value fo)(hdst:o.dst=some d)(hargs:c.args.toList.map zj=oargs.map fun y=>some y.1)
    {g:Nat} {first captured:List zb} {x:Value} (hx:a.eval fo=x) (hrx:VRel E none (.fn (.func g) first captured) x) {ms:List wH} {pl:Option (List Nat)}
    {K:zc→Prop} {next:Act→World→Prop} {Q:Exit→Act→World→Prop} (h:yz P L st d g first captured oargs ms bo ln pl K)
    (hK:∀E' st' v,zA E' N V st' (a.tmps.setIfInBounds d v)→zL L E E'→K st'→next (a.put (some d) v) E'.w):o.wp P a E.w next Q:=by
  unfold yz at h
  split at h
  case h_2=>exact h.elim
  rename_i x0 st0 htake
  split at h
  case h_2=>exact h.elim
  rename_i As st1 huse
  obtain⟨hnd,hbo,hq,hcall⟩:=h
  rw[Bool.and_eq_true] at hq
  have Rz:zA (E.freeze [9]) N V st a.tmps:=R.under (jP [9]) (JF R.lim) rfl (fun _ _=>zy (by decide)) (fun _=>zy (by decide)) (fun _ _ _ _ _=>zy (by decide))
  have Pz:zL L E (E.freeze [9]):=jF (ZR _)
  obtain⟨E0,R0,P0,hw0,hpv0,hx0⟩:=Uo Rz htake hq.1
  have hl0:∃l:List (Nat×zb×Value),Kr E0 l∧(∀y∈l,y.1<1+first.length)∧(x0=none∨∃p sz cs v,x0=some (p,sz,cs)∧st.at p=some (.own (some sz) cs)∧0<cs.length∧zD E a.tmps p=some v∧(0,zb.own (some sz) cs,v)∈l):=by
    rcases hx0 with h|⟨p,sz,cs,v,h1,h2,h3,h4,h5⟩
    · exact⟨[],(fun x hx=>by cases hx),(fun x hx=>by cases hx),.inl h⟩
    · refine⟨[(0,.own (some sz) cs,v)],(fun x hx=>?_),(fun x hx=>?_),.inr ⟨p,sz,cs,v,h1,h2,h3,?_,.head _⟩⟩
      · cases List.mem_singleton.1 hx;exact h5
      · cases List.mem_singleton.1 hx;exact Nat.lt_of_lt_of_le Nat.zero_lt_one (Nat.le_add_right _ _)
      · rw[←h4];exact(Xi rfl fun _=>⟨rfl,rfl⟩).symm
  obtain⟨l,Fl,hlj,hxl⟩:=hl0
  obtain⟨E1,R1,F1,hlen,hv,P1,hw1⟩:=Jz (Qj c.args.toList ms) (Yu oargs ms) (1+first.length) (UG _ _ ms hargs) R0 huse hq.2 Fl hlj
  have P01:zL L E E1:=(Pz.trans P0).trans P1
  have hwE:E1.w=E.w:=hw1.trans hw0
  have hAs:As.length=oargs.length:=by
    have:=congrArg List.length hargs
    simp only[List.length_map] at this
    rw[hlen,Xk,this]
  cases hrx with
  |fn _ _ _ _ us vs hus hvs h1 h2=>
  have hpl:∃pb po pk,(match x0 with
      |none=>True
      |some (_,sz,cs)=>∃(arr:Array Value) (T:TypeId) (f:Nat→Value),E1.O pb=some [9,0]∧E1.w.heap[pb]?=some (.cells arr T (0,0))∧cs.length≤pk∧po+pk≤arr.size∧(∀k A,cs[k]?=some A→arr[po+k]?=some (f k))∧∀(k:Nat) A,cs[k]?=some A→VRel E1 (some ([9,0]++[k])) A (f k))∧
      (x0=none∨∃p sz cs len cap,x0=some (p,sz,cs)∧st.at p=some (.own (some sz) cs)∧zD E a.tmps p=some (.slice (some ⟨pb,po,none⟩) len cap)∧0<sz∧cs.length=len*sz∧len≤cap∧cap≤maxLen∧pk=cap*sz):=by
    rcases hxl with rfl|⟨p,sz,cs,v,rfl,h3,h4,h5,h6⟩
    · exact⟨0,0,0,trivial,.inl rfl⟩
    · obtain⟨b,o',len,cap,arr,T,f,rfl,hO,hb,hsz,hcl,hlc,hcm,ha,hf,hvv⟩:=pe (F1 _ h6) h4
      refine⟨b,o',cap*sz,⟨arr,T,f,hO,hb,?_,ha,hf,hvv⟩,.inr ⟨p,sz,cs,len,cap,rfl,h3,h5,hsz,hcl,hlc,hcm,rfl⟩⟩
      rw[hcl];exact Nat.mul_le_mul_right _ hlc
  obtain⟨pb,po,pk,hpl1,hpl2⟩:=hpl
  have hmm:bo.length≤(ZF st1.h bo x0).length:=by simp[ZF]
  have HR:=uT (ln:=ln) (pb:=pb) (po:=po) (pk:=pk) R1.hrel hnd hpl1 rfl
  have hbor:∀p sz cs x ox,x0=some (p,sz,cs)→zj x=some ox→st.evA ox= .at_ p→∀q',VRel (E1.sub bo ln (ZF st1.h bo x0).length pb po pk) q' (.sl bo.length 0 (cs.length / sz) sz) (a.eval x):=by
    intro p sz cs x ox hx0' hox hev q'
    rcases hpl2 with h|⟨p',sz',cs',len,cap,h3,h4,h5,hsz,hcl,hlc,hcm,rfl⟩
    · rw[hx0'] at h;cases h
    · rw[h3] at hx0'
      cases hx0'
      obtain⟨B,v,g1,g2,g3,g4,g5⟩:=YE R hox hev
      rw[g4]
      rw[h5] at g3
      cases g3
      have hd:cs.length / sz=len:=by rw[hcl];exact Nat.mul_div_cancel _ hsz
      rw[hd]
      have:=VRel.sl (E:=E1.sub bo ln (ZF st1.h bo x0).length pb po (cap*sz)) q' bo.length 0 len cap sz (by show bo.length<(ZF st1.h bo x0).length;subst h3;simp[ZF]) hlc hcm (by
        show 0+cap*sz=if bo.length<bo.length then _ else _
        rw[if_neg (Nat.lt_irrefl _),Nat.zero_add])
      rw[show(E1.sub bo ln (ZF st1.h bo x0).length pb po (cap*sz)).ρ bo.length=pb from if_neg (Nat.lt_irrefl _),show(E1.sub bo ln (ZF st1.h bo x0).length pb po (cap*sz)).β bo.length=po from if_neg (Nat.lt_irrefl _)] at this
      exact this
  have hxs:c.args.size=oargs.length:=by
    have:=congrArg List.length hargs
    simpa using this
  have hAl:(j0 st st1 bo ln x0 oargs ms As).length=oargs.length:=xC _ _ _ hAs
  have hrun1:=hcall.2 (E1.sub bo ln (ZF st1.h bo x0).length pb po pk) (us++(c.args.map a.eval++vs)) ((hT.pres P01).turn (fun b h1 h2=>⟨Jc h1,rfl⟩) (Nat.le_refl _)) HR (by
      simp only[Array.size_append,List.length_append,yE,Array.size_map,hAl,hus,hvs,hxs]) (fun k A v hA hv'=>by
    have hvl:(us++(c.args.map a.eval++vs)).toList=us.toList++(c.args.toList.map a.eval++vs.toList):=by simp
    have hv2:(us.toList++(c.args.toList.map a.eval++vs.toList))[k]?=some v:=by rw[←hvl,Array.getElem?_toList];exact hv'
    have hl1:us.toList.length=first.length:=by simpa using hus
    have hl2:(c.args.toList.map a.eval).length=oargs.length:=by simpa using hxs
    rcases Nat.lt_or_ge k first.length with c1|c1
    · rw[List.getElem?_append_left (by rw[yE];exact c1),uv] at hA
      rw[List.getElem?_append_left (by rw[hl1];exact c1)] at hv2
      obtain⟨B,hB,rfl⟩:=Option.map_eq_some_iff.1 hA
      exact QD hmm R1.hrel ((h1 k B v hB (by simpa using hv2)).pres P01) (.inl rfl) _
    · rw[List.getElem?_append_right (by rw[yE];exact c1),yE] at hA
      rw[List.getElem?_append_right (by rw[hl1];exact c1),hl1] at hv2
      rcases Nat.lt_or_ge (k - first.length) oargs.length with c2|c2
      · rw[List.getElem?_append_left (by rw[hAl];exact c2)] at hA
        rw[List.getElem?_append_left (by rw[hl2];exact c2),List.getElem?_map] at hv2
        obtain⟨y,hy,rfl⟩:=Option.map_eq_some_iff.1 hv2
        have:=Yl hmm R1 (pl:=x0) hbor c.args.toList oargs ms As first.length hargs (fun k A x hA hx=>by
          have:=hv k A x hA hx
          rwa [show 1+first.length+k=first.length+1+k by omega] at this) _ A y hA hy
        rwa [show first.length+(k - first.length)=k by omega] at this
      · rw[List.getElem?_append_right (by rw[hAl];exact c2),hAl,uv] at hA
        rw[List.getElem?_append_right (by rw[hl2];exact c2),hl2] at hv2
        obtain⟨B,hB,rfl⟩:=Option.map_eq_some_iff.1 hA
        exact QD hmm R1.hrel ((h2 _ B v hB (by simpa using hv2)).pres P01) (.inl rfl) _)
  obtain⟨fn,hfn,hname,hnb⟩:=xS hcall.1
  have hrun:(execOp a.eval o).run P E.w= .ok (.enter g (us++(c.args.map a.eval++vs))) E.w:=by
    simp[execOp,ho,resolve,hc,hx,Deferred.ofValue,invoke,callFunc,hfn,hname,hnb]
  unfold Oper.wp
  rw[hrun,Oper.upon_enter]
  have hw:(E1.sub bo ln (ZF st1.h bo x0).length pb po pk).w=E.w:=hwE
  rw[hw] at hrun1
  refine hrun1.mono fun e w' ⟨v,r,h',E3,he,hw',H3,hr,P3,hle,hfl,hout⟩=>?_
  subst he
  subst hw'
  rw[hdst]
  generalize hM:(ZF st1.h bo x0).length=mm at*
  have h3:mm≤E3.n:=by rw[H3.num];exact hle
  have R4:=R1.after hnd hbo hmm P3 H3 hle fun hl=>(hfl hl).2
  have P4:zL L E (E1.out E3 bo mm):=P01.trans (OP R1.lim hmm h3 P3)
  have F4:zG N V (st1.after bo L mm h') d:=F.of (qN.trans ((ZM _ huse).trans (qv htake)))
  have hres:VRel (E1.out E3 bo mm) (some [9,1]) (r.ren (Zq bo mm st1.h.length)) v:=
    xw (p:=[3]) (q:=[9,1]) (r:=[]) R1.lim R1.num hbo hmm h3 P3 (fun b s hb=>zbx hb) (fun hl=>(hfl hl).1) hr
  have last:K ((st1.after bo L mm h').putT d (r.ren (Zq bo mm st1.h.length)))→next (a.put (some d) v) E3.w:=fun hk=>
    hK ((E1.out E3 bo mm).relab [9,1] [0,d]) _ v (OI R4 F4 hres) (P4.trans (zI (ZR _) (JX _ _) (Zx (by decide) _))) hk
  unfold zZ at hout
  split at hout
  · exact last hout
  · rename_i p sz cs htk
    split at hout
    · rename_i cs' hcs'
      obtain⟨hcl',hvp,hdead,hk⟩:=hout
      rcases hpl2 with h|⟨p',sz',cs0,len,cap,h30,h4,h5,hsz,hcl,hlc,hcm,rfl⟩
      · cases h
      · have e1:=congrArg Prod.fst (Option.some.inj h30)
        have e2:=congrArg (fun y=>y.2.1) (Option.some.inj h30)
        have e3:=congrArg (fun y=>y.2.2) (Option.some.inj h30)
        simp only[] at e1 e2 e3
        subst e1 e2 e3
        have hm1:bo.length<mm:=by rw[←hM];simp[ZF]
        obtain⟨hO,arr,T,f,hb,ha,hl,hf,hvv⟩:=H3.objs bo.length cs' hcs'
        obtain⟨x1,x2,x3⟩:=P3.ids.2 bo.length hm1
        have y1:E3.ρ bo.length=pb:=x1.trans (if_neg (Nat.lt_irrefl _))
        have y2:E3.β bo.length=po:=x2.trans (if_neg (Nat.lt_irrefl _))
        have y3:E3.κ bo.length=cap*sz:=x3.trans (if_neg (Nat.lt_irrefl _))
        rw[y1] at hO hb
        rw[y2,y3] at ha
        rw[y2] at hf
        have hown:VRel (E1.out E3 bo mm) (some [9,0]) (.own (some sz) (zb.renL (Zq bo mm st1.h.length) cs')) (.slice (some ⟨pb,po,none⟩) len cap):=by
          refine .own _ sz _ pb po len cap arr T f (gN (s:=[]) hm1 hO) hb ⟨hsz,by rw[zw,hcl',hcl]⟩ hlc hcm ha (fun k A hk=>?_) fun k A hk=>?_
          · obtain⟨B,hB,_⟩:=zo hk
            exact hf k B hB
          · obtain⟨B,hB,rfl⟩:=zo hk
            exact xw (p:=[1,bo.length]) (q:=[9,0]) R1.lim R1.num hbo hmm h3 P3 (fun b s hb=>gN hm1 hb) (fun hl=>ZN (QR (hfl hl).2 hcs') hB) (hvv k B hB)
        have hidlt:∀id r,p=1::id::r→id<st.h.length:=fun id r e=>by
          subst e
          cases r with
          |nil=>simp[zc.at] at h4
          | cons c r=>
            simp only[zc.at] at h4
            split at h4
            · rename_i hh;exact(List.getElem?_eq_some_iff.1 hh).1
            · cases h4
        have hgrow:st.h.length≤st1.h.length:=by rw[←R.num,←R1.num];exact P01.ids.1
        have hpv:zD (E1.out E3 bo mm) a.tmps p=some (.slice (some ⟨pb,po,none⟩) len cap):=by
          rw[OO R1 hmm P3 hvp (fun id r e=>Nat.lt_of_lt_of_le (hidlt id r e) hgrow) hdead]
          rw[OG hwE P01.ids (fun id r e=>by rw[R.num];exact hidlt id r e)]
          exact h5
        have hroot:∀i ks,p=0::i::ks→i∈V∨i∈(st1.after bo L mm h').ts.map (·.1):=fun i ks e=>by
          subst e
          rw[qN,ZM _ huse,qv htake]
          exact R.root_at h4 (by simp)
        have R5:=(R4.land p).fill (B:= .own (some sz) (zb.renL (Zq bo mm st1.h.length) cs')) rfl hdead hroot ((Xi rfl fun _=>⟨rfl,rfl⟩).trans hpv) (hown.land p)
        have hres5:VRel ((E1.out E3 bo mm).relab [9,0] p) (some [9,1]) (r.ren (Zq bo mm st1.h.length)) v:=hres.aside [9,0] p fun ℓ e=>by cases e;exact zaV (by decide)
        have F5:zG N V ((st1.after bo L mm h').setAt p (.own (some sz) (zb.renL (Zq bo mm st1.h.length) cs'))) d:=F4.of ja
        exact hK (((E1.out E3 bo mm).relab [9,0] p).relab [9,1] [0,d]) _ v (OI R5 F5 hres5) ((P4.trans (zI (ZR _) (ZS (zC h4)) (Zx (by decide) _))).trans (zI (ZR _) (JX _ _) (Zx (by decide) _))) hk
    · exact last hout
theorem zey (hT:JO P E)(R:zA E N V st a.tmps)(F:zG N V st d){c:Call}{fo:Operand}{of:zB}{oargs:List (zB×Bool)}(ho:o.op= .call c)(hc:c.callee= .value fo)(hdst:o.dst=some d)(hf:zj fo=some of)(hargs:c.args.toList.map zj=oargs.map fun y=>some y.1)
    {K:zc→Prop} {next:Act→World→Prop} {Q:Exit→Act→World→Prop} (h:yc P L st d of oargs K)
    (hK:∀E' st' v,zA E' N V st' (a.tmps.setIfInBounds d v)→zL L E E'→K st'→next (a.put (some d) v) E'.w):o.wp P a E.w next Q:=by
  unfold yc at h
  split at h
  · rename_i g first captured hev
    obtain⟨ms,bo,ln,pl,h⟩:=h
    obtain⟨x,po,hx1,hx2,_⟩:=zz R hf hev rfl
    have hx3:VRel E none (.fn (.func g) first captured) x:=by
      cases hx2 with
      |fn _ _ _ _ us vs hus hvs h1 h2=>exact .fn _ _ _ _ us vs hus hvs h1 h2
    exact zb4 hT R F ho hc hdst hargs hx1 hx3 h hK
  · exact h.elim
end
end Go.Ga

namespace Go.Ga
open Go
section
variable {L:List (List Nat)} {E:Env} {N:Nat} {V:List Nat} {st:zc} {a:Act} {P:Program} {o:Oper} {d:Nat} {t t' e:TypeId} {i:TypeInfo} {z:Value}
def Kq (st:zc)(d:Nat)(s x:zB)(sz bs:Nat)(zs:List Value):Option zc:=
 match st.ev s with
 | .sc u=>match st.dec x with
   |some n=>if J0 u=true∧0<n∧bs*n.toNat≤140737488355328∧n≤9223372036854775807 then some (st.putT d (.own (some sz) (zu zs n.toNat))) else none
   |none=>none
 |_=>none
theorem On {k:IntKind}(ht:P.underlying t=some (.slice e))(ht':P.underlying t'=some (.int k))(hi:P.info? e=some i)(hz:i.zero=some z)(hzs:z.cells.size=i.size)(hsz:0<i.size)(w:World)(kk:IntKind){n:Nat}(h0:0<n)(hb:i.bytes*n≤140737488355328)(h63:n≤9223372036854775807)(ty:TypeId):
    ∃c',0+n≤c'∧c'≤maxLen∧(Builtin.append_ #[t,t'] ty #[.slice none 0 0,.int kk (n:Int)]).run P w= .ok (.slice (some ⟨w.heap.size,0,none⟩) (0+n) c') (w.drew.alloc (.cells (([]:List Value).toArray++(Builtin.zeroCells z.cells n).toList.toArray++Builtin.zeroCells z.cells (c' - (0+n))) e)):=by
  rw[Nat.zero_add]
  refine⟨grownCap w n 0 e,?_,grownCap_le_maxLen w _ _ e (by simp[maxLen];omega),?_⟩
  · simp only[grownCap,Question.cut];omega
  · have hw:IntKind.i64.wrap (n:Int)=(n:Int):=IntWalk.i64_in _ (by omega)
    have h1:¬((n:Int)<0):=by omega
    have hb':(n:Int)*(i.bytes:Int)≤140737488355328:=by rw[←Int.natCast_mul,Nat.mul_comm];omega
    have h2:¬(281474976710656<(n:Int)*(i.bytes:Int)):=by omega
    have hn:¬(n≤0):=by omega
    have hn':¬(n=0):=by omega
    have h63':¬(9223372036854775807<(n:Int)):=by omega
    have hfit:=growslice_fits (need:=n) (old:=0) (bytes:=i.bytes) (by omega) (by rw[Nat.mul_comm];exact hb)
    have h48':¬(281474976710656<Builtin.nextslicecap n 0*i.bytes):=by omega
    have hs0:¬(n*i.size=0):=by have:=Nat.mul_pos h0 hsz;omega
    simp[Builtin.append_,run_underlying ht,run_underlying ht',sizeOf,typeInfo,zeroValue,hi,hz,asInt,asIntOf,hw,h1,h2,hn,hn',hs0,h63',h48',Question.forced,newRow,grownCap,Builtin.firstCells]
theorem zeA (R:zA E N V st a.tmps)(F:zG N V st d){s x:Operand}{os ox:zB}{k:IntKind}(ho:o.op= .call {callee:= .builtin .append,args:= #[s,x],argTypes:= #[t,t']})(ht:P.underlying t=some (.slice e))(ht':P.underlying t'=some (.int k))(hi:P.info? e=some i)(hz:i.zero=some z)(hzs:z.cells.size=i.size)(hsz:0<i.size)
    (hs:zj s=some os) (hx:zj x=some ox) {st':zc} (h:Kq st d os ox i.size i.bytes z.cells.toList=some st'):qQ L E N V st' a P o d:=by
  unfold Kq at h
  split at h
  case h_2=>cases h
  rename_i u hu
  split at h
  case h_2=>cases h
  rename_i n hn
  split at h
  case isFalse=>cases h
  rename_i hc
  obtain⟨h1,h2,h3,h4⟩:=hc
  cases h
  obtain rfl:=qJ h1
  have hnil:a.eval s= .slice none 0 0:=ZJ R hs hu
  obtain⟨kk,hxe⟩:=J7 R hx hn
  obtain⟨c',hc1,hc2,hr⟩:=On (P:=P) ht ht' hi hz hzs hsz E.w kk (n:=n.toNat) (by omega) h3 (by omega) o.type
  rw[show((n.toNat:Nat):Int)=n by omega] at hr
  have hzl:z.cells.toList.length=i.size:=by rw[Array.length_toList];exact hzs
  have hlen:=jp z.cells.toList n.toNat
  refine YC (L:=L) (P:=P) (o:=o) (e:=e) (z:=z) R F (olds:=[]) (news:=(Builtin.zeroCells z.cells n.toNat).toList) (cs:=[]) (xs:=zu z.cells.toList n.toNat) rfl ?_ hsz (n:=0) (m:=n.toNat) (c':=c') (by simp) ?_ hzs hc1 hc2 (fun k A u hA=>by simp at hA) (fun k A u hA hu=>?_) ?_
  · rw[Array.length_toList,size_zeroCells,hlen,hzl,hzs]
  · rw[hlen,hzl]
  · obtain⟨hlt,hz',rfl⟩:=ZZ hA
    have:u=z.cells.toList[k%z.cells.toList.length]:=by
      simp[Builtin.zeroCells] at hu
      obtain⟨j,hj,rfl⟩:=hu
      obtain⟨hj1,hj2⟩:=List.getElem?_eq_some_iff.1 hj
      obtain rfl:k=j:=by simpa using hj2
      have:k%z.cells.size<z.cells.size:=by simpa using hz'
      simp[this]
    rw[this]
    exact .sc _ _
  · have hrun:(execOp a.eval o).run P E.w=((Builtin.append_ #[t,t'] o.type #[a.eval s,a.eval x]).run P E.w).andThen (fun v w=> .ok (.value v) w):=by
      simp[execOp,ho,resolve,invoke,builtin]
    rw[hrun,hnil,hxe,hr];rfl
end
end Go.Ga

namespace Go.Ga
open Go
section
variable {L:List (List Nat)} {E:Env} {N:Nat} {V:List Nat} {st:zc} {a:Act} {P:Program} {o:Oper} {d:Nat}
def Env.obj (E:Env)(b:Nat)(x:Obj):Env:={E with w:={E.w with heap:=E.w.heap.setIfInBounds b x}}
theorem QK {b b':Nat}{x:Obj}(h:b'≠b):(E.obj b x).w.heap[b']?=E.w.heap[b']?:=by
 show(E.w.heap.setIfInBounds b x)[b']?=_
 rw[Array.getElem?_setIfInBounds_ne (fun e=>h e.symm)]
theorem Wh {b:Nat}{x:Obj}:(E.obj b x).w.heap.size=E.w.heap.size:=by simp[Env.obj]
theorem OT {b:Nat}{x:Obj}(h:b<E.w.heap.size):(E.obj b x).w.heap[b]?=some x:=by
 show(E.w.heap.setIfInBounds b x)[b]?=_
 simp[h]
theorem Xb {b:Nat}{x:Obj}{p:List Nat}(hO:E.O b=some p):Zh p E (E.obj b x) where
 size:=by rw[Wh];exact Nat.le_refl _
 ids:=⟨Nat.le_refl _,fun _ _=>⟨rfl,rfl,rfl⟩⟩
 none_ b' hb' _:=⟨hb',QK fun e=>by rw[e,hO] at hb';cases hb'⟩
 else_ b' q hq hp:=⟨hq,QK fun e=>by rw[e,hO] at hq;cases hq;exact hp (List.prefix_refl _)⟩
theorem zbB {b:Nat}{x:Obj}(hl:∀b q,E.O b=some q→b<E.w.heap.size):∀b' q,(E.obj b x).O b'=some q→b'<(E.obj b x).w.heap.size:=by
 intro b' q h
 rw[Wh]
 exact hl b' q h
theorem OK {b:Nat}{x:Obj}{p:List Nat}(hO:E.O b=some p)(hm:QZ p)(hw:¬Wat L p):zL L E (E.obj b x) where
 size:=by rw[Wh];exact Nat.le_refl _
 os:=rfl
 tape:=rfl
 output:=rfl
 old:=(Xb hO).none_
 far b' r hb':=⟨hb',QK fun e=>by rw[e,hO] at hb';exact qd hm (List.prefix_refl _) r (Option.some.inj hb')⟩
 farB _ _ h:=h
 ids:=⟨Nat.le_refl _,fun _ _=>⟨rfl,rfl,rfl⟩⟩
 keep b' r hr hb' _:=⟨.inl hb',QK fun e=>by rw[e,hO] at hb';cases hb';exact hw hr⟩
theorem uV (kd:IntKind)(n:Int):∀(es:List MapEntry) (ks:List Int) (i:Nat),es.map (fun e=>(e.key,e.val))=mpE ks→
    (n∈ks→∃j,Instr.findNow (.int kd) (.int .i64 n) es i=some (some (i+j,.bool true))∧j<es.length)∧(n∉ks→Instr.findNow (.int kd) (.int .i64 n) es i=some none)
  | [],ks,i,h=>by
    have:ks=[]:=by cases ks with
      |nil=>rfl
      |cons k ks=>simp[mpE] at h
    subst this
    exact⟨fun h=>(by cases h),fun _=>rfl⟩
  |e::es,[],i,h=>by simp[mpE] at h
  | e ::es,k::ks,i,h=>by
    simp only[mpE,List.map_cons,List.cons.injEq,Prod.mk.injEq] at h
    obtain⟨⟨h1,h2⟩,h3⟩:=h
    replace h3:es.map (fun e=>(e.key,e.val))=mpE ks:=h3
    have ih:=uV kd n es ks (i+1) h3
    have hs:Instr.sameNow (.int kd) (.int .i64 n) e.key=some (n==k):=by rw[h1];simp[Instr.sameNow]
    by_cases hn:n=k
    · subst hn
      rw[beq_self_eq_true] at hs
      refine⟨fun _=>⟨0,?_,by simp⟩,fun h=>absurd (List.mem_cons_self ..) h⟩
      simp only[Instr.findNow,hs,h2,Nat.add_zero]
    · have hb:(n==k)=false:=by simp[hn]
      rw[hb] at hs
      refine⟨fun hm=>?_,fun hm=>?_⟩
      · rcases List.mem_cons.1 hm with h|h
        · exact absurd h hn
        · obtain⟨j,h4,h5⟩:=ih.1 h
          refine⟨j+1,?_,by simp;omega⟩
          simp only[Instr.findNow,hs,h4]
          congr 3;omega
      · simp only[Instr.findNow,hs]
        exact ih.2 fun h=>hm (List.mem_cons_of_mem _ h)
def Km (st:zc)(d:Nat):Option zc:=some (st.putT d (.mp []))
theorem zev (R:zA E N V st a.tmps)(F:zG N V st d){t:TypeId}(ho:o.op= .makeMap t none){st':zc}(h:Km st d=some st'):qQ L E N V st' a P o d:=by
 cases h
 have hrun:(execOp a.eval o).run P E.w= .ok (.value (.map (some E.w.heap.size))) (E.w.alloc (.map #[] 0)):=by
  simp[execOp,ho,Instr.makeMap]
 have hp:Zh [9,0] E (E.fresh (.map #[] 0) [0,d]):=by
  have U:=Jb R.lim (.map #[] 0) [0,d]
  refine⟨U.size,U.ids,U.none_,fun b q hb _=>⟨by simp[Env.fresh,Nat.ne_of_lt (R.lim b q hb),hb],j4 (R.lim b q hb)⟩⟩
 have R1:=R.flight hp (QM R.lim _ _) rfl
 refine⟨_,E.fresh (.map #[] 0) [0,d],hrun,R1.putT_val F.lt F.v F.t ?_,qC R.lim _ (JX d [])⟩
 refine .mp [0,d] [] E.w.heap.size #[] 0 J2 ?_ rfl
 show(E.w.heap.push _)[E.w.heap.size]?=_
 simp
def Ko (st:zc)(d:Nat)(x k:zB):Option zc:=
 match st.ev x,st.ev k with
 | .at_ p,.sc (.int .i64 n)=>match st.at p with
   |some (.mp ks)=>some (st.putT d (.sc (.bool (decide (n∈ks)))))
   |_=>none
 |_,_=>none
theorem YF {kt:TypeId}{kd:IntKind}(hk:P.underlying kt=some (.int kd))(e:Bool)(v:Value)(w:World):(Instr.checkKey e 10000 kt v).run P w= .ok () w:=by
 show(Instr.checkKey e (9999+1) kt v).run P w=_
 unfold Instr.checkKey
 generalize (9999:Nat)=m
 simp[run_underlying hk]
theorem zex (R:zA E N V st a.tmps)(F:zG N V st d){t kt et:TypeId}{kd:IntKind}{inf:TypeInfo}{x k:Operand}{ox ok:zB}(ho:o.op= .lookup t x k false)(ht:P.underlying t=some (.map kt et))(hk:P.underlying kt=some (.int kd))
    (hi:P.info? et=some inf) (hz:inf.zero=some (.bool false)) (hx:zj x=some ox) (hok:zj k=some ok) {st':zc} (h:Ko st d ox ok=some st'):qQ L E N V st' a P o d:=by
  unfold Ko at h
  split at h
  · rename_i p n hA hK
    split at h
    · rename_i ks hB
      cases h
      obtain⟨B,v,h1,h2,h3,h4,h5⟩:=ya R hx hA
      rw[hB] at h1
      cases h1
      have hkv:a.eval k= .int .i64 n:=ZJ R hok hK
      cases h5 with
      | mp _ _ b es c hO hb he=>
        have hf:=uV kd n es.toList ks 0 he
        have hrun:(execOp a.eval o).run P E.w= .ok (.value (.bool (decide (n∈ks)))) E.w:=by
          by_cases hm:n∈ks
          · obtain⟨j,hj,_⟩:=hf.1 hm
            simp[execOp,ho,h4,hkv,Instr.lookup,run_underlying ht,run_underlying hk,getObj,Sem.run,hb,YF hk,Instr.findKey,hj,hm]
          · have hj:=hf.2 hm
            simp[execOp,ho,h4,hkv,Instr.lookup,run_underlying ht,run_underlying hk,getObj,Sem.run,hb,YF hk,Instr.findKey,hj,hm,zeroValue,typeInfo,hi,hz]
        exact⟨_,E,hrun,Zz R F _,zL.refl E⟩
    · cases h
  · cases h
def Kl (st:zc)(x k v:zB):Option zc:=
 match st.ev x,st.ev k,st.ev v with
 | .at_ p,.sc (.int .i64 n),.sc (.bool true)=>match st.at p with
   |some (.mp ks)=>bif decide (n∈ks) then none else some ((st.kill (zb.under p false)).setAt p (.mp (ks++[n])))
   |_=>none
 |_,_,_=>none
def zc.mputQ (L:List (List Nat))(st:zc)(x:zB):Bool:=
 match st.ev x with
 | .at_ p=> !L.contains p
 |_=>true
theorem pi {x:zB}:st.mputQ [] x=true:=by
 unfold zc.mputQ
 split<;>rfl
theorem zaY (R:zA E N V st a.tmps){t kt et:TypeId}{kd:IntKind}{x k v:Operand}{ox ok ov:zB}(ho:o.op= .mapUpdate t x k v∨o.op= .insert t x k v)(ht:P.underlying t=some (.map kt et))(hk:P.underlying kt=some (.int kd))
    (hx:zj x=some ox) (hok:zj k=some ok) (hv:zj v=some ov) {st':zc} (h:Kl st ox ok ov=some st') (hq:st.mputQ L ox=true):zeB L E N V st' a P o:=by
  unfold Kl at h
  split at h
  · rename_i p n hA hK hV
    split at h
    · rename_i ks hB
      rcases zV h with⟨_,h⟩|⟨hnm,h⟩
      · cases h
      have hm:n∉ks:=of_decide_eq_false hnm
      cases h
      unfold zc.mputQ at hq
      rw[hA] at hq
      simp only[] at hq
      obtain⟨B,u,h1,h2,h3,h4,h5⟩:=ya R hx hA
      rw[hB] at h1
      cases h1
      have hkv:a.eval k= .int .i64 n:=ZJ R hok hK
      have hvv:a.eval v= .bool true:=ZJ R hv hV
      have hpl:=zC hB
      cases h5 with
      | mp _ _ b es c hO hb he=>
        have hlt:=R.lim _ _ hO
        have hf:=uV kd n es.toList ks 0 he
        have turn:∀(x':Obj) (ks':List Int) (es':Array MapEntry) (c':Nat),x'= .map es' c'→es'.toList.map (fun e=>(e.key,e.val))=mpE ks'→(execOp a.eval o).run P E.w= .ok .skip (E.obj b x').w→
            zeB L E N V ((st.kill (zb.under p false)).setAt p (.mp ks')) a P o:=fun x' ks' es' c' hx' he' hrun=>by
          subst hx'
          refine⟨E.obj b (.map es' c'),hrun,R.turn (B':= .mp ks') (keep:=false) hB rfl (fun e=>by cases e) (Xb hO) (zbB R.lim) rfl h3 ?_,OK hO (ZS hpl) (JE hq)⟩
          exact .mp p ks' b es' c' hO (OT hlt) he'
        have hj:=hf.2 hm
        refine turn (.map (es.push {key:= .int .i64 n,val:= .bool true,born:=c}) (c+1)) (ks++[n]) _ _ rfl (by simp[he,mpE]) ?_
        rcases ho with ho|ho<;>
          simp[execOp,ho,h4,hkv,hvv,Instr.mapUpdate,run_underlying ht,run_underlying hk,getObj,setObj,Sem.run,hb,YF hk,Instr.findKey,hj,Env.obj]
    · cases h
  · cases h
end
end Go.Ga

namespace Go.Ga
open Go
section
variable {L:List (List Nat)} {E:Env} {N:Nat} {V:List Nat} {st:zc} {a:Act} {P:Program} {o:Oper} {d:Nat} {t t' e:TypeId} {i:TypeInfo} {z:Value}
def za2 (st:zc)(d:Nat)(s x:zB)(sz:Nat):Option zc:=
 match st.evA s with
 | .sl id off len s'=>match st.h[id]? with
   | some (some cs)=>match st.given sz (st.evA x) with
     |some xs=>if s'=sz∧off+min (xs.length / sz) len*sz≤cs.length∧zb.copyableL xs=true∧zb.cellOkL xs=true then some ((st.storeObj id (zT cs off (xs.take (min (xs.length / sz) len*sz)))).putT d (.sc (.int .i64 ((min (xs.length / sz) len:Nat):Int)))) else none
     |none=>none
   |_=>none
 | .at_ p=>match st.at p with
   | some (.own (some _) [])=>match st.given sz (st.evA x) with
     |some _=>some (st.putT d (.sc (.int .i64 0)))
     |none=>none
   |_=>none
 |_=>none
def zc.cpyQ (L:List (List Nat))(st:zc)(s:zB):Bool:=
 match st.evA s with
 | .sl id _ _ _=> !L.contains [1,id]
 |_=>true
theorem zau {st:zc}{s:zB}:st.cpyQ [] s=true:=by
 unfold zc.cpyQ
 split<;>rfl
theorem Om (ht:P.underlying t=some (.slice e))(hi:P.info? e=some i){w:World}{b k len cap m:Nat}{arr:Array Value}{T:TypeId}(hb:w.heap[b]?=some (.cells arr T (0,0))){v:Value}{news:List Value}(h:JM w i.size m v news)
    (hfit:k+(news.take (min m len*i.size)).length≤arr.size) (h1:∀u∈news,u.oneCell'=true) (ty:TypeId):
    (Builtin.copy_ #[t,t'] ty #[.slice (some ⟨b,k,none⟩) len cap,v]).run P w= .ok (.int .i64 ((min m len:Nat):Int)) (w.setRow b (arr.toList.take k++news.take (min m len*i.size)++arr.toList.drop (k+(news.take (min m len*i.size)).length)).toArray):=by
  have hst:=run_storeCells_at P b k T (news.take (min m len*i.size)) 0 arr w hb (by simpa using hfit) (fun u hu=>h1 u (List.mem_of_mem_take hu))
  simp only[Nat.add_zero] at hst
  have hnm:Nat.min m len=min m len:=rfl
  obtain⟨hl,h|⟨b',k',c,rfl,hc⟩⟩:=h
  · obtain⟨p,rfl,rfl⟩:=h
    have hn0:news=[]:=by simpa using hl
    subst hn0
    have h00:min 0 len=0:=Nat.zero_min len
    have hf:(Builtin.firstCells i.size (min 0 len) (.slice p 0 0)).run P w= .ok #[] w:=by
      rw[h00]
      cases p with
      |none=>simp[Builtin.firstCells]
      |some a=>exact run_firstCells_some w i.size 0 a 0 0 [] (by simp) (fun j u hj=>by simp at hj)
    simp[h00] at hst hf
    simp[Builtin.copy_,run_underlying ht,sizeOf,typeInfo,hi,Builtin.lenOf,hf,hst,goInt,h00]
  · have hlen:(news.take (min m len*i.size)).length=min m len*i.size:=by
      rw[List.length_take,hl]
      exact Nat.min_eq_left (Nat.mul_le_mul_right _ (Nat.min_le_left _ _))
    have hf:=run_firstCells_some (P:=P) w i.size (min m len) ⟨b',k',none⟩ m c (news.take (min m len*i.size)) hlen (fun j u hj=>by
      rw[Addr.add_lit]
      refine hc j u ?_
      rw[List.getElem?_take] at hj
      split at hj
      · exact hj
      · cases hj)
    simp[Builtin.copy_,run_underlying ht,sizeOf,typeInfo,hi,Builtin.lenOf,hnm,hf,hst,goInt]
theorem GM (ht:P.underlying t=some (.slice e))(hi:P.info? e=some i){w:World}{ba:Option Addr}{cap m:Nat}{v:Value}{news:List Value}(h:JM w i.size m v news)(ty:TypeId):
    (Builtin.copy_ #[t,t'] ty #[.slice ba 0 cap,v]).run P w= .ok (.int .i64 0) w:=by
  have h00:min m 0=0:=Nat.min_zero m
  have hnm:Nat.min m 0=0:=Nat.min_zero m
  have hf:∃p c,v= .slice p m c∧(Builtin.firstCells i.size 0 v).run P w= .ok #[] w:=by
    obtain⟨hl,h|⟨b',k',c,rfl,hc⟩⟩:=h
    · obtain⟨p,rfl,rfl⟩:=h
      refine⟨p,0,rfl,?_⟩
      cases p with
      |none=>simp[Builtin.firstCells]
      |some a=>exact run_firstCells_some w i.size 0 a 0 0 [] (by simp) (fun j u hj=>by simp at hj)
    · exact⟨_,c,rfl,run_firstCells_some w i.size 0 _ m c [] (by simp) (fun j u hj=>by simp at hj)⟩
  obtain⟨p,c,rfl,hf⟩:=hf
  cases ba with
  |none=>simp[Builtin.copy_,run_underlying ht,sizeOf,typeInfo,hi,Builtin.lenOf,hnm,hf,goInt]
  |some a=>simp[Builtin.copy_,run_underlying ht,sizeOf,typeInfo,hi,Builtin.lenOf,hnm,hf,goInt,storeCells]
theorem ze3 (R:zA E N V st a.tmps)(F:zG N V st d){s x:Operand}{os ox:zB}(ho:o.op= .call {callee:= .builtin .copy,args:= #[s,x],argTypes:= #[t,t']})(ht:P.underlying t=some (.slice e))(hi:P.info? e=some i)(hsz:0<i.size)
    (hs:zj s=some os) (hx:zj x=some ox) {st':zc} (h:za2 st d os ox i.size=some st') (hq:st.cpyQ L os=true):qQ L E N V st' a P o d:=by
  unfold za2 at h
  unfold zc.cpyQ at hq
  have hXna:∀xs,st.given i.size (st.evA ox)=some xs→∃X,st.evA ox=X∧X.isAlias=false:=fun xs hgx=>by
    refine⟨_,rfl,?_⟩
    generalize st.evA ox=X at hgx
    cases X<;>first|rfl|(simp only[zc.given] at hgx;cases hgx)
  have hrun:(execOp a.eval o).run P E.w=((Builtin.copy_ #[t,t'] o.type #[a.eval s,a.eval x]).run P E.w).andThen (fun v w=> .ok (.value v) w):=by
    simp[execOp,ho,resolve,invoke,builtin]
  split at h
  case h_3=>cases h
  case h_2=>
    rename_i p hev
    split at h
    case h_2=>cases h
    rename_i s' hp
    split at h
    case h_2=>cases h
    rename_i xs hgx
    cases h
    obtain⟨B,v,h1,h2,h3,h4,h5⟩:=YE R hs hev
    rw[hp] at h1
    cases h1
    obtain⟨X,hX,hna⟩:=hXna _ hgx
    rw[hX] at hgx
    obtain⟨v2,po',k1,k2,_⟩:=zz R hx (Zi hX hna) hna
    obtain⟨m,news,hHold,hnl,hxs⟩:=Qn R hsz k2 hgx
    have h0:∃ba cap,v= .slice ba 0 cap:=by
      cases h5 with
      | own _ _ _ b k len cap arr T f hO hb hl hc hm ha hf hh=>
        have hz:len=0:=by
          have:=hl.2
          rcases Nat.mul_eq_zero.1 this.symm with h|h
          · exact h
          · have:=hl.1;omega
        subst hz
        exact⟨_,_,rfl⟩
      |ownNil=>exact⟨_,_,rfl⟩
    obtain⟨ba,cap,rfl⟩:=h0
    refine⟨.int .i64 0,E,?_,R.putT_val F.lt F.v F.t (.sc _ _),zL.refl E⟩
    rw[hrun,h4,k1,GM ht hi hHold]
    rfl
  rename_i id off len s' hsv
  rw[hsv] at hq
  simp only[] at hq
  split at h
  case h_2=>cases h
  rename_i cs hcs
  split at h
  case h_2=>cases h
  rename_i xs hgx
  split at h
  case isFalse=>cases h
  rename_i hc
  obtain⟨rfl,hle,hcp,hok⟩:=hc
  cases h
  obtain⟨y,po,h1,h2,_⟩:=zz R hs (Zi hsv rfl) rfl
  obtain⟨X,hX,hna⟩:=hXna _ hgx
  rw[hX] at hgx
  obtain⟨v,po',k1,k2,_⟩:=zz R hx (Zi hX hna) hna
  obtain⟨m,news,hHold,hnl,hxs⟩:=Qn R hsz k2 hgx
  have hxm:xs.length=m*i.size:=hnl▸hHold.1
  have hdiv:xs.length / i.size=m:=by rw[hxm,Nat.mul_div_cancel _ hsz]
  rw[hdiv] at hle⊢
  have hone:∀u∈news,u.oneCell'=true:=by
    intro u hu
    obtain⟨j,hj⟩:=List.mem_iff_getElem?.1 hu
    have hlt:j<xs.length:=by rw[←hnl];exact(List.getElem?_eq_some_iff.1 hj).1
    exact(hxs j _ u (List.getElem?_eq_getElem hlt) hj none).oneCell (J3 hok (List.getElem?_eq_getElem hlt))
  cases h2 with
  | sl _ _ _ _ cap _ hid hcap hm hκ=>
    obtain⟨hO,arr,T,f,hb,ha,hl,hf,hold⟩:=R.objs id cs hcs
    have hmn:min m len*i.size≤m*i.size:=Nat.mul_le_mul_right _ (Nat.min_le_left _ _)
    have hxl:(xs.take (min m len*i.size)).length=min m len*i.size:=by rw[List.length_take,hxm];exact Nat.min_eq_left hmn
    have hnl2:(news.take (min m len*i.size)).length=min m len*i.size:=by rw[List.length_take,hnl,hxm];exact Nat.min_eq_left hmn
    have hle':off+(xs.take (min m len*i.size)).length≤cs.length:=by rw[hxl];exact hle
    have hfit:E.β id+off+(news.take (min m len*i.size)).length≤arr.size:=by rw[hnl2];omega
    have hr:=Om (P:=P) (t':=t') ht hi hb (len:=len) (cap:=cap) hHold hfit hone o.type
    let arr':=(arr.toList.take (E.β id+off)++news.take (min m len*i.size)++arr.toList.drop (E.β id+off+(news.take (min m len*i.size)).length)).toArray
    have hs':arr'.size=arr.size:=Qg hfit
    have hOR:qO (E.row (E.ρ id) arr') id (zT cs off (xs.take (min m len*i.size))):=by
      refine⟨hO,arr',T,fun j=>arr'.getD (E.β id+j) undef,setRow_heap _ _ _ _ _ _ hb,by rw[hs'];exact ha,by rw[Zm hle'];exact hl,fun j B hj=>?_,fun j B hj=>?_⟩
      · have hlt:j<cs.length:=by rw[←Zm hle'];exact(List.getElem?_eq_some_iff.1 hj).1
        have:E.β id+j<arr'.size:=by rw[hs'];omega
        show arr'[E.β id+j]?=some (arr'.getD (E.β id+j) undef)
        simp[Array.getD,this]
      · have hlt:j<cs.length:=by rw[←Zm hle'];exact(List.getElem?_eq_some_iff.1 hj).1
        have hlt2:E.β id+j<arr'.size:=by rw[hs'];omega
        have hg:=yO (arr:=arr) (vs:=news.take (min m len*i.size)) hfit (E.β id+j)
        have hgd:∀u,arr'[E.β id+j]?=some u→arr'.getD (E.β id+j) undef=u:=fun u hu=>by simp[Array.getD,hlt2,(Array.getElem?_eq_some_iff.1 hu).2]
        show VRel (E.row (E.ρ id) arr') (some ([1,id]++[j])) B (arr'.getD (E.β id+j) undef)
        rw[Jo hle'] at hj
        split at hj
        · rename_i hjk
          rw[hxl] at hjk
          rw[if_pos (by rw[hnl2];omega)] at hg
          have hlt3:j - off<(news.take (min m len*i.size)).length:=by rw[hnl2];omega
          rw[show E.β id+j - (E.β id+off)=j - off by omega,List.getElem?_eq_getElem hlt3] at hg
          rw[hgd _ hg]
          have hj':xs[j - off]?=some B:=by
            rw[List.getElem?_take,if_pos (by omega)] at hj
            exact hj
          have hn':news[j - off]?=some ((news.take (min m len*i.size))[j - off]):=by
            have:=List.getElem?_eq_getElem hlt3
            rw[List.getElem?_take,if_pos (by omega)] at this
            exact this
          have:=(hxs _ B _ hj' hn' none).copy (some ([1,id]++[j])) (zP hcp hj')
          exact this.rowKeep hO
        · rename_i hjk
          rw[hxl] at hjk
          rw[if_neg (by rw[hnl2];omega)] at hg
          have hw:=hf j B hj
          rw[hgd _ (hg.trans hw)]
          exact(hold j B hj).rowKeep hO
    have R4:=R.obj hcs (Jv (arr:=arr') hO) (yT R.lim) rfl hOR
    have F4:zG N V (st.storeObj id (zT cs off (xs.take (min m len*i.size)))) d:=F.of (by simp only[zc.storeObj];exact Zy)
    refine⟨.int .i64 ((min m len:Nat):Int),E.row (E.ρ id) arr',?_,R4.putT_val F4.lt F4.v F4.t (.sc _ _),Qi hO (Wm _) (JE hq)⟩
    rw[hrun,h1,k1,hr]
    rfl
end
end Go.Ga

namespace Go.Ga
open Go
def ZG (l:List UInt8):List zb:=l.map fun b=> .sc (.int .u8 (b.toNat:Int))
theorem zU (l:List UInt8):(ZG l).length=l.length:=by simp[ZG]
theorem wI :∀l:List UInt8,Ku (ZG l)=some l
 |[]=>rfl
 | b::l=>by
   have h:((b.toNat:Nat):Int)<256:=by have:=b.toNat_lt;omega
   have e:(((b.toNat:Nat):Int)).toNat=b.toNat:=by omega
   show(if 0≤((b.toNat:Nat):Int)∧((b.toNat:Nat):Int)<256 then(Ku (ZG l)).map (UInt8.ofNat (((b.toNat:Nat):Int)).toNat:: ·) else none)=_
   rw[if_pos ⟨by omega,h⟩,wI l,e]
   simp
theorem uy :∀{cs:List zb} {l:List UInt8},Ku cs=some l→l.length=cs.length∧∀j (hj:j<l.length),cs[j]?=some (.sc (.int .u8 (l[j].toNat:Int)))
 |[],l,h=>by cases h;exact⟨rfl,fun j hj=>by simp at hj⟩
 | A :: r, l,h=>by
   unfold Ku at h
   split at h
   · rename_i e
     cases e
   · rename_i n r' e
     cases e
     split at h
     · rename_i hn
       cases hr:Ku r with
       |none=>rw[hr] at h;cases h
       | some l'=>
         rw[hr] at h
         cases h
         obtain⟨k1,k2⟩:=uy hr
         refine⟨by simp[k1],fun j hj=>?_⟩
         cases j with
         | zero=>
           have:(UInt8.ofNat n.toNat).toNat=n.toNat:=by simp;omega
           show some _=some (zb.sc (.int .u8 ((UInt8.ofNat n.toNat).toNat:Int)))
           rw[this,Int.toNat_of_nonneg hn.1]
         |succ j=>simpa using k2 j (by simpa using hj)
     · cases h
   · cases h
section
variable {L Ls:List (List Nat)} {E:Env} {N:Nat} {V:List Nat} {st:zc} {a:Act} {P:Program} {o:Oper} {d:Nat} {t t' e:TypeId} {x:Operand} {ox:zB} {A:zb}
theorem uo (dflt:Nat)(y:Option zB):st.bnd dflt y=st.bound dflt y:=by
 cases y with
 |none=>rfl
 |some y=>rfl
theorem Ot (R:zA E N V st a.tmps)(F:zG N V st d){lo hi:Option Operand}{olo ohi:Option zB}(ho:o.op= .slice t x lo hi none)(hu:P.underlying t=some .string)
    (hx:zj x=some ox) (hlo:QC lo olo) (hhi:QC hi ohi) (h:jU st (.slc d ox olo ohi 0)=some A):jB Ls E N V st a P o d A:=by
  simp only[jU] at h
  split at h
  · rename_i s hb
    split at h
    · rename_i l m h1 h2
      split at h
      · rename_i hc
        cases h
        rw[uo] at h1 h2
        refine .pure (fun w=>?_) (Zz R F _)
        have hrb:=jc (P:=P) R hlo hhi h1 h2 hc.1 hc.2 false w
        simp[execOp,ho,Instr.sliceAt,Instr.slice,ZJ R hx hb,run_underlying hu,hrb]
      · cases h
    · cases h
  · cases h
theorem Ou (R : zA E N V st a.tmps)(F:zG N V st d){n:Nat}{inf:TypeInfo}{lo:Option Operand}{olo:Option zB}(ho:o.op= .slice t x lo none none)(hu:P.underlying t=some (.array n e))(hi:P.info? e=some inf)(hsz:inf.size≠0)
    (hx:zj x=some ox) (hlo:QC lo olo) (h:jU st (.slc d ox olo (some (.c (.int .i64 (n:Int)))) inf.size)=some A):jB Ls E N V st a P o d A:=by
  cases hs:inf.size with
  |zero=>exact absurd hs hsz
  | succ k=>
    rw[hs] at h
    simp only[jU] at h
    split at h
    · rename_i cs hb
      split at h
      · rename_i l m h1 h2
        have hm:m=n:=by
          simp[zc.bnd,zc.ev,zb.int?] at h2
          omega
        subst hm
        split at h
        · rename_i hc
          cases h
          rw[uo] at h1
          obtain⟨v,po,k1,k2,_⟩:=zz R hx (Zi hb rfl) rfl
          cases k2 with
          | ia _ _ b p f hO hbb hf hv=>
            have hrb:∀w,(Instr.sliceBounds false m m (lo.map a.eval) none none).run P w= .ok (l,m,m) w:=fun w=>
              jc (P:=P) R (hi:=none) (ohi:=none) hlo trivial h1 rfl hc.1 (Nat.le_refl m) false w
            have hlen:((cs.drop (l*(k+1))).take ((m - l)*(k+1))).length=(m - l)*(k+1):=by
              have:=hc.2
              rw[List.length_take,List.length_drop]
              have:(m - l)*(k+1)=m*(k+1) - l*(k+1):=Nat.sub_mul ..
              omega
            refine .pure (v:= .slice (some ⟨b,if m=l then p else p+l*(k+1),none⟩) (m - l) (m - l)) (fun w=>?_) ?_
            · by_cases e:m=l
              · subst e
                simp[execOp,ho,Instr.sliceAt,Instr.sureAddr,k1,run_underlying hu,hrb,sizeOf,typeInfo,hi,hs]
              · simp[execOp,ho,Instr.sliceAt,Instr.sureAddr,k1,run_underlying hu,hrb,sizeOf,typeInfo,hi,hs,e,Addr.add_lit]
            · refine R.putT_val F.lt F.v F.t (.imm _ (k+1) _ b _ (m - l) (m - l) (fun j=>f (l*(k+1)+j)) hO hbb ⟨Nat.succ_pos k,hlen⟩ (Nat.le_refl _) (fun j A hj=>?_) fun j A hj=>?_)
              · have hj1:j<(m - l)*(k+1):=by rw[←hlen];exact(List.getElem?_eq_some_iff.1 hj).1
                have hj2:cs[l*(k+1)+j]?=some A:=by
                  rw[List.getElem?_take_of_lt hj1,List.getElem?_drop] at hj
                  exact hj
                have hne:¬m=l:=fun e=>by rw[e] at hj1;simp at hj1
                rw[if_neg hne,Nat.add_assoc]
                exact hf _ A hj2
              · have hj1:j<(m - l)*(k+1):=by rw[←hlen];exact(List.getElem?_eq_some_iff.1 hj).1
                rw[List.getElem?_take_of_lt hj1,List.getElem?_drop] at hj
                exact hv _ A hj
        · cases h
      · cases h
    · cases h
theorem zce (R:zA E N V st a.tmps)(F:zG N V st d)(ho:o.op= .convert t t' x)(hu:P.underlying t=some (.slice e))(he:P.underlying e=some (.int .u8))(hu':P.underlying t'=some .string)
    (hx:zj x=some ox) (h:jU st (.box d ox)=some A):jB (JC st (.box d ox)) E N V st a P o d A:=by
  simp only[jU] at h
  split at h
  · rename_i cs hb
    cases hl:Ku cs with
    |none=>rw[hl] at h;cases h
    | some l=>
      rw[hl] at h
      cases h
      obtain⟨h1,h2⟩:=uy hl
      obtain⟨v,po,k1,k2,_⟩:=zz R hx (Zi hb rfl) rfl
      cases k2 with
      | imm _ _ _ b p len cap f hO hbb hlen hc hf hv=>
        have hll:len=l.length:=by have:=hlen.2;omega
        subst hll
        have hfv:∀j (hj:j<l.length),f j= .int .u8 (l[j].toNat:Int):=fun j hj=>by
          have:=hv j _ (h2 j hj)
          generalize f j=u at this
          cases this;rfl
        have hcell:∀j,j<l.length→E.w.cell? ⟨b,p+j,none⟩=some (f j):=fun j hj=>hf j _ (h2 j hj)
        refine⟨.string ⟨l.toArray⟩,Jh b p l.length f,jl hcell (Q:=fun b=>(E.O b=none∧b<E.w.heap.size)∨∃r∈JC st (.box d ox),(r.head?=some 0∨r.head?=some 1)∧E.O b=some r∧b<E.w.heap.size) (.inl ⟨hO,hbb⟩),fun w hw=>?_,Zz R F _⟩
        have hw2:=jk hw
        have hr:=run_convert_bytes_back (P:=P) w t t' e ⟨b,p,none⟩ cap l hu he hu' (fun j hj=>by
          rw[Addr.add_lit,hw2 j hj,hfv j hj])
        simp[execOp,ho,k1,hr]
      | immNil _ _ ad=>
        have hnil:l=[]:=List.length_eq_zero_iff.1 h1
        subst hnil
        clear h2
        refine .pure (v:= .string ⟨#[]⟩) (fun w=>?_) (Zz R F _)
        cases ad with
        | none=> 
          have hr:=run_convert_bytes_string (P:=P) w t t' e none 0 0 hu he hu'
          simp[execOp,ho,k1,hr,Conv.bytesToString]
          rfl
        | some ad=>
          have hr:=run_convert_bytes_back (P:=P) w t t' e ad 0 [] hu he hu' (fun j hj=>by simp at hj)
          simp only[List.length_nil] at hr
          simp[execOp,ho,k1,hr]
  · rename_i p hb
    have hev:=hb
    obtain⟨B,v,h1,h2,h3,h4,h5⟩:=YE R hx hb
    split at h
    · rename_i cs hown
      unfold zc.owned at hown
      rw[h1] at hown
      have hB:B= .own (some 1) cs:=by
        cases B<;>simp at hown
        obtain⟨rfl,rfl⟩:=hown;rfl
      subst hB
      cases hl:Ku cs with
      |none=>rw[hl] at h;cases h
      | some l=>
        rw[hl] at h
        cases h
        obtain⟨e1,e2⟩:=uy hl
        cases h5 with
        | own _ _ _ b k len cap arr T f hO hbb hlen hc hm ha hf hv=>
          have hll:len=l.length:=by have:=hlen.2;omega
          subst hll
          have hfv:∀j (hj:j<l.length),f j= .int .u8 (l[j].toNat:Int):=fun j hj=>by
            have:=hv j _ (e2 j hj)
            generalize f j=u at this
            cases this;rfl
          have hcell:∀j,j<l.length→E.w.cell? ⟨b,k+j,none⟩=some (f j):=fun j hj=>by
            rw[zk hbb];exact hf j _ (e2 j hj)
          refine⟨.string ⟨l.toArray⟩,Jh b k l.length f,jl hcell (Q:=fun b=>(E.O b=none∧b<E.w.heap.size)∨∃r∈JC st (.box d ox),(r.head?=some 0∨r.head?=some 1)∧E.O b=some r∧b<E.w.heap.size) (.inr ⟨p,by simp[JC,hev],yn (zC h1),hO,(Array.getElem?_eq_some_iff.1 hbb).1⟩),fun w hw=>?_,Zz R F _⟩
          have hw2:=jk hw
          have hr:=run_convert_bytes_back (P:=P) w t t' e ⟨b,k,none⟩ cap l hu he hu' (fun j hj=>by
            rw[Addr.add_lit,hw2 j hj,hfv j hj])
          simp[execOp,ho,h4,hr]
        | ownNil=>
          have hnil:l=[]:=List.length_eq_zero_iff.1 e1
          subst hnil
          refine .pure (v:= .string ⟨#[]⟩) (fun w=>?_) (Zz R F _)
          have hr:=run_convert_bytes_string (P:=P) w t t' e none 0 0 hu he hu'
          simp[execOp,ho,h4,hr,Conv.bytesToString]
          rfl
    · cases h
  · rename_i hb
    cases h
    refine .pure (fun w=>?_) (Zz R F _)
    obtain⟨v,po,k1,k2,_⟩:=zz R hx (Zi hb rfl) rfl
    cases k2
    have hr:=run_convert_bytes_string (P:=P) w t t' e none 0 0 hu he hu'
    simp[execOp,ho,k1,hr,Conv.bytesToString]
  · cases h
def za0 (st:zc)(d:Nat)(x:zB):Option zc:=
 match st.ev x with
 | .sc (.string s)=>some (st.putT d (.imm 1 (ZG s.data.toList)))
 |_=>none
theorem ze1 (R:zA E N V st a.tmps)(F:zG N V st d)(ho:o.op= .convert t t' x)(hu:P.underlying t=some .string)(hu':P.underlying t'=some (.slice e))(he:P.underlying e=some (.int .u8))
    (hx:zj x=some ox) {st':zc} (h:za0 st d ox=some st'):qQ L E N V st' a P o d:=by
  unfold za0 at h
  split at h
  · rename_i s hb
    cases h
    have hr:=run_bytes_of_string (P:=P) E.w t t' e s hu hu' he
    have hle:s.size≤grownCap E.w s.size 0 e:=grownCap_ge _ _ _ _
    generalize grownCap E.w s.size 0 e=cap at hr hle
    generalize hro:bytesRow s cap=row at hr
    have hrow:∀j (hj:j<s.data.toList.length),row[j]?=some (.int .u8 (s.data.toList[j].toNat:Int)):=fun j hj=>by
      have hj2:j<s.data.size:=by simpa using hj
      rw[←hro]
      unfold bytesRow
      rw[Array.getElem?_append_left (by simpa using hj2)]
      simp only[Array.getElem?_map,Array.getElem?_eq_getElem hj2,Option.map_some,Array.getElem_toList]
    have R1:=R.drew
    have R2:=R1.flight (j:=0) (ks:=[]) (Jb R1.lim (.cells row e (row.size,row.size+1)) [9,0]) (QM R1.lim _ _) rfl
    have R3:=R2.flight (j:=0) (ks:=[]) (jP [9,0]) (JF R2.lim) rfl
    refine⟨.slice (some ⟨E.w.heap.size,0,none⟩) s.size cap,_,?_,R3.putT_val F.lt F.v F.t (.imm _ 1 _ E.w.heap.size 0 s.size cap (fun j=> .int .u8 ((s.data.toList.getD j 0).toNat:Int)) ?_ ?_ ⟨by decide,?_⟩ hle (fun j A hj=>?_) fun j A hj=>?_),QI.trans ((qC R1.lim _ (ZR [0])).trans (jF (ZR [0])))⟩
    · simp[execOp,ho,ZJ R hx hb,hr]
      rfl
    · simp[Env.freeze,Env.fresh,j6]
    · simp[Env.freeze,Env.fresh]
    · rw[zU];simp
    · have hj1:j<s.data.toList.length:=by have:=(List.getElem?_eq_some_iff.1 hj).1;rwa [zU] at this
      have:=hrow j hj1
      rw[show s.data.toList.getD j 0=s.data.toList[j] by rw[List.getD_eq_getElem?_getD,List.getElem?_eq_getElem hj1];rfl]
      show(match(E.w.drew.alloc (.cells row e (row.size,row.size+1))).heap[E.w.heap.size]? with|some (.cells c _ _)=>_|_=>_)=_
      have hh:(E.w.drew.alloc (.cells row e (row.size,row.size+1))).heap[E.w.heap.size]?=some (.cells row e (row.size,row.size+1)):=by
        show(E.w.heap.push _)[E.w.heap.size]?=_
        simp
      rw[hh]
      simpa using this
    · have hj1:j<s.data.toList.length:=by have:=(List.getElem?_eq_some_iff.1 hj).1;rwa [zU] at this
      have:A= .sc (.int .u8 ((s.data.toList.getD j 0).toNat:Int)):=by
        unfold ZG at hj
        rw[List.getElem?_map,List.getElem?_eq_getElem hj1] at hj
        cases hj
        rw[List.getD_eq_getElem?_getD,List.getElem?_eq_getElem hj1];rfl
      subst this
      exact .sc _ _
  · cases h
end
end Go.Ga
