/- Values, objects, and code by what it leads to: a library of this claim's own. No condition. -/
import Derived.Test.YtneiihheeghdcaaDoorGdbmenh2
set_option linter.all false

namespace Go.Ga
open Go
def zb.bound (st:zb)(dflt:Nat):Option zm→Option Nat
 |none=>some dflt
 | some x=>match st.dec x with
   |some n=>if 0≤n then some n.toNat else none
   |none=>none
def Zm (cs:List za)(sz lo hi:Nat):List za:=(cs.drop (lo*sz)).take ((hi - lo)*sz)
def zb.roomTo (st:zb)(id n:Nat):Bool:=match st.h[id]? with
 |some (some cs)=>decide (n≤cs.length)
 |_=>false
def kC (st:zb)(d:Nat)(x:zm)(lo hi:Option zm)(sz:Nat):Option zb:=
 match st.use x true with
 | some (A,st1)=>
   match A with
   | .imm s cs=>match st1.bound 0 lo,st1.bound (cs.length / s) hi with
     |some l,some h=>if s=sz∧l≤h∧h≤cs.length / s then some (st1.putT d (.imm sz (Zm cs sz l h))) else none
     |_,_=>none
   | .own (some s) cs=>match st1.bound 0 lo,st1.bound (cs.length / s) hi with
     |some l,some h=>if s=sz∧l≤h∧h≤cs.length / s∧(l=0∨za.copyableL cs=true) then some (st1.putT d (.own (some sz) (Zm cs sz l h))) else none
     |_,_=>none
   | .sl id off len s=>match st1.bound 0 lo,st1.bound len hi with
     |some l,some h=>if s=sz∧l≤h∧(h≤len∨st1.roomTo id (off+h*sz)=true)∧(l=0∨l<h) then some (st1.putT d (.sl id (off+l*sz) (h - l) sz)) else none
     |_,_=>none
   | .sc u=>match st1.bound 0 lo,st1.bound 0 hi with
     |some l,some h=>if j8 u=true∧l=0∧h=0 then some (st1.putT d (.sc u)) else none
     |_,_=>none
   |_=>none
 |none=>none
section
variable {L:List (List Nat)} {E:Env} {N:Nat} {V:List Nat} {st:zb} {a:Act} {P:Program} {o:Oper} {d:Nat} {tm:Array Value}
theorem ya (R:zi E N V st a.tmps){x:Operand}{ox:zm}(hx:zd x=some ox){dflt n:Nat}(h:st.bound dflt (some ox)=some n):∃k,a.eval x= .int k (n:Int):=by
 simp only[zb.bound] at h
 split at h
 · rename_i m hm
   split at h
   · cases h
     obtain⟨k,hk⟩:=Ji R hx hm
     exact⟨k,by rw[hk];congr 1;omega⟩
   · cases h
 · cases h
def qu :Option Operand→Option zm→Prop
 |none,none=>True
 |some x,some ox=>zd x=some ox
 |_,_=>False
theorem ZD (R:zi E N V st a.tmps){lo hi:Option Operand}{olo ohi:Option zm}(hlo:qu lo olo)(hhi:qu hi ohi){len cap l h:Nat}(h1:st.bound 0 olo=some l)(h2:st.bound len ohi=some h)(hlh:l≤h)(hh:h≤cap)(b:Bool)(w:World):
    (Instr.sliceBounds b len cap (lo.map a.eval) (hi.map a.eval) none).run P w= .ok (l,h,cap) w:=by
  have hh':(h:Int)≤(cap:Int):=by omega
  have hl':(l:Int)≤(h:Int):=by omega
  have n1:¬cap<h:=by omega
  have n2:¬h<l:=by omega
  cases lo with
  | none=>
    cases olo with
    |some _=>exact hlo.elim
    | none=>
      cases h1
      cases hi with
      | none=>
        cases ohi with
        |some _=>exact hhi.elim
        |none=>cases h2;simp[Instr.sliceBounds]
      | some y=>
        cases ohi with
        |none=>exact hhi.elim
        | some oy=>
          obtain⟨k2,e2⟩:=ya R hhi h2
          simp[Instr.sliceBounds,Instr.sliceBound,asIntOf,e2,n1]
  | some x=>
    cases olo with
    |none=>exact hlo.elim
    | some ox=>
      obtain⟨k1,e1⟩:=ya R hlo h1
      cases hi with
      | none=>
        cases ohi with
        |some _=>exact hhi.elim
        |none=>cases h2;simp[Instr.sliceBounds,Instr.sliceBound,asIntOf,e1,n2]
      | some y=>
        cases ohi with
        |none=>exact hhi.elim
        | some oy=>
          obtain⟨k2,e2⟩:=ya R hhi h2
          simp[Instr.sliceBounds,Instr.sliceBound,asIntOf,e1,e2,hh,hlh]
theorem yK {cs:List za}{sz l h k:Nat}{A:za}(hk:(Zm cs sz l h)[k]?=some A):cs[l*sz+k]?=some A∧k<(h - l)*sz:=by
 unfold Zm at hk
 rw[List.getElem?_take] at hk
 split at hk
 · rename_i hlt;exact⟨Zr hk,hlt⟩
 · cases hk
theorem Wx {cs:List za}{sz l h n:Nat}(hc:cs.length=n*sz)(hh:h≤n)(hl:l≤h):(Zm cs sz l h).length=(h - l)*sz:=by
 have h1:h*sz≤n*sz:=Nat.mul_le_mul_right _ hh
 have h2:l*sz≤h*sz:=Nat.mul_le_mul_right _ hl
 simp only[Zm,List.length_take,List.length_drop,hc,Nat.sub_mul]
 omega
theorem qw {t e:TypeId}{inf:TypeInfo}(hu:P.underlying t=some (.slice e))(hi:P.info? e=some inf){p:Option Addr}{len cap l h:Nat}{lo hi':Option Value}{w:World}(hb:(Instr.sliceBounds true len cap lo hi' none).run P w= .ok (l,h,cap) w):
    (Instr.sliceAt t (.slice p len cap) lo hi' none).run P w= .ok (.slice (if cap=l then p else p.map (·.add (l*inf.size))) (h - l) (cap - l)) w:=by
  simp[Instr.sliceAt,Instr.slice,run_underlying hu,hb,sizeOf,typeInfo,hi]
theorem Yz {b k cap l sz:Nat}:(if cap=l then some (⟨b,k,none⟩:Addr) else(some (⟨b,k,none⟩:Addr)).map (·.add (l*sz)))=some ⟨b,if cap=l then k else k+l*sz,none⟩:=by
 split<;>simp[Addr.add_lit]
theorem Gz (R : zi E N V st a.tmps)(F:zo N V st d){t e:TypeId}{inf:TypeInfo}{x:Operand}{ox:zm}{lo hi:Option Operand}{olo ohi:Option zm}(ho:o.op= .slice t x lo hi none)(hu':P.underlying t=some (.slice e))(hi':P.info? e=some inf)(hsz:0<inf.size)
    (hx:zd x=some ox) (hlo:qu lo olo) (hhi:qu hi ohi) {st':zb} (h:kC st d ox olo ohi inf.size=some st') (hq:st.useQ L ox true=true):Jj L E N V st' a P o d:=by
  unfold kC at h
  split at h
  · rename_i A st1 hu
    obtain⟨E1,R1,F1,P1,hw1⟩:=Zv R hx hu 0 (l:=[]) (fun x hx=>by cases hx) (fun x hx=>by cases hx) hq
    have hA:VRel E1 (some [9,0]) A (a.eval x):=F1 _ (List.mem_cons_self ..)
    have Fs:=F.of (zP hu)
    have hrun:∀w,(execOp a.eval o).run P w=((Instr.sliceAt t (a.eval x) (lo.map a.eval) (hi.map a.eval) none).run P w).andThen (fun v w=> .ok (.value v) w):=fun w=>by simp[execOp,ho]
    cases A with
    | imm s cs=>
      simp only[] at h
      split at h
      · rename_i l hh h1 h2
        split at h
        · rename_i hc
          obtain⟨rfl,hl,hle⟩:=hc
          cases h
          generalize hy:a.eval x=y at hA
          cases hA with
          | imm _ _ _ b k len cap f hO hb hlen hcap hf hv=>
            have e1:cs.length / inf.size=len:=by rw[hlen.2,Nat.mul_div_cancel _ hlen.1]
            rw[e1] at h2 hle
            have hr:=qw (P:=P) hu' hi' (p:=some ⟨b,k,none⟩) (ZD (P:=P) R1 hlo hhi h1 h2 hl (Nat.le_trans hle hcap) true E.w)
            rw[Yz] at hr
            refine⟨_,E1,by rw[hrun,hy,hr,hw1];rfl,R1.putT_val Fs.lt Fs.v Fs.t ?_,P1⟩
            refine .imm _ _ _ b _ (hh - l) (cap - l) (fun j=>f (l*inf.size+j)) hO hb ⟨hsz,Wx hlen.2 hle hl⟩ (by omega) (fun j A hj=>?_) fun j A hj=>hv _ A (yK hj).1
            obtain⟨h3,h4⟩:=yK hj
            have hne:cap≠l:=fun e=>by
              have:hh - l=0:=by omega
              rw[this] at h4;simp at h4
            rw[if_neg hne,Nat.add_assoc]
            exact hf _ A h3
          | immNil _ _ pa=>
            have e1:([]:List za).length / inf.size=0:=by simp
            rw[e1] at h2 hle
            have hl0:l=0:=by omega
            have hh0:hh=0:=by omega
            subst hl0 hh0
            have hr:=qw (P:=P) hu' hi' (p:=pa) (ZD (P:=P) R1 hlo hhi h1 h2 hl (Nat.le_refl _) true E.w)
            refine⟨_,E1,by rw[hrun,hy,hr,hw1];rfl,R1.putT_val Fs.lt Fs.v Fs.t ?_,P1⟩
            simp only[if_true,show Zm [] inf.size 0 0=[] by simp[Zm]]
            exact .immNil _ _ _
        · cases h
      · cases h
    | own hd cs =>
      cases hd with
      |none=>cases h
      | some s=>
        simp only[] at h
        split at h
        · rename_i l hh h1 h2
          split at h
          · rename_i hc
            obtain⟨rfl,hl,hle,hcp⟩:=hc
            cases h
            generalize hy:a.eval x=y at hA
            cases hA with
            | own _ _ _ b k len cap arr T f hO hb hlen hcap hm ha hf hv=>
              have e1:cs.length / inf.size=len:=by rw[hlen.2,Nat.mul_div_cancel _ hlen.1]
              rw[e1] at h2 hle
              have hr:=qw (P:=P) hu' hi' (p:=some ⟨b,k,none⟩) (ZD (P:=P) R1 hlo hhi h1 h2 hl (Nat.le_trans hle hcap) true E.w)
              rw[Yz] at hr
              have hv2:VRel E1 (some [9,0]) (.own (some inf.size) (Zm cs inf.size l hh)) (.slice (some ⟨b,if cap=l then k else k+l*inf.size,none⟩) (hh - l) (cap - l)):=by
                have hmul:l*inf.size≤cap*inf.size:=Nat.mul_le_mul_right _ (by omega)
                refine .own _ _ _ b _ (hh - l) (cap - l) arr T (fun j=>f (l*inf.size+j)) hO hb ⟨hsz,Wx hlen.2 hle hl⟩ (by omega) (by omega) ?_ (fun j A hj=>?_) fun j A hj=>?_
                · rw[Nat.sub_mul];split<;>omega
                · obtain⟨h3,h4⟩:=yK hj
                  have hne:cap≠l:=fun e=>by
                    have:hh - l=0:=by omega
                    rw[this] at h4;simp at h4
                  rw[if_neg hne,Nat.add_assoc]
                  exact hf _ A h3
                · have h3:=(yK hj).1
                  rcases hcp with rfl|hcp
                  · have:=hv _ A h3
                    simpa using this
                  · exact(hv _ A h3).copy _ (zC hcp h3)
              refine⟨_,E1.relab [9,0] [0,d],?_,(R1.land [0,d]).putT_val Fs.lt Fs.v Fs.t (hv2.land [0,d]),P1.trans (zk (z6 _) (jp _ _) (zN (by decide) _))⟩
              rw[hrun,hy,hr,←hw1];rfl
            | ownNil=>
              have e1:([]:List za).length / inf.size=0:=by simp
              rw[e1] at h2 hle
              have hl0:l=0:=by omega
              have hh0:hh=0:=by omega
              subst hl0 hh0
              have hr:=qw (P:=P) hu' hi' (p:=none) (ZD (P:=P) R1 hlo hhi h1 h2 hl (Nat.le_refl _) true E.w)
              refine⟨_,E1,by rw[hrun,hy,hr,hw1];rfl,R1.putT_val Fs.lt Fs.v Fs.t ?_,P1⟩
              simp only[if_true,show Zm [] inf.size 0 0=[] by simp[Zm]]
              exact .ownNil _ _
          · cases h
        · cases h
    | sl id off len s=>
      simp only[] at h
      split at h
      · rename_i l hh h1 h2
        split at h
        · rename_i hc
          obtain⟨rfl,hl,hle,hl0⟩:=hc
          cases h
          generalize hy:a.eval x=y at hA
          cases hA with
          | sl _ _ _ _ cap _ hid hcap hm hκ=>
            have hle:hh≤cap:=by
              rcases hle with hle|hle
              · exact Nat.le_trans hle hcap
              · unfold zb.roomTo at hle
                split at hle
                · rename_i cs hcs
                  obtain⟨_,_,_,_,_,_,hlk,_⟩:=R1.objs id cs hcs
                  have h1:off+hh*inf.size≤cs.length:=of_decide_eq_true hle
                  have:hh*inf.size≤cap*inf.size:=by omega
                  exact Nat.le_of_mul_le_mul_right this hsz
                · cases hle
            have hr:=qw (P:=P) hu' hi' (p:=some ⟨E1.ρ id,E1.β id+off,none⟩) (ZD (P:=P) R1 hlo hhi h1 h2 hl hle true E.w)
            rw[Yz] at hr
            have hadr:(if cap=l then E1.β id+off else E1.β id+off+l*inf.size)=E1.β id+off+l*inf.size:=by
              split
              · rcases hl0 with rfl|h0
                · simp
                · omega
              · rfl
            · rw[hadr] at hr
              refine⟨_,E1,by rw[hrun,hy,hr,hw1];rfl,R1.putT_val Fs.lt Fs.v Fs.t ?_,P1⟩
              have hmul:l*inf.size≤cap*inf.size:=Nat.mul_le_mul_right _ (by omega)
              have:=VRel.sl (E:=E1) (some [0,d]) id (off+l*inf.size) (hh - l) (cap - l) inf.size hid (by omega) (by omega) (by rw[Nat.sub_mul];omega)
              rwa [←Nat.add_assoc] at this
        · cases h
      · cases h
    | sc u=>
      simp only[] at h
      split at h
      · rename_i l hh h1 h2
        split at h
        · rename_i hc
          obtain⟨hn,rfl,rfl⟩:=hc
          cases h
          have:=JP hn
          subst this
          generalize hy:a.eval x=y at hA
          cases hA
          have hr:=qw (P:=P) hu' hi' (p:=none) (ZD (P:=P) R1 hlo hhi h1 h2 (Nat.le_refl _) (Nat.le_refl _) true E.w)
          refine⟨_,E1,by rw[hrun,hy,hr,hw1];rfl,R1.putT_val Fs.lt Fs.v Fs.t ?_,P1⟩
          simp only[if_true]
          exact .sc _ _
        · cases h
      · cases h
    |_=>cases h
  · cases h
end
end Go.Ga

namespace Go.Ga
open Go
mutual
def za.ids0 :za→Bool
 | .agg cs=>za.ids0L cs
 | .imm _ cs=>za.ids0L cs
 | .own _ cs=>za.ids0L cs
 | .ia cs=>za.ids0L cs
 | .tup cs=>za.ids0L cs
 | .sl _ _ _ _=>false
 | .ptr _ _=>false
 | .fn _ as bs=>za.ids0L as&&za.ids0L bs
 | .iface _ A=>A.ids0
 |_=>true
def za.ids0L :List za→Bool
 |[]=>true
 |A::l=>A.ids0&&za.ids0L l
end
mutual
def za.flat :za→Bool
 | .agg cs=>za.flatL cs
 | .imm _ _=>false
 | .own _ cs=>za.flatL cs
 | .ia _=>false
 | .tup cs=>za.flatL cs
 | .fn _ as bs=>za.flatL as&&za.flatL bs
 | .iface _ A=>A.flat
 |_=>true
def za.flatL :List za→Bool
 |[]=>true
 |A::l=>A.flat&&za.flatL l
end
mutual
def za.ren (g:Nat→Option Nat):za→za
 | .agg cs=> .agg (za.renL g cs)
 | .imm sz cs=> .imm sz (za.renL g cs)
 | .own hd cs=> .own hd (za.renL g cs)
 | .ia cs=> .ia (za.renL g cs)
 | .tup cs=> .tup (za.renL g cs)
 | .sl id off len sz=>match g id with
   |some j=> .sl j off len sz
   |none=> .dead
 | .ptr id off=>match g id with
   |some j=> .ptr j off
   |none=> .dead
 | .fn f as bs=> .fn f (za.renL g as) (za.renL g bs)
 | .iface t A=> .iface t (A.ren g)
 |A=>A
def za.renL (g:Nat→Option Nat):List za→List za
 |[]=>[]
 |A::l=>A.ren g::za.renL g l
end
mutual
theorem Yo (g:Nat→Option Nat):∀A:za,A.ids0=true→A.ren g=A
 | .sc _,_=>rfl
 | .agg cs,h=>by simp only[za.ren,ids0_renL g cs h]
 | .imm _ cs,h=>by simp only[za.ren,ids0_renL g cs h]
 | .own _ cs,h=>by simp only[za.ren,ids0_renL g cs h]
 | .ia cs,h=>by simp only[za.ren,ids0_renL g cs h]
 | .tup cs,h=>by simp only[za.ren,ids0_renL g cs h]
 | .sl _ _ _ _,h=>by cases h
 | .ptr _ _,h=>by cases h
 | .fn _ as bs,h=>by
   simp only[za.ids0,Bool.and_eq_true] at h
   simp only[za.ren,ids0_renL g as h.1,ids0_renL g bs h.2]
 | .iface _ A,h=>by simp only[za.ren,Yo g A h]
 | .at_ _,_=>rfl
 | .addr _ _,_=>rfl
 | .mp _,_=>rfl
 | .dead,_=>rfl
theorem ids0_renL (g:Nat→Option Nat):∀l:List za,za.ids0L l=true→za.renL g l=l
 |[],_=>rfl
 | A::l,h=>by
   simp only[za.ids0L,Bool.and_eq_true] at h
   simp only[za.renL,Yo g A h.1,ids0_renL g l h.2]
end
mutual
theorem yB :∀A:za,A.copyable=true→A.freeze=A
 | .agg cs,h=>by simp only[za.freeze,copyable_freezeL cs h]
 | .tup cs,h=>by simp only[za.freeze,copyable_freezeL cs h]
 | .own _ _,h=>by cases h
 | .sc _,_=>rfl
 | .imm _ _,_=>rfl
 | .ia _,_=>rfl
 | .sl _ _ _ _,_=>rfl
 | .ptr _ _,_=>rfl
 | .fn _ _ _,_=>rfl
 | .iface _ _,_=>rfl
 | .at_ _,_=>rfl
 | .addr _ _,_=>rfl
 | .mp _,h=>by cases h
 | .dead,_=>rfl
theorem copyable_freezeL :∀l:List za,za.copyableL l=true→za.freezeL l=l
 |[],_=>rfl
 | A::l,h=>by
   simp only[za.copyableL,Bool.and_eq_true] at h
   simp only[za.freezeL,yB A h.1,copyable_freezeL l h.2]
end
theorem zg (g:Nat→Option Nat):∀l:List za,(za.renL g l).length=l.length
 |[]=>rfl
 |A::l=>by simp[za.renL,zg g l]
theorem yX (g:Nat→Option Nat):∀(l:List za) (k:Nat),(za.renL g l)[k]?=(l[k]?).map (za.ren g)
 |[],k=>by simp[za.renL]
 |A::l,0=>by simp[za.renL]
 |A::l,k+1=>by simp[za.renL,yX g l k]
theorem ze {g:Nat→Option Nat}{l:List za}{k:Nat}{A:za}(h:(za.renL g l)[k]?=some A):∃B,l[k]?=some B∧A=B.ren g:=by
 rw[yX] at h
 cases hl:l[k]? with
 |none=>simp[hl] at h
 |some B=>simp[hl] at h;exact⟨B,rfl,h.symm⟩
theorem Zl :∀{l:List za} {k:Nat} {A:za},za.flatL l=true→l[k]?=some A→A.flat=true
 |[],_,_,_,h=>by simp at h
 | B::l,0,A,h,h2=>by
   simp only[za.flatL,Bool.and_eq_true] at h
   simp at h2;subst h2;exact h.1
 | B::l,k+1,A,h,h2=>by
   simp only[za.flatL,Bool.and_eq_true] at h
   exact Zl h.2 (by simpa using h2)
def QO (E E':Env)(g:Nat→Option Nat):Prop:=
 ∀id j,g id=some j→id<E.n→j<E'.n∧E'.ρ j=E.ρ id∧E'.β j=E.β id∧E'.κ j=E.κ id
theorem VRel.renSl {E E':Env}{g:Nat→Option Nat}(hg:QO E E' g){po po':Option (List Nat)}{id off len sz:Nat}{v:Value}(h:VRel E po (.sl id off len sz) v):VRel E' po' ((za.sl id off len sz).ren g) v:=by
 cases h with
 | sl _ _ _ _ cap _ hn hc hm hk=>
   simp only[za.ren]
   cases e:g id with
   |none=>exact .dead _ _
   | some j=>
     obtain⟨h1,h2,h3,h4⟩:=hg id j e hn
     have:=VRel.sl (E:=E') po' j off len cap sz h1 hc hm (hk.trans h4.symm)
     rwa [h2,h3] at this
theorem VRel.renPtr {E E':Env}{g:Nat→Option Nat}(hg:QO E E' g){po po':Option (List Nat)}{id off:Nat}{v:Value}(h:VRel E po (.ptr id off) v):VRel E' po' ((za.ptr id off).ren g) v:=by
 cases h with
 | ptr _ _ _ hn=>
   simp only[za.ren]
   cases e:g id with
   |none=>exact .dead _ _
   | some j=>
     obtain⟨h1,h2,h3,_⟩:=hg id j e hn
     have:=VRel.ptr (E:=E') po' j off h1
     rwa [h2,h3] at this
theorem VRel.renM (M:Prop){E E':Env}{g:Nat→Option Nat}{p q:List Nat}(hg:QO E E' g)(hsz:E.w.heap.size≤E'.w.heap.size)(hN:∀b,E.O b=none→b<E.w.heap.size→E'.O b=none∧E'.w.heap[b]?=E.w.heap[b]?)
    (hP:M→∀b s,E.O b=some (p++s)→E'.O b=some (q++s)∧E'.w.heap[b]?=E.w.heap[b]?) {po:Option (List Nat)} {A:za} {v:Value} (h:VRel E po A v):
    ∀r,(po=none→∀po',VRel E' po' (A.ren g) v)∧(M→po=some (p++r)→VRel E' (some (q++r)) (A.ren g) v):=by
  induction h with
  |sc po v=>exact fun r=>⟨fun _ _=> .sc _ v,fun _ _=> .sc _ v⟩
  |dead po v=>exact fun r=>⟨fun _ _=> .dead _ v,fun _ _=> .dead _ v⟩
  | agg po cs vs hs h ih=>
    refine fun r=>⟨fun hp po'=>?_,fun M hp=>?_⟩
    · subst hp
      refine .agg _ _ vs (by rw[hs,zg]) fun k A v h1 h2=>?_
      obtain⟨B,hB,rfl⟩:=ze h1
      exact(ih k B v hB h2 []).1 rfl _
    · subst hp
      refine .agg _ _ vs (by rw[hs,zg]) fun k A v h1 h2=>?_
      obtain⟨B,hB,rfl⟩:=ze h1
      have:=(ih k B v hB h2 (r++[k])).2 M (by simp)
      simpa using this
  | imm po sz cs b o len cap f hO hb hl hc hf h ih=>
    obtain⟨h1,h2⟩:=hN b hO hb
    have key:∀po',VRel E' po' (.imm sz (za.renL g cs)) (.slice (some ⟨b,o,none⟩) len cap):=fun po'=>
      .imm _ sz _ b o len cap f h1 (Nat.lt_of_lt_of_le hb hsz) (by rw[zg];exact hl) hc (fun k A hA=>by
        obtain⟨B,hB,_⟩:=ze hA
        exact(Zs h2).trans (hf k B hB)) fun k A hA=>by
        obtain⟨B,hB,rfl⟩:=ze hA
        exact(ih k B hB []).1 rfl none
    exact fun r=>⟨fun _ po'=>key po',fun _ _=>key _⟩
  |immNil po sz a=>exact fun r=>⟨fun _ _=> .immNil _ sz a,fun _ _=> .immNil _ sz a⟩
  | own ℓ sz cs b o len cap arr T f hO hb hl hc hm ha hf h ih=>
    refine fun r=>⟨fun hp=>(by cases hp),fun M hp=>?_⟩
    cases hp
    obtain⟨h1,h2⟩:=hP M b r hO
    refine .own _ sz _ b o len cap arr T f h1 (hb.keep h2) (by rw[zg];exact hl) hc hm ha (fun k A hA=>?_) fun k A hA=>?_
    · obtain⟨B,hB,_⟩:=ze hA
      exact hf k B hB
    · obtain⟨B,hB,rfl⟩:=ze hA
      have:=(ih k B hB (r++[k])).2 M (by simp)
      simpa using this
  |ownNil po sz=>exact fun r=>⟨fun _ _=> .ownNil _ sz,fun _ _=> .ownNil _ sz⟩
  | box ℓ cs b arr T f hO hb ha hf h ih=>
    refine fun r=>⟨fun hp=>(by cases hp),fun M hp=>?_⟩
    cases hp
    obtain⟨h1,h2⟩:=hP M b r hO
    refine .box _ _ b arr T f h1 (hb.keep h2) (by rw[zg];exact ha) (fun k A hA=>?_) fun k A hA=>?_
    · obtain⟨B,hB,_⟩:=ze hA
      exact hf k B hB
    · obtain⟨B,hB,rfl⟩:=ze hA
      have:=(ih k B hB (r++[k])).2 M (by simp)
      simpa using this
  | sl po id off len cap sz hn hc hm hκ=>
    have:=fun po'=>VRel.renSl (po':=po') hg (VRel.sl po id off len cap sz hn hc hm hκ)
    exact fun r=>⟨fun _ po'=>this po',fun _ _=>this _⟩
  | ptr po id off hn=>
    have:=fun po'=>VRel.renPtr (po':=po') hg (VRel.ptr po id off hn)
    exact fun r=>⟨fun _ po'=>this po',fun _ _=>this _⟩
  | ia po cs b o f hO hb hf h ih=>
    obtain⟨h1,h2⟩:=hN b hO hb
    have key:∀po',VRel E' po' (.ia (za.renL g cs)) (.pointer (some ⟨b,o,none⟩)):=fun po'=>
      .ia _ _ b o f h1 (Nat.lt_of_lt_of_le hb hsz) (fun k A hA=>by
        obtain⟨B,hB,_⟩:=ze hA
        exact(Zs h2).trans (hf k B hB)) fun k A hA=>by
        obtain⟨B,hB,rfl⟩:=ze hA
        exact(ih k B hB []).1 rfl none
    exact fun r=>⟨fun _ po'=>key po',fun _ _=>key _⟩
  | fn po f as bs us vs hu hv h1 h2 ih1 ih2=>
    have key:∀po',VRel E' po' (.fn f (za.renL g as) (za.renL g bs)) (.func f us vs):=fun po'=>
      .fn _ f _ _ us vs (by rw[hu,zg]) (by rw[hv,zg]) (fun k A v a b=>by
        obtain⟨B,hB,rfl⟩:=ze a
        exact(ih1 k B v hB b []).1 rfl none) fun k A v a b=>by
        obtain⟨B,hB,rfl⟩:=ze a
        exact(ih2 k B v hB b []).1 rfl none
    exact fun r=>⟨fun _ po'=>key po',fun _ _=>key _⟩
  |iface po t A v h ih=>exact fun r=>⟨fun _ _=> .iface _ t _ v ((ih []).1 rfl none),fun _ _=> .iface _ t _ v ((ih []).1 rfl none)⟩
  | tup po cs vs hs h ih=>
    refine fun r=>⟨fun hp po'=>?_,fun M hp=>?_⟩
    · subst hp
      refine .tup _ _ vs (by rw[hs,zg]) fun k A v h1 h2=>?_
      obtain⟨B,hB,rfl⟩:=ze h1
      exact(ih k B v hB h2 []).1 rfl _
    · subst hp
      refine .tup _ _ vs (by rw[hs,zg]) fun k A v h1 h2=>?_
      obtain⟨B,hB,rfl⟩:=ze h1
      have:=(ih k B v hB h2 (r++[k])).2 M (by simp)
      simpa using this
  | mp ℓ ks b es c hO hb he=>
    refine fun r=>⟨fun hp=>(by cases hp),fun M hp=>?_⟩
    cases hp
    obtain⟨h1,h2⟩:=hP M b r hO
    exact .mp _ ks b es c h1 (h2.trans hb) he
theorem VRel.renK {E E':Env}{g:Nat→Option Nat}{p q:List Nat}(hg:QO E E' g)(hsz:E.w.heap.size≤E'.w.heap.size)(hN:∀b,E.O b=none→b<E.w.heap.size→E'.O b=none∧E'.w.heap[b]?=E.w.heap[b]?)
    (hP:∀b s,E.O b=some (p++s)→E'.O b=some (q++s)∧E'.w.heap[b]?=E.w.heap[b]?) {r:List Nat} {A:za} {v:Value} (h:VRel E (some (p++r)) A v):VRel E' (some (q++r)) (A.ren g) v:=
  (h.renM True hg hsz hN (fun _=>hP) r).2 trivial rfl
theorem VRel.renN {E E':Env}{g:Nat→Option Nat}(hg:QO E E' g)(hsz:E.w.heap.size≤E'.w.heap.size)(hN:∀b,E.O b=none→b<E.w.heap.size→E'.O b=none∧E'.w.heap[b]?=E.w.heap[b]?)
    {A:za} {v:Value} (h:VRel E none A v) (po':Option (List Nat)):VRel E' po' (A.ren g) v:=
  (h.renM False (p:=[]) (q:=[]) hg hsz hN (fun f=>f.elim) []).1 rfl po'
theorem VRel.renF {E E':Env}{g:Nat→Option Nat}{p:List Nat}(hg:QO E E' g)(hsz:E.w.heap.size≤E'.w.heap.size)(hN:∀b,E.O b=none→b<E.w.heap.size→E'.O b=none∧E'.w.heap[b]?=E.w.heap[b]?)
    (hP:∀b s,E.O b=some (p++s)→b<E.w.heap.size→E'.O b=none∧E'.w.heap[b]?=E.w.heap[b]?) {po:Option (List Nat)} {A:za} {v:Value} (h:VRel E po A v):
    (po=none∨∃r,po=some (p++r))→∀po',VRel E' po' (A.freeze.ren g) v:=by
  induction h with
  |sc po v=>exact fun _ _=> .sc _ v
  |dead po v=>exact fun _ _=> .dead _ v
  | agg po cs vs hs h ih=>
    intro hp po'
    refine .agg _ _ vs (by rw[hs,zg,zV]) fun k A v h1 h2=>?_
    obtain⟨B,hB,rfl⟩:=ze h1
    obtain⟨C,hC,rfl⟩:=zx hB
    refine ih k C v hC h2 ?_ _
    rcases hp with rfl|⟨r,rfl⟩
    · exact .inl rfl
    · exact .inr ⟨r++[k],by simp⟩
  |imm po sz cs b o len cap f hO hb hl hc hf h ih=>exact fun _ po'=>(VRel.imm none sz cs b o len cap f hO hb hl hc hf h).renN hg hsz hN po'
  |immNil po sz a=>exact fun _ _=> .immNil _ sz a
  | own ℓ sz cs b o len cap arr T f hO hb hl hc hm ha hf h ih=>
    intro hp po'
    rcases hp with hp|⟨r,hp⟩
    · cases hp
    · cases hp
      obtain⟨h1,h2⟩:=hP b r hO (hb.lt)
      refine .imm _ sz _ b o len cap f h1 (Nat.lt_of_lt_of_le (hb.lt) hsz) (by rw[zg,zV];exact hl) hc (fun k A hA=>?_) fun k A hA=>?_
      · obtain⟨B,hB,_⟩:=ze hA
        obtain⟨C,hC,_⟩:=zx hB
        exact(Zs h2).trans (hb.cell.trans (hf k C hC))
      · obtain⟨B,hB,rfl⟩:=ze hA
        obtain⟨C,hC,rfl⟩:=zx hB
        exact ih k C hC (.inr ⟨r++[k],by simp⟩) none
  |ownNil po sz=>exact fun _ _=> .immNil _ sz none
  | box ℓ cs b arr T f hO hb ha hf h ih=>
    intro hp po'
    rcases hp with hp|⟨r,hp⟩
    · cases hp
    · cases hp
      obtain⟨h1,h2⟩:=hP b r hO (hb.lt)
      refine .ia _ _ b 0 f h1 (Nat.lt_of_lt_of_le (hb.lt) hsz) (fun k A hA=>?_) fun k A hA=>?_
      · obtain⟨B,hB,_⟩:=ze hA
        obtain⟨C,hC,_⟩:=zx hB
        rw[Nat.zero_add]
        exact(Zs h2).trans (hb.cell.trans (hf k C hC))
      · obtain⟨B,hB,rfl⟩:=ze hA
        obtain⟨C,hC,rfl⟩:=zx hB
        exact ih k C hC (.inr ⟨r++[k],by simp⟩) none
  |sl po id off len cap sz hn hc hm hκ=>exact fun _ _=>VRel.renSl hg (VRel.sl po id off len cap sz hn hc hm hκ)
  |ptr po id off hn=>exact fun _ _=>VRel.renPtr hg (VRel.ptr po id off hn)
  |ia po cs b o f hO hb hf h ih=>exact fun _ po'=>(VRel.ia none cs b o f hO hb hf h).renN hg hsz hN po'
  |fn po f as bs us vs hu hv h1 h2 ih1 ih2=>exact fun _ po'=>(VRel.fn none f as bs us vs hu hv h1 h2).renN hg hsz hN po'
  |iface po t A v h ih=>exact fun _ po'=>(VRel.iface none t A v h).renN hg hsz hN po'
  | tup po cs vs hs h ih=>
    intro hp po'
    refine .tup _ _ vs (by rw[hs,zg,zV]) fun k A v h1 h2=>?_
    obtain⟨B,hB,rfl⟩:=ze h1
    obtain⟨C,hC,rfl⟩:=zx hB
    refine ih k C v hC h2 ?_ _
    rcases hp with rfl|⟨r,rfl⟩
    · exact .inl rfl
    · exact .inr ⟨r++[k],by simp⟩
  |mp ℓ ks b es c hO hb he=>exact fun _ po'=> .dead _ _
theorem VRel.renX {E E':Env}{g:Nat→Option Nat}{p q:List Nat}(hg:QO E E' g)
    (hP:∀b s,E.O b=some (p++s)→E'.O b=some (q++s)∧E'.w.heap[b]?=E.w.heap[b]?) {po:Option (List Nat)} {A:za} {v:Value} (h:VRel E po A v):
    A.flat=true→∀r,(po=none→∀po',VRel E' po' (A.ren g) v)∧(po=some (p++r)→VRel E' (some (q++r)) (A.ren g) v):=by
  induction h with
  |sc po v=>exact fun _ r=>⟨fun _ _=> .sc _ v,fun _=> .sc _ v⟩
  |dead po v=>exact fun _ r=>⟨fun _ _=> .dead _ v,fun _=> .dead _ v⟩
  | agg po cs vs hs h ih=>
    refine fun hf r=>⟨fun hp po'=>?_,fun hp=>?_⟩
    · subst hp
      refine .agg _ _ vs (by rw[hs,zg]) fun k A v h1 h2=>?_
      obtain⟨B,hB,rfl⟩:=ze h1
      exact(ih k B v hB h2 (Zl hf hB) []).1 rfl _
    · subst hp
      refine .agg _ _ vs (by rw[hs,zg]) fun k A v h1 h2=>?_
      obtain⟨B,hB,rfl⟩:=ze h1
      have:=(ih k B v hB h2 (Zl hf hB) (r++[k])).2 (by simp)
      simpa using this
  |imm po sz cs b o len cap f hO hb hl hc hf h ih=>exact fun hfl=>by cases hfl
  |immNil po sz a=>exact fun hfl=>by cases hfl
  | own ℓ sz cs b o len cap arr T f hO hb hl hc hm ha hf h ih=>
    refine fun hfl r=>⟨fun hp=>(by cases hp),fun hp=>?_⟩
    cases hp
    obtain⟨h1,h2⟩:=hP b r hO
    refine .own _ sz _ b o len cap arr T f h1 (hb.keep h2) (by rw[zg];exact hl) hc hm ha (fun k A hA=>?_) fun k A hA=>?_
    · obtain⟨B,hB,_⟩:=ze hA
      exact hf k B hB
    · obtain⟨B,hB,rfl⟩:=ze hA
      have:=(ih k B hB (Zl hfl hB) (r++[k])).2 (by simp)
      simpa using this
  |ownNil po sz=>exact fun _ r=>⟨fun _ _=> .ownNil _ sz,fun _=> .ownNil _ sz⟩
  | box ℓ cs b arr T f hO hb ha hf h ih=>
    refine fun hfl r=>⟨fun hp=>(by cases hp),fun hp=>?_⟩
    cases hp
    obtain⟨h1,h2⟩:=hP b r hO
    refine .box _ _ b arr T f h1 (hb.keep h2) (by rw[zg];exact ha) (fun k A hA=>?_) fun k A hA=>?_
    · obtain⟨B,hB,_⟩:=ze hA
      exact hf k B hB
    · obtain⟨B,hB,rfl⟩:=ze hA
      have:=(ih k B hB (Zl hfl hB) (r++[k])).2 (by simp)
      simpa using this
  | sl po id off len cap sz hn hc hm hκ=>
    have:=fun po'=>VRel.renSl (po':=po') hg (VRel.sl po id off len cap sz hn hc hm hκ)
    exact fun _ r=>⟨fun _ po'=>this po',fun _=>this _⟩
  | ptr po id off hn=>
    have:=fun po'=>VRel.renPtr (po':=po') hg (VRel.ptr po id off hn)
    exact fun _ r=>⟨fun _ po'=>this po',fun _=>this _⟩
  |ia po cs b o f hO hb hf h ih=>exact fun hfl=>by cases hfl
  | fn po f as bs us vs hu hv h1 h2 ih1 ih2=>
    intro hfl
    simp only[za.flat,Bool.and_eq_true] at hfl
    have key:∀po',VRel E' po' (.fn f (za.renL g as) (za.renL g bs)) (.func f us vs):=fun po'=>
      .fn _ f _ _ us vs (by rw[hu,zg]) (by rw[hv,zg]) (fun k A v a b=>by
        obtain⟨B,hB,rfl⟩:=ze a
        exact(ih1 k B v hB b (Zl hfl.1 hB) []).1 rfl none) fun k A v a b=>by
        obtain⟨B,hB,rfl⟩:=ze a
        exact(ih2 k B v hB b (Zl hfl.2 hB) []).1 rfl none
    exact fun r=>⟨fun _ po'=>key po',fun _=>key _⟩
  |iface po t A v h ih=>exact fun hfl r=>⟨fun _ _=> .iface _ t _ v ((ih hfl []).1 rfl none),fun _=> .iface _ t _ v ((ih hfl []).1 rfl none)⟩
  | tup po cs vs hs h ih=>
    refine fun hf r=>⟨fun hp po'=>?_,fun hp=>?_⟩
    · subst hp
      refine .tup _ _ vs (by rw[hs,zg]) fun k A v h1 h2=>?_
      obtain⟨B,hB,rfl⟩:=ze h1
      exact(ih k B v hB h2 (Zl hf hB) []).1 rfl _
    · subst hp
      refine .tup _ _ vs (by rw[hs,zg]) fun k A v h1 h2=>?_
      obtain⟨B,hB,rfl⟩:=ze h1
      have:=(ih k B v hB h2 (Zl hf hB) (r++[k])).2 (by simp)
      simpa using this
  | mp ℓ ks b es c hO hb he=>
    refine fun hfl r=>⟨fun hp=>(by cases hp),fun hp=>?_⟩
    cases hp
    obtain⟨h1,h2⟩:=hP b r hO
    exact .mp _ ks b es c h1 (h2.trans hb) he
end Go.Ga

namespace Go.Ga
open Go
structure WI (E:Env)(h:Heap):Prop where
 num:E.n=h.length
 lim:∀b q,E.O b=some q→b<E.w.heap.size
 objs:∀id cs,h[id]?=some (some cs)→JU E id cs
def qm (P:Program)(f:Nat):Bool:=
 match P.funcs[f]? with
 | some fn => fn.name != "runtime.NumGoroutine" && fn.body.isSome
 |none=>false
def jV (_:Program)(_:Env):Prop:=True
theorem jV.turn {P:Program}{E E':Env}(_:jV P E)(_:∀b,E.O b=none→b<E.w.heap.size→E'.O b=none∧E'.w.heap[b]?=E.w.heap[b]?)(_:E.w.heap.size≤E'.w.heap.size):jV P E':=trivial
theorem jV.pres {P:Program}{L:List (List Nat)}{E E':Env}(_:jV P E)(_:zy L E E'):jV P E':=trivial
def zJ (P:Program)(L:List (List Nat))(f:Nat)(args:List za)(h:Heap)(Q:za→Heap→Prop):Prop:=
 qm P f=true∧∀(E:Env) (vs:Array Value),jV P E→WI E h→vs.size=args.length→(∀(k:Nat) A v,args[k]?=some A→vs[k]?=some v→VRel E (some [3,k]) A v)→
  Calls P f vs E.w fun e w'=>∃v r h' E',e= .returned v∧E'.w=w'∧WI E' h'∧VRel E' (some [3]) r v∧zy L E E'∧Q r h'
theorem zJ.mono {P:Program}{L:List (List Nat)}{f:Nat}{args:List za}{h:Heap}{Q Q':za→Heap→Prop}(H:zJ P L f args h Q)(hq:∀r h',Q r h'→Q' r h'):zJ P L f args h Q':=
 ⟨H.1,fun E vs h0 h1 h2 h3=>(H.2 E vs h0 h1 h2 h3).mono fun _ _ ⟨v,r,h',E',a,b,c,d,e,f⟩=>⟨v,r,h',E',a,b,c,d,e,hq r h' f⟩⟩
def jb :List Nat→Nat→Option Nat
 |[],_=>none
 |b::l,i=>if i=b then some 0 else(jb l i).map (· +1)
theorem QB :∀{bo:List Nat} {id j:Nat},jb bo id=some j→bo[j]?=some id
 |[],_,_,h=>by cases h
 | b ::l,i,j,h=>by
   unfold jb at h
   split at h
   · rename_i e;cases h;simp[e]
   · obtain⟨k,hk,rfl⟩:=Option.map_eq_some_iff.1 h
     simpa using QB hk
def qd :List Nat→Bool
 |[]=>true
 |b::l=>(jb l b).isNone&&qd l
theorem Ym :∀{l:List Nat} {id:Nat},id∈l→jb l id≠none
 | b ::l,i,h=>by
   unfold jb
   split
   · simp
   · rename_i hne
     cases h with
     |head=>exact absurd rfl hne
     |tail _ h=>simpa using Ym h
theorem Yn :∀{bo:List Nat} {id j:Nat},qd bo=true→bo[j]?=some id→jb bo id=some j
 |[],_,_,_,h=>by simp at h
 |b::l,i,0,_,h=>by simp at h;simp[jb,h]
 | b ::l,i,j+1,hn,h=>by
   simp only[qd,Bool.and_eq_true] at hn
   have h':l[j]?=some i:=by simpa using h
   unfold jb
   split
   · rename_i e
     subst e
     have:=Ym (List.mem_of_getElem? h')
     rw[Option.isNone_iff_eq_none] at hn
     exact absurd hn.1 this
   · simp[Yn hn.2 h']
def xm (g:Nat→Option Nat)(ln:Bool)(m:Nat)(ℓ:List Nat):Option (List Nat):=
 match ℓ with
 | 1::id::r=>match g id with
   |some j=>some (1::j::r)
   |none=>bif ln then none else some (2::1::id::r)
 |9::0::r=>some (1::m::r)
 |9::(k+1)::r=>some (3::k::r)
 |ℓ=>bif ln then none else some (2::ℓ)
def Env.sub (E:Env)(bo:List Nat)(ln:Bool)(mm b o κ:Nat):Env:=
 {w:=E.w,O:=fun b=>(E.O b).bind (xm (jb bo) ln bo.length),ρ:=fun j=>if j<bo.length then E.ρ (bo.getD j 0) else b,β:=fun j=>if j<bo.length then E.β (bo.getD j 0) else o,κ:=fun j=>if j<bo.length then E.κ (bo.getD j 0) else κ,n:=mm}
def Zq (E:Env)(bo:List Nat)(mm:Nat)(O3:Nat→Option (List Nat))(b:Nat):Option (List Nat):=
 match O3 b with
 |some (1::j::r)=>some (if j<bo.length then 1::bo.getD j 0::r else if j<mm then 9::0::r else 1::(E.n+(j - mm))::r)
 |some (3::r)=>some (9::1::r)
 | _ =>match E.O b with
   | some (1::id::r)=>match jb bo id with
     |some _=>none
     |none=>some (1::id::r)
   |some (9::_)=>none
   |x=>x
def Env.out (E E3:Env)(bo:List Nat)(mm:Nat):Env:=
 {w:=E3.w,O:=Zq E bo mm E3.O,ρ:=fun id=>if id<E.n then E.ρ id else E3.ρ (mm+(id - E.n)),β:=fun id=>if id<E.n then E.β id else E3.β (mm+(id - E.n)),κ:=fun id=>if id<E.n then E.κ id else E3.κ (mm+(id - E.n)),n:=E.n+(E3.n - mm)}
def zU (bo:List Nat)(mm n:Nat)(j:Nat):Option Nat:=if j<bo.length then bo[j]? else if j<mm then none else some (n+(j - mm))
def zQ (bo:List Nat):List (List Nat)→List (List Nat)
 |[]=>[]
 | (1::id::s)::L=>match jb bo id with
   |some j=>(1::j::s)::zQ bo L
   |none=>zQ bo L
 |_::L=>zQ bo L
theorem JY {bo:List Nat}{id j:Nat}{s:List Nat}(hg:jb bo id=some j):∀{L:List (List Nat)},(1::id::s)∈L→(1::j::s)∈zQ bo L
 | r ::L,h=>by
   cases h with
   |head=>simp[zQ,hg]
   | tail _ h=>
     have ih:=JY hg h
     unfold zQ
     split
     · rename_i heq;cases heq
     · rename_i heq
       cases heq
       split
       · exact .tail _ ih
       · exact ih
     · rename_i heq;cases heq;exact ih
section
variable {L:List (List Nat)} {E E3:Env} {N:Nat} {V:List Nat} {st:zb} {tm:Array Value} {bo:List Nat} {ln:Bool} {mm pb po pk:Nat}
theorem jm {b:Nat}(h:E.O b=none):(E.sub bo ln mm pb po pk).O b=none:=by simp[Env.sub,h]
theorem w0 {b id j:Nat}{s:List Nat}(hg:jb bo id=some j)(h:E.O b=some ([1,id]++s)):(E.sub bo ln mm pb po pk).O b=some ([1,j]++s):=by simp[Env.sub,h,xm,hg]
theorem kY {b k:Nat}{s:List Nat}(h:E.O b=some ([9,k+1]++s)):(E.sub bo ln mm pb po pk).O b=some ([3,k]++s):=by simp[Env.sub,h,xm]
theorem ux {b:Nat}{s:List Nat}(h:E.O b=some ([9,0]++s)):(E.sub bo ln mm pb po pk).O b=some ([1,bo.length]++s):=by simp[Env.sub,h,xm]
def kM (bo:List Nat)(ℓ:List Nat):Prop:=match ℓ with
 |1::id::_=>jb bo id=none
 |9::_=>False
 |_=>True
theorem JE {b:Nat}{ℓ:List Nat}(hh:kM bo ℓ)(h:E.O b=some ℓ):(E.sub bo ln mm pb po pk).O b=bif ln then none else some (2::ℓ):=by
 simp only[Env.sub,h,Option.bind_some]
 unfold xm
 unfold kM at hh
 split
 · simp only[] at hh;rw[hh]
 · simp at hh
 · simp at hh
 · rfl
theorem kX (hlim:∀b q,E.O b=some q→b<E.w.heap.size):∀b q,(E.sub bo ln mm pb po pk).O b=some q→b<E.w.heap.size:=fun b q h=>by
 cases hO:E.O b with
 |none=>rw[jm hO] at h;cases h
 |some ℓ=>exact hlim b ℓ hO
theorem j9 {bo:List Nat}{j id:Nat}(h:bo[j]?=some id):bo.getD j 0=id∧j<bo.length:=by
 refine⟨by simp[List.getD_eq_getElem?_getD,h],(List.getElem?_eq_some_iff.1 h).1⟩
theorem JD (hmm:bo.length≤mm):QO E (E.sub bo ln mm pb po pk) (jb bo):=fun id j hg hid=>by
 obtain⟨h1,h2⟩:=j9 (QB hg)
 refine⟨Nat.lt_of_lt_of_le h2 hmm,?_,?_,?_⟩
 · show(if j<bo.length then E.ρ (bo.getD j 0) else _)=_;rw[if_pos h2,h1]
 · show(if j<bo.length then E.β (bo.getD j 0) else _)=_;rw[if_pos h2,h1]
 · show(if j<bo.length then E.κ (bo.getD j 0) else _)=_;rw[if_pos h2,h1]
theorem ZS (hlim:∀b q,E.O b=some q→b<E.w.heap.size){L':List (List Nat)}(P3:zy L' (E.sub bo ln mm pb po pk) E3){b:Nat}(h:E.O b=none∧b<E.w.heap.size∨∃ℓ,E.O b=some ℓ∧kM bo ℓ):
    (E.out E3 bo mm).O b=E.O b∧E3.w.heap[b]?=E.w.heap[b]?:=by
  have fin:∀x,E3.O b=x→(x=none∨∃r,x=some (2::r))→(E.out E3 bo mm).O b=E.O b:=by
    intro x hx hx'
    show Zq E bo mm E3.O b=E.O b
    unfold Zq
    rw[hx]
    have h2:(match E.O b with
        | some (1::id::r)=>match jb bo id with
          |some _=>none
          |none=>some (1::id::r)
        |some (9::_)=>none
        |x=>x)=E.O b:=by
      rcases h with⟨h,_⟩|⟨ℓ,h,hh⟩
      · rw[h]
      · rw[h]
        unfold kM at hh
        split
        · rename_i heq;cases heq;simp only[] at hh;rw[hh]
        · rename_i r heq
          cases heq
          simp at hh
        · rfl
    rcases hx' with rfl|⟨r,rfl⟩
    · exact h2
    · exact h2
  rcases h with⟨h,hb⟩|⟨ℓ,h,hh⟩
  · obtain⟨h1,h2⟩:=P3.old b (jm h) hb
    exact⟨fin _ h1 (.inl rfl),h2⟩
  · have h0:=JE (ln:=ln) (mm:=mm) (pb:=pb) (po:=po) (pk:=pk) hh h
    cases hl:ln with
    | true=>
      subst hl
      obtain⟨h1,h2⟩:=P3.old b h0 (hlim b ℓ h)
      exact⟨fin _ h1 (.inl rfl),h2⟩
    | false=>
      subst hl
      obtain⟨h1,h2⟩:=P3.far b ℓ h0
      exact⟨fin _ h1 (.inr ⟨_,rfl⟩),h2⟩
theorem VA {L':List (List Nat)}(P3:zy L' (E.sub bo ln mm pb po pk) E3){b j id:Nat}{s:List Nat}(hj:bo[j]?=some id)(h:E3.O b=some ([1,j]++s)):(E.out E3 bo mm).O b=some ([1,id]++s):=by
 obtain⟨h1,h2⟩:=j9 hj
 show Zq E bo mm E3.O b=_
 simp only[Zq,h,List.cons_append,List.nil_append]
 rw[if_pos h2,h1]
theorem uE {b:Nat}{s:List Nat}(hmm:bo.length<mm)(h:E3.O b=some ([1,bo.length]++s)):(E.out E3 bo mm).O b=some ([9,0]++s):=by
 show Zq E bo mm E3.O b=_
 simp only[Zq,h,List.cons_append,List.nil_append]
 rw[if_neg (Nat.lt_irrefl _),if_pos hmm]
theorem Kj {b j:Nat}{s:List Nat}(hm:bo.length≤mm)(hmm:mm≤j)(h:E3.O b=some ([1,j]++s)):(E.out E3 bo mm).O b=some ([1,E.n+(j - mm)]++s):=by
 show Zq E bo mm E3.O b=_
 simp only[Zq,h,List.cons_append,List.nil_append]
 rw[if_neg (by omega),if_neg (by omega)]
theorem Ki {b:Nat}{s:List Nat}(h:E3.O b=some ([3]++s)):(E.out E3 bo mm).O b=some ([9,1]++s):=by
 show Zq E bo mm E3.O b=_
 simp only[Zq,h,List.cons_append,List.nil_append]
theorem Vz (hlim:∀b q,E.O b=some q→b<E.w.heap.size){L':List (List Nat)}(P3:zy L' (E.sub bo false mm pb po pk) E3){b:Nat}(h:E3.O b=none):(E.out E3 bo mm).O b=none:=by
 show Zq E bo mm E3.O b=none
 simp only[Zq,h]
 split
 · rename_i id r hO
   cases hi:jb bo id with
   |some j=>rfl
   | none=>
     have h0:=JE (ln:=false) (mm:=mm) (pb:=pb) (po:=po) (pk:=pk) (E:=E) (bo:=bo) (b:=b) (ℓ:=1::id::r) hi hO
     rw[(P3.far b _ h0).1] at h
     cases h
 · rfl
 · rename_i h1 h2
   cases hO:E.O b with
   |none=>rfl
   | some ℓ=>
     have hh:kM bo ℓ:=by
      unfold kM
      split
      · exact absurd hO (h1 _ _)
      · exact h2 _ hO
      · trivial
     have h0:=JE (ln:=false) (mm:=mm) (pb:=pb) (po:=po) (pk:=pk) (E:=E) (bo:=bo) (b:=b) hh hO
     rw[(P3.far b _ h0).1] at h
     cases h
theorem uD {L':List (List Nat)}{h:Heap}(hn:E.n=h.length)(hbo:bo.all (fun i=>decide (i<h.length))=true)(hm:bo.length≤mm)(h3:mm≤E3.n)(P3:zy L' (E.sub bo ln mm pb po pk) E3):QO E3 (E.out E3 bo mm) (zU bo mm h.length):=fun j id hg hj=>by
 unfold zU at hg
 split at hg
 · rename_i hlt
   obtain⟨h1,h2⟩:=j9 hg
   have hid:id<E.n:=by
    have:=List.all_eq_true.1 hbo id (List.mem_of_getElem? hg)
    rw[hn];exact of_decide_eq_true this
   obtain⟨e1,e2,e3⟩:=P3.ids.2 j (show j<mm by omega)
   refine⟨show id<E.n+(E3.n - mm) by omega,?_,?_,?_⟩
   · show(if id<E.n then E.ρ id else _)=_
     rw[if_pos hid,e1]
     show _=(if j<bo.length then E.ρ (bo.getD j 0) else _)
     rw[if_pos hlt,h1]
   · show(if id<E.n then E.β id else _)=_
     rw[if_pos hid,e2]
     show _=(if j<bo.length then E.β (bo.getD j 0) else _)
     rw[if_pos hlt,h1]
   · show(if id<E.n then E.κ id else _)=_
     rw[if_pos hid,e3]
     show _=(if j<bo.length then E.κ (bo.getD j 0) else _)
     rw[if_pos hlt,h1]
 · split at hg
   · cases hg
   · rename_i h1 h2
     cases hg
     have e:mm+(h.length+(j - mm) - h.length)=j:=by omega
     refine⟨show h.length+(j - mm)<E.n+(E3.n - mm) by omega,?_,?_,?_⟩
     · show(if h.length+(j - mm)<E.n then E.ρ _ else E3.ρ (mm+(h.length+(j - mm) - E.n)))=_
       rw[if_neg (by omega),hn,e]
     · show(if h.length+(j - mm)<E.n then E.β _ else E3.β (mm+(h.length+(j - mm) - E.n)))=_
       rw[if_neg (by omega),hn,e]
     · show(if h.length+(j - mm)<E.n then E.κ _ else E3.κ (mm+(h.length+(j - mm) - E.n)))=_
       rw[if_neg (by omega),hn,e]
theorem Vy (hlim:∀b q,E.O b=some q→b<E.w.heap.size)(hm:bo.length≤mm)(h3:mm≤E3.n)(P3:zy (zQ bo L) (E.sub bo ln mm pb po pk) E3):zy L E (E.out E3 bo mm) where
 size:=P3.size
 os:=P3.os
 tape:=P3.tape
 output:=P3.output
 old b hb hs:=by
  obtain⟨h1,h2⟩:=ZS hlim P3 (.inl ⟨hb,hs⟩)
  exact⟨h1.trans hb,h2⟩
 far b r hb:=by
  obtain⟨h1,h2⟩:=ZS hlim P3 (.inr ⟨_,hb,trivial⟩)
  exact⟨h1.trans hb,h2⟩
 farB b r hb:=by
  have hb':Zq E bo mm E3.O b=some (2::r):=hb
  unfold Zq at hb'
  split at hb'
  · split at hb'
    · cases hb'
    · split at hb'<;>cases hb'
  · cases hb'
  · split at hb'
    · split at hb'<;>cases hb'
    · cases hb'
    · exact hb'
 ids:=⟨show E.n≤E.n+(E3.n - mm) by omega,fun id hid=>⟨if_pos hid,if_pos hid,if_pos hid⟩⟩
 keep b r hr hb hs:=by
  have hid:kM bo r→((E.out E3 bo mm).O b=some r∨(E.out E3 bo mm).O b=none)∧(E.out E3 bo mm).w.heap[b]?=E.w.heap[b]?:=fun hh=>by
   obtain⟨h1,h2⟩:=ZS hlim P3 (.inr ⟨_,hb,hh⟩)
   exact⟨.inl (h1.trans hb),h2⟩
  match r,hr,hb,hid with
  |[],hr,_,_=>rcases hr.2 with h|h<;>cases h
  | x :: r, hr,hb,hid=>
    have hx:x=0∨x=1:=by
     rcases hr.2 with h|h
     · exact .inl (by simpa using h)
     · exact .inr (by simpa using h)
    rcases hx with rfl|rfl
    · exact hid trivial
    · cases r with
      |nil=>exact hid trivial
      | cons id s=>
        cases hi:jb bo id with
        |none=>exact hid hi
        | some j=>
          have hw:kL (zQ bo L) (1::j::s):=⟨JY hi hr.1,.inr rfl⟩
          have hO:(E.sub bo ln mm pb po pk).O b=some (1::j::s):=w0 hi hb
          obtain⟨h1,h2⟩:=P3.keep b _ hw hO hs
          refine⟨?_,h2⟩
          rcases h1 with h1|h1
          · exact .inl (VA P3 (QB hi) h1)
          · refine .inr ?_
            show Zq E bo mm E3.O b=none
            simp only[Zq,h1,hb,hi]
theorem Kk (hlim:∀b q,E.O b=some q→b<E.w.heap.size){L':List (List Nat)}(P3:zy L' (E.sub bo ln mm pb po pk) E3)(hl3:∀b q,E3.O b=some q→b<E3.w.heap.size):∀b q,(E.out E3 bo mm).O b=some q→b<E3.w.heap.size:=fun b q h=>by
 have h':Zq E bo mm E3.O b=some q:=h
 cases hO:E3.O b with
 |some ℓ=>exact hl3 b ℓ hO
 | none=>
   unfold Zq at h'
   rw[hO] at h'
   simp only[] at h'
   cases hE:E.O b with
   |none=>rw[hE] at h';simp at h'
   |some ℓ=>exact Nat.lt_of_lt_of_le (hlim b ℓ hE) P3.size
theorem zi.hrel (R:zi E N V st tm):WI E st.h:=⟨R.num,R.lim,R.objs⟩
end
end Go.Ga

namespace Go.Ga
open Go
def gg (h:Heap)(bo:List Nat)(ln:Bool):za→za
 | .ptr id c=>match jb bo id with
   |some j=> .ptr j c
   | none=>match ln,h[id]? with
     |true,some (some cs)=> .ia ((za.renL (jb bo) (za.freezeL cs)).drop c)
     |_,_=> .dead
 | .sl id off len sz=>match jb bo id with
   |some j=> .sl j off len sz
   | none=>match ln,h[id]? with
     |true,some (some cs)=>if 0<sz∧off+len*sz≤cs.length then .imm sz (((za.renL (jb bo) (za.freezeL cs)).drop off).take (len*sz)) else .dead
     |_,_=> .dead
 |A=>bif A.copyable then A.ren (jb bo) else bif ln then A.freeze.ren (jb bo) else .dead
def g6 (h:Heap)(bo:List Nat)(ln:Bool):za→za
 | .agg cs=>bif (za.agg cs).copyable then .agg (cs.map (gg h bo ln)) else gg h bo ln (.agg cs)
 |A=>gg h bo ln A
def Y3 (bo:List Nat):List Nat→Bool
 |0::_=>true
 |1::id::_=>(jb bo id).isNone
 |_=>false
def ky (st:zb)(bo:List Nat)(ln:Bool)(x:zm):za:=
 match st.evA x with
 | .at_ p=>match ln&&Y3 bo p,st.at p with
   |true,some B=>B.freeze.ren (jb bo)
   |_,_=> .dead
 | .addr p c=>match ln&&Y3 bo p,st.at p with
   |true,some (.own _ cs)=> .ia ((za.renL (jb bo) (za.freezeL cs)).drop c)
   |_,_=> .dead
 |A=>g6 st.h bo ln A
section
variable {L:List (List Nat)} {E E3:Env} {N:Nat} {V:List Nat} {st:zb} {tm:Array Value} {bo:List Nat} {ln:Bool} {mm pb po pk:Nat}
theorem WJ {p s:List Nat}(h:Y3 bo p=true):kM bo (p++s):=by
 unfold Y3 at h
 split at h
 · trivial
 · exact Option.isNone_iff_eq_none.1 h
 · cases h
theorem Jl (hmm:bo.length≤mm){p:List Nat}(hp:Y3 bo p=true){q:Option (List Nat)}{A:za}{v:Value}(h:VRel E q A v)(hq:q=none∨∃r,q=some (p++r))(q':Option (List Nat)):
    VRel (E.sub bo true mm pb po pk) q' (A.freeze.ren (jb bo)) v:=
  h.renF (p:=p) (JD hmm) (Nat.le_refl _) (fun _ h _=>⟨jm h,rfl⟩) (fun _ s h _=>⟨JE (WJ hp) h,rfl⟩) hq q'
theorem vS (hmm:bo.length≤mm){A:za}{v:Value}(h:VRel E none A v)(q':Option (List Nat)):VRel (E.sub bo ln mm pb po pk) q' (A.ren (jb bo)) v:=
 h.renN (JD hmm) (Nat.le_refl _) (fun _ h _=>⟨jm h,rfl⟩) q'
theorem QR (hmm:bo.length≤mm)(H:WI E st.h){q:Option (List Nat)}{A:za}{v:Value}(h:VRel E q A v)(hq:q=none∨∃i r,q=some ([0,i]++r))(q':Option (List Nat)):
    VRel (E.sub bo ln mm pb po pk) q' (gg st.h bo ln A) v:=by
  have gen:(A.copyable=true∨ln=true∨ln=false)→VRel (E.sub bo ln mm pb po pk) q' (bif A.copyable then A.ren (jb bo) else bif ln then A.freeze.ren (jb bo) else .dead) v:=fun _=>by
    cases hc:A.copyable with
    |true=>exact vS hmm (h.copy none hc) q'
    | false=>
      cases ln with
      |false=>exact .dead _ _
      | true=>
        rcases hq with rfl|⟨i,r,rfl⟩
        · exact Jl hmm (p:=[0,0]) rfl h (.inl rfl) q'
        · exact Jl hmm (p:=[0,i]) rfl h (.inr ⟨r,rfl⟩) q'
  have gen':=gen (by cases ln<;>simp)
  cases A with
  | ptr id c=>
    simp only[gg]
    have h0:=VRel.renPtr (po':=q') (JD (ln:=ln) (pb:=pb) (po:=po) (pk:=pk) hmm) h
    cases hi:jb bo id with
    |some j=>simp only[za.ren,hi] at h0;exact h0
    | none=>
      simp only[]
      split
      · rename_i cs hcs
        obtain⟨hO,arr,T,f,hb,ha,hl,hf,hv⟩:=H.objs id cs hcs
        cases h with
        | ptr _ _ _ hn=>
          refine VRel.iaDrop (.ia _ _ _ _ f (JE (ln:=true) (ℓ:=[1,id]) hi hO) (hb.lt) (fun k A hA=>?_) fun k A hA=>?_) c
          · obtain⟨B,hB,_⟩:=ze hA
            obtain⟨C,hC,_⟩:=zx hB
            exact(hb.cell).trans (hf k C hC)
          · obtain⟨B,hB,rfl⟩:=ze hA
            obtain⟨C,hC,rfl⟩:=zx hB
            exact Jl hmm (p:=[1,id]) (by simp[Y3,hi]) (hv k C hC) (.inr ⟨_,rfl⟩) none
      · exact .dead _ _
  | sl id off len sz=>
    simp only[gg]
    have h0:=VRel.renSl (po':=q') (JD (ln:=ln) (pb:=pb) (po:=po) (pk:=pk) hmm) h
    cases hi:jb bo id with
    |some j=>simp only[za.ren,hi] at h0;exact h0
    | none=>
      simp only[]
      split
      · rename_i cs hcs
        split
        · rename_i hfit
          obtain⟨hO,arr,T,f,hb,ha,hl,hf,hv⟩:=H.objs id cs hcs
          cases h with
          | sl _ _ _ _ cap _ hn hc hm hk=>
            have hget:∀k A,(((za.renL (jb bo) (za.freezeL cs)).drop off).take (len*sz))[k]?=some A→∃C,cs[off+k]?=some C∧A=C.freeze.ren (jb bo):=fun k A hA=>by
              obtain⟨hA,_⟩:=QW _ _ hA
              obtain⟨B,hB,rfl⟩:=ze hA
              obtain⟨C,hC,rfl⟩:=zx hB
              exact⟨C,hC,rfl⟩
            refine .imm _ _ _ _ _ len cap (fun k=>f (off+k)) (JE (ln:=true) (ℓ:=[1,id]) hi hO) (hb.lt) ⟨hfit.1,?_⟩ hc (fun k A hA=>?_) fun k A hA=>?_
            · rw[List.length_take,List.length_drop,zg,zV];omega
            · obtain⟨C,hC,_⟩:=hget k A hA
              rw[Nat.add_assoc]
              exact(hb.cell).trans (hf _ C hC)
            · obtain⟨C,hC,rfl⟩:=hget k A hA
              exact Jl hmm (p:=[1,id]) (by simp[Y3,hi]) (hv _ C hC) (.inr ⟨_,rfl⟩) none
        · exact .dead _ _
      · exact .dead _ _
  |_=>exact gen'
theorem qv (hmm:bo.length≤mm)(H:WI E st.h){q:Option (List Nat)}{A:za}{v:Value}(h:VRel E q A v)(hq:q=none∨∃i r,q=some ([0,i]++r))(q':Option (List Nat)):
    VRel (E.sub bo ln mm pb po pk) q' (g6 st.h bo ln A) v:=by
  unfold g6
  split
  · rename_i cs
    cases hc:(za.agg cs).copyable with
    |false=>exact QR hmm H h hq q'
    | true=>
      have h0:=h.copy none hc
      cases h0 with
      | agg _ _ vs hs hh=>
        refine .agg _ _ vs (by rw[List.length_map];exact hs) fun k A v h1 h2=>?_
        rw[List.getElem?_map] at h1
        obtain⟨B,hB,rfl⟩:=Option.map_eq_some_iff.1 h1
        exact QR hmm H (hh k B v hB h2) (.inl rfl) _
  · exact QR hmm H h hq q'
end
section
variable {L:List (List Nat)} {E E3:Env} {N:Nat} {V:List Nat} {st:zb} {a:Act} {bo:List Nat} {ln:Bool} {mm pb po pk:Nat}
theorem ut (hmm:bo.length≤mm)(R:zi E N V st a.tmps){x:Operand}{ox:zm}(hx:zd x=some ox)(q':Option (List Nat)):VRel (E.sub bo ln mm pb po pk) q' (ky st bo ln ox) (a.eval x):=by
  unfold ky
  split
  · rename_i p hA
    split
    · rename_i B hok hB
      simp only[Bool.and_eq_true] at hok
      obtain⟨rfl,hok⟩:=hok
      obtain⟨B',v,h1,h2,h3,h4,h5⟩:=Q2 R hx hA
      rw[hB] at h1
      cases h1
      rw[h4]
      exact Jl hmm hok h5 (.inr ⟨[],by simp⟩) q'
    · exact .dead _ _
  · rename_i p c hA
    split
    · rename_i hd cs hok hB
      simp only[Bool.and_eq_true] at hok
      obtain⟨rfl,hok⟩:=hok
      obtain⟨hd',cs',v,b,o',h1,h2,h3,h4,h5⟩:=jP R hx hA
      rw[hB] at h1
      cases h1
      rw[h4]
      have key:∀(arr:Array Value) (T:TypeId) (f:Nat→Value),E.O b=some p→Jw E.w b arr T→(∀k A,cs[k]?=some A→arr[o'+k]?=some (f k))→(∀(k:Nat) A,cs[k]?=some A→VRel E (some (p++[k])) A (f k))→
          VRel (E.sub bo true mm pb po pk) q' (.ia ((za.renL (jb bo) (za.freezeL cs)).drop c)) (.pointer (some ⟨b,o'+c,none⟩)):=fun arr T f hO hb hf hv=>by
        refine VRel.iaDrop (.ia _ _ _ _ f (JE (ln:=true) (ℓ:=p) (by simpa using WJ (s:=[]) hok) hO) (hb.lt) (fun k A hA=>?_) fun k A hA=>?_) c
        · obtain⟨B,hB,_⟩:=ze hA
          obtain⟨C,hC,_⟩:=zx hB
          exact(hb.cell).trans (hf k C hC)
        · obtain⟨B,hB,rfl⟩:=ze hA
          obtain⟨C,hC,rfl⟩:=zx hB
          exact Jl hmm hok (hv k C hC) (.inr ⟨_,rfl⟩) none
      cases h5 with
      |own _ sz _ _ _ len cap arr T f hO hb hl hc hm ha hf hv=>cases h3;exact key arr T f hO hb hf hv
      |ownNil=>cases h3
      |box _ _ _ arr T f hO hb ha hf hv=>cases h3;exact key arr T f hO hb (fun k A h=>by rw[Nat.zero_add];exact hf k A h) hv
    · exact .dead _ _
  · rename_i A h1 h2
    generalize hA:st.evA ox=A at h1 h2
    have hn:A.isAlias=false∨A= .dead:=by
      cases A<;>first
        |exact .inl rfl
        |exact .inr rfl
        |exact absurd rfl (h1 _)
        |exact absurd rfl (h2 _ _)
    rcases hn with hn|rfl
    · obtain⟨v,po',h3,h4,h5⟩:=zj R hx (zO hA hn) hn
      rw[h3]
      cases ox with
      | t i=>
        obtain⟨_,rfl⟩:=h5 i rfl
        exact qv hmm R.hrel h4 (.inr ⟨i,[],rfl⟩) q'
      | c u=>
        cases hA
        cases h4
        exact .sc _ _
      | f g=>
        cases hA
        exact qv (q:=none) hmm R.hrel (h4.copy none rfl) (.inl rfl) q'
    · cases ln<;>exact .dead _ _
end
end Go.Ga

namespace Go.Ga
open Go
def qN (g gb:Nat→Option Nat)(h':Heap):Nat→Heap→Heap
 |_,[]=>[]
 | i,o::l=>(match g i with
   | some j=>match h'[j]? with
     |some (some cs)=>some (za.renL gb cs)
     |_=>none
   |none=>o)::qN g gb h' (i+1) l
def QE :Heap→Bool
 |[]=>true
 |none::l=>QE l
 |some cs::l=>za.flatL cs&&QE l
def qb (g:Nat→Option Nat):Heap→Heap
 |[]=>[]
 |none::l=>none::qb g l
 |some cs::l=>some (za.renL g cs)::qb g l
theorem jn (g gb:Nat→Option Nat)(h':Heap):∀(i:Nat) (l:Heap),(qN g gb h' i l).length=l.length
 |_,[]=>rfl
 |i,o::l=>by simp[qN,jn g gb h' (i+1) l]
theorem J7 (g gb:Nat→Option Nat)(h':Heap):∀(i:Nat) (l:Heap) (k:Nat),(qN g gb h' i l)[k]?=(l[k]?).map fun o=>match g (i+k) with
    | some j=>match h'[j]? with
      |some (some cs)=>some (za.renL gb cs)
      |_=>none
    |none=>o
  |_,[],k=>by simp[qN]
  |i,o::l,0=>by simp[qN]
  | i,o::l,k+1=>by
    simp only[qN,List.getElem?_cons_succ,J7 g gb h' (i+1) l k]
    rw[show i+1+k=i+(k+1) by omega]
theorem yY (g:Nat→Option Nat):∀l:Heap,(qb g l).length=l.length
 |[]=>rfl
 |none::l=>by simp[qb,yY g l]
 |some cs::l=>by simp[qb,yY g l]
theorem yZ (g:Nat→Option Nat):∀(l:Heap) (k:Nat) {cs:List za},(qb g l)[k]?=some (some cs)→∃cs',l[k]?=some (some cs')∧cs=za.renL g cs'
 |[],k,_,h=>by simp[qb] at h
 |none::l,0,_,h=>by simp[qb] at h
 |some cs::l,0,_,h=>by simp[qb] at h;exact⟨cs,rfl,h.symm⟩
 |none::l,k+1,_,h=>yZ g l k (by simpa[qb] using h)
 |some cs::l,k+1,_,h=>yZ g l k (by simpa[qb] using h)
theorem qJ :∀{l:Heap} {k:Nat} {cs:List za},QE l=true→l[k]?=some (some cs)→za.flatL cs=true
 |[],_,_,_,h=>by simp at h
 |none::l,0,_,_,h=>by simp at h
 |some cs::l,0,_,hf,h=>by simp at h;subst h;simp only[QE,Bool.and_eq_true] at hf;exact hf.1
 |none::l,k+1,_,hf,h=>qJ (l:=l) (k:=k) hf (by simpa using h)
 |some cs::l,k+1,_,hf,h=>by simp only[QE,Bool.and_eq_true] at hf;exact qJ (l:=l) (k:=k) hf.2 (by simpa using h)
def Ys (bo:List Nat)(L:List (List Nat))(gb:Nat→Option Nat)(h':Heap):za→Bool
 | .at_ (1::id::c::ks)=>match jb bo id with
   |none=>false
   | some j=> !(ks.isEmpty&&L.contains [1,id]&&match h'[j]? with
     | some (some cs)=>match cs[c]? with
       |some B=> !(B.ren gb).isAlias
       |none=>false
     |_=>false)
 | .addr (1::id::_::_) _=>(jb bo id).isSome
 |_=>false
theorem Y9 {bo:List Nat}{L:List (List Nat)}{gb:Nat→Option Nat}{h':Heap}{A:za}(h:A.isAlias=false):Ys bo L gb h' A=false:=by
 cases A<;>simp[za.isAlias] at h<;>rfl
def zb.after (st:zb)(bo:List Nat)(L:List (List Nat))(mm:Nat)(h':Heap):zb:=
 let gb:=zU bo mm st.h.length
 let s:=st.kill (Ys bo L gb h')
 {s with h:=qN (jb bo) gb h' 0 st.h++qb gb (h'.drop mm)}
theorem VRel.wayP {E E':Env}{p0:List Nat}(hk:∀b q,E.O b=some (p0++q)→E'.w.heap[b]?=E.w.heap[b]?):∀(ks:List Nat) {ℓ:List Nat} {A B:za} {v:Value},VRel E (some (p0++ℓ)) A v→A.sub ks=some B→zF E'.w v ks=zF E.w v ks:=by
 intro ks
 induction ks with
 |nil=>intro ℓ A B v _ _;cases v<;>simp[zF]
 | cons k ks ih=>
   intro ℓ A B v h hB
   cases h with
   | own _ sz cs b o len cap arr T f hO hb hl hc hm ha hf h=>
     simp only[za.sub,za.kids] at hB
     cases hk':cs[k]? with
     |none=>simp[hk'] at hB
     | some C=>
       simp only[hk'] at hB
       have hb':=hk b ℓ hO
       simp only[zF,hb.cell,(hb.keep hb').cell,hf k C hk']
       exact ih (ℓ:=ℓ++[k]) (by simpa using h k C hk') hB
   | box _ cs b arr T f hO hb ha hf h=>
     simp only[za.sub,za.kids] at hB
     cases hk':cs[k]? with
     |none=>simp[hk'] at hB
     | some C=>
       simp only[hk'] at hB
       have hb':=hk b ℓ hO
       simp only[zF,Nat.zero_add,hb.cell,(hb.keep hb').cell,hf k C hk']
       exact ih (ℓ:=ℓ++[k]) (by simpa using h k C hk') hB
   | agg _ cs vs hs h=>
     simp only[za.sub,za.kids] at hB
     cases hk':cs[k]? with
     |none=>simp[hk'] at hB
     | some C=>
       simp only[hk'] at hB
       have hlt:k<vs.size:=by rw[hs];exact(List.getElem?_eq_some_iff.1 hk').1
       simp only[zF]
       rw[Array.getElem?_eq_getElem hlt]
       exact ih (ℓ:=ℓ++[k]) (by simpa using h k C _ hk' (Array.getElem?_eq_getElem hlt)) hB
   | tup _ cs vs hs h=>
     simp only[za.sub,za.kids] at hB
     cases hk':cs[k]? with
     |none=>simp[hk'] at hB
     | some C=>
       simp only[hk'] at hB
       have hlt:k<vs.size:=by rw[hs];exact(List.getElem?_eq_some_iff.1 hk').1
       simp only[zF]
       rw[Array.getElem?_eq_getElem hlt]
       exact ih (ℓ:=ℓ++[k]) (by simpa using h k C _ hk' (Array.getElem?_eq_getElem hlt)) hB
   |_=>simp[za.sub,za.kids] at hB
theorem VRel.pres {L:List (List Nat)}{E E':Env}{A:za}{v:Value}(h:VRel E none A v)(P:zy L E E'):VRel E' none A v:=
 h.keep P.ids P.size fun b hb=>by
  rcases hb with hb|⟨ℓ,q,hℓ,_⟩
  · obtain⟨h1,h2⟩:=P.old b hb.1 hb.2
    exact⟨h1.trans hb.1.symm,h2⟩
  · cases hℓ
section
variable {L:List (List Nat)} {E E3:Env} {N:Nat} {V:List Nat} {st:zb} {tm:Array Value} {bo:List Nat} {ln:Bool} {mm pb po pk:Nat} {h':Heap}
theorem uG (hlim:∀b q,E.O b=some q→b<E.w.heap.size){L':List (List Nat)}(P3:zy L' (E.sub bo ln mm pb po pk) E3){p:List Nat}(hp:∀s,kM bo (p++s)){A:za}{v:Value}(h:VRel E (some p) A v):VRel (E.out E3 bo mm) (some p) A v:=
 VRel.keep (E:=E) (E':=E.out E3 bo mm) ⟨show E.n≤E.n+(E3.n - mm) by omega,fun id hid=>⟨if_pos hid,if_pos hid,if_pos hid⟩⟩ P3.size h fun b hb=>by
  rcases hb with hb|⟨ℓ,q,hℓ,hO,hpre⟩
  · exact ZS hlim P3 (.inl hb)
  · cases hℓ
    obtain⟨s,rfl⟩:=hpre
    exact ZS hlim P3 (.inr ⟨_,hO,hp s⟩)
theorem YP (hlim:∀b q,E.O b=some q→b<E.w.heap.size)(hn:E.n=st.h.length)(hbo:bo.all (fun i=>decide (i<st.h.length))=true)(hm:bo.length≤mm)(h3:mm≤E3.n){L':List (List Nat)}(P3:zy L' (E.sub bo ln mm pb po pk) E3){p q:List Nat}
    (hpq:∀b s,E3.O b=some (p++s)→(E.out E3 bo mm).O b=some (q++s)) {A:za} (hf:ln=true→A.flat=true) {r:List Nat} {v:Value} (h:VRel E3 (some (p++r)) A v):VRel (E.out E3 bo mm) (some (q++r)) (A.ren (zU bo mm st.h.length)) v:=by
  cases hl:ln with
  |true=>exact(h.renX (uD hn hbo hm h3 P3) (fun b s hb=>⟨hpq b s hb,rfl⟩) (hf hl) r).2 rfl
  |false=>subst hl;exact h.renK (uD hn hbo hm h3 P3) (Nat.le_refl _) (fun b hb _=>⟨Vz hlim P3 hb,rfl⟩) (fun b s hb=>⟨hpq b s hb,rfl⟩)
theorem yd (i:Nat):(st.after bo L mm h').get i=bif Ys bo L (zU bo mm st.h.length) h' (st.get i) then .dead else st.get i:=zb.get_kill st _ i
theorem Yp {i:Nat}(s:List Nat):kM bo ([0,i]++s):=trivial
theorem qH {id:Nat}(h:jb bo id=none)(s:List Nat):kM bo ([1,id]++s):=h
theorem zi.after (R : zi E N V st tm)(hnd:qd bo=true)(hbo:bo.all (fun i=>decide (i<st.h.length))=true)(hm:bo.length≤mm)(P3:zy (zQ bo L) (E.sub bo ln mm pb po pk) E3)(H3:WI E3 h')(hmm:mm≤h'.length)
    (hfl:ln=true→QE h'=true):zi (E.out E3 bo mm) N V (st.after bo L mm h') tm:=by
  have hna:∀A:za,A.isAlias=false→Ys bo L (zU bo mm st.h.length) h' A=false:=fun A h=>Y9 h
  have R1:=R.kill hna
  have h3:mm≤E3.n:=by rw[H3.num];exact hmm
  have hhid:∀id,jb bo id=none→(st.after bo L mm h').h[id]?=st.h[id]?∨st.h[id]?=none:=fun id hid=>by
    rcases Nat.lt_or_ge id st.h.length with hlt|hge
    · left
      show(qN _ _ _ 0 st.h++_)[id]?=_
      rw[List.getElem?_append_left (by rw[jn];exact hlt),J7]
      simp[hid]
    · exact .inr (List.getElem?_eq_none hge)
  refine⟨R1.size,R1.keys,?_,R1.disj,Kk R.lim P3 H3.lim,R1.roots,fun i=>?_,fun id cs hcs=>?_⟩
  · show E.n+(E3.n - mm)=(qN _ _ _ 0 st.h++qb _ (h'.drop mm)).length
    rw[List.length_append,jn,yY,List.length_drop,R.num,H3.num]
  · 
    have hway0:∀j ks B,st.at (0::j::ks)=some B→B.isAlias=false→zr (E.out E3 bo mm) tm (0::j::ks)=zr E tm (0::j::ks):=fun j ks B hB hA=>by
      cases ks with
      |nil=>simp[zr,zF]
      | cons k ks=>
        rw[zB] at hB
        obtain⟨v,hv,hr⟩:=(R.slots j).out (za.sub_cons_nonalias hB)
        simp only[zr,hv]
        exact VRel.wayP (p0:=[0,j]) (E:=E) (E':=E.out E3 bo mm) (fun b q hb=>(ZS R.lim P3 (.inr ⟨_,hb,Yp q⟩)).2) (k::ks) (ℓ:=[]) (by simpa using hr) hB
    have hat0:∀j ks B,st.at (0::j::ks)=some B→B.isAlias=false→(st.after bo L mm h').at (0::j::ks)=some B:=fun j ks B hB hA=>by
      rw[zB] at hB⊢
      rw[yd]
      cases ks with
      | nil=>
        have:st.get j=B:=by simpa[za.sub] using hB
        rw[this,hna B hA];simp[za.sub]
      |cons k ks=>rw[hna _ (za.sub_cons_nonalias hB)];exact hB
    have hway1:∀id c ks B,jb bo id=none→st.at (1::id::c::ks)=some B→(st.after bo L mm h').at (1::id::c::ks)=some B∧zr (E.out E3 bo mm) tm (1::id::c::ks)=zr E tm (1::id::c::ks):=fun id c ks B hid hB=>by
      simp only[zb.at] at hB⊢
      split at hB
      · rename_i cs hcs
        have hcs':(st.after bo L mm h').h[id]?=some (some cs):=by
          rcases hhid id hid with h|h
          · rw[h];exact hcs
          · rw[h] at hcs;cases hcs
        rw[hcs']
        refine⟨hB,?_⟩
        obtain⟨hO,arr,T,f,hb,ha,hl,hf,hv⟩:=R.objs id cs hcs
        have hidn:id<E.n:=by rw[R.num];exact(List.getElem?_eq_some_iff.1 hcs).1
        have hb':=(ZS R.lim P3 (.inr ⟨_,hO,qH hid []⟩)).2
        simp only[za.sub,za.kids] at hB
        cases hk:cs[c]? with
        |none=>simp[hk] at hB
        | some D=>
          simp only[hk] at hB
          have e1:(E.out E3 bo mm).ρ id=E.ρ id:=if_pos hidn
          have e2:(E.out E3 bo mm).β id=E.β id:=if_pos hidn
          simp only[zr,Env.ptr,zF,e1,e2,hb.cell,(Jw.keep (w':=(E.out E3 bo mm).w) hb hb').cell,hf c D hk]
          exact VRel.wayP (p0:=[1,id]) (E:=E) (E':=E.out E3 bo mm) (fun b q hb=>(ZS R.lim P3 (.inr ⟨_,hb,qH hid q⟩)).2) ks (ℓ:=[c]) (hv c D hk) hB
      · cases hB
    have hR:=R.slots i
    rw[yd]
    cases hg:Ys bo L (zU bo mm st.h.length) h' (st.get i) with
    |true=>trivial
    | false =>
      simp only[cond_false]
      generalize hAi:st.get i=A at hg hR
      have val:A.isAlias=false→Zt (E.out E3 bo mm) (st.after bo L mm h') tm i A:=fun hA=>by
        obtain⟨v,hv,hr⟩:=hR.out hA
        exact Zt.mk hv (uG R.lim P3 (p:=[0,i]) Yp hr)
      cases A with
      |dead=>trivial
      | at_ p =>
        obtain⟨B,v,h1,h2,h3',h4⟩:=hR
        match p,zq h1,h1,h3',hg with
        |0::j::ks,_,h1,h3',_=>exact⟨B,v,hat0 j ks B h1 h2,h2,(hway0 j ks B h1 h2).trans h3',h4⟩
        | 1 :: id ::c::ks,_,h1,h3',hg=>
          simp only[Ys] at hg
          split at hg
          · rename_i hid
            obtain⟨h5,h6⟩:=hway1 id c ks B hid h1
            exact⟨B,v,h5,h2,h6.trans h3',h4⟩
          · rename_i j hid
            simp only[Bool.not_eq_false',Bool.and_eq_true,List.isEmpty_iff,List.contains_iff_mem] at hg
            obtain⟨⟨rfl,hL⟩,hg⟩:=hg
            split at hg
            · rename_i cs' hcs'
              split at hg
              · rename_i B' hB'
                simp only[zb.at] at h1
                split at h1
                · rename_i cs hcs
                  obtain⟨hO,arr,T,f,hb,ha,hl,hf,hv⟩:=R.objs id cs hcs
                  have hidl:id<st.h.length:=(List.getElem?_eq_some_iff.1 hcs).1
                  have hidn:id<E.n:=by rw[R.num];exact hidl
                  have hw:kL (zQ bo L) [1,j]:=⟨JY hid hL,.inr rfl⟩
                  have hO2:(E.sub bo ln mm pb po pk).O (E.ρ id)=some [1,j]:=w0 (s:=[]) hid hO
                  have hb':=(P3.keep _ _ hw hO2 (hb.lt)).2
                  refine⟨B'.ren (zU bo mm st.h.length),v,?_,by simpa using hg,?_,h4⟩
                  · have e:(st.after bo L mm h').h[id]?=some (some (za.renL (zU bo mm st.h.length) cs')):=by
                      show(qN _ _ _ 0 st.h++_)[id]?=_
                      rw[List.getElem?_append_left (by rw[jn];exact hidl),J7,hcs]
                      simp[hid,hcs']
                    simp only[zb.at,e,za.sub,za.kids,yX,hB',Option.map_some]
                  · rw[←h3']
                    have e1:(E.out E3 bo mm).ρ id=E.ρ id:=if_pos hidn
                    have e2:(E.out E3 bo mm).β id=E.β id:=if_pos hidn
                    have e3:(E.out E3 bo mm).w.cell? ⟨E.ρ id,E.β id+c,none⟩=E.w.cell? ⟨E.ρ id,E.β id+c,none⟩:=Zs hb'
                    simp only[zr,Env.ptr,zF,e1,e2,e3]
                · cases h1
              · cases hg
            · cases hg
      | addr p k=>
        obtain⟨hd,cs,v,b,o,h1,h2,h3',h4⟩:=hR
        match p,zq h1,h1,h2,hg with
        |0::j::ks,_,h1,h2,_=>exact⟨hd,cs,v,b,o,hat0 j ks _ h1 rfl,(hway0 j ks _ h1 rfl).trans h2,h3',h4⟩
        | 1::id::c::ks,_,h1,h2,hg=>
          have hid:jb bo id=none:=by simpa[Ys] using hg
          obtain⟨h5,h6⟩:=hway1 id c ks _ hid h1
          exact⟨hd,cs,v,b,o,h5,h6.trans h2,h3',h4⟩
      |_=>exact val rfl
  · 
    have hcs':(qN (jb bo) (zU bo mm st.h.length) h' 0 st.h++qb (zU bo mm st.h.length) (h'.drop mm))[id]?=some (some cs):=hcs
    have back:∀j cs0,h'[j]?=some (some cs0)→(∀b s,E3.O b=some ([1,j]++s)→(E.out E3 bo mm).O b=some ([1,id]++s))→(E.out E3 bo mm).ρ id=E3.ρ j→(E.out E3 bo mm).β id=E3.β j→(E.out E3 bo mm).κ id=E3.κ j→
        JU (E.out E3 bo mm) id (za.renL (zU bo mm st.h.length) cs0):=fun j cs0 hj hO' e1 e2 e3=>by
      obtain⟨hO,arr,T,f,hb,ha,hl,hf,hv⟩:=H3.objs j cs0 hj
      refine⟨?_,arr,T,f,?_,?_,?_,fun k A hk=>?_,fun k A hk=>?_⟩
      · rw[e1];simpa using hO' _ [] (by simpa using hO)
      · rw[e1];exact hb
      · rw[e2,e3];exact ha
      · rw[e3,zg];exact hl
      · obtain⟨B,hB,_⟩:=ze hk
        rw[e2];exact hf k B hB
      · obtain⟨B,hB,rfl⟩:=ze hk
        exact YP R.lim R.num hbo hm h3 P3 hO' (fun hl=>Zl (qJ (hfl hl) hj) hB) (hv k B hB)
    rcases Nat.lt_or_ge id st.h.length with hlt|hge
    · rw[List.getElem?_append_left (by rw[jn];exact hlt),J7,List.getElem?_eq_getElem hlt] at hcs'
      simp only[Option.map_some,Option.some.injEq,Nat.zero_add] at hcs'
      have hidn:id<E.n:=by rw[R.num];exact hlt
      cases hid:jb bo id with
      | none=>
        rw[hid] at hcs'
        simp only[] at hcs'
        obtain⟨hO,arr,T,f,hb,ha,hl,hf,hv⟩:=R.objs id cs (by rw[List.getElem?_eq_getElem hlt,hcs'])
        have e1:(E.out E3 bo mm).ρ id=E.ρ id:=if_pos hidn
        have e2:(E.out E3 bo mm).β id=E.β id:=if_pos hidn
        have e3:(E.out E3 bo mm).κ id=E.κ id:=if_pos hidn
        obtain⟨h5,h6⟩:=ZS R.lim P3 (.inr ⟨_,hO,qH hid []⟩)
        refine⟨by rw[e1];exact h5.trans hO,arr,T,f,by rw[e1];exact hb.keep h6,by rw[e2,e3];exact ha,by rw[e3];exact hl,fun k A hk=>by rw[e2];exact hf k A hk,fun k A hk=>?_⟩
        exact uG R.lim P3 (fun s=>by rw[List.append_assoc];exact qH hid _) (hv k A hk)
      | some j=>
        rw[hid] at hcs'
        simp only[] at hcs'
        split at hcs'
        · rename_i cs0 hj
          have hcs'':=Option.some.inj hcs'
          subst hcs''
          obtain⟨g1,g2⟩:=j9 (QB hid)
          obtain⟨x1,x2,x3⟩:=P3.ids.2 j (show j<mm by omega)
          refine back j cs0 hj (fun b s hb=>VA P3 (QB hid) hb) ?_ ?_ ?_
          · show(if id<E.n then E.ρ id else _)=_
            rw[if_pos hidn,x1]
            show _=(if j<bo.length then E.ρ (bo.getD j 0) else _)
            rw[if_pos g2,g1]
          · show(if id<E.n then E.β id else _)=_
            rw[if_pos hidn,x2]
            show _=(if j<bo.length then E.β (bo.getD j 0) else _)
            rw[if_pos g2,g1]
          · show(if id<E.n then E.κ id else _)=_
            rw[if_pos hidn,x3]
            show _=(if j<bo.length then E.κ (bo.getD j 0) else _)
            rw[if_pos g2,g1]
        · cases hcs'
    · rw[List.getElem?_append_right (by rw[jn];exact hge),jn] at hcs'
      obtain⟨cs0,hj,rfl⟩:=yZ _ _ _ hcs'
      rw[List.getElem?_drop] at hj
      have hge':¬id<E.n:=by rw[R.num];omega
      refine back (mm+(id - st.h.length)) cs0 hj (fun b s hb=>?_) ?_ ?_ ?_
      · have:=Kj (E:=E) (bo:=bo) hm (by omega) hb
        rw[this,R.num]
        have e:st.h.length+(mm+(id - st.h.length) - mm)=id:=by omega
        rw[e]
      · show(if id<E.n then _ else E3.ρ (mm+(id - E.n)))=_
        rw[if_neg hge',R.num]
      · show(if id<E.n then _ else E3.β (mm+(id - E.n)))=_
        rw[if_neg hge',R.num]
      · show(if id<E.n then _ else E3.κ (mm+(id - E.n)))=_
        rw[if_neg hge',R.num]
end
end Go.Ga

namespace Go.Ga
open Go
section
variable {L:List (List Nat)} {E E3:Env} {N:Nat} {V:List Nat} {st:zb} {tm:Array Value} {bo:List Nat} {ln:Bool} {mm pb po pk:Nat} {h':Heap}
theorem zi.fill (R:zi E N V st tm){p:List Nat}{B:za}{u:Value}(hB:B.isAlias=false)(h:st.at p=some .dead)(hk:∀i ks,p=0::i::ks→i∈V∨i∈st.ts.map (·.1))(hu:zr E tm p=some u)(h':VRel E (some p) B u):
    zi E N V (st.setAt p B) tm:=by
  have U:zM p E E:=⟨Nat.le_refl _,E.ids_refl,fun _ h _=>⟨h,rfl⟩,fun _ _ h _=>⟨h,rfl⟩⟩
  match p,zq h,h,hk,hu,h',U with
  | 0 :: i :: ks,_,h,hk,hu,h',U=>
    have hki:=hk i ks rfl
    have key:∀A:za,(st.set i A).get i=A:=fun A=>st.get_set A (by
      rcases hki with h|h
      · exact .inr (Zw.2 (by rw[R.keys];exact h))
      · exact .inl (Zw.2 h))
    have hget:∀j,(st.setAt (0::i::ks) B).get j=if i=j then(st.get i).setSub ks B else st.get j:=fun j=>by
      show(st.set i _).get j=_
      by_cases hij:i=j
      · subst hij;rw[if_pos rfl];exact key _
      · rw[if_neg hij];exact st.get_set_ne _ hij
    have hh:(st.setAt (0::i::ks) B).h=st.h:=(zb.set_keys _ _ _).2.2
    have hts:(st.setAt (0::i::ks) B).ts.map (·.1)=st.ts.map (·.1):=(zb.set_keys _ _ _).2.1
    have hslot:∃va,tm[i]?=some va∧VRel E (some [0,i]) ((st.get i).setSub ks B) va:=by
      rw[zB] at h
      cases ks with
      | nil=>
        have e:(st.get i).setSub [] B=B:=by cases st.get i<;>rfl
        rw[e]
        simp only[zr] at hu
        cases hv:tm[i]? with
        |none=>rw[hv] at hu;cases hu
        | some va=>
          rw[hv] at hu
          simp only[] at hu
          have:va=u:=by cases va<;>simpa[zF] using hu
          subst this
          exact⟨va,rfl,h'⟩
      | cons k ks=>
        obtain⟨va,hva,hra⟩:=(R.slots i).out (za.sub_cons_nonalias h)
        have hu':zF E.w va (k::ks)=some u:=by simpa[zr,hva] using hu
        exact⟨va,hva,VRel.turn (k::ks) (ℓ:=[0,i]) U hra h hu' h'⟩
    obtain⟨va,hva,hra⟩:=hslot
    have hna:((st.get i).setSub ks B).isAlias=false:=by
      rw[zB] at h
      cases ks with
      | nil=>
        have e:(st.get i).setSub [] B=B:=by cases st.get i<;>rfl
        rw[e];exact hB
      | cons k ks=>
        generalize st.get i=X at h
        cases X<;>simp[za.sub,za.kids] at h<;>rfl
    refine⟨R.size,(zb.set_keys _ _ _).1.trans R.keys,by rw[R.num,hh],by rw[hts];exact R.disj,R.lim,fun j A r hA hr=>?_,fun j=>?_,fun id cs hcs=>?_⟩
    · rw[hts]
      rw[hget] at hA
      by_cases hij:i=j
      · subst hij
        rw[if_pos rfl] at hA
        subst hA
        cases hx:(st.get i).setSub ks B<;>rw[hx] at hr hna<;>first|(cases hr;done)|(cases hna;done)
      · rw[if_neg hij] at hA;exact R.roots j A r hA hr
    · rw[hget]
      by_cases hij:i=j
      · subst hij;rw[if_pos rfl];exact Zt.mk hva hra
      · rw[if_neg hij]
        refine Zt.carry (R.slots j) rfl (fun v _ h=>h) fun q hq C hC hCA=>⟨?_,rfl⟩
        match q,zq hC,hC with
        | 0 ::l::js,_,hC=>
          rw[zB] at hC⊢
          rw[hget]
          by_cases hil:i=l
          · subst hil
            rw[if_pos rfl]
            rw[zB] at h
            obtain⟨C',c1,c2,c3,c4⟩:=JH ks js B h hC (fun⟨hx,hne⟩=>by
              obtain⟨s,rfl⟩:=hx
              rw[sub_append,h] at hC
              cases s with
              |nil=>exact hne (by simp)
              |cons k s=>simp[za.sub,za.kids] at hC)
            by_cases hjk:js=ks
            · subst hjk;rw[h] at hC;cases hC;cases hCA
            · rcases c4 hjk with rfl|⟨hd,cs,cs',rfl,rfl⟩|⟨cs,cs',rfl,rfl⟩|⟨cs,cs',rfl,rfl⟩
              · exact⟨_,c1,hCA,fun hd cs e=>⟨hd,cs,e⟩⟩
              · exact⟨_,c1,rfl,fun _ _ _=>⟨_,_,rfl⟩⟩
              · exact⟨_,c1,rfl,fun _ _ e=>by cases e⟩
              · exact⟨_,c1,rfl,fun _ _ e=>by cases e⟩
          · rw[if_neg hil];exact⟨C,hC,hCA,fun hd cs e=>⟨hd,cs,e⟩⟩
        |1::id::c::js,_,hC=>exact⟨C,by simp only[zb.at,hh];exact hC,hCA,fun hd cs e=>⟨hd,cs,e⟩⟩
    · rw[hh] at hcs;exact R.objs id cs hcs
  | 1 :: id ::k::ks,_,h,_,hu,h',U=>
    have h0:=h
    simp only[zb.at] at h
    split at h
    · rename_i cs hcs
      have hidl:id<st.h.length:=(List.getElem?_eq_some_iff.1 hcs).1
      have hidn:id<E.n:=by rw[R.num];exact hidl
      simp only[za.sub,za.kids] at h
      cases hk:cs[k]? with
      |none=>simp[hk] at h
      | some D=>
        simp only[hk] at h
        have hkl:k<cs.length:=(List.getElem?_eq_some_iff.1 hk).1
        have hh:(st.setAt (1::id::k::ks) B).h=st.h.set id (some (cs.set k (D.setSub ks B))):=by simp only[zb.setAt,hcs,hk]
        have hvs:(st.setAt (1::id::k::ks) B).vs=st.vs:=by simp only[zb.setAt,hcs]
        have hts:(st.setAt (1::id::k::ks) B).ts=st.ts:=by simp only[zb.setAt,hcs]
        have hget:∀j,(st.setAt (1::id::k::ks) B).get j=st.get j:=fun j=>by simp only[zb.get,hvs,hts]
        refine⟨R.size,by rw[hvs];exact R.keys,by rw[R.num,hh,List.length_set],by rw[hts];exact R.disj,R.lim,fun j A r hA hr=>by rw[hget] at hA;rw[hts];exact R.roots j A r hA hr,fun j=>?_,fun id' cs' hcs'=>?_⟩
        · rw[hget]
          refine Zt.carry (R.slots j) rfl (fun v _ h=>h) fun q hq C hC hCA=>⟨?_,rfl⟩
          match q,zq hC,hC with
          |0::l::js,_,hC=>exact⟨C,by rw[zB] at hC⊢;rw[hget];exact hC,hCA,fun hd cs e=>⟨hd,cs,e⟩⟩
          | 1 ::id'::k'::js,_,hC=>
            simp only[zb.at,hh,List.getElem?_set] at hC⊢
            by_cases hid:id=id'
            · subst hid
              rw[hcs] at hC
              simp only[if_true,hidl]
              simp only[za.sub,za.kids,List.getElem?_set] at hC⊢
              by_cases hkk:k=k'
              · subst hkk
                rw[hk] at hC
                simp only[if_true,hkl] at hC⊢
                obtain⟨C',c1,c2,c3,c4⟩:=JH ks js B h hC (fun⟨hx,hne⟩=>by
                  obtain⟨s,rfl⟩:=hx
                  rw[sub_append,h] at hC
                  cases s with
                  |nil=>exact hne (by simp)
                  |cons k s=>simp[za.sub,za.kids] at hC)
                by_cases hjk:js=ks
                · subst hjk;rw[h] at hC;cases hC;cases hCA
                · rcases c4 hjk with rfl|⟨hd,cs,cs',rfl,rfl⟩|⟨cs,cs',rfl,rfl⟩|⟨cs,cs',rfl,rfl⟩
                  · exact⟨_,c1,hCA,fun hd cs e=>⟨hd,cs,e⟩⟩
                  · exact⟨_,c1,rfl,fun _ _ _=>⟨_,_,rfl⟩⟩
                  · exact⟨_,c1,rfl,fun _ _ e=>by cases e⟩
                  · exact⟨_,c1,rfl,fun _ _ e=>by cases e⟩
              · rw[if_neg hkk]
                exact⟨C,hC,hCA,fun hd cs e=>⟨hd,cs,e⟩⟩
            · rw[if_neg hid]
              exact⟨C,hC,hCA,fun hd cs e=>⟨hd,cs,e⟩⟩
        · rw[hh,List.getElem?_set] at hcs'
          by_cases hid:id=id'
          · subst hid
            simp[hidl] at hcs'
            subst hcs'
            exact JU.turn U hidn (R.objs id cs hcs) hk h (by simpa[zr] using hu) h'
          · rw[if_neg hid] at hcs';exact R.objs id' cs' hcs'
    · cases h
def yh (st:zb):Option (List Nat)→Option (Option (List Nat×Nat×List za)×zb)
 |none=>some (none,st)
 | some p=>match st.at p with
   |some (.own (some sz) cs)=>if 0<cs.length then some (some (p,sz,cs),(st.kill (za.under p false)).setAt p .dead) else none
   |_=>none
def WS (L:List (List Nat)):Option (List Nat)→Bool
 |none=>true
 |some p=>clear L p
theorem WT (R:zi E N V st tm){pl:Option (List Nat)}{x:Option (List Nat×Nat×List za)}{st1:zb}(h:yh st pl=some (x,st1))(hq:WS L pl=true):
    ∃E1,zi E1 N V st1 tm∧zy L E E1∧E1.w=E.w∧(∀p,zr E1 tm p=zr E tm p)∧(x=none∨∃p sz cs v,x=some (p,sz,cs)∧st.at p=some (.own (some sz) cs)∧0<cs.length∧zr E tm p=some v∧VRel E1 (some [9,0]) (.own (some sz) cs) v):=by
  cases pl with
  |none=>cases h;exact⟨E,R,zy.refl E,rfl,fun _=>rfl,.inl rfl⟩
  | some p=>
    simp only[yh] at h
    split at h
    · rename_i sz cs hp
      split at h
      · rename_i hlen
        cases h
        obtain⟨v,hv,hr⟩:=R.at_ hp rfl
        have U:zM p E (E.relab p [9,0]):=zI p [9,0]
        have R2:=R.turn (B':= .dead) (keep:=false) hp rfl (fun e=>by cases e) U (Zx R.lim) rfl hv (.dead _ _)
        exact⟨_,R2,zk (Zo (zq hp)) (z6 _) (Js hq),rfl,fun _=>rfl,.inr ⟨p,sz,cs,v,rfl,hp,hlen,hv,by simpa using (hr.moved p [9,0] []).2 (by simp)⟩⟩
      · cases h
    · cases h
inductive yF where
 |vw
 |mv
 |fz
 |bo
def QV :List (zm×Bool)→List yF→List (zm×Bool)
 |[],_=>[]
 | (x,_)::xs,ms=>(match ms.headD .vw with
   | .mv=>(x,true)
   | .fz=>(x,false)
   |_=>(.c (.bool false),false))::QV xs ms.tail
def qc :List Operand→List yF→List Operand
 |[],_=>[]
 | x::xs,ms=>(match ms.headD .vw with
   | .mv=>x
   | .fz=>x
   |_=> .const (.bool false))::qc xs ms.tail
theorem xb :∀(xs:List Operand) (os:List (zm×Bool)) (ms:List yF),xs.map zd=os.map (fun y=>some y.1)→(qc xs ms).map zd=(QV os ms).map fun y=>some y.1
 |[],[],_,_=>rfl
 |[],_::_,_,h=>by simp at h
 |_::_,[],_,h=>by simp at h
 | x::xs,(o,b)::os,ms,h=>by
   simp only[List.map_cons,List.cons.injEq] at h
   simp only[qc,QV,List.map_cons,xb xs os ms.tail h.2,List.cons.injEq,and_true]
   cases ms.headD .vw<;>first
    |exact h.1
    |rfl
theorem wv :∀(xs:List Operand) (ms:List yF),(qc xs ms).length=xs.length
 |[],_=>rfl
 |_::xs,ms=>by simp[qc,wv xs ms.tail]
def jh (st0 st:zb)(bo:List Nat)(ln:Bool)(pl:Option (List Nat×Nat×List za)):List (zm×Bool)→List yF→List za→List za
 | (x,_)::xs,ms,A::As=>(match ms.headD .vw with
   | .vw=>ky st bo ln x
   | .bo=>match pl,st0.evA x with
     |some (p,sz,cs),.at_ q=>if q=p then .sl bo.length 0 (cs.length / sz) sz else .dead
     |_,_=> .dead
   |_=>A.ren (jb bo))::jh st0 st bo ln pl xs ms.tail As
 |_,_,_=>[]
theorem YW {st0:zb}{pl:Option (List Nat×Nat×List za)}:∀(os:List (zm×Bool)) (ms:List yF) (As:List za),As.length=os.length→(jh st0 st bo ln pl os ms As).length=os.length
 |[],_,[],_=>rfl
 |[],_,_::_,h=>by simp at h
 |_::_,_,[],h=>by simp at h
 |(x,_)::xs,ms,A::As,h=>by simp[jh,YW xs ms.tail As (by simpa using h)]
def Zc (h:Heap)(bo:List Nat)(pl:Option (List Nat×Nat×List za)):Heap:=
 bo.map (fun id=>match h[id]? with|some (some cs)=>some (za.renL (jb bo) cs)|_=>none)++match pl with|some (_,_,cs)=>[some (za.renL (jb bo) cs)]|none=>[]
theorem ww {p:List Nat}{sz:Nat}{cs:List za}{v:Value}(h:VRel E (some p) (.own (some sz) cs) v)(hc:0<cs.length):∃(b o len cap:Nat) (arr:Array Value) (T:TypeId) (f:Nat→Value),v= .slice (some ⟨b,o,none⟩) len cap∧E.O b=some p∧Jw E.w b arr T∧0<sz∧cs.length=len*sz∧len≤cap∧cap≤maxLen∧o+cap*sz≤arr.size∧
    (∀k A,cs[k]?=some A→arr[o+k]?=some (f k))∧∀(k:Nat) A,cs[k]?=some A→VRel E (some (p++[k])) A (f k):=by
  cases h with
  |own _ _ _ b o len cap arr T f hO hb hl hc hm ha hf h=>exact⟨b,o,len,cap,arr,T,f,rfl,hO,hb,hl.1,hl.2,hc,hm,ha,hf,h⟩
  |ownNil=>simp at hc
theorem Ws (H:WI E st.h)(hnd:qd bo=true){pl:Option (List Nat×Nat×List za)} (hpl:match pl with
      |none=>True
      |some (_,sz,cs)=>∃(arr:Array Value) (T:TypeId) (f:Nat→Value),E.O pb=some [9,0]∧Jw E.w pb arr T∧cs.length≤pk∧po+pk≤arr.size∧(∀k A,cs[k]?=some A→arr[po+k]?=some (f k))∧∀(k:Nat) A,cs[k]?=some A→VRel E (some ([9,0]++[k])) A (f k)) (hmm:mm=(Zc st.h bo pl).length):
    WI (E.sub bo ln mm pb po pk) (Zc st.h bo pl) where
  num:=hmm
  lim:=kX H.lim
  objs j cs hcs:=by
    have hm:bo.length≤mm:=by rw[hmm];simp[Zc]
    unfold Zc at hcs
    rcases Nat.lt_or_ge j bo.length with hlt|hge
    · rw[List.getElem?_append_left (by simpa using hlt),List.getElem?_map,List.getElem?_eq_getElem hlt] at hcs
      simp only[Option.map_some,Option.some.injEq] at hcs
      split at hcs
      · rename_i cs0 h0
        have hcs':=Option.some.inj hcs
        subst hcs'
        obtain⟨hO,arr,T,f,hb,ha,hl,hf,hv⟩:=H.objs _ cs0 h0
        have hg:jb bo bo[j]=some j:=Yn hnd (List.getElem?_eq_getElem hlt)
        have hD:bo.getD j 0=bo[j]:=by simp[List.getD_eq_getElem?_getD,hlt]
        have e1:(E.sub bo ln mm pb po pk).ρ j=E.ρ bo[j]:=by show(if j<bo.length then E.ρ (bo.getD j 0) else _)=_;rw[if_pos hlt,hD]
        have e2:(E.sub bo ln mm pb po pk).β j=E.β bo[j]:=by show(if j<bo.length then E.β (bo.getD j 0) else _)=_;rw[if_pos hlt,hD]
        have e3:(E.sub bo ln mm pb po pk).κ j=E.κ bo[j]:=by show(if j<bo.length then E.κ (bo.getD j 0) else _)=_;rw[if_pos hlt,hD]
        refine⟨by rw[e1];exact w0 (s:=[]) hg hO,arr,T,f,by rw[e1];exact hb,by rw[e2,e3];exact ha,by rw[e3,zg];exact hl,fun k A hk=>?_,fun k A hk=>?_⟩
        · obtain⟨B,hB,_⟩:=ze hk
          rw[e2];exact hf k B hB
        · obtain⟨B,hB,rfl⟩:=ze hk
          exact(hv k B hB).renK (JD hm) (Nat.le_refl _) (fun _ h _=>⟨jm h,rfl⟩) (fun _ _ h=>⟨w0 hg h,rfl⟩)
      · cases hcs
    · rw[List.getElem?_append_right (by simpa using hge)] at hcs
      cases pl with
      |none=>simp at hcs
      | some x=>
        obtain⟨p,sz,cs0⟩:=x
        simp only[List.length_map] at hcs
        have hj:j=bo.length:=by
          have:=(List.getElem?_eq_some_iff.1 hcs).1
          simp at this;omega
        subst hj
        simp at hcs
        subst hcs
        obtain⟨arr,T,f,hO,hb,hl,ha,hf,hv⟩:=hpl
        have e1:(E.sub bo ln mm pb po pk).ρ bo.length=pb:=if_neg (Nat.lt_irrefl _)
        have e2:(E.sub bo ln mm pb po pk).β bo.length=po:=if_neg (Nat.lt_irrefl _)
        have e3:(E.sub bo ln mm pb po pk).κ bo.length=pk:=if_neg (Nat.lt_irrefl _)
        refine⟨by rw[e1];exact ux (s:=[]) hO,arr,T,f,by rw[e1];exact hb,by rw[e2,e3];exact ha,by rw[e3,zg];exact hl,fun k A hk=>?_,fun k A hk=>?_⟩
        · obtain⟨B,hB,_⟩:=ze hk
          rw[e2];exact hf k B hB
        · obtain⟨B,hB,rfl⟩:=ze hk
          exact(hv k B hB).renK (JD hm) (Nat.le_refl _) (fun _ h _=>⟨jm h,rfl⟩) (fun _ _ h=>⟨ux h,rfl⟩)
end
end Go.Ga

namespace Go.Ga
open Go
def Xs (h:Heap)(bo:List Nat)(ln:Bool):List za→List za
 |[]=>[]
 |A::l=>g6 h bo ln A::Xs h bo ln l
theorem Qn (h:Heap)(bo:List Nat)(ln:Bool):∀l:List za,(Xs h bo ln l).length=l.length
 |[]=>rfl
 |A::l=>by simp[Xs,Qn h bo ln l]
theorem wX (h:Heap)(bo:List Nat)(ln:Bool):∀(l:List za) (k:Nat),(Xs h bo ln l)[k]?=(l[k]?).map (g6 h bo ln)
 |[],k=>by simp[Xs]
 |A::l,0=>by simp[Xs]
 |A::l,k+1=>by simp[Xs,wX h bo ln l k]
def ja (L:List (List Nat))(d:Nat)(bo:List Nat)(mm:Nat)(x:Option (List Nat×Nat×List za))(st:zb)(K:zb→Prop)(r:za)(h':Heap):Prop:=
 match x with
 |none=>K ((st.after bo L mm h').putT d (r.ren (zU bo mm st.h.length)))
 | some (p,sz,cs)=>match h'[bo.length]? with
   |some (some cs')=>cs'.length=cs.length∧Y3 bo p=true∧(st.after bo L mm h').at p=some .dead∧K (((st.after bo L mm h').setAt p (.own (some sz) (za.renL (zU bo mm st.h.length) cs'))).putT d (r.ren (zU bo mm st.h.length)))
   |_=>K ((st.after bo L mm h').putT d (r.ren (zU bo mm st.h.length)))
def Qj (P:Program)(L:List (List Nat))(st:zb)(d g:Nat)(first captured:List za)(args:List (zm×Bool))(ms:List yF)(bo:List Nat)(ln:Bool)(pl:Option (List Nat))(K:zb→Prop):Prop:=
 match yh st pl with
 | some (x,st0)=>match st0.useL (QV args ms) with
   | some (As,st1)=>qd bo=true∧bo.all (fun i=>decide (i<st1.h.length))=true∧(WS L pl&&st0.useLQ L (QV args ms))=true∧
    zJ P (zQ bo L) g (Xs st1.h bo ln first++(jh st st1 bo ln x args ms As++Xs st1.h bo ln captured)) (Zc st1.h bo x) fun r h'=>
     (Zc st1.h bo x).length≤h'.length∧(ln=true→r.flat=true∧QE h'=true)∧ja L d bo (Zc st1.h bo x).length x st1 K r h'
   |none=>False
 |none=>False
def qZ (P:Program)(L:List (List Nat))(st:zb)(d:Nat)(f:zm)(args:List (zm×Bool))(K:zb→Prop):Prop:=
 match st.ev f with
 | .fn (.func g) first captured=>∃(ms:List yF) (bo:List Nat) (ln:Bool) (pl:Option (List Nat)),Qj P L st d g first captured args ms bo ln pl K
 |_=>False
section
variable {L:List (List Nat)} {E E3:Env} {N:Nat} {V:List Nat} {st st0:zb} {a:Act} {tm:Array Value} {bo:List Nat} {ln:Bool} {mm pb po pk:Nat} {h':Heap} {P:Program} {o:Oper} {d:Nat}
theorem QM (hmm:bo.length≤mm)(R:zi E N V st a.tmps){pl:Option (List Nat×Nat×List za)}(hbo:∀p sz cs x ox,pl=some (p,sz,cs)→zd x=some ox→st0.evA ox= .at_ p→∀q',VRel (E.sub bo ln mm pb po pk) q' (.sl bo.length 0 (cs.length / sz) sz) (a.eval x)):
    ∀(xs:List Operand) (os:List (zm×Bool)) (ms:List yF) (As:List za) (j:Nat),xs.map zd=os.map (fun y=>some y.1)→(∀(k:Nat) A x,As[k]?=some A→(qc xs ms)[k]?=some x→VRel E (some [9,j+1+k]) A (a.eval x))→
    ∀k B x,(jh st0 st bo ln pl os ms As)[k]?=some B→xs[k]?=some x→VRel (E.sub bo ln mm pb po pk) (some [3,j+k]) B (a.eval x)
  |[],os,ms,As,j,hm,_,k,B,x,_,hx=>by simp at hx
  |y::xs,[],ms,As,j,hm,_,k,B,x,_,_=>by simp at hm
  |y::xs,(o,b)::os,ms,[],j,hm,_,k,B,x,hB,_=>by simp[jh] at hB
  | y ::xs,(o,b)::os,ms,A::As,j,hm,h,k,B,x,hB,hx=>by
    simp only[List.map_cons,List.cons.injEq] at hm
    cases k with
    | zero=>
      simp only[jh,List.getElem?_cons_zero,Option.some.injEq] at hB hx
      subst hx
      have moved:(qc (y::xs) ms)[0]?=some y→VRel (E.sub bo ln mm pb po pk) (some [3,j]) (A.ren (jb bo)) (a.eval y):=fun hp=>by
        have h1:=h 0 A y rfl hp
        exact VRel.renK (p:=[9,j+1]) (q:=[3,j]) (r:=[]) (JD hmm) (Nat.le_refl _) (fun _ h _=>⟨jm h,rfl⟩) (fun _ _ h=>⟨kY h,rfl⟩) (by simpa using h1)
      cases hmd:ms.headD .vw with
      | vw=>
        rw[hmd] at hB
        simp only[] at hB
        subst hB
        exact ut hmm R hm.1 _
      |mv=>rw[hmd] at hB;simp only[] at hB;subst hB;exact moved (by unfold qc;rw[hmd];rfl)
      |fz=>rw[hmd] at hB;simp only[] at hB;subst hB;exact moved (by unfold qc;rw[hmd];rfl)
      | bo=>
        rw[hmd] at hB
        simp only[] at hB
        split at hB
        · rename_i p sz cs q hpl hev
          split at hB
          · rename_i e
            subst e
            subst hB
            exact hbo _ _ _ _ _ rfl hm.1 hev _
          · subst hB;exact .dead _ _
        · subst hB;exact .dead _ _
    | succ k=>
      have:=QM hmm R hbo xs os ms.tail As (j+1) hm.2 (fun k A x hA hx=>by
        have:=h (k+1) A x (by simpa using hA) (by simpa[qc] using hx)
        rwa [show j+1+(k+1)=j+1+1+k by omega] at this) k B x (by simpa[jh] using hB) (by simpa using hx)
      rwa [show j+1+k=j+(k+1) by omega] at this
theorem Vx (R:zi E N V st tm)(hm:bo.length≤mm){L':List (List Nat)}(P3:zy L' (E.sub bo ln mm pb po pk) E3){p:List Nat}{B:za}(hp:Y3 bo p=true)(hlt:∀id r,p=1::id::r→id<st.h.length)(hB:(st.after bo L mm h').at p=some B):zr (E.out E3 bo mm) tm p=zr E tm p:=by
 match p,zq hB,hp,hlt,hB with
 | 0 ::j::ks,_,_,_,hB=>
   cases ks with
   |nil=>simp[zr,zF]
   | cons k ks=>
     rw[zB,yd] at hB
     cases hg:Ys bo L (zU bo mm st.h.length) h' (st.get j) with
     |true=>rw[hg] at hB;simp[za.sub,za.kids] at hB
     | false=>
       rw[hg] at hB
       simp only[cond_false] at hB
       obtain⟨v,hv,hr⟩:=(R.slots j).out (za.sub_cons_nonalias hB)
       simp only[zr,hv]
       exact VRel.wayP (p0:=[0,j]) (E:=E) (E':=E.out E3 bo mm) (fun b q hb=>(ZS R.lim P3 (.inr ⟨_,hb,Yp q⟩)).2) (k::ks) (ℓ:=[]) (by simpa using hr) hB
 | 1 :: id::c::ks,_,hp,hlt,hB=>
   have hid:jb bo id=none:=Option.isNone_iff_eq_none.1 hp
   simp only[zb.at] at hB
   split at hB
   · rename_i cs hcs
     have hidl:id<st.h.length:=hlt id _ rfl
     · have hcs0:st.h[id]?=some (some cs):=by
        have e:(qN (jb bo) (zU bo mm st.h.length) h' 0 st.h++qb (zU bo mm st.h.length) (h'.drop mm))[id]?=some (some cs):=hcs
        rw[List.getElem?_append_left (by rw[jn];exact hidl),J7] at e
        simpa[hid] using e
       obtain⟨hO,arr,T,f,hb,ha,hl,hf,hv⟩:=R.objs id cs hcs0
       have hidn:id<E.n:=by rw[R.num];exact hidl
       have hb':=(ZS R.lim P3 (.inr ⟨_,hO,qH hid []⟩)).2
       simp only[za.sub,za.kids] at hB
       cases hk:cs[c]? with
       |none=>simp[hk] at hB
       | some D=>
         simp only[hk] at hB
         have e1:(E.out E3 bo mm).ρ id=E.ρ id:=if_pos hidn
         have e2:(E.out E3 bo mm).β id=E.β id:=if_pos hidn
         simp only[zr,Env.ptr,zF,e1,e2,hb.cell,(Jw.keep (w':=(E.out E3 bo mm).w) hb hb').cell,hf c D hk]
         exact VRel.wayP (p0:=[1,id]) (E:=E) (E':=E.out E3 bo mm) (fun b q hb=>(ZS R.lim P3 (.inr ⟨_,hb,qH hid q⟩)).2) ks (ℓ:=[c]) (hv c D hk) hB
   · cases hB
theorem Vu (R:zi E N V st a.tmps){j:Nat}(F:zo N V st d){A:za}{v:Value}(h:VRel E (some [9,j]) A v):zi (E.relab [9,j] [0,d]) N V (st.putT d A) (a.tmps.setIfInBounds d v):=
 (R.land [0,d]).putT_val F.lt F.v F.t (h.land [0,d])
theorem wb {g : Nat} (h : qm P g = true) : ∃ fn, P.funcs[g]? = some fn ∧ ¬ fn.name = "runtime.NumGoroutine" ∧ ¬ fn.body = none := by
 unfold qm at h
 split at h
 · rename_i fn hfn
   refine⟨fn,hfn,?_,?_⟩
   · simp only[Bool.and_eq_true,bne_iff_ne,ne_eq] at h
     exact h.1
   · simp only[Bool.and_eq_true] at h
     intro hb
     rw[hb] at h
     simp at h
 · cases h
theorem JC {pl:Option (List Nat)}{x:Option (List Nat×Nat×List za)}{st1:zb}(h:yh st pl=some (x,st1)):st1.ts.map (·.1)=st.ts.map (·.1):=by
 cases pl with
 |none=>cases h;rfl
 | some p=>
   simp only[yh] at h
   split at h
   · split at h
     · cases h;exact ZC.trans z1
     · cases h
   · cases h
theorem JT :(st.after bo L mm h').ts.map (·.1)=st.ts.map (·.1):=z1
theorem wt {E E':Env}{p:List Nat}(hw:E'.w=E.w)(hi:∀id,E'.ρ id=E.ρ id∧E'.β id=E.β id):zr E' tm p=zr E tm p:=by
 match p with
 |[]=>rfl
 |[0]=>rfl
 |[1]=>rfl
 |0::i::ks=>simp only[zr,hw]
 |1::id::ks=>simp only[zr,Env.ptr,hw,(hi id).1,(hi id).2]
 |(n+2)::ks=>rfl
theorem Vs {E E':Env}{p:List Nat}(hw:E'.w=E.w)(hi:E.ids E')(hlt:∀id r,p=1::id::r→id<E.n):zr E' tm p=zr E tm p:=by
 match p,hlt with
 |[],_=>rfl
 |[0],_=>rfl
 |[1],_=>rfl
 |0::i::ks,_=>simp only[zr,hw]
 | 1::id::ks,hlt=>
   obtain⟨h1,h2,_⟩:=hi.2 id (hlt id ks rfl)
   simp only[zr,Env.ptr,hw,h1,h2]
 |(n+2)::ks,_=>rfl
theorem KE (hT:jV P E)(R:zi E N V st a.tmps)(F:zo N V st d){c:Call}{fo:Operand}{oargs:List (zm×Bool)}(ho:o.op= .call c)(hc:c.callee= .value fo)(hdst:o.dst=some d)(hargs:c.args.toList.map zd=oargs.map fun y=>some y.1)
    {g:Nat} {first captured:List za} {x:Value} (hx:a.eval fo=x) (hrx:VRel E none (.fn (.func g) first captured) x) {ms:List yF} {pl:Option (List Nat)}
    {K:zb→Prop} {next:Act→World→Prop} {Q:Exit→Act→World→Prop} (h:Qj P L st d g first captured oargs ms bo ln pl K)
    (hK:∀E' st' v,zi E' N V st' (a.tmps.setIfInBounds d v)→zy L E E'→K st'→next (a.put (some d) v) E'.w):o.wp P a E.w next Q:=by
  unfold Qj at h
  split at h
  case h_2=>exact h.elim
  rename_i x0 st0 htake
  split at h
  case h_2=>exact h.elim
  rename_i As st1 huse
  obtain⟨hnd,hbo,hq,hcall⟩:=h
  rw[Bool.and_eq_true] at hq
  have Rz:zi (E.freeze [9]) N V st a.tmps:=R.under (jA [9]) (JO R.lim) rfl (fun _ _=>zl (by decide)) (fun _=>zl (by decide)) (fun _ _ _ _ _=>zl (by decide))
  have Pz:zy L E (E.freeze [9]):=j0 (z6 _)
  obtain⟨E0,R0,P0,hw0,hpv0,hx0⟩:=WT Rz htake hq.1
  have hl0:∃l:List (Nat×za×Value),Xr E0 l∧(∀y∈l,y.1<1+first.length)∧(x0=none∨∃p sz cs v,x0=some (p,sz,cs)∧st.at p=some (.own (some sz) cs)∧0<cs.length∧zr E a.tmps p=some v∧(0,za.own (some sz) cs,v)∈l):=by
    rcases hx0 with h|⟨p,sz,cs,v,h1,h2,h3,h4,h5⟩
    · exact⟨[],(fun x hx=>by cases hx),(fun x hx=>by cases hx),.inl h⟩
    · refine⟨[(0,.own (some sz) cs,v)],(fun x hx=>?_),(fun x hx=>?_),.inr ⟨p,sz,cs,v,h1,h2,h3,?_,.head _⟩⟩
      · cases List.mem_singleton.1 hx;exact h5
      · cases List.mem_singleton.1 hx;exact Nat.lt_of_lt_of_le Nat.zero_lt_one (Nat.le_add_right _ _)
      · rw[←h4];exact(wt rfl fun _=>⟨rfl,rfl⟩).symm
  obtain⟨l,Fl,hlj,hxl⟩:=hl0
  obtain⟨E1,R1,F1,hlen,hv,P1,hw1⟩:=jH (qc c.args.toList ms) (QV oargs ms) (1+first.length) (xb _ _ ms hargs) R0 huse hq.2 Fl hlj
  have P01:zy L E E1:=(Pz.trans P0).trans P1
  have hwE:E1.w=E.w:=hw1.trans hw0
  have hAs:As.length=oargs.length:=by
    have:=congrArg List.length hargs
    simp only[List.length_map] at this
    rw[hlen,wv,this]
  cases hrx with
  |fn _ _ _ _ us vs hus hvs h1 h2=>
  have hpl:∃pb po pk,(match x0 with
      |none=>True
      |some (_,sz,cs)=>∃(arr:Array Value) (T:TypeId) (f:Nat→Value),E1.O pb=some [9,0]∧Jw E1.w pb arr T∧cs.length≤pk∧po+pk≤arr.size∧(∀k A,cs[k]?=some A→arr[po+k]?=some (f k))∧∀(k:Nat) A,cs[k]?=some A→VRel E1 (some ([9,0]++[k])) A (f k))∧
      (x0=none∨∃p sz cs len cap,x0=some (p,sz,cs)∧st.at p=some (.own (some sz) cs)∧zr E a.tmps p=some (.slice (some ⟨pb,po,none⟩) len cap)∧0<sz∧cs.length=len*sz∧len≤cap∧cap≤maxLen∧pk=cap*sz):=by
    rcases hxl with rfl|⟨p,sz,cs,v,rfl,h3,h4,h5,h6⟩
    · exact⟨0,0,0,trivial,.inl rfl⟩
    · obtain⟨b,o',len,cap,arr,T,f,rfl,hO,hb,hsz,hcl,hlc,hcm,ha,hf,hvv⟩:=ww (F1 _ h6) h4
      refine⟨b,o',cap*sz,⟨arr,T,f,hO,hb,?_,ha,hf,hvv⟩,.inr ⟨p,sz,cs,len,cap,rfl,h3,h5,hsz,hcl,hlc,hcm,rfl⟩⟩
      rw[hcl];exact Nat.mul_le_mul_right _ hlc
  obtain⟨pb,po,pk,hpl1,hpl2⟩:=hpl
  have hmm:bo.length≤(Zc st1.h bo x0).length:=by simp[Zc]
  have HR:=Ws (ln:=ln) (pb:=pb) (po:=po) (pk:=pk) R1.hrel hnd hpl1 rfl
  have hbor:∀p sz cs x ox,x0=some (p,sz,cs)→zd x=some ox→st.evA ox= .at_ p→∀q',VRel (E1.sub bo ln (Zc st1.h bo x0).length pb po pk) q' (.sl bo.length 0 (cs.length / sz) sz) (a.eval x):=by
    intro p sz cs x ox hx0' hox hev q'
    rcases hpl2 with h|⟨p',sz',cs',len,cap,h3,h4,h5,hsz,hcl,hlc,hcm,rfl⟩
    · rw[hx0'] at h;cases h
    · rw[h3] at hx0'
      cases hx0'
      obtain⟨B,v,g1,g2,g3,g4,g5⟩:=Q2 R hox hev
      rw[g4]
      rw[h5] at g3
      cases g3
      have hd:cs.length / sz=len:=by rw[hcl];exact Nat.mul_div_cancel _ hsz
      rw[hd]
      have:=VRel.sl (E:=E1.sub bo ln (Zc st1.h bo x0).length pb po (cap*sz)) q' bo.length 0 len cap sz (by show bo.length<(Zc st1.h bo x0).length;subst h3;simp[Zc]) hlc hcm (by
        show 0+cap*sz=if bo.length<bo.length then _ else _
        rw[if_neg (Nat.lt_irrefl _),Nat.zero_add])
      rw[show(E1.sub bo ln (Zc st1.h bo x0).length pb po (cap*sz)).ρ bo.length=pb from if_neg (Nat.lt_irrefl _),show(E1.sub bo ln (Zc st1.h bo x0).length pb po (cap*sz)).β bo.length=po from if_neg (Nat.lt_irrefl _)] at this
      exact this
  have hxs:c.args.size=oargs.length:=by
    have:=congrArg List.length hargs
    simpa using this
  have hAl:(jh st st1 bo ln x0 oargs ms As).length=oargs.length:=YW _ _ _ hAs
  have hrun1:=hcall.2 (E1.sub bo ln (Zc st1.h bo x0).length pb po pk) (us++(c.args.map a.eval++vs)) ((hT.pres P01).turn (fun b h1 h2=>⟨jm h1,rfl⟩) (Nat.le_refl _)) HR (by
      simp only[Array.size_append,List.length_append,Qn,Array.size_map,hAl,hus,hvs,hxs]) (fun k A v hA hv'=>by
    have hvl:(us++(c.args.map a.eval++vs)).toList=us.toList++(c.args.toList.map a.eval++vs.toList):=by simp
    have hv2:(us.toList++(c.args.toList.map a.eval++vs.toList))[k]?=some v:=by rw[←hvl,Array.getElem?_toList];exact hv'
    have hl1:us.toList.length=first.length:=by simpa using hus
    have hl2:(c.args.toList.map a.eval).length=oargs.length:=by simpa using hxs
    rcases Nat.lt_or_ge k first.length with c1|c1
    · rw[List.getElem?_append_left (by rw[Qn];exact c1),wX] at hA
      rw[List.getElem?_append_left (by rw[hl1];exact c1)] at hv2
      obtain⟨B,hB,rfl⟩:=Option.map_eq_some_iff.1 hA
      exact qv hmm R1.hrel ((h1 k B v hB (by simpa using hv2)).pres P01) (.inl rfl) _
    · rw[List.getElem?_append_right (by rw[Qn];exact c1),Qn] at hA
      rw[List.getElem?_append_right (by rw[hl1];exact c1),hl1] at hv2
      rcases Nat.lt_or_ge (k - first.length) oargs.length with c2|c2
      · rw[List.getElem?_append_left (by rw[hAl];exact c2)] at hA
        rw[List.getElem?_append_left (by rw[hl2];exact c2),List.getElem?_map] at hv2
        obtain⟨y,hy,rfl⟩:=Option.map_eq_some_iff.1 hv2
        have:=QM hmm R1 (pl:=x0) hbor c.args.toList oargs ms As first.length hargs (fun k A x hA hx=>by
          have:=hv k A x hA hx
          rwa [show 1+first.length+k=first.length+1+k by omega] at this) _ A y hA hy
        rwa [show first.length+(k - first.length)=k by omega] at this
      · rw[List.getElem?_append_right (by rw[hAl];exact c2),hAl,wX] at hA
        rw[List.getElem?_append_right (by rw[hl2];exact c2),hl2] at hv2
        obtain⟨B,hB,rfl⟩:=Option.map_eq_some_iff.1 hA
        exact qv hmm R1.hrel ((h2 _ B v hB (by simpa using hv2)).pres P01) (.inl rfl) _)
  obtain⟨fn,hfn,hname,hnb⟩:=wb hcall.1
  have hrun:(execOp a.eval o).run P E.w= .ok (.enter g (us++(c.args.map a.eval++vs))) E.w:=by
    simp[execOp,ho,resolve,hc,hx,Deferred.ofValue,invoke,callFunc,hfn,hname,hnb]
  unfold Oper.wp
  rw[hrun,Oper.upon_enter]
  have hw:(E1.sub bo ln (Zc st1.h bo x0).length pb po pk).w=E.w:=hwE
  rw[hw] at hrun1
  refine hrun1.mono fun e w' ⟨v,r,h',E3,he,hw',H3,hr,P3,hle,hfl,hout⟩=>?_
  subst he
  subst hw'
  rw[hdst]
  generalize hM:(Zc st1.h bo x0).length=mm at*
  have h3:mm≤E3.n:=by rw[H3.num];exact hle
  have R4:=R1.after hnd hbo hmm P3 H3 hle fun hl=>(hfl hl).2
  have P4:zy L E (E1.out E3 bo mm):=P01.trans (Vy R1.lim hmm h3 P3)
  have F4:zo N V (st1.after bo L mm h') d:=F.of (JT.trans ((Zj _ huse).trans (JC htake)))
  have hres:VRel (E1.out E3 bo mm) (some [9,1]) (r.ren (zU bo mm st1.h.length)) v:=
    YP (p:=[3]) (q:=[9,1]) (r:=[]) R1.lim R1.num hbo hmm h3 P3 (fun b s hb=>Ki hb) (fun hl=>(hfl hl).1) hr
  have last:K ((st1.after bo L mm h').putT d (r.ren (zU bo mm st1.h.length)))→next (a.put (some d) v) E3.w:=fun hk=>
    hK ((E1.out E3 bo mm).relab [9,1] [0,d]) _ v (Vu R4 F4 hres) (P4.trans (zk (z6 _) (jp _ _) (zN (by decide) _))) hk
  unfold ja at hout
  split at hout
  · exact last hout
  · rename_i p sz cs htk
    split at hout
    · rename_i cs' hcs'
      obtain⟨hcl',hvp,hdead,hk⟩:=hout
      rcases hpl2 with h|⟨p',sz',cs0,len,cap,h30,h4,h5,hsz,hcl,hlc,hcm,rfl⟩
      · cases h
      · have e1:=congrArg Prod.fst (Option.some.inj h30)
        have e2:=congrArg (fun y=>y.2.1) (Option.some.inj h30)
        have e3:=congrArg (fun y=>y.2.2) (Option.some.inj h30)
        simp only[] at e1 e2 e3
        subst e1 e2 e3
        have hm1:bo.length<mm:=by rw[←hM];simp[Zc]
        obtain⟨hO,arr,T,f,hb,ha,hl,hf,hvv⟩:=H3.objs bo.length cs' hcs'
        obtain⟨x1,x2,x3⟩:=P3.ids.2 bo.length hm1
        have y1:E3.ρ bo.length=pb:=x1.trans (if_neg (Nat.lt_irrefl _))
        have y2:E3.β bo.length=po:=x2.trans (if_neg (Nat.lt_irrefl _))
        have y3:E3.κ bo.length=cap*sz:=x3.trans (if_neg (Nat.lt_irrefl _))
        rw[y1] at hO hb
        rw[y2,y3] at ha
        rw[y2] at hf
        have hown:VRel (E1.out E3 bo mm) (some [9,0]) (.own (some sz) (za.renL (zU bo mm st1.h.length) cs')) (.slice (some ⟨pb,po,none⟩) len cap):=by
          refine .own _ sz _ pb po len cap arr T f (uE (s:=[]) hm1 hO) hb ⟨hsz,by rw[zg,hcl',hcl]⟩ hlc hcm ha (fun k A hk=>?_) fun k A hk=>?_
          · obtain⟨B,hB,_⟩:=ze hk
            exact hf k B hB
          · obtain⟨B,hB,rfl⟩:=ze hk
            exact YP (p:=[1,bo.length]) (q:=[9,0]) R1.lim R1.num hbo hmm h3 P3 (fun b s hb=>uE hm1 hb) (fun hl=>Zl (qJ (hfl hl).2 hcs') hB) (hvv k B hB)
        have hidlt:∀id r,p=1::id::r→id<st.h.length:=fun id r e=>by
          subst e
          cases r with
          |nil=>simp[zb.at] at h4
          | cons c r=>
            simp only[zb.at] at h4
            split at h4
            · rename_i hh;exact(List.getElem?_eq_some_iff.1 hh).1
            · cases h4
        have hgrow:st.h.length≤st1.h.length:=by rw[←R.num,←R1.num];exact P01.ids.1
        have hpv:zr (E1.out E3 bo mm) a.tmps p=some (.slice (some ⟨pb,po,none⟩) len cap):=by
          rw[Vx R1 hmm P3 hvp (fun id r e=>Nat.lt_of_lt_of_le (hidlt id r e) hgrow) hdead]
          rw[Vs hwE P01.ids (fun id r e=>by rw[R.num];exact hidlt id r e)]
          exact h5
        have hroot:∀i ks,p=0::i::ks→i∈V∨i∈(st1.after bo L mm h').ts.map (·.1):=fun i ks e=>by
          subst e
          rw[JT,Zj _ huse,JC htake]
          exact R.root_at h4 (by simp)
        have R5:=(R4.land p).fill (B:= .own (some sz) (za.renL (zU bo mm st1.h.length) cs')) rfl hdead hroot ((wt rfl fun _=>⟨rfl,rfl⟩).trans hpv) (hown.land p)
        have hres5:VRel ((E1.out E3 bo mm).relab [9,0] p) (some [9,1]) (r.ren (zU bo mm st1.h.length)) v:=hres.aside [9,0] p fun ℓ e=>by cases e;exact kA (by decide)
        have F5:zo N V ((st1.after bo L mm h').setAt p (.own (some sz) (za.renL (zU bo mm st1.h.length) cs'))) d:=F4.of ZC
        exact hK (((E1.out E3 bo mm).relab [9,0] p).relab [9,1] [0,d]) _ v (Vu R5 F5 hres5) ((P4.trans (zk (z6 _) (Zo (zq h4)) (zN (by decide) _))).trans (zk (z6 _) (jp _ _) (zN (by decide) _))) hk
    · exact last hout
theorem gW (hT:jV P E)(R:zi E N V st a.tmps)(F:zo N V st d){c:Call}{fo:Operand}{of:zm}{oargs:List (zm×Bool)}(ho:o.op= .call c)(hc:c.callee= .value fo)(hdst:o.dst=some d)(hf:zd fo=some of)(hargs:c.args.toList.map zd=oargs.map fun y=>some y.1)
    {K:zb→Prop} {next:Act→World→Prop} {Q:Exit→Act→World→Prop} (h:qZ P L st d of oargs K)
    (hK:∀E' st' v,zi E' N V st' (a.tmps.setIfInBounds d v)→zy L E E'→K st'→next (a.put (some d) v) E'.w):o.wp P a E.w next Q:=by
  unfold qZ at h
  split at h
  · rename_i g first captured hev
    obtain⟨ms,bo,ln,pl,h⟩:=h
    obtain⟨x,po,hx1,hx2,_⟩:=zj R hf hev rfl
    have hx3:VRel E none (.fn (.func g) first captured) x:=by
      cases hx2 with
      |fn _ _ _ _ us vs hus hvs h1 h2=>exact .fn _ _ _ _ us vs hus hvs h1 h2
    exact KE hT R F ho hc hdst hargs hx1 hx3 h hK
  · exact h.elim
end
end Go.Ga

namespace Go.Ga
open Go
section
variable {L:List (List Nat)} {E:Env} {N:Nat} {V:List Nat} {st:zb} {a:Act} {P:Program} {o:Oper} {d:Nat} {t t' e:TypeId} {i:TypeInfo} {z:Value}
def Xp (st:zb)(d:Nat)(s x:zm)(sz bs:Nat)(zs:List Value):Option zb:=
 match st.ev s with
 | .sc u=>match st.dec x with
   |some n=>if j8 u=true∧0<n∧bs*n.toNat≤140737488355328∧n≤9223372036854775807 then some (st.putT d (.own (some sz) (zv zs n.toNat))) else none
   |none=>none
 |_=>none
theorem Vd {k:IntKind}(ht:P.underlying t=some (.slice e))(ht':P.underlying t'=some (.int k))(hi:P.info? e=some i)(hz:i.zero=some z)(hzs:z.cells.size=i.size)(hsz:0<i.size)(w:World)(kk:IntKind){n:Nat}(h0:0<n)(hb:i.bytes*n≤140737488355328)(h63:n≤9223372036854775807)(ty:TypeId):
    ∃c',0+n≤c'∧c'≤maxLen∧(Builtin.append_ #[t,t'] ty #[.slice none 0 0,.int kk (n:Int)]).run P w= .ok (.slice (some ⟨w.heap.size,0,none⟩) (0+n) c') (w.drew.alloc (.cells (([]:List Value).toArray++(Builtin.zeroCells z.cells n).toList.toArray++Builtin.zeroCells z.cells (c' - (0+n))) e)):=by
  rw[Nat.zero_add]
  refine⟨grownCap w n 0 e,?_,grownCap_le_maxLen w _ _ e (by simp[maxLen];omega),?_⟩
  · simp only[grownCap,Question.cut];omega
  · have hw:IntKind.i64.wrap (n:Int)=(n:Int):=IntWalk.i64_in _ (by omega)
    have h1:¬((n:Int)<0):=by omega
    have hb':(n:Int)*(i.bytes:Int)≤140737488355328:=by rw[←Int.natCast_mul,Nat.mul_comm];omega
    have h2:¬(281474976710656<(n:Int)*(i.bytes:Int)):=by omega
    have hn:¬(n≤0):=by omega
    have hn':¬(n=0):=by omega
    have h63':¬(9223372036854775807<(n:Int)):=by omega
    have hfit:=growslice_fits (need:=n) (old:=0) (bytes:=i.bytes) (by omega) (by rw[Nat.mul_comm];exact hb)
    have h48':¬(281474976710656<Builtin.nextslicecap n 0*i.bytes):=by omega
    have hs0:¬(n*i.size=0):=by have:=Nat.mul_pos h0 hsz;omega
    simp[Builtin.append_,run_underlying ht,run_underlying ht',sizeOf,typeInfo,zeroValue,hi,hz,asInt,asIntOf,hw,h1,h2,hn,hn',hs0,h63',h48',Question.forced,newRow,grownCap,Builtin.firstCells]
theorem gY (R:zi E N V st a.tmps)(F:zo N V st d){s x:Operand}{os ox:zm}{k:IntKind}(ho:o.op= .call {callee:= .builtin .append,args:= #[s,x],argTypes:= #[t,t']})(ht:P.underlying t=some (.slice e))(ht':P.underlying t'=some (.int k))(hi:P.info? e=some i)(hz:i.zero=some z)(hzs:z.cells.size=i.size)(hsz:0<i.size)
    (hs:zd s=some os) (hx:zd x=some ox) {st':zb} (h:Xp st d os ox i.size i.bytes z.cells.toList=some st'):Jj L E N V st' a P o d:=by
  unfold Xp at h
  split at h
  case h_2=>cases h
  rename_i u hu
  split at h
  case h_2=>cases h
  rename_i n hn
  split at h
  case isFalse=>cases h
  rename_i hc
  obtain⟨h1,h2,h3,h4⟩:=hc
  cases h
  obtain rfl:=JP h1
  have hnil:a.eval s= .slice none 0 0:=Za R hs hu
  obtain⟨kk,hxe⟩:=Ji R hx hn
  obtain⟨c',hc1,hc2,hr⟩:=Vd (P:=P) ht ht' hi hz hzs hsz E.w kk (n:=n.toNat) (by omega) h3 (by omega) o.type
  rw[show((n.toNat:Nat):Int)=n by omega] at hr
  have hzl:z.cells.toList.length=i.size:=by rw[Array.length_toList];exact hzs
  have hlen:=ZO z.cells.toList n.toNat
  refine qI (L:=L) (P:=P) (o:=o) (e:=e) (z:=z) R F (olds:=[]) (news:=(Builtin.zeroCells z.cells n.toNat).toList) (cs:=[]) (xs:=zv z.cells.toList n.toNat) rfl ?_ hsz (n:=0) (m:=n.toNat) (c':=c') (by simp) ?_ hzs hc1 hc2 (fun k A u hA=>by simp at hA) (fun k A u hA hu=>?_) ?_
  · rw[Array.length_toList,size_zeroCells,hlen,hzl,hzs]
  · rw[hlen,hzl]
  · obtain⟨hlt,hz',rfl⟩:=Zu hA
    have:u=z.cells.toList[k%z.cells.toList.length]:=by
      simp[Builtin.zeroCells] at hu
      obtain⟨j,hj,rfl⟩:=hu
      obtain⟨hj1,hj2⟩:=List.getElem?_eq_some_iff.1 hj
      obtain rfl:k=j:=by simpa using hj2
      have:k%z.cells.size<z.cells.size:=by simpa using hz'
      simp[this]
    rw[this]
    exact .sc _ _
  · have hrun:(execOp a.eval o).run P E.w=((Builtin.append_ #[t,t'] o.type #[a.eval s,a.eval x]).run P E.w).andThen (fun v w=> .ok (.value v) w):=by
      simp[execOp,ho,resolve,invoke,builtin]
    rw[hrun,hnil,hxe,hr];rfl
end
end Go.Ga

namespace Go.Ga
open Go
section
variable {L:List (List Nat)} {E:Env} {N:Nat} {V:List Nat} {st:zb} {a:Act} {P:Program} {o:Oper} {d:Nat}
def Env.obj (E:Env)(b:Nat)(x:Obj):Env:={E with w:={E.w with heap:=E.w.heap.setIfInBounds b x}}
theorem qB {b b':Nat}{x:Obj}(h:b'≠b):(E.obj b x).w.heap[b']?=E.w.heap[b']?:=by
 show(E.w.heap.setIfInBounds b x)[b']?=_
 rw[Array.getElem?_setIfInBounds_ne (fun e=>h e.symm)]
theorem y9 {b:Nat}{x:Obj}:(E.obj b x).w.heap.size=E.w.heap.size:=by simp[Env.obj]
theorem VC {b:Nat}{x:Obj}(h:b<E.w.heap.size):(E.obj b x).w.heap[b]?=some x:=by
 show(E.w.heap.setIfInBounds b x)[b]?=_
 simp[h]
theorem wm {b:Nat}{x:Obj}{p:List Nat}(hO:E.O b=some p):zM p E (E.obj b x) where
 size:=by rw[y9];exact Nat.le_refl _
 ids:=⟨Nat.le_refl _,fun _ _=>⟨rfl,rfl,rfl⟩⟩
 none_ b' hb' _:=⟨hb',qB fun e=>by rw[e,hO] at hb';cases hb'⟩
 else_ b' q hq hp:=⟨hq,qB fun e=>by rw[e,hO] at hq;cases hq;exact hp (List.prefix_refl _)⟩
theorem Kl {b:Nat}{x:Obj}(hl:∀b q,E.O b=some q→b<E.w.heap.size):∀b' q,(E.obj b x).O b'=some q→b'<(E.obj b x).w.heap.size:=by
 intro b' q h
 rw[y9]
 exact hl b' q h
theorem Vv {b:Nat}{x:Obj}{p:List Nat}(hO:E.O b=some p)(hm:qe p)(hw:¬kL L p):zy L E (E.obj b x) where
 size:=by rw[y9];exact Nat.le_refl _
 os:=rfl
 tape:=rfl
 output:=rfl
 old:=(wm hO).none_
 far b' r hb':=⟨hb',qB fun e=>by rw[e,hO] at hb';exact jO hm (List.prefix_refl _) r (Option.some.inj hb')⟩
 farB _ _ h:=h
 ids:=⟨Nat.le_refl _,fun _ _=>⟨rfl,rfl,rfl⟩⟩
 keep b' r hr hb' _:=⟨.inl hb',qB fun e=>by rw[e,hO] at hb';cases hb';exact hw hr⟩
theorem Wv (kd:IntKind)(n:Int):∀(es:List MapEntry) (ks:List Int) (i:Nat),es.map (fun e=>(e.key,e.val))=KX ks→
    (n∈ks→∃j,Instr.findNow (.int kd) (.int .i64 n) es i=some (some (i+j,.bool true))∧j<es.length)∧(n∉ks→Instr.findNow (.int kd) (.int .i64 n) es i=some none)
  | [],ks,i,h=>by
    have:ks=[]:=by cases ks with
      |nil=>rfl
      |cons k ks=>simp[KX] at h
    subst this
    exact⟨fun h=>(by cases h),fun _=>rfl⟩
  |e::es,[],i,h=>by simp[KX] at h
  | e ::es,k::ks,i,h=>by
    simp only[KX,List.map_cons,List.cons.injEq,Prod.mk.injEq] at h
    obtain⟨⟨h1,h2⟩,h3⟩:=h
    replace h3:es.map (fun e=>(e.key,e.val))=KX ks:=h3
    have ih:=Wv kd n es ks (i+1) h3
    have hs:Instr.sameNow (.int kd) (.int .i64 n) e.key=some (n==k):=by rw[h1];simp[Instr.sameNow]
    by_cases hn:n=k
    · subst hn
      rw[beq_self_eq_true] at hs
      refine⟨fun _=>⟨0,?_,by simp⟩,fun h=>absurd (List.mem_cons_self ..) h⟩
      simp only[Instr.findNow,hs,h2,Nat.add_zero]
    · have hb:(n==k)=false:=by simp[hn]
      rw[hb] at hs
      refine⟨fun hm=>?_,fun hm=>?_⟩
      · rcases List.mem_cons.1 hm with h|h
        · exact absurd h hn
        · obtain⟨j,h4,h5⟩:=ih.1 h
          refine⟨j+1,?_,by simp;omega⟩
          simp only[Instr.findNow,hs,h4]
          congr 3;omega
      · simp only[Instr.findNow,hs]
        exact ih.2 fun h=>hm (List.mem_cons_of_mem _ h)
def Xl (st:zb)(d:Nat):Option zb:=some (st.putT d (.mp []))
theorem gT (R:zi E N V st a.tmps)(F:zo N V st d){t:TypeId}(ho:o.op= .makeMap t none){st':zb}(h:Xl st d=some st'):Jj L E N V st' a P o d:=by
 cases h
 have hrun:(execOp a.eval o).run P E.w= .ok (.value (.map (some E.w.heap.size))) (E.w.alloc (.map #[] 0)):=by
  simp[execOp,ho,Instr.makeMap]
 have hp:zM [9,0] E (E.fresh (.map #[] 0) [0,d]):=by
  have U:=jl R.lim (.map #[] 0) [0,d]
  refine⟨U.size,U.ids,U.none_,fun b q hb _=>⟨by simp[Env.fresh,Nat.ne_of_lt (R.lim b q hb),hb],ji (R.lim b q hb)⟩⟩
 have R1:=R.flight hp (qF R.lim _ _) rfl
 refine⟨_,E.fresh (.map #[] 0) [0,d],hrun,R1.putT_val F.lt F.v F.t ?_,JI R.lim _ (jp d [])⟩
 refine .mp [0,d] [] E.w.heap.size #[] 0 Ja ?_ rfl
 show(E.w.heap.push _)[E.w.heap.size]?=_
 simp
def Xn (st:zb)(d:Nat)(x k:zm):Option zb:=
 match st.ev x,st.ev k with
 | .at_ p,.sc (.int .i64 n)=>match st.at p with
   |some (.mp ks)=>some (st.putT d (.sc (.bool (decide (n∈ks)))))
   |_=>none
 |_,_=>none
theorem Q3 {kt:TypeId}{kd:IntKind}(hk:P.underlying kt=some (.int kd))(e:Bool)(v:Value)(w:World):(Instr.checkKey e 10000 kt v).run P w= .ok () w:=by
 show(Instr.checkKey e (9999+1) kt v).run P w=_
 unfold Instr.checkKey
 generalize (9999:Nat)=m
 simp[run_underlying hk]
theorem gV (R:zi E N V st a.tmps)(F:zo N V st d){t kt et:TypeId}{kd:IntKind}{inf:TypeInfo}{x k:Operand}{ox ok:zm}(ho:o.op= .lookup t x k false)(ht:P.underlying t=some (.map kt et))(hk:P.underlying kt=some (.int kd))
    (hi:P.info? et=some inf) (hz:inf.zero=some (.bool false)) (hx:zd x=some ox) (hok:zd k=some ok) {st':zb} (h:Xn st d ox ok=some st'):Jj L E N V st' a P o d:=by
  unfold Xn at h
  split at h
  · rename_i p n hA hK
    split at h
    · rename_i ks hB
      cases h
      obtain⟨B,v,h1,h2,h3,h4,h5⟩:=qX R hx hA
      rw[hB] at h1
      cases h1
      have hkv:a.eval k= .int .i64 n:=Za R hok hK
      cases h5 with
      | mp _ _ b es c hO hb he=>
        have hf:=Wv kd n es.toList ks 0 he
        have hrun:(execOp a.eval o).run P E.w= .ok (.value (.bool (decide (n∈ks)))) E.w:=by
          by_cases hm:n∈ks
          · obtain⟨j,hj,_⟩:=hf.1 hm
            simp[execOp,ho,h4,hkv,Instr.lookup,run_underlying ht,run_underlying hk,getObj,Sem.run,hb,Q3 hk,Instr.findKey,hj,hm]
          · have hj:=hf.2 hm
            simp[execOp,ho,h4,hkv,Instr.lookup,run_underlying ht,run_underlying hk,getObj,Sem.run,hb,Q3 hk,Instr.findKey,hj,hm,zeroValue,typeInfo,hi,hz]
        exact⟨_,E,hrun,z2 R F _,zy.refl E⟩
    · cases h
  · cases h
def Xk (st:zb)(x k v:zm):Option zb:=
 match st.ev x,st.ev k,st.ev v with
 | .at_ p,.sc (.int .i64 n),.sc (.bool true)=>match st.at p with
   |some (.mp ks)=>bif decide (n∈ks) then none else some ((st.kill (za.under p false)).setAt p (.mp (ks++[n])))
   |_=>none
 |_,_,_=>none
def zb.mputQ (L:List (List Nat))(st:zb)(x:zm):Bool:=
 match st.ev x with
 | .at_ p=> !L.contains p
 |_=>true
theorem Uz {x:zm}:st.mputQ [] x=true:=by
 unfold zb.mputQ
 split<;>rfl
theorem kB (R:zi E N V st a.tmps){t kt et:TypeId}{kd:IntKind}{x k v:Operand}{ox ok ov:zm}(ho:o.op= .mapUpdate t x k v∨o.op= .insert t x k v)(ht:P.underlying t=some (.map kt et))(hk:P.underlying kt=some (.int kd))
    (hx:zd x=some ox) (hok:zd k=some ok) (hv:zd v=some ov) {st':zb} (h:Xk st ox ok ov=some st') (hq:st.mputQ L ox=true):g0 L E N V st' a P o:=by
  unfold Xk at h
  split at h
  · rename_i p n hA hK hV
    split at h
    · rename_i ks hB
      rcases zE h with⟨_,h⟩|⟨hnm,h⟩
      · cases h
      have hm:n∉ks:=of_decide_eq_false hnm
      cases h
      unfold zb.mputQ at hq
      rw[hA] at hq
      simp only[] at hq
      obtain⟨B,u,h1,h2,h3,h4,h5⟩:=qX R hx hA
      rw[hB] at h1
      cases h1
      have hkv:a.eval k= .int .i64 n:=Za R hok hK
      have hvv:a.eval v= .bool true:=Za R hv hV
      have hpl:=zq hB
      cases h5 with
      | mp _ _ b es c hO hb he=>
        have hlt:=R.lim _ _ hO
        have hf:=Wv kd n es.toList ks 0 he
        have turn:∀(x':Obj) (ks':List Int) (es':Array MapEntry) (c':Nat),x'= .map es' c'→es'.toList.map (fun e=>(e.key,e.val))=KX ks'→(execOp a.eval o).run P E.w= .ok .skip (E.obj b x').w→
            g0 L E N V ((st.kill (za.under p false)).setAt p (.mp ks')) a P o:=fun x' ks' es' c' hx' he' hrun=>by
          subst hx'
          refine⟨E.obj b (.map es' c'),hrun,R.turn (B':= .mp ks') (keep:=false) hB rfl (fun e=>by cases e) (wm hO) (Kl R.lim) rfl h3 ?_,Vv hO (Zo hpl) (jM hq)⟩
          exact .mp p ks' b es' c' hO (VC hlt) he'
        have hj:=hf.2 hm
        refine turn (.map (es.push {key:= .int .i64 n,val:= .bool true,born:=c}) (c+1)) (ks++[n]) _ _ rfl (by simp[he,KX]) ?_
        rcases ho with ho|ho<;>
          simp[execOp,ho,h4,hkv,hvv,Instr.mapUpdate,run_underlying ht,run_underlying hk,getObj,setObj,Sem.run,hb,Q3 hk,Instr.findKey,hj,Env.obj]
    · cases h
  · cases h
end
end Go.Ga

namespace Go.Ga
open Go
section
variable {L:List (List Nat)} {E:Env} {N:Nat} {V:List Nat} {st:zb} {a:Act} {P:Program} {o:Oper} {d:Nat} {t t' e:TypeId} {i:TypeInfo} {z:Value}
def kG (st:zb)(d:Nat)(s x:zm)(sz:Nat):Option zb:=
 match st.evA s with
 | .sl id off len s'=>match st.h[id]? with
   | some (some cs)=>match st.given sz (st.evA x) with
     |some xs=>if s'=sz∧off+min (xs.length / sz) len*sz≤cs.length∧za.copyableL xs=true∧za.cellOkL xs=true then some ((st.storeObj id (zK cs off (xs.take (min (xs.length / sz) len*sz)))).putT d (.sc (.int .i64 ((min (xs.length / sz) len:Nat):Int)))) else none
     |none=>none
   |_=>none
 | .at_ p=>match st.at p with
   | some (.own (some _) [])=>match st.given sz (st.evA x) with
     |some _=>some (st.putT d (.sc (.int .i64 0)))
     |none=>none
   |_=>none
 |_=>none
def zb.cpyQ (L:List (List Nat))(st:zb)(s:zm):Bool:=
 match st.evA s with
 | .sl id _ _ _=> !L.contains [1,id]
 |_=>true
theorem kg {st:zb}{s:zm}:st.cpyQ [] s=true:=by
 unfold zb.cpyQ
 split<;>rfl
theorem Vc (ht:P.underlying t=some (.slice e))(hi:P.info? e=some i){w:World}{b k len cap m:Nat}{arr:Array Value}{T:TypeId}(hb:Jw w b arr T){v:Value}{news:List Value}(h:jT w i.size m v news)
    (hfit:k+(news.take (min m len*i.size)).length≤arr.size) (h1:∀u∈news,u.oneCell'=true) (ty:TypeId):
    (Builtin.copy_ #[t,t'] ty #[.slice (some ⟨b,k,none⟩) len cap,v]).run P w= .ok (.int .i64 ((min m len:Nat):Int)) (w.setRow b (arr.toList.take k++news.take (min m len*i.size)++arr.toList.drop (k+(news.take (min m len*i.size)).length)).toArray):=by
  have hst:=Z4 (P:=P) b k T (news.take (min m len*i.size)) 0 arr w hb (by simpa using hfit) (fun u hu=>h1 u (List.mem_of_mem_take hu))
  simp only[Nat.add_zero] at hst
  have hnm:Nat.min m len=min m len:=rfl
  obtain⟨hl,h|⟨b',k',c,rfl,hc⟩⟩:=h
  · obtain⟨p,rfl,rfl⟩:=h
    have hn0:news=[]:=by simpa using hl
    subst hn0
    have h00:min 0 len=0:=Nat.zero_min len
    have hf:(Builtin.firstCells i.size (min 0 len) (.slice p 0 0)).run P w= .ok #[] w:=by
      rw[h00]
      cases p with
      |none=>simp[Builtin.firstCells]
      |some a=>exact run_firstCells_some w i.size 0 a 0 0 [] (by simp) (fun j u hj=>by simp at hj)
    simp[h00] at hst hf
    simp[Builtin.copy_,run_underlying ht,sizeOf,typeInfo,hi,Builtin.lenOf,hf,hst,goInt,h00]
  · have hlen:(news.take (min m len*i.size)).length=min m len*i.size:=by
      rw[List.length_take,hl]
      exact Nat.min_eq_left (Nat.mul_le_mul_right _ (Nat.min_le_left _ _))
    have hf:=run_firstCells_some (P:=P) w i.size (min m len) ⟨b',k',none⟩ m c (news.take (min m len*i.size)) hlen (fun j u hj=>by
      rw[Addr.add_lit]
      refine hc j u ?_
      rw[List.getElem?_take] at hj
      split at hj
      · exact hj
      · cases hj)
    simp[Builtin.copy_,run_underlying ht,sizeOf,typeInfo,hi,Builtin.lenOf,hnm,hf,hst,goInt]
theorem Uj (ht:P.underlying t=some (.slice e))(hi:P.info? e=some i){w:World}{ba:Option Addr}{cap m:Nat}{v:Value}{news:List Value}(h:jT w i.size m v news)(ty:TypeId):
    (Builtin.copy_ #[t,t'] ty #[.slice ba 0 cap,v]).run P w= .ok (.int .i64 0) w:=by
  have h00:min m 0=0:=Nat.min_zero m
  have hnm:Nat.min m 0=0:=Nat.min_zero m
  have hf:∃p c,v= .slice p m c∧(Builtin.firstCells i.size 0 v).run P w= .ok #[] w:=by
    obtain⟨hl,h|⟨b',k',c,rfl,hc⟩⟩:=h
    · obtain⟨p,rfl,rfl⟩:=h
      refine⟨p,0,rfl,?_⟩
      cases p with
      |none=>simp[Builtin.firstCells]
      |some a=>exact run_firstCells_some w i.size 0 a 0 0 [] (by simp) (fun j u hj=>by simp at hj)
    · exact⟨_,c,rfl,run_firstCells_some w i.size 0 _ m c [] (by simp) (fun j u hj=>by simp at hj)⟩
  obtain⟨p,c,rfl,hf⟩:=hf
  cases ba with
  |none=>simp[Builtin.copy_,run_underlying ht,sizeOf,typeInfo,hi,Builtin.lenOf,hnm,hf,goInt]
  |some a=>simp[Builtin.copy_,run_underlying ht,sizeOf,typeInfo,hi,Builtin.lenOf,hnm,hf,goInt,storeCells]
theorem GD (R:zi E N V st a.tmps)(F:zo N V st d){s x:Operand}{os ox:zm}(ho:o.op= .call {callee:= .builtin .copy,args:= #[s,x],argTypes:= #[t,t']})(ht:P.underlying t=some (.slice e))(hi:P.info? e=some i)(hsz:0<i.size)
    (hs:zd s=some os) (hx:zd x=some ox) {st':zb} (h:kG st d os ox i.size=some st') (hq:st.cpyQ L os=true):Jj L E N V st' a P o d:=by
  unfold kG at h
  unfold zb.cpyQ at hq
  have hXna:∀xs,st.given i.size (st.evA ox)=some xs→∃X,st.evA ox=X∧X.isAlias=false:=fun xs hgx=>by
    refine⟨_,rfl,?_⟩
    generalize st.evA ox=X at hgx
    cases X<;>first|rfl|(simp only[zb.given] at hgx;cases hgx)
  have hrun:(execOp a.eval o).run P E.w=((Builtin.copy_ #[t,t'] o.type #[a.eval s,a.eval x]).run P E.w).andThen (fun v w=> .ok (.value v) w):=by
    simp[execOp,ho,resolve,invoke,builtin]
  split at h
  case h_3=>cases h
  case h_2=>
    rename_i p hev
    split at h
    case h_2=>cases h
    rename_i s' hp
    split at h
    case h_2=>cases h
    rename_i xs hgx
    cases h
    obtain⟨B,v,h1,h2,h3,h4,h5⟩:=Q2 R hs hev
    rw[hp] at h1
    cases h1
    obtain⟨X,hX,hna⟩:=hXna _ hgx
    rw[hX] at hgx
    obtain⟨v2,po',k1,k2,_⟩:=zj R hx (zO hX hna) hna
    obtain⟨m,news,hHold,hnl,hxs⟩:=qh R hsz k2 hgx
    have h0:∃ba cap,v= .slice ba 0 cap:=by
      cases h5 with
      | own _ _ _ b k len cap arr T f hO hb hl hc hm ha hf hh=>
        have hz:len=0:=by
          have:=hl.2
          rcases Nat.mul_eq_zero.1 this.symm with h|h
          · exact h
          · have:=hl.1;omega
        subst hz
        exact⟨_,_,rfl⟩
      |ownNil=>exact⟨_,_,rfl⟩
    obtain⟨ba,cap,rfl⟩:=h0
    refine⟨.int .i64 0,E,?_,R.putT_val F.lt F.v F.t (.sc _ _),zy.refl E⟩
    rw[hrun,h4,k1,Uj ht hi hHold]
    rfl
  rename_i id off len s' hsv
  rw[hsv] at hq
  simp only[] at hq
  split at h
  case h_2=>cases h
  rename_i cs hcs
  split at h
  case h_2=>cases h
  rename_i xs hgx
  split at h
  case isFalse=>cases h
  rename_i hc
  obtain⟨rfl,hle,hcp,hok⟩:=hc
  cases h
  obtain⟨y,po,h1,h2,_⟩:=zj R hs (zO hsv rfl) rfl
  obtain⟨X,hX,hna⟩:=hXna _ hgx
  rw[hX] at hgx
  obtain⟨v,po',k1,k2,_⟩:=zj R hx (zO hX hna) hna
  obtain⟨m,news,hHold,hnl,hxs⟩:=qh R hsz k2 hgx
  have hxm:xs.length=m*i.size:=hnl▸hHold.1
  have hdiv:xs.length / i.size=m:=by rw[hxm,Nat.mul_div_cancel _ hsz]
  rw[hdiv] at hle⊢
  have hone:∀u∈news,u.oneCell'=true:=by
    intro u hu
    obtain⟨j,hj⟩:=List.mem_iff_getElem?.1 hu
    have hlt:j<xs.length:=by rw[←hnl];exact(List.getElem?_eq_some_iff.1 hj).1
    exact(hxs j _ u (List.getElem?_eq_getElem hlt) hj none).oneCell (Jc hok (List.getElem?_eq_getElem hlt))
  cases h2 with
  | sl _ _ _ _ cap _ hid hcap hm hκ=>
    obtain⟨hO,arr,T,f,hb,ha,hl,hf,hold⟩:=R.objs id cs hcs
    have hmn:min m len*i.size≤m*i.size:=Nat.mul_le_mul_right _ (Nat.min_le_left _ _)
    have hxl:(xs.take (min m len*i.size)).length=min m len*i.size:=by rw[List.length_take,hxm];exact Nat.min_eq_left hmn
    have hnl2:(news.take (min m len*i.size)).length=min m len*i.size:=by rw[List.length_take,hnl,hxm];exact Nat.min_eq_left hmn
    have hle':off+(xs.take (min m len*i.size)).length≤cs.length:=by rw[hxl];exact hle
    have hfit:E.β id+off+(news.take (min m len*i.size)).length≤arr.size:=by rw[hnl2];omega
    have hr:=Vc (P:=P) (t':=t') ht hi hb (len:=len) (cap:=cap) hHold hfit hone o.type
    let arr':=(arr.toList.take (E.β id+off)++news.take (min m len*i.size)++arr.toList.drop (E.β id+off+(news.take (min m len*i.size)).length)).toArray
    have hs':arr'.size=arr.size:=Jn hfit
    have hOR:JU (E.row (E.ρ id) arr') id (zK cs off (xs.take (min m len*i.size))):=by
      refine⟨hO,arr',T,fun j=>arr'.getD (E.β id+j) undef,hb.set hs',by rw[hs'];exact ha,by rw[zR hle'];exact hl,fun j B hj=>?_,fun j B hj=>?_⟩
      · have hlt:j<cs.length:=by rw[←zR hle'];exact(List.getElem?_eq_some_iff.1 hj).1
        have:E.β id+j<arr'.size:=by rw[hs'];omega
        show arr'[E.β id+j]?=some (arr'.getD (E.β id+j) undef)
        simp[Array.getD,this]
      · have hlt:j<cs.length:=by rw[←zR hle'];exact(List.getElem?_eq_some_iff.1 hj).1
        have hlt2:E.β id+j<arr'.size:=by rw[hs'];omega
        have hg:=qy (arr:=arr) (vs:=news.take (min m len*i.size)) hfit (E.β id+j)
        have hgd:∀u,arr'[E.β id+j]?=some u→arr'.getD (E.β id+j) undef=u:=fun u hu=>by simp[Array.getD,hlt2,(Array.getElem?_eq_some_iff.1 hu).2]
        show VRel (E.row (E.ρ id) arr') (some ([1,id]++[j])) B (arr'.getD (E.β id+j) undef)
        rw[jB hle'] at hj
        split at hj
        · rename_i hjk
          rw[hxl] at hjk
          rw[if_pos (by rw[hnl2];omega)] at hg
          have hlt3:j - off<(news.take (min m len*i.size)).length:=by rw[hnl2];omega
          rw[show E.β id+j - (E.β id+off)=j - off by omega,List.getElem?_eq_getElem hlt3] at hg
          rw[hgd _ hg]
          have hj':xs[j - off]?=some B:=by
            rw[List.getElem?_take,if_pos (by omega)] at hj
            exact hj
          have hn':news[j - off]?=some ((news.take (min m len*i.size))[j - off]):=by
            have:=List.getElem?_eq_getElem hlt3
            rw[List.getElem?_take,if_pos (by omega)] at this
            exact this
          have:=(hxs _ B _ hj' hn' none).copy (some ([1,id]++[j])) (zC hcp hj')
          exact this.rowKeep hO
        · rename_i hjk
          rw[hxl] at hjk
          rw[if_neg (by rw[hnl2];omega)] at hg
          have hw:=hf j B hj
          rw[hgd _ (hg.trans hw)]
          exact(hold j B hj).rowKeep hO
    have R4:=R.obj hcs (jg (arr:=arr') hO) (qE R.lim) rfl hOR
    have F4:zo N V (st.storeObj id (zK cs off (xs.take (min m len*i.size)))) d:=F.of (by simp only[zb.storeObj];exact z1)
    refine⟨.int .i64 ((min m len:Nat):Int),E.row (E.ρ id) arr',?_,R4.putT_val F4.lt F4.v F4.t (.sc _ _),Jp hO (Ye _) (jM hq)⟩
    rw[hrun,h1,k1,hr]
    rfl
end
end Go.Ga

namespace Go.Ga
open Go
def JX (l:List UInt8):List za:=l.map fun b=> .sc (.int .u8 (b.toNat:Int))
theorem ZL (l:List UInt8):(JX l).length=l.length:=by simp[JX]
theorem wZ :∀l:List UInt8,kO (JX l)=some l
 |[]=>rfl
 | b::l=>by
   have h:((b.toNat:Nat):Int)<256:=by have:=b.toNat_lt;omega
   have e:(((b.toNat:Nat):Int)).toNat=b.toNat:=by omega
   show(if 0≤((b.toNat:Nat):Int)∧((b.toNat:Nat):Int)<256 then(kO (JX l)).map (UInt8.ofNat (((b.toNat:Nat):Int)).toNat:: ·) else none)=_
   rw[if_pos ⟨by omega,h⟩,wZ l,e]
   simp
theorem wY :∀{cs:List za} {l:List UInt8},kO cs=some l→l.length=cs.length∧∀j (hj:j<l.length),cs[j]?=some (.sc (.int .u8 (l[j].toNat:Int)))
 |[],l,h=>by cases h;exact⟨rfl,fun j hj=>by simp at hj⟩
 | A :: r, l,h=>by
   unfold kO at h
   split at h
   · rename_i e
     cases e
   · rename_i n r' e
     cases e
     split at h
     · rename_i hn
       cases hr:kO r with
       |none=>rw[hr] at h;cases h
       | some l'=>
         rw[hr] at h
         cases h
         obtain⟨k1,k2⟩:=wY hr
         refine⟨by simp[k1],fun j hj=>?_⟩
         cases j with
         | zero=>
           have:(UInt8.ofNat n.toNat).toNat=n.toNat:=by simp;omega
           show some _=some (za.sc (.int .u8 ((UInt8.ofNat n.toNat).toNat:Int)))
           rw[this,Int.toNat_of_nonneg hn.1]
         |succ j=>simpa using k2 j (by simpa using hj)
     · cases h
   · cases h
section
variable {L Ls:List (List Nat)} {E:Env} {N:Nat} {V:List Nat} {st:zb} {a:Act} {P:Program} {o:Oper} {d:Nat} {t t' e:TypeId} {x:Operand} {ox:zm} {A:za}
theorem wU (dflt:Nat)(y:Option zm):st.bnd dflt y=st.bound dflt y:=by
 cases y with
 |none=>rfl
 |some y=>rfl
theorem Vf (R:zi E N V st a.tmps)(F:zo N V st d){lo hi:Option Operand}{olo ohi:Option zm}(ho:o.op= .slice t x lo hi none)(hu:P.underlying t=some .string)
    (hx:zd x=some ox) (hlo:qu lo olo) (hhi:qu hi ohi) (h:jd st (.slc d ox olo ohi 0)=some A):ZW Ls E N V st a P o d A:=by
  simp only[jd] at h
  split at h
  · rename_i s hb
    split at h
    · rename_i l m h1 h2
      split at h
      · rename_i hc
        cases h
        rw[wU] at h1 h2
        refine .pure (fun w=>?_) (z2 R F _)
        have hrb:=ZD (P:=P) R hlo hhi h1 h2 hc.1 hc.2 false w
        simp[execOp,ho,Instr.sliceAt,Instr.slice,Za R hx hb,run_underlying hu,hrb]
      · cases h
    · cases h
  · cases h
theorem Vg (R : zi E N V st a.tmps)(F:zo N V st d){n:Nat}{inf:TypeInfo}{lo:Option Operand}{olo:Option zm}(ho:o.op= .slice t x lo none none)(hu:P.underlying t=some (.array n e))(hi:P.info? e=some inf)(hsz:inf.size≠0)
    (hx:zd x=some ox) (hlo:qu lo olo) (h:jd st (.slc d ox olo (some (.c (.int .i64 (n:Int)))) inf.size)=some A):ZW Ls E N V st a P o d A:=by
  cases hs:inf.size with
  |zero=>exact absurd hs hsz
  | succ k=>
    rw[hs] at h
    simp only[jd] at h
    split at h
    · rename_i cs hb
      split at h
      · rename_i l m h1 h2
        have hm:m=n:=by
          simp[zb.bnd,zb.ev,za.int?] at h2
          omega
        subst hm
        split at h
        · rename_i hc
          cases h
          rw[wU] at h1
          obtain⟨v,po,k1,k2,_⟩:=zj R hx (zO hb rfl) rfl
          cases k2 with
          | ia _ _ b p f hO hbb hf hv=>
            have hrb:∀w,(Instr.sliceBounds false m m (lo.map a.eval) none none).run P w= .ok (l,m,m) w:=fun w=>
              ZD (P:=P) R (hi:=none) (ohi:=none) hlo trivial h1 rfl hc.1 (Nat.le_refl m) false w
            have hlen:((cs.drop (l*(k+1))).take ((m - l)*(k+1))).length=(m - l)*(k+1):=by
              have:=hc.2
              rw[List.length_take,List.length_drop]
              have:(m - l)*(k+1)=m*(k+1) - l*(k+1):=Nat.sub_mul ..
              omega
            refine .pure (v:= .slice (some ⟨b,if m=l then p else p+l*(k+1),none⟩) (m - l) (m - l)) (fun w=>?_) ?_
            · by_cases e:m=l
              · subst e
                simp[execOp,ho,Instr.sliceAt,Instr.sureAddr,k1,run_underlying hu,hrb,sizeOf,typeInfo,hi,hs]
              · simp[execOp,ho,Instr.sliceAt,Instr.sureAddr,k1,run_underlying hu,hrb,sizeOf,typeInfo,hi,hs,e,Addr.add_lit]
            · refine R.putT_val F.lt F.v F.t (.imm _ (k+1) _ b _ (m - l) (m - l) (fun j=>f (l*(k+1)+j)) hO hbb ⟨Nat.succ_pos k,hlen⟩ (Nat.le_refl _) (fun j A hj=>?_) fun j A hj=>?_)
              · have hj1:j<(m - l)*(k+1):=by rw[←hlen];exact(List.getElem?_eq_some_iff.1 hj).1
                have hj2:cs[l*(k+1)+j]?=some A:=by
                  rw[List.getElem?_take_of_lt hj1,List.getElem?_drop] at hj
                  exact hj
                have hne:¬m=l:=fun e=>by rw[e] at hj1;simp at hj1
                rw[if_neg hne,Nat.add_assoc]
                exact hf _ A hj2
              · have hj1:j<(m - l)*(k+1):=by rw[←hlen];exact(List.getElem?_eq_some_iff.1 hj).1
                rw[List.getElem?_take_of_lt hj1,List.getElem?_drop] at hj
                exact hv _ A hj
        · cases h
      · cases h
    · cases h
theorem KO (R:zi E N V st a.tmps)(F:zo N V st d)(ho:o.op= .convert t t' x)(hu:P.underlying t=some (.slice e))(he:P.underlying e=some (.int .u8))(hu':P.underlying t'=some .string)
    (hx:zd x=some ox) (h:jd st (.box d ox)=some A):ZW (jK st (.box d ox)) E N V st a P o d A:=by
  simp only[jd] at h
  split at h
  · rename_i cs hb
    cases hl:kO cs with
    |none=>rw[hl] at h;cases h
    | some l=>
      rw[hl] at h
      cases h
      obtain⟨h1,h2⟩:=wY hl
      obtain⟨v,po,k1,k2,_⟩:=zj R hx (zO hb rfl) rfl
      cases k2 with
      | imm _ _ _ b p len cap f hO hbb hlen hc hf hv=>
        have hll:len=l.length:=by have:=hlen.2;omega
        subst hll
        have hfv:∀j (hj:j<l.length),f j= .int .u8 (l[j].toNat:Int):=fun j hj=>by
          have:=hv j _ (h2 j hj)
          generalize f j=u at this
          cases this;rfl
        have hcell:∀j,j<l.length→E.w.cell? ⟨b,p+j,none⟩=some (f j):=fun j hj=>hf j _ (h2 j hj)
        refine⟨.string ⟨l.toArray⟩,jt b p l.length f,ZK hcell (Q:=fun b=>(E.O b=none∧b<E.w.heap.size)∨∃r∈jK st (.box d ox),(r.head?=some 0∨r.head?=some 1)∧E.O b=some r∧b<E.w.heap.size) (.inl ⟨hO,hbb⟩),fun w hw=>?_,z2 R F _⟩
        have hw2:=ZJ hw
        have hr:=run_convert_bytes_back (P:=P) w t t' e ⟨b,p,none⟩ cap l hu he hu' (fun j hj=>by
          rw[Addr.add_lit,hw2 j hj,hfv j hj])
        simp[execOp,ho,k1,hr]
      | immNil _ _ ad=>
        have hnil:l=[]:=List.length_eq_zero_iff.1 h1
        subst hnil
        clear h2
        refine .pure (v:= .string ⟨#[]⟩) (fun w=>?_) (z2 R F _)
        cases ad with
        | none=> 
          have hr:=run_convert_bytes_string (P:=P) w t t' e none 0 0 hu he hu'
          simp[execOp,ho,k1,hr,Conv.bytesToString]
          rfl
        | some ad=>
          have hr:=run_convert_bytes_back (P:=P) w t t' e ad 0 [] hu he hu' (fun j hj=>by simp at hj)
          simp only[List.length_nil] at hr
          simp[execOp,ho,k1,hr]
  · rename_i p hb
    have hev:=hb
    obtain⟨B,v,h1,h2,h3,h4,h5⟩:=Q2 R hx hb
    split at h
    · rename_i cs hown
      unfold zb.owned at hown
      rw[h1] at hown
      have hB:B= .own (some 1) cs:=by
        cases B<;>simp at hown
        obtain⟨rfl,rfl⟩:=hown;rfl
      subst hB
      cases hl:kO cs with
      |none=>rw[hl] at h;cases h
      | some l=>
        rw[hl] at h
        cases h
        obtain⟨e1,e2⟩:=wY hl
        cases h5 with
        | own _ _ _ b k len cap arr T f hO hbb hlen hc hm ha hf hv=>
          have hll:len=l.length:=by have:=hlen.2;omega
          subst hll
          have hfv:∀j (hj:j<l.length),f j= .int .u8 (l[j].toNat:Int):=fun j hj=>by
            have:=hv j _ (e2 j hj)
            generalize f j=u at this
            cases this;rfl
          have hcell:∀j,j<l.length→E.w.cell? ⟨b,k+j,none⟩=some (f j):=fun j hj=>by
            rw[hbb.cell];exact hf j _ (e2 j hj)
          refine⟨.string ⟨l.toArray⟩,jt b k l.length f,ZK hcell (Q:=fun b=>(E.O b=none∧b<E.w.heap.size)∨∃r∈jK st (.box d ox),(r.head?=some 0∨r.head?=some 1)∧E.O b=some r∧b<E.w.heap.size) (.inr ⟨p,by simp[jK,hev],Qb (zq h1),hO,hbb.lt⟩),fun w hw=>?_,z2 R F _⟩
          have hw2:=ZJ hw
          have hr:=run_convert_bytes_back (P:=P) w t t' e ⟨b,k,none⟩ cap l hu he hu' (fun j hj=>by
            rw[Addr.add_lit,hw2 j hj,hfv j hj])
          simp[execOp,ho,h4,hr]
        | ownNil=>
          have hnil:l=[]:=List.length_eq_zero_iff.1 e1
          subst hnil
          refine .pure (v:= .string ⟨#[]⟩) (fun w=>?_) (z2 R F _)
          have hr:=run_convert_bytes_string (P:=P) w t t' e none 0 0 hu he hu'
          simp[execOp,ho,h4,hr,Conv.bytesToString]
          rfl
    · cases h
  · rename_i hb
    cases h
    refine .pure (fun w=>?_) (z2 R F _)
    obtain⟨v,po,k1,k2,_⟩:=zj R hx (zO hb rfl) rfl
    cases k2
    have hr:=run_convert_bytes_string (P:=P) w t t' e none 0 0 hu he hu'
    simp[execOp,ho,k1,hr,Conv.bytesToString]
  · cases h
def kD (st:zb)(d:Nat)(x:zm):Option zb:=
 match st.ev x with
 | .sc (.string s)=>some (st.putT d (.imm 1 (JX s.data.toList)))
 |_=>none
theorem GA (R:zi E N V st a.tmps)(F:zo N V st d)(ho:o.op= .convert t t' x)(hu:P.underlying t=some .string)(hu':P.underlying t'=some (.slice e))(he:P.underlying e=some (.int .u8))
    (hx:zd x=some ox) {st':zb} (h:kD st d ox=some st'):Jj L E N V st' a P o d:=by
  unfold kD at h
  split at h
  · rename_i s hb
    cases h
    have hr:=run_bytes_of_string (P:=P) E.w t t' e s hu hu' he
    have hle:s.size≤grownCap E.w s.size 0 e:=grownCap_ge _ _ _ _
    generalize grownCap E.w s.size 0 e=cap at hr hle
    generalize hro:bytesRow s cap=row at hr
    have hrow:∀j (hj:j<s.data.toList.length),row[j]?=some (.int .u8 (s.data.toList[j].toNat:Int)):=fun j hj=>by
      have hj2:j<s.data.size:=by simpa using hj
      rw[←hro]
      unfold bytesRow
      rw[Array.getElem?_append_left (by simpa using hj2)]
      simp only[Array.getElem?_map,Array.getElem?_eq_getElem hj2,Option.map_some,Array.getElem_toList]
    have R1:=R.drew
    have R2:=R1.flight (j:=0) (ks:=[]) (jl R1.lim (.cells row e (row.size,row.size+1)) [9,0]) (qF R1.lim _ _) rfl
    have R3:=R2.flight (j:=0) (ks:=[]) (jA [9,0]) (JO R2.lim) rfl
    refine⟨.slice (some ⟨E.w.heap.size,0,none⟩) s.size cap,_,?_,R3.putT_val F.lt F.v F.t (.imm _ 1 _ E.w.heap.size 0 s.size cap (fun j=> .int .u8 ((s.data.toList.getD j 0).toNat:Int)) ?_ ?_ ⟨by decide,?_⟩ hle (fun j A hj=>?_) fun j A hj=>?_),qz.trans ((JI R1.lim _ (z6 [0])).trans (j0 (z6 [0])))⟩
    · simp[execOp,ho,Za R hx hb,hr]
      rfl
    · simp[Env.freeze,Env.fresh,jk]
    · simp[Env.freeze,Env.fresh]
    · rw[ZL];simp
    · have hj1:j<s.data.toList.length:=by have:=(List.getElem?_eq_some_iff.1 hj).1;rwa [ZL] at this
      have:=hrow j hj1
      rw[show s.data.toList.getD j 0=s.data.toList[j] by rw[List.getD_eq_getElem?_getD,List.getElem?_eq_getElem hj1];rfl]
      show(match(E.w.drew.alloc (.cells row e (row.size,row.size+1))).heap[E.w.heap.size]? with|some (.cells c _ _)=>_|_=>_)=_
      have hh:(E.w.drew.alloc (.cells row e (row.size,row.size+1))).heap[E.w.heap.size]?=some (.cells row e (row.size,row.size+1)):=by
        show(E.w.heap.push _)[E.w.heap.size]?=_
        simp
      rw[hh]
      simpa using this
    · have hj1:j<s.data.toList.length:=by have:=(List.getElem?_eq_some_iff.1 hj).1;rwa [ZL] at this
      have:A= .sc (.int .u8 ((s.data.toList.getD j 0).toNat:Int)):=by
        unfold JX at hj
        rw[List.getElem?_map,List.getElem?_eq_getElem hj1] at hj
        cases hj
        rw[List.getD_eq_getElem?_getD,List.getElem?_eq_getElem hj1];rfl
      subst this
      exact .sc _ _
  · cases h
end
end Go.Ga
