/- Of graphs that are long, or have many edges: the set that is told shows what an engine tells. -/
import Derived.Test.YtmcfdfafeheihaaPm1
import Derived.Test.YtmcfdfafeheihaaGbmhkjf5
set_option linter.all false

namespace Go.Ga.Gl
open Go Go.Ga
def fs0 (N:Nat)(mt:Nat→Int):FS where
 lab:=fun v=>if v<N∧mt v= -1 then 1 else 0
 out:=fun v=>decide (v<N∧mt v= -1)
 pr:=fun _=>0
 rt:=fun v=>if v<N∧mt v= -1 then(v:Int) else -1
 b0:=fun _=>0
 b1:=fun _=>0
 bs:=fun v=>v
theorem ziQ (N:Nat)(E:Nat→Nat→Prop)(mt:Nat→Int):J2 N E mt (fs0 N mt):=by
 have ho:∀v,(fs0 N mt).out v=true↔v<N∧mt v= -1:=fun v=>decide_eq_true_iff
 have hl:∀v,(v<N∧mt v= -1→(fs0 N mt).lab v=1∧(fs0 N mt).rt v=(v:Int))∧(¬(v<N∧mt v= -1)→(fs0 N mt).lab v=0):=fun v=>by
  refine⟨fun h=>⟨if_pos h,if_pos h⟩,fun h=>if_neg h⟩
 have h1:∀v,(fs0 N mt).lab v=1→v<N∧mt v= -1:=fun v h=>by
  by_cases c:v<N∧mt v= -1
  · exact c
  · rw[(hl v).2 c] at h;omega
 have h2:∀v,(fs0 N mt).lab v≠2:=fun v h=>by
  by_cases c:v<N∧mt v= -1
  · rw[((hl v).1 c).1] at h;omega
  · rw[(hl v).2 c] at h;omega
 refine⟨fun v h=>?_,fun v h=>(ho v).2 (h1 v h),fun v=>?_,fun v a b=>(hl v).1 ⟨a,b⟩,fun v h=>absurd h (h2 v),fun v h=> .inl ⟨(h1 v h).2,((hl v).1 (h1 v h)).2⟩,fun v h=>?_,fun v _=>rfl,fun b m h _ hm=>?_,fun m x h _ _=>absurd h (h2 m),⟨fun _=>0,fun b m h _ hm=>?_⟩,fun v h=>?_⟩
 · have:=(ho v).1 h
   exact⟨this.1,by rw[((hl v).1 this).1];omega⟩
 · by_cases c:v<N∧mt v= -1
   · rw[((hl v).1 c).1];omega
   · rw[(hl v).2 c];omega
 · exact⟨h,((hl v).1 ((ho v).1 h)).1,rfl,rfl⟩
 · have:=((ho b).1 h).2;omega
 · have:=((ho b).1 h).2;omega
 · refine⟨[],.here v,.nil v,by simp[zE,jw],fun x hx=>?_⟩
   have hx':x∈zE [] v:=hx
   have:x=v:=by simpa[zE,jw] using hx'
   subst this
   exact⟨h,rfl⟩
def Z5 (S:FS)(v w x:Nat):FS:=
 {S with
  lab:=fun u=>if u=x then 1 else if u=w then 2 else S.lab u
  out:=fun u=>decide (u=x)||S.out u
  pr:=fun u=>if u=w then v else S.pr u
  rt:=fun u=>if u=x then S.rt v else if u=w then S.rt v else S.rt u}
theorem fresh {N:Nat}{E:Nat→Nat→Prop}{mt:Nat→Int}{S:FS}(M:Mf N E mt)(I:J2 N E mt S){w:Nat}(hw:w<N)(hl:S.lab w=0):∃x:Nat,mt w=(x:Int)∧x<N∧S.lab x=0∧x≠w∧S.out x=false∧S.out w=false:=by
 rcases M.at_ w hw with h|⟨x,h,hx⟩
 · have:=(I.fr w hw h).1;omega
 · have hs:=M.sy w x h
   have hlx:S.lab x=0:=by
    have h2:=I.l2 x
    rcases(show S.lab x=0∨S.lab x=1∨S.lab x=2 by omega) with e|e|e
    · exact e
    · rcases I.ev x e with⟨k,_⟩|⟨m,k1,k2⟩
      · omega
      · obtain rfl:m=w:=by omega
        omega
    · obtain⟨_,y,k1,k2,_⟩:=I.od x e
      obtain rfl:y=w:=by omega
      omega
   refine⟨x,h,hx,hlx,(M.ne w x h).1,?_,?_⟩
   · cases e:S.out x with
     |false=>rfl
     |true=>have:=(I.o1 x e).2;omega
   · cases e:S.out w with
     |false=>rfl
     |true=>have:=(I.o1 w e).2;omega
theorem zgU {N : Nat}{E:Nat→Nat→Prop}{mt:Nat→Int}{S:FS}(M:Mf N E mt)(I:J2 N E mt S){v w x:Nat}(hv:S.out v=true)(hvw:E v w)(hl:S.lab w=0)(hx:mt w=(x:Int)):J2 N E mt (Z5 S v w x)∧zhZ S (Z5 S v w x):=by
 have hwN:=(M.el v w hvw).2.1
 obtain⟨x',k1,hxN,hlx,hxw,hxo,hwo⟩:=fresh M I hwN hl
 obtain rfl:x'=x:=by omega
 have hs:=M.sy w x' hx
 have vw:v≠w:=fun h=>by rw[h,hwo] at hv;cases hv
 have vx:v≠x':=fun h=>by rw[h,hxo] at hv;cases hv
 have Lx:(Z5 S v w x').lab x'=1:=if_pos rfl
 have Lw:(Z5 S v w x').lab w=2:=by show(if w=x' then 1 else if w=w then 2 else S.lab w)=2;rw[if_neg (Ne.symm hxw),if_pos rfl]
 have Lo:∀u,u≠x'→u≠w→(Z5 S v w x').lab u=S.lab u:=fun u h1 h2=>by show(if u=x' then 1 else if u=w then 2 else S.lab u)=_;rw[if_neg h1,if_neg h2]
 have L0:∀u,S.lab u≠0→u≠x'∧u≠w:=fun u h=>⟨fun e=>h (e▸hlx),fun e=>h (e▸hl)⟩
 have Rx:(Z5 S v w x').rt x'=S.rt v:=if_pos rfl
 have Rw:(Z5 S v w x').rt w=S.rt v:=by show(if w=x' then S.rt v else if w=w then S.rt v else S.rt w)=_;rw[if_pos rfl];split<;>rfl
 have Ro:∀u,u≠x'→u≠w→(Z5 S v w x').rt u=S.rt u:=fun u h1 h2=>by show(if u=x' then S.rt v else if u=w then S.rt v else S.rt u)=_;rw[if_neg h1,if_neg h2]
 have Oi:∀u,(Z5 S v w x').out u=true↔u=x'∨S.out u=true:=fun u=>by
  show(decide (u=x')||S.out u)=true↔_
  rw[Bool.or_eq_true,decide_eq_true_iff]
 have O0:∀u,S.out u=true→u≠x'∧u≠w:=fun u h=>L0 u (I.o1 u h).2
 have Of:∀u,(Z5 S v w x').out u=false→u≠x'∧S.out u=false:=fun u h=>by
  constructor
  · intro e;have:=(Oi u).2 (.inl e);rw[h] at this;cases this
  · cases e:S.out u with
    |false=>rfl
    |true=>have:=(Oi u).2 (.inr e);rw[h] at this;cases this
 have Pw:(Z5 S v w x').pr w=v:=if_pos rfl
 have Po:∀u,u≠w→(Z5 S v w x').pr u=S.pr u:=fun u h=>if_neg h
 have G:zhZ S (Z5 S v w x'):={
  lab:=fun u h=>Lo u (L0 u h).1 (L0 u h).2
  pr:=fun u h=>Po u (L0 u (by omega)).2
  out:=fun u h=>(Oi u).2 (.inr h)
  b0:=fun _ _=>rfl
  b1:=fun _ _=>rfl}
 obtain⟨d,hd⟩:=I.dp
 refine⟨⟨fun u h=>?_,fun u h=>?_,fun u=>?_,fun u hu hm=>?_,fun u h=>?_,fun u h=>?_,fun u h=>?_,fun u h=>I.bn u (Of u h).2,fun b m h hb hm=>?_,fun m y h ho hm=>?_,⟨fun u=>if u=x' then d (S.bs v)+1 else d u,fun b m h hb hm=>?_⟩,fun u h=>?_⟩,G⟩
 · rcases(Oi u).1 h with rfl|h
   · exact⟨hxN,by rw[Lx];omega⟩
   · exact⟨(I.o1 u h).1,by rw[Lo u (O0 u h).1 (O0 u h).2];exact(I.o1 u h).2⟩
 · by_cases e:u=x'
   · exact(Oi u).2 (.inl e)
   · by_cases e2:u=w
     · subst e2;rw[Lw] at h;omega
     · rw[Lo u e e2] at h;exact(Oi u).2 (.inr (I.e1 u h))
 · by_cases e:u=x'
   · subst e;rw[Lx];omega
   · by_cases e2:u=w
     · subst e2;rw[Lw];omega
     · rw[Lo u e e2];exact I.l2 u
 · have h1:u≠x':=fun e=>by rw[e] at hm;omega
   have h2:u≠w:=fun e=>by rw[e] at hm;omega
   rw[Lo u h1 h2,Ro u h1 h2]
   exact I.fr u hu hm
 · by_cases e:u=x'
   · subst e;rw[Lx] at h;omega
   · by_cases e2:u=w
     · subst e2
       refine⟨hwN,x',hx,Lx,by rw[Rx,Rw],by rw[Pw];exact(Oi v).2 (.inr hv),by rw[Pw];exact M.es _ _ hvw,by rw[Pw,Rw,Ro v vx vw]⟩
     · rw[Lo u e e2] at h
       obtain⟨h1,y,k1,k2,k3,k4,k5,k6⟩:=I.od u h
       have hy:=L0 y (by omega)
       have hp:=O0 _ k4
       refine⟨h1,y,k1,by rw[Lo y hy.1 hy.2];exact k2,by rw[Ro y hy.1 hy.2,Ro u e e2];exact k3,by rw[Po u e2];exact(Oi _).2 (.inr k4),by rw[Po u e2];exact k5,by rw[Po u e2,Ro _ hp.1 hp.2,Ro u e e2];exact k6⟩
 · by_cases e:u=x'
   · subst e;exact .inr ⟨w,hs,Lw⟩
   · by_cases e2:u=w
     · subst e2;rw[Lw] at h;omega
     · rw[Lo u e e2] at h
       rcases I.ev u h with⟨h1,h2⟩|⟨m,h1,h2⟩
       · exact .inl ⟨h1,by rw[Ro u e e2];exact h2⟩
       · have:=L0 m (by omega)
         exact .inr ⟨m,h1,by rw[Lo m this.1 this.2];exact h2⟩
 · rcases(Oi u).1 h with rfl|h
   · have hbx:S.bs u=u:=I.bn u hxo
     show(Z5 S v w u).out (S.bs u)=true∧(Z5 S v w u).lab (S.bs u)=1∧S.bs (S.bs u)=S.bs u∧(Z5 S v w u).rt (S.bs u)=_
     rw[hbx,hbx]
     exact⟨(Oi u).2 (.inl rfl),Lx,rfl,rfl⟩
   · obtain⟨h1,h2,h3,h4⟩:=I.bo u h
     have hb:=O0 _ h1
     have hu:=O0 u h
     exact⟨(Oi _).2 (.inr h1),(Lo _ hb.1 hb.2).trans h2,h3,(Ro _ hb.1 hb.2).trans (h4.trans (Ro u hu.1 hu.2).symm)⟩
 · rcases(Oi b).1 h with rfl|h
   · obtain rfl:m=w:=by omega
     cases e:(Z5 S v m b).out m with
     |false=>rfl
     | true => rcases(Oi m).1 e with e|e
               · exact absurd e.symm hxw
               · rw[hwo] at e;cases e
   · have hmo := I.bm b m h hb hm
     have hO:=O0 b h
     cases e:(Z5 S v w x').out m with
     |false=>rfl
     | true => rcases(Oi m).1 e with e|e
               · have:=M.sy b m hm
                 rw[e] at this
                 exact absurd (show b=w by omega) hO.2
               · rw[hmo] at e;cases e
 · obtain⟨h1,h2⟩:=Of m ho
   by_cases e2:m=w
   · subst e2
     obtain rfl:y=x':=by omega
     exact I.bn y hxo
   · rw[Lo m h1 e2] at h
     exact I.bx m y h h2 hm
 · show(if S.bs ((Z5 S v w x').pr m)=x' then d (S.bs v)+1 else d (S.bs ((Z5 S v w x').pr m)))<(if b=x' then d (S.bs v)+1 else d b)
   rcases(Oi b).1 h with rfl|h
   · obtain rfl:m=w:=by omega
     rw[Pw,if_neg (O0 _ (I.bo v hv).1).1,if_pos rfl];omega
   · rcases I.base M h hb with⟨h3,_⟩|⟨m',h3,h4,h5,h6,_⟩
     · omega
     · obtain rfl:m'=m:=by omega
       have hm':=L0 m' (by omega)
       rw[Po m' hm'.2,if_neg (O0 _ (I.bo _ h6).1).1,if_neg (O0 b h).1]
       exact hd b m' h hb hm
 · rcases(Oi u).1 h with rfl|h
   · have hbx:S.bs u=u:=I.bn u hxo
     show∃ps,xI mt (Z5 S v w u) u (S.bs u) ps∧qz mt E u ps (S.bs u)∧(zE ps (S.bs u)).Nodup∧∀y∈zE ps (S.bs u),(Z5 S v w u).out y=true∧S.bs y=S.bs u
     rw[hbx]
     refine⟨[],.here u,.nil u,by simp[zE,jw],fun y hy=>?_⟩
     have:y=u:=by simpa[zE,jw] using hy
     subst this
     exact⟨(Oi y).2 (.inl rfl),hbx⟩
   · obtain⟨ps,p1,p2,p3,p4⟩:=I.wy u h
     exact⟨ps,p1.goes G,p2,p3,fun y hy=>⟨(Oi y).2 (.inr (p4 y hy).1),(p4 y hy).2⟩⟩
theorem zcg {N:Nat}{E:Nat→Nat→Prop}{mt:Nat→Int}{S:FS}(M:Mf N E mt)(I:J2 N E mt S){d:Nat→Nat}(hd:∀b m:Nat,S.out b=true→S.bs b=b→mt b=(m:Int)→d (S.bs (S.pr m))<d b):
    ∀(n c:Nat),d c≤n→S.out c=true→S.bs c=c→∃r xs,Zx mt S c r xs∧S.out r=true∧S.bs r=r∧mt r= -1∧S.rt c=(r:Int):=by
  intro n
  induction n with
  | zero=>
    intro c h h1 h2
    rcases I.base M h1 h2 with⟨h3,h4⟩|⟨m,h3,_⟩
    · exact⟨c,[],.here c,h1,h2,h3,h4⟩
    · have:=hd c m h1 h2 h3;omega
  | succ n ih=>
    intro c h h1 h2
    rcases I.base M h1 h2 with⟨h3,h4⟩|⟨m,h3,h4,h5,h6,h7,h8,h9⟩
    · exact⟨c,[],.here c,h1,h2,h3,h4⟩
    · have hlt:=hd c m h1 h2 h3
      obtain⟨k1,k2,k3,k4⟩:=I.bo _ h6
      obtain⟨r,xs,j1,j2,j3,j4,j5⟩:=ih (S.bs (S.pr m)) (by omega) k1 k3
      refine⟨r,c::xs,.up (fun e=>by subst e;omega) h3 j1,j2,j3,j4,?_⟩
      rw[←j5,k4,h8]
theorem Xg {N:Nat}{E:Nat→Nat→Prop}{mt:Nat→Int}{S:FS}(M:Mf N E mt)(I:J2 N E mt S){v:Nat}(hv:S.out v=true):∃(r:Nat) (ps:Yz),S.rt v=(r:Int)∧mt r= -1∧r<N∧xI mt S v r ps∧qz mt E v ps r∧(zE ps r).Nodup∧∀y∈zE ps r,S.rt y=S.rt v∧y<N:=by
 obtain⟨d,hd⟩:=I.dp
 obtain⟨v1,v2,v3,v4⟩:=I.bo v hv
 obtain⟨r,xs,h1,h2,h3,h4,h5⟩:=zcg M I hd _ (S.bs v) (Nat.le_refl _) v1 v3
 obtain⟨_,ps,p1,p2,p3,p4⟩:=Ym M I hd h1 h3 v hv rfl
 obtain⟨⟨_,_,f1⟩,f2⟩:=Zt M I hd h1 v1 v3
 refine⟨r,ps,v4.symm.trans h5,h4,(I.o1 r h2).1,p1,p2,p3,fun y hy=>?_⟩
 rcases p4 y hy with⟨k1,k2|k2⟩|⟨k1,x,k2,k3⟩
 · exact⟨by rw[←(I.bo y k1).2.2.2,(f2 _ k2).2.2.2.2,v4],(I.o1 y k1).1⟩
 · exact⟨by rw[←(I.bo y k1).2.2.2,k2,f1,v4],(I.o1 y k1).1⟩
 · obtain⟨e1,e2,e3,e4,e5⟩:=f2 x k2
   rcases I.base M e3 e4 with⟨g3,_⟩|⟨m,g3,g4,g5,g6,g7,g8,g9⟩
   · omega
   · obtain rfl:m=y:=by omega
     exact⟨by rw[g9,e5,v4],(I.od m g4).1⟩
def EP (E:Nat→Nat→Prop):List Nat→Prop
 |a::b::l=>E a b∧EP E l
 |[_]=>False
 |[]=>True
theorem zdV {mt:Nat→Int}{E:Nat→Nat→Prop}{w to:Nat}{ps:Yz}(h:qz mt E w ps to):∀x,E x w→EP E (x::zE ps to):=by
 induction h with
 |nil v=>intro x hx;exact⟨hx,trivial⟩
 |cons h1 h2 _ ih=>intro x hx;exact⟨hx,ih _ h2⟩
theorem zi7 {mt:Nat→Int}{E:Nat→Nat→Prop}(hE:∀a c,E a c→E c a){v r:Nat}{ps:Yz}(h:qz mt E v ps r):∀L,EP E (v::L)→EP E ((zE ps r).reverse++L):=by
 induction h with
 |nil v=>intro L hL;simpa[zE,jw] using hL
 | cons h1 h2 _ ih=>
   intro L hL
   have e:∀(a c:Nat) (ps:Yz) (to:Nat),(zE ((a,c)::ps) to).reverse++L=(zE ps to).reverse++(c::a::L):=fun a c ps to=>by simp[zE,ZC]
   rw[e]
   exact ih _ ⟨hE _ _ h2,hL⟩
theorem yI {mt:Nat→Int}{E:Nat→Nat→Prop}(hs:∀v w:Nat,mt v=(w:Int)→mt w=(v:Int)){v r:Nat}{ps:Yz}(h:qz mt E v ps r)(hr:mt r= -1):∀y∈zE ps r,∀z:Nat,mt y=(z:Int)→z∈zE ps r:=by
 induction h with
 | nil v=>
   intro y hy z hz
   have:y=v:=by simpa[zE,jw] using hy
   subst this;omega
 | @cons a c w to ps h1 h2 _ ih=>
   intro y hy z hz
   have e:zE ((a,c)::ps) to=a::c::zE ps to:=rfl
   rw[e] at hy⊢
   rcases List.mem_cons.1 hy with rfl|hy
   · obtain rfl:z=c:=by omega
     simp
   · rcases List.mem_cons.1 hy with rfl|hy
     · have:=hs a y h1
       obtain rfl:z=a:=by omega
       simp
     · exact List.mem_cons_of_mem _ (List.mem_cons_of_mem _ (ih hr y hy z hz))
structure Aug (N:Nat)(E:Nat→Nat→Prop)(mt:Nat→Int)(l:List Nat):Prop where
 ep:EP E l
 nd:l.Nodup
 lt:∀y∈l,y<N
 cl:∀y∈l,∀z:Nat,mt y=(z:Int)→z∈l
 fr:∃r∈l,mt r= -1
theorem zgH {N:Nat}{E:Nat→Nat→Prop}{mt:Nat→Int}{S:FS}(M:Mf N E mt)(I:J2 N E mt S){v w:Nat}(hv:S.out v=true)(hw:S.out w=true)(hvw:E v w)(hrt:S.rt v≠S.rt w):
    ∃(r q:Nat) (ps qs:Yz),S.rt v=(r:Int)∧S.rt w=(q:Int)∧r<N∧q<N∧xI mt S v r ps∧xI mt S w q qs∧(jw ps).length≤N∧(jw qs).length≤N∧Aug N E mt ((zE ps r).reverse++zE qs q):=by
  obtain⟨r,ps,a1,a2,a3,a4,a5,a6,a7⟩:=Xg M I hv
  obtain⟨q,qs,b1,b2,b3,b4,b5,b6,b7⟩:=Xg M I hw
  have hlen:∀l:List Nat,l.Nodup→(∀y∈l,y<N)→l.length≤N:=fun l h1 h2=>by
    have:=Zz (m:=List.range N) h1 fun y hy=>List.mem_range.2 (h2 y hy)
    simpa using this
  have l1:=hlen _ a6 fun y hy=>(a7 y hy).2
  have l2:=hlen _ b6 fun y hy=>(b7 y hy).2
  refine⟨r,q,ps,qs,a1,b1,a3,b3,a4,b4,by simp[zE] at l1;omega,by simp[zE] at l2;omega,⟨?_,?_,?_,?_,r,by simp[zE],a2⟩⟩
  · exact zi7 M.es a5 _ (zdV b5 v hvw)
  · refine List.nodup_append.2 ⟨(List.reverse_perm _).nodup_iff.2 a6,b6,?_⟩
    intro y hy z hz e
    subst e
    exact hrt ((a7 y (List.mem_reverse.1 hy)).1.symm.trans (b7 y hz).1)
  · intro y hy
    rcases List.mem_append.1 hy with hy|hy
    · exact(a7 y (List.mem_reverse.1 hy)).2
    · exact(b7 y hy).2
  · intro y hy z hz
    rcases List.mem_append.1 hy with hy|hy
    · exact List.mem_append.2 (.inl (List.mem_reverse.2 (yI M.sy a5 a2 y (List.mem_reverse.1 hy) z hz)))
    · exact List.mem_append.2 (.inr (yI M.sy b5 b2 y hy z hz))
def Yv :List Nat→Nat→Nat
 |a::b::l,u=>if u=a then b else if u=b then a else Yv l u
 |_,u=>u
theorem XC {E:Nat→Nat→Prop}(hE:∀a c,E a c→E c a):∀(l:List Nat),EP E l→l.Nodup→∀u∈l,Yv l u∈l∧E u (Yv l u)∧Yv l (Yv l u)=u
 |[],_,_,u,hu=>by simp at hu
 |[_],h,_,_,_=>h.elim
 | a ::b::l,h,hn,u,hu=>by
   simp only[List.nodup_cons,List.mem_cons,not_or] at hn
   obtain⟨⟨hab,hal⟩,hbl,hnl⟩:=hn
   show(if u=a then b else if u=b then a else Yv l u)∈_∧_
   by_cases e1:u=a
   · subst e1
     have:Yv (u::b::l) u=b:=if_pos rfl
     rw[this,if_pos rfl]
     refine⟨by simp,h.1,?_⟩
     show(if b=u then b else if b=b then u else Yv l b)=u
     rw[if_neg (Ne.symm hab),if_pos rfl]
   · by_cases e2:u=b
     · subst e2
       have:Yv (a::u::l) u=a:=by show(if u=a then u else if u=u then a else Yv l u)=a;rw[if_neg e1,if_pos rfl]
       rw[this,if_neg e1,if_pos rfl]
       refine⟨by simp,hE _ _ h.1,?_⟩
       show(if a=a then u else if a=u then a else Yv l a)=u
       rw[if_pos rfl]
     · have hul:u∈l:=by simpa[e1,e2] using hu
       have this:Yv (a::b::l) u=Yv l u:=by show(if u=a then b else if u=b then a else Yv l u)=_;rw[if_neg e1,if_neg e2]
       rw[this,if_neg e1,if_neg e2]
       obtain⟨h1,h2,h3⟩:=XC hE l h.2 hnl u hul
       refine⟨by simp[h1],h2,?_⟩
       show(if Yv l u=a then b else if Yv l u=b then a else Yv l (Yv l u))=u
       have n1:Yv l u≠a:=fun e=>hal (e▸h1)
       have n2:Yv l u≠b:=fun e=>hbl (e▸h1)
       rw[if_neg n1,if_neg n2]
       exact h3
theorem zc9 {N:Nat}{E:Nat→Nat→Prop}{mt mt':Nat→Int}(M:Mf N E mt){l:List Nat}(A:Aug N E mt l)(h1:∀u∈l,mt' u=(Yv l u:Nat))(h2:∀u,u∉l→mt' u=mt u):Mf N E mt'∧(∀u,mt' u= -1→mt u= -1)∧∃r,r<N∧mt r= -1∧mt' r≠ -1:=by
 have sp:=XC M.es l A.ep A.nd
 refine⟨⟨fun v hv=>?_,fun v hv w h=>?_,fun v w h=>?_,fun v w h=>?_,M.es,M.el⟩,fun u h=>?_,?_⟩
 · by_cases hl:v∈l
   · exact .inr ⟨_,h1 v hl,A.lt _ (sp v hl).1⟩
   · rw[h2 v hl];exact M.at_ v hv
 · by_cases hl:v∈l
   · exact hv (A.lt v hl)
   · rw[h2 v hl] at h;exact M.big v hv w h
 · by_cases hl:v∈l
   · rw[h1 v hl] at h
     obtain rfl:Yv l v=w:=by omega
     rw[h1 _ (sp v hl).1,(sp v hl).2.2]
   · rw[h2 v hl] at h
     have hs:=M.sy v w h
     have hwl:w∉l:=fun hw=>hl (A.cl w hw v hs)
     rw[h2 w hwl];exact hs
 · by_cases hl:v∈l
   · rw[h1 v hl] at h
     obtain rfl:Yv l v=w:=by omega
     exact⟨(M.el _ _ (sp v hl).2.1).2.2.symm,(sp v hl).2.1⟩
   · rw[h2 v hl] at h;exact M.ne v w h
 · by_cases hl:u∈l
   · rw[h1 u hl] at h;omega
   · rw[h2 u hl] at h;exact h
 · obtain⟨r,hr,hm⟩:=A.fr
   exact⟨r,A.lt r hr,hm,by rw[h1 r hr];omega⟩
def Lk (E:Nat→Nat→Prop)(S:FS)(wt:List Nat):Prop:=∀v w,S.out v=true→v∉wt→E v w→S.lab w≠0∧(S.out w=true→S.bs w=S.bs v∨w∈wt)
structure Lc (E:Nat→Nat→Prop)(S:FS)(wt:List Nat)(c:Nat)(rest:List Nat):Prop where
 a:∀v w,S.out v=true→v∉wt→v≠c→E v w→S.lab w≠0∧(S.out w=true→S.bs w=S.bs v∨w∈wt∨(w=c∧v∈rest))
 b:∀w,E c w→w∉rest→S.lab w≠0∧(S.out w=true→S.bs w=S.bs c∨w∈wt)
theorem Lk.pop {E:Nat→Nat→Prop}{S:FS}{c:Nat}{wt JU:List Nat}(h:Lk E S (c::wt))(hn:∀w,w∈JU↔E c w)(hE:∀a b,E a b→E b a):Lc E S wt c JU where
 a:=fun v w h1 h2 h3 h4=>by
  obtain⟨k1,k2⟩:=h v w h1 (by simp[h2,h3]) h4
  refine⟨k1,fun ho=>?_⟩
  rcases k2 ho with k|k
  · exact .inl k
  · rcases List.mem_cons.1 k with rfl|k
    · exact .inr (.inr ⟨rfl,(hn v).2 (hE _ _ h4)⟩)
    · exact .inr (.inl k)
 b:=fun w h1 h2=>absurd ((hn w).2 h1) h2
theorem Lc.done {E:Nat→Nat→Prop}{S:FS}{c:Nat}{wt:List Nat}(h:Lc E S wt c []):Lk E S wt:=fun v w h1 h2 h3=>by
 by_cases e:v=c
 · subst e;exact h.b w h3 (by simp)
 · obtain⟨k1,k2⟩:=h.a v w h1 h2 e h3
   refine⟨k1,fun ho=>?_⟩
   rcases k2 ho with k|k|⟨_,k⟩
   · exact .inl k
   · exact .inr k
   · simp at k
structure Stp (S T:FS)(wt wt':List Nat):Prop where
 lab:∀x,S.lab x≠0→T.lab x≠0
 out:∀x,T.out x=true→S.out x=true∨x∈wt'
 bs:∀x y,S.out x=true→S.out y=true→S.bs x=S.bs y→T.bs x=T.bs y
 wt:∀x∈wt,x∈wt'
theorem Stp.refl (S:FS)(wt:List Nat):Stp S S wt wt:=⟨fun _ h=>h,fun _ h=> .inl h,fun _ _ _ _ h=>h,fun _ h=>h⟩
theorem Lc.step {E:Nat→Nat→Prop}{S T:FS}{c w:Nat}{wt wt' rest:List Nat}(hc:S.out c=true)(h:Lc E S wt c (w::rest))(s:Stp S T wt wt')(h1:T.lab w≠0)(h2:T.out w=true→T.bs w=T.bs c∨w∈wt'):Lc E T wt' c rest where
 a := fun v u k1 k2 k3 k4=>by
  have hv:=(s.out v k1).resolve_right k2
  obtain⟨j1,j2⟩:=h.a v u hv (fun e=>k2 (s.wt _ e)) k3 k4
  refine⟨s.lab _ j1,fun ho=>?_⟩
  rcases s.out u ho with hu|hu
  · rcases j2 hu with j|j|⟨rfl,j⟩
    · exact .inl (s.bs _ _ hu hv j)
    · exact .inr (.inl (s.wt _ j))
    · rcases List.mem_cons.1 j with rfl|j
      · rcases h2 k1 with e|e
        · exact .inl e.symm
        · exact absurd e k2
      · exact .inr (.inr ⟨rfl,j⟩)
  · exact .inr (.inl hu)
 b := fun u k1 k2=>by
  by_cases e:u=w
  · subst e;exact⟨h1,h2⟩
  · obtain⟨j1,j2⟩:=h.b u k1 (by simp[e,k2])
    refine⟨s.lab _ j1,fun ho=>?_⟩
    rcases s.out u ho with hu|hu
    · rcases j2 hu with j|j
      · exact .inl (s.bs _ _ hu hc j)
      · exact .inr (s.wt _ j)
    · exact .inr hu
theorem J2.mate_same {N:Nat}{E:Nat→Nat→Prop}{mt:Nat→Int}{S:FS}(I:J2 N E mt S){c w:Nat}(M:Mf N E mt)(hc:S.out c=true)(hm:mt c=(w:Int)):S.lab w≠0∧(S.out w=true→S.bs w=S.bs c):=by
 have hs:=M.sy c w hm
 have main:∀p q:Nat,S.out p=true→S.out q=true→mt p=(q:Int)→S.lab p=2→S.bs q=S.bs p:=by
  intro p q hp hq hpq hl
  obtain⟨ps,p1,p2,p3,p4⟩:=I.wy p hp
  generalize S.bs p=b at p1 p2 p3 p4
  cases p2 with
  | nil=>
    have:=(I.bo p hp).2.1
    have hb:=(p4 p (by simp[zE,jw])).2
    rw[hb] at this;omega
  | cons k1 k2 k3=>
    rename_i c' _ _
    obtain rfl:c'=q:=by omega
    exact(p4 c' (by simp[zE,jw])).2
 have h2:=I.l2 c
 have h0:=(I.o1 c hc).2
 rcases(show S.lab c=1∨S.lab c=2 by omega) with e|e
 · rcases I.ev c e with⟨k,_⟩|⟨m,k1,k2⟩
   · omega
   · obtain rfl:m=w:=by omega
     exact⟨by omega,fun ho=>(main m c ho hc hs k2).symm⟩
 · obtain⟨_,x,k1,k2,_⟩:=I.od c e
   obtain rfl:x=w:=by omega
   exact⟨by omega,fun ho=>main c x hc ho hm e⟩
theorem zgT {N:Nat}{E:Nat→Nat→Prop}{mt:Nat→Int}{S:FS}(M:Mf N E mt)(I:J2 N E mt S){v w x:Nat}(wt:List Nat)(hwN:w<N)(hl:S.lab w=0)(hx:mt w=(x:Int)):Stp S (Z5 S v w x) wt (wt++[x])∧(Z5 S v w x).lab w≠0∧(Z5 S v w x).out w=false:=by
 obtain⟨x',k1,hxN,hlx,hxw,hxo,hwo⟩:=fresh M I hwN hl
 obtain rfl:x'=x:=by omega
 refine⟨⟨fun u h=>?_,fun u h=>?_,fun _ _ _ _ h=>h,fun u h=>by simp[h]⟩,?_,?_⟩
 · show(if u=x' then 1 else if u=w then 2 else S.lab u)≠0
   split
   · omega
   · split
     · omega
     · exact h
 · have h:(decide (u=x')||S.out u)=true:=h
   rw[Bool.or_eq_true,decide_eq_true_iff] at h
   rcases h with rfl|h
   · exact .inr (by simp)
   · exact .inl h
 · show(if w=x' then 1 else if w=w then 2 else S.lab w)≠0
   split<;>simp
 · show(decide (w=x')||S.out w)=false
   rw[hwo,decide_eq_false (Ne.symm hxw)];rfl
theorem zb5 {N:Nat}{E:Nat→Nat→Prop}{mt:Nat→Int}{S:FS}(M:Mf N E mt)(I:J2 N E mt S){v w b:Nat}{xs ys:List Nat}(hv:S.out v=true)(hw:S.out w=true)(hvw:E v w)(hb:S.bs b=b)(hX:Zx mt S (S.bs v) b xs)(hY:Zx mt S (S.bs w) b ys)(hdj:∀x∈xs,x∉ys){wt wt':List Nat}(h1:∀x∈wt,x∈wt')(h2:∀u:Nat,(∃x∈xs,mt x=(u:Int))∨(∃x∈ys,mt x=(u:Int))→u∈wt'):
    Stp S (shr mt (shr mt S v w b xs) w v b ys) wt wt':=by
  obtain⟨_,G,k1,k2,_⟩:=Xl M I hv hw hvw hb hX hY hdj
  obtain⟨d,hd⟩:=I.dp
  obtain⟨v1,v2,v3,v4⟩:=I.bo v hv
  obtain⟨w1,w2,w3,w4⟩:=I.bo w hw
  obtain⟨_,fX⟩:=Zt M I hd hX v1 v3
  obtain⟨_,fY⟩:=Zt M I hd hY w1 w3
  have no:∀(zs:List Nat),(∀x∈zs,S.out x=true∧S.bs x=x)→∀u:Nat,S.out u=true→¬∃x∈zs,mt x=(u:Int):=by
    rintro zs hz u hu ⟨x,hx,hm⟩
    have:=I.bm x u (hz x hx).1 (hz x hx).2 hm
    rw[hu] at this;cases this
  have nX:=no xs fun x hx=>⟨(fX x hx).2.2.1,(fX x hx).2.2.2.1⟩
  have nY:=no ys fun x hx=>⟨(fY x hx).2.2.1,(fY x hx).2.2.2.1⟩
  refine⟨fun x h=>by rw[G.lab x h];exact h,fun x h=>?_,fun x y hx hy e=>?_,h1⟩
  · rcases(k1 x).1 h with h|h|h
    · exact .inl h
    · exact .inr (h2 x (.inl h))
    · exact .inr (h2 x (.inr h))
  · by_cases hj:S.bs x∈xs∨S.bs x∈ys
    · have j1:Kr mt S xs ys x:=hj.elim .inl fun h=> .inr (.inl h)
      have j2:Kr mt S xs ys y:=by rw[e] at hj;exact hj.elim .inl fun h=> .inr (.inl h)
      rw[(k2 x).1 j1,(k2 y).1 j2]
    · have j1:¬Kr mt S xs ys x:=by
        rintro(h|h|h|h)
        · exact hj (.inl h)
        · exact hj (.inr h)
        · exact nX x hx h
        · exact nY x hx h
      have j2:¬Kr mt S xs ys y:=by
        rw[e] at hj
        rintro(h|h|h|h)
        · exact hj (.inl h)
        · exact hj (.inr h)
        · exact nX y hy h
        · exact nY y hy h
      rw[(k2 x).2 j1,(k2 y).2 j2];exact e
structure vb (n:Nat)(up:List Int)(rep h:Nat→Nat):Prop where
 len:up.length=n
 at_:∀v,v<n→∃u:Nat,up.getD v 0=(u:Int)∧u<n∧rep u=rep v∧(u=v→rep v=v)∧(u≠v→h u<h v)
theorem vb.root {n:Nat}{up:List Int}{rep h:Nat→Nat}(U:vb n up rep h):∀(k v:Nat),h v≤k→v<n→rep v<n∧up.getD (rep v) 0=(rep v:Nat)∧rep (rep v)=rep v:=by
 intro k
 induction k with
 | zero=>
   intro v hk hv
   obtain⟨u,h1,h2,h3,h4,h5⟩:=U.at_ v hv
   by_cases e:u=v
   · subst e;rw[h4 rfl];exact⟨hv,h1,h4 rfl⟩
   · have:=h5 e;omega
 | succ k ih=>
   intro v hk hv
   obtain⟨u,h1,h2,h3,h4,h5⟩:=U.at_ v hv
   by_cases e:u=v
   · subst e;rw[h4 rfl];exact⟨hv,h1,h4 rfl⟩
   · have:=h5 e
     rw[←h3]
     exact ih u (by omega) h2
theorem vb.rep_lt {n:Nat}{up:List Int}{rep h:Nat→Nat}(U:vb n up rep h){v:Nat}(hv:v<n):rep v<n:=(U.root (h v) v (Nat.le_refl _) hv).1
theorem vb.rep_rep {n:Nat}{up:List Int}{rep h:Nat→Nat}(U:vb n up rep h){v:Nat}(hv:v<n):rep (rep v)=rep v:=(U.root (h v) v (Nat.le_refl _) hv).2.2
theorem vb.halve {n:Nat}{up:List Int}{rep h:Nat→Nat}(U:vb n up rep h){v u w:Nat}(hv:v<n)(h1:up.getD v 0=(u:Int))(hu:u≠v)(h2:up.getD u 0=(w:Int)):vb n (up.set v (w:Int)) rep h∧w<n∧rep w=rep v∧h w<h v:=by
 obtain⟨u',a1,a2,a3,a4,a5⟩:=U.at_ v hv
 obtain rfl:u'=u:=by omega
 obtain⟨w',b1,b2,b3,b4,b5⟩:=U.at_ u' a2
 obtain rfl:w'=w:=by omega
 have hlt:h w'<h v:=by
  have:=a5 hu
  by_cases e:w'=u'
  · subst e;exact this
  · have:=b5 e;omega
 refine⟨⟨by rw[List.length_set];exact U.len,fun x hx=>?_⟩,b2,b3.trans a3,hlt⟩
 rw[ZQ _ _ _ _ (by rw[U.len];exact hv)]
 by_cases e:x=v
 · subst e
   rw[if_pos rfl]
   exact⟨w',rfl,b2,b3.trans a3,fun e=>by subst e;omega,fun _=>hlt⟩
 · rw[if_neg e];exact U.at_ x hx
theorem vb.unite {n:Nat}{up:List Int}{rep h:Nat→Nat}(U:vb n up rep h){v w:Nat}(hv:v<n)(hw:w<n):vb n (up.set (rep v) (rep w:Nat)) (fun u=>if rep u=rep v then rep w else rep u) (fun u=>if rep u=rep v∧rep v≠rep w then h u+h (rep w)+1 else h u):=by
 have rv:=U.rep_lt hv
 have rw':=U.rep_lt hw
 refine⟨by rw[List.length_set];exact U.len,fun x hx=>?_⟩
 rw[ZQ _ _ _ _ (by rw[U.len];exact rv)]
 by_cases e:x=rep v
 · subst e
   rw[if_pos rfl]
   have hrr:=U.rep_rep hv
   have hrw:=U.rep_rep hw
   refine⟨rep w,rfl,rw',?_,?_,?_⟩
   · rw[hrr,if_pos rfl,hrw]
     split<;>rfl
   · intro e
     rw[hrr,if_pos rfl]
     exact e
   · intro e
     rw[hrr,hrw,if_neg (fun e2=>e e2.1),if_pos ⟨rfl,fun e2=>e e2.symm⟩]
     omega
 · rw[if_neg e]
   obtain⟨u,h1,h2,h3,h4,h5⟩:=U.at_ x hx
   refine⟨u,h1,h2,by rw[h3],fun e2=>?_,fun e2=>?_⟩
   · subst e2
     have:=h4 rfl
     rw[this,if_neg (fun e3=>e e3)]
   · rw[h3]
     have:=h5 e2
     split<;>omega
end Go.Ga.Gl
set_option maxRecDepth 100000
set_option maxHeartbeats 4000000
namespace Go.Proofs.Ytmcfdfafeheihaa
open Go Go.Ga Go.Ga.Gl
structure FD where
 lab:List Int
 out:List Bool
 ev:List Int
 od:List Int
 pr:List Int
 rt:List Int
 br:List (Int×Int)
 gone:List Bool
 up:List Int
 bs:List Int
 mr:List Int
 tn:Int
 wt:List Nat
 lk:Int
def FD.obj (nr:List (List Nat))(m:List Int)(F:FD):List zc:=
 [.imm 1 (Zv nr),.imm 1 (zl m),.own (some 1) (zl F.lab),.own (some 1) (Zd F.out),.own (some 1) (zl F.ev),.own (some 1) (zl F.od),.own (some 1) (zl F.pr),.own (some 1) (zl F.rt),.own (some 2) (zY F.br),.own (some 1) (Zd F.gone),.own (some 1) (zl F.up),.own (some 1) (zl F.bs),.own (some 1) (zl F.mr),.sc (.int .i64 F.tn),.own (some 1) (zJ F.wt),.sc (.int .i64 F.lk)]
structure FD.Sz (n:Nat)(F:FD):Prop where
 lab:F.lab.length=n
 out:F.out.length=n
 ev:F.ev.length=n
 od:F.od.length=n
 pr:F.pr.length=n
 rt:F.rt.length=n
 br:F.br.length=n
 gone:F.gone.length=n
 up:F.up.length=n
 bs:F.bs.length=n
 mr:F.mr.length=n
def FD.raise (F:FD)(v:Nat)(e l:Int):FD:={F with out:=F.out.set v true,ev:=F.ev.set v e,lab:=if F.lab.getD v 0=0 then F.lab.set v l else F.lab,wt:=F.wt++[v]}
theorem Xu (nr:List (List Nat))(m:List Int){n:Nat}(F:FD)(S:F.Sz n){v:Nat}(hv:v<n)(e l:Int)(hw:F.wt.length≤1000000):
    zo Try.prog [] zgq [.ptr 0 0,.sc (.int .i64 (v:Int)),.sc (.int .i64 e),.sc (.int .i64 l)] [some (F.obj nr m)] fun r h'=>r= .tup []∧h'=[some ((F.raise v e l).obj nr m)]:=by
  obtain⟨lab,out,ev,od,pr,rt,br,gone,up,bs,mr,tn,wt,lk⟩:=F
  obtain⟨s1,s2,s3,s4,s5,s6,s7,s8,s9,s10,s11⟩:=S
  simp only at s1 s2 s3 s4 s5 s6 s7 s8 s9 s10 s11
  simp only at hw
  unfold FD.obj FD.raise
  refine zlL rfl ?_
  unfold zkj wv
  simp only
  refine zw fun KY hKY=>?_
  simp only[go_sem,G3,Zy,xi,zj,jv,s2,s3,hv]
  apply hKY
  refine zf fun X1 hn1 he1 hr1=>?_
  by_cases h0:lab.getD v 0=0
  · have hd:decide (lab.getD v 0=0)=true:=decide_eq_true h0
    refine za fun KY hKY=>?_
    simp only[go_sem,uL,zg (show v<lab.length by omega),zj,s1,hv,hd]
    apply hKY
    refine Zw ?_
    refine zn fun KY hKY=>?_
    simp only[go_sem,G0,zj,s1,hv,jv]
    apply hKY
    repeat (first|refine hn1 _ ?_|refine he1 _ _ ?_)
    refine zn fun KY hKY=>?_
    simp only[go_sem,uK,jg,Zo,(show(wt.length+1)*8≤140737488355328 by omega)]
    apply hKY
    simp only[go_sem,if_pos h0]
  · have hd:decide (lab.getD v 0=0)=false:=decide_eq_false h0
    refine za fun KY hKY=>?_
    simp only[go_sem,uL,zg (show v<lab.length by omega),zj,s1,hv,hd]
    apply hKY
    refine Zr ?_
    refine zh ?_
    repeat (first|refine hn1 _ ?_|refine he1 _ _ ?_)
    refine zn fun KY hKY=>?_
    simp only[go_sem,uK,jg,Zo,(show(wt.length+1)*8≤140737488355328 by omega)]
    apply hKY
    simp only[go_sem,if_neg h0]
theorem uq (nr:List (List Nat))(m:List Int){n:Nat}(F:FD){rep h:Nat→Nat}(U:vb n F.up rep h){v:Nat}(hv:v<n):
    zo Try.prog [[1,0]] zjl [.ptr 0 0,.sc (.int .i64 (v:Int))] [some (F.obj nr m)] fun r h'=>r= .sc (.int .i64 (rep v:Nat))∧∃up',vb n up' rep h∧h'=[some (({F with up:=up'}:FD).obj nr m)]:=by
  obtain⟨lab,out,ev,od,pr,rt,br,gone,up,bs,mr,tn,wt,lk⟩:=F
  simp only at U
  unfold FD.obj
  refine zlK rfl ?_
  unfold zki yh
  simp only
  refine za fun KY hKY=>?_
  simp only[go_sem,GZ,zS,zM,ZS.quiet]
  apply hKY
  refine zf fun X1 hn1 he1 hr1=>?_
  refine zp fun X2 hn2 he2 hf2 hr2=>?_
  try simp only[go_sem]
  refine zP (α:=List Int×Nat) [13] (fun(up',c)=>[(1,.sc (.int .i64 (c:Int)))]) (fun(up',c)=>[some [.imm 1 (Zv nr),.imm 1 (zl m),.own (some 1) (zl lab),.own (some 1) (Zd out),.own (some 1) (zl ev),.own (some 1) (zl od),.own (some 1) (zl pr),.own (some 1) (zl rt),.own (some 2) (zY br),.own (some 1) (Zd gone),.own (some 1) (zl up'),.own (some 1) (zl bs),.own (some 1) (zl mr),.sc (.int .i64 tn),.own (some 1) (zJ wt),.sc (.int .i64 lk)]]) (fun(up',c) q=>vb n up' rep h∧c<n∧rep c=rep v∧q=h c) ((up,v)) (h v) rfl (by first|(simp only[go_sem,zd,ze];done)|with_reducible rfl|rfl) (⟨U,hv,rfl,rfl⟩) ?_
  rintro⟨up',c⟩ q ⟨U',hc,hr,rfl⟩ X3 hn3 he3 hr3
  simp only[go_sem,zd,ze]
  obtain⟨u,h1,h2,h3,h4,h5⟩:=U'.at_ c hc
  have hcl:c<up'.length:=by rw[U'.len];exact hc
  have hul:u<up'.length:=by rw[U'.len];exact h2
  have hgc:(zl up')[c]?=some (.sc (.int .i64 (u:Int))):=by rw[zg hcl,h1]
  by_cases e:u=c
  · have hdx:decide ((u:Int)≠(c:Int))=false:=decide_eq_false (by omega)
    refine zf fun X4 hn4 he4 hr4=>?_
    refine za fun KY hKY=>?_
    simp only[go_sem,uJ,zS,zM,ZS.quiet,hgc,hcl,zj,hdx]
    apply hKY
    refine Zr ?_
    refine zy ?_
    repeat (first|refine hn4 _ ?_|refine he4 _ _ ?_|refine he3 _ _ ?_|refine hn2 _ ?_|refine he2 _ ?_|refine hf2 _ _ (by decide) ?_|refine hn1 _ ?_|refine he1 _ _ ?_)
    refine za fun KY hKY=>?_
    simp only[go_sem,GW,zS,zM,ZS.quiet]
    apply hKY
    refine zi ?_
    repeat (first|refine hr4 _ ?_|refine hr3 _ ?_|refine hr2 _ ?_|refine hr1 _ ?_)
    simp only[go_sem,Je,qV]
    exact⟨by rw[←hr,h4 e],up',U',rfl⟩
  · have hdy:decide ((u:Int)≠(c:Int))=true:=decide_eq_true (by omega)
    obtain⟨w,b1,b2,_⟩:=U'.at_ u h2
    obtain⟨k1,k2,k3,k4⟩:=U'.halve hc h1 e b1
    have hgu:(zl up')[u]?=some (.sc (.int .i64 (w:Int))):=by rw[zg hul,b1]
    have hgc2:(zl (up'.set c (w:Int)))[c]?=some (.sc (.int .i64 (w:Int))):=by rw[zg (by rw[List.length_set];exact hcl),ZQ _ _ _ _ hcl,if_pos rfl]
    refine zf fun X5 hn5 he5 hr5=>?_
    refine za fun KY hKY=>?_
    simp only[go_sem,uJ,zS,zM,ZS.quiet,hgc,hcl,zj,hdy]
    apply hKY
    refine Zw ?_
    refine zh ?_
    repeat (first|refine hn5 _ ?_|refine he5 _ _ ?_|refine he3 _ _ ?_|refine hn2 _ ?_|refine he2 _ ?_|refine hf2 _ _ (by decide) ?_|refine hn1 _ ?_|refine he1 _ _ ?_)
    refine zp fun X6 hn6 he6 hf6 hr6=>?_
    refine zw fun KY hKY=>?_
    simp only[go_sem,GY,hgc,hgu,hcl,hul,zj,jv]
    refine⟨rfl,hKY _ ?_⟩
    refine zn fun KY hKY=>?_
    simp only[go_sem,GX,zS,zM,ZS.quiet,hgc2,List.length_set,hcl,zj]
    apply hKY
    repeat (first|refine hn6 _ ?_|refine he6 _ ?_|refine hf6 _ _ (by decide) ?_|refine hn5 _ ?_|refine he5 _ _ ?_)
    refine hn3 _ ((up'.set c (w:Int),w)) (h w) (by omega) (by first|(simp only[go_sem,zd,ze];done)|with_reducible rfl|rfl) ?_
    exact⟨k1,k2,k3.trans hr,rfl⟩
theorem zdT (nr:List (List Nat))(m:List Int){n:Nat}(F:FD){rep h:Nat→Nat}(U:vb n F.up rep h)(hb:F.bs.length=n){v:Nat}(hv:v<n):
    zo Try.prog [[1,0]] gB [.ptr 0 0,.sc (.int .i64 (v:Int))] [some (F.obj nr m)] fun r h'=>r= .sc (.int .i64 (F.bs.getD (rep v) 0))∧∃up',vb n up' rep h∧h'=[some (({F with up:=up'}:FD).obj nr m)]:=by
  have hf:=uq nr m F U hv
  have hrl:=U.rep_lt hv
  obtain⟨lab,out,ev,od,pr,rt,br,gone,up,bs,mr,tn,wt,lk⟩:=F
  simp only at U hb
  unfold FD.obj at hf⊢
  simp only at hf
  refine zlS rfl ?_
  unfold zkq vA
  simp only
  refine za fun KY hKY=>?_
  simp only[go_sem,pO,zS,zM,ZS.quiet]
  apply hKY
  refine zw fun KY hKY=>?_
  simp only[go_sem,pN]
  apply zr [] [0] false none rfl
  iterate 8 (first|(simp only[go_sem,zt]<;>rfl)|rfl)
  refine(hf.less (by simp)).mono ?_
  rintro _ _ ⟨rfl,up',U',rfl⟩
  refine⟨Nat.le_of_ble_eq_true rfl,(fun hh=>by cases hh),?_⟩
  simp only[go_sem,zq,zb.after,zg (show rep v<bs.length by omega),zj,hb,hrl]
  apply hKY
  refine zi ?_
  simp only[go_sem,Je,qV]
  exact⟨up',U',rfl⟩
theorem zft (nr:List (List Nat))(m:List Int){n:Nat}(F:FD){rep h:Nat→Nat}(U:vb n F.up rep h)(hb:F.bs.length=n){v w:Nat}(hv:v<n)(hw:w<n)(b:Int):
    zo Try.prog [] zgo [.ptr 0 0,.sc (.int .i64 (v:Int)),.sc (.int .i64 (w:Int)),.sc (.int .i64 b)] [some (F.obj nr m)] fun r h'=>r= .tup []∧∃up' h2,vb n up' (fun u=>if rep u=rep v then rep w else rep u) h2∧h'=[some (({F with up:=up',bs:=F.bs.set (rep w) b}:FD).obj nr m)]:=by
  have hf:=uq nr m F U hv
  have hrl:=U.rep_lt hw
  have hrv:=U.rep_lt hv
  obtain⟨lab,out,ev,od,pr,rt,br,gone,up,bs,mr,tn,wt,lk⟩:=F
  simp only at U hb
  have hg:=fun up' (U':vb n up' rep h)=>uq nr m ⟨lab,out,ev,od,pr,rt,br,gone,up',bs,mr,tn,wt,lk⟩ U' hw
  unfold FD.obj at hf hg⊢
  simp only at hf hg
  refine zlD rfl ?_
  unfold zkb xn
  simp only
  refine za fun KY hKY=>?_
  simp only[go_sem,Gf]
  apply zr [] [0] false none rfl
  iterate 8 (first|(simp only[go_sem,zt]<;>rfl)|rfl)
  refine(hf.less (by simp)).mono ?_
  rintro _ _ ⟨rfl,up',U',rfl⟩
  refine⟨Nat.le_of_ble_eq_true rfl,(fun hh=>by cases hh),?_⟩
  simp only[go_sem,zq,zb.after]
  apply zr [] [0] false none rfl
  iterate 8 (first|(simp only[go_sem,zt]<;>rfl)|rfl)
  refine((hg up' U').less (by simp)).mono ?_
  rintro _ _ ⟨rfl,up2,U2,rfl⟩
  refine⟨Nat.le_of_ble_eq_true rfl,(fun hh=>by cases hh),?_⟩
  simp only[go_sem,zq,zb.after]
  apply hKY
  have hul:rep v<up2.length:=by rw[U2.len];exact hrv
  refine za fun KY hKY=>?_
  simp only[go_sem,Ge,hul,zj,jv]
  apply hKY
  refine zn fun KY hKY=>?_
  simp only[go_sem,Gd,hb,hrl,zj,jv]
  apply hKY
  simp only[go_sem]
  exact⟨_,_,U2.unite hv hw,rfl⟩
theorem zeI (nr:List (List Nat))(m:List Int)(F:FD)(h:F.wt=[]):
    zo Try.prog [] zdr [.ptr 0 0] [some (F.obj nr m)] fun r h'=>r= .tup [.sc (.int .i64 0),.sc (.bool false)]∧h'=[some (F.obj nr m)]:=by
  obtain⟨lab,out,ev,od,pr,rt,br,gone,up,bs,mr,tn,wt,lk⟩:=F
  simp only at h
  subst h
  unfold FD.obj
  refine zgY rfl ?_
  unfold zhj qA
  simp only
  refine za fun KY hKY=>?_
  simp only[go_sem,uV]
  apply hKY
  refine zf fun X1 hn1 he1 hr1=>?_
  refine za fun KY hKY=>?_
  simp only[go_sem,uU,Zo]
  apply hKY
  refine Zw ?_
  refine za fun KY hKY=>?_
  simp only[go_sem,pM]
  apply hKY
  refine zi ?_
  repeat (first|refine hr1 _ ?_)
  simp only[go_sem]
theorem zeH (nr:List (List Nat))(m:List Int)(F:FD){c:Nat}{ws:List Nat}(h:F.wt=c::ws):
    zo Try.prog [] zdr [.ptr 0 0] [some (F.obj nr m)] fun r h'=>r= .tup [.sc (.int .i64 (c:Int)),.sc (.bool true)]∧h'=[some (({F with wt:=ws}:FD).obj nr m)]:=by
  obtain⟨lab,out,ev,od,pr,rt,br,gone,up,bs,mr,tn,wt,lk⟩:=F
  simp only at h
  subst h
  unfold FD.obj
  have hg:(zJ (c::ws))[0]?=some (.sc (.int .i64 (c:Int))):=rfl
  have hl:(zJ (c::ws)).length=ws.length+1:=by simp[zJ]
  have hd:decide (((ws.length+1:Nat):Int)=0)=false:=decide_eq_false (by omega)
  have hcut:Zs (zJ (c::ws)) 1 1 (ws.length+1)=zJ ws:=by
    unfold Zs
    show(zJ ws).take ((ws.length+1 - 1)*1)=zJ ws
    rw[show(ws.length+1 - 1)*1=(zJ ws).length by rw[Zo];omega,List.take_length]
  refine zgY rfl ?_
  unfold zhj qA
  simp only
  refine za fun KY hKY=>?_
  simp only[go_sem,uV]
  apply hKY
  refine zf fun X1 hn1 he1 hr1=>?_
  refine za fun KY hKY=>?_
  simp only[go_sem,uU,hl,hd]
  apply hKY
  refine Zr ?_
  refine zh ?_
  repeat (first|refine hn1 _ ?_|refine he1 _ _ ?_)
  refine za fun KY hKY=>?_
  simp only[go_sem,pL,hg,hl,(show 0<ws.length+1 by omega)]
  apply hKY
  refine za fun KY hKY=>?_
  simp only[go_sem,pK,hl,hcut,Nat.div_one,qX,(show 0<ws.length+1 by omega),(show ws.length<ws.length+1 by omega),and_self]
  apply hKY
  refine za fun KY hKY=>?_
  simp only[go_sem,pJ]
  apply hKY
  refine zi ?_
  repeat (first|refine hr1 _ ?_)
  simp only[go_sem]
theorem zdE (nr:List (List Nat))(m:List Int){n:Nat}(F:FD){rv:Int}(hrt:F.rt.length=n)(hgo:F.gone.length=n)(hg:∀v,v<n→F.gone.getD v false=false){v:Nat}(hv:v<n)(hr:F.rt.getD v 0=rv)(hrv:rv= -1∨∃r:Nat,rv=(r:Int)∧r<n):
    zo Try.prog [[1,0]] zjk [.ptr 0 0,.sc (.int .i64 (v:Int))] [some (F.obj nr m)] fun r h'=>r= .sc (.bool false)∧h'=[some (F.obj nr m)]:=by
  obtain⟨lab,out,ev,od,pr,rt,br,gone,up,bs,mr,tn,wt,lk⟩:=F
  simp only at hrt hgo hg hr
  unfold FD.obj
  have hgr:(zl rt)[v]?=some (.sc (.int .i64 rv)):=by rw[zg (by omega),hr]
  refine zlJ rfl ?_
  unfold zkh vy
  simp only
  refine za fun KY hKY=>?_
  simp only[go_sem,GV,zS,zM,ZS.quiet]
  apply hKY
  rcases hrv with rfl|⟨r,rfl,hrn⟩
  · refine zw fun KY hKY=>?_
    simp only[go_sem,uI,hgr,zj,hrt,hv]
    apply hKY
    refine zi ?_
    simp only[go_sem,Je,qV]
  · have hd:decide ((r:Int)≠ -1)=true:=decide_eq_true (by omega)
    have hgg:(Zd gone)[r]?=some (.sc (.bool false)):=by rw[Jn (by omega),hg r hrn]
    refine zw fun KY hKY=>?_
    simp only[go_sem,uI,hgr,zj,hrt,hv,hd,hgg,Zy,hgo,hrn]
    apply hKY
    refine zi ?_
    simp only[go_sem,Je,qV]
def vk (l:List Nat)(i:Nat):List Nat:=(List.range l.length).map fun j=>if j<i∨l.length - 1 - i<j then l.getD (l.length - 1 - j) 0 else l.getD j 0
theorem zh5 (l:List Nat)(i:Nat):(vk l i).length=l.length:=by simp[vk]
theorem zda {l:List Nat}{i j:Nat}(h:j<l.length):(vk l i).getD j 0=if j<i∨l.length - 1 - i<j then l.getD (l.length - 1 - j) 0 else l.getD j 0:=by simp[vk,h]
theorem zfA (l:List Nat):vk l 0=l:=by
 apply List.ext_getElem (by simp[vk])
 intro j h1 h2
 simp only[vk,List.getElem_map,List.getElem_range]
 rw[if_neg (by omega)]
 simp[h2]
theorem swp_end {l:List Nat}{i:Nat}(h:l.length≤2*i+1):vk l i=l.reverse:=by
 apply List.ext_getElem (by simp[vk])
 intro j h1 h2
 have hj:j<l.length:=by simpa using h2
 simp only[vk,List.getElem_map,List.getElem_range,List.getElem_reverse]
 have e:l[l.length - 1 - j]'(by omega)=l.getD (l.length - 1 - j) 0:=by
  rw[List.getD_eq_getElem?_getD,List.getElem?_eq_getElem (by omega)];rfl
 rw[e]
 split
 · rfl
 · have:l.length - 1 - j=j:=by omega
   rw[this]
theorem zfB {l:List Nat}{i:Nat}(h:2*i+1<l.length):((vk l i).set i ((vk l i).getD (l.length - 1 - i) 0)).set (l.length - 1 - i) ((vk l i).getD i 0)=vk l (i+1):=by
 rw[zda (by omega),zda (by omega),if_neg (by omega),if_neg (by omega)]
 apply List.ext_getElem (by simp[vk])
 intro j h1 h2
 have hj:j<l.length:=by simpa[vk] using h2
 rw[List.getElem_set,List.getElem_set]
 simp only[vk,List.getElem_map,List.getElem_range]
 by_cases e1:l.length - 1 - i=j
 · rw[if_pos e1,if_pos (.inr (by omega)),show l.length - 1 - j=i by omega]
 · rw[if_neg e1]
   by_cases e2:i=j
   · rw[if_pos e2,if_pos (.inl (by omega)),show l.length - 1 - j=l.length - 1 - i by omega]
   · rw[if_neg e2]
     by_cases e3:j<i∨l.length - 1 - i<j
     · rw[if_pos e3,if_pos (by omega)]
     · rw[if_neg e3,if_neg (by omega)]
theorem zdF (l:List Nat)(hl:l.length≤1000000):zo Try.prog [] zjj [.own (some 1) (zJ l)] [] fun r h'=>r= .own (some 1) (zJ l.reverse)∧h'=[]:=by
 refine zo.trim ?_
 have hw1:IntKind.i64.wrap ((l.length:Int) - 1)=(l.length:Int) - 1 - ((0:Nat):Int):=by rw[IntWalk.i64_in _ (by omega)];omega
 refine zlI rfl ?_
 unfold zkg q8
 refine za fun KY hKY=>?_
 simp only[go_sem,GU]
 apply hKY
 refine zf fun X1 hn1 he1 hr1=>?_
 refine za fun KY hKY=>?_
 simp only[go_sem,GT,Zo,hw1]
 apply hKY
 simp only[go_sem]
 rw[show zJ l=zJ (vk l 0) by rw[zfA]]
 refine zp fun X2 hn2 he2 hf2 hr2=>?_
 try simp only[go_sem]
 refine zP (α:=Nat) [10] (fun i=>[(0,.own (some 1) (zJ (vk l i))),(3,.sc (.int .i64 (i:Int))),(4,.sc (.int .i64 ((l.length:Int) - 1 - (i:Int))))]) (fun i=>[]) (fun i q=>i≤l.length∧q=l.length - i) (0) (l.length) rfl (by first|(simp only[go_sem,zd,ze];done)|with_reducible rfl|rfl) (⟨by omega,rfl⟩) ?_
 rintro i q ⟨hi,rfl⟩ X3 hn3 he3 hr3
 simp only[go_sem,zd,ze]
 rcases Nat.lt_or_ge (2*i+1) l.length with hi2|hi2
 · have hdy:decide ((i:Int)<(l.length:Int) - 1 - (i:Int))=true:=decide_eq_true (by omega)
   have hk:(l.length:Int) - 1 - (i:Int)=((l.length - 1 - i:Nat):Int):=by omega
   have hsl:=zh5 l i
   have hst:=zfB hi2
   refine zf fun X4 hn4 he4 hr4=>?_
   refine za fun KY hKY=>?_
   simp only[go_sem,uH,hdy]
   apply hKY
   refine Zw ?_
   refine zh ?_
   repeat (first|refine hn4 _ ?_|refine he4 _ _ ?_|refine he3 _ _ ?_|refine hn2 _ ?_|refine he2 _ ?_|refine hf2 _ _ (by decide) ?_|refine hn1 _ ?_|refine he1 _ _ ?_)
   refine zf fun X5 hn5 he5 hr5=>?_
   refine zp fun X6 hn6 he6 hf6 hr6=>?_
   rw[hk]
   refine Jq fun KY hKY=>?_
   simp only[go_sem,GS,zx (show i<(vk l i).length by omega),zx (show l.length - 1 - i<(vk l i).length by omega),Zo,hsl,(show i<l.length by omega),(show l.length - 1 - i<l.length by omega),List.length_set,hst,(show([0,0]==[0,3])=false from rfl),Bool.not_false]
   apply hKY
   repeat (first|refine hn6 _ ?_|refine he6 _ ?_|refine hf6 _ _ (by decide) ?_|refine hn5 _ ?_|refine he5 _ _ ?_|refine hn4 _ ?_|refine he4 _ _ ?_|refine he3 _ _ ?_|refine hn2 _ ?_|refine he2 _ ?_|refine hf2 _ _ (by decide) ?_|refine hn1 _ ?_|refine he1 _ _ ?_)
   have hk2:IntKind.i64.wrap (((l.length - 1 - i:Nat):Int) - 1)=(l.length:Int) - 1 - ((i+1:Nat):Int):=by rw[IntWalk.i64_in _ (by omega)];omega
   refine zn fun KY hKY=>?_
   simp only[go_sem,GQ,zH (show i<4611686018427387904 by omega),hk2]
   apply hKY
   repeat (first|refine hn6 _ ?_|refine he6 _ ?_|refine hf6 _ _ (by decide) ?_|refine hn5 _ ?_|refine he5 _ _ ?_|refine hn4 _ ?_|refine he4 _ _ ?_)
   refine hn3 _ (i+1) (l.length - (i+1)) (by omega) (by first|(simp only[go_sem,zd,ze];done)|with_reducible rfl|rfl) ?_
   exact⟨by omega,rfl⟩
 have hdx:decide ((i:Int)<(l.length:Int) - 1 - (i:Int))=false:=decide_eq_false (by omega)
 refine zf fun X7 hn7 he7 hr7=>?_
 refine za fun KY hKY=>?_
 simp only[go_sem,uH,hdx]
 apply hKY
 refine Zr ?_
 refine zy ?_
 repeat (first|refine hn7 _ ?_|refine he7 _ _ ?_|refine he3 _ _ ?_|refine hn2 _ ?_|refine he2 _ ?_|refine hf2 _ _ (by decide) ?_|refine hn1 _ ?_|refine he1 _ _ ?_)
 rw[swp_end hi2]
 refine za fun KY hKY=>?_
 simp only[go_sem,GP]
 apply hKY
 refine zi ?_
 repeat (first|refine hr7 _ ?_|refine hr3 _ ?_|refine hr2 _ ?_|refine hr1 _ ?_)
 simp only[go_sem]
def mf (m:List Int)(v:Nat):Int:=m.getD v (-1)
theorem qY {m:List Int}{v:Nat}(h:v<m.length):m.getD v 0=mf m v:=by simp[mf,h]
theorem JK {m:List Int}{v:Nat}(h:v<m.length):(zl m)[v]?=some (.sc (.int .i64 (mf m v))):=by rw[zg h,qY h]
structure Rp (n:Nat)(m:List Int)(S:FS)(F:FD):Prop where
 sz:F.Sz n
 ml:m.length=n
 lab:∀v,v<n→F.lab.getD v 0=(S.lab v:Int)
 out:∀v,v<n→F.out.getD v false=S.out v
 pr:∀v,v<n→S.lab v=2→F.pr.getD v 0=(S.pr v:Int)
 rt:∀v,v<n→F.rt.getD v 0=S.rt v
 rb:∀v,v<n→S.rt v= -1∨∃r:Nat,S.rt v=(r:Int)∧r<n
 br:∀v,v<n→S.lab v=2→S.out v=true→F.br.getD v (0,0)=((S.b0 v:Int),(S.b1 v:Int))
 gone:∀v,v<n→F.gone.getD v false=false
 uf:∃rep h,vb n F.up rep h∧(∀v,v<n→F.bs.getD (rep v) 0=(S.bs v:Int))∧∀u v,u<n→v<n→(rep u=rep v↔S.bs u=S.bs v)
 mr:∀v,v<n→F.mr.getD v 0≤F.tn
 wt:∀x∈F.wt,x<n∧S.out x=true
 wn:F.wt.Nodup
theorem Rp.wl {n:Nat}{m:List Int}{S:FS}{F:FD}(R:Rp n m S F):F.wt.length≤n:=by
 have:=Zz (m:=List.range n) R.wn fun x hx=>List.mem_range.2 (R.wt x hx).1
 simpa using this
def FD.upd (F:FD)(up:List Int)(lk:Int):FD:={F with up:=up,lk:=lk}
theorem Rp.upd {n:Nat}{m:List Int}{S:FS}{F:FD}(R:Rp n m S F){rep h:Nat→Nat}{up':List Int}(U':vb n up' rep h)(h2:∀v,v<n→F.bs.getD (rep v) 0=(S.bs v:Int))(h3:∀u v,u<n→v<n→(rep u=rep v↔S.bs u=S.bs v))(lk:Int):Rp n m S (F.upd up' lk):=by
 obtain⟨s1,s2,s3,s4,s5,s6,s7,s8,s9,s10,s11⟩:=R.sz
 exact⟨⟨s1,s2,s3,s4,s5,s6,s7,s8,U'.len,s10,s11⟩,R.ml,R.lab,R.out,R.pr,R.rt,R.rb,R.br,R.gone,⟨rep,h,U',h2,h3⟩,R.mr,R.wt,R.wn⟩
theorem Q7 (nr:List (List Nat)){n:Nat}{m:List Int}{S:FS}{F:FD}(R:Rp n m S F){v:Nat}(hv:v<n):
    zo Try.prog [[1,0]] gB [.ptr 0 0,.sc (.int .i64 (v:Int))] [some (F.obj nr m)] fun r h'=>r= .sc (.int .i64 (S.bs v:Int))∧∃up',Rp n m S (F.upd up' F.lk)∧h'=[some ((F.upd up' F.lk).obj nr m)]:=by
  obtain⟨rep,h,U,h2,h3⟩:=R.uf
  refine(zdT nr m F U R.sz.bs hv).mono ?_
  rintro r h' ⟨rfl,up',U',rfl⟩
  exact⟨by rw[h2 v hv],up',R.upd U' h2 h3 F.lk,rfl⟩
theorem zc6 (nr:List (List Nat)){n:Nat}{m:List Int}{S:FS}{F:FD}(R:Rp n m S F){b:Nat}(hb:b<n)(hm:mf m b= -1):
    zo Try.prog [[1,0]] zgp [.ptr 0 0,.sc (.int .i64 (b:Int))] [some (F.obj nr m)] fun r h'=>r= .sc (.int .i64 (-1))∧h'=[some (F.obj nr m)]:=by
  have hml:=R.ml
  have hg:(zl m)[b]?=some (.sc (.int .i64 (-1))):=by rw[JK (by omega),hm]
  unfold FD.obj
  refine zgW rfl ?_
  unfold zhf YB
  refine za fun KY hKY=>?_
  simp only[go_sem,uB,zS,zM,ZS.quiet]
  apply hKY
  refine zf fun X1 hn1 he1 hr1=>?_
  refine za fun KY hKY=>?_
  simp only[go_sem,uA,zS,zM,ZS.quiet,hg,zj,hml,hb]
  apply hKY
  refine Zw ?_
  refine za fun KY hKY=>?_
  simp only[go_sem,Gh,zS,zM,ZS.quiet]
  apply hKY
  refine zi ?_
  repeat (first|refine hr1 _ ?_)
  simp only[go_sem,Je,qV]
theorem zc5 (nr:List (List Nat)){n:Nat}{m:List Int}{S:FS}{F:FD}(R:Rp n m S F){b x:Nat}(hb:b<n)(hm:mf m b=(x:Int))(hx:x<n)(hl:S.lab x=2)(hp:S.pr x<n):
    zo Try.prog [] zgp [.ptr 0 0,.sc (.int .i64 (b:Int))] [some (F.obj nr m)] fun r h'=>r= .sc (.int .i64 (S.bs (S.pr x):Int))∧∃up',Rp n m S (F.upd up' F.lk)∧h'=[some ((F.upd up' F.lk).obj nr m)]:=by
  have hml:=R.ml
  have hB:=Q7 nr R hp
  have hg:(zl m)[b]?=some (.sc (.int .i64 (x:Int))):=by rw[JK (by omega),hm]
  have hpl:=R.sz.pr
  have hpg:(zl F.pr)[x]?=some (.sc (.int .i64 (S.pr x:Int))):=by rw[zg (by omega),R.pr x hx hl]
  have hd:decide ((x:Int)= -1)=false:=decide_eq_false (by omega)
  unfold FD.obj at hB⊢
  refine zgW rfl ?_
  unfold zhf YB
  refine za fun KY hKY=>?_
  simp only[go_sem,uB]
  apply hKY
  refine zf fun X1 hn1 he1 hr1=>?_
  refine za fun KY hKY=>?_
  simp only[go_sem,uA,hg,zj,hml,hb,hd]
  apply hKY
  refine Zr ?_
  refine zh ?_
  repeat (first|refine hn1 _ ?_|refine he1 _ _ ?_)
  refine zw fun KY hKY=>?_
  simp only[go_sem,Gg,hg,hpg,zj,hml,hb,hx,hpl]
  apply zr [] [0] false none rfl
  iterate 8 (first|(simp only[go_sem,zt]<;>rfl)|rfl)
  refine(hB.less (by simp)).mono ?_
  rintro _ _ ⟨rfl,up',R',rfl⟩
  refine⟨Nat.le_of_ble_eq_true rfl,(fun hh=>by cases hh),?_⟩
  simp only[go_sem,zq,zb.after]
  apply hKY
  refine zi ?_
  repeat (first|refine hr1 _ ?_)
  simp only[go_sem]
  exact⟨up',R',rfl⟩
def YL (mt:Nat→Int)(S:FS)(v w:Nat):Int:=if mt v=(w:Int) then 0 else if S.lab w=0 then 1 else if S.out w=true∧S.bs v≠S.bs w then 2 else 0
theorem ziA (nr:List (List Nat)){n:Nat}{m:List Int}{S:FS}{F:FD}(R:Rp n m S F){v w:Nat}(hv:v<n)(hw:w<n):
    zo Try.prog [] zjs [.ptr 0 0,.sc (.int .i64 (v:Int)),.sc (.int .i64 (w:Int))] [some (F.obj nr m)] fun r h'=>r= .sc (.int .i64 (YL (mf m) S v w))∧∃up' lk',Rp n m S (F.upd up' lk')∧h'=[some ((F.upd up' lk').obj nr m)]:=by
  have hml:=R.ml
  obtain⟨rep,h,U,u2,u3⟩:=R.uf
  have R1:Rp n m S (F.upd F.up (IntKind.i64.wrap (F.lk+1))):=R.upd U u2 u3 _
  have hgv:(zl m)[v]?=some (.sc (.int .i64 (mf m v))):=JK (by omega)
  have hlg:(zl F.lab)[w]?=some (.sc (.int .i64 (S.lab w:Int))):=by rw[zg (by rw[R.sz.lab];exact hw),R.lab w hw]
  have hll:=R.sz.lab
  have hog:(Zd F.out)[w]?=some (.sc (.bool (S.out w))):=by rw[Jn (by rw[R.sz.out];exact hw),R.out w hw]
  have hol:=R.sz.out
  have G1:=zdE nr m (F.upd F.up (IntKind.i64.wrap (F.lk+1))) R.sz.rt R.sz.gone R.gone hv (R.rt v hv) (R.rb v hv)
  have G2:=zdE nr m (F.upd F.up (IntKind.i64.wrap (F.lk+1))) R.sz.rt R.sz.gone R.gone hw (R.rt w hw) (R.rb w hw)
  have B1:=Q7 nr R1 hv
  have B2:=fun up' (R':Rp n m S ((F.upd F.up (IntKind.i64.wrap (F.lk+1))).upd up' (F.upd F.up (IntKind.i64.wrap (F.lk+1))).lk))=>Q7 nr R' hw
  unfold FD.upd FD.obj at G1 G2 B1 B2
  unfold FD.obj
  simp only at G1 G2 B1 B2
  have hk:YL (mf m) S v w=if mf m v=(w:Int) then 0 else if S.lab w=0 then 1 else if S.out w=true∧S.bs v≠S.bs w then 2 else 0:=rfl
  generalize YL (mf m) S v w=k at hk⊢
  refine zlR rfl ?_
  unfold zkp Jg
  refine za fun KY hKY=>?_
  simp only[go_sem,pI]
  apply hKY
  refine za fun KY hKY=>?_
  simp only[go_sem,pH]
  apply hKY
  refine zf fun X1 hn1 he1 hr1=>?_
  refine zp fun X2 hn2 he2 hf2 hr2=>?_
  by_cases h1:mf m v=(w:Int)
  · have hd1:decide ((w:Int)=mf m v)=true:=decide_eq_true h1.symm
    rw[if_pos h1] at hk
    subst hk
    refine za fun KY hKY=>?_
    simp only[go_sem,uT,hgv,zj,hml,hv,hd1]
    apply hKY
    refine Zw ?_
    refine za fun KY hKY=>?_
    simp only[go_sem,pG]
    apply hKY
    refine zi ?_
    repeat (first|refine hr2 _ ?_|refine hr1 _ ?_)
    simp only[go_sem]
    exact⟨_,_,R1,rfl⟩
  · have hd1:decide ((w:Int)=mf m v)=false:=decide_eq_false (fun e=>h1 e.symm)
    rw[if_neg h1] at hk
    refine za fun KY hKY=>?_
    simp only[go_sem,uT,hgv,zj,hml,hv,hd1]
    apply zr [] [0] false none rfl
    iterate 8 (first|(simp only[go_sem,zt]<;>rfl)|rfl)
    refine(G1.less (by simp)).mono ?_
    rintro _ _ ⟨rfl,rfl⟩
    refine⟨Nat.le_of_ble_eq_true rfl,(fun hh=>by cases hh),?_⟩
    simp only[go_sem,zq,zb.after]
    apply zr [] [0] false none rfl
    iterate 8 (first|(simp only[go_sem,zt]<;>rfl)|rfl)
    refine(G2.less (by simp)).mono ?_
    rintro _ _ ⟨rfl,rfl⟩
    refine⟨Nat.le_of_ble_eq_true rfl,(fun hh=>by cases hh),?_⟩
    simp only[go_sem,zq,zb.after]
    apply hKY
    refine Zr ?_
    by_cases h2:S.lab w=0
    · have hd2:decide ((S.lab w:Int)=0)=true:=decide_eq_true (by omega)
      rw[if_pos h2] at hk
      subst hk
      refine za fun KY hKY=>?_
      simp only[go_sem,uS,hlg,zj,hll,hw,hd2]
      apply hKY
      refine Zw ?_
      refine za fun KY hKY=>?_
      simp only[go_sem,pF]
      apply hKY
      refine zi ?_
      repeat (first|refine hr2 _ ?_|refine hr1 _ ?_)
      simp only[go_sem]
      exact⟨_,_,R1,rfl⟩
    · have hd2:decide ((S.lab w:Int)=0)=false:=decide_eq_false (by omega)
      rw[if_neg h2] at hk
      refine za fun KY hKY=>?_
      simp only[go_sem,uS,hlg,zj,hll,hw,hd2]
      apply hKY
      refine Zr ?_
      cases h3:S.out w with
      | false=>
        rw[h3] at hog
        rw[if_neg (by rw[h3];simp)] at hk
        subst hk
        refine za fun KY hKY=>?_
        simp only[go_sem,w9,hog,Zy,hol,hw]
        apply hKY
        refine Zr ?_
        refine zh ?_
        repeat (first|refine hn2 _ ?_|refine he2 _ ?_|refine hf2 _ _ (by decide) ?_|refine hn1 _ ?_|refine he1 _ _ ?_)
        refine za fun KY hKY=>?_
        simp only[go_sem,uR]
        apply hKY
        refine zi ?_
        repeat (first|refine hr2 _ ?_|refine hr1 _ ?_)
        simp only[go_sem]
        exact⟨_,_,R1,rfl⟩
      | true=>
        rw[h3] at hog
        by_cases h4:S.bs v=S.bs w
        · have hd4:decide ((S.bs v:Int)≠(S.bs w:Int))=false:=decide_eq_false (by omega)
          rw[if_neg (by simp[h4])] at hk
          subst hk
          refine za fun KY hKY=>?_
          simp only[go_sem,w9,hog,Zy,hol,hw]
          apply zr [] [0] false none rfl
          iterate 8 (first|(simp only[go_sem,zt]<;>rfl)|rfl)
          refine(B1.less (by simp)).mono ?_
          rintro _ _ ⟨rfl,up',R',rfl⟩
          refine⟨Nat.le_of_ble_eq_true rfl,(fun hh=>by cases hh),?_⟩
          simp only[go_sem,zq,zb.after]
          apply zr [] [0] false none rfl
          iterate 8 (first|(simp only[go_sem,zt]<;>rfl)|rfl)
          refine((B2 up' R').less (by simp)).mono ?_
          rintro _ _ ⟨rfl,up2,R2,rfl⟩
          refine⟨Nat.le_of_ble_eq_true rfl,(fun hh=>by cases hh),?_⟩
          simp only[go_sem,zq,zb.after,hd4]
          apply hKY
          refine Zr ?_
          refine zh ?_
          repeat (first|refine hn2 _ ?_|refine he2 _ ?_|refine hf2 _ _ (by decide) ?_|refine hn1 _ ?_|refine he1 _ _ ?_)
          refine za fun KY hKY=>?_
          simp only[go_sem,uR]
          apply hKY
          refine zi ?_
          repeat (first|refine hr2 _ ?_|refine hr1 _ ?_)
          simp only[go_sem]
          exact⟨_,_,R2,rfl⟩
        · have hd4:decide ((S.bs v:Int)≠(S.bs w:Int))=true:=decide_eq_true (by omega)
          rw[if_pos ⟨h3,h4⟩] at hk
          subst hk
          refine za fun KY hKY=>?_
          simp only[go_sem,w9,hog,Zy,hol,hw]
          apply zr [] [0] false none rfl
          iterate 8 (first|(simp only[go_sem,zt]<;>rfl)|rfl)
          refine(B1.less (by simp)).mono ?_
          rintro _ _ ⟨rfl,up',R',rfl⟩
          refine⟨Nat.le_of_ble_eq_true rfl,(fun hh=>by cases hh),?_⟩
          simp only[go_sem,zq,zb.after]
          apply zr [] [0] false none rfl
          iterate 8 (first|(simp only[go_sem,zt]<;>rfl)|rfl)
          refine((B2 up' R').less (by simp)).mono ?_
          rintro _ _ ⟨rfl,up2,R2,rfl⟩
          refine⟨Nat.le_of_ble_eq_true rfl,(fun hh=>by cases hh),?_⟩
          simp only[go_sem,zq,zb.after,hd4]
          apply hKY
          refine Zw ?_
          refine za fun KY hKY=>?_
          simp only[go_sem,pE]
          apply hKY
          refine zi ?_
          repeat (first|refine hr2 _ ?_|refine hr1 _ ?_)
          simp only[go_sem]
          exact⟨_,_,R2,rfl⟩
theorem Rp.grow {n:Nat}{E:Nat→Nat→Prop}{m:List Int}{S:FS}{F:FD}(M:Mf n E (mf m))(I:J2 n E (mf m) S)(R:Rp n m S F){v w x:Nat}(hv:S.out v=true)(hw:w<n)(hl:S.lab w=0)(hx:mf m w=(x:Int))(a b:Int):
    Rp n m (Z5 S v w x) (({F with lab:=F.lab.set w 2,pr:=F.pr.set w (v:Int),rt:=(F.rt.set w (F.rt.getD v 0)).set x ((F.rt.set w (F.rt.getD v 0)).getD v 0),od:=F.od.set w a}:FD).raise x b 1):=by
  have hvn:=(I.o1 v hv).1
  obtain⟨x',k1,hxN,hlx,hxw,hxo,hwo⟩:=fresh M I hw hl
  obtain rfl:x'=x:=by omega
  obtain⟨s1,s2,s3,s4,s5,s6,s7,s8,s9,s10,s11⟩:=R.sz
  have vw:v≠w:=fun h=>by rw[h,hwo] at hv;cases hv
  have hlw:(F.lab.set w 2).getD x' 0=0:=by
    rw[ZQ _ _ _ _ (by omega),if_neg hxw,R.lab x' hxN,hlx];rfl
  have hrv:(F.rt.set w (F.rt.getD v 0)).getD v 0=S.rt v:=by
    rw[ZQ _ _ _ _ (by omega),if_neg vw,R.rt v hvn]
  refine⟨⟨?_,?_,?_,?_,?_,?_,s7,s8,s9,s10,s11⟩,R.ml,fun u hu=>?_,fun u hu=>?_,fun u hu h2=>?_,fun u hu=>?_,fun u hu=>?_,fun u hu h2 ho=>?_,R.gone,R.uf,R.mr,fun y hy=>?_,?_⟩
  · show(if(F.lab.set w 2).getD x' 0=0 then _ else _:List Int).length=n
    rw[if_pos hlw];simp[s1]
  · show(F.out.set x' true).length=n
    simp[s2]
  · show(F.ev.set x' b).length=n
    simp[s3]
  · show(F.od.set w a).length=n
    simp[s4]
  · show(F.pr.set w (v:Int)).length=n
    simp[s5]
  · show((F.rt.set w (F.rt.getD v 0)).set x' _).length=n
    simp[s6]
  · show(if(F.lab.set w 2).getD x' 0=0 then(F.lab.set w 2).set x' 1 else F.lab.set w 2:List Int).getD u 0=((if u=x' then 1 else if u=w then 2 else S.lab u:Nat):Int)
    rw[if_pos hlw,ZQ _ _ _ _ (by simp;omega),ZQ _ _ _ _ (by omega),R.lab u hu]
    split
    · rfl
    · split<;>rfl
  · show(F.out.set x' true).getD u false=(decide (u=x')||S.out u)
    rw[Vq _ _ _ (by omega),R.out u hu]
    by_cases e:x'=u
    · subst e;simp
    · rw[decide_eq_false e,decide_eq_false (Ne.symm e)]
  · show(F.pr.set w (v:Int)).getD u 0=((if u=w then v else S.pr u:Nat):Int)
    rw[ZQ _ _ _ _ (by omega)]
    split
    · rfl
    · rename_i e
      refine R.pr u hu ?_
      have h2:(if u=x' then 1 else if u=w then 2 else S.lab u)=2:=h2
      rw[if_neg e] at h2
      split at h2
      · omega
      · exact h2
  · show((F.rt.set w (F.rt.getD v 0)).set x' ((F.rt.set w (F.rt.getD v 0)).getD v 0)).getD u 0=(if u=x' then S.rt v else if u=w then S.rt v else S.rt u)
    rw[ZQ _ _ _ _ (by simp;omega),hrv,ZQ _ _ _ _ (by omega),R.rt v hvn,R.rt u hu]
  · show(if u=x' then S.rt v else if u=w then S.rt v else S.rt u)= -1∨∃r:Nat,(if u=x' then S.rt v else if u=w then S.rt v else S.rt u)=(r:Int)∧r<n
    split
    · exact R.rb v hvn
    · split
      · exact R.rb v hvn
      · exact R.rb u hu
  · have h2:(if u=x' then 1 else if u=w then 2 else S.lab u)=2:=h2
    have ho:(decide (u=x')||S.out u)=true:=ho
    have hux:u≠x':=fun e=>by rw[if_pos e] at h2;omega
    rw[decide_eq_false hux,Bool.false_or] at ho
    have huw:u≠w:=fun e=>by rw[e,hwo] at ho;cases ho
    rw[if_neg hux,if_neg huw] at h2
    exact R.br u hu h2 ho
  · have hy:y∈F.wt++[x']:=hy
    show y<n∧(decide (y=x')||S.out y)=true
    rcases List.mem_append.1 hy with hy|hy
    · exact⟨(R.wt y hy).1,by rw[(R.wt y hy).2,Bool.or_true]⟩
    · obtain rfl:y=x':=by simpa using hy
      exact⟨hxN,by simp⟩
  · show(F.wt++[x']).Nodup
    refine List.nodup_append.2 ⟨R.wn,by simp,fun y hy z hz e=>?_⟩
    obtain rfl:z=x':=by simpa using hz
    subst e
    have:=(R.wt y hy).2
    rw[hxo] at this;cases this
theorem ziM (nr:List (List Nat)){n:Nat}{E:Nat→Nat→Prop}{m:List Int}{S:FS}{F:FD}(M:Mf n E (mf m))(I:J2 n E (mf m) S)(R:Rp n m S F)(hn:n≤4096){v w x:Nat}(hv:S.out v=true)(hw:w<n)(hl:S.lab w=0)(hx:mf m w=(x:Int)):
    zo Try.prog [] zjr [.ptr 0 0,.sc (.int .i64 (v:Int)),.sc (.int .i64 (w:Int))] [some (F.obj nr m)] fun r h'=>r= .tup []∧∃F':FD,Rp n m (Z5 S v w x) F'∧F'.wt=F.wt++[x]∧F'.tn=F.tn∧h'=[some (F'.obj nr m)]:=by
  have hvn:=(I.o1 v hv).1
  obtain⟨x',k1,hxN,hlx,hxw,hxo,hwo⟩:=fresh M I hw hl
  obtain rfl:x'=x:=by omega
  have hml:=R.ml
  have hwl:=R.wl
  obtain⟨s1,s2,s3,s4,s5,s6,s7,s8,s9,s10,s11⟩:=R.sz
  have hgw:(zl m)[w]?=some (.sc (.int .i64 (x':Int))):=by rw[JK (by omega),hx]
  have ha:∃a,a=IntKind.i64.wrap (F.ev.getD v 0+1):=⟨_,rfl⟩
  obtain⟨a,ha⟩:=ha
  obtain⟨b,hb⟩:∃b,b=IntKind.i64.wrap (F.ev.getD v 0+2):=⟨_,rfl⟩
  have RG:=R.grow M I hv hw hl hx a b
  have hrs:=Xu nr m ({F with lab:=F.lab.set w 2,pr:=F.pr.set w (v:Int),rt:=(F.rt.set w (F.rt.getD v 0)).set x' ((F.rt.set w (F.rt.getD v 0)).getD v 0),od:=F.od.set w a}:FD) (n:=n) ⟨by simp[s1],s2,s3,by simp[s4],by simp[s5],by simp[s6],s7,s8,s9,s10,s11⟩ hxN b 1 (by show F.wt.length≤_;omega)
  unfold FD.obj at hrs⊢
  simp only at hrs
  refine zlQ rfl ?_
  unfold zko YC
  refine zw fun KY hKY=>?_
  simp only[go_sem,pD,zg (show v<F.rt.length by omega),zg (show v<F.ev.length by omega),zj,s1,s3,s4,s5,s6,hvn,hw,←ha]
  apply hKY
  refine za fun KY hKY=>?_
  simp only[go_sem,pC,hgw,zj,hml,hw]
  apply hKY
  have hrl:(F.rt.set w (F.rt.getD v 0)).length=n:=by simp[s6]
  refine zw fun KY hKY=>?_
  simp only[go_sem,pB,zg (show v<(F.rt.set w (F.rt.getD v 0)).length by omega),zj,hrl,hvn,hxN]
  apply hKY
  refine zn fun KY hKY=>?_
  simp only[go_sem,pA,zg (show v<F.ev.length by omega),zj,s3,hvn,←hb]
  apply zr [] [0] false none rfl
  iterate 8 (first|(simp only[go_sem,zt]<;>rfl)|rfl)
  refine(hrs).mono ?_
  rintro _ _ ⟨rfl,rfl⟩
  refine⟨Nat.le_of_ble_eq_true rfl,(fun hh=>by cases hh),?_⟩
  simp only[go_sem,zq,zb.after]
  apply hKY
  simp only[go_sem]
  exact⟨_,RG,rfl,rfl,rfl⟩
theorem vu {mt:Nat→Int}{S:FS}{v to:Nat}{ps:Yz}(w:Gl.xI mt S v to ps):v=to∨S.lab v=1∨S.out v=true:=by
 cases w with
 |here=>exact .inl rfl
 |even _ h2 _ _ _=>exact .inr (.inl h2)
 |odd _ h2 _ _ _ _=>exact .inr (.inr h2)
theorem gA (a b:List Nat):zJ a++zJ b=zJ (a++b):=by simp[zJ]
theorem Qn (ps:Yz):(jw ps).length=2*ps.length:=by
 induction ps with
 |nil=>rfl
 |cons p ps ih=>rw[ZC];simp[ih];omega
theorem zfT (ps:Yz):(xN ps).length=ps.length:=by simp[xN]
theorem zbW (v m:Nat)(ps:Yz)(to:Nat):zE ((v,m)::ps) to=v::m::zE ps to:=rfl
theorem zdW (v m:Nat)(ps qs:Yz)(to:Nat):zE ((v,m)::(xN ps++qs)) to=(v::(zE ps m).reverse)++zE qs to:=by
 simp[zE,ZC,qh,Vs]
theorem zfq (nr:List (List Nat)){n:Nat}{E:Nat→Nat→Prop}{m:List Int}{S:FS}{F:FD}(M:Mf n E (mf m))(I:J2 n E (mf m) S)(R:Rp n m S F)(hn:n≤4096):
    ∀(k:Nat) {v to:Nat} {ps:Yz},ps.length≤k→ps.length≤5000→v<n→to<n→Gl.xI (mf m) S v to ps→zo Try.prog [] zji [.ptr 0 0,.sc (.int .i64 (v:Int)),.sc (.int .i64 (to:Int))] [some (F.obj nr m)] fun r h'=>r= .own (some 1) (zJ (zE ps to))∧h'=[some (F.obj nr m)]:=by
  intro k
  induction k using Nat.strongRecOn with
  |_ k ih=>
  intro v to ps hk hp5 hvn hton W
  have hml:=R.ml
  have hll:=R.sz.lab
  have hpl:=R.sz.pr
  have hbl:=R.sz.br
  unfold FD.obj at ih⊢
  refine zlH rfl ?_
  unfold zkf jG
  refine za fun KY hKY=>?_
  simp only[go_sem,GO]
  apply hKY
  refine za fun KY hKY=>?_
  simp only[go_sem,GN]
  apply hKY
  refine jC [0,7] 1 (by simp only[go_sem]) ?_
  simp only[go_sem]
  rw[show zc.own (some 1) []= .own (some 1) (zJ []) from rfl]
  refine zp fun X1 hn1 he1 hf1 hr1=>?_
  try simp only[go_sem]
  refine zP (α:=List Nat×Nat×Yz) [8,36,41] (fun(l,c,qs)=>[(1,.sc (.int .i64 (c:Int))),(7,.own (some 1) (zJ l))]) (fun(l,c,qs)=>[some [.imm 1 (Zv nr),.imm 1 (zl m),.own (some 1) (zl F.lab),.own (some 1) (Zd F.out),.own (some 1) (zl F.ev),.own (some 1) (zl F.od),.own (some 1) (zl F.pr),.own (some 1) (zl F.rt),.own (some 2) (zY F.br),.own (some 1) (Zd F.gone),.own (some 1) (zl F.up),.own (some 1) (zl F.bs),.own (some 1) (zl F.mr),.sc (.int .i64 F.tn),.own (some 1) (zJ F.wt),.sc (.int .i64 F.lk)]]) (fun(l,c,qs) q=>q=qs.length∧c<n∧Gl.xI (mf m) S c to qs∧l++zE qs to=zE ps to∧qs.length≤ps.length) (([],v,ps)) (ps.length) rfl (by first|(simp only[go_sem,zd,ze];done)|with_reducible rfl|rfl) (⟨rfl,hvn,W,rfl,Nat.le_refl _⟩) ?_
  rintro⟨l,c,qs⟩ q ⟨rfl,hc,Wc,he,hql⟩ X2 hn2 he2 hr2
  simp only[go_sem,zd,ze]
  have hlen:l.length+(2*qs.length+1)=2*ps.length+1:=by
    have:=congrArg List.length he
    simpa[zE,Qn] using this
  have hcl:c<F.lab.length:=by omega
  refine zp fun X3 hn3 he3 hf3 hr3=>?_
  refine za fun KY hKY=>?_
  simp only[go_sem,GM,jg,Zo,(show(l.length+1)*8≤140737488355328 by omega)]
  apply hKY
  refine zp fun X4 hn4 he4 hf4 hr4=>?_
  cases Wc with
  | here=>
    have hd:decide ((to:Int)=(to:Int))=true:=decide_eq_true rfl
    refine za fun KY hKY=>?_
    simp only[go_sem,w8,hd]
    apply hKY
    refine Zw ?_
    refine za fun KY hKY=>?_
    simp only[go_sem,GL]
    apply hKY
    refine zi ?_
    repeat (first|refine hr4 _ ?_|refine hr3 _ ?_|refine hr2 _ ?_|refine hr1 _ ?_)
    simp only[go_sem]
    rw[←he];rfl
  | @even _ _ x qs' hne hl hm hlx W'=>
    have hd:decide ((c:Int)=(to:Int))=false:=decide_eq_false (by omega)
    have hlg:(zl F.lab)[c]?=some (.sc (.int .i64 ((1:Nat):Int))):=by rw[zg hcl,R.lab c hc,hl]
    have hmg:(zl m)[c]?=some (.sc (.int .i64 (x:Int))):=by rw[JK (by omega),hm]
    obtain⟨hxn,_,_,_,_,hpo,_⟩:=I.od x hlx
    have hpn:=(I.o1 _ hpo).1
    have hpg:(zl F.pr)[x]?=some (.sc (.int .i64 (S.pr x:Int))):=by rw[zg (by omega),R.pr x hxn hlx]
    refine za fun KY hKY=>?_
    simp only[go_sem,w8,hd]
    apply hKY
    refine Zr ?_
    refine za fun KY hKY=>?_
    simp only[go_sem,uG,hlg,zj,hll,hc]
    apply hKY
    refine Zw ?_
    refine za fun KY hKY=>?_
    simp only[go_sem,GK,hmg,zj,hml,hc,jg,Zo,List.length_append,(show(l.length+1+1)*8≤140737488355328 by omega)]
    apply hKY
    refine Jq fun KY hKY=>?_
    simp only[go_sem,GJ,hmg,hpg,zj,hml,hc,hxn,hpl]
    have hlc:((c,x)::qs').length=qs'.length+1:=rfl
    apply hKY
    repeat (first|refine hn4 _ ?_|refine he4 _ ?_|refine hf4 _ _ (by decide) ?_|refine hn3 _ ?_|refine he3 _ ?_|refine hf3 _ _ (by decide) ?_)
    refine hn2 _ ((l++[c]++[x],S.pr x,qs')) (qs'.length) (by omega) (by first|(simp only[go_sem,zd,ze];done)|with_reducible rfl|rfl) ?_
    exact⟨rfl,hpn,W',by rw[←he,zbW];simp,by omega⟩
  | @odd _ _ x p1 qs' hne ho hl hm W1 W2=>
    have hd:decide ((c:Int)=(to:Int))=false:=decide_eq_false (by omega)
    have hlg:(zl F.lab)[c]?=some (.sc (.int .i64 ((2:Nat):Int))):=by rw[zg hcl,R.lab c hc,hl]
    have hmg:(zl m)[c]?=some (.sc (.int .i64 (x:Int))):=by rw[JK (by omega),hm]
    have hbg:F.br[c]?=some ((S.b0 c:Int),(S.b1 c:Int)):=by
      have h1:=R.br c hc hl ho
      rw[List.getD_eq_getElem?_getD,List.getElem?_eq_getElem (by omega)] at h1
      rw[List.getElem?_eq_getElem (by omega)]
      simpa using h1
    have hq1:((c,x)::(xN p1++qs')).length=p1.length+qs'.length+1:=by simp[zfT]
    rw[hq1] at hql hlen
    have hxn:x<n:=(M.el _ _ (M.ne c x hm).2).2.1
    have hb0n:S.b0 c<n:=by
      rcases vu W1 with h|h|h
      · rw[h];exact hxn
      · exact(I.o1 _ (I.e1 _ h)).1
      · exact(I.o1 _ h).1
    have hb1n:S.b1 c<n:=by
      rcases vu W2 with h|h|h
      · rw[h];exact hton
      · exact(I.o1 _ (I.e1 _ h)).1
      · exact(I.o1 _ h).1
    have t1:p1.length<k:=by omega
    have t2:p1.length≤5000:=by omega
    have hI:=ih p1.length t1 (Nat.le_refl _) t2 hb0n hxn W1
    refine za fun KY hKY=>?_
    simp only[go_sem,w8,hd]
    apply hKY
    refine Zr ?_
    refine za fun KY hKY=>?_
    simp only[go_sem,uG,hlg,zj,hll,hc]
    apply hKY
    refine Zr ?_
    refine za fun KY hKY=>?_
    simp only[go_sem,GI,zU hbg,ZI,hbl,hc,(show c*2+1<n*2 by omega),(show 1<n*2 - c*2 by omega),List.length_drop]
    apply hKY
    have hvl:(zE p1 x).length=2*p1.length+1:=by simp[zE,Qn]
    refine zw fun KY hKY=>?_
    simp only[go_sem,GH,hmg,zj,hml,hc]
    apply zr [] [0] false none rfl
    iterate 8 (first|(simp only[go_sem,zt]<;>rfl)|rfl)
    refine(hI).mono ?_
    rintro _ _ ⟨rfl,rfl⟩
    refine⟨Nat.le_of_ble_eq_true rfl,(fun hh=>by cases hh),?_⟩
    simp only[go_sem,zq,zb.after]
    apply zr [.mv] [] false none rfl
    iterate 8 (first|(simp only[go_sem,zt]<;>rfl)|rfl)
    refine(zdF (zE p1 x) (by omega)).mono ?_
    rintro _ _ ⟨rfl,rfl⟩
    refine⟨Nat.le_of_ble_eq_true rfl,(fun hh=>by cases hh),?_⟩
    simp only[go_sem,zq,zb.after,gA,Zo,List.length_append,List.length_reverse,hvl,List.length_cons,List.length_nil,(show(l.length+1+(2*p1.length+1))*8≤140737488355328 by omega)]
    apply hKY
    refine zn fun KY hKY=>?_
    simp only[go_sem,VD]
    apply hKY
    repeat (first|refine hn4 _ ?_|refine he4 _ ?_|refine hf4 _ _ (by decide) ?_|refine hn3 _ ?_|refine he3 _ ?_|refine hf3 _ _ (by decide) ?_)
    refine hn2 _ ((l++[c]++(zE p1 x).reverse,S.b1 c,qs')) (qs'.length) (by omega) (by first|(simp only[go_sem,zd,ze];done)|with_reducible rfl|rfl) ?_
    refine⟨rfl,hb1n,W2,?_,by omega⟩
    rw[←he,zdW]
    simp[List.append_assoc]
end Go.Proofs.Ytmcfdfafeheihaa

namespace Go.Ga.Gl
open Go Go.Ga
theorem chain_end {mt:Nat→Int}{S:FS}{c x:Nat}{xs:List Nat}(h:Zx mt S c x xs):∀{m:Nat},(∀y∈xs,y≠S.bs (S.pr m))→x≠S.bs (S.pr m)→mt x=(m:Int)→Zx mt S c (S.bs (S.pr m)) (xs++[x]):=by
 induction h with
 |here b=>intro m _ h2 hm;exact .up h2 hm (.here _)
 | up hne hm2 hch ih=>
   intro m h1 h2 hm
   exact .up (h1 _ (by simp)) hm2 (ih (fun y hy=>h1 y (List.mem_cons_of_mem _ hy)) h2 hm)
theorem zcP {N:Nat}{E:Nat→Nat→Prop}{mt:Nat→Int}{S:FS}(M:Mf N E mt)(I:J2 N E mt S){d:Nat→Nat}(hd:∀b m:Nat,S.out b=true→S.bs b=b→mt b=(m:Int)→d (S.bs (S.pr m))<d b){c x m:Nat}{xs:List Nat}(h:Zx mt S c x xs)(h1:S.out c=true)(h2:S.bs c=c)(hm:mt x=(m:Int)):Zx mt S c (S.bs (S.pr m)) (xs++[x])∧d (S.bs (S.pr m))<d x∧m<N∧S.lab m=2∧S.pr m<N∧S.bs (S.pr m)<N:=by
 obtain⟨⟨k1,k2,k3⟩,k4⟩:=Zt M I hd h h1 h2
 have hlt:=hd x m k1 k2 hm
 rcases I.base M k1 k2 with⟨h3,_⟩|⟨m',h3,h4,h5,h6,h7,h8,h9⟩
 · omega
 · obtain rfl:m'=m:=by omega
   refine⟨chain_end h (fun y hy e=>by have:=(k4 y hy).1;rw[e] at this;omega) (fun e=>by rw[←e] at hlt;omega) hm,hlt,(I.od _ h4).1,h4,(I.o1 _ h6).1,(I.o1 _ (I.bo _ h6).1).1⟩
def Wk (mt:Nat→Int)(S:FS)(s:Nat)(p:Int)(P:List Nat):Prop:=
 (∃x:Nat,p=(x:Int)∧Zx mt S s x P)∨(p= -1∧∃r P',P=P'++[r]∧Zx mt S s r P'∧mt r= -1)
def dep (d:Nat→Nat)(p:Int):Nat:=if p= -1 then 0 else d p.toNat+1
theorem ziz {N:Nat}{E:Nat→Nat→Prop}{mt:Nat→Int}{S:FS}(M:Mf N E mt)(I:J2 N E mt S){d:Nat→Nat}(hd:∀b m:Nat,S.out b=true→S.bs b=b→mt b=(m:Int)→d (S.bs (S.pr m))<d b){s t x:Nat}{q:Int}{P Q:List Nat}(hs1:S.out s=true)(hs2:S.bs s=s)(ht1:S.out t=true)(ht2:S.bs t=t)(hp:Zx mt S s x P)(hq:Wk mt S t q Q)(hx:x∈Q)(hdj:∀y∈P,y∉Q):
    ∃ys,Zx mt S t x ys∧∀y∈P,y∉ys:=by
  rcases hq with⟨z,rfl,hc⟩|⟨rfl,r,Q',rfl,hc,hr⟩
  · obtain⟨y1,y2,e,c1,c2⟩:=qT M I hd hc ht1 ht2 x hx
    exact⟨y1,c1,fun y hy h=>hdj y hy (by rw[e];simp[h])⟩
  · rcases List.mem_append.1 hx with h|h
    · obtain⟨y1,y2,e,c1,c2⟩:=qT M I hd hc ht1 ht2 x h
      exact⟨y1,c1,fun y hy h=>hdj y hy (by rw[e];simp[h])⟩
    · obtain rfl:x=r:=by simpa using h
      exact⟨Q',hc,fun y hy h=>hdj y hy (by simp[h])⟩
theorem zgj {N:Nat}{E:Nat→Nat→Prop}{mt:Nat→Int}{S:FS}(M:Mf N E mt)(I:J2 N E mt S){s t:Nat}{P Q:List Nat}(hs1:S.out s=true)(hs2:S.bs s=s)(ht1:S.out t=true)(ht2:S.bs t=t)(hrt:S.rt s=S.rt t)(hp:Wk mt S s (-1) P)(hq:Wk mt S t (-1) Q)(hdj:∀y∈P,y∉Q):False:=by
 obtain⟨d,hd⟩:=I.dp
 rcases hp with⟨x,h,_⟩|⟨_,r,P',rfl,hc,hr⟩
 · omega
 rcases hq with⟨x,h,_⟩|⟨_,r2,Q',rfl,hc2,hr2⟩
 · omega
 obtain⟨⟨a1,a2,a3⟩,_⟩:=Zt M I hd hc hs1 hs2
 obtain⟨⟨b1,b2,b3⟩,_⟩:=Zt M I hd hc2 ht1 ht2
 have e1:S.rt r=(r:Int):=by
  rcases I.base M a1 a2 with⟨_,h⟩|⟨m,h,_⟩
  · exact h
  · omega
 have e2:S.rt r2=(r2:Int):=by
  rcases I.base M b1 b2 with⟨_,h⟩|⟨m,h,_⟩
  · exact h
  · omega
 have:r=r2:=by omega
 subst this
 exact hdj r (by simp) (by simp)
theorem zle {N:Nat}{E:Nat→Nat→Prop}{mt:Nat→Int}{S:FS}(M:Mf N E mt)(I:J2 N E mt S){s x:Nat}{P:List Nat}(hs1:S.out s=true)(hs2:S.bs s=s)(hp:Zx mt S s x P):x∉P∧x<N∧S.out x=true∧S.bs x=x:=by
 obtain⟨d,hd⟩:=I.dp
 obtain⟨⟨a1,a2,a3⟩,a4⟩:=Zt M I hd hp hs1 hs2
 exact⟨fun h=>by have:=(a4 x h).1;omega,(I.o1 x a1).1,a1,a2⟩
end Go.Ga.Gl
namespace Go.Proofs.Ytmcfdfafeheihaa
open Go Go.Ga Go.Ga.Gl
theorem Rp.turn {n:Nat}{m:List Int}{S:FS}{F:FD}(R:Rp n m S F):Rp n m S {F with tn:=F.tn+1}:=by
 obtain⟨s1,s2,s3,s4,s5,s6,s7,s8,s9,s10,s11⟩:=R.sz
 exact⟨⟨s1,s2,s3,s4,s5,s6,s7,s8,s9,s10,s11⟩,R.ml,R.lab,R.out,R.pr,R.rt,R.rb,R.br,R.gone,R.uf,fun v hv=>by have:=R.mr v hv;show F.mr.getD v 0≤F.tn+1;omega,R.wt,R.wn⟩
theorem Rp.mark {n:Nat}{m:List Int}{S:FS}{F:FD}(R:Rp n m S F){x:Nat}(hx:x<n):Rp n m S {F with mr:=F.mr.set x F.tn}:=by
 obtain⟨s1,s2,s3,s4,s5,s6,s7,s8,s9,s10,s11⟩:=R.sz
 refine⟨⟨s1,s2,s3,s4,s5,s6,s7,s8,s9,s10,by simp[s11]⟩,R.ml,R.lab,R.out,R.pr,R.rt,R.rb,R.br,R.gone,R.uf,fun v hv=>?_,R.wt,R.wn⟩
 show(F.mr.set x F.tn).getD v 0≤F.tn
 rw[ZQ _ _ _ _ (by omega)]
 split
 · exact Int.le_refl _
 · exact R.mr v hv
theorem ziy (nr:List (List Nat)){n:Nat}{E:Nat→Nat→Prop}{m:List Int}{S:FS}{F:FD}(M:Mf n E (mf m))(I:J2 n E (mf m) S)(R:Rp n m S F)(htn:0≤F.tn∧F.tn≤1000000000){a c:Nat}(ha1:S.out a=true)(ha2:S.bs a=a)(hc1:S.out c=true)(hc2:S.bs c=c)(hrt:S.rt a=S.rt c):
    zo Try.prog [] zjh [.ptr 0 0,.sc (.int .i64 (a:Int)),.sc (.int .i64 (c:Int))] [some (F.obj nr m)] fun r h'=>∃(b:Nat) (xs ys:List Nat),Zx (mf m) S a b xs∧Zx (mf m) S c b ys∧(∀x∈xs,x∉ys)∧r= .sc (.int .i64 (b:Int))∧∃F':FD,Rp n m S F'∧F'.wt=F.wt∧F'.tn=F.tn+1∧h'=[some (F'.obj nr m)]:=by
  obtain⟨d,hd⟩:=I.dp
  have hw:IntKind.i64.wrap (F.tn+1)=F.tn+1:=IntWalk.i64_in _ (by omega)
  unfold FD.obj
  refine zlG rfl ?_
  unfold zke J3
  refine za fun KY hKY=>?_
  simp only[go_sem,GG]
  apply hKY
  refine za fun KY hKY=>?_
  simp only[go_sem,GF,hw]
  apply hKY
  refine zp fun X1 hn1 he1 hf1 hr1=>?_
  try simp only[go_sem]
  refine zP (α:=Nat×Nat×Int×Int×List Nat×List Nat×List Int×List Int) [15,27] (fun(s1,s2,p,q',P,Q,mr',up')=>[(1,.sc (.int .i64 p)),(2,.sc (.int .i64 q'))]) (fun(s1,s2,p,q',P,Q,mr',up')=>[some [.imm 1 (Zv nr),.imm 1 (zl m),.own (some 1) (zl F.lab),.own (some 1) (Zd F.out),.own (some 1) (zl F.ev),.own (some 1) (zl F.od),.own (some 1) (zl F.pr),.own (some 1) (zl F.rt),.own (some 2) (zY F.br),.own (some 1) (Zd F.gone),.own (some 1) (zl up'),.own (some 1) (zl F.bs),.own (some 1) (zl mr'),.sc (.int .i64 (F.tn+1)),.own (some 1) (zJ F.wt),.sc (.int .i64 F.lk)]]) (fun(s1,s2,p,q',P,Q,mr',up') q=>((s1=a∧s2=c)∨(s1=c∧s2=a))∧Wk (mf m) S s1 p P∧Wk (mf m) S s2 q' Q∧(∀y∈P,y∉Q)∧(∀u,u<n→(mr'.getD u 0=F.tn+1↔u∈P∨u∈Q))∧Rp n m S {F with mr:=mr',up:=up',tn:=F.tn+1}∧q=2*(dep d p+dep d q')+(if p= -1 then 1 else 0)) ((a,c,(a:Int),(c:Int),[],[],F.mr,F.up)) (2*(dep d a+dep d c)+(if(a:Int)= -1 then 1 else 0)) rfl (by first|(simp only[go_sem,zd,ze];done)|with_reducible rfl|rfl) (⟨.inl ⟨rfl,rfl⟩,.inl ⟨a,rfl,.here a⟩,.inl ⟨c,rfl,.here c⟩,by simp,fun u hu=>⟨fun h=>absurd h (by have:=R.mr u hu;omega),fun h=>by simp at h⟩,R.turn,rfl⟩) ?_
  rintro⟨s1,s2,p,q',P,Q,mr',up'⟩ q ⟨hs,hP,hQ,hdj,hmk,R',rfl⟩ X2 hn2 he2 hr2
  simp only[go_sem,zd,ze]
  obtain⟨hs1,hs2,ht1,ht2,hst⟩:S.out s1=true∧S.bs s1=s1∧S.out s2=true∧S.bs s2=s2∧S.rt s1=S.rt s2:=by
    rcases hs with⟨rfl,rfl⟩|⟨rfl,rfl⟩
    · exact⟨ha1,ha2,hc1,hc2,hrt⟩
    · exact⟨hc1,hc2,ha1,ha2,hrt.symm⟩
  have hs':(s2=a∧s1=c)∨(s2=c∧s1=a):=hs.elim (fun h=> .inr ⟨h.2,h.1⟩) (fun h=> .inl ⟨h.2,h.1⟩)
  have hmrl:mr'.length=n:=R'.sz.mr
  have hif:(if q'= -1 then 1 else 0:Nat)≤1:=by split<;>omega
  refine zp fun X3 hn3 he3 hf3 hr3=>?_
  refine zf fun X4 hn4 he4 hr4=>?_
  rcases hP with⟨x,rfl,hc⟩|⟨rfl,r,P',rfl,hc,hr⟩
  · obtain⟨hxP,hxn,hxo,hxb⟩:=zle M I hs1 hs2 hc
    have hd0:decide ((x:Int)≠ -1)=true:=decide_eq_true (by omega)
    have hif0:(if(x:Int)= -1 then 1 else 0:Nat)=0:=if_neg (by omega)
    have hdx:dep d (x:Int)=d x+1:=by unfold dep;rw[if_neg (by omega),Int.toNat_natCast]
    refine za fun KY hKY=>?_
    simp only[go_sem,uF,hd0]
    apply hKY
    refine Zw ?_
    refine zf fun X5 hn5 he5 hr5=>?_
    by_cases hm:mr'.getD x 0=F.tn+1
    · have hd1:decide (mr'.getD x 0=F.tn+1)=true:=decide_eq_true hm
      refine zw fun KY hKY=>?_
      simp only[go_sem,uE,zg (show x<mr'.length by omega),zj,hmrl,hxn,hd1]
      apply hKY
      refine Zw ?_
      refine za fun KY hKY=>?_
      simp only[go_sem,GE]
      apply hKY
      refine zi ?_
      repeat (first|refine hr5 _ ?_|refine hr4 _ ?_|refine hr3 _ ?_|refine hr2 _ ?_|refine hr1 _ ?_)
      simp only[go_sem]
      have hxQ:=((hmk x hxn).1 hm).resolve_left hxP
      obtain⟨ys,k1,k2⟩:=ziz M I hd hs1 hs2 ht1 ht2 hc hQ hxQ hdj
      rcases hs with⟨rfl,rfl⟩|⟨rfl,rfl⟩
      · exact⟨x,P,ys,hc,k1,k2,rfl,_,R',rfl,rfl,rfl⟩
      · exact⟨x,ys,P,k1,hc,fun y hy h=>k2 y h hy,rfl,_,R',rfl,rfl,rfl⟩
    · have hd1:decide (mr'.getD x 0=F.tn+1)=false:=decide_eq_false hm
      have hxQ:x∉Q:=fun h=>hm ((hmk x hxn).2 (.inr h))
      have Rm:=R'.mark hxn
      have hdj2:∀y∈Q,y∉P++[x]:=fun y hy h=>by
        rcases List.mem_append.1 h with h|h
        · exact hdj y h hy
        · obtain rfl:y=x:=by simpa using h
          exact hxQ hy
      have hmk2:∀u,u<n→((mr'.set x (F.tn+1)).getD u 0=F.tn+1↔u∈Q∨u∈P++[x]):=fun u hu=>by
        rw[ZQ _ _ _ _ (by omega)]
        by_cases e:u=x
        · subst e;simp
        · rw[if_neg e,hmk u hu];simp[e];exact Or.comm
      refine zw fun KY hKY=>?_
      simp only[go_sem,uE,zg (show x<mr'.length by omega),zj,hmrl,hxn,hd1]
      apply hKY
      refine Zr ?_
      refine zh ?_
      repeat (first|refine hn5 _ ?_|refine he5 _ _ ?_|refine hn4 _ ?_|refine he4 _ _ ?_|refine hn3 _ ?_|refine he3 _ ?_|refine hf3 _ _ (by decide) ?_|refine he2 _ _ ?_|refine hn1 _ ?_|refine he1 _ ?_|refine hf1 _ _ (by decide) ?_)
      refine zw fun KY hKY=>?_
      simp only[go_sem,GD,zj,hmrl,hxn,jv]
      apply hKY
      rcases M.at_ x hxn with hmx|⟨y,hmx,hyn⟩
      · have hab:=zc6 nr Rm hxn hmx
        unfold FD.obj at hab
        simp only at hab
        refine zn fun KY hKY=>?_
        simp only[go_sem,uD]
        apply zr [] [0] false none rfl
        iterate 8 (first|(simp only[go_sem,zt]<;>rfl)|rfl)
        refine(hab.less (by simp)).mono ?_
        rintro _ _ ⟨rfl,rfl⟩
        refine⟨Nat.le_of_ble_eq_true rfl,(fun hh=>by cases hh),?_⟩
        simp only[go_sem,zq,zb.after]
        apply hKY
        repeat (first|refine hn5 _ ?_|refine he5 _ _ ?_|refine hn4 _ ?_|refine he4 _ _ ?_|refine hn3 _ ?_|refine he3 _ ?_|refine hf3 _ _ (by decide) ?_|refine he2 _ _ ?_|refine hn1 _ ?_|refine he1 _ ?_|refine hf1 _ _ (by decide) ?_)
        refine zn fun KY hKY=>?_
        simp only[go_sem,w7]
        have hd9:dep d (-1)=0:=if_pos rfl
        apply hKY
        repeat (first|refine hn5 _ ?_|refine he5 _ _ ?_|refine hn4 _ ?_|refine he4 _ _ ?_|refine hn3 _ ?_|refine he3 _ ?_|refine hf3 _ _ (by decide) ?_)
        refine hn2 _ ((s2,s1,q', -1,Q,P++[x],mr'.set x (F.tn+1),up')) (2*(dep d q'+dep d (-1))+(if q'= -1 then 1 else 0)) (by omega) (by first|(simp only[go_sem,zd,ze];done)|with_reducible rfl|rfl) ?_
        exact⟨hs',hQ,.inr ⟨rfl,x,P,rfl,hc,hmx⟩,hdj2,hmk2,Rm,rfl⟩
      · obtain⟨c1,c2,c3,c4,c5,c6⟩:=zcP M I hd hc hs1 hs2 hmx
        have hab:=zc5 nr Rm hxn hmx c3 c4 c5
        unfold FD.obj FD.upd at hab
        simp only at hab
        refine zn fun KY hKY=>?_
        simp only[go_sem,uD]
        apply zr [] [0] false none rfl
        iterate 8 (first|(simp only[go_sem,zt]<;>rfl)|rfl)
        refine(hab).mono ?_
        rintro _ _ ⟨rfl,up2,R2,rfl⟩
        refine⟨Nat.le_of_ble_eq_true rfl,(fun hh=>by cases hh),?_⟩
        simp only[go_sem,zq,zb.after]
        apply hKY
        repeat (first|refine hn5 _ ?_|refine he5 _ _ ?_|refine hn4 _ ?_|refine he4 _ _ ?_|refine hn3 _ ?_|refine he3 _ ?_|refine hf3 _ _ (by decide) ?_|refine he2 _ _ ?_|refine hn1 _ ?_|refine he1 _ ?_|refine hf1 _ _ (by decide) ?_)
        refine zn fun KY hKY=>?_
        simp only[go_sem,w7]
        have hd9:dep d (S.bs (S.pr y):Int)=d (S.bs (S.pr y))+1:=by unfold dep;rw[if_neg (by omega),Int.toNat_natCast]
        apply hKY
        repeat (first|refine hn5 _ ?_|refine he5 _ _ ?_|refine hn4 _ ?_|refine he4 _ _ ?_|refine hn3 _ ?_|refine he3 _ ?_|refine hf3 _ _ (by decide) ?_)
        refine hn2 _ ((s2,s1,q',(S.bs (S.pr y):Int),Q,P++[x],mr'.set x (F.tn+1),up2)) (2*(dep d q'+dep d (S.bs (S.pr y):Int))+(if q'= -1 then 1 else 0)) (by omega) (by first|(simp only[go_sem,zd,ze];done)|with_reducible rfl|rfl) ?_
        exact⟨hs',hQ,.inl ⟨_,rfl,c1⟩,hdj2,hmk2,R2,rfl⟩
  · have hd0:decide ((-1:Int)≠ -1)=false:=rfl
    have hq1:q'≠ -1:=fun e=>by
      subst e
      exact zgj M I hs1 hs2 ht1 ht2 hst (.inr ⟨rfl,r,P',rfl,hc,hr⟩) hQ hdj
    have hif1:(if q'= -1 then 1 else 0:Nat)=0:=if_neg hq1
    have hif2:(if(-1:Int)= -1 then 1 else 0:Nat)=1:=if_pos rfl
    refine za fun KY hKY=>?_
    simp only[go_sem,uF,hd0]
    apply hKY
    refine Zr ?_
    refine zh ?_
    repeat (first|refine hn4 _ ?_|refine he4 _ _ ?_|refine hn3 _ ?_|refine he3 _ ?_|refine hf3 _ _ (by decide) ?_|refine he2 _ _ ?_|refine hn1 _ ?_|refine he1 _ ?_|refine hf1 _ _ (by decide) ?_)
    refine zn fun KY hKY=>?_
    simp only[go_sem,w7]
    apply hKY
    repeat (first|refine hn4 _ ?_|refine he4 _ _ ?_|refine hn3 _ ?_|refine he3 _ ?_|refine hf3 _ _ (by decide) ?_)
    refine hn2 _ ((s2,s1,q', -1,Q,P'++[r],mr',up')) (2*(dep d q'+dep d (-1))+(if q'= -1 then 1 else 0)) (by omega) (by first|(simp only[go_sem,zd,ze];done)|with_reducible rfl|rfl) ?_
    exact⟨hs',hQ,.inr ⟨rfl,r,P',rfl,hc,hr⟩,fun y hy h=>hdj y h hy,fun u hu=>(hmk u hu).trans Or.comm,R',rfl⟩
structure Rc (n:Nat)(m:List Int)(S:FS)(F:FD):Prop where
 sz:F.Sz n
 ml:m.length=n
 lab:∀v,v<n→F.lab.getD v 0=(S.lab v:Int)
 out:∀v,v<n→F.out.getD v false=S.out v
 pr:∀v,v<n→S.lab v=2→F.pr.getD v 0=(S.pr v:Int)
 rt:∀v,v<n→F.rt.getD v 0=S.rt v
 rb:∀v,v<n→S.rt v= -1∨∃r:Nat,S.rt v=(r:Int)∧r<n
 br:∀v,v<n→S.lab v=2→S.out v=true→F.br.getD v (0,0)=((S.b0 v:Int),(S.b1 v:Int))
 gone:∀v,v<n→F.gone.getD v false=false
 mr:∀v,v<n→F.mr.getD v 0≤F.tn
 wt:∀x∈F.wt,x<n∧S.out x=true
 wn:F.wt.Nodup
def Uf (n:Nat)(up bs:List Int)(cls bet:Nat→Nat):Prop:=bs.length=n∧∃rep h,vb n up rep h∧(∀v,v<n→bs.getD (rep v) 0=(bet v:Int))∧∀u v,u<n→v<n→(rep u=rep v↔cls u=cls v)
theorem Rp.rc {n:Nat}{m:List Int}{S:FS}{F:FD}(R:Rp n m S F):Rc n m S F∧Uf n F.up F.bs S.bs S.bs:=
 ⟨⟨R.sz,R.ml,R.lab,R.out,R.pr,R.rt,R.rb,R.br,R.gone,R.mr,R.wt,R.wn⟩,R.sz.bs,R.uf⟩
theorem Rc.rp {n:Nat}{m:List Int}{S:FS}{F:FD}(R:Rc n m S F)(U:Uf n F.up F.bs S.bs S.bs):Rp n m S F:=
 ⟨R.sz,R.ml,R.lab,R.out,R.pr,R.rt,R.rb,R.br,R.gone,U.2,R.mr,R.wt,R.wn⟩
theorem Rc.wl {n:Nat}{m:List Int}{S:FS}{F:FD}(R:Rc n m S F):F.wt.length≤n:=by
 have:=Zz (m:=List.range n) R.wn fun x hx=>List.mem_range.2 (R.wt x hx).1
 simpa using this
theorem Rc.ups {n:Nat}{m:List Int}{S:FS}{F:FD}(R:Rc n m S F){up bs:List Int}(h1:up.length=n)(h2:bs.length=n):Rc n m S {F with up:=up,bs:=bs}:=by
 obtain⟨s1,s2,s3,s4,s5,s6,s7,s8,s9,s10,s11⟩:=R.sz
 exact⟨⟨s1,s2,s3,s4,s5,s6,s7,s8,h1,h2,s11⟩,R.ml,R.lab,R.out,R.pr,R.rt,R.rb,R.br,R.gone,R.mr,R.wt,R.wn⟩
theorem zi8 (nr:List (List Nat))(m:List Int){n:Nat}(F:FD){cls bet:Nat→Nat}(U:Uf n F.up F.bs cls bet){v w:Nat}(hv:v<n)(hw:w<n)(b:Nat):
    zo Try.prog [] zgo [.ptr 0 0,.sc (.int .i64 (v:Int)),.sc (.int .i64 (w:Int)),.sc (.int .i64 (b:Int))] [some (F.obj nr m)] fun r h'=>r= .tup []∧∃up' bs',up'.length=n∧Uf n up' bs' (fun u=>if cls u=cls v then cls w else cls u) (fun u=>if cls u=cls v∨cls u=cls w then b else bet u)∧h'=[some (({F with up:=up',bs:=bs'}:FD).obj nr m)]:=by
  obtain⟨hbl,rep,h,U1,U2,U3⟩:=U
  refine(zft nr m F U1 hbl hv hw (b:Int)).mono ?_
  rintro r h' ⟨rfl,up',h2,V,rfl⟩
  have hrw:=U1.rep_lt hw
  refine⟨rfl,up',_,V.len,⟨by rw[List.length_set];exact hbl,_,h2,V,fun u hu=>?_,fun x y hx hy=>?_⟩,rfl⟩
  · show(F.bs.set (rep w) (b:Int)).getD (if rep u=rep v then rep w else rep u) 0=((if cls u=cls v∨cls u=cls w then b else bet u:Nat):Int)
    rw[ZQ _ _ _ _ (by rw[hbl];exact hrw)]
    by_cases e1:cls u=cls v
    · rw[if_pos ((U3 u v hu hv).2 e1),if_pos rfl,if_pos (.inl e1)]
    · rw[if_neg (fun e=>e1 ((U3 u v hu hv).1 e))]
      by_cases e2:cls u=cls w
      · rw[if_pos ((U3 u w hu hw).2 e2),if_pos (.inr e2)]
      · rw[if_neg (fun e=>e2 ((U3 u w hu hw).1 e)),if_neg (fun e=>e.elim e1 e2),U2 u hu]
  · show(if rep x=rep v then rep w else rep x)=(if rep y=rep v then rep w else rep y)↔(if cls x=cls v then cls w else cls x)=(if cls y=cls v then cls w else cls y)
    by_cases e1:cls x=cls v
    · rw[if_pos ((U3 x v hx hv).2 e1),if_pos e1]
      by_cases e2:cls y=cls v
      · rw[if_pos ((U3 y v hy hv).2 e2),if_pos e2];simp
      · rw[if_neg (fun e=>e2 ((U3 y v hy hv).1 e)),if_neg e2]
        exact U3 w y hw hy
    · rw[if_neg (fun e=>e1 ((U3 x v hx hv).1 e)),if_neg e1]
      by_cases e2:cls y=cls v
      · rw[if_pos ((U3 y v hy hv).2 e2),if_pos e2]
        exact U3 x w hx hw
      · rw[if_neg (fun e=>e2 ((U3 y v hy hv).1 e)),if_neg e2]
        exact U3 x y hx hy
theorem zlh (nr:List (List Nat))(m:List Int){n:Nat}(F:FD){cls bet:Nat→Nat}(U:Uf n F.up F.bs cls bet){v:Nat}(hv:v<n):
    zo Try.prog [[1,0]] gB [.ptr 0 0,.sc (.int .i64 (v:Int))] [some (F.obj nr m)] fun r h'=>r= .sc (.int .i64 (bet v:Int))∧∃up',up'.length=n∧Uf n up' F.bs cls bet∧h'=[some (({F with up:=up'}:FD).obj nr m)]:=by
  obtain⟨hbl,rep,h,U1,U2,U3⟩:=U
  refine(zdT nr m F U1 hbl hv).mono ?_
  rintro r h' ⟨rfl,up',U',rfl⟩
  exact⟨by rw[U2 v hv],up',U'.len,⟨hbl,rep,h,U',U2,U3⟩,rfl⟩
structure ShP (n:Nat)(m:List Int)(S:FS)(zs:List Nat):Prop where
 nd:zs.Nodup
 st:∀x∈zs,x<n∧S.out x=true∧S.bs x=x∧∃y:Nat,mf m x=(y:Int)∧y<n∧S.lab y=2∧S.out y=false∧S.out (S.pr y)=true∧S.pr y<n∧∀u,u<n→(S.bs u=y↔u=y)
 sy:∀v w:Nat,mf m v=(w:Int)→mf m w=(v:Int)
theorem Kq (mt:Nat→Int)(xs ys:List Nat)(u:Nat):j0 mt (xs++ys) u=(j0 mt xs u||j0 mt ys u):=by simp[j0]
theorem Kp {mt:Nat→Int}{x y:Nat}(h:mt x=(y:Int))(u:Nat):j0 mt [x] u=decide (u=y):=by
 unfold j0
 simp only[List.any_cons,List.any_nil,Bool.or_false]
 by_cases e:u=y
 · subst e;rw[decide_eq_true h,decide_eq_true rfl]
 · rw[decide_eq_false (by omega),decide_eq_false e]
theorem ShP.not {n:Nat}{m:List Int}{S:FS}{zs:List Nat}(P:ShP n m S zs){dn:List Nat}(hd:∀x∈dn,x∈zs){u:Nat}(hu:S.out u=true):j0 (mf m) dn u=false:=by
 rw[Bool.eq_false_iff];intro h
 obtain⟨x,hx,h⟩:=Z0.1 h
 obtain⟨_,_,_,y,h1,_,_,h2,_⟩:=P.st x (hd x hx)
 obtain rfl:y=u:=by omega
 rw[hu] at h2;cases h2
theorem Rc.step {n:Nat}{m:List Int}{S:FS}{F:FD}{zs dn rest:List Nat}{v w cur nxt y:Nat}(P:ShP n m S zs)(hz:zs=dn++cur::rest)(R:Rc n m (shr (mf m) S v w cur dn) F)(hy:mf m cur=(y:Int))(hv:v<n)(hw:w<n)(e:Int):
    Rc n m (shr (mf m) S v w nxt (dn++[cur])) {F with out:=F.out.set y true,ev:=F.ev.set y e,br:=F.br.set y ((v:Int),(w:Int)),wt:=F.wt++[y]}:=by
  obtain⟨s1,s2,s3,s4,s5,s6,s7,s8,s9,s10,s11⟩:=R.sz
  obtain⟨c1,c2,c3,y',c4,c5,c6,c7,c8,c9,c10⟩:=P.st cur (by rw[hz];simp)
  obtain rfl:y'=y:=by omega
  have ho:∀u,(S.out u||j0 (mf m) (dn++[cur]) u)=((S.out u||j0 (mf m) dn u)||decide (u=y')):=fun u=>by
    rw[Kq,Kp hy,Bool.or_assoc]
  have hyd:j0 (mf m) dn y'=false:=by
    rw[Bool.eq_false_iff];intro h
    obtain⟨x,hx,h⟩:=Z0.1 h
    have:=P.sy x y' h
    have:=P.sy cur y' hy
    obtain rfl:x=cur:=by omega
    have:=P.nd
    rw[hz] at this
    exact(List.nodup_append.1 this).2.2 x hx x (by simp) rfl
  refine⟨⟨s1,by simp[s2],by simp[s3],s4,s5,s6,by simp[s7],s8,s9,s10,s11⟩,R.ml,R.lab,fun u hu=>?_,R.pr,R.rt,R.rb,fun u hu h2 h3=>?_,R.gone,R.mr,fun x hx=>?_,?_⟩
  · show(F.out.set y' true).getD u false=(S.out u||j0 (mf m) (dn++[cur]) u)
    have h1:F.out.getD u false=(S.out u||j0 (mf m) dn u):=R.out u hu
    rw[ho,Vq _ _ _ (by omega),h1]
    by_cases e:y'=u
    · subst e;simp
    · rw[decide_eq_false e,decide_eq_false (Ne.symm e)];simp
  · show(F.br.set y' ((v:Int),(w:Int))).getD u (0,0)=(((if j0 (mf m) (dn++[cur]) u=true then v else S.b0 u:Nat):Int),((if j0 (mf m) (dn++[cur]) u=true then w else S.b1 u:Nat):Int))
    rw[Kq,Kp hy]
    by_cases e:u=y'
    · subst e
      have hl:u<F.br.length:=by omega
      simp[hl]
    · have h3:(S.out u||j0 (mf m) (dn++[cur]) u)=true:=h3
      rw[ho,decide_eq_false e,Bool.or_false] at h3
      have h4:=R.br u hu h2 h3
      have h5:(F.br.set y' ((v:Int),(w:Int))).getD u (0,0)=F.br.getD u (0,0):=by simp[List.getElem?_set,Ne.symm e]
      rw[h5,decide_eq_false e,Bool.or_false,h4]
      rfl
  · show x<n∧(S.out x||j0 (mf m) (dn++[cur]) x)=true
    rw[ho]
    have hx:x∈F.wt++[y']:=hx
    rcases List.mem_append.1 hx with hx|hx
    · obtain⟨h1,h2⟩:=R.wt x hx
      have h2:(S.out x||j0 (mf m) dn x)=true:=h2
      exact⟨h1,by rw[h2,Bool.true_or]⟩
    · obtain rfl:x=y':=by simpa using hx
      exact⟨c5,by simp⟩
  · show(F.wt++[y']).Nodup
    refine List.nodup_append.2 ⟨R.wn,by simp,fun x hx z hz2 e=>?_⟩
    obtain rfl:z=y':=by simpa using hz2
    subst e
    have h2:(S.out x||j0 (mf m) dn x)=true:=(R.wt x hx).2
    rw[c7,hyd] at h2;cases h2
theorem Uf.step {n:Nat}{m:List Int}{S:FS}{zs dn rest:List Nat}{v w b cur nxt y:Nat}{up bs:List Int}(P:ShP n m S zs)(hz:zs=dn++cur::rest)(hy:mf m cur=(y:Int))(hn:S.bs (S.pr y)=nxt)(hnc:nxt≠cur)(hnd:nxt∉dn)
    (U:Uf n up bs (fun u=>if(fun u=>if(shr (mf m) S v w cur dn).bs u=(shr (mf m) S v w cur dn).bs cur then(shr (mf m) S v w cur dn).bs y else(shr (mf m) S v w cur dn).bs u) u=(fun u=>if(shr (mf m) S v w cur dn).bs u=(shr (mf m) S v w cur dn).bs cur then(shr (mf m) S v w cur dn).bs y else(shr (mf m) S v w cur dn).bs u) y then(fun u=>if(shr (mf m) S v w cur dn).bs u=(shr (mf m) S v w cur dn).bs cur then(shr (mf m) S v w cur dn).bs y else(shr (mf m) S v w cur dn).bs u) (S.pr y) else(fun u=>if(shr (mf m) S v w cur dn).bs u=(shr (mf m) S v w cur dn).bs cur then(shr (mf m) S v w cur dn).bs y else(shr (mf m) S v w cur dn).bs u) u)
      (fun u=>if(fun u=>if(shr (mf m) S v w cur dn).bs u=(shr (mf m) S v w cur dn).bs cur then(shr (mf m) S v w cur dn).bs y else(shr (mf m) S v w cur dn).bs u) u=(fun u=>if(shr (mf m) S v w cur dn).bs u=(shr (mf m) S v w cur dn).bs cur then(shr (mf m) S v w cur dn).bs y else(shr (mf m) S v w cur dn).bs u) y∨(fun u=>if(shr (mf m) S v w cur dn).bs u=(shr (mf m) S v w cur dn).bs cur then(shr (mf m) S v w cur dn).bs y else(shr (mf m) S v w cur dn).bs u) u=(fun u=>if(shr (mf m) S v w cur dn).bs u=(shr (mf m) S v w cur dn).bs cur then(shr (mf m) S v w cur dn).bs y else(shr (mf m) S v w cur dn).bs u) (S.pr y) then b else(fun u=>if(shr (mf m) S v w cur dn).bs u=(shr (mf m) S v w cur dn).bs cur∨(shr (mf m) S v w cur dn).bs u=(shr (mf m) S v w cur dn).bs y then b else(fun u=>if dn≠ []∧(shr (mf m) S v w cur dn).bs u=cur then b else(shr (mf m) S v w cur dn).bs u) u) u)):
    Uf n up bs (shr (mf m) S v w nxt (dn++[cur])).bs (fun u=>if dn++[cur]≠ []∧(shr (mf m) S v w nxt (dn++[cur])).bs u=nxt then b else(shr (mf m) S v w nxt (dn++[cur])).bs u):=by
  obtain⟨c1,c2,c3,y',c4,c5,c6,c7,c8,c9,c10⟩:=P.st cur (by rw[hz];simp)
  obtain rfl:y'=y:=by omega
  have hdz:∀x∈dn,x∈zs:=fun x hx=>by rw[hz];simp[hx]
  have hcd:cur∉dn:=fun h=>by
    have:=P.nd
    rw[hz] at this
    exact(List.nodup_append.1 this).2.2 cur h cur (by simp) rfl
  have hyd:j0 (mf m) dn y'=false:=by
    rw[Bool.eq_false_iff];intro h
    obtain⟨x,hx,h⟩:=Z0.1 h
    have:=P.sy x y' h
    have:=P.sy cur y' hy
    obtain rfl:x=cur:=by omega
    exact hcd hx
  have hbY:S.bs y'=y':=(c10 y' c5).2 rfl
  have hydn:y' ∉dn:=fun h=>by have:=(P.st y' (hdz _ h)).2.1;rw[c7] at this;cases this
  have e1:∀u,(shr (mf m) S v w cur dn).bs u=if S.bs u∈dn∨j0 (mf m) dn u=true then cur else S.bs u:=fun u=>by
    show(if(decide (S.bs u∈dn)||j0 (mf m) dn u)=true then cur else S.bs u)=_
    by_cases h:S.bs u∈dn∨j0 (mf m) dn u=true
    · rw[if_pos h,if_pos (by simpa using h)]
    · rw[if_neg h,if_neg (by simpa using h)]
  have e2:∀u,(shr (mf m) S v w nxt (dn++[cur])).bs u=if S.bs u∈dn∨j0 (mf m) dn u=true∨S.bs u=cur∨u=y' then nxt else S.bs u:=fun u=>by
    show(if(decide (S.bs u∈dn++[cur])||j0 (mf m) (dn++[cur]) u)=true then nxt else S.bs u)=_
    rw[Kq,Kp hy]
    by_cases h:S.bs u∈dn∨j0 (mf m) dn u=true∨S.bs u=cur∨u=y'
    · rw[if_pos h,if_pos]
      rcases h with h|h|h|h<;>simp[h]
    · rw[if_neg h,if_neg]
      simp only[not_or] at h
      obtain⟨h1,h2,h3,h4⟩:=h
      simp[h1,h2,h3,h4]
  have k1:(shr (mf m) S v w cur dn).bs cur=cur:=by
    rw[e1,c3,if_neg];rintro(h|h)
    · exact hcd h
    · rw[P.not hdz c2] at h;cases h
  have k2:(shr (mf m) S v w cur dn).bs y'=y':=by
    rw[e1,hbY,if_neg];rintro(h|h)
    · exact hydn h
    · rw[hyd] at h;cases h
  have k3:(shr (mf m) S v w cur dn).bs (S.pr y')=nxt:=by
    rw[e1,hn,if_neg];rintro(h|h)
    · exact hnd h
    · rw[P.not hdz c8] at h;cases h
  have hyc:y'≠cur:=fun e=>by rw[e,c2] at c7;cases c7
  have hyn:y'≠nxt:=fun e=>by
    have h:=(c10 (S.pr y') c9).1 (hn.trans e.symm)
    rw[h] at c8
    rw[c7] at c8;cases c8
  simp only[k1,k2,k3] at U
  rw[if_neg (Ne.symm hyc|>fun h=>h.symm),if_neg hnc] at U
  have q1 :∀u,u<n→(if(if(shr (mf m) S v w cur dn).bs u=cur then y' else(shr (mf m) S v w cur dn).bs u)=y' then nxt else if(shr (mf m) S v w cur dn).bs u=cur then y' else(shr (mf m) S v w cur dn).bs u)=(shr (mf m) S v w nxt (dn++[cur])).bs u:=fun u hu=>by
    rw[e2]
    by_cases h:(shr (mf m) S v w cur dn).bs u=cur
    · rw[if_pos h,if_pos rfl]
      rw[e1] at h
      by_cases h2:S.bs u∈dn∨j0 (mf m) dn u=true
      · rw[if_pos];rcases h2 with h2|h2
        · exact .inl h2
        · exact .inr (.inl h2)
      · rw[if_neg h2] at h;rw[if_pos (.inr (.inr (.inl h)))]
    · rw[if_neg h]
      rw[e1] at h⊢
      by_cases h2:S.bs u∈dn∨j0 (mf m) dn u=true
      · rw[if_pos h2] at h;exact absurd rfl h
      · rw[if_neg h2] at h⊢
        rw[not_or] at h2
        by_cases h3:S.bs u=y'
        · rw[if_pos h3,if_pos (.inr (.inr (.inr ((c10 u hu).1 h3))))]
        · rw[if_neg h3,if_neg]
          rintro(h4|h4|h4|h4)
          · exact h2.1 h4
          · exact h2.2 h4
          · exact h h4
          · exact h3 ((c10 u hu).2 h4)
  obtain⟨U0,rep,h,U1,U2,U3⟩:=U
  refine⟨U0,rep,h,U1,fun u hu=>?_,fun u x hu hx=>?_⟩
  · have h2:=U2 u hu
    simp only at h2
    rw[h2]
    show _=(((if dn++[cur]≠ []∧(shr (mf m) S v w nxt (dn++[cur])).bs u=nxt then b else(shr (mf m) S v w nxt (dn++[cur])).bs u:Nat)):Int)
    rw[←q1 u hu]
    generalize (shr (mf m) S v w cur dn).bs u=c
    have hne:dn++[cur]≠ []:=by simp
    by_cases a1:c=cur
    · subst a1;simp
    · by_cases a2:c=y'
      · subst a2;simp[a1]
      · by_cases a3:c=nxt
        · subst a3;simp[a1,a2]
        · simp[a1,a2,a3]
  · rw[U3 u x hu hx]
    show(if(if(shr (mf m) S v w cur dn).bs u=cur then y' else(shr (mf m) S v w cur dn).bs u)=y' then nxt else if(shr (mf m) S v w cur dn).bs u=cur then y' else(shr (mf m) S v w cur dn).bs u)=(if(if(shr (mf m) S v w cur dn).bs x=cur then y' else(shr (mf m) S v w cur dn).bs x)=y' then nxt else if(shr (mf m) S v w cur dn).bs x=cur then y' else(shr (mf m) S v w cur dn).bs x)↔_
    rw[q1 u hu,q1 x hx]
theorem zew (nr:List (List Nat))(m:List Int){n:Nat}(F:FD)(S:F.Sz n){v:Nat}(hv:v<n)(hl:F.lab.getD v 0≠0)(e l:Int)(hw:F.wt.length≤1000000):
    zo Try.prog [] zgq [.ptr 0 0,.sc (.int .i64 (v:Int)),.sc (.int .i64 e),.sc (.int .i64 l)] [some (F.obj nr m)] fun r h'=>r= .tup []∧h'=[some (({F with out:=F.out.set v true,ev:=F.ev.set v e,wt:=F.wt++[v]}:FD).obj nr m)]:=by
  refine(Xu nr m F S hv e l hw).mono ?_
  rintro r h' ⟨rfl,rfl⟩
  refine⟨rfl,?_⟩
  unfold FD.raise
  rw[if_neg hl]
def KK (m:List Int)(xs:List Nat):List Nat:=xs.map fun x=>(mf m x).toNat
theorem zde (mt:Nat→Int)(S:FS)(v w b:Nat):shr mt S v w b []=S:=by
 have h:∀u,j0 mt [] u=false:=fun u=>rfl
 unfold shr
 simp[h]
theorem vK (nr:List (List Nat)){n:Nat}{m:List Int}{S:FS}{F:FD}(hn:n≤4096)(R:Rp n m S F){v w b:Nat}{xs:List Nat}(P:ShP n m S xs)(hc:Zx (mf m) S (S.bs v) b xs)(hbn:b<n)(hbx:b∉xs)(hbb:S.bs b=b)(hv:v<n)(hw:w<n):
    zo Try.prog [] zjg [.ptr 0 0,.sc (.int .i64 (v:Int)),.sc (.int .i64 (w:Int)),.sc (.int .i64 (b:Int))] [some (F.obj nr m)] fun r h'=>r= .tup []∧∃F':FD,Rp n m (shr (mf m) S v w b xs) F'∧F'.wt=F.wt++KK m xs∧F'.tn=F.tn∧h'=[some (F'.obj nr m)]:=by
  have hB:=Q7 nr R hv
  have hml:=R.ml
  obtain⟨a,ha⟩:∃a,Unit→IntKind.i64.wrap (IntKind.i64.wrap (F.ev.getD v 0+F.ev.getD w 0)+1)=a:=⟨_,fun _=>rfl⟩
  have hel:=R.sz.ev
  have hpl:=R.sz.pr
  have hol:=R.sz.od
  unfold FD.obj FD.upd at hB
  unfold FD.obj
  refine zlF rfl ?_
  unfold zkd jU
  refine zw fun KY hKY=>?_
  simp only[go_sem,GC,zg (show v<F.ev.length by omega),zg (show w<F.ev.length by omega),zj,hel,hv,hw,ha ()]
  apply hKY
  refine za fun KY hKY=>?_
  simp only[go_sem,GB]
  apply zr [] [0] false none rfl
  iterate 8 (first|(simp only[go_sem,zt]<;>rfl)|rfl)
  refine(hB.less (by simp)).mono ?_
  rintro _ _ ⟨rfl,up1,R1,rfl⟩
  refine⟨Nat.le_of_ble_eq_true rfl,(fun hh=>by cases hh),?_⟩
  simp only[go_sem,zq,zb.after]
  apply hKY
  obtain⟨Q0,U0⟩:=R1.rc
  simp only at Q0 U0
  refine zp fun X1 hn1 he1 hf1 hr1=>?_
  try simp only[go_sem]
  refine zP (α:=List Nat×Nat×List Nat×List Bool×List Int×List (Int×Int)×List Int×List Int×List Nat) [10,11,33,48] (fun(dn,cur,rest,out',ev',br',up',bs',wt')=>[(9,.sc (.int .i64 (cur:Int)))]) (fun(dn,cur,rest,out',ev',br',up',bs',wt')=>[some [.imm 1 (Zv nr),.imm 1 (zl m),.own (some 1) (zl F.lab),.own (some 1) (Zd out'),.own (some 1) (zl ev'),.own (some 1) (zl F.od),.own (some 1) (zl F.pr),.own (some 1) (zl F.rt),.own (some 2) (zY br'),.own (some 1) (Zd F.gone),.own (some 1) (zl up'),.own (some 1) (zl bs'),.own (some 1) (zl F.mr),.sc (.int .i64 F.tn),.own (some 1) (zJ wt'),.sc (.int .i64 F.lk)]]) (fun(dn,cur,rest,out',ev',br',up',bs',wt') q=>xs=dn++rest∧Zx (mf m) S cur b rest∧Rc n m (shr (mf m) S v w cur dn) ⟨F.lab,out',ev',F.od,F.pr,F.rt,br',F.gone,up',bs',F.mr,F.tn,wt',F.lk⟩∧Uf n up' bs' (shr (mf m) S v w cur dn).bs (fun u=>if dn≠ []∧(shr (mf m) S v w cur dn).bs u=cur then b else(shr (mf m) S v w cur dn).bs u)∧wt'=F.wt++KK m dn∧q=rest.length) (([],S.bs v,xs,F.out,F.ev,F.br,up1,F.bs,F.wt)) (xs.length) rfl (by first|(simp only[go_sem,zd,ze];done)|with_reducible rfl|rfl) (⟨rfl,hc,by rw[zde];exact Q0,by rw[zde];simpa using U0,by simp[KK],rfl⟩) ?_
  rintro⟨dn,cur,rest,out',ev',br',up',bs',wt'⟩ q ⟨hx,hch,Q,U,hwt,rfl⟩ X2 hn2 he2 hr2
  simp only[go_sem,zd,ze]
  cases hch with
  | here=>
    have hd0:decide ((b:Int)≠(b:Int))=false:=by simp
    refine zf fun X3 hn3 he3 hr3=>?_
    refine za fun KY hKY=>?_
    simp only[go_sem,uC,hd0]
    apply hKY
    refine Zr ?_
    refine zy ?_
    repeat (first|refine hn3 _ ?_|refine he3 _ _ ?_|refine he2 _ _ ?_|refine hn1 _ ?_|refine he1 _ ?_|refine hf1 _ _ (by decide) ?_)
    rw[List.append_nil] at hx
    subst hx
    simp only[go_sem]
    refine⟨_,Q.rp ?_,hwt,rfl,rfl⟩
    have e:∀c:Nat,(if xs≠ []∧c=b then b else c)=c:=fun c=>by
      split
      · rename_i h;exact h.2.symm
      · rfl
    simpa only[e] using U
  | @up _ y _ rest' hne hy hch'=>
    obtain⟨c1,c2,c3,y',c4,c5,c6,c7,c8,c9,c10⟩:=P.st cur (by rw[hx];simp)
    obtain rfl:y'=y:=by omega
    obtain⟨nxt,hnx⟩:∃nxt,nxt=S.bs (S.pr y'):=⟨_,rfl⟩
    rw[←hnx] at hch'
    have hnd:=P.nd
    rw[hx] at hnd
    have hnx2:nxt≠cur∧nxt∉dn:=by
      cases hch' with
      |here=>exact⟨fun e=>hbx (by rw[hx,e];simp),fun h=>hbx (by rw[hx];simp[h])⟩
      | @up _ _ _ r2 _ _ _=>
        refine⟨fun e=>?_,fun h=>?_⟩
        · subst e
          have:=(List.nodup_cons.1 (List.nodup_append.1 hnd).2.1).1
          exact this (by simp)
        · exact(List.nodup_append.1 hnd).2.2 nxt h nxt (by simp) rfl
    have hdz:∀x∈dn,x∈xs:=fun x h=>by rw[hx];simp[h]
    have hd0:decide ((cur:Int)≠(b:Int))=true:=decide_eq_true (by omega)
    have hgm:(zl m)[cur]?=some (.sc (.int .i64 (y':Int))):=by rw[JK (by omega),hy]
    have hyd:j0 (mf m) dn y'=false:=by
      rw[Bool.eq_false_iff];intro h
      obtain⟨x,hx2,h⟩:=Z0.1 h
      have:=P.sy x y' h
      have:=P.sy cur y' hy
      obtain rfl:x=cur:=by omega
      exact(List.nodup_append.1 hnd).2.2 x hx2 x (by simp) rfl
    have hoy:(Zd out')[y']?=some (.sc (.bool false)):=by
      have h:=Q.out y' c5
      simp only at h
      rw[Jn (by have:=Q.sz.out;simp only at this;omega),h]
      show some (zc.sc (.bool (S.out y'||j0 (mf m) dn y')))=_
      rw[c7,hyd];rfl
    have hout:out'.length=n:=Q.sz.out
    have hbrl:br'.length=n:=Q.sz.br
    have hupl:up'.length=n:=Q.sz.up
    have hbsl:bs'.length=n:=Q.sz.bs
    have hwl:=Q.wl
    simp only at hwl
    obtain⟨e,he⟩:∃e,Unit→IntKind.i64.wrap (a - F.od.getD y' 0)=e:=⟨_,fun _=>rfl⟩
    have Q1:=Rc.step (nxt:=nxt) P hx Q hy hv hw e
    simp only at Q1
    obtain⟨z1,z2,z3,z4,z5,z6,z7,z8,z9,z10,z11⟩:=Q.sz
    simp only at z1 z2 z3 z4 z5 z6 z7 z8 z9 z10 z11
    have hly:F.lab.getD y' 0≠0:=fun h=>by
      have:=R.lab y' c5
      rw[c6,h] at this
      exact absurd this (by decide)
    have hw10:wt'.length≤1000000:=Nat.le_trans hwl (Nat.le_trans hn (by decide))
    have hrs:=zew nr m ⟨F.lab,out',ev',F.od,F.pr,F.rt,br'.set y' ((v:Int),(w:Int)),F.gone,up',bs',F.mr,F.tn,wt',F.lk⟩ (n:=n) ⟨z1,z2,z3,z4,z5,z6,by simp[hbrl],z8,z9,z10,z11⟩ c5 hly e 2 hw10
    have hk3:(shr (mf m) S v w cur dn).bs (S.pr y')=nxt:=by
      show(if(decide (S.bs (S.pr y')∈dn)||j0 (mf m) dn (S.pr y'))=true then cur else S.bs (S.pr y'))=nxt
      rw[←hnx,P.not hdz c8,decide_eq_false hnx2.2];rfl
    have hbt:(if dn≠ []∧(shr (mf m) S v w cur dn).bs (S.pr y')=cur then b else(shr (mf m) S v w cur dn).bs (S.pr y'))=nxt:=by
      rw[hk3,if_neg (fun h=>hnx2.1 h.2)]
    have hB2:=zlh nr m ⟨F.lab,out'.set y' true,ev'.set y' e,F.od,F.pr,F.rt,br'.set y' ((v:Int),(w:Int)),F.gone,up',bs',F.mr,F.tn,wt'++[y'],F.lk⟩ U c9
    simp only[hbt] at hB2
    have hU1:=fun up2 (U2:Uf n up2 bs' (shr (mf m) S v w cur dn).bs (fun u=>if dn≠ []∧(shr (mf m) S v w cur dn).bs u=cur then b else(shr (mf m) S v w cur dn).bs u))=>zi8 nr m ⟨F.lab,out'.set y' true,ev'.set y' e,F.od,F.pr,F.rt,br'.set y' ((v:Int),(w:Int)),F.gone,up2,bs',F.mr,F.tn,wt'++[y'],F.lk⟩ U2 c1 c5 b
    have hU2:=fun up3 bs3 cls bet (U3:Uf n up3 bs3 cls bet)=>zi8 nr m ⟨F.lab,out'.set y' true,ev'.set y' e,F.od,F.pr,F.rt,br'.set y' ((v:Int),(w:Int)),F.gone,up3,bs3,F.mr,F.tn,wt'++[y'],F.lk⟩ U3 c5 c9 b
    unfold FD.obj at hrs hB2 hU1 hU2
    simp only at hrs hB2 hU1 hU2
    have hog:(zl F.od)[y']?=some (.sc (.int .i64 (F.od.getD y' 0))):=zg (by omega)
    have hpg:(zl F.pr)[y']?=some (.sc (.int .i64 (S.pr y':Int))):=by rw[zg (by omega),R.pr y' c5 c6]
    refine zf fun X4 hn4 he4 hr4=>?_
    refine za fun KY hKY=>?_
    simp only[go_sem,uC,hd0]
    apply hKY
    refine Zw ?_
    refine zh ?_
    repeat (first|refine hn4 _ ?_|refine he4 _ _ ?_|refine he2 _ _ ?_|refine hn1 _ ?_|refine he1 _ ?_|refine hf1 _ _ (by decide) ?_)
    refine zp fun X5 hn5 he5 hf5 hr5=>?_
    refine za fun KY hKY=>?_
    simp only[go_sem,GA,hgm,zj,hml,c1]
    apply hKY
    refine zf fun X6 hn6 he6 hr6=>?_
    refine za fun KY hKY=>?_
    simp only[go_sem,Gz,hoy,Zy,hout,c5]
    apply hKY
    refine Zw ?_
    refine za fun KY hKY=>?_
    simp only[go_sem,Gy,zh2 (show y'<br'.length by omega),ZI,hbrl,c5,(show y'*2+1<n*2 by omega),(show 1<n*2 - y'*2 by omega),List.length_drop]
    apply hKY
    refine zn fun KY hKY=>?_
    simp only[go_sem,Gx,hog,zj,hol,c5,he ()]
    apply zr [] [0] false none rfl
    iterate 8 (first|(simp only[go_sem,zt]<;>rfl)|rfl)
    refine(hrs).mono ?_
    rintro _ _ ⟨rfl,rfl⟩
    refine⟨Nat.le_of_ble_eq_true rfl,(fun hh=>by cases hh),?_⟩
    simp only[go_sem,zq,zb.after]
    apply hKY
    repeat (first|refine hn6 _ ?_|refine he6 _ _ ?_|refine hn5 _ ?_|refine he5 _ ?_|refine hf5 _ _ (by decide) ?_|refine hn4 _ ?_|refine he4 _ _ ?_|refine he2 _ _ ?_|refine hn1 _ ?_|refine he1 _ ?_|refine hf1 _ _ (by decide) ?_)
    refine za fun KY hKY=>?_
    simp only[go_sem,Gw,hpg,zj,hpl,c5]
    apply zr [] [0] false none rfl
    iterate 8 (first|(simp only[go_sem,zt]<;>rfl)|rfl)
    refine(hB2.less (by simp)).mono ?_
    rintro _ _ ⟨rfl,up2,_,U2,rfl⟩
    refine⟨Nat.le_of_ble_eq_true rfl,(fun hh=>by cases hh),?_⟩
    simp only[go_sem,zq,zb.after]
    apply hKY
    refine za fun KY hKY=>?_
    simp only[go_sem,Gv]
    apply zr [] [0] false none rfl
    iterate 8 (first|(simp only[go_sem,zt]<;>rfl)|rfl)
    refine(hU1 up2 U2).mono ?_
    rintro _ _ ⟨rfl,up3,bs3,_,U3,rfl⟩
    refine⟨Nat.le_of_ble_eq_true rfl,(fun hh=>by cases hh),?_⟩
    simp only[go_sem,zq,zb.after]
    apply hKY
    refine za fun KY hKY=>?_
    simp only[go_sem,Gu,hpg,zj,hpl,c5]
    apply zr [] [0] false none rfl
    iterate 8 (first|(simp only[go_sem,zt]<;>rfl)|rfl)
    refine(hU2 up3 bs3 _ _ U3).mono ?_
    rintro _ _ ⟨rfl,up4,bs4,hl4,U4,rfl⟩
    refine⟨Nat.le_of_ble_eq_true rfl,(fun hh=>by cases hh),?_⟩
    simp only[go_sem,zq,zb.after]
    apply hKY
    have hrl:(cur::rest').length=rest'.length+1:=rfl
    refine zn fun KY hKY=>?_
    simp only[go_sem,VC]
    apply hKY
    repeat (first|refine hn6 _ ?_|refine he6 _ _ ?_|refine hn5 _ ?_|refine he5 _ ?_|refine hf5 _ _ (by decide) ?_|refine hn4 _ ?_|refine he4 _ _ ?_)
    refine hn2 _ ((dn++[cur],nxt,rest',out'.set y' true,ev'.set y' e,br'.set y' ((v:Int),(w:Int)),up4,bs4,wt'++[y'])) (rest'.length) (by omega) (by first|(simp only[go_sem,zd,ze];done)|with_reducible rfl|rfl) ?_
    exact⟨by rw[hx];simp,hch',Q1.ups hl4 U4.1,Uf.step P hx hy hnx.symm hnx2.1 hnx2.2 U4,by rw[hwt];simp[KK,hy],rfl⟩
theorem uz {mt:Nat→Int}{S:FS}{c to:Nat}{xs:List Nat}(h:Zx mt S c to xs)(hx:xs=[]):c=to:=by
 cases h with
 |here=>rfl
 |up _ _ _=>cases hx
theorem Gc {mt:Nat→Int}{S:FS}{c to:Nat}{xs:List Nat}(h:Zx mt S c to xs):∀x∈xs,∃y:Nat,mt x=(y:Int):=by
 induction h with
 |here b=>intro x hx;simp at hx
 | up hne hm hch ih=>
   intro x hx
   rcases List.mem_cons.1 hx with rfl|hx
   · exact⟨_,hm⟩
   · exact ih x hx
theorem Gb {N:Nat}{E:Nat→Nat→Prop}{mt:Nat→Int}{S:FS}(M:Mf N E mt)(I:J2 N E mt S){d:Nat→Nat}(hd:∀b m:Nat,S.out b=true→S.bs b=b→mt b=(m:Int)→d (S.bs (S.pr m))<d b){c to:Nat}{xs:List Nat}(h:Zx mt S c to xs):S.out c=true→S.bs c=c→xs.Nodup:=by
 induction h with
 |here b=>intro _ _;simp
 | @up x m to xs hne hm hch ih=>
   intro h1 h2
   rcases I.base M h1 h2 with⟨h3,_⟩|⟨m',h3,h4,h5,h6,h7,h8,h9⟩
   · omega
   · obtain rfl:m'=m:=by omega
     obtain⟨k1,k2,k3,k4⟩:=I.bo _ h6
     obtain⟨_,j4⟩:=Zt M I hd hch k1 k3
     have hdx:=hd x m' h1 h2 hm
     exact List.nodup_cons.2 ⟨fun h=>by have:=(j4 x h).2.1;omega,ih k1 k3⟩
theorem Yn {n:Nat}{E:Nat→Nat→Prop}{m:List Int}{S:FS}(M:Mf n E (mf m))(I:J2 n E (mf m) S){v b:Nat}{xs:List Nat}(hv:S.out v=true)(hX:Zx (mf m) S (S.bs v) b xs):ShP n m S xs∧b∉xs∧b<n∧S.bs b=b∧S.out b=true:=by
 obtain⟨d,hd⟩:=I.dp
 obtain⟨v1,v2,v3,v4⟩:=I.bo v hv
 obtain⟨⟨b1,b2,b3⟩,fX⟩:=Zt M I hd hX v1 v3
 refine⟨⟨Gb M I hd hX v1 v3,fun x hx=>?_,M.sy⟩,fun h=>by have:=(fX b h).1;omega,(I.o1 b b1).1,b2,b1⟩
 obtain⟨_,_,x1,x2,x3⟩:=fX x hx
 obtain⟨y,hy⟩:=Gc hX x hx
 rcases I.base M x1 x2 with⟨h3,_⟩|⟨m',h3,h4,h5,h6,h7,h8,h9⟩
 · omega
 · obtain rfl:m'=y:=by omega
   refine⟨(I.o1 x x1).1,x1,x2,m',hy,(I.od _ h4).1,h4,h5,h6,(I.o1 _ h6).1,fun u hu=>⟨fun e=>?_,fun e=>?_⟩⟩
   · cases ho:S.out u with
     |true=>have:=(I.bo u ho).1;rw[e,h5] at this;cases this
     |false=>rw[←e,I.bn u ho]
   · subst e;exact I.bn _ h5
theorem zcQ {n:Nat}{E:Nat→Nat→Prop}{m:List Int}{S:FS}(M:Mf n E (mf m))(I:J2 n E (mf m) S){v w b:Nat}{xs ys:List Nat}(hv:S.out v=true)(hw:S.out w=true)(hX:Zx (mf m) S (S.bs v) b xs)(hY:Zx (mf m) S (S.bs w) b ys)(hdj:∀x∈xs,x∉ys):
    let T:=shr (mf m) S v w b xs
    ShP n m T ys∧Zx (mf m) T (T.bs w) b ys∧T.bs b=b:=by
  intro T
  obtain⟨PX,hbX,hbn,hbb,hbo⟩:=Yn M I hv hX
  obtain⟨PY,hbY,_,_,_⟩:=Yn M I hw hY
  have tb:∀u,S.out u=true→S.bs u∉xs→T.bs u=S.bs u:=fun u h1 h2=>by
    show(if(decide (S.bs u∈xs)||j0 (mf m) xs u)=true then b else S.bs u)=_
    rw[PX.not (fun _ h=>h) h1,decide_eq_false h2];rfl
  have hT:∀u,S.out u=true→T.out u=true:=fun u h=>by
    show(S.out u||j0 (mf m) xs u)=true
    rw[h];rfl
  refine⟨⟨PY.nd,fun x hx=>?_,M.sy⟩,?_,?_⟩
  · obtain⟨c1,c2,c3,y,c4,c5,c6,c7,c8,c9,c10⟩:=PY.st x hx
    have hxX:x∉xs:=fun h=>hdj x h hx
    have hyM:j0 (mf m) xs y=false:=by
      rw[Bool.eq_false_iff];intro h
      obtain⟨x',hx',h⟩:=Z0.1 h
      have:=M.sy x' y h
      have:=M.sy x y c4
      obtain rfl:x=x':=by omega
      exact hxX hx'
    have hyX:S.bs y∉xs:=fun h=>by
      rw[(c10 y c5).2 rfl] at h
      have:=(PX.st y h).2.1
      rw[c7] at this;cases this
    refine⟨c1,hT x c2,(tb x c2 (by rw[c3];exact hxX)).trans c3,y,c4,c5,c6,?_,hT _ c8,c9,fun u hu=>?_⟩
    · show(S.out y||j0 (mf m) xs y)=false
      rw[c7,hyM];rfl
    · show(if(decide (S.bs u∈xs)||j0 (mf m) xs u)=true then b else S.bs u)=y↔_
      constructor
      · intro h
        split at h
        · rw[h,c7] at hbo;cases hbo
        · exact(c10 u hu).1 h
      · intro h
        subst h
        rw[hyM,decide_eq_false hyX]
        exact(c10 u hu).2 rfl
  · have hTb:T.bs b=b:=by rw[tb b hbo (by rw[hbb];exact hbX),hbb]
    have main:∀(c:Nat) (zs:List Nat),Zx (mf m) S c b zs→(∀z∈zs,z∈ys)→Zx (mf m) T c b zs:=by
      intro c zs h
      generalize hto:b=to at h
      induction h with
      |here _=>intro _;exact .here _
      | @up x y to zs hne hm hch ih=>
        intro hz
        obtain⟨c1,c2,c3,y',c4,c5,c6,c7,c8,c9,c10⟩:=PY.st x (hz x (by simp))
        obtain rfl:y'=y:=by omega
        refine .up hne hm ?_
        have hb:S.bs (S.pr y')∉xs:=by
          cases hch with
          |here=>rw[←hto];exact hbX
          |up _ _ _=>exact fun h=>hdj _ h (hz _ (by simp))
        rw[show T.bs (T.pr y')=S.bs (S.pr y') from tb _ c8 hb]
        exact ih hto fun z h=>hz z (List.mem_cons_of_mem _ h)
    have hwb:T.bs w=S.bs w:=by
      refine tb w hw fun h=>?_
      cases hY with
      |here=>exact hbX h
      |up _ _ _=>exact hdj _ h (by simp)
    rw[hwb]
    exact main _ _ hY fun _ h=>h
  · rw[tb b hbo (by rw[hbb];exact hbX),hbb]
def qy (n:Nat)(S:FS):Nat:=((List.range n).filter fun u=> !S.out u).length
theorem gV (l:List Nat)(hl:l.Nodup)(f:Nat→Bool):∀us:List Nat,us.Nodup→(∀u∈us,u∈l∧f u=true)→(l.filter fun u=>f u&& !decide (u∈us)).length+us.length=(l.filter f).length:=by
 intro us
 induction us with
 |nil=>intro _ _;simp
 | cons a us ih=>
   intro hn h
   obtain⟨ha,hn⟩:=List.nodup_cons.1 hn
   have h1:=ih hn fun u hu=>h u (List.mem_cons_of_mem _ hu)
   have h2:(l.filter fun u=>f u&& !decide (u∈us)).length=(l.filter fun u=>f u&& !decide (u∈a::us)).length+1:=by
    obtain⟨hal,hfa⟩:=h a (by simp)
    obtain⟨l1,l2,rfl⟩:=List.append_of_mem hal
    have hn2:=List.nodup_append.1 hl
    have n1:a∉l1:=fun h=>hn2.2.2 a h a (by simp) rfl
    have n2:a∉l2:=(List.nodup_cons.1 hn2.2.1).1
    have e:∀l3:List Nat,a∉l3→(l3.filter fun u=>f u&& !decide (u∈us))=l3.filter fun u=>f u&& !decide (u∈a::us):=fun l3 h3=>by
     refine List.filter_congr fun u hu=>?_
     have:u≠a:=fun e=>h3 (e▸hu)
     simp[this]
    have e1:(f a&& !decide (a∈us))=true:=by rw[hfa];simp[ha]
    have e2:¬(f a&& !decide (a∈a::us))=true:=by simp
    rw[List.filter_append,List.filter_append,List.filter_cons,List.filter_cons,if_pos e1,if_neg e2,e l1 n1,e l2 n2]
    simp only[List.length_append,List.length_cons];omega
   simp only[List.length_cons];omega
theorem v7 {n:Nat}{S T:FS}{us:List Nat}(hn:us.Nodup)(h1:∀u∈us,u<n∧S.out u=false)(h2:∀u,T.out u=true↔S.out u=true∨u∈us):qy n T+us.length=qy n S:=by
 have:=gV (List.range n) List.nodup_range (fun u=> !S.out u) us hn fun u hu=>⟨List.mem_range.2 (h1 u hu).1,by rw[(h1 u hu).2];rfl⟩
 unfold qy
 rw[←this]
 congr 2
 refine List.filter_congr fun u _=>?_
 cases ht:T.out u with
 | true=>
   rcases(h2 u).1 ht with h|h
   · rw[h];rfl
   · simp[h]
 | false=>
   have h3:S.out u=false:=by
    cases e:S.out u with
    |false=>rfl
    |true=>have:=(h2 u).2 (.inl e);rw[ht] at this;cases this
   have h4:u∉us:=fun e=>by have:=(h2 u).2 (.inr e);rw[ht] at this;cases this
   rw[h3];simp[h4]
theorem zdq (n:Nat)(S:FS):qy n S≤n:=by
 unfold qy
 exact Nat.le_trans (List.length_filter_le _ _) (by simp)
theorem zdw {n:Nat}{m:List Int}{S:FS}{zs:List Nat}(P:ShP n m S zs)(u:Nat):u∈KK m zs↔∃x∈zs,mf m x=(u:Int):=by
 unfold KK
 rw[List.mem_map]
 constructor
 · rintro⟨x,hx,rfl⟩
   obtain⟨_,_,_,y,h,_⟩:=P.st x hx
   exact⟨x,hx,by rw[h];rfl⟩
 · rintro⟨x,hx,h⟩
   exact⟨x,hx,by rw[h];rfl⟩
theorem zgG (nr:List (List Nat)){n:Nat}{E:Nat→Nat→Prop}{m:List Int}{S:FS}{F:FD}(M:Mf n E (mf m))(I:J2 n E (mf m) S)(R:Rp n m S F)(hn:n≤4096)(htn:0≤F.tn∧F.tn≤1000000000){v w:Nat}(hv:S.out v=true)(hw:S.out w=true)(hvw:E v w)(hne:S.bs v≠S.bs w)(hrt:S.rt v=S.rt w):
    zo Try.prog [] zgr [.ptr 0 0,.sc (.int .i64 (v:Int)),.sc (.int .i64 (w:Int))] [some (F.obj nr m)] fun r h'=>r= .sc (.slice none 0 0)∧∃(T:FS) (F':FD),J2 n E (mf m) T∧Rp n m T F'∧Stp S T F.wt F'.wt∧(∀u,S.out u=true→T.out u=true)∧T.bs v=T.bs w∧T.lab w≠0∧qy n T+F'.wt.length=qy n S+F.wt.length∧qy n T+1≤qy n S∧F'.tn=F.tn+1∧h'=[some (F'.obj nr m)]:=by
  have hml:=R.ml
  have hvn:=(I.o1 v hv).1
  have hwn:=(I.o1 w hw).1
  have hrl:=R.sz.rt
  have hgv:(zl F.rt)[v]?=some (.sc (.int .i64 (S.rt v))):=by rw[zg (by omega),R.rt v hvn]
  have hgw:(zl F.rt)[w]?=some (.sc (.int .i64 (S.rt w))):=by rw[zg (by omega),R.rt w hwn]
  have hd0:decide (S.rt v≠S.rt w)=false:=decide_eq_false (fun h=>h hrt)
  have B1:=Q7 nr R hvn
  have B2:=fun up' (R':Rp n m S (F.upd up' F.lk))=>Q7 nr R' hwn
  obtain⟨v1,v2,v3,v4⟩:=I.bo v hv
  obtain⟨w1,w2,w3,w4⟩:=I.bo w hw
  have hrt2:S.rt (S.bs v)=S.rt (S.bs w):=by rw[v4,w4,hrt]
  have Mt:=fun up' (R':Rp n m S ((F.upd up' F.lk).upd up' F.lk))=>ziy nr M I R' htn v1 v3 w1 w3 hrt2
  unfold FD.upd at B1 B2 Mt
  unfold FD.obj at B1 B2
  simp only at B1 B2
  have hO:∀G:FD,G.obj nr m=[.imm 1 (Zv nr),.imm 1 (zl m),.own (some 1) (zl G.lab),.own (some 1) (Zd G.out),.own (some 1) (zl G.ev),.own (some 1) (zl G.od),.own (some 1) (zl G.pr),.own (some 1) (zl G.rt),.own (some 2) (zY G.br),.own (some 1) (Zd G.gone),.own (some 1) (zl G.up),.own (some 1) (zl G.bs),.own (some 1) (zl G.mr),.sc (.int .i64 G.tn),.own (some 1) (zJ G.wt),.sc (.int .i64 G.lk)]:=fun _=>rfl
  rw[hO]
  refine zgX rfl ?_
  unfold zhi jV
  refine za fun KY hKY=>?_
  simp only[go_sem,uQ]
  apply hKY
  refine zf fun X1 hn1 he1 hr1=>?_
  refine zw fun KY hKY=>?_
  simp only[go_sem,uP,hgv,hgw,zj,hrl,hvn,hwn,hd0]
  apply hKY
  refine Zr ?_
  refine zh ?_
  repeat (first|refine hn1 _ ?_|refine he1 _ _ ?_)
  refine za fun KY hKY=>?_
  simp only[go_sem,pv]
  apply zr [] [0] false none rfl
  iterate 8 (first|(simp only[go_sem,zt]<;>rfl)|rfl)
  refine(B1.less (by simp)).mono ?_
  rintro _ _ ⟨rfl,up1,R1,rfl⟩
  refine⟨Nat.le_of_ble_eq_true rfl,(fun hh=>by cases hh),?_⟩
  simp only[go_sem,zq,zb.after]
  apply zr [] [0] false none rfl
  iterate 8 (first|(simp only[go_sem,zt]<;>rfl)|rfl)
  refine((B2 up1 R1).less (by simp)).mono ?_
  rintro _ _ ⟨rfl,up2,R2,rfl⟩
  refine⟨Nat.le_of_ble_eq_true rfl,(fun hh=>by cases hh),?_⟩
  simp only[go_sem,zq,zb.after]
  apply zr [] [0] false none rfl
  iterate 8 (first|(simp only[go_sem,zt]<;>rfl)|rfl)
  refine(Mt up2 R2).mono ?_
  rintro _ _ ⟨b,xs,ys,hX,hY,hdj,rfl,F1,R3,hw1,ht1,rfl⟩
  rw[hO]
  simp only at hw1 ht1
  obtain⟨PX,hbX,hbn,hbb,hbo⟩:=Yn M I hv hX
  obtain⟨PY,hbY,_,_,_⟩:=Yn M I hw hY
  obtain⟨PT,cT,bT⟩:=zcQ M I hv hw hX hY hdj
  have S1:=vK nr hn R3 PX hX hbn hbX hbb hvn hwn
  rw[hO] at S1
  refine⟨Nat.le_of_ble_eq_true rfl,(fun hh=>by cases hh),?_⟩
  simp only[go_sem,zq,zb.after]
  apply hKY
  refine za fun KY hKY=>?_
  simp only[go_sem,pu]
  apply zr [] [0] false none rfl
  iterate 8 (first|(simp only[go_sem,zt]<;>rfl)|rfl)
  refine(S1).mono ?_
  rintro _ _ ⟨rfl,F2,R4,hw2,ht2,rfl⟩
  have S2:=vK nr hn R4 PT cT hbn hbY bT hwn hvn
  rw[hO] at S2
  rw[hO]
  refine⟨Nat.le_of_ble_eq_true rfl,(fun hh=>by cases hh),?_⟩
  simp only[go_sem,zq,zb.after]
  apply hKY
  refine za fun KY hKY=>?_
  simp only[go_sem,pq]
  apply zr [] [0] false none rfl
  iterate 8 (first|(simp only[go_sem,zt]<;>rfl)|rfl)
  refine(S2).mono ?_
  rintro _ _ ⟨rfl,F3,R5,hw3,ht3,rfl⟩
  rw[hO]
  refine⟨Nat.le_of_ble_eq_true rfl,(fun hh=>by cases hh),?_⟩
  simp only[go_sem,zq,zb.after]
  apply hKY
  refine za fun KY hKY=>?_
  simp only[go_sem,pp]
  apply hKY
  refine zi ?_
  repeat (first|refine hr1 _ ?_)
  simp only[go_sem]
  obtain⟨T1,T2,T3,T4,T5,T6⟩:=Xl M I hv hw hvw hbb hX hY hdj
  have hus:F3.wt=F.wt++(KK m xs++KK m ys):=by rw[hw3,hw2,hw1,List.append_assoc]
  have hmem:∀u,u∈KK m xs++KK m ys↔(∃x∈xs,mf m x=(u:Int))∨∃x∈ys,mf m x=(u:Int):=fun u=>by
    rw[List.mem_append,zdw PX,zdw PY]
  have hnd:=R5.wn
  rw[hus] at hnd
  have hN:=v7 (S:=S) (us:=KK m xs++KK m ys) (List.nodup_append.1 hnd).2.1 (fun u hu=>by
    rcases(hmem u).1 hu with⟨x,hx,h⟩|⟨x,hx,h⟩
    · obtain⟨_,_,_,y,k1,k2,_,k3,_⟩:=PX.st x hx
      obtain rfl:y=u:=by omega
      exact⟨k2,k3⟩
    · obtain⟨_,_,_,y,k1,k2,_,k3,_⟩:=PY.st x hx
      obtain rfl:y=u:=by omega
      exact⟨k2,k3⟩) (fun u=>by rw[T3,hmem])
  have hpos:1≤(KK m xs++KK m ys).length:=by
    rcases Nat.eq_zero_or_pos (KK m xs++KK m ys).length with h0|h0
    · exfalso
      have hx0:xs=[]:=by
        simp[KK] at h0;exact h0.1
      have hy0:ys=[]:=by
        simp[KK] at h0;exact h0.2
      exact hne ((uz hX hx0).trans (uz hY hy0).symm)
    · exact h0
  refine⟨_,F3,T1,R5,?_,T2.out,T5.trans T6.symm,?_,?_,?_,by rw[ht3,ht2,ht1],rfl⟩
  · rw[hus]
    exact zb5 M I hv hw hvw hbb hX hY hdj (fun x h=>by simp[h]) fun u hu=>List.mem_append.2 (.inr ((hmem u).2 hu))
  · rw[T2.lab w (I.o1 w hw).2]
    exact(I.o1 w hw).2
  · rw[hus,List.length_append];omega
  · omega
theorem zeU (nr:List (List Nat)){n:Nat}{E:Nat→Nat→Prop}{m:List Int}{S:FS}{F:FD}(M:Mf n E (mf m))(I:J2 n E (mf m) S)(R:Rp n m S F)(hn:n≤4096){v w:Nat}(hv:S.out v=true)(hw:S.out w=true)(hvw:E v w)(hrt:S.rt v≠S.rt w):
    zo Try.prog [] zgr [.ptr 0 0,.sc (.int .i64 (v:Int)),.sc (.int .i64 (w:Int))] [some (F.obj nr m)] fun r h'=>∃l,Aug n E (mf m) l∧r= .own (some 1) (zJ l)∧∃F':FD,h'=[some (F'.obj nr m)]:=by
  have hml:=R.ml
  have hvn:=(I.o1 v hv).1
  have hwn:=(I.o1 w hw).1
  have hrl:=R.sz.rt
  have hgl:=R.sz.gone
  have hgv:(zl F.rt)[v]?=some (.sc (.int .i64 (S.rt v))):=by rw[zg (by omega),R.rt v hvn]
  have hgw:(zl F.rt)[w]?=some (.sc (.int .i64 (S.rt w))):=by rw[zg (by omega),R.rt w hwn]
  have hd0:decide (S.rt v≠S.rt w)=true:=decide_eq_true hrt
  obtain⟨r,q,ps,qs,e1,e2,hr,hq,W1,W2,l1,l2,A⟩:=zgH M I hv hw hvw hrt
  rw[e1] at hgv
  rw[e2] at hgw
  rw[e1,e2] at hd0
  rw[Qn] at l1 l2
  have Y1:=zfq nr M I R hn ps.length (Nat.le_refl _) (by omega) hvn hr W1
  have Y2:=zfq nr M I R hn qs.length (Nat.le_refl _) (by omega) hwn hq W2
  have hvl:(zE ps r).length=2*ps.length+1:=by simp[zE,Qn]
  have hwl:(zE qs q).length=2*qs.length+1:=by simp[zE,Qn]
  have hO:∀G:FD,G.obj nr m=[.imm 1 (Zv nr),.imm 1 (zl m),.own (some 1) (zl G.lab),.own (some 1) (Zd G.out),.own (some 1) (zl G.ev),.own (some 1) (zl G.od),.own (some 1) (zl G.pr),.own (some 1) (zl G.rt),.own (some 2) (zY G.br),.own (some 1) (Zd G.gone),.own (some 1) (zl G.up),.own (some 1) (zl G.bs),.own (some 1) (zl G.mr),.sc (.int .i64 G.tn),.own (some 1) (zJ G.wt),.sc (.int .i64 G.lk)]:=fun _=>rfl
  rw[hO] at Y1 Y2⊢
  refine zgX rfl ?_
  unfold zhi jV
  refine za fun KY hKY=>?_
  simp only[go_sem,uQ]
  apply hKY
  refine zf fun X1 hn1 he1 hr1=>?_
  refine zw fun KY hKY=>?_
  simp only[go_sem,uP,hgv,hgw,zj,hrl,hvn,hwn,hd0]
  apply hKY
  refine Zw ?_
  refine za fun KY hKY=>?_
  simp only[go_sem,pz,hgv,zj,hrl,hvn]
  apply zr [] [0] false none rfl
  iterate 8 (first|(simp only[go_sem,zt]<;>rfl)|rfl)
  refine(Y1).mono ?_
  rintro _ _ ⟨rfl,rfl⟩
  refine⟨Nat.le_of_ble_eq_true rfl,(fun hh=>by cases hh),?_⟩
  simp only[go_sem,zq,zb.after]
  apply zr [.mv] [] false none rfl
  iterate 8 (first|(simp only[go_sem,zt]<;>rfl)|rfl)
  refine(zdF (zE ps r) (by omega)).mono ?_
  rintro _ _ ⟨rfl,rfl⟩
  refine⟨Nat.le_of_ble_eq_true rfl,(fun hh=>by cases hh),?_⟩
  simp only[go_sem,zq,zb.after]
  apply hKY
  refine za fun KY hKY=>?_
  simp only[go_sem,py,hgw,zj,hrl,hwn]
  apply zr [] [0] false none rfl
  iterate 8 (first|(simp only[go_sem,zt]<;>rfl)|rfl)
  refine(Y2).mono ?_
  rintro _ _ ⟨rfl,rfl⟩
  refine⟨Nat.le_of_ble_eq_true rfl,(fun hh=>by cases hh),?_⟩
  simp only[go_sem,zq,zb.after,gA,Zo,List.length_append,List.length_reverse,hvl,hwl,(show(2*ps.length+1+(2*qs.length+1))*8≤140737488355328 by omega)]
  apply hKY
  refine zw fun KY hKY=>?_
  simp only[go_sem,px,hgv,hgw,zj,hrl,hvn,hwn,Zy,hgl,hr,hq,xi,List.length_set]
  apply hKY
  refine za fun KY hKY=>?_
  simp only[go_sem,pw]
  apply hKY
  refine zi ?_
  repeat (first|refine hr1 _ ?_)
  simp only[go_sem]
  exact⟨_,A,rfl,⟨F.lab,F.out,F.ev,F.od,F.pr,F.rt,F.br,(F.gone.set r true).set q true,F.up,F.bs,F.mr,F.tn,F.wt,F.lk⟩,rfl⟩
def xw {α:Type}(f:Nat→α)(z:α)(n k:Nat):List α:=(List.range n).map fun q=>if q<k then f q else z
theorem jS {α:Type}(f:Nat→α)(z:α)(n k:Nat):(xw f z n k).length=n:=by simp[xw]
theorem yn {α:Type}(f:Nat→α)(z:α)(n:Nat):List.replicate n z=xw f z n 0:=by
 apply List.ext_getElem (by simp[xw])
 intro j h1 h2
 simp[xw]
theorem qG {α:Type}(f:Nat→α)(z:α)(n k:Nat){a:α}(h:f k=a):(xw f z n k).set k a=xw f z n (k+1):=by
 subst h
 apply List.ext_getElem (by simp[xw])
 intro j h1 h2
 rw[List.getElem_set]
 simp only[xw,List.getElem_map,List.getElem_range]
 by_cases e:k=j
 · subst e;rw[if_pos rfl,if_pos (by omega)]
 · rw[if_neg e]
   by_cases h1:j<k
   · rw[if_pos h1,if_pos (by omega)]
   · rw[if_neg h1,if_neg (by omega)]
theorem K2 {α:Type}(f:Nat→α)(z:α)(n k:Nat)(h:f k=z):xw f z n k=xw f z n (k+1):=by
 apply List.map_congr_left
 intro q _
 by_cases h1:q<k
 · rw[if_pos h1,if_pos (by omega)]
 · rw[if_neg h1]
   by_cases h2:q<k+1
   · rw[if_pos h2,show q=k by omega,h]
   · rw[if_neg h2]
theorem Ya {α:Type}(f:Nat→α)(z d:α){n k q:Nat}(h:q<n):(xw f z n k).getD q d=if q<k then f q else z:=by simp[xw,h]
theorem zio {α:Type}(n k:Nat)(z:α):(List.replicate n z).set k z=List.replicate n z:=by
 apply List.ext_getElem (by simp)
 intro j h1 h2
 rw[List.getElem_set]
 simp
theorem wc (n:Nat):zF [.int .i64 0] n=zl (List.replicate n 0):=by
 simp only[zF,List.map]
 induction n with
 |zero=>rfl
 |succ n ih=>simp only[List.replicate_succ,List.flatten_cons,ih];rfl
theorem zdZ (n:Nat):zF [.int .i64 0,.int .i64 0] n=zY (List.replicate n (0,0)):=by
 induction n with
 |zero=>rfl
 | succ n ih=>
   simp only[zF,List.replicate_succ,List.flatten_cons,zY,ZD] at ih⊢
   rw[ih];rfl
def fL (m:List Int)(q:Nat):Int:=if m.getD q 0= -1 then 1 else 0
def fO (m:List Int)(q:Nat):Bool:=decide (m.getD q 0= -1)
def fR (m:List Int)(q:Nat):Int:=if m.getD q 0= -1 then(q:Int) else -1
def fI (q:Nat):Int:=(q:Int)
def jA (n:Nat)(m:List Int)(k:Nat):FD:=
 ⟨xw (fL m) 0 n k,xw (fO m) false n k,List.replicate n 0,List.replicate n 0,List.replicate n 0,xw (fR m) 0 n k,List.replicate n (0,0),List.replicate n false,xw fI 0 n k,xw fI 0 n k,List.replicate n 0,0,(List.range k).filter (fO m),0⟩
theorem ziO {n:Nat}{m:List Int}(hml:m.length=n):Rp n m (fs0 n (mf m)) (jA n m n):=by
 have hmf:∀v,v<n→mf m v=m.getD v 0:=fun v hv=>(qY (by omega)).symm
 have hg:∀v,v<n→(if v<n∧mf m v= -1 then(1:Nat) else 0)=if m.getD v 0= -1 then 1 else 0:=fun v hv=>by
  rw[hmf v hv]
  by_cases h:m.getD v 0= -1
  · rw[if_pos ⟨hv,h⟩,if_pos h]
  · rw[if_neg (fun e=>h e.2),if_neg h]
 refine⟨⟨jS _ _ _ _,jS _ _ _ _,by simp[jA],by simp[jA],by simp[jA],jS _ _ _ _,by simp[jA],by simp[jA],jS _ _ _ _,jS _ _ _ _,by simp[jA]⟩,hml,fun v hv=>?_,fun v hv=>?_,fun v hv h=>?_,fun v hv=>?_,fun v hv=>?_,fun v hv h=>?_,fun v hv=>?_,⟨fun u=>u,fun _=>0,⟨jS _ _ _ _,fun v hv=>⟨v,?_,hv,rfl,fun _=>rfl,fun h=>absurd rfl h⟩⟩,fun v hv=>?_,fun u v _ _=>Iff.rfl⟩,fun v hv=>?_,fun x hx=>?_,?_⟩
 · show(xw _ 0 n n).getD v 0=((if v<n∧mf m v= -1 then 1 else 0:Nat):Int)
   rw[Ya _ _ _ hv,if_pos hv,hg v hv]
   unfold fL
   split<;>rfl
 · show(xw _ false n n).getD v false=decide (v<n∧mf m v= -1)
   rw[hmf v hv]
   rw[Ya _ _ _ hv,if_pos hv]
   refine decide_eq_decide.2 ⟨fun h=>⟨hv,h⟩,fun h=>h.2⟩
 · have h:(if v<n∧mf m v= -1 then 1 else 0:Nat)=2:=h
   split at h<;>omega
 · show(xw _ 0 n n).getD v 0=(if v<n∧mf m v= -1 then(v:Int) else -1)
   rw[Ya _ _ _ hv,if_pos hv]
   have h3:(if v<n∧mf m v= -1 then(v:Int) else -1)=if m.getD v 0= -1 then(v:Int) else -1:=by
    rw[hmf v hv]
    by_cases h:m.getD v 0= -1
    · rw[if_pos (⟨hv,h⟩:v<n∧m.getD v 0= -1),if_pos h]
    · rw[if_neg (fun e:v<n∧m.getD v 0= -1=>h e.2),if_neg h]
   exact h3.symm
 · show(if v<n∧mf m v= -1 then(v:Int) else -1)= -1∨∃r:Nat,(if v<n∧mf m v= -1 then(v:Int) else -1)=(r:Int)∧r<n
   split
   · exact .inr ⟨v,rfl,hv⟩
   · exact .inl rfl
 · have h:(if v<n∧mf m v= -1 then 1 else 0:Nat)=2:=h
   split at h<;>omega
 · show(List.replicate n false).getD v false=false
   simp[hv]
 · show(xw fI 0 n n).getD v 0=(v:Int)
   rw[Ya _ _ _ hv,if_pos hv]
   rfl
 · show(xw fI 0 n n).getD v 0=(v:Int)
   rw[Ya _ _ _ hv,if_pos hv]
   rfl
 · show(List.replicate n (0:Int)).getD v 0≤0
   simp[hv]
 · have hx:x∈(List.range n).filter (fun q=>decide (m.getD q 0= -1)):=hx
   obtain⟨h1,h2⟩:=List.mem_filter.1 hx
   have h1:=List.mem_range.1 h1
   exact⟨h1,decide_eq_true ⟨h1,(hmf x h1).trans (of_decide_eq_true h2)⟩⟩
 · exact List.nodup_range.filter _
theorem ziN (n:Nat)(m:List Int)(k:Nat):(jA n m k).Sz n:=
 ⟨jS _ _ _ _,jS _ _ _ _,by simp[jA],by simp[jA],by simp[jA],jS _ _ _ _,by simp[jA],by simp[jA],jS _ _ _ _,jS _ _ _ _,by simp[jA]⟩
theorem ze0 {n:Nat}{m:List Int}{k:Nat}(hk:k<n)(h:m.getD k 0= -1):({jA n m k with up:=(jA n m k).up.set k (k:Int),bs:=(jA n m k).bs.set k (k:Int),rt:=(jA n m k).rt.set k (k:Int)}:FD).raise k 0 1=jA n m (k+1):=by
 unfold FD.raise jA
 simp only
 rw[Ya _ _ _ hk,if_neg (Nat.lt_irrefl k),if_pos rfl,qG (fL m) _ _ _ (show fL m k=1 from if_pos h),qG (fO m) _ _ _ (show fO m k=true from decide_eq_true h),qG (fR m) _ _ _ (show fR m k=(k:Int) from if_pos h),zio,qG fI _ _ _ (show fI k=(k:Int) from rfl),List.range_succ,List.filter_append]
 have hf:fO m k=true:=decide_eq_true h
 simp[hf]
theorem zg5 {n:Nat}{m:List Int}{k:Nat}(hk:k<n)(h:m.getD k 0≠ -1):({jA n m k with up:=(jA n m k).up.set k (k:Int),bs:=(jA n m k).bs.set k (k:Int),rt:=(jA n m k).rt.set k (-1)}:FD)=jA n m (k+1):=by
 unfold jA
 simp only
 rw[K2 (fL m) 0 n k (if_neg h),K2 (fO m) false n k (decide_eq_false h),qG (fR m) _ _ _ (show fR m k= -1 from if_neg h),qG fI _ _ _ (show fI k=(k:Int) from rfl),List.range_succ,List.filter_append]
 have hf:fO m k=false:=decide_eq_false h
 simp[hf]
theorem ziR (nr:List (List Nat)){n:Nat}{m:List Int}(hnr:nr.length=n)(hml:m.length=n)(hn:n≤4096):
    zo Try.prog [] zjt [.imm 1 (Zv nr),.imm 1 (zl m)] [] fun r h'=>r= .ptr 0 0∧h'=[some ((jA n m n).obj nr m)]:=by
  have hO:∀G:FD,G.obj nr m=[.imm 1 (Zv nr),.imm 1 (zl m),.own (some 1) (zl G.lab),.own (some 1) (Zd G.out),.own (some 1) (zl G.ev),.own (some 1) (zl G.od),.own (some 1) (zl G.pr),.own (some 1) (zl G.rt),.own (some 2) (zY G.br),.own (some 1) (Zd G.gone),.own (some 1) (zl G.up),.own (some 1) (zl G.bs),.own (some 1) (zl G.mr),.sc (.int .i64 G.tn),.own (some 1) (zJ G.wt),.sc (.int .i64 G.lk)]:=fun _=>rfl
  have hm1:8*n≤140737488355328∧(n:Int)≤9223372036854775807:=by omega
  have hm2:16*n≤140737488355328∧(n:Int)≤9223372036854775807:=by omega
  have hm3:1*n≤140737488355328∧(n:Int)≤9223372036854775807:=by omega
  refine zlT rfl ?_
  unfold zkr jH
  refine za fun KY hKY=>?_
  simp only[go_sem,pW]
  apply hKY
  refine za fun KY hKY=>?_
  simp only[go_sem,pV,qg,hnr]
  apply hKY
  refine zw fun KY hKY=>?_
  simp only[go_sem,pU,hm1,hm2,hm3,Int.le_refl,wc,US,zdZ]
  apply hKY
  refine jC [0,6,14] 1 (by simp only[go_sem]) ?_
  simp only[go_sem]
  refine WB [0,6] (by simp only[go_sem];rfl) ?_
  simp only[go_sem]
  refine zf fun X1 hn1 he1 hr1=>?_
  refine za fun KY hKY=>?_
  simp only[go_sem,pT]
  apply hKY
  refine zp fun X2 hn2 he2 hf2 hr2=>?_
  try simp only[go_sem]
  refine zP (α:=Nat×FD) [7,38,64] (fun(k,F)=>[(37,.sc (.int .i64 (k:Int)))]) (fun(k,F)=>[some [.imm 1 (Zv nr),.imm 1 (zl m),.own (some 1) (zl F.lab),.own (some 1) (Zd F.out),.own (some 1) (zl F.ev),.own (some 1) (zl F.od),.own (some 1) (zl F.pr),.own (some 1) (zl F.rt),.own (some 2) (zY F.br),.own (some 1) (Zd F.gone),.own (some 1) (zl F.up),.own (some 1) (zl F.bs),.own (some 1) (zl F.mr),.sc (.int .i64 F.tn),.own (some 1) (zJ F.wt),.sc (.int .i64 F.lk)]]) (fun(k,F) q=>F=jA n m k∧k≤n∧q=n - k) ((0,⟨List.replicate n 0,List.replicate n false,List.replicate n 0,List.replicate n 0,List.replicate n 0,List.replicate n 0,List.replicate n (0,0),List.replicate n false,List.replicate n 0,List.replicate n 0,List.replicate n 0,0,[],0⟩)) (n) rfl (by first|(simp only[go_sem,zd,ze];done)|with_reducible rfl|rfl) (⟨by unfold jA;rw[←yn,←yn,←yn,←yn];rfl,Nat.zero_le _,rfl⟩) ?_
  rintro⟨k,F⟩ q ⟨hF,hk,rfl⟩ X3 hn3 he3 hr3
  simp only[go_sem,zd,ze]
  have Z:=ziN n m k
  rw[←hF] at Z
  rcases Nat.lt_or_ge k n with hk2|hk2
  · have hdx:decide ((k:Int)<(n:Int))=true:=decide_eq_true (by omega)
    have hgk:(zl m)[k]?=some (.sc (.int .i64 (m.getD k 0))):=zg (by omega)
    have hrl:F.rt.length=n:=Z.rt
    have hul:F.up.length=n:=Z.up
    have hbl:F.bs.length=n:=Z.bs
    refine za fun KY hKY=>?_
    simp only[go_sem,uX,hdx]
    apply hKY
    refine zf fun X4 hn4 he4 hr4=>?_
    refine Zw ?_
    refine zh ?_
    repeat (first|refine hn4 _ ?_|refine he4 _ _ ?_|refine he3 _ _ ?_|refine hn2 _ ?_|refine he2 _ ?_|refine hf2 _ _ (by decide) ?_|refine hn1 _ ?_|refine he1 _ _ ?_)
    refine zf fun X5 hn5 he5 hr5=>?_
    refine zp fun X6 hn6 he6 hf6 hr6=>?_
    refine za fun KY hKY=>?_
    simp only[go_sem,pS]
    apply hKY
    refine zw fun KY hKY=>?_
    simp only[go_sem,pR,zj,jv,hrl,hul,hbl,hk2]
    apply hKY
    by_cases hf:m.getD k 0= -1
    · have hdf:decide (m.getD k 0= -1)=true:=decide_eq_true hf
      have FF:=ze0 hk2 hf
      rw[←hF] at FF
      have hrs:=Xu nr m ⟨F.lab,F.out,F.ev,F.od,F.pr,F.rt.set k (k:Int),F.br,F.gone,F.up.set k (k:Int),F.bs.set k (k:Int),F.mr,F.tn,F.wt,F.lk⟩ (n:=n) ⟨Z.lab,Z.out,Z.ev,Z.od,Z.pr,by simp[hrl],Z.br,Z.gone,by simp[hul],by simp[hbl],Z.mr⟩ hk2 0 1 (by
        show F.wt.length≤1000000
        rw[hF]
        show((List.range k).filter (fO m)).length≤1000000
        refine Nat.le_trans (List.length_filter_le _ _) ?_
        rw[List.length_range];omega)
      rw[show(⟨F.lab,F.out,F.ev,F.od,F.pr,F.rt.set k (k:Int),F.br,F.gone,F.up.set k (k:Int),F.bs.set k (k:Int),F.mr,F.tn,F.wt,F.lk⟩:FD).raise k 0 1=jA n m (k+1) from FF] at hrs
      rw[hO (jA n m (k+1))] at hrs
      unfold FD.obj at hrs
      refine za fun KY hKY=>?_
      simp only[go_sem,uW,hgk,hdf,zj,hml,hk2]
      apply hKY
      refine Zw ?_
      refine za fun KY hKY=>?_
      simp only[go_sem,pQ,zj,jv,List.length_set,hrl,hk2]
      apply hKY
      refine zn fun KY hKY=>?_
      simp only[go_sem,pP]
      apply zr [] [0] false none rfl
      iterate 8 (first|(simp only[go_sem,zt]<;>rfl)|rfl)
      refine(hrs).mono ?_
      rintro _ _ ⟨rfl,rfl⟩
      refine⟨Nat.le_of_ble_eq_true rfl,(fun hh=>by cases hh),?_⟩
      simp only[go_sem,zq,zb.after]
      apply hKY
      repeat (first|refine hn6 _ ?_|refine he6 _ ?_|refine hf6 _ _ (by decide) ?_|refine hn5 _ ?_|refine he5 _ _ ?_|refine hn4 _ ?_|refine he4 _ _ ?_|refine he3 _ _ ?_|refine hn2 _ ?_|refine he2 _ ?_|refine hf2 _ _ (by decide) ?_|refine hn1 _ ?_|refine he1 _ _ ?_)
      refine zn fun KY hKY=>?_
      simp only[go_sem,WX,zH (show k<4611686018427387904 by omega)]
      apply hKY
      repeat (first|refine hn6 _ ?_|refine he6 _ ?_|refine hf6 _ _ (by decide) ?_|refine hn5 _ ?_|refine he5 _ _ ?_|refine hn4 _ ?_|refine he4 _ _ ?_)
      refine hn3 _ ((k+1,jA n m (k+1))) (n - (k+1)) (by omega) (by first|(simp only[go_sem,zd,ze];done)|with_reducible rfl|rfl) ?_
      exact⟨rfl,hk2,rfl⟩
    · have hdf:decide (m.getD k 0= -1)=false:=decide_eq_false hf
      have FF:=zg5 hk2 hf
      rw[←hF] at FF
      refine za fun KY hKY=>?_
      simp only[go_sem,uW,hgk,hdf,zj,hml,hk2]
      apply hKY
      refine Zr ?_
      refine zh ?_
      repeat (first|refine hn6 _ ?_|refine he6 _ ?_|refine hf6 _ _ (by decide) ?_|refine hn5 _ ?_|refine he5 _ _ ?_|refine hn4 _ ?_|refine he4 _ _ ?_|refine he3 _ _ ?_|refine hn2 _ ?_|refine he2 _ ?_|refine hf2 _ _ (by decide) ?_|refine hn1 _ ?_|refine he1 _ _ ?_)
      refine zn fun KY hKY=>?_
      simp only[go_sem,WX,zH (show k<4611686018427387904 by omega)]
      apply hKY
      repeat (first|refine hn6 _ ?_|refine he6 _ ?_|refine hf6 _ _ (by decide) ?_|refine hn5 _ ?_|refine he5 _ _ ?_|refine hn4 _ ?_|refine he4 _ _ ?_)
      refine hn3 _ ((k+1,⟨F.lab,F.out,F.ev,F.od,F.pr,F.rt.set k (-1),F.br,F.gone,F.up.set k (k:Int),F.bs.set k (k:Int),F.mr,F.tn,F.wt,F.lk⟩)) (n - (k+1)) (by omega) (by first|(simp only[go_sem,zd,ze];done)|with_reducible rfl|rfl) ?_
      exact⟨FF,hk2,rfl⟩
  have hdx:decide ((k:Int)<(n:Int))=false:=decide_eq_false (by omega)
  refine za fun KY hKY=>?_
  simp only[go_sem,uX,hdx]
  apply hKY
  refine zf fun X7 hn7 he7 hr7=>?_
  refine Zr ?_
  refine zy ?_
  repeat (first|refine hn7 _ ?_|refine he7 _ _ ?_|refine he3 _ _ ?_|refine hn2 _ ?_|refine he2 _ ?_|refine hf2 _ _ (by decide) ?_|refine hn1 _ ?_|refine he1 _ _ ?_)
  refine za fun KY hKY=>?_
  simp only[go_sem,VE]
  apply hKY
  refine zi ?_
  repeat (first|refine hr7 _ ?_|refine hr3 _ ?_|refine hr2 _ ?_|refine hr1 _ ?_)
  simp only[go_sem]
  obtain rfl:k=n:=by omega
  rw[hF]
  rfl
def fLb (S:FS)(v:Nat):Int:=if S.out v=true then 1 else(S.lab v:Int)
def zeQ (n:Nat)(S:FS):List Int:=(List.range n).map (fLb S)
theorem zeR (nr:List (List Nat)){n:Nat}{m:List Int}{S:FS}{F:FD}(R:Rp n m S F)(hn:n≤4096):
    zo Try.prog [[1,0]] zjq [.ptr 0 0] [some (F.obj nr m)] fun r h'=>r= .own (some 1) (zl (zeQ n S))∧h'=[some (F.obj nr m)]:=by
  have hm1:8*n≤140737488355328∧(n:Int)≤9223372036854775807:=by omega
  have hO:∀G:FD,G.obj nr m=[.imm 1 (Zv nr),.imm 1 (zl m),.own (some 1) (zl G.lab),.own (some 1) (Zd G.out),.own (some 1) (zl G.ev),.own (some 1) (zl G.od),.own (some 1) (zl G.pr),.own (some 1) (zl G.rt),.own (some 2) (zY G.br),.own (some 1) (Zd G.gone),.own (some 1) (zl G.up),.own (some 1) (zl G.bs),.own (some 1) (zl G.mr),.sc (.int .i64 G.tn),.own (some 1) (zJ G.wt),.sc (.int .i64 G.lk)]:=fun _=>rfl
  have hll:=R.sz.lab
  have hol:=R.sz.out
  rw[hO]
  refine zlP rfl ?_
  unfold zkn Jr
  refine za fun KY hKY=>?_
  simp only[go_sem,pn,zS,zM,ZS.quiet]
  apply hKY
  refine za fun KY hKY=>?_
  simp only[go_sem,pm,zj,hll,hm1,Int.le_refl,wc,zS,zM,ZS.quiet]
  apply hKY
  simp only[go_sem]
  rw[show List.replicate n (0:Int)=xw (fLb S) 0 n 0 from yn _ _ _]
  refine zf fun X1 hn1 he1 hr1=>?_
  refine za fun KY hKY=>?_
  simp only[go_sem,pj,zj,jS,zS,zM,ZS.quiet]
  apply hKY
  refine zp fun X2 hn2 he2 hf2 hr2=>?_
  try simp only[go_sem]
  refine zP (α:=Nat) [4,14,32] (fun k=>[(3,.own (some 1) (zl (xw (fLb S) 0 n k))),(13,.sc (.int .i64 (k:Int)))]) (fun k=>[some [.imm 1 (Zv nr),.imm 1 (zl m),.own (some 1) (zl F.lab),.own (some 1) (Zd F.out),.own (some 1) (zl F.ev),.own (some 1) (zl F.od),.own (some 1) (zl F.pr),.own (some 1) (zl F.rt),.own (some 2) (zY F.br),.own (some 1) (Zd F.gone),.own (some 1) (zl F.up),.own (some 1) (zl F.bs),.own (some 1) (zl F.mr),.sc (.int .i64 F.tn),.own (some 1) (zJ F.wt),.sc (.int .i64 F.lk)]]) (fun k q=>k≤n∧q=n - k) (0) (n) rfl (by first|(simp only[go_sem,zd,ze];done)|with_reducible rfl|rfl) (⟨Nat.zero_le _,rfl⟩) ?_
  rintro k q ⟨hk,rfl⟩ X3 hn3 he3 hr3
  simp only[go_sem,zd,ze]
  rcases Nat.lt_or_ge k n with hk2|hk2
  · have hdx:decide ((k:Int)<(n:Int))=true:=decide_eq_true (by omega)
    have hgl:(zl F.lab)[k]?=some (.sc (.int .i64 (S.lab k:Int))):=by rw[zg (by omega),R.lab k hk2]
    have hgo:(Zd F.out)[k]?=some (.sc (.bool (S.out k))):=by rw[Jn (by omega),R.out k hk2]
    have hsl:=jS (fLb S) 0 n k
    refine za fun KY hKY=>?_
    simp only[go_sem,uO,hdx,zS,zM,ZS.quiet]
    apply hKY
    refine zf fun X4 hn4 he4 hr4=>?_
    refine Zw ?_
    refine zh ?_
    repeat (first|refine hn4 _ ?_|refine he4 _ _ ?_|refine he3 _ _ ?_|refine hn2 _ ?_|refine he2 _ ?_|refine hf2 _ _ (by decide) ?_|refine hn1 _ ?_|refine he1 _ _ ?_)
    refine zf fun X5 hn5 he5 hr5=>?_
    refine zp fun X6 hn6 he6 hf6 hr6=>?_
    refine za fun KY hKY=>?_
    simp only[go_sem,pi,zS,zM,ZS.quiet]
    apply hKY
    refine za fun KY hKY=>?_
    simp only[go_sem,ph,hgl,zj,hll,hsl,hk2,jv,zS,zM,ZS.quiet,(show([0,3]==[1,0])=false from rfl),Bool.not_false]
    apply hKY
    cases ho:S.out k with
    | true=>
      rw[ho] at hgo
      have hst:=qG (fLb S) 0 n k (a:=1) (if_pos ho)
      refine za fun KY hKY=>?_
      simp only[go_sem,uN,hgo,Zy,hol,hk2,zS,zM,ZS.quiet]
      apply hKY
      refine Zw ?_
      refine zn fun KY hKY=>?_
      simp only[go_sem,pg,zj,jv,List.length_set,hsl,hk2,hst,zS,zM,ZS.quiet,(show([0,3]==[1,0])=false from rfl),Bool.not_false]
      apply hKY
      repeat (first|refine hn6 _ ?_|refine he6 _ ?_|refine hf6 _ _ (by decide) ?_|refine hn5 _ ?_|refine he5 _ _ ?_|refine hn4 _ ?_|refine he4 _ _ ?_|refine he3 _ _ ?_|refine hn2 _ ?_|refine he2 _ ?_|refine hf2 _ _ (by decide) ?_|refine hn1 _ ?_|refine he1 _ _ ?_)
      refine zn fun KY hKY=>?_
      simp only[go_sem,uM,zH (show k<4611686018427387904 by omega),zS,zM,ZS.quiet]
      apply hKY
      repeat (first|refine hn6 _ ?_|refine he6 _ ?_|refine hf6 _ _ (by decide) ?_|refine hn5 _ ?_|refine he5 _ _ ?_|refine hn4 _ ?_|refine he4 _ _ ?_)
      refine hn3 _ (k+1) (n - (k+1)) (by omega) (by first|(simp only[go_sem,zd,ze];done)|with_reducible rfl|rfl) ?_
      exact⟨hk2,rfl⟩
    | false=>
      rw[ho] at hgo
      have hst:=qG (fLb S) 0 n k (a:=(S.lab k:Int)) (if_neg (by rw[ho];simp))
      refine za fun KY hKY=>?_
      simp only[go_sem,uN,hgo,Zy,hol,hk2,hst,zS,zM,ZS.quiet]
      apply hKY
      refine Zr ?_
      refine zh ?_
      repeat (first|refine hn6 _ ?_|refine he6 _ ?_|refine hf6 _ _ (by decide) ?_|refine hn5 _ ?_|refine he5 _ _ ?_|refine hn4 _ ?_|refine he4 _ _ ?_|refine he3 _ _ ?_|refine hn2 _ ?_|refine he2 _ ?_|refine hf2 _ _ (by decide) ?_|refine hn1 _ ?_|refine he1 _ _ ?_)
      refine zn fun KY hKY=>?_
      simp only[go_sem,uM,zH (show k<4611686018427387904 by omega),zS,zM,ZS.quiet]
      apply hKY
      repeat (first|refine hn6 _ ?_|refine he6 _ ?_|refine hf6 _ _ (by decide) ?_|refine hn5 _ ?_|refine he5 _ _ ?_|refine hn4 _ ?_|refine he4 _ _ ?_)
      refine hn3 _ (k+1) (n - (k+1)) (by omega) (by first|(simp only[go_sem,zd,ze,hst];done)|with_reducible rfl|rfl) ?_
      exact⟨hk2,rfl⟩
  have hdx:decide ((k:Int)<(n:Int))=false:=decide_eq_false (by omega)
  obtain rfl:k=n:=by omega
  refine za fun KY hKY=>?_
  simp only[go_sem,uO,hdx,zS,zM,ZS.quiet]
  apply hKY
  refine zf fun X7 hn7 he7 hr7=>?_
  refine Zr ?_
  refine zy ?_
  repeat (first|refine hn7 _ ?_|refine he7 _ _ ?_|refine he3 _ _ ?_|refine hn2 _ ?_|refine he2 _ ?_|refine hf2 _ _ (by decide) ?_|refine hn1 _ ?_|refine he1 _ _ ?_)
  have he:xw (fLb S) 0 k k=zeQ k S:=by
    apply List.map_congr_left
    intro q hq
    rw[if_pos (List.mem_range.1 hq)]
  rw[he]
  refine za fun KY hKY=>?_
  simp only[go_sem,pf,zS,zM,ZS.quiet]
  apply hKY
  refine zi ?_
  repeat (first|refine hr7 _ ?_|refine hr3 _ ?_|refine hr2 _ ?_|refine hr1 _ ?_)
  simp only[go_sem,Je,qV]
theorem zg6 (nr:List (List Nat))(m:List Int)(F:FD):
    zo Try.prog [] zdr [.ptr 0 0] [some (F.obj nr m)] fun r h'=>r= .tup [.sc (.int .i64 ((F.wt.headD 0:Nat):Int)),.sc (.bool (!F.wt.isEmpty))]∧h'=[some (({F with wt:=F.wt.tail}:FD).obj nr m)]:=by
  cases h:F.wt with
  | nil=>
    refine(zeI nr m F h).mono ?_
    rintro r h' ⟨rfl,rfl⟩
    obtain⟨lab,out,ev,od,pr,rt,br,gone,up,bs,mr,tn,wt,lk⟩:=F
    simp only at h
    subst h
    exact⟨rfl,rfl⟩
  |cons c ws=>exact zeH nr m F h
theorem zk8 (nr:List (List Nat)){n:Nat}{m:List Int}{S:FS}{F:FD}(R:Rp n m S F){v:Nat}(hv:v<n):
    zo Try.prog [[1,0]] gB [.ptr 0 0,.sc (.int .i64 (v:Int))] [some (F.obj nr m)] fun r h'=>r= .sc (.int .i64 (S.bs v:Int))∧∃F':FD,Rp n m S F'∧F'.wt=F.wt∧F'.tn=F.tn∧h'=[some (F'.obj nr m)]:=by
  refine(Q7 nr R hv).mono ?_
  rintro r h' ⟨rfl,up',R',rfl⟩
  exact⟨rfl,_,R',rfl,rfl,rfl⟩
structure Pst (n:Nat)(E:Nat→Nat→Prop)(m:List Int)(S:FS)(F:FD)(o:Option Nat):Prop where
 inv:J2 n E (mf m) S
 rp:Rp n m S F
 t0:0≤F.tn
 tn:F.tn+qy n S≤n
 lk:(o=none∧F.wt=[]∧Lk E S [])∨∃c,o=some c∧c<n∧S.out c=true∧Lk E S (c::F.wt)
theorem Rp.tail {n:Nat}{m:List Int}{S:FS}{F:FD}(R:Rp n m S F):Rp n m S {F with wt:=F.wt.tail}:=by
 obtain⟨s1,s2,s3,s4,s5,s6,s7,s8,s9,s10,s11⟩:=R.sz
 exact⟨⟨s1,s2,s3,s4,s5,s6,s7,s8,s9,s10,s11⟩,R.ml,R.lab,R.out,R.pr,R.rt,R.rb,R.br,R.gone,R.uf,R.mr,fun x hx=>R.wt x (List.mem_of_mem_tail hx),R.wn.sublist (List.tail_sublist _)⟩
theorem Pst.pop {n:Nat}{E:Nat→Nat→Prop}{m:List Int}{S:FS}{F:FD}(I:J2 n E (mf m) S)(R:Rp n m S F)(t0:0≤F.tn)(tn:F.tn+qy n S≤n)(L:Lk E S F.wt):∃o,F.wt.headD 0=o.getD 0∧(!F.wt.isEmpty)=o.isSome∧Pst n E m S {F with wt:=F.wt.tail} o∧qy n S+F.wt.tail.length+(if o.isSome=true then 1 else 0)=qy n S+F.wt.length:=by
 have R':=R.tail
 cases h:F.wt with
 | nil=>
   rw[h] at R' L
   exact⟨none,rfl,rfl,⟨I,R',t0,tn,.inl ⟨rfl,rfl,L⟩⟩,rfl⟩
 | cons c ws=>
   rw[h] at R' L
   have hc:=R.wt c (by rw[h];simp)
   exact⟨some c,rfl,rfl,⟨I,R',t0,tn,.inr ⟨c,rfl,hc.1,hc.2,L⟩⟩,by simp;omega⟩
theorem ziP {n:Nat}{E:Nat→Nat→Prop}{m:List Int}(hml:m.length=n):Lk E (fs0 n (mf m)) (jA n m n).wt:=fun v w h1 h2 _=>by
 have h1:decide (v<n∧mf m v= -1)=true:=h1
 have h1:=of_decide_eq_true h1
 exact absurd (List.mem_filter.2 ⟨List.mem_range.2 h1.1,decide_eq_true ((qY (by omega)).trans h1.2)⟩:v∈(List.range n).filter (fO m)) h2
structure Qst (n:Nat)(E:Nat→Nat→Prop)(m:List Int)(c:Nat)(rest:List Nat)(μ:Nat)(S:FS)(F:FD):Prop where
 inv:J2 n E (mf m) S
 rp:Rp n m S F
 t0:0≤F.tn
 tn:F.tn+qy n S≤n
 oc:S.out c=true
 lk:Lc E S F.wt c rest
 me:qy n S+F.wt.length=μ
theorem zeG {n:Nat}{E:Nat→Nat→Prop}{mt:Nat→Int}{S:FS}(M:Mf n E mt)(I:J2 n E mt S){v w x:Nat}(hw:w<n)(hl:S.lab w=0)(hx:mt w=(x:Int)):qy n (Z5 S v w x)+1=qy n S:=by
 obtain⟨x',k1,hxN,hlx,hxw,hxo,hwo⟩:=fresh M I hw hl
 obtain rfl:x'=x:=by omega
 refine v7 (us:=[x']) (by simp) (fun u hu=>?_) (fun u=>?_)
 · obtain rfl:u=x':=by simpa using hu
   exact⟨hxN,hxo⟩
 · show(decide (u=x')||S.out u)=true↔_
   rw[Bool.or_eq_true,decide_eq_true_iff]
   simp[or_comm]
theorem WC (nr:List (List Nat)){n:Nat}{E:Nat→Nat→Prop}{m:List Int}(hnr:nr.length=n)(hml:m.length=n)(hn:n≤4096)(hrow:∀v,v<n→(nr.getD v []).length≤1000000)(M:Mf n E (mf m))(hE:∀v w,v<n→(w∈nr.getD v []↔E v w)):
    zo Try.prog [] zgs [.imm 1 (Zv nr),.imm 1 (zl m)] [] fun r h'=>h'=[]∧∃lk:Int,(∃l,Aug n E (mf m) l∧r= .tup [.own (some 1) (zJ l),.sc (.slice none 0 0),.sc (.int .i64 lk)])∨∃S,J2 n E (mf m) S∧Lk E S []∧r= .tup [.sc (.slice none 0 0),.own (some 1) (zl (zeQ n S)),.sc (.int .i64 lk)]:=by
  have hO:∀G:FD,G.obj nr m=[.imm 1 (Zv nr),.imm 1 (zl m),.own (some 1) (zl G.lab),.own (some 1) (Zd G.out),.own (some 1) (zl G.ev),.own (some 1) (zl G.od),.own (some 1) (zl G.pr),.own (some 1) (zl G.rt),.own (some 2) (zY G.br),.own (some 1) (Zd G.gone),.own (some 1) (zl G.up),.own (some 1) (zl G.bs),.own (some 1) (zl G.mr),.sc (.int .i64 G.tn),.own (some 1) (zJ G.wt),.sc (.int .i64 G.lk)]:=fun _=>rfl
  have hN0:=ziR nr hnr hml hn
  have hX0:=fun F:FD=>zg6 nr m F
  have hLb:=fun(S:FS) (F:FD) (R:Rp n m S F)=>(zeR nr R hn)
  unfold FD.obj at hN0 hX0 hLb
  simp only at hX0
  refine zo.trim ?_
  refine zl0 rfl ?_
  unfold zky ZN
  refine za fun KY hKY=>?_
  simp only[go_sem,PS]
  apply hKY
  refine za fun KY hKY=>?_
  simp only[go_sem,PR]
  apply zr [] [] false none rfl
  iterate 8 (first|(simp only[go_sem,zt]<;>rfl)|rfl)
  refine(hN0).mono ?_
  rintro _ _ ⟨rfl,rfl⟩
  refine⟨Nat.le_of_ble_eq_true rfl,(fun hh=>by cases hh),?_⟩
  simp only[go_sem,zq,zb.after]
  apply hKY
  refine za fun KY hKY=>?_
  simp only[go_sem,PQ]
  apply hKY
  obtain⟨o,e1,e2,P0,_⟩:=Pst.pop (ziQ n E (mf m)) (ziO hml) (Int.le_refl _) (by show(0:Int)+(qy n _:Int)≤n;have:=zdq n (fs0 n (mf m));omega) (ziP hml)
  have hX1:=hX0 (jA n m n)
  rw[e1,e2] at hX1
  refine zf fun X1 hn1 he1 hr1=>?_
  refine za fun KY hKY=>?_
  simp only[go_sem,PP]
  apply zr [] [0] false none rfl
  iterate 8 (first|(simp only[go_sem,zt]<;>rfl)|rfl)
  refine(hX1).mono ?_
  rintro _ _ ⟨rfl,rfl⟩
  refine⟨Nat.le_of_ble_eq_true rfl,(fun hh=>by cases hh),?_⟩
  simp only[go_sem,zq,zb.after]
  apply hKY
  refine zp fun X2 hn2 he2 hf2 hr2=>?_
  try simp only[go_sem]
  refine zP (α:=FS×FD×Option Nat) [12,13,24,33,34,35,36,42,43,49,57,63] (fun(S0,F0,o)=>[(9,.sc (.int .i64 ((o.getD 0:Nat):Int))),(10,.sc (.bool o.isSome))]) (fun(S0,F0,o)=>[some [.imm 1 (Zv nr),.imm 1 (zl m),.own (some 1) (zl F0.lab),.own (some 1) (Zd F0.out),.own (some 1) (zl F0.ev),.own (some 1) (zl F0.od),.own (some 1) (zl F0.pr),.own (some 1) (zl F0.rt),.own (some 2) (zY F0.br),.own (some 1) (Zd F0.gone),.own (some 1) (zl F0.up),.own (some 1) (zl F0.bs),.own (some 1) (zl F0.mr),.sc (.int .i64 F0.tn),.own (some 1) (zJ F0.wt),.sc (.int .i64 F0.lk)]]) (fun(S0,F0,o) q=>Pst n E m S0 F0 o∧q=qy n S0+F0.wt.length+(if o.isSome=true then 1 else 0)) ((fs0 n (mf m),{jA n m n with wt:=(jA n m n).wt.tail},o)) (qy n (fs0 n (mf m))+(jA n m n).wt.tail.length+(if o.isSome=true then 1 else 0)) rfl (by first|(simp only[go_sem,zd,ze];done)|with_reducible rfl|rfl) (⟨P0,rfl⟩) ?_
  rintro⟨S0,F0,o⟩ q ⟨P1,rfl⟩ X3 hn3 he3 hr3
  simp only[go_sem,zd,ze]
  refine zf fun X4 hn4 he4 hr4=>?_
  refine za fun KY hKY=>?_
  simp only[go_sem,PO]
  apply hKY
  rcases P1.lk with⟨rfl,hw0,hL0⟩|⟨c,rfl,hcn,hco,hLc⟩
  · refine Zr ?_
    refine zy ?_
    repeat (first|refine hn4 _ ?_|refine he4 _ _ ?_|refine he3 _ _ ?_|refine hn2 _ ?_|refine he2 _ ?_|refine hf2 _ _ (by decide) ?_|refine hn1 _ ?_|refine he1 _ _ ?_)
    have hLL:=hLb S0 F0 P1.rp
    refine zw fun KY hKY=>?_
    simp only[go_sem,VN]
    apply zr [] [0] false none rfl
    iterate 8 (first|(simp only[go_sem,zt]<;>rfl)|rfl)
    refine(hLL).mono ?_
    rintro _ _ ⟨rfl,rfl⟩
    refine⟨Nat.le_of_ble_eq_true rfl,(fun hh=>by cases hh),?_⟩
    simp only[go_sem,zq,zb.after]
    apply hKY
    refine zi ?_
    repeat (first|refine hr4 _ ?_|refine hr3 _ ?_|refine hr2 _ ?_|refine hr1 _ ?_)
    simp only[go_sem]
    exact⟨_,.inr ⟨S0,P1.inv,hL0,rfl⟩⟩
  · refine Zw ?_
    refine zh ?_
    repeat (first|refine hn4 _ ?_|refine he4 _ _ ?_|refine he3 _ _ ?_|refine hn2 _ ?_|refine he2 _ ?_|refine hf2 _ _ (by decide) ?_|refine hn1 _ ?_|refine he1 _ _ ?_)
    refine zf fun X5 hn5 he5 hr5=>?_
    refine zp fun X6 hn6 he6 hf6 hr6=>?_
    have hgc:nr[c]?=some (nr.getD c []):=by
      rw[List.getD_eq_getElem?_getD,List.getElem?_eq_getElem (by omega)];rfl
    have hrl:=hrow c hcn
    have hEc:=fun w=>hE c w hcn
    generalize hrw:nr.getD c []=row at hgc hrl hEc
    refine za fun KY hKY=>?_
    simp only[go_sem,PN,Qc hgc,qg,hnr,hcn,Zo]
    apply hKY
    refine zp fun X7 hn7 he7 hf7 hr7=>?_
    try simp only[go_sem]
    refine zP (α:=Nat×FS×FD) [12,13,36,42,43,49,57,63] (fun(k,S,F)=>[(35,.sc (.int .i64 (k:Int)))]) (fun(k,S,F)=>[some [.imm 1 (Zv nr),.imm 1 (zl m),.own (some 1) (zl F.lab),.own (some 1) (Zd F.out),.own (some 1) (zl F.ev),.own (some 1) (zl F.od),.own (some 1) (zl F.pr),.own (some 1) (zl F.rt),.own (some 2) (zY F.br),.own (some 1) (Zd F.gone),.own (some 1) (zl F.up),.own (some 1) (zl F.bs),.own (some 1) (zl F.mr),.sc (.int .i64 F.tn),.own (some 1) (zJ F.wt),.sc (.int .i64 F.lk)]]) (fun(k,S,F) q=>Qst n E m c (row.drop k) (qy n S0+F0.wt.length) S F∧k≤row.length∧q=row.length - k) ((0,S0,F0)) (row.length) rfl (by first|(simp only[go_sem,zd,ze];done)|with_reducible rfl|rfl) (⟨⟨P1.inv,P1.rp,P1.t0,P1.tn,hco,hLc.pop hEc M.es,rfl⟩,Nat.zero_le _,rfl⟩) ?_
    rintro⟨k,S,F⟩ q ⟨Q,hk,rfl⟩ X8 hn8 he8 hr8
    simp only[go_sem,zd,ze]
    rcases Nat.lt_or_ge k row.length with hk2|hk2
    · have hdx:decide ((k:Int)<(row.length:Int))=true:=decide_eq_true (by omega)
      have hx:row[k]?=some (row[k]):=List.getElem?_eq_getElem hk2
      have hxg:(zJ row)[k]?=some (.sc (.int .i64 ((row[k]:Nat):Int))):=by simp[zJ,hx]
      have hmem:row[k]∈row:=List.getElem_mem hk2
      have hdr:row.drop k=row[k]::row.drop (k+1):=List.drop_eq_getElem_cons hk2
      have Ql:=Q.lk
      generalize hw:row[k]=w at hx hxg hmem hdr
      rw[hdr] at Ql
      have hcw:=(hEc w).1 hmem
      have hwn:=(M.el c w hcw).2.1
      have hL:=ziA nr Q.rp hcn hwn
      unfold FD.obj FD.upd at hL
      simp only at hL
      have i36:(k:Int)<4611686018427387904:=by omega
      by_cases h1:mf m c=(w:Int)
      · have hk0:YL (mf m) S c w=0:=if_pos h1
        obtain⟨j1,j2⟩:=Q.inv.mate_same M Q.oc h1
        rw[hk0] at hL
        refine za fun KY hKY=>?_
        simp only[go_sem,Qr,hdx]
        apply hKY
        refine zf fun X9 hn9 he9 hr9=>?_
        refine Zw ?_
        refine zh ?_
        repeat (first|refine hn9 _ ?_|refine he9 _ _ ?_|refine he8 _ _ ?_|refine hn7 _ ?_|refine he7 _ ?_|refine hf7 _ _ (by decide) ?_|refine hn6 _ ?_|refine he6 _ ?_|refine hf6 _ _ (by decide) ?_|refine hn5 _ ?_|refine he5 _ _ ?_|refine hn4 _ ?_|refine he4 _ _ ?_)
        refine zf fun X10 hn10 he10 hr10=>?_
        refine zp fun X11 hn11 he11 hf11 hr11=>?_
        refine za fun KY hKY=>?_
        simp only[go_sem,yQ,hxg,Zo,hk2]
        apply hKY
        refine za fun KY hKY=>?_
        simp only[go_sem,yP]
        apply zr [] [0] false none rfl
        iterate 8 (first|(simp only[go_sem,zt]<;>rfl)|rfl)
        refine(hL).mono ?_
        rintro _ _ ⟨rfl,up2,lk2,R2,rfl⟩
        refine⟨Nat.le_of_ble_eq_true rfl,(fun hh=>by cases hh),?_⟩
        simp only[go_sem,zq,zb.after]
        apply hKY
        refine zp fun X12 hn12 he12 hf12 hr12=>?_
        refine za fun KY hKY=>?_
        simp only[go_sem,yO]
        apply hKY
        refine Zr ?_
        refine za fun KY hKY=>?_
        simp only[go_sem,Yp]
        apply hKY
        refine Zr ?_
        refine zh ?_
        repeat (first|refine hn12 _ ?_|refine he12 _ ?_|refine hf12 _ _ (by decide) ?_|refine hn11 _ ?_|refine he11 _ ?_|refine hf11 _ _ (by decide) ?_|refine hn10 _ ?_|refine he10 _ _ ?_|refine hn9 _ ?_|refine he9 _ _ ?_|refine he8 _ _ ?_|refine hn7 _ ?_|refine he7 _ ?_|refine hf7 _ _ (by decide) ?_|refine hn6 _ ?_|refine he6 _ ?_|refine hf6 _ _ (by decide) ?_|refine hn5 _ ?_|refine he5 _ _ ?_|refine hn4 _ ?_|refine he4 _ _ ?_)
        refine zn fun KY hKY=>?_
        simp only[go_sem,Qs,zH (show k<4611686018427387904 by omega)]
        apply hKY
        repeat (first|refine hn12 _ ?_|refine he12 _ ?_|refine hf12 _ _ (by decide) ?_|refine hn11 _ ?_|refine he11 _ ?_|refine hf11 _ _ (by decide) ?_|refine hn10 _ ?_|refine he10 _ _ ?_|refine hn9 _ ?_|refine he9 _ _ ?_)
        refine hn8 _ ((k+1,S,⟨F.lab,F.out,F.ev,F.od,F.pr,F.rt,F.br,F.gone,up2,F.bs,F.mr,F.tn,F.wt,lk2⟩)) (row.length - (k+1)) (by omega) (by first|(simp only[go_sem,zd,ze];done)|with_reducible rfl|rfl) ?_
        exact⟨⟨Q.inv,R2,Q.t0,Q.tn,Q.oc,Ql.step Q.oc (Stp.refl _ _) j1 (fun ho=> .inl (j2 ho)),Q.me⟩,hk2,rfl⟩
      · by_cases h2:S.lab w=0
        · have hk0:YL (mf m) S c w=1:=by unfold YL;rw[if_neg h1,if_pos h2]
          obtain⟨x,hxm,hxn,_⟩:=fresh M Q.inv hwn h2
          obtain⟨g1,g2,g3⟩:=zgT M Q.inv (v:=c) (x:=x) F.wt hwn h2 hxm
          have hng:=zeG M Q.inv (v:=c) hwn h2 hxm
          have G1:=(zgU M Q.inv Q.oc hcw h2 hxm).1
          have hGr:=fun(F':FD) (R':Rp n m S F')=>ziM nr M Q.inv R' hn Q.oc hwn h2 hxm
          unfold FD.obj at hGr
          rw[hk0] at hL
          refine za fun KY hKY=>?_
          simp only[go_sem,Qr,hdx]
          apply hKY
          refine zf fun X13 hn13 he13 hr13=>?_
          refine Zw ?_
          refine zh ?_
          repeat (first|refine hn13 _ ?_|refine he13 _ _ ?_|refine he8 _ _ ?_|refine hn7 _ ?_|refine he7 _ ?_|refine hf7 _ _ (by decide) ?_|refine hn6 _ ?_|refine he6 _ ?_|refine hf6 _ _ (by decide) ?_|refine hn5 _ ?_|refine he5 _ _ ?_|refine hn4 _ ?_|refine he4 _ _ ?_)
          refine zf fun X14 hn14 he14 hr14=>?_
          refine zp fun X15 hn15 he15 hf15 hr15=>?_
          refine za fun KY hKY=>?_
          simp only[go_sem,yQ,hxg,Zo,hk2]
          apply hKY
          refine za fun KY hKY=>?_
          simp only[go_sem,yP]
          apply zr [] [0] false none rfl
          iterate 8 (first|(simp only[go_sem,zt]<;>rfl)|rfl)
          refine(hL).mono ?_
          rintro _ _ ⟨rfl,up2,lk2,R2,rfl⟩
          refine⟨Nat.le_of_ble_eq_true rfl,(fun hh=>by cases hh),?_⟩
          simp only[go_sem,zq,zb.after]
          apply hKY
          refine zp fun X16 hn16 he16 hf16 hr16=>?_
          refine za fun KY hKY=>?_
          simp only[go_sem,yO]
          apply hKY
          refine Zw ?_
          refine zn fun KY hKY=>?_
          simp only[go_sem,VR]
          apply zr [] [0] false none rfl
          iterate 8 (first|(simp only[go_sem,zt]<;>rfl)|rfl)
          refine(hGr _ R2).mono ?_
          rintro _ _ ⟨rfl,F3,R3,hw3,ht3,rfl⟩
          refine⟨Nat.le_of_ble_eq_true rfl,(fun hh=>by cases hh),?_⟩
          simp only[go_sem,zq,zb.after]
          apply hKY
          repeat (first|refine hn16 _ ?_|refine he16 _ ?_|refine hf16 _ _ (by decide) ?_|refine hn15 _ ?_|refine he15 _ ?_|refine hf15 _ _ (by decide) ?_|refine hn14 _ ?_|refine he14 _ _ ?_|refine hn13 _ ?_|refine he13 _ _ ?_|refine he8 _ _ ?_|refine hn7 _ ?_|refine he7 _ ?_|refine hf7 _ _ (by decide) ?_|refine hn6 _ ?_|refine he6 _ ?_|refine hf6 _ _ (by decide) ?_|refine hn5 _ ?_|refine he5 _ _ ?_|refine hn4 _ ?_|refine he4 _ _ ?_)
          refine zn fun KY hKY=>?_
          simp only[go_sem,Qs,zH (show k<4611686018427387904 by omega)]
          apply hKY
          repeat (first|refine hn16 _ ?_|refine he16 _ ?_|refine hf16 _ _ (by decide) ?_|refine hn15 _ ?_|refine he15 _ ?_|refine hf15 _ _ (by decide) ?_|refine hn14 _ ?_|refine he14 _ _ ?_|refine hn13 _ ?_|refine he13 _ _ ?_)
          refine hn8 _ ((k+1,Z5 S c w x,F3)) (row.length - (k+1)) (by omega) (by first|(simp only[go_sem,zd,ze];done)|with_reducible rfl|rfl) ?_
          have hw3':F3.wt=F.wt++[x]:=hw3
          have ht3':F3.tn=F.tn:=ht3
          rw[←hw3'] at g1
          have Qm:=Q.me
          have Qt:=Q.tn
          have Q0:=Q.t0
          refine⟨⟨G1,R3,by omega,by omega,?_,Ql.step Q.oc g1 g2 (fun ho=>by rw[g3] at ho;cases ho),?_⟩,hk2,rfl⟩
          · show(decide (c=x)||S.out c)=true
            rw[Q.oc,Bool.or_true]
          · rw[hw3',List.length_append,List.length_singleton];omega
        · by_cases h3:S.out w=true∧S.bs c≠S.bs w
          · have hk0:YL (mf m) S c w=2:=by unfold YL;rw[if_neg h1,if_neg h2,if_pos h3]
            rw[hk0] at hL
            refine za fun KY hKY=>?_
            simp only[go_sem,Qr,hdx]
            apply hKY
            refine zf fun X17 hn17 he17 hr17=>?_
            refine Zw ?_
            refine zh ?_
            repeat (first|refine hn17 _ ?_|refine he17 _ _ ?_|refine he8 _ _ ?_|refine hn7 _ ?_|refine he7 _ ?_|refine hf7 _ _ (by decide) ?_|refine hn6 _ ?_|refine he6 _ ?_|refine hf6 _ _ (by decide) ?_|refine hn5 _ ?_|refine he5 _ _ ?_|refine hn4 _ ?_|refine he4 _ _ ?_)
            refine zf fun X18 hn18 he18 hr18=>?_
            refine zp fun X19 hn19 he19 hf19 hr19=>?_
            refine za fun KY hKY=>?_
            simp only[go_sem,yQ,hxg,Zo,hk2]
            apply hKY
            refine za fun KY hKY=>?_
            simp only[go_sem,yP]
            apply zr [] [0] false none rfl
            iterate 8 (first|(simp only[go_sem,zt]<;>rfl)|rfl)
            refine(hL).mono ?_
            rintro _ _ ⟨rfl,up2,lk2,R2,rfl⟩
            refine⟨Nat.le_of_ble_eq_true rfl,(fun hh=>by cases hh),?_⟩
            simp only[go_sem,zq,zb.after]
            apply hKY
            refine zp fun X20 hn20 he20 hf20 hr20=>?_
            refine za fun KY hKY=>?_
            simp only[go_sem,yO]
            apply hKY
            refine Zr ?_
            refine za fun KY hKY=>?_
            simp only[go_sem,Yp]
            apply hKY
            refine Zw ?_
            have B1:=zk8 nr R2 hcn
            have B2:=fun(F':FD) (R':Rp n m S F')=>zk8 nr R' hwn
            have hd4:decide ((S.bs c:Int)=(S.bs w:Int))=false:=decide_eq_false (by have:=h3.2;omega)
            unfold FD.obj at B1 B2
            simp only at B1
            have Qm:=Q.me
            have Qt:=Q.tn
            have Q0:=Q.t0
            have hnl:=zdq n S
            refine zf fun X21 hn21 he21 hr21=>?_
            refine za fun KY hKY=>?_
            simp only[go_sem,VQ]
            apply zr [] [0] false none rfl
            iterate 8 (first|(simp only[go_sem,zt]<;>rfl)|rfl)
            refine(B1.less (by simp)).mono ?_
            rintro _ _ ⟨rfl,F3,R3,hw3,ht3,rfl⟩
            refine⟨Nat.le_of_ble_eq_true rfl,(fun hh=>by cases hh),?_⟩
            simp only[go_sem,zq,zb.after]
            apply zr [] [0] false none rfl
            iterate 8 (first|(simp only[go_sem,zt]<;>rfl)|rfl)
            refine((B2 F3 R3).less (by simp)).mono ?_
            rintro _ _ ⟨rfl,F4,R4,hw4,ht4,rfl⟩
            refine⟨Nat.le_of_ble_eq_true rfl,(fun hh=>by cases hh),?_⟩
            simp only[go_sem,zq,zb.after,hd4]
            apply hKY
            refine Zr ?_
            refine zh ?_
            repeat (first|refine hn21 _ ?_|refine he21 _ _ ?_|refine hn20 _ ?_|refine he20 _ ?_|refine hf20 _ _ (by decide) ?_|refine hn19 _ ?_|refine he19 _ ?_|refine hf19 _ _ (by decide) ?_|refine hn18 _ ?_|refine he18 _ _ ?_|refine hn17 _ ?_|refine he17 _ _ ?_|refine he8 _ _ ?_|refine hn7 _ ?_|refine he7 _ ?_|refine hf7 _ _ (by decide) ?_|refine hn6 _ ?_|refine he6 _ ?_|refine hf6 _ _ (by decide) ?_|refine hn5 _ ?_|refine he5 _ _ ?_|refine hn4 _ ?_|refine he4 _ _ ?_)
            by_cases hrt:S.rt c=S.rt w
            · have J:=zgG nr M Q.inv R4 hn (by omega) Q.oc h3.1 hcw h3.2 hrt
              unfold FD.obj at J
              refine za fun KY hKY=>?_
              simp only[go_sem,W0]
              apply zr [] [0] false none rfl
              iterate 8 (first|(simp only[go_sem,zt]<;>rfl)|rfl)
              refine(J).mono ?_
              rintro _ _ ⟨rfl,T,F5,T1,R5,hst,hou,hb,hl,hno,hno1,ht5,rfl⟩
              refine⟨Nat.le_of_ble_eq_true rfl,(fun hh=>by cases hh),?_⟩
              simp only[go_sem,zq,zb.after]
              apply hKY
              refine za fun KY hKY=>?_
              simp only[go_sem,WZ]
              apply hKY
              refine Zr ?_
              refine zh ?_
              repeat (first|refine hn21 _ ?_|refine he21 _ _ ?_|refine hn20 _ ?_|refine he20 _ ?_|refine hf20 _ _ (by decide) ?_|refine hn19 _ ?_|refine he19 _ ?_|refine hf19 _ _ (by decide) ?_|refine hn18 _ ?_|refine he18 _ _ ?_|refine hn17 _ ?_|refine he17 _ _ ?_|refine he8 _ _ ?_|refine hn7 _ ?_|refine he7 _ ?_|refine hf7 _ _ (by decide) ?_|refine hn6 _ ?_|refine he6 _ ?_|refine hf6 _ _ (by decide) ?_|refine hn5 _ ?_|refine he5 _ _ ?_|refine hn4 _ ?_|refine he4 _ _ ?_)
              refine zn fun KY hKY=>?_
              simp only[go_sem,Qs,zH (show k<4611686018427387904 by omega)]
              rw[hw4,hw3] at hst hno
              apply hKY
              repeat (first|refine hn21 _ ?_|refine he21 _ _ ?_|refine hn20 _ ?_|refine he20 _ ?_|refine hf20 _ _ (by decide) ?_|refine hn19 _ ?_|refine he19 _ ?_|refine hf19 _ _ (by decide) ?_|refine hn18 _ ?_|refine he18 _ _ ?_|refine hn17 _ ?_|refine he17 _ _ ?_)
              refine hn8 _ ((k+1,T,F5)) (row.length - (k+1)) (by omega) (by first|(simp only[go_sem,zd,ze];done)|with_reducible rfl|rfl) ?_
              exact⟨⟨T1,R5,by omega,by omega,hou c Q.oc,Ql.step Q.oc hst hl (fun _=> .inl hb.symm),by omega⟩,hk2,rfl⟩
            · have J:=zeU nr M Q.inv R4 hn Q.oc h3.1 hcw hrt
              unfold FD.obj at J
              refine za fun KY hKY=>?_
              simp only[go_sem,W0]
              apply zr [] [0] false none rfl
              iterate 8 (first|(simp only[go_sem,zt]<;>rfl)|rfl)
              refine(J).mono ?_
              rintro _ _ ⟨l,hA,rfl,F5,rfl⟩
              cases l with
              |nil=>obtain⟨z,hz,_⟩:=hA.fr;simp at hz
              | cons a l=>
                have hnn:zJ (a::l)= .sc (.int .i64 (a:Int))::zJ l:=rfl
                refine⟨Nat.le_of_ble_eq_true rfl,(fun hh=>by cases hh),?_⟩
                simp only[go_sem,zq,zb.after]
                apply hKY
                refine za fun KY hKY=>?_
                simp only[go_sem,WZ,hnn]
                apply hKY
                refine Zw ?_
                refine zw fun KY hKY=>?_
                simp only[go_sem,VP]
                apply hKY
                refine zi ?_
                repeat (first|refine hr21 _ ?_|refine hr20 _ ?_|refine hr19 _ ?_|refine hr18 _ ?_|refine hr17 _ ?_|refine hr8 _ ?_|refine hr7 _ ?_|refine hr6 _ ?_|refine hr5 _ ?_|refine hr4 _ ?_|refine hr3 _ ?_|refine hr2 _ ?_|refine hr1 _ ?_)
                simp only[go_sem]
                exact⟨_,.inl ⟨a::l,hA,rfl⟩⟩
          · have hk0:YL (mf m) S c w=0:=by unfold YL;rw[if_neg h1,if_neg h2,if_neg h3]
            rw[hk0] at hL
            refine za fun KY hKY=>?_
            simp only[go_sem,Qr,hdx]
            apply hKY
            refine zf fun X22 hn22 he22 hr22=>?_
            refine Zw ?_
            refine zh ?_
            repeat (first|refine hn22 _ ?_|refine he22 _ _ ?_|refine he8 _ _ ?_|refine hn7 _ ?_|refine he7 _ ?_|refine hf7 _ _ (by decide) ?_|refine hn6 _ ?_|refine he6 _ ?_|refine hf6 _ _ (by decide) ?_|refine hn5 _ ?_|refine he5 _ _ ?_|refine hn4 _ ?_|refine he4 _ _ ?_)
            refine zf fun X23 hn23 he23 hr23=>?_
            refine zp fun X24 hn24 he24 hf24 hr24=>?_
            refine za fun KY hKY=>?_
            simp only[go_sem,yQ,hxg,Zo,hk2]
            apply hKY
            refine za fun KY hKY=>?_
            simp only[go_sem,yP]
            apply zr [] [0] false none rfl
            iterate 8 (first|(simp only[go_sem,zt]<;>rfl)|rfl)
            refine(hL).mono ?_
            rintro _ _ ⟨rfl,up2,lk2,R2,rfl⟩
            refine⟨Nat.le_of_ble_eq_true rfl,(fun hh=>by cases hh),?_⟩
            simp only[go_sem,zq,zb.after]
            apply hKY
            refine zp fun X25 hn25 he25 hf25 hr25=>?_
            refine za fun KY hKY=>?_
            simp only[go_sem,yO]
            apply hKY
            refine Zr ?_
            refine za fun KY hKY=>?_
            simp only[go_sem,Yp]
            apply hKY
            refine Zr ?_
            refine zh ?_
            repeat (first|refine hn25 _ ?_|refine he25 _ ?_|refine hf25 _ _ (by decide) ?_|refine hn24 _ ?_|refine he24 _ ?_|refine hf24 _ _ (by decide) ?_|refine hn23 _ ?_|refine he23 _ _ ?_|refine hn22 _ ?_|refine he22 _ _ ?_|refine he8 _ _ ?_|refine hn7 _ ?_|refine he7 _ ?_|refine hf7 _ _ (by decide) ?_|refine hn6 _ ?_|refine he6 _ ?_|refine hf6 _ _ (by decide) ?_|refine hn5 _ ?_|refine he5 _ _ ?_|refine hn4 _ ?_|refine he4 _ _ ?_)
            refine zn fun KY hKY=>?_
            simp only[go_sem,Qs,zH (show k<4611686018427387904 by omega)]
            apply hKY
            repeat (first|refine hn25 _ ?_|refine he25 _ ?_|refine hf25 _ _ (by decide) ?_|refine hn24 _ ?_|refine he24 _ ?_|refine hf24 _ _ (by decide) ?_|refine hn23 _ ?_|refine he23 _ _ ?_|refine hn22 _ ?_|refine he22 _ _ ?_)
            refine hn8 _ ((k+1,S,⟨F.lab,F.out,F.ev,F.od,F.pr,F.rt,F.br,F.gone,up2,F.bs,F.mr,F.tn,F.wt,lk2⟩)) (row.length - (k+1)) (by omega) (by first|(simp only[go_sem,zd,ze];done)|with_reducible rfl|rfl) ?_
            exact⟨⟨Q.inv,R2,Q.t0,Q.tn,Q.oc,Ql.step Q.oc (Stp.refl _ _) h2 (fun ho=> .inl (Decidable.byContradiction fun e=>h3 ⟨ho,fun e2=>e e2.symm⟩)),Q.me⟩,hk2,rfl⟩
    have hdx:decide ((k:Int)<(row.length:Int))=false:=decide_eq_false (by omega)
    obtain rfl:k=row.length:=by omega
    have QL:=Q.lk
    rw[List.drop_length] at QL
    obtain⟨o,e1,e2,P2,hme⟩:=Pst.pop Q.inv Q.rp Q.t0 Q.tn QL.done
    have hX1:=hX0 F
    rw[e1,e2] at hX1
    have hQm:=Q.me
    have hi1:(if(some c).isSome=true then 1 else 0:Nat)=1:=rfl
    refine za fun KY hKY=>?_
    simp only[go_sem,Qr,hdx]
    apply hKY
    refine zf fun X26 hn26 he26 hr26=>?_
    refine Zr ?_
    refine zy ?_
    repeat (first|refine hn26 _ ?_|refine he26 _ _ ?_|refine he8 _ _ ?_|refine hn7 _ ?_|refine he7 _ ?_|refine hf7 _ _ (by decide) ?_|refine hn6 _ ?_|refine he6 _ ?_|refine hf6 _ _ (by decide) ?_|refine hn5 _ ?_|refine he5 _ _ ?_|refine hn4 _ ?_|refine he4 _ _ ?_|refine he3 _ _ ?_|refine hn2 _ ?_|refine he2 _ ?_|refine hf2 _ _ (by decide) ?_|refine hn1 _ ?_|refine he1 _ _ ?_)
    refine zn fun KY hKY=>?_
    simp only[go_sem,VO]
    apply zr [] [0] false none rfl
    iterate 8 (first|(simp only[go_sem,zt]<;>rfl)|rfl)
    refine(hX1).mono ?_
    rintro _ _ ⟨rfl,rfl⟩
    refine⟨Nat.le_of_ble_eq_true rfl,(fun hh=>by cases hh),?_⟩
    simp only[go_sem,zq,zb.after]
    apply hKY
    repeat (first|refine hn26 _ ?_|refine he26 _ _ ?_|refine he8 _ _ ?_|refine hn7 _ ?_|refine he7 _ ?_|refine hf7 _ _ (by decide) ?_|refine hn6 _ ?_|refine he6 _ ?_|refine hf6 _ _ (by decide) ?_|refine hn5 _ ?_|refine he5 _ _ ?_|refine hn4 _ ?_|refine he4 _ _ ?_)
    refine hn3 _ ((S,{F with wt:=F.wt.tail},o)) (qy n S+F.wt.tail.length+(if o.isSome=true then 1 else 0)) (by omega) (by first|(simp only[go_sem,zd,ze];done)|with_reducible rfl|rfl) ?_
    exact⟨P2,rfl⟩
theorem u64_in (n:Nat)(hn:n≤4096):IntKind.u64.wrap (n:Int)=(n:Int):=IntWalk.u64_in _ (by omega)
theorem zh1 (n:Nat)(hn:n≤4096):(BitVec.ofInt 64 (n:Int)&&&BitVec.ofInt 64 4294967295).toNat=n:=by
 rw[BitVec.toNat_and,BitVec.toNat_ofInt,BitVec.toNat_ofInt]
 have e1:((n:Int)%((2^64:Nat):Int)).toNat=n:=by omega
 have e2:((4294967295:Int)%((2^64:Nat):Int)).toNat=2^32 - 1:=by decide
 rw[e1,e2,Nat.and_two_pow_sub_one_eq_mod]
 omega
theorem kU (n:Nat)(hn:n≤4096):(n:Int).fdiv (2^32)=0:=by
 rw[Int.fdiv_eq_ediv_of_nonneg _ (by decide)]
 omega
def XW (a b:Int):Int:=IntKind.u64.wrap ((BitVec.ofInt 64 a&&&BitVec.ofInt 64 b).toNat:Int)
theorem zhO (a b:Int):X0 .and .u64 a b=some (.int .u64 (XW a b)):=rfl
theorem K5 (a:Int):wB .shr .u64 a 32=some (.int .u64 (a.fdiv (2^32))):=rfl
theorem zcA (n:Nat)(hn:n≤4096):XW (n:Int) 4294967295=(n:Int):=by
 unfold XW
 rw[zh1 n hn];exact u64_in n hn
theorem zgy (n:Nat)(hn:n≤4096):zo Try.prog [] zjf [.sc (.int .u64 1),.sc (.int .u64 (n:Int))] [] fun r h'=>r= .tup [.sc (.int .u64 0),.sc (.int .u64 (n:Int))]∧h'=[]:=by
 have s1:(1:Int).fdiv (2^32)=0:=kU 1 (by omega)
 have sn:(n:Int).fdiv (2^32)=0:=kU n hn
 have s0:(0:Int).fdiv (2^32)=0:=kU 0 (by omega)
 have w0:IntKind.u64.wrap 0=0:=rfl
 have w1:IntKind.u64.wrap 1=1:=rfl
 have wn:=u64_in n hn
 have a0:XW 0 4294967295=0:=zcA 0 (by omega)
 have a1:XW 1 4294967295=1:=zcA 1 (by omega)
 have an:=zcA n hn
 have m1:IntKind.u64.wrap (1*(n:Int))=(n:Int):=by rw[Int.one_mul];exact wn
 have m0:IntKind.u64.wrap (0*(n:Int))=0:=by rw[Int.zero_mul];exact w0
 have m2:IntKind.u64.wrap (1*0)=0:=rfl
 have m3:IntKind.u64.wrap (0*0)=0:=rfl
 have m4:IntKind.u64.wrap (0+0)=0:=rfl
 refine zlE rfl ?_
 unfold zkc jk
 refine za fun KY hKY=>?_
 simp only[go_sem,Gt]
 apply hKY
 refine za fun KY hKY=>?_
 simp only[go_sem,Gs,↓zhO,a1]
 apply hKY
 refine za fun KY hKY=>?_
 simp only[go_sem,Gr,↓K5,s1]
 apply hKY
 refine za fun KY hKY=>?_
 simp only[go_sem,Gq,↓zhO,an]
 apply hKY
 refine za fun KY hKY=>?_
 simp only[go_sem,Gp,↓K5,sn]
 apply hKY
 refine za fun KY hKY=>?_
 simp only[go_sem,Gn,m1,w0,s0,sn,a0,m1,m4,Int.zero_add,Int.add_zero]
 apply hKY
 refine za fun KY hKY=>?_
 simp only[go_sem,Gm,↓K5,sn,m0,m4,w0,s0,sn,a0,m1,m4,Int.zero_add,Int.add_zero]
 apply hKY
 refine za fun KY hKY=>?_
 simp only[go_sem,Gk,↓zhO,a0,w0,s0,sn,a0,m1,m4,Int.zero_add,Int.add_zero]
 apply hKY
 refine za fun KY hKY=>?_
 simp only[go_sem,Gj,↓K5,s0,w0,s0,sn,a0,m1,m4,Int.zero_add,Int.add_zero]
 apply hKY
 refine za fun KY hKY=>?_
 simp only[go_sem,Gi,m2,m4,w0,s0,sn,a0,m1,m4,Int.zero_add,Int.add_zero]
 apply hKY
 refine za fun KY hKY=>?_
 simp only[go_sem,VB,↓K5,s0,m3,m4,w0,s0,sn,a0,m1,m4,Int.zero_add,Int.add_zero]
 apply hKY
 refine za fun KY hKY=>?_
 simp only[go_sem,VA,m1,w0,s0,sn,a0,m1,m4,Int.zero_add,Int.add_zero]
 apply hKY
 refine zi ?_
 simp only[go_sem]
theorem zls (n:Nat)(hn:n≤4096):zo Try.prog [] zjm [.sc (.int .u64 1),.sc (.int .u64 (n:Int))] [] fun r h'=>r= .tup [.sc (.int .u64 0),.sc (.int .u64 (n:Int))]∧h'=[]:=by
 refine zlM rfl ?_
 unfold zkk Q8
 refine za fun KY hKY=>?_
 simp only[go_sem,G6]
 apply hKY
 refine zf fun X1 hn1 he1 hr1=>?_
 refine Zr ?_
 refine zh ?_
 repeat (first|refine hn1 _ ?_|refine he1 _ _ ?_)
 refine za fun KY hKY=>?_
 simp only[go_sem,G5]
 apply zr [] [] false none rfl
 iterate 8 (first|(simp only[go_sem,zt]<;>rfl)|rfl)
 refine(zgy n hn).mono ?_
 rintro _ _ ⟨rfl,rfl⟩
 refine⟨Nat.le_of_ble_eq_true rfl,(fun hh=>by cases hh),?_⟩
 simp only[go_sem,zq,zb.after]
 apply hKY
 refine za fun KY hKY=>?_
 simp only[go_sem,G4]
 apply hKY
 refine zi ?_
 repeat (first|refine hr1 _ ?_)
 simp only[go_sem]
def rpt (x:Int)(n k:Nat):List Int:=List.replicate k x++List.replicate (n - k) 0
theorem zin {x:Int}{n k:Nat}(h:k≤n):(rpt x n k).length=n:=by simp[rpt];omega
theorem zeu (x:Int)(n:Nat)(hn:n≤4096):zo Try.prog [] zju [.own (some 1) (zl [x]),.sc (.int .i64 (n:Int))] [] fun r h'=>(n=0∧r= .own (some 1) []∧h'=[])∨(0<n∧r= .sl 0 0 n 1∧h'=[some (zl (List.replicate n x))]):=by
 have hd1:decide ((n:Int)<0)=false:=decide_eq_false (by omega)
 have hd2:decide ((9223372036854775807:Int)<(n:Int))=false:=decide_eq_false (by omega)
 have w1:IntKind.u64.wrap 1=1:=rfl
 have wn:=u64_in n hn
 have wi:IntKind.i64.wrap (n:Int)=(n:Int):=IntWalk.i64_in _ (by omega)
 have hm1:8*n≤140737488355328∧(n:Int)≤9223372036854775807:=by omega
 refine zlU rfl ?_
 unfold zks j7
 refine za fun KY hKY=>?_
 simp only[go_sem,p7]
 apply hKY
 refine ZB [0,0] (by simp only[go_sem];rfl) ?_
 simp only[go_sem]
 refine zf fun X1 hn1 he1 hr1=>?_
 refine za fun KY hKY=>?_
 simp only[go_sem,p6,hd1]
 apply hKY
 refine Zr ?_
 refine zh ?_
 repeat (first|refine hn1 _ ?_|refine he1 _ _ ?_)
 refine za fun KY hKY=>?_
 simp only[go_sem,p5,zj,w1,wn]
 apply zr [] [] false none rfl
 iterate 8 (first|(simp only[go_sem,zt]<;>rfl)|rfl)
 refine(zls n hn).mono ?_
 rintro _ _ ⟨rfl,rfl⟩
 refine⟨Nat.le_of_ble_eq_true rfl,(fun hh=>by cases hh),?_⟩
 simp only[go_sem,zq,zb.after]
 apply hKY
 refine zf fun X2 hn2 he2 hr2=>?_
 refine za fun KY hKY=>?_
 simp only[go_sem,pZ,hd2]
 apply hKY
 refine Zr ?_
 refine zh ?_
 repeat (first|refine hn2 _ ?_|refine he2 _ _ ?_|refine hn1 _ ?_|refine he1 _ _ ?_)
 refine za fun KY hKY=>?_
 simp only[go_sem,pY,wi,hm1,Int.le_refl,wc]
 apply hKY
 have e1:(zl [x]).length / 1=1:=by simp[zl]
 rcases Nat.eq_zero_or_pos n with h0|h0
 · subst h0
   have e0:zl (List.replicate 0 (0:Int))=[]:=rfl
   have hdz:decide ((0:Int)<0)=false:=rfl
   rw[e0]
   refine za fun KY hKY=>?_
   simp only[go_sem,uY]
   apply hKY
   refine zf fun X3 hn3 he3 hr3=>?_
   refine zp fun X4 hn4 he4 hf4 hr4=>?_
   try simp only[go_sem]
   refine zP (α:=Unit) [37] (fun u=>[]) (fun u=>[]) (fun u q=>q=0) (()) (0) rfl (by first|(simp only[go_sem,zd,ze];done)|with_reducible rfl|rfl) (rfl) ?_
   rintro u q rfl X5 hn5 he5 hr5
   simp only[go_sem,zd,ze]
   refine zf fun X6 hn6 he6 hr6=>?_
   refine za fun KY hKY=>?_
   simp only[go_sem,Wa,hdz]
   apply hKY
   refine Zr ?_
   refine zy ?_
   repeat (first|refine hn6 _ ?_|refine he6 _ _ ?_|refine he5 _ _ ?_|refine hn4 _ ?_|refine he4 _ ?_|refine hf4 _ _ (by decide) ?_|refine hn3 _ ?_|refine he3 _ _ ?_|refine hn2 _ ?_|refine he2 _ _ ?_|refine hn1 _ ?_|refine he1 _ _ ?_)
   refine za fun KY hKY=>?_
   simp only[go_sem,WY]
   apply hKY
   refine zi ?_
   repeat (first|refine hr6 _ ?_|refine hr5 _ ?_|refine hr4 _ ?_|refine hr3 _ ?_|refine hr2 _ ?_|refine hr1 _ ?_)
   simp only[go_sem]
 · have hne:zl (List.replicate n (0:Int))≠ []:=fun h=>by
    have:=congrArg List.length h
    simp[zl] at this;omega
   refine zfK [0,7] (by simp only[go_sem];rfl) hne ?_
   simp only[go_sem,zj,List.length_replicate]
   have c0:zl ((List.replicate n (0:Int)).set 0 x)=zl (rpt x n 1):=by
    obtain⟨k,rfl⟩:∃k,n=k+1:=⟨n - 1,by omega⟩
    rfl
   have x1:zl [x]=[.sc (.int .i64 x)]:=rfl
   have hmn:min 1 n=1:=by omega
   refine za fun KY hKY=>?_
   simp only[go_sem,uY,hmn,h0,e1,List.length_replicate,c0,x1,Nat.min_self]
   apply hKY
   refine zf fun X7 hn7 he7 hr7=>?_
   refine zp fun X8 hn8 he8 hf8 hr8=>?_
   try simp only[go_sem]
   refine zP (α:=Nat) [37] (fun k=>[(8,.sc (.int .i64 (k:Int)))]) (fun k=>[some (zl (rpt x n k))]) (fun k q=>1≤k∧k≤n∧q=n - k) (1) (n - 1) rfl (by first|(simp only[go_sem,zd,ze];done)|with_reducible rfl|rfl) (⟨Nat.le_refl _,h0,rfl⟩) ?_
   rintro k q ⟨hk1,hk,rfl⟩ X9 hn9 he9 hr9
   simp only[go_sem,zd,ze]
   rcases Nat.lt_or_ge k n with hk2|hk2
   · have hdx:decide ((k:Int)<(n:Int))=true:=decide_eq_true (by omega)
     have hlen:=zin (x:=x) hk
     have hsrc:List.take k (zl (rpt x n k))=zl (List.replicate k x):=by
      unfold rpt zl
      rw[List.map_append,List.take_append_of_le_length (by simp),List.take_of_length_le (by simp)]
     have hset:Zp (zl (rpt x n k)) k (List.take (min k (n - k)) (zl (List.replicate k x)))=zl (rpt x n (k+min k (n - k))):=by
      rw[yu _ _ _ (by simp[zl,hlen];omega)]
      have hl2:(List.take (min k (n - k)) (zl (List.replicate k x))).length=min k (n - k):=by simp[zl]
      rw[hl2,hsrc]
      have h3:List.drop (k+min k (n - k)) (zl (rpt x n k))=zl (List.replicate (n - (k+min k (n - k))) 0):=by
       unfold rpt zl
       rw[List.map_append,List.drop_append,List.drop_of_length_le (by simp)]
       simp
       omega
      rw[h3]
      unfold rpt zl
      rw[←List.map_take,←List.map_append,←List.map_append,List.take_replicate]
      congr 2
      rw[List.replicate_append_replicate]
      congr 1
      omega
     have hwk:IntKind.i64.wrap ((k:Int)+((min k (n - k):Nat):Int))=((k+min k (n - k):Nat):Int):=by rw[IntWalk.i64_in _ (by omega)];omega
     have hcopy:=qZ (List.replicate k x)
     have hlk:k+min k (n - k)≤n:=by omega
     refine zf fun X10 hn10 he10 hr10=>?_
     refine za fun KY hKY=>?_
     simp only[go_sem,Wa,hdx]
     apply hKY
     refine Zw ?_
     refine zh ?_
     repeat (first|refine hn10 _ ?_|refine he10 _ _ ?_|refine he9 _ _ ?_|refine hn8 _ ?_|refine he8 _ ?_|refine hf8 _ _ (by decide) ?_|refine hn7 _ ?_|refine he7 _ _ ?_|refine hn2 _ ?_|refine he2 _ _ ?_|refine hn1 _ ?_|refine he1 _ _ ?_)
     refine zp fun X11 hn11 he11 hf11 hr11=>?_
     refine Jq fun KY hKY=>?_
     simp only[go_sem,pX,hlen,hk,hk2,zj,Nat.le_of_lt hk2,hsrc,hset,List.length_replicate,hlk,hwk,Nat.le_refl,Nat.sub_zero]
     refine⟨?_,?_⟩
     · apply hKY
       repeat (first|refine hn11 _ ?_|refine he11 _ ?_|refine hf11 _ _ (by decide) ?_|refine hn10 _ ?_|refine he10 _ _ ?_)
       refine hn9 _ (k+min k (n - k)) (n - (k+min k (n - k))) (by omega) (by first|(simp only[go_sem,zd,ze];done)|with_reducible rfl|rfl) ?_
       exact⟨by omega,hlk,rfl⟩
     · apply hKY
       repeat (first|refine hn11 _ ?_|refine he11 _ ?_|refine hf11 _ _ (by decide) ?_|refine hn10 _ ?_|refine he10 _ _ ?_)
       refine hn9 _ (k+min k (n - k)) (n - (k+min k (n - k))) (by omega) (by first|(simp only[go_sem,zd,ze];done)|with_reducible rfl|rfl) ?_
       exact⟨by omega,hlk,rfl⟩
   have hdx:decide ((k:Int)<(n:Int))=false:=decide_eq_false (by omega)
   obtain rfl:k=n:=by omega
   refine zf fun X12 hn12 he12 hr12=>?_
   refine za fun KY hKY=>?_
   simp only[go_sem,Wa,hdx]
   apply hKY
   refine Zr ?_
   refine zy ?_
   repeat (first|refine hn12 _ ?_|refine he12 _ _ ?_|refine he9 _ _ ?_|refine hn8 _ ?_|refine he8 _ ?_|refine hf8 _ _ (by decide) ?_|refine hn7 _ ?_|refine he7 _ _ ?_|refine hn2 _ ?_|refine he2 _ _ ?_|refine hn1 _ ?_|refine he1 _ _ ?_)
   refine za fun KY hKY=>?_
   simp only[go_sem,WY]
   apply hKY
   refine zi ?_
   repeat (first|refine hr12 _ ?_|refine hr9 _ ?_|refine hr8 _ ?_|refine hr7 _ ?_|refine hr2 _ ?_|refine hr1 _ ?_)
   simp only[go_sem]
   exact .inr ⟨h0,by simp[rpt]⟩
end Go.Proofs.Ytmcfdfafeheihaa
