/- The three parts of any small graph are what they are by definition, over all largest matchings; and so are the pieces of D. -/
import Derived.Test.YtkjppnofgmpeeaaPq1
import Derived.Test.YtkjppnofgmpeeaaGolhili5
set_option linter.all false

namespace Go.Ga.Gl
open Go Go.Ga
theorem qb.base {N:Nat}{E:Nat→Nat→Prop}{mt:Nat→Int}{S:FS}(M:Mf N E mt)(I:qb N E mt S){b:Nat}(ho:S.out b=true)(hb:S.bs b=b):(mt b= -1∧S.rt b=(b:Int))∨∃m:Nat,mt b=(m:Int)∧S.lab m=2∧S.out m=false∧S.out (S.pr m)=true∧E m (S.pr m)∧S.rt (S.pr m)=S.rt b∧S.rt m=S.rt b:=by
 have h1:=(I.bo b ho).2.1
 rw[hb] at h1
 rcases I.ev b h1 with h|⟨m,h2,h3⟩
 · exact .inl h
 · obtain⟨_,x,k1,k2,k3,k4,k5,k6⟩:=I.od m h3
   have:=M.sy b m h2
   obtain rfl:x=b:=by omega
   exact .inr ⟨m,h2,h3,I.bm x m ho hb h2,k4,k5,k6.trans k3.symm,k3.symm⟩
theorem Zw {N:Nat}{E:Nat→Nat→Prop}{mt:Nat→Int}{S:FS}(M:Mf N E mt)(I:qb N E mt S){d:Nat→Nat}(hd:∀b m:Nat,S.out b=true→S.bs b=b→mt b=(m:Int)→d (S.bs (S.pr m))<d b){c to:Nat}{xs:List Nat}(h:ZA mt S c to xs):
    S.out c=true→S.bs c=c→(S.out to=true∧S.bs to=to∧S.rt to=S.rt c)∧∀x∈xs,d to<d x∧d x≤d c∧S.out x=true∧S.bs x=x∧S.rt x=S.rt c:=by
  induction h with
  |here b=>intro h1 h2;exact⟨⟨h1,h2,rfl⟩,by simp⟩
  | @up x m to xs hne hm hch ih=>
    intro h1 h2
    rcases I.base M h1 h2 with⟨h3,_⟩|⟨m',h3,h4,h5,h6,h7,h8,h9⟩
    · omega
    · obtain rfl:m'=m:=by omega
      obtain⟨k1,k2,k3,k4⟩:=I.bo _ h6
      obtain⟨⟨j1,j2,j3⟩,j4⟩:=ih k1 k3
      have hdx:=hd x m' h1 h2 hm
      have hrt:S.rt (S.bs (S.pr m'))=S.rt x:=k4.trans h8
      have hdto:d to≤d (S.bs (S.pr m')):=by
        cases hch with
        |here=>exact Nat.le_refl _
        |up=>exact Nat.le_of_lt (j4 _ (by simp)).1
      refine⟨⟨j1,j2,j3.trans hrt⟩,fun y hy=>?_⟩
      rcases List.mem_cons.1 hy with rfl|hy
      · exact⟨by omega,Nat.le_refl _,h1,h2,rfl⟩
      · obtain⟨i1,i2,i3,i4,i5⟩:=j4 y hy
        exact⟨i1,by omega,i3,i4,i5.trans hrt⟩
theorem qO {N:Nat}{E:Nat→Nat→Prop}{mt:Nat→Int}{S:FS}(M:Mf N E mt)(I:qb N E mt S){d:Nat→Nat}(hd:∀b m:Nat,S.out b=true→S.bs b=b→mt b=(m:Int)→d (S.bs (S.pr m))<d b){c to:Nat}{xs:List Nat}(h:ZA mt S c to xs):
    S.out c=true→S.bs c=c→∀x∈xs,∃x1 x2,xs=x1++x::x2∧ZA mt S c x x1∧ZA mt S x to (x::x2):=by
  induction h with
  |here b=>intro _ _ x hx;simp at hx
  | @up x0 m to xs hne hm hch ih=>
    intro h1 h2 x hx
    by_cases e:x=x0
    · subst e
      exact⟨[],xs,rfl,.here x,.up hne hm hch⟩
    · have hx:=(List.mem_cons.1 hx).resolve_left e
      rcases I.base M h1 h2 with⟨h3,_⟩|⟨m',h3,h4,h5,h6,h7,h8,h9⟩
      · omega
      · obtain rfl:m'=m:=by omega
        obtain⟨k1,k2,k3,k4⟩:=I.bo _ h6
        obtain⟨x1,x2,rfl,j1,j2⟩:=ih k1 k3 x hx
        exact⟨x0::x1,x2,rfl,.up (Ne.symm e) hm j1,j2⟩
def jX (mt:Nat→Int)(xs:List Nat)(u:Nat):Bool:=xs.any fun x=>decide (mt x=(u:Int))
theorem ZY {mt:Nat→Int}{xs:List Nat}{u:Nat}:jX mt xs u=true↔∃x∈xs,mt x=(u:Int):=by
 unfold jX;simp only[List.any_eq_true,decide_eq_true_eq]
def shr (mt:Nat→Int)(S:FS)(v w b:Nat)(xs:List Nat):FS:=
 {S with
  out:=fun u=>S.out u||jX mt xs u
  b0:=fun u=>if jX mt xs u=true then v else S.b0 u
  b1:=fun u=>if jX mt xs u=true then w else S.b1 u
  bs:=fun u=>if(decide (S.bs u∈xs)||jX mt xs u)=true then b else S.bs u}
def kM (mt:Nat→Int)(S:FS)(xs ys:List Nat)(u:Nat):Prop:=S.bs u∈xs∨S.bs u∈ys∨(∃x∈xs,mt x=(u:Int))∨∃x∈ys,mt x=(u:Int)
theorem xW {N:Nat}{E:Nat→Nat→Prop}{mt:Nat→Int}{S:FS}(M:Mf N E mt)(I:qb N E mt S){v w b:Nat}{xs ys:List Nat}(hv:S.out v=true)(hw:S.out w=true)(hvw:E v w)(hb:S.bs b=b)(hX:ZA mt S (S.bs v) b xs)(hY:ZA mt S (S.bs w) b ys)(hdj:∀x∈xs,x∉ys):
    let T:=shr mt (shr mt S v w b xs) w v b ys
    qb N E mt T∧zg2 S T∧(∀u,T.out u=true↔S.out u=true∨(∃x∈xs,mt x=(u:Int))∨∃x∈ys,mt x=(u:Int))∧(∀u,(kM mt S xs ys u→T.bs u=b)∧(¬kM mt S xs ys u→T.bs u=S.bs u))∧T.bs v=b∧T.bs w=b:=by
  intro T
  obtain⟨d,hd⟩:=I.dp
  obtain⟨v1,v2,v3,v4⟩:=I.bo v hv
  obtain⟨w1,w2,w3,w4⟩:=I.bo w hw
  obtain⟨⟨bo,_,brv⟩,fX⟩:=Zw M I hd hX v1 v3
  obtain⟨⟨_,_,brw⟩,fY⟩:=Zw M I hd hY w1 w3
  have hbX:b∉xs:=fun h=>by have:=(fX b h).1;omega
  have hbY:b∉ys:=fun h=>by have:=(fY b h).1;omega
  have mate:∀(zs:List Nat),(∀x∈zs,S.out x=true∧S.bs x=x)→∀u x:Nat,x∈zs→mt x=(u:Int)→S.out u=false∧S.lab u=2∧S.rt u=S.rt x∧S.bs u=u:=by
    intro zs hz u x hx hm
    rcases I.base M (hz x hx).1 (hz x hx).2 with⟨h3,_⟩|⟨m',h3,h4,h5,h6,h7,h8,h9⟩
    · omega
    · obtain rfl:m'=u:=by omega
      exact⟨h5,h4,h9,I.bn _ h5⟩
  have mX:=mate xs fun x hx=>⟨(fX x hx).2.2.1,(fX x hx).2.2.2.1⟩
  have mY:=mate ys fun x hx=>⟨(fY x hx).2.2.1,(fY x hx).2.2.2.1⟩
  have xo:∀u,S.bs u∈xs→S.out u=true:=fun u h=>by
    cases ho:S.out u with
    |true=>rfl
    |false=>rw[I.bn u ho] at h;rw[(fX u h).2.2.1] at ho;cases ho
  have yo:∀u,S.bs u∈ys→S.out u=true:=fun u h=>by
    cases ho:S.out u with
    |true=>rfl
    |false=>rw[I.bn u ho] at h;rw[(fY u h).2.2.1] at ho;cases ho
  have nmX:∀u,S.out u=true→jX mt xs u=false:=fun u hu=>by
    rw[Bool.eq_false_iff];intro h
    obtain⟨x,hx,hm⟩:=ZY.1 h
    have:=(mX u x hx hm).1
    rw[hu] at this;cases this
  have nmY:∀u,S.out u=true→jX mt ys u=false:=fun u hu=>by
    rw[Bool.eq_false_iff];intro h
    obtain⟨x,hx,hm⟩:=ZY.1 h
    have:=(mY u x hx hm).1
    rw[hu] at this;cases this
  have Tout:∀u,T.out u=true↔S.out u=true∨(∃x∈xs,mt x=(u:Int))∨∃x∈ys,mt x=(u:Int):=fun u=>by
    show((S.out u||jX mt xs u)||jX mt ys u)=true↔_
    rw[Bool.or_eq_true,Bool.or_eq_true,ZY,ZY,or_assoc]
  have Tbs1:∀u,kM mt S xs ys u→T.bs u=b:=fun u h=>by
    show(if(decide ((if(decide (S.bs u∈xs)||jX mt xs u)=true then b else S.bs u)∈ys)||jX mt ys u)=true then b else if(decide (S.bs u∈xs)||jX mt xs u)=true then b else S.bs u)=b
    by_cases h2:(decide (S.bs u∈xs)||jX mt xs u)=true
    · rw[if_pos h2];split<;>rfl
    · rw[if_neg h2]
      rw[Bool.or_eq_true,decide_eq_true_iff,not_or] at h2
      rw[if_pos]
      rw[Bool.or_eq_true,decide_eq_true_iff,ZY]
      rcases h with h|h|h|h
      · exact absurd h h2.1
      · exact .inl h
      · exact absurd (ZY.2 h) h2.2
      · exact .inr h
  have Tbs2:∀u,¬kM mt S xs ys u→T.bs u=S.bs u:=fun u h=>by
    have h2:¬(decide (S.bs u∈xs)||jX mt xs u)=true:=by
      rw[Bool.or_eq_true,decide_eq_true_iff,ZY]
      rintro(h1|h1)
      · exact h (.inl h1)
      · exact h (.inr (.inr (.inl h1)))
    show(if(decide ((if(decide (S.bs u∈xs)||jX mt xs u)=true then b else S.bs u)∈ys)||jX mt ys u)=true then b else if(decide (S.bs u∈xs)||jX mt xs u)=true then b else S.bs u)=S.bs u
    rw[if_neg h2,if_neg]
    rw[Bool.or_eq_true,decide_eq_true_iff,ZY]
    rintro(h1|h1)
    · exact h (.inr (.inl h1))
    · exact h (.inr (.inr (.inr h1)))
  have nJ:∀u,S.out u=true→S.bs u∉xs→S.bs u∉ys→¬kM mt S xs ys u:=fun u hu h1 h2 h=>by
    rcases h with h|h|h|h
    · exact h1 h
    · exact h2 h
    · have:=nmX u hu;rw[ZY.2 h] at this;cases this
    · have:=nmY u hu;rw[ZY.2 h] at this;cases this
  have bJ:¬kM mt S xs ys b:=nJ b bo (by rw[hb];exact hbX) (by rw[hb];exact hbY)
  have Tb:T.bs b=b:=(Tbs2 b bJ).trans hb
  have G:zg2 S T:={
    lab:=fun _ _=>rfl
    pr:=fun _ _=>rfl
    out:=fun x h=>(Tout x).2 (.inl h)
    b0:=fun x h=>by
      show(if jX mt ys x=true then w else if jX mt xs x=true then v else S.b0 x)=S.b0 x
      rw[nmX x h,nmY x h];rfl
    b1:=fun x h=>by
      show(if jX mt ys x=true then v else if jX mt xs x=true then w else S.b1 x)=S.b1 x
      rw[nmX x h,nmY x h];rfl}
  have Jrt:∀u,kM mt S xs ys u→S.rt u=S.rt b:=fun u h=>by
    rcases h with h|h|⟨x,hx,hm⟩|⟨x,hx,hm⟩
    · rw[brv,←(fX _ h).2.2.2.2];exact(I.bo u (xo u h)).2.2.2.symm
    · rw[brw,←(fY _ h).2.2.2.2];exact(I.bo u (yo u h)).2.2.2.symm
    · rw[brv,←(fX x hx).2.2.2.2];exact(mX u x hx hm).2.2.1
    · rw[brw,←(fY x hx).2.2.2.2];exact(mY u x hx hm).2.2.1
  have nO:∀u,T.out u=true→¬kM mt S xs ys u→S.out u=true:=fun u h hj=>by
    rcases(Tout u).1 h with h|h|h
    · exact h
    · exact absurd (.inr (.inr (.inl h))) hj
    · exact absurd (.inr (.inr (.inr h))) hj
  have onT:∀zs,(∀z∈zs,z∈xs∨z∈ys)→∀y,On mt S zs b y→T.out y=true∧T.bs y=b:=by
    intro zs hz y hy
    rcases hy with⟨h1,h2|h2⟩|⟨h1,x,h2,h3⟩
    · refine⟨(Tout y).2 (.inl h1),Tbs1 y ?_⟩
      rcases hz _ h2 with h|h
      · exact .inl h
      · exact .inr (.inl h)
    · refine⟨(Tout y).2 (.inl h1),?_⟩
      rw[Tbs2 y (nJ y h1 (by rw[h2];exact hbX) (by rw[h2];exact hbY))];exact h2
    · rcases hz _ h2 with h|h
      · exact⟨(Tout y).2 (.inr (.inl ⟨x,h,h3⟩)),Tbs1 y (.inr (.inr (.inl ⟨x,h,h3⟩)))⟩
      · exact⟨(Tout y).2 (.inr (.inr ⟨x,h,h3⟩)),Tbs1 y (.inr (.inr (.inr ⟨x,h,h3⟩)))⟩
  have wayM:∀(p q:Nat) (zs ts:List Nat),S.out p=true→S.out q=true→E p q→ZA mt S (S.bs p) b zs→ZA mt S (S.bs q) b ts→(∀x∈zs,x∉ts)→(∀z∈zs,z∈xs∨z∈ys)→(∀z∈ts,z∈xs∨z∈ys)→∀u x:Nat,x∈zs→mt x=(u:Int)→T.b0 u=p→T.b1 u=q→
      ∃ps,xm mt T u b ps∧qZ mt E u ps b∧(zG ps b).Nodup∧∀y∈zG ps b,T.out y=true∧T.bs y=b:=by
    intro p q zs ts hp hq hpq cz ct hdz hz ht u x hx hm h0 h1
    obtain⟨p1,p2,p3,p4⟩:=I.bo p hp
    obtain⟨q1,q2,q3,q4⟩:=I.bo q hq
    obtain⟨_,fZ⟩:=Zw M I hd cz p1 p3
    obtain⟨_,fT⟩:=Zw M I hd ct q1 q3
    obtain⟨x1,x2,e,c1,c2⟩:=qO M I hd cz p1 p3 x hx
    obtain⟨fo,fb⟩:S.out x=true∧S.bs x=x:=⟨(fZ x hx).2.2.1,(fZ x hx).2.2.2.1⟩
    obtain⟨e1,ps,a1,a2,a3,a4⟩:=Yb M I hd c1 fb p hp rfl
    obtain⟨_,qs,g1,g2,g3,g4⟩:=Yb M I hd ct hb q hq rfl
    obtain⟨mo,ml,mr,mb⟩:=mate zs (fun x hx=>⟨(fZ x hx).2.2.1,(fZ x hx).2.2.2.1⟩) u x hx hm
    have hux:=M.sy x u hm
    have hub:u≠b:=fun h=>by rw[h,bo] at mo;cases mo
    have hx1:∀z∈x1,z∈zs∧z≠x:=fun z hz=>⟨by rw[e];simp[hz],fun h=>by have:=(e1 z hz).1;subst h;omega⟩
    have hup:u∉zG ps x:=fun h=>by
      rcases a4 u h with⟨h,_⟩|⟨_,z,hz,h⟩
      · rw[mo] at h;cases h
      · have:=M.sy z u h
        exact(hx1 z hz).2 (by omega)
    have huq:u∉zG qs b:=fun h=>by
      rcases g4 u h with⟨h,_⟩|⟨_,z,hz,h⟩
      · rw[mo] at h;cases h
      · have:=M.sy z u h
        obtain rfl:z=x:=by omega
        exact hdz z hx hz
    have hpq':∀y∈zG ps x,y∉zG qs b:=fun y hy h=>by
      have hin:(S.out y=true∧S.bs y∈zs)∨(S.out y=false∧∃z∈zs,mt z=(y:Int)):=by
        rcases a4 y hy with⟨k1,k2|k2⟩|⟨k1,z,k2,k3⟩
        · exact .inl ⟨k1,(hx1 _ k2).1⟩
        · exact .inl ⟨k1,by rw[k2];exact hx⟩
        · exact .inr ⟨k1,z,(hx1 _ k2).1,k3⟩
      rcases hin with⟨k1,k2⟩|⟨k1,z,k2,k3⟩<;>rcases g4 y h with⟨j1,j2|j2⟩|⟨j1,z',j2,j3⟩
      · exact hdz _ k2 j2
      · have:=(fZ _ k2).1;rw[j2] at this;omega
      · rw[k1] at j1;cases j1
      · rw[k1] at j1;cases j1
      · rw[k1] at j1;cases j1
      · have s1:=M.sy z y k3
        have s2:=M.sy z' y j3
        obtain rfl:z=z':=by omega
        exact hdz z k2 j2
    have ev:zG ((u,x)::(xu ps++qs)) b=u::(zG ps x).reverse++zG qs b:=by
      simp[zG,jm,qe,vI]
    refine⟨(u,x)::(xu ps++qs),.odd hub ((Tout u).2 ?_) ml hux (by rw[h0];exact a1.goes G) (by rw[h1];exact g1.goes G),qZ.rev M.sy M.es a2 hux hpq g2,?_,?_⟩
    · rcases hz x hx with h|h
      · exact .inr (.inl ⟨x,h,hm⟩)
      · exact .inr (.inr ⟨x,h,hm⟩)
    · rw[ev]
      refine List.nodup_append.2 ⟨List.nodup_cons.2 ⟨by rw[List.mem_reverse];exact hup,?_⟩,g3,?_⟩
      · exact(List.reverse_perm _).nodup_iff.2 a3
      · intro y hy z hz' e
        subst e
        rcases List.mem_cons.1 hy with rfl|hy
        · exact huq hz'
        · exact hpq' y (List.mem_reverse.1 hy) hz'
    · rw[ev]
      intro y hy
      rcases List.mem_append.1 hy with hy|hy
      · rcases List.mem_cons.1 hy with rfl|hy
        · exact onT zs hz y (.inr ⟨mo,x,hx,hm⟩)
        · refine onT zs hz y ?_
          rcases a4 y (List.mem_reverse.1 hy) with⟨k1,k2|k2⟩|⟨k1,z,k2,k3⟩
          · exact .inl ⟨k1,.inl (hx1 _ k2).1⟩
          · exact .inl ⟨k1,.inl (by rw[k2];exact hx)⟩
          · exact .inr ⟨k1,z,(hx1 _ k2).1,k3⟩
      · exact onT ts ht y (g4 y hy)
  have Tv:∀p zs,S.out p=true→ZA mt S (S.bs p) b zs→(∀z∈zs,z∈xs∨z∈ys)→T.bs p=b:=by
    intro p zs hp hc hz
    generalize hbp:S.bs p=c at hc
    cases hc with
    |here=>rw[Tbs2 p (nJ p hp (by rw[hbp];exact hbX) (by rw[hbp];exact hbY))];exact hbp
    | up=>
      refine Tbs1 p ?_
      rcases hz c (by simp) with h|h
      · exact .inl (by rw[hbp];exact h)
      · exact .inr (.inl (by rw[hbp];exact h))
  refine⟨?_,G,Tout,fun u=>⟨Tbs1 u,Tbs2 u⟩,Tv v xs hv hX fun z h=> .inl h,Tv w ys hw hY fun z h=> .inr h⟩
  refine⟨fun u hu=>?_,fun u hu=>(Tout u).2 (.inl (I.e1 u hu)),I.l2,I.fr,fun u hu=>?_,I.ev,fun u hu=>?_,fun u hu=>?_,fun c m hc hcb hm=>?_,fun m x hl ho hm=>?_,⟨d,fun c m hc hcb hm=>?_⟩,fun u hu=>?_⟩
  · rcases(Tout u).1 hu with h|⟨x,hx,h⟩|⟨x,hx,h⟩
    · exact I.o1 u h
    · have:=(mX u x hx h).2.1
      exact⟨(I.od u this).1,by show S.lab u≠0;omega⟩
    · have:=(mY u x hx h).2.1
      exact⟨(I.od u this).1,by show S.lab u≠0;omega⟩
  · obtain⟨h1,x,k1,k2,k3,k4,k5,k6⟩:=I.od u hu
    exact⟨h1,x,k1,k2,k3,(Tout _).2 (.inl k4),k5,k6⟩
  · by_cases hj:kM mt S xs ys u
    · have hbl:S.lab b=1:=by have:=(I.bo b bo).2.1;rwa [hb] at this
      rw[Tbs1 u hj]
      exact⟨(Tout b).2 (.inl bo),hbl,Tb,(Jrt u hj).symm⟩
    · have ho:=nO u hu hj
      obtain⟨k1,k2,k3,k4⟩:=I.bo u ho
      rw[Tbs2 u hj]
      have hj2:¬kM mt S xs ys (S.bs u):=nJ _ k1 (by rw[k3];exact fun h=>hj (.inl h)) (by rw[k3];exact fun h=>hj (.inr (.inl h)))
      exact⟨(Tout _).2 (.inl k1),k2,(Tbs2 _ hj2).trans k3,k4⟩
  · have ho:S.out u=false:=by
      cases h:S.out u with
      |false=>rfl
      |true=>rw[(Tout u).2 (.inl h)] at hu;cases hu
    have hj:¬kM mt S xs ys u:=fun h=>by
      rcases h with h|h|h|h
      · rw[xo u h] at ho;cases ho
      · rw[yo u h] at ho;cases ho
      · rw[(Tout u).2 (.inr (.inl h))] at hu;cases hu
      · rw[(Tout u).2 (.inr (.inr h))] at hu;cases hu
    exact(Tbs2 u hj).trans (I.bn u ho)
  · have hj:¬kM mt S xs ys c:=fun h=>by
      have:=Tbs1 c h
      rw[hcb] at this
      exact bJ (this▸h)
    have ho:=nO c hc hj
    have hcb':=(Tbs2 c hj).symm.trans hcb
    have hmo:=I.bm c m ho hcb' hm
    cases hT:T.out m with
    |false=>rfl
    | true=>
      rcases(Tout m).1 hT with h|⟨x,hx,h⟩|⟨x,hx,h⟩
      · rw[hmo] at h;cases h
      · have s1:=M.sy c m hm
        have s2:=M.sy x m h
        obtain rfl:x=c:=by omega
        exact absurd (.inl (by rw[hcb'];exact hx)) hj
      · have s1:=M.sy c m hm
        have s2:=M.sy x m h
        obtain rfl:x=c:=by omega
        exact absurd (.inr (.inl (by rw[hcb'];exact hx))) hj
  · have ho':S.out m=false:=by
      cases h:S.out m with
      |false=>rfl
      |true=>rw[(Tout m).2 (.inl h)] at ho;cases ho
    have hbx:=I.bx m x hl ho' hm
    have hmx:=M.sy m x hm
    obtain⟨_,x',k1,k2,_⟩:=I.od m hl
    obtain rfl:x'=x:=by omega
    have hxo:=I.e1 x' k2
    refine(Tbs2 x' (nJ x' hxo (fun h=>?_) fun h=>?_)).trans hbx
    · rw[hbx] at h;rw[(Tout m).2 (.inr (.inl ⟨x',h,hmx⟩))] at ho;cases ho
    · rw[hbx] at h;rw[(Tout m).2 (.inr (.inr ⟨x',h,hmx⟩))] at ho;cases ho
  · have hj:¬kM mt S xs ys c:=fun h=>by
      have:=Tbs1 c h
      rw[hcb] at this
      exact bJ (this▸h)
    have ho:=nO c hc hj
    have hcb':=(Tbs2 c hj).symm.trans hcb
    have h1:=hd c m ho hcb' hm
    show d (T.bs (S.pr m))<d c
    by_cases hp:kM mt S xs ys (S.pr m)
    · rw[Tbs1 _ hp]
      rcases hp with h|h|⟨x,hx,h⟩|⟨x,hx,h⟩
      · have:=(fX _ h).1;omega
      · have:=(fY _ h).1;omega
      · have:=(mX _ x hx h).1
        rcases I.base M ho hcb' with⟨h3,_⟩|⟨m',h3,h4,h5,h6,_⟩
        · omega
        · obtain rfl:m'=m:=by omega
          rw[this] at h6;cases h6
      · have:=(mY _ x hx h).1
        rcases I.base M ho hcb' with⟨h3,_⟩|⟨m',h3,h4,h5,h6,_⟩
        · omega
        · obtain rfl:m'=m:=by omega
          rw[this] at h6;cases h6
    · rw[Tbs2 _ hp];exact h1
  · by_cases hj:kM mt S xs ys u
    · rw[Tbs1 u hj]
      have chainW:∀zs c,(∀z∈zs,z∈xs∨z∈ys)→S.out c=true→S.bs c=c→ZA mt S c b zs→S.bs u∈zs→S.out u=true→∃ps,xm mt T u b ps∧qZ mt E u ps b∧(zG ps b).Nodup∧∀y∈zG ps b,T.out y=true∧T.bs y=b:=by
        intro zs c hz hc1 hc2 cz hu2 hu3
        obtain⟨x1,x2,e,c1,c2⟩:=qO M I hd cz hc1 hc2 _ hu2
        obtain⟨_,ps,a1,a2,a3,a4⟩:=Yb M I hd c2 hb u hu3 rfl
        exact⟨ps,a1.goes G,a2,a3,fun y hy=>onT _ (fun z h=>hz z (by rw[e];exact List.mem_append.2 (.inr h))) y (a4 y hy)⟩
      rcases hj with h|h|⟨x,hx,h⟩|⟨x,hx,h⟩
      · exact chainW xs _ (fun z h=> .inl h) v1 v3 hX h (xo u h)
      · exact chainW ys _ (fun z h=> .inr h) w1 w3 hY h (yo u h)
      · have hny:jX mt ys u=false:=by
          rw[Bool.eq_false_iff];intro h'
          obtain⟨x',hx',h'⟩:=ZY.1 h'
          have s1:=M.sy x u h
          have s2:=M.sy x' u h'
          obtain rfl:x=x':=by omega
          exact hdj x hx hx'
        have hyx:=ZY.2 ⟨x,hx,h⟩
        exact wayM v w xs ys hv hw hvw hX hY hdj (fun z h=> .inl h) (fun z h=> .inr h) u x hx h
          (by show(if jX mt ys u=true then w else if jX mt xs u=true then v else S.b0 u)=v;rw[hny,hyx];rfl)
          (by show(if jX mt ys u=true then v else if jX mt xs u=true then w else S.b1 u)=w;rw[hny,hyx];rfl)
      · have hyx:=ZY.2 ⟨x,hx,h⟩
        exact wayM w v ys xs hw hv (M.es _ _ hvw) hY hX (fun y hy h=>hdj y h hy) (fun z h=> .inr h) (fun z h=> .inl h) u x hx h
          (by show(if jX mt ys u=true then w else if jX mt xs u=true then v else S.b0 u)=w;rw[hyx];rfl)
          (by show(if jX mt ys u=true then v else if jX mt xs u=true then w else S.b1 u)=v;rw[hyx];rfl)
    · have ho:=nO u hu hj
      obtain⟨ps,p1,p2,p3,p4⟩:=I.wy u ho
      rw[Tbs2 u hj]
      refine⟨ps,p1.goes G,p2,p3,fun y hy=>?_⟩
      obtain⟨y1,y2⟩:=p4 y hy
      refine⟨(Tout y).2 (.inl y1),?_⟩
      rw[Tbs2 y (nJ y y1 (by rw[y2];exact fun h=>hj (.inl h)) (by rw[y2];exact fun h=>hj (.inr (.inl h))))];exact y2
def fs0 (N:Nat)(mt:Nat→Int):FS where
 lab:=fun v=>if v<N∧mt v= -1 then 1 else 0
 out:=fun v=>decide (v<N∧mt v= -1)
 pr:=fun _=>0
 rt:=fun v=>if v<N∧mt v= -1 then(v:Int) else -1
 b0:=fun _=>0
 b1:=fun _=>0
 bs:=fun v=>v
theorem zhT (N:Nat)(E:Nat→Nat→Prop)(mt:Nat→Int):qb N E mt (fs0 N mt):=by
 have ho:∀v,(fs0 N mt).out v=true↔v<N∧mt v= -1:=fun v=>decide_eq_true_iff
 have hl:∀v,(v<N∧mt v= -1→(fs0 N mt).lab v=1∧(fs0 N mt).rt v=(v:Int))∧(¬(v<N∧mt v= -1)→(fs0 N mt).lab v=0):=fun v=>by
  refine⟨fun h=>⟨if_pos h,if_pos h⟩,fun h=>if_neg h⟩
 have h1:∀v,(fs0 N mt).lab v=1→v<N∧mt v= -1:=fun v h=>by
  by_cases c:v<N∧mt v= -1
  · exact c
  · rw[(hl v).2 c] at h;omega
 have h2:∀v,(fs0 N mt).lab v≠2:=fun v h=>by
  by_cases c:v<N∧mt v= -1
  · rw[((hl v).1 c).1] at h;omega
  · rw[(hl v).2 c] at h;omega
 refine⟨fun v h=>?_,fun v h=>(ho v).2 (h1 v h),fun v=>?_,fun v a b=>(hl v).1 ⟨a,b⟩,fun v h=>absurd h (h2 v),fun v h=> .inl ⟨(h1 v h).2,((hl v).1 (h1 v h)).2⟩,fun v h=>?_,fun v _=>rfl,fun b m h _ hm=>?_,fun m x h _ _=>absurd h (h2 m),⟨fun _=>0,fun b m h _ hm=>?_⟩,fun v h=>?_⟩
 · have:=(ho v).1 h
   exact⟨this.1,by rw[((hl v).1 this).1];omega⟩
 · by_cases c:v<N∧mt v= -1
   · rw[((hl v).1 c).1];omega
   · rw[(hl v).2 c];omega
 · exact⟨h,((hl v).1 ((ho v).1 h)).1,rfl,rfl⟩
 · have:=((ho b).1 h).2;omega
 · have:=((ho b).1 h).2;omega
 · refine⟨[],.here v,.nil v,by simp[zG,jC],fun x hx=>?_⟩
   have hx':x∈zG [] v:=hx
   have:x=v:=by simpa[zG,jC] using hx'
   subst this
   exact⟨h,rfl⟩
def Z6 (S:FS)(v w x:Nat):FS:=
 {S with
  lab:=fun u=>if u=x then 1 else if u=w then 2 else S.lab u
  out:=fun u=>decide (u=x)||S.out u
  pr:=fun u=>if u=w then v else S.pr u
  rt:=fun u=>if u=x then S.rt v else if u=w then S.rt v else S.rt u}
theorem fresh {N:Nat}{E:Nat→Nat→Prop}{mt:Nat→Int}{S:FS}(M:Mf N E mt)(I:qb N E mt S){w:Nat}(hw:w<N)(hl:S.lab w=0):∃x:Nat,mt w=(x:Int)∧x<N∧S.lab x=0∧x≠w∧S.out x=false∧S.out w=false:=by
 rcases M.at_ w hw with h|⟨x,h,hx⟩
 · have:=(I.fr w hw h).1;omega
 · have hs:=M.sy w x h
   have hlx:S.lab x=0:=by
    have h2:=I.l2 x
    rcases(show S.lab x=0∨S.lab x=1∨S.lab x=2 by omega) with e|e|e
    · exact e
    · rcases I.ev x e with⟨k,_⟩|⟨m,k1,k2⟩
      · omega
      · obtain rfl:m=w:=by omega
        omega
    · obtain⟨_,y,k1,k2,_⟩:=I.od x e
      obtain rfl:y=w:=by omega
      omega
   refine⟨x,h,hx,hlx,(M.ne w x h).1,?_,?_⟩
   · cases e:S.out x with
     |false=>rfl
     |true=>have:=(I.o1 x e).2;omega
   · cases e:S.out w with
     |false=>rfl
     |true=>have:=(I.o1 w e).2;omega
theorem zf1 {N : Nat}{E:Nat→Nat→Prop}{mt:Nat→Int}{S:FS}(M:Mf N E mt)(I:qb N E mt S){v w x:Nat}(hv:S.out v=true)(hvw:E v w)(hl:S.lab w=0)(hx:mt w=(x:Int)):qb N E mt (Z6 S v w x)∧zg2 S (Z6 S v w x):=by
 have hwN:=(M.el v w hvw).2.1
 obtain⟨x',k1,hxN,hlx,hxw,hxo,hwo⟩:=fresh M I hwN hl
 obtain rfl:x'=x:=by omega
 have hs:=M.sy w x' hx
 have vw:v≠w:=fun h=>by rw[h,hwo] at hv;cases hv
 have vx:v≠x':=fun h=>by rw[h,hxo] at hv;cases hv
 have Lx:(Z6 S v w x').lab x'=1:=if_pos rfl
 have Lw:(Z6 S v w x').lab w=2:=by show(if w=x' then 1 else if w=w then 2 else S.lab w)=2;rw[if_neg (Ne.symm hxw),if_pos rfl]
 have Lo:∀u,u≠x'→u≠w→(Z6 S v w x').lab u=S.lab u:=fun u h1 h2=>by show(if u=x' then 1 else if u=w then 2 else S.lab u)=_;rw[if_neg h1,if_neg h2]
 have L0:∀u,S.lab u≠0→u≠x'∧u≠w:=fun u h=>⟨fun e=>h (e▸hlx),fun e=>h (e▸hl)⟩
 have Rx:(Z6 S v w x').rt x'=S.rt v:=if_pos rfl
 have Rw:(Z6 S v w x').rt w=S.rt v:=by show(if w=x' then S.rt v else if w=w then S.rt v else S.rt w)=_;rw[if_pos rfl];split<;>rfl
 have Ro:∀u,u≠x'→u≠w→(Z6 S v w x').rt u=S.rt u:=fun u h1 h2=>by show(if u=x' then S.rt v else if u=w then S.rt v else S.rt u)=_;rw[if_neg h1,if_neg h2]
 have Oi:∀u,(Z6 S v w x').out u=true↔u=x'∨S.out u=true:=fun u=>by
  show(decide (u=x')||S.out u)=true↔_
  rw[Bool.or_eq_true,decide_eq_true_iff]
 have O0:∀u,S.out u=true→u≠x'∧u≠w:=fun u h=>L0 u (I.o1 u h).2
 have Of:∀u,(Z6 S v w x').out u=false→u≠x'∧S.out u=false:=fun u h=>by
  constructor
  · intro e;have:=(Oi u).2 (.inl e);rw[h] at this;cases this
  · cases e:S.out u with
    |false=>rfl
    |true=>have:=(Oi u).2 (.inr e);rw[h] at this;cases this
 have Pw:(Z6 S v w x').pr w=v:=if_pos rfl
 have Po:∀u,u≠w→(Z6 S v w x').pr u=S.pr u:=fun u h=>if_neg h
 have G:zg2 S (Z6 S v w x'):={
  lab:=fun u h=>Lo u (L0 u h).1 (L0 u h).2
  pr:=fun u h=>Po u (L0 u (by omega)).2
  out:=fun u h=>(Oi u).2 (.inr h)
  b0:=fun _ _=>rfl
  b1:=fun _ _=>rfl}
 obtain⟨d,hd⟩:=I.dp
 refine⟨⟨fun u h=>?_,fun u h=>?_,fun u=>?_,fun u hu hm=>?_,fun u h=>?_,fun u h=>?_,fun u h=>?_,fun u h=>I.bn u (Of u h).2,fun b m h hb hm=>?_,fun m y h ho hm=>?_,⟨fun u=>if u=x' then d (S.bs v)+1 else d u,fun b m h hb hm=>?_⟩,fun u h=>?_⟩,G⟩
 · rcases(Oi u).1 h with rfl|h
   · exact⟨hxN,by rw[Lx];omega⟩
   · exact⟨(I.o1 u h).1,by rw[Lo u (O0 u h).1 (O0 u h).2];exact(I.o1 u h).2⟩
 · by_cases e:u=x'
   · exact(Oi u).2 (.inl e)
   · by_cases e2:u=w
     · subst e2;rw[Lw] at h;omega
     · rw[Lo u e e2] at h;exact(Oi u).2 (.inr (I.e1 u h))
 · by_cases e:u=x'
   · subst e;rw[Lx];omega
   · by_cases e2:u=w
     · subst e2;rw[Lw];omega
     · rw[Lo u e e2];exact I.l2 u
 · have h1:u≠x':=fun e=>by rw[e] at hm;omega
   have h2:u≠w:=fun e=>by rw[e] at hm;omega
   rw[Lo u h1 h2,Ro u h1 h2]
   exact I.fr u hu hm
 · by_cases e:u=x'
   · subst e;rw[Lx] at h;omega
   · by_cases e2:u=w
     · subst e2
       refine⟨hwN,x',hx,Lx,by rw[Rx,Rw],by rw[Pw];exact(Oi v).2 (.inr hv),by rw[Pw];exact M.es _ _ hvw,by rw[Pw,Rw,Ro v vx vw]⟩
     · rw[Lo u e e2] at h
       obtain⟨h1,y,k1,k2,k3,k4,k5,k6⟩:=I.od u h
       have hy:=L0 y (by omega)
       have hp:=O0 _ k4
       refine⟨h1,y,k1,by rw[Lo y hy.1 hy.2];exact k2,by rw[Ro y hy.1 hy.2,Ro u e e2];exact k3,by rw[Po u e2];exact(Oi _).2 (.inr k4),by rw[Po u e2];exact k5,by rw[Po u e2,Ro _ hp.1 hp.2,Ro u e e2];exact k6⟩
 · by_cases e:u=x'
   · subst e;exact .inr ⟨w,hs,Lw⟩
   · by_cases e2:u=w
     · subst e2;rw[Lw] at h;omega
     · rw[Lo u e e2] at h
       rcases I.ev u h with⟨h1,h2⟩|⟨m,h1,h2⟩
       · exact .inl ⟨h1,by rw[Ro u e e2];exact h2⟩
       · have:=L0 m (by omega)
         exact .inr ⟨m,h1,by rw[Lo m this.1 this.2];exact h2⟩
 · rcases(Oi u).1 h with rfl|h
   · have hbx:S.bs u=u:=I.bn u hxo
     show(Z6 S v w u).out (S.bs u)=true∧(Z6 S v w u).lab (S.bs u)=1∧S.bs (S.bs u)=S.bs u∧(Z6 S v w u).rt (S.bs u)=_
     rw[hbx,hbx]
     exact⟨(Oi u).2 (.inl rfl),Lx,rfl,rfl⟩
   · obtain⟨h1,h2,h3,h4⟩:=I.bo u h
     have hb:=O0 _ h1
     have hu:=O0 u h
     exact⟨(Oi _).2 (.inr h1),(Lo _ hb.1 hb.2).trans h2,h3,(Ro _ hb.1 hb.2).trans (h4.trans (Ro u hu.1 hu.2).symm)⟩
 · rcases(Oi b).1 h with rfl|h
   · obtain rfl:m=w:=by omega
     cases e:(Z6 S v m b).out m with
     |false=>rfl
     | true => rcases(Oi m).1 e with e|e
               · exact absurd e.symm hxw
               · rw[hwo] at e;cases e
   · have hmo := I.bm b m h hb hm
     have hO:=O0 b h
     cases e:(Z6 S v w x').out m with
     |false=>rfl
     | true => rcases(Oi m).1 e with e|e
               · have:=M.sy b m hm
                 rw[e] at this
                 exact absurd (show b=w by omega) hO.2
               · rw[hmo] at e;cases e
 · obtain⟨h1,h2⟩:=Of m ho
   by_cases e2:m=w
   · subst e2
     obtain rfl:y=x':=by omega
     exact I.bn y hxo
   · rw[Lo m h1 e2] at h
     exact I.bx m y h h2 hm
 · show(if S.bs ((Z6 S v w x').pr m)=x' then d (S.bs v)+1 else d (S.bs ((Z6 S v w x').pr m)))<(if b=x' then d (S.bs v)+1 else d b)
   rcases(Oi b).1 h with rfl|h
   · obtain rfl:m=w:=by omega
     rw[Pw,if_neg (O0 _ (I.bo v hv).1).1,if_pos rfl];omega
   · rcases I.base M h hb with⟨h3,_⟩|⟨m',h3,h4,h5,h6,_⟩
     · omega
     · obtain rfl:m'=m:=by omega
       have hm':=L0 m' (by omega)
       rw[Po m' hm'.2,if_neg (O0 _ (I.bo _ h6).1).1,if_neg (O0 b h).1]
       exact hd b m' h hb hm
 · rcases(Oi u).1 h with rfl|h
   · have hbx:S.bs u=u:=I.bn u hxo
     show∃ps,xm mt (Z6 S v w u) u (S.bs u) ps∧qZ mt E u ps (S.bs u)∧(zG ps (S.bs u)).Nodup∧∀y∈zG ps (S.bs u),(Z6 S v w u).out y=true∧S.bs y=S.bs u
     rw[hbx]
     refine⟨[],.here u,.nil u,by simp[zG,jC],fun y hy=>?_⟩
     have:y=u:=by simpa[zG,jC] using hy
     subst this
     exact⟨(Oi y).2 (.inl rfl),hbx⟩
   · obtain⟨ps,p1,p2,p3,p4⟩:=I.wy u h
     exact⟨ps,p1.goes G,p2,p3,fun y hy=>⟨(Oi y).2 (.inr (p4 y hy).1),(p4 y hy).2⟩⟩
theorem zbl {N:Nat}{E:Nat→Nat→Prop}{mt:Nat→Int}{S:FS}(M:Mf N E mt)(I:qb N E mt S){d:Nat→Nat}(hd:∀b m:Nat,S.out b=true→S.bs b=b→mt b=(m:Int)→d (S.bs (S.pr m))<d b):
    ∀(n c:Nat),d c≤n→S.out c=true→S.bs c=c→∃r xs,ZA mt S c r xs∧S.out r=true∧S.bs r=r∧mt r= -1∧S.rt c=(r:Int):=by
  intro n
  induction n with
  | zero=>
    intro c h h1 h2
    rcases I.base M h1 h2 with⟨h3,h4⟩|⟨m,h3,_⟩
    · exact⟨c,[],.here c,h1,h2,h3,h4⟩
    · have:=hd c m h1 h2 h3;omega
  | succ n ih=>
    intro c h h1 h2
    rcases I.base M h1 h2 with⟨h3,h4⟩|⟨m,h3,h4,h5,h6,h7,h8,h9⟩
    · exact⟨c,[],.here c,h1,h2,h3,h4⟩
    · have hlt:=hd c m h1 h2 h3
      obtain⟨k1,k2,k3,k4⟩:=I.bo _ h6
      obtain⟨r,xs,j1,j2,j3,j4,j5⟩:=ih (S.bs (S.pr m)) (by omega) k1 k3
      refine⟨r,c::xs,.up (fun e=>by subst e;omega) h3 j1,j2,j3,j4,?_⟩
      rw[←j5,k4,h8]
theorem xQ {N:Nat}{E:Nat→Nat→Prop}{mt:Nat→Int}{S:FS}(M:Mf N E mt)(I:qb N E mt S){v:Nat}(hv:S.out v=true):∃(r:Nat) (ps:YF),S.rt v=(r:Int)∧mt r= -1∧r<N∧xm mt S v r ps∧qZ mt E v ps r∧(zG ps r).Nodup∧∀y∈zG ps r,S.rt y=S.rt v∧y<N:=by
 obtain⟨d,hd⟩:=I.dp
 obtain⟨v1,v2,v3,v4⟩:=I.bo v hv
 obtain⟨r,xs,h1,h2,h3,h4,h5⟩:=zbl M I hd _ (S.bs v) (Nat.le_refl _) v1 v3
 obtain⟨_,ps,p1,p2,p3,p4⟩:=Yb M I hd h1 h3 v hv rfl
 obtain⟨⟨_,_,f1⟩,f2⟩:=Zw M I hd h1 v1 v3
 refine⟨r,ps,v4.symm.trans h5,h4,(I.o1 r h2).1,p1,p2,p3,fun y hy=>?_⟩
 rcases p4 y hy with⟨k1,k2|k2⟩|⟨k1,x,k2,k3⟩
 · exact⟨by rw[←(I.bo y k1).2.2.2,(f2 _ k2).2.2.2.2,v4],(I.o1 y k1).1⟩
 · exact⟨by rw[←(I.bo y k1).2.2.2,k2,f1,v4],(I.o1 y k1).1⟩
 · obtain⟨e1,e2,e3,e4,e5⟩:=f2 x k2
   rcases I.base M e3 e4 with⟨g3,_⟩|⟨m,g3,g4,g5,g6,g7,g8,g9⟩
   · omega
   · obtain rfl:m=y:=by omega
     exact⟨by rw[g9,e5,v4],(I.od m g4).1⟩
def EP (E:Nat→Nat→Prop):List Nat→Prop
 |a::b::l=>E a b∧EP E l
 |[_]=>False
 |[]=>True
theorem zc4 {mt:Nat→Int}{E:Nat→Nat→Prop}{w to:Nat}{ps:YF}(h:qZ mt E w ps to):∀x,E x w→EP E (x::zG ps to):=by
 induction h with
 |nil v=>intro x hx;exact⟨hx,trivial⟩
 |cons h1 h2 _ ih=>intro x hx;exact⟨hx,ih _ h2⟩
theorem zie {mt:Nat→Int}{E:Nat→Nat→Prop}(hE:∀a c,E a c→E c a){v r:Nat}{ps:YF}(h:qZ mt E v ps r):∀L,EP E (v::L)→EP E ((zG ps r).reverse++L):=by
 induction h with
 |nil v=>intro L hL;simpa[zG,jC] using hL
 | cons h1 h2 _ ih=>
   intro L hL
   have e:∀(a c:Nat) (ps:YF) (to:Nat),(zG ((a,c)::ps) to).reverse++L=(zG ps to).reverse++(c::a::L):=fun a c ps to=>by simp[zG,jm]
   rw[e]
   exact ih _ ⟨hE _ _ h2,hL⟩
theorem yD {mt:Nat→Int}{E:Nat→Nat→Prop}(hs:∀v w:Nat,mt v=(w:Int)→mt w=(v:Int)){v r:Nat}{ps:YF}(h:qZ mt E v ps r)(hr:mt r= -1):∀y∈zG ps r,∀z:Nat,mt y=(z:Int)→z∈zG ps r:=by
 induction h with
 | nil v=>
   intro y hy z hz
   have:y=v:=by simpa[zG,jC] using hy
   subst this;omega
 | @cons a c w to ps h1 h2 _ ih=>
   intro y hy z hz
   have e:zG ((a,c)::ps) to=a::c::zG ps to:=rfl
   rw[e] at hy⊢
   rcases List.mem_cons.1 hy with rfl|hy
   · obtain rfl:z=c:=by omega
     simp
   · rcases List.mem_cons.1 hy with rfl|hy
     · have:=hs a y h1
       obtain rfl:z=a:=by omega
       simp
     · exact List.mem_cons_of_mem _ (List.mem_cons_of_mem _ (ih hr y hy z hz))
structure Aug (N:Nat)(E:Nat→Nat→Prop)(mt:Nat→Int)(l:List Nat):Prop where
 ep:EP E l
 nd:l.Nodup
 lt:∀y∈l,y<N
 cl:∀y∈l,∀z:Nat,mt y=(z:Int)→z∈l
 fr:∃r∈l,mt r= -1
theorem zfO {N:Nat}{E:Nat→Nat→Prop}{mt:Nat→Int}{S:FS}(M:Mf N E mt)(I:qb N E mt S){v w:Nat}(hv:S.out v=true)(hw:S.out w=true)(hvw:E v w)(hrt:S.rt v≠S.rt w):
    ∃(r q:Nat) (ps qs:YF),S.rt v=(r:Int)∧S.rt w=(q:Int)∧r<N∧q<N∧xm mt S v r ps∧xm mt S w q qs∧(jC ps).length≤N∧(jC qs).length≤N∧Aug N E mt ((zG ps r).reverse++zG qs q):=by
  obtain⟨r,ps,a1,a2,a3,a4,a5,a6,a7⟩:=xQ M I hv
  obtain⟨q,qs,b1,b2,b3,b4,b5,b6,b7⟩:=xQ M I hw
  have hlen:∀l:List Nat,l.Nodup→(∀y∈l,y<N)→l.length≤N:=fun l h1 h2=>by
    have:=Z5 (m:=List.range N) h1 fun y hy=>List.mem_range.2 (h2 y hy)
    simpa using this
  have l1:=hlen _ a6 fun y hy=>(a7 y hy).2
  have l2:=hlen _ b6 fun y hy=>(b7 y hy).2
  refine⟨r,q,ps,qs,a1,b1,a3,b3,a4,b4,by simp[zG] at l1;omega,by simp[zG] at l2;omega,⟨?_,?_,?_,?_,r,by simp[zG],a2⟩⟩
  · exact zie M.es a5 _ (zc4 b5 v hvw)
  · refine List.nodup_append.2 ⟨(List.reverse_perm _).nodup_iff.2 a6,b6,?_⟩
    intro y hy z hz e
    subst e
    exact hrt ((a7 y (List.mem_reverse.1 hy)).1.symm.trans (b7 y hz).1)
  · intro y hy
    rcases List.mem_append.1 hy with hy|hy
    · exact(a7 y (List.mem_reverse.1 hy)).2
    · exact(b7 y hy).2
  · intro y hy z hz
    rcases List.mem_append.1 hy with hy|hy
    · exact List.mem_append.2 (.inl (List.mem_reverse.2 (yD M.sy a5 a2 y (List.mem_reverse.1 hy) z hz)))
    · exact List.mem_append.2 (.inr (yD M.sy b5 b2 y hy z hz))
def Yn :List Nat→Nat→Nat
 |a::b::l,u=>if u=a then b else if u=b then a else Yn l u
 |_,u=>u
theorem Xk {E:Nat→Nat→Prop}(hE:∀a c,E a c→E c a):∀(l:List Nat),EP E l→l.Nodup→∀u∈l,Yn l u∈l∧E u (Yn l u)∧Yn l (Yn l u)=u
 |[],_,_,u,hu=>by simp at hu
 |[_],h,_,_,_=>h.elim
 | a ::b::l,h,hn,u,hu=>by
   simp only[List.nodup_cons,List.mem_cons,not_or] at hn
   obtain⟨⟨hab,hal⟩,hbl,hnl⟩:=hn
   show(if u=a then b else if u=b then a else Yn l u)∈_∧_
   by_cases e1:u=a
   · subst e1
     have:Yn (u::b::l) u=b:=if_pos rfl
     rw[this,if_pos rfl]
     refine⟨by simp,h.1,?_⟩
     show(if b=u then b else if b=b then u else Yn l b)=u
     rw[if_neg (Ne.symm hab),if_pos rfl]
   · by_cases e2:u=b
     · subst e2
       have:Yn (a::u::l) u=a:=by show(if u=a then u else if u=u then a else Yn l u)=a;rw[if_neg e1,if_pos rfl]
       rw[this,if_neg e1,if_pos rfl]
       refine⟨by simp,hE _ _ h.1,?_⟩
       show(if a=a then u else if a=u then a else Yn l a)=u
       rw[if_pos rfl]
     · have hul:u∈l:=by simpa[e1,e2] using hu
       have this:Yn (a::b::l) u=Yn l u:=by show(if u=a then b else if u=b then a else Yn l u)=_;rw[if_neg e1,if_neg e2]
       rw[this,if_neg e1,if_neg e2]
       obtain⟨h1,h2,h3⟩:=Xk hE l h.2 hnl u hul
       refine⟨by simp[h1],h2,?_⟩
       show(if Yn l u=a then b else if Yn l u=b then a else Yn l (Yn l u))=u
       have n1:Yn l u≠a:=fun e=>hal (e▸h1)
       have n2:Yn l u≠b:=fun e=>hbl (e▸h1)
       rw[if_neg n1,if_neg n2]
       exact h3
theorem zcf {N:Nat}{E:Nat→Nat→Prop}{mt mt':Nat→Int}(M:Mf N E mt){l:List Nat}(A:Aug N E mt l)(h1:∀u∈l,mt' u=(Yn l u:Nat))(h2:∀u,u∉l→mt' u=mt u):Mf N E mt'∧(∀u,mt' u= -1→mt u= -1)∧∃r,r<N∧mt r= -1∧mt' r≠ -1:=by
 have sp:=Xk M.es l A.ep A.nd
 refine⟨⟨fun v hv=>?_,fun v hv w h=>?_,fun v w h=>?_,fun v w h=>?_,M.es,M.el⟩,fun u h=>?_,?_⟩
 · by_cases hl:v∈l
   · exact .inr ⟨_,h1 v hl,A.lt _ (sp v hl).1⟩
   · rw[h2 v hl];exact M.at_ v hv
 · by_cases hl:v∈l
   · exact hv (A.lt v hl)
   · rw[h2 v hl] at h;exact M.big v hv w h
 · by_cases hl:v∈l
   · rw[h1 v hl] at h
     obtain rfl:Yn l v=w:=by omega
     rw[h1 _ (sp v hl).1,(sp v hl).2.2]
   · rw[h2 v hl] at h
     have hs:=M.sy v w h
     have hwl:w∉l:=fun hw=>hl (A.cl w hw v hs)
     rw[h2 w hwl];exact hs
 · by_cases hl:v∈l
   · rw[h1 v hl] at h
     obtain rfl:Yn l v=w:=by omega
     exact⟨(M.el _ _ (sp v hl).2.1).2.2.symm,(sp v hl).2.1⟩
   · rw[h2 v hl] at h;exact M.ne v w h
 · by_cases hl:u∈l
   · rw[h1 u hl] at h;omega
   · rw[h2 u hl] at h;exact h
 · obtain⟨r,hr,hm⟩:=A.fr
   exact⟨r,A.lt r hr,hm,by rw[h1 r hr];omega⟩
def Lk (E:Nat→Nat→Prop)(S:FS)(wt:List Nat):Prop:=∀v w,S.out v=true→v∉wt→E v w→S.lab w≠0∧(S.out w=true→S.bs w=S.bs v∨w∈wt)
structure Lc (E:Nat→Nat→Prop)(S:FS)(wt:List Nat)(c:Nat)(rest:List Nat):Prop where
 a:∀v w,S.out v=true→v∉wt→v≠c→E v w→S.lab w≠0∧(S.out w=true→S.bs w=S.bs v∨w∈wt∨(w=c∧v∈rest))
 b:∀w,E c w→w∉rest→S.lab w≠0∧(S.out w=true→S.bs w=S.bs c∨w∈wt)
theorem Lk.pop {E:Nat→Nat→Prop}{S:FS}{c:Nat}{wt J1:List Nat}(h:Lk E S (c::wt))(hn:∀w,w∈J1↔E c w)(hE:∀a b,E a b→E b a):Lc E S wt c J1 where
 a:=fun v w h1 h2 h3 h4=>by
  obtain⟨k1,k2⟩:=h v w h1 (by simp[h2,h3]) h4
  refine⟨k1,fun ho=>?_⟩
  rcases k2 ho with k|k
  · exact .inl k
  · rcases List.mem_cons.1 k with rfl|k
    · exact .inr (.inr ⟨rfl,(hn v).2 (hE _ _ h4)⟩)
    · exact .inr (.inl k)
 b:=fun w h1 h2=>absurd ((hn w).2 h1) h2
theorem Lc.done {E:Nat→Nat→Prop}{S:FS}{c:Nat}{wt:List Nat}(h:Lc E S wt c []):Lk E S wt:=fun v w h1 h2 h3=>by
 by_cases e:v=c
 · subst e;exact h.b w h3 (by simp)
 · obtain⟨k1,k2⟩:=h.a v w h1 h2 e h3
   refine⟨k1,fun ho=>?_⟩
   rcases k2 ho with k|k|⟨_,k⟩
   · exact .inl k
   · exact .inr k
   · simp at k
structure Stp (S T:FS)(wt wt':List Nat):Prop where
 lab:∀x,S.lab x≠0→T.lab x≠0
 out:∀x,T.out x=true→S.out x=true∨x∈wt'
 bs:∀x y,S.out x=true→S.out y=true→S.bs x=S.bs y→T.bs x=T.bs y
 wt:∀x∈wt,x∈wt'
theorem Stp.refl (S:FS)(wt:List Nat):Stp S S wt wt:=⟨fun _ h=>h,fun _ h=> .inl h,fun _ _ _ _ h=>h,fun _ h=>h⟩
theorem Lc.step {E:Nat→Nat→Prop}{S T:FS}{c w:Nat}{wt wt' rest:List Nat}(hc:S.out c=true)(h:Lc E S wt c (w::rest))(s:Stp S T wt wt')(h1:T.lab w≠0)(h2:T.out w=true→T.bs w=T.bs c∨w∈wt'):Lc E T wt' c rest where
 a := fun v u k1 k2 k3 k4=>by
  have hv:=(s.out v k1).resolve_right k2
  obtain⟨j1,j2⟩:=h.a v u hv (fun e=>k2 (s.wt _ e)) k3 k4
  refine⟨s.lab _ j1,fun ho=>?_⟩
  rcases s.out u ho with hu|hu
  · rcases j2 hu with j|j|⟨rfl,j⟩
    · exact .inl (s.bs _ _ hu hv j)
    · exact .inr (.inl (s.wt _ j))
    · rcases List.mem_cons.1 j with rfl|j
      · rcases h2 k1 with e|e
        · exact .inl e.symm
        · exact absurd e k2
      · exact .inr (.inr ⟨rfl,j⟩)
  · exact .inr (.inl hu)
 b := fun u k1 k2=>by
  by_cases e:u=w
  · subst e;exact⟨h1,h2⟩
  · obtain⟨j1,j2⟩:=h.b u k1 (by simp[e,k2])
    refine⟨s.lab _ j1,fun ho=>?_⟩
    rcases s.out u ho with hu|hu
    · rcases j2 hu with j|j
      · exact .inl (s.bs _ _ hu hc j)
      · exact .inr (s.wt _ j)
    · exact .inr hu
theorem qb.mate_same {N:Nat}{E:Nat→Nat→Prop}{mt:Nat→Int}{S:FS}(I:qb N E mt S){c w:Nat}(M:Mf N E mt)(hc:S.out c=true)(hm:mt c=(w:Int)):S.lab w≠0∧(S.out w=true→S.bs w=S.bs c):=by
 have hs:=M.sy c w hm
 have main:∀p q:Nat,S.out p=true→S.out q=true→mt p=(q:Int)→S.lab p=2→S.bs q=S.bs p:=by
  intro p q hp hq hpq hl
  obtain⟨ps,p1,p2,p3,p4⟩:=I.wy p hp
  generalize S.bs p=b at p1 p2 p3 p4
  cases p2 with
  | nil=>
    have:=(I.bo p hp).2.1
    have hb:=(p4 p (by simp[zG,jC])).2
    rw[hb] at this;omega
  | cons k1 k2 k3=>
    rename_i c' _ _
    obtain rfl:c'=q:=by omega
    exact(p4 c' (by simp[zG,jC])).2
 have h2:=I.l2 c
 have h0:=(I.o1 c hc).2
 rcases(show S.lab c=1∨S.lab c=2 by omega) with e|e
 · rcases I.ev c e with⟨k,_⟩|⟨m,k1,k2⟩
   · omega
   · obtain rfl:m=w:=by omega
     exact⟨by omega,fun ho=>(main m c ho hc hs k2).symm⟩
 · obtain⟨_,x,k1,k2,_⟩:=I.od c e
   obtain rfl:x=w:=by omega
   exact⟨by omega,fun ho=>main c x hc ho hm e⟩
theorem zf0 {N:Nat}{E:Nat→Nat→Prop}{mt:Nat→Int}{S:FS}(M:Mf N E mt)(I:qb N E mt S){v w x:Nat}(wt:List Nat)(hwN:w<N)(hl:S.lab w=0)(hx:mt w=(x:Int)):Stp S (Z6 S v w x) wt (wt++[x])∧(Z6 S v w x).lab w≠0∧(Z6 S v w x).out w=false:=by
 obtain⟨x',k1,hxN,hlx,hxw,hxo,hwo⟩:=fresh M I hwN hl
 obtain rfl:x'=x:=by omega
 refine⟨⟨fun u h=>?_,fun u h=>?_,fun _ _ _ _ h=>h,fun u h=>by simp[h]⟩,?_,?_⟩
 · show(if u=x' then 1 else if u=w then 2 else S.lab u)≠0
   split
   · omega
   · split
     · omega
     · exact h
 · have h:(decide (u=x')||S.out u)=true:=h
   rw[Bool.or_eq_true,decide_eq_true_iff] at h
   rcases h with rfl|h
   · exact .inr (by simp)
   · exact .inl h
 · show(if w=x' then 1 else if w=w then 2 else S.lab w)≠0
   split<;>simp
 · show(decide (w=x')||S.out w)=false
   rw[hwo,decide_eq_false (Ne.symm hxw)];rfl
theorem zbc {N:Nat}{E:Nat→Nat→Prop}{mt:Nat→Int}{S:FS}(M:Mf N E mt)(I:qb N E mt S){v w b:Nat}{xs ys:List Nat}(hv:S.out v=true)(hw:S.out w=true)(hvw:E v w)(hb:S.bs b=b)(hX:ZA mt S (S.bs v) b xs)(hY:ZA mt S (S.bs w) b ys)(hdj:∀x∈xs,x∉ys){wt wt':List Nat}(h1:∀x∈wt,x∈wt')(h2:∀u:Nat,(∃x∈xs,mt x=(u:Int))∨(∃x∈ys,mt x=(u:Int))→u∈wt'):
    Stp S (shr mt (shr mt S v w b xs) w v b ys) wt wt':=by
  obtain⟨_,G,k1,k2,_⟩:=xW M I hv hw hvw hb hX hY hdj
  obtain⟨d,hd⟩:=I.dp
  obtain⟨v1,v2,v3,v4⟩:=I.bo v hv
  obtain⟨w1,w2,w3,w4⟩:=I.bo w hw
  obtain⟨_,fX⟩:=Zw M I hd hX v1 v3
  obtain⟨_,fY⟩:=Zw M I hd hY w1 w3
  have no:∀(zs:List Nat),(∀x∈zs,S.out x=true∧S.bs x=x)→∀u:Nat,S.out u=true→¬∃x∈zs,mt x=(u:Int):=by
    rintro zs hz u hu ⟨x,hx,hm⟩
    have:=I.bm x u (hz x hx).1 (hz x hx).2 hm
    rw[hu] at this;cases this
  have nX:=no xs fun x hx=>⟨(fX x hx).2.2.1,(fX x hx).2.2.2.1⟩
  have nY:=no ys fun x hx=>⟨(fY x hx).2.2.1,(fY x hx).2.2.2.1⟩
  refine⟨fun x h=>by rw[G.lab x h];exact h,fun x h=>?_,fun x y hx hy e=>?_,h1⟩
  · rcases(k1 x).1 h with h|h|h
    · exact .inl h
    · exact .inr (h2 x (.inl h))
    · exact .inr (h2 x (.inr h))
  · by_cases hj:S.bs x∈xs∨S.bs x∈ys
    · have j1:kM mt S xs ys x:=hj.elim .inl fun h=> .inr (.inl h)
      have j2:kM mt S xs ys y:=by rw[e] at hj;exact hj.elim .inl fun h=> .inr (.inl h)
      rw[(k2 x).1 j1,(k2 y).1 j2]
    · have j1:¬kM mt S xs ys x:=by
        rintro(h|h|h|h)
        · exact hj (.inl h)
        · exact hj (.inr h)
        · exact nX x hx h
        · exact nY x hx h
      have j2:¬kM mt S xs ys y:=by
        rw[e] at hj
        rintro(h|h|h|h)
        · exact hj (.inl h)
        · exact hj (.inr h)
        · exact nX y hy h
        · exact nY y hy h
      rw[(k2 x).2 j1,(k2 y).2 j2];exact e
structure Uv (n:Nat)(up:List Int)(rep h:Nat→Nat):Prop where
 len:up.length=n
 at_:∀v,v<n→∃u:Nat,up.getD v 0=(u:Int)∧u<n∧rep u=rep v∧(u=v→rep v=v)∧(u≠v→h u<h v)
theorem Uv.root {n:Nat}{up:List Int}{rep h:Nat→Nat}(U:Uv n up rep h):∀(k v:Nat),h v≤k→v<n→rep v<n∧up.getD (rep v) 0=(rep v:Nat)∧rep (rep v)=rep v:=by
 intro k
 induction k with
 | zero=>
   intro v hk hv
   obtain⟨u,h1,h2,h3,h4,h5⟩:=U.at_ v hv
   by_cases e:u=v
   · subst e;rw[h4 rfl];exact⟨hv,h1,h4 rfl⟩
   · have:=h5 e;omega
 | succ k ih=>
   intro v hk hv
   obtain⟨u,h1,h2,h3,h4,h5⟩:=U.at_ v hv
   by_cases e:u=v
   · subst e;rw[h4 rfl];exact⟨hv,h1,h4 rfl⟩
   · have:=h5 e
     rw[←h3]
     exact ih u (by omega) h2
theorem Uv.rep_lt {n:Nat}{up:List Int}{rep h:Nat→Nat}(U:Uv n up rep h){v:Nat}(hv:v<n):rep v<n:=(U.root (h v) v (Nat.le_refl _) hv).1
theorem Uv.rep_rep {n:Nat}{up:List Int}{rep h:Nat→Nat}(U:Uv n up rep h){v:Nat}(hv:v<n):rep (rep v)=rep v:=(U.root (h v) v (Nat.le_refl _) hv).2.2
theorem Uv.halve {n:Nat}{up:List Int}{rep h:Nat→Nat}(U:Uv n up rep h){v u w:Nat}(hv:v<n)(h1:up.getD v 0=(u:Int))(hu:u≠v)(h2:up.getD u 0=(w:Int)):Uv n (up.set v (w:Int)) rep h∧w<n∧rep w=rep v∧h w<h v:=by
 obtain⟨u',a1,a2,a3,a4,a5⟩:=U.at_ v hv
 obtain rfl:u'=u:=by omega
 obtain⟨w',b1,b2,b3,b4,b5⟩:=U.at_ u' a2
 obtain rfl:w'=w:=by omega
 have hlt:h w'<h v:=by
  have:=a5 hu
  by_cases e:w'=u'
  · subst e;exact this
  · have:=b5 e;omega
 refine⟨⟨by rw[List.length_set];exact U.len,fun x hx=>?_⟩,b2,b3.trans a3,hlt⟩
 rw[ZO _ _ _ _ (by rw[U.len];exact hv)]
 by_cases e:x=v
 · subst e
   rw[if_pos rfl]
   exact⟨w',rfl,b2,b3.trans a3,fun e=>by subst e;omega,fun _=>hlt⟩
 · rw[if_neg e];exact U.at_ x hx
theorem Uv.unite {n:Nat}{up:List Int}{rep h:Nat→Nat}(U:Uv n up rep h){v w:Nat}(hv:v<n)(hw:w<n):Uv n (up.set (rep v) (rep w:Nat)) (fun u=>if rep u=rep v then rep w else rep u) (fun u=>if rep u=rep v∧rep v≠rep w then h u+h (rep w)+1 else h u):=by
 have rv:=U.rep_lt hv
 have rw':=U.rep_lt hw
 refine⟨by rw[List.length_set];exact U.len,fun x hx=>?_⟩
 rw[ZO _ _ _ _ (by rw[U.len];exact rv)]
 by_cases e:x=rep v
 · subst e
   rw[if_pos rfl]
   have hrr:=U.rep_rep hv
   have hrw:=U.rep_rep hw
   refine⟨rep w,rfl,rw',?_,?_,?_⟩
   · rw[hrr,if_pos rfl,hrw]
     split<;>rfl
   · intro e
     rw[hrr,if_pos rfl]
     exact e
   · intro e
     rw[hrr,hrw,if_neg (fun e2=>e e2.1),if_pos ⟨rfl,fun e2=>e e2.symm⟩]
     omega
 · rw[if_neg e]
   obtain⟨u,h1,h2,h3,h4,h5⟩:=U.at_ x hx
   refine⟨u,h1,h2,by rw[h3],fun e2=>?_,fun e2=>?_⟩
   · subst e2
     have:=h4 rfl
     rw[this,if_neg (fun e3=>e e3)]
   · rw[h3]
     have:=h5 e2
     split<;>omega
theorem chain_end {mt:Nat→Int}{S:FS}{c x:Nat}{xs:List Nat}(h:ZA mt S c x xs):∀{m:Nat},(∀y∈xs,y≠S.bs (S.pr m))→x≠S.bs (S.pr m)→mt x=(m:Int)→ZA mt S c (S.bs (S.pr m)) (xs++[x]):=by
 induction h with
 |here b=>intro m _ h2 hm;exact .up h2 hm (.here _)
 | up hne hm2 hch ih=>
   intro m h1 h2 hm
   exact .up (h1 _ (by simp)) hm2 (ih (fun y hy=>h1 y (List.mem_cons_of_mem _ hy)) h2 hm)
theorem zbX {N:Nat}{E:Nat→Nat→Prop}{mt:Nat→Int}{S:FS}(M:Mf N E mt)(I:qb N E mt S){d:Nat→Nat}(hd:∀b m:Nat,S.out b=true→S.bs b=b→mt b=(m:Int)→d (S.bs (S.pr m))<d b){c x m:Nat}{xs:List Nat}(h:ZA mt S c x xs)(h1:S.out c=true)(h2:S.bs c=c)(hm:mt x=(m:Int)):ZA mt S c (S.bs (S.pr m)) (xs++[x])∧d (S.bs (S.pr m))<d x∧m<N∧S.lab m=2∧S.pr m<N∧S.bs (S.pr m)<N:=by
 obtain⟨⟨k1,k2,k3⟩,k4⟩:=Zw M I hd h h1 h2
 have hlt:=hd x m k1 k2 hm
 rcases I.base M k1 k2 with⟨h3,_⟩|⟨m',h3,h4,h5,h6,h7,h8,h9⟩
 · omega
 · obtain rfl:m'=m:=by omega
   refine⟨chain_end h (fun y hy e=>by have:=(k4 y hy).1;rw[e] at this;omega) (fun e=>by rw[←e] at hlt;omega) hm,hlt,(I.od _ h4).1,h4,(I.o1 _ h6).1,(I.o1 _ (I.bo _ h6).1).1⟩
def Wk (mt:Nat→Int)(S:FS)(s:Nat)(p:Int)(P:List Nat):Prop:=
 (∃x:Nat,p=(x:Int)∧ZA mt S s x P)∨(p= -1∧∃r P',P=P'++[r]∧ZA mt S s r P'∧mt r= -1)
def dep (d:Nat→Nat)(p:Int):Nat:=if p= -1 then 0 else d p.toNat+1
theorem zhD {N:Nat}{E:Nat→Nat→Prop}{mt:Nat→Int}{S:FS}(M:Mf N E mt)(I:qb N E mt S){d:Nat→Nat}(hd:∀b m:Nat,S.out b=true→S.bs b=b→mt b=(m:Int)→d (S.bs (S.pr m))<d b){s t x:Nat}{q:Int}{P Q:List Nat}(hs1:S.out s=true)(hs2:S.bs s=s)(ht1:S.out t=true)(ht2:S.bs t=t)(hp:ZA mt S s x P)(hq:Wk mt S t q Q)(hx:x∈Q)(hdj:∀y∈P,y∉Q):
    ∃ys,ZA mt S t x ys∧∀y∈P,y∉ys:=by
  rcases hq with⟨z,rfl,hc⟩|⟨rfl,r,Q',rfl,hc,hr⟩
  · obtain⟨y1,y2,e,c1,c2⟩:=qO M I hd hc ht1 ht2 x hx
    exact⟨y1,c1,fun y hy h=>hdj y hy (by rw[e];simp[h])⟩
  · rcases List.mem_append.1 hx with h|h
    · obtain⟨y1,y2,e,c1,c2⟩:=qO M I hd hc ht1 ht2 x h
      exact⟨y1,c1,fun y hy h=>hdj y hy (by rw[e];simp[h])⟩
    · obtain rfl:x=r:=by simpa using h
      exact⟨Q',hc,fun y hy h=>hdj y hy (by simp[h])⟩
theorem zfr {N:Nat}{E:Nat→Nat→Prop}{mt:Nat→Int}{S:FS}(M:Mf N E mt)(I:qb N E mt S){s t:Nat}{P Q:List Nat}(hs1:S.out s=true)(hs2:S.bs s=s)(ht1:S.out t=true)(ht2:S.bs t=t)(hrt:S.rt s=S.rt t)(hp:Wk mt S s (-1) P)(hq:Wk mt S t (-1) Q)(hdj:∀y∈P,y∉Q):False:=by
 obtain⟨d,hd⟩:=I.dp
 rcases hp with⟨x,h,_⟩|⟨_,r,P',rfl,hc,hr⟩
 · omega
 rcases hq with⟨x,h,_⟩|⟨_,r2,Q',rfl,hc2,hr2⟩
 · omega
 obtain⟨⟨a1,a2,a3⟩,_⟩:=Zw M I hd hc hs1 hs2
 obtain⟨⟨b1,b2,b3⟩,_⟩:=Zw M I hd hc2 ht1 ht2
 have e1:S.rt r=(r:Int):=by
  rcases I.base M a1 a2 with⟨_,h⟩|⟨m,h,_⟩
  · exact h
  · omega
 have e2:S.rt r2=(r2:Int):=by
  rcases I.base M b1 b2 with⟨_,h⟩|⟨m,h,_⟩
  · exact h
  · omega
 have:r=r2:=by omega
 subst this
 exact hdj r (by simp) (by simp)
theorem zkk {N:Nat}{E:Nat→Nat→Prop}{mt:Nat→Int}{S:FS}(M:Mf N E mt)(I:qb N E mt S){s x:Nat}{P:List Nat}(hs1:S.out s=true)(hs2:S.bs s=s)(hp:ZA mt S s x P):x∉P∧x<N∧S.out x=true∧S.bs x=x:=by
 obtain⟨d,hd⟩:=I.dp
 obtain⟨⟨a1,a2,a3⟩,a4⟩:=Zw M I hd hp hs1 hs2
 exact⟨fun h=>by have:=(a4 x h).1;omega,(I.o1 x a1).1,a1,a2⟩
theorem YP (f:Nat→Nat):∀(k:Nat) (l:List Nat),l.length≤k→l.Nodup→(∀x∈l,f x∈l∧f x≠x∧f (f x)=x)→l.length%2=0:=by
 intro k
 induction k with
 |zero=>intro l h _ _;rw[Nat.le_zero.1 h]
 | succ k ih=>
   intro l hk hn h
   match l,hk,hn,h with
   |[],_,_,_=>rfl
   | x ::l,hk,hn,h=>
     obtain⟨hx,hn'⟩:=List.nodup_cons.1 hn
     obtain⟨h1,h2,h3⟩:=h x (by simp)
     have hfx:f x∈l:=(List.mem_cons.1 h1).resolve_left h2
     have hlen:=List.length_erase_of_mem hfx
     have hpos:=List.length_pos_of_mem hfx
     simp only[List.length_cons] at hk
     have:=ih (l.erase (f x)) (by omega) (hn'.erase _) fun y hy=>by
      obtain⟨hyx,hyl⟩:=(hn'.mem_erase_iff).1 hy
      obtain⟨k1,k2,k3⟩:=h y (List.mem_cons_of_mem _ hyl)
      have n1:f y≠x:=fun e=>hyx (by rw[←k3,e])
      have n2:f y≠f x:=fun e=>by
       have:y=x:=by rw[←k3,e,h3]
       exact hx (this▸hyl)
      exact⟨(hn'.mem_erase_iff).2 ⟨n2,(List.mem_cons.1 k1).resolve_left n1⟩,k2,k3⟩
     simp only[List.length_cons]
     omega
theorem JX {f:Nat→Nat}:∀{l:List Nat},l.Nodup→(∀x∈l,∀y∈l,f x=f y→x=y)→(l.map f).Nodup
 |[],_,_=>by simp
 | a::l,hn,h=>by
   obtain⟨ha,hn⟩:=List.nodup_cons.1 hn
   rw[List.map_cons]
   refine List.nodup_cons.2 ⟨fun hm=>?_,JX hn fun x hx y hy=>h x (List.mem_cons_of_mem _ hx) y (List.mem_cons_of_mem _ hy)⟩
   obtain⟨b,hb,e⟩:=List.mem_map.1 hm
   have:=h b (List.mem_cons_of_mem _ hb) a (by simp) e
   exact ha (this▸hb)
def num (n:Nat)(p:Nat→Bool):Nat:=((List.range n).filter p).length
theorem Wx (p:Nat→Bool):∀l:List Nat,(l.filter p).length+(l.filter fun x=> !p x).length=l.length
 |[]=>rfl
 | a::l=>by
   have:=Wx p l
   cases h:p a<;>simp[h]<;>omega
theorem vo (n:Nat)(p:Nat→Bool):num n p+num n (fun x=> !p x)=n:=by
 have:=Wx p (List.range n)
 rwa [List.length_range] at this
theorem kF (n:Nat)(p q:Nat→Bool):num n (fun x=>p x&&q x)+num n (fun x=>p x&& !q x)=num n p:=by
 have:=Wx q ((List.range n).filter p)
 rw[List.filter_filter,List.filter_filter] at this
 unfold num
 rw[←this]
 congr 2<;>(refine List.filter_congr fun x _=>?_;exact Bool.and_comm _ _)
theorem zky {n:Nat}{p:Nat→Bool}{l:List Nat}(h:∀v,v<n→p v=true→v∈l):num n p≤l.length:=by
 refine Z5 (List.nodup_range.filter _) fun x hx=>?_
 obtain⟨h1,h2⟩:=List.mem_filter.1 hx
 exact h x (List.mem_range.1 h1) h2
theorem Zd {n:Nat}{p:Nat→Bool}{v:Nat}:v∈(List.range n).filter p↔v<n∧p v=true:=by
 rw[List.mem_filter,List.mem_range]
theorem Wo {n:Nat}{p q:Nat→Bool}(h:∀v,v<n→p v=q v):num n p=num n q:=by
 unfold num
 congr 1
 exact List.filter_congr fun x hx=>h x (List.mem_range.1 hx)
theorem zhA {n:Nat}{p:Nat→Bool}{v:Nat}(hv:v<n)(hp:p v=true):1≤num n p:=List.length_pos_of_mem (Zd.2 ⟨hv,hp⟩)
def Jc (mt:Nat→Int)(v:Nat):Bool:=decide (mt v= -1)
def qW (n:Nat)(mt:Nat→Int):Nat:=num n (Jc mt)
theorem ZH {mt:Nat→Int}{v:Nat}:Jc mt v=true↔mt v= -1:=decide_eq_true_iff
theorem XN {n:Nat}{E:Nat→Nat→Prop}{mt:Nat→Int}(M:Mf n E mt):(n - qW n mt)%2=0∧qW n mt≤n:=by
 have h:=vo n (Jc mt)
 have h2:=YP (fun v=>(mt v).toNat) _ ((List.range n).filter fun x=> !Jc mt x) (Nat.le_refl _) (List.nodup_range.filter _) fun x hx=>by
  obtain⟨h1,h3⟩:=Zd.1 hx
  rcases M.at_ x h1 with h4|⟨w,h4,h5⟩
  · have:=ZH.2 h4
    rw[this] at h3;cases h3
  · have hs:=M.sy x w h4
    have e1:(mt x).toNat=w:=by rw[h4];rfl
    have e2:(mt w).toNat=x:=by rw[hs];rfl
    refine⟨?_,by rw[e1];exact(M.ne x w h4).1,by rw[e1,e2]⟩
    rw[e1]
    refine Zd.2 ⟨h5,?_⟩
    unfold Jc
    rw[hs,decide_eq_false (by omega)];rfl
 have h2':num n (fun x=> !Jc mt x)%2=0:=h2
 unfold qW
 omega
structure w9 (n:Nat)(E:Nat→Nat→Prop)(mt:Nat→Int)(D A:Nat→Bool)(bs:Nat→Nat):Prop where
 dn:∀v,D v=true→v<n
 an:∀v,A v=true→v<n∧D v=false
 ed:∀v w,D v=true→E v w→A w=true∨(D w=true∧bs w=bs v)
 db:∀v,D v=true→D (bs v)=true∧bs (bs v)=bs v
 fr:∀v,v<n→mt v= -1→D v=true∧bs v=v
 am:∀a,A a=true→∃x:Nat,mt a=(x:Int)∧D x=true∧bs x=x
 dm:∀v,D v=true→bs v≠v→∃w:Nat,mt v=(w:Int)∧D w=true∧bs w=bs v
 bb:∀b m:Nat,D b=true→bs b=b→mt b=(m:Int)→A m=true
def isB (D:Nat→Bool)(bs:Nat→Nat)(v:Nat):Bool:=D v&&decide (bs v=v)
theorem y7 {D:Nat→Bool}{bs:Nat→Nat}{v:Nat}:isB D bs v=true↔D v=true∧bs v=v:=by
 unfold isB;rw[Bool.and_eq_true,decide_eq_true_iff]
theorem w9.strong {n:Nat}{E E0:Nat→Nat→Prop}{mt:Nat→Int}{D A:Nat→Bool}{bs:Nat→Nat}(C:w9 n E mt D A bs)(M:Mf n E0 mt):num n A+qW n mt=num n (isB D bs):=by
 have hs:=M.sy
 refine Nat.le_antisymm ?_ ?_
 · have hA:=List.nodup_range.filter (l:=List.range n) A
   have hF:=List.nodup_range.filter (l:=List.range n) (Jc mt)
   have hm:∀a∈(List.range n).filter A,∃x:Nat,mt a=(x:Int)∧(mt a).toNat=x∧D x=true∧bs x=x:=fun a ha=>by
    obtain⟨x,h1,h2,h3⟩:=C.am a (Zd.1 ha).2
    exact⟨x,h1,by rw[h1];rfl,h2,h3⟩
   have hAm:(((List.range n).filter A).map fun a=>(mt a).toNat).Nodup:=JX hA fun a ha b hb e=>by
    obtain⟨x,h1,h2,_⟩:=hm a ha
    obtain⟨y,k1,k2,_⟩:=hm b hb
    simp only[h2,k2] at e
    subst e
    have:=hs a x h1
    have:=hs b x k1
    omega
   have:=Z5 (l:=((List.range n).filter A).map (fun a=>(mt a).toNat)++(List.range n).filter (Jc mt)) (m:=(List.range n).filter (isB D bs)) (List.nodup_append.2 ⟨hAm,hF,fun x hx y hy e=>?_⟩) fun x hx=>?_
   · rw[List.length_append,List.length_map] at this
     exact this
   · subst e
     obtain⟨a,ha,rfl⟩:=List.mem_map.1 hx
     obtain⟨x,h1,h2,h3,h4⟩:=hm a ha
     have h5:=ZH.1 (Zd.1 hy).2
     rw[h2,hs a x h1] at h5
     omega
   · rcases List.mem_append.1 hx with hx|hx
     · obtain⟨a,ha,rfl⟩:=List.mem_map.1 hx
       obtain⟨x,h1,h2,h3,h4⟩:=hm a ha
       rw[h2]
       exact Zd.2 ⟨C.dn x h3,y7.2 ⟨h3,h4⟩⟩
     · obtain⟨h1,h2⟩:=Zd.1 hx
       exact Zd.2 ⟨h1,y7.2 (C.fr x h1 (ZH.1 h2))⟩
 · have hB:=List.nodup_range.filter (l:=List.range n) (isB D bs)
   have hmate:∀b∈(List.range n).filter (isB D bs),mt b= -1∨∃m:Nat,mt b=(m:Int)∧A m=true:=fun b hb=>by
    obtain⟨k1,k2⟩:=Zd.1 hb
    obtain⟨k2,k3⟩:=y7.1 k2
    rcases M.at_ b k1 with h|⟨m,h,_⟩
    · exact .inl h
    · exact .inr ⟨m,h,C.bb b m k2 k3 h⟩
   have hnd:(((List.range n).filter (isB D bs)).map fun b=>if mt b= -1 then b else(mt b).toNat).Nodup:=JX hB fun a ha b hb e=>by
    have da:=(y7.1 (Zd.1 ha).2).1
    have db:=(y7.1 (Zd.1 hb).2).1
    rcases hmate a ha with h1|⟨x,h1,h2⟩<;>rcases hmate b hb with k1|⟨y,k1,k2⟩
    · simpa[h1,k1] using e
    · simp[h1,k1] at e
      subst e
      have:=(C.an a k2).2
      rw[da] at this;cases this
    · simp[h1,k1] at e
      subst e
      have:=(C.an x h2).2
      rw[db] at this;cases this
    · simp[h1,k1] at e
      subst e
      have:=M.sy a x h1
      have:=M.sy b x k1
      omega
   have:=Z5 (m:=(List.range n).filter A++(List.range n).filter (Jc mt)) hnd fun x hx=>by
    obtain⟨b,hb,rfl⟩:=List.mem_map.1 hx
    rcases hmate b hb with h|⟨m,h1,h2⟩
    · rw[if_pos h]
      exact List.mem_append.2 (.inr (Zd.2 ⟨(Zd.1 hb).1,ZH.2 h⟩))
    · rw[if_neg (by omega),h1]
      exact List.mem_append.2 (.inl (Zd.2 ⟨(C.an m h2).1,h2⟩))
   rw[List.length_append,List.length_map] at this
   exact this
theorem w9.odd {n:Nat}{E:Nat→Nat→Prop}{mt:Nat→Int}{D A:Nat→Bool}{bs:Nat→Nat}(C:w9 n E mt D A bs){E0:Nat→Nat→Prop}(M:Mf n E0 mt){b:Nat}(h1:D b=true)(h2:bs b=b):num n (fun x=>D x&&decide (bs x=b))%2=1:=by
 have hB:((List.range n).filter (fun x=>D x&&decide (bs x=b))).Nodup:=List.nodup_range.filter _
 have hbm:b∈(List.range n).filter (fun x=>D x&&decide (bs x=b)):=Zd.2 ⟨C.dn b h1,by simp[h1,h2]⟩
 have hlen:=List.length_erase_of_mem hbm
 have hpos:=List.length_pos_of_mem hbm
 have:=YP (fun v=>(mt v).toNat) _ (((List.range n).filter (fun x=>D x&&decide (bs x=b))).erase b) (Nat.le_refl _) (hB.erase _) fun x hx=>by
  obtain⟨hxb,hxl⟩:=(hB.mem_erase_iff).1 hx
  obtain⟨hxn,hxp⟩:=Zd.1 hxl
  simp only[Bool.and_eq_true,decide_eq_true_iff] at hxp
  obtain⟨w,k1,k2,k3⟩:=C.dm x hxp.1 (by rw[hxp.2];exact Ne.symm hxb)
  have hs:=M.sy x w k1
  have e1:(mt x).toNat=w:=by rw[k1];rfl
  have e2:(mt w).toNat=x:=by rw[hs];rfl
  rw[e1,e2]
  refine⟨(hB.mem_erase_iff).2 ⟨fun e=>?_,Zd.2 ⟨C.dn w k2,by simp[k2,k3,hxp.2]⟩⟩,(M.ne x w k1).1,rfl⟩
  subst e
  have:=(C.an x (C.bb w x h1 h2 hs)).2
  rw[hxp.1] at this;cases this
 unfold num
 omega
theorem w9.weak {n:Nat}{E:Nat→Nat→Prop}{mt mt':Nat→Int}{D A:Nat→Bool}{bs:Nat→Nat}(C:w9 n E mt D A bs){E0:Nat→Nat→Prop}(M:Mf n E0 mt)(M':Mf n E mt'):qW n mt+num n (fun v=>Jc mt' v&& !D v)≤qW n mt':=by
 have hst:=C.strong M
 let R:Nat→Nat→Prop:=fun b y=>(D y=true∧bs y=b∧mt' y= -1)∨(A y=true∧∃x:Nat,mt' y=(x:Int)∧D x=true∧bs x=b)
 have hex:∀b,isB D bs b=true→∃y,R b y:=by
  intro b hb
  obtain⟨hb1,hb2⟩:=y7.1 hb
  refine Classical.byContradiction fun hno=>?_
  have hodd:=C.odd M hb1 hb2
  have hB:=List.nodup_range.filter (l:=List.range n) (fun x=>D x&&decide (bs x=b))
  have :=YP (fun v=>(mt' v).toNat) _ ((List.range n).filter (fun x=>D x&&decide (bs x=b))) (Nat.le_refl _) hB fun x hx=>by
   obtain⟨hxn,hxp⟩:=Zd.1 hx
   simp only[Bool.and_eq_true,decide_eq_true_iff] at hxp
   rcases M'.at_ x hxn with h|⟨w,h,hwn⟩
   · exact absurd ⟨x,.inl ⟨hxp.1,hxp.2,h⟩⟩ hno
   · have hs:=M'.sy x w h
     have e1:(mt' x).toNat=w:=by rw[h];rfl
     have e2:(mt' w).toNat=x:=by rw[hs];rfl
     obtain⟨hwx,hE⟩:=M'.ne x w h
     rcases C.ed x w hxp.1 hE with ha|⟨hd,hbw⟩
     · exact absurd ⟨w,.inr ⟨ha,x,hs,hxp.1,hxp.2⟩⟩ hno
     · rw[e1,e2]
       exact⟨Zd.2 ⟨hwn,by simp[hd,hbw,hxp.2]⟩,hwx,rfl⟩
  unfold num at hodd
  omega
 let g:Nat→Nat:=fun b=> @dite _ (∃y,R b y) (Classical.propDecidable _) (fun h=>Classical.choose h) (fun _=>0)
 have hg:∀b,isB D bs b=true→R b (g b):=fun b hb=>by
  have h:=hex b hb
  show R b (@dite _ (∃y,R b y) (Classical.propDecidable _) (fun h=>Classical.choose h) (fun _=>0))
  rw[dif_pos h]
  exact Classical.choose_spec h
 have hinj:(((List.range n).filter (isB D bs)).map g).Nodup:=JX (List.nodup_range.filter _) fun a ha b hb e=>by
  have ra:=hg a (Zd.1 ha).2
  have rb:=hg b (Zd.1 hb).2
  rw[←e] at rb
  rcases ra with⟨k1,k2,k3⟩|⟨k1,x,k2,k3,k4⟩<;>rcases rb with⟨j1,j2,j3⟩|⟨j1,y,j2,j3,j4⟩
  · rw[←k2,j2]
  · have:=(C.an _ j1).2
    rw[k1] at this;cases this
  · have:=(C.an _ k1).2
    rw[j1] at this;cases this
  · obtain rfl:x=y:=by omega
    rw[←k4,j4]
 have hle:=Z5 (m:=(List.range n).filter (fun v=>Jc mt' v&&D v)++(List.range n).filter (fun v=>A v&& !Jc mt' v)) hinj fun x hx=>by
  obtain⟨b,hb,rfl⟩:=List.mem_map.1 hx
  rcases hg b (Zd.1 hb).2 with⟨k1,k2,k3⟩|⟨k1,x,k2,k3,k4⟩
  · exact List.mem_append.2 (.inl (Zd.2 ⟨C.dn _ k1,by rw[ZH.2 k3,k1];rfl⟩))
  · refine List.mem_append.2 (.inr (Zd.2 ⟨(C.an _ k1).1,?_⟩))
    have:Jc mt' (g b)=false:=decide_eq_false (by omega)
    rw[k1,this];rfl
 rw[List.length_append,List.length_map] at hle
 have e1:=kF n (Jc mt') D
 have e2:=kF n A (Jc mt')
 have hle':num n (isB D bs)≤num n (fun v=>Jc mt' v&&D v)+num n (fun v=>A v&& !Jc mt' v):=hle
 unfold qW at*
 omega
theorem w9.most {n:Nat}{E:Nat→Nat→Prop}{mt mt':Nat→Int}{D A:Nat→Bool}{bs:Nat→Nat}(C:w9 n E mt D A bs){E0:Nat→Nat→Prop}(M:Mf n E0 mt)(M':Mf n E mt'):qW n mt≤qW n mt':=Nat.le_trans (Nat.le_add_right _ _) (C.weak M M')
theorem w9.less {n:Nat}{E:Nat→Nat→Prop}{mt mt':Nat→Int}{D A:Nat→Bool}{bs:Nat→Nat}(C:w9 n E mt D A bs){E0:Nat→Nat→Prop}(M:Mf n E0 mt)(M':Mf n E mt'){v:Nat}(hv:v<n)(hD:D v=false)(hm:mt' v= -1):qW n mt+2≤qW n mt':=by
 have h1:=C.weak M M'
 have h2:=zhA (n:=n) (p:=fun v=>Jc mt' v&& !D v) hv (by rw[ZH.2 hm,hD];rfl)
 have h3:=XN M
 have h4:=XN M'
 omega
def Lg (n:Nat)(E:Nat→Nat→Prop)(mt:Nat→Int):Prop:=Mf n E mt∧∀mt',Mf n E mt'→qW n mt≤qW n mt'
def Dm (n:Nat)(E:Nat→Nat→Prop)(v:Nat):Prop:=v<n∧∃mt,Lg n E mt∧mt v= -1
theorem w9.dm_iff {n:Nat}{E:Nat→Nat→Prop}{mt:Nat→Int}{D A:Nat→Bool}{bs:Nat→Nat}(C:w9 n E mt D A bs)(M:Mf n E mt)(hD:∀v,D v=true→∃mt',Mf n E mt'∧qW n mt'≤qW n mt∧mt' v= -1)(v:Nat):D v=true↔Dm n E v:=by
 constructor
 · intro h
   obtain⟨mt',h1,h2,h3⟩:=hD v h
   exact⟨C.dn v h,mt',⟨h1,fun mt2 h4=>Nat.le_trans h2 (C.most M h4)⟩,h3⟩
 · rintro⟨hv,mt',⟨h1,h2⟩,h3⟩
   cases hd:D v with
   |true=>rfl
   | false=>
     have:=C.less M h1 hv hd h3
     have:=h2 mt M
     omega
theorem zmd {n:Nat}{E:Nat→Nat→Prop}{mt:Nat→Int}{S:FS}(M:Mf n E mt)(I:qb n E mt S){v:Nat}(hv:S.out v=true):∃mt',Mf n E mt'∧qW n mt'≤qW n mt∧mt' v= -1:=by
 obtain⟨r,ps,hr,hfr,hrn,W,G,nd,hy⟩:=xQ M I hv
 have hcl:=yD M.sy G hfr
 obtain⟨l,hl,hep⟩:∃l,zG ps r=v::l∧EP E l:=by
  cases G with
  |nil=>exact⟨[],rfl,trivial⟩
  |cons h1 h2 h3=>exact⟨_,rfl,zc4 h3 _ h2⟩
 rw[hl] at nd hy hcl
 obtain⟨hvl,hnl⟩:=List.nodup_cons.1 nd
 have sp:=Xk M.es l hep hnl
 have hrl:r∈v::l:=by rw[←hl];simp[zG]
 have hln:∀u∈l,u<n:=fun u hu=>(hy u (List.mem_cons_of_mem _ hu)).2
 let mt':Nat→Int:=fun u=>if u=v then -1 else if u∈l then(Yn l u:Int) else mt u
 have m1:mt' v= -1:=if_pos rfl
 have m2:∀u∈l,mt' u=(Yn l u:Int):=fun u hu=>by
  show(if u=v then -1 else if u∈l then(Yn l u:Int) else mt u)=_
  rw[if_neg (fun e:u=v=>hvl (e▸hu)),if_pos hu]
 have m3:∀u,u≠v→u∉l→mt' u=mt u:=fun u h1 h2=>by
  show(if u=v then -1 else if u∈l then(Yn l u:Int) else mt u)=_
  rw[if_neg h1,if_neg h2]
 have far:∀u w:Nat,u≠v→u∉l→mt u=(w:Int)→w≠v∧w∉l:=fun u w h1 h2 h3=>by
  have hs:=M.sy u w h3
  have:∀z∈v::l,z≠w:=fun z hz e=>by
   subst e
   have:=hcl z hz u hs
   rcases List.mem_cons.1 this with e|e
   · exact h1 e
   · exact h2 e
  exact⟨fun e=>this v (by simp) e.symm,fun e=>this w (List.mem_cons_of_mem _ e) rfl⟩
 have cases3:∀u,u=v∨u∈l∨(u≠v∧u∉l):=fun u=>by
  by_cases h1:u=v
  · exact .inl h1
  · by_cases h2:u∈l
    · exact .inr (.inl h2)
    · exact .inr (.inr ⟨h1,h2⟩)
 refine⟨mt',⟨fun u hu=>?_,fun u hu w h=>?_,fun u w h=>?_,fun u w h=>?_,M.es,M.el⟩,?_,m1⟩
 · rcases cases3 u with rfl|h|⟨h1,h2⟩
   · exact .inl m1
   · exact .inr ⟨_,m2 u h,hln _ (sp u h).1⟩
   · rw[m3 u h1 h2];exact M.at_ u hu
 · rcases cases3 u with rfl|h1|⟨h1,h2⟩
   · rw[m1] at h;omega
   · exact hu (hln u h1)
   · rw[m3 u h1 h2] at h;exact M.big u hu w h
 · rcases cases3 u with rfl|h1|⟨h1,h2⟩
   · rw[m1] at h;omega
   · rw[m2 u h1] at h
     obtain rfl:Yn l u=w:=by omega
     rw[m2 _ (sp u h1).1,(sp u h1).2.2]
   · rw[m3 u h1 h2] at h
     obtain⟨k1,k2⟩:=far u w h1 h2 h
     rw[m3 w k1 k2];exact M.sy u w h
 · rcases cases3 u with rfl|h1|⟨h1,h2⟩
   · rw[m1] at h;omega
   · rw[m2 u h1] at h
     obtain rfl:Yn l u=w:=by omega
     exact⟨(M.el _ _ (sp u h1).2.1).2.2.symm,(sp u h1).2.1⟩
   · rw[m3 u h1 h2] at h;exact M.ne u w h
 · have hnd:(((List.range n).filter (Jc mt')).map fun u=>if u=v then r else u).Nodup:=JX (List.nodup_range.filter _) fun a ha b hb e=>by
    have fa:=ZH.1 (Zd.1 ha).2
    have fb:=ZH.1 (Zd.1 hb).2
    have key:∀z,mt' z= -1→z≠v→z≠r:=fun z hz hzv e=>by
     subst e
     have:=(List.mem_cons.1 hrl).resolve_left hzv
     rw[m2 z this] at hz;omega
    by_cases h1:a=v<;>by_cases h2:b=v
    · rw[h1,h2]
    · simp only[if_pos h1,if_neg h2] at e
      exact absurd e.symm (key b fb h2)
    · simp only[if_neg h1,if_pos h2] at e
      exact absurd e (key a fa h1)
    · simpa only[if_neg h1,if_neg h2] using e
   have:=Z5 (m:=(List.range n).filter (Jc mt)) hnd fun x hx=>by
    obtain⟨u,hu,rfl⟩:=List.mem_map.1 hx
    obtain⟨hun,hu⟩:=Zd.1 hu
    have hu:=ZH.1 hu
    by_cases h1:u=v
    · rw[if_pos h1];exact Zd.2 ⟨hrn,ZH.2 hfr⟩
    · rw[if_neg h1]
      have h2:u∉l:=fun h=>by rw[m2 u h] at hu;omega
      rw[m3 u h1 h2] at hu
      exact Zd.2 ⟨hun,ZH.2 hu⟩
   rw[List.length_map] at this
   exact this
def zfp (S:FS)(v:Nat):Bool:=decide (S.lab v=2)&& !S.out v
theorem Ju {S:FS}{v:Nat}:zfp S v=true↔S.lab v=2∧S.out v=false:=by
 unfold zfp;simp
theorem qb.cert {n:Nat}{E:Nat→Nat→Prop}{mt:Nat→Int}{S:FS}(M:Mf n E mt)(I:qb n E mt S)(L:Lk E S []):w9 n E mt S.out (zfp S) S.bs where
 dn:=fun v h=>(I.o1 v h).1
 an:=fun v h=>⟨(I.od v (Ju.1 h).1).1,(Ju.1 h).2⟩
 ed :=fun v w hv hE=>by
  obtain⟨h1,h2⟩:=L v w hv (by simp) hE
  cases ho:S.out w with
  | true=>
    rcases h2 ho with h|h
    · exact .inr ⟨rfl,h⟩
    · simp at h
  | false=>
    refine .inl (Ju.2 ⟨?_,ho⟩)
    have h3:=I.l2 w
    have h4:S.lab w≠1:=fun e=>by have:=I.e1 w e;rw[ho] at this;cases this
    omega
 db:=fun v h=>⟨(I.bo v h).1,(I.bo v h).2.2.1⟩
 fr:=fun v hv hm=>by
  have h1:=(I.fr v hv hm).1
  have ho:=I.e1 v h1
  refine⟨ho,?_⟩
  obtain⟨ps,w,_⟩:=I.wy v ho
  generalize S.bs v=b at w
  cases w with
  |here=>rfl
  |even _ _ h3 _ _=>omega
  |odd _ _ h3 _ _ _=>omega
 am:=fun a h=>by
  obtain⟨h1,h2⟩:=Ju.1 h
  obtain⟨_,x,k1,k2,_⟩:=I.od a h1
  exact⟨x,k1,I.e1 x k2,I.bx a x h1 h2 k1⟩
 dm :=fun v h hb=>by
  have hl:=I.l2 v
  have h0:=(I.o1 v h).2
  have main:∀w:Nat,mt v=(w:Int)→S.out w=true→∃w:Nat,mt v=(w:Int)∧S.out w=true∧S.bs w=S.bs v:=fun w h1 h2=>⟨w,h1,h2,(I.mate_same M h h1).2 h2⟩
  rcases(show S.lab v=1∨S.lab v=2 by omega) with e|e
  · rcases I.ev v e with⟨k,_⟩|⟨m,k1,k2⟩
    · exfalso
      obtain⟨ps,w,_⟩:=I.wy v h
      generalize S.bs v=b at w hb
      cases w with
      |here=>exact hb rfl
      |even _ _ h3 _ _=>omega
      |odd _ _ h3 _ _ _=>omega
    · cases ho:S.out m with
      |true=>exact main m k1 ho
      |false=>exact absurd (I.bx m v k2 ho (M.sy v m k1)) hb
  · obtain⟨_,x,k1,k2,_⟩:=I.od v e
    exact main x k1 (I.e1 x k2)
 bb :=fun b m h1 h2 hm=>by
  rcases I.base M h1 h2 with⟨h3,_⟩|⟨m',h3,h4,h5,_⟩
  · omega
  · obtain rfl:m'=m:=by omega
    exact Ju.2 ⟨h4,h5⟩
noncomputable def qq (n:Nat)(E:Nat→Nat→Prop)(v:Nat):Nat:=
 open Classical in if Dm n E v then 1 else if ∃ w, Dm n E w ∧ E v w then 2 else 0
theorem zcI {n:Nat}{E:Nat→Nat→Prop}{mt:Nat→Int}{S:FS}(M:Mf n E mt)(I:qb n E mt S)(L:Lk E S []):Lg n E mt:=⟨M,fun _ M'=>(I.cert M L).most M M'⟩
theorem kR {n:Nat}{E:Nat→Nat→Prop}{mt:Nat→Int}{S:FS}(M:Mf n E mt)(I:qb n E mt S)(L:Lk E S [])(v:Nat):S.out v=true↔Dm n E v:=(I.cert M L).dm_iff M (fun v hv=>zmd M I hv) v
theorem zlQ {n:Nat}{E:Nat→Nat→Prop}{mt:Nat→Int}{S:FS}(M:Mf n E mt)(I:qb n E mt S)(L:Lk E S [])(v:Nat):zfp S v=true↔¬Dm n E v∧∃w,Dm n E w∧E v w:=by
 have C:=I.cert M L
 rw[←kR M I L v]
 constructor
 · intro h
   obtain⟨h1,h2⟩:=Ju.1 h
   obtain⟨_,x,k1,k2,k3,k4,k5,k6⟩:=I.od v h1
   exact⟨by rw[h2];simp,S.pr v,(kR M I L _).1 k4,k5⟩
 · rintro⟨h1,w,h2,h3⟩
   rcases C.ed w v ((kR M I L w).2 h2) (M.es _ _ h3) with h|⟨h,_⟩
   · exact h
   · exact absurd h h1
theorem zgb {n:Nat}{E:Nat→Nat→Prop}{mt:Nat→Int}{S:FS}(M:Mf n E mt)(I:qb n E mt S)(L:Lk E S [])(v:Nat):(if S.out v=true then 1 else S.lab v)=qq n E v:=by
 have hd:=kR M I L v
 have ha:=zlQ M I L v
 unfold qq
 by_cases h:S.out v=true
 · rw[if_pos h,if_pos (hd.1 h)]
 · rw[if_neg h,if_neg (fun e=>h (hd.2 e))]
   have ho:S.out v=false:=by simpa using h
   have hl:=I.l2 v
   have h1:S.lab v≠1:=fun e=>h (I.e1 v e)
   by_cases h2:S.lab v=2
   · rw[h2,if_pos (ha.1 (Ju.2 ⟨h2,ho⟩)).2]
   · rw[if_neg]
     · omega
     · intro e
       exact h2 (Ju.1 (ha.2 ⟨fun e2=>h (hd.2 e2),e⟩)).1
theorem Mf.add {n:Nat}{E:Nat→Nat→Prop}{mt mt':Nat→Int}(M:Mf n E mt){v w:Nat}(hv:mt v= -1)(hw:mt w= -1)(hE:E v w)(h1:mt' v=(w:Int))(h2:mt' w=(v:Int))(h3:∀u,u≠v→u≠w→mt' u=mt u):Mf n E mt':=by
 obtain⟨hvn,hwn,hne⟩:=M.el v w hE
 have c3:∀u,u=v∨u=w∨(u≠v∧u≠w):=fun u=>by omega
 have far:∀u x:Nat,mt u=(x:Int)→x≠v∧x≠w:=fun u x h=>by
  have hs:=M.sy u x h
  exact⟨fun e=>by subst e;omega,fun e=>by subst e;omega⟩
 refine⟨fun u hu=>?_,fun u hu x h=>?_,fun u x h=>?_,fun u x h=>?_,M.es,M.el⟩
 · rcases c3 u with rfl|rfl|⟨k1,k2⟩
   · exact .inr ⟨w,h1,hwn⟩
   · exact .inr ⟨v,h2,hvn⟩
   · rw[h3 u k1 k2];exact M.at_ u hu
 · have k1:u≠v:=fun e=>hu (e▸hvn)
   have k2:u≠w:=fun e=>hu (e▸hwn)
   rw[h3 u k1 k2] at h
   exact M.big u hu x h
 · rcases c3 u with rfl|rfl|⟨k1,k2⟩
   · obtain rfl:w=x:=by omega
     exact h2
   · obtain rfl:v=x:=by omega
     exact h1
   · rw[h3 u k1 k2] at h
     obtain⟨j1,j2⟩:=far u x h
     rw[h3 x j1 j2];exact M.sy u x h
 · rcases c3 u with rfl|rfl|⟨k1,k2⟩
   · obtain rfl:w=x:=by omega
     exact⟨Ne.symm hne,hE⟩
   · obtain rfl:v=x:=by omega
     exact⟨hne,M.es _ _ hE⟩
   · rw[h3 u k1 k2] at h;exact M.ne u x h
theorem KZ {n:Nat}{mt mt':Nat→Int}{r:Nat}(hr:r<n)(h1:mt r= -1)(h2:mt' r≠ -1)(h3:∀u,mt' u= -1→mt u= -1):qW n mt'+1≤qW n mt:=by
 have:=Z5 (l:=r::(List.range n).filter (Jc mt')) (m:=(List.range n).filter (Jc mt)) (List.nodup_cons.2 ⟨fun h=>h2 (ZH.1 (Zd.1 h).2),List.nodup_range.filter _⟩) fun x hx=>by
  rcases List.mem_cons.1 hx with rfl|hx
  · exact Zd.2 ⟨hr,ZH.2 h1⟩
  · obtain⟨k1,k2⟩:=Zd.1 hx
    exact Zd.2 ⟨k1,ZH.2 (h3 x (ZH.1 k2))⟩
 rw[List.length_cons] at this
 exact this
theorem GR.mf {N:Nat}{es:Es}(g:GR N es):(∀v w,Zp es v w→Zp es w v)∧∀v w,Zp es v w→v<N∧w<N∧v≠w:=by
 refine⟨fun v w h=>Ut h,fun v w h=>?_⟩
 rcases h with h|h
 · have:=g.ok _ h;simp only at this;omega
 · have:=g.ok _ h;simp only at this;omega
theorem GR.none {N:Nat}{es:Es}(g:GR N es){mt:Nat→Int}(h:∀v,mt v= -1):Mf N (Zp es) mt:=
 ⟨fun v _=> .inl (h v),fun v _ w e=>by rw[h v] at e;omega,fun v w e=>by rw[h v] at e;omega,fun v w e=>by rw[h v] at e;omega,g.mf.1,g.mf.2⟩
theorem Xp {N:Nat}{es:Es}(g:GR N es)(v:Nat):(zZ es v).length≤131072:=by
 have h1:(ZU es v).length≤es.length:=by simp[ZU];exact List.length_filter_le _ _
 have h2:(Z9 es v).length≤es.length:=by simp[Z9];exact List.length_filter_le _ _
 have:=g.hm
 unfold zZ
 rw[List.length_append];omega
structure Fc (n:Nat)(E:Nat→Nat→Prop)(mt:Nat→Int)(D A:Nat→Bool)(bs:Nat→Nat):Prop where
 m:Mf n E mt
 c:w9 n E mt D A bs
 d:∀v,D v=true→∃mt',Mf n E mt'∧qW n mt'≤qW n mt∧mt' v= -1
 a:∀v,A v=true→∃w,D w=true∧E v w
theorem zcJ {n:Nat}{E:Nat→Nat→Prop}{mt:Nat→Int}{S:FS}(M:Mf n E mt)(I:qb n E mt S)(L:Lk E S []):Fc n E mt S.out (zfp S) S.bs where
 m:=M
 c:=I.cert M L
 d:=fun v hv=>zmd M I hv
 a:=fun v hv=>by
  obtain⟨h1,h2⟩:=Ju.1 hv
  obtain⟨_,x,k1,k2,k3,k4,k5,k6⟩:=I.od v h1
  exact⟨S.pr v,k4,k5⟩
theorem Fc.lg {n:Nat}{E:Nat→Nat→Prop}{mt:Nat→Int}{D A:Nat→Bool}{bs:Nat→Nat}(F:Fc n E mt D A bs):Lg n E mt:=⟨F.m,fun _ M'=>F.c.most F.m M'⟩
theorem Fc.dm {n:Nat}{E:Nat→Nat→Prop}{mt:Nat→Int}{D A:Nat→Bool}{bs:Nat→Nat}(F:Fc n E mt D A bs)(v:Nat):D v=true↔Dm n E v:=F.c.dm_iff F.m F.d v
theorem Fc.lab {n:Nat}{E:Nat→Nat→Prop}{mt:Nat→Int}{D A:Nat→Bool}{bs:Nat→Nat}(F:Fc n E mt D A bs)(v:Nat):qq n E v=if D v=true then 1 else if A v=true then 2 else 0:=by
 unfold qq
 by_cases h:D v=true
 · rw[if_pos h,if_pos ((F.dm v).1 h)]
 · rw[if_neg h,if_neg (fun e=>h ((F.dm v).2 e))]
   by_cases h2:A v=true
   · obtain⟨w,h3,h4⟩:=F.a v h2
     rw[if_pos h2,if_pos ⟨w,(F.dm w).1 h3,h4⟩]
   · rw[if_neg h2,if_neg]
     rintro⟨w,h3,h4⟩
     rcases F.c.ed w v ((F.dm w).2 h3) (F.m.es _ _ h4) with h5|⟨h5,_⟩
     · exact h2 h5
     · exact h h5
theorem Mf.mono {n:Nat}{E E':Nat→Nat→Prop}{mt:Nat→Int}(M:Mf n E mt)(h:∀v w,E v w→E' v w)(hs:∀v w,E' v w→E' w v)(hl:∀v w,E' v w→v<n∧w<n∧v≠w):Mf n E' mt:=
 ⟨M.at_,M.big,M.sy,fun v w e=>⟨(M.ne v w e).1,h _ _ (M.ne v w e).2⟩,hs,hl⟩
theorem Fc.more {n:Nat}{E E':Nat→Nat→Prop}{mt:Nat→Int}{D A:Nat→Bool}{bs:Nat→Nat}(F:Fc n E mt D A bs)(h:∀v w,E v w→E' v w)(hs:∀v w,E' v w→E' w v)(hl:∀v w,E' v w→v<n∧w<n∧v≠w)(he:∀v w,D v=true→E' v w→A w=true∨(D w=true∧bs w=bs v)):Fc n E' mt D A bs where
 m:=F.m.mono h hs hl
 c:=⟨F.c.dn,F.c.an,he,F.c.db,F.c.fr,F.c.am,F.c.dm,F.c.bb⟩
 d:=fun v hv=>by
  obtain⟨mt',h1,h2,h3⟩:=F.d v hv
  exact⟨mt',h1.mono h hs hl,h2,h3⟩
 a:=fun v hv=>by
  obtain⟨w,h1,h2⟩:=F.a v hv
  exact⟨w,h1,h _ _ h2⟩
structure Bsd (N M:Nat)(E1 E2 E:Nat→Nat→Prop):Prop where
 lo:∀v w,v<N→(E v w↔E1 v w)
 hi:∀v w,¬v<N→(E v w↔N≤w∧E2 (v - N) (w - N))
def Wi (s:Nat)(mt:Nat→Int):Prop:=∀v,s.testBit v=false→mt v= -1
def W6 (N:Nat)(E:Nat→Nat→Prop)(s k:Nat):Prop:=(∃mt,Mf N E mt∧Wi s mt∧N=qW N mt+2*k)∧∀mt,Mf N E mt→Wi s mt→N≤qW N mt+2*k
theorem zhz {n v w:Nat}(hv:v<n)(hw:w<n)(hne:v≠w):num n (fun u=>decide (u=v∨u=w))=2:=by
 refine Nat.le_antisymm ?_ ?_
 · have:=zky (n:=n) (p:=fun u=>decide (u=v∨u=w)) (l:=[v,w]) fun u _ h=>by
    have:=of_decide_eq_true h
    simpa using this
   simpa using this
 · have:=Z5 (l:=[v,w]) (m:=(List.range n).filter fun u=>decide (u=v∨u=w)) (by simp[hne]) fun u hu=>by
    have:u=v∨u=w:=by simpa using hu
    refine Zd.2 ⟨by rcases this with h|h<;>omega,decide_eq_true this⟩
   exact this
theorem zcG {n:Nat}{mt mt':Nat→Int}{v w:Nat}(hv:v<n)(hw:w<n)(hne:v≠w)(h1:mt v= -1)(h2:mt w= -1)(h3:mt' v≠ -1)(h4:mt' w≠ -1)(h5:∀u,u≠v→u≠w→mt' u=mt u):qW n mt'+2=qW n mt:=by
 have e:=kF n (Jc mt) (fun u=>decide (u=v∨u=w))
 have e1:num n (fun u=>Jc mt u&&decide (u=v∨u=w))=2:=by
  rw[←zhz hv hw hne]
  refine Wo fun u _=>?_
  by_cases h:u=v∨u=w
  · have:mt u= -1:=by rcases h with rfl|rfl<;>assumption
    rw[ZH.2 this,decide_eq_true h];rfl
  · rw[decide_eq_false h,Bool.and_false]
 have e2:num n (fun u=>Jc mt u&& !decide (u=v∨u=w))=num n (Jc mt'):=by
  refine Wo fun u _=>?_
  by_cases h:u=v∨u=w
  · have:Jc mt' u=false:=decide_eq_false (by rcases h with rfl|rfl<;>assumption)
    rw[this,decide_eq_true h];simp
  · rw[decide_eq_false h]
    unfold Jc
    rw[h5 u (fun k=>h (.inl k)) (fun k=>h (.inr k))];simp
 unfold qW
 omega
def dlt (mt:Nat→Int)(v w u:Nat):Int:=if u=v∨u=w then -1 else mt u
theorem Mf.del {n:Nat}{E:Nat→Nat→Prop}{mt:Nat→Int}(M:Mf n E mt){v w:Nat}(h:mt v=(w:Int)):Mf n E (dlt mt v w):=by
 have hs:=M.sy v w h
 have c:∀u x:Nat,dlt mt v w u=(x:Int)→mt u=(x:Int)∧¬(u=v∨u=w):=fun u x k=>by
  unfold Gl.dlt at k
  by_cases e:u=v∨u=w
  · rw[if_pos e] at k;omega
  · rw[if_neg e] at k;exact⟨k,e⟩
 refine⟨fun u hu=>?_,fun u hu x k=>M.big u hu x (c u x k).1,fun u x k=>?_,fun u x k=>M.ne u x (c u x k).1,M.es,M.el⟩
 · unfold Gl.dlt
   split
   · exact .inl rfl
   · exact M.at_ u hu
 · obtain⟨k1,k2⟩:=c u x k
   have k3:=M.sy u x k1
   have:¬(x=v∨x=w):=fun e=>by
    rcases e with rfl|rfl
    · exact k2 (.inr (by omega))
    · exact k2 (.inl (by omega))
   show(if x=v∨x=w then -1 else mt x)=(u:Int)
   rw[if_neg this];exact k3
theorem zhU {n:Nat}{E:Nat→Nat→Prop}{mt:Nat→Int}(M:Mf n E mt){v w:Nat}(h:mt v=(w:Int)):qW n (dlt mt v w)=qW n mt+2:=by
 obtain⟨_,hE⟩:=M.ne v w h
 obtain⟨h1,h2,h3⟩:=M.el v w hE
 have hs:=M.sy v w h
 exact(zcG h1 h2 h3 (if_pos (.inl rfl)) (if_pos (.inr rfl)) (by omega) (by omega) fun u k1 k2=>(if_neg (fun e=>e.elim k1 k2)).symm).symm
theorem zel {N:Nat}{E:Nat→Nat→Prop}(M0:Mf N E (fun _=> -1)):W6 N E 0 0:=by
 have hf:∀mt:Nat→Int,(∀v,mt v= -1)→qW N mt=N:=fun mt h=>by
  have e:=vo N (Jc mt)
  have:num N (fun x=> !Jc mt x)=0:=by
   unfold num
   rw[List.length_eq_zero_iff,List.filter_eq_nil_iff]
   intro v _
   rw[ZH.2 (h v)];simp
  unfold qW
  omega
 exact⟨⟨_,M0,fun _ _=>rfl,by rw[hf _ fun _=>rfl];rfl⟩,fun mt _ h=>by rw[hf mt fun v=>h v (by simp)];omega⟩
def Cur (N:Nat)(E:Nat→Nat→Prop)(s v w0 c:Nat):Prop:=(∃mt,Mf N E mt∧Wi s mt∧N=qW N mt+2*c)∧∀mt,Mf N E mt→Wi s mt→(mt v= -1∨∃w:Nat,w<w0∧mt v=(w:Int))→N≤qW N mt+2*c
theorem zea {N:Nat}{E:Nat→Nat→Prop}{s v rest c:Nat}(hlow:∀u,u<v→s.testBit u=false)(hr:∀u,rest.testBit u=(s.testBit u&& !decide (u=v)))(B:W6 N E rest c):Cur N E s v (v+1) c:=by
 obtain⟨⟨mt,M,W,h⟩,B2⟩:=B
 refine⟨⟨mt,M,fun u hu=>W u (by rw[hr,hu];rfl),h⟩,fun mt M W k=>?_⟩
 have hv:mt v= -1:=by
  rcases k with k|⟨w,hw,k⟩
  · exact k
  · exfalso
    obtain⟨hne,_⟩:=M.ne v w k
    have:=W w (hlow w (by omega))
    have:=M.sy v w k
    omega
 refine B2 mt M fun u hu=>?_
 rw[hr] at hu
 by_cases e:u=v
 · subst e;exact hv
 · rw[decide_eq_false e] at hu
   exact W u (by simpa using hu)
theorem zge {N:Nat}{E:Nat→Nat→Prop}{s v rest w0 c:Nat}(hr:∀u,rest.testBit u=(s.testBit u&& !decide (u=v)))(C:Cur N E s v w0 c)(hno:¬(rest.testBit w0=true∧E v w0)):Cur N E s v (w0+1) c:=by
 refine⟨C.1,fun mt M W k=>?_⟩
 rcases k with k|⟨w,hw,k⟩
 · exact C.2 mt M W (.inl k)
 · by_cases e:w=w0
   · subst e
     exfalso
     obtain⟨hne,hE⟩:=M.ne v w k
     refine hno ⟨?_,hE⟩
     rw[hr,decide_eq_false hne]
     cases hs:s.testBit w with
     |true=>rfl
     | false=>
       have:=W w hs
       have:=M.sy v w k
       omega
   · exact C.2 mt M W (.inr ⟨w,by omega,k⟩)
theorem zh4 {N:Nat}{E:Nat→Nat→Prop}{s v rest r2 w0 c k:Nat}(hsv:s.testBit v=true)(hr:∀u,rest.testBit u=(s.testBit u&& !decide (u=v)))(h2:∀u,r2.testBit u=(rest.testBit u&& !decide (u=w0)))(C:Cur N E s v w0 c)(hw:rest.testBit w0=true)(hE:E v w0)(B:W6 N E r2 k):Cur N E s v (w0+1) (max c (1+k)):=by
 have hw2:s.testBit w0=true∧w0≠v:=by
  rw[hr] at hw
  simpa using hw
 refine⟨?_,fun mt M W q=>?_⟩
 · rcases Nat.le_total (1+k) c with h|h
   · rw[Nat.max_eq_left h];exact C.1
   · rw[Nat.max_eq_right h]
     obtain⟨mt,M,W,e⟩:=B.1
     have hv1:mt v= -1:=W v (by rw[h2,hr,decide_eq_true (rfl:v=v)];simp)
     have hw1:mt w0= -1:=W w0 (by rw[h2,decide_eq_true (rfl:w0=w0)];simp)
     obtain⟨k1,k2,k3⟩:=M.el v w0 hE
     let mt':Nat→Int:=fun u=>if u=v then(w0:Int) else if u=w0 then(v:Int) else mt u
     have m1:mt' v=(w0:Int):=if_pos rfl
     have m2:mt' w0=(v:Int):=by
      show(if w0=v then(w0:Int) else if w0=w0 then(v:Int) else mt w0)=_
      rw[if_neg hw2.2,if_pos rfl]
     have m3:∀u,u≠v→u≠w0→mt' u=mt u:=fun u a b=>by
      show(if u=v then(w0:Int) else if u=w0 then(v:Int) else mt u)=_
      rw[if_neg a,if_neg b]
     refine⟨mt',M.add hv1 hw1 hE m1 m2 m3,fun u hu=>?_,?_⟩
     · have a:u≠v:=fun e=>by rw[e,hsv] at hu;cases hu
       have b:u≠w0:=fun e=>by rw[e,hw2.1] at hu;cases hu
       rw[m3 u a b]
       exact W u (by rw[h2,hr,hu];rfl)
     · have:=zcG k1 k2 k3 hv1 hw1 (by rw[m1];omega) (by rw[m2];omega) m3
       omega
 · have old:(mt v= -1∨∃w:Nat,w<w0∧mt v=(w:Int))→N≤qW N mt+2*max c (1+k):=fun h=>by
    have:=C.2 mt M W h
    have:=Nat.le_max_left c (1+k)
    omega
   rcases q with q|⟨w,hwl,q⟩
   · exact old (.inl q)
   · by_cases e:w=w0
     · subst e
       have M2:=M.del q
       have e2:=zhU M q
       have:=B.2 _ M2 fun u hu=>by
        show(if u=v∨u=w then -1 else mt u)= -1
        by_cases h:u=v∨u=w
        · rw[if_pos h]
        · rw[if_neg h]
          refine W u ?_
          rw[h2,hr,decide_eq_false (fun e=>h (.inl e)),decide_eq_false (fun e=>h (.inr e))] at hu
          simpa using hu
       have:=Nat.le_max_right c (1+k)
       omega
     · exact old (.inr ⟨w,by omega,q⟩)
theorem cur_end {N:Nat}{E:Nat→Nat→Prop}{s v c:Nat}(hv:v<N)(C:Cur N E s v N c):W6 N E s c:=⟨C.1,fun mt M W=>C.2 mt M W (by
 rcases M.at_ v hv with h|⟨w,h,hw⟩
 · exact .inl h
 · exact .inr ⟨w,hw,h⟩)⟩
theorem zgK {N:Nat}{E:Nat→Nat→Prop}{s k:Nat}(B:W6 N E s k)(hs:∀v,v<N→s.testBit v=true){mt:Nat→Int}(L:Lg N E mt)(hbig:∀v,¬v<N→mt v= -1):N=qW N mt+2*k:=by
 obtain⟨⟨mt',M,W,e⟩,B2⟩:=B
 have h1:=B2 mt L.1 fun v hv=>by
  by_cases h:v<N
  · rw[hs v h] at hv;cases hv
  · exact hbig v h
 have h2:=L.2 mt' M
 omega
theorem zhE {s v:Nat}(hv:s.testBit v=true)(hlow:∀u,u<v→s.testBit u=false)(u:Nat):(s&&&(s - 1)).testBit u=(s.testBit u&& !decide (u=v)):=by
 have hm:s%2^(v+1)=2^v:=by
  apply Nat.eq_of_testBit_eq
  intro j
  rw[Nat.testBit_mod_two_pow,Nat.testBit_two_pow]
  by_cases h:j<v
  · rw[hlow j h,Bool.and_false,decide_eq_false (show¬v=j by omega)]
  · by_cases h2:j=v
    · subst h2;rw[hv,decide_eq_true (show j<j+1 by omega),decide_eq_true rfl];rfl
    · rw[decide_eq_false (show¬j<v+1 by omega),decide_eq_false (show¬v=j by omega)];rfl
 have hs:s=2^(v+1)*(s / 2^(v+1))+2^v:=by
  have:=Nat.div_add_mod s (2^(v+1))
  omega
 have hp:0<2^v:=Nat.two_pow_pos v
 have hlt:2^v<2^(v+1):=Nat.pow_lt_pow_right (by omega) (by omega)
 generalize s / 2^(v+1)=q at hs
 have hs1:s - 1=2^(v+1)*q+(2^v - 1):=by omega
 rw[Nat.testBit_and,hs1,Nat.testBit_two_pow_mul_add _ (by omega),Nat.testBit_two_pow_sub_one]
 have hsu:s.testBit u=if u<v+1 then(2^v).testBit u else q.testBit (u - (v+1)):=by
  conv=>lhs;rw[hs]
  exact Nat.testBit_two_pow_mul_add _ hlt u
 rw[hsu,Nat.testBit_two_pow]
 by_cases h:u<v+1
 · rw[if_pos h,if_pos h]
   by_cases h2:u=v
   · subst h2;simp
   · have:¬v=u:=fun e=>h2 e.symm
     simp[this]
 · rw[if_neg h,if_neg h]
   have:¬u=v:=by omega
   simp[this]
end Go.Ga.Gl
set_option maxRecDepth 100000
set_option maxHeartbeats 4000000
namespace Go.Proofs.Ytkjppnofgmpeeaa
open Go Go.Ga Go.Ga.Gl
def bor (a b:Int):Int:=IntKind.i64.wrap ((BitVec.ofInt 64 a|||BitVec.ofInt 64 b).toNat:Int)
def zgL (a b:Int):Int:=IntKind.i64.wrap ((BitVec.ofInt 64 a&&&BitVec.ofInt 64 b).toNat:Int)
def zlX (a b:Int):Int:=IntKind.i64.wrap ((BitVec.ofInt 64 a&&&~~~ BitVec.ofInt 64 b).toNat:Int)
theorem orI (a b:Int):yB .or .i64 a b=some (.int .i64 (bor a b)):=rfl
theorem zen (a b:Int):yB .and .i64 a b=some (.int .i64 (zgL a b)):=rfl
theorem zma (a b:Int):yB .andNot .i64 a b=some (.int .i64 (zlX a b)):=rfl
theorem WX {a:Nat}(h:a<2^62):(BitVec.ofInt 64 (a:Int)).toNat=a:=by
 rw[BitVec.toNat_ofInt]
 omega
theorem zcY {a b:Nat}(ha:a<2^62)(hb:b<2^62):bor (a:Int) (b:Int)=((a|||b:Nat):Int):=by
 unfold bor
 rw[BitVec.toNat_or,WX ha,WX hb]
 have:=Nat.or_lt_two_pow ha hb
 exact IntWalk.i64_in _ (by omega)
theorem zaO {a b:Nat}(ha:a<2^62)(hb:b<2^62):zgL (a:Int) (b:Int)=((a&&&b:Nat):Int):=by
 unfold zgL
 rw[BitVec.toNat_and,WX ha,WX hb]
 have:=Nat.and_lt_two_pow a hb
 exact IntWalk.i64_in _ (by omega)
theorem zaN {a b:Nat}(ha:a<2^62)(hb:b<2^62):∃r:Nat,zlX (a:Int) (b:Int)=(r:Int)∧r≤a∧∀u,r.testBit u=(a.testBit u&& !b.testBit u):=by
 have e:(BitVec.ofInt 64 (a:Int)&&&~~~ BitVec.ofInt 64 (b:Int)).toNat=a&&&(2^64 - 1 - b):=by
  rw[BitVec.toNat_and,WX ha,BitVec.toNat_not,WX hb]
 have hle:a&&&(2^64 - 1 - b)≤a:=Nat.and_le_left
 refine⟨a&&&(2^64 - 1 - b),?_,hle,fun u=>?_⟩
 · unfold zlX
   rw[e]
   exact IntWalk.i64_in _ (by omega)
 · have h64:b<2^64:=by omega
   rw[Nat.testBit_and]
   rw[show 2^64 - 1 - b=2^64 - (b+1) by omega,Nat.testBit_two_pow_sub_succ h64]
   by_cases hu:u<64
   · rw[decide_eq_true hu,Bool.true_and]
   · have:a.testBit u=false:=Nat.testBit_lt_two_pow (Nat.lt_of_lt_of_le ha (Nat.pow_le_pow_right (by omega) (by omega)))
     rw[this];rfl
theorem we {w:Nat}(h:w≤40):JU .shl .i64 1 (w:Int)=some (.int .i64 ((2^w:Nat):Int)):=by
 have hp:2^w≤2^40:=Nat.pow_le_pow_right (by omega) h
 unfold JU
 rw[if_neg (by omega)]
 have e:min ((w:Int).toNat) IntKind.i64.bits=w:=by
  show min w 64=w
  omega
 simp only[e,Int.one_mul]
 have:IntKind.i64.wrap (2^w:Int)=((2^w:Nat):Int):=by
  rw[show(2^w:Int)=((2^w:Nat):Int) by simp]
  generalize 2^w=p at hp⊢
  exact IntWalk.i64_in _ (by omega)
 rw[this]
theorem km {s v:Nat}(h:v≤60):JU .shr .i64 (s:Int) (v:Int)=some (.int .i64 ((s / 2^v:Nat):Int)):=by
 unfold JU
 rw[if_neg (by omega)]
 have e:min ((v:Int).toNat) IntKind.i64.bits=v:=by
  show min v 64=v
  omega
 simp only[e]
 rw[Int.fdiv_eq_ediv_of_nonneg _ (Int.le_of_lt (Int.pow_pos (by decide)))]
 simp
theorem kX {s v:Nat}(h:s<2^62):zgL ((s / 2^v:Nat):Int) 1=if s.testBit v=true then 1 else 0:=by
 have hl:s / 2^v<2^62:=Nat.lt_of_le_of_lt (Nat.div_le_self _ _) h
 rw[show(1:Int)=((1:Nat):Int) from rfl,zaO hl (by decide),Nat.and_one_is_mod,Nat.testBit_eq_decide_div_mod_eq]
 by_cases h1:s / 2^v%2=1
 · rw[decide_eq_true h1,if_pos rfl,h1]
 · rw[decide_eq_false h1,if_neg (by simp)]
   omega
instance zmN (es:Es)(a b:Nat):Decidable (Zp es a b):=inferInstanceAs (Decidable ((a,b)∈es∨(b,a)∈es))
def zcx (es:Es)(nm:List Nat):Prop:=∀v,v<nm.length→nm.getD v 0<2^nm.length∧∀u,(nm.getD v 0).testBit u=decide (Zp es v u)
theorem zbC {N:Nat}{es:Es}{k a b:Nat}{nm:List Nat}(hN:nm.length=N)(h:zcx (es.take k) nm)(hx:es[k]?=some (a,b))(hab:a<b)(hb:b<N):zcx (es.take (k+1)) ((nm.set a (nm.getD a 0|||2^b)).set b ((nm.set a (nm.getD a 0|||2^b)).getD b 0|||2^a)):=by
 have ht:es.take (k+1)=es.take k++[(a,b)]:=by
  rw[List.take_add_one,hx];rfl
 have hadj:∀v u,Zp (es.take (k+1)) v u↔Zp (es.take k) v u∨(v=a∧u=b)∨(v=b∧u=a):=fun v u=>by
  rw[ht]
  unfold Zp
  simp only[List.mem_append,List.mem_singleton,Prod.mk.injEq]
  constructor
  · rintro((h|h)|(h|⟨h1,h2⟩))
    · exact .inl (.inl h)
    · exact .inr (.inl h)
    · exact .inl (.inr h)
    · exact .inr (.inr ⟨h2,h1⟩)
  · rintro((h|h)|h|⟨h1,h2⟩)
    · exact .inl (.inl h)
    · exact .inr (.inl h)
    · exact .inl (.inr h)
    · exact .inr (.inr ⟨h2,h1⟩)
 have g1:∀v,v<N→((nm.set a (nm.getD a 0|||2^b)).set b ((nm.set a (nm.getD a 0|||2^b)).getD b 0|||2^a)).getD v 0=if v=b then nm.getD b 0|||2^a else if v=a then nm.getD a 0|||2^b else nm.getD v 0:=fun v hv=>by
  have hab':a≠b:=by omega
  by_cases e:v=b
  · subst e
    have:a≠v:=by omega
    simp[hN,hv,this]
  · by_cases e2:v=a
    · subst e2
      have:b≠v:=by omega
      simp[hN,hv,this,e]
    · have h1:b≠v:=fun k=>e k.symm
      have h2:a≠v:=fun k=>e2 k.symm
      simp[h1,h2,e,e2,List.getElem?_set]
 intro v hv
 have hlen:((nm.set a (nm.getD a 0|||2^b)).set b ((nm.set a (nm.getD a 0|||2^b)).getD b 0|||2^a)).length=N:=by simp[hN]
 rw[hlen] at hv⊢
 rw[g1 v hv]
 have hp:∀c,c<N→2^c<2^N:=fun c hc=>Nat.pow_lt_pow_right (by omega) hc
 have hn:∀c,c<N→nm.getD c 0<2^N∧∀u,(nm.getD c 0).testBit u=decide (Zp (es.take k) c u):=fun c hc=>by
  have:=h c (by omega)
  rw[hN] at this
  exact this
 by_cases e:v=b
 · subst e
   rw[if_pos rfl]
   refine⟨Nat.or_lt_two_pow (hn v hb).1 (hp a (by omega)),fun u=>?_⟩
   rw[Nat.testBit_or,(hn v hb).2,Nat.testBit_two_pow]
   rw [show decide (Zp (es.take (k+1)) v u)=(decide (Zp (es.take k) v u)||decide (a=u)) from by
    rw[←Bool.decide_or]
    refine decide_eq_decide.2 ((hadj v u).trans ?_)
    constructor
    · rintro(h|⟨h,_⟩|⟨_,h⟩)
      · exact .inl h
      · omega
      · exact .inr h.symm
    · rintro(h|h)
      · exact .inl h
      · exact .inr (.inr ⟨rfl,h.symm⟩)]
 · rw [if_neg e]
   by_cases e2:v=a
   · subst e2
     rw[if_pos rfl]
     refine⟨Nat.or_lt_two_pow (hn v hv).1 (hp b hb),fun u=>?_⟩
     rw[Nat.testBit_or,(hn v hv).2,Nat.testBit_two_pow]
     rw [show decide (Zp (es.take (k+1)) v u)=(decide (Zp (es.take k) v u)||decide (b=u)) from by
      rw[←Bool.decide_or]
      refine decide_eq_decide.2 ((hadj v u).trans ?_)
      constructor
      · rintro(h|⟨_,h⟩|⟨h,_⟩)
        · exact .inl h
        · exact .inr h.symm
        · omega
      · rintro(h|h)
        · exact .inl h
        · exact .inr (.inl ⟨rfl,h.symm⟩)]
   · rw[if_neg e2]
     refine⟨(hn v hv).1,fun u=>?_⟩
     rw[(hn v hv).2]
     refine decide_eq_decide.2 ((hadj v u).trans ⟨fun h=>?_,fun h=>?_⟩).symm
     · rcases h with h|⟨h,_⟩|⟨h,_⟩
       · exact h
       · exact absurd h e2
       · exact absurd h e
     · exact .inl h
theorem zh7 {N:Nat}{E:Nat→Nat→Prop}{s k:Nat}(B:W6 N E s k):k≤N:=by
 obtain⟨⟨mt,_,_,h⟩,_⟩:=B
 omega
theorem zlW {N:Nat}{E:Nat→Nat→Prop}{s v w k:Nat}(B:Cur N E s v w k):k≤N:=by
 obtain⟨⟨mt,_,_,h⟩,_⟩:=B
 omega
theorem zbB (es:Es)(N:Nat):zcx (es.take 0) (List.replicate N 0):=fun v hv=>by
 rw[List.length_replicate] at hv⊢
 have e:(List.replicate N 0).getD v 0=0:=by simp[hv]
 rw[e]
 refine⟨Nat.two_pow_pos N,fun u=>?_⟩
 rw[Nat.zero_testBit]
 symm
 rw[decide_eq_false_iff_not]
 unfold Zp
 simp
theorem zeF {N:Nat}{es:Es}(g:GR N es)(hN:N≤12):zo Try.prog [] ziX [.agg [.sc (.int .i64 (N:Int)),.imm 2 (Zj (zP es))]] [] fun r h'=>(∃t:List Nat,t.length=2^N∧(∀s,s<2^N→W6 N (Zp es) s (t.getD s 0))∧r= .own (some 1) (zC t))∧h'=[]:=by
 have hem:=g.hm
 have hm1:8*N≤140737488355328∧(N:Int)≤9223372036854775807:=by omega
 have hp:2^N≤2^12:=Nat.pow_le_pow_right (by omega) hN
 have hp0:1≤2^N:=Nat.two_pow_pos N
 have hM0:Mf N (Zp es) (fun _=> -1):=g.none fun _=>rfl
 have uN:IntKind.u64.wrap (N:Int)=(N:Int):=IntWalk.u64_in _ (by omega)
 have hshN:=we (show N≤40 by omega)
 have ub:∀x:Nat,x<N→IntKind.u64.wrap (x:Int)=(x:Int):=fun x hx=>IntWalk.u64_in _ (by omega)
 have h2p:∀x:Nat,x<N→2^x<2^62:=fun x hx=>Nat.pow_lt_pow_right (by omega) (by omega)
 obtain⟨P,hP⟩:∃P,P=2^N:=⟨_,rfl⟩
 rw[←hP] at hshN hp hp0
 have hm2:8*P≤140737488355328∧(P:Int)≤9223372036854775807:=by omega
 refine zlw rfl ?_
 unfold zjY Zu
 refine za fun KY hKY=>?_
 simp only[go_sem,OP]
 apply hKY
 refine za fun KY hKY=>?_
 simp only[go_sem,OO,hm1,Int.le_refl,Wq]
 apply hKY
 refine zf fun X1 hn1 he1 hr1=>?_
 refine za fun KY hKY=>?_
 simp only[go_sem,ON]
 apply hKY
 refine zm fun X2 hn2 he2 hf2 hr2=>?_
 try simp only[go_sem]
 refine zU (α:=Nat×List Nat) [5,6,19] (fun(k,nm)=>[(3,.own (some 1) (zC nm)),(4,.sc (.int .i64 (k:Int)))]) (fun(k,nm)=>[]) (fun(k,nm) q=>k≤es.length∧nm.length=N∧zcx (es.take k) nm∧q=es.length - k) ((0,List.replicate N 0)) (es.length) rfl (by first|(simp only[go_sem,zd,ze];done)|with_reducible rfl|rfl) (⟨Nat.zero_le _,by simp,zbB es N,rfl⟩) ?_
 rintro⟨k,nm⟩ q ⟨hk,hnl,hmk,rfl⟩ X3 hn3 he3 hr3
 simp only[go_sem,zd,ze]
 refine zf fun X4 hn4 he4 hr4=>?_
 rcases Nat.lt_or_ge k es.length with hk2|hk2
 · have hdx:decide ((k:Int)<(es.length:Int))=true:=decide_eq_true (by omega)
   have hx:es[k]?=some (es[k]):=List.getElem?_eq_getElem hk2
   have hok:=g.ok _ (List.getElem_mem hk2)
   generalize es[k]=ab at hx hok
   obtain⟨a,b⟩:=ab
   simp only at hok
   have hcx:(zP es)[k]?=some ((a:Int),(b:Int)):=by simp[zP,hx]
   have hg0:=xP hcx
   have hg1:=xO hcx
   simp only at hg0 hg1
   have hst:=zbC hnl hmk hx hok.1 hok.2
   have ha:=(hmk a (by omega)).1
   have hb:=(hmk b (by omega)).1
   rw[hnl,←hP] at ha hb
   have hga:(zC nm)[a]?=some (.sc (.int .i64 ((nm.getD a 0:Nat):Int))):=zv (by omega)
   have hor1:=zcY (show nm.getD a 0<2^62 by omega) (h2p b hok.2)
   have hl1:(nm.set a (nm.getD a 0|||2^b)).length=N:=by simp[hnl]
   have hb1:(nm.set a (nm.getD a 0|||2^b)).getD b 0=nm.getD b 0:=by
    have:a≠b:=by omega
    simp[this]
   rw[hb1] at hst
   have hgb:(zC (nm.set a (nm.getD a 0|||2^b)))[b]?=some (.sc (.int .i64 ((nm.getD b 0:Nat):Int))):=by rw[zv (by omega),hb1]
   have hor2:=zcY (show nm.getD b 0<2^62 by omega) (h2p a (by omega))
   have hsa:=we (show a≤40 by omega)
   have hsb:=we (show b≤40 by omega)
   refine za fun KY hKY=>?_
   simp only[go_sem,uY,ZM,xv,zx,hdx]
   apply hKY
   refine ZL ?_
   refine zg ?_
   repeat (first|refine hn4 _ ?_|refine he4 _ _ ?_|refine he3 _ _ ?_|refine hn2 _ ?_|refine he2 _ ?_|refine hf2 _ _ (by decide) ?_|refine hn1 _ ?_|refine he1 _ _ ?_)
   refine zf fun X5 hn5 he5 hr5=>?_
   refine zm fun X6 hn6 he6 hf6 hr6=>?_
   refine zw fun KY hKY=>?_
   simp only[go_sem,OM,hg0,hg1,ZM,zx,xv,hk2,(show k*2+1<es.length*2 by omega),(show k*2<es.length*2 by omega),List.length_drop,(show 1<es.length*2 - k*2 by omega),List.getElem?_drop]
   apply hKY
   refine za fun KY hKY=>?_
   simp only[go_sem,OL,hga,zJ,hnl,(show a<N by omega),ub b hok.2,hsb,↓orI,hor1,yv]
   apply hKY
   refine zk fun KY hKY=>?_
   simp only[go_sem,OK,hgb,zJ,hl1,hok.2,ub a (by omega),hsa,↓orI,hor2,yv]
   apply hKY
   repeat (first|refine hn6 _ ?_|refine he6 _ ?_|refine hf6 _ _ (by decide) ?_|refine hn5 _ ?_|refine he5 _ _ ?_|refine hn4 _ ?_|refine he4 _ _ ?_|refine he3 _ _ ?_|refine hn2 _ ?_|refine he2 _ ?_|refine hf2 _ _ (by decide) ?_|refine hn1 _ ?_|refine he1 _ _ ?_)
   refine zk fun KY hKY=>?_
   simp only[go_sem,OJ,zL (show k<4611686018427387904 by omega)]
   apply hKY
   repeat (first|refine hn6 _ ?_|refine he6 _ ?_|refine hf6 _ _ (by decide) ?_|refine hn5 _ ?_|refine he5 _ _ ?_|refine hn4 _ ?_|refine he4 _ _ ?_)
   refine hn3 _ ((k+1,(nm.set a (nm.getD a 0|||2^b)).set b (nm.getD b 0|||2^a))) (es.length - (k+1)) (by omega) (by first|(simp only[go_sem,zd,ze];done)|with_reducible rfl|rfl) ?_
   exact⟨hk2,by simp[hnl],hst,rfl⟩
 have hdx:decide ((k:Int)<(es.length:Int))=false:=decide_eq_false (by omega)
 refine za fun KY hKY=>?_
 simp only[go_sem,uY,ZM,xv,zx,hdx]
 apply hKY
 refine Zy ?_
 refine zy ?_
 repeat (first|refine hn4 _ ?_|refine he4 _ _ ?_|refine he3 _ _ ?_|refine hn2 _ ?_|refine he2 _ ?_|refine hf2 _ _ (by decide) ?_|refine hn1 _ ?_|refine he1 _ _ ?_)
 have hmf:∀v,v<N→nm.getD v 0<P∧∀u,(nm.getD v 0).testBit u=decide (Zp es v u):=fun v hv=>by
  have:=hmk v (by omega)
  rw[hnl,←hP,List.take_of_length_le (by omega)] at this
  exact this
 refine za fun KY hKY=>?_
 simp only[go_sem,OH,uN,hshN,hm2,Int.le_refl,Wq]
 apply hKY
 have hb0:W6 N (Zp es) 0 0:=zel hM0
 clear hk hk2 hdx hmk
 have hst0:∀x,x<1→W6 N (Zp es) x ((List.replicate P 0).getD x 0):=fun x hx=>by
  obtain rfl:x=0:=by omega
  have:(List.replicate P 0).getD 0 0=0:=by
   rw[List.getD_eq_getElem?_getD,List.getElem?_replicate]
   split<;>rfl
  rw[this];exact hb0
 refine zf fun X7 hn7 he7 hr7=>?_
 refine za fun KY hKY=>?_
 simp only[go_sem,OG]
 apply hKY
 refine zm fun X8 hn8 he8 hf8 hr8=>?_
 try simp only[go_sem]
 refine zU (α:=Nat×List Nat) [9,10,11,64,72,91,110] (fun(s,t)=>[(7,.own (some 1) (zC t)),(8,.sc (.int .i64 (s:Int)))]) (fun(s,t)=>[]) (fun(s,t) q=>1≤s∧s≤P∧t.length=P∧(∀x,x<s→W6 N (Zp es) x (t.getD x 0))∧q=P - s) ((1,List.replicate P 0)) (P - 1) rfl (by first|(simp only[go_sem,zd,ze];done)|with_reducible rfl|rfl) (⟨Nat.le_refl _,hp0,by simp,hst0,rfl⟩) ?_
 rintro⟨s,t⟩ q ⟨hs1,hsP,htl,hbe,rfl⟩ X9 hn9 he9 hr9
 simp only[go_sem,zd,ze]
 refine zf fun X10 hn10 he10 hr10=>?_
 rcases Nat.lt_or_ge s P with hs2|hs2
 · have hdx :decide ((s:Int)<(P:Int))=true:=decide_eq_true (by omega)
   have hs62:s<2^62:=by omega
   have htop:∀u,N≤u→s.testBit u=false:=fun u hu=>Nat.testBit_lt_two_pow (by rw[hP] at hs2;exact Nat.lt_of_lt_of_le hs2 (Nat.pow_le_pow_right (by omega) hu))
   refine za fun KY hKY=>?_
   simp only[go_sem,WP,zJ,htl,hdx]
   apply hKY
   refine ZL ?_
   refine zg ?_
   repeat (first|refine hn10 _ ?_|refine he10 _ _ ?_|refine he9 _ _ ?_|refine hn8 _ ?_|refine he8 _ ?_|refine hf8 _ _ (by decide) ?_|refine hn7 _ ?_|refine he7 _ _ ?_|refine hn4 _ ?_|refine he4 _ _ ?_)
   refine zf fun X11 hn11 he11 hr11=>?_
   refine zm fun X12 hn12 he12 hf12 hr12=>?_
   refine za fun KY hKY=>?_
   simp only[go_sem,VG]
   apply hKY
   refine zf fun X13 hn13 he13 hr13=>?_
   refine zm fun X14 hn14 he14 hf14 hr14=>?_
   try simp only[go_sem]
   refine zU (α:=Nat) [72] (fun v=>[(9,.sc (.int .i64 (v:Int)))]) (fun v=>[]) (fun v q=>v≤N∧(∀u,u<v→s.testBit u=false)∧q=N - v) (0) (N) rfl (by first|(simp only[go_sem,zd,ze];done)|with_reducible rfl|rfl) (⟨Nat.zero_le _,fun u hu=>by omega,rfl⟩) ?_
   rintro v q ⟨hv,hlow,rfl⟩ X15 hn15 he15 hr15
   simp only[go_sem,zd,ze]
   have hvN:v<N:=by
    rcases Nat.lt_or_ge v N with h|h
    · exact h
    · exfalso
      have:s=0:=Nat.eq_of_testBit_eq fun u=>by
       rw[Nat.zero_testBit]
       rcases Nat.lt_or_ge u v with h2|h2
       · exact hlow u h2
       · exact htop u (by omega)
      omega
   have hsr:=km (s:=s) (show v≤60 by omega)
   have hbo:=kX (v:=v) hs62
   refine zf fun X16 hn16 he16 hr16=>?_
   cases hvb:s.testBit v with
   | false=>
     rw[hvb,if_neg (by simp)] at hbo
     refine za fun KY hKY=>?_
     simp only[go_sem,WO,ub v hvN,hsr,↓zen,hbo]
     apply hKY
     refine ZL ?_
     refine zg ?_
     repeat (first|refine hn16 _ ?_|refine he16 _ _ ?_|refine he15 _ _ ?_|refine hn14 _ ?_|refine he14 _ ?_|refine hf14 _ _ (by decide) ?_|refine hn13 _ ?_|refine he13 _ _ ?_|refine hn12 _ ?_|refine he12 _ ?_|refine hf12 _ _ (by decide) ?_|refine hn11 _ ?_|refine he11 _ _ ?_|refine hn10 _ ?_|refine he10 _ _ ?_)
     refine zm fun X17 hn17 he17 hf17 hr17=>?_
     refine zk fun KY hKY=>?_
     simp only[go_sem,VF,zL (show v<4611686018427387904 by omega)]
     apply hKY
     repeat (first|refine hn17 _ ?_|refine he17 _ ?_|refine hf17 _ _ (by decide) ?_|refine hn16 _ ?_|refine he16 _ _ ?_)
     refine hn15 _ (v+1) (N - (v+1)) (by omega) (by first|(simp only[go_sem,zd,ze];done)|with_reducible rfl|rfl) ?_
     refine⟨hvN,fun u hu=>?_,rfl⟩
     by_cases e:u=v
     · rw[e];exact hvb
     · exact hlow u (by omega)
   | true=>
     rw[hvb,if_pos rfl] at hbo
     refine za fun KY hKY=>?_
     simp only[go_sem,WO,ub v hvN,hsr,↓zen,hbo]
     apply hKY
     refine Zy ?_
     refine zy ?_
     repeat (first|refine hn16 _ ?_|refine he16 _ _ ?_|refine he15 _ _ ?_|refine hn14 _ ?_|refine he14 _ ?_|refine hf14 _ _ (by decide) ?_|refine hn13 _ ?_|refine he13 _ _ ?_|refine hn12 _ ?_|refine he12 _ ?_|refine hf12 _ _ (by decide) ?_|refine hn11 _ ?_|refine he11 _ _ ?_|refine hn10 _ ?_|refine he10 _ _ ?_|refine he9 _ _ ?_|refine hn8 _ ?_|refine he8 _ ?_|refine hf8 _ _ (by decide) ?_|refine hn7 _ ?_|refine he7 _ _ ?_|refine hn4 _ ?_|refine he4 _ _ ?_|refine he3 _ _ ?_|refine hn2 _ ?_|refine he2 _ ?_|refine hf2 _ _ (by decide) ?_|refine hn1 _ ?_|refine he1 _ _ ?_)
     obtain⟨rest,hrest⟩:∃x,x=s&&&(s - 1):=⟨_,rfl⟩
     have hrb:=zhE hvb hlow
     rw[←hrest] at hrb
     have hrle:rest≤s - 1:=by rw[hrest];exact Nat.and_le_right
     have hw1:IntKind.i64.wrap ((s:Int) - 1)=((s - 1:Nat):Int):=by rw[IntWalk.i64_in _ (by omega)];omega
     have hba:zgL (s:Int) ((s - 1:Nat):Int)=(rest:Int):=by rw[zaO hs62 (by omega),←hrest]
     have hB0:=hbe rest (by omega)
     have hC0:=zea hlow hrb hB0
     have hgr:(zC t)[rest]?=some (.sc (.int .i64 ((t.getD rest 0:Nat):Int))):=zv (by omega)
     have hr62:rest<2^62:=by omega
     refine za fun KY hKY=>?_
     simp only[go_sem,VE,hw1,↓zen,hba]
     apply hKY
     refine za fun KY hKY=>?_
     simp only[go_sem,VD,hgr,zJ,htl,(show rest<P by omega),hs2,yv]
     apply hKY
     refine za fun KY hKY=>?_
     simp only[go_sem,VC,zL (show v<4611686018427387904 by omega)]
     apply hKY
     refine zm fun X18 hn18 he18 hf18 hr18=>?_
     try simp only[go_sem]
     refine zU (α:=Nat×Nat) [91,110] (fun(w,c)=>[(7,.own (some 1) (zC (t.set s c))),(11,.sc (.int .i64 (w:Int)))]) (fun(w,c)=>[]) (fun(w,c) q=>v<w∧w≤N∧Cur N (Zp es) s v w c∧q=N - w) ((v+1,t.getD rest 0)) (N - (v+1)) rfl (by first|(simp only[go_sem,zd,ze];done)|with_reducible rfl|rfl) (⟨by omega,hvN,hC0,rfl⟩) ?_
     rintro⟨w,c⟩ q ⟨hvw,hwN,hC,rfl⟩ X19 hn19 he19 hr19
     simp only[go_sem,zd,ze]
     have htl2:(t.set s c).length=P:=by simp[htl]
     refine zf fun X20 hn20 he20 hr20=>?_
     rcases Nat.lt_or_ge w N with hw2|hw2
     · have hdw:decide ((w:Int)<(N:Int))=true:=decide_eq_true (by omega)
       have hsw:=km (s:=rest) (show w≤60 by omega)
       have hbw:=kX (v:=w) hr62
       have hmv:=hmf v hvN
       have hgv:(zC nm)[v]?=some (.sc (.int .i64 ((nm.getD v 0:Nat):Int))):=zv (by omega)
       have hsm:=km (s:=nm.getD v 0) (show w≤60 by omega)
       have hbm:=kX (v:=w) (show nm.getD v 0<2^62 by omega)
       rw[hmv.2 w] at hbm
       refine za fun KY hKY=>?_
       simp only[go_sem,WN,hdw]
       apply hKY
       refine ZL ?_
       refine zg ?_
       repeat (first|refine hn20 _ ?_|refine he20 _ _ ?_|refine he19 _ _ ?_|refine hn18 _ ?_|refine he18 _ ?_|refine hf18 _ _ (by decide) ?_|refine hn16 _ ?_|refine he16 _ _ ?_)
       refine zf fun X21 hn21 he21 hr21=>?_
       refine zm fun X22 hn22 he22 hf22 hr22=>?_
       cases hrw:rest.testBit w with
       | false=>
         rw[hrw,if_neg (by simp)] at hbw
         have hno:=zge hrb hC (fun h=>by rw[hrw] at h;cases h.1)
         refine za fun KY hKY=>?_
         simp only[go_sem,Yi,ub w hw2,hsw,↓zen,hbw]
         apply hKY
         refine Zy ?_
         refine zg ?_
         repeat (first|refine hn22 _ ?_|refine he22 _ ?_|refine hf22 _ _ (by decide) ?_|refine hn21 _ ?_|refine he21 _ _ ?_|refine hn20 _ ?_|refine he20 _ _ ?_|refine he19 _ _ ?_|refine hn18 _ ?_|refine he18 _ ?_|refine hf18 _ _ (by decide) ?_|refine hn16 _ ?_|refine he16 _ _ ?_)
         refine zk fun KY hKY=>?_
         simp only[go_sem,Yh,zL (show w<4611686018427387904 by omega)]
         apply hKY
         repeat (first|refine hn22 _ ?_|refine he22 _ ?_|refine hf22 _ _ (by decide) ?_|refine hn21 _ ?_|refine he21 _ _ ?_|refine hn20 _ ?_|refine he20 _ _ ?_)
         refine hn19 _ ((w+1,c)) (N - (w+1)) (by omega) (by first|(simp only[go_sem,zd,ze];done)|with_reducible rfl|rfl) ?_
         exact⟨by omega,hw2,hno,rfl⟩
       | true=>
         rw[hrw,if_pos rfl] at hbw
         by_cases hadj:Zp es v w
         · rw[decide_eq_true hadj,if_pos rfl] at hbm
           obtain⟨r2,hr2,hr2le,hr2b⟩:=zaN hr62 (h2p w hw2)
           have hr2t:∀u,r2.testBit u=(rest.testBit u&& !decide (u=w)):=fun u=>by
            rw[hr2b,Nat.testBit_two_pow]
            congr 2
            exact decide_eq_decide.2 eq_comm
           have hB2:=hbe r2 (by omega)
           have hyes:=zh4 hvb hrb hr2t hC hrw hadj hB2
           have hk2:=zh7 hB2
           have hc2:=zlW hC
           have hgs:(zC (t.set s c))[s]?=some (.sc (.int .i64 (c:Int))):=by
            rw[zv (by omega)]
            have:(t.set s c).getD s 0=c:=by simp[htl,hs2]
            rw[this]
           have hg2:(zC (t.set s c))[r2]?=some (.sc (.int .i64 ((t.getD r2 0:Nat):Int))):=by
            rw[zv (by omega)]
            have:(t.set s c).getD r2 0=t.getD r2 0:=by
             have:s≠r2:=by omega
             simp[this]
            rw[this]
           have hw9:IntKind.i64.wrap (1+((t.getD r2 0:Nat):Int))=((1+t.getD r2 0:Nat):Int):=by rw[IntWalk.i64_in _ (by omega)];omega
           have hmx:max (c:Int) ((1+t.getD r2 0:Nat):Int)=((max c (1+t.getD r2 0):Nat):Int):=by omega
           have hslw:=we (show w≤40 by omega)
           refine za fun KY hKY=>?_
           simp only[go_sem,Yi,ub w hw2,hsw,↓zen,hbw,hgv,zJ,hnl,hvN,hsm,hbm]
           apply hKY
           refine ZL ?_
           refine j0 fun KY hKY=>?_
           simp only[go_sem,VB,hgs,hg2,zJ,htl2,hs2,(show r2<P by omega),ub w hw2,hslw,↓zma,hr2,hw9,hmx,yv,List.set_set]
           apply hKY
           repeat (first|refine hn22 _ ?_|refine he22 _ ?_|refine hf22 _ _ (by decide) ?_|refine hn21 _ ?_|refine he21 _ _ ?_|refine hn20 _ ?_|refine he20 _ _ ?_|refine he19 _ _ ?_|refine hn18 _ ?_|refine he18 _ ?_|refine hf18 _ _ (by decide) ?_|refine hn16 _ ?_|refine he16 _ _ ?_)
           refine zk fun KY hKY=>?_
           simp only[go_sem,Yh,zL (show w<4611686018427387904 by omega)]
           apply hKY
           repeat (first|refine hn22 _ ?_|refine he22 _ ?_|refine hf22 _ _ (by decide) ?_|refine hn21 _ ?_|refine he21 _ _ ?_|refine hn20 _ ?_|refine he20 _ _ ?_)
           refine hn19 _ ((w+1,max c (1+t.getD r2 0))) (N - (w+1)) (by omega) (by first|(simp only[go_sem,zd,ze];done)|with_reducible rfl|rfl) ?_
           exact⟨by omega,hw2,hyes,rfl⟩
         · rw[decide_eq_false hadj,if_neg (by simp)] at hbm
           have hno:=zge hrb hC (fun h=>hadj h.2)
           refine za fun KY hKY=>?_
           simp only[go_sem,Yi,ub w hw2,hsw,↓zen,hbw,hgv,zJ,hnl,hvN,hsm,hbm]
           apply hKY
           refine Zy ?_
           refine zg ?_
           repeat (first|refine hn22 _ ?_|refine he22 _ ?_|refine hf22 _ _ (by decide) ?_|refine hn21 _ ?_|refine he21 _ _ ?_|refine hn20 _ ?_|refine he20 _ _ ?_|refine he19 _ _ ?_|refine hn18 _ ?_|refine he18 _ ?_|refine hf18 _ _ (by decide) ?_|refine hn16 _ ?_|refine he16 _ _ ?_)
           refine zk fun KY hKY=>?_
           simp only[go_sem,Yh,zL (show w<4611686018427387904 by omega)]
           apply hKY
           repeat (first|refine hn22 _ ?_|refine he22 _ ?_|refine hf22 _ _ (by decide) ?_|refine hn21 _ ?_|refine he21 _ _ ?_|refine hn20 _ ?_|refine he20 _ _ ?_)
           refine hn19 _ ((w+1,c)) (N - (w+1)) (by omega) (by first|(simp only[go_sem,zd,ze];done)|with_reducible rfl|rfl) ?_
           exact⟨by omega,hw2,hno,rfl⟩
     have hdw:decide ((w:Int)<(N:Int))=false:=decide_eq_false (by omega)
     obtain rfl:w=N:=by omega
     have hBs:=cur_end hvN hC
     refine za fun KY hKY=>?_
     simp only[go_sem,WN,hdw]
     apply hKY
     refine Zy ?_
     refine zy ?_
     repeat (first|refine hn20 _ ?_|refine he20 _ _ ?_|refine he19 _ _ ?_|refine hn18 _ ?_|refine he18 _ ?_|refine hf18 _ _ (by decide) ?_|refine hn16 _ ?_|refine he16 _ _ ?_|refine he15 _ _ ?_|refine hn14 _ ?_|refine he14 _ ?_|refine hf14 _ _ (by decide) ?_|refine hn13 _ ?_|refine he13 _ _ ?_|refine hn12 _ ?_|refine he12 _ ?_|refine hf12 _ _ (by decide) ?_|refine hn11 _ ?_|refine he11 _ _ ?_|refine hn10 _ ?_|refine he10 _ _ ?_|refine he9 _ _ ?_|refine hn8 _ ?_|refine he8 _ ?_|refine hf8 _ _ (by decide) ?_|refine hn7 _ ?_|refine he7 _ _ ?_|refine hn4 _ ?_|refine he4 _ _ ?_)
     refine zk fun KY hKY=>?_
     simp only[go_sem,VA,zL (show s<4611686018427387904 by omega)]
     apply hKY
     repeat (first|refine hn20 _ ?_|refine he20 _ _ ?_|refine he19 _ _ ?_|refine hn18 _ ?_|refine he18 _ ?_|refine hf18 _ _ (by decide) ?_|refine hn16 _ ?_|refine he16 _ _ ?_|refine he15 _ _ ?_|refine hn14 _ ?_|refine he14 _ ?_|refine hf14 _ _ (by decide) ?_|refine hn13 _ ?_|refine he13 _ _ ?_|refine hn12 _ ?_|refine he12 _ ?_|refine hf12 _ _ (by decide) ?_|refine hn11 _ ?_|refine he11 _ _ ?_|refine hn10 _ ?_|refine he10 _ _ ?_)
     refine hn9 _ ((s+1,t.set s c)) (P - (s+1)) (by omega) (by first|(simp only[go_sem,zd,ze];done)|with_reducible rfl|rfl) ?_
     refine⟨by omega,hs2,htl2,fun x hx=>?_,rfl⟩
     by_cases e:x=s
     · have:(t.set s c).getD x 0=c:=by rw[e];simp[htl,hs2]
       rw[this,e];exact hBs
     · have:(t.set s c).getD x 0=t.getD x 0:=by
        have:s≠x:=fun k=>e k.symm
        simp[this]
       rw[this];exact hbe x (by omega)
 have hdx:decide ((s:Int)<(P:Int))=false:=decide_eq_false (by omega)
 obtain rfl:s=P:=by omega
 refine za fun KY hKY=>?_
 simp only[go_sem,WP,zJ,htl,hdx]
 apply hKY
 refine Zy ?_
 refine zy ?_
 repeat (first|refine hn10 _ ?_|refine he10 _ _ ?_|refine he9 _ _ ?_|refine hn8 _ ?_|refine he8 _ ?_|refine hf8 _ _ (by decide) ?_|refine hn7 _ ?_|refine he7 _ _ ?_|refine hn4 _ ?_|refine he4 _ _ ?_|refine he3 _ _ ?_|refine hn2 _ ?_|refine he2 _ ?_|refine hf2 _ _ (by decide) ?_|refine hn1 _ ?_|refine he1 _ _ ?_)
 refine za fun KY hKY=>?_
 simp only[go_sem,Vz]
 apply hKY
 refine zi ?_
 repeat (first|refine hr10 _ ?_|refine hr9 _ ?_|refine hr8 _ ?_|refine hr7 _ ?_|refine hr4 _ ?_|refine hr3 _ ?_|refine hr2 _ ?_|refine hr1 _ ?_)
 simp only[go_sem]
 exact⟨t,by rw[htl,hP],fun x hx=>hbe x (by rw[hP];exact hx),rfl⟩
structure FD where
 lab:List Int
 out:List Bool
 ev:List Int
 od:List Int
 pr:List Int
 rt:List Int
 br:List (Int×Int)
 gone:List Bool
 up:List Int
 bs:List Int
 mr:List Int
 tn:Int
 wt:List Nat
 lk:Int
def FD.obj (nr:List (List Nat))(m:List Int)(F:FD):List zc:=
 [.imm 1 (Zq nr),.imm 1 (zj m),.own (some 1) (zj F.lab),.own (some 1) (Zb F.out),.own (some 1) (zj F.ev),.own (some 1) (zj F.od),.own (some 1) (zj F.pr),.own (some 1) (zj F.rt),.own (some 2) (Zj F.br),.own (some 1) (Zb F.gone),.own (some 1) (zj F.up),.own (some 1) (zj F.bs),.own (some 1) (zj F.mr),.sc (.int .i64 F.tn),.own (some 1) (zC F.wt),.sc (.int .i64 F.lk)]
structure FD.Sz (n:Nat)(F:FD):Prop where
 lab:F.lab.length=n
 out:F.out.length=n
 ev:F.ev.length=n
 od:F.od.length=n
 pr:F.pr.length=n
 rt:F.rt.length=n
 br:F.br.length=n
 gone:F.gone.length=n
 up:F.up.length=n
 bs:F.bs.length=n
 mr:F.mr.length=n
def FD.raise (F:FD)(v:Nat)(e l:Int):FD:={F with out:=F.out.set v true,ev:=F.ev.set v e,lab:=if F.lab.getD v 0=0 then F.lab.set v l else F.lab,wt:=F.wt++[v]}
theorem Xc (nr:List (List Nat))(m:List Int){n:Nat}(F:FD)(S:F.Sz n){v:Nat}(hv:v<n)(e l:Int)(hw:F.wt.length≤1000000):
    zo Try.prog [] zfx [.ptr 0 0,.sc (.int .i64 (v:Int)),.sc (.int .i64 e),.sc (.int .i64 l)] [some (F.obj nr m)] fun r h'=>r= .tup []∧h'=[some ((F.raise v e l).obj nr m)]:=by
  obtain⟨lab,out,ev,od,pr,rt,br,gone,up,bs,mr,tn,wt,lk⟩:=F
  obtain⟨s1,s2,s3,s4,s5,s6,s7,s8,s9,s10,s11⟩:=S
  simp only at s1 s2 s3 s4 s5 s6 s7 s8 s9 s10 s11
  simp only at hw
  unfold FD.obj FD.raise
  refine zkU rfl ?_
  unfold zjm Y8
  simp only
  refine zw fun KY hKY=>?_
  simp only[go_sem,gY,zX,jy,zq,ju,s2,s3,hv]
  apply hKY
  refine zf fun X1 hn1 he1 hr1=>?_
  by_cases h0:lab.getD v 0=0
  · have hd:decide (lab.getD v 0=0)=true:=decide_eq_true h0
    refine za fun KY hKY=>?_
    simp only[go_sem,ul,zh (show v<lab.length by omega),zq,s1,hv,hd]
    apply hKY
    refine ZL ?_
    refine zk fun KY hKY=>?_
    simp only[go_sem,gX,zq,s1,hv,ju]
    apply hKY
    repeat (first|refine hn1 _ ?_|refine he1 _ _ ?_)
    refine zk fun KY hKY=>?_
    simp only[go_sem,uk,ZR,zJ,(show(wt.length+1)*8≤140737488355328 by omega)]
    apply hKY
    simp only[go_sem,if_pos h0]
  · have hd:decide (lab.getD v 0=0)=false:=decide_eq_false h0
    refine za fun KY hKY=>?_
    simp only[go_sem,ul,zh (show v<lab.length by omega),zq,s1,hv,hd]
    apply hKY
    refine Zy ?_
    refine zg ?_
    repeat (first|refine hn1 _ ?_|refine he1 _ _ ?_)
    refine zk fun KY hKY=>?_
    simp only[go_sem,uk,ZR,zJ,(show(wt.length+1)*8≤140737488355328 by omega)]
    apply hKY
    simp only[go_sem,if_neg h0]
theorem XQ (nr:List (List Nat))(m:List Int){n:Nat}(F:FD){rep h:Nat→Nat}(U:Uv n F.up rep h){v:Nat}(hv:v<n):
    zo Try.prog [[1,0]] zir [.ptr 0 0,.sc (.int .i64 (v:Int))] [some (F.obj nr m)] fun r h'=>r= .sc (.int .i64 (rep v:Nat))∧∃up',Uv n up' rep h∧h'=[some (({F with up:=up'}:FD).obj nr m)]:=by
  obtain⟨lab,out,ev,od,pr,rt,br,gone,up,bs,mr,tn,wt,lk⟩:=F
  simp only at U
  unfold FD.obj
  refine zkT rfl ?_
  unfold zjl Q9
  simp only
  refine za fun KY hKY=>?_
  simp only[go_sem,gW,zS,zM,ZQ.quiet]
  apply hKY
  refine zf fun X1 hn1 he1 hr1=>?_
  refine zm fun X2 hn2 he2 hf2 hr2=>?_
  try simp only[go_sem]
  refine zU (α:=List Int×Nat) [13] (fun(up',c)=>[(1,.sc (.int .i64 (c:Int)))]) (fun(up',c)=>[some [.imm 1 (Zq nr),.imm 1 (zj m),.own (some 1) (zj lab),.own (some 1) (Zb out),.own (some 1) (zj ev),.own (some 1) (zj od),.own (some 1) (zj pr),.own (some 1) (zj rt),.own (some 2) (Zj br),.own (some 1) (Zb gone),.own (some 1) (zj up'),.own (some 1) (zj bs),.own (some 1) (zj mr),.sc (.int .i64 tn),.own (some 1) (zC wt),.sc (.int .i64 lk)]]) (fun(up',c) q=>Uv n up' rep h∧c<n∧rep c=rep v∧q=h c) ((up,v)) (h v) rfl (by first|(simp only[go_sem,zd,ze];done)|with_reducible rfl|rfl) (⟨U,hv,rfl,rfl⟩) ?_
  rintro⟨up',c⟩ q ⟨U',hc,hr,rfl⟩ X3 hn3 he3 hr3
  simp only[go_sem,zd,ze]
  obtain⟨u,h1,h2,h3,h4,h5⟩:=U'.at_ c hc
  have hcl:c<up'.length:=by rw[U'.len];exact hc
  have hul:u<up'.length:=by rw[U'.len];exact h2
  have hgc:(zj up')[c]?=some (.sc (.int .i64 (u:Int))):=by rw[zh hcl,h1]
  by_cases e:u=c
  · have hdx:decide ((u:Int)≠(c:Int))=false:=decide_eq_false (by omega)
    refine zf fun X4 hn4 he4 hr4=>?_
    refine za fun KY hKY=>?_
    simp only[go_sem,uj,zS,zM,ZQ.quiet,hgc,hcl,zq,hdx]
    apply hKY
    refine Zy ?_
    refine zy ?_
    repeat (first|refine hn4 _ ?_|refine he4 _ _ ?_|refine he3 _ _ ?_|refine hn2 _ ?_|refine he2 _ ?_|refine hf2 _ _ (by decide) ?_|refine hn1 _ ?_|refine he1 _ _ ?_)
    refine za fun KY hKY=>?_
    simp only[go_sem,gT,zS,zM,ZQ.quiet]
    apply hKY
    refine zi ?_
    repeat (first|refine hr4 _ ?_|refine hr3 _ ?_|refine hr2 _ ?_|refine hr1 _ ?_)
    simp only[go_sem,JE,qQ]
    exact⟨by rw[←hr,h4 e],up',U',rfl⟩
  · have hdy:decide ((u:Int)≠(c:Int))=true:=decide_eq_true (by omega)
    obtain⟨w,b1,b2,_⟩:=U'.at_ u h2
    obtain⟨k1,k2,k3,k4⟩:=U'.halve hc h1 e b1
    have hgu:(zj up')[u]?=some (.sc (.int .i64 (w:Int))):=by rw[zh hul,b1]
    have hgc2:(zj (up'.set c (w:Int)))[c]?=some (.sc (.int .i64 (w:Int))):=by rw[zh (by rw[List.length_set];exact hcl),ZO _ _ _ _ hcl,if_pos rfl]
    refine zf fun X5 hn5 he5 hr5=>?_
    refine za fun KY hKY=>?_
    simp only[go_sem,uj,zS,zM,ZQ.quiet,hgc,hcl,zq,hdy]
    apply hKY
    refine ZL ?_
    refine zg ?_
    repeat (first|refine hn5 _ ?_|refine he5 _ _ ?_|refine he3 _ _ ?_|refine hn2 _ ?_|refine he2 _ ?_|refine hf2 _ _ (by decide) ?_|refine hn1 _ ?_|refine he1 _ _ ?_)
    refine zm fun X6 hn6 he6 hf6 hr6=>?_
    refine zw fun KY hKY=>?_
    simp only[go_sem,gV,hgc,hgu,hcl,hul,zq,ju]
    refine⟨rfl,hKY _ ?_⟩
    refine zk fun KY hKY=>?_
    simp only[go_sem,gU,zS,zM,ZQ.quiet,hgc2,List.length_set,hcl,zq]
    apply hKY
    repeat (first|refine hn6 _ ?_|refine he6 _ ?_|refine hf6 _ _ (by decide) ?_|refine hn5 _ ?_|refine he5 _ _ ?_)
    refine hn3 _ ((up'.set c (w:Int),w)) (h w) (by omega) (by first|(simp only[go_sem,zd,ze];done)|with_reducible rfl|rfl) ?_
    exact⟨k1,k2,k3.trans hr,rfl⟩
theorem zcZ (nr:List (List Nat))(m:List Int){n:Nat}(F:FD){rep h:Nat→Nat}(U:Uv n F.up rep h)(hb:F.bs.length=n){v:Nat}(hv:v<n):
    zo Try.prog [[1,0]] KI [.ptr 0 0,.sc (.int .i64 (v:Int))] [some (F.obj nr m)] fun r h'=>r= .sc (.int .i64 (F.bs.getD (rep v) 0))∧∃up',Uv n up' rep h∧h'=[some (({F with up:=up'}:FD).obj nr m)]:=by
  have hf:=XQ nr m F U hv
  have hrl:=U.rep_lt hv
  obtain⟨lab,out,ev,od,pr,rt,br,gone,up,bs,mr,tn,wt,lk⟩:=F
  simp only at U hb
  unfold FD.obj at hf⊢
  simp only at hf
  refine zk1 rfl ?_
  unfold zjt UR
  simp only
  refine za fun KY hKY=>?_
  simp only[go_sem,GN,zS,zM,ZQ.quiet]
  apply hKY
  refine zw fun KY hKY=>?_
  simp only[go_sem,GM]
  apply zn [] [0] false none rfl
  iterate 8 (first|(simp only[go_sem,zp]<;>rfl)|rfl)
  refine(hf.less (by simp)).mono ?_
  rintro _ _ ⟨rfl,up',U',rfl⟩
  refine⟨Nat.le_of_ble_eq_true rfl,(fun hh=>by cases hh),?_⟩
  simp only[go_sem,zr,zb.after,zh (show rep v<bs.length by omega),zq,hb,hrl]
  apply hKY
  refine zi ?_
  simp only[go_sem,JE,qQ]
  exact⟨up',U',rfl⟩
theorem zex (nr:List (List Nat))(m:List Int){n:Nat}(F:FD){rep h:Nat→Nat}(U:Uv n F.up rep h)(hb:F.bs.length=n){v w:Nat}(hv:v<n)(hw:w<n)(b:Int):
    zo Try.prog [] zfv [.ptr 0 0,.sc (.int .i64 (v:Int)),.sc (.int .i64 (w:Int)),.sc (.int .i64 b)] [some (F.obj nr m)] fun r h'=>r= .tup []∧∃up' h2,Uv n up' (fun u=>if rep u=rep v then rep w else rep u) h2∧h'=[some (({F with up:=up',bs:=F.bs.set (rep w) b}:FD).obj nr m)]:=by
  have hf:=XQ nr m F U hv
  have hrl:=U.rep_lt hw
  have hrv:=U.rep_lt hv
  obtain⟨lab,out,ev,od,pr,rt,br,gone,up,bs,mr,tn,wt,lk⟩:=F
  simp only at U hb
  have hg:=fun up' (U':Uv n up' rep h)=>XQ nr m ⟨lab,out,ev,od,pr,rt,br,gone,up',bs,mr,tn,wt,lk⟩ U' hw
  unfold FD.obj at hf hg⊢
  simp only at hf hg
  refine zkM rfl ?_
  unfold zje W7
  simp only
  refine za fun KY hKY=>?_
  simp only[go_sem,gc]
  apply zn [] [0] false none rfl
  iterate 8 (first|(simp only[go_sem,zp]<;>rfl)|rfl)
  refine(hf.less (by simp)).mono ?_
  rintro _ _ ⟨rfl,up',U',rfl⟩
  refine⟨Nat.le_of_ble_eq_true rfl,(fun hh=>by cases hh),?_⟩
  simp only[go_sem,zr,zb.after]
  apply zn [] [0] false none rfl
  iterate 8 (first|(simp only[go_sem,zp]<;>rfl)|rfl)
  refine((hg up' U').less (by simp)).mono ?_
  rintro _ _ ⟨rfl,up2,U2,rfl⟩
  refine⟨Nat.le_of_ble_eq_true rfl,(fun hh=>by cases hh),?_⟩
  simp only[go_sem,zr,zb.after]
  apply hKY
  have hul:rep v<up2.length:=by rw[U2.len];exact hrv
  refine za fun KY hKY=>?_
  simp only[go_sem,ga,hul,zq,ju]
  apply hKY
  refine zk fun KY hKY=>?_
  simp only[go_sem,K9,hb,hrl,zq,ju]
  apply hKY
  simp only[go_sem]
  exact⟨_,_,U2.unite hv hw,rfl⟩
theorem zdN (nr:List (List Nat))(m:List Int)(F:FD)(h:F.wt=[]):
    zo Try.prog [] zcu [.ptr 0 0] [some (F.obj nr m)] fun r h'=>r= .tup [.sc (.int .i64 0),.sc (.bool false)]∧h'=[some (F.obj nr m)]:=by
  obtain⟨lab,out,ev,od,pr,rt,br,gone,up,bs,mr,tn,wt,lk⟩:=F
  simp only at h
  subst h
  unfold FD.obj
  refine zf5 rfl ?_
  unfold zgm qw
  simp only
  refine za fun KY hKY=>?_
  simp only[go_sem,ux]
  apply hKY
  refine zf fun X1 hn1 he1 hr1=>?_
  refine za fun KY hKY=>?_
  simp only[go_sem,uw,zJ]
  apply hKY
  refine ZL ?_
  refine za fun KY hKY=>?_
  simp only[go_sem,GL]
  apply hKY
  refine zi ?_
  repeat (first|refine hr1 _ ?_)
  simp only[go_sem]
theorem zdM (nr:List (List Nat))(m:List Int)(F:FD){c:Nat}{ws:List Nat}(h:F.wt=c::ws):
    zo Try.prog [] zcu [.ptr 0 0] [some (F.obj nr m)] fun r h'=>r= .tup [.sc (.int .i64 (c:Int)),.sc (.bool true)]∧h'=[some (({F with wt:=ws}:FD).obj nr m)]:=by
  obtain⟨lab,out,ev,od,pr,rt,br,gone,up,bs,mr,tn,wt,lk⟩:=F
  simp only at h
  subst h
  unfold FD.obj
  have hg:(zC (c::ws))[0]?=some (.sc (.int .i64 (c:Int))):=rfl
  have hl:(zC (c::ws)).length=ws.length+1:=by simp[zC]
  have hd:decide (((ws.length+1:Nat):Int)=0)=false:=decide_eq_false (by omega)
  have hcut:Zz (zC (c::ws)) 1 1 (ws.length+1)=zC ws:=by
    unfold Zz
    show(zC ws).take ((ws.length+1 - 1)*1)=zC ws
    rw[show(ws.length+1 - 1)*1=(zC ws).length by rw[zJ];omega,List.take_length]
  refine zf5 rfl ?_
  unfold zgm qw
  simp only
  refine za fun KY hKY=>?_
  simp only[go_sem,ux]
  apply hKY
  refine zf fun X1 hn1 he1 hr1=>?_
  refine za fun KY hKY=>?_
  simp only[go_sem,uw,hl,hd]
  apply hKY
  refine Zy ?_
  refine zg ?_
  repeat (first|refine hn1 _ ?_|refine he1 _ _ ?_)
  refine za fun KY hKY=>?_
  simp only[go_sem,GK,hg,hl,(show 0<ws.length+1 by omega)]
  apply hKY
  refine za fun KY hKY=>?_
  simp only[go_sem,GJ,hl,hcut,Nat.div_one,qS,(show 0<ws.length+1 by omega),(show ws.length<ws.length+1 by omega),and_self]
  apply hKY
  refine za fun KY hKY=>?_
  simp only[go_sem,GI]
  apply hKY
  refine zi ?_
  repeat (first|refine hr1 _ ?_)
  simp only[go_sem]
theorem zcE (nr:List (List Nat))(m:List Int){n:Nat}(F:FD){rv:Int}(hrt:F.rt.length=n)(hgo:F.gone.length=n)(hg:∀v,v<n→F.gone.getD v false=false){v:Nat}(hv:v<n)(hr:F.rt.getD v 0=rv)(hrv:rv= -1∨∃r:Nat,rv=(r:Int)∧r<n):
    zo Try.prog [[1,0]] ziq [.ptr 0 0,.sc (.int .i64 (v:Int))] [some (F.obj nr m)] fun r h'=>r= .sc (.bool false)∧h'=[some (F.obj nr m)]:=by
  obtain⟨lab,out,ev,od,pr,rt,br,gone,up,bs,mr,tn,wt,lk⟩:=F
  simp only at hrt hgo hg hr
  unfold FD.obj
  have hgr:(zj rt)[v]?=some (.sc (.int .i64 rv)):=by rw[zh (by omega),hr]
  refine zkS rfl ?_
  unfold zjk UP
  simp only
  refine za fun KY hKY=>?_
  simp only[go_sem,gS,zS,zM,ZQ.quiet]
  apply hKY
  rcases hrv with rfl|⟨r,rfl,hrn⟩
  · refine zw fun KY hKY=>?_
    simp only[go_sem,ui,hgr,zq,hrt,hv]
    apply hKY
    refine zi ?_
    simp only[go_sem,JE,qQ]
  · have hd:decide ((r:Int)≠ -1)=true:=decide_eq_true (by omega)
    have hgg:(Zb gone)[r]?=some (.sc (.bool false)):=by rw[ji (by omega),hg r hrn]
    refine zw fun KY hKY=>?_
    simp only[go_sem,ui,hgr,zq,hrt,hv,hd,hgg,zX,hgo,hrn]
    apply hKY
    refine zi ?_
    simp only[go_sem,JE,qQ]
def UD (l:List Nat)(i:Nat):List Nat:=(List.range l.length).map fun j=>if j<i∨l.length - 1 - i<j then l.getD (l.length - 1 - j) 0 else l.getD j 0
theorem zg9 (l:List Nat)(i:Nat):(UD l i).length=l.length:=by simp[UD]
theorem zcg {l:List Nat}{i j:Nat}(h:j<l.length):(UD l i).getD j 0=if j<i∨l.length - 1 - i<j then l.getD (l.length - 1 - j) 0 else l.getD j 0:=by simp[UD,h]
theorem zeG (l:List Nat):UD l 0=l:=by
 apply List.ext_getElem (by simp[UD])
 intro j h1 h2
 simp only[UD,List.getElem_map,List.getElem_range]
 rw[if_neg (by omega)]
 simp[h2]
theorem swp_end {l:List Nat}{i:Nat}(h:l.length≤2*i+1):UD l i=l.reverse:=by
 apply List.ext_getElem (by simp[UD])
 intro j h1 h2
 have hj:j<l.length:=by simpa using h2
 simp only[UD,List.getElem_map,List.getElem_range,List.getElem_reverse]
 have e:l[l.length - 1 - j]'(by omega)=l.getD (l.length - 1 - j) 0:=by
  rw[List.getD_eq_getElem?_getD,List.getElem?_eq_getElem (by omega)];rfl
 rw[e]
 split
 · rfl
 · have:l.length - 1 - j=j:=by omega
   rw[this]
theorem zeH {l:List Nat}{i:Nat}(h:2*i+1<l.length):((UD l i).set i ((UD l i).getD (l.length - 1 - i) 0)).set (l.length - 1 - i) ((UD l i).getD i 0)=UD l (i+1):=by
 rw[zcg (by omega),zcg (by omega),if_neg (by omega),if_neg (by omega)]
 apply List.ext_getElem (by simp[UD])
 intro j h1 h2
 have hj:j<l.length:=by simpa[UD] using h2
 rw[List.getElem_set,List.getElem_set]
 simp only[UD,List.getElem_map,List.getElem_range]
 by_cases e1:l.length - 1 - i=j
 · rw[if_pos e1,if_pos (.inr (by omega)),show l.length - 1 - j=i by omega]
 · rw[if_neg e1]
   by_cases e2:i=j
   · rw[if_pos e2,if_pos (.inl (by omega)),show l.length - 1 - j=l.length - 1 - i by omega]
   · rw[if_neg e2]
     by_cases e3:j<i∨l.length - 1 - i<j
     · rw[if_pos e3,if_pos (by omega)]
     · rw[if_neg e3,if_neg (by omega)]
theorem zcF (l:List Nat)(hl:l.length≤1000000):zo Try.prog [] zip [.own (some 1) (zC l)] [] fun r h'=>r= .own (some 1) (zC l.reverse)∧h'=[]:=by
 refine zo.trim ?_
 have hw1:IntKind.i64.wrap ((l.length:Int) - 1)=(l.length:Int) - 1 - ((0:Nat):Int):=by rw[IntWalk.i64_in _ (by omega)];omega
 refine zkR rfl ?_
 unfold zjj q6
 refine za fun KY hKY=>?_
 simp only[go_sem,gR]
 apply hKY
 refine zf fun X1 hn1 he1 hr1=>?_
 refine za fun KY hKY=>?_
 simp only[go_sem,gQ,zJ,hw1]
 apply hKY
 simp only[go_sem]
 rw[show zC l=zC (UD l 0) by rw[zeG]]
 refine zm fun X2 hn2 he2 hf2 hr2=>?_
 try simp only[go_sem]
 refine zU (α:=Nat) [10] (fun i=>[(0,.own (some 1) (zC (UD l i))),(3,.sc (.int .i64 (i:Int))),(4,.sc (.int .i64 ((l.length:Int) - 1 - (i:Int))))]) (fun i=>[]) (fun i q=>i≤l.length∧q=l.length - i) (0) (l.length) rfl (by first|(simp only[go_sem,zd,ze];done)|with_reducible rfl|rfl) (⟨by omega,rfl⟩) ?_
 rintro i q ⟨hi,rfl⟩ X3 hn3 he3 hr3
 simp only[go_sem,zd,ze]
 rcases Nat.lt_or_ge (2*i+1) l.length with hi2|hi2
 · have hdy:decide ((i:Int)<(l.length:Int) - 1 - (i:Int))=true:=decide_eq_true (by omega)
   have hk:(l.length:Int) - 1 - (i:Int)=((l.length - 1 - i:Nat):Int):=by omega
   have hsl:=zg9 l i
   have hst:=zeH hi2
   refine zf fun X4 hn4 he4 hr4=>?_
   refine za fun KY hKY=>?_
   simp only[go_sem,uh,hdy]
   apply hKY
   refine ZL ?_
   refine zg ?_
   repeat (first|refine hn4 _ ?_|refine he4 _ _ ?_|refine he3 _ _ ?_|refine hn2 _ ?_|refine he2 _ ?_|refine hf2 _ _ (by decide) ?_|refine hn1 _ ?_|refine he1 _ _ ?_)
   refine zf fun X5 hn5 he5 hr5=>?_
   refine zm fun X6 hn6 he6 hf6 hr6=>?_
   rw[hk]
   refine j0 fun KY hKY=>?_
   simp only[go_sem,gP,zv (show i<(UD l i).length by omega),zv (show l.length - 1 - i<(UD l i).length by omega),zJ,hsl,(show i<l.length by omega),(show l.length - 1 - i<l.length by omega),List.length_set,hst,(show([0,0]==[0,3])=false from rfl),Bool.not_false]
   apply hKY
   repeat (first|refine hn6 _ ?_|refine he6 _ ?_|refine hf6 _ _ (by decide) ?_|refine hn5 _ ?_|refine he5 _ _ ?_|refine hn4 _ ?_|refine he4 _ _ ?_|refine he3 _ _ ?_|refine hn2 _ ?_|refine he2 _ ?_|refine hf2 _ _ (by decide) ?_|refine hn1 _ ?_|refine he1 _ _ ?_)
   have hk2:IntKind.i64.wrap (((l.length - 1 - i:Nat):Int) - 1)=(l.length:Int) - 1 - ((i+1:Nat):Int):=by rw[IntWalk.i64_in _ (by omega)];omega
   refine zk fun KY hKY=>?_
   simp only[go_sem,gO,zL (show i<4611686018427387904 by omega),hk2]
   apply hKY
   repeat (first|refine hn6 _ ?_|refine he6 _ ?_|refine hf6 _ _ (by decide) ?_|refine hn5 _ ?_|refine he5 _ _ ?_|refine hn4 _ ?_|refine he4 _ _ ?_)
   refine hn3 _ (i+1) (l.length - (i+1)) (by omega) (by first|(simp only[go_sem,zd,ze];done)|with_reducible rfl|rfl) ?_
   exact⟨by omega,rfl⟩
 have hdx:decide ((i:Int)<(l.length:Int) - 1 - (i:Int))=false:=decide_eq_false (by omega)
 refine zf fun X7 hn7 he7 hr7=>?_
 refine za fun KY hKY=>?_
 simp only[go_sem,uh,hdx]
 apply hKY
 refine Zy ?_
 refine zy ?_
 repeat (first|refine hn7 _ ?_|refine he7 _ _ ?_|refine he3 _ _ ?_|refine hn2 _ ?_|refine he2 _ ?_|refine hf2 _ _ (by decide) ?_|refine hn1 _ ?_|refine he1 _ _ ?_)
 rw[swp_end hi2]
 refine za fun KY hKY=>?_
 simp only[go_sem,gN]
 apply hKY
 refine zi ?_
 repeat (first|refine hr7 _ ?_|refine hr3 _ ?_|refine hr2 _ ?_|refine hr1 _ ?_)
 simp only[go_sem]
def mf (m:List Int)(v:Nat):Int:=m.getD v (-1)
theorem YU {m:List Int}{v:Nat}(h:v<m.length):m.getD v 0=mf m v:=by simp[mf,h]
theorem JM {m:List Int}{v:Nat}(h:v<m.length):(zj m)[v]?=some (.sc (.int .i64 (mf m v))):=by rw[zh h,YU h]
structure Rp (n:Nat)(m:List Int)(S:FS)(F:FD):Prop where
 sz:F.Sz n
 ml:m.length=n
 lab:∀v,v<n→F.lab.getD v 0=(S.lab v:Int)
 out:∀v,v<n→F.out.getD v false=S.out v
 pr:∀v,v<n→S.lab v=2→F.pr.getD v 0=(S.pr v:Int)
 rt:∀v,v<n→F.rt.getD v 0=S.rt v
 rb:∀v,v<n→S.rt v= -1∨∃r:Nat,S.rt v=(r:Int)∧r<n
 br:∀v,v<n→S.lab v=2→S.out v=true→F.br.getD v (0,0)=((S.b0 v:Int),(S.b1 v:Int))
 gone:∀v,v<n→F.gone.getD v false=false
 uf:∃rep h,Uv n F.up rep h∧(∀v,v<n→F.bs.getD (rep v) 0=(S.bs v:Int))∧∀u v,u<n→v<n→(rep u=rep v↔S.bs u=S.bs v)
 mr:∀v,v<n→F.mr.getD v 0≤F.tn
 wt:∀x∈F.wt,x<n∧S.out x=true
 wn:F.wt.Nodup
theorem Rp.wl {n:Nat}{m:List Int}{S:FS}{F:FD}(R:Rp n m S F):F.wt.length≤n:=by
 have:=Z5 (m:=List.range n) R.wn fun x hx=>List.mem_range.2 (R.wt x hx).1
 simpa using this
def FD.upd (F:FD)(up:List Int)(lk:Int):FD:={F with up:=up,lk:=lk}
theorem Rp.upd {n:Nat}{m:List Int}{S:FS}{F:FD}(R:Rp n m S F){rep h:Nat→Nat}{up':List Int}(U':Uv n up' rep h)(h2:∀v,v<n→F.bs.getD (rep v) 0=(S.bs v:Int))(h3:∀u v,u<n→v<n→(rep u=rep v↔S.bs u=S.bs v))(lk:Int):Rp n m S (F.upd up' lk):=by
 obtain⟨s1,s2,s3,s4,s5,s6,s7,s8,s9,s10,s11⟩:=R.sz
 exact⟨⟨s1,s2,s3,s4,s5,s6,s7,s8,U'.len,s10,s11⟩,R.ml,R.lab,R.out,R.pr,R.rt,R.rb,R.br,R.gone,⟨rep,h,U',h2,h3⟩,R.mr,R.wt,R.wn⟩
theorem QW (nr:List (List Nat)){n:Nat}{m:List Int}{S:FS}{F:FD}(R:Rp n m S F){v:Nat}(hv:v<n):
    zo Try.prog [[1,0]] KI [.ptr 0 0,.sc (.int .i64 (v:Int))] [some (F.obj nr m)] fun r h'=>r= .sc (.int .i64 (S.bs v:Int))∧∃up',Rp n m S (F.upd up' F.lk)∧h'=[some ((F.upd up' F.lk).obj nr m)]:=by
  obtain⟨rep,h,U,h2,h3⟩:=R.uf
  refine(zcZ nr m F U R.sz.bs hv).mono ?_
  rintro r h' ⟨rfl,up',U',rfl⟩
  exact⟨by rw[h2 v hv],up',R.upd U' h2 h3 F.lk,rfl⟩
theorem zcb (nr:List (List Nat)){n:Nat}{m:List Int}{S:FS}{F:FD}(R:Rp n m S F){b:Nat}(hb:b<n)(hm:mf m b= -1):
    zo Try.prog [[1,0]] zfw [.ptr 0 0,.sc (.int .i64 (b:Int))] [some (F.obj nr m)] fun r h'=>r= .sc (.int .i64 (-1))∧h'=[some (F.obj nr m)]:=by
  have hml:=R.ml
  have hg:(zj m)[b]?=some (.sc (.int .i64 (-1))):=by rw[JM (by omega),hm]
  unfold FD.obj
  refine zf3 rfl ?_
  unfold zgi Ys
  refine za fun KY hKY=>?_
  simp only[go_sem,X0,zS,zM,ZQ.quiet]
  apply hKY
  refine zf fun X1 hn1 he1 hr1=>?_
  refine za fun KY hKY=>?_
  simp only[go_sem,XZ,zS,zM,ZQ.quiet,hg,zq,hml,hb]
  apply hKY
  refine ZL ?_
  refine za fun KY hKY=>?_
  simp only[go_sem,gf,zS,zM,ZQ.quiet]
  apply hKY
  refine zi ?_
  repeat (first|refine hr1 _ ?_)
  simp only[go_sem,JE,qQ]
theorem zca (nr:List (List Nat)){n:Nat}{m:List Int}{S:FS}{F:FD}(R:Rp n m S F){b x:Nat}(hb:b<n)(hm:mf m b=(x:Int))(hx:x<n)(hl:S.lab x=2)(hp:S.pr x<n):
    zo Try.prog [] zfw [.ptr 0 0,.sc (.int .i64 (b:Int))] [some (F.obj nr m)] fun r h'=>r= .sc (.int .i64 (S.bs (S.pr x):Int))∧∃up',Rp n m S (F.upd up' F.lk)∧h'=[some ((F.upd up' F.lk).obj nr m)]:=by
  have hml:=R.ml
  have hB:=QW nr R hp
  have hg:(zj m)[b]?=some (.sc (.int .i64 (x:Int))):=by rw[JM (by omega),hm]
  have hpl:=R.sz.pr
  have hpg:(zj F.pr)[x]?=some (.sc (.int .i64 (S.pr x:Int))):=by rw[zh (by omega),R.pr x hx hl]
  have hd:decide ((x:Int)= -1)=false:=decide_eq_false (by omega)
  unfold FD.obj at hB⊢
  refine zf3 rfl ?_
  unfold zgi Ys
  refine za fun KY hKY=>?_
  simp only[go_sem,X0]
  apply hKY
  refine zf fun X1 hn1 he1 hr1=>?_
  refine za fun KY hKY=>?_
  simp only[go_sem,XZ,hg,zq,hml,hb,hd]
  apply hKY
  refine Zy ?_
  refine zg ?_
  repeat (first|refine hn1 _ ?_|refine he1 _ _ ?_)
  refine zw fun KY hKY=>?_
  simp only[go_sem,ge,hg,hpg,zq,hml,hb,hx,hpl]
  apply zn [] [0] false none rfl
  iterate 8 (first|(simp only[go_sem,zp]<;>rfl)|rfl)
  refine(hB.less (by simp)).mono ?_
  rintro _ _ ⟨rfl,up',R',rfl⟩
  refine⟨Nat.le_of_ble_eq_true rfl,(fun hh=>by cases hh),?_⟩
  simp only[go_sem,zr,zb.after]
  apply hKY
  refine zi ?_
  repeat (first|refine hr1 _ ?_)
  simp only[go_sem]
  exact⟨up',R',rfl⟩
def YA (mt:Nat→Int)(S:FS)(v w:Nat):Int:=if mt v=(w:Int) then 0 else if S.lab w=0 then 1 else if S.out w=true∧S.bs v≠S.bs w then 2 else 0
theorem zhF (nr:List (List Nat)){n:Nat}{m:List Int}{S:FS}{F:FD}(R:Rp n m S F){v w:Nat}(hv:v<n)(hw:w<n):
    zo Try.prog [] ziy [.ptr 0 0,.sc (.int .i64 (v:Int)),.sc (.int .i64 (w:Int))] [some (F.obj nr m)] fun r h'=>r= .sc (.int .i64 (YA (mf m) S v w))∧∃up' lk',Rp n m S (F.upd up' lk')∧h'=[some ((F.upd up' lk').obj nr m)]:=by
  have hml:=R.ml
  obtain⟨rep,h,U,u2,u3⟩:=R.uf
  have R1:Rp n m S (F.upd F.up (IntKind.i64.wrap (F.lk+1))):=R.upd U u2 u3 _
  have hgv:(zj m)[v]?=some (.sc (.int .i64 (mf m v))):=JM (by omega)
  have hlg:(zj F.lab)[w]?=some (.sc (.int .i64 (S.lab w:Int))):=by rw[zh (by rw[R.sz.lab];exact hw),R.lab w hw]
  have hll:=R.sz.lab
  have hog:(Zb F.out)[w]?=some (.sc (.bool (S.out w))):=by rw[ji (by rw[R.sz.out];exact hw),R.out w hw]
  have hol:=R.sz.out
  have G1:=zcE nr m (F.upd F.up (IntKind.i64.wrap (F.lk+1))) R.sz.rt R.sz.gone R.gone hv (R.rt v hv) (R.rb v hv)
  have G2:=zcE nr m (F.upd F.up (IntKind.i64.wrap (F.lk+1))) R.sz.rt R.sz.gone R.gone hw (R.rt w hw) (R.rb w hw)
  have B1:=QW nr R1 hv
  have B2:=fun up' (R':Rp n m S ((F.upd F.up (IntKind.i64.wrap (F.lk+1))).upd up' (F.upd F.up (IntKind.i64.wrap (F.lk+1))).lk))=>QW nr R' hw
  unfold FD.upd FD.obj at G1 G2 B1 B2
  unfold FD.obj
  simp only at G1 G2 B1 B2
  have hk:YA (mf m) S v w=if mf m v=(w:Int) then 0 else if S.lab w=0 then 1 else if S.out w=true∧S.bs v≠S.bs w then 2 else 0:=rfl
  generalize YA (mf m) S v w=k at hk⊢
  refine zk0 rfl ?_
  unfold zjs Jf
  refine za fun KY hKY=>?_
  simp only[go_sem,GH]
  apply hKY
  refine za fun KY hKY=>?_
  simp only[go_sem,GG]
  apply hKY
  refine zf fun X1 hn1 he1 hr1=>?_
  refine zm fun X2 hn2 he2 hf2 hr2=>?_
  by_cases h1:mf m v=(w:Int)
  · have hd1:decide ((w:Int)=mf m v)=true:=decide_eq_true h1.symm
    rw[if_pos h1] at hk
    subst hk
    refine za fun KY hKY=>?_
    simp only[go_sem,uv,hgv,zq,hml,hv,hd1]
    apply hKY
    refine ZL ?_
    refine za fun KY hKY=>?_
    simp only[go_sem,GF]
    apply hKY
    refine zi ?_
    repeat (first|refine hr2 _ ?_|refine hr1 _ ?_)
    simp only[go_sem]
    exact⟨_,_,R1,rfl⟩
  · have hd1:decide ((w:Int)=mf m v)=false:=decide_eq_false (fun e=>h1 e.symm)
    rw[if_neg h1] at hk
    refine za fun KY hKY=>?_
    simp only[go_sem,uv,hgv,zq,hml,hv,hd1]
    apply zn [] [0] false none rfl
    iterate 8 (first|(simp only[go_sem,zp]<;>rfl)|rfl)
    refine(G1.less (by simp)).mono ?_
    rintro _ _ ⟨rfl,rfl⟩
    refine⟨Nat.le_of_ble_eq_true rfl,(fun hh=>by cases hh),?_⟩
    simp only[go_sem,zr,zb.after]
    apply zn [] [0] false none rfl
    iterate 8 (first|(simp only[go_sem,zp]<;>rfl)|rfl)
    refine(G2.less (by simp)).mono ?_
    rintro _ _ ⟨rfl,rfl⟩
    refine⟨Nat.le_of_ble_eq_true rfl,(fun hh=>by cases hh),?_⟩
    simp only[go_sem,zr,zb.after]
    apply hKY
    refine Zy ?_
    by_cases h2:S.lab w=0
    · have hd2:decide ((S.lab w:Int)=0)=true:=decide_eq_true (by omega)
      rw[if_pos h2] at hk
      subst hk
      refine za fun KY hKY=>?_
      simp only[go_sem,uu,hlg,zq,hll,hw,hd2]
      apply hKY
      refine ZL ?_
      refine za fun KY hKY=>?_
      simp only[go_sem,GE]
      apply hKY
      refine zi ?_
      repeat (first|refine hr2 _ ?_|refine hr1 _ ?_)
      simp only[go_sem]
      exact⟨_,_,R1,rfl⟩
    · have hd2:decide ((S.lab w:Int)=0)=false:=decide_eq_false (by omega)
      rw[if_neg h2] at hk
      refine za fun KY hKY=>?_
      simp only[go_sem,uu,hlg,zq,hll,hw,hd2]
      apply hKY
      refine Zy ?_
      cases h3:S.out w with
      | false=>
        rw[h3] at hog
        rw[if_neg (by rw[h3];simp)] at hk
        subst hk
        refine za fun KY hKY=>?_
        simp only[go_sem,wO,hog,zX,hol,hw]
        apply hKY
        refine Zy ?_
        refine zg ?_
        repeat (first|refine hn2 _ ?_|refine he2 _ ?_|refine hf2 _ _ (by decide) ?_|refine hn1 _ ?_|refine he1 _ _ ?_)
        refine za fun KY hKY=>?_
        simp only[go_sem,ut]
        apply hKY
        refine zi ?_
        repeat (first|refine hr2 _ ?_|refine hr1 _ ?_)
        simp only[go_sem]
        exact⟨_,_,R1,rfl⟩
      | true=>
        rw[h3] at hog
        by_cases h4:S.bs v=S.bs w
        · have hd4:decide ((S.bs v:Int)≠(S.bs w:Int))=false:=decide_eq_false (by omega)
          rw[if_neg (by simp[h4])] at hk
          subst hk
          refine za fun KY hKY=>?_
          simp only[go_sem,wO,hog,zX,hol,hw]
          apply zn [] [0] false none rfl
          iterate 8 (first|(simp only[go_sem,zp]<;>rfl)|rfl)
          refine(B1.less (by simp)).mono ?_
          rintro _ _ ⟨rfl,up',R',rfl⟩
          refine⟨Nat.le_of_ble_eq_true rfl,(fun hh=>by cases hh),?_⟩
          simp only[go_sem,zr,zb.after]
          apply zn [] [0] false none rfl
          iterate 8 (first|(simp only[go_sem,zp]<;>rfl)|rfl)
          refine((B2 up' R').less (by simp)).mono ?_
          rintro _ _ ⟨rfl,up2,R2,rfl⟩
          refine⟨Nat.le_of_ble_eq_true rfl,(fun hh=>by cases hh),?_⟩
          simp only[go_sem,zr,zb.after,hd4]
          apply hKY
          refine Zy ?_
          refine zg ?_
          repeat (first|refine hn2 _ ?_|refine he2 _ ?_|refine hf2 _ _ (by decide) ?_|refine hn1 _ ?_|refine he1 _ _ ?_)
          refine za fun KY hKY=>?_
          simp only[go_sem,ut]
          apply hKY
          refine zi ?_
          repeat (first|refine hr2 _ ?_|refine hr1 _ ?_)
          simp only[go_sem]
          exact⟨_,_,R2,rfl⟩
        · have hd4:decide ((S.bs v:Int)≠(S.bs w:Int))=true:=decide_eq_true (by omega)
          rw[if_pos ⟨h3,h4⟩] at hk
          subst hk
          refine za fun KY hKY=>?_
          simp only[go_sem,wO,hog,zX,hol,hw]
          apply zn [] [0] false none rfl
          iterate 8 (first|(simp only[go_sem,zp]<;>rfl)|rfl)
          refine(B1.less (by simp)).mono ?_
          rintro _ _ ⟨rfl,up',R',rfl⟩
          refine⟨Nat.le_of_ble_eq_true rfl,(fun hh=>by cases hh),?_⟩
          simp only[go_sem,zr,zb.after]
          apply zn [] [0] false none rfl
          iterate 8 (first|(simp only[go_sem,zp]<;>rfl)|rfl)
          refine((B2 up' R').less (by simp)).mono ?_
          rintro _ _ ⟨rfl,up2,R2,rfl⟩
          refine⟨Nat.le_of_ble_eq_true rfl,(fun hh=>by cases hh),?_⟩
          simp only[go_sem,zr,zb.after,hd4]
          apply hKY
          refine ZL ?_
          refine za fun KY hKY=>?_
          simp only[go_sem,GD]
          apply hKY
          refine zi ?_
          repeat (first|refine hr2 _ ?_|refine hr1 _ ?_)
          simp only[go_sem]
          exact⟨_,_,R2,rfl⟩
theorem Rp.grow {n:Nat}{E:Nat→Nat→Prop}{m:List Int}{S:FS}{F:FD}(M:Mf n E (mf m))(I:qb n E (mf m) S)(R:Rp n m S F){v w x:Nat}(hv:S.out v=true)(hw:w<n)(hl:S.lab w=0)(hx:mf m w=(x:Int))(a b:Int):
    Rp n m (Z6 S v w x) (({F with lab:=F.lab.set w 2,pr:=F.pr.set w (v:Int),rt:=(F.rt.set w (F.rt.getD v 0)).set x ((F.rt.set w (F.rt.getD v 0)).getD v 0),od:=F.od.set w a}:FD).raise x b 1):=by
  have hvn:=(I.o1 v hv).1
  obtain⟨x',k1,hxN,hlx,hxw,hxo,hwo⟩:=fresh M I hw hl
  obtain rfl:x'=x:=by omega
  obtain⟨s1,s2,s3,s4,s5,s6,s7,s8,s9,s10,s11⟩:=R.sz
  have vw:v≠w:=fun h=>by rw[h,hwo] at hv;cases hv
  have hlw:(F.lab.set w 2).getD x' 0=0:=by
    rw[ZO _ _ _ _ (by omega),if_neg hxw,R.lab x' hxN,hlx];rfl
  have hrv:(F.rt.set w (F.rt.getD v 0)).getD v 0=S.rt v:=by
    rw[ZO _ _ _ _ (by omega),if_neg vw,R.rt v hvn]
  refine⟨⟨?_,?_,?_,?_,?_,?_,s7,s8,s9,s10,s11⟩,R.ml,fun u hu=>?_,fun u hu=>?_,fun u hu h2=>?_,fun u hu=>?_,fun u hu=>?_,fun u hu h2 ho=>?_,R.gone,R.uf,R.mr,fun y hy=>?_,?_⟩
  · show(if(F.lab.set w 2).getD x' 0=0 then _ else _:List Int).length=n
    rw[if_pos hlw];simp[s1]
  · show(F.out.set x' true).length=n
    simp[s2]
  · show(F.ev.set x' b).length=n
    simp[s3]
  · show(F.od.set w a).length=n
    simp[s4]
  · show(F.pr.set w (v:Int)).length=n
    simp[s5]
  · show((F.rt.set w (F.rt.getD v 0)).set x' _).length=n
    simp[s6]
  · show(if(F.lab.set w 2).getD x' 0=0 then(F.lab.set w 2).set x' 1 else F.lab.set w 2:List Int).getD u 0=((if u=x' then 1 else if u=w then 2 else S.lab u:Nat):Int)
    rw[if_pos hlw,ZO _ _ _ _ (by simp;omega),ZO _ _ _ _ (by omega),R.lab u hu]
    split
    · rfl
    · split<;>rfl
  · show(F.out.set x' true).getD u false=(decide (u=x')||S.out u)
    rw[vG _ _ _ (by omega),R.out u hu]
    by_cases e:x'=u
    · subst e;simp
    · rw[decide_eq_false e,decide_eq_false (Ne.symm e)]
  · show(F.pr.set w (v:Int)).getD u 0=((if u=w then v else S.pr u:Nat):Int)
    rw[ZO _ _ _ _ (by omega)]
    split
    · rfl
    · rename_i e
      refine R.pr u hu ?_
      have h2:(if u=x' then 1 else if u=w then 2 else S.lab u)=2:=h2
      rw[if_neg e] at h2
      split at h2
      · omega
      · exact h2
  · show((F.rt.set w (F.rt.getD v 0)).set x' ((F.rt.set w (F.rt.getD v 0)).getD v 0)).getD u 0=(if u=x' then S.rt v else if u=w then S.rt v else S.rt u)
    rw[ZO _ _ _ _ (by simp;omega),hrv,ZO _ _ _ _ (by omega),R.rt v hvn,R.rt u hu]
  · show(if u=x' then S.rt v else if u=w then S.rt v else S.rt u)= -1∨∃r:Nat,(if u=x' then S.rt v else if u=w then S.rt v else S.rt u)=(r:Int)∧r<n
    split
    · exact R.rb v hvn
    · split
      · exact R.rb v hvn
      · exact R.rb u hu
  · have h2:(if u=x' then 1 else if u=w then 2 else S.lab u)=2:=h2
    have ho:(decide (u=x')||S.out u)=true:=ho
    have hux:u≠x':=fun e=>by rw[if_pos e] at h2;omega
    rw[decide_eq_false hux,Bool.false_or] at ho
    have huw:u≠w:=fun e=>by rw[e,hwo] at ho;cases ho
    rw[if_neg hux,if_neg huw] at h2
    exact R.br u hu h2 ho
  · have hy:y∈F.wt++[x']:=hy
    show y<n∧(decide (y=x')||S.out y)=true
    rcases List.mem_append.1 hy with hy|hy
    · exact⟨(R.wt y hy).1,by rw[(R.wt y hy).2,Bool.or_true]⟩
    · obtain rfl:y=x':=by simpa using hy
      exact⟨hxN,by simp⟩
  · show(F.wt++[x']).Nodup
    refine List.nodup_append.2 ⟨R.wn,by simp,fun y hy z hz e=>?_⟩
    obtain rfl:z=x':=by simpa using hz
    subst e
    have:=(R.wt y hy).2
    rw[hxo] at this;cases this
theorem zhP (nr:List (List Nat)){n:Nat}{E:Nat→Nat→Prop}{m:List Int}{S:FS}{F:FD}(M:Mf n E (mf m))(I:qb n E (mf m) S)(R:Rp n m S F)(hn:n≤4096){v w x:Nat}(hv:S.out v=true)(hw:w<n)(hl:S.lab w=0)(hx:mf m w=(x:Int)):
    zo Try.prog [] zix [.ptr 0 0,.sc (.int .i64 (v:Int)),.sc (.int .i64 (w:Int))] [some (F.obj nr m)] fun r h'=>r= .tup []∧∃F':FD,Rp n m (Z6 S v w x) F'∧F'.wt=F.wt++[x]∧F'.tn=F.tn∧h'=[some (F'.obj nr m)]:=by
  have hvn:=(I.o1 v hv).1
  obtain⟨x',k1,hxN,hlx,hxw,hxo,hwo⟩:=fresh M I hw hl
  obtain rfl:x'=x:=by omega
  have hml:=R.ml
  have hwl:=R.wl
  obtain⟨s1,s2,s3,s4,s5,s6,s7,s8,s9,s10,s11⟩:=R.sz
  have hgw:(zj m)[w]?=some (.sc (.int .i64 (x':Int))):=by rw[JM (by omega),hx]
  have ha:∃a,a=IntKind.i64.wrap (F.ev.getD v 0+1):=⟨_,rfl⟩
  obtain⟨a,ha⟩:=ha
  obtain⟨b,hb⟩:∃b,b=IntKind.i64.wrap (F.ev.getD v 0+2):=⟨_,rfl⟩
  have RG:=R.grow M I hv hw hl hx a b
  have hrs:=Xc nr m ({F with lab:=F.lab.set w 2,pr:=F.pr.set w (v:Int),rt:=(F.rt.set w (F.rt.getD v 0)).set x' ((F.rt.set w (F.rt.getD v 0)).getD v 0),od:=F.od.set w a}:FD) (n:=n) ⟨by simp[s1],s2,s3,by simp[s4],by simp[s5],by simp[s6],s7,s8,s9,s10,s11⟩ hxN b 1 (by show F.wt.length≤_;omega)
  unfold FD.obj at hrs⊢
  simp only at hrs
  refine zkZ rfl ?_
  unfold zjr Yt
  refine zw fun KY hKY=>?_
  simp only[go_sem,GC,zh (show v<F.rt.length by omega),zh (show v<F.ev.length by omega),zq,s1,s3,s4,s5,s6,hvn,hw,←ha]
  apply hKY
  refine za fun KY hKY=>?_
  simp only[go_sem,GB,hgw,zq,hml,hw]
  apply hKY
  have hrl:(F.rt.set w (F.rt.getD v 0)).length=n:=by simp[s6]
  refine zw fun KY hKY=>?_
  simp only[go_sem,GA,zh (show v<(F.rt.set w (F.rt.getD v 0)).length by omega),zq,hrl,hvn,hxN]
  apply hKY
  refine zk fun KY hKY=>?_
  simp only[go_sem,Gz,zh (show v<F.ev.length by omega),zq,s3,hvn,←hb]
  apply zn [] [0] false none rfl
  iterate 8 (first|(simp only[go_sem,zp]<;>rfl)|rfl)
  refine(hrs).mono ?_
  rintro _ _ ⟨rfl,rfl⟩
  refine⟨Nat.le_of_ble_eq_true rfl,(fun hh=>by cases hh),?_⟩
  simp only[go_sem,zr,zb.after]
  apply hKY
  simp only[go_sem]
  exact⟨_,RG,rfl,rfl,rfl⟩
theorem UN {mt:Nat→Int}{S:FS}{v to:Nat}{ps:YF}(w:Gl.xm mt S v to ps):v=to∨S.lab v=1∨S.out v=true:=by
 cases w with
 |here=>exact .inl rfl
 |even _ h2 _ _ _=>exact .inr (.inl h2)
 |odd _ h2 _ _ _ _=>exact .inr (.inr h2)
theorem KH (a b:List Nat):zC a++zC b=zC (a++b):=by simp[zC]
theorem Qh (ps:YF):(jC ps).length=2*ps.length:=by
 induction ps with
 |nil=>rfl
 |cons p ps ih=>rw[jm];simp[ih];omega
theorem ze2 (ps:YF):(xu ps).length=ps.length:=by simp[xu]
theorem za2 (v m:Nat)(ps:YF)(to:Nat):zG ((v,m)::ps) to=v::m::zG ps to:=rfl
theorem zc5 (v m:Nat)(ps qs:YF)(to:Nat):zG ((v,m)::(xu ps++qs)) to=(v::(zG ps m).reverse)++zG qs to:=by
 simp[zG,jm,qe,vI]
theorem zeu (nr:List (List Nat)){n:Nat}{E:Nat→Nat→Prop}{m:List Int}{S:FS}{F:FD}(M:Mf n E (mf m))(I:qb n E (mf m) S)(R:Rp n m S F)(hn:n≤4096):
    ∀(k:Nat) {v to:Nat} {ps:YF},ps.length≤k→ps.length≤5000→v<n→to<n→Gl.xm (mf m) S v to ps→zo Try.prog [] zio [.ptr 0 0,.sc (.int .i64 (v:Int)),.sc (.int .i64 (to:Int))] [some (F.obj nr m)] fun r h'=>r= .own (some 1) (zC (zG ps to))∧h'=[some (F.obj nr m)]:=by
  intro k
  induction k using Nat.strongRecOn with
  |_ k ih=>
  intro v to ps hk hp5 hvn hton W
  have hml:=R.ml
  have hll:=R.sz.lab
  have hpl:=R.sz.pr
  have hbl:=R.sz.br
  unfold FD.obj at ih⊢
  refine zkQ rfl ?_
  unfold zji jF
  refine za fun KY hKY=>?_
  simp only[go_sem,gM]
  apply hKY
  refine za fun KY hKY=>?_
  simp only[go_sem,gL]
  apply hKY
  refine jP [0,7] 1 (by simp only[go_sem]) ?_
  simp only[go_sem]
  rw[show zc.own (some 1) []= .own (some 1) (zC []) from rfl]
  refine zm fun X1 hn1 he1 hf1 hr1=>?_
  try simp only[go_sem]
  refine zU (α:=List Nat×Nat×YF) [8,36,41] (fun(l,c,qs)=>[(1,.sc (.int .i64 (c:Int))),(7,.own (some 1) (zC l))]) (fun(l,c,qs)=>[some [.imm 1 (Zq nr),.imm 1 (zj m),.own (some 1) (zj F.lab),.own (some 1) (Zb F.out),.own (some 1) (zj F.ev),.own (some 1) (zj F.od),.own (some 1) (zj F.pr),.own (some 1) (zj F.rt),.own (some 2) (Zj F.br),.own (some 1) (Zb F.gone),.own (some 1) (zj F.up),.own (some 1) (zj F.bs),.own (some 1) (zj F.mr),.sc (.int .i64 F.tn),.own (some 1) (zC F.wt),.sc (.int .i64 F.lk)]]) (fun(l,c,qs) q=>q=qs.length∧c<n∧Gl.xm (mf m) S c to qs∧l++zG qs to=zG ps to∧qs.length≤ps.length) (([],v,ps)) (ps.length) rfl (by first|(simp only[go_sem,zd,ze];done)|with_reducible rfl|rfl) (⟨rfl,hvn,W,rfl,Nat.le_refl _⟩) ?_
  rintro⟨l,c,qs⟩ q ⟨rfl,hc,Wc,he,hql⟩ X2 hn2 he2 hr2
  simp only[go_sem,zd,ze]
  have hlen:l.length+(2*qs.length+1)=2*ps.length+1:=by
    have:=congrArg List.length he
    simpa[zG,Qh] using this
  have hcl:c<F.lab.length:=by omega
  refine zm fun X3 hn3 he3 hf3 hr3=>?_
  refine za fun KY hKY=>?_
  simp only[go_sem,gK,ZR,zJ,(show(l.length+1)*8≤140737488355328 by omega)]
  apply hKY
  refine zm fun X4 hn4 he4 hf4 hr4=>?_
  cases Wc with
  | here=>
    have hd:decide ((to:Int)=(to:Int))=true:=decide_eq_true rfl
    refine za fun KY hKY=>?_
    simp only[go_sem,wN,hd]
    apply hKY
    refine ZL ?_
    refine za fun KY hKY=>?_
    simp only[go_sem,gJ]
    apply hKY
    refine zi ?_
    repeat (first|refine hr4 _ ?_|refine hr3 _ ?_|refine hr2 _ ?_|refine hr1 _ ?_)
    simp only[go_sem]
    rw[←he];rfl
  | @even _ _ x qs' hne hl hm hlx W'=>
    have hd:decide ((c:Int)=(to:Int))=false:=decide_eq_false (by omega)
    have hlg:(zj F.lab)[c]?=some (.sc (.int .i64 ((1:Nat):Int))):=by rw[zh hcl,R.lab c hc,hl]
    have hmg:(zj m)[c]?=some (.sc (.int .i64 (x:Int))):=by rw[JM (by omega),hm]
    obtain⟨hxn,_,_,_,_,hpo,_⟩:=I.od x hlx
    have hpn:=(I.o1 _ hpo).1
    have hpg:(zj F.pr)[x]?=some (.sc (.int .i64 (S.pr x:Int))):=by rw[zh (by omega),R.pr x hxn hlx]
    refine za fun KY hKY=>?_
    simp only[go_sem,wN,hd]
    apply hKY
    refine Zy ?_
    refine za fun KY hKY=>?_
    simp only[go_sem,ug,hlg,zq,hll,hc]
    apply hKY
    refine ZL ?_
    refine za fun KY hKY=>?_
    simp only[go_sem,gI,hmg,zq,hml,hc,ZR,zJ,List.length_append,(show(l.length+1+1)*8≤140737488355328 by omega)]
    apply hKY
    refine j0 fun KY hKY=>?_
    simp only[go_sem,gH,hmg,hpg,zq,hml,hc,hxn,hpl]
    have hlc:((c,x)::qs').length=qs'.length+1:=rfl
    apply hKY
    repeat (first|refine hn4 _ ?_|refine he4 _ ?_|refine hf4 _ _ (by decide) ?_|refine hn3 _ ?_|refine he3 _ ?_|refine hf3 _ _ (by decide) ?_)
    refine hn2 _ ((l++[c]++[x],S.pr x,qs')) (qs'.length) (by omega) (by first|(simp only[go_sem,zd,ze];done)|with_reducible rfl|rfl) ?_
    exact⟨rfl,hpn,W',by rw[←he,za2];simp,by omega⟩
  | @odd _ _ x p1 qs' hne ho hl hm W1 W2=>
    have hd:decide ((c:Int)=(to:Int))=false:=decide_eq_false (by omega)
    have hlg:(zj F.lab)[c]?=some (.sc (.int .i64 ((2:Nat):Int))):=by rw[zh hcl,R.lab c hc,hl]
    have hmg:(zj m)[c]?=some (.sc (.int .i64 (x:Int))):=by rw[JM (by omega),hm]
    have hbg:F.br[c]?=some ((S.b0 c:Int),(S.b1 c:Int)):=by
      have h1:=R.br c hc hl ho
      rw[List.getD_eq_getElem?_getD,List.getElem?_eq_getElem (by omega)] at h1
      rw[List.getElem?_eq_getElem (by omega)]
      simpa using h1
    have hq1:((c,x)::(xu p1++qs')).length=p1.length+qs'.length+1:=by simp[ze2]
    rw[hq1] at hql hlen
    have hxn:x<n:=(M.el _ _ (M.ne c x hm).2).2.1
    have hb0n:S.b0 c<n:=by
      rcases UN W1 with h|h|h
      · rw[h];exact hxn
      · exact(I.o1 _ (I.e1 _ h)).1
      · exact(I.o1 _ h).1
    have hb1n:S.b1 c<n:=by
      rcases UN W2 with h|h|h
      · rw[h];exact hton
      · exact(I.o1 _ (I.e1 _ h)).1
      · exact(I.o1 _ h).1
    have t1:p1.length<k:=by omega
    have t2:p1.length≤5000:=by omega
    have hI:=ih p1.length t1 (Nat.le_refl _) t2 hb0n hxn W1
    refine za fun KY hKY=>?_
    simp only[go_sem,wN,hd]
    apply hKY
    refine Zy ?_
    refine za fun KY hKY=>?_
    simp only[go_sem,ug,hlg,zq,hll,hc]
    apply hKY
    refine Zy ?_
    refine za fun KY hKY=>?_
    simp only[go_sem,gG,zT hbg,ZM,hbl,hc,(show c*2+1<n*2 by omega),(show 1<n*2 - c*2 by omega),List.length_drop]
    apply hKY
    have hvl:(zG p1 x).length=2*p1.length+1:=by simp[zG,Qh]
    refine zw fun KY hKY=>?_
    simp only[go_sem,gF,hmg,zq,hml,hc]
    apply zn [] [0] false none rfl
    iterate 8 (first|(simp only[go_sem,zp]<;>rfl)|rfl)
    refine(hI).mono ?_
    rintro _ _ ⟨rfl,rfl⟩
    refine⟨Nat.le_of_ble_eq_true rfl,(fun hh=>by cases hh),?_⟩
    simp only[go_sem,zr,zb.after]
    apply zn [.mv] [] false none rfl
    iterate 8 (first|(simp only[go_sem,zp]<;>rfl)|rfl)
    refine(zcF (zG p1 x) (by omega)).mono ?_
    rintro _ _ ⟨rfl,rfl⟩
    refine⟨Nat.le_of_ble_eq_true rfl,(fun hh=>by cases hh),?_⟩
    simp only[go_sem,zr,zb.after,KH,zJ,List.length_append,List.length_reverse,hvl,List.length_cons,List.length_nil,(show(l.length+1+(2*p1.length+1))*8≤140737488355328 by omega)]
    apply hKY
    refine zk fun KY hKY=>?_
    simp only[go_sem,vT]
    apply hKY
    repeat (first|refine hn4 _ ?_|refine he4 _ ?_|refine hf4 _ _ (by decide) ?_|refine hn3 _ ?_|refine he3 _ ?_|refine hf3 _ _ (by decide) ?_)
    refine hn2 _ ((l++[c]++(zG p1 x).reverse,S.b1 c,qs')) (qs'.length) (by omega) (by first|(simp only[go_sem,zd,ze];done)|with_reducible rfl|rfl) ?_
    refine⟨rfl,hb1n,W2,?_,by omega⟩
    rw[←he,zc5]
    simp[List.append_assoc]
theorem Rp.turn {n:Nat}{m:List Int}{S:FS}{F:FD}(R:Rp n m S F):Rp n m S {F with tn:=F.tn+1}:=by
 obtain⟨s1,s2,s3,s4,s5,s6,s7,s8,s9,s10,s11⟩:=R.sz
 exact⟨⟨s1,s2,s3,s4,s5,s6,s7,s8,s9,s10,s11⟩,R.ml,R.lab,R.out,R.pr,R.rt,R.rb,R.br,R.gone,R.uf,fun v hv=>by have:=R.mr v hv;show F.mr.getD v 0≤F.tn+1;omega,R.wt,R.wn⟩
theorem Rp.mark {n:Nat}{m:List Int}{S:FS}{F:FD}(R:Rp n m S F){x:Nat}(hx:x<n):Rp n m S {F with mr:=F.mr.set x F.tn}:=by
 obtain⟨s1,s2,s3,s4,s5,s6,s7,s8,s9,s10,s11⟩:=R.sz
 refine⟨⟨s1,s2,s3,s4,s5,s6,s7,s8,s9,s10,by simp[s11]⟩,R.ml,R.lab,R.out,R.pr,R.rt,R.rb,R.br,R.gone,R.uf,fun v hv=>?_,R.wt,R.wn⟩
 show(F.mr.set x F.tn).getD v 0≤F.tn
 rw[ZO _ _ _ _ (by omega)]
 split
 · exact Int.le_refl _
 · exact R.mr v hv
theorem zhC (nr:List (List Nat)){n:Nat}{E:Nat→Nat→Prop}{m:List Int}{S:FS}{F:FD}(M:Mf n E (mf m))(I:qb n E (mf m) S)(R:Rp n m S F)(htn:0≤F.tn∧F.tn≤1000000000){a c:Nat}(ha1:S.out a=true)(ha2:S.bs a=a)(hc1:S.out c=true)(hc2:S.bs c=c)(hrt:S.rt a=S.rt c):
    zo Try.prog [] zin [.ptr 0 0,.sc (.int .i64 (a:Int)),.sc (.int .i64 (c:Int))] [some (F.obj nr m)] fun r h'=>∃(b:Nat) (xs ys:List Nat),ZA (mf m) S a b xs∧ZA (mf m) S c b ys∧(∀x∈xs,x∉ys)∧r= .sc (.int .i64 (b:Int))∧∃F':FD,Rp n m S F'∧F'.wt=F.wt∧F'.tn=F.tn+1∧h'=[some (F'.obj nr m)]:=by
  obtain⟨d,hd⟩:=I.dp
  have hw:IntKind.i64.wrap (F.tn+1)=F.tn+1:=IntWalk.i64_in _ (by omega)
  unfold FD.obj
  refine zkP rfl ?_
  unfold zjh J2
  refine za fun KY hKY=>?_
  simp only[go_sem,gE]
  apply hKY
  refine za fun KY hKY=>?_
  simp only[go_sem,gD,hw]
  apply hKY
  refine zm fun X1 hn1 he1 hf1 hr1=>?_
  try simp only[go_sem]
  refine zU (α:=Nat×Nat×Int×Int×List Nat×List Nat×List Int×List Int) [15,27] (fun(s1,s2,p,q',P,Q,mr',up')=>[(1,.sc (.int .i64 p)),(2,.sc (.int .i64 q'))]) (fun(s1,s2,p,q',P,Q,mr',up')=>[some [.imm 1 (Zq nr),.imm 1 (zj m),.own (some 1) (zj F.lab),.own (some 1) (Zb F.out),.own (some 1) (zj F.ev),.own (some 1) (zj F.od),.own (some 1) (zj F.pr),.own (some 1) (zj F.rt),.own (some 2) (Zj F.br),.own (some 1) (Zb F.gone),.own (some 1) (zj up'),.own (some 1) (zj F.bs),.own (some 1) (zj mr'),.sc (.int .i64 (F.tn+1)),.own (some 1) (zC F.wt),.sc (.int .i64 F.lk)]]) (fun(s1,s2,p,q',P,Q,mr',up') q=>((s1=a∧s2=c)∨(s1=c∧s2=a))∧Wk (mf m) S s1 p P∧Wk (mf m) S s2 q' Q∧(∀y∈P,y∉Q)∧(∀u,u<n→(mr'.getD u 0=F.tn+1↔u∈P∨u∈Q))∧Rp n m S {F with mr:=mr',up:=up',tn:=F.tn+1}∧q=2*(dep d p+dep d q')+(if p= -1 then 1 else 0)) ((a,c,(a:Int),(c:Int),[],[],F.mr,F.up)) (2*(dep d a+dep d c)+(if(a:Int)= -1 then 1 else 0)) rfl (by first|(simp only[go_sem,zd,ze];done)|with_reducible rfl|rfl) (⟨.inl ⟨rfl,rfl⟩,.inl ⟨a,rfl,.here a⟩,.inl ⟨c,rfl,.here c⟩,by simp,fun u hu=>⟨fun h=>absurd h (by have:=R.mr u hu;omega),fun h=>by simp at h⟩,R.turn,rfl⟩) ?_
  rintro⟨s1,s2,p,q',P,Q,mr',up'⟩ q ⟨hs,hP,hQ,hdj,hmk,R',rfl⟩ X2 hn2 he2 hr2
  simp only[go_sem,zd,ze]
  obtain⟨hs1,hs2,ht1,ht2,hst⟩:S.out s1=true∧S.bs s1=s1∧S.out s2=true∧S.bs s2=s2∧S.rt s1=S.rt s2:=by
    rcases hs with⟨rfl,rfl⟩|⟨rfl,rfl⟩
    · exact⟨ha1,ha2,hc1,hc2,hrt⟩
    · exact⟨hc1,hc2,ha1,ha2,hrt.symm⟩
  have hs':(s2=a∧s1=c)∨(s2=c∧s1=a):=hs.elim (fun h=> .inr ⟨h.2,h.1⟩) (fun h=> .inl ⟨h.2,h.1⟩)
  have hmrl:mr'.length=n:=R'.sz.mr
  have hif:(if q'= -1 then 1 else 0:Nat)≤1:=by split<;>omega
  refine zm fun X3 hn3 he3 hf3 hr3=>?_
  refine zf fun X4 hn4 he4 hr4=>?_
  rcases hP with⟨x,rfl,hc⟩|⟨rfl,r,P',rfl,hc,hr⟩
  · obtain⟨hxP,hxn,hxo,hxb⟩:=zkk M I hs1 hs2 hc
    have hd0:decide ((x:Int)≠ -1)=true:=decide_eq_true (by omega)
    have hif0:(if(x:Int)= -1 then 1 else 0:Nat)=0:=if_neg (by omega)
    have hdx:dep d (x:Int)=d x+1:=by unfold dep;rw[if_neg (by omega),Int.toNat_natCast]
    refine za fun KY hKY=>?_
    simp only[go_sem,ue,hd0]
    apply hKY
    refine ZL ?_
    refine zf fun X5 hn5 he5 hr5=>?_
    by_cases hm:mr'.getD x 0=F.tn+1
    · have hd1:decide (mr'.getD x 0=F.tn+1)=true:=decide_eq_true hm
      refine zw fun KY hKY=>?_
      simp only[go_sem,ud,zh (show x<mr'.length by omega),zq,hmrl,hxn,hd1]
      apply hKY
      refine ZL ?_
      refine za fun KY hKY=>?_
      simp only[go_sem,gC]
      apply hKY
      refine zi ?_
      repeat (first|refine hr5 _ ?_|refine hr4 _ ?_|refine hr3 _ ?_|refine hr2 _ ?_|refine hr1 _ ?_)
      simp only[go_sem]
      have hxQ:=((hmk x hxn).1 hm).resolve_left hxP
      obtain⟨ys,k1,k2⟩:=zhD M I hd hs1 hs2 ht1 ht2 hc hQ hxQ hdj
      rcases hs with⟨rfl,rfl⟩|⟨rfl,rfl⟩
      · exact⟨x,P,ys,hc,k1,k2,rfl,_,R',rfl,rfl,rfl⟩
      · exact⟨x,ys,P,k1,hc,fun y hy h=>k2 y h hy,rfl,_,R',rfl,rfl,rfl⟩
    · have hd1:decide (mr'.getD x 0=F.tn+1)=false:=decide_eq_false hm
      have hxQ:x∉Q:=fun h=>hm ((hmk x hxn).2 (.inr h))
      have Rm:=R'.mark hxn
      have hdj2:∀y∈Q,y∉P++[x]:=fun y hy h=>by
        rcases List.mem_append.1 h with h|h
        · exact hdj y h hy
        · obtain rfl:y=x:=by simpa using h
          exact hxQ hy
      have hmk2:∀u,u<n→((mr'.set x (F.tn+1)).getD u 0=F.tn+1↔u∈Q∨u∈P++[x]):=fun u hu=>by
        rw[ZO _ _ _ _ (by omega)]
        by_cases e:u=x
        · subst e;simp
        · rw[if_neg e,hmk u hu];simp[e];exact Or.comm
      refine zw fun KY hKY=>?_
      simp only[go_sem,ud,zh (show x<mr'.length by omega),zq,hmrl,hxn,hd1]
      apply hKY
      refine Zy ?_
      refine zg ?_
      repeat (first|refine hn5 _ ?_|refine he5 _ _ ?_|refine hn4 _ ?_|refine he4 _ _ ?_|refine hn3 _ ?_|refine he3 _ ?_|refine hf3 _ _ (by decide) ?_|refine he2 _ _ ?_|refine hn1 _ ?_|refine he1 _ ?_|refine hf1 _ _ (by decide) ?_)
      refine zw fun KY hKY=>?_
      simp only[go_sem,gB,zq,hmrl,hxn,ju]
      apply hKY
      rcases M.at_ x hxn with hmx|⟨y,hmx,hyn⟩
      · have hab:=zcb nr Rm hxn hmx
        unfold FD.obj at hab
        simp only at hab
        refine zk fun KY hKY=>?_
        simp only[go_sem,uc]
        apply zn [] [0] false none rfl
        iterate 8 (first|(simp only[go_sem,zp]<;>rfl)|rfl)
        refine(hab.less (by simp)).mono ?_
        rintro _ _ ⟨rfl,rfl⟩
        refine⟨Nat.le_of_ble_eq_true rfl,(fun hh=>by cases hh),?_⟩
        simp only[go_sem,zr,zb.after]
        apply hKY
        repeat (first|refine hn5 _ ?_|refine he5 _ _ ?_|refine hn4 _ ?_|refine he4 _ _ ?_|refine hn3 _ ?_|refine he3 _ ?_|refine hf3 _ _ (by decide) ?_|refine he2 _ _ ?_|refine hn1 _ ?_|refine he1 _ ?_|refine hf1 _ _ (by decide) ?_)
        refine zk fun KY hKY=>?_
        simp only[go_sem,wM]
        have hd9:dep d (-1)=0:=if_pos rfl
        apply hKY
        repeat (first|refine hn5 _ ?_|refine he5 _ _ ?_|refine hn4 _ ?_|refine he4 _ _ ?_|refine hn3 _ ?_|refine he3 _ ?_|refine hf3 _ _ (by decide) ?_)
        refine hn2 _ ((s2,s1,q', -1,Q,P++[x],mr'.set x (F.tn+1),up')) (2*(dep d q'+dep d (-1))+(if q'= -1 then 1 else 0)) (by omega) (by first|(simp only[go_sem,zd,ze];done)|with_reducible rfl|rfl) ?_
        exact⟨hs',hQ,.inr ⟨rfl,x,P,rfl,hc,hmx⟩,hdj2,hmk2,Rm,rfl⟩
      · obtain⟨c1,c2,c3,c4,c5,c6⟩:=zbX M I hd hc hs1 hs2 hmx
        have hab:=zca nr Rm hxn hmx c3 c4 c5
        unfold FD.obj FD.upd at hab
        simp only at hab
        refine zk fun KY hKY=>?_
        simp only[go_sem,uc]
        apply zn [] [0] false none rfl
        iterate 8 (first|(simp only[go_sem,zp]<;>rfl)|rfl)
        refine(hab).mono ?_
        rintro _ _ ⟨rfl,up2,R2,rfl⟩
        refine⟨Nat.le_of_ble_eq_true rfl,(fun hh=>by cases hh),?_⟩
        simp only[go_sem,zr,zb.after]
        apply hKY
        repeat (first|refine hn5 _ ?_|refine he5 _ _ ?_|refine hn4 _ ?_|refine he4 _ _ ?_|refine hn3 _ ?_|refine he3 _ ?_|refine hf3 _ _ (by decide) ?_|refine he2 _ _ ?_|refine hn1 _ ?_|refine he1 _ ?_|refine hf1 _ _ (by decide) ?_)
        refine zk fun KY hKY=>?_
        simp only[go_sem,wM]
        have hd9:dep d (S.bs (S.pr y):Int)=d (S.bs (S.pr y))+1:=by unfold dep;rw[if_neg (by omega),Int.toNat_natCast]
        apply hKY
        repeat (first|refine hn5 _ ?_|refine he5 _ _ ?_|refine hn4 _ ?_|refine he4 _ _ ?_|refine hn3 _ ?_|refine he3 _ ?_|refine hf3 _ _ (by decide) ?_)
        refine hn2 _ ((s2,s1,q',(S.bs (S.pr y):Int),Q,P++[x],mr'.set x (F.tn+1),up2)) (2*(dep d q'+dep d (S.bs (S.pr y):Int))+(if q'= -1 then 1 else 0)) (by omega) (by first|(simp only[go_sem,zd,ze];done)|with_reducible rfl|rfl) ?_
        exact⟨hs',hQ,.inl ⟨_,rfl,c1⟩,hdj2,hmk2,R2,rfl⟩
  · have hd0:decide ((-1:Int)≠ -1)=false:=rfl
    have hq1:q'≠ -1:=fun e=>by
      subst e
      exact zfr M I hs1 hs2 ht1 ht2 hst (.inr ⟨rfl,r,P',rfl,hc,hr⟩) hQ hdj
    have hif1:(if q'= -1 then 1 else 0:Nat)=0:=if_neg hq1
    have hif2:(if(-1:Int)= -1 then 1 else 0:Nat)=1:=if_pos rfl
    refine za fun KY hKY=>?_
    simp only[go_sem,ue,hd0]
    apply hKY
    refine Zy ?_
    refine zg ?_
    repeat (first|refine hn4 _ ?_|refine he4 _ _ ?_|refine hn3 _ ?_|refine he3 _ ?_|refine hf3 _ _ (by decide) ?_|refine he2 _ _ ?_|refine hn1 _ ?_|refine he1 _ ?_|refine hf1 _ _ (by decide) ?_)
    refine zk fun KY hKY=>?_
    simp only[go_sem,wM]
    apply hKY
    repeat (first|refine hn4 _ ?_|refine he4 _ _ ?_|refine hn3 _ ?_|refine he3 _ ?_|refine hf3 _ _ (by decide) ?_)
    refine hn2 _ ((s2,s1,q', -1,Q,P'++[r],mr',up')) (2*(dep d q'+dep d (-1))+(if q'= -1 then 1 else 0)) (by omega) (by first|(simp only[go_sem,zd,ze];done)|with_reducible rfl|rfl) ?_
    exact⟨hs',hQ,.inr ⟨rfl,r,P',rfl,hc,hr⟩,fun y hy h=>hdj y h hy,fun u hu=>(hmk u hu).trans Or.comm,R',rfl⟩
structure Rc (n:Nat)(m:List Int)(S:FS)(F:FD):Prop where
 sz:F.Sz n
 ml:m.length=n
 lab:∀v,v<n→F.lab.getD v 0=(S.lab v:Int)
 out:∀v,v<n→F.out.getD v false=S.out v
 pr:∀v,v<n→S.lab v=2→F.pr.getD v 0=(S.pr v:Int)
 rt:∀v,v<n→F.rt.getD v 0=S.rt v
 rb:∀v,v<n→S.rt v= -1∨∃r:Nat,S.rt v=(r:Int)∧r<n
 br:∀v,v<n→S.lab v=2→S.out v=true→F.br.getD v (0,0)=((S.b0 v:Int),(S.b1 v:Int))
 gone:∀v,v<n→F.gone.getD v false=false
 mr:∀v,v<n→F.mr.getD v 0≤F.tn
 wt:∀x∈F.wt,x<n∧S.out x=true
 wn:F.wt.Nodup
def Uf (n:Nat)(up bs:List Int)(cls bet:Nat→Nat):Prop:=bs.length=n∧∃rep h,Uv n up rep h∧(∀v,v<n→bs.getD (rep v) 0=(bet v:Int))∧∀u v,u<n→v<n→(rep u=rep v↔cls u=cls v)
theorem Rp.rc {n:Nat}{m:List Int}{S:FS}{F:FD}(R:Rp n m S F):Rc n m S F∧Uf n F.up F.bs S.bs S.bs:=
 ⟨⟨R.sz,R.ml,R.lab,R.out,R.pr,R.rt,R.rb,R.br,R.gone,R.mr,R.wt,R.wn⟩,R.sz.bs,R.uf⟩
theorem Rc.rp {n:Nat}{m:List Int}{S:FS}{F:FD}(R:Rc n m S F)(U:Uf n F.up F.bs S.bs S.bs):Rp n m S F:=
 ⟨R.sz,R.ml,R.lab,R.out,R.pr,R.rt,R.rb,R.br,R.gone,U.2,R.mr,R.wt,R.wn⟩
theorem Rc.wl {n:Nat}{m:List Int}{S:FS}{F:FD}(R:Rc n m S F):F.wt.length≤n:=by
 have:=Z5 (m:=List.range n) R.wn fun x hx=>List.mem_range.2 (R.wt x hx).1
 simpa using this
theorem Rc.ups {n:Nat}{m:List Int}{S:FS}{F:FD}(R:Rc n m S F){up bs:List Int}(h1:up.length=n)(h2:bs.length=n):Rc n m S {F with up:=up,bs:=bs}:=by
 obtain⟨s1,s2,s3,s4,s5,s6,s7,s8,s9,s10,s11⟩:=R.sz
 exact⟨⟨s1,s2,s3,s4,s5,s6,s7,s8,h1,h2,s11⟩,R.ml,R.lab,R.out,R.pr,R.rt,R.rb,R.br,R.gone,R.mr,R.wt,R.wn⟩
theorem zif (nr:List (List Nat))(m:List Int){n:Nat}(F:FD){cls bet:Nat→Nat}(U:Uf n F.up F.bs cls bet){v w:Nat}(hv:v<n)(hw:w<n)(b:Nat):
    zo Try.prog [] zfv [.ptr 0 0,.sc (.int .i64 (v:Int)),.sc (.int .i64 (w:Int)),.sc (.int .i64 (b:Int))] [some (F.obj nr m)] fun r h'=>r= .tup []∧∃up' bs',up'.length=n∧Uf n up' bs' (fun u=>if cls u=cls v then cls w else cls u) (fun u=>if cls u=cls v∨cls u=cls w then b else bet u)∧h'=[some (({F with up:=up',bs:=bs'}:FD).obj nr m)]:=by
  obtain⟨hbl,rep,h,U1,U2,U3⟩:=U
  refine(zex nr m F U1 hbl hv hw (b:Int)).mono ?_
  rintro r h' ⟨rfl,up',h2,V,rfl⟩
  have hrw:=U1.rep_lt hw
  refine⟨rfl,up',_,V.len,⟨by rw[List.length_set];exact hbl,_,h2,V,fun u hu=>?_,fun x y hx hy=>?_⟩,rfl⟩
  · show(F.bs.set (rep w) (b:Int)).getD (if rep u=rep v then rep w else rep u) 0=((if cls u=cls v∨cls u=cls w then b else bet u:Nat):Int)
    rw[ZO _ _ _ _ (by rw[hbl];exact hrw)]
    by_cases e1:cls u=cls v
    · rw[if_pos ((U3 u v hu hv).2 e1),if_pos rfl,if_pos (.inl e1)]
    · rw[if_neg (fun e=>e1 ((U3 u v hu hv).1 e))]
      by_cases e2:cls u=cls w
      · rw[if_pos ((U3 u w hu hw).2 e2),if_pos (.inr e2)]
      · rw[if_neg (fun e=>e2 ((U3 u w hu hw).1 e)),if_neg (fun e=>e.elim e1 e2),U2 u hu]
  · show(if rep x=rep v then rep w else rep x)=(if rep y=rep v then rep w else rep y)↔(if cls x=cls v then cls w else cls x)=(if cls y=cls v then cls w else cls y)
    by_cases e1:cls x=cls v
    · rw[if_pos ((U3 x v hx hv).2 e1),if_pos e1]
      by_cases e2:cls y=cls v
      · rw[if_pos ((U3 y v hy hv).2 e2),if_pos e2];simp
      · rw[if_neg (fun e=>e2 ((U3 y v hy hv).1 e)),if_neg e2]
        exact U3 w y hw hy
    · rw[if_neg (fun e=>e1 ((U3 x v hx hv).1 e)),if_neg e1]
      by_cases e2:cls y=cls v
      · rw[if_pos ((U3 y v hy hv).2 e2),if_pos e2]
        exact U3 x w hx hw
      · rw[if_neg (fun e=>e2 ((U3 y v hy hv).1 e)),if_neg e2]
        exact U3 x y hx hy
theorem zko (nr:List (List Nat))(m:List Int){n:Nat}(F:FD){cls bet:Nat→Nat}(U:Uf n F.up F.bs cls bet){v:Nat}(hv:v<n):
    zo Try.prog [[1,0]] KI [.ptr 0 0,.sc (.int .i64 (v:Int))] [some (F.obj nr m)] fun r h'=>r= .sc (.int .i64 (bet v:Int))∧∃up',up'.length=n∧Uf n up' F.bs cls bet∧h'=[some (({F with up:=up'}:FD).obj nr m)]:=by
  obtain⟨hbl,rep,h,U1,U2,U3⟩:=U
  refine(zcZ nr m F U1 hbl hv).mono ?_
  rintro r h' ⟨rfl,up',U',rfl⟩
  exact⟨by rw[U2 v hv],up',U'.len,⟨hbl,rep,h,U',U2,U3⟩,rfl⟩
structure ShP (n:Nat)(m:List Int)(S:FS)(zs:List Nat):Prop where
 nd:zs.Nodup
 st:∀x∈zs,x<n∧S.out x=true∧S.bs x=x∧∃y:Nat,mf m x=(y:Int)∧y<n∧S.lab y=2∧S.out y=false∧S.out (S.pr y)=true∧S.pr y<n∧∀u,u<n→(S.bs u=y↔u=y)
 sy:∀v w:Nat,mf m v=(w:Int)→mf m w=(v:Int)
theorem kK (mt:Nat→Int)(xs ys:List Nat)(u:Nat):jX mt (xs++ys) u=(jX mt xs u||jX mt ys u):=by simp[jX]
theorem kJ {mt:Nat→Int}{x y:Nat}(h:mt x=(y:Int))(u:Nat):jX mt [x] u=decide (u=y):=by
 unfold jX
 simp only[List.any_cons,List.any_nil,Bool.or_false]
 by_cases e:u=y
 · subst e;rw[decide_eq_true h,decide_eq_true rfl]
 · rw[decide_eq_false (by omega),decide_eq_false e]
theorem ShP.not {n:Nat}{m:List Int}{S:FS}{zs:List Nat}(P:ShP n m S zs){dn:List Nat}(hd:∀x∈dn,x∈zs){u:Nat}(hu:S.out u=true):jX (mf m) dn u=false:=by
 rw[Bool.eq_false_iff];intro h
 obtain⟨x,hx,h⟩:=ZY.1 h
 obtain⟨_,_,_,y,h1,_,_,h2,_⟩:=P.st x (hd x hx)
 obtain rfl:y=u:=by omega
 rw[hu] at h2;cases h2
theorem Rc.step {n:Nat}{m:List Int}{S:FS}{F:FD}{zs dn rest:List Nat}{v w cur nxt y:Nat}(P:ShP n m S zs)(hz:zs=dn++cur::rest)(R:Rc n m (shr (mf m) S v w cur dn) F)(hy:mf m cur=(y:Int))(hv:v<n)(hw:w<n)(e:Int):
    Rc n m (shr (mf m) S v w nxt (dn++[cur])) {F with out:=F.out.set y true,ev:=F.ev.set y e,br:=F.br.set y ((v:Int),(w:Int)),wt:=F.wt++[y]}:=by
  obtain⟨s1,s2,s3,s4,s5,s6,s7,s8,s9,s10,s11⟩:=R.sz
  obtain⟨c1,c2,c3,y',c4,c5,c6,c7,c8,c9,c10⟩:=P.st cur (by rw[hz];simp)
  obtain rfl:y'=y:=by omega
  have ho:∀u,(S.out u||jX (mf m) (dn++[cur]) u)=((S.out u||jX (mf m) dn u)||decide (u=y')):=fun u=>by
    rw[kK,kJ hy,Bool.or_assoc]
  have hyd:jX (mf m) dn y'=false:=by
    rw[Bool.eq_false_iff];intro h
    obtain⟨x,hx,h⟩:=ZY.1 h
    have:=P.sy x y' h
    have:=P.sy cur y' hy
    obtain rfl:x=cur:=by omega
    have:=P.nd
    rw[hz] at this
    exact(List.nodup_append.1 this).2.2 x hx x (by simp) rfl
  refine⟨⟨s1,by simp[s2],by simp[s3],s4,s5,s6,by simp[s7],s8,s9,s10,s11⟩,R.ml,R.lab,fun u hu=>?_,R.pr,R.rt,R.rb,fun u hu h2 h3=>?_,R.gone,R.mr,fun x hx=>?_,?_⟩
  · show(F.out.set y' true).getD u false=(S.out u||jX (mf m) (dn++[cur]) u)
    have h1:F.out.getD u false=(S.out u||jX (mf m) dn u):=R.out u hu
    rw[ho,vG _ _ _ (by omega),h1]
    by_cases e:y'=u
    · subst e;simp
    · rw[decide_eq_false e,decide_eq_false (Ne.symm e)];simp
  · show(F.br.set y' ((v:Int),(w:Int))).getD u (0,0)=(((if jX (mf m) (dn++[cur]) u=true then v else S.b0 u:Nat):Int),((if jX (mf m) (dn++[cur]) u=true then w else S.b1 u:Nat):Int))
    rw[kK,kJ hy]
    by_cases e:u=y'
    · subst e
      have hl:u<F.br.length:=by omega
      simp[hl]
    · have h3:(S.out u||jX (mf m) (dn++[cur]) u)=true:=h3
      rw[ho,decide_eq_false e,Bool.or_false] at h3
      have h4:=R.br u hu h2 h3
      have h5:(F.br.set y' ((v:Int),(w:Int))).getD u (0,0)=F.br.getD u (0,0):=by simp[List.getElem?_set,Ne.symm e]
      rw[h5,decide_eq_false e,Bool.or_false,h4]
      rfl
  · show x<n∧(S.out x||jX (mf m) (dn++[cur]) x)=true
    rw[ho]
    have hx:x∈F.wt++[y']:=hx
    rcases List.mem_append.1 hx with hx|hx
    · obtain⟨h1,h2⟩:=R.wt x hx
      have h2:(S.out x||jX (mf m) dn x)=true:=h2
      exact⟨h1,by rw[h2,Bool.true_or]⟩
    · obtain rfl:x=y':=by simpa using hx
      exact⟨c5,by simp⟩
  · show(F.wt++[y']).Nodup
    refine List.nodup_append.2 ⟨R.wn,by simp,fun x hx z hz2 e=>?_⟩
    obtain rfl:z=y':=by simpa using hz2
    subst e
    have h2:(S.out x||jX (mf m) dn x)=true:=(R.wt x hx).2
    rw[c7,hyd] at h2;cases h2
theorem Uf.step {n:Nat}{m:List Int}{S:FS}{zs dn rest:List Nat}{v w b cur nxt y:Nat}{up bs:List Int}(P:ShP n m S zs)(hz:zs=dn++cur::rest)(hy:mf m cur=(y:Int))(hn:S.bs (S.pr y)=nxt)(hnc:nxt≠cur)(hnd:nxt∉dn)
    (U:Uf n up bs (fun u=>if(fun u=>if(shr (mf m) S v w cur dn).bs u=(shr (mf m) S v w cur dn).bs cur then(shr (mf m) S v w cur dn).bs y else(shr (mf m) S v w cur dn).bs u) u=(fun u=>if(shr (mf m) S v w cur dn).bs u=(shr (mf m) S v w cur dn).bs cur then(shr (mf m) S v w cur dn).bs y else(shr (mf m) S v w cur dn).bs u) y then(fun u=>if(shr (mf m) S v w cur dn).bs u=(shr (mf m) S v w cur dn).bs cur then(shr (mf m) S v w cur dn).bs y else(shr (mf m) S v w cur dn).bs u) (S.pr y) else(fun u=>if(shr (mf m) S v w cur dn).bs u=(shr (mf m) S v w cur dn).bs cur then(shr (mf m) S v w cur dn).bs y else(shr (mf m) S v w cur dn).bs u) u)
      (fun u=>if(fun u=>if(shr (mf m) S v w cur dn).bs u=(shr (mf m) S v w cur dn).bs cur then(shr (mf m) S v w cur dn).bs y else(shr (mf m) S v w cur dn).bs u) u=(fun u=>if(shr (mf m) S v w cur dn).bs u=(shr (mf m) S v w cur dn).bs cur then(shr (mf m) S v w cur dn).bs y else(shr (mf m) S v w cur dn).bs u) y∨(fun u=>if(shr (mf m) S v w cur dn).bs u=(shr (mf m) S v w cur dn).bs cur then(shr (mf m) S v w cur dn).bs y else(shr (mf m) S v w cur dn).bs u) u=(fun u=>if(shr (mf m) S v w cur dn).bs u=(shr (mf m) S v w cur dn).bs cur then(shr (mf m) S v w cur dn).bs y else(shr (mf m) S v w cur dn).bs u) (S.pr y) then b else(fun u=>if(shr (mf m) S v w cur dn).bs u=(shr (mf m) S v w cur dn).bs cur∨(shr (mf m) S v w cur dn).bs u=(shr (mf m) S v w cur dn).bs y then b else(fun u=>if dn≠ []∧(shr (mf m) S v w cur dn).bs u=cur then b else(shr (mf m) S v w cur dn).bs u) u) u)):
    Uf n up bs (shr (mf m) S v w nxt (dn++[cur])).bs (fun u=>if dn++[cur]≠ []∧(shr (mf m) S v w nxt (dn++[cur])).bs u=nxt then b else(shr (mf m) S v w nxt (dn++[cur])).bs u):=by
  obtain⟨c1,c2,c3,y',c4,c5,c6,c7,c8,c9,c10⟩:=P.st cur (by rw[hz];simp)
  obtain rfl:y'=y:=by omega
  have hdz:∀x∈dn,x∈zs:=fun x hx=>by rw[hz];simp[hx]
  have hcd:cur∉dn:=fun h=>by
    have:=P.nd
    rw[hz] at this
    exact(List.nodup_append.1 this).2.2 cur h cur (by simp) rfl
  have hyd:jX (mf m) dn y'=false:=by
    rw[Bool.eq_false_iff];intro h
    obtain⟨x,hx,h⟩:=ZY.1 h
    have:=P.sy x y' h
    have:=P.sy cur y' hy
    obtain rfl:x=cur:=by omega
    exact hcd hx
  have hbY:S.bs y'=y':=(c10 y' c5).2 rfl
  have hydn:y' ∉dn:=fun h=>by have:=(P.st y' (hdz _ h)).2.1;rw[c7] at this;cases this
  have e1:∀u,(shr (mf m) S v w cur dn).bs u=if S.bs u∈dn∨jX (mf m) dn u=true then cur else S.bs u:=fun u=>by
    show(if(decide (S.bs u∈dn)||jX (mf m) dn u)=true then cur else S.bs u)=_
    by_cases h:S.bs u∈dn∨jX (mf m) dn u=true
    · rw[if_pos h,if_pos (by simpa using h)]
    · rw[if_neg h,if_neg (by simpa using h)]
  have e2:∀u,(shr (mf m) S v w nxt (dn++[cur])).bs u=if S.bs u∈dn∨jX (mf m) dn u=true∨S.bs u=cur∨u=y' then nxt else S.bs u:=fun u=>by
    show(if(decide (S.bs u∈dn++[cur])||jX (mf m) (dn++[cur]) u)=true then nxt else S.bs u)=_
    rw[kK,kJ hy]
    by_cases h:S.bs u∈dn∨jX (mf m) dn u=true∨S.bs u=cur∨u=y'
    · rw[if_pos h,if_pos]
      rcases h with h|h|h|h<;>simp[h]
    · rw[if_neg h,if_neg]
      simp only[not_or] at h
      obtain⟨h1,h2,h3,h4⟩:=h
      simp[h1,h2,h3,h4]
  have k1:(shr (mf m) S v w cur dn).bs cur=cur:=by
    rw[e1,c3,if_neg];rintro(h|h)
    · exact hcd h
    · rw[P.not hdz c2] at h;cases h
  have k2:(shr (mf m) S v w cur dn).bs y'=y':=by
    rw[e1,hbY,if_neg];rintro(h|h)
    · exact hydn h
    · rw[hyd] at h;cases h
  have k3:(shr (mf m) S v w cur dn).bs (S.pr y')=nxt:=by
    rw[e1,hn,if_neg];rintro(h|h)
    · exact hnd h
    · rw[P.not hdz c8] at h;cases h
  have hyc:y'≠cur:=fun e=>by rw[e,c2] at c7;cases c7
  have hyn:y'≠nxt:=fun e=>by
    have h:=(c10 (S.pr y') c9).1 (hn.trans e.symm)
    rw[h] at c8
    rw[c7] at c8;cases c8
  simp only[k1,k2,k3] at U
  rw[if_neg (Ne.symm hyc|>fun h=>h.symm),if_neg hnc] at U
  have q1 :∀u,u<n→(if(if(shr (mf m) S v w cur dn).bs u=cur then y' else(shr (mf m) S v w cur dn).bs u)=y' then nxt else if(shr (mf m) S v w cur dn).bs u=cur then y' else(shr (mf m) S v w cur dn).bs u)=(shr (mf m) S v w nxt (dn++[cur])).bs u:=fun u hu=>by
    rw[e2]
    by_cases h:(shr (mf m) S v w cur dn).bs u=cur
    · rw[if_pos h,if_pos rfl]
      rw[e1] at h
      by_cases h2:S.bs u∈dn∨jX (mf m) dn u=true
      · rw[if_pos];rcases h2 with h2|h2
        · exact .inl h2
        · exact .inr (.inl h2)
      · rw[if_neg h2] at h;rw[if_pos (.inr (.inr (.inl h)))]
    · rw[if_neg h]
      rw[e1] at h⊢
      by_cases h2:S.bs u∈dn∨jX (mf m) dn u=true
      · rw[if_pos h2] at h;exact absurd rfl h
      · rw[if_neg h2] at h⊢
        rw[not_or] at h2
        by_cases h3:S.bs u=y'
        · rw[if_pos h3,if_pos (.inr (.inr (.inr ((c10 u hu).1 h3))))]
        · rw[if_neg h3,if_neg]
          rintro(h4|h4|h4|h4)
          · exact h2.1 h4
          · exact h2.2 h4
          · exact h h4
          · exact h3 ((c10 u hu).2 h4)
  obtain⟨U0,rep,h,U1,U2,U3⟩:=U
  refine⟨U0,rep,h,U1,fun u hu=>?_,fun u x hu hx=>?_⟩
  · have h2:=U2 u hu
    simp only at h2
    rw[h2]
    show _=(((if dn++[cur]≠ []∧(shr (mf m) S v w nxt (dn++[cur])).bs u=nxt then b else(shr (mf m) S v w nxt (dn++[cur])).bs u:Nat)):Int)
    rw[←q1 u hu]
    generalize (shr (mf m) S v w cur dn).bs u=c
    have hne:dn++[cur]≠ []:=by simp
    by_cases a1:c=cur
    · subst a1;simp
    · by_cases a2:c=y'
      · subst a2;simp[a1]
      · by_cases a3:c=nxt
        · subst a3;simp[a1,a2]
        · simp[a1,a2,a3]
  · rw[U3 u x hu hx]
    show(if(if(shr (mf m) S v w cur dn).bs u=cur then y' else(shr (mf m) S v w cur dn).bs u)=y' then nxt else if(shr (mf m) S v w cur dn).bs u=cur then y' else(shr (mf m) S v w cur dn).bs u)=(if(if(shr (mf m) S v w cur dn).bs x=cur then y' else(shr (mf m) S v w cur dn).bs x)=y' then nxt else if(shr (mf m) S v w cur dn).bs x=cur then y' else(shr (mf m) S v w cur dn).bs x)↔_
    rw[q1 u hu,q1 x hx]
theorem zdC (nr:List (List Nat))(m:List Int){n:Nat}(F:FD)(S:F.Sz n){v:Nat}(hv:v<n)(hl:F.lab.getD v 0≠0)(e l:Int)(hw:F.wt.length≤1000000):
    zo Try.prog [] zfx [.ptr 0 0,.sc (.int .i64 (v:Int)),.sc (.int .i64 e),.sc (.int .i64 l)] [some (F.obj nr m)] fun r h'=>r= .tup []∧h'=[some (({F with out:=F.out.set v true,ev:=F.ev.set v e,wt:=F.wt++[v]}:FD).obj nr m)]:=by
  refine(Xc nr m F S hv e l hw).mono ?_
  rintro r h' ⟨rfl,rfl⟩
  refine⟨rfl,?_⟩
  unfold FD.raise
  rw[if_neg hl]
def k7 (m:List Int)(xs:List Nat):List Nat:=xs.map fun x=>(mf m x).toNat
theorem zck (mt:Nat→Int)(S:FS)(v w b:Nat):shr mt S v w b []=S:=by
 have h:∀u,jX mt [] u=false:=fun u=>rfl
 unfold shr
 simp[h]
theorem U9 (nr:List (List Nat)){n:Nat}{m:List Int}{S:FS}{F:FD}(hn:n≤4096)(R:Rp n m S F){v w b:Nat}{xs:List Nat}(P:ShP n m S xs)(hc:ZA (mf m) S (S.bs v) b xs)(hbn:b<n)(hbx:b∉xs)(hbb:S.bs b=b)(hv:v<n)(hw:w<n):
    zo Try.prog [] zim [.ptr 0 0,.sc (.int .i64 (v:Int)),.sc (.int .i64 (w:Int)),.sc (.int .i64 (b:Int))] [some (F.obj nr m)] fun r h'=>r= .tup []∧∃F':FD,Rp n m (shr (mf m) S v w b xs) F'∧F'.wt=F.wt++k7 m xs∧F'.tn=F.tn∧h'=[some (F'.obj nr m)]:=by
  have hB:=QW nr R hv
  have hml:=R.ml
  obtain⟨a,ha⟩:∃a,Unit→IntKind.i64.wrap (IntKind.i64.wrap (F.ev.getD v 0+F.ev.getD w 0)+1)=a:=⟨_,fun _=>rfl⟩
  have hel:=R.sz.ev
  have hpl:=R.sz.pr
  have hol:=R.sz.od
  unfold FD.obj FD.upd at hB
  unfold FD.obj
  refine zkO rfl ?_
  unfold zjg jQ
  refine zw fun KY hKY=>?_
  simp only[go_sem,gA,zh (show v<F.ev.length by omega),zh (show w<F.ev.length by omega),zq,hel,hv,hw,ha ()]
  apply hKY
  refine za fun KY hKY=>?_
  simp only[go_sem,gz]
  apply zn [] [0] false none rfl
  iterate 8 (first|(simp only[go_sem,zp]<;>rfl)|rfl)
  refine(hB.less (by simp)).mono ?_
  rintro _ _ ⟨rfl,up1,R1,rfl⟩
  refine⟨Nat.le_of_ble_eq_true rfl,(fun hh=>by cases hh),?_⟩
  simp only[go_sem,zr,zb.after]
  apply hKY
  obtain⟨Q0,U0⟩:=R1.rc
  simp only at Q0 U0
  refine zm fun X1 hn1 he1 hf1 hr1=>?_
  try simp only[go_sem]
  refine zU (α:=List Nat×Nat×List Nat×List Bool×List Int×List (Int×Int)×List Int×List Int×List Nat) [10,11,33,48] (fun(dn,cur,rest,out',ev',br',up',bs',wt')=>[(9,.sc (.int .i64 (cur:Int)))]) (fun(dn,cur,rest,out',ev',br',up',bs',wt')=>[some [.imm 1 (Zq nr),.imm 1 (zj m),.own (some 1) (zj F.lab),.own (some 1) (Zb out'),.own (some 1) (zj ev'),.own (some 1) (zj F.od),.own (some 1) (zj F.pr),.own (some 1) (zj F.rt),.own (some 2) (Zj br'),.own (some 1) (Zb F.gone),.own (some 1) (zj up'),.own (some 1) (zj bs'),.own (some 1) (zj F.mr),.sc (.int .i64 F.tn),.own (some 1) (zC wt'),.sc (.int .i64 F.lk)]]) (fun(dn,cur,rest,out',ev',br',up',bs',wt') q=>xs=dn++rest∧ZA (mf m) S cur b rest∧Rc n m (shr (mf m) S v w cur dn) ⟨F.lab,out',ev',F.od,F.pr,F.rt,br',F.gone,up',bs',F.mr,F.tn,wt',F.lk⟩∧Uf n up' bs' (shr (mf m) S v w cur dn).bs (fun u=>if dn≠ []∧(shr (mf m) S v w cur dn).bs u=cur then b else(shr (mf m) S v w cur dn).bs u)∧wt'=F.wt++k7 m dn∧q=rest.length) (([],S.bs v,xs,F.out,F.ev,F.br,up1,F.bs,F.wt)) (xs.length) rfl (by first|(simp only[go_sem,zd,ze];done)|with_reducible rfl|rfl) (⟨rfl,hc,by rw[zck];exact Q0,by rw[zck];simpa using U0,by simp[k7],rfl⟩) ?_
  rintro⟨dn,cur,rest,out',ev',br',up',bs',wt'⟩ q ⟨hx,hch,Q,U,hwt,rfl⟩ X2 hn2 he2 hr2
  simp only[go_sem,zd,ze]
  cases hch with
  | here=>
    have hd0:decide ((b:Int)≠(b:Int))=false:=by simp
    refine zf fun X3 hn3 he3 hr3=>?_
    refine za fun KY hKY=>?_
    simp only[go_sem,ua,hd0]
    apply hKY
    refine Zy ?_
    refine zy ?_
    repeat (first|refine hn3 _ ?_|refine he3 _ _ ?_|refine he2 _ _ ?_|refine hn1 _ ?_|refine he1 _ ?_|refine hf1 _ _ (by decide) ?_)
    rw[List.append_nil] at hx
    subst hx
    simp only[go_sem]
    refine⟨_,Q.rp ?_,hwt,rfl,rfl⟩
    have e:∀c:Nat,(if xs≠ []∧c=b then b else c)=c:=fun c=>by
      split
      · rename_i h;exact h.2.symm
      · rfl
    simpa only[e] using U
  | @up _ y _ rest' hne hy hch'=>
    obtain⟨c1,c2,c3,y',c4,c5,c6,c7,c8,c9,c10⟩:=P.st cur (by rw[hx];simp)
    obtain rfl:y'=y:=by omega
    obtain⟨nxt,hnx⟩:∃nxt,nxt=S.bs (S.pr y'):=⟨_,rfl⟩
    rw[←hnx] at hch'
    have hnd:=P.nd
    rw[hx] at hnd
    have hnx2:nxt≠cur∧nxt∉dn:=by
      cases hch' with
      |here=>exact⟨fun e=>hbx (by rw[hx,e];simp),fun h=>hbx (by rw[hx];simp[h])⟩
      | @up _ _ _ r2 _ _ _=>
        refine⟨fun e=>?_,fun h=>?_⟩
        · subst e
          have:=(List.nodup_cons.1 (List.nodup_append.1 hnd).2.1).1
          exact this (by simp)
        · exact(List.nodup_append.1 hnd).2.2 nxt h nxt (by simp) rfl
    have hdz:∀x∈dn,x∈xs:=fun x h=>by rw[hx];simp[h]
    have hd0:decide ((cur:Int)≠(b:Int))=true:=decide_eq_true (by omega)
    have hgm:(zj m)[cur]?=some (.sc (.int .i64 (y':Int))):=by rw[JM (by omega),hy]
    have hyd:jX (mf m) dn y'=false:=by
      rw[Bool.eq_false_iff];intro h
      obtain⟨x,hx2,h⟩:=ZY.1 h
      have:=P.sy x y' h
      have:=P.sy cur y' hy
      obtain rfl:x=cur:=by omega
      exact(List.nodup_append.1 hnd).2.2 x hx2 x (by simp) rfl
    have hoy:(Zb out')[y']?=some (.sc (.bool false)):=by
      have h:=Q.out y' c5
      simp only at h
      rw[ji (by have:=Q.sz.out;simp only at this;omega),h]
      show some (zc.sc (.bool (S.out y'||jX (mf m) dn y')))=_
      rw[c7,hyd];rfl
    have hout:out'.length=n:=Q.sz.out
    have hbrl:br'.length=n:=Q.sz.br
    have hupl:up'.length=n:=Q.sz.up
    have hbsl:bs'.length=n:=Q.sz.bs
    have hwl:=Q.wl
    simp only at hwl
    obtain⟨e,he⟩:∃e,Unit→IntKind.i64.wrap (a - F.od.getD y' 0)=e:=⟨_,fun _=>rfl⟩
    have Q1:=Rc.step (nxt:=nxt) P hx Q hy hv hw e
    simp only at Q1
    obtain⟨z1,z2,z3,z4,z5,z6,z7,z8,z9,z10,z11⟩:=Q.sz
    simp only at z1 z2 z3 z4 z5 z6 z7 z8 z9 z10 z11
    have hly:F.lab.getD y' 0≠0:=fun h=>by
      have:=R.lab y' c5
      rw[c6,h] at this
      exact absurd this (by decide)
    have hw10:wt'.length≤1000000:=Nat.le_trans hwl (Nat.le_trans hn (by decide))
    have hrs:=zdC nr m ⟨F.lab,out',ev',F.od,F.pr,F.rt,br'.set y' ((v:Int),(w:Int)),F.gone,up',bs',F.mr,F.tn,wt',F.lk⟩ (n:=n) ⟨z1,z2,z3,z4,z5,z6,by simp[hbrl],z8,z9,z10,z11⟩ c5 hly e 2 hw10
    have hk3:(shr (mf m) S v w cur dn).bs (S.pr y')=nxt:=by
      show(if(decide (S.bs (S.pr y')∈dn)||jX (mf m) dn (S.pr y'))=true then cur else S.bs (S.pr y'))=nxt
      rw[←hnx,P.not hdz c8,decide_eq_false hnx2.2];rfl
    have hbt:(if dn≠ []∧(shr (mf m) S v w cur dn).bs (S.pr y')=cur then b else(shr (mf m) S v w cur dn).bs (S.pr y'))=nxt:=by
      rw[hk3,if_neg (fun h=>hnx2.1 h.2)]
    have hB2:=zko nr m ⟨F.lab,out'.set y' true,ev'.set y' e,F.od,F.pr,F.rt,br'.set y' ((v:Int),(w:Int)),F.gone,up',bs',F.mr,F.tn,wt'++[y'],F.lk⟩ U c9
    simp only[hbt] at hB2
    have hU1:=fun up2 (U2:Uf n up2 bs' (shr (mf m) S v w cur dn).bs (fun u=>if dn≠ []∧(shr (mf m) S v w cur dn).bs u=cur then b else(shr (mf m) S v w cur dn).bs u))=>zif nr m ⟨F.lab,out'.set y' true,ev'.set y' e,F.od,F.pr,F.rt,br'.set y' ((v:Int),(w:Int)),F.gone,up2,bs',F.mr,F.tn,wt'++[y'],F.lk⟩ U2 c1 c5 b
    have hU2:=fun up3 bs3 cls bet (U3:Uf n up3 bs3 cls bet)=>zif nr m ⟨F.lab,out'.set y' true,ev'.set y' e,F.od,F.pr,F.rt,br'.set y' ((v:Int),(w:Int)),F.gone,up3,bs3,F.mr,F.tn,wt'++[y'],F.lk⟩ U3 c5 c9 b
    unfold FD.obj at hrs hB2 hU1 hU2
    simp only at hrs hB2 hU1 hU2
    have hog:(zj F.od)[y']?=some (.sc (.int .i64 (F.od.getD y' 0))):=zh (by omega)
    have hpg:(zj F.pr)[y']?=some (.sc (.int .i64 (S.pr y':Int))):=by rw[zh (by omega),R.pr y' c5 c6]
    refine zf fun X4 hn4 he4 hr4=>?_
    refine za fun KY hKY=>?_
    simp only[go_sem,ua,hd0]
    apply hKY
    refine ZL ?_
    refine zg ?_
    repeat (first|refine hn4 _ ?_|refine he4 _ _ ?_|refine he2 _ _ ?_|refine hn1 _ ?_|refine he1 _ ?_|refine hf1 _ _ (by decide) ?_)
    refine zm fun X5 hn5 he5 hf5 hr5=>?_
    refine za fun KY hKY=>?_
    simp only[go_sem,gy,hgm,zq,hml,c1]
    apply hKY
    refine zf fun X6 hn6 he6 hr6=>?_
    refine za fun KY hKY=>?_
    simp only[go_sem,gx,hoy,zX,hout,c5]
    apply hKY
    refine ZL ?_
    refine za fun KY hKY=>?_
    simp only[go_sem,gw,zg6 (show y'<br'.length by omega),ZM,hbrl,c5,(show y'*2+1<n*2 by omega),(show 1<n*2 - y'*2 by omega),List.length_drop]
    apply hKY
    refine zk fun KY hKY=>?_
    simp only[go_sem,gv,hog,zq,hol,c5,he ()]
    apply zn [] [0] false none rfl
    iterate 8 (first|(simp only[go_sem,zp]<;>rfl)|rfl)
    refine(hrs).mono ?_
    rintro _ _ ⟨rfl,rfl⟩
    refine⟨Nat.le_of_ble_eq_true rfl,(fun hh=>by cases hh),?_⟩
    simp only[go_sem,zr,zb.after]
    apply hKY
    repeat (first|refine hn6 _ ?_|refine he6 _ _ ?_|refine hn5 _ ?_|refine he5 _ ?_|refine hf5 _ _ (by decide) ?_|refine hn4 _ ?_|refine he4 _ _ ?_|refine he2 _ _ ?_|refine hn1 _ ?_|refine he1 _ ?_|refine hf1 _ _ (by decide) ?_)
    refine za fun KY hKY=>?_
    simp only[go_sem,gu,hpg,zq,hpl,c5]
    apply zn [] [0] false none rfl
    iterate 8 (first|(simp only[go_sem,zp]<;>rfl)|rfl)
    refine(hB2.less (by simp)).mono ?_
    rintro _ _ ⟨rfl,up2,_,U2,rfl⟩
    refine⟨Nat.le_of_ble_eq_true rfl,(fun hh=>by cases hh),?_⟩
    simp only[go_sem,zr,zb.after]
    apply hKY
    refine za fun KY hKY=>?_
    simp only[go_sem,gt]
    apply zn [] [0] false none rfl
    iterate 8 (first|(simp only[go_sem,zp]<;>rfl)|rfl)
    refine(hU1 up2 U2).mono ?_
    rintro _ _ ⟨rfl,up3,bs3,_,U3,rfl⟩
    refine⟨Nat.le_of_ble_eq_true rfl,(fun hh=>by cases hh),?_⟩
    simp only[go_sem,zr,zb.after]
    apply hKY
    refine za fun KY hKY=>?_
    simp only[go_sem,gr,hpg,zq,hpl,c5]
    apply zn [] [0] false none rfl
    iterate 8 (first|(simp only[go_sem,zp]<;>rfl)|rfl)
    refine(hU2 up3 bs3 _ _ U3).mono ?_
    rintro _ _ ⟨rfl,up4,bs4,hl4,U4,rfl⟩
    refine⟨Nat.le_of_ble_eq_true rfl,(fun hh=>by cases hh),?_⟩
    simp only[go_sem,zr,zb.after]
    apply hKY
    have hrl:(cur::rest').length=rest'.length+1:=rfl
    refine zk fun KY hKY=>?_
    simp only[go_sem,vS]
    apply hKY
    repeat (first|refine hn6 _ ?_|refine he6 _ _ ?_|refine hn5 _ ?_|refine he5 _ ?_|refine hf5 _ _ (by decide) ?_|refine hn4 _ ?_|refine he4 _ _ ?_)
    refine hn2 _ ((dn++[cur],nxt,rest',out'.set y' true,ev'.set y' e,br'.set y' ((v:Int),(w:Int)),up4,bs4,wt'++[y'])) (rest'.length) (by omega) (by first|(simp only[go_sem,zd,ze];done)|with_reducible rfl|rfl) ?_
    exact⟨by rw[hx];simp,hch',Q1.ups hl4 U4.1,Uf.step P hx hy hnx.symm hnx2.1 hnx2.2 U4,by rw[hwt];simp[k7,hy],rfl⟩
end Go.Proofs.Ytkjppnofgmpeeaa
