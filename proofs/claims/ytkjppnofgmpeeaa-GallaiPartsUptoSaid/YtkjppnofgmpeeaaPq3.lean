/- The three parts of any small graph are what they are by definition, over all largest matchings; and so are the pieces of D. -/
import Derived.Test.YtkjppnofgmpeeaaPq2
import Derived.Test.YtkjppnofgmpeeaaPq1
import Derived.Shelf.Sort.Plain
import Derived.Test.YtkjppnofgmpeeaaRows
import Derived.Test.YtkjppnofgmpeeaaGolhili5
set_option linter.all false
set_option maxRecDepth 100000
set_option maxHeartbeats 4000000
namespace Go.Proofs.Ytkjppnofgmpeeaa
open Go Go.Ga Go.Ga.Gl
theorem XY {mt:Nat→Int}{S:FS}{c to:Nat}{xs:List Nat}(h:ZA mt S c to xs)(hx:xs=[]):c=to:=by
 cases h with
 |here=>rfl
 |up _ _ _=>cases hx
theorem K8 {mt:Nat→Int}{S:FS}{c to:Nat}{xs:List Nat}(h:ZA mt S c to xs):∀x∈xs,∃y:Nat,mt x=(y:Int):=by
 induction h with
 |here b=>intro x hx;simp at hx
 | up hne hm hch ih=>
   intro x hx
   rcases List.mem_cons.1 hx with rfl|hx
   · exact⟨_,hm⟩
   · exact ih x hx
theorem K7 {N:Nat}{E:Nat→Nat→Prop}{mt:Nat→Int}{S:FS}(M:Mf N E mt)(I:qb N E mt S){d:Nat→Nat}(hd:∀b m:Nat,S.out b=true→S.bs b=b→mt b=(m:Int)→d (S.bs (S.pr m))<d b){c to:Nat}{xs:List Nat}(h:ZA mt S c to xs):S.out c=true→S.bs c=c→xs.Nodup:=by
 induction h with
 |here b=>intro _ _;simp
 | @up x m to xs hne hm hch ih=>
   intro h1 h2
   rcases I.base M h1 h2 with⟨h3,_⟩|⟨m',h3,h4,h5,h6,h7,h8,h9⟩
   · omega
   · obtain rfl:m'=m:=by omega
     obtain⟨k1,k2,k3,k4⟩:=I.bo _ h6
     obtain⟨_,j4⟩:=Zw M I hd hch k1 k3
     have hdx:=hd x m' h1 h2 hm
     exact List.nodup_cons.2 ⟨fun h=>by have:=(j4 x h).2.1;omega,ih k1 k3⟩
theorem Yc {n:Nat}{E:Nat→Nat→Prop}{m:List Int}{S:FS}(M:Mf n E (mf m))(I:qb n E (mf m) S){v b:Nat}{xs:List Nat}(hv:S.out v=true)(hX:ZA (mf m) S (S.bs v) b xs):ShP n m S xs∧b∉xs∧b<n∧S.bs b=b∧S.out b=true:=by
 obtain⟨d,hd⟩:=I.dp
 obtain⟨v1,v2,v3,v4⟩:=I.bo v hv
 obtain⟨⟨b1,b2,b3⟩,fX⟩:=Zw M I hd hX v1 v3
 refine⟨⟨K7 M I hd hX v1 v3,fun x hx=>?_,M.sy⟩,fun h=>by have:=(fX b h).1;omega,(I.o1 b b1).1,b2,b1⟩
 obtain⟨_,_,x1,x2,x3⟩:=fX x hx
 obtain⟨y,hy⟩:=K8 hX x hx
 rcases I.base M x1 x2 with⟨h3,_⟩|⟨m',h3,h4,h5,h6,h7,h8,h9⟩
 · omega
 · obtain rfl:m'=y:=by omega
   refine⟨(I.o1 x x1).1,x1,x2,m',hy,(I.od _ h4).1,h4,h5,h6,(I.o1 _ h6).1,fun u hu=>⟨fun e=>?_,fun e=>?_⟩⟩
   · cases ho:S.out u with
     |true=>have:=(I.bo u ho).1;rw[e,h5] at this;cases this
     |false=>rw[←e,I.bn u ho]
   · subst e;exact I.bn _ h5
theorem zbY {n:Nat}{E:Nat→Nat→Prop}{m:List Int}{S:FS}(M:Mf n E (mf m))(I:qb n E (mf m) S){v w b:Nat}{xs ys:List Nat}(hv:S.out v=true)(hw:S.out w=true)(hX:ZA (mf m) S (S.bs v) b xs)(hY:ZA (mf m) S (S.bs w) b ys)(hdj:∀x∈xs,x∉ys):
    let T:=shr (mf m) S v w b xs
    ShP n m T ys∧ZA (mf m) T (T.bs w) b ys∧T.bs b=b:=by
  intro T
  obtain⟨PX,hbX,hbn,hbb,hbo⟩:=Yc M I hv hX
  obtain⟨PY,hbY,_,_,_⟩:=Yc M I hw hY
  have tb:∀u,S.out u=true→S.bs u∉xs→T.bs u=S.bs u:=fun u h1 h2=>by
    show(if(decide (S.bs u∈xs)||jX (mf m) xs u)=true then b else S.bs u)=_
    rw[PX.not (fun _ h=>h) h1,decide_eq_false h2];rfl
  have hT:∀u,S.out u=true→T.out u=true:=fun u h=>by
    show(S.out u||jX (mf m) xs u)=true
    rw[h];rfl
  refine⟨⟨PY.nd,fun x hx=>?_,M.sy⟩,?_,?_⟩
  · obtain⟨c1,c2,c3,y,c4,c5,c6,c7,c8,c9,c10⟩:=PY.st x hx
    have hxX:x∉xs:=fun h=>hdj x h hx
    have hyM:jX (mf m) xs y=false:=by
      rw[Bool.eq_false_iff];intro h
      obtain⟨x',hx',h⟩:=ZY.1 h
      have:=M.sy x' y h
      have:=M.sy x y c4
      obtain rfl:x=x':=by omega
      exact hxX hx'
    have hyX:S.bs y∉xs:=fun h=>by
      rw[(c10 y c5).2 rfl] at h
      have:=(PX.st y h).2.1
      rw[c7] at this;cases this
    refine⟨c1,hT x c2,(tb x c2 (by rw[c3];exact hxX)).trans c3,y,c4,c5,c6,?_,hT _ c8,c9,fun u hu=>?_⟩
    · show(S.out y||jX (mf m) xs y)=false
      rw[c7,hyM];rfl
    · show(if(decide (S.bs u∈xs)||jX (mf m) xs u)=true then b else S.bs u)=y↔_
      constructor
      · intro h
        split at h
        · rw[h,c7] at hbo;cases hbo
        · exact(c10 u hu).1 h
      · intro h
        subst h
        rw[hyM,decide_eq_false hyX]
        exact(c10 u hu).2 rfl
  · have hTb:T.bs b=b:=by rw[tb b hbo (by rw[hbb];exact hbX),hbb]
    have main:∀(c:Nat) (zs:List Nat),ZA (mf m) S c b zs→(∀z∈zs,z∈ys)→ZA (mf m) T c b zs:=by
      intro c zs h
      generalize hto:b=to at h
      induction h with
      |here _=>intro _;exact .here _
      | @up x y to zs hne hm hch ih=>
        intro hz
        obtain⟨c1,c2,c3,y',c4,c5,c6,c7,c8,c9,c10⟩:=PY.st x (hz x (by simp))
        obtain rfl:y'=y:=by omega
        refine .up hne hm ?_
        have hb:S.bs (S.pr y')∉xs:=by
          cases hch with
          |here=>rw[←hto];exact hbX
          |up _ _ _=>exact fun h=>hdj _ h (hz _ (by simp))
        rw[show T.bs (T.pr y')=S.bs (S.pr y') from tb _ c8 hb]
        exact ih hto fun z h=>hz z (List.mem_cons_of_mem _ h)
    have hwb:T.bs w=S.bs w:=by
      refine tb w hw fun h=>?_
      cases hY with
      |here=>exact hbX h
      |up _ _ _=>exact hdj _ h (by simp)
    rw[hwb]
    exact main _ _ hY fun _ h=>h
  · rw[tb b hbo (by rw[hbb];exact hbX),hbb]
def qv (n:Nat)(S:FS):Nat:=((List.range n).filter fun u=> !S.out u).length
theorem K1 (l:List Nat)(hl:l.Nodup)(f:Nat→Bool):∀us:List Nat,us.Nodup→(∀u∈us,u∈l∧f u=true)→(l.filter fun u=>f u&& !decide (u∈us)).length+us.length=(l.filter f).length:=by
 intro us
 induction us with
 |nil=>intro _ _;simp
 | cons a us ih=>
   intro hn h
   obtain⟨ha,hn⟩:=List.nodup_cons.1 hn
   have h1:=ih hn fun u hu=>h u (List.mem_cons_of_mem _ hu)
   have h2:(l.filter fun u=>f u&& !decide (u∈us)).length=(l.filter fun u=>f u&& !decide (u∈a::us)).length+1:=by
    obtain⟨hal,hfa⟩:=h a (by simp)
    obtain⟨l1,l2,rfl⟩:=List.append_of_mem hal
    have hn2:=List.nodup_append.1 hl
    have n1:a∉l1:=fun h=>hn2.2.2 a h a (by simp) rfl
    have n2:a∉l2:=(List.nodup_cons.1 hn2.2.1).1
    have e:∀l3:List Nat,a∉l3→(l3.filter fun u=>f u&& !decide (u∈us))=l3.filter fun u=>f u&& !decide (u∈a::us):=fun l3 h3=>by
     refine List.filter_congr fun u hu=>?_
     have:u≠a:=fun e=>h3 (e▸hu)
     simp[this]
    have e1:(f a&& !decide (a∈us))=true:=by rw[hfa];simp[ha]
    have e2:¬(f a&& !decide (a∈a::us))=true:=by simp
    rw[List.filter_append,List.filter_append,List.filter_cons,List.filter_cons,if_pos e1,if_neg e2,e l1 n1,e l2 n2]
    simp only[List.length_append,List.length_cons];omega
   simp only[List.length_cons];omega
theorem vp {n:Nat}{S T:FS}{us:List Nat}(hn:us.Nodup)(h1:∀u∈us,u<n∧S.out u=false)(h2:∀u,T.out u=true↔S.out u=true∨u∈us):qv n T+us.length=qv n S:=by
 have:=K1 (List.range n) List.nodup_range (fun u=> !S.out u) us hn fun u hu=>⟨List.mem_range.2 (h1 u hu).1,by rw[(h1 u hu).2];rfl⟩
 unfold qv
 rw[←this]
 congr 2
 refine List.filter_congr fun u _=>?_
 cases ht:T.out u with
 | true=>
   rcases(h2 u).1 ht with h|h
   · rw[h];rfl
   · simp[h]
 | false=>
   have h3:S.out u=false:=by
    cases e:S.out u with
    |false=>rfl
    |true=>have:=(h2 u).2 (.inl e);rw[ht] at this;cases this
   have h4:u∉us:=fun e=>by have:=(h2 u).2 (.inr e);rw[ht] at this;cases this
   rw[h3];simp[h4]
theorem zct (n:Nat)(S:FS):qv n S≤n:=by
 unfold qv
 exact Nat.le_trans (List.length_filter_le _ _) (by simp)
theorem zcw {n:Nat}{m:List Int}{S:FS}{zs:List Nat}(P:ShP n m S zs)(u:Nat):u∈k7 m zs↔∃x∈zs,mf m x=(u:Int):=by
 unfold k7
 rw[List.mem_map]
 constructor
 · rintro⟨x,hx,rfl⟩
   obtain⟨_,_,_,y,h,_⟩:=P.st x hx
   exact⟨x,hx,by rw[h];rfl⟩
 · rintro⟨x,hx,h⟩
   exact⟨x,hx,by rw[h];rfl⟩
theorem zfN (nr:List (List Nat)){n:Nat}{E:Nat→Nat→Prop}{m:List Int}{S:FS}{F:FD}(M:Mf n E (mf m))(I:qb n E (mf m) S)(R:Rp n m S F)(hn:n≤4096)(htn:0≤F.tn∧F.tn≤1000000000){v w:Nat}(hv:S.out v=true)(hw:S.out w=true)(hvw:E v w)(hne:S.bs v≠S.bs w)(hrt:S.rt v=S.rt w):
    zo Try.prog [] zfy [.ptr 0 0,.sc (.int .i64 (v:Int)),.sc (.int .i64 (w:Int))] [some (F.obj nr m)] fun r h'=>r= .sc (.slice none 0 0)∧∃(T:FS) (F':FD),qb n E (mf m) T∧Rp n m T F'∧Stp S T F.wt F'.wt∧(∀u,S.out u=true→T.out u=true)∧T.bs v=T.bs w∧T.lab w≠0∧qv n T+F'.wt.length=qv n S+F.wt.length∧qv n T+1≤qv n S∧F'.tn=F.tn+1∧h'=[some (F'.obj nr m)]:=by
  have hml:=R.ml
  have hvn:=(I.o1 v hv).1
  have hwn:=(I.o1 w hw).1
  have hrl:=R.sz.rt
  have hgv:(zj F.rt)[v]?=some (.sc (.int .i64 (S.rt v))):=by rw[zh (by omega),R.rt v hvn]
  have hgw:(zj F.rt)[w]?=some (.sc (.int .i64 (S.rt w))):=by rw[zh (by omega),R.rt w hwn]
  have hd0:decide (S.rt v≠S.rt w)=false:=decide_eq_false (fun h=>h hrt)
  have B1:=QW nr R hvn
  have B2:=fun up' (R':Rp n m S (F.upd up' F.lk))=>QW nr R' hwn
  obtain⟨v1,v2,v3,v4⟩:=I.bo v hv
  obtain⟨w1,w2,w3,w4⟩:=I.bo w hw
  have hrt2:S.rt (S.bs v)=S.rt (S.bs w):=by rw[v4,w4,hrt]
  have Mt:=fun up' (R':Rp n m S ((F.upd up' F.lk).upd up' F.lk))=>zhC nr M I R' htn v1 v3 w1 w3 hrt2
  unfold FD.upd at B1 B2 Mt
  unfold FD.obj at B1 B2
  simp only at B1 B2
  have hO:∀G:FD,G.obj nr m=[.imm 1 (Zq nr),.imm 1 (zj m),.own (some 1) (zj G.lab),.own (some 1) (Zb G.out),.own (some 1) (zj G.ev),.own (some 1) (zj G.od),.own (some 1) (zj G.pr),.own (some 1) (zj G.rt),.own (some 2) (Zj G.br),.own (some 1) (Zb G.gone),.own (some 1) (zj G.up),.own (some 1) (zj G.bs),.own (some 1) (zj G.mr),.sc (.int .i64 G.tn),.own (some 1) (zC G.wt),.sc (.int .i64 G.lk)]:=fun _=>rfl
  rw[hO]
  refine zf4 rfl ?_
  unfold zgl jR
  refine za fun KY hKY=>?_
  simp only[go_sem,ur]
  apply hKY
  refine zf fun X1 hn1 he1 hr1=>?_
  refine zw fun KY hKY=>?_
  simp only[go_sem,uq,hgv,hgw,zq,hrl,hvn,hwn,hd0]
  apply hKY
  refine Zy ?_
  refine zg ?_
  repeat (first|refine hn1 _ ?_|refine he1 _ _ ?_)
  refine za fun KY hKY=>?_
  simp only[go_sem,Gu]
  apply zn [] [0] false none rfl
  iterate 8 (first|(simp only[go_sem,zp]<;>rfl)|rfl)
  refine(B1.less (by simp)).mono ?_
  rintro _ _ ⟨rfl,up1,R1,rfl⟩
  refine⟨Nat.le_of_ble_eq_true rfl,(fun hh=>by cases hh),?_⟩
  simp only[go_sem,zr,zb.after]
  apply zn [] [0] false none rfl
  iterate 8 (first|(simp only[go_sem,zp]<;>rfl)|rfl)
  refine((B2 up1 R1).less (by simp)).mono ?_
  rintro _ _ ⟨rfl,up2,R2,rfl⟩
  refine⟨Nat.le_of_ble_eq_true rfl,(fun hh=>by cases hh),?_⟩
  simp only[go_sem,zr,zb.after]
  apply zn [] [0] false none rfl
  iterate 8 (first|(simp only[go_sem,zp]<;>rfl)|rfl)
  refine(Mt up2 R2).mono ?_
  rintro _ _ ⟨b,xs,ys,hX,hY,hdj,rfl,F1,R3,hw1,ht1,rfl⟩
  rw[hO]
  simp only at hw1 ht1
  obtain⟨PX,hbX,hbn,hbb,hbo⟩:=Yc M I hv hX
  obtain⟨PY,hbY,_,_,_⟩:=Yc M I hw hY
  obtain⟨PT,cT,bT⟩:=zbY M I hv hw hX hY hdj
  have S1:=U9 nr hn R3 PX hX hbn hbX hbb hvn hwn
  rw[hO] at S1
  refine⟨Nat.le_of_ble_eq_true rfl,(fun hh=>by cases hh),?_⟩
  simp only[go_sem,zr,zb.after]
  apply hKY
  refine za fun KY hKY=>?_
  simp only[go_sem,Gt]
  apply zn [] [0] false none rfl
  iterate 8 (first|(simp only[go_sem,zp]<;>rfl)|rfl)
  refine(S1).mono ?_
  rintro _ _ ⟨rfl,F2,R4,hw2,ht2,rfl⟩
  have S2:=U9 nr hn R4 PT cT hbn hbY bT hwn hvn
  rw[hO] at S2
  rw[hO]
  refine⟨Nat.le_of_ble_eq_true rfl,(fun hh=>by cases hh),?_⟩
  simp only[go_sem,zr,zb.after]
  apply hKY
  refine za fun KY hKY=>?_
  simp only[go_sem,Gs]
  apply zn [] [0] false none rfl
  iterate 8 (first|(simp only[go_sem,zp]<;>rfl)|rfl)
  refine(S2).mono ?_
  rintro _ _ ⟨rfl,F3,R5,hw3,ht3,rfl⟩
  rw[hO]
  refine⟨Nat.le_of_ble_eq_true rfl,(fun hh=>by cases hh),?_⟩
  simp only[go_sem,zr,zb.after]
  apply hKY
  refine za fun KY hKY=>?_
  simp only[go_sem,Gr]
  apply hKY
  refine zi ?_
  repeat (first|refine hr1 _ ?_)
  simp only[go_sem]
  obtain⟨T1,T2,T3,T4,T5,T6⟩:=xW M I hv hw hvw hbb hX hY hdj
  have hus:F3.wt=F.wt++(k7 m xs++k7 m ys):=by rw[hw3,hw2,hw1,List.append_assoc]
  have hmem:∀u,u∈k7 m xs++k7 m ys↔(∃x∈xs,mf m x=(u:Int))∨∃x∈ys,mf m x=(u:Int):=fun u=>by
    rw[List.mem_append,zcw PX,zcw PY]
  have hnd:=R5.wn
  rw[hus] at hnd
  have hN:=vp (S:=S) (us:=k7 m xs++k7 m ys) (List.nodup_append.1 hnd).2.1 (fun u hu=>by
    rcases(hmem u).1 hu with⟨x,hx,h⟩|⟨x,hx,h⟩
    · obtain⟨_,_,_,y,k1,k2,_,k3,_⟩:=PX.st x hx
      obtain rfl:y=u:=by omega
      exact⟨k2,k3⟩
    · obtain⟨_,_,_,y,k1,k2,_,k3,_⟩:=PY.st x hx
      obtain rfl:y=u:=by omega
      exact⟨k2,k3⟩) (fun u=>by rw[T3,hmem])
  have hpos:1≤(k7 m xs++k7 m ys).length:=by
    rcases Nat.eq_zero_or_pos (k7 m xs++k7 m ys).length with h0|h0
    · exfalso
      have hx0:xs=[]:=by
        simp[k7] at h0;exact h0.1
      have hy0:ys=[]:=by
        simp[k7] at h0;exact h0.2
      exact hne ((XY hX hx0).trans (XY hY hy0).symm)
    · exact h0
  refine⟨_,F3,T1,R5,?_,T2.out,T5.trans T6.symm,?_,?_,?_,by rw[ht3,ht2,ht1],rfl⟩
  · rw[hus]
    exact zbc M I hv hw hvw hbb hX hY hdj (fun x h=>by simp[h]) fun u hu=>List.mem_append.2 (.inr ((hmem u).2 hu))
  · rw[T2.lab w (I.o1 w hw).2]
    exact(I.o1 w hw).2
  · rw[hus,List.length_append];omega
  · omega
theorem zdY (nr:List (List Nat)){n:Nat}{E:Nat→Nat→Prop}{m:List Int}{S:FS}{F:FD}(M:Mf n E (mf m))(I:qb n E (mf m) S)(R:Rp n m S F)(hn:n≤4096){v w:Nat}(hv:S.out v=true)(hw:S.out w=true)(hvw:E v w)(hrt:S.rt v≠S.rt w):
    zo Try.prog [] zfy [.ptr 0 0,.sc (.int .i64 (v:Int)),.sc (.int .i64 (w:Int))] [some (F.obj nr m)] fun r h'=>∃l,Aug n E (mf m) l∧r= .own (some 1) (zC l)∧∃F':FD,h'=[some (F'.obj nr m)]:=by
  have hml:=R.ml
  have hvn:=(I.o1 v hv).1
  have hwn:=(I.o1 w hw).1
  have hrl:=R.sz.rt
  have hgl:=R.sz.gone
  have hgv:(zj F.rt)[v]?=some (.sc (.int .i64 (S.rt v))):=by rw[zh (by omega),R.rt v hvn]
  have hgw:(zj F.rt)[w]?=some (.sc (.int .i64 (S.rt w))):=by rw[zh (by omega),R.rt w hwn]
  have hd0:decide (S.rt v≠S.rt w)=true:=decide_eq_true hrt
  obtain⟨r,q,ps,qs,e1,e2,hr,hq,W1,W2,l1,l2,A⟩:=zfO M I hv hw hvw hrt
  rw[e1] at hgv
  rw[e2] at hgw
  rw[e1,e2] at hd0
  rw[Qh] at l1 l2
  have Y1:=zeu nr M I R hn ps.length (Nat.le_refl _) (by omega) hvn hr W1
  have Y2:=zeu nr M I R hn qs.length (Nat.le_refl _) (by omega) hwn hq W2
  have hvl:(zG ps r).length=2*ps.length+1:=by simp[zG,Qh]
  have hwl:(zG qs q).length=2*qs.length+1:=by simp[zG,Qh]
  have hO:∀G:FD,G.obj nr m=[.imm 1 (Zq nr),.imm 1 (zj m),.own (some 1) (zj G.lab),.own (some 1) (Zb G.out),.own (some 1) (zj G.ev),.own (some 1) (zj G.od),.own (some 1) (zj G.pr),.own (some 1) (zj G.rt),.own (some 2) (Zj G.br),.own (some 1) (Zb G.gone),.own (some 1) (zj G.up),.own (some 1) (zj G.bs),.own (some 1) (zj G.mr),.sc (.int .i64 G.tn),.own (some 1) (zC G.wt),.sc (.int .i64 G.lk)]:=fun _=>rfl
  rw[hO] at Y1 Y2⊢
  refine zf4 rfl ?_
  unfold zgl jR
  refine za fun KY hKY=>?_
  simp only[go_sem,ur]
  apply hKY
  refine zf fun X1 hn1 he1 hr1=>?_
  refine zw fun KY hKY=>?_
  simp only[go_sem,uq,hgv,hgw,zq,hrl,hvn,hwn,hd0]
  apply hKY
  refine ZL ?_
  refine za fun KY hKY=>?_
  simp only[go_sem,Gy,hgv,zq,hrl,hvn]
  apply zn [] [0] false none rfl
  iterate 8 (first|(simp only[go_sem,zp]<;>rfl)|rfl)
  refine(Y1).mono ?_
  rintro _ _ ⟨rfl,rfl⟩
  refine⟨Nat.le_of_ble_eq_true rfl,(fun hh=>by cases hh),?_⟩
  simp only[go_sem,zr,zb.after]
  apply zn [.mv] [] false none rfl
  iterate 8 (first|(simp only[go_sem,zp]<;>rfl)|rfl)
  refine(zcF (zG ps r) (by omega)).mono ?_
  rintro _ _ ⟨rfl,rfl⟩
  refine⟨Nat.le_of_ble_eq_true rfl,(fun hh=>by cases hh),?_⟩
  simp only[go_sem,zr,zb.after]
  apply hKY
  refine za fun KY hKY=>?_
  simp only[go_sem,Gx,hgw,zq,hrl,hwn]
  apply zn [] [0] false none rfl
  iterate 8 (first|(simp only[go_sem,zp]<;>rfl)|rfl)
  refine(Y2).mono ?_
  rintro _ _ ⟨rfl,rfl⟩
  refine⟨Nat.le_of_ble_eq_true rfl,(fun hh=>by cases hh),?_⟩
  simp only[go_sem,zr,zb.after,KH,zJ,List.length_append,List.length_reverse,hvl,hwl,(show(2*ps.length+1+(2*qs.length+1))*8≤140737488355328 by omega)]
  apply hKY
  refine zw fun KY hKY=>?_
  simp only[go_sem,Gw,hgv,hgw,zq,hrl,hvn,hwn,zX,hgl,hr,hq,jy,List.length_set]
  apply hKY
  refine za fun KY hKY=>?_
  simp only[go_sem,Gv]
  apply hKY
  refine zi ?_
  repeat (first|refine hr1 _ ?_)
  simp only[go_sem]
  exact⟨_,A,rfl,⟨F.lab,F.out,F.ev,F.od,F.pr,F.rt,F.br,(F.gone.set r true).set q true,F.up,F.bs,F.mr,F.tn,F.wt,F.lk⟩,rfl⟩
def xc {α:Type}(f:Nat→α)(z:α)(n k:Nat):List α:=(List.range n).map fun q=>if q<k then f q else z
theorem jO {α:Type}(f:Nat→α)(z:α)(n k:Nat):(xc f z n k).length=n:=by simp[xc]
theorem yg {α:Type}(f:Nat→α)(z:α)(n:Nat):List.replicate n z=xc f z n 0:=by
 apply List.ext_getElem (by simp[xc])
 intro j h1 h2
 simp[xc]
theorem qC {α:Type}(f:Nat→α)(z:α)(n k:Nat){a:α}(h:f k=a):(xc f z n k).set k a=xc f z n (k+1):=by
 subst h
 apply List.ext_getElem (by simp[xc])
 intro j h1 h2
 rw[List.getElem_set]
 simp only[xc,List.getElem_map,List.getElem_range]
 by_cases e:k=j
 · subst e;rw[if_pos rfl,if_pos (by omega)]
 · rw[if_neg e]
   by_cases h1:j<k
   · rw[if_pos h1,if_pos (by omega)]
   · rw[if_neg h1,if_neg (by omega)]
theorem Km {α:Type}(f:Nat→α)(z:α)(n k:Nat)(h:f k=z):xc f z n k=xc f z n (k+1):=by
 apply List.map_congr_left
 intro q _
 by_cases h1:q<k
 · rw[if_pos h1,if_pos (by omega)]
 · rw[if_neg h1]
   by_cases h2:q<k+1
   · rw[if_pos h2,show q=k by omega,h]
   · rw[if_neg h2]
theorem yV {α:Type}(f:Nat→α)(z d:α){n k q:Nat}(h:q<n):(xc f z n k).getD q d=if q<k then f q else z:=by simp[xc,h]
theorem zhs {α:Type}(n k:Nat)(z:α):(List.replicate n z).set k z=List.replicate n z:=by
 apply List.ext_getElem (by simp)
 intro j h1 h2
 rw[List.getElem_set]
 simp
theorem YX (n:Nat):zF [.int .i64 0] n=zj (List.replicate n 0):=by
 simp only[zF,List.map]
 induction n with
 |zero=>rfl
 |succ n ih=>simp only[List.replicate_succ,List.flatten_cons,ih];rfl
theorem zc7 (n:Nat):zF [.int .i64 0,.int .i64 0] n=Zj (List.replicate n (0,0)):=by
 induction n with
 |zero=>rfl
 | succ n ih=>
   simp only[zF,List.replicate_succ,List.flatten_cons,Zj,ZF] at ih⊢
   rw[ih];rfl
def fL (m:List Int)(q:Nat):Int:=if m.getD q 0= -1 then 1 else 0
def fO (m:List Int)(q:Nat):Bool:=decide (m.getD q 0= -1)
def fR (m:List Int)(q:Nat):Int:=if m.getD q 0= -1 then(q:Int) else -1
def fI (q:Nat):Int:=(q:Int)
def jz (n:Nat)(m:List Int)(k:Nat):FD:=
 ⟨xc (fL m) 0 n k,xc (fO m) false n k,List.replicate n 0,List.replicate n 0,List.replicate n 0,xc (fR m) 0 n k,List.replicate n (0,0),List.replicate n false,xc fI 0 n k,xc fI 0 n k,List.replicate n 0,0,(List.range k).filter (fO m),0⟩
theorem zhR {n:Nat}{m:List Int}(hml:m.length=n):Rp n m (fs0 n (mf m)) (jz n m n):=by
 have hmf:∀v,v<n→mf m v=m.getD v 0:=fun v hv=>(YU (by omega)).symm
 have hg:∀v,v<n→(if v<n∧mf m v= -1 then(1:Nat) else 0)=if m.getD v 0= -1 then 1 else 0:=fun v hv=>by
  rw[hmf v hv]
  by_cases h:m.getD v 0= -1
  · rw[if_pos ⟨hv,h⟩,if_pos h]
  · rw[if_neg (fun e=>h e.2),if_neg h]
 refine⟨⟨jO _ _ _ _,jO _ _ _ _,by simp[jz],by simp[jz],by simp[jz],jO _ _ _ _,by simp[jz],by simp[jz],jO _ _ _ _,jO _ _ _ _,by simp[jz]⟩,hml,fun v hv=>?_,fun v hv=>?_,fun v hv h=>?_,fun v hv=>?_,fun v hv=>?_,fun v hv h=>?_,fun v hv=>?_,⟨fun u=>u,fun _=>0,⟨jO _ _ _ _,fun v hv=>⟨v,?_,hv,rfl,fun _=>rfl,fun h=>absurd rfl h⟩⟩,fun v hv=>?_,fun u v _ _=>Iff.rfl⟩,fun v hv=>?_,fun x hx=>?_,?_⟩
 · show(xc _ 0 n n).getD v 0=((if v<n∧mf m v= -1 then 1 else 0:Nat):Int)
   rw[yV _ _ _ hv,if_pos hv,hg v hv]
   unfold fL
   split<;>rfl
 · show(xc _ false n n).getD v false=decide (v<n∧mf m v= -1)
   rw[hmf v hv]
   rw[yV _ _ _ hv,if_pos hv]
   refine decide_eq_decide.2 ⟨fun h=>⟨hv,h⟩,fun h=>h.2⟩
 · have h:(if v<n∧mf m v= -1 then 1 else 0:Nat)=2:=h
   split at h<;>omega
 · show(xc _ 0 n n).getD v 0=(if v<n∧mf m v= -1 then(v:Int) else -1)
   rw[yV _ _ _ hv,if_pos hv]
   have h3:(if v<n∧mf m v= -1 then(v:Int) else -1)=if m.getD v 0= -1 then(v:Int) else -1:=by
    rw[hmf v hv]
    by_cases h:m.getD v 0= -1
    · rw[if_pos (⟨hv,h⟩:v<n∧m.getD v 0= -1),if_pos h]
    · rw[if_neg (fun e:v<n∧m.getD v 0= -1=>h e.2),if_neg h]
   exact h3.symm
 · show(if v<n∧mf m v= -1 then(v:Int) else -1)= -1∨∃r:Nat,(if v<n∧mf m v= -1 then(v:Int) else -1)=(r:Int)∧r<n
   split
   · exact .inr ⟨v,rfl,hv⟩
   · exact .inl rfl
 · have h:(if v<n∧mf m v= -1 then 1 else 0:Nat)=2:=h
   split at h<;>omega
 · show(List.replicate n false).getD v false=false
   simp[hv]
 · show(xc fI 0 n n).getD v 0=(v:Int)
   rw[yV _ _ _ hv,if_pos hv]
   rfl
 · show(xc fI 0 n n).getD v 0=(v:Int)
   rw[yV _ _ _ hv,if_pos hv]
   rfl
 · show(List.replicate n (0:Int)).getD v 0≤0
   simp[hv]
 · have hx:x∈(List.range n).filter (fun q=>decide (m.getD q 0= -1)):=hx
   obtain⟨h1,h2⟩:=List.mem_filter.1 hx
   have h1:=List.mem_range.1 h1
   exact⟨h1,decide_eq_true ⟨h1,(hmf x h1).trans (of_decide_eq_true h2)⟩⟩
 · exact List.nodup_range.filter _
theorem zhQ (n:Nat)(m:List Int)(k:Nat):(jz n m k).Sz n:=
 ⟨jO _ _ _ _,jO _ _ _ _,by simp[jz],by simp[jz],by simp[jz],jO _ _ _ _,by simp[jz],by simp[jz],jO _ _ _ _,jO _ _ _ _,by simp[jz]⟩
theorem zd3 {n:Nat}{m:List Int}{k:Nat}(hk:k<n)(h:m.getD k 0= -1):({jz n m k with up:=(jz n m k).up.set k (k:Int),bs:=(jz n m k).bs.set k (k:Int),rt:=(jz n m k).rt.set k (k:Int)}:FD).raise k 0 1=jz n m (k+1):=by
 unfold FD.raise jz
 simp only
 rw[yV _ _ _ hk,if_neg (Nat.lt_irrefl k),if_pos rfl,qC (fL m) _ _ _ (show fL m k=1 from if_pos h),qC (fO m) _ _ _ (show fO m k=true from decide_eq_true h),qC (fR m) _ _ _ (show fR m k=(k:Int) from if_pos h),zhs,qC fI _ _ _ (show fI k=(k:Int) from rfl),List.range_succ,List.filter_append]
 have hf:fO m k=true:=decide_eq_true h
 simp[hf]
theorem zf7 {n:Nat}{m:List Int}{k:Nat}(hk:k<n)(h:m.getD k 0≠ -1):({jz n m k with up:=(jz n m k).up.set k (k:Int),bs:=(jz n m k).bs.set k (k:Int),rt:=(jz n m k).rt.set k (-1)}:FD)=jz n m (k+1):=by
 unfold jz
 simp only
 rw[Km (fL m) 0 n k (if_neg h),Km (fO m) false n k (decide_eq_false h),qC (fR m) _ _ _ (show fR m k= -1 from if_neg h),qC fI _ _ _ (show fI k=(k:Int) from rfl),List.range_succ,List.filter_append]
 have hf:fO m k=false:=decide_eq_false h
 simp[hf]
theorem zhV (nr:List (List Nat)){n:Nat}{m:List Int}(hnr:nr.length=n)(hml:m.length=n)(hn:n≤4096):
    zo Try.prog [] ziz [.imm 1 (Zq nr),.imm 1 (zj m)] [] fun r h'=>r= .ptr 0 0∧h'=[some ((jz n m n).obj nr m)]:=by
  have hO:∀G:FD,G.obj nr m=[.imm 1 (Zq nr),.imm 1 (zj m),.own (some 1) (zj G.lab),.own (some 1) (Zb G.out),.own (some 1) (zj G.ev),.own (some 1) (zj G.od),.own (some 1) (zj G.pr),.own (some 1) (zj G.rt),.own (some 2) (Zj G.br),.own (some 1) (Zb G.gone),.own (some 1) (zj G.up),.own (some 1) (zj G.bs),.own (some 1) (zj G.mr),.sc (.int .i64 G.tn),.own (some 1) (zC G.wt),.sc (.int .i64 G.lk)]:=fun _=>rfl
  have hm1:8*n≤140737488355328∧(n:Int)≤9223372036854775807:=by omega
  have hm2:16*n≤140737488355328∧(n:Int)≤9223372036854775807:=by omega
  have hm3:1*n≤140737488355328∧(n:Int)≤9223372036854775807:=by omega
  refine zk2 rfl ?_
  unfold zju jG
  refine za fun KY hKY=>?_
  simp only[go_sem,GW]
  apply hKY
  refine za fun KY hKY=>?_
  simp only[go_sem,GV,Jj,hnr]
  apply hKY
  refine zw fun KY hKY=>?_
  simp only[go_sem,GU,hm1,hm2,hm3,Int.le_refl,YX,QT,zc7]
  apply hKY
  refine jP [0,6,14] 1 (by simp only[go_sem]) ?_
  simp only[go_sem]
  refine vc [0,6] (by simp only[go_sem];rfl) ?_
  simp only[go_sem]
  refine zf fun X1 hn1 he1 hr1=>?_
  refine za fun KY hKY=>?_
  simp only[go_sem,GT]
  apply hKY
  refine zm fun X2 hn2 he2 hf2 hr2=>?_
  try simp only[go_sem]
  refine zU (α:=Nat×FD) [7,38,64] (fun(k,F)=>[(37,.sc (.int .i64 (k:Int)))]) (fun(k,F)=>[some [.imm 1 (Zq nr),.imm 1 (zj m),.own (some 1) (zj F.lab),.own (some 1) (Zb F.out),.own (some 1) (zj F.ev),.own (some 1) (zj F.od),.own (some 1) (zj F.pr),.own (some 1) (zj F.rt),.own (some 2) (Zj F.br),.own (some 1) (Zb F.gone),.own (some 1) (zj F.up),.own (some 1) (zj F.bs),.own (some 1) (zj F.mr),.sc (.int .i64 F.tn),.own (some 1) (zC F.wt),.sc (.int .i64 F.lk)]]) (fun(k,F) q=>F=jz n m k∧k≤n∧q=n - k) ((0,⟨List.replicate n 0,List.replicate n false,List.replicate n 0,List.replicate n 0,List.replicate n 0,List.replicate n 0,List.replicate n (0,0),List.replicate n false,List.replicate n 0,List.replicate n 0,List.replicate n 0,0,[],0⟩)) (n) rfl (by first|(simp only[go_sem,zd,ze];done)|with_reducible rfl|rfl) (⟨by unfold jz;rw[←yg,←yg,←yg,←yg];rfl,Nat.zero_le _,rfl⟩) ?_
  rintro⟨k,F⟩ q ⟨hF,hk,rfl⟩ X3 hn3 he3 hr3
  simp only[go_sem,zd,ze]
  have Z:=zhQ n m k
  rw[←hF] at Z
  rcases Nat.lt_or_ge k n with hk2|hk2
  · have hdx:decide ((k:Int)<(n:Int))=true:=decide_eq_true (by omega)
    have hgk:(zj m)[k]?=some (.sc (.int .i64 (m.getD k 0))):=zh (by omega)
    have hrl:F.rt.length=n:=Z.rt
    have hul:F.up.length=n:=Z.up
    have hbl:F.bs.length=n:=Z.bs
    refine za fun KY hKY=>?_
    simp only[go_sem,uz,hdx]
    apply hKY
    refine zf fun X4 hn4 he4 hr4=>?_
    refine ZL ?_
    refine zg ?_
    repeat (first|refine hn4 _ ?_|refine he4 _ _ ?_|refine he3 _ _ ?_|refine hn2 _ ?_|refine he2 _ ?_|refine hf2 _ _ (by decide) ?_|refine hn1 _ ?_|refine he1 _ _ ?_)
    refine zf fun X5 hn5 he5 hr5=>?_
    refine zm fun X6 hn6 he6 hf6 hr6=>?_
    refine za fun KY hKY=>?_
    simp only[go_sem,GS]
    apply hKY
    refine zw fun KY hKY=>?_
    simp only[go_sem,GQ,zq,ju,hrl,hul,hbl,hk2]
    apply hKY
    by_cases hf:m.getD k 0= -1
    · have hdf:decide (m.getD k 0= -1)=true:=decide_eq_true hf
      have FF:=zd3 hk2 hf
      rw[←hF] at FF
      have hrs:=Xc nr m ⟨F.lab,F.out,F.ev,F.od,F.pr,F.rt.set k (k:Int),F.br,F.gone,F.up.set k (k:Int),F.bs.set k (k:Int),F.mr,F.tn,F.wt,F.lk⟩ (n:=n) ⟨Z.lab,Z.out,Z.ev,Z.od,Z.pr,by simp[hrl],Z.br,Z.gone,by simp[hul],by simp[hbl],Z.mr⟩ hk2 0 1 (by
        show F.wt.length≤1000000
        rw[hF]
        show((List.range k).filter (fO m)).length≤1000000
        refine Nat.le_trans (List.length_filter_le _ _) ?_
        rw[List.length_range];omega)
      rw[show(⟨F.lab,F.out,F.ev,F.od,F.pr,F.rt.set k (k:Int),F.br,F.gone,F.up.set k (k:Int),F.bs.set k (k:Int),F.mr,F.tn,F.wt,F.lk⟩:FD).raise k 0 1=jz n m (k+1) from FF] at hrs
      rw[hO (jz n m (k+1))] at hrs
      unfold FD.obj at hrs
      refine za fun KY hKY=>?_
      simp only[go_sem,uy,hgk,hdf,zq,hml,hk2]
      apply hKY
      refine ZL ?_
      refine za fun KY hKY=>?_
      simp only[go_sem,GP,zq,ju,List.length_set,hrl,hk2]
      apply hKY
      refine zk fun KY hKY=>?_
      simp only[go_sem,GO]
      apply zn [] [0] false none rfl
      iterate 8 (first|(simp only[go_sem,zp]<;>rfl)|rfl)
      refine(hrs).mono ?_
      rintro _ _ ⟨rfl,rfl⟩
      refine⟨Nat.le_of_ble_eq_true rfl,(fun hh=>by cases hh),?_⟩
      simp only[go_sem,zr,zb.after]
      apply hKY
      repeat (first|refine hn6 _ ?_|refine he6 _ ?_|refine hf6 _ _ (by decide) ?_|refine hn5 _ ?_|refine he5 _ _ ?_|refine hn4 _ ?_|refine he4 _ _ ?_|refine he3 _ _ ?_|refine hn2 _ ?_|refine he2 _ ?_|refine hf2 _ _ (by decide) ?_|refine hn1 _ ?_|refine he1 _ _ ?_)
      refine zk fun KY hKY=>?_
      simp only[go_sem,WA,zL (show k<4611686018427387904 by omega)]
      apply hKY
      repeat (first|refine hn6 _ ?_|refine he6 _ ?_|refine hf6 _ _ (by decide) ?_|refine hn5 _ ?_|refine he5 _ _ ?_|refine hn4 _ ?_|refine he4 _ _ ?_)
      refine hn3 _ ((k+1,jz n m (k+1))) (n - (k+1)) (by omega) (by first|(simp only[go_sem,zd,ze];done)|with_reducible rfl|rfl) ?_
      exact⟨rfl,hk2,rfl⟩
    · have hdf:decide (m.getD k 0= -1)=false:=decide_eq_false hf
      have FF:=zf7 hk2 hf
      rw[←hF] at FF
      refine za fun KY hKY=>?_
      simp only[go_sem,uy,hgk,hdf,zq,hml,hk2]
      apply hKY
      refine Zy ?_
      refine zg ?_
      repeat (first|refine hn6 _ ?_|refine he6 _ ?_|refine hf6 _ _ (by decide) ?_|refine hn5 _ ?_|refine he5 _ _ ?_|refine hn4 _ ?_|refine he4 _ _ ?_|refine he3 _ _ ?_|refine hn2 _ ?_|refine he2 _ ?_|refine hf2 _ _ (by decide) ?_|refine hn1 _ ?_|refine he1 _ _ ?_)
      refine zk fun KY hKY=>?_
      simp only[go_sem,WA,zL (show k<4611686018427387904 by omega)]
      apply hKY
      repeat (first|refine hn6 _ ?_|refine he6 _ ?_|refine hf6 _ _ (by decide) ?_|refine hn5 _ ?_|refine he5 _ _ ?_|refine hn4 _ ?_|refine he4 _ _ ?_)
      refine hn3 _ ((k+1,⟨F.lab,F.out,F.ev,F.od,F.pr,F.rt.set k (-1),F.br,F.gone,F.up.set k (k:Int),F.bs.set k (k:Int),F.mr,F.tn,F.wt,F.lk⟩)) (n - (k+1)) (by omega) (by first|(simp only[go_sem,zd,ze];done)|with_reducible rfl|rfl) ?_
      exact⟨FF,hk2,rfl⟩
  have hdx:decide ((k:Int)<(n:Int))=false:=decide_eq_false (by omega)
  refine za fun KY hKY=>?_
  simp only[go_sem,uz,hdx]
  apply hKY
  refine zf fun X7 hn7 he7 hr7=>?_
  refine Zy ?_
  refine zy ?_
  repeat (first|refine hn7 _ ?_|refine he7 _ _ ?_|refine he3 _ _ ?_|refine hn2 _ ?_|refine he2 _ ?_|refine hf2 _ _ (by decide) ?_|refine hn1 _ ?_|refine he1 _ _ ?_)
  refine za fun KY hKY=>?_
  simp only[go_sem,vU]
  apply hKY
  refine zi ?_
  repeat (first|refine hr7 _ ?_|refine hr3 _ ?_|refine hr2 _ ?_|refine hr1 _ ?_)
  simp only[go_sem]
  obtain rfl:k=n:=by omega
  rw[hF]
  rfl
def fLb (S:FS)(v:Nat):Int:=if S.out v=true then 1 else(S.lab v:Int)
def zdU (n:Nat)(S:FS):List Int:=(List.range n).map (fLb S)
theorem zdV (nr:List (List Nat)){n:Nat}{m:List Int}{S:FS}{F:FD}(R:Rp n m S F)(hn:n≤4096):
    zo Try.prog [[1,0]] ziw [.ptr 0 0] [some (F.obj nr m)] fun r h'=>r= .own (some 1) (zj (zdU n S))∧h'=[some (F.obj nr m)]:=by
  have hm1:8*n≤140737488355328∧(n:Int)≤9223372036854775807:=by omega
  have hO:∀G:FD,G.obj nr m=[.imm 1 (Zq nr),.imm 1 (zj m),.own (some 1) (zj G.lab),.own (some 1) (Zb G.out),.own (some 1) (zj G.ev),.own (some 1) (zj G.od),.own (some 1) (zj G.pr),.own (some 1) (zj G.rt),.own (some 2) (Zj G.br),.own (some 1) (Zb G.gone),.own (some 1) (zj G.up),.own (some 1) (zj G.bs),.own (some 1) (zj G.mr),.sc (.int .i64 G.tn),.own (some 1) (zC G.wt),.sc (.int .i64 G.lk)]:=fun _=>rfl
  have hll:=R.sz.lab
  have hol:=R.sz.out
  rw[hO]
  refine zkY rfl ?_
  unfold zjq Jr
  refine za fun KY hKY=>?_
  simp only[go_sem,Gq,zS,zM,ZQ.quiet]
  apply hKY
  refine za fun KY hKY=>?_
  simp only[go_sem,Gp,zq,hll,hm1,Int.le_refl,YX,zS,zM,ZQ.quiet]
  apply hKY
  simp only[go_sem]
  rw[show List.replicate n (0:Int)=xc (fLb S) 0 n 0 from yg _ _ _]
  refine zf fun X1 hn1 he1 hr1=>?_
  refine za fun KY hKY=>?_
  simp only[go_sem,Gn,zq,jO,zS,zM,ZQ.quiet]
  apply hKY
  refine zm fun X2 hn2 he2 hf2 hr2=>?_
  try simp only[go_sem]
  refine zU (α:=Nat) [4,14,32] (fun k=>[(3,.own (some 1) (zj (xc (fLb S) 0 n k))),(13,.sc (.int .i64 (k:Int)))]) (fun k=>[some [.imm 1 (Zq nr),.imm 1 (zj m),.own (some 1) (zj F.lab),.own (some 1) (Zb F.out),.own (some 1) (zj F.ev),.own (some 1) (zj F.od),.own (some 1) (zj F.pr),.own (some 1) (zj F.rt),.own (some 2) (Zj F.br),.own (some 1) (Zb F.gone),.own (some 1) (zj F.up),.own (some 1) (zj F.bs),.own (some 1) (zj F.mr),.sc (.int .i64 F.tn),.own (some 1) (zC F.wt),.sc (.int .i64 F.lk)]]) (fun k q=>k≤n∧q=n - k) (0) (n) rfl (by first|(simp only[go_sem,zd,ze];done)|with_reducible rfl|rfl) (⟨Nat.zero_le _,rfl⟩) ?_
  rintro k q ⟨hk,rfl⟩ X3 hn3 he3 hr3
  simp only[go_sem,zd,ze]
  rcases Nat.lt_or_ge k n with hk2|hk2
  · have hdx:decide ((k:Int)<(n:Int))=true:=decide_eq_true (by omega)
    have hgl:(zj F.lab)[k]?=some (.sc (.int .i64 (S.lab k:Int))):=by rw[zh (by omega),R.lab k hk2]
    have hgo:(Zb F.out)[k]?=some (.sc (.bool (S.out k))):=by rw[ji (by omega),R.out k hk2]
    have hsl:=jO (fLb S) 0 n k
    refine za fun KY hKY=>?_
    simp only[go_sem,uo,hdx,zS,zM,ZQ.quiet]
    apply hKY
    refine zf fun X4 hn4 he4 hr4=>?_
    refine ZL ?_
    refine zg ?_
    repeat (first|refine hn4 _ ?_|refine he4 _ _ ?_|refine he3 _ _ ?_|refine hn2 _ ?_|refine he2 _ ?_|refine hf2 _ _ (by decide) ?_|refine hn1 _ ?_|refine he1 _ _ ?_)
    refine zf fun X5 hn5 he5 hr5=>?_
    refine zm fun X6 hn6 he6 hf6 hr6=>?_
    refine za fun KY hKY=>?_
    simp only[go_sem,Gm,zS,zM,ZQ.quiet]
    apply hKY
    refine za fun KY hKY=>?_
    simp only[go_sem,Gk,hgl,zq,hll,hsl,hk2,ju,zS,zM,ZQ.quiet,(show([0,3]==[1,0])=false from rfl),Bool.not_false]
    apply hKY
    cases ho:S.out k with
    | true=>
      rw[ho] at hgo
      have hst:=qC (fLb S) 0 n k (a:=1) (if_pos ho)
      refine za fun KY hKY=>?_
      simp only[go_sem,un,hgo,zX,hol,hk2,zS,zM,ZQ.quiet]
      apply hKY
      refine ZL ?_
      refine zk fun KY hKY=>?_
      simp only[go_sem,Gj,zq,ju,List.length_set,hsl,hk2,hst,zS,zM,ZQ.quiet,(show([0,3]==[1,0])=false from rfl),Bool.not_false]
      apply hKY
      repeat (first|refine hn6 _ ?_|refine he6 _ ?_|refine hf6 _ _ (by decide) ?_|refine hn5 _ ?_|refine he5 _ _ ?_|refine hn4 _ ?_|refine he4 _ _ ?_|refine he3 _ _ ?_|refine hn2 _ ?_|refine he2 _ ?_|refine hf2 _ _ (by decide) ?_|refine hn1 _ ?_|refine he1 _ _ ?_)
      refine zk fun KY hKY=>?_
      simp only[go_sem,um,zL (show k<4611686018427387904 by omega),zS,zM,ZQ.quiet]
      apply hKY
      repeat (first|refine hn6 _ ?_|refine he6 _ ?_|refine hf6 _ _ (by decide) ?_|refine hn5 _ ?_|refine he5 _ _ ?_|refine hn4 _ ?_|refine he4 _ _ ?_)
      refine hn3 _ (k+1) (n - (k+1)) (by omega) (by first|(simp only[go_sem,zd,ze];done)|with_reducible rfl|rfl) ?_
      exact⟨hk2,rfl⟩
    | false=>
      rw[ho] at hgo
      have hst:=qC (fLb S) 0 n k (a:=(S.lab k:Int)) (if_neg (by rw[ho];simp))
      refine za fun KY hKY=>?_
      simp only[go_sem,un,hgo,zX,hol,hk2,hst,zS,zM,ZQ.quiet]
      apply hKY
      refine Zy ?_
      refine zg ?_
      repeat (first|refine hn6 _ ?_|refine he6 _ ?_|refine hf6 _ _ (by decide) ?_|refine hn5 _ ?_|refine he5 _ _ ?_|refine hn4 _ ?_|refine he4 _ _ ?_|refine he3 _ _ ?_|refine hn2 _ ?_|refine he2 _ ?_|refine hf2 _ _ (by decide) ?_|refine hn1 _ ?_|refine he1 _ _ ?_)
      refine zk fun KY hKY=>?_
      simp only[go_sem,um,zL (show k<4611686018427387904 by omega),zS,zM,ZQ.quiet]
      apply hKY
      repeat (first|refine hn6 _ ?_|refine he6 _ ?_|refine hf6 _ _ (by decide) ?_|refine hn5 _ ?_|refine he5 _ _ ?_|refine hn4 _ ?_|refine he4 _ _ ?_)
      refine hn3 _ (k+1) (n - (k+1)) (by omega) (by first|(simp only[go_sem,zd,ze,hst];done)|with_reducible rfl|rfl) ?_
      exact⟨hk2,rfl⟩
  have hdx:decide ((k:Int)<(n:Int))=false:=decide_eq_false (by omega)
  obtain rfl:k=n:=by omega
  refine za fun KY hKY=>?_
  simp only[go_sem,uo,hdx,zS,zM,ZQ.quiet]
  apply hKY
  refine zf fun X7 hn7 he7 hr7=>?_
  refine Zy ?_
  refine zy ?_
  repeat (first|refine hn7 _ ?_|refine he7 _ _ ?_|refine he3 _ _ ?_|refine hn2 _ ?_|refine he2 _ ?_|refine hf2 _ _ (by decide) ?_|refine hn1 _ ?_|refine he1 _ _ ?_)
  have he:xc (fLb S) 0 k k=zdU k S:=by
    apply List.map_congr_left
    intro q hq
    rw[if_pos (List.mem_range.1 hq)]
  rw[he]
  refine za fun KY hKY=>?_
  simp only[go_sem,Gi,zS,zM,ZQ.quiet]
  apply hKY
  refine zi ?_
  repeat (first|refine hr7 _ ?_|refine hr3 _ ?_|refine hr2 _ ?_|refine hr1 _ ?_)
  simp only[go_sem,JE,qQ]
theorem zf8 (nr:List (List Nat))(m:List Int)(F:FD):
    zo Try.prog [] zcu [.ptr 0 0] [some (F.obj nr m)] fun r h'=>r= .tup [.sc (.int .i64 ((F.wt.headD 0:Nat):Int)),.sc (.bool (!F.wt.isEmpty))]∧h'=[some (({F with wt:=F.wt.tail}:FD).obj nr m)]:=by
  cases h:F.wt with
  | nil=>
    refine(zdN nr m F h).mono ?_
    rintro r h' ⟨rfl,rfl⟩
    obtain⟨lab,out,ev,od,pr,rt,br,gone,up,bs,mr,tn,wt,lk⟩:=F
    simp only at h
    subst h
    exact⟨rfl,rfl⟩
  |cons c ws=>exact zdM nr m F h
theorem zkd (nr:List (List Nat)){n:Nat}{m:List Int}{S:FS}{F:FD}(R:Rp n m S F){v:Nat}(hv:v<n):
    zo Try.prog [[1,0]] KI [.ptr 0 0,.sc (.int .i64 (v:Int))] [some (F.obj nr m)] fun r h'=>r= .sc (.int .i64 (S.bs v:Int))∧∃F':FD,Rp n m S F'∧F'.wt=F.wt∧F'.tn=F.tn∧h'=[some (F'.obj nr m)]:=by
  refine(QW nr R hv).mono ?_
  rintro r h' ⟨rfl,up',R',rfl⟩
  exact⟨rfl,_,R',rfl,rfl,rfl⟩
structure Pst (n:Nat)(E:Nat→Nat→Prop)(m:List Int)(S:FS)(F:FD)(o:Option Nat):Prop where
 inv:qb n E (mf m) S
 rp:Rp n m S F
 t0:0≤F.tn
 tn:F.tn+qv n S≤n
 lk:(o=none∧F.wt=[]∧Lk E S [])∨∃c,o=some c∧c<n∧S.out c=true∧Lk E S (c::F.wt)
theorem Rp.tail {n:Nat}{m:List Int}{S:FS}{F:FD}(R:Rp n m S F):Rp n m S {F with wt:=F.wt.tail}:=by
 obtain⟨s1,s2,s3,s4,s5,s6,s7,s8,s9,s10,s11⟩:=R.sz
 exact⟨⟨s1,s2,s3,s4,s5,s6,s7,s8,s9,s10,s11⟩,R.ml,R.lab,R.out,R.pr,R.rt,R.rb,R.br,R.gone,R.uf,R.mr,fun x hx=>R.wt x (List.mem_of_mem_tail hx),R.wn.sublist (List.tail_sublist _)⟩
theorem Pst.pop {n:Nat}{E:Nat→Nat→Prop}{m:List Int}{S:FS}{F:FD}(I:qb n E (mf m) S)(R:Rp n m S F)(t0:0≤F.tn)(tn:F.tn+qv n S≤n)(L:Lk E S F.wt):∃o,F.wt.headD 0=o.getD 0∧(!F.wt.isEmpty)=o.isSome∧Pst n E m S {F with wt:=F.wt.tail} o∧qv n S+F.wt.tail.length+(if o.isSome=true then 1 else 0)=qv n S+F.wt.length:=by
 have R':=R.tail
 cases h:F.wt with
 | nil=>
   rw[h] at R' L
   exact⟨none,rfl,rfl,⟨I,R',t0,tn,.inl ⟨rfl,rfl,L⟩⟩,rfl⟩
 | cons c ws=>
   rw[h] at R' L
   have hc:=R.wt c (by rw[h];simp)
   exact⟨some c,rfl,rfl,⟨I,R',t0,tn,.inr ⟨c,rfl,hc.1,hc.2,L⟩⟩,by simp;omega⟩
theorem zhS {n:Nat}{E:Nat→Nat→Prop}{m:List Int}(hml:m.length=n):Lk E (fs0 n (mf m)) (jz n m n).wt:=fun v w h1 h2 _=>by
 have h1:decide (v<n∧mf m v= -1)=true:=h1
 have h1:=of_decide_eq_true h1
 exact absurd (List.mem_filter.2 ⟨List.mem_range.2 h1.1,decide_eq_true ((YU (by omega)).trans h1.2)⟩:v∈(List.range n).filter (fO m)) h2
structure Qst (n:Nat)(E:Nat→Nat→Prop)(m:List Int)(c:Nat)(rest:List Nat)(μ:Nat)(S:FS)(F:FD):Prop where
 inv:qb n E (mf m) S
 rp:Rp n m S F
 t0:0≤F.tn
 tn:F.tn+qv n S≤n
 oc:S.out c=true
 lk:Lc E S F.wt c rest
 me:qv n S+F.wt.length=μ
theorem zdL {n:Nat}{E:Nat→Nat→Prop}{mt:Nat→Int}{S:FS}(M:Mf n E mt)(I:qb n E mt S){v w x:Nat}(hw:w<n)(hl:S.lab w=0)(hx:mt w=(x:Int)):qv n (Z6 S v w x)+1=qv n S:=by
 obtain⟨x',k1,hxN,hlx,hxw,hxo,hwo⟩:=fresh M I hw hl
 obtain rfl:x'=x:=by omega
 refine vp (us:=[x']) (by simp) (fun u hu=>?_) (fun u=>?_)
 · obtain rfl:u=x':=by simpa using hu
   exact⟨hxN,hxo⟩
 · show(decide (u=x')||S.out u)=true↔_
   rw[Bool.or_eq_true,decide_eq_true_iff]
   simp[or_comm]
theorem We (nr:List (List Nat)){n:Nat}{E:Nat→Nat→Prop}{m:List Int}(hnr:nr.length=n)(hml:m.length=n)(hn:n≤4096)(hrow:∀v,v<n→(nr.getD v []).length≤1000000)(M:Mf n E (mf m))(hE:∀v w,v<n→(w∈nr.getD v []↔E v w)):
    zo Try.prog [] zfz [.imm 1 (Zq nr),.imm 1 (zj m)] [] fun r h'=>h'=[]∧∃lk:Int,(∃l,Aug n E (mf m) l∧r= .tup [.own (some 1) (zC l),.sc (.slice none 0 0),.sc (.int .i64 lk)])∨∃S,qb n E (mf m) S∧Lk E S []∧r= .tup [.sc (.slice none 0 0),.own (some 1) (zj (zdU n S)),.sc (.int .i64 lk)]:=by
  have hO:∀G:FD,G.obj nr m=[.imm 1 (Zq nr),.imm 1 (zj m),.own (some 1) (zj G.lab),.own (some 1) (Zb G.out),.own (some 1) (zj G.ev),.own (some 1) (zj G.od),.own (some 1) (zj G.pr),.own (some 1) (zj G.rt),.own (some 2) (Zj G.br),.own (some 1) (Zb G.gone),.own (some 1) (zj G.up),.own (some 1) (zj G.bs),.own (some 1) (zj G.mr),.sc (.int .i64 G.tn),.own (some 1) (zC G.wt),.sc (.int .i64 G.lk)]:=fun _=>rfl
  have hN0:=zhV nr hnr hml hn
  have hX0:=fun F:FD=>zf8 nr m F
  have hLb:=fun(S:FS) (F:FD) (R:Rp n m S F)=>(zdV nr R hn)
  unfold FD.obj at hN0 hX0 hLb
  simp only at hX0
  refine zo.trim ?_
  refine zla rfl ?_
  unfold zjC ZJ
  refine za fun KY hKY=>?_
  simp only[go_sem,pZ]
  apply hKY
  refine za fun KY hKY=>?_
  simp only[go_sem,pY]
  apply zn [] [] false none rfl
  iterate 8 (first|(simp only[go_sem,zp]<;>rfl)|rfl)
  refine(hN0).mono ?_
  rintro _ _ ⟨rfl,rfl⟩
  refine⟨Nat.le_of_ble_eq_true rfl,(fun hh=>by cases hh),?_⟩
  simp only[go_sem,zr,zb.after]
  apply hKY
  refine za fun KY hKY=>?_
  simp only[go_sem,pX]
  apply hKY
  obtain⟨o,e1,e2,P0,_⟩:=Pst.pop (zhT n E (mf m)) (zhR hml) (Int.le_refl _) (by show(0:Int)+(qv n _:Int)≤n;have:=zct n (fs0 n (mf m));omega) (zhS hml)
  have hX1:=hX0 (jz n m n)
  rw[e1,e2] at hX1
  refine zf fun X1 hn1 he1 hr1=>?_
  refine za fun KY hKY=>?_
  simp only[go_sem,pW]
  apply zn [] [0] false none rfl
  iterate 8 (first|(simp only[go_sem,zp]<;>rfl)|rfl)
  refine(hX1).mono ?_
  rintro _ _ ⟨rfl,rfl⟩
  refine⟨Nat.le_of_ble_eq_true rfl,(fun hh=>by cases hh),?_⟩
  simp only[go_sem,zr,zb.after]
  apply hKY
  refine zm fun X2 hn2 he2 hf2 hr2=>?_
  try simp only[go_sem]
  refine zU (α:=FS×FD×Option Nat) [12,13,24,33,34,35,36,42,43,49,57,63] (fun(S0,F0,o)=>[(9,.sc (.int .i64 ((o.getD 0:Nat):Int))),(10,.sc (.bool o.isSome))]) (fun(S0,F0,o)=>[some [.imm 1 (Zq nr),.imm 1 (zj m),.own (some 1) (zj F0.lab),.own (some 1) (Zb F0.out),.own (some 1) (zj F0.ev),.own (some 1) (zj F0.od),.own (some 1) (zj F0.pr),.own (some 1) (zj F0.rt),.own (some 2) (Zj F0.br),.own (some 1) (Zb F0.gone),.own (some 1) (zj F0.up),.own (some 1) (zj F0.bs),.own (some 1) (zj F0.mr),.sc (.int .i64 F0.tn),.own (some 1) (zC F0.wt),.sc (.int .i64 F0.lk)]]) (fun(S0,F0,o) q=>Pst n E m S0 F0 o∧q=qv n S0+F0.wt.length+(if o.isSome=true then 1 else 0)) ((fs0 n (mf m),{jz n m n with wt:=(jz n m n).wt.tail},o)) (qv n (fs0 n (mf m))+(jz n m n).wt.tail.length+(if o.isSome=true then 1 else 0)) rfl (by first|(simp only[go_sem,zd,ze];done)|with_reducible rfl|rfl) (⟨P0,rfl⟩) ?_
  rintro⟨S0,F0,o⟩ q ⟨P1,rfl⟩ X3 hn3 he3 hr3
  simp only[go_sem,zd,ze]
  refine zf fun X4 hn4 he4 hr4=>?_
  refine za fun KY hKY=>?_
  simp only[go_sem,pV]
  apply hKY
  rcases P1.lk with⟨rfl,hw0,hL0⟩|⟨c,rfl,hcn,hco,hLc⟩
  · refine Zy ?_
    refine zy ?_
    repeat (first|refine hn4 _ ?_|refine he4 _ _ ?_|refine he3 _ _ ?_|refine hn2 _ ?_|refine he2 _ ?_|refine hf2 _ _ (by decide) ?_|refine hn1 _ ?_|refine he1 _ _ ?_)
    have hLL:=hLb S0 F0 P1.rp
    refine zw fun KY hKY=>?_
    simp only[go_sem,Ve]
    apply zn [] [0] false none rfl
    iterate 8 (first|(simp only[go_sem,zp]<;>rfl)|rfl)
    refine(hLL).mono ?_
    rintro _ _ ⟨rfl,rfl⟩
    refine⟨Nat.le_of_ble_eq_true rfl,(fun hh=>by cases hh),?_⟩
    simp only[go_sem,zr,zb.after]
    apply hKY
    refine zi ?_
    repeat (first|refine hr4 _ ?_|refine hr3 _ ?_|refine hr2 _ ?_|refine hr1 _ ?_)
    simp only[go_sem]
    exact⟨_,.inr ⟨S0,P1.inv,hL0,rfl⟩⟩
  · refine ZL ?_
    refine zg ?_
    repeat (first|refine hn4 _ ?_|refine he4 _ _ ?_|refine he3 _ _ ?_|refine hn2 _ ?_|refine he2 _ ?_|refine hf2 _ _ (by decide) ?_|refine hn1 _ ?_|refine he1 _ _ ?_)
    refine zf fun X5 hn5 he5 hr5=>?_
    refine zm fun X6 hn6 he6 hf6 hr6=>?_
    have hgc:nr[c]?=some (nr.getD c []):=by
      rw[List.getD_eq_getElem?_getD,List.getElem?_eq_getElem (by omega)];rfl
    have hrl:=hrow c hcn
    have hEc:=fun w=>hE c w hcn
    generalize hrw:nr.getD c []=row at hgc hrl hEc
    refine za fun KY hKY=>?_
    simp only[go_sem,pU,q9 hgc,Jj,hnr,hcn,zJ]
    apply hKY
    refine zm fun X7 hn7 he7 hf7 hr7=>?_
    try simp only[go_sem]
    refine zU (α:=Nat×FS×FD) [12,13,36,42,43,49,57,63] (fun(k,S,F)=>[(35,.sc (.int .i64 (k:Int)))]) (fun(k,S,F)=>[some [.imm 1 (Zq nr),.imm 1 (zj m),.own (some 1) (zj F.lab),.own (some 1) (Zb F.out),.own (some 1) (zj F.ev),.own (some 1) (zj F.od),.own (some 1) (zj F.pr),.own (some 1) (zj F.rt),.own (some 2) (Zj F.br),.own (some 1) (Zb F.gone),.own (some 1) (zj F.up),.own (some 1) (zj F.bs),.own (some 1) (zj F.mr),.sc (.int .i64 F.tn),.own (some 1) (zC F.wt),.sc (.int .i64 F.lk)]]) (fun(k,S,F) q=>Qst n E m c (row.drop k) (qv n S0+F0.wt.length) S F∧k≤row.length∧q=row.length - k) ((0,S0,F0)) (row.length) rfl (by first|(simp only[go_sem,zd,ze];done)|with_reducible rfl|rfl) (⟨⟨P1.inv,P1.rp,P1.t0,P1.tn,hco,hLc.pop hEc M.es,rfl⟩,Nat.zero_le _,rfl⟩) ?_
    rintro⟨k,S,F⟩ q ⟨Q,hk,rfl⟩ X8 hn8 he8 hr8
    simp only[go_sem,zd,ze]
    rcases Nat.lt_or_ge k row.length with hk2|hk2
    · have hdx:decide ((k:Int)<(row.length:Int))=true:=decide_eq_true (by omega)
      have hx:row[k]?=some (row[k]):=List.getElem?_eq_getElem hk2
      have hxg:(zC row)[k]?=some (.sc (.int .i64 ((row[k]:Nat):Int))):=by simp[zC,hx]
      have hmem:row[k]∈row:=List.getElem_mem hk2
      have hdr:row.drop k=row[k]::row.drop (k+1):=List.drop_eq_getElem_cons hk2
      have Ql:=Q.lk
      generalize hw:row[k]=w at hx hxg hmem hdr
      rw[hdr] at Ql
      have hcw:=(hEc w).1 hmem
      have hwn:=(M.el c w hcw).2.1
      have hL:=zhF nr Q.rp hcn hwn
      unfold FD.obj FD.upd at hL
      simp only at hL
      have i36:(k:Int)<4611686018427387904:=by omega
      by_cases h1:mf m c=(w:Int)
      · have hk0:YA (mf m) S c w=0:=if_pos h1
        obtain⟨j1,j2⟩:=Q.inv.mate_same M Q.oc h1
        rw[hk0] at hL
        refine za fun KY hKY=>?_
        simp only[go_sem,Qn,hdx]
        apply hKY
        refine zf fun X9 hn9 he9 hr9=>?_
        refine ZL ?_
        refine zg ?_
        repeat (first|refine hn9 _ ?_|refine he9 _ _ ?_|refine he8 _ _ ?_|refine hn7 _ ?_|refine he7 _ ?_|refine hf7 _ _ (by decide) ?_|refine hn6 _ ?_|refine he6 _ ?_|refine hf6 _ _ (by decide) ?_|refine hn5 _ ?_|refine he5 _ _ ?_|refine hn4 _ ?_|refine he4 _ _ ?_)
        refine zf fun X10 hn10 he10 hr10=>?_
        refine zm fun X11 hn11 he11 hf11 hr11=>?_
        refine za fun KY hKY=>?_
        simp only[go_sem,yL,hxg,zJ,hk2]
        apply hKY
        refine za fun KY hKY=>?_
        simp only[go_sem,yK]
        apply zn [] [0] false none rfl
        iterate 8 (first|(simp only[go_sem,zp]<;>rfl)|rfl)
        refine(hL).mono ?_
        rintro _ _ ⟨rfl,up2,lk2,R2,rfl⟩
        refine⟨Nat.le_of_ble_eq_true rfl,(fun hh=>by cases hh),?_⟩
        simp only[go_sem,zr,zb.after]
        apply hKY
        refine zm fun X12 hn12 he12 hf12 hr12=>?_
        refine za fun KY hKY=>?_
        simp only[go_sem,yJ]
        apply hKY
        refine Zy ?_
        refine za fun KY hKY=>?_
        simp only[go_sem,Yf]
        apply hKY
        refine Zy ?_
        refine zg ?_
        repeat (first|refine hn12 _ ?_|refine he12 _ ?_|refine hf12 _ _ (by decide) ?_|refine hn11 _ ?_|refine he11 _ ?_|refine hf11 _ _ (by decide) ?_|refine hn10 _ ?_|refine he10 _ _ ?_|refine hn9 _ ?_|refine he9 _ _ ?_|refine he8 _ _ ?_|refine hn7 _ ?_|refine he7 _ ?_|refine hf7 _ _ (by decide) ?_|refine hn6 _ ?_|refine he6 _ ?_|refine hf6 _ _ (by decide) ?_|refine hn5 _ ?_|refine he5 _ _ ?_|refine hn4 _ ?_|refine he4 _ _ ?_)
        refine zk fun KY hKY=>?_
        simp only[go_sem,Qo,zL (show k<4611686018427387904 by omega)]
        apply hKY
        repeat (first|refine hn12 _ ?_|refine he12 _ ?_|refine hf12 _ _ (by decide) ?_|refine hn11 _ ?_|refine he11 _ ?_|refine hf11 _ _ (by decide) ?_|refine hn10 _ ?_|refine he10 _ _ ?_|refine hn9 _ ?_|refine he9 _ _ ?_)
        refine hn8 _ ((k+1,S,⟨F.lab,F.out,F.ev,F.od,F.pr,F.rt,F.br,F.gone,up2,F.bs,F.mr,F.tn,F.wt,lk2⟩)) (row.length - (k+1)) (by omega) (by first|(simp only[go_sem,zd,ze];done)|with_reducible rfl|rfl) ?_
        exact⟨⟨Q.inv,R2,Q.t0,Q.tn,Q.oc,Ql.step Q.oc (Stp.refl _ _) j1 (fun ho=> .inl (j2 ho)),Q.me⟩,hk2,rfl⟩
      · by_cases h2:S.lab w=0
        · have hk0:YA (mf m) S c w=1:=by unfold YA;rw[if_neg h1,if_pos h2]
          obtain⟨x,hxm,hxn,_⟩:=fresh M Q.inv hwn h2
          obtain⟨g1,g2,g3⟩:=zf0 M Q.inv (v:=c) (x:=x) F.wt hwn h2 hxm
          have hng:=zdL M Q.inv (v:=c) hwn h2 hxm
          have G1:=(zf1 M Q.inv Q.oc hcw h2 hxm).1
          have hGr:=fun(F':FD) (R':Rp n m S F')=>zhP nr M Q.inv R' hn Q.oc hwn h2 hxm
          unfold FD.obj at hGr
          rw[hk0] at hL
          refine za fun KY hKY=>?_
          simp only[go_sem,Qn,hdx]
          apply hKY
          refine zf fun X13 hn13 he13 hr13=>?_
          refine ZL ?_
          refine zg ?_
          repeat (first|refine hn13 _ ?_|refine he13 _ _ ?_|refine he8 _ _ ?_|refine hn7 _ ?_|refine he7 _ ?_|refine hf7 _ _ (by decide) ?_|refine hn6 _ ?_|refine he6 _ ?_|refine hf6 _ _ (by decide) ?_|refine hn5 _ ?_|refine he5 _ _ ?_|refine hn4 _ ?_|refine he4 _ _ ?_)
          refine zf fun X14 hn14 he14 hr14=>?_
          refine zm fun X15 hn15 he15 hf15 hr15=>?_
          refine za fun KY hKY=>?_
          simp only[go_sem,yL,hxg,zJ,hk2]
          apply hKY
          refine za fun KY hKY=>?_
          simp only[go_sem,yK]
          apply zn [] [0] false none rfl
          iterate 8 (first|(simp only[go_sem,zp]<;>rfl)|rfl)
          refine(hL).mono ?_
          rintro _ _ ⟨rfl,up2,lk2,R2,rfl⟩
          refine⟨Nat.le_of_ble_eq_true rfl,(fun hh=>by cases hh),?_⟩
          simp only[go_sem,zr,zb.after]
          apply hKY
          refine zm fun X16 hn16 he16 hf16 hr16=>?_
          refine za fun KY hKY=>?_
          simp only[go_sem,yJ]
          apply hKY
          refine ZL ?_
          refine zk fun KY hKY=>?_
          simp only[go_sem,Vi]
          apply zn [] [0] false none rfl
          iterate 8 (first|(simp only[go_sem,zp]<;>rfl)|rfl)
          refine(hGr _ R2).mono ?_
          rintro _ _ ⟨rfl,F3,R3,hw3,ht3,rfl⟩
          refine⟨Nat.le_of_ble_eq_true rfl,(fun hh=>by cases hh),?_⟩
          simp only[go_sem,zr,zb.after]
          apply hKY
          repeat (first|refine hn16 _ ?_|refine he16 _ ?_|refine hf16 _ _ (by decide) ?_|refine hn15 _ ?_|refine he15 _ ?_|refine hf15 _ _ (by decide) ?_|refine hn14 _ ?_|refine he14 _ _ ?_|refine hn13 _ ?_|refine he13 _ _ ?_|refine he8 _ _ ?_|refine hn7 _ ?_|refine he7 _ ?_|refine hf7 _ _ (by decide) ?_|refine hn6 _ ?_|refine he6 _ ?_|refine hf6 _ _ (by decide) ?_|refine hn5 _ ?_|refine he5 _ _ ?_|refine hn4 _ ?_|refine he4 _ _ ?_)
          refine zk fun KY hKY=>?_
          simp only[go_sem,Qo,zL (show k<4611686018427387904 by omega)]
          apply hKY
          repeat (first|refine hn16 _ ?_|refine he16 _ ?_|refine hf16 _ _ (by decide) ?_|refine hn15 _ ?_|refine he15 _ ?_|refine hf15 _ _ (by decide) ?_|refine hn14 _ ?_|refine he14 _ _ ?_|refine hn13 _ ?_|refine he13 _ _ ?_)
          refine hn8 _ ((k+1,Z6 S c w x,F3)) (row.length - (k+1)) (by omega) (by first|(simp only[go_sem,zd,ze];done)|with_reducible rfl|rfl) ?_
          have hw3':F3.wt=F.wt++[x]:=hw3
          have ht3':F3.tn=F.tn:=ht3
          rw[←hw3'] at g1
          have Qm:=Q.me
          have Qt:=Q.tn
          have Q0:=Q.t0
          refine⟨⟨G1,R3,by omega,by omega,?_,Ql.step Q.oc g1 g2 (fun ho=>by rw[g3] at ho;cases ho),?_⟩,hk2,rfl⟩
          · show(decide (c=x)||S.out c)=true
            rw[Q.oc,Bool.or_true]
          · rw[hw3',List.length_append,List.length_singleton];omega
        · by_cases h3:S.out w=true∧S.bs c≠S.bs w
          · have hk0:YA (mf m) S c w=2:=by unfold YA;rw[if_neg h1,if_neg h2,if_pos h3]
            rw[hk0] at hL
            refine za fun KY hKY=>?_
            simp only[go_sem,Qn,hdx]
            apply hKY
            refine zf fun X17 hn17 he17 hr17=>?_
            refine ZL ?_
            refine zg ?_
            repeat (first|refine hn17 _ ?_|refine he17 _ _ ?_|refine he8 _ _ ?_|refine hn7 _ ?_|refine he7 _ ?_|refine hf7 _ _ (by decide) ?_|refine hn6 _ ?_|refine he6 _ ?_|refine hf6 _ _ (by decide) ?_|refine hn5 _ ?_|refine he5 _ _ ?_|refine hn4 _ ?_|refine he4 _ _ ?_)
            refine zf fun X18 hn18 he18 hr18=>?_
            refine zm fun X19 hn19 he19 hf19 hr19=>?_
            refine za fun KY hKY=>?_
            simp only[go_sem,yL,hxg,zJ,hk2]
            apply hKY
            refine za fun KY hKY=>?_
            simp only[go_sem,yK]
            apply zn [] [0] false none rfl
            iterate 8 (first|(simp only[go_sem,zp]<;>rfl)|rfl)
            refine(hL).mono ?_
            rintro _ _ ⟨rfl,up2,lk2,R2,rfl⟩
            refine⟨Nat.le_of_ble_eq_true rfl,(fun hh=>by cases hh),?_⟩
            simp only[go_sem,zr,zb.after]
            apply hKY
            refine zm fun X20 hn20 he20 hf20 hr20=>?_
            refine za fun KY hKY=>?_
            simp only[go_sem,yJ]
            apply hKY
            refine Zy ?_
            refine za fun KY hKY=>?_
            simp only[go_sem,Yf]
            apply hKY
            refine ZL ?_
            have B1:=zkd nr R2 hcn
            have B2:=fun(F':FD) (R':Rp n m S F')=>zkd nr R' hwn
            have hd4:decide ((S.bs c:Int)=(S.bs w:Int))=false:=decide_eq_false (by have:=h3.2;omega)
            unfold FD.obj at B1 B2
            simp only at B1
            have Qm:=Q.me
            have Qt:=Q.tn
            have Q0:=Q.t0
            have hnl:=zct n S
            refine zf fun X21 hn21 he21 hr21=>?_
            refine za fun KY hKY=>?_
            simp only[go_sem,Vh]
            apply zn [] [0] false none rfl
            iterate 8 (first|(simp only[go_sem,zp]<;>rfl)|rfl)
            refine(B1.less (by simp)).mono ?_
            rintro _ _ ⟨rfl,F3,R3,hw3,ht3,rfl⟩
            refine⟨Nat.le_of_ble_eq_true rfl,(fun hh=>by cases hh),?_⟩
            simp only[go_sem,zr,zb.after]
            apply zn [] [0] false none rfl
            iterate 8 (first|(simp only[go_sem,zp]<;>rfl)|rfl)
            refine((B2 F3 R3).less (by simp)).mono ?_
            rintro _ _ ⟨rfl,F4,R4,hw4,ht4,rfl⟩
            refine⟨Nat.le_of_ble_eq_true rfl,(fun hh=>by cases hh),?_⟩
            simp only[go_sem,zr,zb.after,hd4]
            apply hKY
            refine Zy ?_
            refine zg ?_
            repeat (first|refine hn21 _ ?_|refine he21 _ _ ?_|refine hn20 _ ?_|refine he20 _ ?_|refine hf20 _ _ (by decide) ?_|refine hn19 _ ?_|refine he19 _ ?_|refine hf19 _ _ (by decide) ?_|refine hn18 _ ?_|refine he18 _ _ ?_|refine hn17 _ ?_|refine he17 _ _ ?_|refine he8 _ _ ?_|refine hn7 _ ?_|refine he7 _ ?_|refine hf7 _ _ (by decide) ?_|refine hn6 _ ?_|refine he6 _ ?_|refine hf6 _ _ (by decide) ?_|refine hn5 _ ?_|refine he5 _ _ ?_|refine hn4 _ ?_|refine he4 _ _ ?_)
            by_cases hrt:S.rt c=S.rt w
            · have J:=zfN nr M Q.inv R4 hn (by omega) Q.oc h3.1 hcw h3.2 hrt
              unfold FD.obj at J
              refine za fun KY hKY=>?_
              simp only[go_sem,WF]
              apply zn [] [0] false none rfl
              iterate 8 (first|(simp only[go_sem,zp]<;>rfl)|rfl)
              refine(J).mono ?_
              rintro _ _ ⟨rfl,T,F5,T1,R5,hst,hou,hb,hl,hno,hno1,ht5,rfl⟩
              refine⟨Nat.le_of_ble_eq_true rfl,(fun hh=>by cases hh),?_⟩
              simp only[go_sem,zr,zb.after]
              apply hKY
              refine za fun KY hKY=>?_
              simp only[go_sem,WE]
              apply hKY
              refine Zy ?_
              refine zg ?_
              repeat (first|refine hn21 _ ?_|refine he21 _ _ ?_|refine hn20 _ ?_|refine he20 _ ?_|refine hf20 _ _ (by decide) ?_|refine hn19 _ ?_|refine he19 _ ?_|refine hf19 _ _ (by decide) ?_|refine hn18 _ ?_|refine he18 _ _ ?_|refine hn17 _ ?_|refine he17 _ _ ?_|refine he8 _ _ ?_|refine hn7 _ ?_|refine he7 _ ?_|refine hf7 _ _ (by decide) ?_|refine hn6 _ ?_|refine he6 _ ?_|refine hf6 _ _ (by decide) ?_|refine hn5 _ ?_|refine he5 _ _ ?_|refine hn4 _ ?_|refine he4 _ _ ?_)
              refine zk fun KY hKY=>?_
              simp only[go_sem,Qo,zL (show k<4611686018427387904 by omega)]
              rw[hw4,hw3] at hst hno
              apply hKY
              repeat (first|refine hn21 _ ?_|refine he21 _ _ ?_|refine hn20 _ ?_|refine he20 _ ?_|refine hf20 _ _ (by decide) ?_|refine hn19 _ ?_|refine he19 _ ?_|refine hf19 _ _ (by decide) ?_|refine hn18 _ ?_|refine he18 _ _ ?_|refine hn17 _ ?_|refine he17 _ _ ?_)
              refine hn8 _ ((k+1,T,F5)) (row.length - (k+1)) (by omega) (by first|(simp only[go_sem,zd,ze];done)|with_reducible rfl|rfl) ?_
              exact⟨⟨T1,R5,by omega,by omega,hou c Q.oc,Ql.step Q.oc hst hl (fun _=> .inl hb.symm),by omega⟩,hk2,rfl⟩
            · have J:=zdY nr M Q.inv R4 hn Q.oc h3.1 hcw hrt
              unfold FD.obj at J
              refine za fun KY hKY=>?_
              simp only[go_sem,WF]
              apply zn [] [0] false none rfl
              iterate 8 (first|(simp only[go_sem,zp]<;>rfl)|rfl)
              refine(J).mono ?_
              rintro _ _ ⟨l,hA,rfl,F5,rfl⟩
              cases l with
              |nil=>obtain⟨z,hz,_⟩:=hA.fr;simp at hz
              | cons a l=>
                have hnn:zC (a::l)= .sc (.int .i64 (a:Int))::zC l:=rfl
                refine⟨Nat.le_of_ble_eq_true rfl,(fun hh=>by cases hh),?_⟩
                simp only[go_sem,zr,zb.after]
                apply hKY
                refine za fun KY hKY=>?_
                simp only[go_sem,WE,hnn]
                apply hKY
                refine ZL ?_
                refine zw fun KY hKY=>?_
                simp only[go_sem,Vg]
                apply hKY
                refine zi ?_
                repeat (first|refine hr21 _ ?_|refine hr20 _ ?_|refine hr19 _ ?_|refine hr18 _ ?_|refine hr17 _ ?_|refine hr8 _ ?_|refine hr7 _ ?_|refine hr6 _ ?_|refine hr5 _ ?_|refine hr4 _ ?_|refine hr3 _ ?_|refine hr2 _ ?_|refine hr1 _ ?_)
                simp only[go_sem]
                exact⟨_,.inl ⟨a::l,hA,rfl⟩⟩
          · have hk0:YA (mf m) S c w=0:=by unfold YA;rw[if_neg h1,if_neg h2,if_neg h3]
            rw[hk0] at hL
            refine za fun KY hKY=>?_
            simp only[go_sem,Qn,hdx]
            apply hKY
            refine zf fun X22 hn22 he22 hr22=>?_
            refine ZL ?_
            refine zg ?_
            repeat (first|refine hn22 _ ?_|refine he22 _ _ ?_|refine he8 _ _ ?_|refine hn7 _ ?_|refine he7 _ ?_|refine hf7 _ _ (by decide) ?_|refine hn6 _ ?_|refine he6 _ ?_|refine hf6 _ _ (by decide) ?_|refine hn5 _ ?_|refine he5 _ _ ?_|refine hn4 _ ?_|refine he4 _ _ ?_)
            refine zf fun X23 hn23 he23 hr23=>?_
            refine zm fun X24 hn24 he24 hf24 hr24=>?_
            refine za fun KY hKY=>?_
            simp only[go_sem,yL,hxg,zJ,hk2]
            apply hKY
            refine za fun KY hKY=>?_
            simp only[go_sem,yK]
            apply zn [] [0] false none rfl
            iterate 8 (first|(simp only[go_sem,zp]<;>rfl)|rfl)
            refine(hL).mono ?_
            rintro _ _ ⟨rfl,up2,lk2,R2,rfl⟩
            refine⟨Nat.le_of_ble_eq_true rfl,(fun hh=>by cases hh),?_⟩
            simp only[go_sem,zr,zb.after]
            apply hKY
            refine zm fun X25 hn25 he25 hf25 hr25=>?_
            refine za fun KY hKY=>?_
            simp only[go_sem,yJ]
            apply hKY
            refine Zy ?_
            refine za fun KY hKY=>?_
            simp only[go_sem,Yf]
            apply hKY
            refine Zy ?_
            refine zg ?_
            repeat (first|refine hn25 _ ?_|refine he25 _ ?_|refine hf25 _ _ (by decide) ?_|refine hn24 _ ?_|refine he24 _ ?_|refine hf24 _ _ (by decide) ?_|refine hn23 _ ?_|refine he23 _ _ ?_|refine hn22 _ ?_|refine he22 _ _ ?_|refine he8 _ _ ?_|refine hn7 _ ?_|refine he7 _ ?_|refine hf7 _ _ (by decide) ?_|refine hn6 _ ?_|refine he6 _ ?_|refine hf6 _ _ (by decide) ?_|refine hn5 _ ?_|refine he5 _ _ ?_|refine hn4 _ ?_|refine he4 _ _ ?_)
            refine zk fun KY hKY=>?_
            simp only[go_sem,Qo,zL (show k<4611686018427387904 by omega)]
            apply hKY
            repeat (first|refine hn25 _ ?_|refine he25 _ ?_|refine hf25 _ _ (by decide) ?_|refine hn24 _ ?_|refine he24 _ ?_|refine hf24 _ _ (by decide) ?_|refine hn23 _ ?_|refine he23 _ _ ?_|refine hn22 _ ?_|refine he22 _ _ ?_)
            refine hn8 _ ((k+1,S,⟨F.lab,F.out,F.ev,F.od,F.pr,F.rt,F.br,F.gone,up2,F.bs,F.mr,F.tn,F.wt,lk2⟩)) (row.length - (k+1)) (by omega) (by first|(simp only[go_sem,zd,ze];done)|with_reducible rfl|rfl) ?_
            exact⟨⟨Q.inv,R2,Q.t0,Q.tn,Q.oc,Ql.step Q.oc (Stp.refl _ _) h2 (fun ho=> .inl (Decidable.byContradiction fun e=>h3 ⟨ho,fun e2=>e e2.symm⟩)),Q.me⟩,hk2,rfl⟩
    have hdx:decide ((k:Int)<(row.length:Int))=false:=decide_eq_false (by omega)
    obtain rfl:k=row.length:=by omega
    have QL:=Q.lk
    rw[List.drop_length] at QL
    obtain⟨o,e1,e2,P2,hme⟩:=Pst.pop Q.inv Q.rp Q.t0 Q.tn QL.done
    have hX1:=hX0 F
    rw[e1,e2] at hX1
    have hQm:=Q.me
    have hi1:(if(some c).isSome=true then 1 else 0:Nat)=1:=rfl
    refine za fun KY hKY=>?_
    simp only[go_sem,Qn,hdx]
    apply hKY
    refine zf fun X26 hn26 he26 hr26=>?_
    refine Zy ?_
    refine zy ?_
    repeat (first|refine hn26 _ ?_|refine he26 _ _ ?_|refine he8 _ _ ?_|refine hn7 _ ?_|refine he7 _ ?_|refine hf7 _ _ (by decide) ?_|refine hn6 _ ?_|refine he6 _ ?_|refine hf6 _ _ (by decide) ?_|refine hn5 _ ?_|refine he5 _ _ ?_|refine hn4 _ ?_|refine he4 _ _ ?_|refine he3 _ _ ?_|refine hn2 _ ?_|refine he2 _ ?_|refine hf2 _ _ (by decide) ?_|refine hn1 _ ?_|refine he1 _ _ ?_)
    refine zk fun KY hKY=>?_
    simp only[go_sem,Vf]
    apply zn [] [0] false none rfl
    iterate 8 (first|(simp only[go_sem,zp]<;>rfl)|rfl)
    refine(hX1).mono ?_
    rintro _ _ ⟨rfl,rfl⟩
    refine⟨Nat.le_of_ble_eq_true rfl,(fun hh=>by cases hh),?_⟩
    simp only[go_sem,zr,zb.after]
    apply hKY
    repeat (first|refine hn26 _ ?_|refine he26 _ _ ?_|refine he8 _ _ ?_|refine hn7 _ ?_|refine he7 _ ?_|refine hf7 _ _ (by decide) ?_|refine hn6 _ ?_|refine he6 _ ?_|refine hf6 _ _ (by decide) ?_|refine hn5 _ ?_|refine he5 _ _ ?_|refine hn4 _ ?_|refine he4 _ _ ?_)
    refine hn3 _ ((S,{F with wt:=F.wt.tail},o)) (qv n S+F.wt.tail.length+(if o.isSome=true then 1 else 0)) (by omega) (by first|(simp only[go_sem,zd,ze];done)|with_reducible rfl|rfl) ?_
    exact⟨P2,rfl⟩
theorem u64_in (n:Nat)(hn:n≤4096):IntKind.u64.wrap (n:Int)=(n:Int):=IntWalk.u64_in _ (by omega)
theorem zg5 (n:Nat)(hn:n≤4096):(BitVec.ofInt 64 (n:Int)&&&BitVec.ofInt 64 4294967295).toNat=n:=by
 rw[BitVec.toNat_and,BitVec.toNat_ofInt,BitVec.toNat_ofInt]
 have e1:((n:Int)%((2^64:Nat):Int)).toNat=n:=by omega
 have e2:((4294967295:Int)%((2^64:Nat):Int)).toNat=2^32 - 1:=by decide
 rw[e1,e2,Nat.and_two_pow_sub_one_eq_mod]
 omega
theorem kh (n:Nat)(hn:n≤4096):(n:Int).fdiv (2^32)=0:=by
 rw[Int.fdiv_eq_ediv_of_nonneg _ (by decide)]
 omega
def XA (a b:Int):Int:=IntKind.u64.wrap ((BitVec.ofInt 64 a&&&BitVec.ofInt 64 b).toNat:Int)
theorem zgR (a b:Int):yB .and .u64 a b=some (.int .u64 (XA a b)):=rfl
theorem Ko (a:Int):JU .shr .u64 a 32=some (.int .u64 (a.fdiv (2^32))):=rfl
theorem zbG (n:Nat)(hn:n≤4096):XA (n:Int) 4294967295=(n:Int):=by
 unfold XA
 rw[zg5 n hn];exact u64_in n hn
theorem zfH (n:Nat)(hn:n≤4096):zo Try.prog [] zil [.sc (.int .u64 1),.sc (.int .u64 (n:Int))] [] fun r h'=>r= .tup [.sc (.int .u64 0),.sc (.int .u64 (n:Int))]∧h'=[]:=by
 have s1:(1:Int).fdiv (2^32)=0:=kh 1 (by omega)
 have sn:(n:Int).fdiv (2^32)=0:=kh n hn
 have s0:(0:Int).fdiv (2^32)=0:=kh 0 (by omega)
 have w0:IntKind.u64.wrap 0=0:=rfl
 have w1:IntKind.u64.wrap 1=1:=rfl
 have wn:=u64_in n hn
 have a0:XA 0 4294967295=0:=zbG 0 (by omega)
 have a1:XA 1 4294967295=1:=zbG 1 (by omega)
 have an:=zbG n hn
 have m1:IntKind.u64.wrap (1*(n:Int))=(n:Int):=by rw[Int.one_mul];exact wn
 have m0:IntKind.u64.wrap (0*(n:Int))=0:=by rw[Int.zero_mul];exact w0
 have m2:IntKind.u64.wrap (1*0)=0:=rfl
 have m3:IntKind.u64.wrap (0*0)=0:=rfl
 have m4:IntKind.u64.wrap (0+0)=0:=rfl
 refine zkN rfl ?_
 unfold zjf jj
 refine za fun KY hKY=>?_
 simp only[go_sem,gq]
 apply hKY
 refine za fun KY hKY=>?_
 simp only[go_sem,gp,↓zgR,a1]
 apply hKY
 refine za fun KY hKY=>?_
 simp only[go_sem,gn,↓Ko,s1]
 apply hKY
 refine za fun KY hKY=>?_
 simp only[go_sem,gm,↓zgR,an]
 apply hKY
 refine za fun KY hKY=>?_
 simp only[go_sem,gl,↓Ko,sn]
 apply hKY
 refine za fun KY hKY=>?_
 simp only[go_sem,gk,m1,w0,s0,sn,a0,m1,m4,Int.zero_add,Int.add_zero]
 apply hKY
 refine za fun KY hKY=>?_
 simp only[go_sem,gj,↓Ko,sn,m0,m4,w0,s0,sn,a0,m1,m4,Int.zero_add,Int.add_zero]
 apply hKY
 refine za fun KY hKY=>?_
 simp only[go_sem,gi,↓zgR,a0,w0,s0,sn,a0,m1,m4,Int.zero_add,Int.add_zero]
 apply hKY
 refine za fun KY hKY=>?_
 simp only[go_sem,gh,↓Ko,s0,w0,s0,sn,a0,m1,m4,Int.zero_add,Int.add_zero]
 apply hKY
 refine za fun KY hKY=>?_
 simp only[go_sem,gg,m2,m4,w0,s0,sn,a0,m1,m4,Int.zero_add,Int.add_zero]
 apply hKY
 refine za fun KY hKY=>?_
 simp only[go_sem,vR,↓Ko,s0,m3,m4,w0,s0,sn,a0,m1,m4,Int.zero_add,Int.add_zero]
 apply hKY
 refine za fun KY hKY=>?_
 simp only[go_sem,vQ,m1,w0,s0,sn,a0,m1,m4,Int.zero_add,Int.add_zero]
 apply hKY
 refine zi ?_
 simp only[go_sem]
theorem zkA (n:Nat)(hn:n≤4096):zo Try.prog [] zis [.sc (.int .u64 1),.sc (.int .u64 (n:Int))] [] fun r h'=>r= .tup [.sc (.int .u64 0),.sc (.int .u64 (n:Int))]∧h'=[]:=by
 refine zkV rfl ?_
 unfold zjn QX
 refine za fun KY hKY=>?_
 simp only[go_sem,Gb]
 apply hKY
 refine zf fun X1 hn1 he1 hr1=>?_
 refine Zy ?_
 refine zg ?_
 repeat (first|refine hn1 _ ?_|refine he1 _ _ ?_)
 refine za fun KY hKY=>?_
 simp only[go_sem,g0]
 apply zn [] [] false none rfl
 iterate 8 (first|(simp only[go_sem,zp]<;>rfl)|rfl)
 refine(zfH n hn).mono ?_
 rintro _ _ ⟨rfl,rfl⟩
 refine⟨Nat.le_of_ble_eq_true rfl,(fun hh=>by cases hh),?_⟩
 simp only[go_sem,zr,zb.after]
 apply hKY
 refine za fun KY hKY=>?_
 simp only[go_sem,gZ]
 apply hKY
 refine zi ?_
 repeat (first|refine hr1 _ ?_)
 simp only[go_sem]
def rpt (x:Int)(n k:Nat):List Int:=List.replicate k x++List.replicate (n - k) 0
theorem zhq {x:Int}{n k:Nat}(h:k≤n):(rpt x n k).length=n:=by simp[rpt];omega
theorem zdB (x:Int)(n:Nat)(hn:n≤4096):zo Try.prog [] ziA [.own (some 1) (zj [x]),.sc (.int .i64 (n:Int))] [] fun r h'=>(n=0∧r= .own (some 1) []∧h'=[])∨(0<n∧r= .sl 0 0 n 1∧h'=[some (zj (List.replicate n x))]):=by
 have hd1:decide ((n:Int)<0)=false:=decide_eq_false (by omega)
 have hd2:decide ((9223372036854775807:Int)<(n:Int))=false:=decide_eq_false (by omega)
 have w1:IntKind.u64.wrap 1=1:=rfl
 have wn:=u64_in n hn
 have wi:IntKind.i64.wrap (n:Int)=(n:Int):=IntWalk.i64_in _ (by omega)
 have hm1:8*n≤140737488355328∧(n:Int)≤9223372036854775807:=by omega
 refine zk3 rfl ?_
 unfold zjv j6
 refine za fun KY hKY=>?_
 simp only[go_sem,G4]
 apply hKY
 refine Zv [0,0] (by simp only[go_sem];rfl) ?_
 simp only[go_sem]
 refine zf fun X1 hn1 he1 hr1=>?_
 refine za fun KY hKY=>?_
 simp only[go_sem,G3,hd1]
 apply hKY
 refine Zy ?_
 refine zg ?_
 repeat (first|refine hn1 _ ?_|refine he1 _ _ ?_)
 refine za fun KY hKY=>?_
 simp only[go_sem,G0,zq,w1,wn]
 apply zn [] [] false none rfl
 iterate 8 (first|(simp only[go_sem,zp]<;>rfl)|rfl)
 refine(zkA n hn).mono ?_
 rintro _ _ ⟨rfl,rfl⟩
 refine⟨Nat.le_of_ble_eq_true rfl,(fun hh=>by cases hh),?_⟩
 simp only[go_sem,zr,zb.after]
 apply hKY
 refine zf fun X2 hn2 he2 hr2=>?_
 refine za fun KY hKY=>?_
 simp only[go_sem,GZ,hd2]
 apply hKY
 refine Zy ?_
 refine zg ?_
 repeat (first|refine hn2 _ ?_|refine he2 _ _ ?_|refine hn1 _ ?_|refine he1 _ _ ?_)
 refine za fun KY hKY=>?_
 simp only[go_sem,GY,wi,hm1,Int.le_refl,YX]
 apply hKY
 have e1:(zj [x]).length / 1=1:=by simp[zj]
 rcases Nat.eq_zero_or_pos n with h0|h0
 · subst h0
   have e0:zj (List.replicate 0 (0:Int))=[]:=rfl
   have hdz:decide ((0:Int)<0)=false:=rfl
   rw[e0]
   refine za fun KY hKY=>?_
   simp only[go_sem,uA]
   apply hKY
   refine zf fun X3 hn3 he3 hr3=>?_
   refine zm fun X4 hn4 he4 hf4 hr4=>?_
   try simp only[go_sem]
   refine zU (α:=Unit) [37] (fun u=>[]) (fun u=>[]) (fun u q=>q=0) (()) (0) rfl (by first|(simp only[go_sem,zd,ze];done)|with_reducible rfl|rfl) (rfl) ?_
   rintro u q rfl X5 hn5 he5 hr5
   simp only[go_sem,zd,ze]
   refine zf fun X6 hn6 he6 hr6=>?_
   refine za fun KY hKY=>?_
   simp only[go_sem,wP,hdz]
   apply hKY
   refine Zy ?_
   refine zy ?_
   repeat (first|refine hn6 _ ?_|refine he6 _ _ ?_|refine he5 _ _ ?_|refine hn4 _ ?_|refine he4 _ ?_|refine hf4 _ _ (by decide) ?_|refine hn3 _ ?_|refine he3 _ _ ?_|refine hn2 _ ?_|refine he2 _ _ ?_|refine hn1 _ ?_|refine he1 _ _ ?_)
   refine za fun KY hKY=>?_
   simp only[go_sem,WB]
   apply hKY
   refine zi ?_
   repeat (first|refine hr6 _ ?_|refine hr5 _ ?_|refine hr4 _ ?_|refine hr3 _ ?_|refine hr2 _ ?_|refine hr1 _ ?_)
   simp only[go_sem]
 · have hne:zj (List.replicate n (0:Int))≠ []:=fun h=>by
    have:=congrArg List.length h
    simp[zj] at this;omega
   refine zeR [0,7] (by simp only[go_sem];rfl) hne ?_
   simp only[go_sem,zq,List.length_replicate]
   have c0:zj ((List.replicate n (0:Int)).set 0 x)=zj (rpt x n 1):=by
    obtain⟨k,rfl⟩:∃k,n=k+1:=⟨n - 1,by omega⟩
    rfl
   have x1:zj [x]=[.sc (.int .i64 x)]:=rfl
   have hmn:min 1 n=1:=by omega
   refine za fun KY hKY=>?_
   simp only[go_sem,uA,hmn,h0,e1,List.length_replicate,c0,x1,Nat.min_self]
   apply hKY
   refine zf fun X7 hn7 he7 hr7=>?_
   refine zm fun X8 hn8 he8 hf8 hr8=>?_
   try simp only[go_sem]
   refine zU (α:=Nat) [37] (fun k=>[(8,.sc (.int .i64 (k:Int)))]) (fun k=>[some (zj (rpt x n k))]) (fun k q=>1≤k∧k≤n∧q=n - k) (1) (n - 1) rfl (by first|(simp only[go_sem,zd,ze];done)|with_reducible rfl|rfl) (⟨Nat.le_refl _,h0,rfl⟩) ?_
   rintro k q ⟨hk1,hk,rfl⟩ X9 hn9 he9 hr9
   simp only[go_sem,zd,ze]
   rcases Nat.lt_or_ge k n with hk2|hk2
   · have hdx:decide ((k:Int)<(n:Int))=true:=decide_eq_true (by omega)
     have hlen:=zhq (x:=x) hk
     have hsrc:List.take k (zj (rpt x n k))=zj (List.replicate k x):=by
      unfold rpt zj
      rw[List.map_append,List.take_append_of_le_length (by simp),List.take_of_length_le (by simp)]
     have hset:Zt (zj (rpt x n k)) k (List.take (min k (n - k)) (zj (List.replicate k x)))=zj (rpt x n (k+min k (n - k))):=by
      rw[yi _ _ _ (by simp[zj,hlen];omega)]
      have hl2:(List.take (min k (n - k)) (zj (List.replicate k x))).length=min k (n - k):=by simp[zj]
      rw[hl2,hsrc]
      have h3:List.drop (k+min k (n - k)) (zj (rpt x n k))=zj (List.replicate (n - (k+min k (n - k))) 0):=by
       unfold rpt zj
       rw[List.map_append,List.drop_append,List.drop_of_length_le (by simp)]
       simp
       omega
      rw[h3]
      unfold rpt zj
      rw[←List.map_take,←List.map_append,←List.map_append,List.take_replicate]
      congr 2
      rw[List.replicate_append_replicate]
      congr 1
      omega
     have hwk:IntKind.i64.wrap ((k:Int)+((min k (n - k):Nat):Int))=((k+min k (n - k):Nat):Int):=by rw[IntWalk.i64_in _ (by omega)];omega
     have hcopy:=qT (List.replicate k x)
     have hlk:k+min k (n - k)≤n:=by omega
     refine zf fun X10 hn10 he10 hr10=>?_
     refine za fun KY hKY=>?_
     simp only[go_sem,wP,hdx]
     apply hKY
     refine ZL ?_
     refine zg ?_
     repeat (first|refine hn10 _ ?_|refine he10 _ _ ?_|refine he9 _ _ ?_|refine hn8 _ ?_|refine he8 _ ?_|refine hf8 _ _ (by decide) ?_|refine hn7 _ ?_|refine he7 _ _ ?_|refine hn2 _ ?_|refine he2 _ _ ?_|refine hn1 _ ?_|refine he1 _ _ ?_)
     refine zm fun X11 hn11 he11 hf11 hr11=>?_
     refine j0 fun KY hKY=>?_
     simp only[go_sem,GX,hlen,hk,hk2,zq,Nat.le_of_lt hk2,hsrc,hset,List.length_replicate,hlk,hwk,Nat.le_refl,Nat.sub_zero]
     refine⟨?_,?_⟩
     · apply hKY
       repeat (first|refine hn11 _ ?_|refine he11 _ ?_|refine hf11 _ _ (by decide) ?_|refine hn10 _ ?_|refine he10 _ _ ?_)
       refine hn9 _ (k+min k (n - k)) (n - (k+min k (n - k))) (by omega) (by first|(simp only[go_sem,zd,ze];done)|with_reducible rfl|rfl) ?_
       exact⟨by omega,hlk,rfl⟩
     · apply hKY
       repeat (first|refine hn11 _ ?_|refine he11 _ ?_|refine hf11 _ _ (by decide) ?_|refine hn10 _ ?_|refine he10 _ _ ?_)
       refine hn9 _ (k+min k (n - k)) (n - (k+min k (n - k))) (by omega) (by first|(simp only[go_sem,zd,ze];done)|with_reducible rfl|rfl) ?_
       exact⟨by omega,hlk,rfl⟩
   have hdx:decide ((k:Int)<(n:Int))=false:=decide_eq_false (by omega)
   obtain rfl:k=n:=by omega
   refine zf fun X12 hn12 he12 hr12=>?_
   refine za fun KY hKY=>?_
   simp only[go_sem,wP,hdx]
   apply hKY
   refine Zy ?_
   refine zy ?_
   repeat (first|refine hn12 _ ?_|refine he12 _ _ ?_|refine he9 _ _ ?_|refine hn8 _ ?_|refine he8 _ ?_|refine hf8 _ _ (by decide) ?_|refine hn7 _ ?_|refine he7 _ _ ?_|refine hn2 _ ?_|refine he2 _ _ ?_|refine hn1 _ ?_|refine he1 _ _ ?_)
   refine za fun KY hKY=>?_
   simp only[go_sem,WB]
   apply hKY
   refine zi ?_
   repeat (first|refine hr12 _ ?_|refine hr9 _ ?_|refine hr8 _ ?_|refine hr7 _ ?_|refine hr2 _ ?_|refine hr1 _ ?_)
   simp only[go_sem]
   exact .inr ⟨h0,by simp[rpt]⟩
def W4 (a b:Int×Int):Bool:=decide (a.1<b.1∨a.1=b.1∧a.2<b.2)
theorem zaP (a b:Int×Int):zo Try.prog [] ziT [.agg (two a),.agg (two b)] [] fun r h'=>r= .sc (.bool (W4 a b))∧h'=[]:=by
 obtain⟨a1,a2⟩:=a
 obtain⟨b1,b2⟩:=b
 simp only[Wb]
 unfold W4
 refine zlq rfl ?_
 unfold zjS Ke
 refine za fun KY hKY=>?_
 simp only[go_sem,o7]
 apply hKY
 by_cases h:a1<b1
 · refine za fun KY hKY=>?_
   simp only[go_sem,wX,h]
   apply hKY
   refine zi ?_
   simp only[go_sem,h,true_or]
 · by_cases h2:a1=b1
   · subst h2
     refine za fun KY hKY=>?_
     simp only[go_sem,wX,h,Int.lt_irrefl]
     apply hKY
     refine zi ?_
     simp only[go_sem,h,Int.lt_irrefl,false_or]
   · refine za fun KY hKY=>?_
     simp only[go_sem,wX,h,h2]
     apply hKY
     refine zi ?_
     simp only[go_sem,h,h2,false_and,or_self]
theorem vz (n v:Int)(es:List (Int×Int)):zo Try.prog [] ziP [.agg [.sc (.int .i64 n),.imm 2 (Zj es)],.sc (.int .i64 v)] [] fun r h'=>r= .sc (.bool (decide (0≤v)&&decide (v<n)))∧h'=[]:=by
 refine zlm rfl ?_
 unfold zjO Kd
 refine za fun KY hKY=>?_
 simp only[go_sem,PW]
 apply hKY
 by_cases h:0≤v
 · refine za fun KY hKY=>?_
   simp only[go_sem,uK,h]
   apply hKY
   refine zi ?_
   simp only[go_sem,h]
 · refine za fun KY hKY=>?_
   simp only[go_sem,uK,h]
   apply hKY
   refine zi ?_
   simp only[go_sem,h]
def Jt (a b:Int):Int×Int:=if b<a then(b,a) else(a,b)
theorem U5 (a b:Int):zo Try.prog [] ziN [.sc (.int .i64 a),.sc (.int .i64 b)] [] fun r h'=>r= .agg (two (Jt a b))∧h'=[]:=by
 unfold Jt
 refine zlj rfl ?_
 unfold zjL W9
 refine za fun KY hKY=>?_
 simp only[go_sem,PO]
 apply hKY
 refine zf fun X1 hn1 he1 hr1=>?_
 refine za fun KY hKY=>?_
 simp only[go_sem,PN]
 apply hKY
 by_cases h:b<a
 · refine Zs (by first|rfl|(simp only[go_sem,h];try simp(disch:=omega) only[decide_eq_true,decide_eq_false])) ?_
   refine za fun KY hKY=>?_
   simp only[go_sem,PM]
   apply hKY
   refine zi ?_
   repeat (first|refine hr1 _ ?_)
   simp only[go_sem,h,Wb]
 · refine Zo (by first|rfl|(simp only[go_sem,h];try simp(disch:=omega) only[decide_eq_true,decide_eq_false])) ?_
   refine zg ?_
   repeat (first|refine hn1 _ ?_|refine he1 _ _ ?_)
   refine za fun KY hKY=>?_
   simp only[go_sem,PL]
   apply hKY
   refine zi ?_
   repeat (first|refine hr1 _ ?_)
   simp only[go_sem,h,Wb]
theorem Wf (n:Int)(es:List (Int×Int)):zo Try.prog [] zi2 [.agg [.sc (.int .i64 n),.imm 2 (Zj es)]] [] fun r h'=>r= .sc (.bool (ZB n es))∧h'=[]:=by
 refine zlB rfl ?_
 unfold zj3 Jg
 refine za fun KY hKY=>?_
 simp only[go_sem,O8]
 apply hKY
 refine zf fun X1 hn1 he1 hr1=>?_
 by_cases h:0≤n∧n≤4096∧es.length≤65536
 · obtain ⟨h0, h1,h2⟩:=h
   refine za fun KY hKY=>?_
   simp only[go_sem,yR]
   repeat (simp(disch:=omega) only[if_pos,if_neg,decide_eq_true,decide_eq_false,zL,zv,zh];try simp only[go_sem])
   apply hKY
   refine Zy ?_
   refine zg ?_
   repeat (first|refine hn1 _ ?_|refine he1 _ _ ?_)
   refine zf fun X2 hn2 he2 hr2=>?_
   refine za fun KY hKY=>?_
   simp only[go_sem,O7]
   apply hKY
   refine zm fun X3 hn3 he3 hf3 hr3=>?_
   try simp only[go_sem]
   refine zU (α:=Nat) [4,23,47,60] (fun k=>[(3,.sc (.int .i64 (k:Int)))]) (fun k=>[]) (fun k q=>k≤es.length∧q=es.length - k∧∀j,j<k→J7 n es j=true) (0) (es.length) rfl (by first|(simp only[go_sem,zd,ze];done)|with_reducible rfl|rfl) (⟨by omega,rfl,fun j h=>by omega⟩) ?_
   rintro k q ⟨hk,rfl,hz⟩ X4 hn4 he4 hr4
   simp only[go_sem,zd,ze]
   refine zf fun X5 hn5 he5 hr5=>?_
   refine za fun KY hKY=>?_
   simp only[go_sem,O6]
   apply hKY
   by_cases hk2:k<es.length
   · refine ZL ?_
     refine zg ?_
     repeat (first|refine hn5 _ ?_|refine he5 _ _ ?_|refine he4 _ _ ?_|refine hn3 _ ?_|refine he3 _ ?_|refine hf3 _ _ (by decide) ?_|refine hn2 _ ?_|refine he2 _ _ ?_|refine hn1 _ ?_|refine he1 _ _ ?_)
     refine zf fun X6 hn6 he6 hr6=>?_
     refine zm fun X7 hn7 he7 hf7 hr7=>?_
     have hx:es[k]?=some es[k]:=List.getElem?_eq_getElem hk2
     have hy:es.getD k (0,0)=es[k]:=by simp[List.getD_eq_getElem?_getD,hx]
     generalize es[k]=x at hx hy
     obtain⟨a,b⟩:=x
     refine za fun KY hKY=>?_
     simp only[go_sem,O5,zT hx,List.length_drop]
     repeat (simp(disch:=omega) only[if_pos,if_neg,decide_eq_true,decide_eq_false,zL,zv,zh,zT hx,List.length_drop];try simp only[go_sem,zT hx,List.length_drop])
     apply hKY
     have hiff:J7 n es k=true↔0≤a∧a<b∧b<n∧(k=0∨((es.getD (k - 1) (0,0)).1<a∨(es.getD (k - 1) (0,0)).1=a∧(es.getD (k - 1) (0,0)).2<b)):=by
      simp only[J7,hy,Bool.and_eq_true,Bool.or_eq_true,decide_eq_true_eq,and_assoc]
     refine zf fun X8 hn8 he8 hr8=>?_
     by_cases ha:a<0
     · have hf:J7 n es k=false:=by rw[Bool.eq_false_iff];intro h;have:=hiff.1 h;omega
       refine za fun KY hKY=>?_
       simp only[go_sem,yQ,ha]
       repeat (simp(disch:=omega) only[if_pos,if_neg,decide_eq_true,decide_eq_false,zL,zv,zh,ha];try simp only[go_sem,ha])
       apply hKY
       refine ZL ?_
       refine za fun KY hKY=>?_
       simp only[go_sem,wY]
       apply hKY
       refine zi ?_
       repeat (first|refine hr8 _ ?_|refine hr7 _ ?_|refine hr6 _ ?_|refine hr5 _ ?_|refine hr4 _ ?_|refine hr3 _ ?_|refine hr2 _ ?_|refine hr1 _ ?_)
       simp only[go_sem]
       rw[Z4 hk2 hf]
     · by_cases hb:b≤a
       · have hf:J7 n es k=false:=by rw[Bool.eq_false_iff];intro h;have:=hiff.1 h;omega
         refine za fun KY hKY=>?_
         simp only[go_sem,yQ,ha,hb]
         repeat (simp(disch:=omega) only[if_pos,if_neg,decide_eq_true,decide_eq_false,zL,zv,zh,ha,hb];try simp only[go_sem,ha,hb])
         apply hKY
         refine ZL ?_
         refine za fun KY hKY=>?_
         simp only[go_sem,wY]
         apply hKY
         refine zi ?_
         repeat (first|refine hr8 _ ?_|refine hr7 _ ?_|refine hr6 _ ?_|refine hr5 _ ?_|refine hr4 _ ?_|refine hr3 _ ?_|refine hr2 _ ?_|refine hr1 _ ?_)
         simp only[go_sem]
         rw[Z4 hk2 hf]
       · by_cases hc:n≤b
         · have hf:J7 n es k=false:=by rw[Bool.eq_false_iff];intro h;have:=hiff.1 h;omega
           refine za fun KY hKY=>?_
           simp only[go_sem,yQ,ha,hb,hc]
           repeat (simp(disch:=omega) only[if_pos,if_neg,decide_eq_true,decide_eq_false,zL,zv,zh,ha,hb,hc];try simp only[go_sem,ha,hb,hc])
           apply hKY
           refine ZL ?_
           refine za fun KY hKY=>?_
           simp only[go_sem,wY]
           apply hKY
           refine zi ?_
           repeat (first|refine hr8 _ ?_|refine hr7 _ ?_|refine hr6 _ ?_|refine hr5 _ ?_|refine hr4 _ ?_|refine hr3 _ ?_|refine hr2 _ ?_|refine hr1 _ ?_)
           simp only[go_sem]
           rw[Z4 hk2 hf]
         · refine za fun KY hKY=>?_
           simp only[go_sem,yQ,ha,hb,hc]
           repeat (simp(disch:=omega) only[if_pos,if_neg,decide_eq_true,decide_eq_false,zL,zv,zh,ha,hb,hc];try simp only[go_sem,ha,hb,hc])
           apply hKY
           refine Zy ?_
           refine zg ?_
           repeat (first|refine hn8 _ ?_|refine he8 _ _ ?_|refine hn7 _ ?_|refine he7 _ ?_|refine hf7 _ _ (by decide) ?_|refine hn6 _ ?_|refine he6 _ _ ?_|refine hn5 _ ?_|refine he5 _ _ ?_|refine he4 _ _ ?_|refine hn3 _ ?_|refine he3 _ ?_|refine hf3 _ _ (by decide) ?_|refine hn2 _ ?_|refine he2 _ _ ?_|refine hn1 _ ?_|refine he1 _ _ ?_)
           cases k with
           | zero=>
             have ht:J7 n es 0=true:=hiff.2 (by omega)
             refine zw fun KY hKY=>?_
             simp only[go_sem,Ua,show((0:Nat):Int)=0 from rfl]
             repeat (simp(disch:=omega) only[if_pos,if_neg,decide_eq_true,decide_eq_false,zL,zv,zh,show((0:Nat):Int)=0 from rfl];try simp only[go_sem,show((0:Nat):Int)=0 from rfl])
             apply hKY
             refine Zy ?_
             refine zg ?_
             repeat (first|refine hn8 _ ?_|refine he8 _ _ ?_|refine hn7 _ ?_|refine he7 _ ?_|refine hf7 _ _ (by decide) ?_|refine hn6 _ ?_|refine he6 _ _ ?_|refine hn5 _ ?_|refine he5 _ _ ?_|refine he4 _ _ ?_|refine hn3 _ ?_|refine he3 _ ?_|refine hf3 _ _ (by decide) ?_|refine hn2 _ ?_|refine he2 _ _ ?_|refine hn1 _ ?_|refine he1 _ _ ?_)
             refine zk fun KY hKY=>?_
             simp only[go_sem,WQ]
             repeat (simp(disch:=omega) only[if_pos,if_neg,decide_eq_true,decide_eq_false,zL,zv,zh];try simp only[go_sem])
             apply hKY
             repeat (first|refine hn8 _ ?_|refine he8 _ _ ?_|refine hn7 _ ?_|refine he7 _ ?_|refine hf7 _ _ (by decide) ?_|refine hn6 _ ?_|refine he6 _ _ ?_|refine hn5 _ ?_|refine he5 _ _ ?_)
             refine hn4 _ (0+1) (es.length - (0+1)) (by omega) (by first|(simp only[go_sem,zd,ze];done)|with_reducible rfl|rfl) ?_
             refine⟨hk2,rfl,fun j hj=>?_⟩
             rcases Nat.lt_or_ge j (0) with h3|h3
             · exact hz j h3
             · have:j=0:=by omega
               subst this;exact ht
           | succ m=>
             have hm:es[m]?=some (es[m]'(by omega)):=List.getElem?_eq_getElem _
             have hmy:es.getD (m+1 - 1) (0,0)=es[m]'(by omega):=by simp[List.getD_eq_getElem?_getD,hm]
             generalize es[m]'(by omega)=x at hm hmy
             obtain⟨c,d⟩:=x
             rw[hmy] at hiff
             have hm0:((m+1:Nat):Int)>0:=by omega
             refine zw fun KY hKY=>?_
             simp only[go_sem,Ua,Ww,zT hm,List.length_drop,hm0]
             repeat (simp(disch:=omega) only[if_pos,if_neg,decide_eq_true,decide_eq_false,zL,zv,zh,Ww,zT hm,List.length_drop,hm0];try simp only[go_sem,Ww,zT hm,List.length_drop,hm0])
             refine zA rfl (by simp only[go_sem]<;>rfl) ((zaP (c,d) (a,b)).mono ?_)
             rintro rr hh ⟨rfl,rfl⟩
             refine⟨rfl,rfl,rfl,?_⟩
             cases hq:W4 (c,d) (a,b) with
             | false=>
               have hq':=of_decide_eq_false hq
               have hf:J7 n es (m+1)=false:=by rw[Bool.eq_false_iff];intro h;have:=(hiff.1 h).2.2.2;simp only at this hq';omega
               try simp only[go_sem,hq]
               repeat (simp(disch:=omega) only[if_pos,if_neg,decide_eq_true,decide_eq_false,zL,zv,zh,hq];try simp only[go_sem,hq])
               apply hKY
               refine ZL ?_
               refine za fun KY hKY=>?_
               simp only[go_sem,O4]
               apply hKY
               refine zi ?_
               repeat (first|refine hr8 _ ?_|refine hr7 _ ?_|refine hr6 _ ?_|refine hr5 _ ?_|refine hr4 _ ?_|refine hr3 _ ?_|refine hr2 _ ?_|refine hr1 _ ?_)
               simp only[go_sem]
               rw[Z4 hk2 hf]
             | true=>
               have hq':=of_decide_eq_true hq
               have ht:J7 n es (m+1)=true:=hiff.2 (by simp only at hq' ⊢;omega)
               try simp only[go_sem,hq]
               repeat (simp(disch:=omega) only[if_pos,if_neg,decide_eq_true,decide_eq_false,zL,zv,zh,hq];try simp only[go_sem,hq])
               apply hKY
               refine Zy ?_
               refine zg ?_
               repeat (first|refine hn8 _ ?_|refine he8 _ _ ?_|refine hn7 _ ?_|refine he7 _ ?_|refine hf7 _ _ (by decide) ?_|refine hn6 _ ?_|refine he6 _ _ ?_|refine hn5 _ ?_|refine he5 _ _ ?_|refine he4 _ _ ?_|refine hn3 _ ?_|refine he3 _ ?_|refine hf3 _ _ (by decide) ?_|refine hn2 _ ?_|refine he2 _ _ ?_|refine hn1 _ ?_|refine he1 _ _ ?_)
               refine zk fun KY hKY=>?_
               simp only[go_sem,WQ]
               repeat (simp(disch:=omega) only[if_pos,if_neg,decide_eq_true,decide_eq_false,zL,zv,zh];try simp only[go_sem])
               apply hKY
               repeat (first|refine hn8 _ ?_|refine he8 _ _ ?_|refine hn7 _ ?_|refine he7 _ ?_|refine hf7 _ _ (by decide) ?_|refine hn6 _ ?_|refine he6 _ _ ?_|refine hn5 _ ?_|refine he5 _ _ ?_)
               refine hn4 _ (m+1+1) (es.length - (m+1+1)) (by omega) (by first|(simp only[go_sem,zd,ze];done)|with_reducible rfl|rfl) ?_
               refine⟨hk2,rfl,fun j hj=>?_⟩
               rcases Nat.lt_or_ge j (m+1) with h3|h3
               · exact hz j h3
               · have:j=m+1:=by omega
                 subst this;exact ht
   · refine Zy ?_
     refine zy ?_
     repeat (first|refine hn5 _ ?_|refine he5 _ _ ?_|refine he4 _ _ ?_|refine hn3 _ ?_|refine he3 _ ?_|refine hf3 _ _ (by decide) ?_|refine hn2 _ ?_|refine he2 _ _ ?_|refine hn1 _ ?_|refine he1 _ _ ?_)
     refine za fun KY hKY=>?_
     simp only[go_sem,VJ]
     apply hKY
     refine zi ?_
     repeat (first|refine hr5 _ ?_|refine hr4 _ ?_|refine hr3 _ ?_|refine hr2 _ ?_|refine hr1 _ ?_)
     simp only[go_sem]
     rw[yn h0 h1 h2 fun i hi=>hz i (by omega)]
 · by_cases h0:n<0
   · refine za fun KY hKY=>?_
     simp only[go_sem,yR,h0]
     repeat (simp(disch:=omega) only[if_pos,if_neg,decide_eq_true,decide_eq_false,zL,zv,zh,h0];try simp only[go_sem,h0])
     apply hKY
     refine ZL ?_
     refine za fun KY hKY=>?_
     simp only[go_sem,wZ]
     apply hKY
     refine zi ?_
     repeat (first|refine hr1 _ ?_)
     simp only[go_sem]
     rw[show ZB n es=false by rw[Bool.eq_false_iff];intro h';simp only[ZB,Bool.and_eq_true,decide_eq_true_eq] at h';omega]
   · by_cases h1:4096<n
     · refine za fun KY hKY=>?_
       simp only[go_sem,yR,h0,h1]
       repeat (simp(disch:=omega) only[if_pos,if_neg,decide_eq_true,decide_eq_false,zL,zv,zh,h0,h1];try simp only[go_sem,h0,h1])
       apply hKY
       refine ZL ?_
       refine za fun KY hKY=>?_
       simp only[go_sem,wZ]
       apply hKY
       refine zi ?_
       repeat (first|refine hr1 _ ?_)
       simp only[go_sem]
       rw[show ZB n es=false by rw[Bool.eq_false_iff];intro h';simp only[ZB,Bool.and_eq_true,decide_eq_true_eq] at h';omega]
     · refine za fun KY hKY=>?_
       simp only[go_sem,yR,h0,h1]
       repeat (simp(disch:=omega) only[if_pos,if_neg,decide_eq_true,decide_eq_false,zL,zv,zh,h0,h1];try simp only[go_sem,h0,h1])
       apply hKY
       refine ZL ?_
       refine za fun KY hKY=>?_
       simp only[go_sem,wZ]
       apply hKY
       refine zi ?_
       repeat (first|refine hr1 _ ?_)
       simp only[go_sem]
       rw[show ZB n es=false by rw[Bool.eq_false_iff];intro h';simp only[ZB,Bool.and_eq_true,decide_eq_true_eq] at h';omega]
theorem zdz (n:Int)(es:List (Int×Int))(a b:Int):zo Try.prog [] ziF [.agg [.sc (.int .i64 n),.imm 2 (Zj es)],.sc (.int .i64 a),.sc (.int .i64 b)] [] fun r h'=>(∃k:Int,r= .sc (.int .i64 k)∧(0≤k↔ZB n es=true∧Jt a b∈es))∧h'=[]:=by
 refine zk8 rfl ?_
 unfold zjA JQ
 refine za fun KY hKY=>?_
 simp only[go_sem,pQ]
 apply hKY
 refine zf fun X1 hn1 he1 hr1=>?_
 refine za fun KY hKY=>?_
 simp only[go_sem,pP]
 refine zA rfl (by simp only[go_sem]<;>rfl) ((Wf _ _).mono ?_)
 rintro rr hh ⟨rfl,rfl⟩
 refine⟨rfl,rfl,rfl,?_⟩
 simp only[go_sem]
 apply hKY
 cases hR:ZB n es with
 | false=>
   refine ZL ?_
   refine za fun KY hKY=>?_
   simp only[go_sem,pO]
   apply hKY
   refine zi ?_
   repeat (first|refine hr1 _ ?_)
   simp only[go_sem]
   exact⟨-1,rfl,by simp[hR]⟩
 | true=>
   have hlen:es.length≤65536:=by simp only[ZB,Bool.and_eq_true,decide_eq_true_eq] at hR;omega
   refine Zy ?_
   refine zg ?_
   repeat (first|refine hn1 _ ?_|refine he1 _ _ ?_)
   refine za fun KY hKY=>?_
   simp only[go_sem,pN]
   refine zA rfl (by simp only[go_sem]<;>rfl) ((U5 _ _).mono ?_)
   rintro rr hh ⟨rfl,rfl⟩
   refine⟨rfl,rfl,rfl,?_⟩
   generalize hT:Jt a b=e
   obtain⟨c,d⟩:=e
   simp only[Wb]
   simp only[go_sem]
   apply hKY
   refine zf fun X2 hn2 he2 hr2=>?_
   refine za fun KY hKY=>?_
   simp only[go_sem,pM]
   apply hKY
   refine zm fun X3 hn3 he3 hf3 hr3=>?_
   try simp only[go_sem]
   refine zU (α:=Nat) [19,28] (fun k=>[(8,.sc (.int .i64 (k:Int)))]) (fun k=>[]) (fun k q=>k≤es.length∧q=es.length - k∧∀j,j<k→es.getD j (0,0)≠(c,d)) (0) (es.length) rfl (by first|(simp only[go_sem,zd,ze];done)|with_reducible rfl|rfl) (⟨by omega,rfl,fun j h=>by omega⟩) ?_
   rintro k q ⟨hk,rfl,hz⟩ X4 hn4 he4 hr4
   simp only[go_sem,zd,ze]
   refine zf fun X5 hn5 he5 hr5=>?_
   refine za fun KY hKY=>?_
   simp only[go_sem,pL]
   apply hKY
   by_cases hk2:k<es.length
   · refine ZL ?_
     refine zg ?_
     repeat (first|refine hn5 _ ?_|refine he5 _ _ ?_|refine he4 _ _ ?_|refine hn3 _ ?_|refine he3 _ ?_|refine hf3 _ _ (by decide) ?_|refine hn2 _ ?_|refine he2 _ _ ?_|refine hn1 _ ?_|refine he1 _ _ ?_)
     refine zf fun X6 hn6 he6 hr6=>?_
     refine zm fun X7 hn7 he7 hf7 hr7=>?_
     have hx:es[k]?=some es[k]:=List.getElem?_eq_getElem hk2
     have hy:es.getD k (0,0)=es[k]:=by simp[List.getD_eq_getElem?_getD,hx]
     generalize es[k]=x at hx hy
     obtain⟨u,v⟩:=x
     refine zw fun KY hKY=>?_
     simp only[go_sem,pK,zT hx,List.length_drop]
     repeat (simp(disch:=omega) only[if_pos,if_neg,decide_eq_true,decide_eq_false,zL,zv,zh,zT hx,List.length_drop];try simp only[go_sem,zT hx,List.length_drop])
     apply hKY
     by_cases h2:(u,v)=(c,d)
     · refine Zs (by first|rfl|(simp only[go_sem,h2];try simp(disch:=omega) only[decide_eq_true,decide_eq_false])) ?_
       refine za fun KY hKY=>?_
       simp only[go_sem,pJ]
       apply hKY
       refine zi ?_
       repeat (first|refine hr7 _ ?_|refine hr6 _ ?_|refine hr5 _ ?_|refine hr4 _ ?_|refine hr3 _ ?_|refine hr2 _ ?_|refine hr1 _ ?_)
       simp only[go_sem]
       refine⟨(k:Int),rfl,?_⟩
       rw[hT,←h2]
       exact⟨fun _=>⟨hR,List.mem_iff_getElem?.2 ⟨k,hx⟩⟩,fun _=>by omega⟩
     · refine Zo (by first|rfl|(simp only[go_sem,h2];try simp(disch:=omega) only[decide_eq_true,decide_eq_false])) ?_
       refine zg ?_
       repeat (first|refine hn7 _ ?_|refine he7 _ ?_|refine hf7 _ _ (by decide) ?_|refine hn6 _ ?_|refine he6 _ _ ?_|refine hn5 _ ?_|refine he5 _ _ ?_|refine he4 _ _ ?_|refine hn3 _ ?_|refine he3 _ ?_|refine hf3 _ _ (by decide) ?_|refine hn2 _ ?_|refine he2 _ _ ?_|refine hn1 _ ?_|refine he1 _ _ ?_)
       refine zk fun KY hKY=>?_
       simp only[go_sem,pI]
       repeat (simp(disch:=omega) only[if_pos,if_neg,decide_eq_true,decide_eq_false,zL,zv,zh];try simp only[go_sem])
       apply hKY
       repeat (first|refine hn7 _ ?_|refine he7 _ ?_|refine hf7 _ _ (by decide) ?_|refine hn6 _ ?_|refine he6 _ _ ?_|refine hn5 _ ?_|refine he5 _ _ ?_)
       refine hn4 _ (k+1) (es.length - (k+1)) (by omega) (by first|(simp only[go_sem,zd,ze];done)|with_reducible rfl|rfl) ?_
       refine⟨hk2,rfl,fun j hj=>?_⟩
       rcases Nat.lt_or_ge j k with h3|h3
       · exact hz j h3
       · have:j=k:=by omega
         subst this;rw[hy];exact h2
   · refine Zy ?_
     refine zy ?_
     repeat (first|refine hn5 _ ?_|refine he5 _ _ ?_|refine he4 _ _ ?_|refine hn3 _ ?_|refine he3 _ ?_|refine hf3 _ _ (by decide) ?_|refine hn2 _ ?_|refine he2 _ _ ?_|refine hn1 _ ?_|refine he1 _ _ ?_)
     refine za fun KY hKY=>?_
     simp only[go_sem,pH]
     apply hKY
     refine zi ?_
     repeat (first|refine hr5 _ ?_|refine hr4 _ ?_|refine hr3 _ ?_|refine hr2 _ ?_|refine hr1 _ ?_)
     simp only[go_sem]
     refine⟨-1,rfl,?_⟩
     have:¬(c,d)∈es:=by
      intro hm
      obtain⟨j,hj⟩:=List.mem_iff_getElem?.1 hm
      have hjl:=(List.getElem?_eq_some_iff.1 hj).1
      refine hz j (by omega) ?_
      rw[List.getD_eq_getElem?_getD,hj];rfl
     rw[hT]
     simp[this]
theorem zhr (n:Int)(es:List (Int×Int))(a b:Int):zo Try.prog [] ziO [.agg [.sc (.int .i64 n),.imm 2 (Zj es)],.sc (.int .i64 a),.sc (.int .i64 b)] [] fun r h'=>r= .sc (.bool (ZB n es&&decide (Jt a b∈es)))∧h'=[]:=by
 refine zll rfl ?_
 unfold zjN Kc
 refine za fun KY hKY=>?_
 simp only[go_sem,PV]
 apply hKY
 refine za fun KY hKY=>?_
 simp only[go_sem,PU]
 refine zA rfl (by simp only[go_sem]<;>rfl) ((zdz n es a b).mono ?_)
 rintro rr hh ⟨⟨k,rfl,hk⟩,rfl⟩
 refine⟨?_,?_,?_,?_⟩
 iterate 3 (first|rfl|simp only[go_sem])
 simp only[go_sem]
 apply hKY
 refine zi ?_
 simp only[go_sem]
 have:decide (0≤k)=(ZB n es&&decide (Jt a b∈es)):=by
  rw[Bool.eq_iff_iff];simp[hk]
 rw[this]
theorem Qj {es:Es}{a b:Nat}:((a:Int),(b:Int))∈zP es↔(a,b)∈es:=by
 simp only[zP,List.mem_map,Prod.mk.injEq]
 constructor
 · rintro⟨⟨x,y⟩,h,h1,h2⟩
   have e1:x=a:=by omega
   have e2:y=b:=by omega
   rw[←e1,←e2];exact h
 · intro h;exact⟨(a,b),h,rfl,rfl⟩
theorem Xy (a b:Nat×Nat):W4 ((a.1:Int),(a.2:Int)) ((b.1:Int),(b.2:Int))=decide (ZZ a b):=by
 have h:W4 ((a.1:Int),(a.2:Int)) ((b.1:Int),(b.2:Int))=true↔ZZ a b:=by
  unfold W4 ZZ
  rw[decide_eq_true_iff]
  simp only
  omega
 rw[Bool.eq_iff_iff,h,decide_eq_true_iff]
theorem zhp {n:Nat}{es:Es}(g:GR n es)(a b:Nat)(hm:(a,b)∉es):zo Try.prog [] zfC [.imm 2 (Zj (zP es)),.agg [.sc (.int .i64 (a:Int)),.sc (.int .i64 (b:Int))]] [] fun r h'=>r= .own (some 2) (Zj (zP (Wh es (a,b))))∧h'=[]:=by
 have hlen:=g.hm
 refine zlk rfl ?_
 unfold zjM Yu
 refine za fun KY hKY=>?_
 simp only[go_sem,PS]
 apply hKY
 refine za fun KY hKY=>?_
 simp only[go_sem,PR,zx]
 apply hKY
 refine zf fun X1 hn1 he1 hr1=>?_
 refine zm fun X2 hn2 he2 hf2 hr2=>?_
 try simp only[go_sem]
 refine zU (α:=Nat) [18] (fun k=>[(5,.sc (.int .i64 (k:Int)))]) (fun k=>[]) (fun k q=>k≤es.length∧q=k∧∀x∈es.drop k,¬ZZ x (a,b)) (es.length) (es.length) rfl (by first|(simp only[go_sem,zd,ze];done)|with_reducible rfl|rfl) (⟨Nat.le_refl _,rfl,fun x h=>by simp at h⟩) ?_
 rintro k q ⟨hk,rfl,hz⟩ X3 hn3 he3 hr3
 simp only[go_sem,zd,ze]
 refine zf fun X4 hn4 he4 hr4=>?_
 have fin:(∀x∈es.take q,ZZ x (a,b))→X1 .normal {vs:=[(0,.imm 2 (Zj (zP es))),(1,.agg [.sc (.int .i64 (a:Int)),.sc (.int .i64 (b:Int))]),(3,.own none [.sc (.int .i64 (a:Int)),.sc (.int .i64 (b:Int))]),(4,.sc (.slice none 0 0)),(5,.sc (.int .i64 (q:Int))),(18,.sc (.bool false))],ts:=[],h:=[]}:=by
  intro hl
  refine hn1 _ ?_
  have e:=zbu hk hl hz
  have by1:es.length*2*16≤140737488355328:=by omega
  have hq:(q:Int)≤(es.length:Int):=by omega
  have e0:(zP es).take (q - 0)=zP (es.take q):=by simp[zP]
  have e1:((zP es).drop q).take (es.length - q)=zP (es.drop q):=by rw[zb0];exact List.take_of_length_le (by simp[zP])
  have e2:Zj (zP (es.take q))++[.sc (.int .i64 (a:Int)),.sc (.int .i64 (b:Int))]++Zj (zP (es.drop q))=Zj (zP (Wh es (a,b))):=by
   rw[←e,castE_append,twos_append,List.append_assoc]
   rfl
  refine zw fun KY hKY=>?_
  simp only[go_sem,PP,zx,XU,e0,e1,qB,List.length_take,List.length_drop,List.length_append]
  repeat (simp(disch:=omega) only[if_pos,if_neg,decide_eq_true,decide_eq_false,zL,zv,zh,zx,XU,e0,e1,qB,List.length_take,List.length_drop,List.length_append];try simp only[go_sem,zx,XU,e0,e1,qB,List.length_take,List.length_drop,List.length_append])
  refine(fun H=>by refine⟨⟨⟨⟨hKY _ ?_,hKY _ ?_⟩,hKY _ ?_⟩,⟨⟨⟨hKY _ ?_,hKY _ ?_⟩,hKY _ ?_⟩,⟨hKY _ ?_,hKY _ ?_⟩⟩⟩,⟨⟨⟨⟨hKY _ ?_,hKY _ ?_⟩,hKY _ ?_⟩,hKY _ ?_⟩,⟨⟨hKY _ ?_,hKY _ ?_⟩,hKY _ ?_⟩⟩⟩<;>(simp only[go_sem];exact H)) ?_
  refine zi ?_
  repeat (first|refine hr4 _ ?_|refine hr3 _ ?_|refine hr2 _ ?_|refine hr1 _ ?_)
  simp only[go_sem,e2]
 cases q with
 | zero=>
   refine zw fun KY hKY=>?_
   simp only[go_sem,uJ,show((0:Nat):Int)=0 from rfl,Int.lt_irrefl]
   repeat (simp(disch:=omega) only[if_pos,if_neg,decide_eq_true,decide_eq_false,zL,zv,zh,show((0:Nat):Int)=0 from rfl,Int.lt_irrefl];try simp only[go_sem,show((0:Nat):Int)=0 from rfl,Int.lt_irrefl])
   apply hKY
   simp only[go_sem]
   refine Zy ?_
   exact zy (he4 _ _ (he3 _ _ (he2 _ (fin (fun x h=>by simp at h)))))
 | succ m=>
   have hx:es[m]?=some (es[m]'(by omega)):=List.getElem?_eq_getElem _
   have hy:es[m]'(by omega)∈es:=List.getElem_mem _
   generalize es[m]'(by omega)=x at hx hy
   obtain⟨c,d⟩:=x
   have hx':=Qk hx
   have hm0:((m+1:Nat):Int)>0:=by omega
   refine zw fun KY hKY=>?_
   simp only[go_sem,uJ,Ww,zT hx',List.length_drop,zx,hm0]
   repeat (simp(disch:=omega) only[if_pos,if_neg,decide_eq_true,decide_eq_false,zL,zv,zh,Ww,zT hx',List.length_drop,zx,hm0];try simp only[go_sem,Ww,zT hx',List.length_drop,zx,hm0])
   refine zA rfl (by simp only[go_sem]<;>rfl) ((zaP ((a:Int),(b:Int)) ((c:Int),(d:Int))).mono ?_)
   rintro rr hh ⟨rfl,rfl⟩
   refine⟨rfl,rfl,rfl,?_⟩
   try simp only[go_sem,Xy (a,b) (c,d)]
   repeat (simp(disch:=omega) only[if_pos,if_neg,decide_eq_true,decide_eq_false,zL,zv,zh,Xy (a,b) (c,d)];try simp only[go_sem,Xy (a,b) (c,d)])
   apply hKY
   by_cases hl:ZZ (a,b) (c,d)
   · refine Zs (by first|rfl|(simp only[go_sem,hl];try simp(disch:=omega) only[decide_eq_true,decide_eq_false])) ?_
     refine zg ?_
     repeat (first|refine hn4 _ ?_|refine he4 _ _ ?_|refine he3 _ _ ?_|refine hn2 _ ?_|refine he2 _ ?_|refine hf2 _ _ (by decide) ?_|refine hn1 _ ?_|refine he1 _ _ ?_)
     refine zm fun X5 hn5 he5 hf5 hr5=>?_
     refine zk fun KY hKY=>?_
     simp only[go_sem,PQ,Ww]
     repeat (simp(disch:=omega) only[if_pos,if_neg,decide_eq_true,decide_eq_false,zL,zv,zh,Ww];try simp only[go_sem,Ww])
     apply hKY
     repeat (first|refine hn5 _ ?_|refine he5 _ ?_|refine hf5 _ _ (by decide) ?_|refine hn4 _ ?_|refine he4 _ _ ?_)
     refine hn3 _ (m) (m) (by omega) (by first|(simp only[go_sem,zd,ze];done)|with_reducible rfl|rfl) ?_
     refine⟨by omega,rfl,fun x hxm=>?_⟩
     rw[List.drop_eq_getElem_cons (by omega)] at hxm
     rcases List.mem_cons.1 hxm with h|h
     · subst h
       rw[(List.getElem?_eq_some_iff.1 hx).2]
       exact fun h=>QR _ (qJ _ _ _ hl h)
     · exact hz x h
   · simp only[go_sem,hl]
     refine Zy ?_
     refine zy (he4 _ _ (he3 _ _ (he2 _ (fin fun x hxm=>?_))))
     have hcd:ZZ (c,d) (a,b):=by
      have:¬(c=a∧d=b):=fun h=>hm (by rw[←h.1,←h.2];exact hy)
      unfold ZZ at*
      simp only at*
      omega
     rw[List.take_add_one,hx] at hxm
     rcases List.mem_append.1 hxm with h|h
     · refine qJ _ _ _ ?_ hcd
       obtain⟨j,hj⟩:=List.mem_iff_getElem?.1 h
       rw[List.getElem?_take] at hj
       split at hj
       · rename_i hjm
         obtain⟨h1,h2⟩:=List.getElem?_eq_some_iff.1 hj
         obtain⟨h3,h4⟩:=List.getElem?_eq_some_iff.1 hx
         rw[←h2,←h4]
         exact List.pairwise_iff_getElem.1 g.up j m h1 h3 hjm
       · cases hj
     · simp at h;subst h;exact hcd
theorem ze1 {n:Nat}{es:Es}(g:GR n es)(a b:Nat)(hm:(a,b)∉es):zo Try.prog [] zfC [.imm 2 (Zj (zP es)),.agg [.sc (.int .i64 (a:Int)),.sc (.int .i64 (b:Int))]] [] fun r h'=>r= .imm 2 (Zj (zP (Wh es (a,b))))∧h'=[]:=by
 refine(zhp g a b hm).frz.mono ?_
 rintro r h' ⟨r0,rfl,rfl,rfl⟩
 exact⟨by simp only[zc.freeze,yd],rfl⟩
def kZ (n:Nat)(es:Es)(a b:Int)(x y:Nat):Prop:=Jt a b=((x:Int),(y:Int))∧x<y∧y<n∧(x,y)∉es∧es.length<65536
def zmR (n:Nat)(es:Es)(a b:Int)(r:zc):Prop:=
 (∃x y:Nat,kZ n es a b x y∧r= .tup [.agg [.sc (.int .i64 (n:Int)),.imm 2 (Zj (zP (Wh es (x,y))))],.sc (.int .i64 0)])∨
 (∃e:Int,e≠0∧(¬∃x y,kZ n es a b x y)∧r= .tup [.agg [.sc (.int .i64 0),.sc (.slice none 0 0)],.sc (.int .i64 e)])
theorem zcn {n:Nat}{es:Es}(g:GR n es)(a b:Int):zo Try.prog [] zi0 [.agg [.sc (.int .i64 (n:Int)),.imm 2 (Zj (zP es))],.sc (.int .i64 a),.sc (.int .i64 b)] [] fun r h'=>zmR n es a b r∧h'=[]:=by
 refine zlz rfl ?_
 unfold zj1 jq
 refine za fun KY hKY=>?_
 simp only[go_sem,OY]
 apply hKY
 refine zf fun X1 hn1 he1 hr1=>?_
 refine zm fun X2 hn2 he2 hf2 hr2=>?_
 refine za fun KY hKY=>?_
 simp only[go_sem,OX]
 refine zA rfl (by simp only[go_sem]<;>rfl) ((Wf _ _).mono ?_)
 rintro rr hh ⟨rfl,rfl⟩
 refine⟨rfl,rfl,rfl,?_⟩
 simp only[go_sem,Jk g]
 apply hKY
 refine Zy ?_
 by_cases hv:(0≤a∧a<n)∧(0≤b∧b<n)
 · obtain⟨⟨h1,h2⟩,h3,h4⟩:=hv
   refine za fun KY hKY=>?_
   simp only[go_sem,yP]
   repeat (simp(disch:=omega) only[if_pos,if_neg,decide_eq_true,decide_eq_false,zL,zv,zh];try simp only[go_sem])
   refine zA rfl (by simp only[go_sem]<;>rfl) ((vz _ _ _).mono ?_)
   rintro rr hh ⟨rfl,rfl⟩
   refine⟨rfl,rfl,rfl,?_⟩
   try simp only[go_sem,h1,h2]
   repeat (simp(disch:=omega) only[if_pos,if_neg,decide_eq_true,decide_eq_false,zL,zv,zh,h1,h2];try simp only[go_sem,h1,h2])
   refine zA rfl (by simp only[go_sem]<;>rfl) ((vz _ _ _).mono ?_)
   rintro rr hh ⟨rfl,rfl⟩
   refine⟨rfl,rfl,rfl,?_⟩
   try simp only[go_sem,h3,h4]
   repeat (simp(disch:=omega) only[if_pos,if_neg,decide_eq_true,decide_eq_false,zL,zv,zh,h3,h4];try simp only[go_sem,h3,h4])
   apply hKY
   refine Zy ?_
   by_cases hab:a=b
   · subst hab
     refine za fun KY hKY=>?_
     simp only[go_sem,u6]
     apply hKY
     refine ZL ?_
     refine za fun KY hKY=>?_
     simp only[go_sem,OW]
     apply hKY
     refine zi ?_
     repeat (first|refine hr2 _ ?_|refine hr1 _ ?_)
     simp only[go_sem]
     refine .inr ⟨5,by decide,?_,rfl⟩
     rintro⟨x,y,h,hxy,_⟩
     unfold Jt at h
     rw[if_neg (by omega)] at h
     have:=congrArg Prod.fst h;have:=congrArg Prod.snd h;simp only at*;omega
   · refine za fun KY hKY=>?_
     simp only[go_sem,u6,hab]
     apply hKY
     refine Zy ?_
     obtain⟨x,y,ht,hxy,hyn⟩:∃x y:Nat,Jt a b=((x:Int),(y:Int))∧x<y∧y<n:=by
      unfold Jt
      split
      · exact⟨b.toNat,a.toNat,by rw[Int.toNat_of_nonneg h3,Int.toNat_of_nonneg h1],by omega,by omega⟩
      · exact⟨a.toNat,b.toNat,by rw[Int.toNat_of_nonneg h3,Int.toNat_of_nonneg h1],by omega,by omega⟩
     refine za fun KY hKY=>?_
     simp only[go_sem,OV]
     refine zA rfl (by simp only[go_sem]<;>rfl) ((zhr _ _ _ _).mono ?_)
     rintro rr hh ⟨rfl,rfl⟩
     refine⟨rfl,rfl,rfl,?_⟩
     simp only[go_sem,Jk g,ht,Qj]
     apply hKY
     by_cases hm:(x,y)∈es
     · refine Zs (by first|rfl|(simp only[go_sem,hm];try simp(disch:=omega) only[decide_eq_true,decide_eq_false])) ?_
       refine za fun KY hKY=>?_
       simp only[go_sem,OU]
       apply hKY
       refine zi ?_
       repeat (first|refine hr2 _ ?_|refine hr1 _ ?_)
       simp only[go_sem]
       refine .inr ⟨6,by decide,?_,rfl⟩
       rintro⟨x',y',h,_,_,h',_⟩
       rw[ht] at h
       have e1:=congrArg Prod.fst h;have e2:=congrArg Prod.snd h
       have e3:x=x':=by simp only at e1;omega
       have e4:y=y':=by simp only at e2;omega
       rw[←e3,←e4] at h';exact h' hm
     · refine Zo (by first|rfl|(simp only[go_sem,hm];try simp(disch:=omega) only[decide_eq_true,decide_eq_false])) ?_
       by_cases hl:es.length<65536
       · refine za fun KY hKY=>?_
         simp only[go_sem,u5,zx]
         repeat (simp(disch:=omega) only[if_pos,if_neg,decide_eq_true,decide_eq_false,zL,zv,zh,zx];try simp only[go_sem,zx])
         apply hKY
         refine Zy ?_
         refine zg ?_
         repeat (first|refine hn2 _ ?_|refine he2 _ ?_|refine hf2 _ _ (by decide) ?_|refine hn1 _ ?_|refine he1 _ _ ?_)
         refine zw fun KY hKY=>?_
         simp only[go_sem,VH]
         refine zA rfl (by simp only[go_sem]<;>rfl) ((U5 _ _).mono ?_)
         rintro rr hh ⟨rfl,rfl⟩
         refine⟨rfl,rfl,rfl,?_⟩
         simp only[go_sem,ht,Wb]
         apply zn [] [] false none rfl
         iterate 8 (first|(simp only[go_sem,zp]<;>rfl)|rfl)
         refine(ze1 g x y hm).mono ?_
         rintro _ _ ⟨rfl,rfl⟩
         refine⟨Nat.le_of_ble_eq_true rfl,(fun hh=>by cases hh),?_⟩
         simp only[go_sem,zr,zb.after]
         apply hKY
         refine zi ?_
         repeat (first|refine hr2 _ ?_|refine hr1 _ ?_)
         simp only[go_sem]
         exact .inl ⟨x,y,⟨ht,hxy,hyn,hm,hl⟩,rfl⟩
       · refine za fun KY hKY=>?_
         simp only[go_sem,u5,zx]
         repeat (simp(disch:=omega) only[if_pos,if_neg,decide_eq_true,decide_eq_false,zL,zv,zh,zx];try simp only[go_sem,zx])
         apply hKY
         refine ZL ?_
         refine za fun KY hKY=>?_
         simp only[go_sem,VI]
         apply hKY
         refine zi ?_
         repeat (first|refine hr2 _ ?_|refine hr1 _ ?_)
         simp only[go_sem]
         exact .inr ⟨8,by decide,fun⟨_,_,h⟩=>hl h.2.2.2.2,rfl⟩
 · have fin:¬∃x y,kZ n es a b x y:=by
    rintro⟨x,y,h,h1,h2,_⟩
    unfold Jt at h
    split at h<;>(have e1:=congrArg Prod.fst h;have e2:=congrArg Prod.snd h;simp only at e1 e2;omega)
   by_cases h1:0≤a
   · by_cases h2:a<n
     · refine za fun KY hKY=>?_
       simp only[go_sem,yP]
       repeat (simp(disch:=omega) only[if_pos,if_neg,decide_eq_true,decide_eq_false,zL,zv,zh];try simp only[go_sem])
       refine zA rfl (by simp only[go_sem]<;>rfl) ((vz _ _ _).mono ?_)
       rintro rr hh ⟨rfl,rfl⟩
       refine⟨rfl,rfl,rfl,?_⟩
       try simp only[go_sem,h1,h2]
       repeat (simp(disch:=omega) only[if_pos,if_neg,decide_eq_true,decide_eq_false,zL,zv,zh,h1,h2];try simp only[go_sem,h1,h2])
       refine zA rfl (by simp only[go_sem]<;>rfl) ((vz _ _ _).mono ?_)
       rintro rr hh ⟨rfl,rfl⟩
       refine⟨rfl,rfl,rfl,?_⟩
       by_cases h3:0≤b
       · try simp only[go_sem,h3]
         repeat (simp(disch:=omega) only[if_pos,if_neg,decide_eq_true,decide_eq_false,zL,zv,zh,h3];try simp only[go_sem,h3])
         apply hKY
         refine ZL ?_
         refine za fun KY hKY=>?_
         simp only[go_sem,yO]
         apply hKY
         refine zi ?_
         repeat (first|refine hr2 _ ?_|refine hr1 _ ?_)
         simp only[go_sem]
         exact .inr ⟨4,by decide,fin,rfl⟩
       · try simp only[go_sem,h3]
         repeat (simp(disch:=omega) only[if_pos,if_neg,decide_eq_true,decide_eq_false,zL,zv,zh,h3];try simp only[go_sem,h3])
         apply hKY
         refine ZL ?_
         refine za fun KY hKY=>?_
         simp only[go_sem,yO]
         apply hKY
         refine zi ?_
         repeat (first|refine hr2 _ ?_|refine hr1 _ ?_)
         simp only[go_sem]
         exact .inr ⟨4,by decide,fin,rfl⟩
     · refine za fun KY hKY=>?_
       simp only[go_sem,yP]
       repeat (simp(disch:=omega) only[if_pos,if_neg,decide_eq_true,decide_eq_false,zL,zv,zh];try simp only[go_sem])
       refine zA rfl (by simp only[go_sem]<;>rfl) ((vz _ _ _).mono ?_)
       rintro rr hh ⟨rfl,rfl⟩
       refine⟨rfl,rfl,rfl,?_⟩
       try simp only[go_sem,h1,h2]
       repeat (simp(disch:=omega) only[if_pos,if_neg,decide_eq_true,decide_eq_false,zL,zv,zh,h1,h2];try simp only[go_sem,h1,h2])
       apply hKY
       refine ZL ?_
       refine za fun KY hKY=>?_
       simp only[go_sem,yO]
       apply hKY
       refine zi ?_
       repeat (first|refine hr2 _ ?_|refine hr1 _ ?_)
       simp only[go_sem]
       exact .inr ⟨4,by decide,fin,rfl⟩
   · refine za fun KY hKY=>?_
     simp only[go_sem,yP]
     repeat (simp(disch:=omega) only[if_pos,if_neg,decide_eq_true,decide_eq_false,zL,zv,zh];try simp only[go_sem])
     refine zA rfl (by simp only[go_sem]<;>rfl) ((vz _ _ _).mono ?_)
     rintro rr hh ⟨rfl,rfl⟩
     refine⟨rfl,rfl,rfl,?_⟩
     try simp only[go_sem,h1]
     repeat (simp(disch:=omega) only[if_pos,if_neg,decide_eq_true,decide_eq_false,zL,zv,zh,h1];try simp only[go_sem,h1])
     apply hKY
     refine ZL ?_
     refine za fun KY hKY=>?_
     simp only[go_sem,yO]
     apply hKY
     refine zi ?_
     repeat (first|refine hr2 _ ?_|refine hr1 _ ?_)
     simp only[go_sem]
     exact .inr ⟨4,by decide,fin,rfl⟩
theorem zkn (n:Int)(k:Nat)(h0:0<k)(h1:k≤1000000000000):∃m:Nat,m<k∧IntKind.i64.wrap ((IntKind.u64.wrap n).tmod (IntKind.u64.wrap (k:Int)))=(m:Int):=by
 have hk:IntKind.u64.wrap (k:Int)=(k:Int):=by rw[IntKind.wrap_u64];omega
 rw[hk]
 have hw:0≤IntKind.u64.wrap n:=by
  rw[IntKind.wrap_u64];omega
 have e:(IntKind.u64.wrap n).tmod (k:Int)=(IntKind.u64.wrap n)%(k:Int):=Int.tmod_eq_emod_of_nonneg hw
 have h2:=Int.emod_nonneg (IntKind.u64.wrap n) (show(k:Int)≠0 by omega)
 have h3:=Int.emod_lt_of_pos (IntKind.u64.wrap n) (show(0:Int)<k by omega)
 refine⟨((IntKind.u64.wrap n)%(k:Int)).toNat,by omega,?_⟩
 rw[e,IntWalk.i64_in _ (by omega)]
 omega
theorem zce {k:Nat}(h:k<1000000000000)(h0:0<k):¬IntKind.u64.wrap (k:Int)=0:=by rw[IntKind.wrap_u64];omega
theorem zeM (n:Int)(JE:List Int)(V M:Nat)(hV:V≤4000)(hM:M≤10000)(he:JE.length≤1000000000000):zo Try.prog [] zmb [.sc (.int .i64 n),.imm 1 (zj JE),.sc (.int .i64 (V:Int)),.sc (.int .i64 (M:Int))] [] fun r h'=>(∃N es,GR N es∧N≤V∧es.length≤M∧r= .agg [.sc (.int .i64 (N:Int)),.imm 2 (Zj (zP es))])∧h'=[]:=by
 obtain⟨N,hN,hn⟩:=zkn n (V+1) (by omega) (by omega)
 refine zmi rfl ?_
 unfold zmr Q8
 refine za fun KY hKY=>?_
 simp only[go_sem,zcR]
 apply hKY
 refine za fun KY hKY=>?_
 simp only[go_sem,zcQ,zce,hn]
 repeat (simp(disch:=omega) only[if_pos,if_neg,decide_eq_true,decide_eq_false,zL,zv,zh,zce,hn];try simp only[go_sem,zce,hn])
 apply hKY
 refine za fun KY hKY=>?_
 simp only[go_sem,zcP]
 apply hKY
 refine zf fun X1 hn1 he1 hr1=>?_
 refine za fun KY hKY=>?_
 simp only[go_sem,zcO]
 apply hKY
 simp only[go_sem]
 refine jP [0,9,1] 2 (by simp only[go_sem]) ?_
 simp only[go_sem]
 refine Zv [0,9,1] (by simp only[go_sem];rfl) ?_
 simp only[go_sem]
 refine zm fun X2 hn2 he2 hf2 hr2=>?_
 try simp only[go_sem]
 refine zU (α:=Nat×Es) [11,12,41,69] (fun(i,es)=>[(10,.sc (.int .i64 (i:Int))),(9,.own none [.sc (.int .i64 (N:Int)),.imm 2 (Zj (zP es))])]) (fun(i,es)=>[]) (fun(i,es) q=>i≤401∧q=402 - i∧GR N es∧es.length≤M) ((0,[])) (402) rfl (by first|(simp only[go_sem,zd,ze];done)|with_reducible rfl|rfl) (⟨by omega,rfl,⟨by omega,by simp,by simp,.nil⟩,Nat.zero_le _⟩) ?_
 rintro⟨i,es⟩ q ⟨hi,rfl,g,hm⟩ X3 hn3 he3 hr3
 simp only[go_sem,zd,ze]
 refine zf fun X4 hn4 he4 hr4=>?_
 by_cases h1:i+1<JE.length
 · by_cases h2:es.length<M
   · by_cases h3:0<N
     · by_cases h4:i<400
       · refine za fun KY hKY=>?_
         simp only[go_sem,Yd,zx]
         repeat (simp(disch:=omega) only[if_pos,if_neg,decide_eq_true,decide_eq_false,zL,zv,zh,zx];try simp only[go_sem,zx])
         apply hKY
         refine ZL ?_
         refine zg ?_
         repeat (first|refine hn4 _ ?_|refine he4 _ _ ?_|refine he3 _ _ ?_|refine hn2 _ ?_|refine he2 _ ?_|refine hf2 _ _ (by decide) ?_|refine hn1 _ ?_|refine he1 _ _ ?_)
         refine zf fun X5 hn5 he5 hr5=>?_
         refine zm fun X6 hn6 he6 hf6 hr6=>?_
         have hx:JE[i]?=some (JE[i]'(by omega)):=List.getElem?_eq_getElem _
         have hx2:JE[i+1]?=some (JE[i+1]'(by omega)):=List.getElem?_eq_getElem _
         have hN0:¬IntKind.u64.wrap (N:Int)=0:=zce (by omega) h3
         obtain⟨a,ha,hna⟩:=zkn (JE.getD i 0) N h3 (by omega)
         obtain⟨b,hb,hnb⟩:=zkn (JE.getD (i+1) 0) N h3 (by omega)
         have h1':i<JE.length:=by omega
         have hw:IntKind.i64.wrap ((i:Int)+2)=((i+2:Nat):Int):=by rw[IntWalk.i64_in _ (by omega)];omega
         refine zw fun KY hKY=>?_
         simp only[go_sem,zcN,hN0,hna,hnb,zh h1,zh h1',h1,h1',zL (show i<4611686018427387904 by omega)]
         refine⟨?_,?_⟩
         · apply zn [] [] false none rfl
           iterate 8 (first|(simp only[go_sem,zp]<;>rfl)|rfl)
           refine(zcn g (a:Int) (b:Int)).mono ?_
           rintro _ _ ⟨⟨x,y,ha,rfl⟩|⟨e,he,ha,rfl⟩,rfl⟩
           · refine⟨Nat.le_of_ble_eq_true rfl,(fun hh=>by cases hh),?_⟩
             simp only[go_sem,zr,zb.after]
             apply hKY
             refine za fun KY hKY=>?_
             simp only[go_sem,wL]
             apply hKY
             simp only[go_sem]
             refine ZL ?_
             refine zk fun KY hKY=>?_
             simp only[go_sem,kT]
             apply hKY
             repeat (first|refine hn6 _ ?_|refine he6 _ ?_|refine hf6 _ _ (by decide) ?_|refine hn5 _ ?_|refine he5 _ _ ?_|refine hn4 _ ?_|refine he4 _ _ ?_|refine he3 _ _ ?_|refine hn2 _ ?_|refine he2 _ ?_|refine hf2 _ _ (by decide) ?_|refine hn1 _ ?_|refine he1 _ _ ?_)
             refine zk fun KY hKY=>?_
             simp only[go_sem,wK,hw]
             apply hKY
             repeat (first|refine hn6 _ ?_|refine he6 _ ?_|refine hf6 _ _ (by decide) ?_|refine hn5 _ ?_|refine he5 _ _ ?_|refine hn4 _ ?_|refine he4 _ _ ?_)
             refine hn3 _ ((i+2,Wh es (x,y))) (402 - (i+2)) (by omega) (by first|(simp only[go_sem,zd,ze];done)|with_reducible rfl|rfl) ?_
             exact⟨by omega,rfl,g.put ha.2.1 ha.2.2.1 ha.2.2.2.1 ha.2.2.2.2,by rw[Xe];omega⟩
           · refine⟨Nat.le_of_ble_eq_true rfl,(fun hh=>by cases hh),?_⟩
             simp only[go_sem,zr,zb.after]
             apply hKY
             refine za fun KY hKY=>?_
             simp only[go_sem,wL]
             apply hKY
             simp only[go_sem]
             refine Zo (by first|rfl|(simp only[go_sem,he];try simp(disch:=omega) only[decide_eq_true,decide_eq_false])) ?_
             refine zg ?_
             repeat (first|refine hn6 _ ?_|refine he6 _ ?_|refine hf6 _ _ (by decide) ?_|refine hn5 _ ?_|refine he5 _ _ ?_|refine hn4 _ ?_|refine he4 _ _ ?_|refine he3 _ _ ?_|refine hn2 _ ?_|refine he2 _ ?_|refine hf2 _ _ (by decide) ?_|refine hn1 _ ?_|refine he1 _ _ ?_)
             refine zk fun KY hKY=>?_
             simp only[go_sem,wK,hw]
             apply hKY
             repeat (first|refine hn6 _ ?_|refine he6 _ ?_|refine hf6 _ _ (by decide) ?_|refine hn5 _ ?_|refine he5 _ _ ?_|refine hn4 _ ?_|refine he4 _ _ ?_)
             refine hn3 _ ((i+2,es)) (402 - (i+2)) (by omega) (by first|(simp only[go_sem,zd,ze];done)|with_reducible rfl|rfl) ?_
             exact⟨by omega,rfl,g,hm⟩
         · apply zn [] [] false none rfl
           iterate 8 (first|(simp only[go_sem,zp]<;>rfl)|rfl)
           refine(zcn g (a:Int) (b:Int)).mono ?_
           rintro _ _ ⟨⟨x,y,ha,rfl⟩|⟨e,he,ha,rfl⟩,rfl⟩
           · refine⟨Nat.le_of_ble_eq_true rfl,(fun hh=>by cases hh),?_⟩
             simp only[go_sem,zr,zb.after]
             apply hKY
             refine za fun KY hKY=>?_
             simp only[go_sem,wL]
             apply hKY
             simp only[go_sem]
             refine ZL ?_
             refine zk fun KY hKY=>?_
             simp only[go_sem,kT]
             apply hKY
             repeat (first|refine hn6 _ ?_|refine he6 _ ?_|refine hf6 _ _ (by decide) ?_|refine hn5 _ ?_|refine he5 _ _ ?_|refine hn4 _ ?_|refine he4 _ _ ?_|refine he3 _ _ ?_|refine hn2 _ ?_|refine he2 _ ?_|refine hf2 _ _ (by decide) ?_|refine hn1 _ ?_|refine he1 _ _ ?_)
             refine zk fun KY hKY=>?_
             simp only[go_sem,wK,hw]
             apply hKY
             repeat (first|refine hn6 _ ?_|refine he6 _ ?_|refine hf6 _ _ (by decide) ?_|refine hn5 _ ?_|refine he5 _ _ ?_|refine hn4 _ ?_|refine he4 _ _ ?_)
             refine hn3 _ ((i+2,Wh es (x,y))) (402 - (i+2)) (by omega) (by first|(simp only[go_sem,zd,ze];done)|with_reducible rfl|rfl) ?_
             exact⟨by omega,rfl,g.put ha.2.1 ha.2.2.1 ha.2.2.2.1 ha.2.2.2.2,by rw[Xe];omega⟩
           · refine⟨Nat.le_of_ble_eq_true rfl,(fun hh=>by cases hh),?_⟩
             simp only[go_sem,zr,zb.after]
             apply hKY
             refine za fun KY hKY=>?_
             simp only[go_sem,wL]
             apply hKY
             simp only[go_sem]
             refine Zo (by first|rfl|(simp only[go_sem,he];try simp(disch:=omega) only[decide_eq_true,decide_eq_false])) ?_
             refine zg ?_
             repeat (first|refine hn6 _ ?_|refine he6 _ ?_|refine hf6 _ _ (by decide) ?_|refine hn5 _ ?_|refine he5 _ _ ?_|refine hn4 _ ?_|refine he4 _ _ ?_|refine he3 _ _ ?_|refine hn2 _ ?_|refine he2 _ ?_|refine hf2 _ _ (by decide) ?_|refine hn1 _ ?_|refine he1 _ _ ?_)
             refine zk fun KY hKY=>?_
             simp only[go_sem,wK,hw]
             apply hKY
             repeat (first|refine hn6 _ ?_|refine he6 _ ?_|refine hf6 _ _ (by decide) ?_|refine hn5 _ ?_|refine he5 _ _ ?_|refine hn4 _ ?_|refine he4 _ _ ?_)
             refine hn3 _ ((i+2,es)) (402 - (i+2)) (by omega) (by first|(simp only[go_sem,zd,ze];done)|with_reducible rfl|rfl) ?_
             exact⟨by omega,rfl,g,hm⟩
       · refine za fun KY hKY=>?_
         simp only[go_sem,Yd,zx]
         repeat (simp(disch:=omega) only[if_pos,if_neg,decide_eq_true,decide_eq_false,zL,zv,zh,zx];try simp only[go_sem,zx])
         apply hKY
         refine Zy ?_
         refine zy ?_
         repeat (first|refine hn4 _ ?_|refine he4 _ _ ?_|refine he3 _ _ ?_|refine hn2 _ ?_|refine he2 _ ?_|refine hf2 _ _ (by decide) ?_|refine hn1 _ ?_|refine he1 _ _ ?_)
         refine za fun KY hKY=>?_
         simp only[go_sem,wJ]
         apply hKY
         refine zi ?_
         repeat (first|refine hr4 _ ?_|refine hr3 _ ?_|refine hr2 _ ?_|refine hr1 _ ?_)
         simp only[go_sem]
         exact⟨N,es,g,by omega,hm,rfl⟩
     · refine za fun KY hKY=>?_
       simp only[go_sem,Yd,zx]
       repeat (simp(disch:=omega) only[if_pos,if_neg,decide_eq_true,decide_eq_false,zL,zv,zh,zx];try simp only[go_sem,zx])
       apply hKY
       refine Zy ?_
       refine zy ?_
       repeat (first|refine hn4 _ ?_|refine he4 _ _ ?_|refine he3 _ _ ?_|refine hn2 _ ?_|refine he2 _ ?_|refine hf2 _ _ (by decide) ?_|refine hn1 _ ?_|refine he1 _ _ ?_)
       refine za fun KY hKY=>?_
       simp only[go_sem,wJ]
       apply hKY
       refine zi ?_
       repeat (first|refine hr4 _ ?_|refine hr3 _ ?_|refine hr2 _ ?_|refine hr1 _ ?_)
       simp only[go_sem]
       exact⟨N,es,g,by omega,hm,rfl⟩
   · refine za fun KY hKY=>?_
     simp only[go_sem,Yd,zx]
     repeat (simp(disch:=omega) only[if_pos,if_neg,decide_eq_true,decide_eq_false,zL,zv,zh,zx];try simp only[go_sem,zx])
     apply hKY
     refine Zy ?_
     refine zy ?_
     repeat (first|refine hn4 _ ?_|refine he4 _ _ ?_|refine he3 _ _ ?_|refine hn2 _ ?_|refine he2 _ ?_|refine hf2 _ _ (by decide) ?_|refine hn1 _ ?_|refine he1 _ _ ?_)
     refine za fun KY hKY=>?_
     simp only[go_sem,wJ]
     apply hKY
     refine zi ?_
     repeat (first|refine hr4 _ ?_|refine hr3 _ ?_|refine hr2 _ ?_|refine hr1 _ ?_)
     simp only[go_sem]
     exact⟨N,es,g,by omega,hm,rfl⟩
 · refine za fun KY hKY=>?_
   simp only[go_sem,Yd,zx]
   repeat (simp(disch:=omega) only[if_pos,if_neg,decide_eq_true,decide_eq_false,zL,zv,zh,zx];try simp only[go_sem,zx])
   apply hKY
   refine Zy ?_
   refine zy ?_
   repeat (first|refine hn4 _ ?_|refine he4 _ _ ?_|refine he3 _ _ ?_|refine hn2 _ ?_|refine he2 _ ?_|refine hf2 _ _ (by decide) ?_|refine hn1 _ ?_|refine he1 _ _ ?_)
   refine za fun KY hKY=>?_
   simp only[go_sem,wJ]
   apply hKY
   refine zi ?_
   repeat (first|refine hr4 _ ?_|refine hr3 _ ?_|refine hr2 _ ?_|refine hr1 _ ?_)
   simp only[go_sem]
   exact⟨N,es,g,by omega,hm,rfl⟩
end Go.Proofs.Ytkjppnofgmpeeaa

namespace Go.Proofs
open Go.Shelf
def Try.lays189_ren :Go.Shelf.Ren:=⟨fun|189=>75|125=>86|257=>85|128=>100|129=>101|294=>91|295=>92|296=>93|297=>94|298=>95|299=>96|216=>97|300=>98|301=>99|328=>102|329=>103|330=>104|331=>105|332=>106|215=>76|343=>107|n=>n,fun|28=>22|3=>3|46=>33|0=>0|51=>124|53=>127|4=>4|183=>133|182=>132|131=>109|5=>5|9=>9|218=>140|222=>144|228=>146|229=>147|n=>n,fun|n=>n⟩
theorem Try.lays189 :Go.Proofs.Lays.n189 Try.prog Try.lays189_ren:={
 mixed:=by kernel_rfl
 f125:=Try.func86.trans (congrArg some (by kernel_rfl))
 f128:=Try.func100.trans (congrArg some (by kernel_rfl))
 f129:=Try.func101.trans (congrArg some (by kernel_rfl))
 f189:=Try.func75.trans (congrArg some (by kernel_rfl))
 f215:=Try.func76.trans (congrArg some (by kernel_rfl))
 f216:=Try.func97.trans (congrArg some (by kernel_rfl))
 f257:=Try.func85.trans (congrArg some (by kernel_rfl))
 f294:=Try.func91.trans (congrArg some (by kernel_rfl))
 f295:=Try.func92.trans (congrArg some (by kernel_rfl))
 f296:=Try.func93.trans (congrArg some (by kernel_rfl))
 f297:=Try.func94.trans (congrArg some (by kernel_rfl))
 f298:=Try.func95.trans (congrArg some (by kernel_rfl))
 f299:=Try.func96.trans (congrArg some (by kernel_rfl))
 f300:=Try.func98.trans (congrArg some (by kernel_rfl))
 f301:=Try.func99.trans (congrArg some (by kernel_rfl))
 f328:=Try.func102.trans (congrArg some (by kernel_rfl))
 f329:=Try.func103.trans (congrArg some (by kernel_rfl))
 f330:=Try.func104.trans (congrArg some (by kernel_rfl))
 f331:=Try.func105.trans (congrArg some (by kernel_rfl))
 f332:=Try.func106.trans (congrArg some (by kernel_rfl))
 f343:=Try.func107.trans (congrArg some (by kernel_rfl))
 t0:=Try.underlying0
 a0:=Try.isAgg0
 z0:=Try.sizeOf0
 v0:=Try.zeroValue0
 t3:=Try.underlying3
 a3:=Try.isAgg3
 z3:=Try.sizeOf3
 v3:=Try.zeroValue3
 t4:=Try.underlying4
 a4:=Try.isAgg4
 z4:=Try.sizeOf4
 v4:=Try.zeroValue4
 t5:=Try.underlying5
 a5:=Try.isAgg5
 z5:=Try.sizeOf5
 v5:=Try.zeroValue5
 t9:=Try.underlying9
 a9:=Try.isAgg9
 z9:=Try.sizeOf9
 v9:=Try.zeroValue9
 t28:=Try.underlying22
 a28:=Try.isAgg22
 z28:=Try.sizeOf22
 v28:=Try.zeroValue22
 t46:=Try.underlying33
 a46:=Try.isAgg33
 z46:=Try.sizeOf33
 v46:=Try.zeroValue33
 t51:=Try.underlying124
 a51:=Try.isAgg124
 z51:=Try.sizeOf124
 v51:=Try.zeroValue124
 t53:=Try.underlying127
 a53:=Try.isAgg127
 z53:=Try.sizeOf127
 v53:=Try.zeroValue127
 t131:=Try.underlying109
 a131:=Try.isAgg109
 z131:=Try.sizeOf109
 v131:=Try.zeroValue109
 t182:=Try.underlying132
 a182:=Try.isAgg132
 z182:=Try.sizeOf132
 v182:=Try.zeroValue132
 t183:=Try.underlying133
 a183:=Try.isAgg133
 z183:=Try.sizeOf133
 v183:=Try.zeroValue133
 t218:=Try.underlying140
 a218:=Try.isAgg140
 z218:=Try.sizeOf140
 v218:=Try.zeroValue140
 t222:=Try.underlying144
 a222:=Try.isAgg144
 z222:=Try.sizeOf144
 v222:=Try.zeroValue144
 t228:=Try.underlying146
 a228:=Try.isAgg146
 z228:=Try.sizeOf146
 v228:=Try.zeroValue146
 t229:=Try.underlying147
 a229:=Try.isAgg147
 z229:=Try.sizeOf147
 v229:=Try.zeroValue147}
open Go.Sort Go.RowKit in
theorem Try.slices_Sort_int (blk off cap:Nat)(zs:List Int)(w:World)(hH:Holds (Value.int .i64) w blk off zs.toArray)(hblk:blk<w.heap.size)(hsz:zs.length<4611686018427387904):
 Calls Try.prog 75 #[.slice (some ⟨blk,off,none⟩) zs.length cap] w fun e w'=>
  e= .returned (.tuple #[])∧∃n os,w'=grow (putRow (Value.int .i64) (Sort.ahead w n) blk off (zs.mergeSort fun x y=>decide (x≤y)).toArray) os:=Any.slices_Sort_int Try.lays189 blk off cap zs w hH hblk hsz
end Go.Proofs
namespace Go.Proofs.Ytkjppnofgmpeeaa
open Go Go.Ga Go.Ga.Gl
theorem Yz {n b:Nat}{f g:Nat→List Nat}{y:List Nat}(h1:g b=y)(h2:∀v,v≠b→g v=f v):((List.range n).map f).set b y=(List.range n).map g:=by
 apply List.ext_getElem (by simp)
 intro i h3 h4
 rw[List.getElem_set]
 split
 · rename_i h;subst h;simp[h1]
 · rename_i h;simp[h2 i (Ne.symm h)]
theorem KM {es:Es}{k a b:Nat}(h:es[k]?=some (a,b))(v:Nat):ZU (es.take (k+1)) v=if v=b then ZU (es.take k) v++[a] else ZU (es.take k) v:=by
 rw[List.take_add_one,h]
 simp only[ZU,Option.toList_some,List.filter_append,List.map_append]
 by_cases hv:v=b
 · simp[hv]
 · simp[hv,Ne.symm hv]
theorem vC {es:Es}{k a b:Nat}(h:es[k]?=some (a,b))(v:Nat):Z9 (es.take (k+1)) v=if v=a then Z9 (es.take k) v++[b] else Z9 (es.take k) v:=by
 rw[List.take_add_one,h]
 simp only[Z9,Option.toList_some,List.filter_append,List.map_append]
 by_cases hv:v=a
 · simp[hv]
 · simp[hv,Ne.symm hv]
theorem kI (es:Es)(v:Nat):(ZU es v).length≤es.length:=by simp[ZU];exact List.length_filter_le _ _
theorem KV (es:Es)(v:Nat):(Z9 es v).length≤es.length:=by simp[Z9];exact List.length_filter_le _ _
theorem yx {n:Nat}{es:Es}(g:GR n es):zo Try.prog [] ziQ [.sc (.int .i64 (n:Int)),.imm 2 (Zj (zP es))] [] fun r h'=>r= .own (some 1) (ZK (J1 n es))∧h'=[]:=by
 have hn:=g.hn
 have hm:=g.hm
 have hb1:n*24≤140737488355328:=by omega
 refine zln rfl ?_
 unfold zjP jS
 refine za fun KY hKY=>?_
 simp only[go_sem,om]
 apply hKY
 refine za fun KY hKY=>?_
 simp only[go_sem,oh,hb1]
 repeat (simp(disch:=omega) only[if_pos,if_neg,decide_eq_true,decide_eq_false,zL,zv,zh,hb1];try simp only[go_sem,hb1])
 apply hKY
 simp only[go_sem]
 have hs0:=zdn n
 have e0:List.replicate n []=(List.range n).map (ZU []):=by
  apply List.ext_getElem (by simp)
  intro i h1 h2
  simp[ZU]
 rw[e0] at hs0
 refine Kr [0,5] _ (by simp only[go_sem]) rfl hs0 ?_
 simp only[go_sem]
 refine zf fun X1 hn1 he1 hr1=>?_
 refine za fun KY hKY=>?_
 simp only[go_sem,og,zx]
 apply hKY
 refine zm fun X2 hn2 he2 hf2 hr2=>?_
 try simp only[go_sem]
 refine zU (α:=Nat) [7,15] (fun k=>[(5,.own (some 1) (ZK ((List.range n).map (ZU (es.take k))))),(14,.sc (.int .i64 (k:Int)))]) (fun k=>[]) (fun k q=>k≤es.length∧q=es.length - k) (0) (es.length) rfl (by first|(simp only[go_sem,zd,ze];done)|with_reducible rfl|rfl) (⟨by omega,rfl⟩) ?_
 rintro k q ⟨hk,rfl⟩ X3 hn3 he3 hr3
 simp only[go_sem,zd,ze]
 refine za fun KY hKY=>?_
 simp only[go_sem,oe]
 apply hKY
 refine zf fun X4 hn4 he4 hr4=>?_
 by_cases hk2:k<es.length
 · refine ZL ?_
   refine zg ?_
   repeat (first|refine hn4 _ ?_|refine he4 _ _ ?_|refine he3 _ _ ?_|refine hn2 _ ?_|refine he2 _ ?_|refine hf2 _ _ (by decide) ?_|refine hn1 _ ?_|refine he1 _ _ ?_)
   refine zf fun X5 hn5 he5 hr5=>?_
   refine zm fun X6 hn6 he6 hf6 hr6=>?_
   have hx:es[k]?=some es[k]:=List.getElem?_eq_getElem hk2
   have hy:=g.ok es[k] (List.getElem_mem hk2)
   generalize es[k]=x at hx hy
   obtain⟨a,b⟩:=x
   simp only at hy
   have hx':=Qk hx
   refine za fun KY hKY=>?_
   simp only[go_sem,P9,zT hx',List.length_drop,zx]
   repeat (simp(disch:=omega) only[if_pos,if_neg,decide_eq_true,decide_eq_false,zL,zv,zh,zT hx',List.length_drop,zx];try simp only[go_sem,zT hx',List.length_drop,zx])
   apply hKY
   have hbn:b<n:=hy.2
   have hg:((List.range n).map (ZU (es.take k)))[b]?=some (ZU (es.take k) b):=by simp[hbn]
   have hl1:(ZU (es.take k) b).length≤es.length:=Nat.le_trans (kI _ _) (by simp;omega)
   have hl2:((ZU (es.take k) b).length+1)*8≤140737488355328:=by omega
   have hset:((List.range n).map (ZU (es.take k))).set b (ZU (es.take k) b++[a])=(List.range n).map (ZU (es.take (k+1))):=
    Yz (by rw[KM hx,if_pos rfl]) (fun v hv=>by rw[KM hx,if_neg hv])
   have hbl:b<((List.range n).map (ZU (es.take k))).length:=by simpa using hbn
   refine j0 fun KY hKY=>?_
   simp only[go_sem,P8,ve hg,hbn,hl2,ZR,hset,List.length_range]
   apply hKY
   repeat (first|refine hn6 _ ?_|refine he6 _ ?_|refine hf6 _ _ (by decide) ?_|refine hn5 _ ?_|refine he5 _ _ ?_|refine hn4 _ ?_|refine he4 _ _ ?_|refine he3 _ _ ?_|refine hn2 _ ?_|refine he2 _ ?_|refine hf2 _ _ (by decide) ?_|refine hn1 _ ?_|refine he1 _ _ ?_)
   refine zk fun KY hKY=>?_
   simp only[go_sem,P7,zL (show k<4611686018427387904 by omega)]
   apply hKY
   repeat (first|refine hn6 _ ?_|refine he6 _ ?_|refine hf6 _ _ (by decide) ?_|refine hn5 _ ?_|refine he5 _ _ ?_|refine hn4 _ ?_|refine he4 _ _ ?_)
   refine hn3 _ (k+1) (es.length - (k+1)) (by omega) (by first|(simp only[go_sem,zd,ze];done)|with_reducible rfl|rfl) ?_
   exact⟨hk2,rfl⟩
 · refine Zy ?_
   refine zy ?_
   repeat (first|refine hn4 _ ?_|refine he4 _ _ ?_|refine he3 _ _ ?_|refine hn2 _ ?_|refine he2 _ ?_|refine hf2 _ _ (by decide) ?_|refine hn1 _ ?_|refine he1 _ _ ?_)
   obtain rfl:k=es.length:=by omega
   rw[List.take_length,show(List.range n).map (ZU es)=(List.range n).map fun v=>ZU es v++Z9 [] v by simp[Z9]]
   refine zf fun X7 hn7 he7 hr7=>?_
   refine za fun KY hKY=>?_
   simp only[go_sem,P6,zx]
   apply hKY
   refine zm fun X8 hn8 he8 hf8 hr8=>?_
   try simp only[go_sem]
   refine zU (α:=Nat) [9,15,35] (fun k=>[(5,.own (some 1) (ZK ((List.range n).map fun v=>ZU es v++Z9 (es.take k) v))),(34,.sc (.int .i64 (k:Int)))]) (fun k=>[]) (fun k q=>k≤es.length∧q=es.length - k) (0) (es.length) rfl (by first|(simp only[go_sem,zd,ze];done)|with_reducible rfl|rfl) (⟨by omega,rfl⟩) ?_
   rintro k q ⟨hk,rfl⟩ X9 hn9 he9 hr9
   simp only[go_sem,zd,ze]
   refine za fun KY hKY=>?_
   simp only[go_sem,P5]
   apply hKY
   refine zf fun X10 hn10 he10 hr10=>?_
   by_cases hk2:k<es.length
   · refine ZL ?_
     refine zg ?_
     repeat (first|refine hn10 _ ?_|refine he10 _ _ ?_|refine he9 _ _ ?_|refine hn8 _ ?_|refine he8 _ ?_|refine hf8 _ _ (by decide) ?_|refine hn7 _ ?_|refine he7 _ _ ?_|refine hn4 _ ?_|refine he4 _ _ ?_)
     refine zf fun X11 hn11 he11 hr11=>?_
     refine zm fun X12 hn12 he12 hf12 hr12=>?_
     have hx:es[k]?=some es[k]:=List.getElem?_eq_getElem hk2
     have hy:=g.ok es[k] (List.getElem_mem hk2)
     generalize es[k]=x at hx hy
     obtain⟨a,b⟩:=x
     simp only at hy
     have hx':=Qk hx
     refine za fun KY hKY=>?_
     simp only[go_sem,PZ,zT hx',List.length_drop,zx]
     repeat (simp(disch:=omega) only[if_pos,if_neg,decide_eq_true,decide_eq_false,zL,zv,zh,zT hx',List.length_drop,zx];try simp only[go_sem,zT hx',List.length_drop,zx])
     apply hKY
     have han:a<n:=by omega
     have hg:((List.range n).map fun v=>ZU es v++Z9 (es.take k) v)[a]?=some (ZU es a++Z9 (es.take k) a):=by simp[han]
     have hl1:(ZU es a++Z9 (es.take k) a).length≤2*es.length:=by
      rw[List.length_append]
      have h1:=kI es a
      have h2:(Z9 (es.take k) a).length≤es.length:=Nat.le_trans (KV _ _) (by simp;omega)
      omega
     have hl2:((ZU es a++Z9 (es.take k) a).length+1)*8≤140737488355328:=by omega
     have hset:((List.range n).map fun v=>ZU es v++Z9 (es.take k) v).set a (ZU es a++Z9 (es.take k) a++[b])=(List.range n).map fun v=>ZU es v++Z9 (es.take (k+1)) v:=
      Yz (by rw[vC hx,if_pos rfl,List.append_assoc]) (fun v hv=>by rw[vC hx,if_neg hv])
     refine j0 fun KY hKY=>?_
     simp only[go_sem,Vq,ve hg,han,hl2,ZR,hset]
     apply hKY
     repeat (first|refine hn12 _ ?_|refine he12 _ ?_|refine hf12 _ _ (by decide) ?_|refine hn11 _ ?_|refine he11 _ _ ?_|refine hn10 _ ?_|refine he10 _ _ ?_|refine he9 _ _ ?_|refine hn8 _ ?_|refine he8 _ ?_|refine hf8 _ _ (by decide) ?_|refine hn7 _ ?_|refine he7 _ _ ?_|refine hn4 _ ?_|refine he4 _ _ ?_)
     refine zk fun KY hKY=>?_
     simp only[go_sem,Vp,zL (show k<4611686018427387904 by omega)]
     apply hKY
     repeat (first|refine hn12 _ ?_|refine he12 _ ?_|refine hf12 _ _ (by decide) ?_|refine hn11 _ ?_|refine he11 _ _ ?_|refine hn10 _ ?_|refine he10 _ _ ?_)
     refine hn9 _ (k+1) (es.length - (k+1)) (by omega) (by first|(simp only[go_sem,zd,ze];done)|with_reducible rfl|rfl) ?_
     exact⟨hk2,rfl⟩
   · refine Zy ?_
     refine zy ?_
     repeat (first|refine hn10 _ ?_|refine he10 _ _ ?_|refine he9 _ _ ?_|refine hn8 _ ?_|refine he8 _ ?_|refine hf8 _ _ (by decide) ?_|refine hn7 _ ?_|refine he7 _ _ ?_|refine hn4 _ ?_|refine he4 _ _ ?_|refine he3 _ _ ?_|refine hn2 _ ?_|refine he2 _ ?_|refine hf2 _ _ (by decide) ?_|refine hn1 _ ?_|refine he1 _ _ ?_)
     obtain rfl:k=es.length:=by omega
     rw[List.take_length]
     refine za fun KY hKY=>?_
     simp only[go_sem,Vo]
     apply hKY
     refine zi ?_
     repeat (first|refine hr10 _ ?_|refine hr9 _ ?_|refine hr8 _ ?_|refine hr7 _ ?_|refine hr4 _ ?_|refine hr3 _ ?_|refine hr2 _ ?_|refine hr1 _ ?_)
     simp only[go_sem]
     rfl
def UF (nr:List (List Nat))(s:DS):List zc:=[.imm 1 (Zq nr),.own (some 1) (Zb s.1),.own (some 1) (zC s.2.1),.own (some 1) (zC s.2.2)]
theorem zcL (nr:List (List Nat))(s:DS)(v:Nat)(hv:v<s.1.length)(h1:s.2.1.length≤100000)(h2:s.2.2.length≤100000):
    zo Try.prog [] ziv [.ptr 0 0,.sc (.int .i64 (v:Int))] [some (UF nr s)] fun r h'=>r= .tup []∧h'=[some (UF nr (come s v))]:=by
  obtain⟨d,nw,r⟩:=s
  simp only at hv h1 h2
  have hb:=ji hv
  have b1:(nw.length+1)*8≤140737488355328:=by omega
  have b2:(r.length+1)*8≤140737488355328:=by omega
  unfold UF come
  refine zkX rfl ?_
  unfold zjp Y9
  simp only
  refine za fun KY hKY=>?_
  simp only[go_sem,Gh,hb,hv]
  apply hKY
  cases hd:d.getD v false with
  | true=>
    refine Zo (by first|rfl|(simp only[go_sem,hd];try simp(disch:=omega) only[decide_eq_true,decide_eq_false])) ?_
    refine zg ?_
    simp only[go_sem]
  | false=>
    refine Zs (by first|rfl|(simp only[go_sem,hd];try simp(disch:=omega) only[decide_eq_true,decide_eq_false])) ?_
    refine za fun KY hKY=>?_
    simp only[go_sem,Gg,hv]
    apply hKY
    refine za fun KY hKY=>?_
    simp only[go_sem,Gf,ZR,b1]
    apply hKY
    refine zk fun KY hKY=>?_
    simp only[go_sem,Ge,ZR,b2]
    apply hKY
    simp only[go_sem]
theorem Kp {n:Nat}(m:List Int)(hml:m.length=n){v:Nat}(hv:v<n):
    zo Try.prog [] zfA [.agg [.sl 0 0 n 1],.sc (.int .i64 (v:Int))] [some (zj m)] fun r h'=>r= .sc (.bool (decide (m.getD v 0<0)))∧h'=[some (zj m)]:=by
  have hg:(zj m)[v]?=some (.sc (.int .i64 (m.getD v 0))):=zh (by omega)
  refine zlc rfl ?_
  unfold zjE Ka
  refine za fun KY hKY=>?_
  simp only[go_sem,Pd]
  apply hKY
  refine za fun KY hKY=>?_
  simp only[go_sem,Pc,hg,zq,hml,hv,Nat.zero_add]
  apply hKY
  refine zi ?_
  simp only[go_sem]
theorem zbM {n:Nat}(m:List Int)(hml:m.length=n)(row:List Nat)(hr:∀x∈row,x<n)(hrl:row.length≤1000000000):
    zo Try.prog [] ziH [.imm 1 (zC row),.fn (.func zfA) [.agg [.sl 0 0 n 1]] []] [some (zj m)] fun r h'=>(∃z:Int,r= .sc (.int .i64 z)∧(z= -1∨∃(i x:Nat),z=(i:Int)∧row[i]?=some x∧m.getD x 0<0))∧h'=[some (zj m)]:=by
  refine zlb rfl ?_
  unfold zjD qg
  refine za fun KY hKY=>?_
  simp only[go_sem,Pb]
  apply hKY
  refine zf fun X1 hn1 he1 hr1=>?_
  refine za fun KY hKY=>?_
  simp only[go_sem,Pa,zJ]
  apply hKY
  refine zm fun X2 hn2 he2 hf2 hr2=>?_
  try simp only[go_sem]
  refine zU (α:=Nat) [5,9,16] (fun k=>[(8,.sc (.int .i64 (k:Int)))]) (fun k=>[some (zj m)]) (fun k q=>k≤row.length∧q=row.length - k) (0) (row.length) rfl (by first|(simp only[go_sem,zd,ze];done)|with_reducible rfl|rfl) (⟨Nat.zero_le _,rfl⟩) ?_
  rintro k q ⟨hk,rfl⟩ X3 hn3 he3 hr3
  simp only[go_sem,zd,ze]
  rcases Nat.lt_or_ge k row.length with hk2|hk2
  · have hdx:decide ((k:Int)<(row.length:Int))=true:=decide_eq_true (by omega)
    have hx:row[k]?=some (row[k]):=List.getElem?_eq_getElem hk2
    have hxg:(zC row)[k]?=some (.sc (.int .i64 ((row[k]:Nat):Int))):=by simp[zC,hx]
    have hxn:=hr _ (List.getElem_mem hk2)
    generalize row[k]=x at hx hxg hxn
    have hf:=Kp m hml hxn
    refine za fun KY hKY=>?_
    simp only[go_sem,uE,hdx]
    apply hKY
    refine zf fun X4 hn4 he4 hr4=>?_
    refine ZL ?_
    refine zg ?_
    repeat (first|refine hn4 _ ?_|refine he4 _ _ ?_|refine he3 _ _ ?_|refine hn2 _ ?_|refine he2 _ ?_|refine hf2 _ _ (by decide) ?_|refine hn1 _ ?_|refine he1 _ _ ?_)
    refine zf fun X5 hn5 he5 hr5=>?_
    refine zm fun X6 hn6 he6 hf6 hr6=>?_
    refine za fun KY hKY=>?_
    simp only[go_sem,p9]
    apply hKY
    refine za fun KY hKY=>?_
    simp only[go_sem,p8,hxg,zJ,hk2]
    apply zn [] [0] false none rfl
    iterate 8 (first|(simp only[go_sem,zp]<;>rfl)|rfl)
    refine(hf).mono ?_
    rintro _ _ ⟨rfl,rfl⟩
    refine⟨Nat.le_of_ble_eq_true rfl,(fun hh=>by cases hh),?_⟩
    simp only[go_sem,zr,zb.after]
    apply hKY
    by_cases hm:m.getD x 0<0
    · have hdm:decide (m.getD x 0<0)=true:=decide_eq_true hm
      simp only[go_sem,hdm]
      refine ZL ?_
      refine za fun KY hKY=>?_
      simp only[go_sem,p7]
      apply hKY
      refine zi ?_
      repeat (first|refine hr6 _ ?_|refine hr5 _ ?_|refine hr4 _ ?_|refine hr3 _ ?_|refine hr2 _ ?_|refine hr1 _ ?_)
      simp only[go_sem]
      exact⟨_,rfl,.inr ⟨k,x,rfl,hx,hm⟩⟩
    · have hdm:decide (m.getD x 0<0)=false:=decide_eq_false hm
      simp only[go_sem,hdm]
      refine Zy ?_
      refine zg ?_
      repeat (first|refine hn6 _ ?_|refine he6 _ ?_|refine hf6 _ _ (by decide) ?_|refine hn5 _ ?_|refine he5 _ _ ?_|refine hn4 _ ?_|refine he4 _ _ ?_|refine he3 _ _ ?_|refine hn2 _ ?_|refine he2 _ ?_|refine hf2 _ _ (by decide) ?_|refine hn1 _ ?_|refine he1 _ _ ?_)
      refine zk fun KY hKY=>?_
      simp only[go_sem,p6,zL (show k<4611686018427387904 by omega)]
      apply hKY
      repeat (first|refine hn6 _ ?_|refine he6 _ ?_|refine hf6 _ _ (by decide) ?_|refine hn5 _ ?_|refine he5 _ _ ?_|refine hn4 _ ?_|refine he4 _ _ ?_)
      refine hn3 _ (k+1) (row.length - (k+1)) (by omega) (by first|(simp only[go_sem,zd,ze];done)|with_reducible rfl|rfl) ?_
      exact⟨hk2,rfl⟩
  have hdx:decide ((k:Int)<(row.length:Int))=false:=decide_eq_false (by omega)
  refine za fun KY hKY=>?_
  simp only[go_sem,uE,hdx]
  apply hKY
  refine zf fun X7 hn7 he7 hr7=>?_
  refine Zy ?_
  refine zy ?_
  repeat (first|refine hn7 _ ?_|refine he7 _ _ ?_|refine he3 _ _ ?_|refine hn2 _ ?_|refine he2 _ ?_|refine hf2 _ _ (by decide) ?_|refine hn1 _ ?_|refine he1 _ _ ?_)
  refine za fun KY hKY=>?_
  simp only[go_sem,p5]
  apply hKY
  refine zi ?_
  repeat (first|refine hr7 _ ?_|refine hr3 _ ?_|refine hr2 _ ?_|refine hr1 _ ?_)
  simp only[go_sem]
  exact⟨_,rfl,.inl rfl⟩
theorem zhB {N:Nat}{es:Es}(g:GR N es):zo Try.prog [] ziI [.agg [.sc (.int .i64 (N:Int)),.imm 2 (Zj (zP es))]] [] fun r h'=>(N=0∧r= .own (some 1) []∧h'=[])∨(0<N∧r= .sl 0 0 N 1∧h'=[some (zj (List.replicate N (-1)))]):=by
 have hN:=g.hn
 have hr:=Jk g
 have hR:=zdB (-1) N hN
 rw[show zj [(-1:Int)]=[.sc (.int .i64 (-1))] from rfl] at hR
 refine zld rfl ?_
 unfold zjF W8
 refine za fun KY hKY=>?_
 simp only[go_sem,Pg]
 apply hKY
 refine zf fun X1 hn1 he1 hr1=>?_
 refine za fun KY hKY=>?_
 simp only[go_sem,Pf]
 refine zA rfl (by simp only[go_sem]<;>rfl) ((ym N (zP es)).mono ?_)
 rintro rr hh ⟨rfl,rfl⟩
 refine⟨rfl,rfl,rfl,?_⟩
 simp only[go_sem,hr]
 apply hKY
 refine Zy ?_
 refine zg ?_
 repeat (first|refine hn1 _ ?_|refine he1 _ _ ?_)
 refine za fun KY hKY=>?_
 simp only[go_sem,Pe]
 apply zn [.mv] [] false none rfl
 iterate 8 (first|(simp only[go_sem,zp]<;>rfl)|rfl)
 refine(hR).mono ?_
 rintro _ _ (⟨h0,rfl,rfl⟩|⟨h0,rfl,rfl⟩)
 · refine⟨Nat.le_of_ble_eq_true rfl,(fun hh=>by cases hh),?_⟩
   simp only[go_sem,zr,zb.after]
   apply hKY
   refine zi ?_
   repeat (first|refine hr1 _ ?_)
   simp only[go_sem]
   exact .inl h0
 · refine⟨Nat.le_of_ble_eq_true rfl,(fun hh=>by cases hh),?_⟩
   simp only[go_sem,zr,zb.after]
   apply hKY
   refine zi ?_
   repeat (first|refine hr1 _ ?_)
   simp only[go_sem]
   exact .inr h0
theorem YT {m:List Int}{v:Nat}(hv:v<m.length)(x:Int)(u:Nat):mf (m.set v x) u=if u=v then x else mf m u:=by
 unfold mf
 by_cases e:u=v
 · subst e;simp[hv]
 · simp[List.getElem?_set,Ne.symm e,e]
theorem zkE {N:Nat}(v:Nat):mf (List.replicate N (-1)) v= -1:=by
 unfold mf
 by_cases h:v<N
 · simp[h]
 · simp[List.getElem?_eq_none (show(List.replicate N (-1:Int)).length≤v by simp;omega)]
theorem zd2 {N:Nat}{es:Es}(g:GR N es):zo Try.prog [] ziR [.agg [.sc (.int .i64 (N:Int)),.imm 2 (Zj (zP es))]] [] fun r h'=>(N=0∧r= .sc (.slice none 0 0)∧h'=[])∨(0<N∧∃m:List Int,m.length=N∧Mf N (Zp es) (mf m)∧r= .sl 0 0 N 1∧h'=[some (zj m)]):=by
 have hN:=g.hn
 have hem:=g.hm
 refine zlo rfl ?_
 unfold zjQ jp
 refine za fun KY hKY=>?_
 simp only[go_sem,oH]
 apply hKY
 refine za fun KY hKY=>?_
 simp only[go_sem,oG]
 apply zn [] [] false none rfl
 iterate 8 (first|(simp only[go_sem,zp]<;>rfl)|rfl)
 refine(zhB g).mono ?_
 rintro _ _ (⟨h0,rfl,rfl⟩|⟨h0,rfl,rfl⟩)
 · refine⟨Nat.le_of_ble_eq_true rfl,(fun hh=>by cases hh),?_⟩
   simp only[go_sem,zr,zb.after]
   apply hKY
   refine zf fun X1 hn1 he1 hr1=>?_
   refine za fun KY hKY=>?_
   simp only[go_sem,uS]
   apply hKY
   refine ZL ?_
   refine za fun KY hKY=>?_
   simp only[go_sem,oA]
   apply hKY
   refine zi ?_
   repeat (first|refine hr1 _ ?_)
   simp only[go_sem]
   exact .inl h0
 · refine ⟨Nat.le_of_ble_eq_true rfl,(fun hh=>by cases hh),?_⟩
   simp only[go_sem,zr,zb.after]
   apply hKY
   have hd0:decide ((N:Int)=0)=false:=decide_eq_false (by omega)
   refine zf fun X2 hn2 he2 hr2=>?_
   refine za fun KY hKY=>?_
   simp only[go_sem,uS,hd0]
   apply hKY
   refine Zy ?_
   refine zg ?_
   repeat (first|refine hn2 _ ?_|refine he2 _ _ ?_)
   refine za fun KY hKY=>?_
   simp only[go_sem,oz]
   apply zn [] [] true none rfl
   iterate 8 (first|(simp only[go_sem,zp]<;>rfl)|rfl)
   refine(yx g).mono ?_
   rintro _ _ ⟨rfl,rfl⟩
   refine⟨Nat.le_of_ble_eq_true rfl,(fun _=>by simp only[go_sem,Jx,and_self]),?_⟩
   simp only[go_sem,zr,zb.after]
   apply hKY
   refine Zv [0,4] (by simp only[go_sem];rfl) ?_
   simp only[go_sem,QH]
   refine zf fun X3 hn3 he3 hr3=>?_
   refine za fun KY hKY=>?_
   simp only[go_sem,ou,zq,List.length_replicate]
   apply hKY
   refine zm fun X4 hn4 he4 hf4 hr4=>?_
   try simp only[go_sem]
   refine zU (α:=Nat×List Int) [5,6,7,24,29,38] (fun(k,m)=>[(23,.sc (.int .i64 (k:Int)))]) (fun(k,m)=>[some (zj m)]) (fun(k,m) q=>m.length=N∧Mf N (Zp es) (mf m)∧k≤N∧q=N - k) ((0,List.replicate N (-1))) (N) rfl (by first|(simp only[go_sem,zd,ze];done)|with_reducible rfl|rfl) (⟨by simp,g.none zkE,Nat.zero_le _,rfl⟩) ?_
   rintro⟨k,m⟩ q ⟨hml,M,hk,rfl⟩ X5 hn5 he5 hr5
   simp only[go_sem,zd,ze]
   rcases Nat.lt_or_ge k N with hk2|hk2
   · have hdx:decide ((k:Int)<(N:Int))=true:=decide_eq_true (by omega)
     have hfr:=Kp m hml hk2
     refine za fun KY hKY=>?_
     simp only[go_sem,uR,hdx]
     apply hKY
     refine zf fun X6 hn6 he6 hr6=>?_
     refine ZL ?_
     refine zg ?_
     repeat (first|refine hn6 _ ?_|refine he6 _ _ ?_|refine he5 _ _ ?_|refine hn4 _ ?_|refine he4 _ ?_|refine hf4 _ _ (by decide) ?_|refine hn3 _ ?_|refine he3 _ _ ?_|refine hn2 _ ?_|refine he2 _ _ ?_)
     refine zf fun X7 hn7 he7 hr7=>?_
     refine zm fun X8 hn8 he8 hf8 hr8=>?_
     refine za fun KY hKY=>?_
     simp only[go_sem,ot]
     apply hKY
     by_cases hmk:m.getD k 0<0
     · have hd1:decide (m.getD k 0<0)=true:=decide_eq_true hmk
       refine zf fun X9 hn9 he9 hr9=>?_
       refine za fun KY hKY=>?_
       simp only[go_sem,uQ]
       apply zn [] [0] false none rfl
       iterate 8 (first|(simp only[go_sem,zp]<;>rfl)|rfl)
       refine(hfr).mono ?_
       rintro _ _ ⟨rfl,rfl⟩
       refine⟨Nat.le_of_ble_eq_true rfl,(fun hh=>by cases hh),?_⟩
       simp only[go_sem,zr,zb.after,hd1]
       apply hKY
       refine Zy ?_
       refine zg ?_
       repeat (first|refine hn9 _ ?_|refine he9 _ _ ?_|refine hn8 _ ?_|refine he8 _ ?_|refine hf8 _ _ (by decide) ?_|refine hn7 _ ?_|refine he7 _ _ ?_|refine hn6 _ ?_|refine he6 _ _ ?_|refine he5 _ _ ?_|refine hn4 _ ?_|refine he4 _ ?_|refine hf4 _ _ (by decide) ?_|refine hn3 _ ?_|refine he3 _ _ ?_|refine hn2 _ ?_|refine he2 _ _ ?_)
       have hnr:=q9 (Xo (es:=es) hk2)
       have hidx:=zbM m hml (zZ es k) (fun x hx=>(g.mf.2 _ _ (JL.1 hx)).2.1) (Nat.le_trans (Xp g k) (by decide))
       refine zw fun KY hKY=>?_
       simp only[go_sem,oq,hnr,jM,hk2,Jj]
       apply zn [] [0] false none rfl
       iterate 8 (first|(simp only[go_sem,zp]<;>rfl)|rfl)
       refine(hidx).mono ?_
       rintro _ _ ⟨⟨z,rfl,hz⟩,rfl⟩
       refine⟨Nat.le_of_ble_eq_true rfl,(fun hh=>by cases hh),?_⟩
       simp only[go_sem,zr,zb.after]
       apply hKY
       have hmk1:mf m k= -1:=by
        rw[YU (by omega)] at hmk
        rcases M.at_ k hk2 with h|⟨w,h,_⟩
        · exact h
        · omega
       rcases hz with rfl|⟨i,x,rfl,hix,hmx⟩
       · have hd2:decide ((0:Int)≤ -1)=false:=rfl
         refine za fun KY hKY=>?_
         simp only[go_sem,WH,hd2]
         apply hKY
         refine Zy ?_
         refine zg ?_
         repeat (first|refine hn9 _ ?_|refine he9 _ _ ?_|refine hn8 _ ?_|refine he8 _ ?_|refine hf8 _ _ (by decide) ?_|refine hn7 _ ?_|refine he7 _ _ ?_|refine hn6 _ ?_|refine he6 _ _ ?_|refine he5 _ _ ?_|refine hn4 _ ?_|refine he4 _ ?_|refine hf4 _ _ (by decide) ?_|refine hn3 _ ?_|refine he3 _ _ ?_|refine hn2 _ ?_|refine he2 _ _ ?_)
         refine zk fun KY hKY=>?_
         simp only[go_sem,Yg,zL (show k<4611686018427387904 by omega)]
         apply hKY
         repeat (first|refine hn9 _ ?_|refine he9 _ _ ?_|refine hn8 _ ?_|refine he8 _ ?_|refine hf8 _ _ (by decide) ?_|refine hn7 _ ?_|refine he7 _ _ ?_|refine hn6 _ ?_|refine he6 _ _ ?_)
         refine hn5 _ ((k+1,m)) (N - (k+1)) (by omega) (by first|(simp only[go_sem,zd,ze];done)|with_reducible rfl|rfl) ?_
         exact⟨hml,M,hk2,rfl⟩
       · have hd2:decide ((0:Int)≤(i:Int))=true:=decide_eq_true (by omega)
         have hil:=(List.getElem?_eq_some_iff.1 hix).1
         have hadj:Zp es k x:=JL.1 (List.mem_iff_getElem?.2 ⟨i,hix⟩)
         have hxN:=(g.mf.2 _ _ hadj).2.1
         have hxk:=(g.mf.2 _ _ hadj).2.2
         have hgx:(zC (zZ es k))[i]?=some (.sc (.int .i64 (x:Int))):=by simp[zC,hix]
         have hmx1:mf m x= -1:=by
          rw[YU (by omega)] at hmx
          rcases M.at_ x hxN with h|⟨w,h,_⟩
          · exact h
          · omega
         have hls:((m.set k (x:Int)).set x (k:Int)).length=N:=by simp[hml]
         have M2:Mf N (Zp es) (mf ((m.set k (x:Int)).set x (k:Int))):=by
          refine M.add hmk1 hmx1 hadj ?_ ?_ fun u h1 h2=>?_
          · rw[YT (by simp;omega),if_neg hxk,YT (by omega),if_pos rfl]
          · rw[YT (by simp;omega),if_pos rfl]
          · rw[YT (by simp;omega),if_neg h2,YT (by omega),if_neg h1]
         refine za fun KY hKY=>?_
         simp only[go_sem,WH,hd2]
         apply hKY
         refine ZL ?_
         refine za fun KY hKY=>?_
         simp only[go_sem,Vu,hnr,jM,hk2,Jj,hgx,zJ,hil]
         apply hKY
         refine j0 fun KY hKY=>?_
         simp only[go_sem,Vs,zq,ju,hml,hk2,hxN,List.length_set,Nat.zero_add,(show([1,0]==[0,3])=false from rfl),Bool.not_false]
         apply hKY
         repeat (first|refine hn9 _ ?_|refine he9 _ _ ?_|refine hn8 _ ?_|refine he8 _ ?_|refine hf8 _ _ (by decide) ?_|refine hn7 _ ?_|refine he7 _ _ ?_|refine hn6 _ ?_|refine he6 _ _ ?_|refine he5 _ _ ?_|refine hn4 _ ?_|refine he4 _ ?_|refine hf4 _ _ (by decide) ?_|refine hn3 _ ?_|refine he3 _ _ ?_|refine hn2 _ ?_|refine he2 _ _ ?_)
         refine zk fun KY hKY=>?_
         simp only[go_sem,Yg,zL (show k<4611686018427387904 by omega)]
         apply hKY
         repeat (first|refine hn9 _ ?_|refine he9 _ _ ?_|refine hn8 _ ?_|refine he8 _ ?_|refine hf8 _ _ (by decide) ?_|refine hn7 _ ?_|refine he7 _ _ ?_|refine hn6 _ ?_|refine he6 _ _ ?_)
         refine hn5 _ ((k+1,(m.set k (x:Int)).set x (k:Int))) (N - (k+1)) (by omega) (by first|(simp only[go_sem,zd,ze];done)|with_reducible rfl|rfl) ?_
         exact⟨hls,M2,hk2,rfl⟩
     · have hd1:decide (m.getD k 0<0)=false:=decide_eq_false hmk
       refine zf fun X10 hn10 he10 hr10=>?_
       refine za fun KY hKY=>?_
       simp only[go_sem,uQ]
       apply zn [] [0] false none rfl
       iterate 8 (first|(simp only[go_sem,zp]<;>rfl)|rfl)
       refine(hfr).mono ?_
       rintro _ _ ⟨rfl,rfl⟩
       refine⟨Nat.le_of_ble_eq_true rfl,(fun hh=>by cases hh),?_⟩
       simp only[go_sem,zr,zb.after,hd1]
       apply hKY
       refine ZL ?_
       refine zy ?_
       repeat (first|refine hn10 _ ?_|refine he10 _ _ ?_|refine hn8 _ ?_|refine he8 _ ?_|refine hf8 _ _ (by decide) ?_|refine hn7 _ ?_|refine he7 _ _ ?_|refine hn6 _ ?_|refine he6 _ _ ?_|refine he5 _ _ ?_|refine hn4 _ ?_|refine he4 _ ?_|refine hf4 _ _ (by decide) ?_|refine hn3 _ ?_|refine he3 _ _ ?_|refine hn2 _ ?_|refine he2 _ _ ?_)
       refine zk fun KY hKY=>?_
       simp only[go_sem,Yg,zL (show k<4611686018427387904 by omega)]
       apply hKY
       repeat (first|refine hn10 _ ?_|refine he10 _ _ ?_|refine hn8 _ ?_|refine he8 _ ?_|refine hf8 _ _ (by decide) ?_|refine hn7 _ ?_|refine he7 _ _ ?_|refine hn6 _ ?_|refine he6 _ _ ?_)
       refine hn5 _ ((k+1,m)) (N - (k+1)) (by omega) (by first|(simp only[go_sem,zd,ze];done)|with_reducible rfl|rfl) ?_
       exact⟨hml,M,hk2,rfl⟩
   have hdx:decide ((k:Int)<(N:Int))=false:=decide_eq_false (by omega)
   refine za fun KY hKY=>?_
   simp only[go_sem,uR,hdx]
   apply hKY
   refine zf fun X11 hn11 he11 hr11=>?_
   refine Zy ?_
   refine zy ?_
   repeat (first|refine hn11 _ ?_|refine he11 _ _ ?_|refine he5 _ _ ?_|refine hn4 _ ?_|refine he4 _ ?_|refine hf4 _ _ (by decide) ?_|refine hn3 _ ?_|refine he3 _ _ ?_|refine hn2 _ ?_|refine he2 _ _ ?_)
   refine za fun KY hKY=>?_
   simp only[go_sem,Vr]
   apply hKY
   refine zi ?_
   repeat (first|refine hr11 _ ?_|refine hr5 _ ?_|refine hr4 _ ?_|refine hr3 _ ?_|refine hr2 _ ?_)
   simp only[go_sem]
   exact .inr ⟨h0,m,hml,M,rfl⟩
def jH :List Int→List Int→List Int
 |m,a::b::l=>jH ((m.set a.toNat b).set b.toNat a) l
 |m,_=>m
theorem Wd :∀(l m:List Int),(jH m l).length=m.length
 |[],m=>rfl
 |[_],m=>rfl
 |a::b::l,m=>by unfold jH;rw[Wd l];simp
theorem zdb {l:List Int}{k:Nat}{a b:Int}(ha:l[2*k]?=some a)(hb:l[2*k+1]?=some b):∀m0,jH m0 (l.take (2*(k+1)))=((jH m0 (l.take (2*k))).set a.toNat b).set b.toNat a:=by
 induction k generalizing l with
 | zero=>
   intro m0
   match l,ha,hb with
   | x::y::l,ha,hb=>
     simp at ha hb
     subst ha;subst hb
     simp[jH]
 | succ k ih=>
   intro m0
   match l,ha,hb with
   |[],ha,_=>simp at ha
   |[x],ha,_=>simp at ha
   | x::y::l,ha,hb=>
     have ha':l[2*k]?=some a:=by rw[show 2*(k+1)=2*k+1+1 by omega] at ha;simpa using ha
     have hb':l[2*k+1]?=some b:=by rw[show 2*(k+1)+1=(2*k+1)+1+1 by omega] at hb;simpa using hb
     rw[show 2*(k+1+1)=2*(k+1)+1+1 by omega,show 2*(k+1)=2*k+1+1 by omega]
     simp only[List.take_succ_cons,jH]
     exact ih ha' hb' _
theorem turn_end :∀(k:Nat) (l m:List Int),l.length≤2*k+1→jH m (l.take (2*k))=jH m l
 |0,[],m,_=>rfl
 |0,[x],m,_=>rfl
 |0,_::_::_,m,h=>by simp at h
 |k+1,[],m,_=>by simp
 |k+1,[x],m,_=>by rw[show 2*(k+1)=2*k+1+1 by omega];simp
 | k+1,x::y::l,m,h=>by
   rw[show 2*(k+1)=2*k+1+1 by omega]
   simp only[List.take_succ_cons,jH]
   exact turn_end k l _ (by simp at h;omega)
theorem zg7 (m l:List Int)(hl:l.length≤1000000)(hm:m.length≤1000000)(hin:∀i,i<l.length→∃a:Nat,l.getD i 0=a∧a<m.length):zo Try.prog [] ziG [.sl 0 0 m.length 1,.imm 1 (zj l)] [some (zj m)] fun r h'=>r= .tup []∧h'=[some (zj (jH m l))]:=by
 refine zk9 rfl ?_
 unfold zjB wa
 refine za fun KY hKY=>?_
 simp only[go_sem,pT]
 apply hKY
 refine zm fun X1 hn1 he1 hf1 hr1=>?_
 have h0:m=jH m (l.take (2*0)):=by simp[jH]
 try simp only[go_sem]
 refine zU (α:=Nat) [8] (fun k=>[(4,.sc (.int .i64 ((2*k+1:Nat):Int)))]) (fun k=>[some (zj (jH m (l.take (2*k))))]) (fun k q=>2*k≤l.length+1∧q=l.length - k) (0) (l.length) rfl (by first|(simp only[go_sem,zd,ze];done)|with_reducible rfl|rfl) (⟨by omega,rfl⟩) ?_
 rintro k q ⟨hk,rfl⟩ X2 hn2 he2 hr2
 simp only[go_sem,zd,ze]
 refine zf fun X3 hn3 he3 hr3=>?_
 rcases Nat.lt_or_ge (2*k+1) l.length with hk2|hk2
 · have hdy:decide (((2*k+1:Nat):Int)<(l.length:Int))=true:=decide_eq_true (by omega)
   refine za fun KY hKY=>?_
   simp only[go_sem,uD,zq,hdy]
   apply hKY
   refine ZL ?_
   refine zg ?_
   repeat (first|refine hn3 _ ?_|refine he3 _ _ ?_|refine he2 _ _ ?_|refine hn1 _ ?_|refine he1 _ ?_|refine hf1 _ _ (by decide) ?_)
   refine zf fun X4 hn4 he4 hr4=>?_
   refine zm fun X5 hn5 he5 hf5 hr5=>?_
   have hk0:2*k<l.length:=by omega
   obtain⟨a,ha,haN⟩:=hin (2*k) hk0
   obtain⟨b,hb,hbN⟩:=hin (2*k+1) hk2
   have hd1:IntKind.i64.wrap (((2*k+1:Nat):Int) - 1)=((2*k:Nat):Int):=by rw[IntWalk.i64_in _ (by omega)];omega
   have hga:(zj l)[2*k]?=some (.sc (.int .i64 (a:Int))):=by rw[zh hk0,ha]
   have hgb:(zj l)[2*k+1]?=some (.sc (.int .i64 (b:Int))):=by rw[zh hk2,hb]
   have hla:l[2*k]?=some (a:Int):=by rw[←ha,List.getD_eq_getElem?_getD,List.getElem?_eq_getElem hk0];rfl
   have hlb:l[2*k+1]?=some (b:Int):=by rw[←hb,List.getD_eq_getElem?_getD,List.getElem?_eq_getElem hk2];rfl
   have hst:=zdb hla hlb m
   rw[Int.toNat_natCast,Int.toNat_natCast] at hst
   have hlen:=Wd (l.take (2*k)) m
   generalize hM:jH m (l.take (2*k))=M at hst hlen
   refine j0 fun KY hKY=>?_
   simp only[go_sem,pS,hd1,hga,hgb,hk0,hk2,zq,haN,hbN,hlen,List.length_set,←hst]
   apply hKY
   repeat (first|refine hn5 _ ?_|refine he5 _ ?_|refine hf5 _ _ (by decide) ?_|refine hn4 _ ?_|refine he4 _ _ ?_|refine hn3 _ ?_|refine he3 _ _ ?_|refine he2 _ _ ?_|refine hn1 _ ?_|refine he1 _ ?_|refine hf1 _ _ (by decide) ?_)
   have hi2:IntKind.i64.wrap (((2*k+1:Nat):Int)+2)=((2*(k+1)+1:Nat):Int):=by rw[IntWalk.i64_in _ (by omega)];omega
   refine zk fun KY hKY=>?_
   simp only[go_sem,pR,hi2]
   apply hKY
   repeat (first|refine hn5 _ ?_|refine he5 _ ?_|refine hf5 _ _ (by decide) ?_|refine hn4 _ ?_|refine he4 _ _ ?_|refine hn3 _ ?_|refine he3 _ _ ?_)
   refine hn2 _ (k+1) (l.length - (k+1)) (by omega) (by first|(simp only[go_sem,zd,ze];done)|with_reducible rfl|rfl) ?_
   exact⟨by omega,rfl⟩
 have hdx:decide (((2*k+1:Nat):Int)<(l.length:Int))=false:=decide_eq_false (by omega)
 refine za fun KY hKY=>?_
 simp only[go_sem,uD,zq,hdx]
 apply hKY
 refine Zy ?_
 refine zy ?_
 repeat (first|refine hn3 _ ?_|refine he3 _ _ ?_|refine he2 _ _ ?_|refine hn1 _ ?_|refine he1 _ ?_|refine hf1 _ _ (by decide) ?_)
 rw[turn_end k l m (by omega)]
 simp only[go_sem]
theorem Kg {E:Nat→Nat→Prop}:∀(l:List Nat) (m:List Int),EP E l→l.Nodup→(∀y∈l,y<m.length)→∀u,mf (jH m (l.map fun x:Nat=>(x:Int))) u=if u∈l then(Yn l u:Int) else mf m u
 |[],m,_,_,_,u=>by simp[jH]
 |[_],m,h,_,_,u=>h.elim
 | a ::b::l,m,h,hn,hl,u=>by
   simp only[List.nodup_cons,List.mem_cons,not_or] at hn
   obtain⟨⟨hab,hal⟩,hbl,hnl⟩:=hn
   have ha:=hl a (by simp)
   have hb:=hl b (by simp)
   have ih:=Kg l ((m.set a (b:Int)).set b (a:Int)) h.2 hnl (fun y hy=>by simp;exact hl y (by simp[hy])) u
   simp only[List.map_cons,jH,Int.toNat_natCast]
   rw[ih]
   have e2:mf ((m.set a (b:Int)).set b (a:Int)) u=if u=b then(a:Int) else if u=a then(b:Int) else mf m u:=by
    rw[YT (by simp;omega),YT ha]
   have ep:Yn (a::b::l) u=if u=a then b else if u=b then a else Yn l u:=rfl
   rw[ep]
   by_cases h1:u=a
   · subst h1
     rw[if_neg hal,e2,if_neg hab,if_pos rfl,if_pos (by simp),if_pos rfl]
   · by_cases h2:u=b
     · subst h2
       rw[if_neg hbl,e2,if_pos rfl,if_pos (by simp),if_neg h1,if_pos rfl]
     · by_cases h3:u∈l
       · rw[if_pos h3,if_pos (by simp[h3]),if_neg h1,if_neg h2]
       · rw[if_neg h3,e2,if_neg h2,if_neg h1,if_neg (by simp[h1,h2,h3])]
theorem zbU (nr:List (List Nat)){n:Nat}{E:Nat→Nat→Prop}{m:List Int}(h0:0<n)(hnr:nr.length=n)(hml:m.length=n)(hn:n≤4096)(hrow:∀v,v<n→(nr.getD v []).length≤1000000)(M:Mf n E (mf m))(hE:∀v w,v<n→(w∈nr.getD v []↔E v w)):
    zo Try.prog [] zfD [.imm 1 (Zq nr),.sl 0 0 n 1] [some (zj m)] fun r h'=>∃(m':List Int) (S:FS) (a b:Int),m'.length=n∧Mf n E (mf m')∧qb n E (mf m') S∧Lk E S []∧r= .tup [.own (some 1) (zj (zdU n S)),.agg [.sc (.int .i64 a),.sc (.int .i64 b)]]∧h'=[some (zj m')]:=by
  refine zf6 rfl ?_
  unfold zgy qy
  refine za fun KY hKY=>?_
  simp only[go_sem,uP]
  apply hKY
  refine za fun KY hKY=>?_
  simp only[go_sem,uO]
  apply hKY
  refine zm fun X1 hn1 he1 hf1 hr1=>?_
  try simp only[go_sem]
  refine zU (α:=List Int×Int×Int) [7,8,9,26] (fun(m,a,b)=>[(6,.own none [.sc (.int .i64 a),.sc (.int .i64 b)])]) (fun(m,a,b)=>[some (zj m)]) (fun(m,a,b) q=>m.length=n∧Mf n E (mf m)∧q=qW n (mf m)) ((m,0,0)) (qW n (mf m)) rfl (by first|(simp only[go_sem,zd,ze];done)|with_reducible rfl|rfl) (⟨hml,M,rfl⟩) ?_
  rintro⟨m,a,b⟩ q ⟨hml,M,rfl⟩ X2 hn2 he2 hr2
  simp only[go_sem,zd,ze]
  have hS:=We nr hnr hml hn hrow M hE
  refine zm fun X3 hn3 he3 hf3 hr3=>?_
  refine za fun KY hKY=>?_
  simp only[go_sem,uM]
  have htk:List.take n (zj m)=zj m:=List.take_of_length_le (by rw[zq];omega)
  refine zA rfl (by simp only[go_sem,hml,Nat.le_refl,htk]<;>rfl) (hS.mono ?_)
  rintro rr hh ⟨rfl,lk,⟨l,hA,rfl⟩|⟨S,hI,hL,rfl⟩⟩
  · refine⟨?_,?_,?_,?_⟩
    iterate 3 (first|rfl|simp only[go_sem])
    have hT:=zg7 m (l.map fun x:Nat=>(x:Int)) (by
      have:=Z5 (m:=List.range n) hA.nd fun x hx=>List.mem_range.2 (hA.lt x hx)
      simp at this⊢;omega) (by omega) (fun i hi=>by
        rw[List.length_map] at hi
        exact⟨l[i],by simp[hi],by rw[hml];exact hA.lt _ (List.getElem_mem hi)⟩)
    rw[←Qd,hml] at hT
    have hmf:=Kg l m hA.ep hA.nd (fun y hy=>by rw[hml];exact hA.lt y hy)
    obtain⟨M2,hfr,r,hrn,hr1,hr2⟩:=zcf M hA (mt':=mf (jH m (l.map fun x:Nat=>(x:Int)))) (fun u hu=>by rw[hmf u,if_pos hu]) (fun u hu=>by rw[hmf u,if_neg hu])
    have hless:=KZ hrn hr1 hr2 hfr
    have hlen2:(jH m (l.map fun x:Nat=>(x:Int))).length=n:=by rw[Wd,hml]
    cases l with
    |nil=>obtain⟨z,hz,_⟩:=hA.fr;simp at hz
    | cons c l=>
      have hnn:zC (c::l)= .sc (.int .i64 (c:Int))::zC l:=rfl
      simp only[go_sem]
      apply hKY
      refine za fun KY hKY=>?_
      simp only[go_sem,wV]
      apply hKY
      refine zf fun X4 hn4 he4 hr4=>?_
      refine za fun KY hKY=>?_
      simp only[go_sem,wU,hnn]
      apply hKY
      refine Zy ?_
      refine zg ?_
      repeat (first|refine hn4 _ ?_|refine he4 _ _ ?_|refine hn3 _ ?_|refine he3 _ ?_|refine hf3 _ _ (by decide) ?_|refine he2 _ _ ?_|refine hn1 _ ?_|refine he1 _ ?_|refine hf1 _ _ (by decide) ?_)
      simp only[go_sem]
      rw[←hnn]
      refine zk fun KY hKY=>?_
      simp only[go_sem,oo]
      apply zn [] [0] true none rfl
      iterate 8 (first|(simp only[go_sem,zp]<;>rfl)|rfl)
      refine(hT).mono ?_
      rintro _ _ ⟨rfl,rfl⟩
      refine⟨Nat.le_of_ble_eq_true rfl,(fun _=>by simp only[go_sem,Jx,and_self]),?_⟩
      simp only[go_sem,zr,zb.after]
      have hq2:qW n (mf (jH m ((c::l).map fun x:Nat=>(x:Int))))<qW n (mf m):=hless
      apply hKY
      repeat (first|refine hn4 _ ?_|refine he4 _ _ ?_|refine hn3 _ ?_|refine he3 _ ?_|refine hf3 _ _ (by decide) ?_)
      refine hn2 _ ((jH m ((c::l).map fun x:Nat=>(x:Int)),IntKind.i64.wrap (a+1),max b lk)) (qW n (mf (jH m ((c::l).map fun x:Nat=>(x:Int))))) (by omega) (by first|(simp only[go_sem,zd,ze];done)|with_reducible rfl|rfl) ?_
      exact⟨hlen2,M2,rfl⟩
  · refine⟨?_,?_,?_,?_⟩
    iterate 3 (first|rfl|simp only[go_sem])
    simp only[go_sem]
    apply hKY
    refine za fun KY hKY=>?_
    simp only[go_sem,wV]
    apply hKY
    refine zf fun X5 hn5 he5 hr5=>?_
    refine za fun KY hKY=>?_
    simp only[go_sem,wU]
    apply hKY
    refine ZL ?_
    refine zw fun KY hKY=>?_
    simp only[go_sem,uL]
    apply hKY
    refine zi ?_
    repeat (first|refine hr5 _ ?_|refine hr3 _ ?_|refine hr2 _ ?_|refine hr1 _ ?_)
    simp only[go_sem]
    exact⟨m,S,_,_,hml,M,hI,hL,rfl,rfl⟩
theorem K3 {E:Nat→Nat→Prop}(M:Mf 0 E (mf [])):
    zo Try.prog [] zfD [.imm 1 (Zq []),.imm 1 (zj [])] [] fun r h'=>∃(S:FS) (a b:Int),qb 0 E (mf []) S∧Lk E S []∧r= .tup [.own (some 1) (zj (zdU 0 S)),.agg [.sc (.int .i64 a),.sc (.int .i64 b)]]∧h'=[]:=by
  have hS:=We [] (n:=0) (E:=E) (m:=[]) rfl rfl (by omega) (fun v hv=>by omega) M (fun v w hv=>by omega)
  refine zf6 rfl ?_
  unfold zgy qy
  refine za fun KY hKY=>?_
  simp only[go_sem,uP]
  apply hKY
  refine za fun KY hKY=>?_
  simp only[go_sem,uO]
  apply hKY
  refine zm fun X1 hn1 he1 hf1 hr1=>?_
  try simp only[go_sem]
  refine zU (α:=Int×Int) [7,8,9,26] (fun(a,b)=>[(6,.own none [.sc (.int .i64 a),.sc (.int .i64 b)])]) (fun(a,b)=>[]) (fun(a,b) q=>q=0) ((0,0)) (0) rfl (by first|(simp only[go_sem,zd,ze];done)|with_reducible rfl|rfl) (rfl) ?_
  rintro⟨a,b⟩ q rfl X2 hn2 he2 hr2
  simp only[go_sem,zd,ze]
  refine zm fun X3 hn3 he3 hf3 hr3=>?_
  refine za fun KY hKY=>?_
  simp only[go_sem,uM]
  refine zA rfl (by simp only[go_sem]<;>rfl) (hS.mono ?_)
  rintro rr hh ⟨rfl,lk,⟨l,hA,rfl⟩|⟨S,hI,hL,rfl⟩⟩
  · exfalso
    obtain⟨z,hz,_⟩:=hA.fr
    have:=hA.lt z hz
    omega
  · refine⟨?_,?_,?_,?_⟩
    iterate 3 (first|rfl|simp only[go_sem])
    simp only[go_sem]
    apply hKY
    refine za fun KY hKY=>?_
    simp only[go_sem,wV]
    apply hKY
    refine zf fun X4 hn4 he4 hr4=>?_
    refine za fun KY hKY=>?_
    simp only[go_sem,wU]
    apply hKY
    refine ZL ?_
    refine zw fun KY hKY=>?_
    simp only[go_sem,uL]
    apply hKY
    refine zi ?_
    repeat (first|refine hr4 _ ?_|refine hr3 _ ?_|refine hr2 _ ?_|refine hr1 _ ?_)
    simp only[go_sem]
    exact⟨S,_,_,hI,hL,rfl⟩
theorem KF {N:Nat}(es:Es){v:Nat}(hv:v<N):(J1 N es).getD v []=zZ es v:=by
 rw[List.getD_eq_getElem?_getD,Xo hv];rfl
theorem zft {N:Nat}(es:Es):∀v w,v<N→(w∈(J1 N es).getD v []↔Zp es v w):=fun v w hv=>by
 rw[KF es hv];exact JL
theorem zfs {N:Nat}{es:Es}(g:GR N es):∀v,v<N→((J1 N es).getD v []).length≤1000000:=fun v hv=>by
 rw[KF es hv];exact Nat.le_trans (Xp g v) (by decide)
theorem zbF {N:Nat}{es:Es}(g:GR N es):zo Try.prog [] zi1 [.agg [.sc (.int .i64 (N:Int)),.imm 2 (Zj (zP es))]] [] fun r h'=>∃(m:List Int) (S:FS) (a b:Int),m.length=N∧Mf N (Zp es) (mf m)∧qb N (Zp es) (mf m) S∧Lk (Zp es) S []∧((N=0∧r= .tup [.own (some 1) [],.agg [.sc (.int .i64 a),.sc (.int .i64 b)],.sc (.int .i64 0)]∧h'=[])∨(0<N∧r= .tup [.sl 0 0 N 1,.agg [.sc (.int .i64 a),.sc (.int .i64 b)],.sc (.int .i64 0)]∧h'=[some (zj m)])):=by
 have hN:=g.hn
 have hr:=Jk g
 refine zlA rfl ?_
 unfold zj2 ya
 refine za fun KY hKY=>?_
 simp only[go_sem,O2]
 apply hKY
 refine zf fun X1 hn1 he1 hr1=>?_
 refine za fun KY hKY=>?_
 simp only[go_sem,O1]
 refine zA rfl (by simp only[go_sem]<;>rfl) ((ym N (zP es)).mono ?_)
 rintro rr hh ⟨rfl,rfl⟩
 refine⟨rfl,rfl,rfl,?_⟩
 simp only[go_sem,hr]
 apply hKY
 refine Zy ?_
 refine zg ?_
 repeat (first|refine hn1 _ ?_|refine he1 _ _ ?_)
 refine za fun KY hKY=>?_
 simp only[go_sem,OZ]
 apply zn [] [] false none rfl
 iterate 8 (first|(simp only[go_sem,zp]<;>rfl)|rfl)
 refine(zd2 g).mono ?_
 rintro _ _ (⟨h0,rfl,rfl⟩|⟨h0,m,hml,M,rfl,rfl⟩)
 · subst h0
   refine⟨Nat.le_of_ble_eq_true rfl,(fun hh=>by cases hh),?_⟩
   simp only[go_sem,zr,zb.after]
   apply hKY
   refine jP [0,5] 1 (by simp only[go_sem]) ?_
   simp only[go_sem]
   have M0:Mf 0 (Zp es) (mf []):=g.none fun v=>by simp[mf]
   have hE0:=K3 M0
   have hnr:J1 0 es=[]:=rfl
   refine za fun KY hKY=>?_
   simp only[go_sem,u9]
   apply zn [] [] true none rfl
   iterate 8 (first|(simp only[go_sem,zp]<;>rfl)|rfl)
   refine(yx g).mono ?_
   rintro _ _ ⟨rfl,rfl⟩
   refine⟨Nat.le_of_ble_eq_true rfl,(fun _=>by simp only[go_sem,Jx,and_self,hnr]),?_⟩
   simp only[go_sem,zr,zb.after,hnr]
   rw[show zc.own (some 1) (ZK [])= .own (some 1) (ZK []) from rfl]
   apply zn [] [] true none rfl
   iterate 8 (first|(simp only[go_sem,zp]<;>rfl)|rfl)
   refine(hE0).mono ?_
   rintro _ _ ⟨S,a,b,hI,hL,rfl,rfl⟩
   refine⟨Nat.le_of_ble_eq_true rfl,(fun _=>by simp only[go_sem,Jx,and_self]),?_⟩
   simp only[go_sem,zr,zb.after]
   apply hKY
   refine zw fun KY hKY=>?_
   simp only[go_sem,u7]
   apply hKY
   refine zi ?_
   repeat (first|refine hr1 _ ?_)
   simp only[go_sem]
   exact⟨[],S,_,_,rfl,M0,hI,hL,.inl rfl⟩
 · refine⟨Nat.le_of_ble_eq_true rfl,(fun hh=>by cases hh),?_⟩
   simp only[go_sem,zr,zb.after]
   apply hKY
   have hE1:=zbU (J1 N es) h0 (jM N es) hml hN (zfs g) M (zft es)
   refine za fun KY hKY=>?_
   simp only[go_sem,u9]
   apply zn [] [] true none rfl
   iterate 8 (first|(simp only[go_sem,zp]<;>rfl)|rfl)
   refine(yx g).mono ?_
   rintro _ _ ⟨rfl,rfl⟩
   refine⟨Nat.le_of_ble_eq_true rfl,(fun _=>by simp only[go_sem,Jx,and_self]),?_⟩
   simp only[go_sem,zr,zb.after]
   apply zn [] [0] true none rfl
   iterate 8 (first|(simp only[go_sem,zp]<;>rfl)|rfl)
   refine(hE1).mono ?_
   rintro _ _ ⟨m',S,a,b,hml',M',hI,hL,rfl,rfl⟩
   refine⟨Nat.le_of_ble_eq_true rfl,(fun _=>by simp only[go_sem,Jx,and_self]),?_⟩
   simp only[go_sem,zr,zb.after]
   apply hKY
   refine zw fun KY hKY=>?_
   simp only[go_sem,u7]
   apply hKY
   refine zi ?_
   repeat (first|refine hr1 _ ?_)
   simp only[go_sem]
   exact⟨m',S,_,_,hml',M',hI,hL,.inr ⟨h0,rfl,rfl⟩⟩
theorem vA (l:List Nat):zj (l.map fun n:Nat=>(n:Int))=zC l:=by simp[zj,zC]
theorem zhi (nw:List Nat)(h:nw.length≤1000000):zo Try.prog [] ziu [.sl 0 0 nw.length 1] [some (zC nw)] fun r h'=>r= .tup []∧h'=[some (zC (nw.mergeSort fun x y=>decide (x≤y)))]:=by
 have e:(nw.mergeSort fun x y=>decide (x≤y)).map (fun n:Nat=>(n:Int))=(nw.map fun n:Nat=>(n:Int)).mergeSort fun x y=>decide (x≤y):=
  List.map_mergeSort fun a _ b _=>by simp
 have:=zb8 (P:=Try.prog) (f:=ziu) (by kernel_rfl) (fun zs=>zs.mergeSort fun x y=>decide (x≤y)) (fun zs=>by simp) (nw.map fun n:Nat=>(n:Int))
  (fun blk off cap w hH hb=>Go.Proofs.Try.slices_Sort_int blk off cap _ w hH hb (by simp;omega))
 rw[vA,←e,vA,List.length_map] at this
 exact this
def Qc (nr:List (List Nat))(D:List Bool):List zc:=[.imm 1 (Zq nr),.own (some 1) (Zb D),.dead,.own (some 1) []]
theorem zfj {n:Nat}{es:Es}(g:GR n es)(D:List Bool)(hD:D.length=n)(v:Nat)(hv:v<n)(hDv:D.getD v false=false):
    zo Try.prog [] ziD [.ptr 0 0,.sc (.int .i64 (v:Int))] [some (Qc (J1 n es) D)] fun r h'=>∃p D',kY n es D v D' p∧r= .own (some 1) (zC p)∧h'=[some (Qc (J1 n es) D')]:=by
  have hn:=g.hn
  have hes:=g.adj_lt
  unfold Qc
  refine zk6 rfl ?_
  unfold zjy jc
  refine za fun KY hKY=>?_
  simp only[go_sem,pA]
  apply hKY
  refine za fun KY hKY=>?_
  simp only[go_sem,pz]
  apply hKY
  refine za fun KY hKY=>?_
  simp only[go_sem,py]
  apply hKY
  simp only[go_sem]
  refine jP [1,0,2] 1 (by simp only[go_sem]) ?_
  refine za fun KY hKY=>?_
  simp only[go_sem,px]
  apply zn [] [0] false none rfl
  iterate 8 (first|(simp only[go_sem,zp]<;>rfl)|rfl)
  refine(zcL (J1 n es) (D,[],[]) v (by rw[hD];exact hv) (Nat.zero_le _) (Nat.zero_le _)).mono ?_
  rintro _ _ ⟨rfl,rfl⟩
  unfold UF
  refine⟨Nat.le_of_ble_eq_true rfl,(fun hh=>by cases hh),?_⟩
  simp only[go_sem,zr,zb.after]
  apply hKY
  refine zf fun X1 hn1 he1 hr1=>?_
  refine zm fun X2 hn2 he2 hf2 hr2=>?_
  try simp only[go_sem]
  refine zU (α:=DS) [6,8,22,55,56,57,58] (fun s=>[]) (fun s=>[some (UF (J1 n es) s)]) (fun s q=>q=2*JJ s.1+s.2.2.length∧WJ n es D v s) (come (D,[],[]) v) (2*JJ (come (D,[],[]) v).1+(come (D,[],[]) v).2.2.length) rfl (by first|(simp only[go_sem,zd,ze];done)|with_reducible rfl|rfl) (⟨rfl,WJ.start hD hv hDv⟩) ?_
  rintro s q ⟨hq,w⟩ X3 hn3 he3 hr3
  simp only[go_sem,zd,ze]
  have hsz:=w.size
  have hrl:=w.rl
  have hwd:=w.len
  unfold UF
  obtain⟨d,nw,r⟩:=s
  simp only at hsz hrl hq hwd
  simp only[go_sem]
  refine zf fun X4 hn4 he4 hr4=>?_
  rcases List.eq_nil_or_concat r with rfl|⟨r',u,rfl⟩
  · refine za fun KY hKY=>?_
    simp only[go_sem,uB,show((0:Nat):Int)=0 from rfl,Int.lt_irrefl,List.length_nil]
    apply hKY
    refine Zy ?_
    refine zy ?_
    repeat (first|refine hn4 _ ?_|refine he4 _ _ ?_|refine he3 _ _ ?_|refine hn2 _ ?_|refine he2 _ ?_|refine hf2 _ _ (by decide) ?_|refine hn1 _ ?_|refine he1 _ _ ?_)
    have hnw:0<nw.length:=List.length_pos_of_mem w.self
    refine za fun KY hKY=>?_
    simp only[go_sem,v6]
    apply zn [.bo] [] false (some [1,0,2]) rfl
    iterate 8 (first|(simp only[go_sem,zp,hnw]<;>rfl)|rfl)
    refine(zhi nw (by omega)).mono ?_
    rintro _ _ ⟨rfl,rfl⟩
    refine⟨Nat.le_of_ble_eq_true rfl,(fun hh=>by cases hh),?_⟩
    simp only[go_sem,zr,zb.after,List.length_mergeSort]
    apply hKY
    refine za fun KY hKY=>?_
    simp only[go_sem,vZ]
    apply hKY
    refine zi ?_
    repeat (first|refine hr4 _ ?_|refine hr3 _ ?_|refine hr2 _ ?_|refine hr1 _ ?_)
    simp only[go_sem]
    refine⟨nw.mergeSort fun x y=>decide (x≤y),d,w.piece (List.mergeSort_perm _ _) ?_,rfl,rfl⟩
    have:=List.pairwise_mergeSort (le:=fun x y=>decide (x≤y)) (fun a b c h1 h2=>by simp at*;omega) (fun a b=>by simp;omega) nw
    exact this.imp fun h=>by simpa using h
  · rw[List.concat_eq_append] at*
    have hlen:(r'++[u]).length=r'.length+1:=by simp
    have hpos:(0:Int)<((r'.length+1:Nat):Int):=by omega
    have hget:(zC (r'++[u]))[r'.length]?=some (.sc (.int .i64 (u:Int))):=by simp[zC]
    have hcut:Zz (zC (r'++[u])) 1 0 r'.length=zC r':=by rw[zgc];simp
    have hun:u<n:=(w.now u (w.rest u (by simp))).1
    have hll:r'.length<r'.length+1:=Nat.lt_succ_self _
    have hll2:r'.length≤r'.length+1:=Nat.le_succ _
    have hdec:=Ww (show r'.length<4611686018427387904 by omega)
    refine za fun KY hKY=>?_
    simp only[go_sem,uB,hlen,hpos]
    apply hKY
    refine ZL ?_
    refine zg ?_
    repeat (first|refine hn4 _ ?_|refine he4 _ _ ?_|refine he3 _ _ ?_|refine hn2 _ ?_|refine he2 _ ?_|refine hf2 _ _ (by decide) ?_|refine hn1 _ ?_|refine he1 _ _ ?_)
    refine zm fun X5 hn5 he5 hf5 hr5=>?_
    refine zw fun KY hKY=>?_
    simp only[go_sem,pw,hlen,hdec,hget,hll]
    apply hKY
    refine zw fun KY hKY=>?_
    simp only[go_sem,pv,hlen,hdec,hcut,hll2]
    apply hKY
    have hnr:=q9 (Xo (es:=es) hun)
    refine za fun KY hKY=>?_
    simp only[go_sem,pu,hnr,jM,hun]
    apply hKY
    obtain⟨w1,hm1⟩:=w.step hes
    have w2:WI n es D v (d,nw,r'):=⟨w.len,w.done,w.nd,w.now,fun x h=>w.rest x (List.mem_append_left _ h),by have:=w.rl;simp at this⊢;omega,w.conn⟩
    have hu:u∈nw:=w.rest u (List.mem_append_right _ (List.mem_singleton.2 rfl))
    have hgo:zg1 es (fun x=>x=u) (d,nw,r'):=fun x hx hr hne y hy=>w.gone x hx (fun e=>by
      rcases List.mem_append.1 e with e|e
      · exact hr e
      · simp at e;exact hne e) (fun e=>e) y hy
    have hco:=K5 hes w2 hu hgo
    have hrow:(zZ es u).length≤131072:=by
      have h1:=kI es u
      have h2:=KV es u
      have:=g.hm
      simp only[zZ,List.length_append];omega
    refine zm fun X6 hn6 he6 hf6 hr6=>?_
    try simp only[go_sem]
    refine zU (α:=Nat) [8,58] (fun k=>[(57,.sc (.int .i64 (k:Int)))]) (fun k=>[some (UF (J1 n es) (Jz (d,nw,r') ((zZ es u).take k)))]) (fun k q=>q=(zZ es u).length - k∧k≤(zZ es u).length) (0) ((zZ es u).length) rfl (by first|(simp only[go_sem,zd,ze];done)|with_reducible rfl|rfl) (⟨by omega,by omega⟩) ?_
    rintro k q ⟨hq2,hk⟩ X7 hn7 he7 hr7
    simp only[go_sem,zd,ze]
    obtain⟨x1,x2,x3,x4,x5,x6⟩:=hco k hk
    refine za fun KY hKY=>?_
    simp only[go_sem,pq]
    apply hKY
    refine zf fun X8 hn8 he8 hr8=>?_
    by_cases hk2:k<(zZ es u).length
    · refine ZL ?_
      refine zg ?_
      repeat (first|refine hn8 _ ?_|refine he8 _ _ ?_|refine he7 _ _ ?_|refine hn6 _ ?_|refine he6 _ ?_|refine hf6 _ _ (by decide) ?_|refine hn5 _ ?_|refine he5 _ ?_|refine hf5 _ _ (by decide) ?_|refine hn4 _ ?_|refine he4 _ _ ?_)
      refine zf fun X9 hn9 he9 hr9=>?_
      refine zm fun X10 hn10 he10 hf10 hr10=>?_
      have hx:(zZ es u)[k]?=some ((zZ es u)[k]):=List.getElem?_eq_getElem hk2
      have hxn:(zC (zZ es u))[k]?=some (.sc (.int .i64 (((zZ es u)[k]:Nat):Int))):=by simp[zC,hx]
      have hxl:(zZ es u)[k]<n:=(hes u _ (JL.1 (List.getElem_mem hk2))).2
      have hcs:=XX (d,nw,r') _ _ _ hx
      generalize (zZ es u)[k]=x at hx hxn hxl hcs
      refine za fun KY hKY=>?_
      simp only[go_sem,pp,hxn,hk2]
      apply hKY
      refine zk fun KY hKY=>?_
      simp only[go_sem,v8]
      unfold UF
      have y1:=x1.size
      have y2:=x1.rl
      apply zn [] [0] false none rfl
      iterate 8 (first|(simp only[go_sem,zp]<;>rfl)|rfl)
      refine(zcL (J1 n es) (Jz (d,nw,r') ((zZ es u).take k)) x (by rw[x1.len];exact hxl) (by omega) (by omega)).mono ?_
      rintro _ _ ⟨rfl,rfl⟩
      rw[←hcs]
      unfold UF
      refine⟨Nat.le_of_ble_eq_true rfl,(fun hh=>by cases hh),?_⟩
      simp only[go_sem,zr,zb.after]
      apply hKY
      repeat (first|refine hn10 _ ?_|refine he10 _ ?_|refine hf10 _ _ (by decide) ?_|refine hn9 _ ?_|refine he9 _ _ ?_|refine hn8 _ ?_|refine he8 _ _ ?_|refine he7 _ _ ?_|refine hn6 _ ?_|refine he6 _ ?_|refine hf6 _ _ (by decide) ?_|refine hn5 _ ?_|refine he5 _ ?_|refine hf5 _ _ (by decide) ?_|refine hn4 _ ?_|refine he4 _ _ ?_)
      refine zk fun KY hKY=>?_
      simp only[go_sem,v7,zL (show k<4611686018427387904 by omega)]
      apply hKY
      repeat (first|refine hn10 _ ?_|refine he10 _ ?_|refine hf10 _ _ (by decide) ?_|refine hn9 _ ?_|refine he9 _ _ ?_|refine hn8 _ ?_|refine he8 _ _ ?_)
      refine hn7 _ (k+1) ((zZ es u).length - (k+1)) (by omega) (by first|(simp only[go_sem,zd,ze,UF];done)|with_reducible rfl|rfl) ?_
      exact⟨rfl,hk2⟩
    · refine Zy ?_
      refine zy ?_
      repeat (first|refine hn8 _ ?_|refine he8 _ _ ?_|refine he7 _ _ ?_|refine hn6 _ ?_|refine he6 _ ?_|refine hf6 _ _ (by decide) ?_|refine hn5 _ ?_|refine he5 _ ?_|refine hf5 _ _ (by decide) ?_|refine hn4 _ ?_|refine he4 _ _ ?_|refine he3 _ _ ?_|refine hn2 _ ?_|refine he2 _ ?_|refine hf2 _ _ (by decide) ?_|refine hn1 _ ?_|refine he1 _ _ ?_)
      obtain rfl:k=(zZ es u).length:=by omega
      rw[List.take_length] at*
      repeat (first|refine hn8 _ ?_|refine he8 _ _ ?_|refine he7 _ _ ?_|refine hn6 _ ?_|refine he6 _ ?_|refine hf6 _ _ (by decide) ?_|refine hn5 _ ?_|refine he5 _ ?_|refine hf5 _ _ (by decide) ?_|refine hn4 _ ?_|refine he4 _ _ ?_)
      refine hn3 _ (Jz (d,nw,r') (zZ es u)) (2*JJ (Jz (d,nw,r') (zZ es u)).1+(Jz (d,nw,r') (zZ es u)).2.2.length) (by omega) (by first|(simp only[go_sem,zd,ze];done)|with_reducible rfl|rfl) ?_
      exact⟨rfl,w1⟩
def kC (n:Nat)(l:List Int):List Bool:=l.foldl (fun D v=>if 0≤v∧v<(n:Int) then D.set v.toNat true else D) (List.replicate n false)
theorem zdK (n:Nat)(l:List Int)(k:Nat)(v:Int)(h:l[k]?=some v):kC n (l.take (k+1))=if 0≤v∧v<(n:Int) then(kC n (l.take k)).set v.toNat true else kC n (l.take k):=by
 rw[List.take_add_one,h];simp[kC]
theorem zcs (n:Nat)(l:List Int):(kC n l).length=n∧∀x,x<n→((kC n l).getD x false=true↔(x:Int)∈l):=by
  have key:∀(l:List Int) (D:List Bool) (P:Nat→Prop),D.length=n→(∀x,x<n→(D.getD x false=true↔P x))→
      (l.foldl (fun D v=>if 0≤v∧v<(n:Int) then D.set v.toNat true else D) D).length=n∧
      ∀x,x<n→((l.foldl (fun D v=>if 0≤v∧v<(n:Int) then D.set v.toNat true else D) D).getD x false=true↔P x∨(x:Int)∈l):=by
    intro l
    induction l with
    |nil=>intro D P h1 h2;exact⟨h1,fun x hx=>by simpa using h2 x hx⟩
    | cons v l ih=>
      intro D P h1 h2
      simp only[List.foldl_cons]
      obtain⟨i1,i2⟩:=ih (if 0≤v∧v<(n:Int) then D.set v.toNat true else D) (fun x=>P x∨(x:Int)=v) (by split<;>simp[h1]) (fun x hx=>by
        split
        · rename_i hv
          rw[wg,h2 x hx,h1]
          constructor
          · rintro(h|h)
            · exact .inl h
            · exact .inr (by omega)
          · rintro(h|h)
            · exact .inl h
            · exact .inr (by omega)
        · rename_i hv
          rw[h2 x hx]
          constructor
          · exact .inl
          · rintro(h|h)
            · exact h
            · omega)
      refine⟨i1,fun x hx=>?_⟩
      rw[i2 x hx,List.mem_cons,or_assoc]
  obtain⟨h1,h2⟩:=key l (List.replicate n false) (fun _=>False) (by simp) (fun x hx=>by simp[List.getD_eq_getElem?_getD,hx])
  exact⟨h1,fun x hx=>by rw[kC,h2 x hx];simp⟩
theorem zdG {n:Nat}{es:Es}{O:Nat→Prop}{v:Nat}{D:List Bool}{ps:List (List Nat)}(w:OI n es O v D ps):ps.length≤v:=by
 have h:(ps.map fun p=>p.headD 0).Pairwise (· < ·):=by
  refine List.pairwise_map.2 ?_
  refine w.heads.imp_of_mem fun{p q} hp hq h=>?_
  have h1:=w.ne p hp;have h2:=w.ne q hq
  cases p with
  |nil=>exact absurd rfl h1
  | cons a p=>cases q with
    |nil=>exact absurd rfl h2
    |cons b q=>exact h a rfl b rfl
 have h2:∀x∈ps.map fun p=>p.headD 0,x∈List.range v:=by
  intro x hx
  obtain⟨p,hp,rfl⟩:=List.mem_map.1 hx
  cases p with
  |nil=>exact absurd rfl (w.ne _ hp)
  |cons a p=>exact List.mem_range.2 (w.low _ hp a rfl)
 have:=Z5 (h.imp fun h=>Nat.ne_of_lt h) h2
 simpa using this
theorem zl9 {n:Nat}{es:Es}(g:GR n es)(out:List Int)(ho:out.length≤1000000000):
    zo Try.prog [] zfB [.imm 1 (Zq (J1 n es)),.imm 1 (zj out)] [] fun r h'=>∃ps,ZX n es (fun v=>(v:Int)∈out) ps∧r= .own (some 1) (ZK ps)∧(h':Heap).length≤1:=by
  have hn:=g.hn
  have hb1:n*1≤140737488355328:=by omega
  have hb0:(n:Int)≤9223372036854775807:=by omega
  refine zlg rfl ?_
  unfold zjI ja
  refine za fun KY hKY=>?_
  simp only[go_sem,Py]
  apply hKY
  refine za fun KY hKY=>?_
  simp only[go_sem,Px,jM,hb1]
  repeat (simp(disch:=omega) only[if_pos,if_neg,decide_eq_true,decide_eq_false,zL,zv,zh,jM,hb1];try simp only[go_sem,jM,hb1])
  apply hKY
  simp only[go_sem]
  refine Kr [0,5,2] .dead (by simp only[go_sem];rfl) rfl (qY.dead _) ?_
  simp only[go_sem]
  refine jP [0,5,3] 1 (by simp only[go_sem]) ?_
  simp only[go_sem]
  refine vc [0,5] (by simp only[go_sem];rfl) ?_
  simp only[go_sem]
  refine zf fun X1 hn1 he1 hr1=>?_
  refine za fun KY hKY=>?_
  simp only[go_sem,Pv]
  apply hKY
  refine zm fun X2 hn2 he2 hf2 hr2=>?_
  try simp only[go_sem]
  refine zU (α:=Nat) [7,19,29] (fun k=>[(18,.sc (.int .i64 (k:Int)))]) (fun k=>[some (Qc (J1 n es) (kC n (out.take k)))]) (fun k q=>k≤out.length∧q=out.length - k) (0) (out.length) rfl (by first|(simp only[go_sem,zd,ze];done)|with_reducible rfl|rfl) (⟨by omega,rfl⟩) ?_
  rintro k q ⟨hk,rfl⟩ X3 hn3 he3 hr3
  simp only[go_sem,zd,ze]
  unfold Qc
  refine za fun KY hKY=>?_
  simp only[go_sem,Pu]
  apply hKY
  refine zf fun X4 hn4 he4 hr4=>?_
  by_cases hk2:k<out.length
  · refine ZL ?_
    refine zg ?_
    repeat (first|refine hn4 _ ?_|refine he4 _ _ ?_|refine he3 _ _ ?_|refine hn2 _ ?_|refine he2 _ ?_|refine hf2 _ _ (by decide) ?_|refine hn1 _ ?_|refine he1 _ _ ?_)
    refine zf fun X5 hn5 he5 hr5=>?_
    refine zm fun X6 hn6 he6 hf6 hr6=>?_
    have hx:out[k]?=some (out[k]):=List.getElem?_eq_getElem hk2
    have hxg:out.getD k 0=out[k]:=by simp[List.getD_eq_getElem?_getD,hx]
    generalize out[k]=v at hx hxg
    refine za fun KY hKY=>?_
    simp only[go_sem,Ps,zh hk2,hxg,hk2]
    apply hKY
    have hst:=zdK n out k v hx
    have hlen:=(zcs n (out.take k)).1
    by_cases hv:0≤v
    · by_cases hvn:v<n
      · rw[if_pos ⟨hv,hvn⟩] at hst
        refine za fun KY hKY=>?_
        simp only[go_sem,wT,hv,jM,hvn]
        apply hKY
        refine ZL ?_
        obtain⟨m,rfl⟩:∃m:Nat,v=m:=⟨v.toNat,by omega⟩
        have hm:m<n:=by omega
        rw[Int.toNat_natCast] at hst
        refine zk fun KY hKY=>?_
        simp only[go_sem,Pr,hlen,hm,←hst]
        apply hKY
        repeat (first|refine hn6 _ ?_|refine he6 _ ?_|refine hf6 _ _ (by decide) ?_|refine hn5 _ ?_|refine he5 _ _ ?_|refine hn4 _ ?_|refine he4 _ _ ?_|refine he3 _ _ ?_|refine hn2 _ ?_|refine he2 _ ?_|refine hf2 _ _ (by decide) ?_|refine hn1 _ ?_|refine he1 _ _ ?_)
        refine zk fun KY hKY=>?_
        simp only[go_sem,wS,zL (show k<4611686018427387904 by omega)]
        apply hKY
        repeat (first|refine hn6 _ ?_|refine he6 _ ?_|refine hf6 _ _ (by decide) ?_|refine hn5 _ ?_|refine he5 _ _ ?_|refine hn4 _ ?_|refine he4 _ _ ?_)
        refine hn3 _ (k+1) (out.length - (k+1)) (by omega) (by first|(simp only[go_sem,zd,ze,Qc];done)|with_reducible rfl|rfl) ?_
        exact⟨hk2,rfl⟩
      · rw[if_neg (by omega)] at hst
        refine za fun KY hKY=>?_
        simp only[go_sem,wT,hv,jM,hvn]
        apply hKY
        refine Zy ?_
        rw[←hst]
        refine zg ?_
        repeat (first|refine hn6 _ ?_|refine he6 _ ?_|refine hf6 _ _ (by decide) ?_|refine hn5 _ ?_|refine he5 _ _ ?_|refine hn4 _ ?_|refine he4 _ _ ?_|refine he3 _ _ ?_|refine hn2 _ ?_|refine he2 _ ?_|refine hf2 _ _ (by decide) ?_|refine hn1 _ ?_|refine he1 _ _ ?_)
        refine zk fun KY hKY=>?_
        simp only[go_sem,wS,zL (show k<4611686018427387904 by omega)]
        apply hKY
        repeat (first|refine hn6 _ ?_|refine he6 _ ?_|refine hf6 _ _ (by decide) ?_|refine hn5 _ ?_|refine he5 _ _ ?_|refine hn4 _ ?_|refine he4 _ _ ?_)
        refine hn3 _ (k+1) (out.length - (k+1)) (by omega) (by first|(simp only[go_sem,zd,ze,Qc];done)|with_reducible rfl|rfl) ?_
        exact⟨hk2,rfl⟩
    · rw[if_neg (by omega)] at hst
      refine za fun KY hKY=>?_
      simp only[go_sem,wT,hv]
      apply hKY
      refine Zy ?_
      rw[←hst]
      refine zg ?_
      repeat (first|refine hn6 _ ?_|refine he6 _ ?_|refine hf6 _ _ (by decide) ?_|refine hn5 _ ?_|refine he5 _ _ ?_|refine hn4 _ ?_|refine he4 _ _ ?_|refine he3 _ _ ?_|refine hn2 _ ?_|refine he2 _ ?_|refine hf2 _ _ (by decide) ?_|refine hn1 _ ?_|refine he1 _ _ ?_)
      refine zk fun KY hKY=>?_
      simp only[go_sem,wS,zL (show k<4611686018427387904 by omega)]
      apply hKY
      repeat (first|refine hn6 _ ?_|refine he6 _ ?_|refine hf6 _ _ (by decide) ?_|refine hn5 _ ?_|refine he5 _ _ ?_|refine hn4 _ ?_|refine he4 _ _ ?_)
      refine hn3 _ (k+1) (out.length - (k+1)) (by omega) (by first|(simp only[go_sem,zd,ze,Qc];done)|with_reducible rfl|rfl) ?_
      exact⟨hk2,rfl⟩
  · refine Zy ?_
    refine zy ?_
    repeat (first|refine hn4 _ ?_|refine he4 _ _ ?_|refine he3 _ _ ?_|refine hn2 _ ?_|refine he2 _ ?_|refine hf2 _ _ (by decide) ?_|refine hn1 _ ?_|refine he1 _ _ ?_)
    obtain rfl:k=out.length:=by omega
    rw[List.take_length]
    obtain⟨hlen,hout⟩:=zcs n out
    generalize kC n out=D0 at hlen hout
    refine za fun KY hKY=>?_
    simp only[go_sem,Pq]
    apply hKY
    simp only[go_sem]
    refine jP [0,8] 1 (by simp only[go_sem]) ?_
    refine zf fun X7 hn7 he7 hr7=>?_
    refine za fun KY hKY=>?_
    simp only[go_sem,Pp,jM]
    apply hKY
    refine zm fun X8 hn8 he8 hf8 hr8=>?_
    try simp only[go_sem]
    refine zU (α:=Nat×List Bool×List (List Nat)) [9,18,19,40,49] (fun(v,D,ps)=>[(8,.own (some 1) (ZK ps)),(39,.sc (.int .i64 (v:Int)))]) (fun(v,D,ps)=>[some (Qc (J1 n es) D)]) (fun(v,D,ps) q=>v≤n∧q=n - v∧OI n es (fun v=>(v:Int)∈out) v D ps) ((0,D0,[])) (n) rfl (by first|(simp only[go_sem,zd,ze];done)|with_reducible rfl|rfl) (⟨by omega,rfl,OI.start hlen hout⟩) ?_
    rintro⟨v,D,ps⟩ q ⟨hv,rfl,w⟩ X9 hn9 he9 hr9
    simp only[go_sem,zd,ze]
    unfold Qc
    refine za fun KY hKY=>?_
    simp only[go_sem,Vn]
    apply hKY
    refine zf fun X10 hn10 he10 hr10=>?_
    by_cases hv2:v<n
    · refine ZL ?_
      refine zg ?_
      repeat (first|refine hn10 _ ?_|refine he10 _ _ ?_|refine he9 _ _ ?_|refine hn8 _ ?_|refine he8 _ ?_|refine hf8 _ _ (by decide) ?_|refine hn7 _ ?_|refine he7 _ _ ?_|refine hn4 _ ?_|refine he4 _ _ ?_)
      refine zf fun X11 hn11 he11 hr11=>?_
      refine zm fun X12 hn12 he12 hf12 hr12=>?_
      refine za fun KY hKY=>?_
      simp only[go_sem,Vm]
      apply hKY
      have hDl:=w.len
      have hvD:v<D.length:=by omega
      have hbg:=ji hvD
      refine za fun KY hKY=>?_
      simp only[go_sem,Vl,hbg,hvD]
      apply hKY
      cases hd:D.getD v false with
      | true=>
        refine Zo (by first|rfl|(simp only[go_sem,hd];try simp(disch:=omega) only[decide_eq_true,decide_eq_false])) ?_
        refine zg ?_
        repeat (first|refine hn12 _ ?_|refine he12 _ ?_|refine hf12 _ _ (by decide) ?_|refine hn11 _ ?_|refine he11 _ _ ?_|refine hn10 _ ?_|refine he10 _ _ ?_|refine he9 _ _ ?_|refine hn8 _ ?_|refine he8 _ ?_|refine hf8 _ _ (by decide) ?_|refine hn7 _ ?_|refine he7 _ _ ?_|refine hn4 _ ?_|refine he4 _ _ ?_)
        refine zk fun KY hKY=>?_
        simp only[go_sem,WG,zL (show v<4611686018427387904 by omega)]
        apply hKY
        repeat (first|refine hn12 _ ?_|refine he12 _ ?_|refine hf12 _ _ (by decide) ?_|refine hn11 _ ?_|refine he11 _ _ ?_|refine hn10 _ ?_|refine he10 _ _ ?_)
        refine hn9 _ ((v+1,D,ps)) (n - (v+1)) (by omega) (by first|(simp only[go_sem,zd,ze,Qc];done)|with_reducible rfl|rfl) ?_
        exact⟨hv2,rfl,w.skip hd⟩
      | false=>
        refine Zs (by first|rfl|(simp only[go_sem,hd];try simp(disch:=omega) only[decide_eq_true,decide_eq_false])) ?_
        have hps:=zdG w
        have hby:(ps.length+1)*24≤140737488355328:=by omega
        refine zk fun KY hKY=>?_
        simp only[go_sem,Vk]
        apply zn [] [0] false none rfl
        iterate 8 (first|(simp only[go_sem,zp]<;>rfl)|rfl)
        refine(zfj g D hDl v hv2 hd).mono ?_
        rintro _ _ ⟨p,D',hp,rfl,rfl⟩
        unfold Qc
        refine⟨Nat.le_of_ble_eq_true rfl,(fun hh=>by cases hh),?_⟩
        simp only[go_sem,zr,zb.after,J6,hby,x8]
        apply hKY
        repeat (first|refine hn12 _ ?_|refine he12 _ ?_|refine hf12 _ _ (by decide) ?_|refine hn11 _ ?_|refine he11 _ _ ?_|refine hn10 _ ?_|refine he10 _ _ ?_|refine he9 _ _ ?_|refine hn8 _ ?_|refine he8 _ ?_|refine hf8 _ _ (by decide) ?_|refine hn7 _ ?_|refine he7 _ _ ?_|refine hn4 _ ?_|refine he4 _ _ ?_)
        refine zk fun KY hKY=>?_
        simp only[go_sem,WG,zL (show v<4611686018427387904 by omega)]
        apply hKY
        repeat (first|refine hn12 _ ?_|refine he12 _ ?_|refine hf12 _ _ (by decide) ?_|refine hn11 _ ?_|refine he11 _ _ ?_|refine hn10 _ ?_|refine he10 _ _ ?_)
        refine hn9 _ ((v+1,D',ps++[p])) (n - (v+1)) (by omega) (by first|(simp only[go_sem,zd,ze,Qc];done)|with_reducible rfl|rfl) ?_
        exact⟨hv2,rfl,w.take g.adj_lt hp⟩
    · refine Zy ?_
      refine zy ?_
      repeat (first|refine hn10 _ ?_|refine he10 _ _ ?_|refine he9 _ _ ?_|refine hn8 _ ?_|refine he8 _ ?_|refine hf8 _ _ (by decide) ?_|refine hn7 _ ?_|refine he7 _ _ ?_|refine hn4 _ ?_|refine he4 _ _ ?_|refine he3 _ _ ?_|refine hn2 _ ?_|refine he2 _ ?_|refine hf2 _ _ (by decide) ?_|refine hn1 _ ?_|refine he1 _ _ ?_)
      obtain rfl:v=n:=by omega
      refine za fun KY hKY=>?_
      simp only[go_sem,Vj]
      apply hKY
      refine zi ?_
      repeat (first|refine hr10 _ ?_|refine hr9 _ ?_|refine hr8 _ ?_|refine hr7 _ ?_|refine hr4 _ ?_|refine hr3 _ ?_|refine hr2 _ ?_|refine hr1 _ ?_)
      simp only[go_sem]
      exact⟨ps,w.pieces,rfl⟩
abbrev PsQ (n:Nat)(es:Es)(out:List Int)(r:zc)(h':Heap):Prop:=(∃ps,ZX n es (fun v=>(v:Int)∈out) ps∧r= .own (some 1) (ZK ps))∧h'=[]
theorem zkx {n:Nat}{es:Es}(g:GR n es)(out:List Int)(ho:out.length≤1000000000):
    zo Try.prog [] zfB [.imm 1 (Zq (J1 n es)),.imm 1 (zj out)] [] (PsQ n es out):=by
  refine zo.trim ((zl9 g out ho).mono ?_)
  rintro r h' ⟨ps,h1,rfl,h2⟩
  refine⟨Nat.zero_le _,⟨ps,h1,?_⟩,rfl⟩
  simp only[zc.ren,vd]
theorem za1 {n:Nat}{es:Es}(g:GR n es)(out:List Int)(ho:out.length≤1000000000):
    zo Try.prog [] ziV [.agg [.sc (.int .i64 (n:Int)),.imm 2 (Zj (zP es))],.imm 1 (zj out)] [] (PsQ n es out):=by
  refine zlt rfl ?_
  unfold zjV xa
  refine za fun KY hKY=>?_
  simp only[go_sem,Ou]
  apply hKY
  refine zf fun X1 hn1 he1 hr1=>?_
  refine za fun KY hKY=>?_
  simp only[go_sem,Ot]
  refine zA rfl (by simp only[go_sem]<;>rfl) ((ym _ _).mono ?_)
  rintro rr hh ⟨rfl,rfl⟩
  refine⟨rfl,rfl,rfl,?_⟩
  simp only[go_sem,Jk g]
  apply hKY
  refine Zy ?_
  refine zg ?_
  repeat (first|refine hn1 _ ?_|refine he1 _ _ ?_)
  refine za fun KY hKY=>?_
  simp only[go_sem,Oq]
  refine zA rfl (by simp only[go_sem]<;>rfl) ((yx g).mono ?_)
  rintro rr hh ⟨rfl,rfl⟩
  refine⟨?_,?_,?_,?_⟩
  iterate 3 (first|rfl|simp only[go_sem])
  simp only[go_sem]
  refine zA rfl (by simp only[go_sem]<;>rfl) ((zkx g out ho).mono ?_)
  rintro rr hh ⟨⟨ps,hps,rfl⟩,rfl⟩
  refine⟨?_,?_,?_,?_⟩
  iterate 3 (first|rfl|simp only[go_sem])
  simp only[go_sem]
  apply hKY
  refine zi ?_
  repeat (first|refine hr1 _ ?_)
  simp only[go_sem]
  exact⟨⟨ps,hps,rfl⟩,rfl⟩
end Go.Proofs.Ytkjppnofgmpeeaa
