/- The set A shows that a largest matching is one: there are as many pieces of D as vertices of A, and as many more as vertices without a mate; all that have none are in D. -/
import Derived.Test.YtkjppnofgmpeeaaPk3
import Derived.Test.YtkjppnofgmpeeaaPk1
import Derived.Test.YtkjppnofgmpeeaaGohmjhm5
import Derived.WalkKit
import Derived.ProofKit
import Derived.OpenShut
import Derived.JoinedCond
set_option linter.all false
set_option maxRecDepth 100000
set_option maxHeartbeats 2000000
namespace Go.Proofs.Ytkjppnofgmpeeaa
open Go Go.Ga Go.Ga.Gl
def KU (n:Int)(es:List (Int×Int))(out:List Int)(ps:List (List Nat)):Prop:=
 (Zf n es=true∧∃(N:Nat) (es':Es),n=N∧es=zB es'∧GR N es'∧ZF N es' (fun v=>(v:Int)∈out) ps)∨(Zf n es=false∧ps=[])
theorem VO :∀{l m:Es},zB l=zB m→l=m
 |[],[],_=>rfl
 |[],_::_,h=>by simp[zB] at h
 |_::_,[],h=>by simp[zB] at h
 | (a,b)::l,(c,d)::m,h=>by
   simp only[zB,List.map_cons,List.cons.injEq,Prod.mk.injEq] at h
   obtain⟨⟨h1,h2⟩,h3⟩:=h
   rw[VO (l:=l) (m:=m) h3,show a=c by omega,show b=d by omega]
theorem KU.len {n:Int}{es:List (Int×Int)}{out:List Int}{ps:List (List Nat)}(h:KU n es out ps):ps.length≤4096∧∀p∈ps,p.length≤4096:=by
 rcases h with⟨_,N,es',_,_,g,P⟩|⟨_,rfl⟩
 · have:=g.hn
   exact⟨Nat.le_trans (Y7 P) this,fun p hp=>Nat.le_trans (zeO P hp) this⟩
 · exact⟨by simp,fun p hp=>by simp at hp⟩
abbrev PsG (n:Int)(es:List (Int×Int))(out:List Int)(r:zc)(h':Heap):Prop:=(∃ps,KU n es out ps∧r= .own (some 1) (ZH ps))∧h'=[]
theorem psG {f:Nat}{args:List zc}{n:Int}{es:List (Int×Int)}{out:List Int}(h1:∀(N:Nat) (es':Es),n=N→es=zB es'→GR N es'→zo Try.prog [] f args [] (PsQ N es' out))(h2:Zf n es=false→zo Try.prog [] f args [] fun r h'=>r= .sc (.slice none 0 0)∧h'=[]):zo Try.prog [] f args [] (PsG n es out):=by
 cases hr:Zf n es with
 | true=>
   obtain⟨N,es',e1,e2,g⟩:=WD hr
   refine(h1 N es' e1 e2 g).mono ?_
   rintro r h' ⟨⟨ps,hps,rfl⟩,rfl⟩
   exact⟨⟨ps,.inl ⟨hr,N,es',e1,e2,g,hps⟩,rfl⟩,rfl⟩
 | false=>
   refine(h2 hr).seen ?_
   rintro r h' ⟨rfl,rfl⟩
   exact⟨.own (some 1) (ZH []),qH.own 1,⟨[],.inr ⟨hr,rfl⟩,rfl⟩,rfl⟩
theorem Ki (n:Int)(es:List (Int×Int))(out:List Int)(ho:out.length≤1000000000):zo Try.prog [] zdK [.agg [.sc (.int .i64 n),.imm 2 (zZ es)],.imm 1 (zl out)] [] (PsG n es out):=
 psG (fun N es' e1 e2 g=>by subst e1 e2;exact gu g out ho) (fun h=>gv h out)
theorem Kx (ps:List (List Nat))(k:Nat)(h:ps.length≤4096):Zx (ps.take k)≤4096:=Nat.le_trans (zlM _) (Nat.le_trans (List.length_take_le' _ _) h)
theorem zf7 (n:Int)(es:List (Int×Int))(out:List Int)(ho:out.length≤1000000000):
    zo Try.prog [] zjW [.agg [.sc (.int .i64 n),.imm 2 (zZ es)],.imm 1 (zl out)] [] fun r h'=>(∃ps,KU n es out ps∧r= .sc (.int .i64 (Zx ps:Int)))∧h'=[]:=by
  refine zmm rfl ?_
  unfold zkS qd
  refine za fun KY hKY=>?_
  simp only[go_sem,oH]
  apply hKY
  refine za fun KY hKY=>?_
  simp only[go_sem,oG]
  apply hKY
  refine za fun KY hKY=>?_
  simp only[go_sem,oA]
  refine zt rfl (by simp only[go_sem]<;>rfl) ((Ki n es out ho).mono ?_)
  rintro rr hh ⟨⟨ps,hps,rfl⟩,rfl⟩
  refine⟨?_,?_,?_,?_⟩
  iterate 3 (first|rfl|simp only[go_sem])
  obtain⟨hpl,hpe⟩:=hps.len
  have hoc:=fun k=>Kx ps k hpl
  simp only[go_sem]
  apply hKY
  simp only[go_sem]
  refine Zd [0,6] (by simp only[go_sem];rfl) ?_
  simp only[go_sem]
  refine zf fun X1 hn1 he1 hr1=>?_
  refine za fun KY hKY=>?_
  simp only[go_sem,oz]
  apply hKY
  refine zk fun X2 hn2 he2 hf2 hr2=>?_
  try simp only[go_sem]
  refine zL (α:=Nat) [14] (fun k=>[(5,.sc (.int .i64 (Zx (ps.take k):Int))),(7,.sc (.int .i64 (k:Int)))]) (fun k=>[]) (fun k q=>k≤ps.length∧q=ps.length - k) (0) (ps.length) rfl (by first|(simp only[go_sem,zd,ze];done)|with_reducible rfl|rfl) (⟨by omega,rfl⟩) ?_
  rintro k q ⟨hk,rfl⟩ X3 hn3 he3 hr3
  simp only[go_sem,zd,ze]
  refine zf fun X4 hn4 he4 hr4=>?_
  refine za fun KY hKY=>?_
  simp only[go_sem,ou]
  apply hKY
  by_cases hk2:k<ps.length
  · refine ZA ?_
    refine zg ?_
    repeat (first|refine hn4 _ ?_|refine he4 _ _ ?_|refine he3 _ _ ?_|refine hn2 _ ?_|refine he2 _ ?_|refine hf2 _ _ (by decide) ?_|refine hn1 _ ?_|refine he1 _ _ ?_)
    refine zf fun X5 hn5 he5 hr5=>?_
    refine zk fun X6 hn6 he6 hf6 hr6=>?_
    have hx:ps[k]?=some (ps[k]):=List.getElem?_eq_getElem hk2
    have hy:(ps[k]).length≤4096:=hpe _ (List.getElem_mem hk2)
    generalize ps[k]=p at hx hy
    have hst:=zgv ps k p hx
    have h1:=hoc k
    have hm:(p.length:Int).tmod 2=((p.length%2:Nat):Int):=by
      rw[Int.tmod_eq_emod_of_nonneg (by omega)];omega
    have ha:IntKind.i64.wrap ((Zx (ps.take k):Int)+((p.length%2:Nat):Int))=(Zx (ps.take (k+1)):Int):=by
      rw[IntWalk.i64_in _ (by omega),hst];omega
    refine zm fun KY hKY=>?_
    simp only[go_sem,ot,Jp hx,hk2,hm,ha]
    apply hKY
    repeat (first|refine hn6 _ ?_|refine he6 _ ?_|refine hf6 _ _ (by decide) ?_|refine hn5 _ ?_|refine he5 _ _ ?_|refine hn4 _ ?_|refine he4 _ _ ?_|refine he3 _ _ ?_|refine hn2 _ ?_|refine he2 _ ?_|refine hf2 _ _ (by decide) ?_|refine hn1 _ ?_|refine he1 _ _ ?_)
    refine zm fun KY hKY=>?_
    simp only[go_sem,oq,zJ (show k<4611686018427387904 by omega)]
    apply hKY
    repeat (first|refine hn6 _ ?_|refine he6 _ ?_|refine hf6 _ _ (by decide) ?_|refine hn5 _ ?_|refine he5 _ _ ?_|refine hn4 _ ?_|refine he4 _ _ ?_)
    refine hn3 _ (k+1) (ps.length - (k+1)) (by omega) (by first|(simp only[go_sem,zd,ze];done)|with_reducible rfl|rfl) ?_
    exact⟨hk2,rfl⟩
  · refine Zm ?_
    refine zy ?_
    repeat (first|refine hn4 _ ?_|refine he4 _ _ ?_|refine he3 _ _ ?_|refine hn2 _ ?_|refine he2 _ ?_|refine hf2 _ _ (by decide) ?_|refine hn1 _ ?_|refine he1 _ _ ?_)
    obtain rfl:k=ps.length:=by omega
    rw[List.take_length]
    refine za fun KY hKY=>?_
    simp only[go_sem,oo]
    apply hKY
    refine zj ?_
    repeat (first|refine hr4 _ ?_|refine hr3 _ ?_|refine hr2 _ ?_|refine hr1 _ ?_)
    simp only[go_sem]
    exact⟨ps,hps,rfl⟩
theorem KU.disj {n:Int}{es:List (Int×Int)}{out:List Int}{ps:List (List Nat)}(h:KU n es out ps):ps.Pairwise fun p q=>∀v∈p,v∉q:=by
 rcases h with⟨_,N,es',_,_,g,P⟩|⟨_,rfl⟩
 · exact P.disj
 · exact .nil
end Go.Proofs.Ytkjppnofgmpeeaa
set_option maxHeartbeats 4000000
namespace Go.Proofs.Ytkjppnofgmpeeaa
open Go Go.Ga Go.Ga.Gl
def XV (es:Es)(m:List Int)(v:Nat):Bool:=decide (m.getD v 0= -1)||(decide (jP (v:Int) (m.getD v 0)∈zB es)&&decide (m.getD (m.getD v 0).toNat 0=(v:Int)))
def wT (n:Int)(es:List (Int×Int))(m:List Int):Bool:=Zf n es&&decide ((m.length:Int)=n)&&(List.range m.length).all fun v=>decide (m.getD v 0= -1)||(decide (jP (v:Int) (m.getD v 0)∈es)&&decide (m.getD (m.getD v 0).toNat 0=(v:Int)))
theorem ga {N:Nat}{es:Es}(g:GR N es){v:Nat}{w:Int}(h:jP (v:Int) w∈zB es):∃u:Nat,w=u∧u<N∧v<N∧u≠v:=by
 obtain⟨⟨a,b⟩,hm,e⟩:=List.mem_map.1 h
 have hok:=g.ok _ hm
 simp only at hok
 unfold jP at e
 split at e
 · simp only[Prod.mk.injEq] at e
   exact⟨a,by omega,by omega,by omega,by omega⟩
 · simp only[Prod.mk.injEq] at e
   exact⟨b,by omega,by omega,by omega,by omega⟩
theorem zcD (n:Int)(es:List (Int×Int))(m:List Int)(h:(Zf n es&&decide ((m.length:Int)=n))=false):zo Try.prog [] zdH [.agg [.sc (.int .i64 n),.imm 2 (zZ es)],.imm 1 (zl m)] [] fun r h'=>r= .sc (.bool false)∧h'=[]:=by
 refine zo.trim ?_
 refine zhj rfl ?_
 unfold zhP Jy
 refine za fun KY hKY=>?_
 simp only[go_sem,Up]
 apply hKY
 refine zf fun X1 hn1 he1 hr1=>?_
 cases hr:Zf n es with
 | false=>
   refine za fun KY hKY=>?_
   simp only[go_sem,Wl]
   refine zt rfl (by simp only[go_sem]<;>rfl) ((jX n es).mono ?_)
   rintro rr hh ⟨rfl,rfl⟩
   refine⟨rfl,rfl,rfl,?_⟩
   simp only[go_sem,hr]
   apply hKY
   refine ZA ?_
   refine za fun KY hKY=>?_
   simp only[go_sem,Uo]
   apply hKY
   refine zj ?_
   repeat (first|refine hr1 _ ?_)
   simp only[go_sem]
 | true=>
   rw[hr,Bool.true_and,decide_eq_false_iff_not] at h
   have hd:decide ((m.length:Int)≠n)=true:=decide_eq_true h
   refine za fun KY hKY=>?_
   simp only[go_sem,Wl]
   refine zt rfl (by simp only[go_sem]<;>rfl) ((jX n es).mono ?_)
   rintro rr hh ⟨rfl,rfl⟩
   refine⟨rfl,rfl,rfl,?_⟩
   simp only[go_sem,hr,zi,hd]
   apply hKY
   refine ZA ?_
   refine za fun KY hKY=>?_
   simp only[go_sem,Uo]
   apply hKY
   refine zj ?_
   repeat (first|refine hr1 _ ?_)
   simp only[go_sem]
theorem zdj {N k:Nat}{φ:Nat→Bool}(h:k<N)(hf:φ k=false):((List.range N).all fun v=>φ v)=false:=by
 rw[Bool.eq_false_iff];intro h'
 rw[List.all_eq_true] at h'
 rw[h' k (List.mem_range.2 h)] at hf;cases hf
theorem gA {N:Nat}{es:Es}(g:GR N es)(m:List Int)(hl:m.length=N):zo Try.prog [] zdH [.agg [.sc (.int .i64 (N:Int)),.imm 2 (zZ (zB es))],.imm 1 (zl m)] [] fun r h'=>r= .sc (.bool ((List.range N).all fun v=>XV es m v))∧h'=[]:=by
 refine zo.trim ?_
 have hN:=g.hn
 have hr:=Z6 g
 have hd:decide ((m.length:Int)≠(N:Int))=false:=decide_eq_false (by omega)
 refine zhj rfl ?_
 unfold zhP Jy
 refine za fun KY hKY=>?_
 simp only[go_sem,Up]
 apply hKY
 refine zf fun X1 hn1 he1 hr1=>?_
 refine za fun KY hKY=>?_
 simp only[go_sem,Wl]
 refine zt rfl (by simp only[go_sem]<;>rfl) ((jX N (zB es)).mono ?_)
 rintro rr hh ⟨rfl,rfl⟩
 refine⟨rfl,rfl,rfl,?_⟩
 simp only[go_sem,hr,zi,hd]
 apply hKY
 refine Zm ?_
 refine zg ?_
 repeat (first|refine hn1 _ ?_|refine he1 _ _ ?_)
 refine zf fun X2 hn2 he2 hr2=>?_
 refine za fun KY hKY=>?_
 simp only[go_sem,zab]
 apply hKY
 refine zk fun X3 hn3 he3 hf3 hr3=>?_
 try simp only[go_sem]
 refine zL (α:=Nat) [20,6,43] (fun k=>[(5,.sc (.int .i64 (k:Int)))]) (fun k=>[]) (fun k q=>k≤N∧q=N - k∧(∀v,v<k→XV es m v=true)) (0) (N) rfl (by first|(simp only[go_sem,zd,ze];done)|with_reducible rfl|rfl) (⟨by omega,rfl,fun v h=>by omega⟩) ?_
 rintro k q ⟨hk,rfl,hz⟩ X4 hn4 he4 hr4
 simp only[go_sem,zd,ze]
 refine zf fun X5 hn5 he5 hr5=>?_
 rcases Nat.lt_or_ge k N with hk2|hk2
 · have hdy:decide ((k:Int)<(N:Int))=true:=decide_eq_true (by omega)
   refine za fun KY hKY=>?_
   simp only[go_sem,Un,hdy]
   apply hKY
   refine ZA ?_
   refine zg ?_
   repeat (first|refine hn5 _ ?_|refine he5 _ _ ?_|refine he4 _ _ ?_|refine hn3 _ ?_|refine he3 _ ?_|refine hf3 _ _ (by decide) ?_|refine hn2 _ ?_|refine he2 _ _ ?_|refine hn1 _ ?_|refine he1 _ _ ?_)
   refine zf fun X6 hn6 he6 hr6=>?_
   refine zk fun X7 hn7 he7 hf7 hr7=>?_
   refine za fun KY hKY=>?_
   simp only[go_sem,zaa,zh (show k<m.length by omega),zi,hl,hk2]
   apply hKY
   by_cases hw:m.getD k 0= -1
   · have d1:decide (m.getD k 0≠ -1)=false:=decide_eq_false fun h=>h hw
     have hok:XV es m k=true:=by unfold XV;rw[decide_eq_true hw];rfl
     refine za fun KY hKY=>?_
     simp only[go_sem,y6,d1]
     apply hKY
     refine Zm ?_
     refine zg ?_
     repeat (first|refine hn7 _ ?_|refine he7 _ ?_|refine hf7 _ _ (by decide) ?_|refine hn6 _ ?_|refine he6 _ _ ?_|refine hn5 _ ?_|refine he5 _ _ ?_|refine he4 _ _ ?_|refine hn3 _ ?_|refine he3 _ ?_|refine hf3 _ _ (by decide) ?_|refine hn2 _ ?_|refine he2 _ _ ?_|refine hn1 _ ?_|refine he1 _ _ ?_)
     refine zm fun KY hKY=>?_
     simp only[go_sem,Ul,zJ (show k<4611686018427387904 by omega)]
     apply hKY
     repeat (first|refine hn7 _ ?_|refine he7 _ ?_|refine hf7 _ _ (by decide) ?_|refine hn6 _ ?_|refine he6 _ _ ?_|refine hn5 _ ?_|refine he5 _ _ ?_)
     refine hn4 _ (k+1) (N - (k+1)) (by omega) (by first|(simp only[go_sem,zd,ze];done)|with_reducible rfl|rfl) ?_
     refine⟨hk2,rfl,fun v hv=>?_⟩
     rcases Nat.lt_or_ge v k with h3|h3
     · exact hz v h3
     · obtain rfl:v=k:=by omega
       exact hok
   · have d1:decide (m.getD k 0≠ -1)=true:=decide_eq_true hw
     by_cases hm:jP (k:Int) (m.getD k 0)∈zB es
     · have hhas:(Zf N (zB es)&&decide (jP (k:Int) (m.getD k 0)∈zB es))=true:=by rw[hr,decide_eq_true hm];rfl
       obtain⟨u,hu,huN,_,_⟩:=ga g hm
       have hgu:m.getD (m.getD k 0).toNat 0=m.getD u 0:=by rw[hu];rfl
       by_cases hq:m.getD u 0=(k:Int)
       · have d2:decide (m.getD u 0≠(k:Int))=false:=decide_eq_false fun h=>h hq
         have hok:XV es m k=true:=by unfold XV;rw[decide_eq_true hm,hgu,decide_eq_true hq];simp
         refine za fun KY hKY=>?_
         simp only[go_sem,y6,d1]
         refine zt rfl (by simp only[go_sem]<;>rfl) ((x9 N (zB es) k (m.getD k 0)).mono ?_)
         rintro rr hh ⟨rfl,rfl⟩
         refine⟨rfl,rfl,rfl,?_⟩
         simp only[go_sem,hhas]
         simp only[hu]
         simp only[go_sem,zh (show u<m.length by omega),zi,hl,huN,d2]
         apply hKY
         refine Zm ?_
         refine zg ?_
         repeat (first|refine hn7 _ ?_|refine he7 _ ?_|refine hf7 _ _ (by decide) ?_|refine hn6 _ ?_|refine he6 _ _ ?_|refine hn5 _ ?_|refine he5 _ _ ?_|refine he4 _ _ ?_|refine hn3 _ ?_|refine he3 _ ?_|refine hf3 _ _ (by decide) ?_|refine hn2 _ ?_|refine he2 _ _ ?_|refine hn1 _ ?_|refine he1 _ _ ?_)
         refine zm fun KY hKY=>?_
         simp only[go_sem,Ul,zJ (show k<4611686018427387904 by omega)]
         apply hKY
         repeat (first|refine hn7 _ ?_|refine he7 _ ?_|refine hf7 _ _ (by decide) ?_|refine hn6 _ ?_|refine he6 _ _ ?_|refine hn5 _ ?_|refine he5 _ _ ?_)
         refine hn4 _ (k+1) (N - (k+1)) (by omega) (by first|(simp only[go_sem,zd,ze];done)|with_reducible rfl|rfl) ?_
         refine⟨hk2,rfl,fun v hv=>?_⟩
         rcases Nat.lt_or_ge v k with h3|h3
         · exact hz v h3
         · obtain rfl:v=k:=by omega
           exact hok
       · have d2:decide (m.getD u 0≠(k:Int))=true:=decide_eq_true hq
         have hok:XV es m k=false:=by unfold XV;rw[decide_eq_false hw,hgu,decide_eq_false hq];simp
         refine za fun KY hKY=>?_
         simp only[go_sem,y6,d1]
         refine zt rfl (by simp only[go_sem]<;>rfl) ((x9 N (zB es) k (m.getD k 0)).mono ?_)
         rintro rr hh ⟨rfl,rfl⟩
         refine⟨rfl,rfl,rfl,?_⟩
         simp only[go_sem,hhas]
         simp only[hu]
         simp only[go_sem,zh (show u<m.length by omega),zi,hl,huN,d2]
         apply hKY
         refine ZA ?_
         refine za fun KY hKY=>?_
         simp only[go_sem,Um]
         apply hKY
         refine zj ?_
         repeat (first|refine hr7 _ ?_|refine hr6 _ ?_|refine hr5 _ ?_|refine hr4 _ ?_|refine hr3 _ ?_|refine hr2 _ ?_|refine hr1 _ ?_)
         simp only[go_sem]
         rw[zdj hk2 hok]
     · have hhas:(Zf N (zB es)&&decide (jP (k:Int) (m.getD k 0)∈zB es))=false:=by rw[decide_eq_false hm,Bool.and_false]
       have hok:XV es m k=false:=by unfold XV;rw[decide_eq_false hw,decide_eq_false hm];rfl
       refine za fun KY hKY=>?_
       simp only[go_sem,y6,d1]
       refine zt rfl (by simp only[go_sem]<;>rfl) ((x9 N (zB es) k (m.getD k 0)).mono ?_)
       rintro rr hh ⟨rfl,rfl⟩
       refine⟨rfl,rfl,rfl,?_⟩
       simp only[go_sem,hhas]
       apply hKY
       refine ZA ?_
       refine za fun KY hKY=>?_
       simp only[go_sem,Um]
       apply hKY
       refine zj ?_
       repeat (first|refine hr7 _ ?_|refine hr6 _ ?_|refine hr5 _ ?_|refine hr4 _ ?_|refine hr3 _ ?_|refine hr2 _ ?_|refine hr1 _ ?_)
       simp only[go_sem]
       rw[zdj hk2 hok]
 have hdx:decide ((k:Int)<(N:Int))=false:=decide_eq_false (by omega)
 refine za fun KY hKY=>?_
 simp only[go_sem,Un,hdx]
 apply hKY
 refine Zm ?_
 refine zy ?_
 repeat (first|refine hn5 _ ?_|refine he5 _ _ ?_|refine he4 _ _ ?_|refine hn3 _ ?_|refine he3 _ ?_|refine hf3 _ _ (by decide) ?_|refine hn2 _ ?_|refine he2 _ _ ?_|refine hn1 _ ?_|refine he1 _ _ ?_)
 obtain rfl:k=N:=by omega
 refine za fun KY hKY=>?_
 simp only[go_sem,O9]
 apply hKY
 refine zj ?_
 repeat (first|refine hr5 _ ?_|refine hr4 _ ?_|refine hr3 _ ?_|refine hr2 _ ?_|refine hr1 _ ?_)
 simp only[go_sem]
 rw[show((List.range k).all fun v=>XV es m v)=true from List.all_eq_true.2 fun v hv=>hz v (List.mem_range.1 hv)]
def jAt (m:List Int)(l:Es)(v:Nat):Bool:=l.any fun e=>(decide (e.1=v)||decide (e.2=v))&&(decide (m.getD e.1 0=(e.2:Int))&&decide (m.getD e.2 0=(e.1:Int)))
theorem zlW {N:Nat}{es:Es}(g:GR N es)(m:List Int){v:Nat}(hw:m.getD v 0≠ -1):jAt m es v=XV es m v:=by
 rw[Bool.eq_iff_iff]
 unfold jAt XV
 rw[List.any_eq_true,decide_eq_false hw,Bool.false_or,Bool.and_eq_true,decide_eq_true_iff,decide_eq_true_iff]
 constructor
 · rintro⟨⟨a,b⟩,he,h⟩
   have hok:=g.ok _ he
   simp only[Bool.and_eq_true,Bool.or_eq_true,decide_eq_true_eq] at h hok
   obtain⟨rfl|rfl,h1,h2⟩:=h
   · rw[h1]
     refine⟨?_,by rw[Int.toNat_natCast];exact h2⟩
     unfold jP;rw[if_neg (by omega)];exact Qw.2 he
   · rw[h2]
     refine⟨?_,by rw[Int.toNat_natCast];exact h1⟩
     unfold jP;rw[if_pos (by omega)];exact Qw.2 he
 · rintro⟨h1,h2⟩
   obtain⟨u,hu,_,_,hne⟩:=ga g h1
   rw[hu] at h1 h2
   rw[Int.toNat_natCast] at h2
   unfold jP at h1
   split at h1
   · exact⟨(u,v),Qw.1 h1,by simp only[hu,h2,decide_true,Bool.or_true,Bool.true_or,Bool.and_self]⟩
   · exact⟨(v,u),Qw.1 h1,by simp only[hu,h2,decide_true,Bool.or_true,Bool.true_or,Bool.and_self]⟩
def jL (N:Nat)(m:List Int)(l:Es):List Bool:=(List.range N).map (jAt m l)
theorem zcV (N:Nat)(m:List Int)(l:Es):(jL N m l).length=N:=by simp[jL]
theorem zlV {N:Nat}(m:List Int)(l:Es){v:Nat}(h:v<N):(jL N m l).getD v false=jAt m l v:=by simp[jL,h]
theorem zkq {N:Nat}(m:List Int)(l:Es){a b:Nat}(h:¬(m.getD a 0=(b:Int)∧m.getD b 0=(a:Int))):jL N m (l++[(a,b)])=jL N m l:=by
 refine List.map_congr_left fun v _=>?_
 unfold jAt
 rw[List.any_append]
 have:(decide (m.getD a 0=(b:Int))&&decide (m.getD b 0=(a:Int)))=false:=by
  rw[Bool.eq_false_iff];intro h';rw[Bool.and_eq_true,decide_eq_true_iff,decide_eq_true_iff] at h';exact h h'
 simp only[List.any_cons,List.any_nil,this,Bool.and_false,Bool.or_false]
theorem zlU {N:Nat}(m:List Int)(l:Es){a b:Nat}(h:m.getD a 0=(b:Int)∧m.getD b 0=(a:Int)):((jL N m l).set a true).set b true=jL N m (l++[(a,b)]):=by
 apply List.ext_getElem
 · simp[jL]
 · intro i h1 h2
   have hi:i<N:=by rw[zcV] at h2;exact h2
   have e:jAt m (l++[(a,b)]) i=(jAt m l i||(decide (a=i)||decide (b=i))):=by
    unfold jAt
    rw[List.any_append]
    simp only[List.any_cons,List.any_nil,h.1,h.2,decide_true,Bool.and_true,Bool.or_false]
   simp only[jL,List.getElem_set,List.getElem_map,List.getElem_range,e]
   by_cases hb:b=i
   · simp[hb]
   · by_cases ha:a=i
     · simp[ha,hb]
     · simp[ha,hb]
theorem zcM {N:Nat}{es:Es}(g:GR N es)(m:List Int)(hl:m.length=N):zo Try.prog [] zjT [.agg [.sc (.int .i64 (N:Int)),.imm 2 (zZ (zB es))],.imm 1 (zl m)] [] fun r h'=>r= .sc (.bool ((List.range N).all fun v=>XV es m v))∧h'=[]:=by
 refine zo.trim ?_
 have hN:=g.hn
 have hem:=g.hm
 have hr:=Z6 g
 have hd:decide ((m.length:Int)≠(N:Int))=false:=decide_eq_false (by omega)
 have h0:List.replicate N false=jL N m (es.take 0):=by
  apply List.ext_getElem
  · simp[jL]
  · intro i h1 h2;simp[jL,jAt]
 refine zmj rfl ?_
 unfold zkP jh
 refine za fun KY hKY=>?_
 simp only[go_sem,PP]
 apply hKY
 refine zf fun X1 hn1 he1 hr1=>?_
 refine za fun KY hKY=>?_
 simp only[go_sem,PO]
 refine zt rfl (by simp only[go_sem]<;>rfl) ((yz N (zB es)).mono ?_)
 rintro rr hh ⟨rfl,rfl⟩
 refine⟨rfl,rfl,rfl,?_⟩
 simp only[go_sem,hr,zi,hd]
 apply hKY
 refine Zm ?_
 refine zg ?_
 repeat (first|refine hn1 _ ?_|refine he1 _ _ ?_)
 refine za fun KY hKY=>?_
 simp only[go_sem,PN,(show N≤140737488355328 by omega),(show 1*N≤140737488355328 by omega),(show(N:Int)≤(N:Int) from Int.le_refl _),(show(N:Int)≤9223372036854775807 by omega),h0]
 apply hKY
 refine zf fun X2 hn2 he2 hr2=>?_
 refine za fun KY hKY=>?_
 simp only[go_sem,PM,ZN,XQ,zA]
 apply hKY
 refine zk fun X3 hn3 he3 hf3 hr3=>?_
 try simp only[go_sem]
 refine zL (α:=Nat) [7,27,47] (fun k=>[(5,.own (some 1) (Zh (jL N m (es.take k)))),(26,.sc (.int .i64 (k:Int)))]) (fun k=>[]) (fun k q=>k≤es.length∧q=es.length - k) (0) (es.length) rfl (by first|(simp only[go_sem,zd,ze];done)|with_reducible rfl|rfl) (⟨by omega,rfl⟩) ?_
 rintro k q ⟨hk,rfl⟩ X4 hn4 he4 hr4
 simp only[go_sem,zd,ze]
 rcases Nat.lt_or_ge k es.length with hk2|hk2
 · have hdy:decide ((k:Int)<(es.length:Int))=true:=decide_eq_true (by omega)
   refine za fun KY hKY=>?_
   simp only[go_sem,Ua,hdy]
   apply hKY
   refine zf fun X5 hn5 he5 hr5=>?_
   refine ZA ?_
   refine zg ?_
   repeat (first|refine hn5 _ ?_|refine he5 _ _ ?_|refine he4 _ _ ?_|refine hn3 _ ?_|refine he3 _ ?_|refine hf3 _ _ (by decide) ?_|refine hn2 _ ?_|refine he2 _ _ ?_|refine hn1 _ ?_|refine he1 _ _ ?_)
   refine zf fun X6 hn6 he6 hr6=>?_
   refine zk fun X7 hn7 he7 hf7 hr7=>?_
   have hx:es[k]?=some es[k]:=List.getElem?_eq_getElem hk2
   have hxm:es[k]∈es:=List.getElem_mem hk2
   generalize es[k]=x at hx hxm
   obtain⟨a,b⟩:=x
   have hxc:=Qx hx
   have hok:=g.ok (a,b) hxm
   simp only at hok
   have htk:es.take (k+1)=es.take k++[(a,b)]:=by rw[List.take_add_one,hx];rfl
   have haN:a<N:=by omega
   have hbN:b<N:=hok.2
   refine za fun KY hKY=>?_
   simp only[go_sem,PL,(show k*2+1<es.length*2 by omega),(show 1<es.length*2 - k*2 by omega),zV hxc,List.length_drop,ZN,zA]
   apply hKY
   by_cases h1:m.getD a 0=(b:Int)
   · have d1:decide (m.getD a 0=(b:Int))=true:=decide_eq_true h1
     by_cases h2:m.getD b 0=(a:Int)
     · have d2:decide (m.getD b 0=(a:Int))=true:=decide_eq_true h2
       have hst:=zlU (N:=N) m (es.take k) ⟨h1,h2⟩
       rw[←htk] at hst
       refine zv fun KY hKY=>?_
       simp only[go_sem,Wh,zh (show a<m.length by omega),zh (show b<m.length by omega),zi,hl,haN,hbN,d1,d2]
       apply hKY
       refine ZA ?_
       refine Jw fun KY hKY=>?_
       simp only[go_sem,PK,ZX,zcV,haN,hbN,List.length_set,hst,(show([0,5]==[0,7])=false from rfl),Bool.not_false]
       apply hKY
       repeat (first|refine hn7 _ ?_|refine he7 _ ?_|refine hf7 _ _ (by decide) ?_|refine hn6 _ ?_|refine he6 _ _ ?_|refine hn5 _ ?_|refine he5 _ _ ?_|refine he4 _ _ ?_|refine hn3 _ ?_|refine he3 _ ?_|refine hf3 _ _ (by decide) ?_|refine hn2 _ ?_|refine he2 _ _ ?_|refine hn1 _ ?_|refine he1 _ _ ?_)
       refine zm fun KY hKY=>?_
       simp only[go_sem,Wg,zJ (show k<4611686018427387904 by omega)]
       apply hKY
       repeat (first|refine hn7 _ ?_|refine he7 _ ?_|refine hf7 _ _ (by decide) ?_|refine hn6 _ ?_|refine he6 _ _ ?_|refine hn5 _ ?_|refine he5 _ _ ?_)
       refine hn4 _ (k+1) (es.length - (k+1)) (by omega) (by first|(simp only[go_sem,zd,ze];done)|with_reducible rfl|rfl) ?_
       exact⟨hk2,rfl⟩
     · have d2:decide (m.getD b 0=(a:Int))=false:=decide_eq_false h2
       have hst:=zkq (N:=N) m (es.take k) (a:=a) (b:=b) fun h=>h2 h.2
       rw[←htk] at hst
       refine zv fun KY hKY=>?_
       simp only[go_sem,Wh,zh (show a<m.length by omega),zh (show b<m.length by omega),zi,hl,haN,hbN,d1,d2]
       apply hKY
       refine Zm ?_
       refine zg ?_
       repeat (first|refine hn7 _ ?_|refine he7 _ ?_|refine hf7 _ _ (by decide) ?_|refine hn6 _ ?_|refine he6 _ _ ?_|refine hn5 _ ?_|refine he5 _ _ ?_|refine he4 _ _ ?_|refine hn3 _ ?_|refine he3 _ ?_|refine hf3 _ _ (by decide) ?_|refine hn2 _ ?_|refine he2 _ _ ?_|refine hn1 _ ?_|refine he1 _ _ ?_)
       refine zm fun KY hKY=>?_
       simp only[go_sem,Wg,zJ (show k<4611686018427387904 by omega)]
       apply hKY
       repeat (first|refine hn7 _ ?_|refine he7 _ ?_|refine hf7 _ _ (by decide) ?_|refine hn6 _ ?_|refine he6 _ _ ?_|refine hn5 _ ?_|refine he5 _ _ ?_)
       refine hn4 _ (k+1) (es.length - (k+1)) (by omega) (by first|(simp only[go_sem,zd,ze,hst];done)|with_reducible rfl|rfl) ?_
       exact⟨hk2,rfl⟩
   · have d1:decide (m.getD a 0=(b:Int))=false:=decide_eq_false h1
     have hst:=zkq (N:=N) m (es.take k) (a:=a) (b:=b) fun h=>h1 h.1
     rw[←htk] at hst
     refine zv fun KY hKY=>?_
     simp only[go_sem,Wh,zh (show a<m.length by omega),zi,hl,haN,hbN,d1]
     apply hKY
     refine Zm ?_
     refine zg ?_
     repeat (first|refine hn7 _ ?_|refine he7 _ ?_|refine hf7 _ _ (by decide) ?_|refine hn6 _ ?_|refine he6 _ _ ?_|refine hn5 _ ?_|refine he5 _ _ ?_|refine he4 _ _ ?_|refine hn3 _ ?_|refine he3 _ ?_|refine hf3 _ _ (by decide) ?_|refine hn2 _ ?_|refine he2 _ _ ?_|refine hn1 _ ?_|refine he1 _ _ ?_)
     refine zm fun KY hKY=>?_
     simp only[go_sem,Wg,zJ (show k<4611686018427387904 by omega)]
     apply hKY
     repeat (first|refine hn7 _ ?_|refine he7 _ ?_|refine hf7 _ _ (by decide) ?_|refine hn6 _ ?_|refine he6 _ _ ?_|refine hn5 _ ?_|refine he5 _ _ ?_)
     refine hn4 _ (k+1) (es.length - (k+1)) (by omega) (by first|(simp only[go_sem,zd,ze,hst];done)|with_reducible rfl|rfl) ?_
     exact⟨hk2,rfl⟩
 have hdx:decide ((k:Int)<(es.length:Int))=false:=decide_eq_false (by omega)
 refine za fun KY hKY=>?_
 simp only[go_sem,Ua,hdx]
 apply hKY
 refine zf fun X8 hn8 he8 hr8=>?_
 refine Zm ?_
 refine zy ?_
 repeat (first|refine hn8 _ ?_|refine he8 _ _ ?_|refine he4 _ _ ?_|refine hn3 _ ?_|refine he3 _ ?_|refine hf3 _ _ (by decide) ?_|refine hn2 _ ?_|refine he2 _ _ ?_|refine hn1 _ ?_|refine he1 _ _ ?_)
 obtain rfl:k=es.length:=by omega
 rw[List.take_length]
 refine zf fun X9 hn9 he9 hr9=>?_
 refine za fun KY hKY=>?_
 simp only[go_sem,V7,zi,hl]
 apply hKY
 refine zk fun X10 hn10 he10 hf10 hr10=>?_
 try simp only[go_sem]
 refine zL (α:=Nat) [8,9,60,72] (fun v=>[(59,.sc (.int .i64 (v:Int)))]) (fun v=>[]) (fun v q=>v≤N∧q=N - v∧(∀u,u<v→XV es m u=true)) (0) (N) rfl (by first|(simp only[go_sem,zd,ze];done)|with_reducible rfl|rfl) (⟨by omega,rfl,fun v h=>by omega⟩) ?_
 rintro v q ⟨hv,rfl,hz⟩ X11 hn11 he11 hr11
 simp only[go_sem,zd,ze]
 rcases Nat.lt_or_ge v N with hv2|hv2
 · have hdy:decide ((v:Int)<(N:Int))=true:=decide_eq_true (by omega)
   refine za fun KY hKY=>?_
   simp only[go_sem,W4,hdy]
   apply hKY
   refine zf fun X12 hn12 he12 hr12=>?_
   refine ZA ?_
   refine zg ?_
   repeat (first|refine hn12 _ ?_|refine he12 _ _ ?_|refine he11 _ _ ?_|refine hn10 _ ?_|refine he10 _ ?_|refine hf10 _ _ (by decide) ?_|refine hn9 _ ?_|refine he9 _ _ ?_|refine hn8 _ ?_|refine he8 _ _ ?_)
   refine zf fun X13 hn13 he13 hr13=>?_
   refine zk fun X14 hn14 he14 hf14 hr14=>?_
   refine za fun KY hKY=>?_
   simp only[go_sem,V6,zh (show v<m.length by omega),zi,hl,hv2]
   apply hKY
   by_cases hw:m.getD v 0= -1
   · have d1:decide (m.getD v 0≠ -1)=false:=decide_eq_false fun h=>h hw
     have hok:XV es m v=true:=by unfold XV;rw[decide_eq_true hw];rfl
     refine za fun KY hKY=>?_
     simp only[go_sem,Yw,d1]
     apply hKY
     refine Zm ?_
     refine zg ?_
     repeat (first|refine hn14 _ ?_|refine he14 _ ?_|refine hf14 _ _ (by decide) ?_|refine hn13 _ ?_|refine he13 _ _ ?_|refine hn12 _ ?_|refine he12 _ _ ?_|refine he11 _ _ ?_|refine hn10 _ ?_|refine he10 _ ?_|refine hf10 _ _ (by decide) ?_|refine hn9 _ ?_|refine he9 _ _ ?_|refine hn8 _ ?_|refine he8 _ _ ?_)
     refine zm fun KY hKY=>?_
     simp only[go_sem,W0,zJ (show v<4611686018427387904 by omega)]
     apply hKY
     repeat (first|refine hn14 _ ?_|refine he14 _ ?_|refine hf14 _ _ (by decide) ?_|refine hn13 _ ?_|refine he13 _ _ ?_|refine hn12 _ ?_|refine he12 _ _ ?_)
     refine hn11 _ (v+1) (N - (v+1)) (by omega) (by first|(simp only[go_sem,zd,ze];done)|with_reducible rfl|rfl) ?_
     refine⟨hv2,rfl,fun u hu=>?_⟩
     rcases Nat.lt_or_ge u v with h3|h3
     · exact hz u h3
     · obtain rfl:u=v:=by omega
       exact hok
   · have d1:decide (m.getD v 0≠ -1)=true:=decide_eq_true hw
     have hj:=zlW g m hw
     have hjl:=zcV N m es
     have hg:=JV (show v<(jL N m es).length by omega)
     rw[zlV m es hv2,hj] at hg
     cases hok:XV es m v with
     | true=>
       rw[hok] at hg
       refine za fun KY hKY=>?_
       simp only[go_sem,Yw,d1,hg,ZX,hjl,hv2]
       apply hKY
       refine Zm ?_
       refine zg ?_
       repeat (first|refine hn14 _ ?_|refine he14 _ ?_|refine hf14 _ _ (by decide) ?_|refine hn13 _ ?_|refine he13 _ _ ?_|refine hn12 _ ?_|refine he12 _ _ ?_|refine he11 _ _ ?_|refine hn10 _ ?_|refine he10 _ ?_|refine hf10 _ _ (by decide) ?_|refine hn9 _ ?_|refine he9 _ _ ?_|refine hn8 _ ?_|refine he8 _ _ ?_)
       refine zm fun KY hKY=>?_
       simp only[go_sem,W0,zJ (show v<4611686018427387904 by omega)]
       apply hKY
       repeat (first|refine hn14 _ ?_|refine he14 _ ?_|refine hf14 _ _ (by decide) ?_|refine hn13 _ ?_|refine he13 _ _ ?_|refine hn12 _ ?_|refine he12 _ _ ?_)
       refine hn11 _ (v+1) (N - (v+1)) (by omega) (by first|(simp only[go_sem,zd,ze];done)|with_reducible rfl|rfl) ?_
       refine⟨hv2,rfl,fun u hu=>?_⟩
       rcases Nat.lt_or_ge u v with h3|h3
       · exact hz u h3
       · obtain rfl:u=v:=by omega
         exact hok
     | false=>
       rw[hok] at hg
       refine za fun KY hKY=>?_
       simp only[go_sem,Yw,d1,hg,ZX,hjl,hv2]
       apply hKY
       refine ZA ?_
       refine za fun KY hKY=>?_
       simp only[go_sem,V5]
       apply hKY
       refine zj ?_
       repeat (first|refine hr14 _ ?_|refine hr13 _ ?_|refine hr12 _ ?_|refine hr11 _ ?_|refine hr10 _ ?_|refine hr9 _ ?_|refine hr8 _ ?_|refine hr4 _ ?_|refine hr3 _ ?_|refine hr2 _ ?_|refine hr1 _ ?_)
       simp only[go_sem]
       rw[zdj hv2 hok]
 have hdz:decide ((v:Int)<(N:Int))=false:=decide_eq_false (by omega)
 refine za fun KY hKY=>?_
 simp only[go_sem,W4,hdz]
 apply hKY
 refine zf fun X15 hn15 he15 hr15=>?_
 refine Zm ?_
 refine zy ?_
 repeat (first|refine hn15 _ ?_|refine he15 _ _ ?_|refine he11 _ _ ?_|refine hn10 _ ?_|refine he10 _ ?_|refine hf10 _ _ (by decide) ?_|refine hn9 _ ?_|refine he9 _ _ ?_|refine hn8 _ ?_|refine he8 _ _ ?_|refine he4 _ _ ?_|refine hn3 _ ?_|refine he3 _ ?_|refine hf3 _ _ (by decide) ?_|refine hn2 _ ?_|refine he2 _ _ ?_|refine hn1 _ ?_|refine he1 _ _ ?_)
 obtain rfl:v=N:=by omega
 refine za fun KY hKY=>?_
 simp only[go_sem,V4]
 apply hKY
 refine zj ?_
 repeat (first|refine hr15 _ ?_|refine hr11 _ ?_|refine hr10 _ ?_|refine hr9 _ ?_|refine hr8 _ ?_|refine hr4 _ ?_|refine hr3 _ ?_|refine hr2 _ ?_|refine hr1 _ ?_)
 simp only[go_sem]
 rw[show((List.range v).all fun v=>XV es m v)=true from List.all_eq_true.2 fun u hu=>hz u (List.mem_range.1 hu)]
end Go.Proofs.Ytkjppnofgmpeeaa

namespace Go.Ga.Gl
open Go Go.Ga
structure Fc (n:Nat)(E:Nat→Nat→Prop)(mt:Nat→Int)(D A:Nat→Bool)(bs:Nat→Nat):Prop where
 m:Mf n E mt
 c:Yf n E mt D A bs
 d:∀v,D v=true→∃mt',Mf n E mt'∧YE n mt'≤YE n mt∧mt' v= -1
 a:∀v,A v=true→∃w,D w=true∧E v w
theorem Xd {n:Nat}{E:Nat→Nat→Prop}{mt:Nat→Int}{S:FS}(M:Mf n E mt)(I:qb n E mt S)(L:Lk E S []):Fc n E mt S.out (zgw S) S.bs where
 m:=M
 c:=I.cert M L
 d:=fun v hv=>znm M I hv
 a:=fun v hv=>by
  obtain⟨h1,h2⟩:=JA.1 hv
  obtain⟨_,x,k1,k2,k3,k4,k5,k6⟩:=I.od v h1
  exact⟨S.pr v,k4,k5⟩
theorem Fc.dm {n:Nat}{E:Nat→Nat→Prop}{mt:Nat→Int}{D A:Nat→Bool}{bs:Nat→Nat}(F:Fc n E mt D A bs)(v:Nat):D v=true↔Dm n E v:=F.c.dm_iff F.m F.d v
theorem Fc.lab {n:Nat}{E:Nat→Nat→Prop}{mt:Nat→Int}{D A:Nat→Bool}{bs:Nat→Nat}(F:Fc n E mt D A bs)(v:Nat):Gc n E v=if D v=true then 1 else if A v=true then 2 else 0:=by
 unfold Gc
 by_cases h:D v=true
 · rw[if_pos h,if_pos ((F.dm v).1 h)]
 · rw[if_neg h,if_neg (fun e=>h ((F.dm v).2 e))]
   by_cases h2:A v=true
   · obtain⟨w,h3,h4⟩:=F.a v h2
     rw[if_pos h2,if_pos ⟨w,(F.dm w).1 h3,h4⟩]
   · rw[if_neg h2,if_neg]
     rintro⟨w,h3,h4⟩
     rcases F.c.ed w v ((F.dm w).2 h3) (F.m.es _ _ h4) with h5|⟨h5,_⟩
     · exact h2 h5
     · exact h h5
theorem Mf.mono {n:Nat}{E E':Nat→Nat→Prop}{mt:Nat→Int}(M:Mf n E mt)(h:∀v w,E v w→E' v w)(hs:∀v w,E' v w→E' w v)(hl:∀v w,E' v w→v<n∧w<n∧v≠w):Mf n E' mt:=
 ⟨M.at_,M.big,M.sy,fun v w e=>⟨(M.ne v w e).1,h _ _ (M.ne v w e).2⟩,hs,hl⟩
theorem Fc.more {n:Nat}{E E':Nat→Nat→Prop}{mt:Nat→Int}{D A:Nat→Bool}{bs:Nat→Nat}(F:Fc n E mt D A bs)(h:∀v w,E v w→E' v w)(hs:∀v w,E' v w→E' w v)(hl:∀v w,E' v w→v<n∧w<n∧v≠w)(he:∀v w,D v=true→E' v w→A w=true∨(D w=true∧bs w=bs v)):Fc n E' mt D A bs where
 m:=F.m.mono h hs hl
 c:=⟨F.c.dn,F.c.an,he,F.c.db,F.c.fr,F.c.am,F.c.dm,F.c.bb⟩
 d:=fun v hv=>by
  obtain⟨mt',h1,h2,h3⟩:=F.d v hv
  exact⟨mt',h1.mono h hs hl,h2,h3⟩
 a:=fun v hv=>by
  obtain⟨w,h1,h2⟩:=F.a v hv
  exact⟨w,h1,h _ _ h2⟩
structure Bsd (N M:Nat)(E1 E2 E:Nat→Nat→Prop):Prop where
 lo:∀v w,v<N→(E v w↔E1 v w)
 hi:∀v w,¬v<N→(E v w↔N≤w∧E2 (v - N) (w - N))
noncomputable def Jd (n:Nat)(E:Nat→Nat→Prop)(x:Nat):List Nat:=(List.range n).filter fun v=>decide (Gc n E v=x)
theorem Yl {n:Nat}{E:Nat→Nat→Prop}{x v:Nat}:v∈Jd n E x↔v<n∧Gc n E v=x:=by
 unfold Jd;rw[List.mem_filter,List.mem_range,decide_eq_true_iff]
end Go.Ga.Gl
namespace Go.Proofs.Ytkjppnofgmpeeaa
open Go Go.Ga Go.Ga.Gl
noncomputable def JB (N:Nat)(es:Es):List Int:=(List.range N).map fun v=>(Gc N (Zu es) v:Int)
theorem zcR {N:Nat}{es:Es}{m:List Int}{S:FS}(M:Mf N (Zu es) (mf m))(I:qb N (Zu es) (mf m) S)(L:Lk (Zu es) S []):ze4 N S=JB N es:=by
 apply List.map_congr_left
 intro v _
 have:=zhr M I L v
 unfold fLb
 rw[←this]
 split<;>rfl
theorem WS (N:Nat)(es:Es)(x:Nat):((List.range (JB N es).length).filter fun v=>decide ((JB N es).getD v 0=(x:Int)))=Jd N (Zu es) x:=by
 have hl:(JB N es).length=N:=by simp[JB]
 rw[hl]
 refine List.filter_congr fun v hv=>?_
 have hv:=List.mem_range.1 hv
 have:(JB N es).getD v 0=(Gc N (Zu es) v:Int):=by simp[JB,hv]
 rw[this]
 exact decide_eq_decide.2 ⟨fun h=>by omega,fun h=>by omega⟩
theorem zgT {N:Nat}{es:Es}(g:GR N es){m:List Int}(M:Mf N (Zu es) (mf m))(hml:m.length=N):((List.range N).all fun v=>XV es m v)=true:=by
 rw[List.all_eq_true]
 intro v hv
 have hv:=List.mem_range.1 hv
 unfold XV
 rw[JU (by omega)]
 rcases M.at_ v hv with h|⟨w,h,hw⟩
 · rw[h];rfl
 · have hs:=M.sy v w h
   have hadj:=(M.ne v w h).2
   obtain⟨_,_,hne⟩:=M.el v w hadj
   rw[h,Int.toNat_natCast,JU (by omega),hs,decide_eq_true (rfl:(v:Int)=v),Bool.and_true]
   have hmem:jP (v:Int) (w:Int)∈zB es:=by
    unfold jP
    have lt:∀a b:Nat,(a,b)∈es→a<b:=fun a b h=>by
     exact(g.ok _ h).1
    rcases hadj with h|h
    · have:=lt _ _ h
      rw[if_neg (by omega)]
      exact List.mem_map.2 ⟨(v,w),h,rfl⟩
    · have:=lt _ _ h
      rw[if_pos (by omega)]
      exact List.mem_map.2 ⟨(w,v),h,rfl⟩
   rw[decide_eq_true hmem,Bool.or_true]
theorem Lg.no {N:Nat}{E:Nat→Nat→Prop}{mt:Nat→Int}(L:Lg N E mt){l:List Nat}(A:Aug N E mt l):False:=by
 obtain⟨M2,hfr,r,hrn,hr1,hr2⟩:=zdq L.1 A (mt':=fun u=>if u∈l then(YB l u:Int) else mt u) (fun u hu=>if_pos hu) (fun u hu=>if_neg hu)
 have h1:=Gd hrn hr1 hr2 hfr
 have h2:=L.2 _ M2
 omega
theorem ziL {N:Nat}{es:Es}(g:GR N es)(m:List Int)(hml:m.length=N)(hL:Lg N (Zu es) (mf m)):zo Try.prog [] zj3 [.agg [.sc (.int .i64 (N:Int)),.imm 2 (zZ (zB es))],.imm 1 (zl m)] [] fun r h'=>r= .tup [.sc (.slice none 0 0),.own (some 1) (zl (JB N es)),.sc (.int .i64 0)]∧h'=[]:=by
 have hN:=g.hn
 have hr:=Z6 g
 have M:=hL.1
 have hm:=zgT g M hml
 have hS:zo Try.prog [] zgJ [.imm 1 (ZB (qa N es)),.imm 1 (zl m)] [] fun r h'=>h'=[]∧∃lk:Int,r= .tup [.sc (.slice none 0 0),.own (some 1) (zl (JB N es)),.sc (.int .i64 lk)]:=by
  refine(WC (qa N es) (jT N es) hml hN (zgB g) M (zgC es)).mono ?_
  rintro r h' ⟨rfl,lk,⟨l,hA,rfl⟩|⟨S,hI,hLk,rfl⟩⟩
  · exact(Lg.no hL hA).elim
  · exact⟨rfl,lk,by rw[zcR M hI hLk]⟩
 refine zmw rfl ?_
 unfold zk2 qt
 refine za fun KY hKY=>?_
 simp only[go_sem,OT]
 apply hKY
 refine zf fun X1 hn1 he1 hr1=>?_
 refine zk fun X2 hn2 he2 hf2 hr2=>?_
 refine za fun KY hKY=>?_
 simp only[go_sem,OS]
 refine zt rfl (by simp only[go_sem]<;>rfl) ((yz N (zB es)).mono ?_)
 rintro rr hh ⟨rfl,rfl⟩
 refine⟨rfl,rfl,rfl,?_⟩
 simp only[go_sem,hr]
 apply hKY
 refine Zm ?_
 refine za fun KY hKY=>?_
 simp only[go_sem,OR]
 refine zt rfl (by simp only[go_sem]<;>rfl) ((zcM g m hml).mono ?_)
 rintro rr hh ⟨rfl,rfl⟩
 refine⟨rfl,rfl,rfl,?_⟩
 simp only[go_sem,hm]
 apply hKY
 refine Zm ?_
 refine zg ?_
 repeat (first|refine hn2 _ ?_|refine he2 _ ?_|refine hf2 _ _ (by decide) ?_|refine hn1 _ ?_|refine he1 _ _ ?_)
 refine za fun KY hKY=>?_
 simp only[go_sem,OQ]
 apply zp [] [] true none rfl
 iterate 8 (first|(simp only[go_sem,zr]<;>rfl)|rfl)
 refine(yG g).mono ?_
 rintro _ _ ⟨rfl,rfl⟩
 refine⟨Nat.le_of_ble_eq_true rfl,(fun _=>by simp only[go_sem,JD,and_self]),?_⟩
 simp only[go_sem,zq,zb.after]
 apply zp [] [] true none rfl
 iterate 8 (first|(simp only[go_sem,zr]<;>rfl)|rfl)
 refine(hS).mono ?_
 rintro _ _ ⟨rfl,lk,rfl⟩
 refine⟨Nat.le_of_ble_eq_true rfl,(fun _=>by simp only[go_sem,JD,and_self]),?_⟩
 simp only[go_sem,zq,zb.after]
 apply hKY
 refine za fun KY hKY=>?_
 simp only[go_sem,OP]
 apply hKY
 refine zj ?_
 repeat (first|refine hr2 _ ?_|refine hr1 _ ?_)
 simp only[go_sem]
def Vh (l:List Int)(v:Nat):Bool:=decide (0≤l.getD v 0)&&(decide (l.getD v 0<l.length)&&(decide (l.getD v 0≠(v:Int))&&decide (l.getD (l.getD v 0).toNat 0=(v:Int))))
def vP (l:List Int)(v:Nat):Bool:=decide ((v:Int)<l.getD v 0)&&(decide (l.getD v 0<l.length)&&decide (l.getD (l.getD v 0).toNat 0=(v:Int)))
theorem Ks {l:List Int}{v:Nat}:Vh l v=true↔∃w:Nat,l.getD v 0=w∧w<l.length∧w≠v∧l.getD w 0=v:=by
 unfold Vh
 simp only[Bool.and_eq_true,decide_eq_true_eq]
 refine⟨fun⟨h1,h2,h3,h4⟩=>⟨(l.getD v 0).toNat,by omega,by omega,by omega,h4⟩,fun⟨w,h1,h2,h3,h4⟩=>?_⟩
 rw[h1,Int.toNat_natCast]
 exact⟨by omega,by omega,by omega,h4⟩
theorem Xi {l:List Int}{v:Nat}:vP l v=true↔∃w:Nat,l.getD v 0=w∧w<l.length∧v<w∧l.getD w 0=v:=by
 unfold vP
 simp only[Bool.and_eq_true,decide_eq_true_eq]
 refine⟨fun⟨h1,h2,h4⟩=>⟨(l.getD v 0).toNat,by omega,by omega,by omega,h4⟩,fun⟨w,h1,h2,h3,h4⟩=>?_⟩
 rw[h1,Int.toNat_natCast]
 exact⟨by omega,by omega,h4⟩
theorem zcH (l:List Int):((List.range l.length).filter (Vh l)).length=2*((List.range l.length).filter (vP l)).length:=by
 have hp:((List.range l.length).filter (Vh l)).Perm ((List.range l.length).filter (vP l)++((List.range l.length).filter (vP l)).map fun v=>(l.getD v 0).toNat):=by
  refine(List.perm_ext_iff_of_nodup (List.nodup_range.filter _) ?_).2 fun v=>?_
  · refine List.nodup_append.2 ⟨List.nodup_range.filter _,?_,?_⟩
    · refine List.pairwise_map.2 ((List.nodup_range (n:=l.length)).filter (vP l)|>.imp_of_mem ?_)
      intro a b ha hb hne he
      obtain⟨w,h1,_,_,h4⟩:=Xi.1 (List.mem_filter.1 ha).2
      obtain⟨u,g1,_,_,g4⟩:=Xi.1 (List.mem_filter.1 hb).2
      rw[h1,g1,Int.toNat_natCast,Int.toNat_natCast] at he
      subst he;omega
    · intro a ha b hb hab
      subst hab
      obtain⟨w,h1,_,h3,h4⟩:=Xi.1 (List.mem_filter.1 ha).2
      obtain⟨u,hu,rfl⟩:=List.mem_map.1 hb
      obtain⟨x,g1,_,g3,g4⟩:=Xi.1 (List.mem_filter.1 hu).2
      simp only[g1,Int.toNat_natCast] at h1 h3 h4
      omega
  · rw[List.mem_append,List.mem_filter,List.mem_filter,List.mem_map,List.mem_range,Ks,Xi]
    constructor
    · rintro⟨hv,w,h1,h2,h3,h4⟩
      rcases Nat.lt_or_ge v w with h|h
      · exact .inl ⟨hv,w,h1,h2,h,h4⟩
      · refine .inr ⟨w,List.mem_filter.2 ⟨List.mem_range.2 h2,Xi.2 ⟨v,h4,hv,by omega,h1⟩⟩,by rw[h4];rfl⟩
    · rintro(⟨hv,w,h1,h2,h3,h4⟩|⟨u,hu,rfl⟩)
      · exact⟨hv,w,h1,h2,by omega,h4⟩
      · obtain⟨hu1,hu2⟩:=List.mem_filter.1 hu
        obtain⟨x,g1,g2,g3,g4⟩:=Xi.1 hu2
        rw[g1,Int.toNat_natCast]
        exact⟨g2,u,g4,List.mem_range.1 hu1,by omega,g1⟩
 rw[hp.length_eq,List.length_append,List.length_map];omega
def Xy (φ:Nat→Bool)(k:Nat):List Nat:=(List.range k).filter φ
theorem x8 (φ:Nat→Bool)(k:Nat):(Xy φ k).length≤k:=Nat.le_trans (List.length_filter_le _ _) (by simp)
theorem Xx (φ:Nat→Bool)(k:Nat):Xy φ (k+1)=Xy φ k++if φ k=true then [k] else []:=by
 unfold Xy
 rw[List.range_succ,List.filter_append];congr 1;simp[List.filter_cons]
def gC (l:List Int)(k:Nat):List (Int×Int):=(Xy (vP l) k).map fun v:Nat=>((v:Int),l.getD v 0)
theorem zdz (l:List Int)(k:Nat):(gC l k).length=(Xy (vP l) k).length:=by simp[gC]
theorem zcE (l:List Int)(hl:l.length≤1000000000):zo Try.prog [] zjV [.imm 1 (zl l)] [] fun r h'=>r= .own (some 2) (zZ (gC l l.length))∧h'=[]:=by
 refine zml rfl ?_
 unfold zkR JM
 refine za fun KY hKY=>?_
 simp only[go_sem,om]
 apply hKY
 refine za fun KY hKY=>?_
 simp only[go_sem,oh]
 apply hKY
 refine jF [0,3] 2 (by simp only[go_sem]) ?_
 simp only[go_sem]
 refine zf fun X1 hn1 he1 hr1=>?_
 refine za fun KY hKY=>?_
 simp only[go_sem,og]
 apply hKY
 refine zk fun X2 hn2 he2 hf2 hr2=>?_
 try simp only[go_sem]
 refine zL (α:=Nat) [5,9,32] (fun k=>[(3,.own (some 2) (zZ (gC l k))),(4,.sc (.int .i64 (k:Int)))]) (fun k=>[]) (fun k q=>k≤l.length∧q=l.length - k) (0) (l.length) rfl (by first|(simp only[go_sem,zd,ze];done)|with_reducible rfl|rfl) (⟨by omega,rfl⟩) ?_
 rintro k q ⟨hk,rfl⟩ X3 hn3 he3 hr3
 simp only[go_sem,zd,ze]
 refine zf fun X4 hn4 he4 hr4=>?_
 rcases Nat.lt_or_ge k l.length with hk2|hk2
 · refine za fun KY hKY=>?_
   simp only[go_sem,Ub,zi]
   apply hKY
   refine ZA ?_
   refine zg ?_
   repeat (first|refine hn4 _ ?_|refine he4 _ _ ?_|refine he3 _ _ ?_|refine hn2 _ ?_|refine he2 _ ?_|refine hf2 _ _ (by decide) ?_|refine hn1 _ ?_|refine he1 _ _ ?_)
   refine zf fun X5 hn5 he5 hr5=>?_
   refine zk fun X6 hn6 he6 hf6 hr6=>?_
   refine za fun KY hKY=>?_
   simp only[go_sem,oe,zh hk2,hk2,zi]
   apply hKY
   have hfl:=x8 (vP l) k
   have hpl:=zdz l k
   have hby:(gC l k).length*2*16+31<140737488355328:=by omega
   have hst:=Xx (vP l) k
   have hup:vP l k=(decide ((k:Int)<l.getD k 0)&&(decide (l.getD k 0<l.length)&&decide (l.getD (l.getD k 0).toNat 0=(k:Int)))):=rfl
   by_cases h1:(k:Int)<l.getD k 0
   · have d1:decide ((k:Int)<l.getD k 0)=true:=decide_eq_true h1
     by_cases h2:l.getD k 0<l.length
     · have d2:decide (l.getD k 0<(l.length:Int))=true:=decide_eq_true h2
       obtain⟨w,hw⟩:∃w:Nat,l.getD k 0=w:=⟨(l.getD k 0).toNat,by omega⟩
       have hwl:w<l.length:=by omega
       have hgw:l.getD (l.getD k 0).toNat 0=l.getD w 0:=by rw[hw];rfl
       by_cases h3:l.getD w 0=(k:Int)
       · have d3:decide (l.getD w 0=(k:Int))=true:=decide_eq_true h3
         rw[d1,d2,hgw,d3] at hup
         rw[hup] at hst
         have hps:gC l (k+1)=gC l k++[((k:Int),(w:Int))]:=by
          unfold gC;rw[hst,if_pos (by simp),List.map_append,←hw];rfl
         rw[hw] at d1 d2
         simp only[hw]
         refine za fun KY hKY=>?_
         simp only[go_sem,yY,d1,d2,d3,zi,zh hwl,hwl]
         apply hKY
         refine ZA ?_
         refine zm fun KY hKY=>?_
         simp only[go_sem,P9,ZN,XQ,hby,Wz,←hps,Nat.add_mul]
         apply hKY
         repeat (first|refine hn6 _ ?_|refine he6 _ ?_|refine hf6 _ _ (by decide) ?_|refine hn5 _ ?_|refine he5 _ _ ?_|refine hn4 _ ?_|refine he4 _ _ ?_|refine he3 _ _ ?_|refine hn2 _ ?_|refine he2 _ ?_|refine hf2 _ _ (by decide) ?_|refine hn1 _ ?_|refine he1 _ _ ?_)
         refine zm fun KY hKY=>?_
         simp only[go_sem,yX,zJ (show k<4611686018427387904 by omega)]
         apply hKY
         repeat (first|refine hn6 _ ?_|refine he6 _ ?_|refine hf6 _ _ (by decide) ?_|refine hn5 _ ?_|refine he5 _ _ ?_|refine hn4 _ ?_|refine he4 _ _ ?_)
         refine hn3 _ (k+1) (l.length - (k+1)) (by omega) (by first|(simp only[go_sem,zd,ze];done)|with_reducible rfl|rfl) ?_
         exact⟨hk2,rfl⟩
       · have d3:decide (l.getD w 0=(k:Int))=false:=decide_eq_false h3
         rw[d1,d2,hgw,d3] at hup
         rw[hup] at hst
         have hps:gC l (k+1)=gC l k:=by unfold gC;rw[hst,if_neg (by simp),List.append_nil]
         rw[hw] at d1 d2
         simp only[hw]
         refine za fun KY hKY=>?_
         simp only[go_sem,yY,d1,d2,d3,zi,zh hwl,hwl]
         apply hKY
         refine Zm ?_
         refine zg ?_
         repeat (first|refine hn6 _ ?_|refine he6 _ ?_|refine hf6 _ _ (by decide) ?_|refine hn5 _ ?_|refine he5 _ _ ?_|refine hn4 _ ?_|refine he4 _ _ ?_|refine he3 _ _ ?_|refine hn2 _ ?_|refine he2 _ ?_|refine hf2 _ _ (by decide) ?_|refine hn1 _ ?_|refine he1 _ _ ?_)
         refine zm fun KY hKY=>?_
         simp only[go_sem,yX,zJ (show k<4611686018427387904 by omega)]
         apply hKY
         repeat (first|refine hn6 _ ?_|refine he6 _ ?_|refine hf6 _ _ (by decide) ?_|refine hn5 _ ?_|refine he5 _ _ ?_|refine hn4 _ ?_|refine he4 _ _ ?_)
         refine hn3 _ (k+1) (l.length - (k+1)) (by omega) (by first|(simp only[go_sem,zd,ze,hps];done)|with_reducible rfl|rfl) ?_
         exact⟨hk2,rfl⟩
     · have d2:decide (l.getD k 0<(l.length:Int))=false:=decide_eq_false h2
       rw[d1,d2] at hup
       rw[hup] at hst
       have hps:gC l (k+1)=gC l k:=by unfold gC;rw[hst,if_neg (by simp),List.append_nil]
       refine za fun KY hKY=>?_
       simp only[go_sem,yY,d1,d2,zi]
       apply hKY
       refine Zm ?_
       refine zg ?_
       repeat (first|refine hn6 _ ?_|refine he6 _ ?_|refine hf6 _ _ (by decide) ?_|refine hn5 _ ?_|refine he5 _ _ ?_|refine hn4 _ ?_|refine he4 _ _ ?_|refine he3 _ _ ?_|refine hn2 _ ?_|refine he2 _ ?_|refine hf2 _ _ (by decide) ?_|refine hn1 _ ?_|refine he1 _ _ ?_)
       refine zm fun KY hKY=>?_
       simp only[go_sem,yX,zJ (show k<4611686018427387904 by omega)]
       apply hKY
       repeat (first|refine hn6 _ ?_|refine he6 _ ?_|refine hf6 _ _ (by decide) ?_|refine hn5 _ ?_|refine he5 _ _ ?_|refine hn4 _ ?_|refine he4 _ _ ?_)
       refine hn3 _ (k+1) (l.length - (k+1)) (by omega) (by first|(simp only[go_sem,zd,ze,hps];done)|with_reducible rfl|rfl) ?_
       exact⟨hk2,rfl⟩
   · have d1:decide ((k:Int)<l.getD k 0)=false:=decide_eq_false h1
     rw[d1] at hup
     rw[hup] at hst
     have hps:gC l (k+1)=gC l k:=by unfold gC;rw[hst,if_neg (by simp),List.append_nil]
     refine za fun KY hKY=>?_
     simp only[go_sem,yY,d1]
     apply hKY
     refine Zm ?_
     refine zg ?_
     repeat (first|refine hn6 _ ?_|refine he6 _ ?_|refine hf6 _ _ (by decide) ?_|refine hn5 _ ?_|refine he5 _ _ ?_|refine hn4 _ ?_|refine he4 _ _ ?_|refine he3 _ _ ?_|refine hn2 _ ?_|refine he2 _ ?_|refine hf2 _ _ (by decide) ?_|refine hn1 _ ?_|refine he1 _ _ ?_)
     refine zm fun KY hKY=>?_
     simp only[go_sem,yX,zJ (show k<4611686018427387904 by omega)]
     apply hKY
     repeat (first|refine hn6 _ ?_|refine he6 _ ?_|refine hf6 _ _ (by decide) ?_|refine hn5 _ ?_|refine he5 _ _ ?_|refine hn4 _ ?_|refine he4 _ _ ?_)
     refine hn3 _ (k+1) (l.length - (k+1)) (by omega) (by first|(simp only[go_sem,zd,ze,hps];done)|with_reducible rfl|rfl) ?_
     exact⟨hk2,rfl⟩
 refine za fun KY hKY=>?_
 simp only[go_sem,Ub,zi]
 apply hKY
 refine Zm ?_
 refine zy ?_
 repeat (first|refine hn4 _ ?_|refine he4 _ _ ?_|refine he3 _ _ ?_|refine hn2 _ ?_|refine he2 _ ?_|refine hf2 _ _ (by decide) ?_|refine hn1 _ ?_|refine he1 _ _ ?_)
 obtain rfl:k=l.length:=by omega
 refine za fun KY hKY=>?_
 simp only[go_sem,P8]
 apply hKY
 refine zj ?_
 repeat (first|refine hr4 _ ?_|refine hr3 _ ?_|refine hr2 _ ?_|refine hr1 _ ?_)
 simp only[go_sem]
theorem zeJ (l:List Int)(hl:l.length≤1000000000):zo Try.prog [] zj7 [.imm 1 (zl l)] [] fun r h'=>r= .sc (.int .i64 ((Xy (vP l) l.length).length:Nat))∧h'=[]:=by
 refine zmB rfl ?_
 unfold zk7 vJ
 refine za fun KY hKY=>?_
 simp only[go_sem,O8]
 apply hKY
 refine za fun KY hKY=>?_
 simp only[go_sem,O7]
 refine zt rfl (by simp only[go_sem]<;>rfl) ((zcE l hl).mono ?_)
 rintro rr hh ⟨rfl,rfl⟩
 refine⟨?_,?_,?_,?_⟩
 iterate 3 (first|rfl|simp only[go_sem])
 simp only[go_sem,ZN,XQ,zdz]
 apply hKY
 refine zj ?_
 simp only[go_sem]
theorem zdf {N:Nat}{es:Es}(g:GR N es):zo Try.prog [] zkg [.agg [.sc (.int .i64 (N:Int)),.imm 2 (zZ (zB es))]] [] fun r h'=>∃(m:List Int),m.length=N∧(∃D A bs,Fc N (Zu es) (mf m) D A bs)∧((N=0∧r= .tup [.own (some 1) (zl (JB N es)),.own (some 1) [],.sc (.int .i64 0)]∧h'=[])∨(0<N∧r= .tup [.own (some 1) (zl (JB N es)),.sl 0 0 N 1,.sc (.int .i64 0)]∧h'=[some (zl m)])):=by
 have hP:=fun m hml hL=>ziL g m hml hL
 refine zmL rfl ?_
 unfold zlh yb
 refine za fun KY hKY=>?_
 simp only[go_sem,za1]
 apply hKY
 refine za fun KY hKY=>?_
 simp only[go_sem,za0]
 apply zp [] [] false none rfl
 iterate 8 (first|(simp only[go_sem,zr]<;>rfl)|rfl)
 refine(we g).mono ?_
 rintro _ _ ⟨m,S,a,b,hml,M,I,L,⟨h0,rfl,rfl⟩|⟨h0,rfl,rfl⟩⟩
 · have hLg:=zdV M I L
   have hm0:zl m=[]:=by
    rw[List.length_eq_zero_iff.1 (hml.trans h0)];rfl
   have hP1:=hP m hml hLg
   rw[hm0] at hP1
   refine⟨Nat.le_of_ble_eq_true rfl,(fun hh=>by cases hh),?_⟩
   simp only[go_sem,zq,zb.after]
   apply hKY
   refine zf fun X1 hn1 he1 hr1=>?_
   refine za fun KY hKY=>?_
   simp only[go_sem,UJ]
   apply hKY
   refine Zm ?_
   refine zg ?_
   repeat (first|refine hn1 _ ?_|refine he1 _ _ ?_)
   refine za fun KY hKY=>?_
   simp only[go_sem,UI]
   apply zp [] [] true none rfl
   iterate 8 (first|(simp only[go_sem,zr]<;>rfl)|rfl)
   refine(hP1).mono ?_
   rintro _ _ ⟨rfl,rfl⟩
   refine⟨Nat.le_of_ble_eq_true rfl,(fun _=>by simp only[go_sem,JD,and_self]),?_⟩
   simp only[go_sem,zq,zb.after]
   apply hKY
   refine za fun KY hKY=>?_
   simp only[go_sem,UH]
   apply hKY
   refine zj ?_
   repeat (first|refine hr1 _ ?_)
   simp only[go_sem]
   exact⟨m,hml,⟨_,_,_,Xd M I L⟩,.inl h0⟩
 · have hLg:=zdV M I L
   have hP1:=hP m hml hLg
   have htk:List.take N (zl m)=zl m:=List.take_of_length_le (by rw[zi];omega)
   refine⟨Nat.le_of_ble_eq_true rfl,(fun hh=>by cases hh),?_⟩
   simp only[go_sem,zq,zb.after]
   apply hKY
   refine zf fun X2 hn2 he2 hr2=>?_
   refine za fun KY hKY=>?_
   simp only[go_sem,UJ]
   apply hKY
   refine Zm ?_
   refine zg ?_
   repeat (first|refine hn2 _ ?_|refine he2 _ _ ?_)
   refine za fun KY hKY=>?_
   simp only[go_sem,UI]
   refine zt rfl (by simp only[go_sem,hml,Nat.le_refl,htk]<;>rfl) ((hP1).mono ?_)
   rintro rr hh ⟨rfl,rfl⟩
   refine⟨?_,?_,?_,?_⟩
   iterate 3 (first|rfl|simp only[go_sem])
   simp only[go_sem]
   apply hKY
   refine za fun KY hKY=>?_
   simp only[go_sem,UH]
   apply hKY
   refine zj ?_
   repeat (first|refine hr2 _ ?_)
   simp only[go_sem]
   exact⟨m,hml,⟨_,_,_,Xd M I L⟩,.inr ⟨h0,rfl⟩⟩
def zf0 (l:List Int)(x:Int):List Nat:=Xy (fun v=>decide (l.getD v 0=x)) l.length
theorem zh1 (l:List Int)(x:Int)(hl:l.length≤100000):zo Try.prog [] zj2 [.imm 1 (zl l),.sc (.int .i64 x)] [] fun r h'=>r= .own (some 1) (zH (zf0 l x))∧h'=[]:=by
 refine zmv rfl ?_
 unfold zk1 J0
 refine za fun KY hKY=>?_
 simp only[go_sem,OO]
 apply hKY
 refine za fun KY hKY=>?_
 simp only[go_sem,ON]
 apply hKY
 refine jF [0,5] 1 (by simp only[go_sem]) ?_
 simp only[go_sem]
 rw[show zc.own (some 1) []= .own (some 1) (zH (Xy (fun v=>decide (l.getD v 0=x)) 0)) from rfl]
 refine zf fun X1 hn1 he1 hr1=>?_
 refine za fun KY hKY=>?_
 simp only[go_sem,OM,zi]
 apply hKY
 refine zk fun X2 hn2 he2 hf2 hr2=>?_
 try simp only[go_sem]
 refine zL (α:=Nat) [6,7,11,17] (fun k=>[(5,.own (some 1) (zH (Xy (fun v=>decide (l.getD v 0=x)) k))),(10,.sc (.int .i64 (k:Int)))]) (fun k=>[]) (fun k q=>k≤l.length∧q=l.length - k) (0) (l.length) rfl (by first|(simp only[go_sem,zd,ze];done)|with_reducible rfl|rfl) (⟨Nat.zero_le _,rfl⟩) ?_
 rintro k q ⟨hk,rfl⟩ X3 hn3 he3 hr3
 simp only[go_sem,zd,ze]
 have hsl:=x8 (fun v=>decide (l.getD v 0=x)) k
 have hst:=Xx (fun v=>decide (l.getD v 0=x)) k
 rcases Nat.lt_or_ge k l.length with hk2|hk2
 · have hdx:decide ((k:Int)<(l.length:Int))=true:=decide_eq_true (by omega)
   have hg:(zl l)[k]?=some (.sc (.int .i64 (l.getD k 0))):=zh hk2
   refine za fun KY hKY=>?_
   simp only[go_sem,Ui,hdx]
   apply hKY
   refine zf fun X4 hn4 he4 hr4=>?_
   refine ZA ?_
   refine zg ?_
   repeat (first|refine hn4 _ ?_|refine he4 _ _ ?_|refine he3 _ _ ?_|refine hn2 _ ?_|refine he2 _ ?_|refine hf2 _ _ (by decide) ?_|refine hn1 _ ?_|refine he1 _ _ ?_)
   refine zf fun X5 hn5 he5 hr5=>?_
   refine zk fun X6 hn6 he6 hf6 hr6=>?_
   refine za fun KY hKY=>?_
   simp only[go_sem,OL,hg,zi,hk2]
   apply hKY
   by_cases hx:l.getD k 0=x
   · have hd:decide (l.getD k 0=x)=true:=decide_eq_true hx
     rw[hd,if_pos rfl] at hst
     refine za fun KY hKY=>?_
     simp only[go_sem,Uh,hd]
     apply hKY
     refine ZA ?_
     refine zm fun KY hKY=>?_
     simp only[go_sem,OK,jj,zG,←hst,(show((Xy (fun v=>decide (l.getD v 0=x)) k).length+1)*8≤140737488355328 by omega)]
     apply hKY
     repeat (first|refine hn6 _ ?_|refine he6 _ ?_|refine hf6 _ _ (by decide) ?_|refine hn5 _ ?_|refine he5 _ _ ?_|refine hn4 _ ?_|refine he4 _ _ ?_|refine he3 _ _ ?_|refine hn2 _ ?_|refine he2 _ ?_|refine hf2 _ _ (by decide) ?_|refine hn1 _ ?_|refine he1 _ _ ?_)
     refine zm fun KY hKY=>?_
     simp only[go_sem,Ug,zJ (show k<4611686018427387904 by omega)]
     apply hKY
     repeat (first|refine hn6 _ ?_|refine he6 _ ?_|refine hf6 _ _ (by decide) ?_|refine hn5 _ ?_|refine he5 _ _ ?_|refine hn4 _ ?_|refine he4 _ _ ?_)
     refine hn3 _ (k+1) (l.length - (k+1)) (by omega) (by first|(simp only[go_sem,zd,ze];done)|with_reducible rfl|rfl) ?_
     exact⟨hk2,rfl⟩
   · have hd:decide (l.getD k 0=x)=false:=decide_eq_false hx
     rw[hd,if_neg (by simp),List.append_nil] at hst
     refine za fun KY hKY=>?_
     simp only[go_sem,Uh,hd]
     apply hKY
     refine Zm ?_
     refine zg ?_
     repeat (first|refine hn6 _ ?_|refine he6 _ ?_|refine hf6 _ _ (by decide) ?_|refine hn5 _ ?_|refine he5 _ _ ?_|refine hn4 _ ?_|refine he4 _ _ ?_|refine he3 _ _ ?_|refine hn2 _ ?_|refine he2 _ ?_|refine hf2 _ _ (by decide) ?_|refine hn1 _ ?_|refine he1 _ _ ?_)
     refine zm fun KY hKY=>?_
     simp only[go_sem,Ug,zJ (show k<4611686018427387904 by omega)]
     apply hKY
     repeat (first|refine hn6 _ ?_|refine he6 _ ?_|refine hf6 _ _ (by decide) ?_|refine hn5 _ ?_|refine he5 _ _ ?_|refine hn4 _ ?_|refine he4 _ _ ?_)
     refine hn3 _ (k+1) (l.length - (k+1)) (by omega) (by first|(simp only[go_sem,zd,ze,hst];done)|with_reducible rfl|rfl) ?_
     exact⟨hk2,rfl⟩
 have hdx:decide ((k:Int)<(l.length:Int))=false:=decide_eq_false (by omega)
 obtain rfl:k=l.length:=by omega
 refine za fun KY hKY=>?_
 simp only[go_sem,Ui,hdx]
 apply hKY
 refine zf fun X7 hn7 he7 hr7=>?_
 refine Zm ?_
 refine zy ?_
 repeat (first|refine hn7 _ ?_|refine he7 _ _ ?_|refine he3 _ _ ?_|refine hn2 _ ?_|refine he2 _ ?_|refine hf2 _ _ (by decide) ?_|refine hn1 _ ?_|refine he1 _ _ ?_)
 refine za fun KY hKY=>?_
 simp only[go_sem,OJ]
 apply hKY
 refine zj ?_
 repeat (first|refine hr7 _ ?_|refine hr3 _ ?_|refine hr2 _ ?_|refine hr1 _ ?_)
 simp only[go_sem]
 rfl
theorem XW (l:List Int)(x:Int)(hl:l.length≤100000):zo Try.prog [] zkf [.imm 1 (zl l),.sc (.int .i64 x)] [] fun r h'=>r= .own (some 1) (zH (zf0 l x))∧h'=[]:=by
 refine zmK rfl ?_
 unfold zlg vL
 refine za fun KY hKY=>?_
 simp only[go_sem,zaZ]
 apply hKY
 refine za fun KY hKY=>?_
 simp only[go_sem,zaY]
 apply zp [] [] false none rfl
 iterate 8 (first|(simp only[go_sem,zr]<;>rfl)|rfl)
 refine(zh1 l x hl).mono ?_
 rintro _ _ ⟨rfl,rfl⟩
 refine⟨Nat.le_of_ble_eq_true rfl,(fun hh=>by cases hh),?_⟩
 simp only[go_sem,zq,zb.after]
 apply hKY
 refine zj ?_
 simp only[go_sem]
theorem KG {N:Nat}{es:Es}(g:GR N es):zo Try.prog [] zgR [.agg [.sc (.int .i64 (N:Int)),.imm 2 (zZ (zB es))]] [] fun r h'=>r= .tup [.agg [.imm 1 (zH (Jd N (Zu es) 1)),.imm 1 (zH (Jd N (Zu es) 2)),.imm 1 (zH (Jd N (Zu es) 0))],.sc (.int .i64 0)]∧(∃mt D A bs,Fc N (Zu es) mt D A bs)∧h'=[]:=by
 refine zo.trim ?_
 have hN:=g.hn
 have hl:(JB N es).length≤100000:=by simp[JB];omega
 have h1:=XW (JB N es) (1:Nat) hl
 have h2:=XW (JB N es) (2:Nat) hl
 have hC:=XW (JB N es) (0:Nat) hl
 rw[show zf0 (JB N es) (1:Nat)=Jd N (Zu es) 1 from WS N es 1] at h1
 rw[show zf0 (JB N es) (2:Nat)=Jd N (Zu es) 2 from WS N es 2] at h2
 rw[show zf0 (JB N es) (0:Nat)=Jd N (Zu es) 0 from WS N es 0] at hC
 refine zmW rfl ?_
 unfold zls yc
 refine za fun KY hKY=>?_
 simp only[go_sem,zbS]
 apply hKY
 refine za fun KY hKY=>?_
 simp only[go_sem,zbR]
 apply zp [] [] false none rfl
 iterate 8 (first|(simp only[go_sem,zr]<;>rfl)|rfl)
 refine(zdf g).mono ?_
 rintro _ _ ⟨m,hml,⟨D,A,bs,hF⟩,⟨h0,rfl,rfl⟩|⟨h0,rfl,rfl⟩⟩
 · refine⟨Nat.le_of_ble_eq_true rfl,(fun hh=>by cases hh),?_⟩
   simp only[go_sem,zq,zb.after]
   apply hKY
   refine zf fun X1 hn1 he1 hr1=>?_
   refine za fun KY hKY=>?_
   simp only[go_sem,UY]
   apply hKY
   refine Zm ?_
   refine zg ?_
   repeat (first|refine hn1 _ ?_|refine he1 _ _ ?_)
   refine Zd [0,4] (by simp only[go_sem];rfl) ?_
   simp only[go_sem]
   refine za fun KY hKY=>?_
   simp only[go_sem,UX]
   apply hKY
   refine za fun KY hKY=>?_
   simp only[go_sem,UW]
   apply zp [] [] false none rfl
   iterate 8 (first|(simp only[go_sem,zr]<;>rfl)|rfl)
   refine(h1).mono ?_
   rintro _ _ ⟨rfl,rfl⟩
   refine⟨Nat.le_of_ble_eq_true rfl,(fun hh=>by cases hh),?_⟩
   simp only[go_sem,zq,zb.after]
   apply zp [] [] false none rfl
   iterate 8 (first|(simp only[go_sem,zr]<;>rfl)|rfl)
   refine(h2).mono ?_
   rintro _ _ ⟨rfl,rfl⟩
   refine⟨Nat.le_of_ble_eq_true rfl,(fun hh=>by cases hh),?_⟩
   simp only[go_sem,zq,zb.after]
   apply zp [] [] false none rfl
   iterate 8 (first|(simp only[go_sem,zr]<;>rfl)|rfl)
   refine(hC).mono ?_
   rintro _ _ ⟨rfl,rfl⟩
   refine⟨Nat.le_of_ble_eq_true rfl,(fun hh=>by cases hh),?_⟩
   simp only[go_sem,zq,zb.after]
   apply hKY
   refine Zd [0,2,0] (by simp only[go_sem];rfl) ?_
   simp only[go_sem]
   refine Zd [0,2,1] (by simp only[go_sem];rfl) ?_
   simp only[go_sem]
   refine Zd [0,2,2] (by simp only[go_sem];rfl) ?_
   simp only[go_sem]
   refine zj ?_
   repeat (first|refine hr1 _ ?_)
   simp only[go_sem]
   exact⟨_,_,_,_,hF⟩
 · refine⟨Nat.le_of_ble_eq_true rfl,(fun hh=>by cases hh),?_⟩
   simp only[go_sem,zq,zb.after]
   apply hKY
   refine zf fun X2 hn2 he2 hr2=>?_
   refine za fun KY hKY=>?_
   simp only[go_sem,UY]
   apply hKY
   refine Zm ?_
   refine zg ?_
   repeat (first|refine hn2 _ ?_|refine he2 _ _ ?_)
   refine Zd [0,4] (by simp only[go_sem];rfl) ?_
   simp only[go_sem]
   refine za fun KY hKY=>?_
   simp only[go_sem,UX]
   apply hKY
   refine za fun KY hKY=>?_
   simp only[go_sem,UW]
   apply zp [] [] false none rfl
   iterate 8 (first|(simp only[go_sem,zr]<;>rfl)|rfl)
   refine(h1).mono ?_
   rintro _ _ ⟨rfl,rfl⟩
   refine⟨Nat.le_of_ble_eq_true rfl,(fun hh=>by cases hh),?_⟩
   simp only[go_sem,zq,zb.after]
   apply zp [] [] false none rfl
   iterate 8 (first|(simp only[go_sem,zr]<;>rfl)|rfl)
   refine(h2).mono ?_
   rintro _ _ ⟨rfl,rfl⟩
   refine⟨Nat.le_of_ble_eq_true rfl,(fun hh=>by cases hh),?_⟩
   simp only[go_sem,zq,zb.after]
   apply zp [] [] false none rfl
   iterate 8 (first|(simp only[go_sem,zr]<;>rfl)|rfl)
   refine(hC).mono ?_
   rintro _ _ ⟨rfl,rfl⟩
   refine⟨Nat.le_of_ble_eq_true rfl,(fun hh=>by cases hh),?_⟩
   simp only[go_sem,zq,zb.after]
   apply hKY
   refine Zd [0,2,0] (by simp only[go_sem];rfl) ?_
   simp only[go_sem]
   refine Zd [0,2,1] (by simp only[go_sem];rfl) ?_
   simp only[go_sem]
   refine Zd [0,2,2] (by simp only[go_sem];rfl) ?_
   simp only[go_sem]
   refine zj ?_
   repeat (first|refine hr2 _ ?_)
   simp only[go_sem]
   exact⟨_,_,_,_,hF⟩
end Go.Proofs.Ytkjppnofgmpeeaa
set_option maxHeartbeats 8000000
namespace Go.Proofs.Ytkjppnofgmpeeaa
open Go Go.Ga Go.Ga.Gl
theorem zcX (d1 a1 c1 d2 a2 c2:List Nat)(h1:d1.length≤1000000000)(h2:a1.length≤1000000000)(h3:c1.length≤1000000000):
    zo Try.prog [] zkn [.agg [.imm 1 (zH d1),.imm 1 (zH a1),.imm 1 (zH c1)],.agg [.imm 1 (zH d2),.imm 1 (zH a2),.imm 1 (zH c2)]] [] fun r h'=>r= .sc (.bool (decide (d1=d2)&&decide (a1=a2)&&decide (c1=c2)))∧h'=[]:=by
  have p1:=WK d1 d2 h1
  have p2:=WK a1 a2 h2
  have p3:=WK c1 c2 h3
  generalize decide (d1=d2)=x at p1⊢
  generalize decide (a1=a2)=y at p2⊢
  generalize decide (c1=c2)=z at p3⊢
  refine zmT rfl ?_
  unfold zlp K6
  refine za fun KY hKY=>?_
  simp only[go_sem,zbH]
  apply hKY
  refine za fun KY hKY=>?_
  simp only[go_sem,zbG]
  refine zt rfl (by simp only[go_sem]<;>rfl) ((p1).mono ?_)
  rintro rr hh ⟨rfl,rfl⟩
  refine⟨rfl,rfl,rfl,?_⟩
  simp only[go_sem]
  cases x with
  | false=>
    simp only[go_sem]
    apply hKY
    refine zj ?_
    simp only[go_sem]
  | true=>
    simp only[go_sem]
    refine zt rfl (by simp only[go_sem]<;>rfl) ((p2).mono ?_)
    rintro rr hh ⟨rfl,rfl⟩
    refine⟨rfl,rfl,rfl,?_⟩
    simp only[go_sem]
    cases y with
    | false=>
      simp only[go_sem]
      apply hKY
      refine zj ?_
      simp only[go_sem]
    | true=>
      simp only[go_sem]
      refine zt rfl (by simp only[go_sem]<;>rfl) ((p3).mono ?_)
      rintro rr hh ⟨rfl,rfl⟩
      refine⟨rfl,rfl,rfl,?_⟩
      simp only[go_sem]
      apply hKY
      refine zj ?_
      simp only[go_sem]
def wE :Es:=[(0,1),(0,2)]
theorem zdu :GR 3 wE:=Ka (by decide)
def vW (x:Nat)(u:Nat):Int:=if u=0 then(x:Int) else if u=x then 0 else -1
theorem zci {x:Nat}(hx:x=1∨x=2):Mf 3 (Zu wE) (vW x):=by
 have M0:Mf 3 (Zu wE) (fun _=> -1):=zdu.none fun _=>rfl
 refine M0.add (v:=0) (w:=x) rfl rfl ?_ (if_pos rfl) ?_ fun u h1 h2=>?_
 · rcases hx with rfl|rfl<;>simp[Zu,wE]
 · show(if x=0 then(x:Int) else if x=x then 0 else -1)=((0:Nat):Int)
   rw[if_neg (by omega),if_pos rfl];rfl
 · show(if u=0 then(x:Int) else if u=x then 0 else -1)= -1
   rw[if_neg h1,if_neg h2]
theorem ziw :Fc 3 (Zu wE) (vW 1) (fun v=>decide (v=1∨v=2)) (fun v=>decide (v=0)) (fun v=>v) where
 m:=zci (.inl rfl)
 c :={
  dn:=fun v h=>by have:=of_decide_eq_true h;omega
  an:=fun v h=>by
   have:=of_decide_eq_true h
   subst this
   exact⟨by omega,by decide⟩
  ed:=fun v w h hE=>by
   have hv:=of_decide_eq_true h
   refine .inl (decide_eq_true ?_)
   simp[Zu,wE] at hE
   omega
  db:=fun v h=>⟨h,rfl⟩
  fr:=fun v hv h=>by
   refine⟨decide_eq_true ?_,rfl⟩
   unfold vW at h
   by_cases h0:v=0
   · rw[if_pos h0] at h;omega
   · omega
  am:=fun a h=>by
   have:=of_decide_eq_true h
   subst this
   exact⟨1,rfl,by decide,rfl⟩
  dm:=fun v h hb=>absurd rfl hb
  bb:=fun b m h hb hm=>by
   have hv:=of_decide_eq_true h
   refine decide_eq_true ?_
   unfold vW at hm
   rcases hv with rfl|rfl
   · simp at hm;omega
   · simp at hm}
 d:=fun v h=>by
  have hv:=of_decide_eq_true h
  rcases hv with rfl|rfl
  · exact⟨vW 2,zci (.inr rfl),by decide,rfl⟩
  · exact⟨vW 1,zci (.inl rfl),by decide,rfl⟩
 a:=fun v h=>by
  have:=of_decide_eq_true h
  subst this
  exact⟨1,by decide,by simp[Zu,wE]⟩
theorem Xp (k:Nat):Jd 3 (Zu wE) k=(List.range 3).filter fun v=>decide ((if decide (v=1∨v=2)=true then 1 else if decide (v=0)=true then 2 else 0)=k):=
 List.filter_congr fun v _=>by rw[ziw.lab v]
theorem Q6 :zo Try.prog [] zko [] [] fun r h'=>r= .sc (.bool true)∧h'=[]:=by
 have hG:=KG zdu
 rw[Xp 1,Xp 2,Xp 0,show((List.range 3).filter fun v=>decide ((if decide (v=1∨v=2)=true then 1 else if decide (v=0)=true then 2 else 0)=1))=[1,2] by decide,show((List.range 3).filter fun v=>decide ((if decide (v=1∨v=2)=true then 1 else if decide (v=0)=true then 2 else 0)=2))=[0] by decide,show((List.range 3).filter fun v=>decide ((if decide (v=1∨v=2)=true then 1 else if decide (v=0)=true then 2 else 0)=0))=[] by decide] at hG
 have hT:=(zcX [1,2] [0] [] [1,2] [0] [] (by simp) (by simp) (by simp)).sees (.cons (.refl _) (.cons ((JJ.cons (.refl _) (.cons (.refl _) (.cons (.imm 1) .nil))).agg) .nil))
 rw[show((3:Nat):Int)=3 from rfl,show zZ (zB wE)=[.sc (.int .i64 0),.sc (.int .i64 1),.sc (.int .i64 0),.sc (.int .i64 2)] from rfl] at hG
 rw[show zH [1,2]=[.sc (.int .i64 1),.sc (.int .i64 2)] from rfl,show zH [0]=[.sc (.int .i64 0)] from rfl] at hG hT
 refine zmX rfl ?_
 unfold zlt Xh
 refine za fun KY hKY=>?_
 simp only[go_sem,zbV]
 apply hKY
 refine za fun KY hKY=>?_
 simp only[go_sem,zbU]
 have hG2:zo Try.prog [] zgR [.agg [.sc (.int .i64 3),.own (some 2) [.sc (.int .i64 0),.sc (.int .i64 1),.sc (.int .i64 0),.sc (.int .i64 2)]]] [] _:=zo.fzArgs hG
 apply zp [.mv] [] false none rfl
 iterate 8 (first|(simp only[go_sem,zr]<;>rfl)|rfl)
 refine(hG2).mono ?_
 rintro _ _ ⟨rfl,_,rfl⟩
 refine⟨Nat.le_of_ble_eq_true rfl,(fun hh=>by cases hh),?_⟩
 simp only[go_sem,zq,zb.after]
 apply hKY
 refine za fun KY hKY=>?_
 simp only[go_sem,zbT]
 refine zt rfl (by simp only[go_sem]<;>rfl) ((hT).mono ?_)
 rintro rr hh ⟨rfl,rfl⟩
 refine⟨rfl,rfl,rfl,?_⟩
 simp only[go_sem,(show decide (([1,2]:List Nat)=[1,2])=true from rfl),(show decide (([0]:List Nat)=[0])=true from rfl),(show decide (([]:List Nat)=[])=true from rfl)]
 apply hKY
 refine zj ?_
 simp only[go_sem]
theorem Ym (N:Nat)(E:Nat→Nat→Prop)(k:Nat):(Jd N E k).length≤N:=by
 unfold Jd
 exact Nat.le_trans (List.length_filter_le _ _) (by simp)
theorem zjz {N:Nat}{E:Nat→Nat→Prop}{mt:Nat→Int}{D A:Nat→Bool}{bs:Nat→Nat}(F:Fc N E mt D A bs){v:Nat}:v∈Jd N E 1↔D v=true:=by
 rw[Yl,F.lab v]
 constructor
 · rintro⟨_,h⟩
   by_cases hd:D v=true
   · exact hd
   · rw[if_neg hd] at h;split at h<;>omega
 · intro h
   exact⟨F.c.dn v h,if_pos h⟩
theorem Ve {N:Nat}{E:Nat→Nat→Prop}{mt:Nat→Int}{D A:Nat→Bool}{bs:Nat→Nat}(F:Fc N E mt D A bs){v:Nat}:v∈Jd N E 2↔A v=true:=by
 rw[Yl,F.lab v]
 constructor
 · rintro⟨_,h⟩
   by_cases hd:D v=true
   · rw[if_pos hd] at h;omega
   · rw[if_neg hd] at h
     by_cases ha:A v=true
     · exact ha
     · rw[if_neg ha] at h;omega
 · intro h
   obtain⟨h1,h2⟩:=F.c.an v h
   exact⟨h1,by rw[if_neg (by rw[h2];simp),if_pos h]⟩
theorem zfV (n:Nat)(hn:n≤10000000):zo Try.prog [] zj1 [.sc (.slice none 0 0),.sc (.int .i64 (n:Int))] [] fun r h'=>r= .own (some 1) []∧h'=[]:=by
 refine zo.seen (Q:=fun r h'=>(r= .sc (.slice none 0 0)∨r= .own (some 1) [])∧h'=[]) ?_ ?_
 · refine zmt rfl ?_
   unfold zkZ qK
   refine za fun KY hKY=>?_
   simp only[go_sem,Oz]
   apply hKY
   refine zf fun X1 hn1 he1 hr1=>?_
   refine za fun KY hKY=>?_
   simp only[go_sem,Oy]
   apply hKY
   refine Zm ?_
   refine zg ?_
   repeat (first|refine hn1 _ ?_|refine he1 _ _ ?_)
   refine zf fun X2 hn2 he2 hr2=>?_
   have w1:IntKind.i64.wrap ((n:Int) - IntKind.i64.wrap (0 - 0))=(n:Int):=by rw[show IntKind.i64.wrap (0 - 0)=0 by decide,IntWalk.i64_in _ (by omega)];omega
   refine za fun KY hKY=>?_
   simp only[go_sem,Ox,w1]
   apply hKY
   refine za fun KY hKY=>?_
   simp only[go_sem,Ow]
   apply hKY
   by_cases h:0<n
   · refine ZA ?_
     refine zm fun KY hKY=>?_
     simp only[go_sem,Ov,(show 0<(n:Int) by omega),(show(n:Int)≤9223372036854775807 by omega),(show 8*n≤140737488355328 by omega),Int.toNat_natCast]
     apply hKY
     repeat (first|refine hn2 _ ?_|refine he2 _ _ ?_|refine hn1 _ ?_|refine he1 _ _ ?_)
     refine za fun KY hKY=>?_
     simp only[go_sem,Ue]
     apply hKY
     refine zj ?_
     repeat (first|refine hr2 _ ?_|refine hr1 _ ?_)
     simp only[go_sem]
     exact .inr (by simp[Zt])
   · refine Zm ?_
     refine zg ?_
     repeat (first|refine hn2 _ ?_|refine he2 _ _ ?_|refine hn1 _ ?_|refine he1 _ _ ?_)
     refine za fun KY hKY=>?_
     simp only[go_sem,Ue]
     apply hKY
     refine zj ?_
     repeat (first|refine hr2 _ ?_|refine hr1 _ ?_)
     simp only[go_sem]
 · rintro r h' ⟨rfl|rfl,rfl⟩
   · exact⟨_,qH.own 1,rfl,rfl⟩
   · exact⟨_,qH.refl _,rfl,rfl⟩
theorem zfm (A B:List Int)(hA:A.length≤1000000)(hB:B.length≤1000000):zo Try.prog [] zgO [.imm 1 [.imm 1 (zl A),.imm 1 (zl B)]] [] fun r h'=>r= .own (some 1) (zl (A++B))∧h'=[]:=by
 refine zmG rfl ?_
 unfold zlc Z7
 refine za fun KY hKY=>?_
 simp only[go_sem,zaJ]
 apply hKY
 refine za fun KY hKY=>?_
 simp only[go_sem,zaI]
 apply hKY
 refine zf fun X1 hn1 he1 hr1=>?_
 refine za fun KY hKY=>?_
 simp only[go_sem,zaH]
 apply hKY
 refine zk fun X2 hn2 he2 hf2 hr2=>?_
 try simp only[go_sem]
 refine zL (α:=Nat) [5,12,20] (fun k=>[(3,.sc (.int .i64 (bif k==0 then 0 else bif k==1 then(A.length:Int) else((A.length+B.length:Nat):Int)))),(11,.sc (.int .i64 (k:Int)))]) (fun k=>[]) (fun k q=>k≤2∧q=2 - k) (0) (2) rfl (by first|(simp only[go_sem,zd,ze];done)|with_reducible rfl|rfl) (⟨by omega,rfl⟩) ?_
 rintro k q ⟨hk,rfl⟩ X3 hn3 he3 hr3
 simp only[go_sem,zd,ze]
 refine za fun KY hKY=>?_
 simp only[go_sem,zaG]
 apply hKY
 refine zf fun X4 hn4 he4 hr4=>?_
 have w2:IntKind.i64.wrap ((A.length:Int)+(B.length:Int))=((A.length+B.length:Nat):Int):=by rw[IntWalk.i64_in _ (by omega)];omega
 have w1:IntKind.i64.wrap (0+(A.length:Int))=(A.length:Int):=by rw[IntWalk.i64_in _ (by omega)];omega
 by_cases hk0:k=0
 · subst hk0
   refine ZA ?_
   refine zg ?_
   repeat (first|refine hn4 _ ?_|refine he4 _ _ ?_|refine he3 _ _ ?_|refine hn2 _ ?_|refine he2 _ ?_|refine hf2 _ _ (by decide) ?_|refine hn1 _ ?_|refine he1 _ _ ?_)
   refine zf fun X5 hn5 he5 hr5=>?_
   refine zk fun X6 hn6 he6 hf6 hr6=>?_
   refine za fun KY hKY=>?_
   simp only[go_sem,UG]
   apply hKY
   refine za fun KY hKY=>?_
   simp only[go_sem,UF,w1,zi]
   apply hKY
   refine za fun KY hKY=>?_
   simp only[go_sem,UE,(show decide ((A.length:Int)<0)=false from decide_eq_false (by omega))]
   apply hKY
   refine Zm ?_
   refine zg ?_
   repeat (first|refine hn6 _ ?_|refine he6 _ ?_|refine hf6 _ _ (by decide) ?_|refine hn5 _ ?_|refine he5 _ _ ?_|refine hn4 _ ?_|refine he4 _ _ ?_|refine he3 _ _ ?_|refine hn2 _ ?_|refine he2 _ ?_|refine hf2 _ _ (by decide) ?_|refine hn1 _ ?_|refine he1 _ _ ?_)
   refine zm fun KY hKY=>?_
   simp only[go_sem,UD,(show IntKind.i64.wrap 1=1 by decide)]
   apply hKY
   repeat (first|refine hn6 _ ?_|refine he6 _ ?_|refine hf6 _ _ (by decide) ?_|refine hn5 _ ?_|refine he5 _ _ ?_|refine hn4 _ ?_|refine he4 _ _ ?_)
   refine hn3 _ (1) (2 - 1) (by omega) (by first|(simp only[go_sem,zd,ze,(show((1:Nat):Int)=1 from rfl),cond_true,cond_false];done)|with_reducible rfl|rfl) ?_
   exact⟨by omega,rfl⟩
 by_cases hk1:k=1
 · subst hk1
   refine ZA ?_
   refine zg ?_
   repeat (first|refine hn4 _ ?_|refine he4 _ _ ?_|refine he3 _ _ ?_|refine hn2 _ ?_|refine he2 _ ?_|refine hf2 _ _ (by decide) ?_|refine hn1 _ ?_|refine he1 _ _ ?_)
   refine zf fun X7 hn7 he7 hr7=>?_
   refine zk fun X8 hn8 he8 hf8 hr8=>?_
   refine za fun KY hKY=>?_
   simp only[go_sem,UG]
   apply hKY
   refine za fun KY hKY=>?_
   simp only[go_sem,UF,w2,zi]
   apply hKY
   refine za fun KY hKY=>?_
   simp only[go_sem,UE,(show decide (((A.length+B.length:Nat):Int)<0)=false from decide_eq_false (by omega))]
   apply hKY
   refine Zm ?_
   refine zg ?_
   repeat (first|refine hn8 _ ?_|refine he8 _ ?_|refine hf8 _ _ (by decide) ?_|refine hn7 _ ?_|refine he7 _ _ ?_|refine hn4 _ ?_|refine he4 _ _ ?_|refine he3 _ _ ?_|refine hn2 _ ?_|refine he2 _ ?_|refine hf2 _ _ (by decide) ?_|refine hn1 _ ?_|refine he1 _ _ ?_)
   refine zm fun KY hKY=>?_
   simp only[go_sem,UD,(show IntKind.i64.wrap 2=2 by decide)]
   apply hKY
   repeat (first|refine hn8 _ ?_|refine he8 _ ?_|refine hf8 _ _ (by decide) ?_|refine hn7 _ ?_|refine he7 _ _ ?_|refine hn4 _ ?_|refine he4 _ _ ?_)
   refine hn3 _ (2) (2 - 2) (by omega) (by first|(simp only[go_sem,zd,ze,(show((2:Nat):Int)=2 from rfl),cond_true,cond_false];done)|with_reducible rfl|rfl) ?_
   exact⟨by omega,rfl⟩
 · obtain rfl:k=2:=by omega
   refine Zm ?_
   refine zy ?_
   repeat (first|refine hn4 _ ?_|refine he4 _ _ ?_|refine he3 _ _ ?_|refine hn2 _ ?_|refine he2 _ ?_|refine hf2 _ _ (by decide) ?_|refine hn1 _ ?_|refine he1 _ _ ?_)
   have hgr:=zfV (A.length+B.length) (by omega)
   refine za fun KY hKY=>?_
   simp only[go_sem,zaF]
   refine zt rfl (by simp only[go_sem]<;>rfl) ((hgr).mono ?_)
   rintro rr hh ⟨rfl,rfl⟩
   refine⟨rfl,rfl,rfl,?_⟩
   simp only[go_sem]
   apply hKY
   refine zf fun X9 hn9 he9 hr9=>?_
   refine za fun KY hKY=>?_
   simp only[go_sem,kB]
   apply hKY
   refine zk fun X10 hn10 he10 hf10 hr10=>?_
   try simp only[go_sem]
   refine zL (α:=Nat) [8,28] (fun j=>[(6,.own (some 1) (zl (bif j==0 then [] else bif j==1 then A else A++B))),(27,.sc (.int .i64 (j:Int)))]) (fun j=>[]) (fun j q=>j≤2∧q=2 - j) (0) (2) rfl (by first|(simp only[go_sem,zd,ze];done)|with_reducible rfl|rfl) (⟨by omega,rfl⟩) ?_
   rintro j q ⟨hj,rfl⟩ X11 hn11 he11 hr11
   simp only[go_sem,zd,ze]
   refine za fun KY hKY=>?_
   simp only[go_sem,kA]
   apply hKY
   refine zf fun X12 hn12 he12 hr12=>?_
   by_cases hj0:j=0
   · subst hj0
     refine ZA ?_
     refine zg ?_
     repeat (first|refine hn12 _ ?_|refine he12 _ _ ?_|refine he11 _ _ ?_|refine hn10 _ ?_|refine he10 _ ?_|refine hf10 _ _ (by decide) ?_|refine hn9 _ ?_|refine he9 _ _ ?_|refine hn4 _ ?_|refine he4 _ _ ?_)
     refine zf fun X13 hn13 he13 hr13=>?_
     refine zk fun X14 hn14 he14 hf14 hr14=>?_
     refine za fun KY hKY=>?_
     simp only[go_sem,xc]
     apply hKY
     refine zm fun KY hKY=>?_
     simp only[go_sem,xb,(show A.length*8≤140737488355328 by omega),yI,(show zl []++zl A=zl A from rfl)]
     apply hKY
     repeat (first|refine hn14 _ ?_|refine he14 _ ?_|refine hf14 _ _ (by decide) ?_|refine hn13 _ ?_|refine he13 _ _ ?_|refine hn12 _ ?_|refine he12 _ _ ?_|refine he11 _ _ ?_|refine hn10 _ ?_|refine he10 _ ?_|refine hf10 _ _ (by decide) ?_|refine hn9 _ ?_|refine he9 _ _ ?_|refine hn4 _ ?_|refine he4 _ _ ?_)
     refine zm fun KY hKY=>?_
     simp only[go_sem,xa,(show IntKind.i64.wrap 1=1 by decide)]
     apply hKY
     repeat (first|refine hn14 _ ?_|refine he14 _ ?_|refine hf14 _ _ (by decide) ?_|refine hn13 _ ?_|refine he13 _ _ ?_|refine hn12 _ ?_|refine he12 _ _ ?_)
     refine hn11 _ (1) (2 - 1) (by omega) (by first|(simp only[go_sem,zd,ze,(show((1:Nat):Int)=1 from rfl),cond_true,cond_false];done)|with_reducible rfl|rfl) ?_
     exact⟨by omega,rfl⟩
   by_cases hj1:j=1
   · subst hj1
     refine ZA ?_
     refine zg ?_
     repeat (first|refine hn12 _ ?_|refine he12 _ _ ?_|refine he11 _ _ ?_|refine hn10 _ ?_|refine he10 _ ?_|refine hf10 _ _ (by decide) ?_|refine hn9 _ ?_|refine he9 _ _ ?_|refine hn4 _ ?_|refine he4 _ _ ?_)
     refine zf fun X15 hn15 he15 hr15=>?_
     refine zk fun X16 hn16 he16 hf16 hr16=>?_
     refine za fun KY hKY=>?_
     simp only[go_sem,xc]
     apply hKY
     refine zm fun KY hKY=>?_
     simp only[go_sem,xb,(show(A.length+B.length)*8≤140737488355328 by omega),yI,(show zl A++zl B=zl (A++B) by simp[zl])]
     apply hKY
     repeat (first|refine hn16 _ ?_|refine he16 _ ?_|refine hf16 _ _ (by decide) ?_|refine hn15 _ ?_|refine he15 _ _ ?_|refine hn12 _ ?_|refine he12 _ _ ?_|refine he11 _ _ ?_|refine hn10 _ ?_|refine he10 _ ?_|refine hf10 _ _ (by decide) ?_|refine hn9 _ ?_|refine he9 _ _ ?_|refine hn4 _ ?_|refine he4 _ _ ?_)
     refine zm fun KY hKY=>?_
     simp only[go_sem,xa,(show IntKind.i64.wrap 2=2 by decide)]
     apply hKY
     repeat (first|refine hn16 _ ?_|refine he16 _ ?_|refine hf16 _ _ (by decide) ?_|refine hn15 _ ?_|refine he15 _ _ ?_|refine hn12 _ ?_|refine he12 _ _ ?_)
     refine hn11 _ (2) (2 - 2) (by omega) (by first|(simp only[go_sem,zd,ze,(show((2:Nat):Int)=2 from rfl),cond_true,cond_false];done)|with_reducible rfl|rfl) ?_
     exact⟨by omega,rfl⟩
   · obtain rfl:j=2:=by omega
     refine Zm ?_
     refine zy ?_
     repeat (first|refine hn12 _ ?_|refine he12 _ _ ?_|refine he11 _ _ ?_|refine hn10 _ ?_|refine he10 _ ?_|refine hf10 _ _ (by decide) ?_|refine hn9 _ ?_|refine he9 _ _ ?_|refine hn4 _ ?_|refine he4 _ _ ?_|refine he3 _ _ ?_|refine hn2 _ ?_|refine he2 _ ?_|refine hf2 _ _ (by decide) ?_|refine hn1 _ ?_|refine he1 _ _ ?_)
     refine za fun KY hKY=>?_
     simp only[go_sem,kz]
     apply hKY
     refine zj ?_
     repeat (first|refine hr12 _ ?_|refine hr11 _ ?_|refine hr10 _ ?_|refine hr9 _ ?_|refine hr4 _ ?_|refine hr3 _ ?_|refine hr2 _ ?_|refine hr1 _ ?_)
     simp only[go_sem]
def Zv (l:List Nat):List Int:=l.map fun x:Nat=>(x:Int)
theorem Yo (l:List Nat):zH l=zl (Zv l):=qo l
theorem uq {N:Nat}{es:Es}(g:GR N es):zo Try.prog [] zkm [.agg [.sc (.int .i64 (N:Int)),.imm 2 (zZ (zB es))]] [] fun r h'=>(∃ps,ZF N es (fun v=>(v:Int)∈Zv (Jd N (Zu es) 2)++Zv (Jd N (Zu es) 0)) ps∧r= .tup [.own (some 1) (ZH ps),.sc (.int .i64 0)])∧h'=[]:=by
 have hN:=g.hn
 have l2:=Ym N (Zu es) 2
 have l0:=Ym N (Zu es) 0
 have hC:=zfm (Zv (Jd N (Zu es) 2)) (Zv (Jd N (Zu es) 0)) (by simp[Zv];omega) (by simp[Zv];omega)
 have hC2:zo Try.prog [] zgO [.own (some 1) [.imm 1 (zl (Zv (Jd N (Zu es) 2))),.imm 1 (zl (Zv (Jd N (Zu es) 0)))]] [] _:=zo.fzArgs (by
  simp only[List.map,zc.freeze,zc.freezeL,xJ]
  exact hC)
 have hW:=zb9 g (Zv (Jd N (Zu es) 2)++Zv (Jd N (Zu es) 0)) (by simp[Zv];omega)
 refine zmS rfl ?_
 unfold zlo wC
 refine za fun KY hKY=>?_
 simp only[go_sem,zbF]
 apply hKY
 refine za fun KY hKY=>?_
 simp only[go_sem,zbE]
 apply zp [] [] false none rfl
 iterate 8 (first|(simp only[go_sem,zr]<;>rfl)|rfl)
 refine(KG g).mono ?_
 rintro _ _ ⟨rfl,_,rfl⟩
 rw[Yo (Jd N (Zu es) 2),Yo (Jd N (Zu es) 0)]
 refine⟨Nat.le_of_ble_eq_true rfl,(fun hh=>by cases hh),?_⟩
 simp only[go_sem,zq,zb.after]
 apply hKY
 refine zf fun X1 hn1 he1 hr1=>?_
 refine za fun KY hKY=>?_
 simp only[go_sem,zbD]
 apply hKY
 refine Zm ?_
 refine zg ?_
 repeat (first|refine hn1 _ ?_|refine he1 _ _ ?_)
 refine zv fun KY hKY=>?_
 simp only[go_sem,zbC]
 apply zp [.mv] [] false none rfl
 iterate 8 (first|(simp only[go_sem,zr]<;>rfl)|rfl)
 refine(hC2).mono ?_
 rintro _ _ ⟨rfl,rfl⟩
 refine⟨Nat.le_of_ble_eq_true rfl,(fun hh=>by cases hh),?_⟩
 simp only[go_sem,zq,zb.after]
 apply zp [] [] true none rfl
 iterate 8 (first|(simp only[go_sem,zr]<;>rfl)|rfl)
 refine(hW).mono ?_
 rintro _ _ ⟨⟨ps,hps,rfl⟩,rfl⟩
 refine⟨Nat.le_of_ble_eq_true rfl,(fun _=>by simp only[go_sem,JD,and_self]),?_⟩
 simp only[go_sem,zq,zb.after]
 apply hKY
 refine zj ?_
 repeat (first|refine hr1 _ ?_)
 simp only[go_sem]
 exact⟨ps,hps,rfl⟩
def xl (n:Int)(es:List (Int×Int))(b:List Int):Int:=bif Zf n es then(bif b.all (fun v=>decide (0≤v)&&decide (v<n)) then(bif decide b.Nodup then 0 else 6) else 4) else 3
def BP (n:Int)(es:List (Int×Int))(b:List Int)(x e:Int):Prop:=(xl n es b≠0∧x=0∧e=xl n es b)∨(xl n es b=0∧∃ps,KU n es b ps∧x=(Zx ps:Int) - b.length∧e=0)
theorem inB {n:Int}{b:List Int}{k:Nat}(h:k<b.length)(hf:¬(0≤b.getD k 0∧b.getD k 0<n)):(b.all fun v=>decide (0≤v)&&decide (v<n))=false:=by
 rw[Bool.eq_false_iff];intro h'
 rw[List.all_eq_true] at h'
 have:=h' (b.getD k 0) (by rw[List.getD_eq_getElem?_getD,List.getElem?_eq_getElem h];exact List.getElem_mem h)
 rw[Bool.and_eq_true,decide_eq_true_iff,decide_eq_true_iff] at this
 exact hf this
theorem ziZ {n:Int}{b:List Int}(h:∀k,k<b.length→0≤b.getD k 0∧b.getD k 0<n):(b.all fun v=>decide (0≤v)&&decide (v<n))=true:=by
 rw[List.all_eq_true]
 intro x hx
 obtain⟨i,hi,rfl⟩:=List.mem_iff_getElem.1 hx
 have:=h i hi
 rw[List.getD_eq_getElem?_getD,List.getElem?_eq_getElem hi] at this
 rw[Bool.and_eq_true,decide_eq_true_iff,decide_eq_true_iff];exact this
theorem vV {b:List Int}{k:Nat}(h:k<b.length):b.take (k+1)=b.take k++[b.getD k 0]:=by
 rw[List.take_add_one,List.getElem?_eq_getElem h,List.getD_eq_getElem?_getD,List.getElem?_eq_getElem h];rfl
theorem zgA {b:List Int}{k:Nat}(h:k<b.length)(hm:b.getD k 0∈b.take k):¬b.Nodup:=fun hn=>by
 have h1:(b.take (k+1)).Nodup:=hn.sublist (List.take_sublist _ _)
 rw[vV h,List.nodup_append] at h1
 exact h1.2.2 _ hm _ (List.mem_singleton.2 rfl) rfl
theorem zeU {b:List Int}{k:Nat}(h:k<b.length)(hn:(b.take k).Nodup)(hm:b.getD k 0∉b.take k):(b.take (k+1)).Nodup:=by
 rw[vV h,List.nodup_append]
 refine⟨hn,List.nodup_cons.2 ⟨by simp,List.nodup_nil⟩,fun a ha c hc e=>?_⟩
 rw[List.mem_singleton] at hc
 subst hc;subst e;exact hm ha
theorem zeH (n:Int)(es:List (Int×Int))(b:List Int)(hb:b.length≤1000000):zo Try.prog [] zj8 [.agg [.sc (.int .i64 n),.imm 2 (zZ es)],.imm 1 (zl b)] [] fun r h'=>(∃x e,BP n es b x e∧r= .tup [.sc (.int .i64 x),.sc (.int .i64 e)])∧h'=[]:=by
 refine zo.trim ?_
 cases hr:Zf n es with
 | false=>
   have he:xl n es b=3:=by simp[xl,hr]
   refine zhk rfl ?_
   unfold zhQ jt
   refine za fun KY hKY=>?_
   simp only[go_sem,Uu]
   apply hKY
   refine zf fun X1 hn1 he1 hr1=>?_
   refine za fun KY hKY=>?_
   simp only[go_sem,Ut]
   refine zt rfl (by simp only[go_sem]<;>rfl) ((jX n es).mono ?_)
   rintro rr hh ⟨rfl,rfl⟩
   refine⟨rfl,rfl,rfl,?_⟩
   simp only[go_sem,hr]
   apply hKY
   refine ZA ?_
   refine za fun KY hKY=>?_
   simp only[go_sem,zag]
   apply hKY
   refine zj ?_
   repeat (first|refine hr1 _ ?_)
   simp only[go_sem]
   exact⟨0,3,.inl ⟨by rw[he];decide,rfl,he.symm⟩,rfl⟩
 |true=>
 obtain⟨N,es,rfl,rfl,g⟩:=WD hr
 have hN:=g.hn
 refine zhk rfl ?_
 unfold zhQ jt
 refine za fun KY hKY=>?_
 simp only[go_sem,Uu]
 apply hKY
 refine zf fun X2 hn2 he2 hr2=>?_
 refine za fun KY hKY=>?_
 simp only[go_sem,Ut]
 refine zt rfl (by simp only[go_sem]<;>rfl) ((jX N (zB es)).mono ?_)
 rintro rr hh ⟨rfl,rfl⟩
 refine⟨rfl,rfl,rfl,?_⟩
 simp only[go_sem,hr]
 apply hKY
 refine Zm ?_
 refine zg ?_
 repeat (first|refine hn2 _ ?_|refine he2 _ _ ?_)
 refine zf fun X3 hn3 he3 hr3=>?_
 refine za fun KY hKY=>?_
 simp only[go_sem,zaf]
 apply hKY
 refine zk fun X4 hn4 he4 hf4 hr4=>?_
 try simp only[go_sem]
 refine zL (α:=Nat) [14,23] (fun k=>[(6,.sc (.int .i64 (k:Int)))]) (fun k=>[]) (fun k q=>k≤b.length∧q=b.length - k∧(∀j,j<k→0≤b.getD j 0∧b.getD j 0<N)) (0) (b.length) rfl (by first|(simp only[go_sem,zd,ze];done)|with_reducible rfl|rfl) (⟨by omega,rfl,fun j h=>by omega⟩) ?_
 rintro k q ⟨hk,rfl,hz⟩ X5 hn5 he5 hr5
 simp only[go_sem,zd,ze]
 refine zf fun X6 hn6 he6 hr6=>?_
 rcases Nat.lt_or_ge k b.length with hk2|hk2
 · have hdy:decide ((k:Int)<(b.length:Int))=true:=decide_eq_true (by omega)
   refine za fun KY hKY=>?_
   simp only[go_sem,Us,zi,hdy]
   apply hKY
   refine ZA ?_
   refine zg ?_
   repeat (first|refine hn6 _ ?_|refine he6 _ _ ?_|refine he5 _ _ ?_|refine hn4 _ ?_|refine he4 _ ?_|refine hf4 _ _ (by decide) ?_|refine hn3 _ ?_|refine he3 _ _ ?_|refine hn2 _ ?_|refine he2 _ _ ?_)
   refine zf fun X7 hn7 he7 hr7=>?_
   refine zk fun X8 hn8 he8 hf8 hr8=>?_
   by_cases hin:0≤b.getD k 0∧b.getD k 0<N
   · have hd:(decide (0≤b.getD k 0)&&decide (b.getD k 0<(N:Int)))=true:=by rw[decide_eq_true hin.1,decide_eq_true hin.2];rfl
     refine zv fun KY hKY=>?_
     simp only[go_sem,Ur,zh hk2,hk2,zi]
     refine zt rfl (by simp only[go_sem]<;>rfl) ((xI N (b.getD k 0) (zB es)).mono ?_)
     rintro rr hh ⟨rfl,rfl⟩
     refine⟨rfl,rfl,rfl,?_⟩
     simp only[go_sem,hd]
     apply hKY
     refine Zm ?_
     refine zg ?_
     repeat (first|refine hn8 _ ?_|refine he8 _ ?_|refine hf8 _ _ (by decide) ?_|refine hn7 _ ?_|refine he7 _ _ ?_|refine hn6 _ ?_|refine he6 _ _ ?_|refine he5 _ _ ?_|refine hn4 _ ?_|refine he4 _ ?_|refine hf4 _ _ (by decide) ?_|refine hn3 _ ?_|refine he3 _ _ ?_|refine hn2 _ ?_|refine he2 _ _ ?_)
     refine zm fun KY hKY=>?_
     simp only[go_sem,zad,zJ (show k<4611686018427387904 by omega)]
     apply hKY
     repeat (first|refine hn8 _ ?_|refine he8 _ ?_|refine hf8 _ _ (by decide) ?_|refine hn7 _ ?_|refine he7 _ _ ?_|refine hn6 _ ?_|refine he6 _ _ ?_)
     refine hn5 _ (k+1) (b.length - (k+1)) (by omega) (by first|(simp only[go_sem,zd,ze];done)|with_reducible rfl|rfl) ?_
     refine⟨hk2,rfl,fun j hj=>?_⟩
     rcases Nat.lt_or_ge j k with h3|h3
     · exact hz j h3
     · obtain rfl:j=k:=by omega
       exact hin
   · have hd:(decide (0≤b.getD k 0)&&decide (b.getD k 0<(N:Int)))=false:=by
      rw[Bool.eq_false_iff];intro h;rw[Bool.and_eq_true,decide_eq_true_iff,decide_eq_true_iff] at h;exact hin h
     have he:xl N (zB es) b=4:=by simp only[xl,hr,inB hk2 hin,cond_true,cond_false]
     refine zv fun KY hKY=>?_
     simp only[go_sem,Ur,zh hk2,hk2,zi]
     refine zt rfl (by simp only[go_sem]<;>rfl) ((xI N (b.getD k 0) (zB es)).mono ?_)
     rintro rr hh ⟨rfl,rfl⟩
     refine⟨rfl,rfl,rfl,?_⟩
     simp only[go_sem,hd]
     apply hKY
     refine ZA ?_
     refine za fun KY hKY=>?_
     simp only[go_sem,zae]
     apply hKY
     refine zj ?_
     repeat (first|refine hr8 _ ?_|refine hr7 _ ?_|refine hr6 _ ?_|refine hr5 _ ?_|refine hr4 _ ?_|refine hr3 _ ?_|refine hr2 _ ?_)
     simp only[go_sem]
     exact⟨0,4,.inl ⟨by rw[he];decide,rfl,he.symm⟩,rfl⟩
 have hdx:decide ((k:Int)<(b.length:Int))=false:=decide_eq_false (by omega)
 refine za fun KY hKY=>?_
 simp only[go_sem,Us,zi,hdx]
 apply hKY
 refine Zm ?_
 refine zy ?_
 repeat (first|refine hn6 _ ?_|refine he6 _ _ ?_|refine he5 _ _ ?_|refine hn4 _ ?_|refine he4 _ ?_|refine hf4 _ _ (by decide) ?_|refine hn3 _ ?_|refine he3 _ _ ?_|refine hn2 _ ?_|refine he2 _ _ ?_)
 obtain rfl:k=b.length:=by omega
 have hall:=ziZ (n:=(N:Int)) hz
 refine zf fun X9 hn9 he9 hr9=>?_
 refine za fun KY hKY=>?_
 simp only[go_sem,zac]
 apply hKY
 refine zk fun X10 hn10 he10 hf10 hr10=>?_
 try simp only[go_sem]
 refine zL (α:=Nat) [27,37] (fun k=>[(7,.sc (.int .i64 (k:Int)))]) (fun k=>[]) (fun k q=>k≤b.length∧q=b.length - k∧(b.take k).Nodup) (0) (b.length) rfl (by first|(simp only[go_sem,zd,ze];done)|with_reducible rfl|rfl) (⟨by omega,rfl,List.nodup_nil⟩) ?_
 rintro k q ⟨hk',rfl,hnd⟩ X11 hn11 he11 hr11
 simp only[go_sem,zd,ze]
 refine zf fun X12 hn12 he12 hr12=>?_
 rcases Nat.lt_or_ge k b.length with hk2|hk2
 · have hdy:decide ((k:Int)<(b.length:Int))=true:=decide_eq_true (by omega)
   refine za fun KY hKY=>?_
   simp only[go_sem,Uq,zi,hdy]
   apply hKY
   refine ZA ?_
   refine zg ?_
   repeat (first|refine hn12 _ ?_|refine he12 _ _ ?_|refine he11 _ _ ?_|refine hn10 _ ?_|refine he10 _ ?_|refine hf10 _ _ (by decide) ?_|refine hn9 _ ?_|refine he9 _ _ ?_|refine hn6 _ ?_|refine he6 _ _ ?_)
   refine zf fun X13 hn13 he13 hr13=>?_
   refine zk fun X14 hn14 he14 hf14 hr14=>?_
   have hcut:Zt (zl b) 1 0 k=zl (b.take k):=by simp[Zt,zl]
   have hlt:(b.take k).length≤1000000000:=by rw[List.length_take];omega
   by_cases hm:b.getD k 0∈b.take k
   · have hd:=decide_eq_true hm
     have he:xl N (zB es) b=6:=by simp only[xl,hr,hall,decide_eq_false (zgA hk2 hm),cond_true,cond_false]
     refine zv fun KY hKY=>?_
     simp only[go_sem,W8,zh hk2,hk2,zi,hk',hcut]
     refine zt rfl (by simp only[go_sem]<;>rfl) ((zdP (b.take k) (b.getD k 0) hlt).mono ?_)
     rintro rr hh ⟨rfl,rfl⟩
     refine⟨rfl,rfl,rfl,?_⟩
     simp only[go_sem,hd]
     apply hKY
     refine ZA ?_
     refine za fun KY hKY=>?_
     simp only[go_sem,ko]
     apply hKY
     refine zj ?_
     repeat (first|refine hr14 _ ?_|refine hr13 _ ?_|refine hr12 _ ?_|refine hr11 _ ?_|refine hr10 _ ?_|refine hr9 _ ?_|refine hr6 _ ?_|refine hr5 _ ?_|refine hr4 _ ?_|refine hr3 _ ?_|refine hr2 _ ?_)
     simp only[go_sem]
     exact⟨0,6,.inl ⟨by rw[he];decide,rfl,he.symm⟩,rfl⟩
   · have hd:=decide_eq_false hm
     refine zv fun KY hKY=>?_
     simp only[go_sem,W8,zh hk2,hk2,zi,hk',hcut]
     refine zt rfl (by simp only[go_sem]<;>rfl) ((zdP (b.take k) (b.getD k 0) hlt).mono ?_)
     rintro rr hh ⟨rfl,rfl⟩
     refine⟨rfl,rfl,rfl,?_⟩
     simp only[go_sem,hd]
     apply hKY
     refine Zm ?_
     refine zg ?_
     repeat (first|refine hn14 _ ?_|refine he14 _ ?_|refine hf14 _ _ (by decide) ?_|refine hn13 _ ?_|refine he13 _ _ ?_|refine hn12 _ ?_|refine he12 _ _ ?_|refine he11 _ _ ?_|refine hn10 _ ?_|refine he10 _ ?_|refine hf10 _ _ (by decide) ?_|refine hn9 _ ?_|refine he9 _ _ ?_|refine hn6 _ ?_|refine he6 _ _ ?_)
     refine zm fun KY hKY=>?_
     simp only[go_sem,kn,zJ (show k<4611686018427387904 by omega)]
     apply hKY
     repeat (first|refine hn14 _ ?_|refine he14 _ ?_|refine hf14 _ _ (by decide) ?_|refine hn13 _ ?_|refine he13 _ _ ?_|refine hn12 _ ?_|refine he12 _ _ ?_)
     refine hn11 _ (k+1) (b.length - (k+1)) (by omega) (by first|(simp only[go_sem,zd,ze];done)|with_reducible rfl|rfl) ?_
     exact⟨hk2,rfl,zeU hk2 hnd hm⟩
 have hdz:decide ((k:Int)<(b.length:Int))=false:=decide_eq_false (by omega)
 refine za fun KY hKY=>?_
 simp only[go_sem,Uq,zi,hdz]
 apply hKY
 refine Zm ?_
 refine zy ?_
 repeat (first|refine hn12 _ ?_|refine he12 _ _ ?_|refine he11 _ _ ?_|refine hn10 _ ?_|refine he10 _ ?_|refine hf10 _ _ (by decide) ?_|refine hn9 _ ?_|refine he9 _ _ ?_|refine hn6 _ ?_|refine he6 _ _ ?_|refine he5 _ _ ?_|refine hn4 _ ?_|refine he4 _ ?_|refine hf4 _ _ (by decide) ?_|refine hn3 _ ?_|refine he3 _ _ ?_|refine hn2 _ ?_|refine he2 _ _ ?_)
 obtain rfl:k=b.length:=by omega
 rw[List.take_length] at hnd
 have he:xl N (zB es) b=0:=by simp only[xl,hr,hall,decide_eq_true hnd,cond_true]
 refine za fun KY hKY=>?_
 simp only[go_sem,km]
 refine zt rfl (by simp only[go_sem]<;>rfl) ((zf7 N (zB es) b (by omega)).mono ?_)
 rintro rr hh ⟨⟨ps,hps,rfl⟩,rfl⟩
 refine⟨?_,?_,?_,?_⟩
 iterate 3 (first|rfl|simp only[go_sem])
 obtain⟨hpl,_⟩:=hps.len
 have h1:=Kx ps ps.length hpl
 rw[List.take_length] at h1
 have hw:IntKind.i64.wrap ((Zx ps:Int) - (b.length:Int))=(Zx ps:Int) - b.length:=by rw[IntWalk.i64_in _ (by omega)]
 simp only[go_sem,zi,hw]
 apply hKY
 refine zj ?_
 repeat (first|refine hr12 _ ?_|refine hr11 _ ?_|refine hr10 _ ?_|refine hr9 _ ?_|refine hr6 _ ?_|refine hr5 _ ?_|refine hr4 _ ?_|refine hr3 _ ?_|refine hr2 _ ?_)
 simp only[go_sem]
 exact⟨_,0,.inr ⟨he,ps,hps,rfl,rfl⟩,rfl⟩
theorem Vr {N:Nat}{es:Es}(g:GR N es){m:List Int}(h:m.length=N):wT N (zB es) m=(List.range N).all fun v=>XV es m v:=by
 unfold wT XV
 rw[Z6 g,decide_eq_true (show(m.length:Int)=(N:Int) by omega),h];rfl
theorem Y0 (n:Int)(es:List (Int×Int))(m:List Int):zo Try.prog [] zdH [.agg [.sc (.int .i64 n),.imm 2 (zZ es)],.imm 1 (zl m)] [] fun r h'=>r= .sc (.bool (wT n es m))∧h'=[]:=by
 cases h:(Zf n es&&decide ((m.length:Int)=n)) with
 | false=>
   have:wT n es m=false:=by unfold wT;rw[h];rfl
   rw[this];exact zcD n es m h
 | true=>
   rw[Bool.and_eq_true,decide_eq_true_iff] at h
   obtain⟨N,es',rfl,rfl,g⟩:=WD h.1
   rw[Vr g (show m.length=N by omega)]
   exact gA g m (by omega)
theorem ze0 {n:Int}{es:List (Int×Int)}{m:List Int}(h:wT n es m=true):Zf n es=true∧(m.length:Int)=n:=by
 unfold wT at h
 rw[Bool.and_eq_true,Bool.and_eq_true,decide_eq_true_iff] at h
 exact h.1
theorem BP.bound {n:Int}{es:List (Int×Int)}{b:List Int}{x:Int}(h:BP n es b x 0): - (b.length:Int)≤x∧x≤4096:=by
 rcases h with⟨h1,rfl,h2⟩|⟨_,ps,hp,rfl,_⟩
 · exact absurd h2.symm h1
 · have h1:=Kx ps ps.length hp.len.1
   rw[List.take_length] at h1
   omega
def Xr (n:Int)(es:List (Int×Int))(m:List Int)(x e:Int):Bool:=decide (e=0)&&(wT n es m&&decide (2*((Xy (vP m) m.length).length:Int)=n - x))
theorem ziA {n:Int}{es:List (Int×Int)}{m:List Int}{x e:Int}(h:e≠0):Xr n es m x e=false:=by unfold Xr;rw[decide_eq_false h];rfl
theorem v7 (n:Int)(es:List (Int×Int))(m b:List Int)(hm:m.length≤1000000)(hb:b.length≤1000000):zo Try.prog [] zdJ [.agg [.sc (.int .i64 n),.imm 2 (zZ es)],.imm 1 (zl m),.imm 1 (zl b)] [] fun r h'=>(∃x e,BP n es b x e∧r= .sc (.bool (Xr n es m x e)))∧h'=[]:=by
 refine zo.trim ?_
 have hsz:=x8 (vP m) m.length
 have hw2:IntKind.i64.wrap (2*((Xy (vP m) m.length).length:Int))=2*((Xy (vP m) m.length).length:Int):=by rw[IntWalk.i64_in _ (by omega)]
 refine zmO rfl ?_
 unfold zlk Xg
 refine za fun KY hKY=>?_
 simp only[go_sem,zbd]
 apply hKY
 refine za fun KY hKY=>?_
 simp only[go_sem,zbc]
 refine zt rfl (by simp only[go_sem]<;>rfl) ((zeH n es b hb).mono ?_)
 rintro rr hh ⟨⟨x,e,hxe,rfl⟩,rfl⟩
 refine⟨?_,?_,?_,?_⟩
 iterate 3 (first|rfl|simp only[go_sem])
 simp only[go_sem]
 apply hKY
 cases hmb:wT n es m with
 | false=>
   refine zv fun KY hKY=>?_
   simp only[go_sem,Wq]
   refine zt rfl (by simp only[go_sem]<;>rfl) ((Y0 n es m).mono ?_)
   rintro rr hh ⟨rfl,rfl⟩
   refine⟨rfl,rfl,rfl,?_⟩
   simp only[go_sem,hmb]
   apply hKY
   refine zj ?_
   simp only[go_sem]
   exact⟨x,e,hxe,by unfold Xr;rw[hmb];simp⟩
 | true=>
   by_cases he:e=0
   · subst he
     have hbx:=hxe.bound
     obtain⟨hr,hl⟩:=ze0 hmb
     have hw:IntKind.i64.wrap (n - x)=n - x:=by rw[IntWalk.i64_in _ (by omega)]
     refine zv fun KY hKY=>?_
     simp only[go_sem,Wq]
     refine zt rfl (by simp only[go_sem]<;>rfl) ((Y0 n es m).mono ?_)
     rintro rr hh ⟨rfl,rfl⟩
     refine⟨rfl,rfl,rfl,?_⟩
     simp only[go_sem,hmb,hw]
     refine zt rfl (by simp only[go_sem]<;>rfl) ((zeJ m (by omega)).mono ?_)
     rintro rr hh ⟨rfl,rfl⟩
     refine⟨rfl,rfl,rfl,?_⟩
     simp only[go_sem,hw2]
     apply hKY
     refine zj ?_
     simp only[go_sem]
     exact⟨x,0,hxe,by unfold Xr;rw[hmb];simp⟩
   · have hd:=decide_eq_false he
     refine zv fun KY hKY=>?_
     simp only[go_sem,Wq]
     refine zt rfl (by simp only[go_sem]<;>rfl) ((Y0 n es m).mono ?_)
     rintro rr hh ⟨rfl,rfl⟩
     refine⟨rfl,rfl,rfl,?_⟩
     simp only[go_sem,hmb,hd]
     apply hKY
     refine zj ?_
     simp only[go_sem]
     exact⟨x,e,hxe,by rw[ziA he]⟩
end Go.Proofs.Ytkjppnofgmpeeaa

namespace Go.Ga.Gl
open Go Go.Ga
theorem XM {α:Type}{f:α→Nat}:∀{l:List α},l.Nodup→(∀x∈l,∀y∈l,f x=f y→x=y)→(l.map f).Nodup
 |[],_,_=>by simp
 | a::l,hn,h=>by
   obtain⟨ha,hn⟩:=List.nodup_cons.1 hn
   rw[List.map_cons]
   refine List.nodup_cons.2 ⟨fun hm=>?_,XM hn fun x hx y hy=>h x (List.mem_cons_of_mem _ hx) y (List.mem_cons_of_mem _ hy)⟩
   obtain⟨b,hb,e⟩:=List.mem_map.1 hm
   have:=h b (List.mem_cons_of_mem _ hb) a (by simp) e
   exact ha (this▸hb)
def uh (p:List Nat):Bool:=decide (p.length%2=1)
theorem Qr {p:List Nat}:uh p=true↔p.length%2=1:=decide_eq_true_iff
theorem xF (ps:List (List Nat)):Zx ps=(ps.filter uh).length:=by
 induction ps with
 |nil=>rfl
 | cons p ps ih=>
   have e:Zx (p::ps)=p.length%2+Zx ps:=by simp[Zx]
   rw[e,ih]
   by_cases h:p.length%2=1
   · rw[List.filter_cons,if_pos (Qr.2 h),List.length_cons];omega
   · rw[List.filter_cons,if_neg (fun h2=>h (Qr.1 h2))];omega
theorem Vz {p:List Nat}(h:p.Pairwise (· < ·)):p.Nodup:=h.imp fun h=>Nat.ne_of_lt h
theorem ZF.same {n:Nat}{es:Es}{O:Nat→Prop}{ps:List (List Nat)}(P:ZF n es O ps){p q:List Nat}(hp:p∈ps)(hq:q∈ps){v:Nat}(h1:v∈p)(h2:v∈q):p=q:=by
 have hd:=P.disj
 clear P
 induction ps with
 |nil=>simp at hp
 | cons a ps ih=>
   obtain⟨hd1,hd2⟩:=List.pairwise_cons.1 hd
   rcases List.mem_cons.1 hp with e1|hp'
   · rcases List.mem_cons.1 hq with e2|hq'
     · rw[e1,e2]
     · rw[e1] at h1
       exact absurd h2 (hd1 q hq' v h1)
   · rcases List.mem_cons.1 hq with e2|hq'
     · rw[e2] at h2
       exact absurd h1 (hd1 p hp' v h2)
     · exact ih hp' hq' hd2
theorem ZF.nodup {n:Nat}{es:Es}{O:Nat→Prop}{ps:List (List Nat)}(P:ZF n es O ps):ps.Nodup:=by
 have hd:=P.disj
 have hne:=P.ne
 clear P
 induction ps with
 |nil=>simp
 | cons a ps ih=>
   obtain⟨hd1,hd2⟩:=List.pairwise_cons.1 hd
   refine List.nodup_cons.2 ⟨fun h=>?_,ih hd2 fun p hp=>hne p (List.mem_cons_of_mem _ hp)⟩
   match a,hne a (by simp),hd1 a h with
   |[],h1,_=>exact h1 rfl
   |v::a,_,h2=>exact h2 v (by simp) (by simp)
def Cn (E:Nat→Nat→Prop)(D:Nat→Bool)(bs:Nat→Nat):Prop:=∀f:Nat→Nat,(∀x y,E x y→D x=true→D y=true→f x=f y)→∀v,D v=true→f v=f (bs v)
theorem zfc {mt:Nat→Int}{E:Nat→Nat→Prop}{D:Nat→Bool}{f:Nat→Nat}(hf:∀x y,E x y→D x=true→D y=true→f x=f y)(hm:∀v w:Nat,mt v=(w:Int)→E v w){v to:Nat}{ps:YG}(h:qI mt E v ps to):(∀y∈zE ps to,D y=true)→f v=f to:=by
 induction h with
 |nil v=>intro _;rfl
 | @cons a c w to ps h1 h2 h3 ih=>
   intro hD
   have ha:=hD a (by simp[zE,ZG])
   have hc:=hD c (by simp[zE,ZG])
   have hw:D w=true:=by
    cases h3 with
    |nil=>exact hD _ (by simp[zE])
    |cons _ _ _=>exact hD _ (by simp[zE,ZG])
   have h5:=ih fun y hy=>hD y (by
    have:y∈jz ps++[to]:=hy
    simp only[zE,ZG,List.cons_append,List.mem_cons]
    exact .inr (.inr this))
   exact(hf a c (hm a c h1) ha hc).trans ((hf c w h2 hc hw).trans h5)
theorem qb.cn {n:Nat}{E:Nat→Nat→Prop}{mt:Nat→Int}{S:FS}(M:Mf n E mt)(I:qb n E mt S):Cn E S.out S.bs:=fun f hf v hv=>by
 obtain⟨ps,p1,p2,p3,p4⟩:=I.wy v hv
 exact zfc hf (fun v w h=>(M.ne v w h).2) p2 fun y hy=>(p4 y hy).1
theorem Qa {n:Nat}{es:Es}{mt:Nat→Int}{D A:Nat→Bool}{bs:Nat→Nat}(M:Mf n (Zu es) mt)(C:Yf n (Zu es) mt D A bs)(K:Cn (Zu es) D bs){O:Nat→Prop}{ps:List (List Nat)}(P:ZF n es O ps)(hD:∀v,D v=true→¬O v)(hA:∀v,A v=true→O v){p:List Nat}(hp:p∈ps){v:Nat}(hv:v∈p)(hvD:D v=true):(∀w,w∈p↔D w=true∧bs w=bs v)∧p.length%2=1:=by
 have h1:∀w∈p,D w=true∧bs w=bs v:=by
  intro w hw
  let f:Nat→Nat:=fun u=>if D u=true∧bs u=bs v then 1 else 0
  have key:∀a b,Zu es a b→¬O b→(D a=true∧bs a=bs v)→D b=true∧bs b=bs v:=fun a b hab hb h=>by
   rcases C.ed a b h.1 hab with h2|⟨h2,h3⟩
   · exact absurd (hA b h2) hb
   · exact⟨h2,h3.trans h.2⟩
  have hfl:zb5 es O f:=fun a b hab ha hb=>by
   by_cases h:D a=true∧bs a=bs v
   · have h2:=key a b hab hb h
     show(if D a=true∧bs a=bs v then 1 else 0)=if D b=true∧bs b=bs v then 1 else 0
     rw[if_pos h,if_pos h2]
   · have h2:¬(D b=true∧bs b=bs v):=fun e=>h (key b a (Wv hab) ha e)
     show(if D a=true∧bs a=bs v then 1 else 0)=if D b=true∧bs b=bs v then 1 else 0
     rw[if_neg h,if_neg h2]
  have:=P.conn p hp f hfl v hv w hw
  have e:(if D v=true∧bs v=bs v then 1 else 0)=if D w=true∧bs w=bs v then 1 else 0:=this
  rw[if_pos ⟨hvD,rfl⟩] at e
  by_cases h:D w=true∧bs w=bs v
  · exact h
  · rw[if_neg h] at e;omega
 have h2:∀w,D w=true→bs w=bs v→w∈p:=by
  intro w hw hb
  let f:Nat→Nat:=fun u=>if u∈p then 1 else 0
  have hf:∀x y,Zu es x y→D x=true→D y=true→f x=f y:=fun x y hxy hx hy=>by
   have step:∀a b,Zu es a b→D b=true→a∈p→b∈p:=fun a b hab hb ha=>P.edge p hp a ha b hab (C.dn b hb) (hD b hb)
   show(if x∈p then 1 else 0)=if y∈p then 1 else 0
   by_cases h:x∈p
   · rw[if_pos h,if_pos (step x y hxy hy h)]
   · rw[if_neg h,if_neg (fun e=>h (step y x (Wv hxy) hx e))]
  have e1:=K f hf v hvD
  have e2:=K f hf w hw
  rw[hb,←e1] at e2
  have e3:(if w∈p then 1 else 0)=if v∈p then 1 else 0:=e2
  rw[if_pos hv] at e3
  by_cases h:w∈p
  · exact h
  · rw[if_neg h] at e3;omega
 refine⟨fun w=>⟨h1 w,fun h=>h2 w h.1 h.2⟩,?_⟩
 have hbo:=C.odd M (C.db v hvD).1 (C.db v hvD).2
 have hnd:=Vz (P.inc p hp)
 have ha:=ZC (m:=(List.range n).filter fun x=>D x&&decide (bs x=bs v)) hnd fun w hw=>by
  obtain⟨k1,k2⟩:=h1 w hw
  exact zT.2 ⟨C.dn w k1,by simp[k1,k2]⟩
 have hb:=ZC (m:=p) (List.nodup_range.filter (l:=List.range n) fun x=>D x&&decide (bs x=bs v)) fun w hw=>by
  obtain⟨k1,k2⟩:=zT.1 hw
  simp only[Bool.and_eq_true,decide_eq_true_iff] at k2
  exact h2 w k2.1 k2.2
 have:p.length=num n fun x=>D x&&decide (bs x=bs v):=Nat.le_antisymm ha hb
 omega
theorem zcG {n:Nat}{es:Es}{mt:Nat→Int}{D A:Nat→Bool}{bs:Nat→Nat}(M:Mf n (Zu es) mt)(C:Yf n (Zu es) mt D A bs){O:Nat→Prop}{ps:List (List Nat)}(P:ZF n es O ps)(hO:∀v,O v→A v=true){p:List Nat}(hp:p∈ps)(hn:∀v∈p,D v=false):p.length%2=0:=
 QV (fun v=>(mt v).toNat) _ p (Nat.le_refl _) (Vz (P.inc p hp)) fun x hx=>by
  obtain⟨hxn,hxO⟩:=(P.mem x).1 ⟨p,hp,hx⟩
  rcases M.at_ x hxn with h|⟨w,h,hwn⟩
  · have:=(C.fr x hxn h).1
    rw[hn x hx] at this;cases this
  · have hs:=M.sy x w h
    have e1:(mt x).toNat=w:=by rw[h];rfl
    have e2:(mt w).toNat=x:=by rw[hs];rfl
    obtain⟨hwx,hE⟩:=M.ne x w h
    have hw:¬O w:=fun e=>by
     obtain⟨y,k1,k2,_⟩:=C.am w (hO w e)
     obtain rfl:y=x:=by omega
     rw[hn y hx] at k2;cases k2
    rw[e1,e2]
    exact⟨P.edge p hp x hx w hE hwn hw,hwx,rfl⟩
theorem Vl {n:Nat}{es:Es}{mt:Nat→Int}{D A:Nat→Bool}{bs:Nat→Nat}(M:Mf n (Zu es) mt)(C:Yf n (Zu es) mt D A bs)(K:Cn (Zu es) D bs){O:Nat→Prop}{ps:List (List Nat)}(P:ZF n es O ps)(hD:∀v,D v=true→¬O v)(hA:∀v,A v=true→O v)(hE:∀p∈ps,(∀v∈p,D v=false)→p.length%2=0):Zx ps=num n A+YE n mt:=by
 rw[C.strong M,xF]
 have hodd:∀p∈ps.filter uh,∃v,v∈p∧D v=true:=fun p hp=>by
  obtain⟨h1,h2⟩:=List.mem_filter.1 hp
  refine Classical.byContradiction fun hno=>?_
  have:=hE p h1 fun v hv=>by
   cases hd:D v with
   |false=>rfl
   |true=>exact absurd ⟨v,hv,hd⟩ hno
  have:=Qr.1 h2
  omega
 have hhead:∀p∈ps.filter uh,p.headD 0∈p∧D (p.headD 0)=true∧bs (p.headD 0)∈p:=fun p hp=>by
  obtain⟨v,hv,hvD⟩:=hodd p hp
  have hp:=(List.mem_filter.1 hp).1
  have hm:p.headD 0∈p:=by
   cases p with
   |nil=>simp at hv
   |cons a p=>simp
  obtain⟨k,_⟩:=Qa M C K P hD hA hp hv hvD
  have h1:=((k _).1 hm)
  refine⟨hm,h1.1,?_⟩
  rw[h1.2]
  exact(k _).2 ⟨(C.db v hvD).1,(C.db v hvD).2⟩
 refine Nat.le_antisymm ?_ ?_
 · have hinj:((ps.filter uh).map fun p=>bs (p.headD 0)).Nodup:=XM (P.nodup.filter _) fun p hp q hq e=>by
    obtain⟨_,_,k1⟩:=hhead p hp
    obtain⟨_,_,k2⟩:=hhead q hq
    rw[e] at k1
    exact P.same (List.mem_filter.1 hp).1 (List.mem_filter.1 hq).1 k1 k2
   have:=ZC (m:=(List.range n).filter (isB D bs)) hinj fun x hx=>by
    obtain⟨p,hp,rfl⟩:=List.mem_map.1 hx
    obtain⟨_,k2,_⟩:=hhead p hp
    obtain⟨j1,j2⟩:=C.db _ k2
    exact zT.2 ⟨C.dn _ j1,qY.2 ⟨j1,j2⟩⟩
   rw[List.length_map] at this
   exact this
 · have:=ZC (l:=(List.range n).filter (isB D bs)) (m:=(ps.filter uh).map fun p=>bs (p.headD 0)) (List.nodup_range.filter _) fun b hb=>by
    obtain⟨hbn,hb⟩:=zT.1 hb
    obtain⟨hb1,hb2⟩:=qY.1 hb
    obtain⟨p,hp,hbp⟩:=(P.mem b).2 ⟨hbn,hD b hb1⟩
    obtain⟨k,hk⟩:=Qa M C K P hD hA hp hbp hb1
    have hpo:p∈ps.filter uh:=List.mem_filter.2 ⟨hp,Qr.2 hk⟩
    obtain⟨j1,j2,_⟩:=hhead p hpo
    exact List.mem_map.2 ⟨p,hpo,by rw[((k _).1 j1).2,hb2]⟩
   rw[List.length_map] at this
   exact this
end Go.Ga.Gl
namespace Go.Proofs.Ytkjppnofgmpeeaa
open Go Go.Ga Go.Ga.Gl
def Ze (m:List Int):List Nat:=Xy (fun v=>decide (m.getD v 0= -1)) m.length
theorem Vc (m:List Int)(hm:m.length≤1000000):zo Try.prog [] zki [.imm 1 (zl m)] [] fun r h'=>r= .own (some 1) (zH (Ze m))∧h'=[]:=by
 refine zmN rfl ?_
 unfold zlj qe
 refine za fun KY hKY=>?_
 simp only[go_sem,zbb]
 apply hKY
 refine za fun KY hKY=>?_
 simp only[go_sem,zba]
 apply hKY
 refine jF [0,3] 1 (by simp only[go_sem]) ?_
 simp only[go_sem]
 rw[show zc.own (some 1) []= .own (some 1) (zH (Xy (fun v=>decide (m.getD v 0= -1)) 0)) from rfl]
 refine zf fun X1 hn1 he1 hr1=>?_
 refine za fun KY hKY=>?_
 simp only[go_sem,za9]
 apply hKY
 refine zk fun X2 hn2 he2 hf2 hr2=>?_
 try simp only[go_sem]
 refine zL (α:=Nat) [8,15] (fun k=>[(3,.own (some 1) (zH (Xy (fun v=>decide (m.getD v 0= -1)) k))),(4,.sc (.int .i64 (k:Int)))]) (fun k=>[]) (fun k q=>k≤m.length∧q=m.length - k) (0) (m.length) rfl (by first|(simp only[go_sem,zd,ze];done)|with_reducible rfl|rfl) (⟨Nat.zero_le _,rfl⟩) ?_
 rintro k q ⟨hk,rfl⟩ X3 hn3 he3 hr3
 simp only[go_sem,zd,ze]
 have hsl:=x8 (fun v=>decide (m.getD v 0= -1)) k
 have hst:=Xx (fun v=>decide (m.getD v 0= -1)) k
 refine zf fun X4 hn4 he4 hr4=>?_
 rcases Nat.lt_or_ge k m.length with hk2|hk2
 · have hdx:decide ((k:Int)<(m.length:Int))=true:=decide_eq_true (by omega)
   have hg:(zl m)[k]?=some (.sc (.int .i64 (m.getD k 0))):=zh hk2
   refine za fun KY hKY=>?_
   simp only[go_sem,UO,zi,hdx]
   apply hKY
   refine ZA ?_
   refine zg ?_
   repeat (first|refine hn4 _ ?_|refine he4 _ _ ?_|refine he3 _ _ ?_|refine hn2 _ ?_|refine he2 _ ?_|refine hf2 _ _ (by decide) ?_|refine hn1 _ ?_|refine he1 _ _ ?_)
   refine zf fun X5 hn5 he5 hr5=>?_
   refine zk fun X6 hn6 he6 hf6 hr6=>?_
   by_cases hx:m.getD k 0= -1
   · have hd:decide (m.getD k 0= -1)=true:=decide_eq_true hx
     rw[hd,if_pos rfl] at hst
     refine za fun KY hKY=>?_
     simp only[go_sem,UN,hg,zi,hk2,hd]
     apply hKY
     refine ZA ?_
     refine zm fun KY hKY=>?_
     simp only[go_sem,za8,jj,zG,←hst,(show((Xy (fun v=>decide (m.getD v 0= -1)) k).length+1)*8≤140737488355328 by omega)]
     apply hKY
     repeat (first|refine hn6 _ ?_|refine he6 _ ?_|refine hf6 _ _ (by decide) ?_|refine hn5 _ ?_|refine he5 _ _ ?_|refine hn4 _ ?_|refine he4 _ _ ?_|refine he3 _ _ ?_|refine hn2 _ ?_|refine he2 _ ?_|refine hf2 _ _ (by decide) ?_|refine hn1 _ ?_|refine he1 _ _ ?_)
     refine zm fun KY hKY=>?_
     simp only[go_sem,UM,zJ (show k<4611686018427387904 by omega)]
     apply hKY
     repeat (first|refine hn6 _ ?_|refine he6 _ ?_|refine hf6 _ _ (by decide) ?_|refine hn5 _ ?_|refine he5 _ _ ?_|refine hn4 _ ?_|refine he4 _ _ ?_)
     refine hn3 _ (k+1) (m.length - (k+1)) (by omega) (by first|(simp only[go_sem,zd,ze];done)|with_reducible rfl|rfl) ?_
     exact⟨hk2,rfl⟩
   · have hd:decide (m.getD k 0= -1)=false:=decide_eq_false hx
     rw[hd,if_neg (by simp),List.append_nil] at hst
     refine za fun KY hKY=>?_
     simp only[go_sem,UN,hg,zi,hk2,hd]
     apply hKY
     refine Zm ?_
     refine zg ?_
     repeat (first|refine hn6 _ ?_|refine he6 _ ?_|refine hf6 _ _ (by decide) ?_|refine hn5 _ ?_|refine he5 _ _ ?_|refine hn4 _ ?_|refine he4 _ _ ?_|refine he3 _ _ ?_|refine hn2 _ ?_|refine he2 _ ?_|refine hf2 _ _ (by decide) ?_|refine hn1 _ ?_|refine he1 _ _ ?_)
     refine zm fun KY hKY=>?_
     simp only[go_sem,UM,zJ (show k<4611686018427387904 by omega)]
     apply hKY
     repeat (first|refine hn6 _ ?_|refine he6 _ ?_|refine hf6 _ _ (by decide) ?_|refine hn5 _ ?_|refine he5 _ _ ?_|refine hn4 _ ?_|refine he4 _ _ ?_)
     refine hn3 _ (k+1) (m.length - (k+1)) (by omega) (by first|(simp only[go_sem,zd,ze,hst];done)|with_reducible rfl|rfl) ?_
     exact⟨hk2,rfl⟩
 have hdx:decide ((k:Int)<(m.length:Int))=false:=decide_eq_false (by omega)
 obtain rfl:k=m.length:=by omega
 refine za fun KY hKY=>?_
 simp only[go_sem,UO,zi,hdx]
 apply hKY
 refine Zm ?_
 refine zy ?_
 repeat (first|refine hn4 _ ?_|refine he4 _ _ ?_|refine he3 _ _ ?_|refine hn2 _ ?_|refine he2 _ ?_|refine hf2 _ _ (by decide) ?_|refine hn1 _ ?_|refine he1 _ _ ?_)
 refine za fun KY hKY=>?_
 simp only[go_sem,za7]
 apply hKY
 refine zj ?_
 repeat (first|refine hr4 _ ?_|refine hr3 _ ?_|refine hr2 _ ?_|refine hr1 _ ?_)
 simp only[go_sem]
 rfl
theorem VF {m:List Int}{v:Nat}:v∈Ze m↔v<m.length∧mf m v= -1:=by
 unfold Ze Xy
 rw[List.mem_filter,List.mem_range,decide_eq_true_iff]
 exact⟨fun h=>⟨h.1,(JU h.1).symm.trans h.2⟩,fun h=>⟨h.1,(JU h.1).trans h.2⟩⟩
theorem VG {N:Nat}{m:List Int}(hml:m.length=N):(Ze m).length=YE N (mf m):=by
 unfold Ze Xy YE num
 rw[hml]
 congr 1
 refine List.filter_congr fun v hv=>?_
 unfold J6
 rw[JU (by rw[hml];exact List.mem_range.1 hv)]
theorem zfS {N:Nat}{E:Nat→Nat→Prop}{m:List Int}(M:Mf N E (mf m))(hml:m.length=N):2*(Xy (vP m) m.length).length+YE N (mf m)=N:=by
 have h1:=zcH m
 have h2:((List.range m.length).filter (Vh m)).length=num N (fun v=> !J6 (mf m) v):=by
  unfold num
  rw[hml]
  congr 1
  refine List.filter_congr fun v hv=>?_
  have hv:=List.mem_range.1 hv
  rcases M.at_ v hv with h|⟨w,h,hw⟩
  · rw[ZR.2 h]
    cases hp:Vh m v with
    |false=>rfl
    | true=>
      obtain⟨w,k1,_⟩:=Ks.1 hp
      rw[JU (by omega),h] at k1;omega
  · have e:J6 (mf m) v=false:=decide_eq_false (by omega)
    rw[e]
    refine Ks.2 ⟨w,by rw[JU (by omega)];exact h,by omega,(M.ne v w h).1,by rw[JU (by omega)];exact M.sy v w h⟩
 have h3:=Vn N (J6 (mf m))
 have h4:(Xy (vP m) m.length).length=((List.range m.length).filter (vP m)).length:=rfl
 unfold YE
 omega
theorem WX {l:List Nat}{v:Nat}:(v:Int)∈Zv l↔v∈l:=by
 unfold Zv
 rw[List.mem_map]
 constructor
 · rintro⟨a,h,e⟩
   obtain rfl:a=v:=by omega
   exact h
 · intro h
   exact⟨v,h,rfl⟩
theorem KU.gr {N:Nat}{es:Es}(g:GR N es){b:List Int}{ps:List (List Nat)}(h:KU N (zB es) b ps):ZF N es (fun v=>(v:Int)∈b) ps:=by
 rcases h with⟨_,N',es',e1,e2,_,h⟩|⟨h,_⟩
 · obtain rfl:N=N':=by omega
   obtain rfl:=VO e2
   exact h
 · rw[Z6 g] at h;cases h
theorem WF (N:Nat)(E:Nat→Nat→Prop)(k:Nat):(Jd N E k).Nodup:=List.nodup_range.filter _
theorem zh2 {N:Nat}{es:Es}(g:GR N es)(k:Nat):xl N (zB es) (Zv (Jd N (Zu es) k))=0:=by
 unfold xl
 have h1:((Zv (Jd N (Zu es) k)).all fun v=>decide (0≤v)&&decide (v<(N:Int)))=true:=by
  rw[List.all_eq_true]
  intro v hv
  obtain⟨u,hu,rfl⟩:=List.mem_map.1 hv
  have:=(Yl.1 hu).1
  rw[decide_eq_true (show(0:Int)≤(u:Int) by omega),decide_eq_true (show(u:Int)<(N:Int) by omega)];rfl
 have h2:(Zv (Jd N (Zu es) k)).Nodup:=List.pairwise_map.2 ((WF N (Zu es) k).imp fun h e=>h (by omega))
 rw[Z6 g,h1,decide_eq_true h2];rfl
theorem ziP {N:Nat}{es:Es}{mt:Nat→Int}{D A:Nat→Bool}{bs:Nat→Nat}(F:Fc N (Zu es) mt D A bs)(K:Cn (Zu es) D bs){ps:List (List Nat)}(P:ZF N es (fun v=>(v:Int)∈Zv (Jd N (Zu es) 2)) ps):Zx ps=(Jd N (Zu es) 2).length+YE N mt:=by
 have hO:∀v:Nat,(v:Int)∈Zv (Jd N (Zu es) 2)↔A v=true:=fun v=>WX.trans (Ve F)
 have hlen:(Jd N (Zu es) 2).length=num N A:=Nat.le_antisymm (ZC (WF N _ 2) fun v hv=>zT.2 ⟨(Yl.1 hv).1,(Ve F).1 hv⟩) (zgy fun v _ hv=>(Ve F).2 hv)
 rw[hlen]
 refine Vl F.m F.c K P (fun v hv h=>?_) (fun v hv=>(hO v).2 hv) fun p hp hn=>zcG F.m F.c P (fun v hv=>(hO v).1 hv) hp hn
 have:=(F.c.an v ((hO v).1 h)).2
 rw[hv] at this;cases this
theorem gE {N:Nat}{es:Es}{mt:Nat→Int}{D A:Nat→Bool}{bs:Nat→Nat}(F:Fc N (Zu es) mt D A bs)(K:Cn (Zu es) D bs){ps:List (List Nat)}(P:ZF N es (fun v=>(v:Int)∈Zv (Jd N (Zu es) 2)++Zv (Jd N (Zu es) 0)) ps):(∀p∈ps,p.length%2=1)∧ps.length=(Jd N (Zu es) 2).length+YE N mt:=by
 have hO:∀v:Nat,v<N→((v:Int)∈Zv (Jd N (Zu es) 2)++Zv (Jd N (Zu es) 0)↔D v=false):=fun v hv=>by
  rw[List.mem_append,WX,WX,Ve F,Yl,F.lab v]
  constructor
  · rintro(h|⟨_,h⟩)
    · exact(F.c.an v h).2
    · cases hd:D v with
      |false=>rfl
      |true=>rw[hd,if_pos rfl] at h;omega
  · intro h
    rw[h]
    by_cases ha:A v=true
    · exact .inl ha
    · exact .inr ⟨hv,by rw[if_neg (by simp),if_neg ha]⟩
 have hD:∀v,D v=true→¬((v:Int)∈Zv (Jd N (Zu es) 2)++Zv (Jd N (Zu es) 0)):=fun v hv h=>by
  have:=(hO v (F.c.dn v hv)).1 h
  rw[hv] at this;cases this
 have hA:∀v,A v=true→(v:Int)∈Zv (Jd N (Zu es) 2)++Zv (Jd N (Zu es) 0):=fun v hv=>(hO v (F.c.an v hv).1).2 (F.c.an v hv).2
 have hpD:∀p∈ps,∀v∈p,D v=true:=fun p hp v hv=>by
  obtain⟨h1,h2⟩:=(P.mem v).1 ⟨p,hp,hv⟩
  cases hd:D v with
  |true=>rfl
  |false=>exact absurd ((hO v h1).2 hd) h2
 have hodd:∀p∈ps,p.length%2=1:=fun p hp=>by
  obtain⟨v,hv⟩:=List.exists_mem_of_ne_nil p (P.ne p hp)
  exact(Qa F.m F.c K P hD hA hp hv (hpD p hp v hv)).2
 have hlen:(Jd N (Zu es) 2).length=num N A:=Nat.le_antisymm (ZC (WF N _ 2) fun v hv=>zT.2 ⟨(Yl.1 hv).1,(Ve F).1 hv⟩) (zgy fun v _ hv=>(Ve F).2 hv)
 have hb:=Vl F.m F.c K P hD hA fun p hp hn=>by
  obtain⟨v,hv⟩:=List.exists_mem_of_ne_nil p (P.ne p hp)
  have:=hn v hv
  rw[hpD p hp v hv] at this;cases this
 refine⟨hodd,?_⟩
 rw[hlen,←hb,xF]
 congr 1
 exact(List.filter_eq_self.2 fun p hp=>Qr.2 (hodd p hp)).symm
theorem vY {N:Nat}{es:Es}(g:GR N es){m:List Int}{D A:Nat→Bool}{bs:Nat→Nat}(hml:m.length=N)(F:Fc N (Zu es) (mf m) D A bs)(K:Cn (Zu es) D bs){x e:Int}(h:BP N (zB es) (Zv (Jd N (Zu es) 2)) x e):Xr N (zB es) m x e=true:=by
 rcases h with⟨h,_⟩|⟨_,ps,hps,rfl,rfl⟩
 · exact absurd (zh2 g 2) h
 · have h1:=ziP F K (hps.gr g)
   have h2:=zfS F.m hml
   have hl:(Zv (Jd N (Zu es) 2)).length=(Jd N (Zu es) 2).length:=by simp[Zv]
   unfold Xr
   rw[Vr g hml,zgT g F.m hml,hl,decide_eq_true (by omega:2*((Xy (vP m) m.length).length:Int)=(N:Int) - ((Zx ps:Int) - ((Jd N (Zu es) 2).length:Int)))]
   rfl
theorem ziV (n step chords:Int):zo Try.prog [] zkk [.sc (.int .i64 n),.sc (.int .i64 step),.sc (.int .i64 chords)] [] fun r h'=>(∃N es,GR N es∧N≤302∧r= .agg [.sc (.int .i64 (N:Int)),.imm 2 (zZ (zB es))])∧h'=[]:=by
 obtain⟨a,ha,hna⟩:=zec n 300 (by omega) (by omega)
 have wa:IntKind.i64.wrap (3+(a:Int))=((3+a:Nat):Int):=by rw[IntWalk.i64_in _ (by omega)];omega
 have ua:IntKind.u64.wrap ((300:Nat):Int)=300:=by decide
 rw[ua] at hna
 obtain⟨N,hN⟩:∃N,N=3+a:=⟨_,rfl⟩
 rw[←hN] at wa
 have hN3:N≤302:=by omega
 obtain⟨b,hb,hnb⟩:=zec step N (by omega) (by omega)
 have wb:IntKind.i64.wrap (2+(b:Int))=((2+b:Nat):Int):=by rw[IntWalk.i64_in _ (by omega)];omega
 obtain⟨c,hc,hnc⟩:=zec chords 60 (by omega) (by omega)
 have uc:IntKind.u64.wrap ((60:Nat):Int)=60:=by decide
 rw[uc] at hnc
 have hNz:¬((N:Int)=0):=by omega
 have huN:¬IntKind.u64.wrap (N:Int)=0:=K7 (by omega) (by omega)
 refine zmQ rfl ?_
 unfold zlm ZM
 refine za fun KY hKY=>?_
 simp only[go_sem,zbp]
 apply hKY
 refine za fun KY hKY=>?_
 simp only[go_sem,zbo,hna,wa]
 apply hKY
 refine za fun KY hKY=>?_
 simp only[go_sem,zbn,hnb,wb,huN]
 apply hKY
 refine za fun KY hKY=>?_
 simp only[go_sem,zbm]
 apply hKY
 refine za fun KY hKY=>?_
 simp only[go_sem,zbl]
 apply hKY
 refine jF [0,7] 2 (by simp only[go_sem]) ?_
 simp only[go_sem]
 refine jF [0,8,1] 2 (by simp only[go_sem]) ?_
 simp only[go_sem]
 refine Zd [0,8,1] (by simp only[go_sem];rfl) ?_
 simp only[go_sem]
 refine zf fun X1 hn1 he1 hr1=>?_
 refine za fun KY hKY=>?_
 simp only[go_sem,zbk]
 apply hKY
 refine zk fun X2 hn2 he2 hf2 hr2=>?_
 try simp only[go_sem]
 refine zL (α:=Nat×List (Int×Int)) [30] (fun(k,l)=>[(7,.own (some 2) (zZ l)),(9,.sc (.int .i64 (k:Int)))]) (fun(k,l)=>[]) (fun(k,l) q=>k≤N∧l.length=k∧q=N - k) ((0,[])) (N) rfl (by first|(simp only[go_sem,zd,ze];done)|with_reducible rfl|rfl) (⟨Nat.zero_le _,rfl,rfl⟩) ?_
 rintro⟨k,l⟩ q ⟨hk,hl,rfl⟩ X3 hn3 he3 hr3
 simp only[go_sem,zd,ze]
 refine zf fun X4 hn4 he4 hr4=>?_
 rcases Nat.lt_or_ge k N with hk2|hk2
 · have hdx:decide ((k:Int)<(N:Int))=true:=decide_eq_true (by omega)
   refine za fun KY hKY=>?_
   simp only[go_sem,UR,hdx]
   apply hKY
   refine ZA ?_
   refine zg ?_
   repeat (first|refine hn4 _ ?_|refine he4 _ _ ?_|refine he3 _ _ ?_|refine hn2 _ ?_|refine he2 _ ?_|refine hf2 _ _ (by decide) ?_|refine hn1 _ ?_|refine he1 _ _ ?_)
   refine zf fun X5 hn5 he5 hr5=>?_
   refine zk fun X6 hn6 he6 hf6 hr6=>?_
   refine zm fun KY hKY=>?_
   simp only[go_sem,zbj,hNz,Wz,ZN,(show(l.length*2+2)*16≤140737488355328 by omega)]
   apply hKY
   repeat (first|refine hn6 _ ?_|refine he6 _ ?_|refine hf6 _ _ (by decide) ?_|refine hn5 _ ?_|refine he5 _ _ ?_|refine hn4 _ ?_|refine he4 _ _ ?_|refine he3 _ _ ?_|refine hn2 _ ?_|refine he2 _ ?_|refine hf2 _ _ (by decide) ?_|refine hn1 _ ?_|refine he1 _ _ ?_)
   refine zm fun KY hKY=>?_
   simp only[go_sem,zbi,zJ (show k<4611686018427387904 by omega)]
   apply hKY
   repeat (first|refine hn6 _ ?_|refine he6 _ ?_|refine hf6 _ _ (by decide) ?_|refine hn5 _ ?_|refine he5 _ _ ?_|refine hn4 _ ?_|refine he4 _ _ ?_)
   refine hn3 _ ((k+1,l++[((k:Int),(((k+1:Nat):Int)).tmod (N:Int))])) (N - (k+1)) (by omega) (by first|(simp only[go_sem,zd,ze,zJ (show k<4611686018427387904 by omega)];done)|with_reducible rfl|rfl) ?_
   exact⟨hk2,by simp[hl],rfl⟩
 have hdx:decide ((k:Int)<(N:Int))=false:=decide_eq_false (by omega)
 refine za fun KY hKY=>?_
 simp only[go_sem,UR,hdx]
 apply hKY
 refine Zm ?_
 refine zy ?_
 repeat (first|refine hn4 _ ?_|refine he4 _ _ ?_|refine he3 _ _ ?_|refine hn2 _ ?_|refine he2 _ ?_|refine hf2 _ _ (by decide) ?_|refine hn1 _ ?_|refine he1 _ _ ?_)
 have hl0:l.length≤302:=by omega
 clear hl hk hk2 hdx
 have e0:zc.imm 2 []= .imm 2 (zZ (zB [])):=rfl
 rw[e0]
 refine zf fun X7 hn7 he7 hr7=>?_
 refine za fun KY hKY=>?_
 simp only[go_sem,zbh]
 apply hKY
 refine zk fun X8 hn8 he8 hf8 hr8=>?_
 try simp only[go_sem]
 refine zL (α:=Nat×List (Int×Int)) [47] (fun(k,l)=>[(7,.own (some 2) (zZ l)),(10,.sc (.int .i64 (k:Int)))]) (fun(k,l)=>[]) (fun(k,l) q=>k≤c∧l.length≤302+k∧q=c - k) ((0,l)) (c) rfl (by first|(simp only[go_sem,zd,ze];done)|with_reducible rfl|rfl) (⟨Nat.zero_le _,hl0,rfl⟩) ?_
 rintro⟨k,l⟩ q ⟨hk,hl,rfl⟩ X9 hn9 he9 hr9
 simp only[go_sem,zd,ze]
 refine zf fun X10 hn10 he10 hr10=>?_
 rcases Nat.lt_or_ge k c with hk2|hk2
 · have hdx:decide ((k:Int)<(c:Int))=true:=decide_eq_true (by omega)
   refine za fun KY hKY=>?_
   simp only[go_sem,xf,hnc,hdx]
   apply hKY
   refine ZA ?_
   refine zg ?_
   repeat (first|refine hn10 _ ?_|refine he10 _ _ ?_|refine he9 _ _ ?_|refine hn8 _ ?_|refine he8 _ ?_|refine hf8 _ _ (by decide) ?_|refine hn7 _ ?_|refine he7 _ _ ?_|refine hn4 _ ?_|refine he4 _ _ ?_)
   refine zf fun X11 hn11 he11 hr11=>?_
   refine zk fun X12 hn12 he12 hf12 hr12=>?_
   refine Jw fun KY hKY=>?_
   simp only[go_sem,kI,hNz,Wz,ZN,(show(l.length*2+2)*16≤140737488355328 by omega)]
   apply hKY
   repeat (first|refine hn12 _ ?_|refine he12 _ ?_|refine hf12 _ _ (by decide) ?_|refine hn11 _ ?_|refine he11 _ _ ?_|refine hn10 _ ?_|refine he10 _ _ ?_|refine he9 _ _ ?_|refine hn8 _ ?_|refine he8 _ ?_|refine hf8 _ _ (by decide) ?_|refine hn7 _ ?_|refine he7 _ _ ?_|refine hn4 _ ?_|refine he4 _ _ ?_)
   refine zm fun KY hKY=>?_
   simp only[go_sem,kH,zJ (show k<4611686018427387904 by omega)]
   apply hKY
   repeat (first|refine hn12 _ ?_|refine he12 _ ?_|refine hf12 _ _ (by decide) ?_|refine hn11 _ ?_|refine he11 _ _ ?_|refine hn10 _ ?_|refine he10 _ _ ?_)
   refine hn9 _ ((k+1,l++[((IntKind.i64.wrap ((k:Int)*7)).tmod (N:Int),(IntKind.i64.wrap (IntKind.i64.wrap ((k:Int)*7)+((2+b:Nat):Int))).tmod (N:Int))])) (c - (k+1)) (by omega) (by first|(simp only[go_sem,zd,ze];done)|with_reducible rfl|rfl) ?_
   exact⟨hk2,by simp;omega,rfl⟩
 have hdx:decide ((k:Int)<(c:Int))=false:=decide_eq_false (by omega)
 refine za fun KY hKY=>?_
 simp only[go_sem,xf,hnc,hdx]
 apply hKY
 refine Zm ?_
 refine zy ?_
 repeat (first|refine hn10 _ ?_|refine he10 _ _ ?_|refine he9 _ _ ?_|refine hn8 _ ?_|refine he8 _ ?_|refine hf8 _ _ (by decide) ?_|refine hn7 _ ?_|refine he7 _ _ ?_|refine hn4 _ ?_|refine he4 _ _ ?_|refine he3 _ _ ?_|refine hn2 _ ?_|refine he2 _ ?_|refine hf2 _ _ (by decide) ?_|refine hn1 _ ?_|refine he1 _ _ ?_)
 have hl1:l.length≤400:=by omega
 clear hl hk hk2 hdx hl0
 refine zf fun X13 hn13 he13 hr13=>?_
 refine za fun KY hKY=>?_
 simp only[go_sem,kG]
 apply hKY
 refine zk fun X14 hn14 he14 hf14 hr14=>?_
 try simp only[go_sem]
 refine zL (α:=Nat×Es) [12,13,67,86] (fun(k,es)=>[(8,.own none [.sc (.int .i64 (N:Int)),.imm 2 (zZ (zB es))]),(11,.sc (.int .i64 (k:Int)))]) (fun(k,es)=>[]) (fun(k,es) q=>k≤l.length∧GR N es∧q=l.length - k) ((0,[])) (l.length) rfl (by first|(simp only[go_sem,zd,ze];done)|with_reducible rfl|rfl) (⟨Nat.zero_le _,⟨by omega,by simp,by simp,.nil⟩,rfl⟩) ?_
 rintro⟨k,es⟩ q ⟨hk,g,rfl⟩ X15 hn15 he15 hr15
 simp only[go_sem,zd,ze]
 refine zf fun X16 hn16 he16 hr16=>?_
 rcases Nat.lt_or_ge k l.length with hk2|hk2
 · have hdx:decide ((k:Int)<(l.length:Int))=true:=decide_eq_true (by omega)
   have hx:l[k]?=some (l[k]):=List.getElem?_eq_getElem hk2
   generalize l[k]=xy at hx
   obtain⟨x,y⟩:=xy
   have hg0:=K9 hx
   have hg1:=K8 hx
   have hA:=Kp g x y
   refine za fun KY hKY=>?_
   simp only[go_sem,xe,ZN,XQ,hdx]
   apply hKY
   refine ZA ?_
   refine zg ?_
   repeat (first|refine hn16 _ ?_|refine he16 _ _ ?_|refine he15 _ _ ?_|refine hn14 _ ?_|refine he14 _ ?_|refine hf14 _ _ (by decide) ?_|refine hn13 _ ?_|refine he13 _ _ ?_|refine hn10 _ ?_|refine he10 _ _ ?_)
   refine zf fun X17 hn17 he17 hr17=>?_
   refine zk fun X18 hn18 he18 hf18 hr18=>?_
   refine zv fun KY hKY=>?_
   simp only[go_sem,kF,hg0,hg1,ZN,XQ,hk2,(show k*2+1<l.length*2 by omega),(show k*2<l.length*2 by omega),List.length_drop,(show 1<l.length*2 - k*2 by omega),List.getElem?_drop]
   refine⟨?_,?_⟩
   · apply zp [] [] false none rfl
     iterate 8 (first|(simp only[go_sem,zr]<;>rfl)|rfl)
     refine(hA).mono ?_
     rintro _ _ ⟨⟨u,w,ha,rfl⟩|⟨e,he,ha,rfl⟩,rfl⟩
     · refine⟨Nat.le_of_ble_eq_true rfl,(fun hh=>by cases hh),?_⟩
       simp only[go_sem,zq,zb.after]
       apply hKY
       have gk:=g.put ha.2.1 ha.2.2.1 ha.2.2.2.1 ha.2.2.2.2
       refine za fun KY hKY=>?_
       simp only[go_sem,QC]
       apply hKY
       refine ZA ?_
       refine zm fun KY hKY=>?_
       simp only[go_sem,xd]
       apply hKY
       repeat (first|refine hn18 _ ?_|refine he18 _ ?_|refine hf18 _ _ (by decide) ?_|refine hn17 _ ?_|refine he17 _ _ ?_|refine hn16 _ ?_|refine he16 _ _ ?_|refine he15 _ _ ?_|refine hn14 _ ?_|refine he14 _ ?_|refine hf14 _ _ (by decide) ?_|refine hn13 _ ?_|refine he13 _ _ ?_|refine hn10 _ ?_|refine he10 _ _ ?_)
       refine zm fun KY hKY=>?_
       simp only[go_sem,QB,zJ (show k<4611686018427387904 by omega)]
       apply hKY
       repeat (first|refine hn18 _ ?_|refine he18 _ ?_|refine hf18 _ _ (by decide) ?_|refine hn17 _ ?_|refine he17 _ _ ?_|refine hn16 _ ?_|refine he16 _ _ ?_)
       refine hn15 _ ((k+1,Y5 es (u,w))) (l.length - (k+1)) (by omega) (by first|(simp only[go_sem,zd,ze];done)|with_reducible rfl|rfl) ?_
       exact⟨hk2,gk,rfl⟩
     · have hde:decide (e=0)=false:=decide_eq_false he
       refine⟨Nat.le_of_ble_eq_true rfl,(fun hh=>by cases hh),?_⟩
       simp only[go_sem,zq,zb.after]
       apply hKY
       refine za fun KY hKY=>?_
       simp only[go_sem,QC,hde]
       apply hKY
       refine Zm ?_
       refine zg ?_
       repeat (first|refine hn18 _ ?_|refine he18 _ ?_|refine hf18 _ _ (by decide) ?_|refine hn17 _ ?_|refine he17 _ _ ?_|refine hn16 _ ?_|refine he16 _ _ ?_|refine he15 _ _ ?_|refine hn14 _ ?_|refine he14 _ ?_|refine hf14 _ _ (by decide) ?_|refine hn13 _ ?_|refine he13 _ _ ?_|refine hn10 _ ?_|refine he10 _ _ ?_)
       refine zm fun KY hKY=>?_
       simp only[go_sem,QB,zJ (show k<4611686018427387904 by omega)]
       apply hKY
       repeat (first|refine hn18 _ ?_|refine he18 _ ?_|refine hf18 _ _ (by decide) ?_|refine hn17 _ ?_|refine he17 _ _ ?_|refine hn16 _ ?_|refine he16 _ _ ?_)
       refine hn15 _ ((k+1,es)) (l.length - (k+1)) (by omega) (by first|(simp only[go_sem,zd,ze];done)|with_reducible rfl|rfl) ?_
       exact⟨hk2,g,rfl⟩
   · apply zp [] [] false none rfl
     iterate 8 (first|(simp only[go_sem,zr]<;>rfl)|rfl)
     refine(hA).mono ?_
     rintro _ _ ⟨⟨u,w,ha,rfl⟩|⟨e,he,ha,rfl⟩,rfl⟩
     · refine⟨Nat.le_of_ble_eq_true rfl,(fun hh=>by cases hh),?_⟩
       simp only[go_sem,zq,zb.after]
       apply hKY
       have gk:=g.put ha.2.1 ha.2.2.1 ha.2.2.2.1 ha.2.2.2.2
       refine za fun KY hKY=>?_
       simp only[go_sem,QC]
       apply hKY
       refine ZA ?_
       refine zm fun KY hKY=>?_
       simp only[go_sem,xd]
       apply hKY
       repeat (first|refine hn18 _ ?_|refine he18 _ ?_|refine hf18 _ _ (by decide) ?_|refine hn17 _ ?_|refine he17 _ _ ?_|refine hn16 _ ?_|refine he16 _ _ ?_|refine he15 _ _ ?_|refine hn14 _ ?_|refine he14 _ ?_|refine hf14 _ _ (by decide) ?_|refine hn13 _ ?_|refine he13 _ _ ?_|refine hn10 _ ?_|refine he10 _ _ ?_)
       refine zm fun KY hKY=>?_
       simp only[go_sem,QB,zJ (show k<4611686018427387904 by omega)]
       apply hKY
       repeat (first|refine hn18 _ ?_|refine he18 _ ?_|refine hf18 _ _ (by decide) ?_|refine hn17 _ ?_|refine he17 _ _ ?_|refine hn16 _ ?_|refine he16 _ _ ?_)
       refine hn15 _ ((k+1,Y5 es (u,w))) (l.length - (k+1)) (by omega) (by first|(simp only[go_sem,zd,ze];done)|with_reducible rfl|rfl) ?_
       exact⟨hk2,gk,rfl⟩
     · have hde:decide (e=0)=false:=decide_eq_false he
       refine⟨Nat.le_of_ble_eq_true rfl,(fun hh=>by cases hh),?_⟩
       simp only[go_sem,zq,zb.after]
       apply hKY
       refine za fun KY hKY=>?_
       simp only[go_sem,QC,hde]
       apply hKY
       refine Zm ?_
       refine zg ?_
       repeat (first|refine hn18 _ ?_|refine he18 _ ?_|refine hf18 _ _ (by decide) ?_|refine hn17 _ ?_|refine he17 _ _ ?_|refine hn16 _ ?_|refine he16 _ _ ?_|refine he15 _ _ ?_|refine hn14 _ ?_|refine he14 _ ?_|refine hf14 _ _ (by decide) ?_|refine hn13 _ ?_|refine he13 _ _ ?_|refine hn10 _ ?_|refine he10 _ _ ?_)
       refine zm fun KY hKY=>?_
       simp only[go_sem,QB,zJ (show k<4611686018427387904 by omega)]
       apply hKY
       repeat (first|refine hn18 _ ?_|refine he18 _ ?_|refine hf18 _ _ (by decide) ?_|refine hn17 _ ?_|refine he17 _ _ ?_|refine hn16 _ ?_|refine he16 _ _ ?_)
       refine hn15 _ ((k+1,es)) (l.length - (k+1)) (by omega) (by first|(simp only[go_sem,zd,ze];done)|with_reducible rfl|rfl) ?_
       exact⟨hk2,g,rfl⟩
 have hdx:decide ((k:Int)<(l.length:Int))=false:=decide_eq_false (by omega)
 refine za fun KY hKY=>?_
 simp only[go_sem,xe,ZN,XQ,hdx]
 apply hKY
 refine Zm ?_
 refine zy ?_
 repeat (first|refine hn16 _ ?_|refine he16 _ _ ?_|refine he15 _ _ ?_|refine hn14 _ ?_|refine he14 _ ?_|refine hf14 _ _ (by decide) ?_|refine hn13 _ ?_|refine he13 _ _ ?_|refine hn10 _ ?_|refine he10 _ _ ?_|refine he9 _ _ ?_|refine hn8 _ ?_|refine he8 _ ?_|refine hf8 _ _ (by decide) ?_|refine hn7 _ ?_|refine he7 _ _ ?_|refine hn4 _ ?_|refine he4 _ _ ?_|refine he3 _ _ ?_|refine hn2 _ ?_|refine he2 _ ?_|refine hf2 _ _ (by decide) ?_|refine hn1 _ ?_|refine he1 _ _ ?_)
 refine za fun KY hKY=>?_
 simp only[go_sem,kE]
 apply hKY
 refine zj ?_
 repeat (first|refine hr16 _ ?_|refine hr15 _ ?_|refine hr14 _ ?_|refine hr13 _ ?_|refine hr10 _ ?_|refine hr9 _ ?_|refine hr8 _ ?_|refine hr7 _ ?_|refine hr4 _ ?_|refine hr3 _ ?_|refine hr2 _ ?_|refine hr1 _ ?_)
 simp only[go_sem]
 exact⟨N,es,g,hN3,rfl⟩
theorem zfb (n step chords:Int)(Jj:List Int)(he:Jj.length≤1000000000):zo Try.prog [] znl [.sc (.int .i64 n),.sc (.int .i64 step),.sc (.int .i64 chords),.imm 1 (zl Jj)] [] fun r h'=>r= .sc (.bool true):=by
 refine znr rfl ?_
 unfold znz jJ
 refine za fun KY hKY=>?_
 simp only[go_sem,zd6]
 apply hKY
 refine za fun KY hKY=>?_
 simp only[go_sem,zd5]
 apply zp [] [] false none rfl
 iterate 8 (first|(simp only[go_sem,zr]<;>rfl)|rfl)
 refine(ziV n step chords).mono ?_
 rintro _ _ ⟨⟨N,es,g,hN,rfl⟩,rfl⟩
 refine⟨Nat.le_of_ble_eq_true rfl,(fun hh=>by cases hh),?_⟩
 simp only[go_sem,zq,zb.after]
 apply hKY
 refine zf fun X1 hn1 he1 hr1=>?_
 by_cases h2:2<(Jj.length:Int)
 · have hd2:decide (2<(Jj.length:Int))=true:=decide_eq_true h2
   clear g hN
   refine za fun KY hKY=>?_
   simp only[go_sem,KQ,zi,hd2]
   apply hKY
   refine ZA ?_
   refine zm fun KY hKY=>?_
   simp only[go_sem,zd4]
   apply zp [] [] false none rfl
   iterate 8 (first|(simp only[go_sem,zr]<;>rfl)|rfl)
   refine(zfR n Jj 50 60 (by omega) (by omega) (by omega)).mono ?_
   rintro _ _ ⟨⟨N,es,g,hN,hm,rfl⟩,rfl⟩
   refine⟨Nat.le_of_ble_eq_true rfl,(fun hh=>by cases hh),?_⟩
   simp only[go_sem,zq,zb.after]
   apply hKY
   repeat (first|refine hn1 _ ?_|refine he1 _ _ ?_)
   refine za fun KY hKY=>?_
   simp only[go_sem,KP]
   apply zp [] [] false none rfl
   iterate 8 (first|(simp only[go_sem,zr]<;>rfl)|rfl)
   refine(KG g).mono ?_
   rintro _ _ ⟨rfl,_,rfl⟩
   rw[Yo (Jd N (Zu es) 2)]
   refine⟨Nat.le_of_ble_eq_true rfl,(fun hh=>by cases hh),?_⟩
   simp only[go_sem,zq,zb.after]
   apply hKY
   refine za fun KY hKY=>?_
   simp only[go_sem,KO]
   apply zp [] [] false none rfl
   iterate 8 (first|(simp only[go_sem,zr]<;>rfl)|rfl)
   refine(uq g).mono ?_
   rintro _ _ ⟨⟨ps,hps,rfl⟩,rfl⟩
   refine⟨Nat.le_of_ble_eq_true rfl,(fun hh=>by cases hh),?_⟩
   simp only[go_sem,zq,zb.after]
   apply hKY
   refine Zd [0,12] (by simp only[go_sem];rfl) ?_
   simp only[go_sem]
   refine za fun KY hKY=>?_
   simp only[go_sem,KN]
   apply zp [] [] false none rfl
   iterate 8 (first|(simp only[go_sem,zr]<;>rfl)|rfl)
   refine(we g).mono ?_
   rintro _ _ ⟨m,S,a,b,hml,M,I,L,hcase⟩
   have F:=Xd M I L
   have K:=I.cn M
   obtain⟨hodd,hpl⟩:=gE F K hps
   have hfl:=VG hml
   have hfD:∀v∈Ze m,zhc (Jd N (Zu es) 1) (v:Int)=true:=fun v hv=>by
    obtain⟨h1,h2⟩:=VF.1 hv
    exact g0.2 ((zjz F).2 (F.c.fr v (by omega) h2).1)
   have l1:=Ym N (Zu es) 1
   have l2:=Ym N (Zu es) 2
   have hN4:=g.hn
   have hpsl:=Y7 hps
   have hl2:(Zv (Jd N (Zu es) 2)).length=(Jd N (Zu es) 2).length:=by simp[Zv]
   have hSh:zo Try.prog [] zdJ [.agg [.sc (.int .i64 (N:Int)),.imm 2 (zZ (zB es))],.imm 1 (zl m),.imm 1 (zl (Zv (Jd N (Zu es) 2)))] [] fun r h'=>r= .sc (.bool true)∧h'=[]:=by
    refine(v7 N (zB es) m (Zv (Jd N (Zu es) 2)) (by omega) (by omega)).mono ?_
    rintro r h' ⟨⟨x,e,hBP,rfl⟩,rfl⟩
    exact⟨by rw[vY g hml F K hBP],rfl⟩
   have hFr:=Vc m (by omega)
   have hfn:(Ze m).length≤4096:=by rw[hfl];exact Nat.le_trans (Q5 M).2 hN4
   have hin:=fun v=>zg2 (Jd N (Zu es) 1) v (by omega)
   rcases hcase with⟨h0,rfl,rfl⟩|⟨h0,rfl,rfl⟩
   · have hm0:m=[]:=List.length_eq_zero_iff.1 (hml.trans h0)
     have hi0:zl m=[]:=by rw[hm0];rfl
     rw[hi0] at hSh hFr
     refine⟨Nat.le_of_ble_eq_true rfl,(fun hh=>by cases hh),?_⟩
     simp only[go_sem,zq,zb.after]
     apply hKY
     refine Zd [0,14] (by simp only[go_sem];rfl) ?_
     simp only[go_sem]
     refine zf fun X2 hn2 he2 hr2=>?_
     refine za fun KY hKY=>?_
     simp only[go_sem,Wa]
     refine zt rfl (by simp only[go_sem]<;>rfl) ((Q6).mono ?_)
     rintro rr hh ⟨rfl,rfl⟩
     refine⟨rfl,rfl,rfl,?_⟩
     simp only[go_sem]
     refine zt rfl (by simp only[go_sem]<;>rfl) ((hSh).mono ?_)
     rintro rr hh ⟨rfl,rfl⟩
     refine⟨rfl,rfl,rfl,?_⟩
     simp only[go_sem]
     apply hKY
     refine Zm ?_
     refine zg ?_
     repeat (first|refine hn2 _ ?_|refine he2 _ _ ?_|refine hn1 _ ?_|refine he1 _ _ ?_)
     refine za fun KY hKY=>?_
     simp only[go_sem,w9]
     apply zp [] [] false none rfl
     iterate 8 (first|(simp only[go_sem,zr]<;>rfl)|rfl)
     refine(hFr).mono ?_
     rintro _ _ ⟨rfl,rfl⟩
     refine⟨Nat.le_of_ble_eq_true rfl,(fun hh=>by cases hh),?_⟩
     simp only[go_sem,zq,zb.after]
     apply hKY
     refine Zd [0,17] (by simp only[go_sem];rfl) ?_
     simp only[go_sem]
     refine zf fun X3 hn3 he3 hr3=>?_
     refine za fun KY hKY=>?_
     simp only[go_sem,yW]
     apply hKY
     refine zk fun X4 hn4 he4 hf4 hr4=>?_
     try simp only[go_sem]
     refine zL (α:=Nat) [73,83] (fun k=>[(18,.sc (.int .i64 (k:Int)))]) (fun k=>[]) (fun k q=>k≤(Ze m).length∧q=(Ze m).length - k) (0) ((Ze m).length) rfl (by first|(simp only[go_sem,zd,ze];done)|with_reducible rfl|rfl) (⟨Nat.zero_le _,rfl⟩) ?_
     rintro k q ⟨hk,rfl⟩ X5 hn5 he5 hr5
     simp only[go_sem,zd,ze]
     refine zf fun X6 hn6 he6 hr6=>?_
     rcases Nat.lt_or_ge k (Ze m).length with hk2|hk2
     · have hdx:decide ((k:Int)<((Ze m).length:Int))=true:=decide_eq_true (by omega)
       have hx:(Ze m)[k]?=some ((Ze m)[k]):=List.getElem?_eq_getElem hk2
       have hxD:=hfD _ (List.getElem_mem hk2)
       generalize (Ze m)[k]=v at hx hxD
       have hxn:(zH (Ze m))[k]?=some (.sc (.int .i64 (v:Int))):=by simp[zH,hx]
       have hiv:=hin (v:Int)
       rw[hxD] at hiv
       refine za fun KY hKY=>?_
       simp only[go_sem,JI,zG,hdx]
       apply hKY
       refine ZA ?_
       refine zg ?_
       repeat (first|refine hn6 _ ?_|refine he6 _ _ ?_|refine he5 _ _ ?_|refine hn4 _ ?_|refine he4 _ ?_|refine hf4 _ _ (by decide) ?_|refine hn3 _ ?_|refine he3 _ _ ?_|refine hn2 _ ?_|refine he2 _ _ ?_|refine hn1 _ ?_|refine he1 _ _ ?_)
       refine zf fun X7 hn7 he7 hr7=>?_
       refine zk fun X8 hn8 he8 hf8 hr8=>?_
       refine zv fun KY hKY=>?_
       simp only[go_sem,yV,hxn,zG,hk2]
       refine zt rfl (by simp only[go_sem]<;>rfl) ((hiv).mono ?_)
       rintro rr hh ⟨rfl,rfl⟩
       refine⟨rfl,rfl,rfl,?_⟩
       simp only[go_sem]
       apply hKY
       refine Zm ?_
       refine zg ?_
       repeat (first|refine hn8 _ ?_|refine he8 _ ?_|refine hf8 _ _ (by decide) ?_|refine hn7 _ ?_|refine he7 _ _ ?_|refine hn6 _ ?_|refine he6 _ _ ?_|refine he5 _ _ ?_|refine hn4 _ ?_|refine he4 _ ?_|refine hf4 _ _ (by decide) ?_|refine hn3 _ ?_|refine he3 _ _ ?_|refine hn2 _ ?_|refine he2 _ _ ?_|refine hn1 _ ?_|refine he1 _ _ ?_)
       refine zm fun KY hKY=>?_
       simp only[go_sem,yU,zJ (show k<4611686018427387904 by omega)]
       apply hKY
       repeat (first|refine hn8 _ ?_|refine he8 _ ?_|refine hf8 _ _ (by decide) ?_|refine hn7 _ ?_|refine he7 _ _ ?_|refine hn6 _ ?_|refine he6 _ _ ?_)
       refine hn5 _ (k+1) ((Ze m).length - (k+1)) (by omega) (by first|(simp only[go_sem,zd,ze];done)|with_reducible rfl|rfl) ?_
       exact⟨hk2,rfl⟩
     have hdx:decide ((k:Int)<((Ze m).length:Int))=false:=decide_eq_false (by omega)
     refine za fun KY hKY=>?_
     simp only[go_sem,JI,zG,hdx]
     apply hKY
     refine Zm ?_
     refine zy ?_
     repeat (first|refine hn6 _ ?_|refine he6 _ _ ?_|refine he5 _ _ ?_|refine hn4 _ ?_|refine he4 _ ?_|refine hf4 _ _ (by decide) ?_|refine hn3 _ ?_|refine he3 _ _ ?_|refine hn2 _ ?_|refine he2 _ _ ?_|refine hn1 _ ?_|refine he1 _ _ ?_)
     refine zf fun X9 hn9 he9 hr9=>?_
     refine za fun KY hKY=>?_
     simp only[go_sem,yT]
     apply hKY
     refine zk fun X10 hn10 he10 hf10 hr10=>?_
     try simp only[go_sem]
     refine zL (α:=Nat) [87,96] (fun k=>[(19,.sc (.int .i64 (k:Int)))]) (fun k=>[]) (fun k q=>k≤ps.length∧q=ps.length - k) (0) (ps.length) rfl (by first|(simp only[go_sem,zd,ze];done)|with_reducible rfl|rfl) (⟨Nat.zero_le _,rfl⟩) ?_
     rintro k q ⟨hk,rfl⟩ X11 hn11 he11 hr11
     simp only[go_sem,zd,ze]
     refine zf fun X12 hn12 he12 hr12=>?_
     rcases Nat.lt_or_ge k ps.length with hk2|hk2
     · have hdx:decide ((k:Int)<(ps.length:Int))=true:=decide_eq_true (by omega)
       have hx:ps[k]?=some (ps[k]):=List.getElem?_eq_getElem hk2
       have hxo:=hodd _ (List.getElem_mem hk2)
       generalize ps[k]=p at hx hxo
       have ht:((p.length:Int)).tmod 2=1:=by
        have:((p.length:Int)).tmod 2=((p.length%2:Nat):Int):=rfl
        rw[this,hxo];rfl
       refine za fun KY hKY=>?_
       simp only[go_sem,JH,Zj,hdx]
       apply hKY
       refine ZA ?_
       refine zg ?_
       repeat (first|refine hn12 _ ?_|refine he12 _ _ ?_|refine he11 _ _ ?_|refine hn10 _ ?_|refine he10 _ ?_|refine hf10 _ _ (by decide) ?_|refine hn9 _ ?_|refine he9 _ _ ?_|refine hn6 _ ?_|refine he6 _ _ ?_)
       refine zf fun X13 hn13 he13 hr13=>?_
       refine zk fun X14 hn14 he14 hf14 hr14=>?_
       refine za fun KY hKY=>?_
       simp only[go_sem,yS,Jp hx,Zj,hk2,zG,ht]
       apply hKY
       refine Zm ?_
       refine zg ?_
       repeat (first|refine hn14 _ ?_|refine he14 _ ?_|refine hf14 _ _ (by decide) ?_|refine hn13 _ ?_|refine he13 _ _ ?_|refine hn12 _ ?_|refine he12 _ _ ?_|refine he11 _ _ ?_|refine hn10 _ ?_|refine he10 _ ?_|refine hf10 _ _ (by decide) ?_|refine hn9 _ ?_|refine he9 _ _ ?_|refine hn6 _ ?_|refine he6 _ _ ?_)
       refine zm fun KY hKY=>?_
       simp only[go_sem,yR,zJ (show k<4611686018427387904 by omega)]
       apply hKY
       repeat (first|refine hn14 _ ?_|refine he14 _ ?_|refine hf14 _ _ (by decide) ?_|refine hn13 _ ?_|refine he13 _ _ ?_|refine hn12 _ ?_|refine he12 _ _ ?_)
       refine hn11 _ (k+1) (ps.length - (k+1)) (by omega) (by first|(simp only[go_sem,zd,ze];done)|with_reducible rfl|rfl) ?_
       exact⟨hk2,rfl⟩
     have hdx:decide ((k:Int)<(ps.length:Int))=false:=decide_eq_false (by omega)
     refine za fun KY hKY=>?_
     simp only[go_sem,JH,Zj,hdx]
     apply hKY
     refine Zm ?_
     refine zy ?_
     repeat (first|refine hn12 _ ?_|refine he12 _ _ ?_|refine he11 _ _ ?_|refine hn10 _ ?_|refine he10 _ ?_|refine hf10 _ _ (by decide) ?_|refine hn9 _ ?_|refine he9 _ _ ?_|refine hn6 _ ?_|refine he6 _ _ ?_|refine he5 _ _ ?_|refine hn4 _ ?_|refine he4 _ ?_|refine hf4 _ _ (by decide) ?_|refine hn3 _ ?_|refine he3 _ _ ?_|refine hn2 _ ?_|refine he2 _ _ ?_|refine hn1 _ ?_|refine he1 _ _ ?_)
     have hw:IntKind.i64.wrap (((Zv (Jd N (Zu es) 2)).length:Int)+((Ze m).length:Int))=(ps.length:Int):=by
      rw[hl2,IntWalk.i64_in _ (by omega)];omega
     refine za fun KY hKY=>?_
     simp only[go_sem,yQ,Zj,zi,zG,hw]
     apply hKY
     refine zj ?_
     repeat (first|refine hr12 _ ?_|refine hr11 _ ?_|refine hr10 _ ?_|refine hr9 _ ?_|refine hr6 _ ?_|refine hr5 _ ?_|refine hr4 _ ?_|refine hr3 _ ?_|refine hr2 _ ?_|refine hr1 _ ?_)
     simp only[go_sem]
   · have htk:List.take N (zl m)=zl m:=List.take_of_length_le (by rw[zi];omega)
     refine⟨Nat.le_of_ble_eq_true rfl,(fun hh=>by cases hh),?_⟩
     simp only[go_sem,zq,zb.after]
     apply hKY
     refine zf fun X15 hn15 he15 hr15=>?_
     refine za fun KY hKY=>?_
     simp only[go_sem,Wa]
     refine zt rfl (by simp only[go_sem]<;>rfl) ((Q6).mono ?_)
     rintro rr hh ⟨rfl,rfl⟩
     refine⟨rfl,rfl,rfl,?_⟩
     simp only[go_sem]
     refine zt rfl (by simp only[go_sem,hml,Nat.le_refl,htk]<;>rfl) ((hSh).mono ?_)
     rintro rr hh ⟨rfl,rfl⟩
     refine⟨?_,?_,?_,?_⟩
     iterate 3 (first|rfl|simp only[go_sem])
     simp only[go_sem]
     apply hKY
     refine Zm ?_
     refine zg ?_
     repeat (first|refine hn15 _ ?_|refine he15 _ _ ?_|refine hn1 _ ?_|refine he1 _ _ ?_)
     refine za fun KY hKY=>?_
     simp only[go_sem,w9]
     refine zt rfl (by simp only[go_sem,hml,Nat.le_refl,htk]<;>rfl) ((hFr).mono ?_)
     rintro rr hh ⟨rfl,rfl⟩
     refine⟨?_,?_,?_,?_⟩
     iterate 3 (first|rfl|simp only[go_sem])
     simp only[go_sem]
     apply hKY
     refine Zd [0,17] (by simp only[go_sem];rfl) ?_
     simp only[go_sem]
     refine zf fun X16 hn16 he16 hr16=>?_
     refine za fun KY hKY=>?_
     simp only[go_sem,yW]
     apply hKY
     refine zk fun X17 hn17 he17 hf17 hr17=>?_
     try simp only[go_sem]
     refine zL (α:=Nat) [73,83] (fun k=>[(18,.sc (.int .i64 (k:Int)))]) (fun k=>[some (zl m)]) (fun k q=>k≤(Ze m).length∧q=(Ze m).length - k) (0) ((Ze m).length) rfl (by first|(simp only[go_sem,zd,ze];done)|with_reducible rfl|rfl) (⟨Nat.zero_le _,rfl⟩) ?_
     rintro k q ⟨hk,rfl⟩ X18 hn18 he18 hr18
     simp only[go_sem,zd,ze]
     refine zf fun X19 hn19 he19 hr19=>?_
     rcases Nat.lt_or_ge k (Ze m).length with hk2|hk2
     · have hdx:decide ((k:Int)<((Ze m).length:Int))=true:=decide_eq_true (by omega)
       have hx:(Ze m)[k]?=some ((Ze m)[k]):=List.getElem?_eq_getElem hk2
       have hxD:=hfD _ (List.getElem_mem hk2)
       generalize (Ze m)[k]=v at hx hxD
       have hxn:(zH (Ze m))[k]?=some (.sc (.int .i64 (v:Int))):=by simp[zH,hx]
       have hiv:=hin (v:Int)
       rw[hxD] at hiv
       refine za fun KY hKY=>?_
       simp only[go_sem,JI,zG,hdx]
       apply hKY
       refine ZA ?_
       refine zg ?_
       repeat (first|refine hn19 _ ?_|refine he19 _ _ ?_|refine he18 _ _ ?_|refine hn17 _ ?_|refine he17 _ ?_|refine hf17 _ _ (by decide) ?_|refine hn16 _ ?_|refine he16 _ _ ?_|refine hn15 _ ?_|refine he15 _ _ ?_|refine hn1 _ ?_|refine he1 _ _ ?_)
       refine zf fun X20 hn20 he20 hr20=>?_
       refine zk fun X21 hn21 he21 hf21 hr21=>?_
       refine zv fun KY hKY=>?_
       simp only[go_sem,yV,hxn,zG,hk2]
       refine zt rfl (by simp only[go_sem]<;>rfl) ((hiv).mono ?_)
       rintro rr hh ⟨rfl,rfl⟩
       refine⟨rfl,rfl,rfl,?_⟩
       simp only[go_sem]
       apply hKY
       refine Zm ?_
       refine zg ?_
       repeat (first|refine hn21 _ ?_|refine he21 _ ?_|refine hf21 _ _ (by decide) ?_|refine hn20 _ ?_|refine he20 _ _ ?_|refine hn19 _ ?_|refine he19 _ _ ?_|refine he18 _ _ ?_|refine hn17 _ ?_|refine he17 _ ?_|refine hf17 _ _ (by decide) ?_|refine hn16 _ ?_|refine he16 _ _ ?_|refine hn15 _ ?_|refine he15 _ _ ?_|refine hn1 _ ?_|refine he1 _ _ ?_)
       refine zm fun KY hKY=>?_
       simp only[go_sem,yU,zJ (show k<4611686018427387904 by omega)]
       apply hKY
       repeat (first|refine hn21 _ ?_|refine he21 _ ?_|refine hf21 _ _ (by decide) ?_|refine hn20 _ ?_|refine he20 _ _ ?_|refine hn19 _ ?_|refine he19 _ _ ?_)
       refine hn18 _ (k+1) ((Ze m).length - (k+1)) (by omega) (by first|(simp only[go_sem,zd,ze];done)|with_reducible rfl|rfl) ?_
       exact⟨hk2,rfl⟩
     have hdx:decide ((k:Int)<((Ze m).length:Int))=false:=decide_eq_false (by omega)
     refine za fun KY hKY=>?_
     simp only[go_sem,JI,zG,hdx]
     apply hKY
     refine Zm ?_
     refine zy ?_
     repeat (first|refine hn19 _ ?_|refine he19 _ _ ?_|refine he18 _ _ ?_|refine hn17 _ ?_|refine he17 _ ?_|refine hf17 _ _ (by decide) ?_|refine hn16 _ ?_|refine he16 _ _ ?_|refine hn15 _ ?_|refine he15 _ _ ?_|refine hn1 _ ?_|refine he1 _ _ ?_)
     refine zf fun X22 hn22 he22 hr22=>?_
     refine za fun KY hKY=>?_
     simp only[go_sem,yT]
     apply hKY
     refine zk fun X23 hn23 he23 hf23 hr23=>?_
     try simp only[go_sem]
     refine zL (α:=Nat) [87,96] (fun k=>[(19,.sc (.int .i64 (k:Int)))]) (fun k=>[some (zl m)]) (fun k q=>k≤ps.length∧q=ps.length - k) (0) (ps.length) rfl (by first|(simp only[go_sem,zd,ze];done)|with_reducible rfl|rfl) (⟨Nat.zero_le _,rfl⟩) ?_
     rintro k q ⟨hk,rfl⟩ X24 hn24 he24 hr24
     simp only[go_sem,zd,ze]
     refine zf fun X25 hn25 he25 hr25=>?_
     rcases Nat.lt_or_ge k ps.length with hk2|hk2
     · have hdx:decide ((k:Int)<(ps.length:Int))=true:=decide_eq_true (by omega)
       have hx:ps[k]?=some (ps[k]):=List.getElem?_eq_getElem hk2
       have hxo:=hodd _ (List.getElem_mem hk2)
       generalize ps[k]=p at hx hxo
       have ht:((p.length:Int)).tmod 2=1:=by
        have:((p.length:Int)).tmod 2=((p.length%2:Nat):Int):=rfl
        rw[this,hxo];rfl
       refine za fun KY hKY=>?_
       simp only[go_sem,JH,Zj,hdx]
       apply hKY
       refine ZA ?_
       refine zg ?_
       repeat (first|refine hn25 _ ?_|refine he25 _ _ ?_|refine he24 _ _ ?_|refine hn23 _ ?_|refine he23 _ ?_|refine hf23 _ _ (by decide) ?_|refine hn22 _ ?_|refine he22 _ _ ?_|refine hn19 _ ?_|refine he19 _ _ ?_)
       refine zf fun X26 hn26 he26 hr26=>?_
       refine zk fun X27 hn27 he27 hf27 hr27=>?_
       refine za fun KY hKY=>?_
       simp only[go_sem,yS,Jp hx,Zj,hk2,zG,ht]
       apply hKY
       refine Zm ?_
       refine zg ?_
       repeat (first|refine hn27 _ ?_|refine he27 _ ?_|refine hf27 _ _ (by decide) ?_|refine hn26 _ ?_|refine he26 _ _ ?_|refine hn25 _ ?_|refine he25 _ _ ?_|refine he24 _ _ ?_|refine hn23 _ ?_|refine he23 _ ?_|refine hf23 _ _ (by decide) ?_|refine hn22 _ ?_|refine he22 _ _ ?_|refine hn19 _ ?_|refine he19 _ _ ?_)
       refine zm fun KY hKY=>?_
       simp only[go_sem,yR,zJ (show k<4611686018427387904 by omega)]
       apply hKY
       repeat (first|refine hn27 _ ?_|refine he27 _ ?_|refine hf27 _ _ (by decide) ?_|refine hn26 _ ?_|refine he26 _ _ ?_|refine hn25 _ ?_|refine he25 _ _ ?_)
       refine hn24 _ (k+1) (ps.length - (k+1)) (by omega) (by first|(simp only[go_sem,zd,ze];done)|with_reducible rfl|rfl) ?_
       exact⟨hk2,rfl⟩
     have hdx:decide ((k:Int)<(ps.length:Int))=false:=decide_eq_false (by omega)
     refine za fun KY hKY=>?_
     simp only[go_sem,JH,Zj,hdx]
     apply hKY
     refine Zm ?_
     refine zy ?_
     repeat (first|refine hn25 _ ?_|refine he25 _ _ ?_|refine he24 _ _ ?_|refine hn23 _ ?_|refine he23 _ ?_|refine hf23 _ _ (by decide) ?_|refine hn22 _ ?_|refine he22 _ _ ?_|refine hn19 _ ?_|refine he19 _ _ ?_|refine he18 _ _ ?_|refine hn17 _ ?_|refine he17 _ ?_|refine hf17 _ _ (by decide) ?_|refine hn16 _ ?_|refine he16 _ _ ?_|refine hn15 _ ?_|refine he15 _ _ ?_|refine hn1 _ ?_|refine he1 _ _ ?_)
     have hw:IntKind.i64.wrap (((Zv (Jd N (Zu es) 2)).length:Int)+((Ze m).length:Int))=(ps.length:Int):=by
      rw[hl2,IntWalk.i64_in _ (by omega)];omega
     refine za fun KY hKY=>?_
     simp only[go_sem,yQ,Zj,zi,zG,hw]
     apply hKY
     refine zj ?_
     repeat (first|refine hr25 _ ?_|refine hr24 _ ?_|refine hr23 _ ?_|refine hr22 _ ?_|refine hr19 _ ?_|refine hr18 _ ?_|refine hr17 _ ?_|refine hr16 _ ?_|refine hr15 _ ?_|refine hr1 _ ?_)
     simp only[go_sem]
 · have hd2:decide (2<(Jj.length:Int))=false:=decide_eq_false h2
   refine za fun KY hKY=>?_
   simp only[go_sem,KQ,zi,hd2]
   apply hKY
   refine Zm ?_
   refine zg ?_
   repeat (first|refine hn1 _ ?_|refine he1 _ _ ?_)
   refine za fun KY hKY=>?_
   simp only[go_sem,KP]
   apply zp [] [] false none rfl
   iterate 8 (first|(simp only[go_sem,zr]<;>rfl)|rfl)
   refine(KG g).mono ?_
   rintro _ _ ⟨rfl,_,rfl⟩
   rw[Yo (Jd N (Zu es) 2)]
   refine⟨Nat.le_of_ble_eq_true rfl,(fun hh=>by cases hh),?_⟩
   simp only[go_sem,zq,zb.after]
   apply hKY
   refine za fun KY hKY=>?_
   simp only[go_sem,KO]
   apply zp [] [] false none rfl
   iterate 8 (first|(simp only[go_sem,zr]<;>rfl)|rfl)
   refine(uq g).mono ?_
   rintro _ _ ⟨⟨ps,hps,rfl⟩,rfl⟩
   refine⟨Nat.le_of_ble_eq_true rfl,(fun hh=>by cases hh),?_⟩
   simp only[go_sem,zq,zb.after]
   apply hKY
   refine Zd [0,12] (by simp only[go_sem];rfl) ?_
   simp only[go_sem]
   refine za fun KY hKY=>?_
   simp only[go_sem,KN]
   apply zp [] [] false none rfl
   iterate 8 (first|(simp only[go_sem,zr]<;>rfl)|rfl)
   refine(we g).mono ?_
   rintro _ _ ⟨m,S,a,b,hml,M,I,L,hcase⟩
   have F:=Xd M I L
   have K:=I.cn M
   obtain⟨hodd,hpl⟩:=gE F K hps
   have hfl:=VG hml
   have hfD:∀v∈Ze m,zhc (Jd N (Zu es) 1) (v:Int)=true:=fun v hv=>by
    obtain⟨h1,h2⟩:=VF.1 hv
    exact g0.2 ((zjz F).2 (F.c.fr v (by omega) h2).1)
   have l1:=Ym N (Zu es) 1
   have l2:=Ym N (Zu es) 2
   have hN4:=g.hn
   have hpsl:=Y7 hps
   have hl2:(Zv (Jd N (Zu es) 2)).length=(Jd N (Zu es) 2).length:=by simp[Zv]
   have hSh:zo Try.prog [] zdJ [.agg [.sc (.int .i64 (N:Int)),.imm 2 (zZ (zB es))],.imm 1 (zl m),.imm 1 (zl (Zv (Jd N (Zu es) 2)))] [] fun r h'=>r= .sc (.bool true)∧h'=[]:=by
    refine(v7 N (zB es) m (Zv (Jd N (Zu es) 2)) (by omega) (by omega)).mono ?_
    rintro r h' ⟨⟨x,e,hBP,rfl⟩,rfl⟩
    exact⟨by rw[vY g hml F K hBP],rfl⟩
   have hFr:=Vc m (by omega)
   have hfn:(Ze m).length≤4096:=by rw[hfl];exact Nat.le_trans (Q5 M).2 hN4
   have hin:=fun v=>zg2 (Jd N (Zu es) 1) v (by omega)
   rcases hcase with⟨h0,rfl,rfl⟩|⟨h0,rfl,rfl⟩
   · have hm0:m=[]:=List.length_eq_zero_iff.1 (hml.trans h0)
     have hi0:zl m=[]:=by rw[hm0];rfl
     rw[hi0] at hSh hFr
     refine⟨Nat.le_of_ble_eq_true rfl,(fun hh=>by cases hh),?_⟩
     simp only[go_sem,zq,zb.after]
     apply hKY
     refine Zd [0,14] (by simp only[go_sem];rfl) ?_
     simp only[go_sem]
     refine zf fun X28 hn28 he28 hr28=>?_
     refine za fun KY hKY=>?_
     simp only[go_sem,Wa]
     refine zt rfl (by simp only[go_sem]<;>rfl) ((Q6).mono ?_)
     rintro rr hh ⟨rfl,rfl⟩
     refine⟨rfl,rfl,rfl,?_⟩
     simp only[go_sem]
     refine zt rfl (by simp only[go_sem]<;>rfl) ((hSh).mono ?_)
     rintro rr hh ⟨rfl,rfl⟩
     refine⟨rfl,rfl,rfl,?_⟩
     simp only[go_sem]
     apply hKY
     refine Zm ?_
     refine zg ?_
     repeat (first|refine hn28 _ ?_|refine he28 _ _ ?_|refine hn1 _ ?_|refine he1 _ _ ?_)
     refine za fun KY hKY=>?_
     simp only[go_sem,w9]
     apply zp [] [] false none rfl
     iterate 8 (first|(simp only[go_sem,zr]<;>rfl)|rfl)
     refine(hFr).mono ?_
     rintro _ _ ⟨rfl,rfl⟩
     refine⟨Nat.le_of_ble_eq_true rfl,(fun hh=>by cases hh),?_⟩
     simp only[go_sem,zq,zb.after]
     apply hKY
     refine Zd [0,17] (by simp only[go_sem];rfl) ?_
     simp only[go_sem]
     refine zf fun X29 hn29 he29 hr29=>?_
     refine za fun KY hKY=>?_
     simp only[go_sem,yW]
     apply hKY
     refine zk fun X30 hn30 he30 hf30 hr30=>?_
     try simp only[go_sem]
     refine zL (α:=Nat) [73,83] (fun k=>[(18,.sc (.int .i64 (k:Int)))]) (fun k=>[]) (fun k q=>k≤(Ze m).length∧q=(Ze m).length - k) (0) ((Ze m).length) rfl (by first|(simp only[go_sem,zd,ze];done)|with_reducible rfl|rfl) (⟨Nat.zero_le _,rfl⟩) ?_
     rintro k q ⟨hk,rfl⟩ X31 hn31 he31 hr31
     simp only[go_sem,zd,ze]
     refine zf fun X32 hn32 he32 hr32=>?_
     rcases Nat.lt_or_ge k (Ze m).length with hk2|hk2
     · have hdx:decide ((k:Int)<((Ze m).length:Int))=true:=decide_eq_true (by omega)
       have hx:(Ze m)[k]?=some ((Ze m)[k]):=List.getElem?_eq_getElem hk2
       have hxD:=hfD _ (List.getElem_mem hk2)
       generalize (Ze m)[k]=v at hx hxD
       have hxn:(zH (Ze m))[k]?=some (.sc (.int .i64 (v:Int))):=by simp[zH,hx]
       have hiv:=hin (v:Int)
       rw[hxD] at hiv
       refine za fun KY hKY=>?_
       simp only[go_sem,JI,zG,hdx]
       apply hKY
       refine ZA ?_
       refine zg ?_
       repeat (first|refine hn32 _ ?_|refine he32 _ _ ?_|refine he31 _ _ ?_|refine hn30 _ ?_|refine he30 _ ?_|refine hf30 _ _ (by decide) ?_|refine hn29 _ ?_|refine he29 _ _ ?_|refine hn28 _ ?_|refine he28 _ _ ?_|refine hn1 _ ?_|refine he1 _ _ ?_)
       refine zf fun X33 hn33 he33 hr33=>?_
       refine zk fun X34 hn34 he34 hf34 hr34=>?_
       refine zv fun KY hKY=>?_
       simp only[go_sem,yV,hxn,zG,hk2]
       refine zt rfl (by simp only[go_sem]<;>rfl) ((hiv).mono ?_)
       rintro rr hh ⟨rfl,rfl⟩
       refine⟨rfl,rfl,rfl,?_⟩
       simp only[go_sem]
       apply hKY
       refine Zm ?_
       refine zg ?_
       repeat (first|refine hn34 _ ?_|refine he34 _ ?_|refine hf34 _ _ (by decide) ?_|refine hn33 _ ?_|refine he33 _ _ ?_|refine hn32 _ ?_|refine he32 _ _ ?_|refine he31 _ _ ?_|refine hn30 _ ?_|refine he30 _ ?_|refine hf30 _ _ (by decide) ?_|refine hn29 _ ?_|refine he29 _ _ ?_|refine hn28 _ ?_|refine he28 _ _ ?_|refine hn1 _ ?_|refine he1 _ _ ?_)
       refine zm fun KY hKY=>?_
       simp only[go_sem,yU,zJ (show k<4611686018427387904 by omega)]
       apply hKY
       repeat (first|refine hn34 _ ?_|refine he34 _ ?_|refine hf34 _ _ (by decide) ?_|refine hn33 _ ?_|refine he33 _ _ ?_|refine hn32 _ ?_|refine he32 _ _ ?_)
       refine hn31 _ (k+1) ((Ze m).length - (k+1)) (by omega) (by first|(simp only[go_sem,zd,ze];done)|with_reducible rfl|rfl) ?_
       exact⟨hk2,rfl⟩
     have hdx:decide ((k:Int)<((Ze m).length:Int))=false:=decide_eq_false (by omega)
     refine za fun KY hKY=>?_
     simp only[go_sem,JI,zG,hdx]
     apply hKY
     refine Zm ?_
     refine zy ?_
     repeat (first|refine hn32 _ ?_|refine he32 _ _ ?_|refine he31 _ _ ?_|refine hn30 _ ?_|refine he30 _ ?_|refine hf30 _ _ (by decide) ?_|refine hn29 _ ?_|refine he29 _ _ ?_|refine hn28 _ ?_|refine he28 _ _ ?_|refine hn1 _ ?_|refine he1 _ _ ?_)
     refine zf fun X35 hn35 he35 hr35=>?_
     refine za fun KY hKY=>?_
     simp only[go_sem,yT]
     apply hKY
     refine zk fun X36 hn36 he36 hf36 hr36=>?_
     try simp only[go_sem]
     refine zL (α:=Nat) [87,96] (fun k=>[(19,.sc (.int .i64 (k:Int)))]) (fun k=>[]) (fun k q=>k≤ps.length∧q=ps.length - k) (0) (ps.length) rfl (by first|(simp only[go_sem,zd,ze];done)|with_reducible rfl|rfl) (⟨Nat.zero_le _,rfl⟩) ?_
     rintro k q ⟨hk,rfl⟩ X37 hn37 he37 hr37
     simp only[go_sem,zd,ze]
     refine zf fun X38 hn38 he38 hr38=>?_
     rcases Nat.lt_or_ge k ps.length with hk2|hk2
     · have hdx:decide ((k:Int)<(ps.length:Int))=true:=decide_eq_true (by omega)
       have hx:ps[k]?=some (ps[k]):=List.getElem?_eq_getElem hk2
       have hxo:=hodd _ (List.getElem_mem hk2)
       generalize ps[k]=p at hx hxo
       have ht:((p.length:Int)).tmod 2=1:=by
        have:((p.length:Int)).tmod 2=((p.length%2:Nat):Int):=rfl
        rw[this,hxo];rfl
       refine za fun KY hKY=>?_
       simp only[go_sem,JH,Zj,hdx]
       apply hKY
       refine ZA ?_
       refine zg ?_
       repeat (first|refine hn38 _ ?_|refine he38 _ _ ?_|refine he37 _ _ ?_|refine hn36 _ ?_|refine he36 _ ?_|refine hf36 _ _ (by decide) ?_|refine hn35 _ ?_|refine he35 _ _ ?_|refine hn32 _ ?_|refine he32 _ _ ?_)
       refine zf fun X39 hn39 he39 hr39=>?_
       refine zk fun X40 hn40 he40 hf40 hr40=>?_
       refine za fun KY hKY=>?_
       simp only[go_sem,yS,Jp hx,Zj,hk2,zG,ht]
       apply hKY
       refine Zm ?_
       refine zg ?_
       repeat (first|refine hn40 _ ?_|refine he40 _ ?_|refine hf40 _ _ (by decide) ?_|refine hn39 _ ?_|refine he39 _ _ ?_|refine hn38 _ ?_|refine he38 _ _ ?_|refine he37 _ _ ?_|refine hn36 _ ?_|refine he36 _ ?_|refine hf36 _ _ (by decide) ?_|refine hn35 _ ?_|refine he35 _ _ ?_|refine hn32 _ ?_|refine he32 _ _ ?_)
       refine zm fun KY hKY=>?_
       simp only[go_sem,yR,zJ (show k<4611686018427387904 by omega)]
       apply hKY
       repeat (first|refine hn40 _ ?_|refine he40 _ ?_|refine hf40 _ _ (by decide) ?_|refine hn39 _ ?_|refine he39 _ _ ?_|refine hn38 _ ?_|refine he38 _ _ ?_)
       refine hn37 _ (k+1) (ps.length - (k+1)) (by omega) (by first|(simp only[go_sem,zd,ze];done)|with_reducible rfl|rfl) ?_
       exact⟨hk2,rfl⟩
     have hdx:decide ((k:Int)<(ps.length:Int))=false:=decide_eq_false (by omega)
     refine za fun KY hKY=>?_
     simp only[go_sem,JH,Zj,hdx]
     apply hKY
     refine Zm ?_
     refine zy ?_
     repeat (first|refine hn38 _ ?_|refine he38 _ _ ?_|refine he37 _ _ ?_|refine hn36 _ ?_|refine he36 _ ?_|refine hf36 _ _ (by decide) ?_|refine hn35 _ ?_|refine he35 _ _ ?_|refine hn32 _ ?_|refine he32 _ _ ?_|refine he31 _ _ ?_|refine hn30 _ ?_|refine he30 _ ?_|refine hf30 _ _ (by decide) ?_|refine hn29 _ ?_|refine he29 _ _ ?_|refine hn28 _ ?_|refine he28 _ _ ?_|refine hn1 _ ?_|refine he1 _ _ ?_)
     have hw:IntKind.i64.wrap (((Zv (Jd N (Zu es) 2)).length:Int)+((Ze m).length:Int))=(ps.length:Int):=by
      rw[hl2,IntWalk.i64_in _ (by omega)];omega
     refine za fun KY hKY=>?_
     simp only[go_sem,yQ,Zj,zi,zG,hw]
     apply hKY
     refine zj ?_
     repeat (first|refine hr38 _ ?_|refine hr37 _ ?_|refine hr36 _ ?_|refine hr35 _ ?_|refine hr32 _ ?_|refine hr31 _ ?_|refine hr30 _ ?_|refine hr29 _ ?_|refine hr28 _ ?_|refine hr1 _ ?_)
     simp only[go_sem]
   · have htk:List.take N (zl m)=zl m:=List.take_of_length_le (by rw[zi];omega)
     refine⟨Nat.le_of_ble_eq_true rfl,(fun hh=>by cases hh),?_⟩
     simp only[go_sem,zq,zb.after]
     apply hKY
     refine zf fun X41 hn41 he41 hr41=>?_
     refine za fun KY hKY=>?_
     simp only[go_sem,Wa]
     refine zt rfl (by simp only[go_sem]<;>rfl) ((Q6).mono ?_)
     rintro rr hh ⟨rfl,rfl⟩
     refine⟨rfl,rfl,rfl,?_⟩
     simp only[go_sem]
     refine zt rfl (by simp only[go_sem,hml,Nat.le_refl,htk]<;>rfl) ((hSh).mono ?_)
     rintro rr hh ⟨rfl,rfl⟩
     refine⟨?_,?_,?_,?_⟩
     iterate 3 (first|rfl|simp only[go_sem])
     simp only[go_sem]
     apply hKY
     refine Zm ?_
     refine zg ?_
     repeat (first|refine hn41 _ ?_|refine he41 _ _ ?_|refine hn1 _ ?_|refine he1 _ _ ?_)
     refine za fun KY hKY=>?_
     simp only[go_sem,w9]
     refine zt rfl (by simp only[go_sem,hml,Nat.le_refl,htk]<;>rfl) ((hFr).mono ?_)
     rintro rr hh ⟨rfl,rfl⟩
     refine⟨?_,?_,?_,?_⟩
     iterate 3 (first|rfl|simp only[go_sem])
     simp only[go_sem]
     apply hKY
     refine Zd [0,17] (by simp only[go_sem];rfl) ?_
     simp only[go_sem]
     refine zf fun X42 hn42 he42 hr42=>?_
     refine za fun KY hKY=>?_
     simp only[go_sem,yW]
     apply hKY
     refine zk fun X43 hn43 he43 hf43 hr43=>?_
     try simp only[go_sem]
     refine zL (α:=Nat) [73,83] (fun k=>[(18,.sc (.int .i64 (k:Int)))]) (fun k=>[some (zl m)]) (fun k q=>k≤(Ze m).length∧q=(Ze m).length - k) (0) ((Ze m).length) rfl (by first|(simp only[go_sem,zd,ze];done)|with_reducible rfl|rfl) (⟨Nat.zero_le _,rfl⟩) ?_
     rintro k q ⟨hk,rfl⟩ X44 hn44 he44 hr44
     simp only[go_sem,zd,ze]
     refine zf fun X45 hn45 he45 hr45=>?_
     rcases Nat.lt_or_ge k (Ze m).length with hk2|hk2
     · have hdx:decide ((k:Int)<((Ze m).length:Int))=true:=decide_eq_true (by omega)
       have hx:(Ze m)[k]?=some ((Ze m)[k]):=List.getElem?_eq_getElem hk2
       have hxD:=hfD _ (List.getElem_mem hk2)
       generalize (Ze m)[k]=v at hx hxD
       have hxn:(zH (Ze m))[k]?=some (.sc (.int .i64 (v:Int))):=by simp[zH,hx]
       have hiv:=hin (v:Int)
       rw[hxD] at hiv
       refine za fun KY hKY=>?_
       simp only[go_sem,JI,zG,hdx]
       apply hKY
       refine ZA ?_
       refine zg ?_
       repeat (first|refine hn45 _ ?_|refine he45 _ _ ?_|refine he44 _ _ ?_|refine hn43 _ ?_|refine he43 _ ?_|refine hf43 _ _ (by decide) ?_|refine hn42 _ ?_|refine he42 _ _ ?_|refine hn41 _ ?_|refine he41 _ _ ?_|refine hn1 _ ?_|refine he1 _ _ ?_)
       refine zf fun X46 hn46 he46 hr46=>?_
       refine zk fun X47 hn47 he47 hf47 hr47=>?_
       refine zv fun KY hKY=>?_
       simp only[go_sem,yV,hxn,zG,hk2]
       refine zt rfl (by simp only[go_sem]<;>rfl) ((hiv).mono ?_)
       rintro rr hh ⟨rfl,rfl⟩
       refine⟨rfl,rfl,rfl,?_⟩
       simp only[go_sem]
       apply hKY
       refine Zm ?_
       refine zg ?_
       repeat (first|refine hn47 _ ?_|refine he47 _ ?_|refine hf47 _ _ (by decide) ?_|refine hn46 _ ?_|refine he46 _ _ ?_|refine hn45 _ ?_|refine he45 _ _ ?_|refine he44 _ _ ?_|refine hn43 _ ?_|refine he43 _ ?_|refine hf43 _ _ (by decide) ?_|refine hn42 _ ?_|refine he42 _ _ ?_|refine hn41 _ ?_|refine he41 _ _ ?_|refine hn1 _ ?_|refine he1 _ _ ?_)
       refine zm fun KY hKY=>?_
       simp only[go_sem,yU,zJ (show k<4611686018427387904 by omega)]
       apply hKY
       repeat (first|refine hn47 _ ?_|refine he47 _ ?_|refine hf47 _ _ (by decide) ?_|refine hn46 _ ?_|refine he46 _ _ ?_|refine hn45 _ ?_|refine he45 _ _ ?_)
       refine hn44 _ (k+1) ((Ze m).length - (k+1)) (by omega) (by first|(simp only[go_sem,zd,ze];done)|with_reducible rfl|rfl) ?_
       exact⟨hk2,rfl⟩
     have hdx:decide ((k:Int)<((Ze m).length:Int))=false:=decide_eq_false (by omega)
     refine za fun KY hKY=>?_
     simp only[go_sem,JI,zG,hdx]
     apply hKY
     refine Zm ?_
     refine zy ?_
     repeat (first|refine hn45 _ ?_|refine he45 _ _ ?_|refine he44 _ _ ?_|refine hn43 _ ?_|refine he43 _ ?_|refine hf43 _ _ (by decide) ?_|refine hn42 _ ?_|refine he42 _ _ ?_|refine hn41 _ ?_|refine he41 _ _ ?_|refine hn1 _ ?_|refine he1 _ _ ?_)
     refine zf fun X48 hn48 he48 hr48=>?_
     refine za fun KY hKY=>?_
     simp only[go_sem,yT]
     apply hKY
     refine zk fun X49 hn49 he49 hf49 hr49=>?_
     try simp only[go_sem]
     refine zL (α:=Nat) [87,96] (fun k=>[(19,.sc (.int .i64 (k:Int)))]) (fun k=>[some (zl m)]) (fun k q=>k≤ps.length∧q=ps.length - k) (0) (ps.length) rfl (by first|(simp only[go_sem,zd,ze];done)|with_reducible rfl|rfl) (⟨Nat.zero_le _,rfl⟩) ?_
     rintro k q ⟨hk,rfl⟩ X50 hn50 he50 hr50
     simp only[go_sem,zd,ze]
     refine zf fun X51 hn51 he51 hr51=>?_
     rcases Nat.lt_or_ge k ps.length with hk2|hk2
     · have hdx:decide ((k:Int)<(ps.length:Int))=true:=decide_eq_true (by omega)
       have hx:ps[k]?=some (ps[k]):=List.getElem?_eq_getElem hk2
       have hxo:=hodd _ (List.getElem_mem hk2)
       generalize ps[k]=p at hx hxo
       have ht:((p.length:Int)).tmod 2=1:=by
        have:((p.length:Int)).tmod 2=((p.length%2:Nat):Int):=rfl
        rw[this,hxo];rfl
       refine za fun KY hKY=>?_
       simp only[go_sem,JH,Zj,hdx]
       apply hKY
       refine ZA ?_
       refine zg ?_
       repeat (first|refine hn51 _ ?_|refine he51 _ _ ?_|refine he50 _ _ ?_|refine hn49 _ ?_|refine he49 _ ?_|refine hf49 _ _ (by decide) ?_|refine hn48 _ ?_|refine he48 _ _ ?_|refine hn45 _ ?_|refine he45 _ _ ?_)
       refine zf fun X52 hn52 he52 hr52=>?_
       refine zk fun X53 hn53 he53 hf53 hr53=>?_
       refine za fun KY hKY=>?_
       simp only[go_sem,yS,Jp hx,Zj,hk2,zG,ht]
       apply hKY
       refine Zm ?_
       refine zg ?_
       repeat (first|refine hn53 _ ?_|refine he53 _ ?_|refine hf53 _ _ (by decide) ?_|refine hn52 _ ?_|refine he52 _ _ ?_|refine hn51 _ ?_|refine he51 _ _ ?_|refine he50 _ _ ?_|refine hn49 _ ?_|refine he49 _ ?_|refine hf49 _ _ (by decide) ?_|refine hn48 _ ?_|refine he48 _ _ ?_|refine hn45 _ ?_|refine he45 _ _ ?_)
       refine zm fun KY hKY=>?_
       simp only[go_sem,yR,zJ (show k<4611686018427387904 by omega)]
       apply hKY
       repeat (first|refine hn53 _ ?_|refine he53 _ ?_|refine hf53 _ _ (by decide) ?_|refine hn52 _ ?_|refine he52 _ _ ?_|refine hn51 _ ?_|refine he51 _ _ ?_)
       refine hn50 _ (k+1) (ps.length - (k+1)) (by omega) (by first|(simp only[go_sem,zd,ze];done)|with_reducible rfl|rfl) ?_
       exact⟨hk2,rfl⟩
     have hdx:decide ((k:Int)<(ps.length:Int))=false:=decide_eq_false (by omega)
     refine za fun KY hKY=>?_
     simp only[go_sem,JH,Zj,hdx]
     apply hKY
     refine Zm ?_
     refine zy ?_
     repeat (first|refine hn51 _ ?_|refine he51 _ _ ?_|refine he50 _ _ ?_|refine hn49 _ ?_|refine he49 _ ?_|refine hf49 _ _ (by decide) ?_|refine hn48 _ ?_|refine he48 _ _ ?_|refine hn45 _ ?_|refine he45 _ _ ?_|refine he44 _ _ ?_|refine hn43 _ ?_|refine he43 _ ?_|refine hf43 _ _ (by decide) ?_|refine hn42 _ ?_|refine he42 _ _ ?_|refine hn41 _ ?_|refine he41 _ _ ?_|refine hn1 _ ?_|refine he1 _ _ ?_)
     have hw:IntKind.i64.wrap (((Zv (Jd N (Zu es) 2)).length:Int)+((Ze m).length:Int))=(ps.length:Int):=by
      rw[hl2,IntWalk.i64_in _ (by omega)];omega
     refine za fun KY hKY=>?_
     simp only[go_sem,yQ,Zj,zi,zG,hw]
     apply hKY
     refine zj ?_
     repeat (first|refine hr51 _ ?_|refine hr50 _ ?_|refine hr49 _ ?_|refine hr48 _ ?_|refine hr45 _ ?_|refine hr44 _ ?_|refine hr43 _ ?_|refine hr42 _ ?_|refine hr41 _ ?_|refine hr1 _ ?_)
     simp only[go_sem]
theorem xT (As:List zc)(b:Nat)(h:SAs Try.prog Try.f8.params.toList As b)(hb:b≤1048576):zo Try.prog [] 8 As [] fun r _=>r= .sc (.bool true):=by
 rw[Try.params8] at h
 obtain⟨A1,As1,c1,d1,rfl,rfl,h1,h⟩:=wI h
 obtain⟨A2,As2,c2,d2,rfl,rfl,h2,h⟩:=wI h
 obtain⟨A3,As3,c3,d3,rfl,rfl,h3,h⟩:=wI h
 obtain⟨A4,As4,c4,d4,rfl,rfl,h4,h⟩:=wI h
 obtain rfl:=ziE h
 obtain⟨x1,rfl,w1⟩:=zcs Try.underlying3 h1
 obtain⟨x2,rfl,w2⟩:=zcs Try.underlying3 h2
 obtain⟨x3,rfl,w3⟩:=zcs Try.underlying3 h3
 obtain⟨x4,rfl,w4,e4⟩:=ziF Try.underlying22 Try.underlying3 (by kernel_rfl) h4
 exact(zfb x1 x2 x3 x4 (by omega)).mono fun _ _ h=>h
end Go.Proofs.Ytkjppnofgmpeeaa
namespace Go.Proofs.Ytkjppnofgmpeeaa.gallaiShowsend
open Go Go.Ga Go.ChangeShapes Go.WideShapes Go.ChangeAt Go.RowKit
theorem own :ownKnob Try.prog.godebug=none:=by kernel_rfl
mutual
theorem Xf {H:Type}:∀d:DataW H,Rows.uptoBulk d=Ju d
 | .lit l=>by cases l<;>simp[Rows.uptoBulk,Ju]
 | .nil=>by simp[Rows.uptoBulk,Ju]
 | .ptr d=>by simp[Rows.uptoBulk,Ju,Xf d]
 | .slice e s=>by simp[Rows.uptoBulk,Ju,bulk_eq e,bulk_eq s]
 | .agg p=>by simp[Rows.uptoBulk,Ju,bulk_eq p]
 | .iface _ d=>by simp[Rows.uptoBulk,Ju,Xf d]
 | .map e=>by simp[Rows.uptoBulk,Ju,bulk_es e]
 | .held _=>by simp[Rows.uptoBulk,Ju]
theorem bulk_eq {H:Type}:∀l:List (DataW H),Rows.uptoBulkAll l=bulkL l
 |[]=>by simp[Rows.uptoBulkAll,bulkL]
 |d::r=>by simp[Rows.uptoBulkAll,bulkL,Xf d,bulk_eq r]
theorem bulk_es {H:Type}:∀l:List (Lit×DataW H),Rows.uptoBulkEntries l=bulkE l
 |[]=>by simp[Rows.uptoBulkEntries,bulkE]
 |d::r=>by simp[Rows.uptoBulkEntries,bulkE,bulk_e d,bulk_es r]
theorem bulk_e {H:Type}:∀d:Lit×DataW H,Rows.uptoBulkEntry d=bulk1 d
 |(l,d)=>by cases l<;>simp[Rows.uptoBulkEntry,bulk1,Xf d]
end
set_option maxRecDepth 100000 in
theorem plain :Plain Try.prog [3,22]:=zgo (by kernel_rfl)
set_option maxRecDepth 100000 in
theorem zhv (H:Type)(enc:TypeId×Value→H)(W:World)(base:Nat)(args:Array Value)(ds gs:List (DataW H))(before:List MemPlace)
    (hval:∀(j:Nat) t v,Try.f8.params[j]?=some t→args[j]?=some v→Value.okWide Try.prog W .any base t v)
    (hW:DataW.Whole enc Try.prog Try.f8.params.toList Rows.gallaiShowsSpec.vars false W args.toList ds gs before) (hk:Rows.uptoSmall H (ds++gs)=true):
    Calls Try.prog 8 args W fun e W'=>∃v,e= .returned v∧Rows.gallaiShowsSpec.post enc Try.prog Try.f8 false true false false W args v W':=by
  have hW':=hW
  obtain⟨p,q,hA,hV,rfl,hfz,hnd⟩:=hW
  obtain⟨rfl,rfl⟩:=Go.Ga.QK hV
  have hb:bulkL (ds++[])≤1048576:=by rw[←bulk_eq];exact of_decide_eq_true hk
  have r0:DataW.TrodAll enc Try.prog W 0 (fun _=>true) true Try.f8.params.toList args.toList ds p:=hA
  rw[Try.params8] at r0
  obtain⟨v0,vs0,d0,ds0,p0,q0,hv0,rfl,rfl,h0,r1⟩:=trodAll_cons r0
  obtain⟨v1,vs1,d1,ds1,p1,q1,hv1,rfl,rfl,h1,r2⟩:=trodAll_cons r1
  obtain⟨v2,vs2,d2,ds2,p2,q2,hv2,rfl,rfl,h2,r3⟩:=trodAll_cons r2
  obtain⟨v3,vs3,d3,ds3,p3,q3,hv3,rfl,rfl,h3,r4⟩:=trodAll_cons r3
  obtain⟨rfl,rfl,rfl⟩:=trodAll_nil r4
  exact vy plain hval (by rw[Try.params8];decide) hW' rfl rfl rfl rfl (tb:=4) (by kernel_rfl) Try.underlying4 hb xT
set_option maxRecDepth 100000 in
theorem zlS (os:Os)(started:os.Started)(H:Type)(enc:TypeId×Value→H)(F:Stop.Interp):
    ReturnsInHanded {} Try.checked os 8 .any ((Rows.OpenSpec.upto Rows.gallaiShowsSpec).pre6 enc Try.prog Try.f8 Rows.gallaiShowsUptoRow.domain false) (((Rows.OpenSpec.upto Rows.gallaiShowsSpec).at F).post enc Try.prog Try.f8 false true false false):=by
  refine returnsInHanded_of_cond (C:=Try.checked) (s:=Rows.OpenSpec.upto Rows.gallaiShowsSpec) (k:=Rows.uptoSmall) rfl own started (by kernel_rfl) Try.func8
    (OpenSpec.witness (enc:=enc) (C:=Try.checked) (s:=Rows.OpenSpec.upto Rows.gallaiShowsSpec) (k:=Rows.uptoSmall) rfl false ⟨#[], #[.int .i64 0,.int .i64 0,.int .i64 0,.slice none 0 0],[]⟩ 8 (by kernel_rfl) (by kernel_rfl) (by kernel_rfl)
      (x:=([.lit (.int .i64 0),.lit (.int .i64 0),.lit (.int .i64 0),.nil],[],[])) (by kernel_rfl) rfl (by kernel_rfl)) ?_
  intro W base args ds gs before hval hW _ hk _
  exact zhv H enc W base args ds gs before hval hW hk
theorem holds :Rows.GallaiShowsUptoSaid:=
 OpenClaim.holds_of_cond 8 Try.f8 rfl rfl rfl rfl rfl rfl rfl ⟨rfl,rfl,rfl,rfl,rfl⟩ rfl rfl rfl rfl rfl (by kernel_rfl) Try.func8 (by kernel_rfl)
  (of_decide_eq_true (by kernel_rfl)) (by unfold Func.isWrapper;first|(rw[if_pos (by decide+kernel)];kernel_rfl)|(rw[if_neg (by decide+kernel)];exact⟨rfl,rfl⟩))
  (fun os started H enc _ F=>zlS os started H enc F)
end Go.Proofs.Ytkjppnofgmpeeaa.gallaiShowsend
