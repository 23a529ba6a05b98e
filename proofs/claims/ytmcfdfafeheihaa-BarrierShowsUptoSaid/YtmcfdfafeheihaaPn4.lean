/- Of any small graph: how many edges a largest matching has, and a set that shows it. -/
import Derived.Test.YtmcfdfafeheihaaPn3
import Derived.Test.YtmcfdfafeheihaaPn1
import Derived.Test.YtmcfdfafeheihaaGmhdbpc5
import Derived.WalkKit
import Derived.ProofKit
import Derived.OpenShut
import Derived.JoinedCond
set_option linter.all false
set_option maxRecDepth 100000
set_option maxHeartbeats 2000000
namespace Go.Proofs.Ytmcfdfafeheihaa
open Go Go.Ga Go.Ga.Gl
end Go.Proofs.Ytmcfdfafeheihaa
set_option maxHeartbeats 4000000
namespace Go.Proofs.Ytmcfdfafeheihaa
open Go Go.Ga Go.Ga.Gl
def mOk (es:Es)(m:List Int)(v:Nat):Bool:=decide (m.getD v 0= -1)||(decide (Jg (v:Int) (m.getD v 0)∈zD es)&&decide (m.getD (m.getD v 0).toNat 0=(v:Int)))
def wu (n:Int)(es:List (Int×Int))(m:List Int):Bool:=Zc n es&&decide ((m.length:Int)=n)&&(List.range m.length).all fun v=>decide (m.getD v 0= -1)||(decide (Jg (v:Int) (m.getD v 0)∈es)&&decide (m.getD (m.getD v 0).toNat 0=(v:Int)))
theorem ze3 {N:Nat}{es:Es}(g:GR N es){v:Nat}{w:Int}(h:Jg (v:Int) w∈zD es):∃u:Nat,w=u∧u<N∧v<N∧u≠v:=by
 obtain⟨⟨a,b⟩,hm,e⟩:=List.mem_map.1 h
 have hok:=g.ok _ hm
 simp only at hok
 unfold Jg at e
 split at e
 · simp only[Prod.mk.injEq] at e
   exact⟨a,by omega,by omega,by omega,by omega⟩
 · simp only[Prod.mk.injEq] at e
   exact⟨b,by omega,by omega,by omega,by omega⟩
theorem zmt {N k:Nat}{φ:Nat→Bool}(h:k<N)(hf:φ k=false):((List.range N).all fun v=>φ v)=false:=by
 rw[Bool.eq_false_iff];intro h'
 rw[List.all_eq_true] at h'
 rw[h' k (List.mem_range.2 h)] at hf;cases hf
def jAt (m:List Int)(l:Es)(v:Nat):Bool:=l.any fun e=>(decide (e.1=v)||decide (e.2=v))&&(decide (m.getD e.1 0=(e.2:Int))&&decide (m.getD e.2 0=(e.1:Int)))
theorem zli {N:Nat}{es:Es}(g:GR N es)(m:List Int){v:Nat}(hw:m.getD v 0≠ -1):jAt m es v=mOk es m v:=by
 rw[Bool.eq_iff_iff]
 unfold jAt mOk
 rw[List.any_eq_true,decide_eq_false hw,Bool.false_or,Bool.and_eq_true,decide_eq_true_iff,decide_eq_true_iff]
 constructor
 · rintro⟨⟨a,b⟩,he,h⟩
   have hok:=g.ok _ he
   simp only[Bool.and_eq_true,Bool.or_eq_true,decide_eq_true_eq] at h hok
   obtain⟨rfl|rfl,h1,h2⟩:=h
   · rw[h1]
     refine⟨?_,by rw[Int.toNat_natCast];exact h2⟩
     unfold Jg;rw[if_neg (by omega)];exact Qk.2 he
   · rw[h2]
     refine⟨?_,by rw[Int.toNat_natCast];exact h1⟩
     unfold Jg;rw[if_pos (by omega)];exact Qk.2 he
 · rintro⟨h1,h2⟩
   obtain⟨u,hu,_,_,hne⟩:=ze3 g h1
   rw[hu] at h1 h2
   rw[Int.toNat_natCast] at h2
   unfold Jg at h1
   split at h1
   · exact⟨(u,v),Qk.1 h1,by simp only[hu,h2,decide_true,Bool.or_true,Bool.true_or,Bool.and_self]⟩
   · exact⟨(v,u),Qk.1 h1,by simp only[hu,h2,decide_true,Bool.or_true,Bool.true_or,Bool.and_self]⟩
def jL (N:Nat)(m:List Int)(l:Es):List Bool:=(List.range N).map (jAt m l)
theorem zb2 (N:Nat)(m:List Int)(l:Es):(jL N m l).length=N:=by simp[jL]
theorem zlh {N:Nat}(m:List Int)(l:Es){v:Nat}(h:v<N):(jL N m l).getD v false=jAt m l v:=by simp[jL,h]
theorem zjN {N:Nat}(m:List Int)(l:Es){a b:Nat}(h:¬(m.getD a 0=(b:Int)∧m.getD b 0=(a:Int))):jL N m (l++[(a,b)])=jL N m l:=by
 refine List.map_congr_left fun v _=>?_
 unfold jAt
 rw[List.any_append]
 have:(decide (m.getD a 0=(b:Int))&&decide (m.getD b 0=(a:Int)))=false:=by
  rw[Bool.eq_false_iff];intro h';rw[Bool.and_eq_true,decide_eq_true_iff,decide_eq_true_iff] at h';exact h h'
 simp only[List.any_cons,List.any_nil,this,Bool.and_false,Bool.or_false]
theorem zlg {N:Nat}(m:List Int)(l:Es){a b:Nat}(h:m.getD a 0=(b:Int)∧m.getD b 0=(a:Int)):((jL N m l).set a true).set b true=jL N m (l++[(a,b)]):=by
 apply List.ext_getElem
 · simp[jL]
 · intro i h1 h2
   have hi:i<N:=by rw[zb2] at h2;exact h2
   have e:jAt m (l++[(a,b)]) i=(jAt m l i||(decide (a=i)||decide (b=i))):=by
    unfold jAt
    rw[List.any_append]
    simp only[List.any_cons,List.any_nil,h.1,h.2,decide_true,Bool.and_true,Bool.or_false]
   simp only[jL,List.getElem_set,List.getElem_map,List.getElem_range,e]
   by_cases hb:b=i
   · simp[hb]
   · by_cases ha:a=i
     · simp[ha,hb]
     · simp[ha,hb]
theorem zea (n:Int)(es:List (Int×Int))(m:List Int)(h:(Zc n es&&decide ((m.length:Int)=n))=false):zn Try.prog [] zcM [.agg [.sc (.int .i64 n),.imm 2 (Zh es)],.imm 1 (zk m)] [] fun r h'=>r= .sc (.bool false)∧h'=[]:=by
 refine zn.trim ?_
 refine zgA rfl ?_
 unfold zg5 Z9
 refine za fun KY hKY=>?_
 simp only[go_sem,Ua]
 apply hKY
 refine zf fun X1 hn1 he1 hr1=>?_
 cases hr:Zc n es with
 | false=>
   refine za fun KY hKY=>?_
   simp only[go_sem,wU]
   refine zx rfl (by simp only[go_sem]<;>rfl) ((JR n es).mono ?_)
   rintro rr hh ⟨rfl,rfl⟩
   refine⟨rfl,rfl,rfl,?_⟩
   simp only[go_sem,hr]
   apply hKY
   refine ZC ?_
   refine za fun KY hKY=>?_
   simp only[go_sem,u9]
   apply hKY
   refine zi ?_
   repeat (first|refine hr1 _ ?_)
   simp only[go_sem]
 | true=>
   rw[hr,Bool.true_and,decide_eq_false_iff_not] at h
   have hd:decide ((m.length:Int)≠n)=true:=decide_eq_true h
   refine za fun KY hKY=>?_
   simp only[go_sem,wU]
   refine zx rfl (by simp only[go_sem]<;>rfl) ((JR n es).mono ?_)
   rintro rr hh ⟨rfl,rfl⟩
   refine⟨rfl,rfl,rfl,?_⟩
   simp only[go_sem,hr,zj,hd]
   apply hKY
   refine ZC ?_
   refine za fun KY hKY=>?_
   simp only[go_sem,u9]
   apply hKY
   refine zi ?_
   repeat (first|refine hr1 _ ?_)
   simp only[go_sem]
theorem Xv {N:Nat}{es:Es}(g:GR N es)(m:List Int)(hl:m.length=N):zn Try.prog [] zcM [.agg [.sc (.int .i64 (N:Int)),.imm 2 (Zh (zD es))],.imm 1 (zk m)] [] fun r h'=>r= .sc (.bool ((List.range N).all fun v=>mOk es m v))∧h'=[]:=by
 refine zn.trim ?_
 have hN:=g.hn
 have hem:=g.hm
 have hr:=je g
 have hd:decide ((m.length:Int)≠(N:Int))=false:=decide_eq_false (by omega)
 have h0:List.replicate N false=jL N m (es.take 0):=by
  apply List.ext_getElem
  · simp[jL]
  · intro i h1 h2;simp[jL,jAt]
 refine zgA rfl ?_
 unfold zg5 Z9
 refine za fun KY hKY=>?_
 simp only[go_sem,Ua]
 apply hKY
 refine zf fun X1 hn1 he1 hr1=>?_
 refine za fun KY hKY=>?_
 simp only[go_sem,wU]
 refine zx rfl (by simp only[go_sem]<;>rfl) ((JR N (zD es)).mono ?_)
 rintro rr hh ⟨rfl,rfl⟩
 refine⟨rfl,rfl,rfl,?_⟩
 simp only[go_sem,hr,zj,hd]
 apply hKY
 refine Zw ?_
 refine zh ?_
 repeat (first|refine hn1 _ ?_|refine he1 _ _ ?_)
 refine za fun KY hKY=>?_
 simp only[go_sem,O5,(show N≤140737488355328 by omega),(show 1*N≤140737488355328 by omega),(show(N:Int)≤(N:Int) from Int.le_refl _),(show(N:Int)≤9223372036854775807 by omega),h0]
 apply hKY
 refine zf fun X2 hn2 he2 hr2=>?_
 refine za fun KY hKY=>?_
 simp only[go_sem,O4,jd,kS,zz]
 apply hKY
 refine zm fun X3 hn3 he3 hf3 hr3=>?_
 try simp only[go_sem]
 refine zQ (α:=Nat) [7,27,47] (fun k=>[(5,.own (some 1) (Ze (jL N m (es.take k)))),(26,.sc (.int .i64 (k:Int)))]) (fun k=>[]) (fun k q=>k≤es.length∧q=es.length - k) (0) (es.length) rfl (by first|(simp only[go_sem,zd,ze];done)|with_reducible rfl|rfl) (⟨by omega,rfl⟩) ?_
 rintro k q ⟨hk,rfl⟩ X4 hn4 he4 hr4
 simp only[go_sem,zd,ze]
 rcases Nat.lt_or_ge k es.length with hk2|hk2
 · have hdy:decide ((k:Int)<(es.length:Int))=true:=decide_eq_true (by omega)
   refine za fun KY hKY=>?_
   simp only[go_sem,u7,hdy]
   apply hKY
   refine zf fun X5 hn5 he5 hr5=>?_
   refine ZC ?_
   refine zh ?_
   repeat (first|refine hn5 _ ?_|refine he5 _ _ ?_|refine he4 _ _ ?_|refine hn3 _ ?_|refine he3 _ ?_|refine hf3 _ _ (by decide) ?_|refine hn2 _ ?_|refine he2 _ _ ?_|refine hn1 _ ?_|refine he1 _ _ ?_)
   refine zf fun X6 hn6 he6 hr6=>?_
   refine zm fun X7 hn7 he7 hf7 hr7=>?_
   have hx:es[k]?=some es[k]:=List.getElem?_eq_getElem hk2
   have hxm:es[k]∈es:=List.getElem_mem hk2
   generalize es[k]=x at hx hxm
   obtain⟨a,b⟩:=x
   have hxc:=Qn hx
   have hok:=g.ok (a,b) hxm
   simp only at hok
   have htk:es.take (k+1)=es.take k++[(a,b)]:=by rw[List.take_add_one,hx];rfl
   have haN:a<N:=by omega
   have hbN:b<N:=hok.2
   refine za fun KY hKY=>?_
   simp only[go_sem,O2,(show k*2+1<es.length*2 by omega),(show 1<es.length*2 - k*2 by omega),zV hxc,List.length_drop,jd,zz]
   apply hKY
   by_cases h1:m.getD a 0=(b:Int)
   · have d1:decide (m.getD a 0=(b:Int))=true:=decide_eq_true h1
     by_cases h2:m.getD b 0=(a:Int)
     · have d2:decide (m.getD b 0=(a:Int))=true:=decide_eq_true h2
       have hst:=zlg (N:=N) m (es.take k) ⟨h1,h2⟩
       rw[←htk] at hst
       refine zw fun KY hKY=>?_
       simp only[go_sem,wT,zg (show a<m.length by omega),zg (show b<m.length by omega),zj,hl,haN,hbN,d1,d2]
       apply hKY
       refine ZC ?_
       refine Jo fun KY hKY=>?_
       simp only[go_sem,O1,Zz,zb2,haN,hbN,List.length_set,hst,(show([0,5]==[0,7])=false from rfl),Bool.not_false]
       apply hKY
       repeat (first|refine hn7 _ ?_|refine he7 _ ?_|refine hf7 _ _ (by decide) ?_|refine hn6 _ ?_|refine he6 _ _ ?_|refine hn5 _ ?_|refine he5 _ _ ?_|refine he4 _ _ ?_|refine hn3 _ ?_|refine he3 _ ?_|refine hf3 _ _ (by decide) ?_|refine hn2 _ ?_|refine he2 _ _ ?_|refine hn1 _ ?_|refine he1 _ _ ?_)
       refine zo fun KY hKY=>?_
       simp only[go_sem,wS,zL (show k<4611686018427387904 by omega)]
       apply hKY
       repeat (first|refine hn7 _ ?_|refine he7 _ ?_|refine hf7 _ _ (by decide) ?_|refine hn6 _ ?_|refine he6 _ _ ?_|refine hn5 _ ?_|refine he5 _ _ ?_)
       refine hn4 _ (k+1) (es.length - (k+1)) (by omega) (by first|(simp only[go_sem,zd,ze];done)|with_reducible rfl|rfl) ?_
       exact⟨hk2,rfl⟩
     · have d2:decide (m.getD b 0=(a:Int))=false:=decide_eq_false h2
       have hst:=zjN (N:=N) m (es.take k) (a:=a) (b:=b) fun h=>h2 h.2
       rw[←htk] at hst
       refine zw fun KY hKY=>?_
       simp only[go_sem,wT,zg (show a<m.length by omega),zg (show b<m.length by omega),zj,hl,haN,hbN,d1,d2]
       apply hKY
       refine Zw ?_
       refine zh ?_
       repeat (first|refine hn7 _ ?_|refine he7 _ ?_|refine hf7 _ _ (by decide) ?_|refine hn6 _ ?_|refine he6 _ _ ?_|refine hn5 _ ?_|refine he5 _ _ ?_|refine he4 _ _ ?_|refine hn3 _ ?_|refine he3 _ ?_|refine hf3 _ _ (by decide) ?_|refine hn2 _ ?_|refine he2 _ _ ?_|refine hn1 _ ?_|refine he1 _ _ ?_)
       refine zo fun KY hKY=>?_
       simp only[go_sem,wS,zL (show k<4611686018427387904 by omega)]
       apply hKY
       repeat (first|refine hn7 _ ?_|refine he7 _ ?_|refine hf7 _ _ (by decide) ?_|refine hn6 _ ?_|refine he6 _ _ ?_|refine hn5 _ ?_|refine he5 _ _ ?_)
       refine hn4 _ (k+1) (es.length - (k+1)) (by omega) (by first|(simp only[go_sem,zd,ze,hst];done)|with_reducible rfl|rfl) ?_
       exact⟨hk2,rfl⟩
   · have d1:decide (m.getD a 0=(b:Int))=false:=decide_eq_false h1
     have hst:=zjN (N:=N) m (es.take k) (a:=a) (b:=b) fun h=>h1 h.1
     rw[←htk] at hst
     refine zw fun KY hKY=>?_
     simp only[go_sem,wT,zg (show a<m.length by omega),zj,hl,haN,hbN,d1]
     apply hKY
     refine Zw ?_
     refine zh ?_
     repeat (first|refine hn7 _ ?_|refine he7 _ ?_|refine hf7 _ _ (by decide) ?_|refine hn6 _ ?_|refine he6 _ _ ?_|refine hn5 _ ?_|refine he5 _ _ ?_|refine he4 _ _ ?_|refine hn3 _ ?_|refine he3 _ ?_|refine hf3 _ _ (by decide) ?_|refine hn2 _ ?_|refine he2 _ _ ?_|refine hn1 _ ?_|refine he1 _ _ ?_)
     refine zo fun KY hKY=>?_
     simp only[go_sem,wS,zL (show k<4611686018427387904 by omega)]
     apply hKY
     repeat (first|refine hn7 _ ?_|refine he7 _ ?_|refine hf7 _ _ (by decide) ?_|refine hn6 _ ?_|refine he6 _ _ ?_|refine hn5 _ ?_|refine he5 _ _ ?_)
     refine hn4 _ (k+1) (es.length - (k+1)) (by omega) (by first|(simp only[go_sem,zd,ze,hst];done)|with_reducible rfl|rfl) ?_
     exact⟨hk2,rfl⟩
 have hdx:decide ((k:Int)<(es.length:Int))=false:=decide_eq_false (by omega)
 refine za fun KY hKY=>?_
 simp only[go_sem,u7,hdx]
 apply hKY
 refine zf fun X8 hn8 he8 hr8=>?_
 refine Zw ?_
 refine zy ?_
 repeat (first|refine hn8 _ ?_|refine he8 _ _ ?_|refine he4 _ _ ?_|refine hn3 _ ?_|refine he3 _ ?_|refine hf3 _ _ (by decide) ?_|refine hn2 _ ?_|refine he2 _ _ ?_|refine hn1 _ ?_|refine he1 _ _ ?_)
 obtain rfl:k=es.length:=by omega
 rw[List.take_length]
 refine zf fun X9 hn9 he9 hr9=>?_
 refine za fun KY hKY=>?_
 simp only[go_sem,V5,zj,hl]
 apply hKY
 refine zm fun X10 hn10 he10 hf10 hr10=>?_
 try simp only[go_sem]
 refine zQ (α:=Nat) [8,9,60,72] (fun v=>[(59,.sc (.int .i64 (v:Int)))]) (fun v=>[]) (fun v q=>v≤N∧q=N - v∧(∀u,u<v→mOk es m u=true)) (0) (N) rfl (by first|(simp only[go_sem,zd,ze];done)|with_reducible rfl|rfl) (⟨by omega,rfl,fun v h=>by omega⟩) ?_
 rintro v q ⟨hv,rfl,hz⟩ X11 hn11 he11 hr11
 simp only[go_sem,zd,ze]
 rcases Nat.lt_or_ge v N with hv2|hv2
 · have hdy:decide ((v:Int)<(N:Int))=true:=decide_eq_true (by omega)
   refine za fun KY hKY=>?_
   simp only[go_sem,WP,hdy]
   apply hKY
   refine zf fun X12 hn12 he12 hr12=>?_
   refine ZC ?_
   refine zh ?_
   repeat (first|refine hn12 _ ?_|refine he12 _ _ ?_|refine he11 _ _ ?_|refine hn10 _ ?_|refine he10 _ ?_|refine hf10 _ _ (by decide) ?_|refine hn9 _ ?_|refine he9 _ _ ?_|refine hn8 _ ?_|refine he8 _ _ ?_)
   refine zf fun X13 hn13 he13 hr13=>?_
   refine zm fun X14 hn14 he14 hf14 hr14=>?_
   refine za fun KY hKY=>?_
   simp only[go_sem,V4,zg (show v<m.length by omega),zj,hl,hv2]
   apply hKY
   by_cases hw:m.getD v 0= -1
   · have d1:decide (m.getD v 0≠ -1)=false:=decide_eq_false fun h=>h hw
     have hok:mOk es m v=true:=by unfold mOk;rw[decide_eq_true hw];rfl
     refine za fun KY hKY=>?_
     simp only[go_sem,Yi,d1]
     apply hKY
     refine Zw ?_
     refine zh ?_
     repeat (first|refine hn14 _ ?_|refine he14 _ ?_|refine hf14 _ _ (by decide) ?_|refine hn13 _ ?_|refine he13 _ _ ?_|refine hn12 _ ?_|refine he12 _ _ ?_|refine he11 _ _ ?_|refine hn10 _ ?_|refine he10 _ ?_|refine hf10 _ _ (by decide) ?_|refine hn9 _ ?_|refine he9 _ _ ?_|refine hn8 _ ?_|refine he8 _ _ ?_)
     refine zo fun KY hKY=>?_
     simp only[go_sem,WO,zL (show v<4611686018427387904 by omega)]
     apply hKY
     repeat (first|refine hn14 _ ?_|refine he14 _ ?_|refine hf14 _ _ (by decide) ?_|refine hn13 _ ?_|refine he13 _ _ ?_|refine hn12 _ ?_|refine he12 _ _ ?_)
     refine hn11 _ (v+1) (N - (v+1)) (by omega) (by first|(simp only[go_sem,zd,ze];done)|with_reducible rfl|rfl) ?_
     refine⟨hv2,rfl,fun u hu=>?_⟩
     rcases Nat.lt_or_ge u v with h3|h3
     · exact hz u h3
     · obtain rfl:u=v:=by omega
       exact hok
   · have d1:decide (m.getD v 0≠ -1)=true:=decide_eq_true hw
     have hj:=zli g m hw
     have hjl:=zb2 N m es
     have hg:=Jl (show v<(jL N m es).length by omega)
     rw[zlh m es hv2,hj] at hg
     cases hok:mOk es m v with
     | true=>
       rw[hok] at hg
       refine za fun KY hKY=>?_
       simp only[go_sem,Yi,d1,hg,Zz,hjl,hv2]
       apply hKY
       refine Zw ?_
       refine zh ?_
       repeat (first|refine hn14 _ ?_|refine he14 _ ?_|refine hf14 _ _ (by decide) ?_|refine hn13 _ ?_|refine he13 _ _ ?_|refine hn12 _ ?_|refine he12 _ _ ?_|refine he11 _ _ ?_|refine hn10 _ ?_|refine he10 _ ?_|refine hf10 _ _ (by decide) ?_|refine hn9 _ ?_|refine he9 _ _ ?_|refine hn8 _ ?_|refine he8 _ _ ?_)
       refine zo fun KY hKY=>?_
       simp only[go_sem,WO,zL (show v<4611686018427387904 by omega)]
       apply hKY
       repeat (first|refine hn14 _ ?_|refine he14 _ ?_|refine hf14 _ _ (by decide) ?_|refine hn13 _ ?_|refine he13 _ _ ?_|refine hn12 _ ?_|refine he12 _ _ ?_)
       refine hn11 _ (v+1) (N - (v+1)) (by omega) (by first|(simp only[go_sem,zd,ze];done)|with_reducible rfl|rfl) ?_
       refine⟨hv2,rfl,fun u hu=>?_⟩
       rcases Nat.lt_or_ge u v with h3|h3
       · exact hz u h3
       · obtain rfl:u=v:=by omega
         exact hok
     | false=>
       rw[hok] at hg
       refine za fun KY hKY=>?_
       simp only[go_sem,Yi,d1,hg,Zz,hjl,hv2]
       apply hKY
       refine ZC ?_
       refine za fun KY hKY=>?_
       simp only[go_sem,V3]
       apply hKY
       refine zi ?_
       repeat (first|refine hr14 _ ?_|refine hr13 _ ?_|refine hr12 _ ?_|refine hr11 _ ?_|refine hr10 _ ?_|refine hr9 _ ?_|refine hr8 _ ?_|refine hr4 _ ?_|refine hr3 _ ?_|refine hr2 _ ?_|refine hr1 _ ?_)
       simp only[go_sem]
       rw[zmt hv2 hok]
 have hdz:decide ((v:Int)<(N:Int))=false:=decide_eq_false (by omega)
 refine za fun KY hKY=>?_
 simp only[go_sem,WP,hdz]
 apply hKY
 refine zf fun X15 hn15 he15 hr15=>?_
 refine Zw ?_
 refine zy ?_
 repeat (first|refine hn15 _ ?_|refine he15 _ _ ?_|refine he11 _ _ ?_|refine hn10 _ ?_|refine he10 _ ?_|refine hf10 _ _ (by decide) ?_|refine hn9 _ ?_|refine he9 _ _ ?_|refine hn8 _ ?_|refine he8 _ _ ?_|refine he4 _ _ ?_|refine hn3 _ ?_|refine he3 _ ?_|refine hf3 _ _ (by decide) ?_|refine hn2 _ ?_|refine he2 _ _ ?_|refine hn1 _ ?_|refine he1 _ _ ?_)
 obtain rfl:v=N:=by omega
 refine za fun KY hKY=>?_
 simp only[go_sem,V0]
 apply hKY
 refine zi ?_
 repeat (first|refine hr15 _ ?_|refine hr11 _ ?_|refine hr10 _ ?_|refine hr9 _ ?_|refine hr8 _ ?_|refine hr4 _ ?_|refine hr3 _ ?_|refine hr2 _ ?_|refine hr1 _ ?_)
 simp only[go_sem]
 rw[show((List.range v).all fun v=>mOk es m v)=true from List.all_eq_true.2 fun u hu=>hz u (List.mem_range.1 hu)]
end Go.Proofs.Ytmcfdfafeheihaa

namespace Go.Ga.Gl
open Go Go.Ga
structure Fc (n:Nat)(E:Nat→Nat→Prop)(mt:Nat→Int)(D A:Nat→Bool)(bs:Nat→Nat):Prop where
 m:Mf n E mt
 c:yU n E mt D A bs
 d:∀v,D v=true→∃mt',Mf n E mt'∧qf n mt'≤qf n mt∧mt' v= -1
 a:∀v,A v=true→∃w,D w=true∧E v w
theorem xK {n:Nat}{E:Nat→Nat→Prop}{mt:Nat→Int}{S:FS}(M:Mf n E mt)(I:J0 n E mt S)(L:Lk E S []):Fc n E mt S.out (zfR S) S.bs where
 m:=M
 c:=I.cert M L
 d:=fun v hv=>zmI M I hv
 a:=fun v hv=>by
  obtain⟨h1,h2⟩:=Jr.1 hv
  obtain⟨_,x,k1,k2,k3,k4,k5,k6⟩:=I.od v h1
  exact⟨S.pr v,k4,k5⟩
theorem Fc.lg {n:Nat}{E:Nat→Nat→Prop}{mt:Nat→Int}{D A:Nat→Bool}{bs:Nat→Nat}(F:Fc n E mt D A bs):Lg n E mt:=⟨F.m,fun _ M'=>F.c.most F.m M'⟩
theorem Fc.dm {n:Nat}{E:Nat→Nat→Prop}{mt:Nat→Int}{D A:Nat→Bool}{bs:Nat→Nat}(F:Fc n E mt D A bs)(v:Nat):D v=true↔Dm n E v:=F.c.dm_iff F.m F.d v
theorem Fc.lab {n:Nat}{E:Nat→Nat→Prop}{mt:Nat→Int}{D A:Nat→Bool}{bs:Nat→Nat}(F:Fc n E mt D A bs)(v:Nat):gn n E v=if D v=true then 1 else if A v=true then 2 else 0:=by
 unfold gn
 by_cases h:D v=true
 · rw[if_pos h,if_pos ((F.dm v).1 h)]
 · rw[if_neg h,if_neg (fun e=>h ((F.dm v).2 e))]
   by_cases h2:A v=true
   · obtain⟨w,h3,h4⟩:=F.a v h2
     rw[if_pos h2,if_pos ⟨w,(F.dm w).1 h3,h4⟩]
   · rw[if_neg h2,if_neg]
     rintro⟨w,h3,h4⟩
     rcases F.c.ed w v ((F.dm w).2 h3) (F.m.es _ _ h4) with h5|⟨h5,_⟩
     · exact h2 h5
     · exact h h5
theorem Mf.mono {n:Nat}{E E':Nat→Nat→Prop}{mt:Nat→Int}(M:Mf n E mt)(h:∀v w,E v w→E' v w)(hs:∀v w,E' v w→E' w v)(hl:∀v w,E' v w→v<n∧w<n∧v≠w):Mf n E' mt:=
 ⟨M.at_,M.big,M.sy,fun v w e=>⟨(M.ne v w e).1,h _ _ (M.ne v w e).2⟩,hs,hl⟩
theorem Fc.more {n:Nat}{E E':Nat→Nat→Prop}{mt:Nat→Int}{D A:Nat→Bool}{bs:Nat→Nat}(F:Fc n E mt D A bs)(h:∀v w,E v w→E' v w)(hs:∀v w,E' v w→E' w v)(hl:∀v w,E' v w→v<n∧w<n∧v≠w)(he:∀v w,D v=true→E' v w→A w=true∨(D w=true∧bs w=bs v)):Fc n E' mt D A bs where
 m:=F.m.mono h hs hl
 c:=⟨F.c.dn,F.c.an,he,F.c.db,F.c.fr,F.c.am,F.c.dm,F.c.bb⟩
 d:=fun v hv=>by
  obtain⟨mt',h1,h2,h3⟩:=F.d v hv
  exact⟨mt',h1.mono h hs hl,h2,h3⟩
 a:=fun v hv=>by
  obtain⟨w,h1,h2⟩:=F.a v hv
  exact⟨w,h1,h _ _ h2⟩
structure Bsd (N M:Nat)(E1 E2 E:Nat→Nat→Prop):Prop where
 lo:∀v w,v<N→(E v w↔E1 v w)
 hi:∀v w,¬v<N→(E v w↔N≤w∧E2 (v - N) (w - N))
noncomputable def vq (n:Nat)(E:Nat→Nat→Prop)(x:Nat):List Nat:=(List.range n).filter fun v=>decide (gn n E v=x)
theorem kJ {n:Nat}{E:Nat→Nat→Prop}{x v:Nat}:v∈vq n E x↔v<n∧gn n E v=x:=by
 unfold vq;rw[List.mem_filter,List.mem_range,decide_eq_true_iff]
end Go.Ga.Gl
namespace Go.Proofs.Ytmcfdfafeheihaa
open Go Go.Ga Go.Ga.Gl
noncomputable def qr (N:Nat)(es:Es):List Int:=(List.range N).map fun v=>(gn N (ZY es) v:Int)
theorem zbY {N:Nat}{es:Es}{m:List Int}{S:FS}(M:Mf N (ZY es) (mf m))(I:J0 N (ZY es) (mf m) S)(L:Lk (ZY es) S []):zei N S=qr N es:=by
 apply List.map_congr_left
 intro v _
 have:=zgH M I L v
 unfold fLb
 rw[←this]
 split<;>rfl
theorem zeq (N:Nat)(es:Es)(x:Nat):((List.range (qr N es).length).filter fun v=>decide ((qr N es).getD v 0=(x:Int)))=vq N (ZY es) x:=by
 have hl:(qr N es).length=N:=by simp[qr]
 rw[hl]
 refine List.filter_congr fun v hv=>?_
 have hv:=List.mem_range.1 hv
 have:(qr N es).getD v 0=(gn N (ZY es) v:Int):=by simp[qr,hv]
 rw[this]
 exact decide_eq_decide.2 ⟨fun h=>by omega,fun h=>by omega⟩
theorem zld {N:Nat}{es:Es}(g:GR N es){m:List Int}(M:Mf N (ZY es) (mf m))(hml:m.length=N):((List.range N).all fun v=>mOk es m v)=true:=by
 rw[List.all_eq_true]
 intro v hv
 have hv:=List.mem_range.1 hv
 unfold mOk
 rw[qX (by omega)]
 rcases M.at_ v hv with h|⟨w,h,hw⟩
 · rw[h];rfl
 · have hs:=M.sy v w h
   have hadj:=(M.ne v w h).2
   obtain⟨_,_,hne⟩:=M.el v w hadj
   rw[h,Int.toNat_natCast,qX (by omega),hs,decide_eq_true (rfl:(v:Int)=v),Bool.and_true]
   have hmem:Jg (v:Int) (w:Int)∈zD es:=by
    unfold Jg
    have lt:∀a b:Nat,(a,b)∈es→a<b:=fun a b h=>by
     exact(g.ok _ h).1
    rcases hadj with h|h
    · have:=lt _ _ h
      rw[if_neg (by omega)]
      exact List.mem_map.2 ⟨(v,w),h,rfl⟩
    · have:=lt _ _ h
      rw[if_pos (by omega)]
      exact List.mem_map.2 ⟨(w,v),h,rfl⟩
   rw[decide_eq_true hmem,Bool.or_true]
theorem Lg.no {N:Nat}{E:Nat→Nat→Prop}{mt:Nat→Int}(L:Lg N E mt){l:List Nat}(A:Aug N E mt l):False:=by
 obtain⟨M2,hfr,r,hrn,hr1,hr2⟩:=zcv L.1 A (mt':=fun u=>if u∈l then(Yl l u:Int) else mt u) (fun u hu=>if_pos hu) (fun u hu=>if_neg hu)
 have h1:=gp hrn hr1 hr2 hfr
 have h2:=L.2 _ M2
 omega
theorem zh3 {N:Nat}{es:Es}(g:GR N es)(m:List Int)(hml:m.length=N)(hL:Lg N (ZY es) (mf m)):zn Try.prog [] zjk [.agg [.sc (.int .i64 (N:Int)),.imm 2 (Zh (zD es))],.imm 1 (zk m)] [] fun r h'=>r= .tup [.sc (.slice none 0 0),.own (some 1) (zk (qr N es)),.sc (.int .i64 0)]∧h'=[]:=by
 have hN:=g.hn
 have hr:=je g
 have M:=hL.1
 have hm:=zld g M hml
 have hS:zn Try.prog [] zf2 [.imm 1 (Zv (JT N es)),.imm 1 (zk m)] [] fun r h'=>h'=[]∧∃lk:Int,r= .tup [.sc (.slice none 0 0),.own (some 1) (zk (qr N es)),.sc (.int .i64 lk)]:=by
  refine(We (JT N es) (jM N es) hml hN (zfV g) M (zfW es)).mono ?_
  rintro r h' ⟨rfl,lk,⟨l,hA,rfl⟩|⟨S,hI,hLk,rfl⟩⟩
  · exact(Lg.no hL hA).elim
  · exact⟨rfl,lk,by rw[zbY M hI hLk]⟩
 refine zlM rfl ?_
 unfold zkj qj
 refine za fun KY hKY=>?_
 simp only[go_sem,PP]
 apply hKY
 refine zf fun X1 hn1 he1 hr1=>?_
 refine zm fun X2 hn2 he2 hf2 hr2=>?_
 refine za fun KY hKY=>?_
 simp only[go_sem,PO]
 refine zx rfl (by simp only[go_sem]<;>rfl) ((JR N (zD es)).mono ?_)
 rintro rr hh ⟨rfl,rfl⟩
 refine⟨rfl,rfl,rfl,?_⟩
 simp only[go_sem,hr]
 apply hKY
 refine Zw ?_
 refine za fun KY hKY=>?_
 simp only[go_sem,PN]
 refine zx rfl (by simp only[go_sem]<;>rfl) ((Xv g m hml).mono ?_)
 rintro rr hh ⟨rfl,rfl⟩
 refine⟨rfl,rfl,rfl,?_⟩
 simp only[go_sem,hm]
 apply hKY
 refine Zw ?_
 refine zh ?_
 repeat (first|refine hn2 _ ?_|refine he2 _ ?_|refine hf2 _ _ (by decide) ?_|refine hn1 _ ?_|refine he1 _ _ ?_)
 refine za fun KY hKY=>?_
 simp only[go_sem,PM]
 apply zp [] [] true none rfl
 iterate 8 (first|(simp only[go_sem,zq]<;>rfl)|rfl)
 refine(yw g).mono ?_
 rintro _ _ ⟨rfl,rfl⟩
 refine⟨Nat.le_of_ble_eq_true rfl,(fun _=>by simp only[go_sem,Jt,and_self]),?_⟩
 simp only[go_sem,zr,zb.after]
 apply zp [] [] true none rfl
 iterate 8 (first|(simp only[go_sem,zq]<;>rfl)|rfl)
 refine(hS).mono ?_
 rintro _ _ ⟨rfl,lk,rfl⟩
 refine⟨Nat.le_of_ble_eq_true rfl,(fun _=>by simp only[go_sem,Jt,and_self]),?_⟩
 simp only[go_sem,zr,zb.after]
 apply hKY
 refine za fun KY hKY=>?_
 simp only[go_sem,PL]
 apply hKY
 refine zi ?_
 repeat (first|refine hr2 _ ?_|refine hr1 _ ?_)
 simp only[go_sem]
def yp (l:List Int)(v:Nat):Bool:=decide (0≤l.getD v 0)&&(decide (l.getD v 0<l.length)&&(decide (l.getD v 0≠(v:Int))&&decide (l.getD (l.getD v 0).toNat 0=(v:Int))))
def kr (l:List Int)(v:Nat):Bool:=decide ((v:Int)<l.getD v 0)&&(decide (l.getD v 0<l.length)&&decide (l.getD (l.getD v 0).toNat 0=(v:Int)))
theorem kL {l:List Int}{v:Nat}:yp l v=true↔∃w:Nat,l.getD v 0=w∧w<l.length∧w≠v∧l.getD w 0=v:=by
 unfold yp
 simp only[Bool.and_eq_true,decide_eq_true_eq]
 refine⟨fun⟨h1,h2,h3,h4⟩=>⟨(l.getD v 0).toNat,by omega,by omega,by omega,h4⟩,fun⟨w,h1,h2,h3,h4⟩=>?_⟩
 rw[h1,Int.toNat_natCast]
 exact⟨by omega,by omega,by omega,h4⟩
theorem xQ {l:List Int}{v:Nat}:kr l v=true↔∃w:Nat,l.getD v 0=w∧w<l.length∧v<w∧l.getD w 0=v:=by
 unfold kr
 simp only[Bool.and_eq_true,decide_eq_true_eq]
 refine⟨fun⟨h1,h2,h4⟩=>⟨(l.getD v 0).toNat,by omega,by omega,by omega,h4⟩,fun⟨w,h1,h2,h3,h4⟩=>?_⟩
 rw[h1,Int.toNat_natCast]
 exact⟨by omega,by omega,h4⟩
theorem Xm (l:List Int):((List.range l.length).filter (yp l)).length=2*((List.range l.length).filter (kr l)).length:=by
 have hp:((List.range l.length).filter (yp l)).Perm ((List.range l.length).filter (kr l)++((List.range l.length).filter (kr l)).map fun v=>(l.getD v 0).toNat):=by
  refine(List.perm_ext_iff_of_nodup (List.nodup_range.filter _) ?_).2 fun v=>?_
  · refine List.nodup_append.2 ⟨List.nodup_range.filter _,?_,?_⟩
    · refine List.pairwise_map.2 ((List.nodup_range (n:=l.length)).filter (kr l)|>.imp_of_mem ?_)
      intro a b ha hb hne he
      obtain⟨w,h1,_,_,h4⟩:=xQ.1 (List.mem_filter.1 ha).2
      obtain⟨u,g1,_,_,g4⟩:=xQ.1 (List.mem_filter.1 hb).2
      rw[h1,g1,Int.toNat_natCast,Int.toNat_natCast] at he
      subst he;omega
    · intro a ha b hb hab
      subst hab
      obtain⟨w,h1,_,h3,h4⟩:=xQ.1 (List.mem_filter.1 ha).2
      obtain⟨u,hu,rfl⟩:=List.mem_map.1 hb
      obtain⟨x,g1,_,g3,g4⟩:=xQ.1 (List.mem_filter.1 hu).2
      simp only[g1,Int.toNat_natCast] at h1 h3 h4
      omega
  · rw[List.mem_append,List.mem_filter,List.mem_filter,List.mem_map,List.mem_range,kL,xQ]
    constructor
    · rintro⟨hv,w,h1,h2,h3,h4⟩
      rcases Nat.lt_or_ge v w with h|h
      · exact .inl ⟨hv,w,h1,h2,h,h4⟩
      · refine .inr ⟨w,List.mem_filter.2 ⟨List.mem_range.2 h2,xQ.2 ⟨v,h4,hv,by omega,h1⟩⟩,by rw[h4];rfl⟩
    · rintro(⟨hv,w,h1,h2,h3,h4⟩|⟨u,hu,rfl⟩)
      · exact⟨hv,w,h1,h2,by omega,h4⟩
      · obtain⟨hu1,hu2⟩:=List.mem_filter.1 hu
        obtain⟨x,g1,g2,g3,g4⟩:=xQ.1 hu2
        rw[g1,Int.toNat_natCast]
        exact⟨g2,u,g4,List.mem_range.1 hu1,by omega,g1⟩
 rw[hp.length_eq,List.length_append,List.length_map];omega
theorem zdZ (l:List Int){v:Nat}(hv:v<l.length):zn Try.prog [] zf5 [.imm 1 (zk l),.sc (.int .i64 (v:Int))] [] fun r h'=>r= .sc (.bool (yp l v))∧h'=[]:=by
 refine zlQ rfl ?_
 unfold zkn W6
 refine za fun KY hKY=>?_
 simp only[go_sem,oe]
 apply hKY
 refine za fun KY hKY=>?_
 simp only[go_sem,P9,zg hv,hv,zj]
 apply hKY
 unfold yp
 by_cases h1:0≤l.getD v 0
 · have d1:decide (0≤l.getD v 0)=true:=decide_eq_true h1
   by_cases h2:l.getD v 0<l.length
   · have d2:decide (l.getD v 0<(l.length:Int))=true:=decide_eq_true h2
     by_cases h3:l.getD v 0=(v:Int)
     · have d3:decide (l.getD v 0≠(v:Int))=false:=decide_eq_false fun h=>h h3
       refine za fun KY hKY=>?_
       simp only[go_sem,yK,d1,d2,d3,zj]
       apply hKY
       refine zi ?_
       simp only[go_sem]
       rw[d1,d2,d3];rfl
     · have d3:decide (l.getD v 0≠(v:Int))=true:=decide_eq_true h3
       obtain⟨w,hw⟩:∃w:Nat,l.getD v 0=w:=⟨(l.getD v 0).toNat,by omega⟩
       have hwl:w<l.length:=by omega
       have hgw:l.getD (l.getD v 0).toNat 0=l.getD w 0:=by rw[hw];rfl
       rw[d1,d2,d3,hgw]
       rw[hw] at d1 d2 d3
       simp only[hw]
       refine za fun KY hKY=>?_
       simp only[go_sem,yK,d1,d2,d3,zj,zg hwl,hwl]
       apply hKY
       refine zi ?_
       simp only[go_sem]
   · have d2:decide (l.getD v 0<(l.length:Int))=false:=decide_eq_false h2
     refine za fun KY hKY=>?_
     simp only[go_sem,yK,d1,d2,zj]
     apply hKY
     refine zi ?_
     simp only[go_sem]
     rw[d1,d2];rfl
 · have d1:decide (0≤l.getD v 0)=false:=decide_eq_false h1
   refine za fun KY hKY=>?_
   simp only[go_sem,yK,d1]
   apply hKY
   refine zi ?_
   simp only[go_sem]
   rw[d1];rfl
def x8 (φ:Nat→Bool)(k:Nat):List Nat:=(List.range k).filter φ
theorem xE (φ:Nat→Bool)(k:Nat):(x8 φ k).length≤k:=Nat.le_trans (List.length_filter_le _ _) (by simp)
theorem KK (φ:Nat→Bool)(k:Nat):x8 φ (k+1)=x8 φ k++if φ k=true then [k] else []:=by
 unfold x8
 rw[List.range_succ,List.filter_append];congr 1;simp[List.filter_cons]
theorem zhF (g:Nat)(φ:Nat→Bool)(l:List Int)(hl:l.length≤1000000000)(hg:∀v,v<l.length→zn Try.prog [] g [.imm 1 (zk l),.sc (.int .i64 (v:Int))] [] fun r h'=>r= .sc (.bool (φ v))∧h'=[]):zn Try.prog [] zjn [.imm 1 (zk l),.fn (.func g) [] []] [] fun r h'=>r= .own (some 1) (zH (x8 φ l.length))∧h'=[]:=by
 refine zlR rfl ?_
 unfold zko JN
 refine za fun KY hKY=>?_
 simp only[go_sem,oz]
 apply hKY
 refine za fun KY hKY=>?_
 simp only[go_sem,ou]
 apply hKY
 refine Jq [0,5] 1 (by simp only[go_sem]) ?_
 simp only[go_sem]
 refine zf fun X1 hn1 he1 hr1=>?_
 refine za fun KY hKY=>?_
 simp only[go_sem,ot,zj]
 apply hKY
 refine zm fun X2 hn2 he2 hf2 hr2=>?_
 try simp only[go_sem]
 refine zQ (α:=Nat) [6,10,15] (fun k=>[(5,.own (some 1) (zH (x8 φ k))),(9,.sc (.int .i64 (k:Int)))]) (fun k=>[]) (fun k q=>k≤l.length∧q=l.length - k) (0) (l.length) rfl (by first|(simp only[go_sem,zd,ze];done)|with_reducible rfl|rfl) (⟨by omega,rfl⟩) ?_
 rintro k q ⟨hk,rfl⟩ X3 hn3 he3 hr3
 simp only[go_sem,zd,ze]
 refine za fun KY hKY=>?_
 simp only[go_sem,oq]
 apply hKY
 refine zf fun X4 hn4 he4 hr4=>?_
 rcases Nat.lt_or_ge k l.length with hk2|hk2
 · refine ZC ?_
   refine zh ?_
   repeat (first|refine hn4 _ ?_|refine he4 _ _ ?_|refine he3 _ _ ?_|refine hn2 _ ?_|refine he2 _ ?_|refine hf2 _ _ (by decide) ?_|refine hn1 _ ?_|refine he1 _ _ ?_)
   refine zf fun X5 hn5 he5 hr5=>?_
   refine zm fun X6 hn6 he6 hf6 hr6=>?_
   refine za fun KY hKY=>?_
   simp only[go_sem,oo]
   apply hKY
   have hfl:=xE φ k
   have hby:((x8 φ k).length+1)*8≤140737488355328:=by omega
   have hst:=KK φ k
   refine za fun KY hKY=>?_
   simp only[go_sem,om]
   refine zx rfl (by simp only[go_sem]<;>rfl) ((hg k hk2).mono ?_)
   rintro rr hh ⟨rfl,rfl⟩
   refine⟨rfl,rfl,rfl,?_⟩
   simp only[go_sem]
   apply hKY
   cases hp:φ k with
   | true=>
     rw[hp,if_pos rfl] at hst
     refine ZC ?_
     refine zo fun KY hKY=>?_
     simp only[go_sem,oh,jf,hby,←hst]
     apply hKY
     repeat (first|refine hn6 _ ?_|refine he6 _ ?_|refine hf6 _ _ (by decide) ?_|refine hn5 _ ?_|refine he5 _ _ ?_|refine hn4 _ ?_|refine he4 _ _ ?_|refine he3 _ _ ?_|refine hn2 _ ?_|refine he2 _ ?_|refine hf2 _ _ (by decide) ?_|refine hn1 _ ?_|refine he1 _ _ ?_)
     refine zo fun KY hKY=>?_
     simp only[go_sem,uL,zL (show k<4611686018427387904 by omega)]
     apply hKY
     repeat (first|refine hn6 _ ?_|refine he6 _ ?_|refine hf6 _ _ (by decide) ?_|refine hn5 _ ?_|refine he5 _ _ ?_|refine hn4 _ ?_|refine he4 _ _ ?_)
     refine hn3 _ (k+1) (l.length - (k+1)) (by omega) (by first|(simp only[go_sem,zd,ze];done)|with_reducible rfl|rfl) ?_
     exact⟨hk2,rfl⟩
   | false=>
     rw[hp,if_neg (by decide),List.append_nil] at hst
     refine Zw ?_
     refine zh ?_
     repeat (first|refine hn6 _ ?_|refine he6 _ ?_|refine hf6 _ _ (by decide) ?_|refine hn5 _ ?_|refine he5 _ _ ?_|refine hn4 _ ?_|refine he4 _ _ ?_|refine he3 _ _ ?_|refine hn2 _ ?_|refine he2 _ ?_|refine hf2 _ _ (by decide) ?_|refine hn1 _ ?_|refine he1 _ _ ?_)
     refine zo fun KY hKY=>?_
     simp only[go_sem,uL,zL (show k<4611686018427387904 by omega)]
     apply hKY
     repeat (first|refine hn6 _ ?_|refine he6 _ ?_|refine hf6 _ _ (by decide) ?_|refine hn5 _ ?_|refine he5 _ _ ?_|refine hn4 _ ?_|refine he4 _ _ ?_)
     refine hn3 _ (k+1) (l.length - (k+1)) (by omega) (by first|(simp only[go_sem,zd,ze,hst];done)|with_reducible rfl|rfl) ?_
     exact⟨hk2,rfl⟩
 refine Zw ?_
 refine zy ?_
 repeat (first|refine hn4 _ ?_|refine he4 _ _ ?_|refine he3 _ _ ?_|refine hn2 _ ?_|refine he2 _ ?_|refine hf2 _ _ (by decide) ?_|refine hn1 _ ?_|refine he1 _ _ ?_)
 obtain rfl:k=l.length:=by omega
 refine za fun KY hKY=>?_
 simp only[go_sem,og]
 apply hKY
 refine zi ?_
 repeat (first|refine hr4 _ ?_|refine hr3 _ ?_|refine hr2 _ ?_|refine hr1 _ ?_)
 simp only[go_sem]
theorem Xt (l:List Int)(hl:l.length≤1000000000):zn Try.prog [] zjB [.imm 1 (zk l)] [] fun r h'=>r= .sc (.int .i64 ((x8 (kr l) l.length).length:Nat))∧h'=[]:=by
 have hc:(x8 (yp l) l.length).length=2*(x8 (kr l) l.length).length:=Xm l
 have hle:=xE (kr l) l.length
 have hq:(((x8 (yp l) l.length).length:Nat):Int).tdiv 2=((x8 (kr l) l.length).length:Nat):=by rw[hc,Int.tdiv_eq_ediv_of_nonneg (by omega)];omega
 have hq2:IntKind.i64.wrap (((x8 (kr l) l.length).length:Nat):Int)=((x8 (kr l) l.length).length:Nat):=by rw[IntWalk.i64_in _ (by omega)]
 refine zl6 rfl ?_
 unfold zkD U7
 refine za fun KY hKY=>?_
 simp only[go_sem,zav]
 apply hKY
 refine za fun KY hKY=>?_
 simp only[go_sem,zau]
 refine zx rfl (by simp only[go_sem]<;>rfl) ((zhF zf5 (yp l) l hl fun v hv=>zdZ l hv).mono ?_)
 rintro rr hh ⟨rfl,rfl⟩
 refine⟨?_,?_,?_,?_⟩
 iterate 3 (first|rfl|simp only[go_sem])
 simp only[go_sem,zU,hq,hq2]
 apply hKY
 refine zi ?_
 simp only[go_sem]
theorem zcj {N:Nat}{es:Es}(g:GR N es):zn Try.prog [] zjx [.agg [.sc (.int .i64 (N:Int)),.imm 2 (Zh (zD es))]] [] fun r h'=>∃(m:List Int),m.length=N∧(∃D A bs,Fc N (ZY es) (mf m) D A bs)∧((N=0∧r= .tup [.own (some 1) (zk (qr N es)),.own (some 1) [],.sc (.int .i64 0)]∧h'=[])∨(0<N∧r= .tup [.own (some 1) (zk (qr N es)),.sl 0 0 N 1,.sc (.int .i64 0)]∧h'=[some (zk m)])):=by
 have hP:=fun m hml hL=>zh3 g m hml hL
 refine zl2 rfl ?_
 unfold zkz QY
 refine za fun KY hKY=>?_
 simp only[go_sem,OZ]
 apply hKY
 refine za fun KY hKY=>?_
 simp only[go_sem,OY]
 apply zp [] [] false none rfl
 iterate 8 (first|(simp only[go_sem,zq]<;>rfl)|rfl)
 refine(XC g).mono ?_
 rintro _ _ ⟨m,S,a,b,hml,M,I,L,⟨h0,rfl,rfl⟩|⟨h0,rfl,rfl⟩⟩
 · have hLg:=zc0 M I L
   have hm0:zk m=[]:=by
    rw[List.length_eq_zero_iff.1 (hml.trans h0)];rfl
   have hP1:=hP m hml hLg
   rw[hm0] at hP1
   refine⟨Nat.le_of_ble_eq_true rfl,(fun hh=>by cases hh),?_⟩
   simp only[go_sem,zr,zb.after]
   apply hKY
   refine zf fun X1 hn1 he1 hr1=>?_
   refine za fun KY hKY=>?_
   simp only[go_sem,u6]
   apply hKY
   refine Zw ?_
   refine zh ?_
   repeat (first|refine hn1 _ ?_|refine he1 _ _ ?_)
   refine za fun KY hKY=>?_
   simp only[go_sem,u5]
   apply zp [] [] true none rfl
   iterate 8 (first|(simp only[go_sem,zq]<;>rfl)|rfl)
   refine(hP1).mono ?_
   rintro _ _ ⟨rfl,rfl⟩
   refine⟨Nat.le_of_ble_eq_true rfl,(fun _=>by simp only[go_sem,Jt,and_self]),?_⟩
   simp only[go_sem,zr,zb.after]
   apply hKY
   refine za fun KY hKY=>?_
   simp only[go_sem,u4]
   apply hKY
   refine zi ?_
   repeat (first|refine hr1 _ ?_)
   simp only[go_sem]
   exact⟨m,hml,⟨_,_,_,xK M I L⟩,.inl h0⟩
 · have hLg:=zc0 M I L
   have hP1:=hP m hml hLg
   have htk:List.take N (zk m)=zk m:=List.take_of_length_le (by rw[zj];omega)
   refine⟨Nat.le_of_ble_eq_true rfl,(fun hh=>by cases hh),?_⟩
   simp only[go_sem,zr,zb.after]
   apply hKY
   refine zf fun X2 hn2 he2 hr2=>?_
   refine za fun KY hKY=>?_
   simp only[go_sem,u6]
   apply hKY
   refine Zw ?_
   refine zh ?_
   repeat (first|refine hn2 _ ?_|refine he2 _ _ ?_)
   refine za fun KY hKY=>?_
   simp only[go_sem,u5]
   refine zx rfl (by simp only[go_sem,hml,Nat.le_refl,htk]<;>rfl) ((hP1).mono ?_)
   rintro rr hh ⟨rfl,rfl⟩
   refine⟨?_,?_,?_,?_⟩
   iterate 3 (first|rfl|simp only[go_sem])
   simp only[go_sem]
   apply hKY
   refine za fun KY hKY=>?_
   simp only[go_sem,u4]
   apply hKY
   refine zi ?_
   repeat (first|refine hr2 _ ?_)
   simp only[go_sem]
   exact⟨m,hml,⟨_,_,_,xK M I L⟩,.inr ⟨h0,rfl⟩⟩
def zmD (l:List Int)(x:Int):List Nat:=x8 (fun v=>decide (l.getD v 0=x)) l.length
theorem zhd (l:List Int)(x:Int)(hl:l.length≤100000):zn Try.prog [] zjw [.imm 1 (zk l),.sc (.int .i64 x)] [] fun r h'=>r= .own (some 1) (zH (zmD l x))∧h'=[]:=by
 refine zl1 rfl ?_
 unfold zky JO
 refine za fun KY hKY=>?_
 simp only[go_sem,OX]
 apply hKY
 refine za fun KY hKY=>?_
 simp only[go_sem,OW]
 apply hKY
 refine Jq [0,5] 1 (by simp only[go_sem]) ?_
 simp only[go_sem]
 rw[show zc.own (some 1) []= .own (some 1) (zH (x8 (fun v=>decide (l.getD v 0=x)) 0)) from rfl]
 refine zf fun X1 hn1 he1 hr1=>?_
 refine za fun KY hKY=>?_
 simp only[go_sem,OV,zj]
 apply hKY
 refine zm fun X2 hn2 he2 hf2 hr2=>?_
 try simp only[go_sem]
 refine zQ (α:=Nat) [6,7,11,17] (fun k=>[(5,.own (some 1) (zH (x8 (fun v=>decide (l.getD v 0=x)) k))),(10,.sc (.int .i64 (k:Int)))]) (fun k=>[]) (fun k q=>k≤l.length∧q=l.length - k) (0) (l.length) rfl (by first|(simp only[go_sem,zd,ze];done)|with_reducible rfl|rfl) (⟨Nat.zero_le _,rfl⟩) ?_
 rintro k q ⟨hk,rfl⟩ X3 hn3 he3 hr3
 simp only[go_sem,zd,ze]
 have hsl:=xE (fun v=>decide (l.getD v 0=x)) k
 have hst:=KK (fun v=>decide (l.getD v 0=x)) k
 rcases Nat.lt_or_ge k l.length with hk2|hk2
 · have hdx:decide ((k:Int)<(l.length:Int))=true:=decide_eq_true (by omega)
   have hg:(zk l)[k]?=some (.sc (.int .i64 (l.getD k 0))):=zg hk2
   refine za fun KY hKY=>?_
   simp only[go_sem,u0,hdx]
   apply hKY
   refine zf fun X4 hn4 he4 hr4=>?_
   refine ZC ?_
   refine zh ?_
   repeat (first|refine hn4 _ ?_|refine he4 _ _ ?_|refine he3 _ _ ?_|refine hn2 _ ?_|refine he2 _ ?_|refine hf2 _ _ (by decide) ?_|refine hn1 _ ?_|refine he1 _ _ ?_)
   refine zf fun X5 hn5 he5 hr5=>?_
   refine zm fun X6 hn6 he6 hf6 hr6=>?_
   refine za fun KY hKY=>?_
   simp only[go_sem,OU,hg,zj,hk2]
   apply hKY
   by_cases hx:l.getD k 0=x
   · have hd:decide (l.getD k 0=x)=true:=decide_eq_true hx
     rw[hd,if_pos rfl] at hst
     refine za fun KY hKY=>?_
     simp only[go_sem,uZ,hd]
     apply hKY
     refine ZC ?_
     refine zo fun KY hKY=>?_
     simp only[go_sem,OT,jf,zU,←hst,(show((x8 (fun v=>decide (l.getD v 0=x)) k).length+1)*8≤140737488355328 by omega)]
     apply hKY
     repeat (first|refine hn6 _ ?_|refine he6 _ ?_|refine hf6 _ _ (by decide) ?_|refine hn5 _ ?_|refine he5 _ _ ?_|refine hn4 _ ?_|refine he4 _ _ ?_|refine he3 _ _ ?_|refine hn2 _ ?_|refine he2 _ ?_|refine hf2 _ _ (by decide) ?_|refine hn1 _ ?_|refine he1 _ _ ?_)
     refine zo fun KY hKY=>?_
     simp only[go_sem,uY,zL (show k<4611686018427387904 by omega)]
     apply hKY
     repeat (first|refine hn6 _ ?_|refine he6 _ ?_|refine hf6 _ _ (by decide) ?_|refine hn5 _ ?_|refine he5 _ _ ?_|refine hn4 _ ?_|refine he4 _ _ ?_)
     refine hn3 _ (k+1) (l.length - (k+1)) (by omega) (by first|(simp only[go_sem,zd,ze];done)|with_reducible rfl|rfl) ?_
     exact⟨hk2,rfl⟩
   · have hd:decide (l.getD k 0=x)=false:=decide_eq_false hx
     rw[hd,if_neg (by simp),List.append_nil] at hst
     refine za fun KY hKY=>?_
     simp only[go_sem,uZ,hd]
     apply hKY
     refine Zw ?_
     refine zh ?_
     repeat (first|refine hn6 _ ?_|refine he6 _ ?_|refine hf6 _ _ (by decide) ?_|refine hn5 _ ?_|refine he5 _ _ ?_|refine hn4 _ ?_|refine he4 _ _ ?_|refine he3 _ _ ?_|refine hn2 _ ?_|refine he2 _ ?_|refine hf2 _ _ (by decide) ?_|refine hn1 _ ?_|refine he1 _ _ ?_)
     refine zo fun KY hKY=>?_
     simp only[go_sem,uY,zL (show k<4611686018427387904 by omega)]
     apply hKY
     repeat (first|refine hn6 _ ?_|refine he6 _ ?_|refine hf6 _ _ (by decide) ?_|refine hn5 _ ?_|refine he5 _ _ ?_|refine hn4 _ ?_|refine he4 _ _ ?_)
     refine hn3 _ (k+1) (l.length - (k+1)) (by omega) (by first|(simp only[go_sem,zd,ze,hst];done)|with_reducible rfl|rfl) ?_
     exact⟨hk2,rfl⟩
 have hdx:decide ((k:Int)<(l.length:Int))=false:=decide_eq_false (by omega)
 obtain rfl:k=l.length:=by omega
 refine za fun KY hKY=>?_
 simp only[go_sem,u0,hdx]
 apply hKY
 refine zf fun X7 hn7 he7 hr7=>?_
 refine Zw ?_
 refine zy ?_
 repeat (first|refine hn7 _ ?_|refine he7 _ _ ?_|refine he3 _ _ ?_|refine hn2 _ ?_|refine he2 _ ?_|refine hf2 _ _ (by decide) ?_|refine hn1 _ ?_|refine he1 _ _ ?_)
 refine za fun KY hKY=>?_
 simp only[go_sem,OS]
 apply hKY
 refine zi ?_
 repeat (first|refine hr7 _ ?_|refine hr3 _ ?_|refine hr2 _ ?_|refine hr1 _ ?_)
 simp only[go_sem]
 rfl
end Go.Proofs.Ytmcfdfafeheihaa
set_option maxHeartbeats 8000000
namespace Go.Proofs.Ytmcfdfafeheihaa
open Go Go.Ga Go.Ga.Gl
theorem zh2 (N:Nat)(E:Nat→Nat→Prop)(k:Nat):(vq N E k).length≤N:=by
 unfold vq
 exact Nat.le_trans (List.length_filter_le _ _) (by simp)
theorem zfI {N:Nat}{E:Nat→Nat→Prop}{mt:Nat→Int}{D A:Nat→Bool}{bs:Nat→Nat}(F:Fc N E mt D A bs){v:Nat}:v∈vq N E 2↔A v=true:=by
 rw[kJ,F.lab v]
 constructor
 · rintro⟨_,h⟩
   by_cases hd:D v=true
   · rw[if_pos hd] at h;omega
   · rw[if_neg hd] at h
     by_cases ha:A v=true
     · exact ha
     · rw[if_neg ha] at h;omega
 · intro h
   obtain⟨h1,h2⟩:=F.c.an v h
   exact⟨h1,by rw[if_neg (by rw[h2];simp),if_pos h]⟩
def yF (l:List Nat):List Int:=l.map fun x:Nat=>(x:Int)
theorem zd9 (l:List Nat):zH l=zk (yF l):=Wr l
def JZ (n:Int)(es:List (Int×Int))(b:List Int):Int:=bif Zc n es then(bif b.all (fun v=>decide (0≤v)&&decide (v<n)) then(bif decide b.Nodup then 0 else 6) else 4) else 3
def BP (n:Int)(es:List (Int×Int))(b:List Int)(x e:Int):Prop:=(JZ n es b≠0∧x=0∧e=JZ n es b)∨(JZ n es b=0∧∃ps,xz n es b ps∧x=(Zg ps:Int) - b.length∧e=0)
theorem BP.unique {n:Int}{es:List (Int×Int)}{b:List Int}{x e y f:Int}(h:BP n es b x e)(h':BP n es b y f):x=y∧e=f:=by
 rcases h with⟨h1,rfl,rfl⟩|⟨h1,ps,hp,rfl,rfl⟩
 · rcases h' with⟨_,rfl,rfl⟩|⟨h2,_⟩
   · exact⟨rfl,rfl⟩
   · exact absurd h2 h1
 · rcases h' with⟨h2,_⟩|⟨_,qs,hq,rfl,rfl⟩
   · exact absurd h1 h2
   · obtain rfl:=hp.unique hq;exact⟨rfl,rfl⟩
theorem zeB (c:Nat)(p:List Nat)(hc:c≤100000)(hp:p.length≤100000):zn Try.prog [] zjl [.ptr 0 0,.imm 1 (zH p)] [some [.sc (.int .i64 (c:Int))]] fun r h'=>r= .tup []∧h'=[some [.sc (.int .i64 ((c+p.length%2:Nat):Int))]]:=by
 have hm:(p.length:Int).tmod 2=((p.length%2:Nat):Int):=by
  rw[Int.tmod_eq_emod_of_nonneg (by omega)];omega
 have ha:IntKind.i64.wrap ((c:Int)+((p.length%2:Nat):Int))=((c+p.length%2:Nat):Int):=by
  rw[IntWalk.i64_in _ (by omega)];omega
 refine zlO rfl ?_
 unfold zkl zct
 refine zo fun KY hKY=>?_
 simp only[go_sem,P6,zU,hm,ha]
 apply hKY
 simp only[go_sem]
theorem zgc {N:Nat}{es:Es}(g:GR N es)(b:List Int)(hb:b.length≤1000000):zn Try.prog [] zjz [.imm 1 (Zv (JT N es)),.imm 1 (zk b)] [] fun r h'=>(∃ps,Zd N es (fun v=>(v:Int)∈b) ps∧r= .sc (.int .i64 ((Zg ps:Int) - b.length)))∧h'=[]:=by
 have hN:=g.hn
 refine zn.trim ?_
 refine zl4 rfl ?_
 unfold zkB JB
 refine za fun KY hKY=>?_
 simp only[go_sem,zao]
 apply hKY
 refine za fun KY hKY=>?_
 simp only[go_sem,zan]
 apply hKY
 refine Wd [0,5] (by simp only[go_sem];rfl) ?_
 simp only[go_sem]
 refine za fun KY hKY=>?_
 simp only[go_sem,zam]
 apply hKY
 refine zf fun X1 hn1 he1 hr1=>?_
 refine za fun KY hKY=>?_
 simp only[go_sem,zal]
 refine zx rfl (by simp only[go_sem]<;>rfl) ((zk6 g b (by omega)).mono ?_)
 rintro rr hh ⟨⟨ps,hps,rfl⟩,rfl⟩
 refine⟨?_,?_,?_,?_⟩
 iterate 3 (first|rfl|simp only[go_sem])
 simp only[go_sem]
 apply hKY
 refine jk [0,15] (by simp only[go_sem];rfl) ?_
 simp only[go_sem]
 have hpl:=Xk hps
 have hpe:=fun p hp=>vu hps (p:=p) hp
 have hoc:=fun k=>xF ps k (Nat.le_trans hpl hN)
 refine zm fun X2 hn2 he2 hf2 hr2=>?_
 try simp only[go_sem]
 refine zQ (α:=Nat) [8,18] (fun k=>[(17,.sc (.int .i64 (k:Int)))]) (fun k=>[some [.sc (.int .i64 (Zg (ps.take k):Int))]]) (fun k q=>k≤ps.length∧q=ps.length - k) (0) (ps.length) rfl (by first|(simp only[go_sem,zd,ze];done)|with_reducible rfl|rfl) (⟨by omega,rfl⟩) ?_
 rintro k q ⟨hk,rfl⟩ X3 hn3 he3 hr3
 simp only[go_sem,zd,ze]
 refine za fun KY hKY=>?_
 simp only[go_sem,zak]
 apply hKY
 refine zf fun X4 hn4 he4 hr4=>?_
 rcases Nat.lt_or_ge k ps.length with hk2|hk2
 · refine ZC ?_
   refine zh ?_
   repeat (first|refine hn4 _ ?_|refine he4 _ _ ?_|refine he3 _ _ ?_|refine hn2 _ ?_|refine he2 _ ?_|refine hf2 _ _ (by decide) ?_|refine hn1 _ ?_|refine he1 _ _ ?_)
   refine zf fun X5 hn5 he5 hr5=>?_
   refine zm fun X6 hn6 he6 hf6 hr6=>?_
   have hx:ps[k]?=some ps[k]:=List.getElem?_eq_getElem hk2
   have hy:(ps[k]).length≤4096:=Nat.le_trans (hpe _ (List.getElem_mem hk2)) hN
   generalize ps[k]=p at hx hy
   have hst:=KW ps k p hx
   have h1:=hoc k
   refine za fun KY hKY=>?_
   simp only[go_sem,zaj,Qb hx,hk2,qe]
   apply hKY
   refine zo fun KY hKY=>?_
   simp only[go_sem,zai]
   apply zp [] [0] false none rfl
   iterate 8 (first|(simp only[go_sem,zq]<;>rfl)|rfl)
   refine(zeB (Zg (ps.take k)) p (by omega) (by omega)).mono ?_
   rintro _ _ ⟨rfl,rfl⟩
   refine⟨Nat.le_of_ble_eq_true rfl,(fun hh=>by cases hh),?_⟩
   simp only[go_sem,zr,zb.after,←hst]
   apply hKY
   repeat (first|refine hn6 _ ?_|refine he6 _ ?_|refine hf6 _ _ (by decide) ?_|refine hn5 _ ?_|refine he5 _ _ ?_|refine hn4 _ ?_|refine he4 _ _ ?_|refine he3 _ _ ?_|refine hn2 _ ?_|refine he2 _ ?_|refine hf2 _ _ (by decide) ?_|refine hn1 _ ?_|refine he1 _ _ ?_)
   refine zo fun KY hKY=>?_
   simp only[go_sem,zah,zL (show k<4611686018427387904 by omega)]
   apply hKY
   repeat (first|refine hn6 _ ?_|refine he6 _ ?_|refine hf6 _ _ (by decide) ?_|refine hn5 _ ?_|refine he5 _ _ ?_|refine hn4 _ ?_|refine he4 _ _ ?_)
   refine hn3 _ (k+1) (ps.length - (k+1)) (by omega) (by first|(simp only[go_sem,zd,ze];done)|with_reducible rfl|rfl) ?_
   exact⟨hk2,rfl⟩
 refine Zw ?_
 refine zy ?_
 repeat (first|refine hn4 _ ?_|refine he4 _ _ ?_|refine he3 _ _ ?_|refine hn2 _ ?_|refine he2 _ ?_|refine hf2 _ _ (by decide) ?_|refine hn1 _ ?_|refine he1 _ _ ?_)
 obtain rfl:k=ps.length:=by omega
 rw[List.take_length]
 have h1:=hoc ps.length
 rw[List.take_length] at h1
 have hw:IntKind.i64.wrap ((Zg ps:Int) - (b.length:Int))=(Zg ps:Int) - b.length:=by rw[IntWalk.i64_in _ (by omega)]
 refine za fun KY hKY=>?_
 simp only[go_sem,zag,zj,hw]
 apply hKY
 refine zi ?_
 repeat (first|refine hr4 _ ?_|refine hr3 _ ?_|refine hr2 _ ?_|refine hr1 _ ?_)
 simp only[go_sem]
 exact⟨ps,hps,rfl⟩
def Qa (N:Nat)(b:List Int):List Bool:=(List.range N).map fun v:Nat=>decide ((v:Int)∈b)
theorem vk (N:Nat)(b:List Int):(Qa N b).length=N:=by simp[Qa]
theorem zdF {N:Nat}(b:List Int){v:Nat}(h:v<N):(Qa N b).getD v false=decide ((v:Int)∈b):=by simp[Qa,h]
theorem zdE {N:Nat}(b:List Int)(v:Nat):(Qa N b).set v true=Qa N (b++[(v:Int)]):=by
 apply List.ext_getElem
 · simp[Qa]
 · intro i h1 h2
   simp only[Qa,List.getElem_set,List.getElem_map,List.getElem_range]
   by_cases h:v=i
   · subst h;simp
   · rw[if_neg h]
     congr 1
     simp[show¬(i:Int)=v by omega]
theorem inB {n:Int}{b:List Int}{k:Nat}(h:k<b.length)(hf:¬(0≤b.getD k 0∧b.getD k 0<n)):(b.all fun v=>decide (0≤v)&&decide (v<n))=false:=by
 rw[Bool.eq_false_iff];intro h'
 rw[List.all_eq_true] at h'
 have:=h' (b.getD k 0) (by rw[List.getD_eq_getElem?_getD,List.getElem?_eq_getElem h];exact List.getElem_mem h)
 rw[Bool.and_eq_true,decide_eq_true_iff,decide_eq_true_iff] at this
 exact hf this
theorem zcU {n:Int}{b:List Int}(h:∀k,k<b.length→0≤b.getD k 0∧b.getD k 0<n):(b.all fun v=>decide (0≤v)&&decide (v<n))=true:=by
 rw[List.all_eq_true]
 intro x hx
 obtain⟨i,hi,rfl⟩:=List.mem_iff_getElem.1 hx
 have:=h i hi
 rw[List.getD_eq_getElem?_getD,List.getElem?_eq_getElem hi] at this
 rw[Bool.and_eq_true,decide_eq_true_iff,decide_eq_true_iff];exact this
theorem Wb {b:List Int}{k:Nat}(h:k<b.length):b.take (k+1)=b.take k++[b.getD k 0]:=by
 rw[List.take_add_one,List.getElem?_eq_getElem h,List.getD_eq_getElem?_getD,List.getElem?_eq_getElem h];rfl
theorem K0 {b:List Int}{k:Nat}(h:k<b.length)(hm:b.getD k 0∈b.take k):¬b.Nodup:=fun hn=>by
 have h1:(b.take (k+1)).Nodup:=hn.sublist (List.take_sublist _ _)
 rw[Wb h,List.nodup_append] at h1
 exact h1.2.2 _ hm _ (List.mem_singleton.2 rfl) rfl
theorem vB {b:List Int}{k:Nat}(h:k<b.length)(hn:(b.take k).Nodup)(hm:b.getD k 0∉b.take k):(b.take (k+1)).Nodup:=by
 rw[Wb h,List.nodup_append]
 refine⟨hn,List.nodup_cons.2 ⟨by simp,List.nodup_nil⟩,fun a ha c hc e=>?_⟩
 rw[List.mem_singleton] at hc
 subst hc;subst e;exact hm ha
theorem za8 (n:Int)(es:List (Int×Int))(b:List Int)(hb:b.length≤1000000):zn Try.prog [] zjK [.agg [.sc (.int .i64 n),.imm 2 (Zh es)],.imm 1 (zk b)] [] fun r h'=>(∃x e,BP n es b x e∧r= .tup [.sc (.int .i64 x),.sc (.int .i64 e)])∧h'=[]:=by
 refine zn.trim ?_
 cases hr:Zc n es with
 | false=>
   have he:JZ n es b=3:=by simp[JZ,hr]
   refine zgC rfl ?_
   unfold zhb ZS
   refine za fun KY hKY=>?_
   simp only[go_sem,Ur]
   apply hKY
   refine zf fun X1 hn1 he1 hr1=>?_
   refine za fun KY hKY=>?_
   simp only[go_sem,Uq]
   refine zx rfl (by simp only[go_sem]<;>rfl) ((JR n es).mono ?_)
   rintro rr hh ⟨rfl,rfl⟩
   refine⟨rfl,rfl,rfl,?_⟩
   simp only[go_sem,hr]
   apply hKY
   refine ZC ?_
   refine za fun KY hKY=>?_
   simp only[go_sem,za4]
   apply hKY
   refine zi ?_
   repeat (first|refine hr1 _ ?_)
   simp only[go_sem]
   exact⟨0,3,.inl ⟨by rw[he];decide,rfl,he.symm⟩,rfl⟩
 |true=>
 obtain⟨N,es,rfl,rfl,g⟩:=y4 hr
 have hN:=g.hn
 refine zgC rfl ?_
 unfold zhb ZS
 refine za fun KY hKY=>?_
 simp only[go_sem,Ur]
 apply hKY
 refine zf fun X2 hn2 he2 hr2=>?_
 refine za fun KY hKY=>?_
 simp only[go_sem,Uq]
 refine zx rfl (by simp only[go_sem]<;>rfl) ((JR N (zD es)).mono ?_)
 rintro rr hh ⟨rfl,rfl⟩
 refine⟨rfl,rfl,rfl,?_⟩
 simp only[go_sem,hr]
 apply hKY
 refine Zw ?_
 refine zh ?_
 repeat (first|refine hn2 _ ?_|refine he2 _ _ ?_)
 refine zf fun X3 hn3 he3 hr3=>?_
 refine za fun KY hKY=>?_
 simp only[go_sem,za3,zj]
 apply hKY
 refine zm fun X4 hn4 he4 hf4 hr4=>?_
 try simp only[go_sem]
 refine zQ (α:=Nat) [7,17,27] (fun k=>[(16,.sc (.int .i64 (k:Int)))]) (fun k=>[]) (fun k q=>k≤b.length∧q=b.length - k∧(∀j,j<k→0≤b.getD j 0∧b.getD j 0<N)) (0) (b.length) rfl (by first|(simp only[go_sem,zd,ze];done)|with_reducible rfl|rfl) (⟨by omega,rfl,fun j h=>by omega⟩) ?_
 rintro k q ⟨hk,rfl,hz⟩ X5 hn5 he5 hr5
 simp only[go_sem,zd,ze]
 rcases Nat.lt_or_ge k b.length with hk2|hk2
 · have hdy:decide ((k:Int)<(b.length:Int))=true:=decide_eq_true (by omega)
   refine za fun KY hKY=>?_
   simp only[go_sem,Up,hdy]
   apply hKY
   refine zf fun X6 hn6 he6 hr6=>?_
   refine ZC ?_
   refine zh ?_
   repeat (first|refine hn6 _ ?_|refine he6 _ _ ?_|refine he5 _ _ ?_|refine hn4 _ ?_|refine he4 _ ?_|refine hf4 _ _ (by decide) ?_|refine hn3 _ ?_|refine he3 _ _ ?_|refine hn2 _ ?_|refine he2 _ _ ?_)
   refine zf fun X7 hn7 he7 hr7=>?_
   refine zm fun X8 hn8 he8 hf8 hr8=>?_
   refine za fun KY hKY=>?_
   simp only[go_sem,za2,zg hk2,hk2,zj]
   apply hKY
   by_cases h1:b.getD k 0<0
   · have d1:decide (b.getD k 0<0)=true:=decide_eq_true h1
     have he:JZ N (zD es) b=4:=by simp only[JZ,hr,inB hk2 (n:=(N:Int)) (by omega),cond_true,cond_false]
     refine za fun KY hKY=>?_
     simp only[go_sem,wX,d1]
     apply hKY
     refine ZC ?_
     refine za fun KY hKY=>?_
     simp only[go_sem,Uo]
     apply hKY
     refine zi ?_
     repeat (first|refine hr8 _ ?_|refine hr7 _ ?_|refine hr6 _ ?_|refine hr5 _ ?_|refine hr4 _ ?_|refine hr3 _ ?_|refine hr2 _ ?_)
     simp only[go_sem]
     exact⟨0,4,.inl ⟨by rw[he];decide,rfl,he.symm⟩,rfl⟩
   · have d1:decide (b.getD k 0<0)=false:=decide_eq_false h1
     by_cases h2:(N:Int)≤b.getD k 0
     · have d2:decide ((N:Int)≤b.getD k 0)=true:=decide_eq_true h2
       have he:JZ N (zD es) b=4:=by simp only[JZ,hr,inB hk2 (n:=(N:Int)) (by omega),cond_true,cond_false]
       refine za fun KY hKY=>?_
       simp only[go_sem,wX,d1,d2]
       apply hKY
       refine ZC ?_
       refine za fun KY hKY=>?_
       simp only[go_sem,Uo]
       apply hKY
       refine zi ?_
       repeat (first|refine hr8 _ ?_|refine hr7 _ ?_|refine hr6 _ ?_|refine hr5 _ ?_|refine hr4 _ ?_|refine hr3 _ ?_|refine hr2 _ ?_)
       simp only[go_sem]
       exact⟨0,4,.inl ⟨by rw[he];decide,rfl,he.symm⟩,rfl⟩
     · have d2:decide ((N:Int)≤b.getD k 0)=false:=decide_eq_false h2
       refine za fun KY hKY=>?_
       simp only[go_sem,wX,d1,d2]
       apply hKY
       refine Zw ?_
       refine zh ?_
       repeat (first|refine hn8 _ ?_|refine he8 _ ?_|refine hf8 _ _ (by decide) ?_|refine hn7 _ ?_|refine he7 _ _ ?_|refine hn6 _ ?_|refine he6 _ _ ?_|refine he5 _ _ ?_|refine hn4 _ ?_|refine he4 _ ?_|refine hf4 _ _ (by decide) ?_|refine hn3 _ ?_|refine he3 _ _ ?_|refine hn2 _ ?_|refine he2 _ _ ?_)
       refine zo fun KY hKY=>?_
       simp only[go_sem,za1,zL (show k<4611686018427387904 by omega)]
       apply hKY
       repeat (first|refine hn8 _ ?_|refine he8 _ ?_|refine hf8 _ _ (by decide) ?_|refine hn7 _ ?_|refine he7 _ _ ?_|refine hn6 _ ?_|refine he6 _ _ ?_)
       refine hn5 _ (k+1) (b.length - (k+1)) (by omega) (by first|(simp only[go_sem,zd,ze];done)|with_reducible rfl|rfl) ?_
       refine⟨hk2,rfl,fun j hj=>?_⟩
       rcases Nat.lt_or_ge j k with h3|h3
       · exact hz j h3
       · obtain rfl:j=k:=by omega
         exact⟨by omega,by omega⟩
 have hdx:decide ((k:Int)<(b.length:Int))=false:=decide_eq_false (by omega)
 refine za fun KY hKY=>?_
 simp only[go_sem,Up,hdx]
 apply hKY
 refine zf fun X9 hn9 he9 hr9=>?_
 refine Zw ?_
 refine zy ?_
 repeat (first|refine hn9 _ ?_|refine he9 _ _ ?_|refine he5 _ _ ?_|refine hn4 _ ?_|refine he4 _ ?_|refine hf4 _ _ (by decide) ?_|refine hn3 _ ?_|refine he3 _ _ ?_|refine hn2 _ ?_|refine he2 _ _ ?_)
 obtain rfl:k=b.length:=by omega
 have hall:=zcU (n:=(N:Int)) hz
 have h0:List.replicate N false=Qa N (b.take 0):=by
  apply List.ext_getElem
  · simp[Qa]
  · intro i h1 h2;simp[Qa]
 refine za fun KY hKY=>?_
 simp only[go_sem,za0,(show 1*N≤140737488355328 by omega),(show N≤140737488355328 by omega),(show(N:Int)≤(N:Int) from Int.le_refl _),(show(N:Int)≤9223372036854775807 by omega),h0]
 apply hKY
 refine zf fun X10 hn10 he10 hr10=>?_
 refine za fun KY hKY=>?_
 simp only[go_sem,ko,zj]
 apply hKY
 refine zm fun X11 hn11 he11 hf11 hr11=>?_
 try simp only[go_sem]
 refine zQ (α:=Nat) [10,35,41] (fun k=>[(8,.own (some 1) (Ze (Qa N (b.take k)))),(34,.sc (.int .i64 (k:Int)))]) (fun k=>[]) (fun k q=>k≤b.length∧q=b.length - k∧(b.take k).Nodup) (0) (b.length) rfl (by first|(simp only[go_sem,zd,ze];done)|with_reducible rfl|rfl) (⟨by omega,rfl,List.nodup_nil⟩) ?_
 rintro k q ⟨hk',rfl,hnd⟩ X12 hn12 he12 hr12
 simp only[go_sem,zd,ze]
 rcases Nat.lt_or_ge k b.length with hk2|hk2
 · have hdy:decide ((k:Int)<(b.length:Int))=true:=decide_eq_true (by omega)
   refine za fun KY hKY=>?_
   simp only[go_sem,WS,hdy]
   apply hKY
   refine zf fun X13 hn13 he13 hr13=>?_
   refine ZC ?_
   refine zh ?_
   repeat (first|refine hn13 _ ?_|refine he13 _ _ ?_|refine he12 _ _ ?_|refine hn11 _ ?_|refine he11 _ ?_|refine hf11 _ _ (by decide) ?_|refine hn10 _ ?_|refine he10 _ _ ?_|refine hn9 _ ?_|refine he9 _ _ ?_)
   refine zf fun X14 hn14 he14 hr14=>?_
   refine zm fun X15 hn15 he15 hf15 hr15=>?_
   have hzk:=hz k hk2
   have htk:=Wb hk2
   obtain⟨v,hv⟩:∃v:Nat,b.getD k 0=v:=⟨(b.getD k 0).toNat,by omega⟩
   have hvN:v<N:=by omega
   refine za fun KY hKY=>?_
   simp only[go_sem,kn,zg hk2,hk2,zj]
   simp only[hv]
   apply hKY
   have hg:=Jl (show v<(Qa N (b.take k)).length by rw[vk];omega)
   rw[zdF _ hvN,←hv] at hg
   have hsl:=vk N (b.take k)
   refine zf fun X16 hn16 he16 hr16=>?_
   by_cases hm:b.getD k 0∈b.take k
   · rw[decide_eq_true hm] at hg
     have he:JZ N (zD es) b=6:=by simp only[JZ,hr,hall,decide_eq_false (K0 hk2 hm),cond_true,cond_false]
     refine za fun KY hKY=>?_
     simp only[go_sem,WR,hg,Zz,hsl,hvN]
     apply hKY
     refine ZC ?_
     refine za fun KY hKY=>?_
     simp only[go_sem,km]
     apply hKY
     refine zi ?_
     repeat (first|refine hr16 _ ?_|refine hr15 _ ?_|refine hr14 _ ?_|refine hr13 _ ?_|refine hr12 _ ?_|refine hr11 _ ?_|refine hr10 _ ?_|refine hr9 _ ?_|refine hr5 _ ?_|refine hr4 _ ?_|refine hr3 _ ?_|refine hr2 _ ?_)
     simp only[go_sem]
     exact⟨0,6,.inl ⟨by rw[he];decide,rfl,he.symm⟩,rfl⟩
   · rw[decide_eq_false hm] at hg
     have hst:=zdE (N:=N) (b.take k) v
     rw[←hv,←htk] at hst
     refine za fun KY hKY=>?_
     simp only[go_sem,WR,hg,Zz,hsl,hvN]
     apply hKY
     refine Zw ?_
     refine zh ?_
     repeat (first|refine hn16 _ ?_|refine he16 _ _ ?_|refine hn15 _ ?_|refine he15 _ ?_|refine hf15 _ _ (by decide) ?_|refine hn14 _ ?_|refine he14 _ _ ?_|refine hn13 _ ?_|refine he13 _ _ ?_|refine he12 _ _ ?_|refine hn11 _ ?_|refine he11 _ ?_|refine hf11 _ _ (by decide) ?_|refine hn10 _ ?_|refine he10 _ _ ?_|refine hn9 _ ?_|refine he9 _ _ ?_)
     refine zo fun KY hKY=>?_
     simp only[go_sem,kj,Zz,hsl,hvN,hst]
     apply hKY
     repeat (first|refine hn16 _ ?_|refine he16 _ _ ?_|refine hn15 _ ?_|refine he15 _ ?_|refine hf15 _ _ (by decide) ?_|refine hn14 _ ?_|refine he14 _ _ ?_|refine hn13 _ ?_|refine he13 _ _ ?_|refine he12 _ _ ?_|refine hn11 _ ?_|refine he11 _ ?_|refine hf11 _ _ (by decide) ?_|refine hn10 _ ?_|refine he10 _ _ ?_|refine hn9 _ ?_|refine he9 _ _ ?_)
     refine zo fun KY hKY=>?_
     simp only[go_sem,ki,zL (show k<4611686018427387904 by omega)]
     apply hKY
     repeat (first|refine hn16 _ ?_|refine he16 _ _ ?_|refine hn15 _ ?_|refine he15 _ ?_|refine hf15 _ _ (by decide) ?_|refine hn14 _ ?_|refine he14 _ _ ?_|refine hn13 _ ?_|refine he13 _ _ ?_)
     refine hn12 _ (k+1) (b.length - (k+1)) (by omega) (by first|(simp only[go_sem,zd,ze];done)|with_reducible rfl|rfl) ?_
     exact⟨hk2,rfl,vB hk2 hnd hm⟩
 have hdz:decide ((k:Int)<(b.length:Int))=false:=decide_eq_false (by omega)
 refine za fun KY hKY=>?_
 simp only[go_sem,WS,hdz]
 apply hKY
 refine zf fun X17 hn17 he17 hr17=>?_
 refine Zw ?_
 refine zy ?_
 repeat (first|refine hn17 _ ?_|refine he17 _ _ ?_|refine he12 _ _ ?_|refine hn11 _ ?_|refine he11 _ ?_|refine hf11 _ _ (by decide) ?_|refine hn10 _ ?_|refine he10 _ _ ?_|refine hn9 _ ?_|refine he9 _ _ ?_|refine he5 _ _ ?_|refine hn4 _ ?_|refine he4 _ ?_|refine hf4 _ _ (by decide) ?_|refine hn3 _ ?_|refine he3 _ _ ?_|refine hn2 _ ?_|refine he2 _ _ ?_)
 obtain rfl:k=b.length:=by omega
 rw[List.take_length] at hnd
 have he:JZ N (zD es) b=0:=by simp only[JZ,hr,hall,decide_eq_true hnd,cond_true]
 refine za fun KY hKY=>?_
 simp only[go_sem,kh]
 refine zx rfl (by simp only[go_sem]<;>rfl) ((yw g).mono ?_)
 rintro rr hh ⟨rfl,rfl⟩
 refine⟨?_,?_,?_,?_⟩
 iterate 3 (first|rfl|simp only[go_sem])
 simp only[go_sem]
 refine zx rfl (by simp only[go_sem]<;>rfl) ((zgc g b (by omega)).mono ?_)
 rintro rr hh ⟨⟨ps,hps,rfl⟩,rfl⟩
 refine⟨?_,?_,?_,?_⟩
 iterate 3 (first|rfl|simp only[go_sem])
 simp only[go_sem]
 apply hKY
 refine zi ?_
 repeat (first|refine hr17 _ ?_|refine hr12 _ ?_|refine hr11 _ ?_|refine hr10 _ ?_|refine hr9 _ ?_|refine hr5 _ ?_|refine hr4 _ ?_|refine hr3 _ ?_|refine hr2 _ ?_)
 simp only[go_sem]
 exact⟨_,0,.inr ⟨he,ps,.inl ⟨hr,N,es,rfl,rfl,g,hps⟩,rfl,rfl⟩,rfl⟩
theorem zdU (n:Int)(es:List (Int×Int))(b:List Int)(hb:b.length≤1000000):zn Try.prog [] zjG [.agg [.sc (.int .i64 n),.imm 2 (Zh es)],.imm 1 (zk b)] [] fun r h'=>(∃x e,BP n es b x e∧r= .tup [.sc (.int .i64 x),.sc (.int .i64 e)])∧h'=[]:=by
 refine zn.trim ?_
 cases hr:Zc n es with
 | false=>
   have he:JZ n es b=3:=by simp[JZ,hr]
   refine zgB rfl ?_
   unfold zg9 jr
   refine za fun KY hKY=>?_
   simp only[go_sem,Ul]
   apply hKY
   refine zf fun X1 hn1 he1 hr1=>?_
   refine za fun KY hKY=>?_
   simp only[go_sem,Uk]
   refine zx rfl (by simp only[go_sem]<;>rfl) ((qd n es).mono ?_)
   rintro rr hh ⟨rfl,rfl⟩
   refine⟨rfl,rfl,rfl,?_⟩
   simp only[go_sem,hr]
   apply hKY
   refine ZC ?_
   refine za fun KY hKY=>?_
   simp only[go_sem,zaR]
   apply hKY
   refine zi ?_
   repeat (first|refine hr1 _ ?_)
   simp only[go_sem]
   exact⟨0,3,.inl ⟨by rw[he];decide,rfl,he.symm⟩,rfl⟩
 |true=>
 obtain⟨N,es,rfl,rfl,g⟩:=y4 hr
 have hN:=g.hn
 refine zgB rfl ?_
 unfold zg9 jr
 refine za fun KY hKY=>?_
 simp only[go_sem,Ul]
 apply hKY
 refine zf fun X2 hn2 he2 hr2=>?_
 refine za fun KY hKY=>?_
 simp only[go_sem,Uk]
 refine zx rfl (by simp only[go_sem]<;>rfl) ((qd N (zD es)).mono ?_)
 rintro rr hh ⟨rfl,rfl⟩
 refine⟨rfl,rfl,rfl,?_⟩
 simp only[go_sem,hr]
 apply hKY
 refine Zw ?_
 refine zh ?_
 repeat (first|refine hn2 _ ?_|refine he2 _ _ ?_)
 refine zf fun X3 hn3 he3 hr3=>?_
 refine za fun KY hKY=>?_
 simp only[go_sem,zaQ]
 apply hKY
 refine zm fun X4 hn4 he4 hf4 hr4=>?_
 try simp only[go_sem]
 refine zQ (α:=Nat) [14,23] (fun k=>[(6,.sc (.int .i64 (k:Int)))]) (fun k=>[]) (fun k q=>k≤b.length∧q=b.length - k∧(∀j,j<k→0≤b.getD j 0∧b.getD j 0<N)) (0) (b.length) rfl (by first|(simp only[go_sem,zd,ze];done)|with_reducible rfl|rfl) (⟨by omega,rfl,fun j h=>by omega⟩) ?_
 rintro k q ⟨hk,rfl,hz⟩ X5 hn5 he5 hr5
 simp only[go_sem,zd,ze]
 refine zf fun X6 hn6 he6 hr6=>?_
 rcases Nat.lt_or_ge k b.length with hk2|hk2
 · have hdy:decide ((k:Int)<(b.length:Int))=true:=decide_eq_true (by omega)
   refine za fun KY hKY=>?_
   simp only[go_sem,Uj,zj,hdy]
   apply hKY
   refine ZC ?_
   refine zh ?_
   repeat (first|refine hn6 _ ?_|refine he6 _ _ ?_|refine he5 _ _ ?_|refine hn4 _ ?_|refine he4 _ ?_|refine hf4 _ _ (by decide) ?_|refine hn3 _ ?_|refine he3 _ _ ?_|refine hn2 _ ?_|refine he2 _ _ ?_)
   refine zf fun X7 hn7 he7 hr7=>?_
   refine zm fun X8 hn8 he8 hf8 hr8=>?_
   by_cases hin:0≤b.getD k 0∧b.getD k 0<N
   · have hd:(decide (0≤b.getD k 0)&&decide (b.getD k 0<(N:Int)))=true:=by rw[decide_eq_true hin.1,decide_eq_true hin.2];rfl
     refine zw fun KY hKY=>?_
     simp only[go_sem,Ui,zg hk2,hk2,zj]
     refine zx rfl (by simp only[go_sem]<;>rfl) ((xh N (b.getD k 0) (zD es)).mono ?_)
     rintro rr hh ⟨rfl,rfl⟩
     refine⟨rfl,rfl,rfl,?_⟩
     simp only[go_sem,hd]
     apply hKY
     refine Zw ?_
     refine zh ?_
     repeat (first|refine hn8 _ ?_|refine he8 _ ?_|refine hf8 _ _ (by decide) ?_|refine hn7 _ ?_|refine he7 _ _ ?_|refine hn6 _ ?_|refine he6 _ _ ?_|refine he5 _ _ ?_|refine hn4 _ ?_|refine he4 _ ?_|refine hf4 _ _ (by decide) ?_|refine hn3 _ ?_|refine he3 _ _ ?_|refine hn2 _ ?_|refine he2 _ _ ?_)
     refine zo fun KY hKY=>?_
     simp only[go_sem,zaO,zL (show k<4611686018427387904 by omega)]
     apply hKY
     repeat (first|refine hn8 _ ?_|refine he8 _ ?_|refine hf8 _ _ (by decide) ?_|refine hn7 _ ?_|refine he7 _ _ ?_|refine hn6 _ ?_|refine he6 _ _ ?_)
     refine hn5 _ (k+1) (b.length - (k+1)) (by omega) (by first|(simp only[go_sem,zd,ze];done)|with_reducible rfl|rfl) ?_
     refine⟨hk2,rfl,fun j hj=>?_⟩
     rcases Nat.lt_or_ge j k with h3|h3
     · exact hz j h3
     · obtain rfl:j=k:=by omega
       exact hin
   · have hd:(decide (0≤b.getD k 0)&&decide (b.getD k 0<(N:Int)))=false:=by
      rw[Bool.eq_false_iff];intro h;rw[Bool.and_eq_true,decide_eq_true_iff,decide_eq_true_iff] at h;exact hin h
     have he:JZ N (zD es) b=4:=by simp only[JZ,hr,inB hk2 hin,cond_true,cond_false]
     refine zw fun KY hKY=>?_
     simp only[go_sem,Ui,zg hk2,hk2,zj]
     refine zx rfl (by simp only[go_sem]<;>rfl) ((xh N (b.getD k 0) (zD es)).mono ?_)
     rintro rr hh ⟨rfl,rfl⟩
     refine⟨rfl,rfl,rfl,?_⟩
     simp only[go_sem,hd]
     apply hKY
     refine ZC ?_
     refine za fun KY hKY=>?_
     simp only[go_sem,zaP]
     apply hKY
     refine zi ?_
     repeat (first|refine hr8 _ ?_|refine hr7 _ ?_|refine hr6 _ ?_|refine hr5 _ ?_|refine hr4 _ ?_|refine hr3 _ ?_|refine hr2 _ ?_)
     simp only[go_sem]
     exact⟨0,4,.inl ⟨by rw[he];decide,rfl,he.symm⟩,rfl⟩
 have hdx:decide ((k:Int)<(b.length:Int))=false:=decide_eq_false (by omega)
 refine za fun KY hKY=>?_
 simp only[go_sem,Uj,zj,hdx]
 apply hKY
 refine Zw ?_
 refine zy ?_
 repeat (first|refine hn6 _ ?_|refine he6 _ _ ?_|refine he5 _ _ ?_|refine hn4 _ ?_|refine he4 _ ?_|refine hf4 _ _ (by decide) ?_|refine hn3 _ ?_|refine he3 _ _ ?_|refine hn2 _ ?_|refine he2 _ _ ?_)
 obtain rfl:k=b.length:=by omega
 have hall:=zcU (n:=(N:Int)) hz
 refine zf fun X9 hn9 he9 hr9=>?_
 refine za fun KY hKY=>?_
 simp only[go_sem,zaN]
 apply hKY
 refine zm fun X10 hn10 he10 hf10 hr10=>?_
 try simp only[go_sem]
 refine zQ (α:=Nat) [27,37] (fun k=>[(7,.sc (.int .i64 (k:Int)))]) (fun k=>[]) (fun k q=>k≤b.length∧q=b.length - k∧(b.take k).Nodup) (0) (b.length) rfl (by first|(simp only[go_sem,zd,ze];done)|with_reducible rfl|rfl) (⟨by omega,rfl,List.nodup_nil⟩) ?_
 rintro k q ⟨hk',rfl,hnd⟩ X11 hn11 he11 hr11
 simp only[go_sem,zd,ze]
 refine zf fun X12 hn12 he12 hr12=>?_
 rcases Nat.lt_or_ge k b.length with hk2|hk2
 · have hdy:decide ((k:Int)<(b.length:Int))=true:=decide_eq_true (by omega)
   refine za fun KY hKY=>?_
   simp only[go_sem,Uh,zj,hdy]
   apply hKY
   refine ZC ?_
   refine zh ?_
   repeat (first|refine hn12 _ ?_|refine he12 _ _ ?_|refine he11 _ _ ?_|refine hn10 _ ?_|refine he10 _ ?_|refine hf10 _ _ (by decide) ?_|refine hn9 _ ?_|refine he9 _ _ ?_|refine hn6 _ ?_|refine he6 _ _ ?_)
   refine zf fun X13 hn13 he13 hr13=>?_
   refine zm fun X14 hn14 he14 hf14 hr14=>?_
   have hcut:Zs (zk b) 1 0 k=zk (b.take k):=by simp[Zs,zk]
   have hlt:(b.take k).length≤1000000000:=by rw[List.length_take];omega
   by_cases hm:b.getD k 0∈b.take k
   · have hd:=decide_eq_true hm
     have he:JZ N (zD es) b=6:=by simp only[JZ,hr,hall,decide_eq_false (K0 hk2 hm),cond_true,cond_false]
     refine zw fun KY hKY=>?_
     simp only[go_sem,WQ,zg hk2,hk2,zj,hk',hcut]
     refine zx rfl (by simp only[go_sem]<;>rfl) ((zgi (b.take k) (b.getD k 0) hlt).mono ?_)
     rintro rr hh ⟨rfl,rfl⟩
     refine⟨rfl,rfl,rfl,?_⟩
     simp only[go_sem,hd]
     apply hKY
     refine ZC ?_
     refine za fun KY hKY=>?_
     simp only[go_sem,kg]
     apply hKY
     refine zi ?_
     repeat (first|refine hr14 _ ?_|refine hr13 _ ?_|refine hr12 _ ?_|refine hr11 _ ?_|refine hr10 _ ?_|refine hr9 _ ?_|refine hr6 _ ?_|refine hr5 _ ?_|refine hr4 _ ?_|refine hr3 _ ?_|refine hr2 _ ?_)
     simp only[go_sem]
     exact⟨0,6,.inl ⟨by rw[he];decide,rfl,he.symm⟩,rfl⟩
   · have hd:=decide_eq_false hm
     refine zw fun KY hKY=>?_
     simp only[go_sem,WQ,zg hk2,hk2,zj,hk',hcut]
     refine zx rfl (by simp only[go_sem]<;>rfl) ((zgi (b.take k) (b.getD k 0) hlt).mono ?_)
     rintro rr hh ⟨rfl,rfl⟩
     refine⟨rfl,rfl,rfl,?_⟩
     simp only[go_sem,hd]
     apply hKY
     refine Zw ?_
     refine zh ?_
     repeat (first|refine hn14 _ ?_|refine he14 _ ?_|refine hf14 _ _ (by decide) ?_|refine hn13 _ ?_|refine he13 _ _ ?_|refine hn12 _ ?_|refine he12 _ _ ?_|refine he11 _ _ ?_|refine hn10 _ ?_|refine he10 _ ?_|refine hf10 _ _ (by decide) ?_|refine hn9 _ ?_|refine he9 _ _ ?_|refine hn6 _ ?_|refine he6 _ _ ?_)
     refine zo fun KY hKY=>?_
     simp only[go_sem,kf,zL (show k<4611686018427387904 by omega)]
     apply hKY
     repeat (first|refine hn14 _ ?_|refine he14 _ ?_|refine hf14 _ _ (by decide) ?_|refine hn13 _ ?_|refine he13 _ _ ?_|refine hn12 _ ?_|refine he12 _ _ ?_)
     refine hn11 _ (k+1) (b.length - (k+1)) (by omega) (by first|(simp only[go_sem,zd,ze];done)|with_reducible rfl|rfl) ?_
     exact⟨hk2,rfl,vB hk2 hnd hm⟩
 have hdz:decide ((k:Int)<(b.length:Int))=false:=decide_eq_false (by omega)
 refine za fun KY hKY=>?_
 simp only[go_sem,Uh,zj,hdz]
 apply hKY
 refine Zw ?_
 refine zy ?_
 repeat (first|refine hn12 _ ?_|refine he12 _ _ ?_|refine he11 _ _ ?_|refine hn10 _ ?_|refine he10 _ ?_|refine hf10 _ _ (by decide) ?_|refine hn9 _ ?_|refine he9 _ _ ?_|refine hn6 _ ?_|refine he6 _ _ ?_|refine he5 _ _ ?_|refine hn4 _ ?_|refine he4 _ ?_|refine hf4 _ _ (by decide) ?_|refine hn3 _ ?_|refine he3 _ _ ?_|refine hn2 _ ?_|refine he2 _ _ ?_)
 obtain rfl:k=b.length:=by omega
 rw[List.take_length] at hnd
 have he:JZ N (zD es) b=0:=by simp only[JZ,hr,hall,decide_eq_true hnd,cond_true]
 refine za fun KY hKY=>?_
 simp only[go_sem,ke]
 refine zx rfl (by simp only[go_sem]<;>rfl) ((zfr N (zD es) b (by omega)).mono ?_)
 rintro rr hh ⟨⟨ps,hps,rfl⟩,rfl⟩
 refine⟨?_,?_,?_,?_⟩
 iterate 3 (first|rfl|simp only[go_sem])
 obtain⟨hpl,_⟩:=hps.len
 have h1:=xF ps ps.length hpl
 rw[List.take_length] at h1
 have hw:IntKind.i64.wrap ((Zg ps:Int) - (b.length:Int))=(Zg ps:Int) - b.length:=by rw[IntWalk.i64_in _ (by omega)]
 simp only[go_sem,zj,hw]
 apply hKY
 refine zi ?_
 repeat (first|refine hr12 _ ?_|refine hr11 _ ?_|refine hr10 _ ?_|refine hr9 _ ?_|refine hr6 _ ?_|refine hr5 _ ?_|refine hr4 _ ?_|refine hr3 _ ?_|refine hr2 _ ?_)
 simp only[go_sem]
 exact⟨_,0,.inr ⟨he,ps,hps,rfl,rfl⟩,rfl⟩
theorem zed {N:Nat}{es:Es}(g:GR N es){m:List Int}(h:m.length=N):wu N (zD es) m=(List.range N).all fun v=>mOk es m v:=by
 unfold wu mOk
 rw[je g,decide_eq_true (show(m.length:Int)=(N:Int) by omega),h];rfl
theorem vD (n:Int)(es:List (Int×Int))(m:List Int):zn Try.prog [] zcM [.agg [.sc (.int .i64 n),.imm 2 (Zh es)],.imm 1 (zk m)] [] fun r h'=>r= .sc (.bool (wu n es m))∧h'=[]:=by
 cases h:(Zc n es&&decide ((m.length:Int)=n)) with
 | false=>
   have:wu n es m=false:=by unfold wu;rw[h];rfl
   rw[this];exact zea n es m h
 | true=>
   rw[Bool.and_eq_true,decide_eq_true_iff] at h
   obtain⟨N,es',rfl,rfl,g⟩:=y4 h.1
   rw[zed g (show m.length=N by omega)]
   exact Xv g m (by omega)
theorem zee {n:Int}{es:List (Int×Int)}{m:List Int}(h:wu n es m=true):Zc n es=true∧(m.length:Int)=n:=by
 unfold wu at h
 rw[Bool.and_eq_true,Bool.and_eq_true,decide_eq_true_iff] at h
 exact h.1
theorem BP.bound {n:Int}{es:List (Int×Int)}{b:List Int}{x:Int}(h:BP n es b x 0): - (b.length:Int)≤x∧x≤4096:=by
 rcases h with⟨h1,rfl,h2⟩|⟨_,ps,hp,rfl,_⟩
 · exact absurd h2.symm h1
 · have h1:=xF ps ps.length hp.len.1
   rw[List.take_length] at h1
   omega
def vh (n:Int)(es:List (Int×Int))(m:List Int)(x e:Int):Bool:=decide (e=0)&&(wu n es m&&decide (2*((x8 (kr m) m.length).length:Int)=n - x))
theorem zhQ {n:Int}{es:List (Int×Int)}{m:List Int}{x e:Int}(h:e≠0):vh n es m x e=false:=by unfold vh;rw[decide_eq_false h];rfl
theorem zeJ (n:Int)(es:List (Int×Int))(m b:List Int)(hm:m.length≤1000000)(hb:b.length≤1000000):zn Try.prog [] zjI [.agg [.sc (.int .i64 n),.imm 2 (Zh es)],.imm 1 (zk m),.imm 1 (zk b)] [] fun r h'=>(∃x e,BP n es b x e∧r= .sc (.bool (vh n es m x e)))∧h'=[]:=by
 refine zn.trim ?_
 have hsz:=xE (kr m) m.length
 have hw2:IntKind.i64.wrap (2*((x8 (kr m) m.length).length:Int))=2*((x8 (kr m) m.length).length:Int):=by rw[IntWalk.i64_in _ (by omega)]
 refine zmc rfl ?_
 unfold zkJ xO
 refine za fun KY hKY=>?_
 simp only[go_sem,zaV]
 apply hKY
 refine za fun KY hKY=>?_
 simp only[go_sem,zaU]
 refine zx rfl (by simp only[go_sem]<;>rfl) ((za8 n es b hb).mono ?_)
 rintro rr hh ⟨⟨x,e,hxe,rfl⟩,rfl⟩
 refine⟨?_,?_,?_,?_⟩
 iterate 3 (first|rfl|simp only[go_sem])
 simp only[go_sem]
 apply hKY
 by_cases he:e=0
 · subst he
   have hbx:=hxe.bound
   cases hmb:wu n es m with
   | false=>
     refine zw fun KY hKY=>?_
     simp only[go_sem,wW]
     refine zx rfl (by simp only[go_sem]<;>rfl) ((vD n es m).mono ?_)
     rintro rr hh ⟨rfl,rfl⟩
     refine⟨rfl,rfl,rfl,?_⟩
     simp only[go_sem,hmb]
     apply hKY
     refine zi ?_
     simp only[go_sem]
     exact⟨x,0,hxe,by unfold vh;rw[hmb];simp⟩
   | true=>
     obtain⟨hr,hl⟩:=zee hmb
     have hw:IntKind.i64.wrap (n - x)=n - x:=by rw[IntWalk.i64_in _ (by omega)]
     refine zw fun KY hKY=>?_
     simp only[go_sem,wW]
     refine zx rfl (by simp only[go_sem]<;>rfl) ((vD n es m).mono ?_)
     rintro rr hh ⟨rfl,rfl⟩
     refine⟨rfl,rfl,rfl,?_⟩
     simp only[go_sem,hmb,hw]
     refine zx rfl (by simp only[go_sem]<;>rfl) ((Xt m (by omega)).mono ?_)
     rintro rr hh ⟨rfl,rfl⟩
     refine⟨rfl,rfl,rfl,?_⟩
     simp only[go_sem,hw2]
     apply hKY
     refine zi ?_
     simp only[go_sem]
     exact⟨x,0,hxe,by unfold vh;rw[hmb];simp⟩
 · have hd:=decide_eq_false he
   refine zw fun KY hKY=>?_
   simp only[go_sem,wW,hd]
   apply hKY
   refine zi ?_
   simp only[go_sem]
   exact⟨x,e,hxe,by rw[zhQ he]⟩
end Go.Proofs.Ytmcfdfafeheihaa

namespace Go.Ga.Gl
open Go Go.Ga
theorem Xp {α:Type}{f:α→Nat}:∀{l:List α},l.Nodup→(∀x∈l,∀y∈l,f x=f y→x=y)→(l.map f).Nodup
 |[],_,_=>by simp
 | a::l,hn,h=>by
   obtain⟨ha,hn⟩:=List.nodup_cons.1 hn
   rw[List.map_cons]
   refine List.nodup_cons.2 ⟨fun hm=>?_,Xp hn fun x hx y hy=>h x (List.mem_cons_of_mem _ hx) y (List.mem_cons_of_mem _ hy)⟩
   obtain⟨b,hb,e⟩:=List.mem_map.1 hm
   have:=h b (List.mem_cons_of_mem _ hb) a (by simp) e
   exact ha (this▸hb)
def XH (p:List Nat):Bool:=decide (p.length%2=1)
theorem y7 {p:List Nat}:XH p=true↔p.length%2=1:=decide_eq_true_iff
theorem KX (ps:List (List Nat)):Zg ps=(ps.filter XH).length:=by
 induction ps with
 |nil=>rfl
 | cons p ps ih=>
   have e:Zg (p::ps)=p.length%2+Zg ps:=by simp[Zg]
   rw[e,ih]
   by_cases h:p.length%2=1
   · rw[List.filter_cons,if_pos (y7.2 h),List.length_cons];omega
   · rw[List.filter_cons,if_neg (fun h2=>h (y7.1 h2))];omega
theorem vL {p:List Nat}(h:p.Pairwise (· < ·)):p.Nodup:=h.imp fun h=>Nat.ne_of_lt h
theorem Zd.same {n:Nat}{es:Es}{O:Nat→Prop}{ps:List (List Nat)}(P:Zd n es O ps){p q:List Nat}(hp:p∈ps)(hq:q∈ps){v:Nat}(h1:v∈p)(h2:v∈q):p=q:=by
 have hd:=P.disj
 clear P
 induction ps with
 |nil=>simp at hp
 | cons a ps ih=>
   obtain⟨hd1,hd2⟩:=List.pairwise_cons.1 hd
   rcases List.mem_cons.1 hp with e1|hp'
   · rcases List.mem_cons.1 hq with e2|hq'
     · rw[e1,e2]
     · rw[e1] at h1
       exact absurd h2 (hd1 q hq' v h1)
   · rcases List.mem_cons.1 hq with e2|hq'
     · rw[e2] at h2
       exact absurd h1 (hd1 p hp' v h2)
     · exact ih hp' hq' hd2
theorem Zd.nodup {n:Nat}{es:Es}{O:Nat→Prop}{ps:List (List Nat)}(P:Zd n es O ps):ps.Nodup:=by
 have hd:=P.disj
 have hne:=P.ne
 clear P
 induction ps with
 |nil=>simp
 | cons a ps ih=>
   obtain⟨hd1,hd2⟩:=List.pairwise_cons.1 hd
   refine List.nodup_cons.2 ⟨fun h=>?_,ih hd2 fun p hp=>hne p (List.mem_cons_of_mem _ hp)⟩
   match a,hne a (by simp),hd1 a h with
   |[],h1,_=>exact h1 rfl
   |v::a,_,h2=>exact h2 v (by simp) (by simp)
def Cn (E:Nat→Nat→Prop)(D:Nat→Bool)(bs:Nat→Nat):Prop:=∀f:Nat→Nat,(∀x y,E x y→D x=true→D y=true→f x=f y)→∀v,D v=true→f v=f (bs v)
theorem zep {mt:Nat→Int}{E:Nat→Nat→Prop}{D:Nat→Bool}{f:Nat→Nat}(hf:∀x y,E x y→D x=true→D y=true→f x=f y)(hm:∀v w:Nat,mt v=(w:Int)→E v w){v to:Nat}{ps:Yp}(h:qx mt E v ps to):(∀y∈zE ps to,D y=true)→f v=f to:=by
 induction h with
 |nil v=>intro _;rfl
 | @cons a c w to ps h1 h2 h3 ih=>
   intro hD
   have ha:=hD a (by simp[zE,ZD])
   have hc:=hD c (by simp[zE,ZD])
   have hw:D w=true:=by
    cases h3 with
    |nil=>exact hD _ (by simp[zE])
    |cons _ _ _=>exact hD _ (by simp[zE,ZD])
   have h5:=ih fun y hy=>hD y (by
    have:y∈jw ps++[to]:=hy
    simp only[zE,ZD,List.cons_append,List.mem_cons]
    exact .inr (.inr this))
   exact(hf a c (hm a c h1) ha hc).trans ((hf c w h2 hc hw).trans h5)
theorem J0.cn {n:Nat}{E:Nat→Nat→Prop}{mt:Nat→Int}{S:FS}(M:Mf n E mt)(I:J0 n E mt S):Cn E S.out S.bs:=fun f hf v hv=>by
 obtain⟨ps,p1,p2,p3,p4⟩:=I.wy v hv
 exact zep hf (fun v w h=>(M.ne v w h).2) p2 fun y hy=>(p4 y hy).1
theorem Yx {n:Nat}{es:Es}{mt:Nat→Int}{D A:Nat→Bool}{bs:Nat→Nat}(M:Mf n (ZY es) mt)(C:yU n (ZY es) mt D A bs)(K:Cn (ZY es) D bs){O:Nat→Prop}{ps:List (List Nat)}(P:Zd n es O ps)(hD:∀v,D v=true→¬O v)(hA:∀v,A v=true→O v){p:List Nat}(hp:p∈ps){v:Nat}(hv:v∈p)(hvD:D v=true):(∀w,w∈p↔D w=true∧bs w=bs v)∧p.length%2=1:=by
 have h1:∀w∈p,D w=true∧bs w=bs v:=by
  intro w hw
  let f:Nat→Nat:=fun u=>if D u=true∧bs u=bs v then 1 else 0
  have key:∀a b,ZY es a b→¬O b→(D a=true∧bs a=bs v)→D b=true∧bs b=bs v:=fun a b hab hb h=>by
   rcases C.ed a b h.1 hab with h2|⟨h2,h3⟩
   · exact absurd (hA b h2) hb
   · exact⟨h2,h3.trans h.2⟩
  have hfl:Kj es O f:=fun a b hab ha hb=>by
   by_cases h:D a=true∧bs a=bs v
   · have h2:=key a b hab hb h
     show(if D a=true∧bs a=bs v then 1 else 0)=if D b=true∧bs b=bs v then 1 else 0
     rw[if_pos h,if_pos h2]
   · have h2:¬(D b=true∧bs b=bs v):=fun e=>h (key b a (yT hab) ha e)
     show(if D a=true∧bs a=bs v then 1 else 0)=if D b=true∧bs b=bs v then 1 else 0
     rw[if_neg h,if_neg h2]
  have:=P.conn p hp f hfl v hv w hw
  have e:(if D v=true∧bs v=bs v then 1 else 0)=if D w=true∧bs w=bs v then 1 else 0:=this
  rw[if_pos ⟨hvD,rfl⟩] at e
  by_cases h:D w=true∧bs w=bs v
  · exact h
  · rw[if_neg h] at e;omega
 have h2:∀w,D w=true→bs w=bs v→w∈p:=by
  intro w hw hb
  let f:Nat→Nat:=fun u=>if u∈p then 1 else 0
  have hf:∀x y,ZY es x y→D x=true→D y=true→f x=f y:=fun x y hxy hx hy=>by
   have step:∀a b,ZY es a b→D b=true→a∈p→b∈p:=fun a b hab hb ha=>P.edge p hp a ha b hab (C.dn b hb) (hD b hb)
   show(if x∈p then 1 else 0)=if y∈p then 1 else 0
   by_cases h:x∈p
   · rw[if_pos h,if_pos (step x y hxy hy h)]
   · rw[if_neg h,if_neg (fun e=>h (step y x (yT hxy) hx e))]
  have e1:=K f hf v hvD
  have e2:=K f hf w hw
  rw[hb,←e1] at e2
  have e3:(if w∈p then 1 else 0)=if v∈p then 1 else 0:=e2
  rw[if_pos hv] at e3
  by_cases h:w∈p
  · exact h
  · rw[if_neg h] at e3;omega
 refine⟨fun w=>⟨h1 w,fun h=>h2 w h.1 h.2⟩,?_⟩
 have hbo:=C.odd M (C.db v hvD).1 (C.db v hvD).2
 have hnd:=vL (P.inc p hp)
 have ha:=Zx (m:=(List.range n).filter fun x=>D x&&decide (bs x=bs v)) hnd fun w hw=>by
  obtain⟨k1,k2⟩:=h1 w hw
  exact zS.2 ⟨C.dn w k1,by simp[k1,k2]⟩
 have hb:=Zx (m:=p) (List.nodup_range.filter (l:=List.range n) fun x=>D x&&decide (bs x=bs v)) fun w hw=>by
  obtain⟨k1,k2⟩:=zS.1 hw
  simp only[Bool.and_eq_true,decide_eq_true_iff] at k2
  exact h2 w k2.1 k2.2
 have:p.length=num n fun x=>D x&&decide (bs x=bs v):=Nat.le_antisymm ha hb
 omega
theorem zbO {n:Nat}{es:Es}{mt:Nat→Int}{D A:Nat→Bool}{bs:Nat→Nat}(M:Mf n (ZY es) mt)(C:yU n (ZY es) mt D A bs){O:Nat→Prop}{ps:List (List Nat)}(P:Zd n es O ps)(hO:∀v,O v→A v=true){p:List Nat}(hp:p∈ps)(hn:∀v∈p,D v=false):p.length%2=0:=
 QK (fun v=>(mt v).toNat) _ p (Nat.le_refl _) (vL (P.inc p hp)) fun x hx=>by
  obtain⟨hxn,hxO⟩:=(P.mem x).1 ⟨p,hp,hx⟩
  rcases M.at_ x hxn with h|⟨w,h,hwn⟩
  · have:=(C.fr x hxn h).1
    rw[hn x hx] at this;cases this
  · have hs:=M.sy x w h
    have e1:(mt x).toNat=w:=by rw[h];rfl
    have e2:(mt w).toNat=x:=by rw[hs];rfl
    obtain⟨hwx,hE⟩:=M.ne x w h
    have hw:¬O w:=fun e=>by
     obtain⟨y,k1,k2,_⟩:=C.am w (hO w e)
     obtain rfl:y=x:=by omega
     rw[hn y hx] at k2;cases k2
    rw[e1,e2]
    exact⟨P.edge p hp x hx w hE hwn hw,hwx,rfl⟩
theorem zd4 {n:Nat}{es:Es}{mt:Nat→Int}{D A:Nat→Bool}{bs:Nat→Nat}(M:Mf n (ZY es) mt)(C:yU n (ZY es) mt D A bs)(K:Cn (ZY es) D bs){O:Nat→Prop}{ps:List (List Nat)}(P:Zd n es O ps)(hD:∀v,D v=true→¬O v)(hA:∀v,A v=true→O v)(hE:∀p∈ps,(∀v∈p,D v=false)→p.length%2=0):Zg ps=num n A+qf n mt:=by
 rw[C.strong M,KX]
 have hodd:∀p∈ps.filter XH,∃v,v∈p∧D v=true:=fun p hp=>by
  obtain⟨h1,h2⟩:=List.mem_filter.1 hp
  refine Classical.byContradiction fun hno=>?_
  have:=hE p h1 fun v hv=>by
   cases hd:D v with
   |false=>rfl
   |true=>exact absurd ⟨v,hv,hd⟩ hno
  have:=y7.1 h2
  omega
 have hhead:∀p∈ps.filter XH,p.headD 0∈p∧D (p.headD 0)=true∧bs (p.headD 0)∈p:=fun p hp=>by
  obtain⟨v,hv,hvD⟩:=hodd p hp
  have hp:=(List.mem_filter.1 hp).1
  have hm:p.headD 0∈p:=by
   cases p with
   |nil=>simp at hv
   |cons a p=>simp
  obtain⟨k,_⟩:=Yx M C K P hD hA hp hv hvD
  have h1:=((k _).1 hm)
  refine⟨hm,h1.1,?_⟩
  rw[h1.2]
  exact(k _).2 ⟨(C.db v hvD).1,(C.db v hvD).2⟩
 refine Nat.le_antisymm ?_ ?_
 · have hinj:((ps.filter XH).map fun p=>bs (p.headD 0)).Nodup:=Xp (P.nodup.filter _) fun p hp q hq e=>by
    obtain⟨_,_,k1⟩:=hhead p hp
    obtain⟨_,_,k2⟩:=hhead q hq
    rw[e] at k1
    exact P.same (List.mem_filter.1 hp).1 (List.mem_filter.1 hq).1 k1 k2
   have:=Zx (m:=(List.range n).filter (isB D bs)) hinj fun x hx=>by
    obtain⟨p,hp,rfl⟩:=List.mem_map.1 hx
    obtain⟨_,k2,_⟩:=hhead p hp
    obtain⟨j1,j2⟩:=C.db _ k2
    exact zS.2 ⟨C.dn _ j1,qP.2 ⟨j1,j2⟩⟩
   rw[List.length_map] at this
   exact this
 · have:=Zx (l:=(List.range n).filter (isB D bs)) (m:=(ps.filter XH).map fun p=>bs (p.headD 0)) (List.nodup_range.filter _) fun b hb=>by
    obtain⟨hbn,hb⟩:=zS.1 hb
    obtain⟨hb1,hb2⟩:=qP.1 hb
    obtain⟨p,hp,hbp⟩:=(P.mem b).2 ⟨hbn,hD b hb1⟩
    obtain⟨k,hk⟩:=Yx M C K P hD hA hp hbp hb1
    have hpo:p∈ps.filter XH:=List.mem_filter.2 ⟨hp,y7.2 hk⟩
    obtain⟨j1,j2,_⟩:=hhead p hpo
    exact List.mem_map.2 ⟨p,hpo,by rw[((k _).1 j1).2,hb2]⟩
   rw[List.length_map] at this
   exact this
end Go.Ga.Gl
namespace Go.Proofs.Ytmcfdfafeheihaa
open Go Go.Ga Go.Ga.Gl
theorem KD {N:Nat}{E:Nat→Nat→Prop}{m:List Int}(M:Mf N E (mf m))(hml:m.length=N):2*(x8 (kr m) m.length).length+qf N (mf m)=N:=by
 have h1:=Xm m
 have h2:((List.range m.length).filter (yp m)).length=num N (fun v=> !jP (mf m) v):=by
  unfold num
  rw[hml]
  congr 1
  refine List.filter_congr fun v hv=>?_
  have hv:=List.mem_range.1 hv
  rcases M.at_ v hv with h|⟨w,h,hw⟩
  · rw[ZA.2 h]
    cases hp:yp m v with
    |false=>rfl
    | true=>
      obtain⟨w,k1,_⟩:=kL.1 hp
      rw[qX (by omega),h] at k1;omega
  · have e:jP (mf m) v=false:=decide_eq_false (by omega)
    rw[e]
    refine kL.2 ⟨w,by rw[qX (by omega)];exact h,by omega,(M.ne v w h).1,by rw[qX (by omega)];exact M.sy v w h⟩
 have h3:=Wn N (jP (mf m))
 have h4:(x8 (kr m) m.length).length=((List.range m.length).filter (kr m)).length:=rfl
 unfold qf
 omega
theorem zeH {l:List Nat}{v:Nat}:(v:Int)∈yF l↔v∈l:=by
 unfold yF
 rw[List.mem_map]
 constructor
 · rintro⟨a,h,e⟩
   obtain rfl:a=v:=by omega
   exact h
 · intro h
   exact⟨v,h,rfl⟩
theorem xz.gr {N:Nat}{es:Es}(g:GR N es){b:List Int}{ps:List (List Nat)}(h:xz N (zD es) b ps):Zd N es (fun v=>(v:Int)∈b) ps:=by
 rcases h with⟨_,N',es',e1,e2,_,h⟩|⟨h,_⟩
 · obtain rfl:N=N':=by omega
   obtain rfl:=Wz e2
   exact h
 · rw[je g] at h;cases h
theorem vp (N:Nat)(E:Nat→Nat→Prop)(k:Nat):(vq N E k).Nodup:=List.nodup_range.filter _
theorem zhh {N:Nat}{es:Es}(g:GR N es)(k:Nat):JZ N (zD es) (yF (vq N (ZY es) k))=0:=by
 unfold JZ
 have h1:((yF (vq N (ZY es) k)).all fun v=>decide (0≤v)&&decide (v<(N:Int)))=true:=by
  rw[List.all_eq_true]
  intro v hv
  obtain⟨u,hu,rfl⟩:=List.mem_map.1 hv
  have:=(kJ.1 hu).1
  rw[decide_eq_true (show(0:Int)≤(u:Int) by omega),decide_eq_true (show(u:Int)<(N:Int) by omega)];rfl
 have h2:(yF (vq N (ZY es) k)).Nodup:=List.pairwise_map.2 ((vp N (ZY es) k).imp fun h e=>h (by omega))
 rw[je g,h1,decide_eq_true h2];rfl
theorem zh7 {N:Nat}{es:Es}{mt:Nat→Int}{D A:Nat→Bool}{bs:Nat→Nat}(F:Fc N (ZY es) mt D A bs)(K:Cn (ZY es) D bs){ps:List (List Nat)}(P:Zd N es (fun v=>(v:Int)∈yF (vq N (ZY es) 2)) ps):Zg ps=(vq N (ZY es) 2).length+qf N mt:=by
 have hO:∀v:Nat,(v:Int)∈yF (vq N (ZY es) 2)↔A v=true:=fun v=>zeH.trans (zfI F)
 have hlen:(vq N (ZY es) 2).length=num N A:=Nat.le_antisymm (Zx (vp N _ 2) fun v hv=>zS.2 ⟨(kJ.1 hv).1,(zfI F).1 hv⟩) (zfT fun v _ hv=>(zfI F).2 hv)
 rw[hlen]
 refine zd4 F.m F.c K P (fun v hv h=>?_) (fun v hv=>(hO v).2 hv) fun p hp hn=>zbO F.m F.c P (fun v hv=>(hO v).1 hv) hp hn
 have:=(F.c.an v ((hO v).1 h)).2
 rw[hv] at this;cases this
theorem zhM :GR 4 [(0,1),(0,2),(0,3)] where
 hn:=by decide
 hm:=by decide
 ok:=by decide
 up:=by simp[ZV]
theorem KC :Zd 4 [(0,1),(0,2),(0,3)] (fun v=>(v:Int)∈([0]:List Int)) [[1],[2],[3]] where
 mem:=fun v=>by simp;omega
 ne:=by simp
 inc:=by simp
 heads:=by simp
 disj:=by simp
 edge:=fun p hp a ha b h hb ho=>by
  simp only[ZY,List.mem_cons,List.not_mem_nil,or_false,Prod.mk.injEq] at h hp ho
  rcases hp with rfl|rfl|rfl<;>simp only[List.mem_cons,List.not_mem_nil,or_false] at ha<;>subst ha<;>simp at h<;>omega
 conn:=fun p hp f _ a ha b hb=>by
  simp only[List.mem_cons,List.not_mem_nil,or_false] at hp
  rcases hp with rfl|rfl|rfl<;>simp only[List.mem_cons,List.not_mem_nil,or_false] at ha hb<;>rw[ha,hb]
theorem zcz {x e:Int}(h:BP 4 [(0,1),(0,2),(0,3)] [0] x e):x=2∧e=0:=by
 have h0:BP 4 [(0,1),(0,2),(0,3)] [0] 2 0:= .inr ⟨by decide,[[1],[2],[3]],.inl ⟨by decide,4,[(0,1),(0,2),(0,3)],rfl,rfl,zhM,KC⟩,rfl,rfl⟩
 exact h.unique h0
theorem zck :zn Try.prog [] zjJ [] [] fun r h'=>r= .sc (.bool true)∧h'=[]:=by
 refine zn.trim ?_
 refine zmd rfl ?_
 unfold zkK Y8
 refine za fun KY hKY=>?_
 simp only[go_sem,zaZ]
 apply hKY
 refine za fun KY hKY=>?_
 simp only[go_sem,zaY]
 apply hKY
 refine jk [0,1,1] (by simp only[go_sem];rfl) ?_
 simp only[go_sem]
 have hl:=za8 4 [(0,1),(0,2),(0,3)] [0] (by decide)
 have hs:=zeJ 4 [(0,1),(0,2),(0,3)] [1,0, -1, -1] [0] (by decide) (by decide)
 refine za fun KY hKY=>?_
 simp only[go_sem,zaX]
 refine zx rfl (by simp only[go_sem]<;>rfl) ((hl).mono ?_)
 rintro rr hh ⟨⟨x,e,hxe,rfl⟩,rfl⟩
 refine⟨?_,?_,?_,?_⟩
 iterate 3 (first|rfl|simp only[go_sem])
 obtain⟨rfl,rfl⟩:=zcz hxe
 simp only[go_sem]
 apply hKY
 refine za fun KY hKY=>?_
 simp only[go_sem,zaW,(show zF [Value.int IntKind.i64 0] 4=[.sc (.int .i64 0),.sc (.int .i64 0),.sc (.int .i64 0),.sc (.int .i64 0)] from rfl)]
 refine zx rfl (by simp only[go_sem]<;>rfl) ((hs).mono ?_)
 rintro rr hh ⟨⟨x,e,hxe,rfl⟩,rfl⟩
 refine⟨?_,?_,?_,?_⟩
 iterate 3 (first|rfl|simp only[go_sem])
 obtain⟨rfl,rfl⟩:=zcz hxe
 simp only[go_sem]
 apply hKY
 refine zi ?_
 simp only[go_sem]
 exact congrArg (fun c=>zc.sc (.bool c)) (show vh 4 [(0,1),(0,2),(0,3)] [1,0, -1, -1] 2 0=true by decide)
def Nu (N:Nat)(es:Es)(k:Nat):Prop:=∃(m:List Int) (D A:Nat→Bool) (bs:Nat→Nat),m.length=N∧Fc N (ZY es) (mf m) D A bs∧Cn (ZY es) D bs∧2*k+qf N (mf m)=N
theorem zci {N:Nat}{es:Es}(g:GR N es):zn Try.prog [] zjL [.agg [.sc (.int .i64 (N:Int)),.imm 2 (Zh (zD es))]] [] fun r h'=>(∃k:Nat,Nu N es k∧r= .tup [.sc (.int .i64 (k:Int)),.sc (.int .i64 0)])∧h'=[]:=by
 refine zn.trim ?_
 have hN:=g.hn
 refine zme rfl ?_
 unfold zkL xP
 refine za fun KY hKY=>?_
 simp only[go_sem,za6]
 apply hKY
 refine za fun KY hKY=>?_
 simp only[go_sem,za5]
 apply zp [] [] false none rfl
 iterate 8 (first|(simp only[go_sem,zq]<;>rfl)|rfl)
 refine(XC g).mono ?_
 rintro _ _ ⟨m,S,a,b,hml,M,I,L,⟨h0,rfl,rfl⟩|⟨h0,rfl,rfl⟩⟩
 · have hsz:=Xt m (by omega)
   have hm0:zk m=[]:=by rw[List.length_eq_zero_iff.1 (hml.trans h0)];rfl
   rw[hm0] at hsz
   refine⟨Nat.le_of_ble_eq_true rfl,(fun hh=>by cases hh),?_⟩
   simp only[go_sem,zr,zb.after]
   apply hKY
   refine za fun KY hKY=>?_
   simp only[go_sem,Us]
   apply zp [] [] true none rfl
   iterate 8 (first|(simp only[go_sem,zq]<;>rfl)|rfl)
   refine(hsz).mono ?_
   rintro _ _ ⟨rfl,rfl⟩
   refine⟨Nat.le_of_ble_eq_true rfl,(fun _=>by simp only[go_sem,Jt,and_self]),?_⟩
   simp only[go_sem,zr,zb.after]
   apply hKY
   refine zi ?_
   simp only[go_sem]
   exact⟨_,⟨m,_,_,_,hml,xK M I L,I.cn M,KD M hml⟩,rfl⟩
 · have hsz:=Xt m (by omega)
   have htk:List.take N (zk m)=zk m:=List.take_of_length_le (by rw[zj];omega)
   refine⟨Nat.le_of_ble_eq_true rfl,(fun hh=>by cases hh),?_⟩
   simp only[go_sem,zr,zb.after]
   apply hKY
   refine za fun KY hKY=>?_
   simp only[go_sem,Us]
   refine zx rfl (by simp only[go_sem,hml,Nat.le_refl,htk]<;>rfl) ((hsz).mono ?_)
   rintro rr hh ⟨rfl,rfl⟩
   refine⟨?_,?_,?_,?_⟩
   iterate 3 (first|rfl|simp only[go_sem])
   simp only[go_sem]
   apply hKY
   refine zi ?_
   simp only[go_sem]
   exact⟨_,⟨m,_,_,_,hml,xK M I L,I.cn M,KD M hml⟩,rfl⟩
theorem zmr {N:Nat}{es:Es}(g:GR N es):zn Try.prog [] zjH [.agg [.sc (.int .i64 (N:Int)),.imm 2 (Zh (zD es))]] [] fun r h'=>r= .tup [.own (some 1) (zH (vq N (ZY es) 2)),.sc (.int .i64 0)]∧h'=[]:=by
 refine zn.trim ?_
 have hN:=g.hn
 have hl:(qr N es).length≤100000:=by simp[qr];omega
 have h2:=zhd (qr N es) (2:Nat) hl
 rw[show zmD (qr N es) (2:Nat)=vq N (ZY es) 2 from zeq N es 2] at h2
 refine zmb rfl ?_
 unfold zkI Yu
 refine za fun KY hKY=>?_
 simp only[go_sem,zaT]
 apply hKY
 refine za fun KY hKY=>?_
 simp only[go_sem,zaS]
 apply zp [] [] false none rfl
 iterate 8 (first|(simp only[go_sem,zq]<;>rfl)|rfl)
 refine(zcj g).mono ?_
 rintro _ _ ⟨m,hml,⟨D,A,bs,hF⟩,⟨h0,rfl,rfl⟩|⟨h0,rfl,rfl⟩⟩
 · refine⟨Nat.le_of_ble_eq_true rfl,(fun hh=>by cases hh),?_⟩
   simp only[go_sem,zr,zb.after]
   apply hKY
   refine zf fun X1 hn1 he1 hr1=>?_
   refine za fun KY hKY=>?_
   simp only[go_sem,Un]
   apply hKY
   refine Zw ?_
   refine zh ?_
   repeat (first|refine hn1 _ ?_|refine he1 _ _ ?_)
   refine jk [0,4] (by simp only[go_sem];rfl) ?_
   simp only[go_sem]
   refine za fun KY hKY=>?_
   simp only[go_sem,Um]
   apply zp [] [] false none rfl
   iterate 8 (first|(simp only[go_sem,zq]<;>rfl)|rfl)
   refine(h2).mono ?_
   rintro _ _ ⟨rfl,rfl⟩
   refine⟨Nat.le_of_ble_eq_true rfl,(fun hh=>by cases hh),?_⟩
   simp only[go_sem,zr,zb.after]
   apply hKY
   refine zi ?_
   repeat (first|refine hr1 _ ?_)
   simp only[go_sem]
 · refine⟨Nat.le_of_ble_eq_true rfl,(fun hh=>by cases hh),?_⟩
   simp only[go_sem,zr,zb.after]
   apply hKY
   refine zf fun X2 hn2 he2 hr2=>?_
   refine za fun KY hKY=>?_
   simp only[go_sem,Un]
   apply hKY
   refine Zw ?_
   refine zh ?_
   repeat (first|refine hn2 _ ?_|refine he2 _ _ ?_)
   refine jk [0,4] (by simp only[go_sem];rfl) ?_
   simp only[go_sem]
   refine za fun KY hKY=>?_
   simp only[go_sem,Um]
   apply zp [] [] false none rfl
   iterate 8 (first|(simp only[go_sem,zq]<;>rfl)|rfl)
   refine(h2).mono ?_
   rintro _ _ ⟨rfl,rfl⟩
   refine⟨Nat.le_of_ble_eq_true rfl,(fun hh=>by cases hh),?_⟩
   simp only[go_sem,zr,zb.after]
   apply hKY
   refine zi ?_
   repeat (first|refine hr2 _ ?_)
   simp only[go_sem]
theorem BP.lk {N:Nat}{es:Es}(g:GR N es){b:List Int}{x e:Int}(h:BP N (zD es) b x e)(h0:JZ N (zD es) b=0):e=0∧∃ps,Zd N es (fun v=>(v:Int)∈b) ps∧x=(Zg ps:Int) - b.length:=by
 rcases h with⟨h1,_,_⟩|⟨_,ps,hp,hx,he⟩
 · exact absurd h0 h1
 · exact⟨he,ps,hp.gr g,hx⟩
end Go.Proofs.Ytmcfdfafeheihaa

namespace Go.Ga.Gl
open Go Go.Ga
def Wi (s:Nat)(mt:Nat→Int):Prop:=∀v,s.testBit v=false→mt v= -1
def xA (N:Nat)(E:Nat→Nat→Prop)(s k:Nat):Prop:=(∃mt,Mf N E mt∧Wi s mt∧N=qf N mt+2*k)∧∀mt,Mf N E mt→Wi s mt→N≤qf N mt+2*k
theorem zh8 {n v w:Nat}(hv:v<n)(hw:w<n)(hne:v≠w):num n (fun u=>decide (u=v∨u=w))=2:=by
 refine Nat.le_antisymm ?_ ?_
 · have:=zfT (n:=n) (p:=fun u=>decide (u=v∨u=w)) (l:=[v,w]) fun u _ h=>by
    have:=of_decide_eq_true h
    simpa using this
   simpa using this
 · have:=Zx (l:=[v,w]) (m:=(List.range n).filter fun u=>decide (u=v∨u=w)) (by simp[hne]) fun u hu=>by
    have:u=v∨u=w:=by simpa using hu
    refine zS.2 ⟨by rcases this with h|h<;>omega,decide_eq_true this⟩
   exact this
theorem zcY {n:Nat}{mt mt':Nat→Int}{v w:Nat}(hv:v<n)(hw:w<n)(hne:v≠w)(h1:mt v= -1)(h2:mt w= -1)(h3:mt' v≠ -1)(h4:mt' w≠ -1)(h5:∀u,u≠v→u≠w→mt' u=mt u):qf n mt'+2=qf n mt:=by
 have e:=kR n (jP mt) (fun u=>decide (u=v∨u=w))
 have e1:num n (fun u=>jP mt u&&decide (u=v∨u=w))=2:=by
  rw[←zh8 hv hw hne]
  refine Wo fun u _=>?_
  by_cases h:u=v∨u=w
  · have:mt u= -1:=by rcases h with rfl|rfl<;>assumption
    rw[ZA.2 this,decide_eq_true h];rfl
  · rw[decide_eq_false h,Bool.and_false]
 have e2:num n (fun u=>jP mt u&& !decide (u=v∨u=w))=num n (jP mt'):=by
  refine Wo fun u _=>?_
  by_cases h:u=v∨u=w
  · have:jP mt' u=false:=decide_eq_false (by rcases h with rfl|rfl<;>assumption)
    rw[this,decide_eq_true h];simp
  · rw[decide_eq_false h]
    unfold jP
    rw[h5 u (fun k=>h (.inl k)) (fun k=>h (.inr k))];simp
 unfold qf
 omega
def dlt (mt:Nat→Int)(v w u:Nat):Int:=if u=v∨u=w then -1 else mt u
theorem Mf.del {n:Nat}{E:Nat→Nat→Prop}{mt:Nat→Int}(M:Mf n E mt){v w:Nat}(h:mt v=(w:Int)):Mf n E (dlt mt v w):=by
 have hs:=M.sy v w h
 have c:∀u x:Nat,dlt mt v w u=(x:Int)→mt u=(x:Int)∧¬(u=v∨u=w):=fun u x k=>by
  unfold Gl.dlt at k
  by_cases e:u=v∨u=w
  · rw[if_pos e] at k;omega
  · rw[if_neg e] at k;exact⟨k,e⟩
 refine⟨fun u hu=>?_,fun u hu x k=>M.big u hu x (c u x k).1,fun u x k=>?_,fun u x k=>M.ne u x (c u x k).1,M.es,M.el⟩
 · unfold Gl.dlt
   split
   · exact .inl rfl
   · exact M.at_ u hu
 · obtain⟨k1,k2⟩:=c u x k
   have k3:=M.sy u x k1
   have:¬(x=v∨x=w):=fun e=>by
    rcases e with rfl|rfl
    · exact k2 (.inr (by omega))
    · exact k2 (.inl (by omega))
   show(if x=v∨x=w then -1 else mt x)=(u:Int)
   rw[if_neg this];exact k3
theorem ziu {n:Nat}{E:Nat→Nat→Prop}{mt:Nat→Int}(M:Mf n E mt){v w:Nat}(h:mt v=(w:Int)):qf n (dlt mt v w)=qf n mt+2:=by
 obtain⟨_,hE⟩:=M.ne v w h
 obtain⟨h1,h2,h3⟩:=M.el v w hE
 have hs:=M.sy v w h
 exact(zcY h1 h2 h3 (if_pos (.inl rfl)) (if_pos (.inr rfl)) (by omega) (by omega) fun u k1 k2=>(if_neg (fun e=>e.elim k1 k2)).symm).symm
theorem zeM {N:Nat}{E:Nat→Nat→Prop}(M0:Mf N E (fun _=> -1)):xA N E 0 0:=by
 have hf:∀mt:Nat→Int,(∀v,mt v= -1)→qf N mt=N:=fun mt h=>by
  have e:=Wn N (jP mt)
  have:num N (fun x=> !jP mt x)=0:=by
   unfold num
   rw[List.length_eq_zero_iff,List.filter_eq_nil_iff]
   intro v _
   rw[ZA.2 (h v)];simp
  unfold qf
  omega
 exact⟨⟨_,M0,fun _ _=>rfl,by rw[hf _ fun _=>rfl];rfl⟩,fun mt _ h=>by rw[hf mt fun v=>h v (by simp)];omega⟩
def Cur (N:Nat)(E:Nat→Nat→Prop)(s v w0 c:Nat):Prop:=(∃mt,Mf N E mt∧Wi s mt∧N=qf N mt+2*c)∧∀mt,Mf N E mt→Wi s mt→(mt v= -1∨∃w:Nat,w<w0∧mt v=(w:Int))→N≤qf N mt+2*c
theorem zez {N:Nat}{E:Nat→Nat→Prop}{s v rest c:Nat}(hlow:∀u,u<v→s.testBit u=false)(hr:∀u,rest.testBit u=(s.testBit u&& !decide (u=v)))(B:xA N E rest c):Cur N E s v (v+1) c:=by
 obtain⟨⟨mt,M,W,h⟩,B2⟩:=B
 refine⟨⟨mt,M,fun u hu=>W u (by rw[hr,hu];rfl),h⟩,fun mt M W k=>?_⟩
 have hv:mt v= -1:=by
  rcases k with k|⟨w,hw,k⟩
  · exact k
  · exfalso
    obtain⟨hne,_⟩:=M.ne v w k
    have:=W w (hlow w (by omega))
    have:=M.sy v w k
    omega
 refine B2 mt M fun u hu=>?_
 rw[hr] at hu
 by_cases e:u=v
 · subst e;exact hv
 · rw[decide_eq_false e] at hu
   exact W u (by simpa using hu)
theorem zgK {N:Nat}{E:Nat→Nat→Prop}{s v rest w0 c:Nat}(hr:∀u,rest.testBit u=(s.testBit u&& !decide (u=v)))(C:Cur N E s v w0 c)(hno:¬(rest.testBit w0=true∧E v w0)):Cur N E s v (w0+1) c:=by
 refine⟨C.1,fun mt M W k=>?_⟩
 rcases k with k|⟨w,hw,k⟩
 · exact C.2 mt M W (.inl k)
 · by_cases e:w=w0
   · subst e
     exfalso
     obtain⟨hne,hE⟩:=M.ne v w k
     refine hno ⟨?_,hE⟩
     rw[hr,decide_eq_false hne]
     cases hs:s.testBit w with
     |true=>rfl
     | false=>
       have:=W w hs
       have:=M.sy v w k
       omega
   · exact C.2 mt M W (.inr ⟨w,by omega,k⟩)
theorem ziE {N:Nat}{E:Nat→Nat→Prop}{s v rest r2 w0 c k:Nat}(hsv:s.testBit v=true)(hr:∀u,rest.testBit u=(s.testBit u&& !decide (u=v)))(h2:∀u,r2.testBit u=(rest.testBit u&& !decide (u=w0)))(C:Cur N E s v w0 c)(hw:rest.testBit w0=true)(hE:E v w0)(B:xA N E r2 k):Cur N E s v (w0+1) (max c (1+k)):=by
 have hw2:s.testBit w0=true∧w0≠v:=by
  rw[hr] at hw
  simpa using hw
 refine⟨?_,fun mt M W q=>?_⟩
 · rcases Nat.le_total (1+k) c with h|h
   · rw[Nat.max_eq_left h];exact C.1
   · rw[Nat.max_eq_right h]
     obtain⟨mt,M,W,e⟩:=B.1
     have hv1:mt v= -1:=W v (by rw[h2,hr,decide_eq_true (rfl:v=v)];simp)
     have hw1:mt w0= -1:=W w0 (by rw[h2,decide_eq_true (rfl:w0=w0)];simp)
     obtain⟨k1,k2,k3⟩:=M.el v w0 hE
     let mt':Nat→Int:=fun u=>if u=v then(w0:Int) else if u=w0 then(v:Int) else mt u
     have m1:mt' v=(w0:Int):=if_pos rfl
     have m2:mt' w0=(v:Int):=by
      show(if w0=v then(w0:Int) else if w0=w0 then(v:Int) else mt w0)=_
      rw[if_neg hw2.2,if_pos rfl]
     have m3:∀u,u≠v→u≠w0→mt' u=mt u:=fun u a b=>by
      show(if u=v then(w0:Int) else if u=w0 then(v:Int) else mt u)=_
      rw[if_neg a,if_neg b]
     refine⟨mt',M.add hv1 hw1 hE m1 m2 m3,fun u hu=>?_,?_⟩
     · have a:u≠v:=fun e=>by rw[e,hsv] at hu;cases hu
       have b:u≠w0:=fun e=>by rw[e,hw2.1] at hu;cases hu
       rw[m3 u a b]
       exact W u (by rw[h2,hr,hu];rfl)
     · have:=zcY k1 k2 k3 hv1 hw1 (by rw[m1];omega) (by rw[m2];omega) m3
       omega
 · have old:(mt v= -1∨∃w:Nat,w<w0∧mt v=(w:Int))→N≤qf N mt+2*max c (1+k):=fun h=>by
    have:=C.2 mt M W h
    have:=Nat.le_max_left c (1+k)
    omega
   rcases q with q|⟨w,hwl,q⟩
   · exact old (.inl q)
   · by_cases e:w=w0
     · subst e
       have M2:=M.del q
       have e2:=ziu M q
       have:=B.2 _ M2 fun u hu=>by
        show(if u=v∨u=w then -1 else mt u)= -1
        by_cases h:u=v∨u=w
        · rw[if_pos h]
        · rw[if_neg h]
          refine W u ?_
          rw[h2,hr,decide_eq_false (fun e=>h (.inl e)),decide_eq_false (fun e=>h (.inr e))] at hu
          simpa using hu
       have:=Nat.le_max_right c (1+k)
       omega
     · exact old (.inr ⟨w,by omega,q⟩)
theorem cur_end {N:Nat}{E:Nat→Nat→Prop}{s v c:Nat}(hv:v<N)(C:Cur N E s v N c):xA N E s c:=⟨C.1,fun mt M W=>C.2 mt M W (by
 rcases M.at_ v hv with h|⟨w,h,hw⟩
 · exact .inl h
 · exact .inr ⟨w,hw,h⟩)⟩
theorem zhf {N:Nat}{E:Nat→Nat→Prop}{s k:Nat}(B:xA N E s k)(hs:∀v,v<N→s.testBit v=true){mt:Nat→Int}(L:Lg N E mt)(hbig:∀v,¬v<N→mt v= -1):N=qf N mt+2*k:=by
 obtain⟨⟨mt',M,W,e⟩,B2⟩:=B
 have h1:=B2 mt L.1 fun v hv=>by
  by_cases h:v<N
  · rw[hs v h] at hv;cases hv
  · exact hbig v h
 have h2:=L.2 mt' M
 omega
theorem zid {s v:Nat}(hv:s.testBit v=true)(hlow:∀u,u<v→s.testBit u=false)(u:Nat):(s&&&(s - 1)).testBit u=(s.testBit u&& !decide (u=v)):=by
 have hm:s%2^(v+1)=2^v:=by
  apply Nat.eq_of_testBit_eq
  intro j
  rw[Nat.testBit_mod_two_pow,Nat.testBit_two_pow]
  by_cases h:j<v
  · rw[hlow j h,Bool.and_false,decide_eq_false (show¬v=j by omega)]
  · by_cases h2:j=v
    · subst h2;rw[hv,decide_eq_true (show j<j+1 by omega),decide_eq_true rfl];rfl
    · rw[decide_eq_false (show¬j<v+1 by omega),decide_eq_false (show¬v=j by omega)];rfl
 have hs:s=2^(v+1)*(s / 2^(v+1))+2^v:=by
  have:=Nat.div_add_mod s (2^(v+1))
  omega
 have hp:0<2^v:=Nat.two_pow_pos v
 have hlt:2^v<2^(v+1):=Nat.pow_lt_pow_right (by omega) (by omega)
 generalize s / 2^(v+1)=q at hs
 have hs1:s - 1=2^(v+1)*q+(2^v - 1):=by omega
 rw[Nat.testBit_and,hs1,Nat.testBit_two_pow_mul_add _ (by omega),Nat.testBit_two_pow_sub_one]
 have hsu:s.testBit u=if u<v+1 then(2^v).testBit u else q.testBit (u - (v+1)):=by
  conv=>lhs;rw[hs]
  exact Nat.testBit_two_pow_mul_add _ hlt u
 rw[hsu,Nat.testBit_two_pow]
 by_cases h:u<v+1
 · rw[if_pos h,if_pos h]
   by_cases h2:u=v
   · subst h2;simp
   · have:¬v=u:=fun e=>h2 e.symm
     simp[this]
 · rw[if_neg h,if_neg h]
   have:¬u=v:=by omega
   simp[this]
end Go.Ga.Gl
namespace Go.Proofs.Ytmcfdfafeheihaa
open Go Go.Ga Go.Ga.Gl
def bor (a b:Int):Int:=IntKind.i64.wrap ((BitVec.ofInt 64 a|||BitVec.ofInt 64 b).toNat:Int)
def zhg (a b:Int):Int:=IntKind.i64.wrap ((BitVec.ofInt 64 a&&&BitVec.ofInt 64 b).toNat:Int)
def zms (a b:Int):Int:=IntKind.i64.wrap ((BitVec.ofInt 64 a&&&~~~ BitVec.ofInt 64 b).toNat:Int)
theorem orI (a b:Int):yy .or .i64 a b=some (.int .i64 (bor a b)):=rfl
theorem zeO (a b:Int):yy .and .i64 a b=some (.int .i64 (zhg a b)):=rfl
theorem znc (a b:Int):yy .andNot .i64 a b=some (.int .i64 (zms a b)):=rfl
theorem WT {a:Nat}(h:a<2^62):(BitVec.ofInt 64 (a:Int)).toNat=a:=by
 rw[BitVec.toNat_ofInt]
 omega
theorem zdi {a b:Nat}(ha:a<2^62)(hb:b<2^62):bor (a:Int) (b:Int)=((a|||b:Nat):Int):=by
 unfold bor
 rw[BitVec.toNat_or,WT ha,WT hb]
 have:=Nat.or_lt_two_pow ha hb
 exact IntWalk.i64_in _ (by omega)
theorem za9 {a b:Nat}(ha:a<2^62)(hb:b<2^62):zhg (a:Int) (b:Int)=((a&&&b:Nat):Int):=by
 unfold zhg
 rw[BitVec.toNat_and,WT ha,WT hb]
 have:=Nat.and_lt_two_pow a hb
 exact IntWalk.i64_in _ (by omega)
theorem zhe {a b:Nat}(ha:a<2^62)(hb:b<2^62):∃r:Nat,zms (a:Int) (b:Int)=(r:Int)∧r≤a∧∀u,r.testBit u=(a.testBit u&& !b.testBit u):=by
 have e:(BitVec.ofInt 64 (a:Int)&&&~~~ BitVec.ofInt 64 (b:Int)).toNat=a&&&(2^64 - 1 - b):=by
  rw[BitVec.toNat_and,WT ha,BitVec.toNat_not,WT hb]
 have hle:a&&&(2^64 - 1 - b)≤a:=Nat.and_le_left
 refine⟨a&&&(2^64 - 1 - b),?_,hle,fun u=>?_⟩
 · unfold zms
   rw[e]
   exact IntWalk.i64_in _ (by omega)
 · have h64:b<2^64:=by omega
   rw[Nat.testBit_and]
   rw[show 2^64 - 1 - b=2^64 - (b+1) by omega,Nat.testBit_two_pow_sub_succ h64]
   by_cases hu:u<64
   · rw[decide_eq_true hu,Bool.true_and]
   · have:a.testBit u=false:=Nat.testBit_lt_two_pow (Nat.lt_of_lt_of_le ha (Nat.pow_le_pow_right (by omega) (by omega)))
     rw[this];rfl
theorem xD {w:Nat}(h:w≤40):JP .shl .i64 1 (w:Int)=some (.int .i64 ((2^w:Nat):Int)):=by
 have hp:2^w≤2^40:=Nat.pow_le_pow_right (by omega) h
 unfold JP
 rw[if_neg (by omega)]
 have e:min ((w:Int).toNat) IntKind.i64.bits=w:=by
  show min w 64=w
  omega
 simp only[e,Int.one_mul]
 have:IntKind.i64.wrap (2^w:Int)=((2^w:Nat):Int):=by
  rw[show(2^w:Int)=((2^w:Nat):Int) by simp]
  generalize 2^w=p at hp⊢
  exact IntWalk.i64_in _ (by omega)
 rw[this]
theorem ky {s v:Nat}(h:v≤60):JP .shr .i64 (s:Int) (v:Int)=some (.int .i64 ((s / 2^v:Nat):Int)):=by
 unfold JP
 rw[if_neg (by omega)]
 have e:min ((v:Int).toNat) IntKind.i64.bits=v:=by
  show min v 64=v
  omega
 simp only[e]
 rw[Int.fdiv_eq_ediv_of_nonneg _ (Int.le_of_lt (Int.pow_pos (by decide)))]
 simp
theorem Kg {s v:Nat}(h:s<2^62):zhg ((s / 2^v:Nat):Int) 1=if s.testBit v=true then 1 else 0:=by
 have hl:s / 2^v<2^62:=Nat.lt_of_le_of_lt (Nat.div_le_self _ _) h
 rw[show(1:Int)=((1:Nat):Int) from rfl,za9 hl (by decide),Nat.and_one_is_mod,Nat.testBit_eq_decide_div_mod_eq]
 by_cases h1:s / 2^v%2=1
 · rw[decide_eq_true h1,if_pos rfl,h1]
 · rw[decide_eq_false h1,if_neg (by simp)]
   omega
instance znj (es:Es)(a b:Nat):Decidable (ZY es a b):=inferInstanceAs (Decidable ((a,b)∈es∨(b,a)∈es))
def zcO (es:Es)(nm:List Nat):Prop:=∀v,v<nm.length→nm.getD v 0<2^nm.length∧∀u,(nm.getD v 0).testBit u=decide (ZY es v u)
theorem zbU {N:Nat}{es:Es}{k a b:Nat}{nm:List Nat}(hN:nm.length=N)(h:zcO (es.take k) nm)(hx:es[k]?=some (a,b))(hab:a<b)(hb:b<N):zcO (es.take (k+1)) ((nm.set a (nm.getD a 0|||2^b)).set b ((nm.set a (nm.getD a 0|||2^b)).getD b 0|||2^a)):=by
 have ht:es.take (k+1)=es.take k++[(a,b)]:=by
  rw[List.take_add_one,hx];rfl
 have hadj:∀v u,ZY (es.take (k+1)) v u↔ZY (es.take k) v u∨(v=a∧u=b)∨(v=b∧u=a):=fun v u=>by
  rw[ht]
  unfold ZY
  simp only[List.mem_append,List.mem_singleton,Prod.mk.injEq]
  constructor
  · rintro((h|h)|(h|⟨h1,h2⟩))
    · exact .inl (.inl h)
    · exact .inr (.inl h)
    · exact .inl (.inr h)
    · exact .inr (.inr ⟨h2,h1⟩)
  · rintro((h|h)|h|⟨h1,h2⟩)
    · exact .inl (.inl h)
    · exact .inr (.inl h)
    · exact .inl (.inr h)
    · exact .inr (.inr ⟨h2,h1⟩)
 have g1:∀v,v<N→((nm.set a (nm.getD a 0|||2^b)).set b ((nm.set a (nm.getD a 0|||2^b)).getD b 0|||2^a)).getD v 0=if v=b then nm.getD b 0|||2^a else if v=a then nm.getD a 0|||2^b else nm.getD v 0:=fun v hv=>by
  have hab':a≠b:=by omega
  by_cases e:v=b
  · subst e
    have:a≠v:=by omega
    simp[hN,hv,this]
  · by_cases e2:v=a
    · subst e2
      have:b≠v:=by omega
      simp[hN,hv,this,e]
    · have h1:b≠v:=fun k=>e k.symm
      have h2:a≠v:=fun k=>e2 k.symm
      simp[h1,h2,e,e2,List.getElem?_set]
 intro v hv
 have hlen:((nm.set a (nm.getD a 0|||2^b)).set b ((nm.set a (nm.getD a 0|||2^b)).getD b 0|||2^a)).length=N:=by simp[hN]
 rw[hlen] at hv⊢
 rw[g1 v hv]
 have hp:∀c,c<N→2^c<2^N:=fun c hc=>Nat.pow_lt_pow_right (by omega) hc
 have hn:∀c,c<N→nm.getD c 0<2^N∧∀u,(nm.getD c 0).testBit u=decide (ZY (es.take k) c u):=fun c hc=>by
  have:=h c (by omega)
  rw[hN] at this
  exact this
 by_cases e:v=b
 · subst e
   rw[if_pos rfl]
   refine⟨Nat.or_lt_two_pow (hn v hb).1 (hp a (by omega)),fun u=>?_⟩
   rw[Nat.testBit_or,(hn v hb).2,Nat.testBit_two_pow]
   rw [show decide (ZY (es.take (k+1)) v u)=(decide (ZY (es.take k) v u)||decide (a=u)) from by
    rw[←Bool.decide_or]
    refine decide_eq_decide.2 ((hadj v u).trans ?_)
    constructor
    · rintro(h|⟨h,_⟩|⟨_,h⟩)
      · exact .inl h
      · omega
      · exact .inr h.symm
    · rintro(h|h)
      · exact .inl h
      · exact .inr (.inr ⟨rfl,h.symm⟩)]
 · rw [if_neg e]
   by_cases e2:v=a
   · subst e2
     rw[if_pos rfl]
     refine⟨Nat.or_lt_two_pow (hn v hv).1 (hp b hb),fun u=>?_⟩
     rw[Nat.testBit_or,(hn v hv).2,Nat.testBit_two_pow]
     rw [show decide (ZY (es.take (k+1)) v u)=(decide (ZY (es.take k) v u)||decide (b=u)) from by
      rw[←Bool.decide_or]
      refine decide_eq_decide.2 ((hadj v u).trans ?_)
      constructor
      · rintro(h|⟨_,h⟩|⟨h,_⟩)
        · exact .inl h
        · exact .inr h.symm
        · omega
      · rintro(h|h)
        · exact .inl h
        · exact .inr (.inl ⟨rfl,h.symm⟩)]
   · rw[if_neg e2]
     refine⟨(hn v hv).1,fun u=>?_⟩
     rw[(hn v hv).2]
     refine decide_eq_decide.2 ((hadj v u).trans ⟨fun h=>?_,fun h=>?_⟩).symm
     · rcases h with h|⟨h,_⟩|⟨h,_⟩
       · exact h
       · exact absurd h e2
       · exact absurd h e
     · exact .inl h
theorem ziH {N:Nat}{E:Nat→Nat→Prop}{s k:Nat}(B:xA N E s k):k≤N:=by
 obtain⟨⟨mt,_,_,h⟩,_⟩:=B
 omega
theorem zmp {N:Nat}{E:Nat→Nat→Prop}{s v w k:Nat}(B:Cur N E s v w k):k≤N:=by
 obtain⟨⟨mt,_,_,h⟩,_⟩:=B
 omega
theorem zbT (es:Es)(N:Nat):zcO (es.take 0) (List.replicate N 0):=fun v hv=>by
 rw[List.length_replicate] at hv⊢
 have e:(List.replicate N 0).getD v 0=0:=by simp[hv]
 rw[e]
 refine⟨Nat.two_pow_pos N,fun u=>?_⟩
 rw[Nat.zero_testBit]
 symm
 rw[decide_eq_false_iff_not]
 unfold ZY
 simp
theorem ze8 {N:Nat}{es:Es}(g:GR N es)(hN:N≤12):zn Try.prog [] zjr [.agg [.sc (.int .i64 (N:Int)),.imm 2 (Zh (zD es))]] [] fun r h'=>(∃t:List Nat,t.length=2^N∧(∀s,s<2^N→xA N (ZY es) s (t.getD s 0))∧r= .own (some 1) (zH t))∧h'=[]:=by
 have hem:=g.hm
 have hm1:8*N≤140737488355328∧(N:Int)≤9223372036854775807:=by omega
 have hp:2^N≤2^12:=Nat.pow_le_pow_right (by omega) hN
 have hp0:1≤2^N:=Nat.two_pow_pos N
 have hM0:Mf N (ZY es) (fun _=> -1):=g.none fun _=>rfl
 have uN:IntKind.u64.wrap (N:Int)=(N:Int):=IntWalk.u64_in _ (by omega)
 have hshN:=xD (show N≤40 by omega)
 have ub:∀x:Nat,x<N→IntKind.u64.wrap (x:Int)=(x:Int):=fun x hx=>IntWalk.u64_in _ (by omega)
 have h2p:∀x:Nat,x<N→2^x<2^62:=fun x hx=>Nat.pow_lt_pow_right (by omega) (by omega)
 obtain⟨P,hP⟩:∃P,P=2^N:=⟨_,rfl⟩
 rw[←hP] at hshN hp hp0
 have hm2:8*P≤140737488355328∧(P:Int)≤9223372036854775807:=by omega
 refine zlW rfl ?_
 unfold zkt Zr
 refine za fun KY hKY=>?_
 simp only[go_sem,Ov]
 apply hKY
 refine za fun KY hKY=>?_
 simp only[go_sem,Ou,hm1,Int.le_refl,Wq]
 apply hKY
 refine zf fun X1 hn1 he1 hr1=>?_
 refine za fun KY hKY=>?_
 simp only[go_sem,Ot]
 apply hKY
 refine zm fun X2 hn2 he2 hf2 hr2=>?_
 try simp only[go_sem]
 refine zQ (α:=Nat×List Nat) [5,6,19] (fun(k,nm)=>[(3,.own (some 1) (zH nm)),(4,.sc (.int .i64 (k:Int)))]) (fun(k,nm)=>[]) (fun(k,nm) q=>k≤es.length∧nm.length=N∧zcO (es.take k) nm∧q=es.length - k) ((0,List.replicate N 0)) (es.length) rfl (by first|(simp only[go_sem,zd,ze];done)|with_reducible rfl|rfl) (⟨Nat.zero_le _,by simp,zbT es N,rfl⟩) ?_
 rintro⟨k,nm⟩ q ⟨hk,hnl,hmk,rfl⟩ X3 hn3 he3 hr3
 simp only[go_sem,zd,ze]
 refine zf fun X4 hn4 he4 hr4=>?_
 rcases Nat.lt_or_ge k es.length with hk2|hk2
 · have hdx:decide ((k:Int)<(es.length:Int))=true:=decide_eq_true (by omega)
   have hx:es[k]?=some (es[k]):=List.getElem?_eq_getElem hk2
   have hok:=g.ok _ (List.getElem_mem hk2)
   generalize es[k]=ab at hx hok
   obtain⟨a,b⟩:=ab
   simp only at hok
   have hcx:(zD es)[k]?=some ((a:Int),(b:Int)):=by simp[zD,hx]
   have hg0:=Kt hcx
   have hg1:=Ks hcx
   simp only at hg0 hg1
   have hst:=zbU hnl hmk hx hok.1 hok.2
   have ha:=(hmk a (by omega)).1
   have hb:=(hmk b (by omega)).1
   rw[hnl,←hP] at ha hb
   have hga:(zH nm)[a]?=some (.sc (.int .i64 ((nm.getD a 0:Nat):Int))):=zv (by omega)
   have hor1:=zdi (show nm.getD a 0<2^62 by omega) (h2p b hok.2)
   have hl1:(nm.set a (nm.getD a 0|||2^b)).length=N:=by simp[hnl]
   have hb1:(nm.set a (nm.getD a 0|||2^b)).getD b 0=nm.getD b 0:=by
    have:a≠b:=by omega
    simp[this]
   rw[hb1] at hst
   have hgb:(zH (nm.set a (nm.getD a 0|||2^b)))[b]?=some (.sc (.int .i64 ((nm.getD b 0:Nat):Int))):=by rw[zv (by omega),hb1]
   have hor2:=zdi (show nm.getD b 0<2^62 by omega) (h2p a (by omega))
   have hsa:=xD (show a≤40 by omega)
   have hsb:=xD (show b≤40 by omega)
   refine za fun KY hKY=>?_
   simp only[go_sem,uV,jd,kS,zz,hdx]
   apply hKY
   refine ZC ?_
   refine zh ?_
   repeat (first|refine hn4 _ ?_|refine he4 _ _ ?_|refine he3 _ _ ?_|refine hn2 _ ?_|refine he2 _ ?_|refine hf2 _ _ (by decide) ?_|refine hn1 _ ?_|refine he1 _ _ ?_)
   refine zf fun X5 hn5 he5 hr5=>?_
   refine zm fun X6 hn6 he6 hf6 hr6=>?_
   refine zw fun KY hKY=>?_
   simp only[go_sem,Oq,hg0,hg1,jd,zz,kS,hk2,(show k*2+1<es.length*2 by omega),(show k*2<es.length*2 by omega),List.length_drop,(show 1<es.length*2 - k*2 by omega),List.getElem?_drop]
   apply hKY
   refine za fun KY hKY=>?_
   simp only[go_sem,Oo,hga,zU,hnl,(show a<N by omega),ub b hok.2,hsb,↓orI,hor1,yu]
   apply hKY
   refine zo fun KY hKY=>?_
   simp only[go_sem,Om,hgb,zU,hl1,hok.2,ub a (by omega),hsa,↓orI,hor2,yu]
   apply hKY
   repeat (first|refine hn6 _ ?_|refine he6 _ ?_|refine hf6 _ _ (by decide) ?_|refine hn5 _ ?_|refine he5 _ _ ?_|refine hn4 _ ?_|refine he4 _ _ ?_|refine he3 _ _ ?_|refine hn2 _ ?_|refine he2 _ ?_|refine hf2 _ _ (by decide) ?_|refine hn1 _ ?_|refine he1 _ _ ?_)
   refine zo fun KY hKY=>?_
   simp only[go_sem,Ol,zL (show k<4611686018427387904 by omega)]
   apply hKY
   repeat (first|refine hn6 _ ?_|refine he6 _ ?_|refine hf6 _ _ (by decide) ?_|refine hn5 _ ?_|refine he5 _ _ ?_|refine hn4 _ ?_|refine he4 _ _ ?_)
   refine hn3 _ ((k+1,(nm.set a (nm.getD a 0|||2^b)).set b (nm.getD b 0|||2^a))) (es.length - (k+1)) (by omega) (by first|(simp only[go_sem,zd,ze];done)|with_reducible rfl|rfl) ?_
   exact⟨hk2,by simp[hnl],hst,rfl⟩
 have hdx:decide ((k:Int)<(es.length:Int))=false:=decide_eq_false (by omega)
 refine za fun KY hKY=>?_
 simp only[go_sem,uV,jd,kS,zz,hdx]
 apply hKY
 refine Zw ?_
 refine zy ?_
 repeat (first|refine hn4 _ ?_|refine he4 _ _ ?_|refine he3 _ _ ?_|refine hn2 _ ?_|refine he2 _ ?_|refine hf2 _ _ (by decide) ?_|refine hn1 _ ?_|refine he1 _ _ ?_)
 have hmf:∀v,v<N→nm.getD v 0<P∧∀u,(nm.getD v 0).testBit u=decide (ZY es v u):=fun v hv=>by
  have:=hmk v (by omega)
  rw[hnl,←hP,List.take_of_length_le (by omega)] at this
  exact this
 refine za fun KY hKY=>?_
 simp only[go_sem,Ok,uN,hshN,hm2,Int.le_refl,Wq]
 apply hKY
 have hb0:xA N (ZY es) 0 0:=zeM hM0
 clear hk hk2 hdx hmk
 have hst0:∀x,x<1→xA N (ZY es) x ((List.replicate P 0).getD x 0):=fun x hx=>by
  obtain rfl:x=0:=by omega
  have:(List.replicate P 0).getD 0 0=0:=by
   rw[List.getD_eq_getElem?_getD,List.getElem?_replicate]
   split<;>rfl
  rw[this];exact hb0
 refine zf fun X7 hn7 he7 hr7=>?_
 refine za fun KY hKY=>?_
 simp only[go_sem,Oj]
 apply hKY
 refine zm fun X8 hn8 he8 hf8 hr8=>?_
 try simp only[go_sem]
 refine zQ (α:=Nat×List Nat) [9,10,11,64,72,91,110] (fun(s,t)=>[(7,.own (some 1) (zH t)),(8,.sc (.int .i64 (s:Int)))]) (fun(s,t)=>[]) (fun(s,t) q=>1≤s∧s≤P∧t.length=P∧(∀x,x<s→xA N (ZY es) x (t.getD x 0))∧q=P - s) ((1,List.replicate P 0)) (P - 1) rfl (by first|(simp only[go_sem,zd,ze];done)|with_reducible rfl|rfl) (⟨Nat.le_refl _,hp0,by simp,hst0,rfl⟩) ?_
 rintro⟨s,t⟩ q ⟨hs1,hsP,htl,hbe,rfl⟩ X9 hn9 he9 hr9
 simp only[go_sem,zd,ze]
 refine zf fun X10 hn10 he10 hr10=>?_
 rcases Nat.lt_or_ge s P with hs2|hs2
 · have hdx :decide ((s:Int)<(P:Int))=true:=decide_eq_true (by omega)
   have hs62:s<2^62:=by omega
   have htop:∀u,N≤u→s.testBit u=false:=fun u hu=>Nat.testBit_lt_two_pow (by rw[hP] at hs2;exact Nat.lt_of_lt_of_le hs2 (Nat.pow_le_pow_right (by omega) hu))
   refine za fun KY hKY=>?_
   simp only[go_sem,WM,zU,htl,hdx]
   apply hKY
   refine ZC ?_
   refine zh ?_
   repeat (first|refine hn10 _ ?_|refine he10 _ _ ?_|refine he9 _ _ ?_|refine hn8 _ ?_|refine he8 _ ?_|refine hf8 _ _ (by decide) ?_|refine hn7 _ ?_|refine he7 _ _ ?_|refine hn4 _ ?_|refine he4 _ _ ?_)
   refine zf fun X11 hn11 he11 hr11=>?_
   refine zm fun X12 hn12 he12 hf12 hr12=>?_
   refine za fun KY hKY=>?_
   simp only[go_sem,VY]
   apply hKY
   refine zf fun X13 hn13 he13 hr13=>?_
   refine zm fun X14 hn14 he14 hf14 hr14=>?_
   try simp only[go_sem]
   refine zQ (α:=Nat) [72] (fun v=>[(9,.sc (.int .i64 (v:Int)))]) (fun v=>[]) (fun v q=>v≤N∧(∀u,u<v→s.testBit u=false)∧q=N - v) (0) (N) rfl (by first|(simp only[go_sem,zd,ze];done)|with_reducible rfl|rfl) (⟨Nat.zero_le _,fun u hu=>by omega,rfl⟩) ?_
   rintro v q ⟨hv,hlow,rfl⟩ X15 hn15 he15 hr15
   simp only[go_sem,zd,ze]
   have hvN:v<N:=by
    rcases Nat.lt_or_ge v N with h|h
    · exact h
    · exfalso
      have:s=0:=Nat.eq_of_testBit_eq fun u=>by
       rw[Nat.zero_testBit]
       rcases Nat.lt_or_ge u v with h2|h2
       · exact hlow u h2
       · exact htop u (by omega)
      omega
   have hsr:=ky (s:=s) (show v≤60 by omega)
   have hbo:=Kg (v:=v) hs62
   refine zf fun X16 hn16 he16 hr16=>?_
   cases hvb:s.testBit v with
   | false=>
     rw[hvb,if_neg (by simp)] at hbo
     refine za fun KY hKY=>?_
     simp only[go_sem,WL,ub v hvN,hsr,↓zeO,hbo]
     apply hKY
     refine ZC ?_
     refine zh ?_
     repeat (first|refine hn16 _ ?_|refine he16 _ _ ?_|refine he15 _ _ ?_|refine hn14 _ ?_|refine he14 _ ?_|refine hf14 _ _ (by decide) ?_|refine hn13 _ ?_|refine he13 _ _ ?_|refine hn12 _ ?_|refine he12 _ ?_|refine hf12 _ _ (by decide) ?_|refine hn11 _ ?_|refine he11 _ _ ?_|refine hn10 _ ?_|refine he10 _ _ ?_)
     refine zm fun X17 hn17 he17 hf17 hr17=>?_
     refine zo fun KY hKY=>?_
     simp only[go_sem,VX,zL (show v<4611686018427387904 by omega)]
     apply hKY
     repeat (first|refine hn17 _ ?_|refine he17 _ ?_|refine hf17 _ _ (by decide) ?_|refine hn16 _ ?_|refine he16 _ _ ?_)
     refine hn15 _ (v+1) (N - (v+1)) (by omega) (by first|(simp only[go_sem,zd,ze];done)|with_reducible rfl|rfl) ?_
     refine⟨hvN,fun u hu=>?_,rfl⟩
     by_cases e:u=v
     · rw[e];exact hvb
     · exact hlow u (by omega)
   | true=>
     rw[hvb,if_pos rfl] at hbo
     refine za fun KY hKY=>?_
     simp only[go_sem,WL,ub v hvN,hsr,↓zeO,hbo]
     apply hKY
     refine Zw ?_
     refine zy ?_
     repeat (first|refine hn16 _ ?_|refine he16 _ _ ?_|refine he15 _ _ ?_|refine hn14 _ ?_|refine he14 _ ?_|refine hf14 _ _ (by decide) ?_|refine hn13 _ ?_|refine he13 _ _ ?_|refine hn12 _ ?_|refine he12 _ ?_|refine hf12 _ _ (by decide) ?_|refine hn11 _ ?_|refine he11 _ _ ?_|refine hn10 _ ?_|refine he10 _ _ ?_|refine he9 _ _ ?_|refine hn8 _ ?_|refine he8 _ ?_|refine hf8 _ _ (by decide) ?_|refine hn7 _ ?_|refine he7 _ _ ?_|refine hn4 _ ?_|refine he4 _ _ ?_|refine he3 _ _ ?_|refine hn2 _ ?_|refine he2 _ ?_|refine hf2 _ _ (by decide) ?_|refine hn1 _ ?_|refine he1 _ _ ?_)
     obtain⟨rest,hrest⟩:∃x,x=s&&&(s - 1):=⟨_,rfl⟩
     have hrb:=zid hvb hlow
     rw[←hrest] at hrb
     have hrle:rest≤s - 1:=by rw[hrest];exact Nat.and_le_right
     have hw1:IntKind.i64.wrap ((s:Int) - 1)=((s - 1:Nat):Int):=by rw[IntWalk.i64_in _ (by omega)];omega
     have hba:zhg (s:Int) ((s - 1:Nat):Int)=(rest:Int):=by rw[za9 hs62 (by omega),←hrest]
     have hB0:=hbe rest (by omega)
     have hC0:=zez hlow hrb hB0
     have hgr:(zH t)[rest]?=some (.sc (.int .i64 ((t.getD rest 0:Nat):Int))):=zv (by omega)
     have hr62:rest<2^62:=by omega
     refine za fun KY hKY=>?_
     simp only[go_sem,VW,hw1,↓zeO,hba]
     apply hKY
     refine za fun KY hKY=>?_
     simp only[go_sem,VV,hgr,zU,htl,(show rest<P by omega),hs2,yu]
     apply hKY
     refine za fun KY hKY=>?_
     simp only[go_sem,VU,zL (show v<4611686018427387904 by omega)]
     apply hKY
     refine zm fun X18 hn18 he18 hf18 hr18=>?_
     try simp only[go_sem]
     refine zQ (α:=Nat×Nat) [91,110] (fun(w,c)=>[(7,.own (some 1) (zH (t.set s c))),(11,.sc (.int .i64 (w:Int)))]) (fun(w,c)=>[]) (fun(w,c) q=>v<w∧w≤N∧Cur N (ZY es) s v w c∧q=N - w) ((v+1,t.getD rest 0)) (N - (v+1)) rfl (by first|(simp only[go_sem,zd,ze];done)|with_reducible rfl|rfl) (⟨by omega,hvN,hC0,rfl⟩) ?_
     rintro⟨w,c⟩ q ⟨hvw,hwN,hC,rfl⟩ X19 hn19 he19 hr19
     simp only[go_sem,zd,ze]
     have htl2:(t.set s c).length=P:=by simp[htl]
     refine zf fun X20 hn20 he20 hr20=>?_
     rcases Nat.lt_or_ge w N with hw2|hw2
     · have hdw:decide ((w:Int)<(N:Int))=true:=decide_eq_true (by omega)
       have hsw:=ky (s:=rest) (show w≤60 by omega)
       have hbw:=Kg (v:=w) hr62
       have hmv:=hmf v hvN
       have hgv:(zH nm)[v]?=some (.sc (.int .i64 ((nm.getD v 0:Nat):Int))):=zv (by omega)
       have hsm:=ky (s:=nm.getD v 0) (show w≤60 by omega)
       have hbm:=Kg (v:=w) (show nm.getD v 0<2^62 by omega)
       rw[hmv.2 w] at hbm
       refine za fun KY hKY=>?_
       simp only[go_sem,WK,hdw]
       apply hKY
       refine ZC ?_
       refine zh ?_
       repeat (first|refine hn20 _ ?_|refine he20 _ _ ?_|refine he19 _ _ ?_|refine hn18 _ ?_|refine he18 _ ?_|refine hf18 _ _ (by decide) ?_|refine hn16 _ ?_|refine he16 _ _ ?_)
       refine zf fun X21 hn21 he21 hr21=>?_
       refine zm fun X22 hn22 he22 hf22 hr22=>?_
       cases hrw:rest.testBit w with
       | false=>
         rw[hrw,if_neg (by simp)] at hbw
         have hno:=zgK hrb hC (fun h=>by rw[hrw] at h;cases h.1)
         refine za fun KY hKY=>?_
         simp only[go_sem,Yh,ub w hw2,hsw,↓zeO,hbw]
         apply hKY
         refine Zw ?_
         refine zh ?_
         repeat (first|refine hn22 _ ?_|refine he22 _ ?_|refine hf22 _ _ (by decide) ?_|refine hn21 _ ?_|refine he21 _ _ ?_|refine hn20 _ ?_|refine he20 _ _ ?_|refine he19 _ _ ?_|refine hn18 _ ?_|refine he18 _ ?_|refine hf18 _ _ (by decide) ?_|refine hn16 _ ?_|refine he16 _ _ ?_)
         refine zo fun KY hKY=>?_
         simp only[go_sem,Yg,zL (show w<4611686018427387904 by omega)]
         apply hKY
         repeat (first|refine hn22 _ ?_|refine he22 _ ?_|refine hf22 _ _ (by decide) ?_|refine hn21 _ ?_|refine he21 _ _ ?_|refine hn20 _ ?_|refine he20 _ _ ?_)
         refine hn19 _ ((w+1,c)) (N - (w+1)) (by omega) (by first|(simp only[go_sem,zd,ze];done)|with_reducible rfl|rfl) ?_
         exact⟨by omega,hw2,hno,rfl⟩
       | true=>
         rw[hrw,if_pos rfl] at hbw
         by_cases hadj:ZY es v w
         · rw[decide_eq_true hadj,if_pos rfl] at hbm
           obtain⟨r2,hr2,hr2le,hr2b⟩:=zhe hr62 (h2p w hw2)
           have hr2t:∀u,r2.testBit u=(rest.testBit u&& !decide (u=w)):=fun u=>by
            rw[hr2b,Nat.testBit_two_pow]
            congr 2
            exact decide_eq_decide.2 eq_comm
           have hB2:=hbe r2 (by omega)
           have hyes:=ziE hvb hrb hr2t hC hrw hadj hB2
           have hk2:=ziH hB2
           have hc2:=zmp hC
           have hgs:(zH (t.set s c))[s]?=some (.sc (.int .i64 (c:Int))):=by
            rw[zv (by omega)]
            have:(t.set s c).getD s 0=c:=by simp[htl,hs2]
            rw[this]
           have hg2:(zH (t.set s c))[r2]?=some (.sc (.int .i64 ((t.getD r2 0:Nat):Int))):=by
            rw[zv (by omega)]
            have:(t.set s c).getD r2 0=t.getD r2 0:=by
             have:s≠r2:=by omega
             simp[this]
            rw[this]
           have hw9:IntKind.i64.wrap (1+((t.getD r2 0:Nat):Int))=((1+t.getD r2 0:Nat):Int):=by rw[IntWalk.i64_in _ (by omega)];omega
           have hmx:max (c:Int) ((1+t.getD r2 0:Nat):Int)=((max c (1+t.getD r2 0):Nat):Int):=by omega
           have hslw:=xD (show w≤40 by omega)
           refine za fun KY hKY=>?_
           simp only[go_sem,Yh,ub w hw2,hsw,↓zeO,hbw,hgv,zU,hnl,hvN,hsm,hbm]
           apply hKY
           refine ZC ?_
           refine Jo fun KY hKY=>?_
           simp only[go_sem,VT,hgs,hg2,zU,htl2,hs2,(show r2<P by omega),ub w hw2,hslw,↓znc,hr2,hw9,hmx,yu,List.set_set]
           apply hKY
           repeat (first|refine hn22 _ ?_|refine he22 _ ?_|refine hf22 _ _ (by decide) ?_|refine hn21 _ ?_|refine he21 _ _ ?_|refine hn20 _ ?_|refine he20 _ _ ?_|refine he19 _ _ ?_|refine hn18 _ ?_|refine he18 _ ?_|refine hf18 _ _ (by decide) ?_|refine hn16 _ ?_|refine he16 _ _ ?_)
           refine zo fun KY hKY=>?_
           simp only[go_sem,Yg,zL (show w<4611686018427387904 by omega)]
           apply hKY
           repeat (first|refine hn22 _ ?_|refine he22 _ ?_|refine hf22 _ _ (by decide) ?_|refine hn21 _ ?_|refine he21 _ _ ?_|refine hn20 _ ?_|refine he20 _ _ ?_)
           refine hn19 _ ((w+1,max c (1+t.getD r2 0))) (N - (w+1)) (by omega) (by first|(simp only[go_sem,zd,ze];done)|with_reducible rfl|rfl) ?_
           exact⟨by omega,hw2,hyes,rfl⟩
         · rw[decide_eq_false hadj,if_neg (by simp)] at hbm
           have hno:=zgK hrb hC (fun h=>hadj h.2)
           refine za fun KY hKY=>?_
           simp only[go_sem,Yh,ub w hw2,hsw,↓zeO,hbw,hgv,zU,hnl,hvN,hsm,hbm]
           apply hKY
           refine Zw ?_
           refine zh ?_
           repeat (first|refine hn22 _ ?_|refine he22 _ ?_|refine hf22 _ _ (by decide) ?_|refine hn21 _ ?_|refine he21 _ _ ?_|refine hn20 _ ?_|refine he20 _ _ ?_|refine he19 _ _ ?_|refine hn18 _ ?_|refine he18 _ ?_|refine hf18 _ _ (by decide) ?_|refine hn16 _ ?_|refine he16 _ _ ?_)
           refine zo fun KY hKY=>?_
           simp only[go_sem,Yg,zL (show w<4611686018427387904 by omega)]
           apply hKY
           repeat (first|refine hn22 _ ?_|refine he22 _ ?_|refine hf22 _ _ (by decide) ?_|refine hn21 _ ?_|refine he21 _ _ ?_|refine hn20 _ ?_|refine he20 _ _ ?_)
           refine hn19 _ ((w+1,c)) (N - (w+1)) (by omega) (by first|(simp only[go_sem,zd,ze];done)|with_reducible rfl|rfl) ?_
           exact⟨by omega,hw2,hno,rfl⟩
     have hdw:decide ((w:Int)<(N:Int))=false:=decide_eq_false (by omega)
     obtain rfl:w=N:=by omega
     have hBs:=cur_end hvN hC
     refine za fun KY hKY=>?_
     simp only[go_sem,WK,hdw]
     apply hKY
     refine Zw ?_
     refine zy ?_
     repeat (first|refine hn20 _ ?_|refine he20 _ _ ?_|refine he19 _ _ ?_|refine hn18 _ ?_|refine he18 _ ?_|refine hf18 _ _ (by decide) ?_|refine hn16 _ ?_|refine he16 _ _ ?_|refine he15 _ _ ?_|refine hn14 _ ?_|refine he14 _ ?_|refine hf14 _ _ (by decide) ?_|refine hn13 _ ?_|refine he13 _ _ ?_|refine hn12 _ ?_|refine he12 _ ?_|refine hf12 _ _ (by decide) ?_|refine hn11 _ ?_|refine he11 _ _ ?_|refine hn10 _ ?_|refine he10 _ _ ?_|refine he9 _ _ ?_|refine hn8 _ ?_|refine he8 _ ?_|refine hf8 _ _ (by decide) ?_|refine hn7 _ ?_|refine he7 _ _ ?_|refine hn4 _ ?_|refine he4 _ _ ?_)
     refine zo fun KY hKY=>?_
     simp only[go_sem,VS,zL (show s<4611686018427387904 by omega)]
     apply hKY
     repeat (first|refine hn20 _ ?_|refine he20 _ _ ?_|refine he19 _ _ ?_|refine hn18 _ ?_|refine he18 _ ?_|refine hf18 _ _ (by decide) ?_|refine hn16 _ ?_|refine he16 _ _ ?_|refine he15 _ _ ?_|refine hn14 _ ?_|refine he14 _ ?_|refine hf14 _ _ (by decide) ?_|refine hn13 _ ?_|refine he13 _ _ ?_|refine hn12 _ ?_|refine he12 _ ?_|refine hf12 _ _ (by decide) ?_|refine hn11 _ ?_|refine he11 _ _ ?_|refine hn10 _ ?_|refine he10 _ _ ?_)
     refine hn9 _ ((s+1,t.set s c)) (P - (s+1)) (by omega) (by first|(simp only[go_sem,zd,ze];done)|with_reducible rfl|rfl) ?_
     refine⟨by omega,hs2,htl2,fun x hx=>?_,rfl⟩
     by_cases e:x=s
     · have:(t.set s c).getD x 0=c:=by rw[e];simp[htl,hs2]
       rw[this,e];exact hBs
     · have:(t.set s c).getD x 0=t.getD x 0:=by
        have:s≠x:=fun k=>e k.symm
        simp[this]
       rw[this];exact hbe x (by omega)
 have hdx:decide ((s:Int)<(P:Int))=false:=decide_eq_false (by omega)
 obtain rfl:s=P:=by omega
 refine za fun KY hKY=>?_
 simp only[go_sem,WM,zU,htl,hdx]
 apply hKY
 refine Zw ?_
 refine zy ?_
 repeat (first|refine hn10 _ ?_|refine he10 _ _ ?_|refine he9 _ _ ?_|refine hn8 _ ?_|refine he8 _ ?_|refine hf8 _ _ (by decide) ?_|refine hn7 _ ?_|refine he7 _ _ ?_|refine hn4 _ ?_|refine he4 _ _ ?_|refine he3 _ _ ?_|refine hn2 _ ?_|refine he2 _ ?_|refine hf2 _ _ (by decide) ?_|refine hn1 _ ?_|refine he1 _ _ ?_)
 refine za fun KY hKY=>?_
 simp only[go_sem,VR]
 apply hKY
 refine zi ?_
 repeat (first|refine hr10 _ ?_|refine hr9 _ ?_|refine hr8 _ ?_|refine hr7 _ ?_|refine hr4 _ ?_|refine hr3 _ ?_|refine hr2 _ ?_|refine hr1 _ ?_)
 simp only[go_sem]
 exact⟨t,by rw[htl,hP],fun x hx=>hbe x (by rw[hP];exact hx),rfl⟩
end Go.Proofs.Ytmcfdfafeheihaa

namespace Go.Ga.Gl
open Go Go.Ga
structure Cut (E E':Nat→Nat→Prop)(v:Nat):Prop where
 iff:∀a b,E' a b↔E a b∧a≠v∧b≠v
theorem Cut.up {n:Nat}{E E':Nat→Nat→Prop}{v:Nat}(K:Cut E E' v){mt0 mt:Nat→Int}(M0:Mf n E mt0)(M:Mf n E' mt):Mf n E mt∧(v<n→mt v= -1):=by
 refine⟨M.mono (fun a b h=>((K.iff a b).1 h).1) M0.es M0.el,fun hv=>?_⟩
 rcases M.at_ v hv with h|⟨w,h,_⟩
 · exact h
 · exact absurd rfl ((K.iff v w).1 (M.ne v w h).2).2.1
theorem GR.filter {N:Nat}{es:Es}(g:GR N es)(p:Nat×Nat→Bool):GR N (es.filter p):=
 ⟨g.hn,Nat.le_trans (List.length_filter_le _ _) g.hm,fun e he=>g.ok e (List.mem_filter.1 he).1,g.up.filter _⟩
def clip (N:Nat)(mt:Nat→Int)(v:Nat):Int:=if v<N then mt v else -1
theorem Mf.clip {N:Nat}{E:Nat→Nat→Prop}{mt:Nat→Int}(M:Mf N E mt):Mf N E (Gl.clip N mt)∧qf N (Gl.clip N mt)=qf N mt:=by
 have lo:∀v,v<N→Gl.clip N mt v=mt v:=fun v h=>if_pos h
 have hi:∀v,¬v<N→Gl.clip N mt v= -1:=fun v h=>if_neg h
 have c:∀v w:Nat,Gl.clip N mt v=(w:Int)→v<N∧mt v=(w:Int):=fun v w h=>by
  by_cases k:v<N
  · rw[lo v k] at h;exact⟨k,h⟩
  · rw[hi v k] at h;omega
 refine⟨⟨fun v hv=>by rw[lo v hv];exact M.at_ v hv,fun v hv w h=>hv (c v w h).1,fun v w h=>?_,fun v w h=>M.ne v w (c v w h).2,M.es,M.el⟩,?_⟩
 · obtain⟨k1,k2⟩:=c v w h
   have:=M.el v w (M.ne v w k2).2
   rw[lo w this.2.1];exact M.sy v w k2
 · unfold qf
   exact Wo fun v hv=>by unfold jP;rw[lo v hv]
theorem ziG {N:Nat}{E:Nat→Nat→Prop}{k:Nat}(B:xA N E (2^N - 1) k){mt:Nat→Int}(L:Lg N E mt):N=qf N mt+2*k:=by
 obtain⟨k1,k2⟩:=L.1.clip
 have:=zhf B (fun v hv=>by rw[Nat.testBit_two_pow_sub_one];exact decide_eq_true hv) (mt:=clip N mt) ⟨k1,fun mt' h=>by rw[k2];exact L.2 mt' h⟩ (fun v hv=>if_neg hv)
 rw[k2] at this
 exact this
end Go.Ga.Gl
namespace Go.Proofs.Ytmcfdfafeheihaa
open Go Go.Ga Go.Ga.Gl
theorem zd5 {N:Nat}{es:Es}(g:GR N es)(hN:N≤12):zn Try.prog [] zjF [.agg [.sc (.int .i64 (N:Int)),.imm 2 (Zh (zD es))]] [] fun r h'=>(∃k:Nat,xA N (ZY es) (2^N - 1) k∧r= .sc (.int .i64 (k:Int)))∧h'=[]:=by
 have hp:2^N≤2^12:=Nat.pow_le_pow_right (by omega) hN
 have hp0:1≤2^N:=Nat.two_pow_pos N
 refine zma rfl ?_
 unfold zkH xN
 refine za fun KY hKY=>?_
 simp only[go_sem,zaM]
 apply hKY
 refine za fun KY hKY=>?_
 simp only[go_sem,zaL]
 apply zp [] [] false none rfl
 iterate 8 (first|(simp only[go_sem,zq]<;>rfl)|rfl)
 refine(ze8 g hN).mono ?_
 rintro _ _ ⟨⟨t,htl,hb,rfl⟩,rfl⟩
 have hB:=hb (2^N - 1) (by omega)
 obtain⟨P,hP⟩:∃P,P=2^N:=⟨_,rfl⟩
 rw[←hP] at htl hp hp0 hB
 have hw:IntKind.i64.wrap ((P:Int) - 1)=((P - 1:Nat):Int):=by rw[IntWalk.i64_in _ (by omega)];omega
 have hg:(zH t)[P - 1]?=some (.sc (.int .i64 ((t.getD (P - 1) 0:Nat):Int))):=zv (by omega)
 refine⟨Nat.le_of_ble_eq_true rfl,(fun hh=>by cases hh),?_⟩
 simp only[go_sem,zr,zb.after]
 apply hKY
 refine za fun KY hKY=>?_
 simp only[go_sem,zaK,zU,htl,hw,hg,(show P - 1<P by omega)]
 apply hKY
 refine zi ?_
 simp only[go_sem]
 exact⟨_,by rw[←hP];exact hB,rfl⟩
end Go.Proofs.Ytmcfdfafeheihaa

namespace Go.Ga.Gl
open Go Go.Ga
end Go.Ga.Gl
namespace Go.Proofs.Ytmcfdfafeheihaa
open Go Go.Ga Go.Ga.Gl
theorem BP.of {N:Nat}{es:Es}(g:GR N es){b:List Int}{x e:Int}(h:BP N (zD es) b x e){ps:List (List Nat)}(h0:JZ N (zD es) b=0)(P:Zd N es (fun v=>(v:Int)∈b) ps):x=(Zg ps:Int) - b.length∧e=0:=
 h.unique (.inr ⟨h0,ps,.inl ⟨je g,N,es,rfl,rfl,g,P⟩,rfl,rfl⟩)
theorem ziV {xs:List Nat}{k:Nat}{x:Nat}(h:xs[k]?=some x):(zH xs)[k]?=some (.sc (.int .i64 (x:Int))):=by simp[zH,h]
theorem zfs (l:List Nat)(h:l.Pairwise (· < ·))(hb:l.length≤1000000000):zn Try.prog [] zjE [.imm 1 (zH l)] [] fun r h'=>r= .sc (.bool true)∧h'=[]:=by
 refine zl9 rfl ?_
 unfold zkG qB
 refine za fun KY hKY=>?_
 simp only[go_sem,zaJ]
 apply hKY
 refine zf fun X1 hn1 he1 hr1=>?_
 refine za fun KY hKY=>?_
 simp only[go_sem,zaI]
 apply hKY
 refine zm fun X2 hn2 he2 hf2 hr2=>?_
 try simp only[go_sem]
 refine zQ (α:=Nat) [7,19] (fun k=>[(3,.sc (.int .i64 ((k+1:Nat):Int)))]) (fun k=>[]) (fun k q=>q=l.length - k) (0) (l.length) rfl (by first|(simp only[go_sem,zd,ze];done)|with_reducible rfl|rfl) (rfl) ?_
 rintro k q rfl X3 hn3 he3 hr3
 simp only[go_sem,zd,ze]
 refine zf fun X4 hn4 he4 hr4=>?_
 refine za fun KY hKY=>?_
 simp only[go_sem,zaH]
 apply hKY
 by_cases hk2:k+1<l.length
 · refine ZC ?_
   refine zh ?_
   repeat (first|refine hn4 _ ?_|refine he4 _ _ ?_|refine he3 _ _ ?_|refine hn2 _ ?_|refine he2 _ ?_|refine hf2 _ _ (by decide) ?_|refine hn1 _ ?_|refine he1 _ _ ?_)
   refine zf fun X5 hn5 he5 hr5=>?_
   refine zm fun X6 hn6 he6 hf6 hr6=>?_
   have hx:l[k+1]?=some l[k+1]:=List.getElem?_eq_getElem hk2
   have hk3:k<l.length:=by omega
   have hy:l[k]?=some l[k]:=List.getElem?_eq_getElem hk3
   have hlt:=List.pairwise_iff_getElem.1 h k (k+1) hk3 hk2 (by omega)
   have hnle:¬((l[k+1]:Nat):Int)≤((l[k]:Nat):Int):=by omega
   generalize l[k+1]=x at hx hnle
   generalize l[k]=y at hy hnle
   refine zw fun KY hKY=>?_
   simp only[go_sem,zaG,ziV hx,ziV hy,hk2,hk3,wB (show k<4611686018427387904 by omega),hnle]
   apply hKY
   refine Zw ?_
   refine zh ?_
   repeat (first|refine hn6 _ ?_|refine he6 _ ?_|refine hf6 _ _ (by decide) ?_|refine hn5 _ ?_|refine he5 _ _ ?_|refine hn4 _ ?_|refine he4 _ _ ?_|refine he3 _ _ ?_|refine hn2 _ ?_|refine he2 _ ?_|refine hf2 _ _ (by decide) ?_|refine hn1 _ ?_|refine he1 _ _ ?_)
   refine zo fun KY hKY=>?_
   simp only[go_sem,zaF,inc (k+1) (by omega)]
   apply hKY
   repeat (first|refine hn6 _ ?_|refine he6 _ ?_|refine hf6 _ _ (by decide) ?_|refine hn5 _ ?_|refine he5 _ _ ?_|refine hn4 _ ?_|refine he4 _ _ ?_)
   refine hn3 _ (k+1) (l.length - (k+1)) (by omega) (by first|(simp only[go_sem,zd,ze];done)|with_reducible rfl|rfl) ?_
   rfl
 · refine Zw ?_
   refine zy ?_
   repeat (first|refine hn4 _ ?_|refine he4 _ _ ?_|refine he3 _ _ ?_|refine hn2 _ ?_|refine he2 _ ?_|refine hf2 _ _ (by decide) ?_|refine hn1 _ ?_|refine he1 _ _ ?_)
   refine za fun KY hKY=>?_
   simp only[go_sem,zaE]
   apply hKY
   refine zi ?_
   repeat (first|refine hr4 _ ?_|refine hr3 _ ?_|refine hr2 _ ?_|refine hr1 _ ?_)
   simp only[go_sem]
theorem zmq (n:Int)(Jz:List Int)(he:Jz.length≤1000000000):zn Try.prog [] zmH [.sc (.int .i64 n),.imm 1 (zk Jz)] [] fun r h'=>r= .sc (.bool true):=by
 refine zmN rfl ?_
 unfold zmW w8
 refine za fun KY hKY=>?_
 simp only[go_sem,zdh]
 apply hKY
 refine za fun KY hKY=>?_
 simp only[go_sem,zdg]
 apply zp [] [] false none rfl
 iterate 8 (first|(simp only[go_sem,zq]<;>rfl)|rfl)
 refine(zff n Jz 11 40 (by omega) (by omega) (by omega)).mono ?_
 rintro _ _ ⟨⟨N,es,g,hN,hm,rfl⟩,rfl⟩
 refine⟨Nat.le_of_ble_eq_true rfl,(fun hh=>by cases hh),?_⟩
 simp only[go_sem,zr,zb.after]
 apply hKY
 refine za fun KY hKY=>?_
 simp only[go_sem,zdf]
 apply zp [] [] false none rfl
 iterate 8 (first|(simp only[go_sem,zq]<;>rfl)|rfl)
 refine(zci g).mono ?_
 rintro _ _ ⟨⟨k,⟨m,D,A,bs,hml,F,K,hk⟩,rfl⟩,rfl⟩
 refine⟨Nat.le_of_ble_eq_true rfl,(fun hh=>by cases hh),?_⟩
 simp only[go_sem,zr,zb.after]
 apply hKY
 refine za fun KY hKY=>?_
 simp only[go_sem,zde]
 apply zp [] [] false none rfl
 iterate 8 (first|(simp only[go_sem,zq]<;>rfl)|rfl)
 refine(zmr g).mono ?_
 rintro _ _ ⟨rfl,rfl⟩
 refine⟨Nat.le_of_ble_eq_true rfl,(fun hh=>by cases hh),?_⟩
 simp only[go_sem,zr,zb.after]
 apply hKY
 refine jk [0,8] (by simp only[go_sem];rfl) ?_
 simp only[go_sem]
 have l2:=zh2 N (ZY es) 2
 have hl2:(yF (vq N (ZY es) 2)).length=(vq N (ZY es) 2).length:=by simp[yF]
 have hRi:=zfs (vq N (ZY es) 2) (List.pairwise_lt_range.filter _) (by omega)
 have hLk:=zdU N (zD es) (yF (vq N (ZY es) 2)) (by omega)
 rw[←zd9] at hLk
 refine za fun KY hKY=>?_
 simp only[go_sem,zdd]
 apply zp [] [] false none rfl
 iterate 8 (first|(simp only[go_sem,zq]<;>rfl)|rfl)
 refine(hLk).mono ?_
 rintro _ _ ⟨⟨x,e,hx,rfl⟩,rfl⟩
 obtain⟨rfl,ps,P,hxp⟩:=hx.lk g (zhh g 2)
 rw[zh7 F K P] at hxp
 refine⟨Nat.le_of_ble_eq_true rfl,(fun hh=>by cases hh),?_⟩
 simp only[go_sem,zr,zb.after]
 apply hKY
 refine za fun KY hKY=>?_
 simp only[go_sem,zdc]
 refine zx rfl (by simp only[go_sem]<;>rfl) ((zck).mono ?_)
 rintro rr hh ⟨rfl,rfl⟩
 refine⟨rfl,rfl,rfl,?_⟩
 simp only[go_sem]
 refine zx rfl (by simp only[go_sem]<;>rfl) ((zd5 g (by omega)).mono ?_)
 rintro rr hh ⟨⟨k2,hB,rfl⟩,rfl⟩
 refine⟨?_,?_,?_,?_⟩
 iterate 3 (first|rfl|simp only[go_sem])
 have hB2:=ziG hB F.lg
 have d1:decide ((k:Int)=(k2:Int))=true:=decide_eq_true (by omega)
 have w1:IntKind.i64.wrap (2*(k:Int))=2*(k:Int):=by rw[IntWalk.i64_in _ (by omega)]
 have w2:IntKind.i64.wrap ((N:Int) - x)=2*(k:Int):=by rw[IntWalk.i64_in _ (by omega)];omega
 simp only[go_sem,d1]
 refine zx rfl (by simp only[go_sem]<;>rfl) ((hRi).mono ?_)
 rintro rr hh ⟨rfl,rfl⟩
 refine⟨rfl,rfl,rfl,?_⟩
 simp only[go_sem,w1,w2]
 apply hKY
 refine zi ?_
 simp only[go_sem]
theorem WW (As:List zc)(b:Nat)(h:SAs Try.prog Try.f6.params.toList As b)(hb:b≤1048576):zn Try.prog [] 6 As [] fun r _=>r= .sc (.bool true):=by
 rw[Try.params6] at h
 obtain⟨A1,As1,c1,d1,rfl,rfl,h1,h⟩:=KL h
 obtain⟨A2,As2,c2,d2,rfl,rfl,h2,h⟩:=KL h
 obtain rfl:=zhU h
 obtain⟨x1,rfl,w1⟩:=zk3 Try.underlying3 h1
 obtain⟨x2,rfl,w2,e2⟩:=zhV Try.underlying22 Try.underlying3 (by kernel_rfl) h2
 exact(zmq x1 x2 (by omega)).mono fun _ _ h=>h
end Go.Proofs.Ytmcfdfafeheihaa
namespace Go.Proofs.Ytmcfdfafeheihaa.barrierShowsend
open Go Go.Ga Go.ChangeShapes Go.WideShapes Go.ChangeAt Go.RowKit
theorem own :ownKnob Try.prog.godebug=none:=by kernel_rfl
mutual
theorem xM {H:Type}:∀d:DataW H,Rows.uptoBulk d=Jn d
 | .lit l=>by cases l<;>simp[Rows.uptoBulk,Jn]
 | .nil=>by simp[Rows.uptoBulk,Jn]
 | .ptr d=>by simp[Rows.uptoBulk,Jn,xM d]
 | .slice e s=>by simp[Rows.uptoBulk,Jn,bulk_eq e,bulk_eq s]
 | .agg p=>by simp[Rows.uptoBulk,Jn,bulk_eq p]
 | .iface _ d=>by simp[Rows.uptoBulk,Jn,xM d]
 | .map e=>by simp[Rows.uptoBulk,Jn,bulk_es e]
 | .held _=>by simp[Rows.uptoBulk,Jn]
theorem bulk_eq {H:Type}:∀l:List (DataW H),Rows.uptoBulkAll l=bulkL l
 |[]=>by simp[Rows.uptoBulkAll,bulkL]
 |d::r=>by simp[Rows.uptoBulkAll,bulkL,xM d,bulk_eq r]
theorem bulk_es {H:Type}:∀l:List (Lit×DataW H),Rows.uptoBulkEntries l=bulkE l
 |[]=>by simp[Rows.uptoBulkEntries,bulkE]
 |d::r=>by simp[Rows.uptoBulkEntries,bulkE,bulk_e d,bulk_es r]
theorem bulk_e {H:Type}:∀d:Lit×DataW H,Rows.uptoBulkEntry d=bulk1 d
 |(l,d)=>by cases l<;>simp[Rows.uptoBulkEntry,bulk1,xM d]
end
set_option maxRecDepth 100000 in
theorem plain :Plain Try.prog [3,22]:=zfK (by kernel_rfl)
set_option maxRecDepth 100000 in
theorem zgM (H:Type)(enc:TypeId×Value→H)(W:World)(base:Nat)(args:Array Value)(ds gs:List (DataW H))(before:List MemPlace)
    (hval:∀(j:Nat) t v,Try.f6.params[j]?=some t→args[j]?=some v→Value.okWide Try.prog W .any base t v)
    (hW:DataW.Whole enc Try.prog Try.f6.params.toList Rows.barrierShowsSpec.vars false W args.toList ds gs before) (hk:Rows.uptoSmall H (ds++gs)=true):
    Calls Try.prog 6 args W fun e W'=>∃v,e= .returned v∧Rows.barrierShowsSpec.post enc Try.prog Try.f6 false true false false W args v W':=by
  have hW':=hW
  obtain⟨p,q,hA,hV,rfl,hfz,hnd⟩:=hW
  obtain⟨rfl,rfl⟩:=Go.Ga.QA hV
  have hb:bulkL (ds++[])≤1048576:=by rw[←bulk_eq];exact of_decide_eq_true hk
  have r0:DataW.TrodAll enc Try.prog W 0 (fun _=>true) true Try.f6.params.toList args.toList ds p:=hA
  rw[Try.params6] at r0
  obtain⟨v0,vs0,d0,ds0,p0,q0,hv0,rfl,rfl,h0,r1⟩:=trodAll_cons r0
  obtain⟨v1,vs1,d1,ds1,p1,q1,hv1,rfl,rfl,h1,r2⟩:=trodAll_cons r1
  obtain⟨rfl,rfl,rfl⟩:=trodAll_nil r2
  exact US plain hval (by rw[Try.params6];decide) hW' rfl rfl rfl rfl (tb:=4) (by kernel_rfl) Try.underlying4 hb WW
set_option maxRecDepth 100000 in
theorem zle (os:Os)(started:os.Started)(H:Type)(enc:TypeId×Value→H)(F:Stop.Interp):
    ReturnsInHanded {} Try.checked os 6 .any ((Rows.OpenSpec.upto Rows.barrierShowsSpec).pre6 enc Try.prog Try.f6 Rows.barrierShowsUptoRow.domain false) (((Rows.OpenSpec.upto Rows.barrierShowsSpec).at F).post enc Try.prog Try.f6 false true false false):=by
  refine returnsInHanded_of_cond (C:=Try.checked) (s:=Rows.OpenSpec.upto Rows.barrierShowsSpec) (k:=Rows.uptoSmall) rfl own started (by kernel_rfl) Try.func6
    (OpenSpec.witness (enc:=enc) (C:=Try.checked) (s:=Rows.OpenSpec.upto Rows.barrierShowsSpec) (k:=Rows.uptoSmall) rfl false ⟨#[], #[.int .i64 0,.slice none 0 0],[]⟩ 8 (by kernel_rfl) (by kernel_rfl) (by kernel_rfl)
      (x:=([.lit (.int .i64 0),.nil],[],[])) (by kernel_rfl) rfl (by kernel_rfl)) ?_
  intro W base args ds gs before hval hW _ hk _
  exact zgM H enc W base args ds gs before hval hW hk
theorem holds :Rows.BarrierShowsUptoSaid:=
 OpenClaim.holds_of_cond 6 Try.f6 rfl rfl rfl rfl rfl rfl rfl ⟨rfl,rfl,rfl,rfl,rfl⟩ rfl rfl rfl rfl rfl (by kernel_rfl) Try.func6 (by kernel_rfl)
  (of_decide_eq_true (by kernel_rfl)) (by unfold Func.isWrapper;first|(rw[if_pos (by decide+kernel)];kernel_rfl)|(rw[if_neg (by decide+kernel)];exact⟨rfl,rfl⟩))
  (fun os started H enc _ F=>zle os started H enc F)
end Go.Proofs.Ytmcfdfafeheihaa.barrierShowsend
