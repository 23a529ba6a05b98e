/- Of graphs that are long, or have many edges: the set that is told shows what an engine tells. -/
import Derived.Test.YtmcfdfafeheihaaPm3
import Derived.Test.YtmcfdfafeheihaaPm1
import Derived.Test.YtmcfdfafeheihaaGbmhkjf5
import Derived.WalkKit
import Derived.ProofKit
import Derived.OpenShut
import Derived.JoinedCond
set_option linter.all false
set_option maxRecDepth 100000
set_option maxHeartbeats 4000000
namespace Go.Proofs.Ytmcfdfafeheihaa
open Go Go.Ga Go.Ga.Gl
def XQ (es:Es)(m:List Int)(v:Nat):Bool:=decide (m.getD v 0= -1)||(decide (jJ (v:Int) (m.getD v 0)∈zB es)&&decide (m.getD (m.getD v 0).toNat 0=(v:Int)))
def Qi (n:Int)(es:List (Int×Int))(m:List Int):Bool:=zV n es&&decide ((m.length:Int)=n)&&(List.range m.length).all fun v=>decide (m.getD v 0= -1)||(decide (jJ (v:Int) (m.getD v 0)∈es)&&decide (m.getD (m.getD v 0).toNat 0=(v:Int)))
theorem KU {N:Nat}{es:Es}(g:GR N es){v:Nat}{w:Int}(h:jJ (v:Int) w∈zB es):∃u:Nat,w=u∧u<N∧v<N∧u≠v:=by
 obtain⟨⟨a,b⟩,hm,e⟩:=List.mem_map.1 h
 have hok:=g.ok _ hm
 simp only at hok
 unfold jJ at e
 split at e
 · simp only[Prod.mk.injEq] at e
   exact⟨a,by omega,by omega,by omega,by omega⟩
 · simp only[Prod.mk.injEq] at e
   exact⟨b,by omega,by omega,by omega,by omega⟩
theorem zcp (n:Int)(es:List (Int×Int))(m:List Int)(h:(zV n es&&decide ((m.length:Int)=n))=false):zo Try.prog [] zdt [.agg [.sc (.int .i64 n),.imm 2 (zY es)],.imm 1 (zl m)] [] fun r h'=>r= .sc (.bool false)∧h'=[]:=by
 refine zo.trim ?_
 refine zg0 rfl ?_
 unfold zhu Js
 refine za fun KY hKY=>?_
 simp only[go_sem,Ug]
 apply hKY
 refine zf fun X1 hn1 he1 hr1=>?_
 cases hr:zV n es with
 | false=>
   refine za fun KY hKY=>?_
   simp only[go_sem,Wf]
   refine zk rfl (by simp only[go_sem]<;>rfl) ((jT n es).mono ?_)
   rintro rr hh ⟨rfl,rfl⟩
   refine⟨rfl,rfl,rfl,?_⟩
   simp only[go_sem,hr]
   apply hKY
   refine Zw ?_
   refine za fun KY hKY=>?_
   simp only[go_sem,Ue]
   apply hKY
   refine zi ?_
   repeat (first|refine hr1 _ ?_)
   simp only[go_sem]
 | true=>
   rw[hr,Bool.true_and,decide_eq_false_iff_not] at h
   have hd:decide ((m.length:Int)≠n)=true:=decide_eq_true h
   refine za fun KY hKY=>?_
   simp only[go_sem,Wf]
   refine zk rfl (by simp only[go_sem]<;>rfl) ((jT n es).mono ?_)
   rintro rr hh ⟨rfl,rfl⟩
   refine⟨rfl,rfl,rfl,?_⟩
   simp only[go_sem,hr,zj,hd]
   apply hKY
   refine Zw ?_
   refine za fun KY hKY=>?_
   simp only[go_sem,Ue]
   apply hKY
   refine zi ?_
   repeat (first|refine hr1 _ ?_)
   simp only[go_sem]
theorem zcZ {N k:Nat}{φ:Nat→Bool}(h:k<N)(hf:φ k=false):((List.range N).all fun v=>φ v)=false:=by
 rw[Bool.eq_false_iff];intro h'
 rw[List.all_eq_true] at h'
 rw[h' k (List.mem_range.2 h)] at hf;cases hf
theorem gl {N:Nat}{es:Es}(g:GR N es)(m:List Int)(hl:m.length=N):zo Try.prog [] zdt [.agg [.sc (.int .i64 (N:Int)),.imm 2 (zY (zB es))],.imm 1 (zl m)] [] fun r h'=>r= .sc (.bool ((List.range N).all fun v=>XQ es m v))∧h'=[]:=by
 refine zo.trim ?_
 have hN:=g.hn
 have hr:=jf g
 have hd:decide ((m.length:Int)≠(N:Int))=false:=decide_eq_false (by omega)
 refine zg0 rfl ?_
 unfold zhu Js
 refine za fun KY hKY=>?_
 simp only[go_sem,Ug]
 apply hKY
 refine zf fun X1 hn1 he1 hr1=>?_
 refine za fun KY hKY=>?_
 simp only[go_sem,Wf]
 refine zk rfl (by simp only[go_sem]<;>rfl) ((jT N (zB es)).mono ?_)
 rintro rr hh ⟨rfl,rfl⟩
 refine⟨rfl,rfl,rfl,?_⟩
 simp only[go_sem,hr,zj,hd]
 apply hKY
 refine Zr ?_
 refine zh ?_
 repeat (first|refine hn1 _ ?_|refine he1 _ _ ?_)
 refine zf fun X2 hn2 he2 hr2=>?_
 refine za fun KY hKY=>?_
 simp only[go_sem,OK]
 apply hKY
 refine zp fun X3 hn3 he3 hf3 hr3=>?_
 try simp only[go_sem]
 refine zP (α:=Nat) [20,6,43] (fun k=>[(5,.sc (.int .i64 (k:Int)))]) (fun k=>[]) (fun k q=>k≤N∧q=N - k∧(∀v,v<k→XQ es m v=true)) (0) (N) rfl (by first|(simp only[go_sem,zd,ze];done)|with_reducible rfl|rfl) (⟨by omega,rfl,fun v h=>by omega⟩) ?_
 rintro k q ⟨hk,rfl,hz⟩ X4 hn4 he4 hr4
 simp only[go_sem,zd,ze]
 refine zf fun X5 hn5 he5 hr5=>?_
 rcases Nat.lt_or_ge k N with hk2|hk2
 · have hdy:decide ((k:Int)<(N:Int))=true:=decide_eq_true (by omega)
   refine za fun KY hKY=>?_
   simp only[go_sem,Ud,hdy]
   apply hKY
   refine Zw ?_
   refine zh ?_
   repeat (first|refine hn5 _ ?_|refine he5 _ _ ?_|refine he4 _ _ ?_|refine hn3 _ ?_|refine he3 _ ?_|refine hf3 _ _ (by decide) ?_|refine hn2 _ ?_|refine he2 _ _ ?_|refine hn1 _ ?_|refine he1 _ _ ?_)
   refine zf fun X6 hn6 he6 hr6=>?_
   refine zp fun X7 hn7 he7 hf7 hr7=>?_
   refine za fun KY hKY=>?_
   simp only[go_sem,OJ,zg (show k<m.length by omega),zj,hl,hk2]
   apply hKY
   by_cases hw:m.getD k 0= -1
   · have d1:decide (m.getD k 0≠ -1)=false:=decide_eq_false fun h=>h hw
     have hok:XQ es m k=true:=by unfold XQ;rw[decide_eq_true hw];rfl
     refine za fun KY hKY=>?_
     simp only[go_sem,yS,d1]
     apply hKY
     refine Zr ?_
     refine zh ?_
     repeat (first|refine hn7 _ ?_|refine he7 _ ?_|refine hf7 _ _ (by decide) ?_|refine hn6 _ ?_|refine he6 _ _ ?_|refine hn5 _ ?_|refine he5 _ _ ?_|refine he4 _ _ ?_|refine hn3 _ ?_|refine he3 _ ?_|refine hf3 _ _ (by decide) ?_|refine hn2 _ ?_|refine he2 _ _ ?_|refine hn1 _ ?_|refine he1 _ _ ?_)
     refine zn fun KY hKY=>?_
     simp only[go_sem,Ub,zH (show k<4611686018427387904 by omega)]
     apply hKY
     repeat (first|refine hn7 _ ?_|refine he7 _ ?_|refine hf7 _ _ (by decide) ?_|refine hn6 _ ?_|refine he6 _ _ ?_|refine hn5 _ ?_|refine he5 _ _ ?_)
     refine hn4 _ (k+1) (N - (k+1)) (by omega) (by first|(simp only[go_sem,zd,ze];done)|with_reducible rfl|rfl) ?_
     refine⟨hk2,rfl,fun v hv=>?_⟩
     rcases Nat.lt_or_ge v k with h3|h3
     · exact hz v h3
     · obtain rfl:v=k:=by omega
       exact hok
   · have d1:decide (m.getD k 0≠ -1)=true:=decide_eq_true hw
     by_cases hm:jJ (k:Int) (m.getD k 0)∈zB es
     · have hhas:(zV N (zB es)&&decide (jJ (k:Int) (m.getD k 0)∈zB es))=true:=by rw[hr,decide_eq_true hm];rfl
       obtain⟨u,hu,huN,_,_⟩:=KU g hm
       have hgu:m.getD (m.getD k 0).toNat 0=m.getD u 0:=by rw[hu];rfl
       by_cases hq:m.getD u 0=(k:Int)
       · have d2:decide (m.getD u 0≠(k:Int))=false:=decide_eq_false fun h=>h hq
         have hok:XQ es m k=true:=by unfold XQ;rw[decide_eq_true hm,hgu,decide_eq_true hq];simp
         refine za fun KY hKY=>?_
         simp only[go_sem,yS,d1]
         refine zk rfl (by simp only[go_sem]<;>rfl) ((xX N (zB es) k (m.getD k 0)).mono ?_)
         rintro rr hh ⟨rfl,rfl⟩
         refine⟨rfl,rfl,rfl,?_⟩
         simp only[go_sem,hhas]
         simp only[hu]
         simp only[go_sem,zg (show u<m.length by omega),zj,hl,huN,d2]
         apply hKY
         refine Zr ?_
         refine zh ?_
         repeat (first|refine hn7 _ ?_|refine he7 _ ?_|refine hf7 _ _ (by decide) ?_|refine hn6 _ ?_|refine he6 _ _ ?_|refine hn5 _ ?_|refine he5 _ _ ?_|refine he4 _ _ ?_|refine hn3 _ ?_|refine he3 _ ?_|refine hf3 _ _ (by decide) ?_|refine hn2 _ ?_|refine he2 _ _ ?_|refine hn1 _ ?_|refine he1 _ _ ?_)
         refine zn fun KY hKY=>?_
         simp only[go_sem,Ub,zH (show k<4611686018427387904 by omega)]
         apply hKY
         repeat (first|refine hn7 _ ?_|refine he7 _ ?_|refine hf7 _ _ (by decide) ?_|refine hn6 _ ?_|refine he6 _ _ ?_|refine hn5 _ ?_|refine he5 _ _ ?_)
         refine hn4 _ (k+1) (N - (k+1)) (by omega) (by first|(simp only[go_sem,zd,ze];done)|with_reducible rfl|rfl) ?_
         refine⟨hk2,rfl,fun v hv=>?_⟩
         rcases Nat.lt_or_ge v k with h3|h3
         · exact hz v h3
         · obtain rfl:v=k:=by omega
           exact hok
       · have d2:decide (m.getD u 0≠(k:Int))=true:=decide_eq_true hq
         have hok:XQ es m k=false:=by unfold XQ;rw[decide_eq_false hw,hgu,decide_eq_false hq];simp
         refine za fun KY hKY=>?_
         simp only[go_sem,yS,d1]
         refine zk rfl (by simp only[go_sem]<;>rfl) ((xX N (zB es) k (m.getD k 0)).mono ?_)
         rintro rr hh ⟨rfl,rfl⟩
         refine⟨rfl,rfl,rfl,?_⟩
         simp only[go_sem,hhas]
         simp only[hu]
         simp only[go_sem,zg (show u<m.length by omega),zj,hl,huN,d2]
         apply hKY
         refine Zw ?_
         refine za fun KY hKY=>?_
         simp only[go_sem,Uc]
         apply hKY
         refine zi ?_
         repeat (first|refine hr7 _ ?_|refine hr6 _ ?_|refine hr5 _ ?_|refine hr4 _ ?_|refine hr3 _ ?_|refine hr2 _ ?_|refine hr1 _ ?_)
         simp only[go_sem]
         rw[zcZ hk2 hok]
     · have hhas:(zV N (zB es)&&decide (jJ (k:Int) (m.getD k 0)∈zB es))=false:=by rw[decide_eq_false hm,Bool.and_false]
       have hok:XQ es m k=false:=by unfold XQ;rw[decide_eq_false hw,decide_eq_false hm];rfl
       refine za fun KY hKY=>?_
       simp only[go_sem,yS,d1]
       refine zk rfl (by simp only[go_sem]<;>rfl) ((xX N (zB es) k (m.getD k 0)).mono ?_)
       rintro rr hh ⟨rfl,rfl⟩
       refine⟨rfl,rfl,rfl,?_⟩
       simp only[go_sem,hhas]
       apply hKY
       refine Zw ?_
       refine za fun KY hKY=>?_
       simp only[go_sem,Uc]
       apply hKY
       refine zi ?_
       repeat (first|refine hr7 _ ?_|refine hr6 _ ?_|refine hr5 _ ?_|refine hr4 _ ?_|refine hr3 _ ?_|refine hr2 _ ?_|refine hr1 _ ?_)
       simp only[go_sem]
       rw[zcZ hk2 hok]
 have hdx:decide ((k:Int)<(N:Int))=false:=decide_eq_false (by omega)
 refine za fun KY hKY=>?_
 simp only[go_sem,Ud,hdx]
 apply hKY
 refine Zr ?_
 refine zy ?_
 repeat (first|refine hn5 _ ?_|refine he5 _ _ ?_|refine he4 _ _ ?_|refine hn3 _ ?_|refine he3 _ ?_|refine hf3 _ _ (by decide) ?_|refine hn2 _ ?_|refine he2 _ _ ?_|refine hn1 _ ?_|refine he1 _ _ ?_)
 obtain rfl:k=N:=by omega
 refine za fun KY hKY=>?_
 simp only[go_sem,OH]
 apply hKY
 refine zi ?_
 repeat (first|refine hr5 _ ?_|refine hr4 _ ?_|refine hr3 _ ?_|refine hr2 _ ?_|refine hr1 _ ?_)
 simp only[go_sem]
 rw[show((List.range k).all fun v=>XQ es m v)=true from List.all_eq_true.2 fun v hv=>hz v (List.mem_range.1 hv)]
def jAt (m:List Int)(l:Es)(v:Nat):Bool:=l.any fun e=>(decide (e.1=v)||decide (e.2=v))&&(decide (m.getD e.1 0=(e.2:Int))&&decide (m.getD e.2 0=(e.1:Int)))
theorem zlB {N:Nat}{es:Es}(g:GR N es)(m:List Int){v:Nat}(hw:m.getD v 0≠ -1):jAt m es v=XQ es m v:=by
 rw[Bool.eq_iff_iff]
 unfold jAt XQ
 rw[List.any_eq_true,decide_eq_false hw,Bool.false_or,Bool.and_eq_true,decide_eq_true_iff,decide_eq_true_iff]
 constructor
 · rintro⟨⟨a,b⟩,he,h⟩
   have hok:=g.ok _ he
   simp only[Bool.and_eq_true,Bool.or_eq_true,decide_eq_true_eq] at h hok
   obtain⟨rfl|rfl,h1,h2⟩:=h
   · rw[h1]
     refine⟨?_,by rw[Int.toNat_natCast];exact h2⟩
     unfold jJ;rw[if_neg (by omega)];exact Qp.2 he
   · rw[h2]
     refine⟨?_,by rw[Int.toNat_natCast];exact h1⟩
     unfold jJ;rw[if_pos (by omega)];exact Qp.2 he
 · rintro⟨h1,h2⟩
   obtain⟨u,hu,_,_,hne⟩:=KU g h1
   rw[hu] at h1 h2
   rw[Int.toNat_natCast] at h2
   unfold jJ at h1
   split at h1
   · exact⟨(u,v),Qp.1 h1,by simp only[hu,h2,decide_true,Bool.or_true,Bool.true_or,Bool.and_self]⟩
   · exact⟨(v,u),Qp.1 h1,by simp only[hu,h2,decide_true,Bool.or_true,Bool.true_or,Bool.and_self]⟩
def jL (N:Nat)(m:List Int)(l:Es):List Bool:=(List.range N).map (jAt m l)
theorem zcF (N:Nat)(m:List Int)(l:Es):(jL N m l).length=N:=by simp[jL]
theorem zlA {N:Nat}(m:List Int)(l:Es){v:Nat}(h:v<N):(jL N m l).getD v false=jAt m l v:=by simp[jL,h]
theorem zj7 {N:Nat}(m:List Int)(l:Es){a b:Nat}(h:¬(m.getD a 0=(b:Int)∧m.getD b 0=(a:Int))):jL N m (l++[(a,b)])=jL N m l:=by
 refine List.map_congr_left fun v _=>?_
 unfold jAt
 rw[List.any_append]
 have:(decide (m.getD a 0=(b:Int))&&decide (m.getD b 0=(a:Int)))=false:=by
  rw[Bool.eq_false_iff];intro h';rw[Bool.and_eq_true,decide_eq_true_iff,decide_eq_true_iff] at h';exact h h'
 simp only[List.any_cons,List.any_nil,this,Bool.and_false,Bool.or_false]
theorem zlz {N:Nat}(m:List Int)(l:Es){a b:Nat}(h:m.getD a 0=(b:Int)∧m.getD b 0=(a:Int)):((jL N m l).set a true).set b true=jL N m (l++[(a,b)]):=by
 apply List.ext_getElem
 · simp[jL]
 · intro i h1 h2
   have hi:i<N:=by rw[zcF] at h2;exact h2
   have e:jAt m (l++[(a,b)]) i=(jAt m l i||(decide (a=i)||decide (b=i))):=by
    unfold jAt
    rw[List.any_append]
    simp only[List.any_cons,List.any_nil,h.1,h.2,decide_true,Bool.and_true,Bool.or_false]
   simp only[jL,List.getElem_set,List.getElem_map,List.getElem_range,e]
   by_cases hb:b=i
   · simp[hb]
   · by_cases ha:a=i
     · simp[ha,hb]
     · simp[ha,hb]
theorem zeK (n:Int)(es:List (Int×Int))(m:List Int)(h:(zV n es&&decide ((m.length:Int)=n))=false):zo Try.prog [] zdu [.agg [.sc (.int .i64 n),.imm 2 (zY es)],.imm 1 (zl m)] [] fun r h'=>r= .sc (.bool false)∧h'=[]:=by
 refine zo.trim ?_
 refine zg2 rfl ?_
 unfold zhx jb
 refine za fun KY hKY=>?_
 simp only[go_sem,Uy]
 apply hKY
 refine zf fun X1 hn1 he1 hr1=>?_
 cases hr:zV n es with
 | false=>
   refine za fun KY hKY=>?_
   simp only[go_sem,Wn]
   refine zk rfl (by simp only[go_sem]<;>rfl) ((JS n es).mono ?_)
   rintro rr hh ⟨rfl,rfl⟩
   refine⟨rfl,rfl,rfl,?_⟩
   simp only[go_sem,hr]
   apply hKY
   refine Zw ?_
   refine za fun KY hKY=>?_
   simp only[go_sem,Ux]
   apply hKY
   refine zi ?_
   repeat (first|refine hr1 _ ?_)
   simp only[go_sem]
 | true=>
   rw[hr,Bool.true_and,decide_eq_false_iff_not] at h
   have hd:decide ((m.length:Int)≠n)=true:=decide_eq_true h
   refine za fun KY hKY=>?_
   simp only[go_sem,Wn]
   refine zk rfl (by simp only[go_sem]<;>rfl) ((JS n es).mono ?_)
   rintro rr hh ⟨rfl,rfl⟩
   refine⟨rfl,rfl,rfl,?_⟩
   simp only[go_sem,hr,zj,hd]
   apply hKY
   refine Zw ?_
   refine za fun KY hKY=>?_
   simp only[go_sem,Ux]
   apply hKY
   refine zi ?_
   repeat (first|refine hr1 _ ?_)
   simp only[go_sem]
theorem XN {N:Nat}{es:Es}(g:GR N es)(m:List Int)(hl:m.length=N):zo Try.prog [] zdu [.agg [.sc (.int .i64 (N:Int)),.imm 2 (zY (zB es))],.imm 1 (zl m)] [] fun r h'=>r= .sc (.bool ((List.range N).all fun v=>XQ es m v))∧h'=[]:=by
 refine zo.trim ?_
 have hN:=g.hn
 have hem:=g.hm
 have hr:=jf g
 have hd:decide ((m.length:Int)≠(N:Int))=false:=decide_eq_false (by omega)
 have h0:List.replicate N false=jL N m (es.take 0):=by
  apply List.ext_getElem
  · simp[jL]
  · intro i h1 h2;simp[jL,jAt]
 refine zg2 rfl ?_
 unfold zhx jb
 refine za fun KY hKY=>?_
 simp only[go_sem,Uy]
 apply hKY
 refine zf fun X1 hn1 he1 hr1=>?_
 refine za fun KY hKY=>?_
 simp only[go_sem,Wn]
 refine zk rfl (by simp only[go_sem]<;>rfl) ((JS N (zB es)).mono ?_)
 rintro rr hh ⟨rfl,rfl⟩
 refine⟨rfl,rfl,rfl,?_⟩
 simp only[go_sem,hr,zj,hd]
 apply hKY
 refine Zr ?_
 refine zh ?_
 repeat (first|refine hn1 _ ?_|refine he1 _ _ ?_)
 refine za fun KY hKY=>?_
 simp only[go_sem,zar,(show N≤140737488355328 by omega),(show 1*N≤140737488355328 by omega),(show(N:Int)≤(N:Int) from Int.le_refl _),(show(N:Int)≤9223372036854775807 by omega),h0]
 apply hKY
 refine zf fun X2 hn2 he2 hr2=>?_
 refine za fun KY hKY=>?_
 simp only[go_sem,zaq,ZI,XK,zA]
 apply hKY
 refine zp fun X3 hn3 he3 hf3 hr3=>?_
 try simp only[go_sem]
 refine zP (α:=Nat) [7,27,47] (fun k=>[(5,.own (some 1) (Zd (jL N m (es.take k)))),(26,.sc (.int .i64 (k:Int)))]) (fun k=>[]) (fun k q=>k≤es.length∧q=es.length - k) (0) (es.length) rfl (by first|(simp only[go_sem,zd,ze];done)|with_reducible rfl|rfl) (⟨by omega,rfl⟩) ?_
 rintro k q ⟨hk,rfl⟩ X4 hn4 he4 hr4
 simp only[go_sem,zd,ze]
 rcases Nat.lt_or_ge k es.length with hk2|hk2
 · have hdy:decide ((k:Int)<(es.length:Int))=true:=decide_eq_true (by omega)
   refine za fun KY hKY=>?_
   simp only[go_sem,Uw,hdy]
   apply hKY
   refine zf fun X5 hn5 he5 hr5=>?_
   refine Zw ?_
   refine zh ?_
   repeat (first|refine hn5 _ ?_|refine he5 _ _ ?_|refine he4 _ _ ?_|refine hn3 _ ?_|refine he3 _ ?_|refine hf3 _ _ (by decide) ?_|refine hn2 _ ?_|refine he2 _ _ ?_|refine hn1 _ ?_|refine he1 _ _ ?_)
   refine zf fun X6 hn6 he6 hr6=>?_
   refine zp fun X7 hn7 he7 hf7 hr7=>?_
   have hx:es[k]?=some es[k]:=List.getElem?_eq_getElem hk2
   have hxm:es[k]∈es:=List.getElem_mem hk2
   generalize es[k]=x at hx hxm
   obtain⟨a,b⟩:=x
   have hxc:=Qq hx
   have hok:=g.ok (a,b) hxm
   simp only at hok
   have htk:es.take (k+1)=es.take k++[(a,b)]:=by rw[List.take_add_one,hx];rfl
   have haN:a<N:=by omega
   have hbN:b<N:=hok.2
   refine za fun KY hKY=>?_
   simp only[go_sem,zap,(show k*2+1<es.length*2 by omega),(show 1<es.length*2 - k*2 by omega),zU hxc,List.length_drop,ZI,zA]
   apply hKY
   by_cases h1:m.getD a 0=(b:Int)
   · have d1:decide (m.getD a 0=(b:Int))=true:=decide_eq_true h1
     by_cases h2:m.getD b 0=(a:Int)
     · have d2:decide (m.getD b 0=(a:Int))=true:=decide_eq_true h2
       have hst:=zlz (N:=N) m (es.take k) ⟨h1,h2⟩
       rw[←htk] at hst
       refine zw fun KY hKY=>?_
       simp only[go_sem,Wm,zg (show a<m.length by omega),zg (show b<m.length by omega),zj,hl,haN,hbN,d1,d2]
       apply hKY
       refine Zw ?_
       refine Jq fun KY hKY=>?_
       simp only[go_sem,zao,Zy,zcF,haN,hbN,List.length_set,hst,(show([0,5]==[0,7])=false from rfl),Bool.not_false]
       apply hKY
       repeat (first|refine hn7 _ ?_|refine he7 _ ?_|refine hf7 _ _ (by decide) ?_|refine hn6 _ ?_|refine he6 _ _ ?_|refine hn5 _ ?_|refine he5 _ _ ?_|refine he4 _ _ ?_|refine hn3 _ ?_|refine he3 _ ?_|refine hf3 _ _ (by decide) ?_|refine hn2 _ ?_|refine he2 _ _ ?_|refine hn1 _ ?_|refine he1 _ _ ?_)
       refine zn fun KY hKY=>?_
       simp only[go_sem,Wl,zH (show k<4611686018427387904 by omega)]
       apply hKY
       repeat (first|refine hn7 _ ?_|refine he7 _ ?_|refine hf7 _ _ (by decide) ?_|refine hn6 _ ?_|refine he6 _ _ ?_|refine hn5 _ ?_|refine he5 _ _ ?_)
       refine hn4 _ (k+1) (es.length - (k+1)) (by omega) (by first|(simp only[go_sem,zd,ze];done)|with_reducible rfl|rfl) ?_
       exact⟨hk2,rfl⟩
     · have d2:decide (m.getD b 0=(a:Int))=false:=decide_eq_false h2
       have hst:=zj7 (N:=N) m (es.take k) (a:=a) (b:=b) fun h=>h2 h.2
       rw[←htk] at hst
       refine zw fun KY hKY=>?_
       simp only[go_sem,Wm,zg (show a<m.length by omega),zg (show b<m.length by omega),zj,hl,haN,hbN,d1,d2]
       apply hKY
       refine Zr ?_
       refine zh ?_
       repeat (first|refine hn7 _ ?_|refine he7 _ ?_|refine hf7 _ _ (by decide) ?_|refine hn6 _ ?_|refine he6 _ _ ?_|refine hn5 _ ?_|refine he5 _ _ ?_|refine he4 _ _ ?_|refine hn3 _ ?_|refine he3 _ ?_|refine hf3 _ _ (by decide) ?_|refine hn2 _ ?_|refine he2 _ _ ?_|refine hn1 _ ?_|refine he1 _ _ ?_)
       refine zn fun KY hKY=>?_
       simp only[go_sem,Wl,zH (show k<4611686018427387904 by omega)]
       apply hKY
       repeat (first|refine hn7 _ ?_|refine he7 _ ?_|refine hf7 _ _ (by decide) ?_|refine hn6 _ ?_|refine he6 _ _ ?_|refine hn5 _ ?_|refine he5 _ _ ?_)
       refine hn4 _ (k+1) (es.length - (k+1)) (by omega) (by first|(simp only[go_sem,zd,ze,hst];done)|with_reducible rfl|rfl) ?_
       exact⟨hk2,rfl⟩
   · have d1:decide (m.getD a 0=(b:Int))=false:=decide_eq_false h1
     have hst:=zj7 (N:=N) m (es.take k) (a:=a) (b:=b) fun h=>h1 h.1
     rw[←htk] at hst
     refine zw fun KY hKY=>?_
     simp only[go_sem,Wm,zg (show a<m.length by omega),zj,hl,haN,hbN,d1]
     apply hKY
     refine Zr ?_
     refine zh ?_
     repeat (first|refine hn7 _ ?_|refine he7 _ ?_|refine hf7 _ _ (by decide) ?_|refine hn6 _ ?_|refine he6 _ _ ?_|refine hn5 _ ?_|refine he5 _ _ ?_|refine he4 _ _ ?_|refine hn3 _ ?_|refine he3 _ ?_|refine hf3 _ _ (by decide) ?_|refine hn2 _ ?_|refine he2 _ _ ?_|refine hn1 _ ?_|refine he1 _ _ ?_)
     refine zn fun KY hKY=>?_
     simp only[go_sem,Wl,zH (show k<4611686018427387904 by omega)]
     apply hKY
     repeat (first|refine hn7 _ ?_|refine he7 _ ?_|refine hf7 _ _ (by decide) ?_|refine hn6 _ ?_|refine he6 _ _ ?_|refine hn5 _ ?_|refine he5 _ _ ?_)
     refine hn4 _ (k+1) (es.length - (k+1)) (by omega) (by first|(simp only[go_sem,zd,ze,hst];done)|with_reducible rfl|rfl) ?_
     exact⟨hk2,rfl⟩
 have hdx:decide ((k:Int)<(es.length:Int))=false:=decide_eq_false (by omega)
 refine za fun KY hKY=>?_
 simp only[go_sem,Uw,hdx]
 apply hKY
 refine zf fun X8 hn8 he8 hr8=>?_
 refine Zr ?_
 refine zy ?_
 repeat (first|refine hn8 _ ?_|refine he8 _ _ ?_|refine he4 _ _ ?_|refine hn3 _ ?_|refine he3 _ ?_|refine hf3 _ _ (by decide) ?_|refine hn2 _ ?_|refine he2 _ _ ?_|refine hn1 _ ?_|refine he1 _ _ ?_)
 obtain rfl:k=es.length:=by omega
 rw[List.take_length]
 refine zf fun X9 hn9 he9 hr9=>?_
 refine za fun KY hKY=>?_
 simp only[go_sem,kx,zj,hl]
 apply hKY
 refine zp fun X10 hn10 he10 hf10 hr10=>?_
 try simp only[go_sem]
 refine zP (α:=Nat) [8,9,60,72] (fun v=>[(59,.sc (.int .i64 (v:Int)))]) (fun v=>[]) (fun v q=>v≤N∧q=N - v∧(∀u,u<v→XQ es m u=true)) (0) (N) rfl (by first|(simp only[go_sem,zd,ze];done)|with_reducible rfl|rfl) (⟨by omega,rfl,fun v h=>by omega⟩) ?_
 rintro v q ⟨hv,rfl,hz⟩ X11 hn11 he11 hr11
 simp only[go_sem,zd,ze]
 rcases Nat.lt_or_ge v N with hv2|hv2
 · have hdy:decide ((v:Int)<(N:Int))=true:=decide_eq_true (by omega)
   refine za fun KY hKY=>?_
   simp only[go_sem,xa,hdy]
   apply hKY
   refine zf fun X12 hn12 he12 hr12=>?_
   refine Zw ?_
   refine zh ?_
   repeat (first|refine hn12 _ ?_|refine he12 _ _ ?_|refine he11 _ _ ?_|refine hn10 _ ?_|refine he10 _ ?_|refine hf10 _ _ (by decide) ?_|refine hn9 _ ?_|refine he9 _ _ ?_|refine hn8 _ ?_|refine he8 _ _ ?_)
   refine zf fun X13 hn13 he13 hr13=>?_
   refine zp fun X14 hn14 he14 hf14 hr14=>?_
   refine za fun KY hKY=>?_
   simp only[go_sem,kw,zg (show v<m.length by omega),zj,hl,hv2]
   apply hKY
   by_cases hw:m.getD v 0= -1
   · have d1:decide (m.getD v 0≠ -1)=false:=decide_eq_false fun h=>h hw
     have hok:XQ es m v=true:=by unfold XQ;rw[decide_eq_true hw];rfl
     refine za fun KY hKY=>?_
     simp only[go_sem,Yr,d1]
     apply hKY
     refine Zr ?_
     refine zh ?_
     repeat (first|refine hn14 _ ?_|refine he14 _ ?_|refine hf14 _ _ (by decide) ?_|refine hn13 _ ?_|refine he13 _ _ ?_|refine hn12 _ ?_|refine he12 _ _ ?_|refine he11 _ _ ?_|refine hn10 _ ?_|refine he10 _ ?_|refine hf10 _ _ (by decide) ?_|refine hn9 _ ?_|refine he9 _ _ ?_|refine hn8 _ ?_|refine he8 _ _ ?_)
     refine zn fun KY hKY=>?_
     simp only[go_sem,W9,zH (show v<4611686018427387904 by omega)]
     apply hKY
     repeat (first|refine hn14 _ ?_|refine he14 _ ?_|refine hf14 _ _ (by decide) ?_|refine hn13 _ ?_|refine he13 _ _ ?_|refine hn12 _ ?_|refine he12 _ _ ?_)
     refine hn11 _ (v+1) (N - (v+1)) (by omega) (by first|(simp only[go_sem,zd,ze];done)|with_reducible rfl|rfl) ?_
     refine⟨hv2,rfl,fun u hu=>?_⟩
     rcases Nat.lt_or_ge u v with h3|h3
     · exact hz u h3
     · obtain rfl:u=v:=by omega
       exact hok
   · have d1:decide (m.getD v 0≠ -1)=true:=decide_eq_true hw
     have hj:=zlB g m hw
     have hjl:=zcF N m es
     have hg:=Jn (show v<(jL N m es).length by omega)
     rw[zlA m es hv2,hj] at hg
     cases hok:XQ es m v with
     | true=>
       rw[hok] at hg
       refine za fun KY hKY=>?_
       simp only[go_sem,Yr,d1,hg,Zy,hjl,hv2]
       apply hKY
       refine Zr ?_
       refine zh ?_
       repeat (first|refine hn14 _ ?_|refine he14 _ ?_|refine hf14 _ _ (by decide) ?_|refine hn13 _ ?_|refine he13 _ _ ?_|refine hn12 _ ?_|refine he12 _ _ ?_|refine he11 _ _ ?_|refine hn10 _ ?_|refine he10 _ ?_|refine hf10 _ _ (by decide) ?_|refine hn9 _ ?_|refine he9 _ _ ?_|refine hn8 _ ?_|refine he8 _ _ ?_)
       refine zn fun KY hKY=>?_
       simp only[go_sem,W9,zH (show v<4611686018427387904 by omega)]
       apply hKY
       repeat (first|refine hn14 _ ?_|refine he14 _ ?_|refine hf14 _ _ (by decide) ?_|refine hn13 _ ?_|refine he13 _ _ ?_|refine hn12 _ ?_|refine he12 _ _ ?_)
       refine hn11 _ (v+1) (N - (v+1)) (by omega) (by first|(simp only[go_sem,zd,ze];done)|with_reducible rfl|rfl) ?_
       refine⟨hv2,rfl,fun u hu=>?_⟩
       rcases Nat.lt_or_ge u v with h3|h3
       · exact hz u h3
       · obtain rfl:u=v:=by omega
         exact hok
     | false=>
       rw[hok] at hg
       refine za fun KY hKY=>?_
       simp only[go_sem,Yr,d1,hg,Zy,hjl,hv2]
       apply hKY
       refine Zw ?_
       refine za fun KY hKY=>?_
       simp only[go_sem,ku]
       apply hKY
       refine zi ?_
       repeat (first|refine hr14 _ ?_|refine hr13 _ ?_|refine hr12 _ ?_|refine hr11 _ ?_|refine hr10 _ ?_|refine hr9 _ ?_|refine hr8 _ ?_|refine hr4 _ ?_|refine hr3 _ ?_|refine hr2 _ ?_|refine hr1 _ ?_)
       simp only[go_sem]
       rw[zcZ hv2 hok]
 have hdz:decide ((v:Int)<(N:Int))=false:=decide_eq_false (by omega)
 refine za fun KY hKY=>?_
 simp only[go_sem,xa,hdz]
 apply hKY
 refine zf fun X15 hn15 he15 hr15=>?_
 refine Zr ?_
 refine zy ?_
 repeat (first|refine hn15 _ ?_|refine he15 _ _ ?_|refine he11 _ _ ?_|refine hn10 _ ?_|refine he10 _ ?_|refine hf10 _ _ (by decide) ?_|refine hn9 _ ?_|refine he9 _ _ ?_|refine hn8 _ ?_|refine he8 _ _ ?_|refine he4 _ _ ?_|refine hn3 _ ?_|refine he3 _ ?_|refine hf3 _ _ (by decide) ?_|refine hn2 _ ?_|refine he2 _ _ ?_|refine hn1 _ ?_|refine he1 _ _ ?_)
 obtain rfl:v=N:=by omega
 refine za fun KY hKY=>?_
 simp only[go_sem,kr]
 apply hKY
 refine zi ?_
 repeat (first|refine hr15 _ ?_|refine hr11 _ ?_|refine hr10 _ ?_|refine hr9 _ ?_|refine hr8 _ ?_|refine hr4 _ ?_|refine hr3 _ ?_|refine hr2 _ ?_|refine hr1 _ ?_)
 simp only[go_sem]
 rw[show((List.range v).all fun v=>XQ es m v)=true from List.all_eq_true.2 fun u hu=>hz u (List.mem_range.1 hu)]
end Go.Proofs.Ytmcfdfafeheihaa

namespace Go.Ga.Gl
open Go Go.Ga
structure Fc (n:Nat)(E:Nat→Nat→Prop)(mt:Nat→Int)(D A:Nat→Bool)(bs:Nat→Nat):Prop where
 m:Mf n E mt
 c:y8 n E mt D A bs
 d:∀v,D v=true→∃mt',Mf n E mt'∧we n mt'≤we n mt∧mt' v= -1
 a:∀v,A v=true→∃w,D w=true∧E v w
theorem Yl {n:Nat}{E:Nat→Nat→Prop}{mt:Nat→Int}{S:FS}(M:Mf n E mt)(I:J2 n E mt S)(L:Lk E S []):Fc n E mt S.out (zgh S) S.bs where
 m:=M
 c:=I.cert M L
 d:=fun v hv=>zmY M I hv
 a:=fun v hv=>by
  obtain⟨h1,h2⟩:=Jt.1 hv
  obtain⟨_,x,k1,k2,k3,k4,k5,k6⟩:=I.od v h1
  exact⟨S.pr v,k4,k5⟩
theorem Fc.lg {n:Nat}{E:Nat→Nat→Prop}{mt:Nat→Int}{D A:Nat→Bool}{bs:Nat→Nat}(F:Fc n E mt D A bs):Lg n E mt:=⟨F.m,fun _ M'=>F.c.most F.m M'⟩
theorem Fc.dm {n:Nat}{E:Nat→Nat→Prop}{mt:Nat→Int}{D A:Nat→Bool}{bs:Nat→Nat}(F:Fc n E mt D A bs)(v:Nat):D v=true↔Dm n E v:=F.c.dm_iff F.m F.d v
theorem Fc.lab {n:Nat}{E:Nat→Nat→Prop}{mt:Nat→Int}{D A:Nat→Bool}{bs:Nat→Nat}(F:Fc n E mt D A bs)(v:Nat):gS n E v=if D v=true then 1 else if A v=true then 2 else 0:=by
 unfold gS
 by_cases h:D v=true
 · rw[if_pos h,if_pos ((F.dm v).1 h)]
 · rw[if_neg h,if_neg (fun e=>h ((F.dm v).2 e))]
   by_cases h2:A v=true
   · obtain⟨w,h3,h4⟩:=F.a v h2
     rw[if_pos h2,if_pos ⟨w,(F.dm w).1 h3,h4⟩]
   · rw[if_neg h2,if_neg]
     rintro⟨w,h3,h4⟩
     rcases F.c.ed w v ((F.dm w).2 h3) (F.m.es _ _ h4) with h5|⟨h5,_⟩
     · exact h2 h5
     · exact h h5
theorem Mf.mono {n:Nat}{E E':Nat→Nat→Prop}{mt:Nat→Int}(M:Mf n E mt)(h:∀v w,E v w→E' v w)(hs:∀v w,E' v w→E' w v)(hl:∀v w,E' v w→v<n∧w<n∧v≠w):Mf n E' mt:=
 ⟨M.at_,M.big,M.sy,fun v w e=>⟨(M.ne v w e).1,h _ _ (M.ne v w e).2⟩,hs,hl⟩
theorem Fc.more {n:Nat}{E E':Nat→Nat→Prop}{mt:Nat→Int}{D A:Nat→Bool}{bs:Nat→Nat}(F:Fc n E mt D A bs)(h:∀v w,E v w→E' v w)(hs:∀v w,E' v w→E' w v)(hl:∀v w,E' v w→v<n∧w<n∧v≠w)(he:∀v w,D v=true→E' v w→A w=true∨(D w=true∧bs w=bs v)):Fc n E' mt D A bs where
 m:=F.m.mono h hs hl
 c:=⟨F.c.dn,F.c.an,he,F.c.db,F.c.fr,F.c.am,F.c.dm,F.c.bb⟩
 d:=fun v hv=>by
  obtain⟨mt',h1,h2,h3⟩:=F.d v hv
  exact⟨mt',h1.mono h hs hl,h2,h3⟩
 a:=fun v hv=>by
  obtain⟨w,h1,h2⟩:=F.a v hv
  exact⟨w,h1,h _ _ h2⟩
structure Bsd (N M:Nat)(E1 E2 E:Nat→Nat→Prop):Prop where
 lo:∀v w,v<N→(E v w↔E1 v w)
 hi:∀v w,¬v<N→(E v w↔N≤w∧E2 (v - N) (w - N))
noncomputable def wr (n:Nat)(E:Nat→Nat→Prop)(x:Nat):List Nat:=(List.range n).filter fun v=>decide (gS n E v=x)
theorem Ke {n:Nat}{E:Nat→Nat→Prop}{x v:Nat}:v∈wr n E x↔v<n∧gS n E v=x:=by
 unfold wr;rw[List.mem_filter,List.mem_range,decide_eq_true_iff]
end Go.Ga.Gl
namespace Go.Proofs.Ytmcfdfafeheihaa
open Go Go.Ga Go.Ga.Gl
noncomputable def qt (N:Nat)(es:Es):List Int:=(List.range N).map fun v=>(gS N (Z7 es) v:Int)
theorem zcB {N:Nat}{es:Es}{m:List Int}{S:FS}(M:Mf N (Z7 es) (mf m))(I:J2 N (Z7 es) (mf m) S)(L:Lk (Z7 es) S []):zeQ N S=qt N es:=by
 apply List.map_congr_left
 intro v _
 have:=zg9 M I L v
 unfold fLb
 rw[←this]
 split<;>rfl
theorem zeY (N:Nat)(es:Es)(x:Nat):((List.range (qt N es).length).filter fun v=>decide ((qt N es).getD v 0=(x:Int)))=wr N (Z7 es) x:=by
 have hl:(qt N es).length=N:=by simp[qt]
 rw[hl]
 refine List.filter_congr fun v hv=>?_
 have hv:=List.mem_range.1 hv
 have:(qt N es).getD v 0=(gS N (Z7 es) v:Int):=by simp[qt,hv]
 rw[this]
 exact decide_eq_decide.2 ⟨fun h=>by omega,fun h=>by omega⟩
theorem zgz {N:Nat}{es:Es}(g:GR N es){m:List Int}(M:Mf N (Z7 es) (mf m))(hml:m.length=N):((List.range N).all fun v=>XQ es m v)=true:=by
 rw[List.all_eq_true]
 intro v hv
 have hv:=List.mem_range.1 hv
 unfold XQ
 rw[qY (by omega)]
 rcases M.at_ v hv with h|⟨w,h,hw⟩
 · rw[h];rfl
 · have hs:=M.sy v w h
   have hadj:=(M.ne v w h).2
   obtain⟨_,_,hne⟩:=M.el v w hadj
   rw[h,Int.toNat_natCast,qY (by omega),hs,decide_eq_true (rfl:(v:Int)=v),Bool.and_true]
   have hmem:jJ (v:Int) (w:Int)∈zB es:=by
    unfold jJ
    have lt:∀a b:Nat,(a,b)∈es→a<b:=fun a b h=>by
     exact(g.ok _ h).1
    rcases hadj with h|h
    · have:=lt _ _ h
      rw[if_neg (by omega)]
      exact List.mem_map.2 ⟨(v,w),h,rfl⟩
    · have:=lt _ _ h
      rw[if_pos (by omega)]
      exact List.mem_map.2 ⟨(w,v),h,rfl⟩
   rw[decide_eq_true hmem,Bool.or_true]
theorem Lg.no {N:Nat}{E:Nat→Nat→Prop}{mt:Nat→Int}(L:Lg N E mt){l:List Nat}(A:Aug N E mt l):False:=by
 obtain⟨M2,hfr,r,hrn,hr1,hr2⟩:=zc9 L.1 A (mt':=fun u=>if u∈l then(Yv l u:Int) else mt u) (fun u hu=>if_pos hu) (fun u hu=>if_neg hu)
 have h1:=gT hrn hr1 hr2 hfr
 have h2:=L.2 _ M2
 omega
theorem zir {N:Nat}{es:Es}(g:GR N es)(m:List Int)(hml:m.length=N)(hL:Lg N (Z7 es) (mf m)):zo Try.prog [] zjD [.agg [.sc (.int .i64 (N:Int)),.imm 2 (zY (zB es))],.imm 1 (zl m)] [] fun r h'=>r= .tup [.sc (.slice none 0 0),.own (some 1) (zl (qt N es)),.sc (.int .i64 0)]∧h'=[]:=by
 have hN:=g.hn
 have hr:=jf g
 have M:=hL.1
 have hm:=zgz g M hml
 have hS:zo Try.prog [] zgs [.imm 1 (Zv (JU N es)),.imm 1 (zl m)] [] fun r h'=>h'=[]∧∃lk:Int,r= .tup [.sc (.slice none 0 0),.own (some 1) (zl (qt N es)),.sc (.int .i64 lk)]:=by
  refine(WC (JU N es) (jO N es) hml hN (zgk g) M (zgl es)).mono ?_
  rintro r h' ⟨rfl,lk,⟨l,hA,rfl⟩|⟨S,hI,hLk,rfl⟩⟩
  · exact(Lg.no hL hA).elim
  · exact⟨rfl,lk,by rw[zcB M hI hLk]⟩
 refine zl5 rfl ?_
 unfold zkD qk
 refine za fun KY hKY=>?_
 simp only[go_sem,oV]
 apply hKY
 refine zf fun X1 hn1 he1 hr1=>?_
 refine zp fun X2 hn2 he2 hf2 hr2=>?_
 refine za fun KY hKY=>?_
 simp only[go_sem,oU]
 refine zk rfl (by simp only[go_sem]<;>rfl) ((JS N (zB es)).mono ?_)
 rintro rr hh ⟨rfl,rfl⟩
 refine⟨rfl,rfl,rfl,?_⟩
 simp only[go_sem,hr]
 apply hKY
 refine Zr ?_
 refine za fun KY hKY=>?_
 simp only[go_sem,oR]
 refine zk rfl (by simp only[go_sem]<;>rfl) ((XN g m hml).mono ?_)
 rintro rr hh ⟨rfl,rfl⟩
 refine⟨rfl,rfl,rfl,?_⟩
 simp only[go_sem,hm]
 apply hKY
 refine Zr ?_
 refine zh ?_
 repeat (first|refine hn2 _ ?_|refine he2 _ ?_|refine hf2 _ _ (by decide) ?_|refine hn1 _ ?_|refine he1 _ _ ?_)
 refine za fun KY hKY=>?_
 simp only[go_sem,oJ]
 apply zr [] [] true none rfl
 iterate 8 (first|(simp only[go_sem,zt]<;>rfl)|rfl)
 refine(yF g).mono ?_
 rintro _ _ ⟨rfl,rfl⟩
 refine⟨Nat.le_of_ble_eq_true rfl,(fun _=>by simp only[go_sem,Jv,and_self]),?_⟩
 simp only[go_sem,zq,zb.after]
 apply zr [] [] true none rfl
 iterate 8 (first|(simp only[go_sem,zt]<;>rfl)|rfl)
 refine(hS).mono ?_
 rintro _ _ ⟨rfl,lk,rfl⟩
 refine⟨Nat.le_of_ble_eq_true rfl,(fun _=>by simp only[go_sem,Jv,and_self]),?_⟩
 simp only[go_sem,zq,zb.after]
 apply hKY
 refine za fun KY hKY=>?_
 simp only[go_sem,oH]
 apply hKY
 refine zi ?_
 repeat (first|refine hr2 _ ?_|refine hr1 _ ?_)
 simp only[go_sem]
def yB (l:List Int)(v:Nat):Bool:=decide (0≤l.getD v 0)&&(decide (l.getD v 0<l.length)&&(decide (l.getD v 0≠(v:Int))&&decide (l.getD (l.getD v 0).toNat 0=(v:Int))))
def YQ (l:List Int)(v:Nat):Bool:=decide ((v:Int)<l.getD v 0)&&(decide (l.getD v 0<l.length)&&decide (l.getD (l.getD v 0).toNat 0=(v:Int)))
theorem Kg {l:List Int}{v:Nat}:yB l v=true↔∃w:Nat,l.getD v 0=w∧w<l.length∧w≠v∧l.getD w 0=v:=by
 unfold yB
 simp only[Bool.and_eq_true,decide_eq_true_eq]
 refine⟨fun⟨h1,h2,h3,h4⟩=>⟨(l.getD v 0).toNat,by omega,by omega,by omega,h4⟩,fun⟨w,h1,h2,h3,h4⟩=>?_⟩
 rw[h1,Int.toNat_natCast]
 exact⟨by omega,by omega,by omega,h4⟩
theorem Xe {l:List Int}{v:Nat}:YQ l v=true↔∃w:Nat,l.getD v 0=w∧w<l.length∧v<w∧l.getD w 0=v:=by
 unfold YQ
 simp only[Bool.and_eq_true,decide_eq_true_eq]
 refine⟨fun⟨h1,h2,h4⟩=>⟨(l.getD v 0).toNat,by omega,by omega,by omega,h4⟩,fun⟨w,h1,h2,h3,h4⟩=>?_⟩
 rw[h1,Int.toNat_natCast]
 exact⟨by omega,by omega,h4⟩
theorem XD (l:List Int):((List.range l.length).filter (yB l)).length=2*((List.range l.length).filter (YQ l)).length:=by
 have hp:((List.range l.length).filter (yB l)).Perm ((List.range l.length).filter (YQ l)++((List.range l.length).filter (YQ l)).map fun v=>(l.getD v 0).toNat):=by
  refine(List.perm_ext_iff_of_nodup (List.nodup_range.filter _) ?_).2 fun v=>?_
  · refine List.nodup_append.2 ⟨List.nodup_range.filter _,?_,?_⟩
    · refine List.pairwise_map.2 ((List.nodup_range (n:=l.length)).filter (YQ l)|>.imp_of_mem ?_)
      intro a b ha hb hne he
      obtain⟨w,h1,_,_,h4⟩:=Xe.1 (List.mem_filter.1 ha).2
      obtain⟨u,g1,_,_,g4⟩:=Xe.1 (List.mem_filter.1 hb).2
      rw[h1,g1,Int.toNat_natCast,Int.toNat_natCast] at he
      subst he;omega
    · intro a ha b hb hab
      subst hab
      obtain⟨w,h1,_,h3,h4⟩:=Xe.1 (List.mem_filter.1 ha).2
      obtain⟨u,hu,rfl⟩:=List.mem_map.1 hb
      obtain⟨x,g1,_,g3,g4⟩:=Xe.1 (List.mem_filter.1 hu).2
      simp only[g1,Int.toNat_natCast] at h1 h3 h4
      omega
  · rw[List.mem_append,List.mem_filter,List.mem_filter,List.mem_map,List.mem_range,Kg,Xe]
    constructor
    · rintro⟨hv,w,h1,h2,h3,h4⟩
      rcases Nat.lt_or_ge v w with h|h
      · exact .inl ⟨hv,w,h1,h2,h,h4⟩
      · refine .inr ⟨w,List.mem_filter.2 ⟨List.mem_range.2 h2,Xe.2 ⟨v,h4,hv,by omega,h1⟩⟩,by rw[h4];rfl⟩
    · rintro(⟨hv,w,h1,h2,h3,h4⟩|⟨u,hu,rfl⟩)
      · exact⟨hv,w,h1,h2,by omega,h4⟩
      · obtain⟨hu1,hu2⟩:=List.mem_filter.1 hu
        obtain⟨x,g1,g2,g3,g4⟩:=Xe.1 hu2
        rw[g1,Int.toNat_natCast]
        exact⟨g2,u,g4,List.mem_range.1 hu1,by omega,g1⟩
 rw[hp.length_eq,List.length_append,List.length_map];omega
theorem zeA (l:List Int){v:Nat}(hv:v<l.length):zo Try.prog [] zgv [.imm 1 (zl l),.sc (.int .i64 (v:Int))] [] fun r h'=>r= .sc (.bool (yB l v))∧h'=[]:=by
 refine zl9 rfl ?_
 unfold zkH xq
 refine za fun KY hKY=>?_
 simp only[go_sem,Ok]
 apply hKY
 refine za fun KY hKY=>?_
 simp only[go_sem,Oj,zg hv,hv,zj]
 apply hKY
 unfold yB
 by_cases h1:0≤l.getD v 0
 · have d1:decide (0≤l.getD v 0)=true:=decide_eq_true h1
   by_cases h2:l.getD v 0<l.length
   · have d2:decide (l.getD v 0<(l.length:Int))=true:=decide_eq_true h2
     by_cases h3:l.getD v 0=(v:Int)
     · have d3:decide (l.getD v 0≠(v:Int))=false:=decide_eq_false fun h=>h h3
       refine za fun KY hKY=>?_
       simp only[go_sem,yR,d1,d2,d3,zj]
       apply hKY
       refine zi ?_
       simp only[go_sem]
       rw[d1,d2,d3];rfl
     · have d3:decide (l.getD v 0≠(v:Int))=true:=decide_eq_true h3
       obtain⟨w,hw⟩:∃w:Nat,l.getD v 0=w:=⟨(l.getD v 0).toNat,by omega⟩
       have hwl:w<l.length:=by omega
       have hgw:l.getD (l.getD v 0).toNat 0=l.getD w 0:=by rw[hw];rfl
       rw[d1,d2,d3,hgw]
       rw[hw] at d1 d2 d3
       simp only[hw]
       refine za fun KY hKY=>?_
       simp only[go_sem,yR,d1,d2,d3,zj,zg hwl,hwl]
       apply hKY
       refine zi ?_
       simp only[go_sem]
   · have d2:decide (l.getD v 0<(l.length:Int))=false:=decide_eq_false h2
     refine za fun KY hKY=>?_
     simp only[go_sem,yR,d1,d2,zj]
     apply hKY
     refine zi ?_
     simp only[go_sem]
     rw[d1,d2];rfl
 · have d1:decide (0≤l.getD v 0)=false:=decide_eq_false h1
   refine za fun KY hKY=>?_
   simp only[go_sem,yR,d1]
   apply hKY
   refine zi ?_
   simp only[go_sem]
   rw[d1];rfl
def YV (φ:Nat→Bool)(k:Nat):List Nat:=(List.range k).filter φ
theorem Yb (φ:Nat→Bool)(k:Nat):(YV φ k).length≤k:=Nat.le_trans (List.length_filter_le _ _) (by simp)
theorem Xp (φ:Nat→Bool)(k:Nat):YV φ (k+1)=YV φ k++if φ k=true then [k] else []:=by
 unfold YV
 rw[List.range_succ,List.filter_append];congr 1;simp[List.filter_cons]
theorem zh6 (g:Nat)(φ:Nat→Bool)(l:List Int)(hl:l.length≤1000000000)(hg:∀v,v<l.length→zo Try.prog [] g [.imm 1 (zl l),.sc (.int .i64 (v:Int))] [] fun r h'=>r= .sc (.bool (φ v))∧h'=[]):zo Try.prog [] zjG [.imm 1 (zl l),.fn (.func g) [] []] [] fun r h'=>r= .own (some 1) (zJ (YV φ l.length))∧h'=[]:=by
 refine zma rfl ?_
 unfold zkI JP
 refine za fun KY hKY=>?_
 simp only[go_sem,Ow]
 apply hKY
 refine za fun KY hKY=>?_
 simp only[go_sem,Ov]
 apply hKY
 refine jC [0,5] 1 (by simp only[go_sem]) ?_
 simp only[go_sem]
 refine zf fun X1 hn1 he1 hr1=>?_
 refine za fun KY hKY=>?_
 simp only[go_sem,Ou,zj]
 apply hKY
 refine zp fun X2 hn2 he2 hf2 hr2=>?_
 try simp only[go_sem]
 refine zP (α:=Nat) [6,10,15] (fun k=>[(5,.own (some 1) (zJ (YV φ k))),(9,.sc (.int .i64 (k:Int)))]) (fun k=>[]) (fun k q=>k≤l.length∧q=l.length - k) (0) (l.length) rfl (by first|(simp only[go_sem,zd,ze];done)|with_reducible rfl|rfl) (⟨by omega,rfl⟩) ?_
 rintro k q ⟨hk,rfl⟩ X3 hn3 he3 hr3
 simp only[go_sem,zd,ze]
 refine za fun KY hKY=>?_
 simp only[go_sem,Ot]
 apply hKY
 refine zf fun X4 hn4 he4 hr4=>?_
 rcases Nat.lt_or_ge k l.length with hk2|hk2
 · refine Zw ?_
   refine zh ?_
   repeat (first|refine hn4 _ ?_|refine he4 _ _ ?_|refine he3 _ _ ?_|refine hn2 _ ?_|refine he2 _ ?_|refine hf2 _ _ (by decide) ?_|refine hn1 _ ?_|refine he1 _ _ ?_)
   refine zf fun X5 hn5 he5 hr5=>?_
   refine zp fun X6 hn6 he6 hf6 hr6=>?_
   refine za fun KY hKY=>?_
   simp only[go_sem,Oq]
   apply hKY
   have hfl:=Yb φ k
   have hby:((YV φ k).length+1)*8≤140737488355328:=by omega
   have hst:=Xp φ k
   refine za fun KY hKY=>?_
   simp only[go_sem,Oo]
   refine zk rfl (by simp only[go_sem]<;>rfl) ((hg k hk2).mono ?_)
   rintro rr hh ⟨rfl,rfl⟩
   refine⟨rfl,rfl,rfl,?_⟩
   simp only[go_sem]
   apply hKY
   cases hp:φ k with
   | true=>
     rw[hp,if_pos rfl] at hst
     refine Zw ?_
     refine zn fun KY hKY=>?_
     simp only[go_sem,Om,jg,hby,←hst]
     apply hKY
     repeat (first|refine hn6 _ ?_|refine he6 _ ?_|refine hf6 _ _ (by decide) ?_|refine hn5 _ ?_|refine he5 _ _ ?_|refine hn4 _ ?_|refine he4 _ _ ?_|refine he3 _ _ ?_|refine hn2 _ ?_|refine he2 _ ?_|refine hf2 _ _ (by decide) ?_|refine hn1 _ ?_|refine he1 _ _ ?_)
     refine zn fun KY hKY=>?_
     simp only[go_sem,u9,zH (show k<4611686018427387904 by omega)]
     apply hKY
     repeat (first|refine hn6 _ ?_|refine he6 _ ?_|refine hf6 _ _ (by decide) ?_|refine hn5 _ ?_|refine he5 _ _ ?_|refine hn4 _ ?_|refine he4 _ _ ?_)
     refine hn3 _ (k+1) (l.length - (k+1)) (by omega) (by first|(simp only[go_sem,zd,ze];done)|with_reducible rfl|rfl) ?_
     exact⟨hk2,rfl⟩
   | false=>
     rw[hp,if_neg (by decide),List.append_nil] at hst
     refine Zr ?_
     refine zh ?_
     repeat (first|refine hn6 _ ?_|refine he6 _ ?_|refine hf6 _ _ (by decide) ?_|refine hn5 _ ?_|refine he5 _ _ ?_|refine hn4 _ ?_|refine he4 _ _ ?_|refine he3 _ _ ?_|refine hn2 _ ?_|refine he2 _ ?_|refine hf2 _ _ (by decide) ?_|refine hn1 _ ?_|refine he1 _ _ ?_)
     refine zn fun KY hKY=>?_
     simp only[go_sem,u9,zH (show k<4611686018427387904 by omega)]
     apply hKY
     repeat (first|refine hn6 _ ?_|refine he6 _ ?_|refine hf6 _ _ (by decide) ?_|refine hn5 _ ?_|refine he5 _ _ ?_|refine hn4 _ ?_|refine he4 _ _ ?_)
     refine hn3 _ (k+1) (l.length - (k+1)) (by omega) (by first|(simp only[go_sem,zd,ze,hst];done)|with_reducible rfl|rfl) ?_
     exact⟨hk2,rfl⟩
 refine Zr ?_
 refine zy ?_
 repeat (first|refine hn4 _ ?_|refine he4 _ _ ?_|refine he3 _ _ ?_|refine hn2 _ ?_|refine he2 _ ?_|refine hf2 _ _ (by decide) ?_|refine hn1 _ ?_|refine he1 _ _ ?_)
 obtain rfl:k=l.length:=by omega
 refine za fun KY hKY=>?_
 simp only[go_sem,Ol]
 apply hKY
 refine zi ?_
 repeat (first|refine hr4 _ ?_|refine hr3 _ ?_|refine hr2 _ ?_|refine hr1 _ ?_)
 simp only[go_sem]
theorem XL (l:List Int)(hl:l.length≤1000000000):zo Try.prog [] zjU [.imm 1 (zl l)] [] fun r h'=>r= .sc (.int .i64 ((YV (YQ l) l.length).length:Nat))∧h'=[]:=by
 have hc:(YV (yB l) l.length).length=2*(YV (YQ l) l.length).length:=XD l
 have hle:=Yb (YQ l) l.length
 have hq:(((YV (yB l) l.length).length:Nat):Int).tdiv 2=((YV (YQ l) l.length).length:Nat):=by rw[hc,Int.tdiv_eq_ediv_of_nonneg (by omega)];omega
 have hq2:IntKind.i64.wrap (((YV (YQ l) l.length).length:Nat):Int)=((YV (YQ l) l.length).length:Nat):=by rw[IntWalk.i64_in _ (by omega)]
 refine zmp rfl ?_
 unfold zkX vB
 refine za fun KY hKY=>?_
 simp only[go_sem,zaX]
 apply hKY
 refine za fun KY hKY=>?_
 simp only[go_sem,zaW]
 refine zk rfl (by simp only[go_sem]<;>rfl) ((zh6 zgv (yB l) l hl fun v hv=>zeA l hv).mono ?_)
 rintro rr hh ⟨rfl,rfl⟩
 refine⟨?_,?_,?_,?_⟩
 iterate 3 (first|rfl|simp only[go_sem])
 simp only[go_sem,Zo,hq,hq2]
 apply hKY
 refine zi ?_
 simp only[go_sem]
def gn (l:List Int)(k:Nat):List (Int×Int):=(YV (YQ l) k).map fun v:Nat=>((v:Int),l.getD v 0)
theorem zdk (l:List Int)(k:Nat):(gn l k).length=(YV (YQ l) k).length:=by simp[gn]
theorem zcq (l:List Int)(hl:l.length≤1000000000):zo Try.prog [] zjQ [.imm 1 (zl l)] [] fun r h'=>r= .own (some 2) (zY (gn l l.length))∧h'=[]:=by
 refine zml rfl ?_
 unfold zkT JC
 refine za fun KY hKY=>?_
 simp only[go_sem,zax]
 apply hKY
 refine za fun KY hKY=>?_
 simp only[go_sem,zaw]
 apply hKY
 refine jC [0,3] 2 (by simp only[go_sem]) ?_
 simp only[go_sem]
 refine zf fun X1 hn1 he1 hr1=>?_
 refine za fun KY hKY=>?_
 simp only[go_sem,zav]
 apply hKY
 refine zp fun X2 hn2 he2 hf2 hr2=>?_
 try simp only[go_sem]
 refine zP (α:=Nat) [5,9,32] (fun k=>[(3,.own (some 2) (zY (gn l k))),(4,.sc (.int .i64 (k:Int)))]) (fun k=>[]) (fun k q=>k≤l.length∧q=l.length - k) (0) (l.length) rfl (by first|(simp only[go_sem,zd,ze];done)|with_reducible rfl|rfl) (⟨by omega,rfl⟩) ?_
 rintro k q ⟨hk,rfl⟩ X3 hn3 he3 hr3
 simp only[go_sem,zd,ze]
 refine zf fun X4 hn4 he4 hr4=>?_
 rcases Nat.lt_or_ge k l.length with hk2|hk2
 · refine za fun KY hKY=>?_
   simp only[go_sem,Uz,zj]
   apply hKY
   refine Zw ?_
   refine zh ?_
   repeat (first|refine hn4 _ ?_|refine he4 _ _ ?_|refine he3 _ _ ?_|refine hn2 _ ?_|refine he2 _ ?_|refine hf2 _ _ (by decide) ?_|refine hn1 _ ?_|refine he1 _ _ ?_)
   refine zf fun X5 hn5 he5 hr5=>?_
   refine zp fun X6 hn6 he6 hf6 hr6=>?_
   refine za fun KY hKY=>?_
   simp only[go_sem,zau,zg hk2,hk2,zj]
   apply hKY
   have hfl:=Yb (YQ l) k
   have hpl:=zdk l k
   have hby:(gn l k).length*2*16+31<140737488355328:=by omega
   have hst:=Xp (YQ l) k
   have hup:YQ l k=(decide ((k:Int)<l.getD k 0)&&(decide (l.getD k 0<l.length)&&decide (l.getD (l.getD k 0).toNat 0=(k:Int)))):=rfl
   by_cases h1:(k:Int)<l.getD k 0
   · have d1:decide ((k:Int)<l.getD k 0)=true:=decide_eq_true h1
     by_cases h2:l.getD k 0<l.length
     · have d2:decide (l.getD k 0<(l.length:Int))=true:=decide_eq_true h2
       obtain⟨w,hw⟩:∃w:Nat,l.getD k 0=w:=⟨(l.getD k 0).toNat,by omega⟩
       have hwl:w<l.length:=by omega
       have hgw:l.getD (l.getD k 0).toNat 0=l.getD w 0:=by rw[hw];rfl
       by_cases h3:l.getD w 0=(k:Int)
       · have d3:decide (l.getD w 0=(k:Int))=true:=decide_eq_true h3
         rw[d1,d2,hgw,d3] at hup
         rw[hup] at hst
         have hps:gn l (k+1)=gn l k++[((k:Int),(w:Int))]:=by
          unfold gn;rw[hst,if_pos (by simp),List.map_append,←hw];rfl
         rw[hw] at d1 d2
         simp only[hw]
         refine za fun KY hKY=>?_
         simp only[go_sem,yW,d1,d2,d3,zj,zg hwl,hwl]
         apply hKY
         refine Zw ?_
         refine zn fun KY hKY=>?_
         simp only[go_sem,zat,ZI,XK,hby,Wx,←hps,Nat.add_mul]
         apply hKY
         repeat (first|refine hn6 _ ?_|refine he6 _ ?_|refine hf6 _ _ (by decide) ?_|refine hn5 _ ?_|refine he5 _ _ ?_|refine hn4 _ ?_|refine he4 _ _ ?_|refine he3 _ _ ?_|refine hn2 _ ?_|refine he2 _ ?_|refine hf2 _ _ (by decide) ?_|refine hn1 _ ?_|refine he1 _ _ ?_)
         refine zn fun KY hKY=>?_
         simp only[go_sem,yV,zH (show k<4611686018427387904 by omega)]
         apply hKY
         repeat (first|refine hn6 _ ?_|refine he6 _ ?_|refine hf6 _ _ (by decide) ?_|refine hn5 _ ?_|refine he5 _ _ ?_|refine hn4 _ ?_|refine he4 _ _ ?_)
         refine hn3 _ (k+1) (l.length - (k+1)) (by omega) (by first|(simp only[go_sem,zd,ze];done)|with_reducible rfl|rfl) ?_
         exact⟨hk2,rfl⟩
       · have d3:decide (l.getD w 0=(k:Int))=false:=decide_eq_false h3
         rw[d1,d2,hgw,d3] at hup
         rw[hup] at hst
         have hps:gn l (k+1)=gn l k:=by unfold gn;rw[hst,if_neg (by simp),List.append_nil]
         rw[hw] at d1 d2
         simp only[hw]
         refine za fun KY hKY=>?_
         simp only[go_sem,yW,d1,d2,d3,zj,zg hwl,hwl]
         apply hKY
         refine Zr ?_
         refine zh ?_
         repeat (first|refine hn6 _ ?_|refine he6 _ ?_|refine hf6 _ _ (by decide) ?_|refine hn5 _ ?_|refine he5 _ _ ?_|refine hn4 _ ?_|refine he4 _ _ ?_|refine he3 _ _ ?_|refine hn2 _ ?_|refine he2 _ ?_|refine hf2 _ _ (by decide) ?_|refine hn1 _ ?_|refine he1 _ _ ?_)
         refine zn fun KY hKY=>?_
         simp only[go_sem,yV,zH (show k<4611686018427387904 by omega)]
         apply hKY
         repeat (first|refine hn6 _ ?_|refine he6 _ ?_|refine hf6 _ _ (by decide) ?_|refine hn5 _ ?_|refine he5 _ _ ?_|refine hn4 _ ?_|refine he4 _ _ ?_)
         refine hn3 _ (k+1) (l.length - (k+1)) (by omega) (by first|(simp only[go_sem,zd,ze,hps];done)|with_reducible rfl|rfl) ?_
         exact⟨hk2,rfl⟩
     · have d2:decide (l.getD k 0<(l.length:Int))=false:=decide_eq_false h2
       rw[d1,d2] at hup
       rw[hup] at hst
       have hps:gn l (k+1)=gn l k:=by unfold gn;rw[hst,if_neg (by simp),List.append_nil]
       refine za fun KY hKY=>?_
       simp only[go_sem,yW,d1,d2,zj]
       apply hKY
       refine Zr ?_
       refine zh ?_
       repeat (first|refine hn6 _ ?_|refine he6 _ ?_|refine hf6 _ _ (by decide) ?_|refine hn5 _ ?_|refine he5 _ _ ?_|refine hn4 _ ?_|refine he4 _ _ ?_|refine he3 _ _ ?_|refine hn2 _ ?_|refine he2 _ ?_|refine hf2 _ _ (by decide) ?_|refine hn1 _ ?_|refine he1 _ _ ?_)
       refine zn fun KY hKY=>?_
       simp only[go_sem,yV,zH (show k<4611686018427387904 by omega)]
       apply hKY
       repeat (first|refine hn6 _ ?_|refine he6 _ ?_|refine hf6 _ _ (by decide) ?_|refine hn5 _ ?_|refine he5 _ _ ?_|refine hn4 _ ?_|refine he4 _ _ ?_)
       refine hn3 _ (k+1) (l.length - (k+1)) (by omega) (by first|(simp only[go_sem,zd,ze,hps];done)|with_reducible rfl|rfl) ?_
       exact⟨hk2,rfl⟩
   · have d1:decide ((k:Int)<l.getD k 0)=false:=decide_eq_false h1
     rw[d1] at hup
     rw[hup] at hst
     have hps:gn l (k+1)=gn l k:=by unfold gn;rw[hst,if_neg (by simp),List.append_nil]
     refine za fun KY hKY=>?_
     simp only[go_sem,yW,d1]
     apply hKY
     refine Zr ?_
     refine zh ?_
     repeat (first|refine hn6 _ ?_|refine he6 _ ?_|refine hf6 _ _ (by decide) ?_|refine hn5 _ ?_|refine he5 _ _ ?_|refine hn4 _ ?_|refine he4 _ _ ?_|refine he3 _ _ ?_|refine hn2 _ ?_|refine he2 _ ?_|refine hf2 _ _ (by decide) ?_|refine hn1 _ ?_|refine he1 _ _ ?_)
     refine zn fun KY hKY=>?_
     simp only[go_sem,yV,zH (show k<4611686018427387904 by omega)]
     apply hKY
     repeat (first|refine hn6 _ ?_|refine he6 _ ?_|refine hf6 _ _ (by decide) ?_|refine hn5 _ ?_|refine he5 _ _ ?_|refine hn4 _ ?_|refine he4 _ _ ?_)
     refine hn3 _ (k+1) (l.length - (k+1)) (by omega) (by first|(simp only[go_sem,zd,ze,hps];done)|with_reducible rfl|rfl) ?_
     exact⟨hk2,rfl⟩
 refine za fun KY hKY=>?_
 simp only[go_sem,Uz,zj]
 apply hKY
 refine Zr ?_
 refine zy ?_
 repeat (first|refine hn4 _ ?_|refine he4 _ _ ?_|refine he3 _ _ ?_|refine hn2 _ ?_|refine he2 _ ?_|refine hf2 _ _ (by decide) ?_|refine hn1 _ ?_|refine he1 _ _ ?_)
 obtain rfl:k=l.length:=by omega
 refine za fun KY hKY=>?_
 simp only[go_sem,zas]
 apply hKY
 refine zi ?_
 repeat (first|refine hr4 _ ?_|refine hr3 _ ?_|refine hr2 _ ?_|refine hr1 _ ?_)
 simp only[go_sem]
theorem WE (l:List Int)(hl:l.length≤1000000000):zo Try.prog [] zj2 [.imm 1 (zl l)] [] fun r h'=>r= .sc (.int .i64 ((YV (YQ l) l.length).length:Nat))∧h'=[]:=by
 refine zmx rfl ?_
 unfold zk5 vC
 refine za fun KY hKY=>?_
 simp only[go_sem,zbx]
 apply hKY
 refine za fun KY hKY=>?_
 simp only[go_sem,zbw]
 refine zk rfl (by simp only[go_sem]<;>rfl) ((zcq l hl).mono ?_)
 rintro rr hh ⟨rfl,rfl⟩
 refine⟨?_,?_,?_,?_⟩
 iterate 3 (first|rfl|simp only[go_sem])
 simp only[go_sem,ZI,XK,zdk]
 apply hKY
 refine zi ?_
 simp only[go_sem]
theorem zcV {N:Nat}{es:Es}(g:GR N es):zo Try.prog [] zjP [.agg [.sc (.int .i64 (N:Int)),.imm 2 (zY (zB es))]] [] fun r h'=>∃(m:List Int),m.length=N∧(∃D A bs,Fc N (Z7 es) (mf m) D A bs)∧((N=0∧r= .tup [.own (some 1) (zl (qt N es)),.own (some 1) [],.sc (.int .i64 0)]∧h'=[])∨(0<N∧r= .tup [.own (some 1) (zl (qt N es)),.sl 0 0 N 1,.sc (.int .i64 0)]∧h'=[some (zl m)])):=by
 have hP:=fun m hml hL=>zir g m hml hL
 refine zmk rfl ?_
 unfold zkS Q9
 refine za fun KY hKY=>?_
 simp only[go_sem,zan]
 apply hKY
 refine za fun KY hKY=>?_
 simp only[go_sem,zam]
 apply zr [] [] false none rfl
 iterate 8 (first|(simp only[go_sem,zt]<;>rfl)|rfl)
 refine(QZ g).mono ?_
 rintro _ _ ⟨m,S,a,b,hml,M,I,L,⟨h0,rfl,rfl⟩|⟨h0,rfl,rfl⟩⟩
 · have hLg:=zdH M I L
   have hm0:zl m=[]:=by
    rw[List.length_eq_zero_iff.1 (hml.trans h0)];rfl
   have hP1:=hP m hml hLg
   rw[hm0] at hP1
   refine⟨Nat.le_of_ble_eq_true rfl,(fun hh=>by cases hh),?_⟩
   simp only[go_sem,zq,zb.after]
   apply hKY
   refine zf fun X1 hn1 he1 hr1=>?_
   refine za fun KY hKY=>?_
   simp only[go_sem,Uv]
   apply hKY
   refine Zr ?_
   refine zh ?_
   repeat (first|refine hn1 _ ?_|refine he1 _ _ ?_)
   refine za fun KY hKY=>?_
   simp only[go_sem,Uu]
   apply zr [] [] true none rfl
   iterate 8 (first|(simp only[go_sem,zt]<;>rfl)|rfl)
   refine(hP1).mono ?_
   rintro _ _ ⟨rfl,rfl⟩
   refine⟨Nat.le_of_ble_eq_true rfl,(fun _=>by simp only[go_sem,Jv,and_self]),?_⟩
   simp only[go_sem,zq,zb.after]
   apply hKY
   refine za fun KY hKY=>?_
   simp only[go_sem,Ut]
   apply hKY
   refine zi ?_
   repeat (first|refine hr1 _ ?_)
   simp only[go_sem]
   exact⟨m,hml,⟨_,_,_,Yl M I L⟩,.inl h0⟩
 · have hLg:=zdH M I L
   have hP1:=hP m hml hLg
   have htk:List.take N (zl m)=zl m:=List.take_of_length_le (by rw[zj];omega)
   refine⟨Nat.le_of_ble_eq_true rfl,(fun hh=>by cases hh),?_⟩
   simp only[go_sem,zq,zb.after]
   apply hKY
   refine zf fun X2 hn2 he2 hr2=>?_
   refine za fun KY hKY=>?_
   simp only[go_sem,Uv]
   apply hKY
   refine Zr ?_
   refine zh ?_
   repeat (first|refine hn2 _ ?_|refine he2 _ _ ?_)
   refine za fun KY hKY=>?_
   simp only[go_sem,Uu]
   refine zk rfl (by simp only[go_sem,hml,Nat.le_refl,htk]<;>rfl) ((hP1).mono ?_)
   rintro rr hh ⟨rfl,rfl⟩
   refine⟨?_,?_,?_,?_⟩
   iterate 3 (first|rfl|simp only[go_sem])
   simp only[go_sem]
   apply hKY
   refine za fun KY hKY=>?_
   simp only[go_sem,Ut]
   apply hKY
   refine zi ?_
   repeat (first|refine hr2 _ ?_)
   simp only[go_sem]
   exact⟨m,hml,⟨_,_,_,Yl M I L⟩,.inr ⟨h0,rfl⟩⟩
def zmT (l:List Int)(x:Int):List Nat:=YV (fun v=>decide (l.getD v 0=x)) l.length
theorem zhF (l:List Int)(x:Int)(hl:l.length≤100000):zo Try.prog [] zjO [.imm 1 (zl l),.sc (.int .i64 x)] [] fun r h'=>r= .own (some 1) (zJ (zmT l x))∧h'=[]:=by
 refine zmj rfl ?_
 unfold zkR JQ
 refine za fun KY hKY=>?_
 simp only[go_sem,zal]
 apply hKY
 refine za fun KY hKY=>?_
 simp only[go_sem,zak]
 apply hKY
 refine jC [0,5] 1 (by simp only[go_sem]) ?_
 simp only[go_sem]
 rw[show zc.own (some 1) []= .own (some 1) (zJ (YV (fun v=>decide (l.getD v 0=x)) 0)) from rfl]
 refine zf fun X1 hn1 he1 hr1=>?_
 refine za fun KY hKY=>?_
 simp only[go_sem,zaj,zj]
 apply hKY
 refine zp fun X2 hn2 he2 hf2 hr2=>?_
 try simp only[go_sem]
 refine zP (α:=Nat) [6,7,11,17] (fun k=>[(5,.own (some 1) (zJ (YV (fun v=>decide (l.getD v 0=x)) k))),(10,.sc (.int .i64 (k:Int)))]) (fun k=>[]) (fun k q=>k≤l.length∧q=l.length - k) (0) (l.length) rfl (by first|(simp only[go_sem,zd,ze];done)|with_reducible rfl|rfl) (⟨Nat.zero_le _,rfl⟩) ?_
 rintro k q ⟨hk,rfl⟩ X3 hn3 he3 hr3
 simp only[go_sem,zd,ze]
 have hsl:=Yb (fun v=>decide (l.getD v 0=x)) k
 have hst:=Xp (fun v=>decide (l.getD v 0=x)) k
 rcases Nat.lt_or_ge k l.length with hk2|hk2
 · have hdx:decide ((k:Int)<(l.length:Int))=true:=decide_eq_true (by omega)
   have hg:(zl l)[k]?=some (.sc (.int .i64 (l.getD k 0))):=zg hk2
   refine za fun KY hKY=>?_
   simp only[go_sem,Us,hdx]
   apply hKY
   refine zf fun X4 hn4 he4 hr4=>?_
   refine Zw ?_
   refine zh ?_
   repeat (first|refine hn4 _ ?_|refine he4 _ _ ?_|refine he3 _ _ ?_|refine hn2 _ ?_|refine he2 _ ?_|refine hf2 _ _ (by decide) ?_|refine hn1 _ ?_|refine he1 _ _ ?_)
   refine zf fun X5 hn5 he5 hr5=>?_
   refine zp fun X6 hn6 he6 hf6 hr6=>?_
   refine za fun KY hKY=>?_
   simp only[go_sem,zai,hg,zj,hk2]
   apply hKY
   by_cases hx:l.getD k 0=x
   · have hd:decide (l.getD k 0=x)=true:=decide_eq_true hx
     rw[hd,if_pos rfl] at hst
     refine za fun KY hKY=>?_
     simp only[go_sem,Ur,hd]
     apply hKY
     refine Zw ?_
     refine zn fun KY hKY=>?_
     simp only[go_sem,zah,jg,Zo,←hst,(show((YV (fun v=>decide (l.getD v 0=x)) k).length+1)*8≤140737488355328 by omega)]
     apply hKY
     repeat (first|refine hn6 _ ?_|refine he6 _ ?_|refine hf6 _ _ (by decide) ?_|refine hn5 _ ?_|refine he5 _ _ ?_|refine hn4 _ ?_|refine he4 _ _ ?_|refine he3 _ _ ?_|refine hn2 _ ?_|refine he2 _ ?_|refine hf2 _ _ (by decide) ?_|refine hn1 _ ?_|refine he1 _ _ ?_)
     refine zn fun KY hKY=>?_
     simp only[go_sem,Uq,zH (show k<4611686018427387904 by omega)]
     apply hKY
     repeat (first|refine hn6 _ ?_|refine he6 _ ?_|refine hf6 _ _ (by decide) ?_|refine hn5 _ ?_|refine he5 _ _ ?_|refine hn4 _ ?_|refine he4 _ _ ?_)
     refine hn3 _ (k+1) (l.length - (k+1)) (by omega) (by first|(simp only[go_sem,zd,ze];done)|with_reducible rfl|rfl) ?_
     exact⟨hk2,rfl⟩
   · have hd:decide (l.getD k 0=x)=false:=decide_eq_false hx
     rw[hd,if_neg (by simp),List.append_nil] at hst
     refine za fun KY hKY=>?_
     simp only[go_sem,Ur,hd]
     apply hKY
     refine Zr ?_
     refine zh ?_
     repeat (first|refine hn6 _ ?_|refine he6 _ ?_|refine hf6 _ _ (by decide) ?_|refine hn5 _ ?_|refine he5 _ _ ?_|refine hn4 _ ?_|refine he4 _ _ ?_|refine he3 _ _ ?_|refine hn2 _ ?_|refine he2 _ ?_|refine hf2 _ _ (by decide) ?_|refine hn1 _ ?_|refine he1 _ _ ?_)
     refine zn fun KY hKY=>?_
     simp only[go_sem,Uq,zH (show k<4611686018427387904 by omega)]
     apply hKY
     repeat (first|refine hn6 _ ?_|refine he6 _ ?_|refine hf6 _ _ (by decide) ?_|refine hn5 _ ?_|refine he5 _ _ ?_|refine hn4 _ ?_|refine he4 _ _ ?_)
     refine hn3 _ (k+1) (l.length - (k+1)) (by omega) (by first|(simp only[go_sem,zd,ze,hst];done)|with_reducible rfl|rfl) ?_
     exact⟨hk2,rfl⟩
 have hdx:decide ((k:Int)<(l.length:Int))=false:=decide_eq_false (by omega)
 obtain rfl:k=l.length:=by omega
 refine za fun KY hKY=>?_
 simp only[go_sem,Us,hdx]
 apply hKY
 refine zf fun X7 hn7 he7 hr7=>?_
 refine Zr ?_
 refine zy ?_
 repeat (first|refine hn7 _ ?_|refine he7 _ _ ?_|refine he3 _ _ ?_|refine hn2 _ ?_|refine he2 _ ?_|refine hf2 _ _ (by decide) ?_|refine hn1 _ ?_|refine he1 _ _ ?_)
 refine za fun KY hKY=>?_
 simp only[go_sem,zag]
 apply hKY
 refine zi ?_
 repeat (first|refine hr7 _ ?_|refine hr3 _ ?_|refine hr2 _ ?_|refine hr1 _ ?_)
 simp only[go_sem]
 rfl
end Go.Proofs.Ytmcfdfafeheihaa
set_option maxHeartbeats 8000000
namespace Go.Proofs.Ytmcfdfafeheihaa
open Go Go.Ga Go.Ga.Gl
theorem zdj (N:Nat)(E:Nat→Nat→Prop)(k:Nat):(wr N E k).length≤N:=by
 unfold wr
 exact Nat.le_trans (List.length_filter_le _ _) (by simp)
theorem zf8 {N:Nat}{E:Nat→Nat→Prop}{mt:Nat→Int}{D A:Nat→Bool}{bs:Nat→Nat}(F:Fc N E mt D A bs){v:Nat}:v∈wr N E 2↔A v=true:=by
 rw[Ke,F.lab v]
 constructor
 · rintro⟨_,h⟩
   by_cases hd:D v=true
   · rw[if_pos hd] at h;omega
   · rw[if_neg hd] at h
     by_cases ha:A v=true
     · exact ha
     · rw[if_neg ha] at h;omega
 · intro h
   obtain⟨h1,h2⟩:=F.c.an v h
   exact⟨h1,by rw[if_neg (by rw[h2];simp),if_pos h]⟩
def JW (l:List Nat):List Int:=l.map fun x:Nat=>(x:Int)
theorem Vb (l:List Nat):zJ l=zl (JW l):=WN l
def qd (n:Int)(es:List (Int×Int))(b:List Int):Int:=bif zV n es then(bif b.all (fun v=>decide (0≤v)&&decide (v<n)) then(bif decide b.Nodup then 0 else 6) else 4) else 3
def BP (n:Int)(es:List (Int×Int))(b:List Int)(x e:Int):Prop:=(qd n es b≠0∧x=0∧e=qd n es b)∨(qd n es b=0∧∃ps,xU n es b ps∧x=(Zf ps:Int) - b.length∧e=0)
theorem BP.unique {n:Int}{es:List (Int×Int)}{b:List Int}{x e y f:Int}(h:BP n es b x e)(h':BP n es b y f):x=y∧e=f:=by
 rcases h with⟨h1,rfl,rfl⟩|⟨h1,ps,hp,rfl,rfl⟩
 · rcases h' with⟨_,rfl,rfl⟩|⟨h2,_⟩
   · exact⟨rfl,rfl⟩
   · exact absurd h2 h1
 · rcases h' with⟨h2,_⟩|⟨_,qs,hq,rfl,rfl⟩
   · exact absurd h1 h2
   · obtain rfl:=hp.unique hq;exact⟨rfl,rfl⟩
theorem ze8 (c:Nat)(p:List Nat)(hc:c≤100000)(hp:p.length≤100000):zo Try.prog [] zjE [.ptr 0 0,.imm 1 (zJ p)] [some [.sc (.int .i64 (c:Int))]] fun r h'=>r= .tup []∧h'=[some [.sc (.int .i64 ((c+p.length%2:Nat):Int))]]:=by
 have hm:(p.length:Int).tmod 2=((p.length%2:Nat):Int):=by
  rw[Int.tmod_eq_emod_of_nonneg (by omega)];omega
 have ha:IntKind.i64.wrap ((c:Int)+((p.length%2:Nat):Int))=((c+p.length%2:Nat):Int):=by
  rw[IntWalk.i64_in _ (by omega)];omega
 refine zl7 rfl ?_
 unfold zkF zc8
 refine zn fun KY hKY=>?_
 simp only[go_sem,Oe,Zo,hm,ha]
 apply hKY
 simp only[go_sem]
theorem zgD {N:Nat}{es:Es}(g:GR N es)(b:List Int)(hb:b.length≤1000000):zo Try.prog [] zjS [.imm 1 (Zv (JU N es)),.imm 1 (zl b)] [] fun r h'=>(∃ps,Zg N es (fun v=>(v:Int)∈b) ps∧r= .sc (.int .i64 ((Zf ps:Int) - b.length)))∧h'=[]:=by
 have hN:=g.hn
 refine zo.trim ?_
 refine zmn rfl ?_
 unfold zkV JD
 refine za fun KY hKY=>?_
 simp only[go_sem,zaQ]
 apply hKY
 refine za fun KY hKY=>?_
 simp only[go_sem,zaP]
 apply hKY
 refine WB [0,5] (by simp only[go_sem];rfl) ?_
 simp only[go_sem]
 refine za fun KY hKY=>?_
 simp only[go_sem,zaO]
 apply hKY
 refine zf fun X1 hn1 he1 hr1=>?_
 refine za fun KY hKY=>?_
 simp only[go_sem,zaN]
 refine zk rfl (by simp only[go_sem]<;>rfl) ((zlp g b (by omega)).mono ?_)
 rintro rr hh ⟨⟨ps,hps,rfl⟩,rfl⟩
 refine⟨?_,?_,?_,?_⟩
 iterate 3 (first|rfl|simp only[go_sem])
 simp only[go_sem]
 apply hKY
 refine ZB [0,15] (by simp only[go_sem];rfl) ?_
 simp only[go_sem]
 have hpl:=XB hps
 have hpe:=fun p hp=>vW hps (p:=p) hp
 have hoc:=fun k=>xY ps k (Nat.le_trans hpl hN)
 refine zp fun X2 hn2 he2 hf2 hr2=>?_
 try simp only[go_sem]
 refine zP (α:=Nat) [8,18] (fun k=>[(17,.sc (.int .i64 (k:Int)))]) (fun k=>[some [.sc (.int .i64 (Zf (ps.take k):Int))]]) (fun k q=>k≤ps.length∧q=ps.length - k) (0) (ps.length) rfl (by first|(simp only[go_sem,zd,ze];done)|with_reducible rfl|rfl) (⟨by omega,rfl⟩) ?_
 rintro k q ⟨hk,rfl⟩ X3 hn3 he3 hr3
 simp only[go_sem,zd,ze]
 refine za fun KY hKY=>?_
 simp only[go_sem,zaM]
 apply hKY
 refine zf fun X4 hn4 he4 hr4=>?_
 rcases Nat.lt_or_ge k ps.length with hk2|hk2
 · refine Zw ?_
   refine zh ?_
   repeat (first|refine hn4 _ ?_|refine he4 _ _ ?_|refine he3 _ _ ?_|refine hn2 _ ?_|refine he2 _ ?_|refine hf2 _ _ (by decide) ?_|refine hn1 _ ?_|refine he1 _ _ ?_)
   refine zf fun X5 hn5 he5 hr5=>?_
   refine zp fun X6 hn6 he6 hf6 hr6=>?_
   have hx:ps[k]?=some ps[k]:=List.getElem?_eq_getElem hk2
   have hy:(ps[k]).length≤4096:=Nat.le_trans (hpe _ (List.getElem_mem hk2)) hN
   generalize ps[k]=p at hx hy
   have hst:=gu ps k p hx
   have h1:=hoc k
   refine za fun KY hKY=>?_
   simp only[go_sem,zaL,Qc hx,hk2,qg]
   apply hKY
   refine zn fun KY hKY=>?_
   simp only[go_sem,zaK]
   apply zr [] [0] false none rfl
   iterate 8 (first|(simp only[go_sem,zt]<;>rfl)|rfl)
   refine(ze8 (Zf (ps.take k)) p (by omega) (by omega)).mono ?_
   rintro _ _ ⟨rfl,rfl⟩
   refine⟨Nat.le_of_ble_eq_true rfl,(fun hh=>by cases hh),?_⟩
   simp only[go_sem,zq,zb.after,←hst]
   apply hKY
   repeat (first|refine hn6 _ ?_|refine he6 _ ?_|refine hf6 _ _ (by decide) ?_|refine hn5 _ ?_|refine he5 _ _ ?_|refine hn4 _ ?_|refine he4 _ _ ?_|refine he3 _ _ ?_|refine hn2 _ ?_|refine he2 _ ?_|refine hf2 _ _ (by decide) ?_|refine hn1 _ ?_|refine he1 _ _ ?_)
   refine zn fun KY hKY=>?_
   simp only[go_sem,zaJ,zH (show k<4611686018427387904 by omega)]
   apply hKY
   repeat (first|refine hn6 _ ?_|refine he6 _ ?_|refine hf6 _ _ (by decide) ?_|refine hn5 _ ?_|refine he5 _ _ ?_|refine hn4 _ ?_|refine he4 _ _ ?_)
   refine hn3 _ (k+1) (ps.length - (k+1)) (by omega) (by first|(simp only[go_sem,zd,ze];done)|with_reducible rfl|rfl) ?_
   exact⟨hk2,rfl⟩
 refine Zr ?_
 refine zy ?_
 repeat (first|refine hn4 _ ?_|refine he4 _ _ ?_|refine he3 _ _ ?_|refine hn2 _ ?_|refine he2 _ ?_|refine hf2 _ _ (by decide) ?_|refine hn1 _ ?_|refine he1 _ _ ?_)
 obtain rfl:k=ps.length:=by omega
 rw[List.take_length]
 have h1:=hoc ps.length
 rw[List.take_length] at h1
 have hw:IntKind.i64.wrap ((Zf ps:Int) - (b.length:Int))=(Zf ps:Int) - b.length:=by rw[IntWalk.i64_in _ (by omega)]
 refine za fun KY hKY=>?_
 simp only[go_sem,zaI,zj,hw]
 apply hKY
 refine zi ?_
 repeat (first|refine hr4 _ ?_|refine hr3 _ ?_|refine hr2 _ ?_|refine hr1 _ ?_)
 simp only[go_sem]
 exact⟨ps,hps,rfl⟩
def Qb (N:Nat)(b:List Int):List Bool:=(List.range N).map fun v:Nat=>decide ((v:Int)∈b)
theorem vN (N:Nat)(b:List Int):(Qb N b).length=N:=by simp[Qb]
theorem zeg {N:Nat}(b:List Int){v:Nat}(h:v<N):(Qb N b).getD v false=decide ((v:Int)∈b):=by simp[Qb,h]
theorem zef {N:Nat}(b:List Int)(v:Nat):(Qb N b).set v true=Qb N (b++[(v:Int)]):=by
 apply List.ext_getElem
 · simp[Qb]
 · intro i h1 h2
   simp only[Qb,List.getElem_set,List.getElem_map,List.getElem_range]
   by_cases h:v=i
   · subst h;simp
   · rw[if_neg h]
     congr 1
     simp[show¬(i:Int)=v by omega]
theorem inB {n:Int}{b:List Int}{k:Nat}(h:k<b.length)(hf:¬(0≤b.getD k 0∧b.getD k 0<n)):(b.all fun v=>decide (0≤v)&&decide (v<n))=false:=by
 rw[Bool.eq_false_iff];intro h'
 rw[List.all_eq_true] at h'
 have:=h' (b.getD k 0) (by rw[List.getD_eq_getElem?_getD,List.getElem?_eq_getElem h];exact List.getElem_mem h)
 rw[Bool.and_eq_true,decide_eq_true_iff,decide_eq_true_iff] at this
 exact hf this
theorem zdC {n:Int}{b:List Int}(h:∀k,k<b.length→0≤b.getD k 0∧b.getD k 0<n):(b.all fun v=>decide (0≤v)&&decide (v<n))=true:=by
 rw[List.all_eq_true]
 intro x hx
 obtain⟨i,hi,rfl⟩:=List.mem_iff_getElem.1 hx
 have:=h i hi
 rw[List.getD_eq_getElem?_getD,List.getElem?_eq_getElem hi] at this
 rw[Bool.and_eq_true,decide_eq_true_iff,decide_eq_true_iff];exact this
theorem WA {b:List Int}{k:Nat}(h:k<b.length):b.take (k+1)=b.take k++[b.getD k 0]:=by
 rw[List.take_add_one,List.getElem?_eq_getElem h,List.getD_eq_getElem?_getD,List.getElem?_eq_getElem h];rfl
theorem gx {b:List Int}{k:Nat}(h:k<b.length)(hm:b.getD k 0∈b.take k):¬b.Nodup:=fun hn=>by
 have h1:(b.take (k+1)).Nodup:=hn.sublist (List.take_sublist _ _)
 rw[WA h,List.nodup_append] at h1
 exact h1.2.2 _ hm _ (List.mem_singleton.2 rfl) rfl
theorem v8 {b:List Int}{k:Nat}(h:k<b.length)(hn:(b.take k).Nodup)(hm:b.getD k 0∉b.take k):(b.take (k+1)).Nodup:=by
 rw[WA h,List.nodup_append]
 refine⟨hn,List.nodup_cons.2 ⟨by simp,List.nodup_nil⟩,fun a ha c hc e=>?_⟩
 rw[List.mem_singleton] at hc
 subst hc;subst e;exact hm ha
theorem zbK (n:Int)(es:List (Int×Int))(b:List Int)(hb:b.length≤1000000):zo Try.prog [] zj4 [.agg [.sc (.int .i64 n),.imm 2 (zY es)],.imm 1 (zl b)] [] fun r h'=>(∃x e,BP n es b x e∧r= .tup [.sc (.int .i64 x),.sc (.int .i64 e)])∧h'=[]:=by
 refine zo.trim ?_
 cases hr:zV n es with
 | false=>
   have he:qd n es b=3:=by simp[qd,hr]
   refine zg4 rfl ?_
   unfold zhD ZU
   refine za fun KY hKY=>?_
   simp only[go_sem,UQ]
   apply hKY
   refine zf fun X1 hn1 he1 hr1=>?_
   refine za fun KY hKY=>?_
   simp only[go_sem,UP]
   refine zk rfl (by simp only[go_sem]<;>rfl) ((JS n es).mono ?_)
   rintro rr hh ⟨rfl,rfl⟩
   refine⟨rfl,rfl,rfl,?_⟩
   simp only[go_sem,hr]
   apply hKY
   refine Zw ?_
   refine za fun KY hKY=>?_
   simp only[go_sem,zbG]
   apply hKY
   refine zi ?_
   repeat (first|refine hr1 _ ?_)
   simp only[go_sem]
   exact⟨0,3,.inl ⟨by rw[he];decide,rfl,he.symm⟩,rfl⟩
 |true=>
 obtain⟨N,es,rfl,rfl,g⟩:=Qe hr
 have hN:=g.hn
 refine zg4 rfl ?_
 unfold zhD ZU
 refine za fun KY hKY=>?_
 simp only[go_sem,UQ]
 apply hKY
 refine zf fun X2 hn2 he2 hr2=>?_
 refine za fun KY hKY=>?_
 simp only[go_sem,UP]
 refine zk rfl (by simp only[go_sem]<;>rfl) ((JS N (zB es)).mono ?_)
 rintro rr hh ⟨rfl,rfl⟩
 refine⟨rfl,rfl,rfl,?_⟩
 simp only[go_sem,hr]
 apply hKY
 refine Zr ?_
 refine zh ?_
 repeat (first|refine hn2 _ ?_|refine he2 _ _ ?_)
 refine zf fun X3 hn3 he3 hr3=>?_
 refine za fun KY hKY=>?_
 simp only[go_sem,zbF,zj]
 apply hKY
 refine zp fun X4 hn4 he4 hf4 hr4=>?_
 try simp only[go_sem]
 refine zP (α:=Nat) [7,17,27] (fun k=>[(16,.sc (.int .i64 (k:Int)))]) (fun k=>[]) (fun k q=>k≤b.length∧q=b.length - k∧(∀j,j<k→0≤b.getD j 0∧b.getD j 0<N)) (0) (b.length) rfl (by first|(simp only[go_sem,zd,ze];done)|with_reducible rfl|rfl) (⟨by omega,rfl,fun j h=>by omega⟩) ?_
 rintro k q ⟨hk,rfl,hz⟩ X5 hn5 he5 hr5
 simp only[go_sem,zd,ze]
 rcases Nat.lt_or_ge k b.length with hk2|hk2
 · have hdy:decide ((k:Int)<(b.length:Int))=true:=decide_eq_true (by omega)
   refine za fun KY hKY=>?_
   simp only[go_sem,UO,hdy]
   apply hKY
   refine zf fun X6 hn6 he6 hr6=>?_
   refine Zw ?_
   refine zh ?_
   repeat (first|refine hn6 _ ?_|refine he6 _ _ ?_|refine he5 _ _ ?_|refine hn4 _ ?_|refine he4 _ ?_|refine hf4 _ _ (by decide) ?_|refine hn3 _ ?_|refine he3 _ _ ?_|refine hn2 _ ?_|refine he2 _ _ ?_)
   refine zf fun X7 hn7 he7 hr7=>?_
   refine zp fun X8 hn8 he8 hf8 hr8=>?_
   refine za fun KY hKY=>?_
   simp only[go_sem,zbE,zg hk2,hk2,zj]
   apply hKY
   by_cases h1:b.getD k 0<0
   · have d1:decide (b.getD k 0<0)=true:=decide_eq_true h1
     have he:qd N (zB es) b=4:=by simp only[qd,hr,inB hk2 (n:=(N:Int)) (by omega),cond_true,cond_false]
     refine za fun KY hKY=>?_
     simp only[go_sem,Wr,d1]
     apply hKY
     refine Zw ?_
     refine za fun KY hKY=>?_
     simp only[go_sem,UN]
     apply hKY
     refine zi ?_
     repeat (first|refine hr8 _ ?_|refine hr7 _ ?_|refine hr6 _ ?_|refine hr5 _ ?_|refine hr4 _ ?_|refine hr3 _ ?_|refine hr2 _ ?_)
     simp only[go_sem]
     exact⟨0,4,.inl ⟨by rw[he];decide,rfl,he.symm⟩,rfl⟩
   · have d1:decide (b.getD k 0<0)=false:=decide_eq_false h1
     by_cases h2:(N:Int)≤b.getD k 0
     · have d2:decide ((N:Int)≤b.getD k 0)=true:=decide_eq_true h2
       have he:qd N (zB es) b=4:=by simp only[qd,hr,inB hk2 (n:=(N:Int)) (by omega),cond_true,cond_false]
       refine za fun KY hKY=>?_
       simp only[go_sem,Wr,d1,d2]
       apply hKY
       refine Zw ?_
       refine za fun KY hKY=>?_
       simp only[go_sem,UN]
       apply hKY
       refine zi ?_
       repeat (first|refine hr8 _ ?_|refine hr7 _ ?_|refine hr6 _ ?_|refine hr5 _ ?_|refine hr4 _ ?_|refine hr3 _ ?_|refine hr2 _ ?_)
       simp only[go_sem]
       exact⟨0,4,.inl ⟨by rw[he];decide,rfl,he.symm⟩,rfl⟩
     · have d2:decide ((N:Int)≤b.getD k 0)=false:=decide_eq_false h2
       refine za fun KY hKY=>?_
       simp only[go_sem,Wr,d1,d2]
       apply hKY
       refine Zr ?_
       refine zh ?_
       repeat (first|refine hn8 _ ?_|refine he8 _ ?_|refine hf8 _ _ (by decide) ?_|refine hn7 _ ?_|refine he7 _ _ ?_|refine hn6 _ ?_|refine he6 _ _ ?_|refine he5 _ _ ?_|refine hn4 _ ?_|refine he4 _ ?_|refine hf4 _ _ (by decide) ?_|refine hn3 _ ?_|refine he3 _ _ ?_|refine hn2 _ ?_|refine he2 _ _ ?_)
       refine zn fun KY hKY=>?_
       simp only[go_sem,zbD,zH (show k<4611686018427387904 by omega)]
       apply hKY
       repeat (first|refine hn8 _ ?_|refine he8 _ ?_|refine hf8 _ _ (by decide) ?_|refine hn7 _ ?_|refine he7 _ _ ?_|refine hn6 _ ?_|refine he6 _ _ ?_)
       refine hn5 _ (k+1) (b.length - (k+1)) (by omega) (by first|(simp only[go_sem,zd,ze];done)|with_reducible rfl|rfl) ?_
       refine⟨hk2,rfl,fun j hj=>?_⟩
       rcases Nat.lt_or_ge j k with h3|h3
       · exact hz j h3
       · obtain rfl:j=k:=by omega
         exact⟨by omega,by omega⟩
 have hdx:decide ((k:Int)<(b.length:Int))=false:=decide_eq_false (by omega)
 refine za fun KY hKY=>?_
 simp only[go_sem,UO,hdx]
 apply hKY
 refine zf fun X9 hn9 he9 hr9=>?_
 refine Zr ?_
 refine zy ?_
 repeat (first|refine hn9 _ ?_|refine he9 _ _ ?_|refine he5 _ _ ?_|refine hn4 _ ?_|refine he4 _ ?_|refine hf4 _ _ (by decide) ?_|refine hn3 _ ?_|refine he3 _ _ ?_|refine hn2 _ ?_|refine he2 _ _ ?_)
 obtain rfl:k=b.length:=by omega
 have hall:=zdC (n:=(N:Int)) hz
 have h0:List.replicate N false=Qb N (b.take 0):=by
  apply List.ext_getElem
  · simp[Qb]
  · intro i h1 h2;simp[Qb]
 refine za fun KY hKY=>?_
 simp only[go_sem,zbC,(show 1*N≤140737488355328 by omega),(show N≤140737488355328 by omega),(show(N:Int)≤(N:Int) from Int.le_refl _),(show(N:Int)≤9223372036854775807 by omega),h0]
 apply hKY
 refine zf fun X10 hn10 he10 hr10=>?_
 refine za fun KY hKY=>?_
 simp only[go_sem,kR,zj]
 apply hKY
 refine zp fun X11 hn11 he11 hf11 hr11=>?_
 try simp only[go_sem]
 refine zP (α:=Nat) [10,35,41] (fun k=>[(8,.own (some 1) (Zd (Qb N (b.take k)))),(34,.sc (.int .i64 (k:Int)))]) (fun k=>[]) (fun k q=>k≤b.length∧q=b.length - k∧(b.take k).Nodup) (0) (b.length) rfl (by first|(simp only[go_sem,zd,ze];done)|with_reducible rfl|rfl) (⟨by omega,rfl,List.nodup_nil⟩) ?_
 rintro k q ⟨hk',rfl,hnd⟩ X12 hn12 he12 hr12
 simp only[go_sem,zd,ze]
 rcases Nat.lt_or_ge k b.length with hk2|hk2
 · have hdy:decide ((k:Int)<(b.length:Int))=true:=decide_eq_true (by omega)
   refine za fun KY hKY=>?_
   simp only[go_sem,xg,hdy]
   apply hKY
   refine zf fun X13 hn13 he13 hr13=>?_
   refine Zw ?_
   refine zh ?_
   repeat (first|refine hn13 _ ?_|refine he13 _ _ ?_|refine he12 _ _ ?_|refine hn11 _ ?_|refine he11 _ ?_|refine hf11 _ _ (by decide) ?_|refine hn10 _ ?_|refine he10 _ _ ?_|refine hn9 _ ?_|refine he9 _ _ ?_)
   refine zf fun X14 hn14 he14 hr14=>?_
   refine zp fun X15 hn15 he15 hf15 hr15=>?_
   have hzk:=hz k hk2
   have htk:=WA hk2
   obtain⟨v,hv⟩:∃v:Nat,b.getD k 0=v:=⟨(b.getD k 0).toNat,by omega⟩
   have hvN:v<N:=by omega
   refine za fun KY hKY=>?_
   simp only[go_sem,kQ,zg hk2,hk2,zj]
   simp only[hv]
   apply hKY
   have hg:=Jn (show v<(Qb N (b.take k)).length by rw[vN];omega)
   rw[zeg _ hvN,←hv] at hg
   have hsl:=vN N (b.take k)
   refine zf fun X16 hn16 he16 hr16=>?_
   by_cases hm:b.getD k 0∈b.take k
   · rw[decide_eq_true hm] at hg
     have he:qd N (zB es) b=6:=by simp only[qd,hr,hall,decide_eq_false (gx hk2 hm),cond_true,cond_false]
     refine za fun KY hKY=>?_
     simp only[go_sem,xf,hg,Zy,hsl,hvN]
     apply hKY
     refine Zw ?_
     refine za fun KY hKY=>?_
     simp only[go_sem,kP]
     apply hKY
     refine zi ?_
     repeat (first|refine hr16 _ ?_|refine hr15 _ ?_|refine hr14 _ ?_|refine hr13 _ ?_|refine hr12 _ ?_|refine hr11 _ ?_|refine hr10 _ ?_|refine hr9 _ ?_|refine hr5 _ ?_|refine hr4 _ ?_|refine hr3 _ ?_|refine hr2 _ ?_)
     simp only[go_sem]
     exact⟨0,6,.inl ⟨by rw[he];decide,rfl,he.symm⟩,rfl⟩
   · rw[decide_eq_false hm] at hg
     have hst:=zef (N:=N) (b.take k) v
     rw[←hv,←htk] at hst
     refine za fun KY hKY=>?_
     simp only[go_sem,xf,hg,Zy,hsl,hvN]
     apply hKY
     refine Zr ?_
     refine zh ?_
     repeat (first|refine hn16 _ ?_|refine he16 _ _ ?_|refine hn15 _ ?_|refine he15 _ ?_|refine hf15 _ _ (by decide) ?_|refine hn14 _ ?_|refine he14 _ _ ?_|refine hn13 _ ?_|refine he13 _ _ ?_|refine he12 _ _ ?_|refine hn11 _ ?_|refine he11 _ ?_|refine hf11 _ _ (by decide) ?_|refine hn10 _ ?_|refine he10 _ _ ?_|refine hn9 _ ?_|refine he9 _ _ ?_)
     refine zn fun KY hKY=>?_
     simp only[go_sem,kO,Zy,hsl,hvN,hst]
     apply hKY
     repeat (first|refine hn16 _ ?_|refine he16 _ _ ?_|refine hn15 _ ?_|refine he15 _ ?_|refine hf15 _ _ (by decide) ?_|refine hn14 _ ?_|refine he14 _ _ ?_|refine hn13 _ ?_|refine he13 _ _ ?_|refine he12 _ _ ?_|refine hn11 _ ?_|refine he11 _ ?_|refine hf11 _ _ (by decide) ?_|refine hn10 _ ?_|refine he10 _ _ ?_|refine hn9 _ ?_|refine he9 _ _ ?_)
     refine zn fun KY hKY=>?_
     simp only[go_sem,kN,zH (show k<4611686018427387904 by omega)]
     apply hKY
     repeat (first|refine hn16 _ ?_|refine he16 _ _ ?_|refine hn15 _ ?_|refine he15 _ ?_|refine hf15 _ _ (by decide) ?_|refine hn14 _ ?_|refine he14 _ _ ?_|refine hn13 _ ?_|refine he13 _ _ ?_)
     refine hn12 _ (k+1) (b.length - (k+1)) (by omega) (by first|(simp only[go_sem,zd,ze];done)|with_reducible rfl|rfl) ?_
     exact⟨hk2,rfl,v8 hk2 hnd hm⟩
 have hdz:decide ((k:Int)<(b.length:Int))=false:=decide_eq_false (by omega)
 refine za fun KY hKY=>?_
 simp only[go_sem,xg,hdz]
 apply hKY
 refine zf fun X17 hn17 he17 hr17=>?_
 refine Zr ?_
 refine zy ?_
 repeat (first|refine hn17 _ ?_|refine he17 _ _ ?_|refine he12 _ _ ?_|refine hn11 _ ?_|refine he11 _ ?_|refine hf11 _ _ (by decide) ?_|refine hn10 _ ?_|refine he10 _ _ ?_|refine hn9 _ ?_|refine he9 _ _ ?_|refine he5 _ _ ?_|refine hn4 _ ?_|refine he4 _ ?_|refine hf4 _ _ (by decide) ?_|refine hn3 _ ?_|refine he3 _ _ ?_|refine hn2 _ ?_|refine he2 _ _ ?_)
 obtain rfl:k=b.length:=by omega
 rw[List.take_length] at hnd
 have he:qd N (zB es) b=0:=by simp only[qd,hr,hall,decide_eq_true hnd,cond_true]
 refine za fun KY hKY=>?_
 simp only[go_sem,kM]
 refine zk rfl (by simp only[go_sem]<;>rfl) ((yF g).mono ?_)
 rintro rr hh ⟨rfl,rfl⟩
 refine⟨?_,?_,?_,?_⟩
 iterate 3 (first|rfl|simp only[go_sem])
 simp only[go_sem]
 refine zk rfl (by simp only[go_sem]<;>rfl) ((zgD g b (by omega)).mono ?_)
 rintro rr hh ⟨⟨ps,hps,rfl⟩,rfl⟩
 refine⟨?_,?_,?_,?_⟩
 iterate 3 (first|rfl|simp only[go_sem])
 simp only[go_sem]
 apply hKY
 refine zi ?_
 repeat (first|refine hr17 _ ?_|refine hr12 _ ?_|refine hr11 _ ?_|refine hr10 _ ?_|refine hr9 _ ?_|refine hr5 _ ?_|refine hr4 _ ?_|refine hr3 _ ?_|refine hr2 _ ?_)
 simp only[go_sem]
 exact⟨_,0,.inr ⟨he,ps,.inl ⟨hr,N,es,rfl,rfl,g,hps⟩,rfl,rfl⟩,rfl⟩
theorem zev (n:Int)(es:List (Int×Int))(b:List Int)(hb:b.length≤1000000):zo Try.prog [] zjZ [.agg [.sc (.int .i64 n),.imm 2 (zY es)],.imm 1 (zl b)] [] fun r h'=>(∃x e,BP n es b x e∧r= .tup [.sc (.int .i64 x),.sc (.int .i64 e)])∧h'=[]:=by
 refine zo.trim ?_
 cases hr:zV n es with
 | false=>
   have he:qd n es b=3:=by simp[qd,hr]
   refine zg3 rfl ?_
   unfold zhB jr
   refine za fun KY hKY=>?_
   simp only[go_sem,UK]
   apply hKY
   refine zf fun X1 hn1 he1 hr1=>?_
   refine za fun KY hKY=>?_
   simp only[go_sem,UJ]
   refine zk rfl (by simp only[go_sem]<;>rfl) ((jT n es).mono ?_)
   rintro rr hh ⟨rfl,rfl⟩
   refine⟨rfl,rfl,rfl,?_⟩
   simp only[go_sem,hr]
   apply hKY
   refine Zw ?_
   refine za fun KY hKY=>?_
   simp only[go_sem,zbr]
   apply hKY
   refine zi ?_
   repeat (first|refine hr1 _ ?_)
   simp only[go_sem]
   exact⟨0,3,.inl ⟨by rw[he];decide,rfl,he.symm⟩,rfl⟩
 |true=>
 obtain⟨N,es,rfl,rfl,g⟩:=Qe hr
 have hN:=g.hn
 refine zg3 rfl ?_
 unfold zhB jr
 refine za fun KY hKY=>?_
 simp only[go_sem,UK]
 apply hKY
 refine zf fun X2 hn2 he2 hr2=>?_
 refine za fun KY hKY=>?_
 simp only[go_sem,UJ]
 refine zk rfl (by simp only[go_sem]<;>rfl) ((jT N (zB es)).mono ?_)
 rintro rr hh ⟨rfl,rfl⟩
 refine⟨rfl,rfl,rfl,?_⟩
 simp only[go_sem,hr]
 apply hKY
 refine Zr ?_
 refine zh ?_
 repeat (first|refine hn2 _ ?_|refine he2 _ _ ?_)
 refine zf fun X3 hn3 he3 hr3=>?_
 refine za fun KY hKY=>?_
 simp only[go_sem,zbq]
 apply hKY
 refine zp fun X4 hn4 he4 hf4 hr4=>?_
 try simp only[go_sem]
 refine zP (α:=Nat) [14,23] (fun k=>[(6,.sc (.int .i64 (k:Int)))]) (fun k=>[]) (fun k q=>k≤b.length∧q=b.length - k∧(∀j,j<k→0≤b.getD j 0∧b.getD j 0<N)) (0) (b.length) rfl (by first|(simp only[go_sem,zd,ze];done)|with_reducible rfl|rfl) (⟨by omega,rfl,fun j h=>by omega⟩) ?_
 rintro k q ⟨hk,rfl,hz⟩ X5 hn5 he5 hr5
 simp only[go_sem,zd,ze]
 refine zf fun X6 hn6 he6 hr6=>?_
 rcases Nat.lt_or_ge k b.length with hk2|hk2
 · have hdy:decide ((k:Int)<(b.length:Int))=true:=decide_eq_true (by omega)
   refine za fun KY hKY=>?_
   simp only[go_sem,UI,zj,hdy]
   apply hKY
   refine Zw ?_
   refine zh ?_
   repeat (first|refine hn6 _ ?_|refine he6 _ _ ?_|refine he5 _ _ ?_|refine hn4 _ ?_|refine he4 _ ?_|refine hf4 _ _ (by decide) ?_|refine hn3 _ ?_|refine he3 _ _ ?_|refine hn2 _ ?_|refine he2 _ _ ?_)
   refine zf fun X7 hn7 he7 hr7=>?_
   refine zp fun X8 hn8 he8 hf8 hr8=>?_
   by_cases hin:0≤b.getD k 0∧b.getD k 0<N
   · have hd:(decide (0≤b.getD k 0)&&decide (b.getD k 0<(N:Int)))=true:=by rw[decide_eq_true hin.1,decide_eq_true hin.2];rfl
     refine zw fun KY hKY=>?_
     simp only[go_sem,UH,zg hk2,hk2,zj]
     refine zk rfl (by simp only[go_sem]<;>rfl) ((xE N (b.getD k 0) (zB es)).mono ?_)
     rintro rr hh ⟨rfl,rfl⟩
     refine⟨rfl,rfl,rfl,?_⟩
     simp only[go_sem,hd]
     apply hKY
     refine Zr ?_
     refine zh ?_
     repeat (first|refine hn8 _ ?_|refine he8 _ ?_|refine hf8 _ _ (by decide) ?_|refine hn7 _ ?_|refine he7 _ _ ?_|refine hn6 _ ?_|refine he6 _ _ ?_|refine he5 _ _ ?_|refine hn4 _ ?_|refine he4 _ ?_|refine hf4 _ _ (by decide) ?_|refine hn3 _ ?_|refine he3 _ _ ?_|refine hn2 _ ?_|refine he2 _ _ ?_)
     refine zn fun KY hKY=>?_
     simp only[go_sem,zbo,zH (show k<4611686018427387904 by omega)]
     apply hKY
     repeat (first|refine hn8 _ ?_|refine he8 _ ?_|refine hf8 _ _ (by decide) ?_|refine hn7 _ ?_|refine he7 _ _ ?_|refine hn6 _ ?_|refine he6 _ _ ?_)
     refine hn5 _ (k+1) (b.length - (k+1)) (by omega) (by first|(simp only[go_sem,zd,ze];done)|with_reducible rfl|rfl) ?_
     refine⟨hk2,rfl,fun j hj=>?_⟩
     rcases Nat.lt_or_ge j k with h3|h3
     · exact hz j h3
     · obtain rfl:j=k:=by omega
       exact hin
   · have hd:(decide (0≤b.getD k 0)&&decide (b.getD k 0<(N:Int)))=false:=by
      rw[Bool.eq_false_iff];intro h;rw[Bool.and_eq_true,decide_eq_true_iff,decide_eq_true_iff] at h;exact hin h
     have he:qd N (zB es) b=4:=by simp only[qd,hr,inB hk2 hin,cond_true,cond_false]
     refine zw fun KY hKY=>?_
     simp only[go_sem,UH,zg hk2,hk2,zj]
     refine zk rfl (by simp only[go_sem]<;>rfl) ((xE N (b.getD k 0) (zB es)).mono ?_)
     rintro rr hh ⟨rfl,rfl⟩
     refine⟨rfl,rfl,rfl,?_⟩
     simp only[go_sem,hd]
     apply hKY
     refine Zw ?_
     refine za fun KY hKY=>?_
     simp only[go_sem,zbp]
     apply hKY
     refine zi ?_
     repeat (first|refine hr8 _ ?_|refine hr7 _ ?_|refine hr6 _ ?_|refine hr5 _ ?_|refine hr4 _ ?_|refine hr3 _ ?_|refine hr2 _ ?_)
     simp only[go_sem]
     exact⟨0,4,.inl ⟨by rw[he];decide,rfl,he.symm⟩,rfl⟩
 have hdx:decide ((k:Int)<(b.length:Int))=false:=decide_eq_false (by omega)
 refine za fun KY hKY=>?_
 simp only[go_sem,UI,zj,hdx]
 apply hKY
 refine Zr ?_
 refine zy ?_
 repeat (first|refine hn6 _ ?_|refine he6 _ _ ?_|refine he5 _ _ ?_|refine hn4 _ ?_|refine he4 _ ?_|refine hf4 _ _ (by decide) ?_|refine hn3 _ ?_|refine he3 _ _ ?_|refine hn2 _ ?_|refine he2 _ _ ?_)
 obtain rfl:k=b.length:=by omega
 have hall:=zdC (n:=(N:Int)) hz
 refine zf fun X9 hn9 he9 hr9=>?_
 refine za fun KY hKY=>?_
 simp only[go_sem,zbn]
 apply hKY
 refine zp fun X10 hn10 he10 hf10 hr10=>?_
 try simp only[go_sem]
 refine zP (α:=Nat) [27,37] (fun k=>[(7,.sc (.int .i64 (k:Int)))]) (fun k=>[]) (fun k q=>k≤b.length∧q=b.length - k∧(b.take k).Nodup) (0) (b.length) rfl (by first|(simp only[go_sem,zd,ze];done)|with_reducible rfl|rfl) (⟨by omega,rfl,List.nodup_nil⟩) ?_
 rintro k q ⟨hk',rfl,hnd⟩ X11 hn11 he11 hr11
 simp only[go_sem,zd,ze]
 refine zf fun X12 hn12 he12 hr12=>?_
 rcases Nat.lt_or_ge k b.length with hk2|hk2
 · have hdy:decide ((k:Int)<(b.length:Int))=true:=decide_eq_true (by omega)
   refine za fun KY hKY=>?_
   simp only[go_sem,UG,zj,hdy]
   apply hKY
   refine Zw ?_
   refine zh ?_
   repeat (first|refine hn12 _ ?_|refine he12 _ _ ?_|refine he11 _ _ ?_|refine hn10 _ ?_|refine he10 _ ?_|refine hf10 _ _ (by decide) ?_|refine hn9 _ ?_|refine he9 _ _ ?_|refine hn6 _ ?_|refine he6 _ _ ?_)
   refine zf fun X13 hn13 he13 hr13=>?_
   refine zp fun X14 hn14 he14 hf14 hr14=>?_
   have hcut:Zs (zl b) 1 0 k=zl (b.take k):=by simp[Zs,zl]
   have hlt:(b.take k).length≤1000000000:=by rw[List.length_take];omega
   by_cases hm:b.getD k 0∈b.take k
   · have hd:=decide_eq_true hm
     have he:qd N (zB es) b=6:=by simp only[qd,hr,hall,decide_eq_false (gx hk2 hm),cond_true,cond_false]
     refine zw fun KY hKY=>?_
     simp only[go_sem,xe,zg hk2,hk2,zj,hk',hcut]
     refine zk rfl (by simp only[go_sem]<;>rfl) ((zgJ (b.take k) (b.getD k 0) hlt).mono ?_)
     rintro rr hh ⟨rfl,rfl⟩
     refine⟨rfl,rfl,rfl,?_⟩
     simp only[go_sem,hd]
     apply hKY
     refine Zw ?_
     refine za fun KY hKY=>?_
     simp only[go_sem,kL]
     apply hKY
     refine zi ?_
     repeat (first|refine hr14 _ ?_|refine hr13 _ ?_|refine hr12 _ ?_|refine hr11 _ ?_|refine hr10 _ ?_|refine hr9 _ ?_|refine hr6 _ ?_|refine hr5 _ ?_|refine hr4 _ ?_|refine hr3 _ ?_|refine hr2 _ ?_)
     simp only[go_sem]
     exact⟨0,6,.inl ⟨by rw[he];decide,rfl,he.symm⟩,rfl⟩
   · have hd:=decide_eq_false hm
     refine zw fun KY hKY=>?_
     simp only[go_sem,xe,zg hk2,hk2,zj,hk',hcut]
     refine zk rfl (by simp only[go_sem]<;>rfl) ((zgJ (b.take k) (b.getD k 0) hlt).mono ?_)
     rintro rr hh ⟨rfl,rfl⟩
     refine⟨rfl,rfl,rfl,?_⟩
     simp only[go_sem,hd]
     apply hKY
     refine Zr ?_
     refine zh ?_
     repeat (first|refine hn14 _ ?_|refine he14 _ ?_|refine hf14 _ _ (by decide) ?_|refine hn13 _ ?_|refine he13 _ _ ?_|refine hn12 _ ?_|refine he12 _ _ ?_|refine he11 _ _ ?_|refine hn10 _ ?_|refine he10 _ ?_|refine hf10 _ _ (by decide) ?_|refine hn9 _ ?_|refine he9 _ _ ?_|refine hn6 _ ?_|refine he6 _ _ ?_)
     refine zn fun KY hKY=>?_
     simp only[go_sem,kK,zH (show k<4611686018427387904 by omega)]
     apply hKY
     repeat (first|refine hn14 _ ?_|refine he14 _ ?_|refine hf14 _ _ (by decide) ?_|refine hn13 _ ?_|refine he13 _ _ ?_|refine hn12 _ ?_|refine he12 _ _ ?_)
     refine hn11 _ (k+1) (b.length - (k+1)) (by omega) (by first|(simp only[go_sem,zd,ze];done)|with_reducible rfl|rfl) ?_
     exact⟨hk2,rfl,v8 hk2 hnd hm⟩
 have hdz:decide ((k:Int)<(b.length:Int))=false:=decide_eq_false (by omega)
 refine za fun KY hKY=>?_
 simp only[go_sem,UG,zj,hdz]
 apply hKY
 refine Zr ?_
 refine zy ?_
 repeat (first|refine hn12 _ ?_|refine he12 _ _ ?_|refine he11 _ _ ?_|refine hn10 _ ?_|refine he10 _ ?_|refine hf10 _ _ (by decide) ?_|refine hn9 _ ?_|refine he9 _ _ ?_|refine hn6 _ ?_|refine he6 _ _ ?_|refine he5 _ _ ?_|refine hn4 _ ?_|refine he4 _ ?_|refine hf4 _ _ (by decide) ?_|refine hn3 _ ?_|refine he3 _ _ ?_|refine hn2 _ ?_|refine he2 _ _ ?_)
 obtain rfl:k=b.length:=by omega
 rw[List.take_length] at hnd
 have he:qd N (zB es) b=0:=by simp only[qd,hr,hall,decide_eq_true hnd,cond_true]
 refine za fun KY hKY=>?_
 simp only[go_sem,kJ]
 refine zk rfl (by simp only[go_sem]<;>rfl) ((zfS N (zB es) b (by omega)).mono ?_)
 rintro rr hh ⟨⟨ps,hps,rfl⟩,rfl⟩
 refine⟨?_,?_,?_,?_⟩
 iterate 3 (first|rfl|simp only[go_sem])
 obtain⟨hpl,_⟩:=hps.len
 have h1:=xY ps ps.length hpl
 rw[List.take_length] at h1
 have hw:IntKind.i64.wrap ((Zf ps:Int) - (b.length:Int))=(Zf ps:Int) - b.length:=by rw[IntWalk.i64_in _ (by omega)]
 simp only[go_sem,zj,hw]
 apply hKY
 refine zi ?_
 repeat (first|refine hr12 _ ?_|refine hr11 _ ?_|refine hr10 _ ?_|refine hr9 _ ?_|refine hr6 _ ?_|refine hr5 _ ?_|refine hr4 _ ?_|refine hr3 _ ?_|refine hr2 _ ?_)
 simp only[go_sem]
 exact⟨_,0,.inr ⟨he,ps,hps,rfl,rfl⟩,rfl⟩
theorem WP {N:Nat}{es:Es}(g:GR N es){m:List Int}(h:m.length=N):Qi N (zB es) m=(List.range N).all fun v=>XQ es m v:=by
 unfold Qi XQ
 rw[jf g,decide_eq_true (show(m.length:Int)=(N:Int) by omega),h];rfl
theorem Vc (n:Int)(es:List (Int×Int))(m:List Int):zo Try.prog [] zdu [.agg [.sc (.int .i64 n),.imm 2 (zY es)],.imm 1 (zl m)] [] fun r h'=>r= .sc (.bool (Qi n es m))∧h'=[]:=by
 cases h:(zV n es&&decide ((m.length:Int)=n)) with
 | false=>
   have:Qi n es m=false:=by unfold Qi;rw[h];rfl
   rw[this];exact zeK n es m h
 | true=>
   rw[Bool.and_eq_true,decide_eq_true_iff] at h
   obtain⟨N,es',rfl,rfl,g⟩:=Qe h.1
   rw[WP g (show m.length=N by omega)]
   exact XN g m (by omega)
theorem YX (n:Int)(es:List (Int×Int))(m:List Int):zo Try.prog [] zdt [.agg [.sc (.int .i64 n),.imm 2 (zY es)],.imm 1 (zl m)] [] fun r h'=>r= .sc (.bool (Qi n es m))∧h'=[]:=by
 cases h:(zV n es&&decide ((m.length:Int)=n)) with
 | false=>
   have:Qi n es m=false:=by unfold Qi;rw[h];rfl
   rw[this];exact zcp n es m h
 | true=>
   rw[Bool.and_eq_true,decide_eq_true_iff] at h
   obtain⟨N,es',rfl,rfl,g⟩:=Qe h.1
   rw[WP g (show m.length=N by omega)]
   exact gl g m (by omega)
theorem Ve {n:Int}{es:List (Int×Int)}{m:List Int}(h:Qi n es m=true):zV n es=true∧(m.length:Int)=n:=by
 unfold Qi at h
 rw[Bool.and_eq_true,Bool.and_eq_true,decide_eq_true_iff] at h
 exact h.1
theorem BP.bound {n:Int}{es:List (Int×Int)}{b:List Int}{x:Int}(h:BP n es b x 0): - (b.length:Int)≤x∧x≤4096:=by
 rcases h with⟨h1,rfl,h2⟩|⟨_,ps,hp,rfl,_⟩
 · exact absurd h2.symm h1
 · have h1:=xY ps ps.length hp.len.1
   rw[List.take_length] at h1
   omega
def yq (n:Int)(es:List (Int×Int))(m:List Int)(x e:Int):Bool:=decide (e=0)&&(Qi n es m&&decide (2*((YV (YQ m) m.length).length:Int)=n - x))
theorem zdf {n:Int}{es:List (Int×Int)}{m:List Int}{x e:Int}(h:e≠0):yq n es m x e=false:=by unfold yq;rw[decide_eq_false h];rfl
theorem zfg (n:Int)(es:List (Int×Int))(m b:List Int)(hm:m.length≤1000000)(hb:b.length≤1000000):zo Try.prog [] zj1 [.agg [.sc (.int .i64 n),.imm 2 (zY es)],.imm 1 (zl m),.imm 1 (zl b)] [] fun r h'=>(∃x e,BP n es b x e∧r= .sc (.bool (yq n es m x e)))∧h'=[]:=by
 refine zo.trim ?_
 have hsz:=Yb (YQ m) m.length
 have hw2:IntKind.i64.wrap (2*((YV (YQ m) m.length).length:Int))=2*((YV (YQ m) m.length).length:Int):=by rw[IntWalk.i64_in _ (by omega)]
 refine zmw rfl ?_
 unfold zk4 Xc
 refine za fun KY hKY=>?_
 simp only[go_sem,zbv]
 apply hKY
 refine za fun KY hKY=>?_
 simp only[go_sem,zbu]
 refine zk rfl (by simp only[go_sem]<;>rfl) ((zbK n es b hb).mono ?_)
 rintro rr hh ⟨⟨x,e,hxe,rfl⟩,rfl⟩
 refine⟨?_,?_,?_,?_⟩
 iterate 3 (first|rfl|simp only[go_sem])
 simp only[go_sem]
 apply hKY
 by_cases he:e=0
 · subst he
   have hbx:=hxe.bound
   cases hmb:Qi n es m with
   | false=>
     refine zw fun KY hKY=>?_
     simp only[go_sem,Wq]
     refine zk rfl (by simp only[go_sem]<;>rfl) ((Vc n es m).mono ?_)
     rintro rr hh ⟨rfl,rfl⟩
     refine⟨rfl,rfl,rfl,?_⟩
     simp only[go_sem,hmb]
     apply hKY
     refine zi ?_
     simp only[go_sem]
     exact⟨x,0,hxe,by unfold yq;rw[hmb];simp⟩
   | true=>
     obtain⟨hr,hl⟩:=Ve hmb
     have hw:IntKind.i64.wrap (n - x)=n - x:=by rw[IntWalk.i64_in _ (by omega)]
     refine zw fun KY hKY=>?_
     simp only[go_sem,Wq]
     refine zk rfl (by simp only[go_sem]<;>rfl) ((Vc n es m).mono ?_)
     rintro rr hh ⟨rfl,rfl⟩
     refine⟨rfl,rfl,rfl,?_⟩
     simp only[go_sem,hmb,hw]
     refine zk rfl (by simp only[go_sem]<;>rfl) ((XL m (by omega)).mono ?_)
     rintro rr hh ⟨rfl,rfl⟩
     refine⟨rfl,rfl,rfl,?_⟩
     simp only[go_sem,hw2]
     apply hKY
     refine zi ?_
     simp only[go_sem]
     exact⟨x,0,hxe,by unfold yq;rw[hmb];simp⟩
 · have hd:=decide_eq_false he
   refine zw fun KY hKY=>?_
   simp only[go_sem,Wq,hd]
   apply hKY
   refine zi ?_
   simp only[go_sem]
   exact⟨x,e,hxe,by rw[zdf he]⟩
theorem vO (n:Int)(es:List (Int×Int))(m b:List Int)(hm:m.length≤1000000)(hb:b.length≤1000000):zo Try.prog [] zdv [.agg [.sc (.int .i64 n),.imm 2 (zY es)],.imm 1 (zl m),.imm 1 (zl b)] [] fun r h'=>(∃x e,BP n es b x e∧r= .sc (.bool (yq n es m x e)))∧h'=[]:=by
 refine zo.trim ?_
 have hsz:=Yb (YQ m) m.length
 have hw2:IntKind.i64.wrap (2*((YV (YQ m) m.length).length:Int))=2*((YV (YQ m) m.length).length:Int):=by rw[IntWalk.i64_in _ (by omega)]
 refine zmr rfl ?_
 unfold zkZ Xb
 refine za fun KY hKY=>?_
 simp only[go_sem,za4]
 apply hKY
 refine za fun KY hKY=>?_
 simp only[go_sem,za3]
 refine zk rfl (by simp only[go_sem]<;>rfl) ((zev n es b hb).mono ?_)
 rintro rr hh ⟨⟨x,e,hxe,rfl⟩,rfl⟩
 refine⟨?_,?_,?_,?_⟩
 iterate 3 (first|rfl|simp only[go_sem])
 simp only[go_sem]
 apply hKY
 cases hmb:Qi n es m with
 | false=>
   refine zw fun KY hKY=>?_
   simp only[go_sem,Wp]
   refine zk rfl (by simp only[go_sem]<;>rfl) ((YX n es m).mono ?_)
   rintro rr hh ⟨rfl,rfl⟩
   refine⟨rfl,rfl,rfl,?_⟩
   simp only[go_sem,hmb]
   apply hKY
   refine zi ?_
   simp only[go_sem]
   exact⟨x,e,hxe,by unfold yq;rw[hmb];simp⟩
 | true=>
   by_cases he:e=0
   · subst he
     have hbx:=hxe.bound
     obtain⟨hr,hl⟩:=Ve hmb
     have hw:IntKind.i64.wrap (n - x)=n - x:=by rw[IntWalk.i64_in _ (by omega)]
     refine zw fun KY hKY=>?_
     simp only[go_sem,Wp]
     refine zk rfl (by simp only[go_sem]<;>rfl) ((YX n es m).mono ?_)
     rintro rr hh ⟨rfl,rfl⟩
     refine⟨rfl,rfl,rfl,?_⟩
     simp only[go_sem,hmb,hw]
     refine zk rfl (by simp only[go_sem]<;>rfl) ((WE m (by omega)).mono ?_)
     rintro rr hh ⟨rfl,rfl⟩
     refine⟨rfl,rfl,rfl,?_⟩
     simp only[go_sem,hw2]
     apply hKY
     refine zi ?_
     simp only[go_sem]
     exact⟨x,0,hxe,by unfold yq;rw[hmb];simp⟩
   · have hd:=decide_eq_false he
     refine zw fun KY hKY=>?_
     simp only[go_sem,Wp]
     refine zk rfl (by simp only[go_sem]<;>rfl) ((YX n es m).mono ?_)
     rintro rr hh ⟨rfl,rfl⟩
     refine⟨rfl,rfl,rfl,?_⟩
     simp only[go_sem,hmb,hd]
     apply hKY
     refine zi ?_
     simp only[go_sem]
     exact⟨x,e,hxe,by rw[zdf he]⟩
end Go.Proofs.Ytmcfdfafeheihaa

namespace Go.Ga.Gl
open Go Go.Ga
theorem XG {α:Type}{f:α→Nat}:∀{l:List α},l.Nodup→(∀x∈l,∀y∈l,f x=f y→x=y)→(l.map f).Nodup
 |[],_,_=>by simp
 | a::l,hn,h=>by
   obtain⟨ha,hn⟩:=List.nodup_cons.1 hn
   rw[List.map_cons]
   refine List.nodup_cons.2 ⟨fun hm=>?_,XG hn fun x hx y hy=>h x (List.mem_cons_of_mem _ hx) y (List.mem_cons_of_mem _ hy)⟩
   obtain⟨b,hb,e⟩:=List.mem_map.1 hm
   have:=h b (List.mem_cons_of_mem _ hb) a (by simp) e
   exact ha (this▸hb)
def XZ (p:List Nat):Bool:=decide (p.length%2=1)
theorem Yh {p:List Nat}:XZ p=true↔p.length%2=1:=decide_eq_true_iff
theorem gv (ps:List (List Nat)):Zf ps=(ps.filter XZ).length:=by
 induction ps with
 |nil=>rfl
 | cons p ps ih=>
   have e:Zf (p::ps)=p.length%2+Zf ps:=by simp[Zf]
   rw[e,ih]
   by_cases h:p.length%2=1
   · rw[List.filter_cons,if_pos (Yh.2 h),List.length_cons];omega
   · rw[List.filter_cons,if_neg (fun h2=>h (Yh.1 h2))];omega
theorem Vl {p:List Nat}(h:p.Pairwise (· < ·)):p.Nodup:=h.imp fun h=>Nat.ne_of_lt h
theorem Zg.same {n:Nat}{es:Es}{O:Nat→Prop}{ps:List (List Nat)}(P:Zg n es O ps){p q:List Nat}(hp:p∈ps)(hq:q∈ps){v:Nat}(h1:v∈p)(h2:v∈q):p=q:=by
 have hd:=P.disj
 clear P
 induction ps with
 |nil=>simp at hp
 | cons a ps ih=>
   obtain⟨hd1,hd2⟩:=List.pairwise_cons.1 hd
   rcases List.mem_cons.1 hp with e1|hp'
   · rcases List.mem_cons.1 hq with e2|hq'
     · rw[e1,e2]
     · rw[e1] at h1
       exact absurd h2 (hd1 q hq' v h1)
   · rcases List.mem_cons.1 hq with e2|hq'
     · rw[e2] at h2
       exact absurd h1 (hd1 p hp' v h2)
     · exact ih hp' hq' hd2
theorem Zg.nodup {n:Nat}{es:Es}{O:Nat→Prop}{ps:List (List Nat)}(P:Zg n es O ps):ps.Nodup:=by
 have hd:=P.disj
 have hne:=P.ne
 clear P
 induction ps with
 |nil=>simp
 | cons a ps ih=>
   obtain⟨hd1,hd2⟩:=List.pairwise_cons.1 hd
   refine List.nodup_cons.2 ⟨fun h=>?_,ih hd2 fun p hp=>hne p (List.mem_cons_of_mem _ hp)⟩
   match a,hne a (by simp),hd1 a h with
   |[],h1,_=>exact h1 rfl
   |v::a,_,h2=>exact h2 v (by simp) (by simp)
def Cn (E:Nat→Nat→Prop)(D:Nat→Bool)(bs:Nat→Nat):Prop:=∀f:Nat→Nat,(∀x y,E x y→D x=true→D y=true→f x=f y)→∀v,D v=true→f v=f (bs v)
theorem zeX {mt:Nat→Int}{E:Nat→Nat→Prop}{D:Nat→Bool}{f:Nat→Nat}(hf:∀x y,E x y→D x=true→D y=true→f x=f y)(hm:∀v w:Nat,mt v=(w:Int)→E v w){v to:Nat}{ps:Yz}(h:qz mt E v ps to):(∀y∈zE ps to,D y=true)→f v=f to:=by
 induction h with
 |nil v=>intro _;rfl
 | @cons a c w to ps h1 h2 h3 ih=>
   intro hD
   have ha:=hD a (by simp[zE,ZC])
   have hc:=hD c (by simp[zE,ZC])
   have hw:D w=true:=by
    cases h3 with
    |nil=>exact hD _ (by simp[zE])
    |cons _ _ _=>exact hD _ (by simp[zE,ZC])
   have h5:=ih fun y hy=>hD y (by
    have:y∈jw ps++[to]:=hy
    simp only[zE,ZC,List.cons_append,List.mem_cons]
    exact .inr (.inr this))
   exact(hf a c (hm a c h1) ha hc).trans ((hf c w h2 hc hw).trans h5)
theorem J2.cn {n:Nat}{E:Nat→Nat→Prop}{mt:Nat→Int}{S:FS}(M:Mf n E mt)(I:J2 n E mt S):Cn E S.out S.bs:=fun f hf v hv=>by
 obtain⟨ps,p1,p2,p3,p4⟩:=I.wy v hv
 exact zeX hf (fun v w h=>(M.ne v w h).2) p2 fun y hy=>(p4 y hy).1
theorem YH {n:Nat}{es:Es}{mt:Nat→Int}{D A:Nat→Bool}{bs:Nat→Nat}(M:Mf n (Z7 es) mt)(C:y8 n (Z7 es) mt D A bs)(K:Cn (Z7 es) D bs){O:Nat→Prop}{ps:List (List Nat)}(P:Zg n es O ps)(hD:∀v,D v=true→¬O v)(hA:∀v,A v=true→O v){p:List Nat}(hp:p∈ps){v:Nat}(hv:v∈p)(hvD:D v=true):(∀w,w∈p↔D w=true∧bs w=bs v)∧p.length%2=1:=by
 have h1:∀w∈p,D w=true∧bs w=bs v:=by
  intro w hw
  let f:Nat→Nat:=fun u=>if D u=true∧bs u=bs v then 1 else 0
  have key:∀a b,Z7 es a b→¬O b→(D a=true∧bs a=bs v)→D b=true∧bs b=bs v:=fun a b hab hb h=>by
   rcases C.ed a b h.1 hab with h2|⟨h2,h3⟩
   · exact absurd (hA b h2) hb
   · exact⟨h2,h3.trans h.2⟩
  have hfl:KH es O f:=fun a b hab ha hb=>by
   by_cases h:D a=true∧bs a=bs v
   · have h2:=key a b hab hb h
     show(if D a=true∧bs a=bs v then 1 else 0)=if D b=true∧bs b=bs v then 1 else 0
     rw[if_pos h,if_pos h2]
   · have h2:¬(D b=true∧bs b=bs v):=fun e=>h (key b a (y7 hab) ha e)
     show(if D a=true∧bs a=bs v then 1 else 0)=if D b=true∧bs b=bs v then 1 else 0
     rw[if_neg h,if_neg h2]
  have:=P.conn p hp f hfl v hv w hw
  have e:(if D v=true∧bs v=bs v then 1 else 0)=if D w=true∧bs w=bs v then 1 else 0:=this
  rw[if_pos ⟨hvD,rfl⟩] at e
  by_cases h:D w=true∧bs w=bs v
  · exact h
  · rw[if_neg h] at e;omega
 have h2:∀w,D w=true→bs w=bs v→w∈p:=by
  intro w hw hb
  let f:Nat→Nat:=fun u=>if u∈p then 1 else 0
  have hf:∀x y,Z7 es x y→D x=true→D y=true→f x=f y:=fun x y hxy hx hy=>by
   have step:∀a b,Z7 es a b→D b=true→a∈p→b∈p:=fun a b hab hb ha=>P.edge p hp a ha b hab (C.dn b hb) (hD b hb)
   show(if x∈p then 1 else 0)=if y∈p then 1 else 0
   by_cases h:x∈p
   · rw[if_pos h,if_pos (step x y hxy hy h)]
   · rw[if_neg h,if_neg (fun e=>h (step y x (y7 hxy) hx e))]
  have e1:=K f hf v hvD
  have e2:=K f hf w hw
  rw[hb,←e1] at e2
  have e3:(if w∈p then 1 else 0)=if v∈p then 1 else 0:=e2
  rw[if_pos hv] at e3
  by_cases h:w∈p
  · exact h
  · rw[if_neg h] at e3;omega
 refine⟨fun w=>⟨h1 w,fun h=>h2 w h.1 h.2⟩,?_⟩
 have hbo:=C.odd M (C.db v hvD).1 (C.db v hvD).2
 have hnd:=Vl (P.inc p hp)
 have ha:=Zz (m:=(List.range n).filter fun x=>D x&&decide (bs x=bs v)) hnd fun w hw=>by
  obtain⟨k1,k2⟩:=h1 w hw
  exact zT.2 ⟨C.dn w k1,by simp[k1,k2]⟩
 have hb:=Zz (m:=p) (List.nodup_range.filter (l:=List.range n) fun x=>D x&&decide (bs x=bs v)) fun w hw=>by
  obtain⟨k1,k2⟩:=zT.1 hw
  simp only[Bool.and_eq_true,decide_eq_true_iff] at k2
  exact h2 w k2.1 k2.2
 have:p.length=num n fun x=>D x&&decide (bs x=bs v):=Nat.le_antisymm ha hb
 omega
theorem zcs {n:Nat}{es:Es}{mt:Nat→Int}{D A:Nat→Bool}{bs:Nat→Nat}(M:Mf n (Z7 es) mt)(C:y8 n (Z7 es) mt D A bs){O:Nat→Prop}{ps:List (List Nat)}(P:Zg n es O ps)(hO:∀v,O v→A v=true){p:List Nat}(hp:p∈ps)(hn:∀v∈p,D v=false):p.length%2=0:=
 QR (fun v=>(mt v).toNat) _ p (Nat.le_refl _) (Vl (P.inc p hp)) fun x hx=>by
  obtain⟨hxn,hxO⟩:=(P.mem x).1 ⟨p,hp,hx⟩
  rcases M.at_ x hxn with h|⟨w,h,hwn⟩
  · have:=(C.fr x hxn h).1
    rw[hn x hx] at this;cases this
  · have hs:=M.sy x w h
    have e1:(mt x).toNat=w:=by rw[h];rfl
    have e2:(mt w).toNat=x:=by rw[hs];rfl
    obtain⟨hwx,hE⟩:=M.ne x w h
    have hw:¬O w:=fun e=>by
     obtain⟨y,k1,k2,_⟩:=C.am w (hO w e)
     obtain rfl:y=x:=by omega
     rw[hn y hx] at k2;cases k2
    rw[e1,e2]
    exact⟨P.edge p hp x hx w hE hwn hw,hwx,rfl⟩
theorem zeF {n:Nat}{es:Es}{mt:Nat→Int}{D A:Nat→Bool}{bs:Nat→Nat}(M:Mf n (Z7 es) mt)(C:y8 n (Z7 es) mt D A bs)(K:Cn (Z7 es) D bs){O:Nat→Prop}{ps:List (List Nat)}(P:Zg n es O ps)(hD:∀v,D v=true→¬O v)(hA:∀v,A v=true→O v)(hE:∀p∈ps,(∀v∈p,D v=false)→p.length%2=0):Zf ps=num n A+we n mt:=by
 rw[C.strong M,gv]
 have hodd:∀p∈ps.filter XZ,∃v,v∈p∧D v=true:=fun p hp=>by
  obtain⟨h1,h2⟩:=List.mem_filter.1 hp
  refine Classical.byContradiction fun hno=>?_
  have:=hE p h1 fun v hv=>by
   cases hd:D v with
   |false=>rfl
   |true=>exact absurd ⟨v,hv,hd⟩ hno
  have:=Yh.1 h2
  omega
 have hhead:∀p∈ps.filter XZ,p.headD 0∈p∧D (p.headD 0)=true∧bs (p.headD 0)∈p:=fun p hp=>by
  obtain⟨v,hv,hvD⟩:=hodd p hp
  have hp:=(List.mem_filter.1 hp).1
  have hm:p.headD 0∈p:=by
   cases p with
   |nil=>simp at hv
   |cons a p=>simp
  obtain⟨k,_⟩:=YH M C K P hD hA hp hv hvD
  have h1:=((k _).1 hm)
  refine⟨hm,h1.1,?_⟩
  rw[h1.2]
  exact(k _).2 ⟨(C.db v hvD).1,(C.db v hvD).2⟩
 refine Nat.le_antisymm ?_ ?_
 · have hinj:((ps.filter XZ).map fun p=>bs (p.headD 0)).Nodup:=XG (P.nodup.filter _) fun p hp q hq e=>by
    obtain⟨_,_,k1⟩:=hhead p hp
    obtain⟨_,_,k2⟩:=hhead q hq
    rw[e] at k1
    exact P.same (List.mem_filter.1 hp).1 (List.mem_filter.1 hq).1 k1 k2
   have:=Zz (m:=(List.range n).filter (isB D bs)) hinj fun x hx=>by
    obtain⟨p,hp,rfl⟩:=List.mem_map.1 hx
    obtain⟨_,k2,_⟩:=hhead p hp
    obtain⟨j1,j2⟩:=C.db _ k2
    exact zT.2 ⟨C.dn _ j1,qQ.2 ⟨j1,j2⟩⟩
   rw[List.length_map] at this
   exact this
 · have:=Zz (l:=(List.range n).filter (isB D bs)) (m:=(ps.filter XZ).map fun p=>bs (p.headD 0)) (List.nodup_range.filter _) fun b hb=>by
    obtain⟨hbn,hb⟩:=zT.1 hb
    obtain⟨hb1,hb2⟩:=qQ.1 hb
    obtain⟨p,hp,hbp⟩:=(P.mem b).2 ⟨hbn,hD b hb1⟩
    obtain⟨k,hk⟩:=YH M C K P hD hA hp hbp hb1
    have hpo:p∈ps.filter XZ:=List.mem_filter.2 ⟨hp,Yh.2 hk⟩
    obtain⟨j1,j2,_⟩:=hhead p hpo
    exact List.mem_map.2 ⟨p,hpo,by rw[((k _).1 j1).2,hb2]⟩
   rw[List.length_map] at this
   exact this
end Go.Ga.Gl
namespace Go.Proofs.Ytmcfdfafeheihaa
open Go Go.Ga Go.Ga.Gl
theorem yp {N:Nat}{E:Nat→Nat→Prop}{m:List Int}(M:Mf N E (mf m))(hml:m.length=N):2*(YV (YQ m) m.length).length+we N (mf m)=N:=by
 have h1:=XD m
 have h2:((List.range m.length).filter (yB m)).length=num N (fun v=> !J1 (mf m) v):=by
  unfold num
  rw[hml]
  congr 1
  refine List.filter_congr fun v hv=>?_
  have hv:=List.mem_range.1 hv
  rcases M.at_ v hv with h|⟨w,h,hw⟩
  · rw[ZO.2 h]
    cases hp:yB m v with
    |false=>rfl
    | true=>
      obtain⟨w,k1,_⟩:=Kg.1 hp
      rw[qY (by omega),h] at k1;omega
  · have e:J1 (mf m) v=false:=decide_eq_false (by omega)
    rw[e]
    refine Kg.2 ⟨w,by rw[qY (by omega)];exact h,by omega,(M.ne v w h).1,by rw[qY (by omega)];exact M.sy v w h⟩
 have h3:=v6 N (J1 (mf m))
 have h4:(YV (YQ m) m.length).length=((List.range m.length).filter (YQ m)).length:=rfl
 unfold we
 omega
theorem zfe {l:List Nat}{v:Nat}:(v:Int)∈JW l↔v∈l:=by
 unfold JW
 rw[List.mem_map]
 constructor
 · rintro⟨a,h,e⟩
   obtain rfl:a=v:=by omega
   exact h
 · intro h
   exact⟨v,h,rfl⟩
theorem xU.gr {N:Nat}{es:Es}(g:GR N es){b:List Int}{ps:List (List Nat)}(h:xU N (zB es) b ps):Zg N es (fun v=>(v:Int)∈b) ps:=by
 rcases h with⟨_,N',es',e1,e2,_,h⟩|⟨h,_⟩
 · obtain rfl:N=N':=by omega
   obtain rfl:=WW e2
   exact h
 · rw[jf g] at h;cases h
theorem vT (N:Nat)(E:Nat→Nat→Prop)(k:Nat):(wr N E k).Nodup:=List.nodup_range.filter _
theorem zhI {N:Nat}{es:Es}(g:GR N es)(k:Nat):qd N (zB es) (JW (wr N (Z7 es) k))=0:=by
 unfold qd
 have h1:((JW (wr N (Z7 es) k)).all fun v=>decide (0≤v)&&decide (v<(N:Int)))=true:=by
  rw[List.all_eq_true]
  intro v hv
  obtain⟨u,hu,rfl⟩:=List.mem_map.1 hv
  have:=(Ke.1 hu).1
  rw[decide_eq_true (show(0:Int)≤(u:Int) by omega),decide_eq_true (show(u:Int)<(N:Int) by omega)];rfl
 have h2:(JW (wr N (Z7 es) k)).Nodup:=List.pairwise_map.2 ((vT N (Z7 es) k).imp fun h e=>h (by omega))
 rw[jf g,h1,decide_eq_true h2];rfl
theorem ziv {N:Nat}{es:Es}{mt:Nat→Int}{D A:Nat→Bool}{bs:Nat→Nat}(F:Fc N (Z7 es) mt D A bs)(K:Cn (Z7 es) D bs){ps:List (List Nat)}(P:Zg N es (fun v=>(v:Int)∈JW (wr N (Z7 es) 2)) ps):Zf ps=(wr N (Z7 es) 2).length+we N mt:=by
 have hO:∀v:Nat,(v:Int)∈JW (wr N (Z7 es) 2)↔A v=true:=fun v=>zfe.trans (zf8 F)
 have hlen:(wr N (Z7 es) 2).length=num N A:=Nat.le_antisymm (Zz (vT N _ 2) fun v hv=>zT.2 ⟨(Ke.1 hv).1,(zf8 F).1 hv⟩) (zlr fun v _ hv=>(zf8 F).2 hv)
 rw[hlen]
 refine zeF F.m F.c K P (fun v hv h=>?_) (fun v hv=>(hO v).2 hv) fun p hp hn=>zcs F.m F.c P (fun v hv=>(hO v).1 hv) hp hn
 have:=(F.c.an v ((hO v).1 h)).2
 rw[hv] at this;cases this
theorem vL {N:Nat}{es:Es}(g:GR N es){m:List Int}{D A:Nat→Bool}{bs:Nat→Nat}(hml:m.length=N)(F:Fc N (Z7 es) (mf m) D A bs)(K:Cn (Z7 es) D bs){x e:Int}(h:BP N (zB es) (JW (wr N (Z7 es) 2)) x e):yq N (zB es) m x e=true:=by
 rcases h with⟨h,_⟩|⟨_,ps,hps,rfl,rfl⟩
 · exact absurd (zhI g 2) h
 · have h1:=ziv F K (hps.gr g)
   have h2:=yp F.m hml
   have hl:(JW (wr N (Z7 es) 2)).length=(wr N (Z7 es) 2).length:=by simp[JW]
   unfold yq
   rw[WP g hml,zgz g F.m hml,hl,decide_eq_true (by omega:2*((YV (YQ m) m.length).length:Int)=(N:Int) - ((Zf ps:Int) - ((wr N (Z7 es) 2).length:Int)))]
   rfl
theorem zid :GR 4 [(0,1),(0,2),(0,3)] where
 hn:=by decide
 hm:=by decide
 ok:=by decide
 up:=by simp[ZX]
theorem K4 :Zg 4 [(0,1),(0,2),(0,3)] (fun v=>(v:Int)∈([0]:List Int)) [[1],[2],[3]] where
 mem:=fun v=>by simp;omega
 ne:=by simp
 inc:=by simp
 heads:=by simp
 disj:=by simp
 edge:=fun p hp a ha b h hb ho=>by
  simp only[Z7,List.mem_cons,List.not_mem_nil,or_false,Prod.mk.injEq] at h hp ho
  rcases hp with rfl|rfl|rfl<;>simp only[List.mem_cons,List.not_mem_nil,or_false] at ha<;>subst ha<;>simp at h<;>omega
 conn:=fun p hp f _ a ha b hb=>by
  simp only[List.mem_cons,List.not_mem_nil,or_false] at hp
  rcases hp with rfl|rfl|rfl<;>simp only[List.mem_cons,List.not_mem_nil,or_false] at ha hb<;>rw[ha,hb]
theorem zdd {x e:Int}(h:BP 4 [(0,1),(0,2),(0,3)] [0] x e):x=2∧e=0:=by
 have h0:BP 4 [(0,1),(0,2),(0,3)] [0] 2 0:= .inr ⟨by decide,[[1],[2],[3]],.inl ⟨by decide,4,[(0,1),(0,2),(0,3)],rfl,rfl,zid,K4⟩,rfl,rfl⟩
 exact h.unique h0
theorem Q4 :zo Try.prog [] zj3 [] [] fun r h'=>r= .sc (.bool true)∧h'=[]:=by
 refine zo.trim ?_
 refine zmy rfl ?_
 unfold zk6 wz
 refine za fun KY hKY=>?_
 simp only[go_sem,zbB]
 apply hKY
 refine za fun KY hKY=>?_
 simp only[go_sem,zbA]
 apply hKY
 refine ZB [0,1,1] (by simp only[go_sem];rfl) ?_
 simp only[go_sem]
 have hl:=zbK 4 [(0,1),(0,2),(0,3)] [0] (by decide)
 have hs:=zfg 4 [(0,1),(0,2),(0,3)] [1,0, -1, -1] [0] (by decide) (by decide)
 refine za fun KY hKY=>?_
 simp only[go_sem,zbz]
 refine zk rfl (by simp only[go_sem]<;>rfl) ((hl).mono ?_)
 rintro rr hh ⟨⟨x,e,hxe,rfl⟩,rfl⟩
 refine⟨?_,?_,?_,?_⟩
 iterate 3 (first|rfl|simp only[go_sem])
 obtain⟨rfl,rfl⟩:=zdd hxe
 simp only[go_sem]
 apply hKY
 refine za fun KY hKY=>?_
 simp only[go_sem,zby,(show zF [Value.int IntKind.i64 0] 4=[.sc (.int .i64 0),.sc (.int .i64 0),.sc (.int .i64 0),.sc (.int .i64 0)] from rfl)]
 refine zk rfl (by simp only[go_sem]<;>rfl) ((hs).mono ?_)
 rintro rr hh ⟨⟨x,e,hxe,rfl⟩,rfl⟩
 refine⟨?_,?_,?_,?_⟩
 iterate 3 (first|rfl|simp only[go_sem])
 obtain⟨rfl,rfl⟩:=zdd hxe
 simp only[go_sem]
 apply hKY
 refine zi ?_
 simp only[go_sem]
 exact congrArg (fun c=>zc.sc (.bool c)) (show yq 4 [(0,1),(0,2),(0,3)] [1,0, -1, -1] 2 0=true by decide)
def Nu (N:Nat)(es:Es)(k:Nat):Prop:=∃(m:List Int) (D A:Nat→Bool) (bs:Nat→Nat),m.length=N∧Fc N (Z7 es) (mf m) D A bs∧Cn (Z7 es) D bs∧2*k+we N (mf m)=N
theorem Q3 {N:Nat}{es:Es}(g:GR N es):zo Try.prog [] zj5 [.agg [.sc (.int .i64 (N:Int)),.imm 2 (zY (zB es))]] [] fun r h'=>(∃k:Nat,Nu N es k∧r= .tup [.sc (.int .i64 (k:Int)),.sc (.int .i64 0)])∧h'=[]:=by
 refine zo.trim ?_
 have hN:=g.hn
 refine zmz rfl ?_
 unfold zk7 Xd
 refine za fun KY hKY=>?_
 simp only[go_sem,zbI]
 apply hKY
 refine za fun KY hKY=>?_
 simp only[go_sem,zbH]
 apply zr [] [] false none rfl
 iterate 8 (first|(simp only[go_sem,zt]<;>rfl)|rfl)
 refine(QZ g).mono ?_
 rintro _ _ ⟨m,S,a,b,hml,M,I,L,⟨h0,rfl,rfl⟩|⟨h0,rfl,rfl⟩⟩
 · have hsz:=XL m (by omega)
   have hm0:zl m=[]:=by rw[List.length_eq_zero_iff.1 (hml.trans h0)];rfl
   rw[hm0] at hsz
   refine⟨Nat.le_of_ble_eq_true rfl,(fun hh=>by cases hh),?_⟩
   simp only[go_sem,zq,zb.after]
   apply hKY
   refine za fun KY hKY=>?_
   simp only[go_sem,UR]
   apply zr [] [] true none rfl
   iterate 8 (first|(simp only[go_sem,zt]<;>rfl)|rfl)
   refine(hsz).mono ?_
   rintro _ _ ⟨rfl,rfl⟩
   refine⟨Nat.le_of_ble_eq_true rfl,(fun _=>by simp only[go_sem,Jv,and_self]),?_⟩
   simp only[go_sem,zq,zb.after]
   apply hKY
   refine zi ?_
   simp only[go_sem]
   exact⟨_,⟨m,_,_,_,hml,Yl M I L,I.cn M,yp M hml⟩,rfl⟩
 · have hsz:=XL m (by omega)
   have htk:List.take N (zl m)=zl m:=List.take_of_length_le (by rw[zj];omega)
   refine⟨Nat.le_of_ble_eq_true rfl,(fun hh=>by cases hh),?_⟩
   simp only[go_sem,zq,zb.after]
   apply hKY
   refine za fun KY hKY=>?_
   simp only[go_sem,UR]
   refine zk rfl (by simp only[go_sem,hml,Nat.le_refl,htk]<;>rfl) ((hsz).mono ?_)
   rintro rr hh ⟨rfl,rfl⟩
   refine⟨?_,?_,?_,?_⟩
   iterate 3 (first|rfl|simp only[go_sem])
   simp only[go_sem]
   apply hKY
   refine zi ?_
   simp only[go_sem]
   exact⟨_,⟨m,_,_,_,hml,Yl M I L,I.cn M,yp M hml⟩,rfl⟩
theorem zhG {N:Nat}{es:Es}(g:GR N es):zo Try.prog [] zj0 [.agg [.sc (.int .i64 (N:Int)),.imm 2 (zY (zB es))]] [] fun r h'=>r= .tup [.own (some 1) (zJ (wr N (Z7 es) 2)),.sc (.int .i64 0)]∧h'=[]:=by
 refine zo.trim ?_
 have hN:=g.hn
 have hl:(qt N es).length≤100000:=by simp[qt];omega
 have h2:=zhF (qt N es) (2:Nat) hl
 rw[show zmT (qt N es) (2:Nat)=wr N (Z7 es) 2 from zeY N es 2] at h2
 refine zmv rfl ?_
 unfold zk3 YE
 refine za fun KY hKY=>?_
 simp only[go_sem,zbt]
 apply hKY
 refine za fun KY hKY=>?_
 simp only[go_sem,zbs]
 apply zr [] [] false none rfl
 iterate 8 (first|(simp only[go_sem,zt]<;>rfl)|rfl)
 refine(zcV g).mono ?_
 rintro _ _ ⟨m,hml,⟨D,A,bs,hF⟩,⟨h0,rfl,rfl⟩|⟨h0,rfl,rfl⟩⟩
 · refine⟨Nat.le_of_ble_eq_true rfl,(fun hh=>by cases hh),?_⟩
   simp only[go_sem,zq,zb.after]
   apply hKY
   refine zf fun X1 hn1 he1 hr1=>?_
   refine za fun KY hKY=>?_
   simp only[go_sem,UM]
   apply hKY
   refine Zr ?_
   refine zh ?_
   repeat (first|refine hn1 _ ?_|refine he1 _ _ ?_)
   refine ZB [0,4] (by simp only[go_sem];rfl) ?_
   simp only[go_sem]
   refine za fun KY hKY=>?_
   simp only[go_sem,UL]
   apply zr [] [] false none rfl
   iterate 8 (first|(simp only[go_sem,zt]<;>rfl)|rfl)
   refine(h2).mono ?_
   rintro _ _ ⟨rfl,rfl⟩
   refine⟨Nat.le_of_ble_eq_true rfl,(fun hh=>by cases hh),?_⟩
   simp only[go_sem,zq,zb.after]
   apply hKY
   refine zi ?_
   repeat (first|refine hr1 _ ?_)
   simp only[go_sem]
 · refine⟨Nat.le_of_ble_eq_true rfl,(fun hh=>by cases hh),?_⟩
   simp only[go_sem,zq,zb.after]
   apply hKY
   refine zf fun X2 hn2 he2 hr2=>?_
   refine za fun KY hKY=>?_
   simp only[go_sem,UM]
   apply hKY
   refine Zr ?_
   refine zh ?_
   repeat (first|refine hn2 _ ?_|refine he2 _ _ ?_)
   refine ZB [0,4] (by simp only[go_sem];rfl) ?_
   simp only[go_sem]
   refine za fun KY hKY=>?_
   simp only[go_sem,UL]
   apply zr [] [] false none rfl
   iterate 8 (first|(simp only[go_sem,zt]<;>rfl)|rfl)
   refine(h2).mono ?_
   rintro _ _ ⟨rfl,rfl⟩
   refine⟨Nat.le_of_ble_eq_true rfl,(fun hh=>by cases hh),?_⟩
   simp only[go_sem,zq,zb.after]
   apply hKY
   refine zi ?_
   repeat (first|refine hr2 _ ?_)
   simp only[go_sem]
theorem BP.lk {N:Nat}{es:Es}(g:GR N es){b:List Int}{x e:Int}(h:BP N (zB es) b x e)(h0:qd N (zB es) b=0):e=0∧∃ps,Zg N es (fun v=>(v:Int)∈b) ps∧x=(Zf ps:Int) - b.length:=by
 rcases h with⟨h1,_,_⟩|⟨_,ps,hp,hx,he⟩
 · exact absurd h0 h1
 · exact⟨he,ps,hp.gr g,hx⟩
theorem ziB (n step chords:Int):zo Try.prog [] zjX [.sc (.int .i64 n),.sc (.int .i64 step),.sc (.int .i64 chords)] [] fun r h'=>(∃N es,GR N es∧N≤302∧r= .agg [.sc (.int .i64 (N:Int)),.imm 2 (zY (zB es))])∧h'=[]:=by
 obtain⟨a,ha,hna⟩:=zdY n 300 (by omega) (by omega)
 have wa:IntKind.i64.wrap (3+(a:Int))=((3+a:Nat):Int):=by rw[IntWalk.i64_in _ (by omega)];omega
 have ua:IntKind.u64.wrap ((300:Nat):Int)=300:=by decide
 rw[ua] at hna
 obtain⟨N,hN⟩:∃N,N=3+a:=⟨_,rfl⟩
 rw[←hN] at wa
 have hN3:N≤302:=by omega
 obtain⟨b,hb,hnb⟩:=zdY step N (by omega) (by omega)
 have wb:IntKind.i64.wrap (2+(b:Int))=((2+b:Nat):Int):=by rw[IntWalk.i64_in _ (by omega)];omega
 obtain⟨c,hc,hnc⟩:=zdY chords 60 (by omega) (by omega)
 have uc:IntKind.u64.wrap ((60:Nat):Int)=60:=by decide
 rw[uc] at hnc
 have hNz:¬((N:Int)=0):=by omega
 have huN:¬IntKind.u64.wrap (N:Int)=0:=KR (by omega) (by omega)
 refine zmt rfl ?_
 unfold zk1 ZH
 refine za fun KY hKY=>?_
 simp only[go_sem,zbg]
 apply hKY
 refine za fun KY hKY=>?_
 simp only[go_sem,zbf,hna,wa]
 apply hKY
 refine za fun KY hKY=>?_
 simp only[go_sem,zbe,hnb,wb,huN]
 apply hKY
 refine za fun KY hKY=>?_
 simp only[go_sem,zbd]
 apply hKY
 refine za fun KY hKY=>?_
 simp only[go_sem,zbc]
 apply hKY
 refine jC [0,7] 2 (by simp only[go_sem]) ?_
 simp only[go_sem]
 refine jC [0,8,1] 2 (by simp only[go_sem]) ?_
 simp only[go_sem]
 refine ZB [0,8,1] (by simp only[go_sem];rfl) ?_
 simp only[go_sem]
 refine zf fun X1 hn1 he1 hr1=>?_
 refine za fun KY hKY=>?_
 simp only[go_sem,zbb]
 apply hKY
 refine zp fun X2 hn2 he2 hf2 hr2=>?_
 try simp only[go_sem]
 refine zP (α:=Nat×List (Int×Int)) [30] (fun(k,l)=>[(7,.own (some 2) (zY l)),(9,.sc (.int .i64 (k:Int)))]) (fun(k,l)=>[]) (fun(k,l) q=>k≤N∧l.length=k∧q=N - k) ((0,[])) (N) rfl (by first|(simp only[go_sem,zd,ze];done)|with_reducible rfl|rfl) (⟨Nat.zero_le _,rfl,rfl⟩) ?_
 rintro⟨k,l⟩ q ⟨hk,hl,rfl⟩ X3 hn3 he3 hr3
 simp only[go_sem,zd,ze]
 refine zf fun X4 hn4 he4 hr4=>?_
 rcases Nat.lt_or_ge k N with hk2|hk2
 · have hdx:decide ((k:Int)<(N:Int))=true:=decide_eq_true (by omega)
   refine za fun KY hKY=>?_
   simp only[go_sem,UF,hdx]
   apply hKY
   refine Zw ?_
   refine zh ?_
   repeat (first|refine hn4 _ ?_|refine he4 _ _ ?_|refine he3 _ _ ?_|refine hn2 _ ?_|refine he2 _ ?_|refine hf2 _ _ (by decide) ?_|refine hn1 _ ?_|refine he1 _ _ ?_)
   refine zf fun X5 hn5 he5 hr5=>?_
   refine zp fun X6 hn6 he6 hf6 hr6=>?_
   refine zn fun KY hKY=>?_
   simp only[go_sem,zba,hNz,Wx,ZI,(show(l.length*2+2)*16≤140737488355328 by omega)]
   apply hKY
   repeat (first|refine hn6 _ ?_|refine he6 _ ?_|refine hf6 _ _ (by decide) ?_|refine hn5 _ ?_|refine he5 _ _ ?_|refine hn4 _ ?_|refine he4 _ _ ?_|refine he3 _ _ ?_|refine hn2 _ ?_|refine he2 _ ?_|refine hf2 _ _ (by decide) ?_|refine hn1 _ ?_|refine he1 _ _ ?_)
   refine zn fun KY hKY=>?_
   simp only[go_sem,za9,zH (show k<4611686018427387904 by omega)]
   apply hKY
   repeat (first|refine hn6 _ ?_|refine he6 _ ?_|refine hf6 _ _ (by decide) ?_|refine hn5 _ ?_|refine he5 _ _ ?_|refine hn4 _ ?_|refine he4 _ _ ?_)
   refine hn3 _ ((k+1,l++[((k:Int),(((k+1:Nat):Int)).tmod (N:Int))])) (N - (k+1)) (by omega) (by first|(simp only[go_sem,zd,ze,zH (show k<4611686018427387904 by omega)];done)|with_reducible rfl|rfl) ?_
   exact⟨hk2,by simp[hl],rfl⟩
 have hdx:decide ((k:Int)<(N:Int))=false:=decide_eq_false (by omega)
 refine za fun KY hKY=>?_
 simp only[go_sem,UF,hdx]
 apply hKY
 refine Zr ?_
 refine zy ?_
 repeat (first|refine hn4 _ ?_|refine he4 _ _ ?_|refine he3 _ _ ?_|refine hn2 _ ?_|refine he2 _ ?_|refine hf2 _ _ (by decide) ?_|refine hn1 _ ?_|refine he1 _ _ ?_)
 have hl0:l.length≤302:=by omega
 clear hl hk hk2 hdx
 have e0:zc.imm 2 []= .imm 2 (zY (zB [])):=rfl
 rw[e0]
 refine zf fun X7 hn7 he7 hr7=>?_
 refine za fun KY hKY=>?_
 simp only[go_sem,za8]
 apply hKY
 refine zp fun X8 hn8 he8 hf8 hr8=>?_
 try simp only[go_sem]
 refine zP (α:=Nat×List (Int×Int)) [47] (fun(k,l)=>[(7,.own (some 2) (zY l)),(10,.sc (.int .i64 (k:Int)))]) (fun(k,l)=>[]) (fun(k,l) q=>k≤c∧l.length≤302+k∧q=c - k) ((0,l)) (c) rfl (by first|(simp only[go_sem,zd,ze];done)|with_reducible rfl|rfl) (⟨Nat.zero_le _,hl0,rfl⟩) ?_
 rintro⟨k,l⟩ q ⟨hk,hl,rfl⟩ X9 hn9 he9 hr9
 simp only[go_sem,zd,ze]
 refine zf fun X10 hn10 he10 hr10=>?_
 rcases Nat.lt_or_ge k c with hk2|hk2
 · have hdx:decide ((k:Int)<(c:Int))=true:=decide_eq_true (by omega)
   refine za fun KY hKY=>?_
   simp only[go_sem,xd,hnc,hdx]
   apply hKY
   refine Zw ?_
   refine zh ?_
   repeat (first|refine hn10 _ ?_|refine he10 _ _ ?_|refine he9 _ _ ?_|refine hn8 _ ?_|refine he8 _ ?_|refine hf8 _ _ (by decide) ?_|refine hn7 _ ?_|refine he7 _ _ ?_|refine hn4 _ ?_|refine he4 _ _ ?_)
   refine zf fun X11 hn11 he11 hr11=>?_
   refine zp fun X12 hn12 he12 hf12 hr12=>?_
   refine Jq fun KY hKY=>?_
   simp only[go_sem,kI,hNz,Wx,ZI,(show(l.length*2+2)*16≤140737488355328 by omega)]
   apply hKY
   repeat (first|refine hn12 _ ?_|refine he12 _ ?_|refine hf12 _ _ (by decide) ?_|refine hn11 _ ?_|refine he11 _ _ ?_|refine hn10 _ ?_|refine he10 _ _ ?_|refine he9 _ _ ?_|refine hn8 _ ?_|refine he8 _ ?_|refine hf8 _ _ (by decide) ?_|refine hn7 _ ?_|refine he7 _ _ ?_|refine hn4 _ ?_|refine he4 _ _ ?_)
   refine zn fun KY hKY=>?_
   simp only[go_sem,kH,zH (show k<4611686018427387904 by omega)]
   apply hKY
   repeat (first|refine hn12 _ ?_|refine he12 _ ?_|refine hf12 _ _ (by decide) ?_|refine hn11 _ ?_|refine he11 _ _ ?_|refine hn10 _ ?_|refine he10 _ _ ?_)
   refine hn9 _ ((k+1,l++[((IntKind.i64.wrap ((k:Int)*7)).tmod (N:Int),(IntKind.i64.wrap (IntKind.i64.wrap ((k:Int)*7)+((2+b:Nat):Int))).tmod (N:Int))])) (c - (k+1)) (by omega) (by first|(simp only[go_sem,zd,ze];done)|with_reducible rfl|rfl) ?_
   exact⟨hk2,by simp;omega,rfl⟩
 have hdx:decide ((k:Int)<(c:Int))=false:=decide_eq_false (by omega)
 refine za fun KY hKY=>?_
 simp only[go_sem,xd,hnc,hdx]
 apply hKY
 refine Zr ?_
 refine zy ?_
 repeat (first|refine hn10 _ ?_|refine he10 _ _ ?_|refine he9 _ _ ?_|refine hn8 _ ?_|refine he8 _ ?_|refine hf8 _ _ (by decide) ?_|refine hn7 _ ?_|refine he7 _ _ ?_|refine hn4 _ ?_|refine he4 _ _ ?_|refine he3 _ _ ?_|refine hn2 _ ?_|refine he2 _ ?_|refine hf2 _ _ (by decide) ?_|refine hn1 _ ?_|refine he1 _ _ ?_)
 have hl1:l.length≤400:=by omega
 clear hl hk hk2 hdx hl0
 refine zf fun X13 hn13 he13 hr13=>?_
 refine za fun KY hKY=>?_
 simp only[go_sem,kG]
 apply hKY
 refine zp fun X14 hn14 he14 hf14 hr14=>?_
 try simp only[go_sem]
 refine zP (α:=Nat×Es) [12,13,67,86] (fun(k,es)=>[(8,.own none [.sc (.int .i64 (N:Int)),.imm 2 (zY (zB es))]),(11,.sc (.int .i64 (k:Int)))]) (fun(k,es)=>[]) (fun(k,es) q=>k≤l.length∧GR N es∧q=l.length - k) ((0,[])) (l.length) rfl (by first|(simp only[go_sem,zd,ze];done)|with_reducible rfl|rfl) (⟨Nat.zero_le _,⟨by omega,by simp,by simp,.nil⟩,rfl⟩) ?_
 rintro⟨k,es⟩ q ⟨hk,g,rfl⟩ X15 hn15 he15 hr15
 simp only[go_sem,zd,ze]
 refine zf fun X16 hn16 he16 hr16=>?_
 rcases Nat.lt_or_ge k l.length with hk2|hk2
 · have hdx:decide ((k:Int)<(l.length:Int))=true:=decide_eq_true (by omega)
   have hx:l[k]?=some (l[k]):=List.getElem?_eq_getElem hk2
   generalize l[k]=xy at hx
   obtain⟨x,y⟩:=xy
   have hg0:=KT hx
   have hg1:=KS hx
   have hA:=Kc g x y
   refine za fun KY hKY=>?_
   simp only[go_sem,xc,ZI,XK,hdx]
   apply hKY
   refine Zw ?_
   refine zh ?_
   repeat (first|refine hn16 _ ?_|refine he16 _ _ ?_|refine he15 _ _ ?_|refine hn14 _ ?_|refine he14 _ ?_|refine hf14 _ _ (by decide) ?_|refine hn13 _ ?_|refine he13 _ _ ?_|refine hn10 _ ?_|refine he10 _ _ ?_)
   refine zf fun X17 hn17 he17 hr17=>?_
   refine zp fun X18 hn18 he18 hf18 hr18=>?_
   refine zw fun KY hKY=>?_
   simp only[go_sem,kF,hg0,hg1,ZI,XK,hk2,(show k*2+1<l.length*2 by omega),(show k*2<l.length*2 by omega),List.length_drop,(show 1<l.length*2 - k*2 by omega),List.getElem?_drop]
   refine⟨?_,?_⟩
   · apply zr [] [] false none rfl
     iterate 8 (first|(simp only[go_sem,zt]<;>rfl)|rfl)
     refine(hA).mono ?_
     rintro _ _ ⟨⟨u,w,ha,rfl⟩|⟨e,he,ha,rfl⟩,rfl⟩
     · refine⟨Nat.le_of_ble_eq_true rfl,(fun hh=>by cases hh),?_⟩
       simp only[go_sem,zq,zb.after]
       apply hKY
       have gk:=g.put ha.2.1 ha.2.2.1 ha.2.2.2.1 ha.2.2.2.2
       refine za fun KY hKY=>?_
       simp only[go_sem,Qy]
       apply hKY
       refine Zw ?_
       refine zn fun KY hKY=>?_
       simp only[go_sem,xb]
       apply hKY
       repeat (first|refine hn18 _ ?_|refine he18 _ ?_|refine hf18 _ _ (by decide) ?_|refine hn17 _ ?_|refine he17 _ _ ?_|refine hn16 _ ?_|refine he16 _ _ ?_|refine he15 _ _ ?_|refine hn14 _ ?_|refine he14 _ ?_|refine hf14 _ _ (by decide) ?_|refine hn13 _ ?_|refine he13 _ _ ?_|refine hn10 _ ?_|refine he10 _ _ ?_)
       refine zn fun KY hKY=>?_
       simp only[go_sem,Qx,zH (show k<4611686018427387904 by omega)]
       apply hKY
       repeat (first|refine hn18 _ ?_|refine he18 _ ?_|refine hf18 _ _ (by decide) ?_|refine hn17 _ ?_|refine he17 _ _ ?_|refine hn16 _ ?_|refine he16 _ _ ?_)
       refine hn15 _ ((k+1,Y0 es (u,w))) (l.length - (k+1)) (by omega) (by first|(simp only[go_sem,zd,ze];done)|with_reducible rfl|rfl) ?_
       exact⟨hk2,gk,rfl⟩
     · have hde:decide (e=0)=false:=decide_eq_false he
       refine⟨Nat.le_of_ble_eq_true rfl,(fun hh=>by cases hh),?_⟩
       simp only[go_sem,zq,zb.after]
       apply hKY
       refine za fun KY hKY=>?_
       simp only[go_sem,Qy,hde]
       apply hKY
       refine Zr ?_
       refine zh ?_
       repeat (first|refine hn18 _ ?_|refine he18 _ ?_|refine hf18 _ _ (by decide) ?_|refine hn17 _ ?_|refine he17 _ _ ?_|refine hn16 _ ?_|refine he16 _ _ ?_|refine he15 _ _ ?_|refine hn14 _ ?_|refine he14 _ ?_|refine hf14 _ _ (by decide) ?_|refine hn13 _ ?_|refine he13 _ _ ?_|refine hn10 _ ?_|refine he10 _ _ ?_)
       refine zn fun KY hKY=>?_
       simp only[go_sem,Qx,zH (show k<4611686018427387904 by omega)]
       apply hKY
       repeat (first|refine hn18 _ ?_|refine he18 _ ?_|refine hf18 _ _ (by decide) ?_|refine hn17 _ ?_|refine he17 _ _ ?_|refine hn16 _ ?_|refine he16 _ _ ?_)
       refine hn15 _ ((k+1,es)) (l.length - (k+1)) (by omega) (by first|(simp only[go_sem,zd,ze];done)|with_reducible rfl|rfl) ?_
       exact⟨hk2,g,rfl⟩
   · apply zr [] [] false none rfl
     iterate 8 (first|(simp only[go_sem,zt]<;>rfl)|rfl)
     refine(hA).mono ?_
     rintro _ _ ⟨⟨u,w,ha,rfl⟩|⟨e,he,ha,rfl⟩,rfl⟩
     · refine⟨Nat.le_of_ble_eq_true rfl,(fun hh=>by cases hh),?_⟩
       simp only[go_sem,zq,zb.after]
       apply hKY
       have gk:=g.put ha.2.1 ha.2.2.1 ha.2.2.2.1 ha.2.2.2.2
       refine za fun KY hKY=>?_
       simp only[go_sem,Qy]
       apply hKY
       refine Zw ?_
       refine zn fun KY hKY=>?_
       simp only[go_sem,xb]
       apply hKY
       repeat (first|refine hn18 _ ?_|refine he18 _ ?_|refine hf18 _ _ (by decide) ?_|refine hn17 _ ?_|refine he17 _ _ ?_|refine hn16 _ ?_|refine he16 _ _ ?_|refine he15 _ _ ?_|refine hn14 _ ?_|refine he14 _ ?_|refine hf14 _ _ (by decide) ?_|refine hn13 _ ?_|refine he13 _ _ ?_|refine hn10 _ ?_|refine he10 _ _ ?_)
       refine zn fun KY hKY=>?_
       simp only[go_sem,Qx,zH (show k<4611686018427387904 by omega)]
       apply hKY
       repeat (first|refine hn18 _ ?_|refine he18 _ ?_|refine hf18 _ _ (by decide) ?_|refine hn17 _ ?_|refine he17 _ _ ?_|refine hn16 _ ?_|refine he16 _ _ ?_)
       refine hn15 _ ((k+1,Y0 es (u,w))) (l.length - (k+1)) (by omega) (by first|(simp only[go_sem,zd,ze];done)|with_reducible rfl|rfl) ?_
       exact⟨hk2,gk,rfl⟩
     · have hde:decide (e=0)=false:=decide_eq_false he
       refine⟨Nat.le_of_ble_eq_true rfl,(fun hh=>by cases hh),?_⟩
       simp only[go_sem,zq,zb.after]
       apply hKY
       refine za fun KY hKY=>?_
       simp only[go_sem,Qy,hde]
       apply hKY
       refine Zr ?_
       refine zh ?_
       repeat (first|refine hn18 _ ?_|refine he18 _ ?_|refine hf18 _ _ (by decide) ?_|refine hn17 _ ?_|refine he17 _ _ ?_|refine hn16 _ ?_|refine he16 _ _ ?_|refine he15 _ _ ?_|refine hn14 _ ?_|refine he14 _ ?_|refine hf14 _ _ (by decide) ?_|refine hn13 _ ?_|refine he13 _ _ ?_|refine hn10 _ ?_|refine he10 _ _ ?_)
       refine zn fun KY hKY=>?_
       simp only[go_sem,Qx,zH (show k<4611686018427387904 by omega)]
       apply hKY
       repeat (first|refine hn18 _ ?_|refine he18 _ ?_|refine hf18 _ _ (by decide) ?_|refine hn17 _ ?_|refine he17 _ _ ?_|refine hn16 _ ?_|refine he16 _ _ ?_)
       refine hn15 _ ((k+1,es)) (l.length - (k+1)) (by omega) (by first|(simp only[go_sem,zd,ze];done)|with_reducible rfl|rfl) ?_
       exact⟨hk2,g,rfl⟩
 have hdx:decide ((k:Int)<(l.length:Int))=false:=decide_eq_false (by omega)
 refine za fun KY hKY=>?_
 simp only[go_sem,xc,ZI,XK,hdx]
 apply hKY
 refine Zr ?_
 refine zy ?_
 repeat (first|refine hn16 _ ?_|refine he16 _ _ ?_|refine he15 _ _ ?_|refine hn14 _ ?_|refine he14 _ ?_|refine hf14 _ _ (by decide) ?_|refine hn13 _ ?_|refine he13 _ _ ?_|refine hn10 _ ?_|refine he10 _ _ ?_|refine he9 _ _ ?_|refine hn8 _ ?_|refine he8 _ ?_|refine hf8 _ _ (by decide) ?_|refine hn7 _ ?_|refine he7 _ _ ?_|refine hn4 _ ?_|refine he4 _ _ ?_|refine he3 _ _ ?_|refine hn2 _ ?_|refine he2 _ ?_|refine hf2 _ _ (by decide) ?_|refine hn1 _ ?_|refine he1 _ _ ?_)
 refine za fun KY hKY=>?_
 simp only[go_sem,kE]
 apply hKY
 refine zi ?_
 repeat (first|refine hr16 _ ?_|refine hr15 _ ?_|refine hr14 _ ?_|refine hr13 _ ?_|refine hr10 _ ?_|refine hr9 _ ?_|refine hr8 _ ?_|refine hr7 _ ?_|refine hr4 _ ?_|refine hr3 _ ?_|refine hr2 _ ?_|refine hr1 _ ?_)
 simp only[go_sem]
 exact⟨N,es,g,hN3,rfl⟩
theorem zje {xs:List Nat}{k:Nat}{x:Nat}(h:xs[k]?=some x):(zJ xs)[k]?=some (.sc (.int .i64 (x:Int))):=by simp[zJ,h]
theorem gh (l:List Nat)(h:l.Pairwise (· < ·))(hb:l.length≤1000000000):zo Try.prog [] zjY [.imm 1 (zJ l)] [] fun r h'=>r= .sc (.bool true)∧h'=[]:=by
 refine zmu rfl ?_
 unfold zk2 qD
 refine za fun KY hKY=>?_
 simp only[go_sem,zbm]
 apply hKY
 refine zf fun X1 hn1 he1 hr1=>?_
 refine za fun KY hKY=>?_
 simp only[go_sem,zbl]
 apply hKY
 refine zp fun X2 hn2 he2 hf2 hr2=>?_
 try simp only[go_sem]
 refine zP (α:=Nat) [7,19] (fun k=>[(3,.sc (.int .i64 ((k+1:Nat):Int)))]) (fun k=>[]) (fun k q=>q=l.length - k) (0) (l.length) rfl (by first|(simp only[go_sem,zd,ze];done)|with_reducible rfl|rfl) (rfl) ?_
 rintro k q rfl X3 hn3 he3 hr3
 simp only[go_sem,zd,ze]
 refine zf fun X4 hn4 he4 hr4=>?_
 refine za fun KY hKY=>?_
 simp only[go_sem,zbk]
 apply hKY
 by_cases hk2:k+1<l.length
 · refine Zw ?_
   refine zh ?_
   repeat (first|refine hn4 _ ?_|refine he4 _ _ ?_|refine he3 _ _ ?_|refine hn2 _ ?_|refine he2 _ ?_|refine hf2 _ _ (by decide) ?_|refine hn1 _ ?_|refine he1 _ _ ?_)
   refine zf fun X5 hn5 he5 hr5=>?_
   refine zp fun X6 hn6 he6 hf6 hr6=>?_
   have hx:l[k+1]?=some l[k+1]:=List.getElem?_eq_getElem hk2
   have hk3:k<l.length:=by omega
   have hy:l[k]?=some l[k]:=List.getElem?_eq_getElem hk3
   have hlt:=List.pairwise_iff_getElem.1 h k (k+1) hk3 hk2 (by omega)
   have hnle:¬((l[k+1]:Nat):Int)≤((l[k]:Nat):Int):=by omega
   generalize l[k+1]=x at hx hnle
   generalize l[k]=y at hy hnle
   refine zw fun KY hKY=>?_
   simp only[go_sem,zbj,zje hx,zje hy,hk2,hk3,wU (show k<4611686018427387904 by omega),hnle]
   apply hKY
   refine Zr ?_
   refine zh ?_
   repeat (first|refine hn6 _ ?_|refine he6 _ ?_|refine hf6 _ _ (by decide) ?_|refine hn5 _ ?_|refine he5 _ _ ?_|refine hn4 _ ?_|refine he4 _ _ ?_|refine he3 _ _ ?_|refine hn2 _ ?_|refine he2 _ ?_|refine hf2 _ _ (by decide) ?_|refine hn1 _ ?_|refine he1 _ _ ?_)
   refine zn fun KY hKY=>?_
   simp only[go_sem,zbi,inc (k+1) (by omega)]
   apply hKY
   repeat (first|refine hn6 _ ?_|refine he6 _ ?_|refine hf6 _ _ (by decide) ?_|refine hn5 _ ?_|refine he5 _ _ ?_|refine hn4 _ ?_|refine he4 _ _ ?_)
   refine hn3 _ (k+1) (l.length - (k+1)) (by omega) (by first|(simp only[go_sem,zd,ze];done)|with_reducible rfl|rfl) ?_
   rfl
 · refine Zr ?_
   refine zy ?_
   repeat (first|refine hn4 _ ?_|refine he4 _ _ ?_|refine he3 _ _ ?_|refine hn2 _ ?_|refine he2 _ ?_|refine hf2 _ _ (by decide) ?_|refine hn1 _ ?_|refine he1 _ _ ?_)
   refine za fun KY hKY=>?_
   simp only[go_sem,zbh]
   apply hKY
   refine zi ?_
   repeat (first|refine hr4 _ ?_|refine hr3 _ ?_|refine hr2 _ ?_|refine hr1 _ ?_)
   simp only[go_sem]
theorem zhH (n step chords:Int)(Je:List Int)(he:Je.length≤1000000000):zo Try.prog [] zmX [.sc (.int .i64 n),.sc (.int .i64 step),.sc (.int .i64 chords),.imm 1 (zl Je)] [] fun r h'=>r= .sc (.bool true):=by
 refine zm3 rfl ?_
 unfold znb Yt
 refine za fun KY hKY=>?_
 simp only[go_sem,zdS]
 apply hKY
 refine za fun KY hKY=>?_
 simp only[go_sem,zdR]
 apply zr [] [] false none rfl
 iterate 8 (first|(simp only[go_sem,zt]<;>rfl)|rfl)
 refine(ziB n step chords).mono ?_
 rintro _ _ ⟨⟨N,es,g,hN,rfl⟩,rfl⟩
 refine⟨Nat.le_of_ble_eq_true rfl,(fun hh=>by cases hh),?_⟩
 simp only[go_sem,zq,zb.after]
 apply hKY
 refine zf fun X1 hn1 he1 hr1=>?_
 by_cases h2:2<(Je.length:Int)
 · have hd2:decide (2<(Je.length:Int))=true:=decide_eq_true h2
   clear g hN
   refine za fun KY hKY=>?_
   simp only[go_sem,KB,zj,hd2]
   apply hKY
   refine Zw ?_
   refine zn fun KY hKY=>?_
   simp only[go_sem,zdQ]
   apply zr [] [] false none rfl
   iterate 8 (first|(simp only[go_sem,zt]<;>rfl)|rfl)
   refine(zfG n Je 60 70 (by omega) (by omega) (by omega)).mono ?_
   rintro _ _ ⟨⟨N,es,g,hN,hm,rfl⟩,rfl⟩
   refine⟨Nat.le_of_ble_eq_true rfl,(fun hh=>by cases hh),?_⟩
   simp only[go_sem,zq,zb.after]
   apply hKY
   repeat (first|refine hn1 _ ?_|refine he1 _ _ ?_)
   refine za fun KY hKY=>?_
   simp only[go_sem,KA]
   apply zr [] [] false none rfl
   iterate 8 (first|(simp only[go_sem,zt]<;>rfl)|rfl)
   refine(zhG g).mono ?_
   rintro _ _ ⟨rfl,rfl⟩
   refine⟨Nat.le_of_ble_eq_true rfl,(fun hh=>by cases hh),?_⟩
   simp only[go_sem,zq,zb.after]
   apply hKY
   refine ZB [0,10] (by simp only[go_sem];rfl) ?_
   simp only[go_sem]
   refine za fun KY hKY=>?_
   simp only[go_sem,Kz]
   apply zr [] [] false none rfl
   iterate 8 (first|(simp only[go_sem,zt]<;>rfl)|rfl)
   refine(QZ g).mono ?_
   rintro _ _ ⟨m,S,a,b,hml,M,I,L,hcase⟩
   have F:=Yl M I L
   have K:=I.cn M
   have l2:=zdj N (Z7 es) 2
   have hN4:=g.hn
   have hl2:(JW (wr N (Z7 es) 2)).length=(wr N (Z7 es) 2).length:=by simp[JW]
   have hRi:=gh (wr N (Z7 es) 2) (List.pairwise_lt_range.filter _) (by omega)
   have hSh:zo Try.prog [] zdv [.agg [.sc (.int .i64 (N:Int)),.imm 2 (zY (zB es))],.imm 1 (zl m),.imm 1 (zJ (wr N (Z7 es) 2))] [] fun r h'=>r= .sc (.bool true)∧h'=[]:=by
    rw[Vb]
    refine(vO N (zB es) m (JW (wr N (Z7 es) 2)) (by omega) (by omega)).mono ?_
    rintro r h' ⟨⟨x,e,hBP,rfl⟩,rfl⟩
    exact⟨by rw[vL g hml F K hBP],rfl⟩
   have hSz:=WE m (by omega)
   have hs:=yp M hml
   obtain⟨s,hs'⟩:∃s,s=(YV (YQ m) m.length).length:=⟨_,rfl⟩
   rw[←hs'] at hs hSz
   rcases hcase with⟨h0,rfl,rfl⟩|⟨h0,rfl,rfl⟩
   · have hm0:m=[]:=List.length_eq_zero_iff.1 (hml.trans h0)
     have hi0:zl m=[]:=by rw[hm0];rfl
     rw[hi0] at hSh hSz
     refine⟨Nat.le_of_ble_eq_true rfl,(fun hh=>by cases hh),?_⟩
     simp only[go_sem,zq,zb.after]
     apply hKY
     refine ZB [0,12] (by simp only[go_sem];rfl) ?_
     simp only[go_sem]
     refine za fun KY hKY=>?_
     simp only[go_sem,w6]
     refine zk rfl (by simp only[go_sem]<;>rfl) ((Q3 g).mono ?_)
     rintro rr hh ⟨⟨k,⟨m2,D2,A2,bs2,hml2,F2,_,hk⟩,rfl⟩,rfl⟩
     refine⟨?_,?_,?_,?_⟩
     iterate 3 (first|rfl|simp only[go_sem])
     simp only[go_sem]
     apply hKY
     have f1:=F.lg.2 _ F2.m
     have f2:=F2.lg.2 _ F.m
     have d3:decide ((k:Int)=(s:Int))=true:=decide_eq_true (by omega)
     refine za fun KY hKY=>?_
     simp only[go_sem,w5]
     refine zk rfl (by simp only[go_sem]<;>rfl) ((Q4).mono ?_)
     rintro rr hh ⟨rfl,rfl⟩
     refine⟨rfl,rfl,rfl,?_⟩
     simp only[go_sem]
     refine zk rfl (by simp only[go_sem]<;>rfl) ((hRi).mono ?_)
     rintro rr hh ⟨rfl,rfl⟩
     refine⟨rfl,rfl,rfl,?_⟩
     simp only[go_sem]
     refine zk rfl (by simp only[go_sem]<;>rfl) ((hSh).mono ?_)
     rintro rr hh ⟨rfl,rfl⟩
     refine⟨?_,?_,?_,?_⟩
     iterate 3 (first|rfl|simp only[go_sem])
     simp only[go_sem]
     refine zk rfl (by simp only[go_sem]<;>rfl) ((hSz).mono ?_)
     rintro rr hh ⟨rfl,rfl⟩
     refine⟨?_,?_,?_,?_⟩
     iterate 3 (first|rfl|simp only[go_sem])
     simp only[go_sem,d3]
     apply hKY
     refine zi ?_
     repeat (first|refine hr1 _ ?_)
     simp only[go_sem]
   · have htk:List.take N (zl m)=zl m:=List.take_of_length_le (by rw[zj];omega)
     refine⟨Nat.le_of_ble_eq_true rfl,(fun hh=>by cases hh),?_⟩
     simp only[go_sem,zq,zb.after]
     apply hKY
     refine za fun KY hKY=>?_
     simp only[go_sem,w6]
     refine zk rfl (by simp only[go_sem]<;>rfl) ((Q3 g).mono ?_)
     rintro rr hh ⟨⟨k,⟨m2,D2,A2,bs2,hml2,F2,_,hk⟩,rfl⟩,rfl⟩
     refine⟨?_,?_,?_,?_⟩
     iterate 3 (first|rfl|simp only[go_sem])
     simp only[go_sem]
     apply hKY
     have f1:=F.lg.2 _ F2.m
     have f2:=F2.lg.2 _ F.m
     have d3:decide ((k:Int)=(s:Int))=true:=decide_eq_true (by omega)
     refine za fun KY hKY=>?_
     simp only[go_sem,w5]
     refine zk rfl (by simp only[go_sem]<;>rfl) ((Q4).mono ?_)
     rintro rr hh ⟨rfl,rfl⟩
     refine⟨rfl,rfl,rfl,?_⟩
     simp only[go_sem]
     refine zk rfl (by simp only[go_sem]<;>rfl) ((hRi).mono ?_)
     rintro rr hh ⟨rfl,rfl⟩
     refine⟨rfl,rfl,rfl,?_⟩
     simp only[go_sem]
     refine zk rfl (by simp only[go_sem,hml,Nat.le_refl,htk]<;>rfl) ((hSh).mono ?_)
     rintro rr hh ⟨rfl,rfl⟩
     refine⟨?_,?_,?_,?_⟩
     iterate 3 (first|rfl|simp only[go_sem])
     simp only[go_sem]
     refine zk rfl (by simp only[go_sem,hml,Nat.le_refl,htk]<;>rfl) ((hSz).mono ?_)
     rintro rr hh ⟨rfl,rfl⟩
     refine⟨?_,?_,?_,?_⟩
     iterate 3 (first|rfl|simp only[go_sem])
     simp only[go_sem,d3]
     apply hKY
     refine zi ?_
     repeat (first|refine hr1 _ ?_)
     simp only[go_sem]
 · have hd2:decide (2<(Je.length:Int))=false:=decide_eq_false h2
   refine za fun KY hKY=>?_
   simp only[go_sem,KB,zj,hd2]
   apply hKY
   refine Zr ?_
   refine zh ?_
   repeat (first|refine hn1 _ ?_|refine he1 _ _ ?_)
   refine za fun KY hKY=>?_
   simp only[go_sem,KA]
   apply zr [] [] false none rfl
   iterate 8 (first|(simp only[go_sem,zt]<;>rfl)|rfl)
   refine(zhG g).mono ?_
   rintro _ _ ⟨rfl,rfl⟩
   refine⟨Nat.le_of_ble_eq_true rfl,(fun hh=>by cases hh),?_⟩
   simp only[go_sem,zq,zb.after]
   apply hKY
   refine ZB [0,10] (by simp only[go_sem];rfl) ?_
   simp only[go_sem]
   refine za fun KY hKY=>?_
   simp only[go_sem,Kz]
   apply zr [] [] false none rfl
   iterate 8 (first|(simp only[go_sem,zt]<;>rfl)|rfl)
   refine(QZ g).mono ?_
   rintro _ _ ⟨m,S,a,b,hml,M,I,L,hcase⟩
   have F:=Yl M I L
   have K:=I.cn M
   have l2:=zdj N (Z7 es) 2
   have hN4:=g.hn
   have hl2:(JW (wr N (Z7 es) 2)).length=(wr N (Z7 es) 2).length:=by simp[JW]
   have hRi:=gh (wr N (Z7 es) 2) (List.pairwise_lt_range.filter _) (by omega)
   have hSh:zo Try.prog [] zdv [.agg [.sc (.int .i64 (N:Int)),.imm 2 (zY (zB es))],.imm 1 (zl m),.imm 1 (zJ (wr N (Z7 es) 2))] [] fun r h'=>r= .sc (.bool true)∧h'=[]:=by
    rw[Vb]
    refine(vO N (zB es) m (JW (wr N (Z7 es) 2)) (by omega) (by omega)).mono ?_
    rintro r h' ⟨⟨x,e,hBP,rfl⟩,rfl⟩
    exact⟨by rw[vL g hml F K hBP],rfl⟩
   have hSz:=WE m (by omega)
   have hs:=yp M hml
   obtain⟨s,hs'⟩:∃s,s=(YV (YQ m) m.length).length:=⟨_,rfl⟩
   rw[←hs'] at hs hSz
   rcases hcase with⟨h0,rfl,rfl⟩|⟨h0,rfl,rfl⟩
   · have hm0:m=[]:=List.length_eq_zero_iff.1 (hml.trans h0)
     have hi0:zl m=[]:=by rw[hm0];rfl
     rw[hi0] at hSh hSz
     refine⟨Nat.le_of_ble_eq_true rfl,(fun hh=>by cases hh),?_⟩
     simp only[go_sem,zq,zb.after]
     apply hKY
     refine ZB [0,12] (by simp only[go_sem];rfl) ?_
     simp only[go_sem]
     refine za fun KY hKY=>?_
     simp only[go_sem,w6]
     refine zk rfl (by simp only[go_sem]<;>rfl) ((Q3 g).mono ?_)
     rintro rr hh ⟨⟨k,⟨m2,D2,A2,bs2,hml2,F2,_,hk⟩,rfl⟩,rfl⟩
     refine⟨?_,?_,?_,?_⟩
     iterate 3 (first|rfl|simp only[go_sem])
     simp only[go_sem]
     apply hKY
     have f1:=F.lg.2 _ F2.m
     have f2:=F2.lg.2 _ F.m
     have d3:decide ((k:Int)=(s:Int))=true:=decide_eq_true (by omega)
     refine za fun KY hKY=>?_
     simp only[go_sem,w5]
     refine zk rfl (by simp only[go_sem]<;>rfl) ((Q4).mono ?_)
     rintro rr hh ⟨rfl,rfl⟩
     refine⟨rfl,rfl,rfl,?_⟩
     simp only[go_sem]
     refine zk rfl (by simp only[go_sem]<;>rfl) ((hRi).mono ?_)
     rintro rr hh ⟨rfl,rfl⟩
     refine⟨rfl,rfl,rfl,?_⟩
     simp only[go_sem]
     refine zk rfl (by simp only[go_sem]<;>rfl) ((hSh).mono ?_)
     rintro rr hh ⟨rfl,rfl⟩
     refine⟨?_,?_,?_,?_⟩
     iterate 3 (first|rfl|simp only[go_sem])
     simp only[go_sem]
     refine zk rfl (by simp only[go_sem]<;>rfl) ((hSz).mono ?_)
     rintro rr hh ⟨rfl,rfl⟩
     refine⟨?_,?_,?_,?_⟩
     iterate 3 (first|rfl|simp only[go_sem])
     simp only[go_sem,d3]
     apply hKY
     refine zi ?_
     repeat (first|refine hr1 _ ?_)
     simp only[go_sem]
   · have htk:List.take N (zl m)=zl m:=List.take_of_length_le (by rw[zj];omega)
     refine⟨Nat.le_of_ble_eq_true rfl,(fun hh=>by cases hh),?_⟩
     simp only[go_sem,zq,zb.after]
     apply hKY
     refine za fun KY hKY=>?_
     simp only[go_sem,w6]
     refine zk rfl (by simp only[go_sem]<;>rfl) ((Q3 g).mono ?_)
     rintro rr hh ⟨⟨k,⟨m2,D2,A2,bs2,hml2,F2,_,hk⟩,rfl⟩,rfl⟩
     refine⟨?_,?_,?_,?_⟩
     iterate 3 (first|rfl|simp only[go_sem])
     simp only[go_sem]
     apply hKY
     have f1:=F.lg.2 _ F2.m
     have f2:=F2.lg.2 _ F.m
     have d3:decide ((k:Int)=(s:Int))=true:=decide_eq_true (by omega)
     refine za fun KY hKY=>?_
     simp only[go_sem,w5]
     refine zk rfl (by simp only[go_sem]<;>rfl) ((Q4).mono ?_)
     rintro rr hh ⟨rfl,rfl⟩
     refine⟨rfl,rfl,rfl,?_⟩
     simp only[go_sem]
     refine zk rfl (by simp only[go_sem]<;>rfl) ((hRi).mono ?_)
     rintro rr hh ⟨rfl,rfl⟩
     refine⟨rfl,rfl,rfl,?_⟩
     simp only[go_sem]
     refine zk rfl (by simp only[go_sem,hml,Nat.le_refl,htk]<;>rfl) ((hSh).mono ?_)
     rintro rr hh ⟨rfl,rfl⟩
     refine⟨?_,?_,?_,?_⟩
     iterate 3 (first|rfl|simp only[go_sem])
     simp only[go_sem]
     refine zk rfl (by simp only[go_sem,hml,Nat.le_refl,htk]<;>rfl) ((hSz).mono ?_)
     rintro rr hh ⟨rfl,rfl⟩
     refine⟨?_,?_,?_,?_⟩
     iterate 3 (first|rfl|simp only[go_sem])
     simp only[go_sem,d3]
     apply hKY
     refine zi ?_
     repeat (first|refine hr1 _ ?_)
     simp only[go_sem]
theorem xQ (As:List zc)(b:Nat)(h:SAs Try.prog Try.f7.params.toList As b)(hb:b≤1048576):zo Try.prog [] 7 As [] fun r _=>r= .sc (.bool true):=by
 rw[Try.params7] at h
 obtain⟨A1,As1,c1,d1,rfl,rfl,h1,h⟩:=wE h
 obtain⟨A2,As2,c2,d2,rfl,rfl,h2,h⟩:=wE h
 obtain⟨A3,As3,c3,d3,rfl,rfl,h3,h⟩:=wE h
 obtain⟨A4,As4,c4,d4,rfl,rfl,h4,h⟩:=wE h
 obtain rfl:=zik h
 obtain⟨x1,rfl,w1⟩:=zce Try.underlying3 h1
 obtain⟨x2,rfl,w2⟩:=zce Try.underlying3 h2
 obtain⟨x3,rfl,w3⟩:=zce Try.underlying3 h3
 obtain⟨x4,rfl,w4,e4⟩:=zil Try.underlying22 Try.underlying3 (by kernel_rfl) h4
 exact(zhH x1 x2 x3 x4 (by omega)).mono fun _ _ h=>h
end Go.Proofs.Ytmcfdfafeheihaa
namespace Go.Proofs.Ytmcfdfafeheihaa.barrierLongend
open Go Go.Ga Go.ChangeShapes Go.WideShapes Go.ChangeAt Go.RowKit
theorem own :ownKnob Try.prog.godebug=none:=by kernel_rfl
mutual
theorem Xa {H:Type}:∀d:DataW H,Rows.uptoBulk d=Jp d
 | .lit l=>by cases l<;>simp[Rows.uptoBulk,Jp]
 | .nil=>by simp[Rows.uptoBulk,Jp]
 | .ptr d=>by simp[Rows.uptoBulk,Jp,Xa d]
 | .slice e s=>by simp[Rows.uptoBulk,Jp,bulk_eq e,bulk_eq s]
 | .agg p=>by simp[Rows.uptoBulk,Jp,bulk_eq p]
 | .iface _ d=>by simp[Rows.uptoBulk,Jp,Xa d]
 | .map e=>by simp[Rows.uptoBulk,Jp,bulk_es e]
 | .held _=>by simp[Rows.uptoBulk,Jp]
theorem bulk_eq {H:Type}:∀l:List (DataW H),Rows.uptoBulkAll l=bulkL l
 |[]=>by simp[Rows.uptoBulkAll,bulkL]
 |d::r=>by simp[Rows.uptoBulkAll,bulkL,Xa d,bulk_eq r]
theorem bulk_es {H:Type}:∀l:List (Lit×DataW H),Rows.uptoBulkEntries l=bulkE l
 |[]=>by simp[Rows.uptoBulkEntries,bulkE]
 |d::r=>by simp[Rows.uptoBulkEntries,bulkE,bulk_e d,bulk_es r]
theorem bulk_e {H:Type}:∀d:Lit×DataW H,Rows.uptoBulkEntry d=bulk1 d
 |(l,d)=>by cases l<;>simp[Rows.uptoBulkEntry,bulk1,Xa d]
end
set_option maxRecDepth 100000 in
theorem plain :Plain Try.prog [3,22]:=zga (by kernel_rfl)
set_option maxRecDepth 100000 in
theorem zhd (H:Type)(enc:TypeId×Value→H)(W:World)(base:Nat)(args:Array Value)(ds gs:List (DataW H))(before:List MemPlace)
    (hval:∀(j:Nat) t v,Try.f7.params[j]?=some t→args[j]?=some v→Value.okWide Try.prog W .any base t v)
    (hW:DataW.Whole enc Try.prog Try.f7.params.toList Rows.barrierLongSpec.vars false W args.toList ds gs before) (hk:Rows.uptoSmall H (ds++gs)=true):
    Calls Try.prog 7 args W fun e W'=>∃v,e= .returned v∧Rows.barrierLongSpec.post enc Try.prog Try.f7 false true false false W args v W':=by
  have hW':=hW
  obtain⟨p,q,hA,hV,rfl,hfz,hnd⟩:=hW
  obtain⟨rfl,rfl⟩:=Go.Ga.QG hV
  have hb:bulkL (ds++[])≤1048576:=by rw[←bulk_eq];exact of_decide_eq_true hk
  have r0:DataW.TrodAll enc Try.prog W 0 (fun _=>true) true Try.f7.params.toList args.toList ds p:=hA
  rw[Try.params7] at r0
  obtain⟨v0,vs0,d0,ds0,p0,q0,hv0,rfl,rfl,h0,r1⟩:=trodAll_cons r0
  obtain⟨v1,vs1,d1,ds1,p1,q1,hv1,rfl,rfl,h1,r2⟩:=trodAll_cons r1
  obtain⟨v2,vs2,d2,ds2,p2,q2,hv2,rfl,rfl,h2,r3⟩:=trodAll_cons r2
  obtain⟨v3,vs3,d3,ds3,p3,q3,hv3,rfl,rfl,h3,r4⟩:=trodAll_cons r3
  obtain⟨rfl,rfl,rfl⟩:=trodAll_nil r4
  exact vo plain hval (by rw[Try.params7];decide) hW' rfl rfl rfl rfl (tb:=4) (by kernel_rfl) Try.underlying4 hb xQ
set_option maxRecDepth 100000 in
theorem zlx (os:Os)(started:os.Started)(H:Type)(enc:TypeId×Value→H)(F:Stop.Interp):
    ReturnsInHanded {} Try.checked os 7 .any ((Rows.OpenSpec.upto Rows.barrierLongSpec).pre6 enc Try.prog Try.f7 Rows.barrierLongUptoRow.domain false) (((Rows.OpenSpec.upto Rows.barrierLongSpec).at F).post enc Try.prog Try.f7 false true false false):=by
  refine returnsInHanded_of_cond (C:=Try.checked) (s:=Rows.OpenSpec.upto Rows.barrierLongSpec) (k:=Rows.uptoSmall) rfl own started (by kernel_rfl) Try.func7
    (OpenSpec.witness (enc:=enc) (C:=Try.checked) (s:=Rows.OpenSpec.upto Rows.barrierLongSpec) (k:=Rows.uptoSmall) rfl false ⟨#[], #[.int .i64 0,.int .i64 0,.int .i64 0,.slice none 0 0],[]⟩ 8 (by kernel_rfl) (by kernel_rfl) (by kernel_rfl)
      (x:=([.lit (.int .i64 0),.lit (.int .i64 0),.lit (.int .i64 0),.nil],[],[])) (by kernel_rfl) rfl (by kernel_rfl)) ?_
  intro W base args ds gs before hval hW _ hk _
  exact zhd H enc W base args ds gs before hval hW hk
theorem holds :Rows.BarrierLongUptoSaid:=
 OpenClaim.holds_of_cond 7 Try.f7 rfl rfl rfl rfl rfl rfl rfl ⟨rfl,rfl,rfl,rfl,rfl⟩ rfl rfl rfl rfl rfl (by kernel_rfl) Try.func7 (by kernel_rfl)
  (of_decide_eq_true (by kernel_rfl)) (by unfold Func.isWrapper;first|(rw[if_pos (by decide+kernel)];kernel_rfl)|(rw[if_neg (by decide+kernel)];exact⟨rfl,rfl⟩))
  (fun os started H enc _ F=>zlx os started H enc F)
end Go.Proofs.Ytmcfdfafeheihaa.barrierLongend
