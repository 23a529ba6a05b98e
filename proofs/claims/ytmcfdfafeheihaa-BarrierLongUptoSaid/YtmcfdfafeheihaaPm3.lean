/- Of graphs that are long, or have many edges: the set that is told shows what an engine tells. -/
import Derived.Test.YtmcfdfafeheihaaPm1
import Derived.Shelf.Sort.Plain
import Derived.Test.YtmcfdfafeheihaaRows
import Derived.Test.YtmcfdfafeheihaaPm2
import Derived.Test.YtmcfdfafeheihaaGbmhkjf5
set_option linter.all false
set_option maxRecDepth 100000
set_option maxHeartbeats 4000000
namespace Go.Proofs.Ytmcfdfafeheihaa
open Go Go.Ga Go.Ga.Gl
theorem Wy (a b:Int):two (a,b)=[.sc (.int .i64 a),.sc (.int .i64 b)]:=rfl
def zhe (a b:Int×Int):Int:=if vp a.1 b.1≠0 then vp a.1 b.1 else vp a.2 b.2
theorem zi0 (a b:Int×Int):zhe a b<0↔(a.1<b.1∨a.1=b.1∧a.2<b.2):=by
 unfold zhe vp
 repeat' split
 all_goals omega
theorem gw (a b:Int×Int):zo Try.prog [] zjF [.agg [],.agg (two a),.agg (two b)] [] fun r h'=>r= .sc (.int .i64 (zhe a b))∧h'=[]:=by
 obtain⟨a1,a2⟩:=a
 obtain⟨b1,b2⟩:=b
 simp only[Wy]
 refine zl8 rfl ?_
 unfold zkG KO
 refine za fun KY hKY=>?_
 simp only[go_sem,Oh]
 apply hKY
 refine zw fun KY hKY=>?_
 simp only[go_sem,Og]
 refine zk rfl (by simp only[go_sem]<;>rfl) ((ux _ _).mono ?_)
 rintro rr hh ⟨rfl,rfl⟩
 refine⟨rfl,rfl,rfl,?_⟩
 simp only[go_sem]
 refine zk rfl (by simp only[go_sem]<;>rfl) ((ux _ _).mono ?_)
 rintro rr hh ⟨rfl,rfl⟩
 refine⟨rfl,rfl,rfl,?_⟩
 simp only[go_sem]
 refine zk rfl (by simp only[go_sem]<;>rfl) ((zmU [vp a1 b1,vp a2 b2] (Nat.le_of_ble_eq_true rfl)).mono ?_)
 rintro rr hh ⟨rfl,rfl⟩
 refine⟨rfl,rfl,rfl,?_⟩
 simp only[go_sem]
 apply hKY
 refine zi ?_
 simp only[go_sem]
 unfold zhe
 by_cases h:vp a1 b1=0
 · by_cases h2:vp a2 b2=0
   · simp[h,h2]
   · simp[h,h2]
 · simp[h]
theorem JS (n:Int)(es:List (Int×Int)):zo Try.prog [] zjT [.agg [.sc (.int .i64 n),.imm 2 (zY es)]] [] fun r h'=>r= .sc (.bool (zV n es))∧h'=[]:=by
 refine zmo rfl ?_
 unfold zkW JE
 refine za fun KY hKY=>?_
 simp only[go_sem,zaV]
 apply hKY
 refine zf fun X1 hn1 he1 hr1=>?_
 by_cases h:0≤n∧n≤4096∧es.length≤65536
 · obtain ⟨h0, h1,h2⟩:=h
   refine za fun KY hKY=>?_
   simp only[go_sem,yY,ZI,XK]
   repeat (simp(disch:=omega) only[if_pos,if_neg,decide_eq_true,decide_eq_false,zH,zx,zg,ZI,XK];try simp only[go_sem,ZI,XK])
   apply hKY
   refine Zr ?_
   refine zh ?_
   repeat (first|refine hn1 _ ?_|refine he1 _ _ ?_)
   refine za fun KY hKY=>?_
   simp only[go_sem,zaU]
   apply hKY
   refine zf fun X2 hn2 he2 hr2=>?_
   refine za fun KY hKY=>?_
   simp only[go_sem,zaT,ZI,XK]
   apply hKY
   refine zp fun X3 hn3 he3 hf3 hr3=>?_
   try simp only[go_sem]
   refine zP (α:=Nat) [4,5,26,62] (fun k=>[(25,.sc (.int .i64 (k:Int)))]) (fun k=>[]) (fun k q=>k≤es.length∧q=es.length - k∧∀j,j<k→J0 n es j=true) (0) (es.length) rfl (by first|(simp only[go_sem,zd,ze];done)|with_reducible rfl|rfl) (⟨by omega,rfl,fun j h=>by omega⟩) ?_
   rintro k q ⟨hk,rfl,hz⟩ X4 hn4 he4 hr4
   simp only[go_sem,zd,ze]
   refine za fun KY hKY=>?_
   simp only[go_sem,zaS]
   apply hKY
   refine zf fun X5 hn5 he5 hr5=>?_
   by_cases hk2:k<es.length
   · refine Zw ?_
     refine zh ?_
     repeat (first|refine hn5 _ ?_|refine he5 _ _ ?_|refine he4 _ _ ?_|refine hn3 _ ?_|refine he3 _ ?_|refine hf3 _ _ (by decide) ?_|refine hn2 _ ?_|refine he2 _ _ ?_|refine hn1 _ ?_|refine he1 _ _ ?_)
     refine zf fun X6 hn6 he6 hr6=>?_
     refine zp fun X7 hn7 he7 hf7 hr7=>?_
     have hx:es[k]?=some es[k]:=List.getElem?_eq_getElem hk2
     have hy:es.getD k (0,0)=es[k]:=by simp[List.getD_eq_getElem?_getD,hx]
     generalize es[k]=x at hx hy
     obtain⟨a,b⟩:=x
     refine za fun KY hKY=>?_
     simp only[go_sem,zaR,zU hx,List.length_drop]
     repeat (simp(disch:=omega) only[if_pos,if_neg,decide_eq_true,decide_eq_false,zH,zx,zg,zU hx,List.length_drop];try simp only[go_sem,zU hx,List.length_drop])
     apply hKY
     have hiff:J0 n es k=true↔0≤a∧a<b∧b<n∧(k=0∨((es.getD (k - 1) (0,0)).1<a∨(es.getD (k - 1) (0,0)).1=a∧(es.getD (k - 1) (0,0)).2<b)):=by
      simp only[J0,hy,Bool.and_eq_true,Bool.or_eq_true,decide_eq_true_eq,and_assoc]
     by_cases ha:a<0
     · have hf:J0 n es k=false:=by rw[Bool.eq_false_iff];intro h;have:=hiff.1 h;omega
       refine zw fun KY hKY=>?_
       simp only[go_sem,Qw,ha]
       repeat (simp(disch:=omega) only[if_pos,if_neg,decide_eq_true,decide_eq_false,zH,zx,zg,ha];try simp only[go_sem,ha])
       apply hKY
       refine Zw ?_
       refine za fun KY hKY=>?_
       simp only[go_sem,yX]
       apply hKY
       refine zi ?_
       repeat (first|refine hr7 _ ?_|refine hr6 _ ?_|refine hr5 _ ?_|refine hr4 _ ?_|refine hr3 _ ?_|refine hr2 _ ?_|refine hr1 _ ?_)
       simp only[go_sem]
       rw[Z4 hk2 hf]
     · by_cases hb:b≤a
       · have hf:J0 n es k=false:=by rw[Bool.eq_false_iff];intro h;have:=hiff.1 h;omega
         refine zw fun KY hKY=>?_
         simp only[go_sem,Qw,ha,hb]
         repeat (simp(disch:=omega) only[if_pos,if_neg,decide_eq_true,decide_eq_false,zH,zx,zg,ha,hb];try simp only[go_sem,ha,hb])
         apply hKY
         refine Zw ?_
         refine za fun KY hKY=>?_
         simp only[go_sem,yX]
         apply hKY
         refine zi ?_
         repeat (first|refine hr7 _ ?_|refine hr6 _ ?_|refine hr5 _ ?_|refine hr4 _ ?_|refine hr3 _ ?_|refine hr2 _ ?_|refine hr1 _ ?_)
         simp only[go_sem]
         rw[Z4 hk2 hf]
       · by_cases hc:n≤b
         · have hf:J0 n es k=false:=by rw[Bool.eq_false_iff];intro h;have:=hiff.1 h;omega
           refine zw fun KY hKY=>?_
           simp only[go_sem,Qw,ha,hb,hc]
           repeat (simp(disch:=omega) only[if_pos,if_neg,decide_eq_true,decide_eq_false,zH,zx,zg,ha,hb,hc];try simp only[go_sem,ha,hb,hc])
           apply hKY
           refine Zw ?_
           refine za fun KY hKY=>?_
           simp only[go_sem,yX]
           apply hKY
           refine zi ?_
           repeat (first|refine hr7 _ ?_|refine hr6 _ ?_|refine hr5 _ ?_|refine hr4 _ ?_|refine hr3 _ ?_|refine hr2 _ ?_|refine hr1 _ ?_)
           simp only[go_sem]
           rw[Z4 hk2 hf]
         · cases k with
           | zero=>
             have ht:J0 n es 0=true:=hiff.2 (by omega)
             refine zw fun KY hKY=>?_
             simp only[go_sem,Qw,ha,hb,hc,show((0:Nat):Int)=0 from rfl]
             repeat (simp(disch:=omega) only[if_pos,if_neg,decide_eq_true,decide_eq_false,zH,zx,zg,ha,hb,hc,show((0:Nat):Int)=0 from rfl];try simp only[go_sem,ha,hb,hc,show((0:Nat):Int)=0 from rfl])
             apply hKY
             refine Zr ?_
             refine zh ?_
             repeat (first|refine hn7 _ ?_|refine he7 _ ?_|refine hf7 _ _ (by decide) ?_|refine hn6 _ ?_|refine he6 _ _ ?_|refine hn5 _ ?_|refine he5 _ _ ?_|refine he4 _ _ ?_|refine hn3 _ ?_|refine he3 _ ?_|refine hf3 _ _ (by decide) ?_|refine hn2 _ ?_|refine he2 _ _ ?_|refine hn1 _ ?_|refine he1 _ _ ?_)
             refine zn fun KY hKY=>?_
             simp only[go_sem,UA]
             repeat (simp(disch:=omega) only[if_pos,if_neg,decide_eq_true,decide_eq_false,zH,zx,zg];try simp only[go_sem])
             apply hKY
             repeat (first|refine hn7 _ ?_|refine he7 _ ?_|refine hf7 _ _ (by decide) ?_|refine hn6 _ ?_|refine he6 _ _ ?_|refine hn5 _ ?_|refine he5 _ _ ?_)
             refine hn4 _ (0+1) (es.length - (0+1)) (by omega) (by first|(simp only[go_sem,zd,ze];done)|with_reducible rfl|rfl) ?_
             refine⟨hk2,rfl,fun j hj=>?_⟩
             rcases Nat.lt_or_ge j (0) with h3|h3
             · exact hz j h3
             · have:j=0:=by omega
               subst this;exact ht
           | succ m=>
             have hm:es[m]?=some (es[m]'(by omega)):=List.getElem?_eq_getElem _
             have hmy:es.getD (m+1 - 1) (0,0)=es[m]'(by omega):=by simp[List.getD_eq_getElem?_getD,hm]
             generalize es[m]'(by omega)=x at hm hmy
             obtain⟨c,d⟩:=x
             rw[hmy] at hiff
             have hm0:¬(((m+1:Nat):Int)≤0):=by omega
             refine zw fun KY hKY=>?_
             simp only[go_sem,Qw,ha,hb,hc,wU,zU hm,List.length_drop]
             repeat (simp(disch:=omega) only[if_pos,if_neg,decide_eq_true,decide_eq_false,zH,zx,zg,ha,hb,hc,wU,zU hm,List.length_drop];try simp only[go_sem,ha,hb,hc,wU,zU hm,List.length_drop])
             refine zk rfl (by simp only[go_sem]<;>rfl) ((gw (c,d) (a,b)).mono ?_)
             rintro rr hh ⟨rfl,rfl⟩
             refine⟨rfl,rfl,rfl,?_⟩
             have hlt:=zi0 (c,d) (a,b)
             simp only at hlt
             by_cases hq:0≤zhe (c,d) (a,b)
             · have hf:J0 n es (m+1)=false:=by rw[Bool.eq_false_iff];intro h;have:=(hiff.1 h).2.2.2;simp only at this;omega
               try simp only[go_sem,hq]
               repeat (simp(disch:=omega) only[if_pos,if_neg,decide_eq_true,decide_eq_false,zH,zx,zg,hq];try simp only[go_sem,hq])
               apply hKY
               refine Zw ?_
               refine za fun KY hKY=>?_
               simp only[go_sem,yX]
               apply hKY
               refine zi ?_
               repeat (first|refine hr7 _ ?_|refine hr6 _ ?_|refine hr5 _ ?_|refine hr4 _ ?_|refine hr3 _ ?_|refine hr2 _ ?_|refine hr1 _ ?_)
               simp only[go_sem]
               rw[Z4 hk2 hf]
             · have ht:J0 n es (m+1)=true:=hiff.2 (by simp only;omega)
               try simp only[go_sem,hq]
               repeat (simp(disch:=omega) only[if_pos,if_neg,decide_eq_true,decide_eq_false,zH,zx,zg,hq];try simp only[go_sem,hq])
               apply hKY
               refine Zr ?_
               refine zh ?_
               repeat (first|refine hn7 _ ?_|refine he7 _ ?_|refine hf7 _ _ (by decide) ?_|refine hn6 _ ?_|refine he6 _ _ ?_|refine hn5 _ ?_|refine he5 _ _ ?_|refine he4 _ _ ?_|refine hn3 _ ?_|refine he3 _ ?_|refine hf3 _ _ (by decide) ?_|refine hn2 _ ?_|refine he2 _ _ ?_|refine hn1 _ ?_|refine he1 _ _ ?_)
               refine zn fun KY hKY=>?_
               simp only[go_sem,UA]
               repeat (simp(disch:=omega) only[if_pos,if_neg,decide_eq_true,decide_eq_false,zH,zx,zg];try simp only[go_sem])
               apply hKY
               repeat (first|refine hn7 _ ?_|refine he7 _ ?_|refine hf7 _ _ (by decide) ?_|refine hn6 _ ?_|refine he6 _ _ ?_|refine hn5 _ ?_|refine he5 _ _ ?_)
               refine hn4 _ (m+1+1) (es.length - (m+1+1)) (by omega) (by first|(simp only[go_sem,zd,ze];done)|with_reducible rfl|rfl) ?_
               refine⟨hk2,rfl,fun j hj=>?_⟩
               rcases Nat.lt_or_ge j (m+1) with h3|h3
               · exact hz j h3
               · have:j=m+1:=by omega
                 subst this;exact ht
   · refine Zr ?_
     refine zy ?_
     repeat (first|refine hn5 _ ?_|refine he5 _ _ ?_|refine he4 _ _ ?_|refine hn3 _ ?_|refine he3 _ ?_|refine hf3 _ _ (by decide) ?_|refine hn2 _ ?_|refine he2 _ _ ?_|refine hn1 _ ?_|refine he1 _ _ ?_)
     refine za fun KY hKY=>?_
     simp only[go_sem,kB]
     apply hKY
     refine zi ?_
     repeat (first|refine hr5 _ ?_|refine hr4 _ ?_|refine hr3 _ ?_|refine hr2 _ ?_|refine hr1 _ ?_)
     simp only[go_sem]
     rw[yy h0 h1 h2 fun i hi=>hz i (by omega)]
 · by_cases h0:n<0
   · refine za fun KY hKY=>?_
     simp only[go_sem,yY,h0]
     repeat (simp(disch:=omega) only[if_pos,if_neg,decide_eq_true,decide_eq_false,zH,zx,zg,h0];try simp only[go_sem,h0])
     apply hKY
     refine Zw ?_
     refine za fun KY hKY=>?_
     simp only[go_sem,Wo]
     apply hKY
     refine zi ?_
     repeat (first|refine hr1 _ ?_)
     simp only[go_sem]
     rw[show zV n es=false by rw[Bool.eq_false_iff];intro h';simp only[zV,Bool.and_eq_true,decide_eq_true_eq] at h';omega]
   · by_cases h1:4096<n
     · refine za fun KY hKY=>?_
       simp only[go_sem,yY,h0,h1]
       repeat (simp(disch:=omega) only[if_pos,if_neg,decide_eq_true,decide_eq_false,zH,zx,zg,h0,h1];try simp only[go_sem,h0,h1])
       apply hKY
       refine Zw ?_
       refine za fun KY hKY=>?_
       simp only[go_sem,Wo]
       apply hKY
       refine zi ?_
       repeat (first|refine hr1 _ ?_)
       simp only[go_sem]
       rw[show zV n es=false by rw[Bool.eq_false_iff];intro h';simp only[zV,Bool.and_eq_true,decide_eq_true_eq] at h';omega]
     · refine za fun KY hKY=>?_
       simp only[go_sem,yY,h0,h1]
       repeat (simp(disch:=omega) only[if_pos,if_neg,decide_eq_true,decide_eq_false,zH,zx,zg,h0,h1];try simp only[go_sem,h0,h1])
       apply hKY
       refine Zw ?_
       refine za fun KY hKY=>?_
       simp only[go_sem,Wo]
       apply hKY
       refine zi ?_
       repeat (first|refine hr1 _ ?_)
       simp only[go_sem]
       rw[show zV n es=false by rw[Bool.eq_false_iff];intro h';simp only[zV,Bool.and_eq_true,decide_eq_true_eq] at h';omega]
def xl (a b:Int×Int):Bool:=decide (a.1<b.1∨a.1=b.1∧a.2<b.2)
theorem zbL (a b:Int×Int):zo Try.prog [] zjC [.agg (two a),.agg (two b)] [] fun r h'=>r= .sc (.bool (xl a b))∧h'=[]:=by
 obtain⟨a1,a2⟩:=a
 obtain⟨b1,b2⟩:=b
 simp only[Wy]
 unfold xl
 refine zl4 rfl ?_
 unfold zkC KN
 refine za fun KY hKY=>?_
 simp only[go_sem,oG]
 apply hKY
 by_cases h:a1<b1
 · refine za fun KY hKY=>?_
   simp only[go_sem,Wb,h]
   apply hKY
   refine zi ?_
   simp only[go_sem,h,true_or]
 · by_cases h2:a1=b1
   · subst h2
     refine za fun KY hKY=>?_
     simp only[go_sem,Wb,h,Int.lt_irrefl]
     apply hKY
     refine zi ?_
     simp only[go_sem,h,Int.lt_irrefl,false_or]
   · refine za fun KY hKY=>?_
     simp only[go_sem,Wb,h,h2]
     apply hKY
     refine zi ?_
     simp only[go_sem,h,h2,false_and,or_self]
theorem xE (n v:Int)(es:List (Int×Int)):zo Try.prog [] zjM [.agg [.sc (.int .i64 n),.imm 2 (zY es)],.sc (.int .i64 v)] [] fun r h'=>r= .sc (.bool (decide (0≤v)&&decide (v<n)))∧h'=[]:=by
 refine zmh rfl ?_
 unfold zkP KQ
 refine za fun KY hKY=>?_
 simp only[go_sem,zaa]
 apply hKY
 by_cases h:0≤v
 · refine za fun KY hKY=>?_
   simp only[go_sem,Uo,h]
   apply hKY
   refine zi ?_
   simp only[go_sem,h]
 · refine za fun KY hKY=>?_
   simp only[go_sem,Uo,h]
   apply hKY
   refine zi ?_
   simp only[go_sem,h]
def jJ (a b:Int):Int×Int:=if b<a then(b,a) else(a,b)
theorem vH (a b:Int):zo Try.prog [] zjH [.sc (.int .i64 a),.sc (.int .i64 b)] [] fun r h'=>r= .agg (two (jJ a b))∧h'=[]:=by
 unfold jJ
 refine zmb rfl ?_
 unfold zkJ xr
 refine za fun KY hKY=>?_
 simp only[go_sem,OA]
 apply hKY
 refine zf fun X1 hn1 he1 hr1=>?_
 refine za fun KY hKY=>?_
 simp only[go_sem,Oz]
 apply hKY
 by_cases h:b<a
 · refine ZM (by first|rfl|(simp only[go_sem,h];try simp(disch:=omega) only[decide_eq_true,decide_eq_false])) ?_
   refine za fun KY hKY=>?_
   simp only[go_sem,Oy]
   apply hKY
   refine zi ?_
   repeat (first|refine hr1 _ ?_)
   simp only[go_sem,h,Wy]
 · refine ZA (by first|rfl|(simp only[go_sem,h];try simp(disch:=omega) only[decide_eq_true,decide_eq_false])) ?_
   refine zh ?_
   repeat (first|refine hn1 _ ?_|refine he1 _ _ ?_)
   refine za fun KY hKY=>?_
   simp only[go_sem,Ox]
   apply hKY
   refine zi ?_
   repeat (first|refine hr1 _ ?_)
   simp only[go_sem,h,Wy]
theorem jT (n:Int)(es:List (Int×Int)):zo Try.prog [] zjN [.agg [.sc (.int .i64 n),.imm 2 (zY es)]] [] fun r h'=>r= .sc (.bool (zV n es))∧h'=[]:=by
 refine zmi rfl ?_
 unfold zkQ Jh
 refine za fun KY hKY=>?_
 simp only[go_sem,zaf]
 apply hKY
 refine zf fun X1 hn1 he1 hr1=>?_
 by_cases h:0≤n∧n≤4096∧es.length≤65536
 · obtain ⟨h0, h1,h2⟩:=h
   refine za fun KY hKY=>?_
   simp only[go_sem,yU]
   repeat (simp(disch:=omega) only[if_pos,if_neg,decide_eq_true,decide_eq_false,zH,zx,zg];try simp only[go_sem])
   apply hKY
   refine Zr ?_
   refine zh ?_
   repeat (first|refine hn1 _ ?_|refine he1 _ _ ?_)
   refine zf fun X2 hn2 he2 hr2=>?_
   refine za fun KY hKY=>?_
   simp only[go_sem,zae]
   apply hKY
   refine zp fun X3 hn3 he3 hf3 hr3=>?_
   try simp only[go_sem]
   refine zP (α:=Nat) [4,23,47,60] (fun k=>[(3,.sc (.int .i64 (k:Int)))]) (fun k=>[]) (fun k q=>k≤es.length∧q=es.length - k∧∀j,j<k→J0 n es j=true) (0) (es.length) rfl (by first|(simp only[go_sem,zd,ze];done)|with_reducible rfl|rfl) (⟨by omega,rfl,fun j h=>by omega⟩) ?_
   rintro k q ⟨hk,rfl,hz⟩ X4 hn4 he4 hr4
   simp only[go_sem,zd,ze]
   refine zf fun X5 hn5 he5 hr5=>?_
   refine za fun KY hKY=>?_
   simp only[go_sem,zad]
   apply hKY
   by_cases hk2:k<es.length
   · refine Zw ?_
     refine zh ?_
     repeat (first|refine hn5 _ ?_|refine he5 _ _ ?_|refine he4 _ _ ?_|refine hn3 _ ?_|refine he3 _ ?_|refine hf3 _ _ (by decide) ?_|refine hn2 _ ?_|refine he2 _ _ ?_|refine hn1 _ ?_|refine he1 _ _ ?_)
     refine zf fun X6 hn6 he6 hr6=>?_
     refine zp fun X7 hn7 he7 hf7 hr7=>?_
     have hx:es[k]?=some es[k]:=List.getElem?_eq_getElem hk2
     have hy:es.getD k (0,0)=es[k]:=by simp[List.getD_eq_getElem?_getD,hx]
     generalize es[k]=x at hx hy
     obtain⟨a,b⟩:=x
     refine za fun KY hKY=>?_
     simp only[go_sem,zac,zU hx,List.length_drop]
     repeat (simp(disch:=omega) only[if_pos,if_neg,decide_eq_true,decide_eq_false,zH,zx,zg,zU hx,List.length_drop];try simp only[go_sem,zU hx,List.length_drop])
     apply hKY
     have hiff:J0 n es k=true↔0≤a∧a<b∧b<n∧(k=0∨((es.getD (k - 1) (0,0)).1<a∨(es.getD (k - 1) (0,0)).1=a∧(es.getD (k - 1) (0,0)).2<b)):=by
      simp only[J0,hy,Bool.and_eq_true,Bool.or_eq_true,decide_eq_true_eq,and_assoc]
     refine zf fun X8 hn8 he8 hr8=>?_
     by_cases ha:a<0
     · have hf:J0 n es k=false:=by rw[Bool.eq_false_iff];intro h;have:=hiff.1 h;omega
       refine za fun KY hKY=>?_
       simp only[go_sem,yT,ha]
       repeat (simp(disch:=omega) only[if_pos,if_neg,decide_eq_true,decide_eq_false,zH,zx,zg,ha];try simp only[go_sem,ha])
       apply hKY
       refine Zw ?_
       refine za fun KY hKY=>?_
       simp only[go_sem,Wi]
       apply hKY
       refine zi ?_
       repeat (first|refine hr8 _ ?_|refine hr7 _ ?_|refine hr6 _ ?_|refine hr5 _ ?_|refine hr4 _ ?_|refine hr3 _ ?_|refine hr2 _ ?_|refine hr1 _ ?_)
       simp only[go_sem]
       rw[Z4 hk2 hf]
     · by_cases hb:b≤a
       · have hf:J0 n es k=false:=by rw[Bool.eq_false_iff];intro h;have:=hiff.1 h;omega
         refine za fun KY hKY=>?_
         simp only[go_sem,yT,ha,hb]
         repeat (simp(disch:=omega) only[if_pos,if_neg,decide_eq_true,decide_eq_false,zH,zx,zg,ha,hb];try simp only[go_sem,ha,hb])
         apply hKY
         refine Zw ?_
         refine za fun KY hKY=>?_
         simp only[go_sem,Wi]
         apply hKY
         refine zi ?_
         repeat (first|refine hr8 _ ?_|refine hr7 _ ?_|refine hr6 _ ?_|refine hr5 _ ?_|refine hr4 _ ?_|refine hr3 _ ?_|refine hr2 _ ?_|refine hr1 _ ?_)
         simp only[go_sem]
         rw[Z4 hk2 hf]
       · by_cases hc:n≤b
         · have hf:J0 n es k=false:=by rw[Bool.eq_false_iff];intro h;have:=hiff.1 h;omega
           refine za fun KY hKY=>?_
           simp only[go_sem,yT,ha,hb,hc]
           repeat (simp(disch:=omega) only[if_pos,if_neg,decide_eq_true,decide_eq_false,zH,zx,zg,ha,hb,hc];try simp only[go_sem,ha,hb,hc])
           apply hKY
           refine Zw ?_
           refine za fun KY hKY=>?_
           simp only[go_sem,Wi]
           apply hKY
           refine zi ?_
           repeat (first|refine hr8 _ ?_|refine hr7 _ ?_|refine hr6 _ ?_|refine hr5 _ ?_|refine hr4 _ ?_|refine hr3 _ ?_|refine hr2 _ ?_|refine hr1 _ ?_)
           simp only[go_sem]
           rw[Z4 hk2 hf]
         · refine za fun KY hKY=>?_
           simp only[go_sem,yT,ha,hb,hc]
           repeat (simp(disch:=omega) only[if_pos,if_neg,decide_eq_true,decide_eq_false,zH,zx,zg,ha,hb,hc];try simp only[go_sem,ha,hb,hc])
           apply hKY
           refine Zr ?_
           refine zh ?_
           repeat (first|refine hn8 _ ?_|refine he8 _ _ ?_|refine hn7 _ ?_|refine he7 _ ?_|refine hf7 _ _ (by decide) ?_|refine hn6 _ ?_|refine he6 _ _ ?_|refine hn5 _ ?_|refine he5 _ _ ?_|refine he4 _ _ ?_|refine hn3 _ ?_|refine he3 _ ?_|refine hf3 _ _ (by decide) ?_|refine hn2 _ ?_|refine he2 _ _ ?_|refine hn1 _ ?_|refine he1 _ _ ?_)
           cases k with
           | zero=>
             have ht:J0 n es 0=true:=hiff.2 (by omega)
             refine zw fun KY hKY=>?_
             simp only[go_sem,Up,show((0:Nat):Int)=0 from rfl]
             repeat (simp(disch:=omega) only[if_pos,if_neg,decide_eq_true,decide_eq_false,zH,zx,zg,show((0:Nat):Int)=0 from rfl];try simp only[go_sem,show((0:Nat):Int)=0 from rfl])
             apply hKY
             refine Zr ?_
             refine zh ?_
             repeat (first|refine hn8 _ ?_|refine he8 _ _ ?_|refine hn7 _ ?_|refine he7 _ ?_|refine hf7 _ _ (by decide) ?_|refine hn6 _ ?_|refine he6 _ _ ?_|refine hn5 _ ?_|refine he5 _ _ ?_|refine he4 _ _ ?_|refine hn3 _ ?_|refine he3 _ ?_|refine hf3 _ _ (by decide) ?_|refine hn2 _ ?_|refine he2 _ _ ?_|refine hn1 _ ?_|refine he1 _ _ ?_)
             refine zn fun KY hKY=>?_
             simp only[go_sem,W8]
             repeat (simp(disch:=omega) only[if_pos,if_neg,decide_eq_true,decide_eq_false,zH,zx,zg];try simp only[go_sem])
             apply hKY
             repeat (first|refine hn8 _ ?_|refine he8 _ _ ?_|refine hn7 _ ?_|refine he7 _ ?_|refine hf7 _ _ (by decide) ?_|refine hn6 _ ?_|refine he6 _ _ ?_|refine hn5 _ ?_|refine he5 _ _ ?_)
             refine hn4 _ (0+1) (es.length - (0+1)) (by omega) (by first|(simp only[go_sem,zd,ze];done)|with_reducible rfl|rfl) ?_
             refine⟨hk2,rfl,fun j hj=>?_⟩
             rcases Nat.lt_or_ge j (0) with h3|h3
             · exact hz j h3
             · have:j=0:=by omega
               subst this;exact ht
           | succ m=>
             have hm:es[m]?=some (es[m]'(by omega)):=List.getElem?_eq_getElem _
             have hmy:es.getD (m+1 - 1) (0,0)=es[m]'(by omega):=by simp[List.getD_eq_getElem?_getD,hm]
             generalize es[m]'(by omega)=x at hm hmy
             obtain⟨c,d⟩:=x
             rw[hmy] at hiff
             have hm0:((m+1:Nat):Int)>0:=by omega
             refine zw fun KY hKY=>?_
             simp only[go_sem,Up,wU,zU hm,List.length_drop,hm0]
             repeat (simp(disch:=omega) only[if_pos,if_neg,decide_eq_true,decide_eq_false,zH,zx,zg,wU,zU hm,List.length_drop,hm0];try simp only[go_sem,wU,zU hm,List.length_drop,hm0])
             refine zk rfl (by simp only[go_sem]<;>rfl) ((zbL (c,d) (a,b)).mono ?_)
             rintro rr hh ⟨rfl,rfl⟩
             refine⟨rfl,rfl,rfl,?_⟩
             cases hq:xl (c,d) (a,b) with
             | false=>
               have hq':=of_decide_eq_false hq
               have hf:J0 n es (m+1)=false:=by rw[Bool.eq_false_iff];intro h;have:=(hiff.1 h).2.2.2;simp only at this hq';omega
               try simp only[go_sem,hq]
               repeat (simp(disch:=omega) only[if_pos,if_neg,decide_eq_true,decide_eq_false,zH,zx,zg,hq];try simp only[go_sem,hq])
               apply hKY
               refine Zw ?_
               refine za fun KY hKY=>?_
               simp only[go_sem,zab]
               apply hKY
               refine zi ?_
               repeat (first|refine hr8 _ ?_|refine hr7 _ ?_|refine hr6 _ ?_|refine hr5 _ ?_|refine hr4 _ ?_|refine hr3 _ ?_|refine hr2 _ ?_|refine hr1 _ ?_)
               simp only[go_sem]
               rw[Z4 hk2 hf]
             | true=>
               have hq':=of_decide_eq_true hq
               have ht:J0 n es (m+1)=true:=hiff.2 (by simp only at hq' ⊢;omega)
               try simp only[go_sem,hq]
               repeat (simp(disch:=omega) only[if_pos,if_neg,decide_eq_true,decide_eq_false,zH,zx,zg,hq];try simp only[go_sem,hq])
               apply hKY
               refine Zr ?_
               refine zh ?_
               repeat (first|refine hn8 _ ?_|refine he8 _ _ ?_|refine hn7 _ ?_|refine he7 _ ?_|refine hf7 _ _ (by decide) ?_|refine hn6 _ ?_|refine he6 _ _ ?_|refine hn5 _ ?_|refine he5 _ _ ?_|refine he4 _ _ ?_|refine hn3 _ ?_|refine he3 _ ?_|refine hf3 _ _ (by decide) ?_|refine hn2 _ ?_|refine he2 _ _ ?_|refine hn1 _ ?_|refine he1 _ _ ?_)
               refine zn fun KY hKY=>?_
               simp only[go_sem,W8]
               repeat (simp(disch:=omega) only[if_pos,if_neg,decide_eq_true,decide_eq_false,zH,zx,zg];try simp only[go_sem])
               apply hKY
               repeat (first|refine hn8 _ ?_|refine he8 _ _ ?_|refine hn7 _ ?_|refine he7 _ ?_|refine hf7 _ _ (by decide) ?_|refine hn6 _ ?_|refine he6 _ _ ?_|refine hn5 _ ?_|refine he5 _ _ ?_)
               refine hn4 _ (m+1+1) (es.length - (m+1+1)) (by omega) (by first|(simp only[go_sem,zd,ze];done)|with_reducible rfl|rfl) ?_
               refine⟨hk2,rfl,fun j hj=>?_⟩
               rcases Nat.lt_or_ge j (m+1) with h3|h3
               · exact hz j h3
               · have:j=m+1:=by omega
                 subst this;exact ht
   · refine Zr ?_
     refine zy ?_
     repeat (first|refine hn5 _ ?_|refine he5 _ _ ?_|refine he4 _ _ ?_|refine hn3 _ ?_|refine he3 _ ?_|refine hf3 _ _ (by decide) ?_|refine hn2 _ ?_|refine he2 _ _ ?_|refine hn1 _ ?_|refine he1 _ _ ?_)
     refine za fun KY hKY=>?_
     simp only[go_sem,kq]
     apply hKY
     refine zi ?_
     repeat (first|refine hr5 _ ?_|refine hr4 _ ?_|refine hr3 _ ?_|refine hr2 _ ?_|refine hr1 _ ?_)
     simp only[go_sem]
     rw[yy h0 h1 h2 fun i hi=>hz i (by omega)]
 · by_cases h0:n<0
   · refine za fun KY hKY=>?_
     simp only[go_sem,yU,h0]
     repeat (simp(disch:=omega) only[if_pos,if_neg,decide_eq_true,decide_eq_false,zH,zx,zg,h0];try simp only[go_sem,h0])
     apply hKY
     refine Zw ?_
     refine za fun KY hKY=>?_
     simp only[go_sem,Wj]
     apply hKY
     refine zi ?_
     repeat (first|refine hr1 _ ?_)
     simp only[go_sem]
     rw[show zV n es=false by rw[Bool.eq_false_iff];intro h';simp only[zV,Bool.and_eq_true,decide_eq_true_eq] at h';omega]
   · by_cases h1:4096<n
     · refine za fun KY hKY=>?_
       simp only[go_sem,yU,h0,h1]
       repeat (simp(disch:=omega) only[if_pos,if_neg,decide_eq_true,decide_eq_false,zH,zx,zg,h0,h1];try simp only[go_sem,h0,h1])
       apply hKY
       refine Zw ?_
       refine za fun KY hKY=>?_
       simp only[go_sem,Wj]
       apply hKY
       refine zi ?_
       repeat (first|refine hr1 _ ?_)
       simp only[go_sem]
       rw[show zV n es=false by rw[Bool.eq_false_iff];intro h';simp only[zV,Bool.and_eq_true,decide_eq_true_eq] at h';omega]
     · refine za fun KY hKY=>?_
       simp only[go_sem,yU,h0,h1]
       repeat (simp(disch:=omega) only[if_pos,if_neg,decide_eq_true,decide_eq_false,zH,zx,zg,h0,h1];try simp only[go_sem,h0,h1])
       apply hKY
       refine Zw ?_
       refine za fun KY hKY=>?_
       simp only[go_sem,Wj]
       apply hKY
       refine zi ?_
       repeat (first|refine hr1 _ ?_)
       simp only[go_sem]
       rw[show zV n es=false by rw[Bool.eq_false_iff];intro h';simp only[zV,Bool.and_eq_true,decide_eq_true_eq] at h';omega]
theorem zes (n:Int)(es:List (Int×Int))(a b:Int):zo Try.prog [] zjy [.agg [.sc (.int .i64 n),.imm 2 (zY es)],.sc (.int .i64 a),.sc (.int .i64 b)] [] fun r h'=>(∃k:Int,r= .sc (.int .i64 k)∧(0≤k↔zV n es=true∧jJ a b∈es))∧h'=[]:=by
 refine zlY rfl ?_
 unfold zkw JO
 refine za fun KY hKY=>?_
 simp only[go_sem,PJ]
 apply hKY
 refine zf fun X1 hn1 he1 hr1=>?_
 refine za fun KY hKY=>?_
 simp only[go_sem,PI]
 refine zk rfl (by simp only[go_sem]<;>rfl) ((jT _ _).mono ?_)
 rintro rr hh ⟨rfl,rfl⟩
 refine⟨rfl,rfl,rfl,?_⟩
 simp only[go_sem]
 apply hKY
 cases hR:zV n es with
 | false=>
   refine Zw ?_
   refine za fun KY hKY=>?_
   simp only[go_sem,PH]
   apply hKY
   refine zi ?_
   repeat (first|refine hr1 _ ?_)
   simp only[go_sem]
   exact⟨-1,rfl,by simp[hR]⟩
 | true=>
   have hlen:es.length≤65536:=by simp only[zV,Bool.and_eq_true,decide_eq_true_eq] at hR;omega
   refine Zr ?_
   refine zh ?_
   repeat (first|refine hn1 _ ?_|refine he1 _ _ ?_)
   refine za fun KY hKY=>?_
   simp only[go_sem,PG]
   refine zk rfl (by simp only[go_sem]<;>rfl) ((vH _ _).mono ?_)
   rintro rr hh ⟨rfl,rfl⟩
   refine⟨rfl,rfl,rfl,?_⟩
   generalize hT:jJ a b=e
   obtain⟨c,d⟩:=e
   simp only[Wy]
   simp only[go_sem]
   apply hKY
   refine zf fun X2 hn2 he2 hr2=>?_
   refine za fun KY hKY=>?_
   simp only[go_sem,PF]
   apply hKY
   refine zp fun X3 hn3 he3 hf3 hr3=>?_
   try simp only[go_sem]
   refine zP (α:=Nat) [19,28] (fun k=>[(8,.sc (.int .i64 (k:Int)))]) (fun k=>[]) (fun k q=>k≤es.length∧q=es.length - k∧∀j,j<k→es.getD j (0,0)≠(c,d)) (0) (es.length) rfl (by first|(simp only[go_sem,zd,ze];done)|with_reducible rfl|rfl) (⟨by omega,rfl,fun j h=>by omega⟩) ?_
   rintro k q ⟨hk,rfl,hz⟩ X4 hn4 he4 hr4
   simp only[go_sem,zd,ze]
   refine zf fun X5 hn5 he5 hr5=>?_
   refine za fun KY hKY=>?_
   simp only[go_sem,PE]
   apply hKY
   by_cases hk2:k<es.length
   · refine Zw ?_
     refine zh ?_
     repeat (first|refine hn5 _ ?_|refine he5 _ _ ?_|refine he4 _ _ ?_|refine hn3 _ ?_|refine he3 _ ?_|refine hf3 _ _ (by decide) ?_|refine hn2 _ ?_|refine he2 _ _ ?_|refine hn1 _ ?_|refine he1 _ _ ?_)
     refine zf fun X6 hn6 he6 hr6=>?_
     refine zp fun X7 hn7 he7 hf7 hr7=>?_
     have hx:es[k]?=some es[k]:=List.getElem?_eq_getElem hk2
     have hy:es.getD k (0,0)=es[k]:=by simp[List.getD_eq_getElem?_getD,hx]
     generalize es[k]=x at hx hy
     obtain⟨u,v⟩:=x
     refine zw fun KY hKY=>?_
     simp only[go_sem,PD,zU hx,List.length_drop]
     repeat (simp(disch:=omega) only[if_pos,if_neg,decide_eq_true,decide_eq_false,zH,zx,zg,zU hx,List.length_drop];try simp only[go_sem,zU hx,List.length_drop])
     apply hKY
     by_cases h2:(u,v)=(c,d)
     · refine ZM (by first|rfl|(simp only[go_sem,h2];try simp(disch:=omega) only[decide_eq_true,decide_eq_false])) ?_
       refine za fun KY hKY=>?_
       simp only[go_sem,PC]
       apply hKY
       refine zi ?_
       repeat (first|refine hr7 _ ?_|refine hr6 _ ?_|refine hr5 _ ?_|refine hr4 _ ?_|refine hr3 _ ?_|refine hr2 _ ?_|refine hr1 _ ?_)
       simp only[go_sem]
       refine⟨(k:Int),rfl,?_⟩
       rw[hT,←h2]
       exact⟨fun _=>⟨hR,List.mem_iff_getElem?.2 ⟨k,hx⟩⟩,fun _=>by omega⟩
     · refine ZA (by first|rfl|(simp only[go_sem,h2];try simp(disch:=omega) only[decide_eq_true,decide_eq_false])) ?_
       refine zh ?_
       repeat (first|refine hn7 _ ?_|refine he7 _ ?_|refine hf7 _ _ (by decide) ?_|refine hn6 _ ?_|refine he6 _ _ ?_|refine hn5 _ ?_|refine he5 _ _ ?_|refine he4 _ _ ?_|refine hn3 _ ?_|refine he3 _ ?_|refine hf3 _ _ (by decide) ?_|refine hn2 _ ?_|refine he2 _ _ ?_|refine hn1 _ ?_|refine he1 _ _ ?_)
       refine zn fun KY hKY=>?_
       simp only[go_sem,PB]
       repeat (simp(disch:=omega) only[if_pos,if_neg,decide_eq_true,decide_eq_false,zH,zx,zg];try simp only[go_sem])
       apply hKY
       repeat (first|refine hn7 _ ?_|refine he7 _ ?_|refine hf7 _ _ (by decide) ?_|refine hn6 _ ?_|refine he6 _ _ ?_|refine hn5 _ ?_|refine he5 _ _ ?_)
       refine hn4 _ (k+1) (es.length - (k+1)) (by omega) (by first|(simp only[go_sem,zd,ze];done)|with_reducible rfl|rfl) ?_
       refine⟨hk2,rfl,fun j hj=>?_⟩
       rcases Nat.lt_or_ge j k with h3|h3
       · exact hz j h3
       · have:j=k:=by omega
         subst this;rw[hy];exact h2
   · refine Zr ?_
     refine zy ?_
     repeat (first|refine hn5 _ ?_|refine he5 _ _ ?_|refine he4 _ _ ?_|refine hn3 _ ?_|refine he3 _ ?_|refine hf3 _ _ (by decide) ?_|refine hn2 _ ?_|refine he2 _ _ ?_|refine hn1 _ ?_|refine he1 _ _ ?_)
     refine za fun KY hKY=>?_
     simp only[go_sem,PA]
     apply hKY
     refine zi ?_
     repeat (first|refine hr5 _ ?_|refine hr4 _ ?_|refine hr3 _ ?_|refine hr2 _ ?_|refine hr1 _ ?_)
     simp only[go_sem]
     refine⟨-1,rfl,?_⟩
     have:¬(c,d)∈es:=by
      intro hm
      obtain⟨j,hj⟩:=List.mem_iff_getElem?.1 hm
      have hjl:=(List.getElem?_eq_some_iff.1 hj).1
      refine hz j (by omega) ?_
      rw[List.getD_eq_getElem?_getD,hj];rfl
     rw[hT]
     simp[this]
theorem xX (n:Int)(es:List (Int×Int))(a b:Int):zo Try.prog [] zjI [.agg [.sc (.int .i64 n),.imm 2 (zY es)],.sc (.int .i64 a),.sc (.int .i64 b)] [] fun r h'=>r= .sc (.bool (zV n es&&decide (jJ a b∈es)))∧h'=[]:=by
 refine zmd rfl ?_
 unfold zkL KP
 refine za fun KY hKY=>?_
 simp only[go_sem,OG]
 apply hKY
 refine za fun KY hKY=>?_
 simp only[go_sem,OF]
 refine zk rfl (by simp only[go_sem]<;>rfl) ((zes n es a b).mono ?_)
 rintro rr hh ⟨⟨k,rfl,hk⟩,rfl⟩
 refine⟨?_,?_,?_,?_⟩
 iterate 3 (first|rfl|simp only[go_sem])
 simp only[go_sem]
 apply hKY
 refine zi ?_
 simp only[go_sem]
 have:decide (0≤k)=(zV n es&&decide (jJ a b∈es)):=by
  rw[Bool.eq_iff_iff];simp[hk]
 rw[this]
theorem Qp {es:Es}{a b:Nat}:((a:Int),(b:Int))∈zB es↔(a,b)∈es:=by
 simp only[zB,List.mem_map,Prod.mk.injEq]
 constructor
 · rintro⟨⟨x,y⟩,h,h1,h2⟩
   have e1:x=a:=by omega
   have e2:y=b:=by omega
   rw[←e1,←e2];exact h
 · intro h;exact⟨(a,b),h,rfl,rfl⟩
theorem XU (a b:Nat×Nat):xl ((a.1:Int),(a.2:Int)) ((b.1:Int),(b.2:Int))=decide (ZX a b):=by
 have h:xl ((a.1:Int),(a.2:Int)) ((b.1:Int),(b.2:Int))=true↔ZX a b:=by
  unfold xl ZX
  rw[decide_eq_true_iff]
  simp only
  omega
 rw[Bool.eq_iff_iff,h,decide_eq_true_iff]
theorem zim {n:Nat}{es:Es}(g:GR n es)(a b:Nat)(hm:(a,b)∉es):zo Try.prog [] zgw [.imm 2 (zY (zB es)),.agg [.sc (.int .i64 (a:Int)),.sc (.int .i64 (b:Int))]] [] fun r h'=>r= .own (some 2) (zY (zB (Y0 es (a,b))))∧h'=[]:=by
 have hlen:=g.hm
 refine zmc rfl ?_
 unfold zkK YD
 refine za fun KY hKY=>?_
 simp only[go_sem,OE]
 apply hKY
 refine za fun KY hKY=>?_
 simp only[go_sem,OD,zA]
 apply hKY
 refine zf fun X1 hn1 he1 hr1=>?_
 refine zp fun X2 hn2 he2 hf2 hr2=>?_
 try simp only[go_sem]
 refine zP (α:=Nat) [18] (fun k=>[(5,.sc (.int .i64 (k:Int)))]) (fun k=>[]) (fun k q=>k≤es.length∧q=k∧∀x∈es.drop k,¬ZX x (a,b)) (es.length) (es.length) rfl (by first|(simp only[go_sem,zd,ze];done)|with_reducible rfl|rfl) (⟨Nat.le_refl _,rfl,fun x h=>by simp at h⟩) ?_
 rintro k q ⟨hk,rfl,hz⟩ X3 hn3 he3 hr3
 simp only[go_sem,zd,ze]
 refine zf fun X4 hn4 he4 hr4=>?_
 have fin:(∀x∈es.take q,ZX x (a,b))→X1 .normal {vs:=[(0,.imm 2 (zY (zB es))),(1,.agg [.sc (.int .i64 (a:Int)),.sc (.int .i64 (b:Int))]),(3,.own none [.sc (.int .i64 (a:Int)),.sc (.int .i64 (b:Int))]),(4,.sc (.slice none 0 0)),(5,.sc (.int .i64 (q:Int))),(18,.sc (.bool false))],ts:=[],h:=[]}:=by
  intro hl
  refine hn1 _ ?_
  have e:=zcr hk hl hz
  have by1:es.length*2*16≤140737488355328:=by omega
  have hq:(q:Int)≤(es.length:Int):=by omega
  have e0:(zB es).take (q - 0)=zB (es.take q):=by simp[zB]
  have e1:((zB es).drop q).take (es.length - q)=zB (es.drop q):=by rw[zcS];exact List.take_of_length_le (by simp[zB])
  have e2:zY (zB (es.take q))++[.sc (.int .i64 (a:Int)),.sc (.int .i64 (b:Int))]++zY (zB (es.drop q))=zY (zB (Y0 es (a,b))):=by
   rw[←e,castE_append,twos_append,List.append_assoc]
   rfl
  refine zw fun KY hKY=>?_
  simp only[go_sem,OB,zA,uv,e0,e1,qF,List.length_take,List.length_drop,List.length_append]
  repeat (simp(disch:=omega) only[if_pos,if_neg,decide_eq_true,decide_eq_false,zH,zx,zg,zA,uv,e0,e1,qF,List.length_take,List.length_drop,List.length_append];try simp only[go_sem,zA,uv,e0,e1,qF,List.length_take,List.length_drop,List.length_append])
  refine(fun H=>by refine⟨⟨⟨⟨hKY _ ?_,hKY _ ?_⟩,hKY _ ?_⟩,⟨⟨⟨hKY _ ?_,hKY _ ?_⟩,hKY _ ?_⟩,⟨hKY _ ?_,hKY _ ?_⟩⟩⟩,⟨⟨⟨⟨hKY _ ?_,hKY _ ?_⟩,hKY _ ?_⟩,hKY _ ?_⟩,⟨⟨hKY _ ?_,hKY _ ?_⟩,hKY _ ?_⟩⟩⟩<;>(simp only[go_sem];exact H)) ?_
  refine zi ?_
  repeat (first|refine hr4 _ ?_|refine hr3 _ ?_|refine hr2 _ ?_|refine hr1 _ ?_)
  simp only[go_sem,e2]
 cases q with
 | zero=>
   refine zw fun KY hKY=>?_
   simp only[go_sem,Ua,show((0:Nat):Int)=0 from rfl,Int.lt_irrefl]
   repeat (simp(disch:=omega) only[if_pos,if_neg,decide_eq_true,decide_eq_false,zH,zx,zg,show((0:Nat):Int)=0 from rfl,Int.lt_irrefl];try simp only[go_sem,show((0:Nat):Int)=0 from rfl,Int.lt_irrefl])
   apply hKY
   simp only[go_sem]
   refine Zr ?_
   exact zy (he4 _ _ (he3 _ _ (he2 _ (fin (fun x h=>by simp at h)))))
 | succ m=>
   have hx:es[m]?=some (es[m]'(by omega)):=List.getElem?_eq_getElem _
   have hy:es[m]'(by omega)∈es:=List.getElem_mem _
   generalize es[m]'(by omega)=x at hx hy
   obtain⟨c,d⟩:=x
   have hx':=Qq hx
   have hm0:((m+1:Nat):Int)>0:=by omega
   refine zw fun KY hKY=>?_
   simp only[go_sem,Ua,wU,zU hx',List.length_drop,zA,hm0]
   repeat (simp(disch:=omega) only[if_pos,if_neg,decide_eq_true,decide_eq_false,zH,zx,zg,wU,zU hx',List.length_drop,zA,hm0];try simp only[go_sem,wU,zU hx',List.length_drop,zA,hm0])
   refine zk rfl (by simp only[go_sem]<;>rfl) ((zbL ((a:Int),(b:Int)) ((c:Int),(d:Int))).mono ?_)
   rintro rr hh ⟨rfl,rfl⟩
   refine⟨rfl,rfl,rfl,?_⟩
   try simp only[go_sem,XU (a,b) (c,d)]
   repeat (simp(disch:=omega) only[if_pos,if_neg,decide_eq_true,decide_eq_false,zH,zx,zg,XU (a,b) (c,d)];try simp only[go_sem,XU (a,b) (c,d)])
   apply hKY
   by_cases hl:ZX (a,b) (c,d)
   · refine ZM (by first|rfl|(simp only[go_sem,hl];try simp(disch:=omega) only[decide_eq_true,decide_eq_false])) ?_
     refine zh ?_
     repeat (first|refine hn4 _ ?_|refine he4 _ _ ?_|refine he3 _ _ ?_|refine hn2 _ ?_|refine he2 _ ?_|refine hf2 _ _ (by decide) ?_|refine hn1 _ ?_|refine he1 _ _ ?_)
     refine zp fun X5 hn5 he5 hf5 hr5=>?_
     refine zn fun KY hKY=>?_
     simp only[go_sem,OC,wU]
     repeat (simp(disch:=omega) only[if_pos,if_neg,decide_eq_true,decide_eq_false,zH,zx,zg,wU];try simp only[go_sem,wU])
     apply hKY
     repeat (first|refine hn5 _ ?_|refine he5 _ ?_|refine hf5 _ _ (by decide) ?_|refine hn4 _ ?_|refine he4 _ _ ?_)
     refine hn3 _ (m) (m) (by omega) (by first|(simp only[go_sem,zd,ze];done)|with_reducible rfl|rfl) ?_
     refine⟨by omega,rfl,fun x hxm=>?_⟩
     rw[List.drop_eq_getElem_cons (by omega)] at hxm
     rcases List.mem_cons.1 hxm with h|h
     · subst h
       rw[(List.getElem?_eq_some_iff.1 hx).2]
       exact fun h=>QY _ (qN _ _ _ hl h)
     · exact hz x h
   · simp only[go_sem,hl]
     refine Zr ?_
     refine zy (he4 _ _ (he3 _ _ (he2 _ (fin fun x hxm=>?_))))
     have hcd:ZX (c,d) (a,b):=by
      have:¬(c=a∧d=b):=fun h=>hm (by rw[←h.1,←h.2];exact hy)
      unfold ZX at*
      simp only at*
      omega
     rw[List.take_add_one,hx] at hxm
     rcases List.mem_append.1 hxm with h|h
     · refine qN _ _ _ ?_ hcd
       obtain⟨j,hj⟩:=List.mem_iff_getElem?.1 h
       rw[List.getElem?_take] at hj
       split at hj
       · rename_i hjm
         obtain⟨h1,h2⟩:=List.getElem?_eq_some_iff.1 hj
         obtain⟨h3,h4⟩:=List.getElem?_eq_some_iff.1 hx
         rw[←h2,←h4]
         exact List.pairwise_iff_getElem.1 g.up j m h1 h3 hjm
       · cases hj
     · simp at h;subst h;exact hcd
theorem zfR {n:Nat}{es:Es}(g:GR n es)(a b:Nat)(hm:(a,b)∉es):zo Try.prog [] zgw [.imm 2 (zY (zB es)),.agg [.sc (.int .i64 (a:Int)),.sc (.int .i64 (b:Int))]] [] fun r h'=>r= .imm 2 (zY (zB (Y0 es (a,b))))∧h'=[]:=by
 refine(zim g a b hm).frz.mono ?_
 rintro r h' ⟨r0,rfl,rfl,rfl⟩
 exact⟨by simp only[zc.freeze,xu],rfl⟩
def KI (n:Nat)(es:Es)(a b:Int)(x y:Nat):Prop:=jJ a b=((x:Int),(y:Int))∧x<y∧y<n∧(x,y)∉es∧es.length<65536
def znz (n:Nat)(es:Es)(a b:Int)(r:zc):Prop:=
 (∃x y:Nat,KI n es a b x y∧r= .tup [.agg [.sc (.int .i64 (n:Int)),.imm 2 (zY (zB (Y0 es (x,y))))],.sc (.int .i64 0)])∨
 (∃e:Int,e≠0∧(¬∃x y,KI n es a b x y)∧r= .tup [.agg [.sc (.int .i64 0),.sc (.slice none 0 0)],.sc (.int .i64 e)])
theorem Kc {n:Nat}{es:Es}(g:GR n es)(a b:Int):zo Try.prog [] zjV [.agg [.sc (.int .i64 (n:Int)),.imm 2 (zY (zB es))],.sc (.int .i64 a),.sc (.int .i64 b)] [] fun r h'=>znz n es a b r∧h'=[]:=by
 refine zmq rfl ?_
 unfold zkY jq
 refine za fun KY hKY=>?_
 simp only[go_sem,za2]
 apply hKY
 refine zf fun X1 hn1 he1 hr1=>?_
 refine zp fun X2 hn2 he2 hf2 hr2=>?_
 refine za fun KY hKY=>?_
 simp only[go_sem,za1]
 refine zk rfl (by simp only[go_sem]<;>rfl) ((jT _ _).mono ?_)
 rintro rr hh ⟨rfl,rfl⟩
 refine⟨rfl,rfl,rfl,?_⟩
 simp only[go_sem,jf g]
 apply hKY
 refine Zr ?_
 by_cases hv:(0≤a∧a<n)∧(0≤b∧b<n)
 · obtain⟨⟨h1,h2⟩,h3,h4⟩:=hv
   refine za fun KY hKY=>?_
   simp only[go_sem,y4]
   repeat (simp(disch:=omega) only[if_pos,if_neg,decide_eq_true,decide_eq_false,zH,zx,zg];try simp only[go_sem])
   refine zk rfl (by simp only[go_sem]<;>rfl) ((xE _ _ _).mono ?_)
   rintro rr hh ⟨rfl,rfl⟩
   refine⟨rfl,rfl,rfl,?_⟩
   try simp only[go_sem,h1,h2]
   repeat (simp(disch:=omega) only[if_pos,if_neg,decide_eq_true,decide_eq_false,zH,zx,zg,h1,h2];try simp only[go_sem,h1,h2])
   refine zk rfl (by simp only[go_sem]<;>rfl) ((xE _ _ _).mono ?_)
   rintro rr hh ⟨rfl,rfl⟩
   refine⟨rfl,rfl,rfl,?_⟩
   try simp only[go_sem,h3,h4]
   repeat (simp(disch:=omega) only[if_pos,if_neg,decide_eq_true,decide_eq_false,zH,zx,zg,h3,h4];try simp only[go_sem,h3,h4])
   apply hKY
   refine Zr ?_
   by_cases hab:a=b
   · subst hab
     refine za fun KY hKY=>?_
     simp only[go_sem,UC]
     apply hKY
     refine Zw ?_
     refine za fun KY hKY=>?_
     simp only[go_sem,za0]
     apply hKY
     refine zi ?_
     repeat (first|refine hr2 _ ?_|refine hr1 _ ?_)
     simp only[go_sem]
     refine .inr ⟨5,by decide,?_,rfl⟩
     rintro⟨x,y,h,hxy,_⟩
     unfold jJ at h
     rw[if_neg (by omega)] at h
     have:=congrArg Prod.fst h;have:=congrArg Prod.snd h;simp only at*;omega
   · refine za fun KY hKY=>?_
     simp only[go_sem,UC,hab]
     apply hKY
     refine Zr ?_
     obtain⟨x,y,ht,hxy,hyn⟩:∃x y:Nat,jJ a b=((x:Int),(y:Int))∧x<y∧y<n:=by
      unfold jJ
      split
      · exact⟨b.toNat,a.toNat,by rw[Int.toNat_of_nonneg h3,Int.toNat_of_nonneg h1],by omega,by omega⟩
      · exact⟨a.toNat,b.toNat,by rw[Int.toNat_of_nonneg h3,Int.toNat_of_nonneg h1],by omega,by omega⟩
     refine za fun KY hKY=>?_
     simp only[go_sem,zaZ]
     refine zk rfl (by simp only[go_sem]<;>rfl) ((xX _ _ _ _).mono ?_)
     rintro rr hh ⟨rfl,rfl⟩
     refine⟨rfl,rfl,rfl,?_⟩
     simp only[go_sem,jf g,ht,Qp]
     apply hKY
     by_cases hm:(x,y)∈es
     · refine ZM (by first|rfl|(simp only[go_sem,hm];try simp(disch:=omega) only[decide_eq_true,decide_eq_false])) ?_
       refine za fun KY hKY=>?_
       simp only[go_sem,zaY]
       apply hKY
       refine zi ?_
       repeat (first|refine hr2 _ ?_|refine hr1 _ ?_)
       simp only[go_sem]
       refine .inr ⟨6,by decide,?_,rfl⟩
       rintro⟨x',y',h,_,_,h',_⟩
       rw[ht] at h
       have e1:=congrArg Prod.fst h;have e2:=congrArg Prod.snd h
       have e3:x=x':=by simp only at e1;omega
       have e4:y=y':=by simp only at e2;omega
       rw[←e3,←e4] at h';exact h' hm
     · refine ZA (by first|rfl|(simp only[go_sem,hm];try simp(disch:=omega) only[decide_eq_true,decide_eq_false])) ?_
       by_cases hl:es.length<65536
       · refine za fun KY hKY=>?_
         simp only[go_sem,UB,zA]
         repeat (simp(disch:=omega) only[if_pos,if_neg,decide_eq_true,decide_eq_false,zH,zx,zg,zA];try simp only[go_sem,zA])
         apply hKY
         refine Zr ?_
         refine zh ?_
         repeat (first|refine hn2 _ ?_|refine he2 _ ?_|refine hf2 _ _ (by decide) ?_|refine hn1 _ ?_|refine he1 _ _ ?_)
         refine zw fun KY hKY=>?_
         simp only[go_sem,kC]
         refine zk rfl (by simp only[go_sem]<;>rfl) ((vH _ _).mono ?_)
         rintro rr hh ⟨rfl,rfl⟩
         refine⟨rfl,rfl,rfl,?_⟩
         simp only[go_sem,ht,Wy]
         apply zr [] [] false none rfl
         iterate 8 (first|(simp only[go_sem,zt]<;>rfl)|rfl)
         refine(zfR g x y hm).mono ?_
         rintro _ _ ⟨rfl,rfl⟩
         refine⟨Nat.le_of_ble_eq_true rfl,(fun hh=>by cases hh),?_⟩
         simp only[go_sem,zq,zb.after]
         apply hKY
         refine zi ?_
         repeat (first|refine hr2 _ ?_|refine hr1 _ ?_)
         simp only[go_sem]
         exact .inl ⟨x,y,⟨ht,hxy,hyn,hm,hl⟩,rfl⟩
       · refine za fun KY hKY=>?_
         simp only[go_sem,UB,zA]
         repeat (simp(disch:=omega) only[if_pos,if_neg,decide_eq_true,decide_eq_false,zH,zx,zg,zA];try simp only[go_sem,zA])
         apply hKY
         refine Zw ?_
         refine za fun KY hKY=>?_
         simp only[go_sem,kD]
         apply hKY
         refine zi ?_
         repeat (first|refine hr2 _ ?_|refine hr1 _ ?_)
         simp only[go_sem]
         exact .inr ⟨8,by decide,fun⟨_,_,h⟩=>hl h.2.2.2.2,rfl⟩
 · have fin:¬∃x y,KI n es a b x y:=by
    rintro⟨x,y,h,h1,h2,_⟩
    unfold jJ at h
    split at h<;>(have e1:=congrArg Prod.fst h;have e2:=congrArg Prod.snd h;simp only at e1 e2;omega)
   by_cases h1:0≤a
   · by_cases h2:a<n
     · refine za fun KY hKY=>?_
       simp only[go_sem,y4]
       repeat (simp(disch:=omega) only[if_pos,if_neg,decide_eq_true,decide_eq_false,zH,zx,zg];try simp only[go_sem])
       refine zk rfl (by simp only[go_sem]<;>rfl) ((xE _ _ _).mono ?_)
       rintro rr hh ⟨rfl,rfl⟩
       refine⟨rfl,rfl,rfl,?_⟩
       try simp only[go_sem,h1,h2]
       repeat (simp(disch:=omega) only[if_pos,if_neg,decide_eq_true,decide_eq_false,zH,zx,zg,h1,h2];try simp only[go_sem,h1,h2])
       refine zk rfl (by simp only[go_sem]<;>rfl) ((xE _ _ _).mono ?_)
       rintro rr hh ⟨rfl,rfl⟩
       refine⟨rfl,rfl,rfl,?_⟩
       by_cases h3:0≤b
       · try simp only[go_sem,h3]
         repeat (simp(disch:=omega) only[if_pos,if_neg,decide_eq_true,decide_eq_false,zH,zx,zg,h3];try simp only[go_sem,h3])
         apply hKY
         refine Zw ?_
         refine za fun KY hKY=>?_
         simp only[go_sem,yZ]
         apply hKY
         refine zi ?_
         repeat (first|refine hr2 _ ?_|refine hr1 _ ?_)
         simp only[go_sem]
         exact .inr ⟨4,by decide,fin,rfl⟩
       · try simp only[go_sem,h3]
         repeat (simp(disch:=omega) only[if_pos,if_neg,decide_eq_true,decide_eq_false,zH,zx,zg,h3];try simp only[go_sem,h3])
         apply hKY
         refine Zw ?_
         refine za fun KY hKY=>?_
         simp only[go_sem,yZ]
         apply hKY
         refine zi ?_
         repeat (first|refine hr2 _ ?_|refine hr1 _ ?_)
         simp only[go_sem]
         exact .inr ⟨4,by decide,fin,rfl⟩
     · refine za fun KY hKY=>?_
       simp only[go_sem,y4]
       repeat (simp(disch:=omega) only[if_pos,if_neg,decide_eq_true,decide_eq_false,zH,zx,zg];try simp only[go_sem])
       refine zk rfl (by simp only[go_sem]<;>rfl) ((xE _ _ _).mono ?_)
       rintro rr hh ⟨rfl,rfl⟩
       refine⟨rfl,rfl,rfl,?_⟩
       try simp only[go_sem,h1,h2]
       repeat (simp(disch:=omega) only[if_pos,if_neg,decide_eq_true,decide_eq_false,zH,zx,zg,h1,h2];try simp only[go_sem,h1,h2])
       apply hKY
       refine Zw ?_
       refine za fun KY hKY=>?_
       simp only[go_sem,yZ]
       apply hKY
       refine zi ?_
       repeat (first|refine hr2 _ ?_|refine hr1 _ ?_)
       simp only[go_sem]
       exact .inr ⟨4,by decide,fin,rfl⟩
   · refine za fun KY hKY=>?_
     simp only[go_sem,y4]
     repeat (simp(disch:=omega) only[if_pos,if_neg,decide_eq_true,decide_eq_false,zH,zx,zg];try simp only[go_sem])
     refine zk rfl (by simp only[go_sem]<;>rfl) ((xE _ _ _).mono ?_)
     rintro rr hh ⟨rfl,rfl⟩
     refine⟨rfl,rfl,rfl,?_⟩
     try simp only[go_sem,h1]
     repeat (simp(disch:=omega) only[if_pos,if_neg,decide_eq_true,decide_eq_false,zH,zx,zg,h1];try simp only[go_sem,h1])
     apply hKY
     refine Zw ?_
     refine za fun KY hKY=>?_
     simp only[go_sem,yZ]
     apply hKY
     refine zi ?_
     repeat (first|refine hr2 _ ?_|refine hr1 _ ?_)
     simp only[go_sem]
     exact .inr ⟨4,by decide,fin,rfl⟩
theorem zdY (n:Int)(k:Nat)(h0:0<k)(h1:k≤1000000000000):∃m:Nat,m<k∧IntKind.i64.wrap ((IntKind.u64.wrap n).tmod (IntKind.u64.wrap (k:Int)))=(m:Int):=by
 have hk:IntKind.u64.wrap (k:Int)=(k:Int):=by rw[IntKind.wrap_u64];omega
 rw[hk]
 have hw:0≤IntKind.u64.wrap n:=by
  rw[IntKind.wrap_u64];omega
 have e:(IntKind.u64.wrap n).tmod (k:Int)=(IntKind.u64.wrap n)%(k:Int):=Int.tmod_eq_emod_of_nonneg hw
 have h2:=Int.emod_nonneg (IntKind.u64.wrap n) (show(k:Int)≠0 by omega)
 have h3:=Int.emod_lt_of_pos (IntKind.u64.wrap n) (show(0:Int)<k by omega)
 refine⟨((IntKind.u64.wrap n)%(k:Int)).toNat,by omega,?_⟩
 rw[e,IntWalk.i64_in _ (by omega)]
 omega
theorem KR {k:Nat}(h:k<1000000000000)(h0:0<k):¬IntKind.u64.wrap (k:Int)=0:=by rw[IntKind.wrap_u64];omega
theorem zfG (n:Int)(Je:List Int)(V M:Nat)(hV:V≤4000)(hM:M≤10000)(he:Je.length≤1000000000000):zo Try.prog [] zmW [.sc (.int .i64 n),.imm 1 (zl Je),.sc (.int .i64 (V:Int)),.sc (.int .i64 (M:Int))] [] fun r h'=>(∃N es,GR N es∧N≤V∧es.length≤M∧r= .agg [.sc (.int .i64 (N:Int)),.imm 2 (zY (zB es))])∧h'=[]:=by
 obtain⟨N,hN,hn⟩:=zdY n (V+1) (by omega) (by omega)
 refine zm2 rfl ?_
 unfold zna yg
 refine za fun KY hKY=>?_
 simp only[go_sem,zdP]
 apply hKY
 refine za fun KY hKY=>?_
 simp only[go_sem,zdO,KR,hn]
 repeat (simp(disch:=omega) only[if_pos,if_neg,decide_eq_true,decide_eq_false,zH,zx,zg,KR,hn];try simp only[go_sem,KR,hn])
 apply hKY
 refine za fun KY hKY=>?_
 simp only[go_sem,zdN]
 apply hKY
 refine zf fun X1 hn1 he1 hr1=>?_
 refine za fun KY hKY=>?_
 simp only[go_sem,zdM]
 apply hKY
 simp only[go_sem]
 refine jC [0,9,1] 2 (by simp only[go_sem]) ?_
 simp only[go_sem]
 refine ZB [0,9,1] (by simp only[go_sem];rfl) ?_
 simp only[go_sem]
 refine zp fun X2 hn2 he2 hf2 hr2=>?_
 try simp only[go_sem]
 refine zP (α:=Nat×Es) [11,12,41,69] (fun(i,es)=>[(10,.sc (.int .i64 (i:Int))),(9,.own none [.sc (.int .i64 (N:Int)),.imm 2 (zY (zB es))])]) (fun(i,es)=>[]) (fun(i,es) q=>i≤401∧q=402 - i∧GR N es∧es.length≤M) ((0,[])) (402) rfl (by first|(simp only[go_sem,zd,ze];done)|with_reducible rfl|rfl) (⟨by omega,rfl,⟨by omega,by simp,by simp,.nil⟩,Nat.zero_le _⟩) ?_
 rintro⟨i,es⟩ q ⟨hi,rfl,g,hm⟩ X3 hn3 he3 hr3
 simp only[go_sem,zd,ze]
 refine zf fun X4 hn4 he4 hr4=>?_
 by_cases h1:i+1<Je.length
 · by_cases h2:es.length<M
   · by_cases h3:0<N
     · by_cases h4:i<400
       · refine za fun KY hKY=>?_
         simp only[go_sem,Yo,zA]
         repeat (simp(disch:=omega) only[if_pos,if_neg,decide_eq_true,decide_eq_false,zH,zx,zg,zA];try simp only[go_sem,zA])
         apply hKY
         refine Zw ?_
         refine zh ?_
         repeat (first|refine hn4 _ ?_|refine he4 _ _ ?_|refine he3 _ _ ?_|refine hn2 _ ?_|refine he2 _ ?_|refine hf2 _ _ (by decide) ?_|refine hn1 _ ?_|refine he1 _ _ ?_)
         refine zf fun X5 hn5 he5 hr5=>?_
         refine zp fun X6 hn6 he6 hf6 hr6=>?_
         have hx:Je[i]?=some (Je[i]'(by omega)):=List.getElem?_eq_getElem _
         have hx2:Je[i+1]?=some (Je[i+1]'(by omega)):=List.getElem?_eq_getElem _
         have hN0:¬IntKind.u64.wrap (N:Int)=0:=KR (by omega) h3
         obtain⟨a,ha,hna⟩:=zdY (Je.getD i 0) N h3 (by omega)
         obtain⟨b,hb,hnb⟩:=zdY (Je.getD (i+1) 0) N h3 (by omega)
         have h1':i<Je.length:=by omega
         have hw:IntKind.i64.wrap ((i:Int)+2)=((i+2:Nat):Int):=by rw[IntWalk.i64_in _ (by omega)];omega
         refine zw fun KY hKY=>?_
         simp only[go_sem,zdL,hN0,hna,hnb,zg h1,zg h1',h1,h1',zH (show i<4611686018427387904 by omega)]
         refine⟨?_,?_⟩
         · apply zr [] [] false none rfl
           iterate 8 (first|(simp only[go_sem,zt]<;>rfl)|rfl)
           refine(Kc g (a:Int) (b:Int)).mono ?_
           rintro _ _ ⟨⟨x,y,ha,rfl⟩|⟨e,he,ha,rfl⟩,rfl⟩
           · refine⟨Nat.le_of_ble_eq_true rfl,(fun hh=>by cases hh),?_⟩
             simp only[go_sem,zq,zb.after]
             apply hKY
             refine za fun KY hKY=>?_
             simp only[go_sem,wZ]
             apply hKY
             simp only[go_sem]
             refine Zw ?_
             refine zn fun KY hKY=>?_
             simp only[go_sem,Ky]
             apply hKY
             repeat (first|refine hn6 _ ?_|refine he6 _ ?_|refine hf6 _ _ (by decide) ?_|refine hn5 _ ?_|refine he5 _ _ ?_|refine hn4 _ ?_|refine he4 _ _ ?_|refine he3 _ _ ?_|refine hn2 _ ?_|refine he2 _ ?_|refine hf2 _ _ (by decide) ?_|refine hn1 _ ?_|refine he1 _ _ ?_)
             refine zn fun KY hKY=>?_
             simp only[go_sem,wY,hw]
             apply hKY
             repeat (first|refine hn6 _ ?_|refine he6 _ ?_|refine hf6 _ _ (by decide) ?_|refine hn5 _ ?_|refine he5 _ _ ?_|refine hn4 _ ?_|refine he4 _ _ ?_)
             refine hn3 _ ((i+2,Y0 es (x,y))) (402 - (i+2)) (by omega) (by first|(simp only[go_sem,zd,ze];done)|with_reducible rfl|rfl) ?_
             exact⟨by omega,rfl,g.put ha.2.1 ha.2.2.1 ha.2.2.2.1 ha.2.2.2.2,by rw[Xw];omega⟩
           · refine⟨Nat.le_of_ble_eq_true rfl,(fun hh=>by cases hh),?_⟩
             simp only[go_sem,zq,zb.after]
             apply hKY
             refine za fun KY hKY=>?_
             simp only[go_sem,wZ]
             apply hKY
             simp only[go_sem]
             refine ZA (by first|rfl|(simp only[go_sem,he];try simp(disch:=omega) only[decide_eq_true,decide_eq_false])) ?_
             refine zh ?_
             repeat (first|refine hn6 _ ?_|refine he6 _ ?_|refine hf6 _ _ (by decide) ?_|refine hn5 _ ?_|refine he5 _ _ ?_|refine hn4 _ ?_|refine he4 _ _ ?_|refine he3 _ _ ?_|refine hn2 _ ?_|refine he2 _ ?_|refine hf2 _ _ (by decide) ?_|refine hn1 _ ?_|refine he1 _ _ ?_)
             refine zn fun KY hKY=>?_
             simp only[go_sem,wY,hw]
             apply hKY
             repeat (first|refine hn6 _ ?_|refine he6 _ ?_|refine hf6 _ _ (by decide) ?_|refine hn5 _ ?_|refine he5 _ _ ?_|refine hn4 _ ?_|refine he4 _ _ ?_)
             refine hn3 _ ((i+2,es)) (402 - (i+2)) (by omega) (by first|(simp only[go_sem,zd,ze];done)|with_reducible rfl|rfl) ?_
             exact⟨by omega,rfl,g,hm⟩
         · apply zr [] [] false none rfl
           iterate 8 (first|(simp only[go_sem,zt]<;>rfl)|rfl)
           refine(Kc g (a:Int) (b:Int)).mono ?_
           rintro _ _ ⟨⟨x,y,ha,rfl⟩|⟨e,he,ha,rfl⟩,rfl⟩
           · refine⟨Nat.le_of_ble_eq_true rfl,(fun hh=>by cases hh),?_⟩
             simp only[go_sem,zq,zb.after]
             apply hKY
             refine za fun KY hKY=>?_
             simp only[go_sem,wZ]
             apply hKY
             simp only[go_sem]
             refine Zw ?_
             refine zn fun KY hKY=>?_
             simp only[go_sem,Ky]
             apply hKY
             repeat (first|refine hn6 _ ?_|refine he6 _ ?_|refine hf6 _ _ (by decide) ?_|refine hn5 _ ?_|refine he5 _ _ ?_|refine hn4 _ ?_|refine he4 _ _ ?_|refine he3 _ _ ?_|refine hn2 _ ?_|refine he2 _ ?_|refine hf2 _ _ (by decide) ?_|refine hn1 _ ?_|refine he1 _ _ ?_)
             refine zn fun KY hKY=>?_
             simp only[go_sem,wY,hw]
             apply hKY
             repeat (first|refine hn6 _ ?_|refine he6 _ ?_|refine hf6 _ _ (by decide) ?_|refine hn5 _ ?_|refine he5 _ _ ?_|refine hn4 _ ?_|refine he4 _ _ ?_)
             refine hn3 _ ((i+2,Y0 es (x,y))) (402 - (i+2)) (by omega) (by first|(simp only[go_sem,zd,ze];done)|with_reducible rfl|rfl) ?_
             exact⟨by omega,rfl,g.put ha.2.1 ha.2.2.1 ha.2.2.2.1 ha.2.2.2.2,by rw[Xw];omega⟩
           · refine⟨Nat.le_of_ble_eq_true rfl,(fun hh=>by cases hh),?_⟩
             simp only[go_sem,zq,zb.after]
             apply hKY
             refine za fun KY hKY=>?_
             simp only[go_sem,wZ]
             apply hKY
             simp only[go_sem]
             refine ZA (by first|rfl|(simp only[go_sem,he];try simp(disch:=omega) only[decide_eq_true,decide_eq_false])) ?_
             refine zh ?_
             repeat (first|refine hn6 _ ?_|refine he6 _ ?_|refine hf6 _ _ (by decide) ?_|refine hn5 _ ?_|refine he5 _ _ ?_|refine hn4 _ ?_|refine he4 _ _ ?_|refine he3 _ _ ?_|refine hn2 _ ?_|refine he2 _ ?_|refine hf2 _ _ (by decide) ?_|refine hn1 _ ?_|refine he1 _ _ ?_)
             refine zn fun KY hKY=>?_
             simp only[go_sem,wY,hw]
             apply hKY
             repeat (first|refine hn6 _ ?_|refine he6 _ ?_|refine hf6 _ _ (by decide) ?_|refine hn5 _ ?_|refine he5 _ _ ?_|refine hn4 _ ?_|refine he4 _ _ ?_)
             refine hn3 _ ((i+2,es)) (402 - (i+2)) (by omega) (by first|(simp only[go_sem,zd,ze];done)|with_reducible rfl|rfl) ?_
             exact⟨by omega,rfl,g,hm⟩
       · refine za fun KY hKY=>?_
         simp only[go_sem,Yo,zA]
         repeat (simp(disch:=omega) only[if_pos,if_neg,decide_eq_true,decide_eq_false,zH,zx,zg,zA];try simp only[go_sem,zA])
         apply hKY
         refine Zr ?_
         refine zy ?_
         repeat (first|refine hn4 _ ?_|refine he4 _ _ ?_|refine he3 _ _ ?_|refine hn2 _ ?_|refine he2 _ ?_|refine hf2 _ _ (by decide) ?_|refine hn1 _ ?_|refine he1 _ _ ?_)
         refine za fun KY hKY=>?_
         simp only[go_sem,wX]
         apply hKY
         refine zi ?_
         repeat (first|refine hr4 _ ?_|refine hr3 _ ?_|refine hr2 _ ?_|refine hr1 _ ?_)
         simp only[go_sem]
         exact⟨N,es,g,by omega,hm,rfl⟩
     · refine za fun KY hKY=>?_
       simp only[go_sem,Yo,zA]
       repeat (simp(disch:=omega) only[if_pos,if_neg,decide_eq_true,decide_eq_false,zH,zx,zg,zA];try simp only[go_sem,zA])
       apply hKY
       refine Zr ?_
       refine zy ?_
       repeat (first|refine hn4 _ ?_|refine he4 _ _ ?_|refine he3 _ _ ?_|refine hn2 _ ?_|refine he2 _ ?_|refine hf2 _ _ (by decide) ?_|refine hn1 _ ?_|refine he1 _ _ ?_)
       refine za fun KY hKY=>?_
       simp only[go_sem,wX]
       apply hKY
       refine zi ?_
       repeat (first|refine hr4 _ ?_|refine hr3 _ ?_|refine hr2 _ ?_|refine hr1 _ ?_)
       simp only[go_sem]
       exact⟨N,es,g,by omega,hm,rfl⟩
   · refine za fun KY hKY=>?_
     simp only[go_sem,Yo,zA]
     repeat (simp(disch:=omega) only[if_pos,if_neg,decide_eq_true,decide_eq_false,zH,zx,zg,zA];try simp only[go_sem,zA])
     apply hKY
     refine Zr ?_
     refine zy ?_
     repeat (first|refine hn4 _ ?_|refine he4 _ _ ?_|refine he3 _ _ ?_|refine hn2 _ ?_|refine he2 _ ?_|refine hf2 _ _ (by decide) ?_|refine hn1 _ ?_|refine he1 _ _ ?_)
     refine za fun KY hKY=>?_
     simp only[go_sem,wX]
     apply hKY
     refine zi ?_
     repeat (first|refine hr4 _ ?_|refine hr3 _ ?_|refine hr2 _ ?_|refine hr1 _ ?_)
     simp only[go_sem]
     exact⟨N,es,g,by omega,hm,rfl⟩
 · refine za fun KY hKY=>?_
   simp only[go_sem,Yo,zA]
   repeat (simp(disch:=omega) only[if_pos,if_neg,decide_eq_true,decide_eq_false,zH,zx,zg,zA];try simp only[go_sem,zA])
   apply hKY
   refine Zr ?_
   refine zy ?_
   repeat (first|refine hn4 _ ?_|refine he4 _ _ ?_|refine he3 _ _ ?_|refine hn2 _ ?_|refine he2 _ ?_|refine hf2 _ _ (by decide) ?_|refine hn1 _ ?_|refine he1 _ _ ?_)
   refine za fun KY hKY=>?_
   simp only[go_sem,wX]
   apply hKY
   refine zi ?_
   repeat (first|refine hr4 _ ?_|refine hr3 _ ?_|refine hr2 _ ?_|refine hr1 _ ?_)
   simp only[go_sem]
   exact⟨N,es,g,by omega,hm,rfl⟩
end Go.Proofs.Ytmcfdfafeheihaa

namespace Go.Proofs
open Go.Shelf
def Try.lays189_ren :Go.Shelf.Ren:=⟨fun|189=>72|125=>82|257=>81|128=>96|129=>97|294=>87|295=>88|296=>89|297=>90|298=>91|299=>92|216=>93|300=>94|301=>95|328=>98|329=>99|330=>100|331=>101|332=>102|215=>70|343=>103|n=>n,fun|28=>22|3=>3|46=>38|0=>0|51=>121|53=>23|4=>4|183=>129|182=>128|131=>106|5=>5|9=>9|218=>137|222=>141|228=>143|229=>144|n=>n,fun|n=>n⟩
theorem Try.lays189 :Go.Proofs.Lays.n189 Try.prog Try.lays189_ren:={
 mixed:=by kernel_rfl
 f125:=Try.func82.trans (congrArg some (by kernel_rfl))
 f128:=Try.func96.trans (congrArg some (by kernel_rfl))
 f129:=Try.func97.trans (congrArg some (by kernel_rfl))
 f189:=Try.func72.trans (congrArg some (by kernel_rfl))
 f215:=Try.func70.trans (congrArg some (by kernel_rfl))
 f216:=Try.func93.trans (congrArg some (by kernel_rfl))
 f257:=Try.func81.trans (congrArg some (by kernel_rfl))
 f294:=Try.func87.trans (congrArg some (by kernel_rfl))
 f295:=Try.func88.trans (congrArg some (by kernel_rfl))
 f296:=Try.func89.trans (congrArg some (by kernel_rfl))
 f297:=Try.func90.trans (congrArg some (by kernel_rfl))
 f298:=Try.func91.trans (congrArg some (by kernel_rfl))
 f299:=Try.func92.trans (congrArg some (by kernel_rfl))
 f300:=Try.func94.trans (congrArg some (by kernel_rfl))
 f301:=Try.func95.trans (congrArg some (by kernel_rfl))
 f328:=Try.func98.trans (congrArg some (by kernel_rfl))
 f329:=Try.func99.trans (congrArg some (by kernel_rfl))
 f330:=Try.func100.trans (congrArg some (by kernel_rfl))
 f331:=Try.func101.trans (congrArg some (by kernel_rfl))
 f332:=Try.func102.trans (congrArg some (by kernel_rfl))
 f343:=Try.func103.trans (congrArg some (by kernel_rfl))
 t0:=Try.underlying0
 a0:=Try.isAgg0
 z0:=Try.sizeOf0
 v0:=Try.zeroValue0
 t3:=Try.underlying3
 a3:=Try.isAgg3
 z3:=Try.sizeOf3
 v3:=Try.zeroValue3
 t4:=Try.underlying4
 a4:=Try.isAgg4
 z4:=Try.sizeOf4
 v4:=Try.zeroValue4
 t5:=Try.underlying5
 a5:=Try.isAgg5
 z5:=Try.sizeOf5
 v5:=Try.zeroValue5
 t9:=Try.underlying9
 a9:=Try.isAgg9
 z9:=Try.sizeOf9
 v9:=Try.zeroValue9
 t28:=Try.underlying22
 a28:=Try.isAgg22
 z28:=Try.sizeOf22
 v28:=Try.zeroValue22
 t46:=Try.underlying38
 a46:=Try.isAgg38
 z46:=Try.sizeOf38
 v46:=Try.zeroValue38
 t51:=Try.underlying121
 a51:=Try.isAgg121
 z51:=Try.sizeOf121
 v51:=Try.zeroValue121
 t53:=Try.underlying23
 a53:=Try.isAgg23
 z53:=Try.sizeOf23
 v53:=Try.zeroValue23
 t131:=Try.underlying106
 a131:=Try.isAgg106
 z131:=Try.sizeOf106
 v131:=Try.zeroValue106
 t182:=Try.underlying128
 a182:=Try.isAgg128
 z182:=Try.sizeOf128
 v182:=Try.zeroValue128
 t183:=Try.underlying129
 a183:=Try.isAgg129
 z183:=Try.sizeOf129
 v183:=Try.zeroValue129
 t218:=Try.underlying137
 a218:=Try.isAgg137
 z218:=Try.sizeOf137
 v218:=Try.zeroValue137
 t222:=Try.underlying141
 a222:=Try.isAgg141
 z222:=Try.sizeOf141
 v222:=Try.zeroValue141
 t228:=Try.underlying143
 a228:=Try.isAgg143
 z228:=Try.sizeOf143
 v228:=Try.zeroValue143
 t229:=Try.underlying144
 a229:=Try.isAgg144
 z229:=Try.sizeOf144
 v229:=Try.zeroValue144}
open Go.Sort Go.RowKit in
theorem Try.slices_Sort_int (blk off cap:Nat)(zs:List Int)(w:World)(hH:Holds (Value.int .i64) w blk off zs.toArray)(hblk:blk<w.heap.size)(hsz:zs.length<4611686018427387904):
 Calls Try.prog 72 #[.slice (some ⟨blk,off,none⟩) zs.length cap] w fun e w'=>
  e= .returned (.tuple #[])∧∃n os,w'=grow (putRow (Value.int .i64) (Sort.ahead w n) blk off (zs.mergeSort fun x y=>decide (x≤y)).toArray) os:=Any.slices_Sort_int Try.lays189 blk off cap zs w hH hblk hsz
end Go.Proofs
namespace Go.Proofs.Ytmcfdfafeheihaa
open Go Go.Ga Go.Ga.Gl
theorem YK {n b:Nat}{f g:Nat→List Nat}{y:List Nat}(h1:g b=y)(h2:∀v,v≠b→g v=f v):((List.range n).map f).set b y=(List.range n).map g:=by
 apply List.ext_getElem (by simp)
 intro i h3 h4
 rw[List.getElem_set]
 split
 · rename_i h;subst h;simp[h1]
 · rename_i h;simp[h2 i (Ne.symm h)]
theorem gE {es:Es}{k a b:Nat}(h:es[k]?=some (a,b))(v:Nat):ZW (es.take (k+1)) v=if v=b then ZW (es.take k) v++[a] else ZW (es.take k) v:=by
 rw[List.take_add_one,h]
 simp only[ZW,Option.toList_some,List.filter_append,List.map_append]
 by_cases hv:v=b
 · simp[hv]
 · simp[hv,Ne.symm hv]
theorem Vm {es:Es}{k a b:Nat}(h:es[k]?=some (a,b))(v:Nat):Z9 (es.take (k+1)) v=if v=a then Z9 (es.take k) v++[b] else Z9 (es.take k) v:=by
 rw[List.take_add_one,h]
 simp only[Z9,Option.toList_some,List.filter_append,List.map_append]
 by_cases hv:v=a
 · simp[hv]
 · simp[hv,Ne.symm hv]
theorem Ko (es:Es)(v:Nat):(ZW es v).length≤es.length:=by simp[ZW];exact List.length_filter_le _ _
theorem gP (es:Es)(v:Nat):(Z9 es v).length≤es.length:=by simp[Z9];exact List.length_filter_le _ _
theorem yF {n:Nat}{es:Es}(g:GR n es):zo Try.prog [] zjR [.sc (.int .i64 (n:Int)),.imm 2 (zY (zB es))] [] fun r h'=>r= .own (some 1) (ZJ (JU n es))∧h'=[]:=by
 have hn:=g.hn
 have hm:=g.hm
 have hb1:n*24≤140737488355328:=by omega
 refine zmm rfl ?_
 unfold zkU jW
 refine za fun KY hKY=>?_
 simp only[go_sem,zaH]
 apply hKY
 refine za fun KY hKY=>?_
 simp only[go_sem,zaG,hb1]
 repeat (simp(disch:=omega) only[if_pos,if_neg,decide_eq_true,decide_eq_false,zH,zx,zg,hb1];try simp only[go_sem,hb1])
 apply hKY
 simp only[go_sem]
 have hs0:=zee n
 have e0:List.replicate n []=(List.range n).map (ZW []):=by
  apply List.ext_getElem (by simp)
  intro i h1 h2
  simp[ZW]
 rw[e0] at hs0
 refine K8 [0,5] _ (by simp only[go_sem]) rfl hs0 ?_
 simp only[go_sem]
 refine zf fun X1 hn1 he1 hr1=>?_
 refine za fun KY hKY=>?_
 simp only[go_sem,zaF,zA]
 apply hKY
 refine zp fun X2 hn2 he2 hf2 hr2=>?_
 try simp only[go_sem]
 refine zP (α:=Nat) [7,15] (fun k=>[(5,.own (some 1) (ZJ ((List.range n).map (ZW (es.take k))))),(14,.sc (.int .i64 (k:Int)))]) (fun k=>[]) (fun k q=>k≤es.length∧q=es.length - k) (0) (es.length) rfl (by first|(simp only[go_sem,zd,ze];done)|with_reducible rfl|rfl) (⟨by omega,rfl⟩) ?_
 rintro k q ⟨hk,rfl⟩ X3 hn3 he3 hr3
 simp only[go_sem,zd,ze]
 refine za fun KY hKY=>?_
 simp only[go_sem,zaE]
 apply hKY
 refine zf fun X4 hn4 he4 hr4=>?_
 by_cases hk2:k<es.length
 · refine Zw ?_
   refine zh ?_
   repeat (first|refine hn4 _ ?_|refine he4 _ _ ?_|refine he3 _ _ ?_|refine hn2 _ ?_|refine he2 _ ?_|refine hf2 _ _ (by decide) ?_|refine hn1 _ ?_|refine he1 _ _ ?_)
   refine zf fun X5 hn5 he5 hr5=>?_
   refine zp fun X6 hn6 he6 hf6 hr6=>?_
   have hx:es[k]?=some es[k]:=List.getElem?_eq_getElem hk2
   have hy:=g.ok es[k] (List.getElem_mem hk2)
   generalize es[k]=x at hx hy
   obtain⟨a,b⟩:=x
   simp only at hy
   have hx':=Qq hx
   refine za fun KY hKY=>?_
   simp only[go_sem,zaD,zU hx',List.length_drop,zA]
   repeat (simp(disch:=omega) only[if_pos,if_neg,decide_eq_true,decide_eq_false,zH,zx,zg,zU hx',List.length_drop,zA];try simp only[go_sem,zU hx',List.length_drop,zA])
   apply hKY
   have hbn:b<n:=hy.2
   have hg:((List.range n).map (ZW (es.take k)))[b]?=some (ZW (es.take k) b):=by simp[hbn]
   have hl1:(ZW (es.take k) b).length≤es.length:=Nat.le_trans (Ko _ _) (by simp;omega)
   have hl2:((ZW (es.take k) b).length+1)*8≤140737488355328:=by omega
   have hset:((List.range n).map (ZW (es.take k))).set b (ZW (es.take k) b++[a])=(List.range n).map (ZW (es.take (k+1))):=
    YK (by rw[gE hx,if_pos rfl]) (fun v hv=>by rw[gE hx,if_neg hv])
   have hbl:b<((List.range n).map (ZW (es.take k))).length:=by simpa using hbn
   refine Jq fun KY hKY=>?_
   simp only[go_sem,zaC,vQ hg,hbn,hl2,jg,hset,List.length_range]
   apply hKY
   repeat (first|refine hn6 _ ?_|refine he6 _ ?_|refine hf6 _ _ (by decide) ?_|refine hn5 _ ?_|refine he5 _ _ ?_|refine hn4 _ ?_|refine he4 _ _ ?_|refine he3 _ _ ?_|refine hn2 _ ?_|refine he2 _ ?_|refine hf2 _ _ (by decide) ?_|refine hn1 _ ?_|refine he1 _ _ ?_)
   refine zn fun KY hKY=>?_
   simp only[go_sem,zaB,zH (show k<4611686018427387904 by omega)]
   apply hKY
   repeat (first|refine hn6 _ ?_|refine he6 _ ?_|refine hf6 _ _ (by decide) ?_|refine hn5 _ ?_|refine he5 _ _ ?_|refine hn4 _ ?_|refine he4 _ _ ?_)
   refine hn3 _ (k+1) (es.length - (k+1)) (by omega) (by first|(simp only[go_sem,zd,ze];done)|with_reducible rfl|rfl) ?_
   exact⟨hk2,rfl⟩
 · refine Zr ?_
   refine zy ?_
   repeat (first|refine hn4 _ ?_|refine he4 _ _ ?_|refine he3 _ _ ?_|refine hn2 _ ?_|refine he2 _ ?_|refine hf2 _ _ (by decide) ?_|refine hn1 _ ?_|refine he1 _ _ ?_)
   obtain rfl:k=es.length:=by omega
   rw[List.take_length,show(List.range n).map (ZW es)=(List.range n).map fun v=>ZW es v++Z9 [] v by simp[Z9]]
   refine zf fun X7 hn7 he7 hr7=>?_
   refine za fun KY hKY=>?_
   simp only[go_sem,zaA,zA]
   apply hKY
   refine zp fun X8 hn8 he8 hf8 hr8=>?_
   try simp only[go_sem]
   refine zP (α:=Nat) [9,15,35] (fun k=>[(5,.own (some 1) (ZJ ((List.range n).map fun v=>ZW es v++Z9 (es.take k) v))),(34,.sc (.int .i64 (k:Int)))]) (fun k=>[]) (fun k q=>k≤es.length∧q=es.length - k) (0) (es.length) rfl (by first|(simp only[go_sem,zd,ze];done)|with_reducible rfl|rfl) (⟨by omega,rfl⟩) ?_
   rintro k q ⟨hk,rfl⟩ X9 hn9 he9 hr9
   simp only[go_sem,zd,ze]
   refine za fun KY hKY=>?_
   simp only[go_sem,zaz]
   apply hKY
   refine zf fun X10 hn10 he10 hr10=>?_
   by_cases hk2:k<es.length
   · refine Zw ?_
     refine zh ?_
     repeat (first|refine hn10 _ ?_|refine he10 _ _ ?_|refine he9 _ _ ?_|refine hn8 _ ?_|refine he8 _ ?_|refine hf8 _ _ (by decide) ?_|refine hn7 _ ?_|refine he7 _ _ ?_|refine hn4 _ ?_|refine he4 _ _ ?_)
     refine zf fun X11 hn11 he11 hr11=>?_
     refine zp fun X12 hn12 he12 hf12 hr12=>?_
     have hx:es[k]?=some es[k]:=List.getElem?_eq_getElem hk2
     have hy:=g.ok es[k] (List.getElem_mem hk2)
     generalize es[k]=x at hx hy
     obtain⟨a,b⟩:=x
     simp only at hy
     have hx':=Qq hx
     refine za fun KY hKY=>?_
     simp only[go_sem,zay,zU hx',List.length_drop,zA]
     repeat (simp(disch:=omega) only[if_pos,if_neg,decide_eq_true,decide_eq_false,zH,zx,zg,zU hx',List.length_drop,zA];try simp only[go_sem,zU hx',List.length_drop,zA])
     apply hKY
     have han:a<n:=by omega
     have hg:((List.range n).map fun v=>ZW es v++Z9 (es.take k) v)[a]?=some (ZW es a++Z9 (es.take k) a):=by simp[han]
     have hl1:(ZW es a++Z9 (es.take k) a).length≤2*es.length:=by
      rw[List.length_append]
      have h1:=Ko es a
      have h2:(Z9 (es.take k) a).length≤es.length:=Nat.le_trans (gP _ _) (by simp;omega)
      omega
     have hl2:((ZW es a++Z9 (es.take k) a).length+1)*8≤140737488355328:=by omega
     have hset:((List.range n).map fun v=>ZW es v++Z9 (es.take k) v).set a (ZW es a++Z9 (es.take k) a++[b])=(List.range n).map fun v=>ZW es v++Z9 (es.take (k+1)) v:=
      YK (by rw[Vm hx,if_pos rfl,List.append_assoc]) (fun v hv=>by rw[Vm hx,if_neg hv])
     refine Jq fun KY hKY=>?_
     simp only[go_sem,kA,vQ hg,han,hl2,jg,hset]
     apply hKY
     repeat (first|refine hn12 _ ?_|refine he12 _ ?_|refine hf12 _ _ (by decide) ?_|refine hn11 _ ?_|refine he11 _ _ ?_|refine hn10 _ ?_|refine he10 _ _ ?_|refine he9 _ _ ?_|refine hn8 _ ?_|refine he8 _ ?_|refine hf8 _ _ (by decide) ?_|refine hn7 _ ?_|refine he7 _ _ ?_|refine hn4 _ ?_|refine he4 _ _ ?_)
     refine zn fun KY hKY=>?_
     simp only[go_sem,kz,zH (show k<4611686018427387904 by omega)]
     apply hKY
     repeat (first|refine hn12 _ ?_|refine he12 _ ?_|refine hf12 _ _ (by decide) ?_|refine hn11 _ ?_|refine he11 _ _ ?_|refine hn10 _ ?_|refine he10 _ _ ?_)
     refine hn9 _ (k+1) (es.length - (k+1)) (by omega) (by first|(simp only[go_sem,zd,ze];done)|with_reducible rfl|rfl) ?_
     exact⟨hk2,rfl⟩
   · refine Zr ?_
     refine zy ?_
     repeat (first|refine hn10 _ ?_|refine he10 _ _ ?_|refine he9 _ _ ?_|refine hn8 _ ?_|refine he8 _ ?_|refine hf8 _ _ (by decide) ?_|refine hn7 _ ?_|refine he7 _ _ ?_|refine hn4 _ ?_|refine he4 _ _ ?_|refine he3 _ _ ?_|refine hn2 _ ?_|refine he2 _ ?_|refine hf2 _ _ (by decide) ?_|refine hn1 _ ?_|refine he1 _ _ ?_)
     obtain rfl:k=es.length:=by omega
     rw[List.take_length]
     refine za fun KY hKY=>?_
     simp only[go_sem,ky]
     apply hKY
     refine zi ?_
     repeat (first|refine hr10 _ ?_|refine hr9 _ ?_|refine hr8 _ ?_|refine hr7 _ ?_|refine hr4 _ ?_|refine hr3 _ ?_|refine hr2 _ ?_|refine hr1 _ ?_)
     simp only[go_sem]
     rfl
def vm (nr:List (List Nat))(s:DS):List zc:=[.imm 1 (Zv nr),.own (some 1) (Zd s.1),.own (some 1) (zJ s.2.1),.own (some 1) (zJ s.2.2)]
theorem zdJ (nr:List (List Nat))(s:DS)(v:Nat)(hv:v<s.1.length)(h1:s.2.1.length≤100000)(h2:s.2.2.length≤100000):
    zo Try.prog [] zjo [.ptr 0 0,.sc (.int .i64 (v:Int))] [some (vm nr s)] fun r h'=>r= .tup []∧h'=[some (vm nr (come s v))]:=by
  obtain⟨d,nw,r⟩:=s
  simp only at hv h1 h2
  have hb:=Jn hv
  have b1:(nw.length+1)*8≤140737488355328:=by omega
  have b2:(r.length+1)*8≤140737488355328:=by omega
  unfold vm come
  refine zlN rfl ?_
  unfold zkl ww
  simp only
  refine za fun KY hKY=>?_
  simp only[go_sem,pc,hb,hv]
  apply hKY
  cases hd:d.getD v false with
  | true=>
    refine ZA (by first|rfl|(simp only[go_sem,hd];try simp(disch:=omega) only[decide_eq_true,decide_eq_false])) ?_
    refine zh ?_
    simp only[go_sem]
  | false=>
    refine ZM (by first|rfl|(simp only[go_sem,hd];try simp(disch:=omega) only[decide_eq_true,decide_eq_false])) ?_
    refine za fun KY hKY=>?_
    simp only[go_sem,G9,hv]
    apply hKY
    refine za fun KY hKY=>?_
    simp only[go_sem,G8,jg,b1]
    apply hKY
    refine zn fun KY hKY=>?_
    simp only[go_sem,G7,jg,b2]
    apply hKY
    simp only[go_sem]
end Go.Proofs.Ytmcfdfafeheihaa

namespace Go.Ga.Gl
open Go Go.Ga
theorem QR (f:Nat→Nat):∀(k:Nat) (l:List Nat),l.length≤k→l.Nodup→(∀x∈l,f x∈l∧f x≠x∧f (f x)=x)→l.length%2=0:=by
 intro k
 induction k with
 |zero=>intro l h _ _;rw[Nat.le_zero.1 h]
 | succ k ih=>
   intro l hk hn h
   match l,hk,hn,h with
   |[],_,_,_=>rfl
   | x ::l,hk,hn,h=>
     obtain⟨hx,hn'⟩:=List.nodup_cons.1 hn
     obtain⟨h1,h2,h3⟩:=h x (by simp)
     have hfx:f x∈l:=(List.mem_cons.1 h1).resolve_left h2
     have hlen:=List.length_erase_of_mem hfx
     have hpos:=List.length_pos_of_mem hfx
     simp only[List.length_cons] at hk
     have:=ih (l.erase (f x)) (by omega) (hn'.erase _) fun y hy=>by
      obtain⟨hyx,hyl⟩:=(hn'.mem_erase_iff).1 hy
      obtain⟨k1,k2,k3⟩:=h y (List.mem_cons_of_mem _ hyl)
      have n1:f y≠x:=fun e=>hyx (by rw[←k3,e])
      have n2:f y≠f x:=fun e=>by
       have:y=x:=by rw[←k3,e,h3]
       exact hx (this▸hyl)
      exact⟨(hn'.mem_erase_iff).2 ⟨n2,(List.mem_cons.1 k1).resolve_left n1⟩,k2,k3⟩
     simp only[List.length_cons]
     omega
theorem JT {f:Nat→Nat}:∀{l:List Nat},l.Nodup→(∀x∈l,∀y∈l,f x=f y→x=y)→(l.map f).Nodup
 |[],_,_=>by simp
 | a::l,hn,h=>by
   obtain⟨ha,hn⟩:=List.nodup_cons.1 hn
   rw[List.map_cons]
   refine List.nodup_cons.2 ⟨fun hm=>?_,JT hn fun x hx y hy=>h x (List.mem_cons_of_mem _ hx) y (List.mem_cons_of_mem _ hy)⟩
   obtain⟨b,hb,e⟩:=List.mem_map.1 hm
   have:=h b (List.mem_cons_of_mem _ hb) a (by simp) e
   exact ha (this▸hb)
def num (n:Nat)(p:Nat→Bool):Nat:=((List.range n).filter p).length
theorem WT (p:Nat→Bool):∀l:List Nat,(l.filter p).length+(l.filter fun x=> !p x).length=l.length
 |[]=>rfl
 | a::l=>by
   have:=WT p l
   cases h:p a<;>simp[h]<;>omega
theorem v6 (n:Nat)(p:Nat→Bool):num n p+num n (fun x=> !p x)=n:=by
 have:=WT p (List.range n)
 rwa [List.length_range] at this
theorem zdp (n:Nat)(p q:Nat→Bool):num n (fun x=>p x&&q x)+num n (fun x=>p x&& !q x)=num n p:=by
 have:=WT q ((List.range n).filter p)
 rw[List.filter_filter,List.filter_filter] at this
 unfold num
 rw[←this]
 congr 2<;>(refine List.filter_congr fun x _=>?_;exact Bool.and_comm _ _)
theorem zlr {n:Nat}{p:Nat→Bool}{l:List Nat}(h:∀v,v<n→p v=true→v∈l):num n p≤l.length:=by
 refine Zz (List.nodup_range.filter _) fun x hx=>?_
 obtain⟨h1,h2⟩:=List.mem_filter.1 hx
 exact h x (List.mem_range.1 h1) h2
theorem zT {n:Nat}{p:Nat→Bool}{v:Nat}:v∈(List.range n).filter p↔v<n∧p v=true:=by
 rw[List.mem_filter,List.mem_range]
theorem ziw {n:Nat}{p:Nat→Bool}{v:Nat}(hv:v<n)(hp:p v=true):1≤num n p:=List.length_pos_of_mem (zT.2 ⟨hv,hp⟩)
def J1 (mt:Nat→Int)(v:Nat):Bool:=decide (mt v= -1)
def we (n:Nat)(mt:Nat→Int):Nat:=num n (J1 mt)
theorem ZO {mt:Nat→Int}{v:Nat}:J1 mt v=true↔mt v= -1:=decide_eq_true_iff
theorem um {n:Nat}{E:Nat→Nat→Prop}{mt:Nat→Int}(M:Mf n E mt):(n - we n mt)%2=0∧we n mt≤n:=by
 have h:=v6 n (J1 mt)
 have h2:=QR (fun v=>(mt v).toNat) _ ((List.range n).filter fun x=> !J1 mt x) (Nat.le_refl _) (List.nodup_range.filter _) fun x hx=>by
  obtain⟨h1,h3⟩:=zT.1 hx
  rcases M.at_ x h1 with h4|⟨w,h4,h5⟩
  · have:=ZO.2 h4
    rw[this] at h3;cases h3
  · have hs:=M.sy x w h4
    have e1:(mt x).toNat=w:=by rw[h4];rfl
    have e2:(mt w).toNat=x:=by rw[hs];rfl
    refine⟨?_,by rw[e1];exact(M.ne x w h4).1,by rw[e1,e2]⟩
    rw[e1]
    refine zT.2 ⟨h5,?_⟩
    unfold J1
    rw[hs,decide_eq_false (by omega)];rfl
 have h2':num n (fun x=> !J1 mt x)%2=0:=h2
 unfold we
 omega
structure y8 (n:Nat)(E:Nat→Nat→Prop)(mt:Nat→Int)(D A:Nat→Bool)(bs:Nat→Nat):Prop where
 dn:∀v,D v=true→v<n
 an:∀v,A v=true→v<n∧D v=false
 ed:∀v w,D v=true→E v w→A w=true∨(D w=true∧bs w=bs v)
 db:∀v,D v=true→D (bs v)=true∧bs (bs v)=bs v
 fr:∀v,v<n→mt v= -1→D v=true∧bs v=v
 am:∀a,A a=true→∃x:Nat,mt a=(x:Int)∧D x=true∧bs x=x
 dm:∀v,D v=true→bs v≠v→∃w:Nat,mt v=(w:Int)∧D w=true∧bs w=bs v
 bb:∀b m:Nat,D b=true→bs b=b→mt b=(m:Int)→A m=true
def isB (D:Nat→Bool)(bs:Nat→Nat)(v:Nat):Bool:=D v&&decide (bs v=v)
theorem qQ {D:Nat→Bool}{bs:Nat→Nat}{v:Nat}:isB D bs v=true↔D v=true∧bs v=v:=by
 unfold isB;rw[Bool.and_eq_true,decide_eq_true_iff]
theorem y8.strong {n:Nat}{E E0:Nat→Nat→Prop}{mt:Nat→Int}{D A:Nat→Bool}{bs:Nat→Nat}(C:y8 n E mt D A bs)(M:Mf n E0 mt):num n A+we n mt=num n (isB D bs):=by
 have hs:=M.sy
 refine Nat.le_antisymm ?_ ?_
 · have hA:=List.nodup_range.filter (l:=List.range n) A
   have hF:=List.nodup_range.filter (l:=List.range n) (J1 mt)
   have hm:∀a∈(List.range n).filter A,∃x:Nat,mt a=(x:Int)∧(mt a).toNat=x∧D x=true∧bs x=x:=fun a ha=>by
    obtain⟨x,h1,h2,h3⟩:=C.am a (zT.1 ha).2
    exact⟨x,h1,by rw[h1];rfl,h2,h3⟩
   have hAm:(((List.range n).filter A).map fun a=>(mt a).toNat).Nodup:=JT hA fun a ha b hb e=>by
    obtain⟨x,h1,h2,_⟩:=hm a ha
    obtain⟨y,k1,k2,_⟩:=hm b hb
    simp only[h2,k2] at e
    subst e
    have:=hs a x h1
    have:=hs b x k1
    omega
   have:=Zz (l:=((List.range n).filter A).map (fun a=>(mt a).toNat)++(List.range n).filter (J1 mt)) (m:=(List.range n).filter (isB D bs)) (List.nodup_append.2 ⟨hAm,hF,fun x hx y hy e=>?_⟩) fun x hx=>?_
   · rw[List.length_append,List.length_map] at this
     exact this
   · subst e
     obtain⟨a,ha,rfl⟩:=List.mem_map.1 hx
     obtain⟨x,h1,h2,h3,h4⟩:=hm a ha
     have h5:=ZO.1 (zT.1 hy).2
     rw[h2,hs a x h1] at h5
     omega
   · rcases List.mem_append.1 hx with hx|hx
     · obtain⟨a,ha,rfl⟩:=List.mem_map.1 hx
       obtain⟨x,h1,h2,h3,h4⟩:=hm a ha
       rw[h2]
       exact zT.2 ⟨C.dn x h3,qQ.2 ⟨h3,h4⟩⟩
     · obtain⟨h1,h2⟩:=zT.1 hx
       exact zT.2 ⟨h1,qQ.2 (C.fr x h1 (ZO.1 h2))⟩
 · have hB:=List.nodup_range.filter (l:=List.range n) (isB D bs)
   have hmate:∀b∈(List.range n).filter (isB D bs),mt b= -1∨∃m:Nat,mt b=(m:Int)∧A m=true:=fun b hb=>by
    obtain⟨k1,k2⟩:=zT.1 hb
    obtain⟨k2,k3⟩:=qQ.1 k2
    rcases M.at_ b k1 with h|⟨m,h,_⟩
    · exact .inl h
    · exact .inr ⟨m,h,C.bb b m k2 k3 h⟩
   have hnd:(((List.range n).filter (isB D bs)).map fun b=>if mt b= -1 then b else(mt b).toNat).Nodup:=JT hB fun a ha b hb e=>by
    have da:=(qQ.1 (zT.1 ha).2).1
    have db:=(qQ.1 (zT.1 hb).2).1
    rcases hmate a ha with h1|⟨x,h1,h2⟩<;>rcases hmate b hb with k1|⟨y,k1,k2⟩
    · simpa[h1,k1] using e
    · simp[h1,k1] at e
      subst e
      have:=(C.an a k2).2
      rw[da] at this;cases this
    · simp[h1,k1] at e
      subst e
      have:=(C.an x h2).2
      rw[db] at this;cases this
    · simp[h1,k1] at e
      subst e
      have:=M.sy a x h1
      have:=M.sy b x k1
      omega
   have:=Zz (m:=(List.range n).filter A++(List.range n).filter (J1 mt)) hnd fun x hx=>by
    obtain⟨b,hb,rfl⟩:=List.mem_map.1 hx
    rcases hmate b hb with h|⟨m,h1,h2⟩
    · rw[if_pos h]
      exact List.mem_append.2 (.inr (zT.2 ⟨(zT.1 hb).1,ZO.2 h⟩))
    · rw[if_neg (by omega),h1]
      exact List.mem_append.2 (.inl (zT.2 ⟨(C.an m h2).1,h2⟩))
   rw[List.length_append,List.length_map] at this
   exact this
theorem y8.odd {n:Nat}{E:Nat→Nat→Prop}{mt:Nat→Int}{D A:Nat→Bool}{bs:Nat→Nat}(C:y8 n E mt D A bs){E0:Nat→Nat→Prop}(M:Mf n E0 mt){b:Nat}(h1:D b=true)(h2:bs b=b):num n (fun x=>D x&&decide (bs x=b))%2=1:=by
 have hB:((List.range n).filter (fun x=>D x&&decide (bs x=b))).Nodup:=List.nodup_range.filter _
 have hbm:b∈(List.range n).filter (fun x=>D x&&decide (bs x=b)):=zT.2 ⟨C.dn b h1,by simp[h1,h2]⟩
 have hlen:=List.length_erase_of_mem hbm
 have hpos:=List.length_pos_of_mem hbm
 have:=QR (fun v=>(mt v).toNat) _ (((List.range n).filter (fun x=>D x&&decide (bs x=b))).erase b) (Nat.le_refl _) (hB.erase _) fun x hx=>by
  obtain⟨hxb,hxl⟩:=(hB.mem_erase_iff).1 hx
  obtain⟨hxn,hxp⟩:=zT.1 hxl
  simp only[Bool.and_eq_true,decide_eq_true_iff] at hxp
  obtain⟨w,k1,k2,k3⟩:=C.dm x hxp.1 (by rw[hxp.2];exact Ne.symm hxb)
  have hs:=M.sy x w k1
  have e1:(mt x).toNat=w:=by rw[k1];rfl
  have e2:(mt w).toNat=x:=by rw[hs];rfl
  rw[e1,e2]
  refine⟨(hB.mem_erase_iff).2 ⟨fun e=>?_,zT.2 ⟨C.dn w k2,by simp[k2,k3,hxp.2]⟩⟩,(M.ne x w k1).1,rfl⟩
  subst e
  have:=(C.an x (C.bb w x h1 h2 hs)).2
  rw[hxp.1] at this;cases this
 unfold num
 omega
theorem y8.weak {n:Nat}{E:Nat→Nat→Prop}{mt mt':Nat→Int}{D A:Nat→Bool}{bs:Nat→Nat}(C:y8 n E mt D A bs){E0:Nat→Nat→Prop}(M:Mf n E0 mt)(M':Mf n E mt'):we n mt+num n (fun v=>J1 mt' v&& !D v)≤we n mt':=by
 have hst:=C.strong M
 let R:Nat→Nat→Prop:=fun b y=>(D y=true∧bs y=b∧mt' y= -1)∨(A y=true∧∃x:Nat,mt' y=(x:Int)∧D x=true∧bs x=b)
 have hex:∀b,isB D bs b=true→∃y,R b y:=by
  intro b hb
  obtain⟨hb1,hb2⟩:=qQ.1 hb
  refine Classical.byContradiction fun hno=>?_
  have hodd:=C.odd M hb1 hb2
  have hB:=List.nodup_range.filter (l:=List.range n) (fun x=>D x&&decide (bs x=b))
  have :=QR (fun v=>(mt' v).toNat) _ ((List.range n).filter (fun x=>D x&&decide (bs x=b))) (Nat.le_refl _) hB fun x hx=>by
   obtain⟨hxn,hxp⟩:=zT.1 hx
   simp only[Bool.and_eq_true,decide_eq_true_iff] at hxp
   rcases M'.at_ x hxn with h|⟨w,h,hwn⟩
   · exact absurd ⟨x,.inl ⟨hxp.1,hxp.2,h⟩⟩ hno
   · have hs:=M'.sy x w h
     have e1:(mt' x).toNat=w:=by rw[h];rfl
     have e2:(mt' w).toNat=x:=by rw[hs];rfl
     obtain⟨hwx,hE⟩:=M'.ne x w h
     rcases C.ed x w hxp.1 hE with ha|⟨hd,hbw⟩
     · exact absurd ⟨w,.inr ⟨ha,x,hs,hxp.1,hxp.2⟩⟩ hno
     · rw[e1,e2]
       exact⟨zT.2 ⟨hwn,by simp[hd,hbw,hxp.2]⟩,hwx,rfl⟩
  unfold num at hodd
  omega
 let g:Nat→Nat:=fun b=> @dite _ (∃y,R b y) (Classical.propDecidable _) (fun h=>Classical.choose h) (fun _=>0)
 have hg:∀b,isB D bs b=true→R b (g b):=fun b hb=>by
  have h:=hex b hb
  show R b (@dite _ (∃y,R b y) (Classical.propDecidable _) (fun h=>Classical.choose h) (fun _=>0))
  rw[dif_pos h]
  exact Classical.choose_spec h
 have hinj:(((List.range n).filter (isB D bs)).map g).Nodup:=JT (List.nodup_range.filter _) fun a ha b hb e=>by
  have ra:=hg a (zT.1 ha).2
  have rb:=hg b (zT.1 hb).2
  rw[←e] at rb
  rcases ra with⟨k1,k2,k3⟩|⟨k1,x,k2,k3,k4⟩<;>rcases rb with⟨j1,j2,j3⟩|⟨j1,y,j2,j3,j4⟩
  · rw[←k2,j2]
  · have:=(C.an _ j1).2
    rw[k1] at this;cases this
  · have:=(C.an _ k1).2
    rw[j1] at this;cases this
  · obtain rfl:x=y:=by omega
    rw[←k4,j4]
 have hle:=Zz (m:=(List.range n).filter (fun v=>J1 mt' v&&D v)++(List.range n).filter (fun v=>A v&& !J1 mt' v)) hinj fun x hx=>by
  obtain⟨b,hb,rfl⟩:=List.mem_map.1 hx
  rcases hg b (zT.1 hb).2 with⟨k1,k2,k3⟩|⟨k1,x,k2,k3,k4⟩
  · exact List.mem_append.2 (.inl (zT.2 ⟨C.dn _ k1,by rw[ZO.2 k3,k1];rfl⟩))
  · refine List.mem_append.2 (.inr (zT.2 ⟨(C.an _ k1).1,?_⟩))
    have:J1 mt' (g b)=false:=decide_eq_false (by omega)
    rw[k1,this];rfl
 rw[List.length_append,List.length_map] at hle
 have e1:=zdp n (J1 mt') D
 have e2:=zdp n A (J1 mt')
 have hle':num n (isB D bs)≤num n (fun v=>J1 mt' v&&D v)+num n (fun v=>A v&& !J1 mt' v):=hle
 unfold we at*
 omega
theorem y8.most {n:Nat}{E:Nat→Nat→Prop}{mt mt':Nat→Int}{D A:Nat→Bool}{bs:Nat→Nat}(C:y8 n E mt D A bs){E0:Nat→Nat→Prop}(M:Mf n E0 mt)(M':Mf n E mt'):we n mt≤we n mt':=Nat.le_trans (Nat.le_add_right _ _) (C.weak M M')
theorem y8.less {n:Nat}{E:Nat→Nat→Prop}{mt mt':Nat→Int}{D A:Nat→Bool}{bs:Nat→Nat}(C:y8 n E mt D A bs){E0:Nat→Nat→Prop}(M:Mf n E0 mt)(M':Mf n E mt'){v:Nat}(hv:v<n)(hD:D v=false)(hm:mt' v= -1):we n mt+2≤we n mt':=by
 have h1:=C.weak M M'
 have h2:=ziw (n:=n) (p:=fun v=>J1 mt' v&& !D v) hv (by rw[ZO.2 hm,hD];rfl)
 have h3:=um M
 have h4:=um M'
 omega
def Lg (n:Nat)(E:Nat→Nat→Prop)(mt:Nat→Int):Prop:=Mf n E mt∧∀mt',Mf n E mt'→we n mt≤we n mt'
def Dm (n:Nat)(E:Nat→Nat→Prop)(v:Nat):Prop:=v<n∧∃mt,Lg n E mt∧mt v= -1
theorem y8.dm_iff {n:Nat}{E:Nat→Nat→Prop}{mt:Nat→Int}{D A:Nat→Bool}{bs:Nat→Nat}(C:y8 n E mt D A bs)(M:Mf n E mt)(hD:∀v,D v=true→∃mt',Mf n E mt'∧we n mt'≤we n mt∧mt' v= -1)(v:Nat):D v=true↔Dm n E v:=by
 constructor
 · intro h
   obtain⟨mt',h1,h2,h3⟩:=hD v h
   exact⟨C.dn v h,mt',⟨h1,fun mt2 h4=>Nat.le_trans h2 (C.most M h4)⟩,h3⟩
 · rintro⟨hv,mt',⟨h1,h2⟩,h3⟩
   cases hd:D v with
   |true=>rfl
   | false=>
     have:=C.less M h1 hv hd h3
     have:=h2 mt M
     omega
theorem zmY {n:Nat}{E:Nat→Nat→Prop}{mt:Nat→Int}{S:FS}(M:Mf n E mt)(I:J2 n E mt S){v:Nat}(hv:S.out v=true):∃mt',Mf n E mt'∧we n mt'≤we n mt∧mt' v= -1:=by
 obtain⟨r,ps,hr,hfr,hrn,W,G,nd,hy⟩:=Xg M I hv
 have hcl:=yI M.sy G hfr
 obtain⟨l,hl,hep⟩:∃l,zE ps r=v::l∧EP E l:=by
  cases G with
  |nil=>exact⟨[],rfl,trivial⟩
  |cons h1 h2 h3=>exact⟨_,rfl,zdV h3 _ h2⟩
 rw[hl] at nd hy hcl
 obtain⟨hvl,hnl⟩:=List.nodup_cons.1 nd
 have sp:=XC M.es l hep hnl
 have hrl:r∈v::l:=by rw[←hl];simp[zE]
 have hln:∀u∈l,u<n:=fun u hu=>(hy u (List.mem_cons_of_mem _ hu)).2
 let mt':Nat→Int:=fun u=>if u=v then -1 else if u∈l then(Yv l u:Int) else mt u
 have m1:mt' v= -1:=if_pos rfl
 have m2:∀u∈l,mt' u=(Yv l u:Int):=fun u hu=>by
  show(if u=v then -1 else if u∈l then(Yv l u:Int) else mt u)=_
  rw[if_neg (fun e:u=v=>hvl (e▸hu)),if_pos hu]
 have m3:∀u,u≠v→u∉l→mt' u=mt u:=fun u h1 h2=>by
  show(if u=v then -1 else if u∈l then(Yv l u:Int) else mt u)=_
  rw[if_neg h1,if_neg h2]
 have far:∀u w:Nat,u≠v→u∉l→mt u=(w:Int)→w≠v∧w∉l:=fun u w h1 h2 h3=>by
  have hs:=M.sy u w h3
  have:∀z∈v::l,z≠w:=fun z hz e=>by
   subst e
   have:=hcl z hz u hs
   rcases List.mem_cons.1 this with e|e
   · exact h1 e
   · exact h2 e
  exact⟨fun e=>this v (by simp) e.symm,fun e=>this w (List.mem_cons_of_mem _ e) rfl⟩
 have cases3:∀u,u=v∨u∈l∨(u≠v∧u∉l):=fun u=>by
  by_cases h1:u=v
  · exact .inl h1
  · by_cases h2:u∈l
    · exact .inr (.inl h2)
    · exact .inr (.inr ⟨h1,h2⟩)
 refine⟨mt',⟨fun u hu=>?_,fun u hu w h=>?_,fun u w h=>?_,fun u w h=>?_,M.es,M.el⟩,?_,m1⟩
 · rcases cases3 u with rfl|h|⟨h1,h2⟩
   · exact .inl m1
   · exact .inr ⟨_,m2 u h,hln _ (sp u h).1⟩
   · rw[m3 u h1 h2];exact M.at_ u hu
 · rcases cases3 u with rfl|h1|⟨h1,h2⟩
   · rw[m1] at h;omega
   · exact hu (hln u h1)
   · rw[m3 u h1 h2] at h;exact M.big u hu w h
 · rcases cases3 u with rfl|h1|⟨h1,h2⟩
   · rw[m1] at h;omega
   · rw[m2 u h1] at h
     obtain rfl:Yv l u=w:=by omega
     rw[m2 _ (sp u h1).1,(sp u h1).2.2]
   · rw[m3 u h1 h2] at h
     obtain⟨k1,k2⟩:=far u w h1 h2 h
     rw[m3 w k1 k2];exact M.sy u w h
 · rcases cases3 u with rfl|h1|⟨h1,h2⟩
   · rw[m1] at h;omega
   · rw[m2 u h1] at h
     obtain rfl:Yv l u=w:=by omega
     exact⟨(M.el _ _ (sp u h1).2.1).2.2.symm,(sp u h1).2.1⟩
   · rw[m3 u h1 h2] at h;exact M.ne u w h
 · have hnd:(((List.range n).filter (J1 mt')).map fun u=>if u=v then r else u).Nodup:=JT (List.nodup_range.filter _) fun a ha b hb e=>by
    have fa:=ZO.1 (zT.1 ha).2
    have fb:=ZO.1 (zT.1 hb).2
    have key:∀z,mt' z= -1→z≠v→z≠r:=fun z hz hzv e=>by
     subst e
     have:=(List.mem_cons.1 hrl).resolve_left hzv
     rw[m2 z this] at hz;omega
    by_cases h1:a=v<;>by_cases h2:b=v
    · rw[h1,h2]
    · simp only[if_pos h1,if_neg h2] at e
      exact absurd e.symm (key b fb h2)
    · simp only[if_neg h1,if_pos h2] at e
      exact absurd e (key a fa h1)
    · simpa only[if_neg h1,if_neg h2] using e
   have:=Zz (m:=(List.range n).filter (J1 mt)) hnd fun x hx=>by
    obtain⟨u,hu,rfl⟩:=List.mem_map.1 hx
    obtain⟨hun,hu⟩:=zT.1 hu
    have hu:=ZO.1 hu
    by_cases h1:u=v
    · rw[if_pos h1];exact zT.2 ⟨hrn,ZO.2 hfr⟩
    · rw[if_neg h1]
      have h2:u∉l:=fun h=>by rw[m2 u h] at hu;omega
      rw[m3 u h1 h2] at hu
      exact zT.2 ⟨hun,ZO.2 hu⟩
   rw[List.length_map] at this
   exact this
def zgh (S:FS)(v:Nat):Bool:=decide (S.lab v=2)&& !S.out v
theorem Jt {S:FS}{v:Nat}:zgh S v=true↔S.lab v=2∧S.out v=false:=by
 unfold zgh;simp
theorem J2.cert {n:Nat}{E:Nat→Nat→Prop}{mt:Nat→Int}{S:FS}(M:Mf n E mt)(I:J2 n E mt S)(L:Lk E S []):y8 n E mt S.out (zgh S) S.bs where
 dn:=fun v h=>(I.o1 v h).1
 an:=fun v h=>⟨(I.od v (Jt.1 h).1).1,(Jt.1 h).2⟩
 ed :=fun v w hv hE=>by
  obtain⟨h1,h2⟩:=L v w hv (by simp) hE
  cases ho:S.out w with
  | true=>
    rcases h2 ho with h|h
    · exact .inr ⟨rfl,h⟩
    · simp at h
  | false=>
    refine .inl (Jt.2 ⟨?_,ho⟩)
    have h3:=I.l2 w
    have h4:S.lab w≠1:=fun e=>by have:=I.e1 w e;rw[ho] at this;cases this
    omega
 db:=fun v h=>⟨(I.bo v h).1,(I.bo v h).2.2.1⟩
 fr:=fun v hv hm=>by
  have h1:=(I.fr v hv hm).1
  have ho:=I.e1 v h1
  refine⟨ho,?_⟩
  obtain⟨ps,w,_⟩:=I.wy v ho
  generalize S.bs v=b at w
  cases w with
  |here=>rfl
  |even _ _ h3 _ _=>omega
  |odd _ _ h3 _ _ _=>omega
 am:=fun a h=>by
  obtain⟨h1,h2⟩:=Jt.1 h
  obtain⟨_,x,k1,k2,_⟩:=I.od a h1
  exact⟨x,k1,I.e1 x k2,I.bx a x h1 h2 k1⟩
 dm :=fun v h hb=>by
  have hl:=I.l2 v
  have h0:=(I.o1 v h).2
  have main:∀w:Nat,mt v=(w:Int)→S.out w=true→∃w:Nat,mt v=(w:Int)∧S.out w=true∧S.bs w=S.bs v:=fun w h1 h2=>⟨w,h1,h2,(I.mate_same M h h1).2 h2⟩
  rcases(show S.lab v=1∨S.lab v=2 by omega) with e|e
  · rcases I.ev v e with⟨k,_⟩|⟨m,k1,k2⟩
    · exfalso
      obtain⟨ps,w,_⟩:=I.wy v h
      generalize S.bs v=b at w hb
      cases w with
      |here=>exact hb rfl
      |even _ _ h3 _ _=>omega
      |odd _ _ h3 _ _ _=>omega
    · cases ho:S.out m with
      |true=>exact main m k1 ho
      |false=>exact absurd (I.bx m v k2 ho (M.sy v m k1)) hb
  · obtain⟨_,x,k1,k2,_⟩:=I.od v e
    exact main x k1 (I.e1 x k2)
 bb :=fun b m h1 h2 hm=>by
  rcases I.base M h1 h2 with⟨h3,_⟩|⟨m',h3,h4,h5,_⟩
  · omega
  · obtain rfl:m'=m:=by omega
    exact Jt.2 ⟨h4,h5⟩
noncomputable def gS (n:Nat)(E:Nat→Nat→Prop)(v:Nat):Nat:=
 open Classical in if Dm n E v then 1 else if ∃ w, Dm n E w ∧ E v w then 2 else 0
theorem zdH {n:Nat}{E:Nat→Nat→Prop}{mt:Nat→Int}{S:FS}(M:Mf n E mt)(I:J2 n E mt S)(L:Lk E S []):Lg n E mt:=⟨M,fun _ M'=>(I.cert M L).most M M'⟩
theorem Kw {n:Nat}{E:Nat→Nat→Prop}{mt:Nat→Int}{S:FS}(M:Mf n E mt)(I:J2 n E mt S)(L:Lk E S [])(v:Nat):S.out v=true↔Dm n E v:=(I.cert M L).dm_iff M (fun v hv=>zmY M I hv) v
theorem zmE {n:Nat}{E:Nat→Nat→Prop}{mt:Nat→Int}{S:FS}(M:Mf n E mt)(I:J2 n E mt S)(L:Lk E S [])(v:Nat):zgh S v=true↔¬Dm n E v∧∃w,Dm n E w∧E v w:=by
 have C:=I.cert M L
 rw[←Kw M I L v]
 constructor
 · intro h
   obtain⟨h1,h2⟩:=Jt.1 h
   obtain⟨_,x,k1,k2,k3,k4,k5,k6⟩:=I.od v h1
   exact⟨by rw[h2];simp,S.pr v,(Kw M I L _).1 k4,k5⟩
 · rintro⟨h1,w,h2,h3⟩
   rcases C.ed w v ((Kw M I L w).2 h2) (M.es _ _ h3) with h|⟨h,_⟩
   · exact h
   · exact absurd h h1
theorem zg9 {n:Nat}{E:Nat→Nat→Prop}{mt:Nat→Int}{S:FS}(M:Mf n E mt)(I:J2 n E mt S)(L:Lk E S [])(v:Nat):(if S.out v=true then 1 else S.lab v)=gS n E v:=by
 have hd:=Kw M I L v
 have ha:=zmE M I L v
 unfold gS
 by_cases h:S.out v=true
 · rw[if_pos h,if_pos (hd.1 h)]
 · rw[if_neg h,if_neg (fun e=>h (hd.2 e))]
   have ho:S.out v=false:=by simpa using h
   have hl:=I.l2 v
   have h1:S.lab v≠1:=fun e=>h (I.e1 v e)
   by_cases h2:S.lab v=2
   · rw[h2,if_pos (ha.1 (Jt.2 ⟨h2,ho⟩)).2]
   · rw[if_neg]
     · omega
     · intro e
       exact h2 (Jt.1 (ha.2 ⟨fun e2=>h (hd.2 e2),e⟩)).1
theorem Mf.add {n:Nat}{E:Nat→Nat→Prop}{mt mt':Nat→Int}(M:Mf n E mt){v w:Nat}(hv:mt v= -1)(hw:mt w= -1)(hE:E v w)(h1:mt' v=(w:Int))(h2:mt' w=(v:Int))(h3:∀u,u≠v→u≠w→mt' u=mt u):Mf n E mt':=by
 obtain⟨hvn,hwn,hne⟩:=M.el v w hE
 have c3:∀u,u=v∨u=w∨(u≠v∧u≠w):=fun u=>by omega
 have far:∀u x:Nat,mt u=(x:Int)→x≠v∧x≠w:=fun u x h=>by
  have hs:=M.sy u x h
  exact⟨fun e=>by subst e;omega,fun e=>by subst e;omega⟩
 refine⟨fun u hu=>?_,fun u hu x h=>?_,fun u x h=>?_,fun u x h=>?_,M.es,M.el⟩
 · rcases c3 u with rfl|rfl|⟨k1,k2⟩
   · exact .inr ⟨w,h1,hwn⟩
   · exact .inr ⟨v,h2,hvn⟩
   · rw[h3 u k1 k2];exact M.at_ u hu
 · have k1:u≠v:=fun e=>hu (e▸hvn)
   have k2:u≠w:=fun e=>hu (e▸hwn)
   rw[h3 u k1 k2] at h
   exact M.big u hu x h
 · rcases c3 u with rfl|rfl|⟨k1,k2⟩
   · obtain rfl:w=x:=by omega
     exact h2
   · obtain rfl:v=x:=by omega
     exact h1
   · rw[h3 u k1 k2] at h
     obtain⟨j1,j2⟩:=far u x h
     rw[h3 x j1 j2];exact M.sy u x h
 · rcases c3 u with rfl|rfl|⟨k1,k2⟩
   · obtain rfl:w=x:=by omega
     exact⟨Ne.symm hne,hE⟩
   · obtain rfl:v=x:=by omega
     exact⟨hne,M.es _ _ hE⟩
   · rw[h3 u k1 k2] at h;exact M.ne u x h
theorem gT {n:Nat}{mt mt':Nat→Int}{r:Nat}(hr:r<n)(h1:mt r= -1)(h2:mt' r≠ -1)(h3:∀u,mt' u= -1→mt u= -1):we n mt'+1≤we n mt:=by
 have:=Zz (l:=r::(List.range n).filter (J1 mt')) (m:=(List.range n).filter (J1 mt)) (List.nodup_cons.2 ⟨fun h=>h2 (ZO.1 (zT.1 h).2),List.nodup_range.filter _⟩) fun x hx=>by
  rcases List.mem_cons.1 hx with rfl|hx
  · exact zT.2 ⟨hr,ZO.2 h1⟩
  · obtain⟨k1,k2⟩:=zT.1 hx
    exact zT.2 ⟨k1,ZO.2 (h3 x (ZO.1 k2))⟩
 rw[List.length_cons] at this
 exact this
theorem GR.mf {N:Nat}{es:Es}(g:GR N es):(∀v w,Z7 es v w→Z7 es w v)∧∀v w,Z7 es v w→v<N∧w<N∧v≠w:=by
 refine⟨fun v w h=>y7 h,fun v w h=>?_⟩
 rcases h with h|h
 · have:=g.ok _ h;simp only at this;omega
 · have:=g.ok _ h;simp only at this;omega
theorem GR.none {N:Nat}{es:Es}(g:GR N es){mt:Nat→Int}(h:∀v,mt v= -1):Mf N (Z7 es) mt:=
 ⟨fun v _=> .inl (h v),fun v _ w e=>by rw[h v] at e;omega,fun v w e=>by rw[h v] at e;omega,fun v w e=>by rw[h v] at e;omega,g.mf.1,g.mf.2⟩
theorem XJ {N:Nat}{es:Es}(g:GR N es)(v:Nat):(Za es v).length≤131072:=by
 have h1:(ZW es v).length≤es.length:=by simp[ZW];exact List.length_filter_le _ _
 have h2:(Z9 es v).length≤es.length:=by simp[Z9];exact List.length_filter_le _ _
 have:=g.hm
 unfold Za
 rw[List.length_append];omega
end Go.Ga.Gl
namespace Go.Proofs.Ytmcfdfafeheihaa
open Go Go.Ga Go.Ga.Gl
theorem K6 {n:Nat}(m:List Int)(hml:m.length=n){v:Nat}(hv:v<n):
    zo Try.prog [] zgt [.agg [.sl 0 0 n 1],.sc (.int .i64 (v:Int))] [some (zl m)] fun r h'=>r= .sc (.bool (decide (m.getD v 0<0)))∧h'=[some (zl m)]:=by
  have hg:(zl m)[v]?=some (.sc (.int .i64 (m.getD v 0))):=zg (by omega)
  refine zl2 rfl ?_
  unfold zkA KM
  refine za fun KY hKY=>?_
  simp only[go_sem,P9]
  apply hKY
  refine za fun KY hKY=>?_
  simp only[go_sem,P8,hg,zj,hml,hv,Nat.zero_add]
  apply hKY
  refine zi ?_
  simp only[go_sem]
theorem zcG {n:Nat}(m:List Int)(hml:m.length=n)(row:List Nat)(hr:∀x∈row,x<n)(hrl:row.length≤1000000000):
    zo Try.prog [] zjA [.imm 1 (zJ row),.fn (.func zgt) [.agg [.sl 0 0 n 1]] []] [some (zl m)] fun r h'=>(∃z:Int,r= .sc (.int .i64 z)∧(z= -1∨∃(i x:Nat),z=(i:Int)∧row[i]?=some x∧m.getD x 0<0))∧h'=[some (zl m)]:=by
  refine zl1 rfl ?_
  unfold zkz qj
  refine za fun KY hKY=>?_
  simp only[go_sem,P7]
  apply hKY
  refine zf fun X1 hn1 he1 hr1=>?_
  refine za fun KY hKY=>?_
  simp only[go_sem,P6,Zo]
  apply hKY
  refine zp fun X2 hn2 he2 hf2 hr2=>?_
  try simp only[go_sem]
  refine zP (α:=Nat) [5,9,16] (fun k=>[(8,.sc (.int .i64 (k:Int)))]) (fun k=>[some (zl m)]) (fun k q=>k≤row.length∧q=row.length - k) (0) (row.length) rfl (by first|(simp only[go_sem,zd,ze];done)|with_reducible rfl|rfl) (⟨Nat.zero_le _,rfl⟩) ?_
  rintro k q ⟨hk,rfl⟩ X3 hn3 he3 hr3
  simp only[go_sem,zd,ze]
  rcases Nat.lt_or_ge k row.length with hk2|hk2
  · have hdx:decide ((k:Int)<(row.length:Int))=true:=decide_eq_true (by omega)
    have hx:row[k]?=some (row[k]):=List.getElem?_eq_getElem hk2
    have hxg:(zJ row)[k]?=some (.sc (.int .i64 ((row[k]:Nat):Int))):=by simp[zJ,hx]
    have hxn:=hr _ (List.getElem_mem hk2)
    generalize row[k]=x at hx hxg hxn
    have hf:=K6 m hml hxn
    refine za fun KY hKY=>?_
    simp only[go_sem,u4,hdx]
    apply hKY
    refine zf fun X4 hn4 he4 hr4=>?_
    refine Zw ?_
    refine zh ?_
    repeat (first|refine hn4 _ ?_|refine he4 _ _ ?_|refine he3 _ _ ?_|refine hn2 _ ?_|refine he2 _ ?_|refine hf2 _ _ (by decide) ?_|refine hn1 _ ?_|refine he1 _ _ ?_)
    refine zf fun X5 hn5 he5 hr5=>?_
    refine zp fun X6 hn6 he6 hf6 hr6=>?_
    refine za fun KY hKY=>?_
    simp only[go_sem,P5]
    apply hKY
    refine za fun KY hKY=>?_
    simp only[go_sem,PZ,hxg,Zo,hk2]
    apply zr [] [0] false none rfl
    iterate 8 (first|(simp only[go_sem,zt]<;>rfl)|rfl)
    refine(hf).mono ?_
    rintro _ _ ⟨rfl,rfl⟩
    refine⟨Nat.le_of_ble_eq_true rfl,(fun hh=>by cases hh),?_⟩
    simp only[go_sem,zq,zb.after]
    apply hKY
    by_cases hm:m.getD x 0<0
    · have hdm:decide (m.getD x 0<0)=true:=decide_eq_true hm
      simp only[go_sem,hdm]
      refine Zw ?_
      refine za fun KY hKY=>?_
      simp only[go_sem,PW]
      apply hKY
      refine zi ?_
      repeat (first|refine hr6 _ ?_|refine hr5 _ ?_|refine hr4 _ ?_|refine hr3 _ ?_|refine hr2 _ ?_|refine hr1 _ ?_)
      simp only[go_sem]
      exact⟨_,rfl,.inr ⟨k,x,rfl,hx,hm⟩⟩
    · have hdm:decide (m.getD x 0<0)=false:=decide_eq_false hm
      simp only[go_sem,hdm]
      refine Zr ?_
      refine zh ?_
      repeat (first|refine hn6 _ ?_|refine he6 _ ?_|refine hf6 _ _ (by decide) ?_|refine hn5 _ ?_|refine he5 _ _ ?_|refine hn4 _ ?_|refine he4 _ _ ?_|refine he3 _ _ ?_|refine hn2 _ ?_|refine he2 _ ?_|refine hf2 _ _ (by decide) ?_|refine hn1 _ ?_|refine he1 _ _ ?_)
      refine zn fun KY hKY=>?_
      simp only[go_sem,PV,zH (show k<4611686018427387904 by omega)]
      apply hKY
      repeat (first|refine hn6 _ ?_|refine he6 _ ?_|refine hf6 _ _ (by decide) ?_|refine hn5 _ ?_|refine he5 _ _ ?_|refine hn4 _ ?_|refine he4 _ _ ?_)
      refine hn3 _ (k+1) (row.length - (k+1)) (by omega) (by first|(simp only[go_sem,zd,ze];done)|with_reducible rfl|rfl) ?_
      exact⟨hk2,rfl⟩
  have hdx:decide ((k:Int)<(row.length:Int))=false:=decide_eq_false (by omega)
  refine za fun KY hKY=>?_
  simp only[go_sem,u4,hdx]
  apply hKY
  refine zf fun X7 hn7 he7 hr7=>?_
  refine Zr ?_
  refine zy ?_
  repeat (first|refine hn7 _ ?_|refine he7 _ _ ?_|refine he3 _ _ ?_|refine hn2 _ ?_|refine he2 _ ?_|refine hf2 _ _ (by decide) ?_|refine hn1 _ ?_|refine he1 _ _ ?_)
  refine za fun KY hKY=>?_
  simp only[go_sem,PU]
  apply hKY
  refine zi ?_
  repeat (first|refine hr7 _ ?_|refine hr3 _ ?_|refine hr2 _ ?_|refine hr1 _ ?_)
  simp only[go_sem]
  exact⟨_,rfl,.inl rfl⟩
theorem zix {N:Nat}{es:Es}(g:GR N es):zo Try.prog [] zjB [.agg [.sc (.int .i64 (N:Int)),.imm 2 (zY (zB es))]] [] fun r h'=>(N=0∧r= .own (some 1) []∧h'=[])∨(0<N∧r= .sl 0 0 N 1∧h'=[some (zl (List.replicate N (-1)))]):=by
 have hN:=g.hn
 have hr:=jf g
 have hR:=zeu (-1) N hN
 rw[show zl [(-1:Int)]=[.sc (.int .i64 (-1))] from rfl] at hR
 refine zl3 rfl ?_
 unfold zkB xp
 refine za fun KY hKY=>?_
 simp only[go_sem,oh]
 apply hKY
 refine zf fun X1 hn1 he1 hr1=>?_
 refine za fun KY hKY=>?_
 simp only[go_sem,og]
 refine zk rfl (by simp only[go_sem]<;>rfl) ((JS N (zB es)).mono ?_)
 rintro rr hh ⟨rfl,rfl⟩
 refine⟨rfl,rfl,rfl,?_⟩
 simp only[go_sem,hr]
 apply hKY
 refine Zr ?_
 refine zh ?_
 repeat (first|refine hn1 _ ?_|refine he1 _ _ ?_)
 refine za fun KY hKY=>?_
 simp only[go_sem,oe]
 apply zr [.mv] [] false none rfl
 iterate 8 (first|(simp only[go_sem,zt]<;>rfl)|rfl)
 refine(hR).mono ?_
 rintro _ _ (⟨h0,rfl,rfl⟩|⟨h0,rfl,rfl⟩)
 · refine⟨Nat.le_of_ble_eq_true rfl,(fun hh=>by cases hh),?_⟩
   simp only[go_sem,zq,zb.after]
   apply hKY
   refine zi ?_
   repeat (first|refine hr1 _ ?_)
   simp only[go_sem]
   exact .inl h0
 · refine⟨Nat.le_of_ble_eq_true rfl,(fun hh=>by cases hh),?_⟩
   simp only[go_sem,zq,zb.after]
   apply hKY
   refine zi ?_
   repeat (first|refine hr1 _ ?_)
   simp only[go_sem]
   exact .inr h0
theorem Y7 {m:List Int}{v:Nat}(hv:v<m.length)(x:Int)(u:Nat):mf (m.set v x) u=if u=v then x else mf m u:=by
 unfold mf
 by_cases e:u=v
 · subst e;simp[hv]
 · simp[List.getElem?_set,Ne.symm e,e]
theorem zlw {N:Nat}(v:Nat):mf (List.replicate N (-1)) v= -1:=by
 unfold mf
 by_cases h:v<N
 · simp[h]
 · simp[List.getElem?_eq_none (show(List.replicate N (-1:Int)).length≤v by simp;omega)]
theorem zeZ {N:Nat}{es:Es}(g:GR N es):zo Try.prog [] zjJ [.agg [.sc (.int .i64 (N:Int)),.imm 2 (zY (zB es))]] [] fun r h'=>(N=0∧r= .sc (.slice none 0 0)∧h'=[])∨(0<N∧∃m:List Int,m.length=N∧Mf N (Z7 es) (mf m)∧r= .sl 0 0 N 1∧h'=[some (zl m)]):=by
 have hN:=g.hn
 have hem:=g.hm
 refine zme rfl ?_
 unfold zkM jp
 refine za fun KY hKY=>?_
 simp only[go_sem,OS]
 apply hKY
 refine za fun KY hKY=>?_
 simp only[go_sem,OR]
 apply zr [] [] false none rfl
 iterate 8 (first|(simp only[go_sem,zt]<;>rfl)|rfl)
 refine(zix g).mono ?_
 rintro _ _ (⟨h0,rfl,rfl⟩|⟨h0,rfl,rfl⟩)
 · refine⟨Nat.le_of_ble_eq_true rfl,(fun hh=>by cases hh),?_⟩
   simp only[go_sem,zq,zb.after]
   apply hKY
   refine zf fun X1 hn1 he1 hr1=>?_
   refine za fun KY hKY=>?_
   simp only[go_sem,Un]
   apply hKY
   refine Zw ?_
   refine za fun KY hKY=>?_
   simp only[go_sem,OQ]
   apply hKY
   refine zi ?_
   repeat (first|refine hr1 _ ?_)
   simp only[go_sem]
   exact .inl h0
 · refine ⟨Nat.le_of_ble_eq_true rfl,(fun hh=>by cases hh),?_⟩
   simp only[go_sem,zq,zb.after]
   apply hKY
   have hd0:decide ((N:Int)=0)=false:=decide_eq_false (by omega)
   refine zf fun X2 hn2 he2 hr2=>?_
   refine za fun KY hKY=>?_
   simp only[go_sem,Un,hd0]
   apply hKY
   refine Zr ?_
   refine zh ?_
   repeat (first|refine hn2 _ ?_|refine he2 _ _ ?_)
   refine za fun KY hKY=>?_
   simp only[go_sem,OP]
   apply zr [] [] true none rfl
   iterate 8 (first|(simp only[go_sem,zt]<;>rfl)|rfl)
   refine(yF g).mono ?_
   rintro _ _ ⟨rfl,rfl⟩
   refine⟨Nat.le_of_ble_eq_true rfl,(fun _=>by simp only[go_sem,Jv,and_self]),?_⟩
   simp only[go_sem,zq,zb.after]
   apply hKY
   refine ZB [0,4] (by simp only[go_sem];rfl) ?_
   simp only[go_sem,QO]
   refine zf fun X3 hn3 he3 hr3=>?_
   refine za fun KY hKY=>?_
   simp only[go_sem,OO,zj,List.length_replicate]
   apply hKY
   refine zp fun X4 hn4 he4 hf4 hr4=>?_
   try simp only[go_sem]
   refine zP (α:=Nat×List Int) [5,6,7,24,29,38] (fun(k,m)=>[(23,.sc (.int .i64 (k:Int)))]) (fun(k,m)=>[some (zl m)]) (fun(k,m) q=>m.length=N∧Mf N (Z7 es) (mf m)∧k≤N∧q=N - k) ((0,List.replicate N (-1))) (N) rfl (by first|(simp only[go_sem,zd,ze];done)|with_reducible rfl|rfl) (⟨by simp,g.none zlw,Nat.zero_le _,rfl⟩) ?_
   rintro⟨k,m⟩ q ⟨hml,M,hk,rfl⟩ X5 hn5 he5 hr5
   simp only[go_sem,zd,ze]
   rcases Nat.lt_or_ge k N with hk2|hk2
   · have hdx:decide ((k:Int)<(N:Int))=true:=decide_eq_true (by omega)
     have hfr:=K6 m hml hk2
     refine za fun KY hKY=>?_
     simp only[go_sem,Um,hdx]
     apply hKY
     refine zf fun X6 hn6 he6 hr6=>?_
     refine Zw ?_
     refine zh ?_
     repeat (first|refine hn6 _ ?_|refine he6 _ _ ?_|refine he5 _ _ ?_|refine hn4 _ ?_|refine he4 _ ?_|refine hf4 _ _ (by decide) ?_|refine hn3 _ ?_|refine he3 _ _ ?_|refine hn2 _ ?_|refine he2 _ _ ?_)
     refine zf fun X7 hn7 he7 hr7=>?_
     refine zp fun X8 hn8 he8 hf8 hr8=>?_
     refine za fun KY hKY=>?_
     simp only[go_sem,ON]
     apply hKY
     by_cases hmk:m.getD k 0<0
     · have hd1:decide (m.getD k 0<0)=true:=decide_eq_true hmk
       refine zf fun X9 hn9 he9 hr9=>?_
       refine za fun KY hKY=>?_
       simp only[go_sem,Ul]
       apply zr [] [0] false none rfl
       iterate 8 (first|(simp only[go_sem,zt]<;>rfl)|rfl)
       refine(hfr).mono ?_
       rintro _ _ ⟨rfl,rfl⟩
       refine⟨Nat.le_of_ble_eq_true rfl,(fun hh=>by cases hh),?_⟩
       simp only[go_sem,zq,zb.after,hd1]
       apply hKY
       refine Zr ?_
       refine zh ?_
       repeat (first|refine hn9 _ ?_|refine he9 _ _ ?_|refine hn8 _ ?_|refine he8 _ ?_|refine hf8 _ _ (by decide) ?_|refine hn7 _ ?_|refine he7 _ _ ?_|refine hn6 _ ?_|refine he6 _ _ ?_|refine he5 _ _ ?_|refine hn4 _ ?_|refine he4 _ ?_|refine hf4 _ _ (by decide) ?_|refine hn3 _ ?_|refine he3 _ _ ?_|refine hn2 _ ?_|refine he2 _ _ ?_)
       have hnr:=Qc (XI (es:=es) hk2)
       have hidx:=zcG m hml (Za es k) (fun x hx=>(g.mf.2 _ _ (JJ.1 hx)).2.1) (Nat.le_trans (XJ g k) (by decide))
       refine zw fun KY hKY=>?_
       simp only[go_sem,OM,hnr,jO,hk2,qg]
       apply zr [] [0] false none rfl
       iterate 8 (first|(simp only[go_sem,zt]<;>rfl)|rfl)
       refine(hidx).mono ?_
       rintro _ _ ⟨⟨z,rfl,hz⟩,rfl⟩
       refine⟨Nat.le_of_ble_eq_true rfl,(fun hh=>by cases hh),?_⟩
       simp only[go_sem,zq,zb.after]
       apply hKY
       have hmk1:mf m k= -1:=by
        rw[qY (by omega)] at hmk
        rcases M.at_ k hk2 with h|⟨w,h,_⟩
        · exact h
        · omega
       rcases hz with rfl|⟨i,x,rfl,hix,hmx⟩
       · have hd2:decide ((0:Int)≤ -1)=false:=rfl
         refine za fun KY hKY=>?_
         simp only[go_sem,W7,hd2]
         apply hKY
         refine Zr ?_
         refine zh ?_
         repeat (first|refine hn9 _ ?_|refine he9 _ _ ?_|refine hn8 _ ?_|refine he8 _ ?_|refine hf8 _ _ (by decide) ?_|refine hn7 _ ?_|refine he7 _ _ ?_|refine hn6 _ ?_|refine he6 _ _ ?_|refine he5 _ _ ?_|refine hn4 _ ?_|refine he4 _ ?_|refine hf4 _ _ (by decide) ?_|refine hn3 _ ?_|refine he3 _ _ ?_|refine hn2 _ ?_|refine he2 _ _ ?_)
         refine zn fun KY hKY=>?_
         simp only[go_sem,Yq,zH (show k<4611686018427387904 by omega)]
         apply hKY
         repeat (first|refine hn9 _ ?_|refine he9 _ _ ?_|refine hn8 _ ?_|refine he8 _ ?_|refine hf8 _ _ (by decide) ?_|refine hn7 _ ?_|refine he7 _ _ ?_|refine hn6 _ ?_|refine he6 _ _ ?_)
         refine hn5 _ ((k+1,m)) (N - (k+1)) (by omega) (by first|(simp only[go_sem,zd,ze];done)|with_reducible rfl|rfl) ?_
         exact⟨hml,M,hk2,rfl⟩
       · have hd2:decide ((0:Int)≤(i:Int))=true:=decide_eq_true (by omega)
         have hil:=(List.getElem?_eq_some_iff.1 hix).1
         have hadj:Z7 es k x:=JJ.1 (List.mem_iff_getElem?.2 ⟨i,hix⟩)
         have hxN:=(g.mf.2 _ _ hadj).2.1
         have hxk:=(g.mf.2 _ _ hadj).2.2
         have hgx:(zJ (Za es k))[i]?=some (.sc (.int .i64 (x:Int))):=by simp[zJ,hix]
         have hmx1:mf m x= -1:=by
          rw[qY (by omega)] at hmx
          rcases M.at_ x hxN with h|⟨w,h,_⟩
          · exact h
          · omega
         have hls:((m.set k (x:Int)).set x (k:Int)).length=N:=by simp[hml]
         have M2:Mf N (Z7 es) (mf ((m.set k (x:Int)).set x (k:Int))):=by
          refine M.add hmk1 hmx1 hadj ?_ ?_ fun u h1 h2=>?_
          · rw[Y7 (by simp;omega),if_neg hxk,Y7 (by omega),if_pos rfl]
          · rw[Y7 (by simp;omega),if_pos rfl]
          · rw[Y7 (by simp;omega),if_neg h2,Y7 (by omega),if_neg h1]
         refine za fun KY hKY=>?_
         simp only[go_sem,W7,hd2]
         apply hKY
         refine Zw ?_
         refine za fun KY hKY=>?_
         simp only[go_sem,kp,hnr,jO,hk2,qg,hgx,Zo,hil]
         apply hKY
         refine Jq fun KY hKY=>?_
         simp only[go_sem,ko,zj,jv,hml,hk2,hxN,List.length_set,Nat.zero_add,(show([1,0]==[0,3])=false from rfl),Bool.not_false]
         apply hKY
         repeat (first|refine hn9 _ ?_|refine he9 _ _ ?_|refine hn8 _ ?_|refine he8 _ ?_|refine hf8 _ _ (by decide) ?_|refine hn7 _ ?_|refine he7 _ _ ?_|refine hn6 _ ?_|refine he6 _ _ ?_|refine he5 _ _ ?_|refine hn4 _ ?_|refine he4 _ ?_|refine hf4 _ _ (by decide) ?_|refine hn3 _ ?_|refine he3 _ _ ?_|refine hn2 _ ?_|refine he2 _ _ ?_)
         refine zn fun KY hKY=>?_
         simp only[go_sem,Yq,zH (show k<4611686018427387904 by omega)]
         apply hKY
         repeat (first|refine hn9 _ ?_|refine he9 _ _ ?_|refine hn8 _ ?_|refine he8 _ ?_|refine hf8 _ _ (by decide) ?_|refine hn7 _ ?_|refine he7 _ _ ?_|refine hn6 _ ?_|refine he6 _ _ ?_)
         refine hn5 _ ((k+1,(m.set k (x:Int)).set x (k:Int))) (N - (k+1)) (by omega) (by first|(simp only[go_sem,zd,ze];done)|with_reducible rfl|rfl) ?_
         exact⟨hls,M2,hk2,rfl⟩
     · have hd1:decide (m.getD k 0<0)=false:=decide_eq_false hmk
       refine zf fun X10 hn10 he10 hr10=>?_
       refine za fun KY hKY=>?_
       simp only[go_sem,Ul]
       apply zr [] [0] false none rfl
       iterate 8 (first|(simp only[go_sem,zt]<;>rfl)|rfl)
       refine(hfr).mono ?_
       rintro _ _ ⟨rfl,rfl⟩
       refine⟨Nat.le_of_ble_eq_true rfl,(fun hh=>by cases hh),?_⟩
       simp only[go_sem,zq,zb.after,hd1]
       apply hKY
       refine Zw ?_
       refine zy ?_
       repeat (first|refine hn10 _ ?_|refine he10 _ _ ?_|refine hn8 _ ?_|refine he8 _ ?_|refine hf8 _ _ (by decide) ?_|refine hn7 _ ?_|refine he7 _ _ ?_|refine hn6 _ ?_|refine he6 _ _ ?_|refine he5 _ _ ?_|refine hn4 _ ?_|refine he4 _ ?_|refine hf4 _ _ (by decide) ?_|refine hn3 _ ?_|refine he3 _ _ ?_|refine hn2 _ ?_|refine he2 _ _ ?_)
       refine zn fun KY hKY=>?_
       simp only[go_sem,Yq,zH (show k<4611686018427387904 by omega)]
       apply hKY
       repeat (first|refine hn10 _ ?_|refine he10 _ _ ?_|refine hn8 _ ?_|refine he8 _ ?_|refine hf8 _ _ (by decide) ?_|refine hn7 _ ?_|refine he7 _ _ ?_|refine hn6 _ ?_|refine he6 _ _ ?_)
       refine hn5 _ ((k+1,m)) (N - (k+1)) (by omega) (by first|(simp only[go_sem,zd,ze];done)|with_reducible rfl|rfl) ?_
       exact⟨hml,M,hk2,rfl⟩
   have hdx:decide ((k:Int)<(N:Int))=false:=decide_eq_false (by omega)
   refine za fun KY hKY=>?_
   simp only[go_sem,Um,hdx]
   apply hKY
   refine zf fun X11 hn11 he11 hr11=>?_
   refine Zr ?_
   refine zy ?_
   repeat (first|refine hn11 _ ?_|refine he11 _ _ ?_|refine he5 _ _ ?_|refine hn4 _ ?_|refine he4 _ ?_|refine hf4 _ _ (by decide) ?_|refine hn3 _ ?_|refine he3 _ _ ?_|refine hn2 _ ?_|refine he2 _ _ ?_)
   refine za fun KY hKY=>?_
   simp only[go_sem,kn]
   apply hKY
   refine zi ?_
   repeat (first|refine hr11 _ ?_|refine hr5 _ ?_|refine hr4 _ ?_|refine hr3 _ ?_|refine hr2 _ ?_)
   simp only[go_sem]
   exact .inr ⟨h0,m,hml,M,rfl⟩
theorem inc (k:Nat)(h:k≤1000000000):IntKind.i64.wrap ((k:Int)+1)=((k+1:Nat):Int):=by rw[IntWalk.i64_in _ (by omega)];omega
theorem WN (xs:List Nat):zJ xs=zl (xs.map fun(n:Nat)=>(n:Int)):=by simp[zJ,zl]
theorem ziF {xs:List Int}{k:Nat}{x:Int}(h:xs[k]?=some x):(zl xs)[k]?=some (.sc (.int .i64 x)):=by simp[zl,h]
def jI :List Int→List Int→List Int
 |m,a::b::l=>jI ((m.set a.toNat b).set b.toNat a) l
 |m,_=>m
theorem Wz :∀(l m:List Int),(jI m l).length=m.length
 |[],m=>rfl
 |[_],m=>rfl
 |a::b::l,m=>by unfold jI;rw[Wz l];simp
theorem zd3 {l:List Int}{k:Nat}{a b:Int}(ha:l[2*k]?=some a)(hb:l[2*k+1]?=some b):∀m0,jI m0 (l.take (2*(k+1)))=((jI m0 (l.take (2*k))).set a.toNat b).set b.toNat a:=by
 induction k generalizing l with
 | zero=>
   intro m0
   match l,ha,hb with
   | x::y::l,ha,hb=>
     simp at ha hb
     subst ha;subst hb
     simp[jI]
 | succ k ih=>
   intro m0
   match l,ha,hb with
   |[],ha,_=>simp at ha
   |[x],ha,_=>simp at ha
   | x::y::l,ha,hb=>
     have ha':l[2*k]?=some a:=by rw[show 2*(k+1)=2*k+1+1 by omega] at ha;simpa using ha
     have hb':l[2*k+1]?=some b:=by rw[show 2*(k+1)+1=(2*k+1)+1+1 by omega] at hb;simpa using hb
     rw[show 2*(k+1+1)=2*(k+1)+1+1 by omega,show 2*(k+1)=2*k+1+1 by omega]
     simp only[List.take_succ_cons,jI]
     exact ih ha' hb' _
theorem turn_end :∀(k:Nat) (l m:List Int),l.length≤2*k+1→jI m (l.take (2*k))=jI m l
 |0,[],m,_=>rfl
 |0,[x],m,_=>rfl
 |0,_::_::_,m,h=>by simp at h
 |k+1,[],m,_=>by simp
 |k+1,[x],m,_=>by rw[show 2*(k+1)=2*k+1+1 by omega];simp
 | k+1,x::y::l,m,h=>by
   rw[show 2*(k+1)=2*k+1+1 by omega]
   simp only[List.take_succ_cons,jI]
   exact turn_end k l _ (by simp at h;omega)
theorem zh3 (m l:List Int)(hl:l.length≤1000000)(hm:m.length≤1000000)(hin:∀i,i<l.length→∃a:Nat,l.getD i 0=a∧a<m.length):zo Try.prog [] zjz [.sl 0 0 m.length 1,.imm 1 (zl l)] [some (zl m)] fun r h'=>r= .tup []∧h'=[some (zl (jI m l))]:=by
 refine zlZ rfl ?_
 unfold zkx wx
 refine za fun KY hKY=>?_
 simp only[go_sem,PM]
 apply hKY
 refine zp fun X1 hn1 he1 hf1 hr1=>?_
 have h0:m=jI m (l.take (2*0)):=by simp[jI]
 try simp only[go_sem]
 refine zP (α:=Nat) [8] (fun k=>[(4,.sc (.int .i64 ((2*k+1:Nat):Int)))]) (fun k=>[some (zl (jI m (l.take (2*k))))]) (fun k q=>2*k≤l.length+1∧q=l.length - k) (0) (l.length) rfl (by first|(simp only[go_sem,zd,ze];done)|with_reducible rfl|rfl) (⟨by omega,rfl⟩) ?_
 rintro k q ⟨hk,rfl⟩ X2 hn2 he2 hr2
 simp only[go_sem,zd,ze]
 refine zf fun X3 hn3 he3 hr3=>?_
 rcases Nat.lt_or_ge (2*k+1) l.length with hk2|hk2
 · have hdy:decide (((2*k+1:Nat):Int)<(l.length:Int))=true:=decide_eq_true (by omega)
   refine za fun KY hKY=>?_
   simp only[go_sem,u0,zj,hdy]
   apply hKY
   refine Zw ?_
   refine zh ?_
   repeat (first|refine hn3 _ ?_|refine he3 _ _ ?_|refine he2 _ _ ?_|refine hn1 _ ?_|refine he1 _ ?_|refine hf1 _ _ (by decide) ?_)
   refine zf fun X4 hn4 he4 hr4=>?_
   refine zp fun X5 hn5 he5 hf5 hr5=>?_
   have hk0:2*k<l.length:=by omega
   obtain⟨a,ha,haN⟩:=hin (2*k) hk0
   obtain⟨b,hb,hbN⟩:=hin (2*k+1) hk2
   have hd1:IntKind.i64.wrap (((2*k+1:Nat):Int) - 1)=((2*k:Nat):Int):=by rw[IntWalk.i64_in _ (by omega)];omega
   have hga:(zl l)[2*k]?=some (.sc (.int .i64 (a:Int))):=by rw[zg hk0,ha]
   have hgb:(zl l)[2*k+1]?=some (.sc (.int .i64 (b:Int))):=by rw[zg hk2,hb]
   have hla:l[2*k]?=some (a:Int):=by rw[←ha,List.getD_eq_getElem?_getD,List.getElem?_eq_getElem hk0];rfl
   have hlb:l[2*k+1]?=some (b:Int):=by rw[←hb,List.getD_eq_getElem?_getD,List.getElem?_eq_getElem hk2];rfl
   have hst:=zd3 hla hlb m
   rw[Int.toNat_natCast,Int.toNat_natCast] at hst
   have hlen:=Wz (l.take (2*k)) m
   generalize hM:jI m (l.take (2*k))=M at hst hlen
   refine Jq fun KY hKY=>?_
   simp only[go_sem,PL,hd1,hga,hgb,hk0,hk2,zj,haN,hbN,hlen,List.length_set,←hst]
   apply hKY
   repeat (first|refine hn5 _ ?_|refine he5 _ ?_|refine hf5 _ _ (by decide) ?_|refine hn4 _ ?_|refine he4 _ _ ?_|refine hn3 _ ?_|refine he3 _ _ ?_|refine he2 _ _ ?_|refine hn1 _ ?_|refine he1 _ ?_|refine hf1 _ _ (by decide) ?_)
   have hi2:IntKind.i64.wrap (((2*k+1:Nat):Int)+2)=((2*(k+1)+1:Nat):Int):=by rw[IntWalk.i64_in _ (by omega)];omega
   refine zn fun KY hKY=>?_
   simp only[go_sem,PK,hi2]
   apply hKY
   repeat (first|refine hn5 _ ?_|refine he5 _ ?_|refine hf5 _ _ (by decide) ?_|refine hn4 _ ?_|refine he4 _ _ ?_|refine hn3 _ ?_|refine he3 _ _ ?_)
   refine hn2 _ (k+1) (l.length - (k+1)) (by omega) (by first|(simp only[go_sem,zd,ze];done)|with_reducible rfl|rfl) ?_
   exact⟨by omega,rfl⟩
 have hdx:decide (((2*k+1:Nat):Int)<(l.length:Int))=false:=decide_eq_false (by omega)
 refine za fun KY hKY=>?_
 simp only[go_sem,u0,zj,hdx]
 apply hKY
 refine Zr ?_
 refine zy ?_
 repeat (first|refine hn3 _ ?_|refine he3 _ _ ?_|refine he2 _ _ ?_|refine hn1 _ ?_|refine he1 _ ?_|refine hf1 _ _ (by decide) ?_)
 rw[turn_end k l m (by omega)]
 simp only[go_sem]
theorem KV {E:Nat→Nat→Prop}:∀(l:List Nat) (m:List Int),EP E l→l.Nodup→(∀y∈l,y<m.length)→∀u,mf (jI m (l.map fun x:Nat=>(x:Int))) u=if u∈l then(Yv l u:Int) else mf m u
 |[],m,_,_,_,u=>by simp[jI]
 |[_],m,h,_,_,u=>h.elim
 | a ::b::l,m,h,hn,hl,u=>by
   simp only[List.nodup_cons,List.mem_cons,not_or] at hn
   obtain⟨⟨hab,hal⟩,hbl,hnl⟩:=hn
   have ha:=hl a (by simp)
   have hb:=hl b (by simp)
   have ih:=KV l ((m.set a (b:Int)).set b (a:Int)) h.2 hnl (fun y hy=>by simp;exact hl y (by simp[hy])) u
   simp only[List.map_cons,jI,Int.toNat_natCast]
   rw[ih]
   have e2:mf ((m.set a (b:Int)).set b (a:Int)) u=if u=b then(a:Int) else if u=a then(b:Int) else mf m u:=by
    rw[Y7 (by simp;omega),Y7 ha]
   have ep:Yv (a::b::l) u=if u=a then b else if u=b then a else Yv l u:=rfl
   rw[ep]
   by_cases h1:u=a
   · subst h1
     rw[if_neg hal,e2,if_neg hab,if_pos rfl,if_pos (by simp),if_pos rfl]
   · by_cases h2:u=b
     · subst h2
       rw[if_neg hbl,e2,if_pos rfl,if_pos (by simp),if_neg h1,if_pos rfl]
     · by_cases h3:u∈l
       · rw[if_pos h3,if_pos (by simp[h3]),if_neg h1,if_neg h2]
       · rw[if_neg h3,e2,if_neg h2,if_neg h1,if_neg (by simp[h1,h2,h3])]
theorem zcM (nr:List (List Nat)){n:Nat}{E:Nat→Nat→Prop}{m:List Int}(h0:0<n)(hnr:nr.length=n)(hml:m.length=n)(hn:n≤4096)(hrow:∀v,v<n→(nr.getD v []).length≤1000000)(M:Mf n E (mf m))(hE:∀v w,v<n→(w∈nr.getD v []↔E v w)):
    zo Try.prog [] zgx [.imm 1 (Zv nr),.sl 0 0 n 1] [some (zl m)] fun r h'=>∃(m':List Int) (S:FS) (a b:Int),m'.length=n∧Mf n E (mf m')∧J2 n E (mf m') S∧Lk E S []∧r= .tup [.own (some 1) (zl (zeQ n S)),.agg [.sc (.int .i64 a),.sc (.int .i64 b)]]∧h'=[some (zl m')]:=by
  refine zg1 rfl ?_
  unfold zhv qB
  refine za fun KY hKY=>?_
  simp only[go_sem,Uk]
  apply hKY
  refine za fun KY hKY=>?_
  simp only[go_sem,Uj]
  apply hKY
  refine zp fun X1 hn1 he1 hf1 hr1=>?_
  try simp only[go_sem]
  refine zP (α:=List Int×Int×Int) [7,8,9,26] (fun(m,a,b)=>[(6,.own none [.sc (.int .i64 a),.sc (.int .i64 b)])]) (fun(m,a,b)=>[some (zl m)]) (fun(m,a,b) q=>m.length=n∧Mf n E (mf m)∧q=we n (mf m)) ((m,0,0)) (we n (mf m)) rfl (by first|(simp only[go_sem,zd,ze];done)|with_reducible rfl|rfl) (⟨hml,M,rfl⟩) ?_
  rintro⟨m,a,b⟩ q ⟨hml,M,rfl⟩ X2 hn2 he2 hr2
  simp only[go_sem,zd,ze]
  have hS:=WC nr hnr hml hn hrow M hE
  refine zp fun X3 hn3 he3 hf3 hr3=>?_
  refine za fun KY hKY=>?_
  simp only[go_sem,Ui]
  have htk:List.take n (zl m)=zl m:=List.take_of_length_le (by rw[zj];omega)
  refine zk rfl (by simp only[go_sem,hml,Nat.le_refl,htk]<;>rfl) (hS.mono ?_)
  rintro rr hh ⟨rfl,lk,⟨l,hA,rfl⟩|⟨S,hI,hL,rfl⟩⟩
  · refine⟨?_,?_,?_,?_⟩
    iterate 3 (first|rfl|simp only[go_sem])
    have hT:=zh3 m (l.map fun x:Nat=>(x:Int)) (by
      have:=Zz (m:=List.range n) hA.nd fun x hx=>List.mem_range.2 (hA.lt x hx)
      simp at this⊢;omega) (by omega) (fun i hi=>by
        rw[List.length_map] at hi
        exact⟨l[i],by simp[hi],by rw[hml];exact hA.lt _ (List.getElem_mem hi)⟩)
    rw[←WN,hml] at hT
    have hmf:=KV l m hA.ep hA.nd (fun y hy=>by rw[hml];exact hA.lt y hy)
    obtain⟨M2,hfr,r,hrn,hr1,hr2⟩:=zc9 M hA (mt':=mf (jI m (l.map fun x:Nat=>(x:Int)))) (fun u hu=>by rw[hmf u,if_pos hu]) (fun u hu=>by rw[hmf u,if_neg hu])
    have hless:=gT hrn hr1 hr2 hfr
    have hlen2:(jI m (l.map fun x:Nat=>(x:Int))).length=n:=by rw[Wz,hml]
    cases l with
    |nil=>obtain⟨z,hz,_⟩:=hA.fr;simp at hz
    | cons c l=>
      have hnn:zJ (c::l)= .sc (.int .i64 (c:Int))::zJ l:=rfl
      simp only[go_sem]
      apply hKY
      refine za fun KY hKY=>?_
      simp only[go_sem,Wh]
      apply hKY
      refine zf fun X4 hn4 he4 hr4=>?_
      refine za fun KY hKY=>?_
      simp only[go_sem,Wg,hnn]
      apply hKY
      refine Zr ?_
      refine zh ?_
      repeat (first|refine hn4 _ ?_|refine he4 _ _ ?_|refine hn3 _ ?_|refine he3 _ ?_|refine hf3 _ _ (by decide) ?_|refine he2 _ _ ?_|refine hn1 _ ?_|refine he1 _ ?_|refine hf1 _ _ (by decide) ?_)
      simp only[go_sem]
      rw[←hnn]
      refine zn fun KY hKY=>?_
      simp only[go_sem,OL]
      apply zr [] [0] true none rfl
      iterate 8 (first|(simp only[go_sem,zt]<;>rfl)|rfl)
      refine(hT).mono ?_
      rintro _ _ ⟨rfl,rfl⟩
      refine⟨Nat.le_of_ble_eq_true rfl,(fun _=>by simp only[go_sem,Jv,and_self]),?_⟩
      simp only[go_sem,zq,zb.after]
      have hq2:we n (mf (jI m ((c::l).map fun x:Nat=>(x:Int))))<we n (mf m):=hless
      apply hKY
      repeat (first|refine hn4 _ ?_|refine he4 _ _ ?_|refine hn3 _ ?_|refine he3 _ ?_|refine hf3 _ _ (by decide) ?_)
      refine hn2 _ ((jI m ((c::l).map fun x:Nat=>(x:Int)),IntKind.i64.wrap (a+1),max b lk)) (we n (mf (jI m ((c::l).map fun x:Nat=>(x:Int))))) (by omega) (by first|(simp only[go_sem,zd,ze];done)|with_reducible rfl|rfl) ?_
      exact⟨hlen2,M2,rfl⟩
  · refine⟨?_,?_,?_,?_⟩
    iterate 3 (first|rfl|simp only[go_sem])
    simp only[go_sem]
    apply hKY
    refine za fun KY hKY=>?_
    simp only[go_sem,Wh]
    apply hKY
    refine zf fun X5 hn5 he5 hr5=>?_
    refine za fun KY hKY=>?_
    simp only[go_sem,Wg]
    apply hKY
    refine Zw ?_
    refine zw fun KY hKY=>?_
    simp only[go_sem,Uh]
    apply hKY
    refine zi ?_
    repeat (first|refine hr5 _ ?_|refine hr3 _ ?_|refine hr2 _ ?_|refine hr1 _ ?_)
    simp only[go_sem]
    exact⟨m,S,_,_,hml,M,hI,hL,rfl,rfl⟩
theorem gX {E:Nat→Nat→Prop}(M:Mf 0 E (mf [])):
    zo Try.prog [] zgx [.imm 1 (Zv []),.imm 1 (zl [])] [] fun r h'=>∃(S:FS) (a b:Int),J2 0 E (mf []) S∧Lk E S []∧r= .tup [.own (some 1) (zl (zeQ 0 S)),.agg [.sc (.int .i64 a),.sc (.int .i64 b)]]∧h'=[]:=by
  have hS:=WC [] (n:=0) (E:=E) (m:=[]) rfl rfl (by omega) (fun v hv=>by omega) M (fun v w hv=>by omega)
  refine zg1 rfl ?_
  unfold zhv qB
  refine za fun KY hKY=>?_
  simp only[go_sem,Uk]
  apply hKY
  refine za fun KY hKY=>?_
  simp only[go_sem,Uj]
  apply hKY
  refine zp fun X1 hn1 he1 hf1 hr1=>?_
  try simp only[go_sem]
  refine zP (α:=Int×Int) [7,8,9,26] (fun(a,b)=>[(6,.own none [.sc (.int .i64 a),.sc (.int .i64 b)])]) (fun(a,b)=>[]) (fun(a,b) q=>q=0) ((0,0)) (0) rfl (by first|(simp only[go_sem,zd,ze];done)|with_reducible rfl|rfl) (rfl) ?_
  rintro⟨a,b⟩ q rfl X2 hn2 he2 hr2
  simp only[go_sem,zd,ze]
  refine zp fun X3 hn3 he3 hf3 hr3=>?_
  refine za fun KY hKY=>?_
  simp only[go_sem,Ui]
  refine zk rfl (by simp only[go_sem]<;>rfl) (hS.mono ?_)
  rintro rr hh ⟨rfl,lk,⟨l,hA,rfl⟩|⟨S,hI,hL,rfl⟩⟩
  · exfalso
    obtain⟨z,hz,_⟩:=hA.fr
    have:=hA.lt z hz
    omega
  · refine⟨?_,?_,?_,?_⟩
    iterate 3 (first|rfl|simp only[go_sem])
    simp only[go_sem]
    apply hKY
    refine za fun KY hKY=>?_
    simp only[go_sem,Wh]
    apply hKY
    refine zf fun X4 hn4 he4 hr4=>?_
    refine za fun KY hKY=>?_
    simp only[go_sem,Wg]
    apply hKY
    refine Zw ?_
    refine zw fun KY hKY=>?_
    simp only[go_sem,Uh]
    apply hKY
    refine zi ?_
    repeat (first|refine hr4 _ ?_|refine hr3 _ ?_|refine hr2 _ ?_|refine hr1 _ ?_)
    simp only[go_sem]
    exact⟨S,_,_,hI,hL,rfl⟩
theorem gy {N:Nat}(es:Es){v:Nat}(hv:v<N):(JU N es).getD v []=Za es v:=by
 rw[List.getD_eq_getElem?_getD,XI hv];rfl
theorem zgl {N:Nat}(es:Es):∀v w,v<N→(w∈(JU N es).getD v []↔Z7 es v w):=fun v w hv=>by
 rw[gy es hv];exact JJ
theorem zgk {N:Nat}{es:Es}(g:GR N es):∀v,v<N→((JU N es).getD v []).length≤1000000:=fun v hv=>by
 rw[gy es hv];exact Nat.le_trans (XJ g v) (by decide)
theorem QZ {N:Nat}{es:Es}(g:GR N es):zo Try.prog [] zjW [.agg [.sc (.int .i64 (N:Int)),.imm 2 (zY (zB es))]] [] fun r h'=>∃(m:List Int) (S:FS) (a b:Int),m.length=N∧Mf N (Z7 es) (mf m)∧J2 N (Z7 es) (mf m) S∧Lk (Z7 es) S []∧((N=0∧r= .tup [.own (some 1) [],.agg [.sc (.int .i64 a),.sc (.int .i64 b)],.sc (.int .i64 0)]∧h'=[])∨(0<N∧r= .tup [.sl 0 0 N 1,.agg [.sc (.int .i64 a),.sc (.int .i64 b)],.sc (.int .i64 0)]∧h'=[some (zl m)])):=by
 have hN:=g.hn
 have hr:=jf g
 refine zms rfl ?_
 unfold zk0 yi
 refine za fun KY hKY=>?_
 simp only[go_sem,za7]
 apply hKY
 refine zf fun X1 hn1 he1 hr1=>?_
 refine za fun KY hKY=>?_
 simp only[go_sem,za6]
 refine zk rfl (by simp only[go_sem]<;>rfl) ((JS N (zB es)).mono ?_)
 rintro rr hh ⟨rfl,rfl⟩
 refine⟨rfl,rfl,rfl,?_⟩
 simp only[go_sem,hr]
 apply hKY
 refine Zr ?_
 refine zh ?_
 repeat (first|refine hn1 _ ?_|refine he1 _ _ ?_)
 refine za fun KY hKY=>?_
 simp only[go_sem,za5]
 apply zr [] [] false none rfl
 iterate 8 (first|(simp only[go_sem,zt]<;>rfl)|rfl)
 refine(zeZ g).mono ?_
 rintro _ _ (⟨h0,rfl,rfl⟩|⟨h0,m,hml,M,rfl,rfl⟩)
 · subst h0
   refine⟨Nat.le_of_ble_eq_true rfl,(fun hh=>by cases hh),?_⟩
   simp only[go_sem,zq,zb.after]
   apply hKY
   refine jC [0,5] 1 (by simp only[go_sem]) ?_
   simp only[go_sem]
   have M0:Mf 0 (Z7 es) (mf []):=g.none fun v=>by simp[mf]
   have hE0:=gX M0
   have hnr:JU 0 es=[]:=rfl
   refine za fun KY hKY=>?_
   simp only[go_sem,UE]
   apply zr [] [] true none rfl
   iterate 8 (first|(simp only[go_sem,zt]<;>rfl)|rfl)
   refine(yF g).mono ?_
   rintro _ _ ⟨rfl,rfl⟩
   refine⟨Nat.le_of_ble_eq_true rfl,(fun _=>by simp only[go_sem,Jv,and_self,hnr]),?_⟩
   simp only[go_sem,zq,zb.after,hnr]
   rw[show zc.own (some 1) (ZJ [])= .own (some 1) (ZJ []) from rfl]
   apply zr [] [] true none rfl
   iterate 8 (first|(simp only[go_sem,zt]<;>rfl)|rfl)
   refine(hE0).mono ?_
   rintro _ _ ⟨S,a,b,hI,hL,rfl,rfl⟩
   refine⟨Nat.le_of_ble_eq_true rfl,(fun _=>by simp only[go_sem,Jv,and_self]),?_⟩
   simp only[go_sem,zq,zb.after]
   apply hKY
   refine zw fun KY hKY=>?_
   simp only[go_sem,UD]
   apply hKY
   refine zi ?_
   repeat (first|refine hr1 _ ?_)
   simp only[go_sem]
   exact⟨[],S,_,_,rfl,M0,hI,hL,.inl rfl⟩
 · refine⟨Nat.le_of_ble_eq_true rfl,(fun hh=>by cases hh),?_⟩
   simp only[go_sem,zq,zb.after]
   apply hKY
   have hE1:=zcM (JU N es) h0 (jO N es) hml hN (zgk g) M (zgl es)
   refine za fun KY hKY=>?_
   simp only[go_sem,UE]
   apply zr [] [] true none rfl
   iterate 8 (first|(simp only[go_sem,zt]<;>rfl)|rfl)
   refine(yF g).mono ?_
   rintro _ _ ⟨rfl,rfl⟩
   refine⟨Nat.le_of_ble_eq_true rfl,(fun _=>by simp only[go_sem,Jv,and_self]),?_⟩
   simp only[go_sem,zq,zb.after]
   apply zr [] [0] true none rfl
   iterate 8 (first|(simp only[go_sem,zt]<;>rfl)|rfl)
   refine(hE1).mono ?_
   rintro _ _ ⟨m',S,a,b,hml',M',hI,hL,rfl,rfl⟩
   refine⟨Nat.le_of_ble_eq_true rfl,(fun _=>by simp only[go_sem,Jv,and_self]),?_⟩
   simp only[go_sem,zq,zb.after]
   apply hKY
   refine zw fun KY hKY=>?_
   simp only[go_sem,UD]
   apply hKY
   refine zi ?_
   repeat (first|refine hr1 _ ?_)
   simp only[go_sem]
   exact⟨m',S,_,_,hml',M',hI,hL,.inr ⟨h0,rfl,rfl⟩⟩
theorem Vj (l:List Nat):zl (l.map fun n:Nat=>(n:Int))=zJ l:=by simp[zl,zJ]
theorem zif (nw:List Nat)(h:nw.length≤1000000):zo Try.prog [] zjn [.sl 0 0 nw.length 1] [some (zJ nw)] fun r h'=>r= .tup []∧h'=[some (zJ (nw.mergeSort fun x y=>decide (x≤y)))]:=by
 have e:(nw.mergeSort fun x y=>decide (x≤y)).map (fun n:Nat=>(n:Int))=(nw.map fun n:Nat=>(n:Int)).mergeSort fun x y=>decide (x≤y):=
  List.map_mergeSort fun a _ b _=>by simp
 have:=zc0 (P:=Try.prog) (f:=zjn) (by kernel_rfl) (fun zs=>zs.mergeSort fun x y=>decide (x≤y)) (fun zs=>by simp) (nw.map fun n:Nat=>(n:Int))
  (fun blk off cap w hH hb=>Go.Proofs.Try.slices_Sort_int blk off cap _ w hH hb (by simp;omega))
 rw[Vj,←e,Vj,List.length_map] at this
 exact this
def Qg (nr:List (List Nat))(D:List Bool):List zc:=[.imm 1 (Zv nr),.own (some 1) (Zd D),.dead,.own (some 1) []]
theorem zgb {n:Nat}{es:Es}(g:GR n es)(D:List Bool)(hD:D.length=n)(v:Nat)(hv:v<n)(hDv:D.getD v false=false):
    zo Try.prog [] zjv [.ptr 0 0,.sc (.int .i64 (v:Int))] [some (Qg (JU n es) D)] fun r h'=>∃p D',KF n es D v D' p∧r= .own (some 1) (zJ p)∧h'=[some (Qg (JU n es) D')]:=by
  have hn:=g.hn
  have hes:=g.adj_lt
  unfold Qg
  refine zlV rfl ?_
  unfold zkt jd
  refine za fun KY hKY=>?_
  simp only[go_sem,Pg]
  apply hKY
  refine za fun KY hKY=>?_
  simp only[go_sem,Pf]
  apply hKY
  refine za fun KY hKY=>?_
  simp only[go_sem,Pe]
  apply hKY
  simp only[go_sem]
  refine jC [1,0,2] 1 (by simp only[go_sem]) ?_
  refine za fun KY hKY=>?_
  simp only[go_sem,Pd]
  apply zr [] [0] false none rfl
  iterate 8 (first|(simp only[go_sem,zt]<;>rfl)|rfl)
  refine(zdJ (JU n es) (D,[],[]) v (by rw[hD];exact hv) (Nat.zero_le _) (Nat.zero_le _)).mono ?_
  rintro _ _ ⟨rfl,rfl⟩
  unfold vm
  refine⟨Nat.le_of_ble_eq_true rfl,(fun hh=>by cases hh),?_⟩
  simp only[go_sem,zq,zb.after]
  apply hKY
  refine zf fun X1 hn1 he1 hr1=>?_
  refine zp fun X2 hn2 he2 hf2 hr2=>?_
  try simp only[go_sem]
  refine zP (α:=DS) [6,8,22,55,56,57,58] (fun s=>[]) (fun s=>[some (vm (JU n es) s)]) (fun s q=>q=2*JH s.1+s.2.2.length∧WJ n es D v s) (come (D,[],[]) v) (2*JH (come (D,[],[]) v).1+(come (D,[],[]) v).2.2.length) rfl (by first|(simp only[go_sem,zd,ze];done)|with_reducible rfl|rfl) (⟨rfl,WJ.start hD hv hDv⟩) ?_
  rintro s q ⟨hq,w⟩ X3 hn3 he3 hr3
  simp only[go_sem,zd,ze]
  have hsz:=w.size
  have hrl:=w.rl
  have hwd:=w.len
  unfold vm
  obtain⟨d,nw,r⟩:=s
  simp only at hsz hrl hq hwd
  simp only[go_sem]
  refine zf fun X4 hn4 he4 hr4=>?_
  rcases List.eq_nil_or_concat r with rfl|⟨r',u,rfl⟩
  · refine za fun KY hKY=>?_
    simp only[go_sem,uZ,show((0:Nat):Int)=0 from rfl,Int.lt_irrefl,List.length_nil]
    apply hKY
    refine Zr ?_
    refine zy ?_
    repeat (first|refine hn4 _ ?_|refine he4 _ _ ?_|refine he3 _ _ ?_|refine hn2 _ ?_|refine he2 _ ?_|refine hf2 _ _ (by decide) ?_|refine hn1 _ ?_|refine he1 _ _ ?_)
    have hnw:0<nw.length:=List.length_pos_of_mem w.self
    refine za fun KY hKY=>?_
    simp only[go_sem,VG]
    apply zr [.bo] [] false (some [1,0,2]) rfl
    iterate 8 (first|(simp only[go_sem,zt,hnw]<;>rfl)|rfl)
    refine(zif nw (by omega)).mono ?_
    rintro _ _ ⟨rfl,rfl⟩
    refine⟨Nat.le_of_ble_eq_true rfl,(fun hh=>by cases hh),?_⟩
    simp only[go_sem,zq,zb.after,List.length_mergeSort]
    apply hKY
    refine za fun KY hKY=>?_
    simp only[go_sem,VF]
    apply hKY
    refine zi ?_
    repeat (first|refine hr4 _ ?_|refine hr3 _ ?_|refine hr2 _ ?_|refine hr1 _ ?_)
    simp only[go_sem]
    refine⟨nw.mergeSort fun x y=>decide (x≤y),d,w.piece (List.mergeSort_perm _ _) ?_,rfl,rfl⟩
    have:=List.pairwise_mergeSort (le:=fun x y=>decide (x≤y)) (fun a b c h1 h2=>by simp at*;omega) (fun a b=>by simp;omega) nw
    exact this.imp fun h=>by simpa using h
  · rw[List.concat_eq_append] at*
    have hlen:(r'++[u]).length=r'.length+1:=by simp
    have hpos:(0:Int)<((r'.length+1:Nat):Int):=by omega
    have hget:(zJ (r'++[u]))[r'.length]?=some (.sc (.int .i64 (u:Int))):=by simp[zJ]
    have hcut:Zs (zJ (r'++[u])) 1 0 r'.length=zJ r':=by rw[zha];simp
    have hun:u<n:=(w.now u (w.rest u (by simp))).1
    have hll:r'.length<r'.length+1:=Nat.lt_succ_self _
    have hll2:r'.length≤r'.length+1:=Nat.le_succ _
    have hdec:=wU (show r'.length<4611686018427387904 by omega)
    refine za fun KY hKY=>?_
    simp only[go_sem,uZ,hlen,hpos]
    apply hKY
    refine Zw ?_
    refine zh ?_
    repeat (first|refine hn4 _ ?_|refine he4 _ _ ?_|refine he3 _ _ ?_|refine hn2 _ ?_|refine he2 _ ?_|refine hf2 _ _ (by decide) ?_|refine hn1 _ ?_|refine he1 _ _ ?_)
    refine zp fun X5 hn5 he5 hf5 hr5=>?_
    refine zw fun KY hKY=>?_
    simp only[go_sem,Pc,hlen,hdec,hget,hll]
    apply hKY
    refine zw fun KY hKY=>?_
    simp only[go_sem,Pb,hlen,hdec,hcut,hll2]
    apply hKY
    have hnr:=Qc (XI (es:=es) hun)
    refine za fun KY hKY=>?_
    simp only[go_sem,Pa,hnr,jO,hun]
    apply hKY
    obtain⟨w1,hm1⟩:=w.step hes
    have w2:WI n es D v (d,nw,r'):=⟨w.len,w.done,w.nd,w.now,fun x h=>w.rest x (List.mem_append_left _ h),by have:=w.rl;simp at this⊢;omega,w.conn⟩
    have hu:u∈nw:=w.rest u (List.mem_append_right _ (List.mem_singleton.2 rfl))
    have hgo:zhY es (fun x=>x=u) (d,nw,r'):=fun x hx hr hne y hy=>w.gone x hx (fun e=>by
      rcases List.mem_append.1 e with e|e
      · exact hr e
      · simp at e;exact hne e) (fun e=>e) y hy
    have hco:=gZ hes w2 hu hgo
    have hrow:(Za es u).length≤131072:=by
      have h1:=Ko es u
      have h2:=gP es u
      have:=g.hm
      simp only[Za,List.length_append];omega
    refine zp fun X6 hn6 he6 hf6 hr6=>?_
    try simp only[go_sem]
    refine zP (α:=Nat) [8,58] (fun k=>[(57,.sc (.int .i64 (k:Int)))]) (fun k=>[some (vm (JU n es) (Jx (d,nw,r') ((Za es u).take k)))]) (fun k q=>q=(Za es u).length - k∧k≤(Za es u).length) (0) ((Za es u).length) rfl (by first|(simp only[go_sem,zd,ze];done)|with_reducible rfl|rfl) (⟨by omega,by omega⟩) ?_
    rintro k q ⟨hq2,hk⟩ X7 hn7 he7 hr7
    simp only[go_sem,zd,ze]
    obtain⟨x1,x2,x3,x4,x5,x6⟩:=hco k hk
    refine za fun KY hKY=>?_
    simp only[go_sem,p9]
    apply hKY
    refine zf fun X8 hn8 he8 hr8=>?_
    by_cases hk2:k<(Za es u).length
    · refine Zw ?_
      refine zh ?_
      repeat (first|refine hn8 _ ?_|refine he8 _ _ ?_|refine he7 _ _ ?_|refine hn6 _ ?_|refine he6 _ ?_|refine hf6 _ _ (by decide) ?_|refine hn5 _ ?_|refine he5 _ ?_|refine hf5 _ _ (by decide) ?_|refine hn4 _ ?_|refine he4 _ _ ?_)
      refine zf fun X9 hn9 he9 hr9=>?_
      refine zp fun X10 hn10 he10 hf10 hr10=>?_
      have hx:(Za es u)[k]?=some ((Za es u)[k]):=List.getElem?_eq_getElem hk2
      have hxn:(zJ (Za es u))[k]?=some (.sc (.int .i64 (((Za es u)[k]:Nat):Int))):=by simp[zJ,hx]
      have hxl:(Za es u)[k]<n:=(hes u _ (JJ.1 (List.getElem_mem hk2))).2
      have hcs:=uy (d,nw,r') _ _ _ hx
      generalize (Za es u)[k]=x at hx hxn hxl hcs
      refine za fun KY hKY=>?_
      simp only[go_sem,p8,hxn,hk2]
      apply hKY
      refine zn fun KY hKY=>?_
      simp only[go_sem,VI]
      unfold vm
      have y1:=x1.size
      have y2:=x1.rl
      apply zr [] [0] false none rfl
      iterate 8 (first|(simp only[go_sem,zt]<;>rfl)|rfl)
      refine(zdJ (JU n es) (Jx (d,nw,r') ((Za es u).take k)) x (by rw[x1.len];exact hxl) (by omega) (by omega)).mono ?_
      rintro _ _ ⟨rfl,rfl⟩
      rw[←hcs]
      unfold vm
      refine⟨Nat.le_of_ble_eq_true rfl,(fun hh=>by cases hh),?_⟩
      simp only[go_sem,zq,zb.after]
      apply hKY
      repeat (first|refine hn10 _ ?_|refine he10 _ ?_|refine hf10 _ _ (by decide) ?_|refine hn9 _ ?_|refine he9 _ _ ?_|refine hn8 _ ?_|refine he8 _ _ ?_|refine he7 _ _ ?_|refine hn6 _ ?_|refine he6 _ ?_|refine hf6 _ _ (by decide) ?_|refine hn5 _ ?_|refine he5 _ ?_|refine hf5 _ _ (by decide) ?_|refine hn4 _ ?_|refine he4 _ _ ?_)
      refine zn fun KY hKY=>?_
      simp only[go_sem,VH,zH (show k<4611686018427387904 by omega)]
      apply hKY
      repeat (first|refine hn10 _ ?_|refine he10 _ ?_|refine hf10 _ _ (by decide) ?_|refine hn9 _ ?_|refine he9 _ _ ?_|refine hn8 _ ?_|refine he8 _ _ ?_)
      refine hn7 _ (k+1) ((Za es u).length - (k+1)) (by omega) (by first|(simp only[go_sem,zd,ze,vm];done)|with_reducible rfl|rfl) ?_
      exact⟨rfl,hk2⟩
    · refine Zr ?_
      refine zy ?_
      repeat (first|refine hn8 _ ?_|refine he8 _ _ ?_|refine he7 _ _ ?_|refine hn6 _ ?_|refine he6 _ ?_|refine hf6 _ _ (by decide) ?_|refine hn5 _ ?_|refine he5 _ ?_|refine hf5 _ _ (by decide) ?_|refine hn4 _ ?_|refine he4 _ _ ?_|refine he3 _ _ ?_|refine hn2 _ ?_|refine he2 _ ?_|refine hf2 _ _ (by decide) ?_|refine hn1 _ ?_|refine he1 _ _ ?_)
      obtain rfl:k=(Za es u).length:=by omega
      rw[List.take_length] at*
      repeat (first|refine hn8 _ ?_|refine he8 _ _ ?_|refine he7 _ _ ?_|refine hn6 _ ?_|refine he6 _ ?_|refine hf6 _ _ (by decide) ?_|refine hn5 _ ?_|refine he5 _ ?_|refine hf5 _ _ (by decide) ?_|refine hn4 _ ?_|refine he4 _ _ ?_)
      refine hn3 _ (Jx (d,nw,r') (Za es u)) (2*JH (Jx (d,nw,r') (Za es u)).1+(Jx (d,nw,r') (Za es u)).2.2.length) (by omega) (by first|(simp only[go_sem,zd,ze];done)|with_reducible rfl|rfl) ?_
      exact⟨rfl,w1⟩
def Ki (n:Nat)(l:List Int):List Bool:=l.foldl (fun D v=>if 0≤v∧v<(n:Int) then D.set v.toNat true else D) (List.replicate n false)
theorem zeE (n:Nat)(l:List Int)(k:Nat)(v:Int)(h:l[k]?=some v):Ki n (l.take (k+1))=if 0≤v∧v<(n:Int) then(Ki n (l.take k)).set v.toNat true else Ki n (l.take k):=by
 rw[List.take_add_one,h];simp[Ki]
theorem zdo (n:Nat)(l:List Int):(Ki n l).length=n∧∀x,x<n→((Ki n l).getD x false=true↔(x:Int)∈l):=by
  have key:∀(l:List Int) (D:List Bool) (P:Nat→Prop),D.length=n→(∀x,x<n→(D.getD x false=true↔P x))→
      (l.foldl (fun D v=>if 0≤v∧v<(n:Int) then D.set v.toNat true else D) D).length=n∧
      ∀x,x<n→((l.foldl (fun D v=>if 0≤v∧v<(n:Int) then D.set v.toNat true else D) D).getD x false=true↔P x∨(x:Int)∈l):=by
    intro l
    induction l with
    |nil=>intro D P h1 h2;exact⟨h1,fun x hx=>by simpa using h2 x hx⟩
    | cons v l ih=>
      intro D P h1 h2
      simp only[List.foldl_cons]
      obtain⟨i1,i2⟩:=ih (if 0≤v∧v<(n:Int) then D.set v.toNat true else D) (fun x=>P x∨(x:Int)=v) (by split<;>simp[h1]) (fun x hx=>by
        split
        · rename_i hv
          rw[wC,h2 x hx,h1]
          constructor
          · rintro(h|h)
            · exact .inl h
            · exact .inr (by omega)
          · rintro(h|h)
            · exact .inl h
            · exact .inr (by omega)
        · rename_i hv
          rw[h2 x hx]
          constructor
          · exact .inl
          · rintro(h|h)
            · exact h
            · omega)
      refine⟨i1,fun x hx=>?_⟩
      rw[i2 x hx,List.mem_cons,or_assoc]
  obtain⟨h1,h2⟩:=key l (List.replicate n false) (fun _=>False) (by simp) (fun x hx=>by simp[List.getD_eq_getElem?_getD,hx])
  exact⟨h1,fun x hx=>by rw[Ki,h2 x hx];simp⟩
theorem zez {n:Nat}{es:Es}{O:Nat→Prop}{v:Nat}{D:List Bool}{ps:List (List Nat)}(w:OI n es O v D ps):ps.length≤v:=by
 have h:(ps.map fun p=>p.headD 0).Pairwise (· < ·):=by
  refine List.pairwise_map.2 ?_
  refine w.heads.imp_of_mem fun{p q} hp hq h=>?_
  have h1:=w.ne p hp;have h2:=w.ne q hq
  cases p with
  |nil=>exact absurd rfl h1
  | cons a p=>cases q with
    |nil=>exact absurd rfl h2
    |cons b q=>exact h a rfl b rfl
 have h2:∀x∈ps.map fun p=>p.headD 0,x∈List.range v:=by
  intro x hx
  obtain⟨p,hp,rfl⟩:=List.mem_map.1 hx
  cases p with
  |nil=>exact absurd rfl (w.ne _ hp)
  |cons a p=>exact List.mem_range.2 (w.low _ hp a rfl)
 have:=Zz (h.imp fun h=>Nat.ne_of_lt h) h2
 simpa using this
theorem zmV {n:Nat}{es:Es}(g:GR n es)(out:List Int)(ho:out.length≤1000000000):
    zo Try.prog [] zgu [.imm 1 (Zv (JU n es)),.imm 1 (zl out)] [] fun r h'=>∃ps,Zg n es (fun v=>(v:Int)∈out) ps∧r= .own (some 1) (ZJ ps)∧(h':Heap).length≤1:=by
  have hn:=g.hn
  have hb1:n*1≤140737488355328:=by omega
  have hb0:(n:Int)≤9223372036854775807:=by omega
  refine zl6 rfl ?_
  unfold zkE ja
  refine za fun KY hKY=>?_
  simp only[go_sem,Od]
  apply hKY
  refine za fun KY hKY=>?_
  simp only[go_sem,Oc,jO,hb1]
  repeat (simp(disch:=omega) only[if_pos,if_neg,decide_eq_true,decide_eq_false,zH,zx,zg,jO,hb1];try simp only[go_sem,jO,hb1])
  apply hKY
  simp only[go_sem]
  refine K8 [0,5,2] .dead (by simp only[go_sem];rfl) rfl (Qz.dead _) ?_
  simp only[go_sem]
  refine jC [0,5,3] 1 (by simp only[go_sem]) ?_
  simp only[go_sem]
  refine WB [0,5] (by simp only[go_sem];rfl) ?_
  simp only[go_sem]
  refine zf fun X1 hn1 he1 hr1=>?_
  refine za fun KY hKY=>?_
  simp only[go_sem,Ob]
  apply hKY
  refine zp fun X2 hn2 he2 hf2 hr2=>?_
  try simp only[go_sem]
  refine zP (α:=Nat) [7,19,29] (fun k=>[(18,.sc (.int .i64 (k:Int)))]) (fun k=>[some (Qg (JU n es) (Ki n (out.take k)))]) (fun k q=>k≤out.length∧q=out.length - k) (0) (out.length) rfl (by first|(simp only[go_sem,zd,ze];done)|with_reducible rfl|rfl) (⟨by omega,rfl⟩) ?_
  rintro k q ⟨hk,rfl⟩ X3 hn3 he3 hr3
  simp only[go_sem,zd,ze]
  unfold Qg
  refine za fun KY hKY=>?_
  simp only[go_sem,Oa]
  apply hKY
  refine zf fun X4 hn4 he4 hr4=>?_
  by_cases hk2:k<out.length
  · refine Zw ?_
    refine zh ?_
    repeat (first|refine hn4 _ ?_|refine he4 _ _ ?_|refine he3 _ _ ?_|refine hn2 _ ?_|refine he2 _ ?_|refine hf2 _ _ (by decide) ?_|refine hn1 _ ?_|refine he1 _ _ ?_)
    refine zf fun X5 hn5 he5 hr5=>?_
    refine zp fun X6 hn6 he6 hf6 hr6=>?_
    have hx:out[k]?=some (out[k]):=List.getElem?_eq_getElem hk2
    have hxg:out.getD k 0=out[k]:=by simp[List.getD_eq_getElem?_getD,hx]
    generalize out[k]=v at hx hxg
    refine za fun KY hKY=>?_
    simp only[go_sem,o9,zg hk2,hxg,hk2]
    apply hKY
    have hst:=zeE n out k v hx
    have hlen:=(zdo n (out.take k)).1
    by_cases hv:0≤v
    · by_cases hvn:v<n
      · rw[if_pos ⟨hv,hvn⟩] at hst
        refine za fun KY hKY=>?_
        simp only[go_sem,We,hv,jO,hvn]
        apply hKY
        refine Zw ?_
        obtain⟨m,rfl⟩:∃m:Nat,v=m:=⟨v.toNat,by omega⟩
        have hm:m<n:=by omega
        rw[Int.toNat_natCast] at hst
        refine zn fun KY hKY=>?_
        simp only[go_sem,o8,hlen,hm,←hst]
        apply hKY
        repeat (first|refine hn6 _ ?_|refine he6 _ ?_|refine hf6 _ _ (by decide) ?_|refine hn5 _ ?_|refine he5 _ _ ?_|refine hn4 _ ?_|refine he4 _ _ ?_|refine he3 _ _ ?_|refine hn2 _ ?_|refine he2 _ ?_|refine hf2 _ _ (by decide) ?_|refine hn1 _ ?_|refine he1 _ _ ?_)
        refine zn fun KY hKY=>?_
        simp only[go_sem,Wd,zH (show k<4611686018427387904 by omega)]
        apply hKY
        repeat (first|refine hn6 _ ?_|refine he6 _ ?_|refine hf6 _ _ (by decide) ?_|refine hn5 _ ?_|refine he5 _ _ ?_|refine hn4 _ ?_|refine he4 _ _ ?_)
        refine hn3 _ (k+1) (out.length - (k+1)) (by omega) (by first|(simp only[go_sem,zd,ze,Qg];done)|with_reducible rfl|rfl) ?_
        exact⟨hk2,rfl⟩
      · rw[if_neg (by omega)] at hst
        refine za fun KY hKY=>?_
        simp only[go_sem,We,hv,jO,hvn]
        apply hKY
        refine Zr ?_
        rw[←hst]
        refine zh ?_
        repeat (first|refine hn6 _ ?_|refine he6 _ ?_|refine hf6 _ _ (by decide) ?_|refine hn5 _ ?_|refine he5 _ _ ?_|refine hn4 _ ?_|refine he4 _ _ ?_|refine he3 _ _ ?_|refine hn2 _ ?_|refine he2 _ ?_|refine hf2 _ _ (by decide) ?_|refine hn1 _ ?_|refine he1 _ _ ?_)
        refine zn fun KY hKY=>?_
        simp only[go_sem,Wd,zH (show k<4611686018427387904 by omega)]
        apply hKY
        repeat (first|refine hn6 _ ?_|refine he6 _ ?_|refine hf6 _ _ (by decide) ?_|refine hn5 _ ?_|refine he5 _ _ ?_|refine hn4 _ ?_|refine he4 _ _ ?_)
        refine hn3 _ (k+1) (out.length - (k+1)) (by omega) (by first|(simp only[go_sem,zd,ze,Qg];done)|with_reducible rfl|rfl) ?_
        exact⟨hk2,rfl⟩
    · rw[if_neg (by omega)] at hst
      refine za fun KY hKY=>?_
      simp only[go_sem,We,hv]
      apply hKY
      refine Zr ?_
      rw[←hst]
      refine zh ?_
      repeat (first|refine hn6 _ ?_|refine he6 _ ?_|refine hf6 _ _ (by decide) ?_|refine hn5 _ ?_|refine he5 _ _ ?_|refine hn4 _ ?_|refine he4 _ _ ?_|refine he3 _ _ ?_|refine hn2 _ ?_|refine he2 _ ?_|refine hf2 _ _ (by decide) ?_|refine hn1 _ ?_|refine he1 _ _ ?_)
      refine zn fun KY hKY=>?_
      simp only[go_sem,Wd,zH (show k<4611686018427387904 by omega)]
      apply hKY
      repeat (first|refine hn6 _ ?_|refine he6 _ ?_|refine hf6 _ _ (by decide) ?_|refine hn5 _ ?_|refine he5 _ _ ?_|refine hn4 _ ?_|refine he4 _ _ ?_)
      refine hn3 _ (k+1) (out.length - (k+1)) (by omega) (by first|(simp only[go_sem,zd,ze,Qg];done)|with_reducible rfl|rfl) ?_
      exact⟨hk2,rfl⟩
  · refine Zr ?_
    refine zy ?_
    repeat (first|refine hn4 _ ?_|refine he4 _ _ ?_|refine he3 _ _ ?_|refine hn2 _ ?_|refine he2 _ ?_|refine hf2 _ _ (by decide) ?_|refine hn1 _ ?_|refine he1 _ _ ?_)
    obtain rfl:k=out.length:=by omega
    rw[List.take_length]
    obtain⟨hlen,hout⟩:=zdo n out
    generalize Ki n out=D0 at hlen hout
    refine za fun KY hKY=>?_
    simp only[go_sem,o7]
    apply hKY
    simp only[go_sem]
    refine jC [0,8] 1 (by simp only[go_sem]) ?_
    refine zf fun X7 hn7 he7 hr7=>?_
    refine za fun KY hKY=>?_
    simp only[go_sem,o0,jO]
    apply hKY
    refine zp fun X8 hn8 he8 hf8 hr8=>?_
    try simp only[go_sem]
    refine zP (α:=Nat×List Bool×List (List Nat)) [9,18,19,40,49] (fun(v,D,ps)=>[(8,.own (some 1) (ZJ ps)),(39,.sc (.int .i64 (v:Int)))]) (fun(v,D,ps)=>[some (Qg (JU n es) D)]) (fun(v,D,ps) q=>v≤n∧q=n - v∧OI n es (fun v=>(v:Int)∈out) v D ps) ((0,D0,[])) (n) rfl (by first|(simp only[go_sem,zd,ze];done)|with_reducible rfl|rfl) (⟨by omega,rfl,OI.start hlen hout⟩) ?_
    rintro⟨v,D,ps⟩ q ⟨hv,rfl,w⟩ X9 hn9 he9 hr9
    simp only[go_sem,zd,ze]
    unfold Qg
    refine za fun KY hKY=>?_
    simp only[go_sem,km]
    apply hKY
    refine zf fun X10 hn10 he10 hr10=>?_
    by_cases hv2:v<n
    · refine Zw ?_
      refine zh ?_
      repeat (first|refine hn10 _ ?_|refine he10 _ _ ?_|refine he9 _ _ ?_|refine hn8 _ ?_|refine he8 _ ?_|refine hf8 _ _ (by decide) ?_|refine hn7 _ ?_|refine he7 _ _ ?_|refine hn4 _ ?_|refine he4 _ _ ?_)
      refine zf fun X11 hn11 he11 hr11=>?_
      refine zp fun X12 hn12 he12 hf12 hr12=>?_
      refine za fun KY hKY=>?_
      simp only[go_sem,kj]
      apply hKY
      have hDl:=w.len
      have hvD:v<D.length:=by omega
      have hbg:=Jn hvD
      refine za fun KY hKY=>?_
      simp only[go_sem,ki,hbg,hvD]
      apply hKY
      cases hd:D.getD v false with
      | true=>
        refine ZA (by first|rfl|(simp only[go_sem,hd];try simp(disch:=omega) only[decide_eq_true,decide_eq_false])) ?_
        refine zh ?_
        repeat (first|refine hn12 _ ?_|refine he12 _ ?_|refine hf12 _ _ (by decide) ?_|refine hn11 _ ?_|refine he11 _ _ ?_|refine hn10 _ ?_|refine he10 _ _ ?_|refine he9 _ _ ?_|refine hn8 _ ?_|refine he8 _ ?_|refine hf8 _ _ (by decide) ?_|refine hn7 _ ?_|refine he7 _ _ ?_|refine hn4 _ ?_|refine he4 _ _ ?_)
        refine zn fun KY hKY=>?_
        simp only[go_sem,W6,zH (show v<4611686018427387904 by omega)]
        apply hKY
        repeat (first|refine hn12 _ ?_|refine he12 _ ?_|refine hf12 _ _ (by decide) ?_|refine hn11 _ ?_|refine he11 _ _ ?_|refine hn10 _ ?_|refine he10 _ _ ?_)
        refine hn9 _ ((v+1,D,ps)) (n - (v+1)) (by omega) (by first|(simp only[go_sem,zd,ze,Qg];done)|with_reducible rfl|rfl) ?_
        exact⟨hv2,rfl,w.skip hd⟩
      | false=>
        refine ZM (by first|rfl|(simp only[go_sem,hd];try simp(disch:=omega) only[decide_eq_true,decide_eq_false])) ?_
        have hps:=zez w
        have hby:(ps.length+1)*24≤140737488355328:=by omega
        refine zn fun KY hKY=>?_
        simp only[go_sem,kh]
        apply zr [] [0] false none rfl
        iterate 8 (first|(simp only[go_sem,zt]<;>rfl)|rfl)
        refine(zgb g D hDl v hv2 hd).mono ?_
        rintro _ _ ⟨p,D',hp,rfl,rfl⟩
        unfold Qg
        refine⟨Nat.le_of_ble_eq_true rfl,(fun hh=>by cases hh),?_⟩
        simp only[go_sem,zq,zb.after,J9,hby,Xq]
        apply hKY
        repeat (first|refine hn12 _ ?_|refine he12 _ ?_|refine hf12 _ _ (by decide) ?_|refine hn11 _ ?_|refine he11 _ _ ?_|refine hn10 _ ?_|refine he10 _ _ ?_|refine he9 _ _ ?_|refine hn8 _ ?_|refine he8 _ ?_|refine hf8 _ _ (by decide) ?_|refine hn7 _ ?_|refine he7 _ _ ?_|refine hn4 _ ?_|refine he4 _ _ ?_)
        refine zn fun KY hKY=>?_
        simp only[go_sem,W6,zH (show v<4611686018427387904 by omega)]
        apply hKY
        repeat (first|refine hn12 _ ?_|refine he12 _ ?_|refine hf12 _ _ (by decide) ?_|refine hn11 _ ?_|refine he11 _ _ ?_|refine hn10 _ ?_|refine he10 _ _ ?_)
        refine hn9 _ ((v+1,D',ps++[p])) (n - (v+1)) (by omega) (by first|(simp only[go_sem,zd,ze,Qg];done)|with_reducible rfl|rfl) ?_
        exact⟨hv2,rfl,w.take g.adj_lt hp⟩
    · refine Zr ?_
      refine zy ?_
      repeat (first|refine hn10 _ ?_|refine he10 _ _ ?_|refine he9 _ _ ?_|refine hn8 _ ?_|refine he8 _ ?_|refine hf8 _ _ (by decide) ?_|refine hn7 _ ?_|refine he7 _ _ ?_|refine hn4 _ ?_|refine he4 _ _ ?_|refine he3 _ _ ?_|refine hn2 _ ?_|refine he2 _ ?_|refine hf2 _ _ (by decide) ?_|refine hn1 _ ?_|refine he1 _ _ ?_)
      obtain rfl:v=n:=by omega
      refine za fun KY hKY=>?_
      simp only[go_sem,kg]
      apply hKY
      refine zi ?_
      repeat (first|refine hr10 _ ?_|refine hr9 _ ?_|refine hr8 _ ?_|refine hr7 _ ?_|refine hr4 _ ?_|refine hr3 _ ?_|refine hr2 _ ?_|refine hr1 _ ?_)
      simp only[go_sem]
      exact⟨ps,w.pieces,rfl⟩
abbrev PsQ (n:Nat)(es:Es)(out:List Int)(r:zc)(h':Heap):Prop:=(∃ps,Zg n es (fun v=>(v:Int)∈out) ps∧r= .own (some 1) (ZJ ps))∧h'=[]
theorem zlp {n:Nat}{es:Es}(g:GR n es)(out:List Int)(ho:out.length≤1000000000):
    zo Try.prog [] zgu [.imm 1 (Zv (JU n es)),.imm 1 (zl out)] [] (PsQ n es out):=by
  refine zo.trim ((zmV g out ho).mono ?_)
  rintro r h' ⟨ps,h1,rfl,h2⟩
  refine⟨Nat.zero_le _,⟨ps,h1,?_⟩,rfl⟩
  simp only[zc.ren,vP]
theorem gu (ps:List (List Nat))(k:Nat)(p:List Nat)(h:ps[k]?=some p):Zf (ps.take (k+1))=Zf (ps.take k)+p.length%2:=by
 rw[List.take_add_one,h];simp[Zf]
theorem zlq (ps:List (List Nat)):Zf ps≤ps.length:=by
 induction ps with
 |nil=>exact Nat.le_refl _
 |cons p ps ih=>simp only[Zf,List.map_cons,List.sum_cons,List.length_cons] at*;omega
theorem zgJ (xs:List Int)(v:Int)(hb:xs.length≤1000000000):zo Try.prog [] zjL [.imm 1 (zl xs),.sc (.int .i64 v)] [] fun r h'=>r= .sc (.bool (decide (v∈xs)))∧h'=[]:=by
 refine zmg rfl ?_
 unfold zkO qC
 refine za fun KY hKY=>?_
 simp only[go_sem,O9]
 apply hKY
 refine zf fun X1 hn1 he1 hr1=>?_
 refine za fun KY hKY=>?_
 simp only[go_sem,O8]
 apply hKY
 refine zp fun X2 hn2 he2 hf2 hr2=>?_
 try simp only[go_sem]
 refine zP (α:=Nat) [9,17] (fun k=>[(5,.sc (.int .i64 (k:Int)))]) (fun k=>[]) (fun k q=>k≤xs.length∧q=xs.length - k∧∀j x,j<k→xs[j]?=some x→x≠v) (0) (xs.length) rfl (by first|(simp only[go_sem,zd,ze];done)|with_reducible rfl|rfl) (⟨by omega,rfl,fun j x h=>by omega⟩) ?_
 rintro k q ⟨hk,rfl,hz⟩ X3 hn3 he3 hr3
 simp only[go_sem,zd,ze]
 refine zf fun X4 hn4 he4 hr4=>?_
 refine za fun KY hKY=>?_
 simp only[go_sem,O7,zj]
 apply hKY
 by_cases hk2:k<xs.length
 · refine Zw ?_
   refine zh ?_
   repeat (first|refine hn4 _ ?_|refine he4 _ _ ?_|refine he3 _ _ ?_|refine hn2 _ ?_|refine he2 _ ?_|refine hf2 _ _ (by decide) ?_|refine hn1 _ ?_|refine he1 _ _ ?_)
   refine zf fun X5 hn5 he5 hr5=>?_
   refine zp fun X6 hn6 he6 hf6 hr6=>?_
   have hx:xs[k]?=some xs[k]:=List.getElem?_eq_getElem hk2
   have hmem:xs[k]∈xs:=List.getElem_mem hk2
   generalize xs[k]=x at hx hmem
   refine za fun KY hKY=>?_
   simp only[go_sem,O6,ziF hx,hk2]
   apply hKY
   by_cases hp:x=v
   · refine ZM (by first|rfl|(simp only[go_sem,hp];try simp(disch:=omega) only[decide_eq_true,decide_eq_false])) ?_
     refine za fun KY hKY=>?_
     simp only[go_sem,O5]
     apply hKY
     refine zi ?_
     repeat (first|refine hr6 _ ?_|refine hr5 _ ?_|refine hr4 _ ?_|refine hr3 _ ?_|refine hr2 _ ?_|refine hr1 _ ?_)
     simp only[go_sem]
     rw[decide_eq_true (hp▸hmem)]
   · refine ZA (by first|rfl|(simp only[go_sem,hp];try simp(disch:=omega) only[decide_eq_true,decide_eq_false])) ?_
     refine zh ?_
     repeat (first|refine hn6 _ ?_|refine he6 _ ?_|refine hf6 _ _ (by decide) ?_|refine hn5 _ ?_|refine he5 _ _ ?_|refine hn4 _ ?_|refine he4 _ _ ?_|refine he3 _ _ ?_|refine hn2 _ ?_|refine he2 _ ?_|refine hf2 _ _ (by decide) ?_|refine hn1 _ ?_|refine he1 _ _ ?_)
     refine zn fun KY hKY=>?_
     simp only[go_sem,O4,inc k (by omega)]
     apply hKY
     repeat (first|refine hn6 _ ?_|refine he6 _ ?_|refine hf6 _ _ (by decide) ?_|refine hn5 _ ?_|refine he5 _ _ ?_|refine hn4 _ ?_|refine he4 _ _ ?_)
     refine hn3 _ (k+1) (xs.length - (k+1)) (by omega) (by first|(simp only[go_sem,zd,ze];done)|with_reducible rfl|rfl) ?_
     refine⟨hk2,rfl,fun j y hj hy=>?_⟩
     rcases Nat.lt_or_ge j k with h|h
     · exact hz j y h hy
     · obtain rfl:j=k:=by omega
       rw[hx] at hy;cases hy;exact hp
 · refine Zr ?_
   refine zy ?_
   repeat (first|refine hn4 _ ?_|refine he4 _ _ ?_|refine he3 _ _ ?_|refine hn2 _ ?_|refine he2 _ ?_|refine hf2 _ _ (by decide) ?_|refine hn1 _ ?_|refine he1 _ _ ?_)
   refine za fun KY hKY=>?_
   simp only[go_sem,O2]
   apply hKY
   refine zi ?_
   repeat (first|refine hr4 _ ?_|refine hr3 _ ?_|refine hr2 _ ?_|refine hr1 _ ?_)
   simp only[go_sem]
   rw[decide_eq_false]
   intro hx
   obtain⟨j,hj⟩:=List.mem_iff_getElem?.1 hx
   exact hz j v (by have:=(List.getElem?_eq_some_iff.1 hj).1;omega) hj rfl
end Go.Proofs.Ytmcfdfafeheihaa
set_option maxHeartbeats 2000000
namespace Go.Proofs.Ytmcfdfafeheihaa
open Go Go.Ga Go.Ga.Gl
theorem WR (n:Nat):zF [.int .i64 0] n=zl (List.replicate n 0):=by
 rw[zeJ,WN];simp
theorem Xm {n b:Nat}{y:Int}{f g:Nat→Int}(h1:g b=y)(h2:∀v,v≠b→g v=f v):((List.range n).map f).set b y=(List.range n).map g:=by
 apply List.ext_getElem (by simp)
 intro i h3 h4
 rw[List.getElem_set]
 split
 · rename_i h;subst h;simp[h1]
 · rename_i h;simp[h2 i (Ne.symm h)]
def Yx (out:List Int)(v w:Nat):Int:=if w<v then(if(w:Int)∈out then -1 else(w:Int)) else 0
theorem gc {n :Nat}{es:Es}(g:GR n es)(out:List Int)(ho:out.length≤1000000000):
    zo Try.prog [] zds [.agg [.sc (.int .i64 (n:Int)),.imm 2 (zY (zB es))],.imm 1 (zl out)] [] (PsQ n es out):=by
  have hn:=g.hn
  have hm:=g.hm
  have hby:n*8≤140737488355328:=by omega
  have hb0:(n:Int)≤9223372036854775807:=by omega
  refine zgZ rfl ?_
  unfold zhr zZ
  refine za fun KY hKY=>?_
  simp only[go_sem,u7]
  apply hKY
  refine zf fun X1 hn1 he1 hr1=>?_
  refine za fun KY hKY=>?_
  simp only[go_sem,u6]
  refine zk rfl (by simp only[go_sem]<;>rfl) ((jT _ _).mono ?_)
  rintro rr hh ⟨rfl,rfl⟩
  refine⟨rfl,rfl,rfl,?_⟩
  simp only[go_sem,jf g]
  apply hKY
  refine Zr ?_
  refine zh ?_
  repeat (first|refine hn1 _ ?_|refine he1 _ _ ?_)
  refine za fun KY hKY=>?_
  simp only[go_sem,oz,WR,hby,hb0]
  repeat (simp(disch:=omega) only[if_pos,if_neg,decide_eq_true,decide_eq_false,zH,zx,zg,WR,hby,hb0];try simp only[go_sem,WR,hby,hb0])
  apply hKY
  simp only[go_sem]
  rw[show List.replicate n (0:Int)=(List.range n).map (Yx out 0) by
    apply List.ext_getElem (by simp)
    intro i h1 h2
    simp[Yx]]
  refine zf fun X2 hn2 he2 hr2=>?_
  refine za fun KY hKY=>?_
  simp only[go_sem,ou]
  apply hKY
  refine zp fun X3 hn3 he3 hf3 hr3=>?_
  try simp only[go_sem]
  refine zP (α:=Nat) [25,34] (fun v=>[(5,.own (some 1) (zl ((List.range n).map (Yx out v)))),(6,.sc (.int .i64 (v:Int)))]) (fun v=>[]) (fun v q=>v≤n∧q=n - v) (0) (n) rfl (by first|(simp only[go_sem,zd,ze];done)|with_reducible rfl|rfl) (⟨by omega,rfl⟩) ?_
  rintro v q ⟨hv,rfl⟩ X4 hn4 he4 hr4
  simp only[go_sem,zd,ze]
  refine zf fun X5 hn5 he5 hr5=>?_
  refine za fun KY hKY=>?_
  simp only[go_sem,ot]
  apply hKY
  by_cases hv2:v<n
  · refine Zw ?_
    refine zh ?_
    repeat (first|refine hn5 _ ?_|refine he5 _ _ ?_|refine he4 _ _ ?_|refine hn3 _ ?_|refine he3 _ ?_|refine hf3 _ _ (by decide) ?_|refine hn2 _ ?_|refine he2 _ _ ?_|refine hn1 _ ?_|refine he1 _ _ ?_)
    refine zf fun X6 hn6 he6 hr6=>?_
    refine zp fun X7 hn7 he7 hf7 hr7=>?_
    refine za fun KY hKY=>?_
    simp only[go_sem,oq,hv2,zj]
    apply hKY
    have hin:=zgJ out (v:Int) ho
    refine za fun KY hKY=>?_
    simp only[go_sem,oo]
    refine zk rfl (by simp only[go_sem]<;>rfl) ((hin).mono ?_)
    rintro rr hh ⟨rfl,rfl⟩
    refine⟨rfl,rfl,rfl,?_⟩
    simp only[go_sem]
    apply hKY
    by_cases hvo:(v:Int)∈out
    · have hset:(((List.range n).map (Yx out v)).set v (v:Int)).set v (-1)=(List.range n).map (Yx out (v+1)):=by
        rw[List.set_set]
        refine Xm (by simp[Yx,hvo]) fun w hw=>?_
        unfold Yx
        by_cases h:w<v
        · rw[if_pos (by omega),if_pos h]
        · rw[if_neg (by omega),if_neg h]
      refine ZM (by first|rfl|(simp only[go_sem,hvo];try simp(disch:=omega) only[decide_eq_true,decide_eq_false])) ?_
      refine zn fun KY hKY=>?_
      simp only[go_sem,om,hv2,zj,hset]
      apply hKY
      repeat (first|refine hn7 _ ?_|refine he7 _ ?_|refine hf7 _ _ (by decide) ?_|refine hn6 _ ?_|refine he6 _ _ ?_|refine hn5 _ ?_|refine he5 _ _ ?_|refine he4 _ _ ?_|refine hn3 _ ?_|refine he3 _ ?_|refine hf3 _ _ (by decide) ?_|refine hn2 _ ?_|refine he2 _ _ ?_|refine hn1 _ ?_|refine he1 _ _ ?_)
      refine zn fun KY hKY=>?_
      simp only[go_sem,u5,inc v (by omega)]
      apply hKY
      repeat (first|refine hn7 _ ?_|refine he7 _ ?_|refine hf7 _ _ (by decide) ?_|refine hn6 _ ?_|refine he6 _ _ ?_|refine hn5 _ ?_|refine he5 _ _ ?_)
      refine hn4 _ (v+1) (n - (v+1)) (by omega) (by first|(simp only[go_sem,zd,ze];done)|with_reducible rfl|rfl) ?_
      exact⟨hv2,rfl⟩
    · have hset:((List.range n).map (Yx out v)).set v (v:Int)=(List.range n).map (Yx out (v+1)):=by
        refine Xm (by simp[Yx,hvo]) fun w hw=>?_
        unfold Yx
        by_cases h:w<v
        · rw[if_pos (by omega),if_pos h]
        · rw[if_neg (by omega),if_neg h]
      refine ZA (by first|rfl|(simp only[go_sem,hvo];try simp(disch:=omega) only[decide_eq_true,decide_eq_false])) ?_
      rw[hset]
      refine zh ?_
      repeat (first|refine hn7 _ ?_|refine he7 _ ?_|refine hf7 _ _ (by decide) ?_|refine hn6 _ ?_|refine he6 _ _ ?_|refine hn5 _ ?_|refine he5 _ _ ?_|refine he4 _ _ ?_|refine hn3 _ ?_|refine he3 _ ?_|refine hf3 _ _ (by decide) ?_|refine hn2 _ ?_|refine he2 _ _ ?_|refine hn1 _ ?_|refine he1 _ _ ?_)
      refine zn fun KY hKY=>?_
      simp only[go_sem,u5,inc v (by omega)]
      apply hKY
      repeat (first|refine hn7 _ ?_|refine he7 _ ?_|refine hf7 _ _ (by decide) ?_|refine hn6 _ ?_|refine he6 _ _ ?_|refine hn5 _ ?_|refine he5 _ _ ?_)
      refine hn4 _ (v+1) (n - (v+1)) (by omega) (by first|(simp only[go_sem,zd,ze];done)|with_reducible rfl|rfl) ?_
      exact⟨hv2,rfl⟩
  · refine Zr ?_
    refine zy ?_
    repeat (first|refine hn5 _ ?_|refine he5 _ _ ?_|refine he4 _ _ ?_|refine hn3 _ ?_|refine he3 _ ?_|refine hf3 _ _ (by decide) ?_|refine hn2 _ ?_|refine he2 _ _ ?_|refine hn1 _ ?_|refine he1 _ _ ?_)
    obtain rfl:v=n:=by omega
    have w0:LI v es (fun w=>(w:Int)∈out) ((List.range v).map (Yx out v)):=by
      refine LI.start (by simp) fun w hw=>?_
      have:((List.range v).map (Yx out v)).getD w 0=Yx out v w:=by simp[List.getD_eq_getElem?_getD,hw]
      rw[this]
      unfold Yx
      rw[if_pos hw]
      exact⟨fun h=>by rw[if_pos h],fun h=>by rw[if_neg h]⟩
    generalize (List.range v).map (Yx out v)=L0 at w0
    refine zf fun X8 hn8 he8 hr8=>?_
    refine za fun KY hKY=>?_
    simp only[go_sem,kf]
    apply hKY
    refine zp fun X9 hn9 he9 hf9 hr9=>?_
    try simp only[go_sem]
    refine zP (α:=List Int×Bool) [8,9,10,11,25,34,38,43,80] (fun(lab,ag)=>[(5,.own (some 1) (zl lab)),(7,.sc (.bool ag))]) (fun(lab,ag)=>[]) (fun(lab,ag) q=>q=Jc lab+ag.toNat∧LI v es (fun w=>(w:Int)∈out) lab∧(ag=false→∀e∈es,lab.getD e.1 0<0∨lab.getD e.2 0<0∨lab.getD e.1 0=lab.getD e.2 0)) ((L0,true)) (Jc L0+1) rfl (by first|(simp only[go_sem,zd,ze];done)|with_reducible rfl|rfl) (⟨rfl,w0,(fun h=>by cases h)⟩) ?_
    rintro⟨lab,ag⟩ q ⟨hq,W,hfix⟩ X10 hn10 he10 hr10
    simp only[go_sem,zd,ze]
    refine zf fun X11 hn11 he11 hr11=>?_
    refine za fun KY hKY=>?_
    simp only[go_sem,ke]
    apply hKY
    cases ag with
    | true=>
      have hq:q=Jc lab+1:=hq
      refine Zw ?_
      refine zh ?_
      repeat (first|refine hn11 _ ?_|refine he11 _ _ ?_|refine he10 _ _ ?_|refine hn9 _ ?_|refine he9 _ ?_|refine hf9 _ _ (by decide) ?_|refine hn8 _ ?_|refine he8 _ _ ?_|refine hn5 _ ?_|refine he5 _ _ ?_)
      refine zp fun X12 hn12 he12 hf12 hr12=>?_
      refine za fun KY hKY=>?_
      simp only[go_sem,kb]
      apply hKY
      refine za fun KY hKY=>?_
      simp only[go_sem,ka]
      apply hKY
      simp only[go_sem]
      refine zp fun X13 hn13 he13 hf13 hr13=>?_
      try simp only[go_sem]
      refine zP (α:=Nat×List Int×Bool) [9,10,11,43,80] (fun(k,lab',ag)=>[(5,.own (some 1) (zl lab')),(7,.sc (.bool ag)),(8,.sc (.int .i64 (k:Int)))]) (fun(k,lab',ag)=>[]) (fun(k,lab',ag) q=>k≤es.length∧q=es.length - k∧LI v es (fun w=>(w:Int)∈out) lab'∧(ag=true→Jc lab'<Jc lab)∧(ag=false→∀e∈es.take k,lab'.getD e.1 0<0∨lab'.getD e.2 0<0∨lab'.getD e.1 0=lab'.getD e.2 0)∧Jc lab'≤Jc lab) ((0,lab,false)) (es.length) rfl (by first|(simp only[go_sem,zd,ze];done)|with_reducible rfl|rfl) (⟨Nat.zero_le _,rfl,W,(fun h=>by cases h),(fun _ e he=>by simp at he),Nat.le_refl _⟩) ?_
      rintro⟨k,lab',ag⟩ q ⟨hk,rfl,W',h1,h2,h3⟩ X14 hn14 he14 hr14
      simp only[go_sem,zd,ze]
      refine zf fun X15 hn15 he15 hr15=>?_
      refine za fun KY hKY=>?_
      simp only[go_sem,V9,zA]
      apply hKY
      by_cases hk2:k<es.length
      · refine Zw ?_
        refine zh ?_
        repeat (first|refine hn15 _ ?_|refine he15 _ _ ?_|refine he14 _ _ ?_|refine hn13 _ ?_|refine he13 _ ?_|refine hf13 _ _ (by decide) ?_|refine hn12 _ ?_|refine he12 _ ?_|refine hf12 _ _ (by decide) ?_|refine hn11 _ ?_|refine he11 _ _ ?_)
        refine zf fun X16 hn16 he16 hr16=>?_
        refine zp fun X17 hn17 he17 hf17 hr17=>?_
        have hx:es[k]?=some es[k]:=List.getElem?_eq_getElem hk2
        have hy:=g.ok es[k] (List.getElem_mem hk2)
        have hxm:es[k]∈es:=List.getElem_mem hk2
        generalize es[k]=x at hx hy hxm
        obtain⟨a,b⟩:=x
        simp only at hy
        have hx':=Qq hx
        have hal:a<lab'.length:=by rw[W'.len];omega
        have hbl:b<lab'.length:=by rw[W'.len];omega
        have hb1:k*2+1<es.length*2:=by omega
        have hb2:k*2<es.length*2:=by omega
        have htk:∀e,e∈es.take (k+1)→e∈es.take k∨e=(a,b):=fun e he=>by
          rw[List.take_add_one,hx] at he
          simpa using he
        refine zw fun KY hKY=>?_
        simp only[go_sem,V8,zA,hk2,KT hx',KS hx',hb1,hb2]
        apply hKY
        refine zf fun X18 hn18 he18 hr18=>?_
        by_cases c1:lab'.getD a 0<0
        · refine zw fun KY hKY=>?_
          simp only[go_sem,Qv,zg hal,zg hbl,hal,hbl,c1]
          apply hKY
          refine Zw ?_
          refine zy ?_
          repeat (first|refine hn18 _ ?_|refine he18 _ _ ?_|refine hn17 _ ?_|refine he17 _ ?_|refine hf17 _ _ (by decide) ?_|refine hn16 _ ?_|refine he16 _ _ ?_|refine hn15 _ ?_|refine he15 _ _ ?_|refine he14 _ _ ?_|refine hn13 _ ?_|refine he13 _ ?_|refine hf13 _ _ (by decide) ?_|refine hn12 _ ?_|refine he12 _ ?_|refine hf12 _ _ (by decide) ?_|refine hn11 _ ?_|refine he11 _ _ ?_|refine he10 _ _ ?_|refine hn9 _ ?_|refine he9 _ ?_|refine hf9 _ _ (by decide) ?_|refine hn8 _ ?_|refine he8 _ _ ?_|refine hn5 _ ?_|refine he5 _ _ ?_|refine he4 _ _ ?_|refine hn3 _ ?_|refine he3 _ ?_|refine hf3 _ _ (by decide) ?_|refine hn2 _ ?_|refine he2 _ _ ?_|refine hn1 _ ?_|refine he1 _ _ ?_)
          refine zn fun KY hKY=>?_
          simp only[go_sem,Qu,inc k (by omega)]
          apply hKY
          repeat (first|refine hn18 _ ?_|refine he18 _ _ ?_|refine hn17 _ ?_|refine he17 _ ?_|refine hf17 _ _ (by decide) ?_|refine hn16 _ ?_|refine he16 _ _ ?_|refine hn15 _ ?_|refine he15 _ _ ?_)
          refine hn14 _ ((k+1,lab',ag)) (es.length - (k+1)) (by omega) (by first|(simp only[go_sem,zd,ze];done)|with_reducible rfl|rfl) ?_
          refine⟨hk2,rfl,W',h1,(fun h e he=>?_),h3⟩
          rcases htk e he with h'|rfl
          · exact h2 h e h'
          · simp only;omega
        · by_cases c2:lab'.getD b 0<0
          · refine zw fun KY hKY=>?_
            simp only[go_sem,Qv,zg hal,zg hbl,hal,hbl,c1,c2]
            apply hKY
            refine Zw ?_
            refine zy ?_
            repeat (first|refine hn18 _ ?_|refine he18 _ _ ?_|refine hn17 _ ?_|refine he17 _ ?_|refine hf17 _ _ (by decide) ?_|refine hn16 _ ?_|refine he16 _ _ ?_|refine hn15 _ ?_|refine he15 _ _ ?_|refine he14 _ _ ?_|refine hn13 _ ?_|refine he13 _ ?_|refine hf13 _ _ (by decide) ?_|refine hn12 _ ?_|refine he12 _ ?_|refine hf12 _ _ (by decide) ?_|refine hn11 _ ?_|refine he11 _ _ ?_|refine he10 _ _ ?_|refine hn9 _ ?_|refine he9 _ ?_|refine hf9 _ _ (by decide) ?_|refine hn8 _ ?_|refine he8 _ _ ?_|refine hn5 _ ?_|refine he5 _ _ ?_|refine he4 _ _ ?_|refine hn3 _ ?_|refine he3 _ ?_|refine hf3 _ _ (by decide) ?_|refine hn2 _ ?_|refine he2 _ _ ?_|refine hn1 _ ?_|refine he1 _ _ ?_)
            refine zn fun KY hKY=>?_
            simp only[go_sem,Qu,inc k (by omega)]
            apply hKY
            repeat (first|refine hn18 _ ?_|refine he18 _ _ ?_|refine hn17 _ ?_|refine he17 _ ?_|refine hf17 _ _ (by decide) ?_|refine hn16 _ ?_|refine he16 _ _ ?_|refine hn15 _ ?_|refine he15 _ _ ?_)
            refine hn14 _ ((k+1,lab',ag)) (es.length - (k+1)) (by omega) (by first|(simp only[go_sem,zd,ze];done)|with_reducible rfl|rfl) ?_
            refine⟨hk2,rfl,W',h1,(fun h e he=>?_),h3⟩
            rcases htk e he with h'|rfl
            · exact h2 h e h'
            · simp only;omega
          · by_cases c3:lab'.getD a 0=lab'.getD b 0
            · have c3':decide (lab'.getD a 0=lab'.getD b 0)=true:=decide_eq_true c3
              refine zw fun KY hKY=>?_
              simp only[go_sem,Qv,zg hal,zg hbl,hal,hbl,c1,c2,c3']
              apply hKY
              refine Zw ?_
              refine zy ?_
              repeat (first|refine hn18 _ ?_|refine he18 _ _ ?_|refine hn17 _ ?_|refine he17 _ ?_|refine hf17 _ _ (by decide) ?_|refine hn16 _ ?_|refine he16 _ _ ?_|refine hn15 _ ?_|refine he15 _ _ ?_|refine he14 _ _ ?_|refine hn13 _ ?_|refine he13 _ ?_|refine hf13 _ _ (by decide) ?_|refine hn12 _ ?_|refine he12 _ ?_|refine hf12 _ _ (by decide) ?_|refine hn11 _ ?_|refine he11 _ _ ?_|refine he10 _ _ ?_|refine hn9 _ ?_|refine he9 _ ?_|refine hf9 _ _ (by decide) ?_|refine hn8 _ ?_|refine he8 _ _ ?_|refine hn5 _ ?_|refine he5 _ _ ?_|refine he4 _ _ ?_|refine hn3 _ ?_|refine he3 _ ?_|refine hf3 _ _ (by decide) ?_|refine hn2 _ ?_|refine he2 _ _ ?_|refine hn1 _ ?_|refine he1 _ _ ?_)
              refine zn fun KY hKY=>?_
              simp only[go_sem,Qu,inc k (by omega)]
              apply hKY
              repeat (first|refine hn18 _ ?_|refine he18 _ _ ?_|refine hn17 _ ?_|refine he17 _ ?_|refine hf17 _ _ (by decide) ?_|refine hn16 _ ?_|refine he16 _ _ ?_|refine hn15 _ ?_|refine he15 _ _ ?_)
              refine hn14 _ ((k+1,lab',ag)) (es.length - (k+1)) (by omega) (by first|(simp only[go_sem,zd,ze];done)|with_reducible rfl|rfl) ?_
              refine⟨hk2,rfl,W',h1,(fun h e he=>?_),h3⟩
              rcases htk e he with h'|rfl
              · exact h2 h e h'
              · simp only;omega
            · refine zw fun KY hKY=>?_
              simp only[go_sem,Qv,zg hal,zg hbl,hal,hbl,c1,c2,c3]
              apply hKY
              refine Zr ?_
              refine zh ?_
              repeat (first|refine hn18 _ ?_|refine he18 _ _ ?_|refine hn17 _ ?_|refine he17 _ ?_|refine hf17 _ _ (by decide) ?_|refine hn16 _ ?_|refine he16 _ _ ?_|refine hn15 _ ?_|refine he15 _ _ ?_|refine he14 _ _ ?_|refine hn13 _ ?_|refine he13 _ ?_|refine hf13 _ _ (by decide) ?_|refine hn12 _ ?_|refine he12 _ ?_|refine hf12 _ _ (by decide) ?_|refine hn11 _ ?_|refine he11 _ _ ?_)
              refine zw fun KY hKY=>?_
              simp only[go_sem,V7,zg hal,zg hbl,hal,hbl]
              apply hKY
              have hfold:(lab'.set a (min (lab'.getD a 0) (lab'.getD b 0))).set b (min (lab'.getD a 0) (lab'.getD b 0))=gJ lab' a b:=rfl
              refine za fun KY hKY=>?_
              simp only[go_sem,V6,hal,hbl,zj,hfold]
              apply hKY
              refine zn fun KY hKY=>?_
              simp only[go_sem,V5]
              apply hKY
              repeat (first|refine hn18 _ ?_|refine he18 _ _ ?_|refine hn17 _ ?_|refine he17 _ ?_|refine hf17 _ _ (by decide) ?_|refine hn16 _ ?_|refine he16 _ _ ?_|refine hn15 _ ?_|refine he15 _ _ ?_|refine he14 _ _ ?_|refine hn13 _ ?_|refine he13 _ ?_|refine hf13 _ _ (by decide) ?_|refine hn12 _ ?_|refine he12 _ ?_|refine hf12 _ _ (by decide) ?_|refine hn11 _ ?_|refine he11 _ _ ?_)
              have hlt:=zgE hal hbl (by omega) c1 c2 c3
              refine zn fun KY hKY=>?_
              simp only[go_sem,Qu,inc k (by omega)]
              apply hKY
              repeat (first|refine hn18 _ ?_|refine he18 _ _ ?_|refine hn17 _ ?_|refine he17 _ ?_|refine hf17 _ _ (by decide) ?_|refine hn16 _ ?_|refine he16 _ _ ?_|refine hn15 _ ?_|refine he15 _ _ ?_)
              refine hn14 _ ((k+1,gJ lab' a b,true)) (es.length - (k+1)) (by omega) (by first|(simp only[go_sem,zd,ze];done)|with_reducible rfl|rfl) ?_
              exact⟨hk2,rfl,W'.step (.inl hxm) (by omega) (by omega) c1 c2,fun _=>by omega,(fun h=>by cases h),by omega⟩
      · refine Zr ?_
        refine zy ?_
        repeat (first|refine hn15 _ ?_|refine he15 _ _ ?_|refine he14 _ _ ?_|refine hn13 _ ?_|refine he13 _ ?_|refine hf13 _ _ (by decide) ?_|refine hn12 _ ?_|refine he12 _ ?_|refine hf12 _ _ (by decide) ?_|refine hn11 _ ?_|refine he11 _ _ ?_|refine he10 _ _ ?_|refine hn9 _ ?_|refine he9 _ ?_|refine hf9 _ _ (by decide) ?_|refine hn8 _ ?_|refine he8 _ _ ?_|refine hn5 _ ?_|refine he5 _ _ ?_|refine he4 _ _ ?_|refine hn3 _ ?_|refine he3 _ ?_|refine hf3 _ _ (by decide) ?_|refine hn2 _ ?_|refine he2 _ _ ?_|refine hn1 _ ?_|refine he1 _ _ ?_)
        obtain rfl:k=es.length:=by omega
        rw[List.take_length] at h2
        cases ag with
        | true=>
          have:=h1 rfl
          repeat (first|refine hn15 _ ?_|refine he15 _ _ ?_|refine he14 _ _ ?_|refine hn13 _ ?_|refine he13 _ ?_|refine hf13 _ _ (by decide) ?_|refine hn12 _ ?_|refine he12 _ ?_|refine hf12 _ _ (by decide) ?_|refine hn11 _ ?_|refine he11 _ _ ?_)
          refine hn10 _ ((lab',true)) (Jc lab'+1) (by omega) (by first|(simp only[go_sem,zd,ze];done)|with_reducible rfl|rfl) ?_
          exact⟨rfl,W',(fun h=>by cases h)⟩
        | false=>
          repeat (first|refine hn15 _ ?_|refine he15 _ _ ?_|refine he14 _ _ ?_|refine hn13 _ ?_|refine he13 _ ?_|refine hf13 _ _ (by decide) ?_|refine hn12 _ ?_|refine he12 _ ?_|refine hf12 _ _ (by decide) ?_|refine hn11 _ ?_|refine he11 _ _ ?_)
          refine hn10 _ ((lab',false)) (Jc lab') (by omega) (by first|(simp only[go_sem,zd,ze];done)|with_reducible rfl|rfl) ?_
          exact⟨rfl,W',fun _=>h2 rfl⟩
    | false =>
      refine Zr ?_
      refine zy ?_
      repeat (first|refine hn11 _ ?_|refine he11 _ _ ?_|refine he10 _ _ ?_|refine hn9 _ ?_|refine he9 _ ?_|refine hf9 _ _ (by decide) ?_|refine hn8 _ ?_|refine he8 _ _ ?_|refine hn5 _ ?_|refine he5 _ _ ?_|refine he4 _ _ ?_|refine hn3 _ ?_|refine he3 _ ?_|refine hf3 _ _ (by decide) ?_|refine hn2 _ ?_|refine he2 _ _ ?_|refine hn1 _ ?_|refine he1 _ _ ?_)
      have hps:=W.pieces g.adj_lt (hfix rfl)
      refine za fun KY hKY=>?_
      simp only[go_sem,V4]
      apply hKY
      simp only[go_sem]
      refine jC [0,12] 1 (by simp only[go_sem]) ?_
      simp only[go_sem]
      rw[show zc.own (some 1) []= .own (some 1) (ZJ (Z6 v lab 0)) from rfl]
      refine zf fun X19 hn19 he19 hr19=>?_
      refine za fun KY hKY=>?_
      simp only[go_sem,V3]
      apply hKY
      refine zp fun X20 hn20 he20 hf20 hr20=>?_
      try simp only[go_sem]
      refine zP (α:=Nat) [8,9,10,11,14,15,25,34,38,43,80,101,109,113,121] (fun u=>[(12,.own (some 1) (ZJ (Z6 v lab u))),(13,.sc (.int .i64 (u:Int)))]) (fun u=>[]) (fun u q=>u≤v∧q=v - u) (0) (v) rfl (by first|(simp only[go_sem,zd,ze];done)|with_reducible rfl|rfl) (⟨by omega,rfl⟩) ?_
      rintro u q ⟨hu,rfl⟩ X21 hn21 he21 hr21
      simp only[go_sem,zd,ze]
      refine zf fun X22 hn22 he22 hr22=>?_
      refine za fun KY hKY=>?_
      simp only[go_sem,V0]
      apply hKY
      by_cases hu2:u<v
      · refine Zw ?_
        refine zh ?_
        repeat (first|refine hn22 _ ?_|refine he22 _ _ ?_|refine he21 _ _ ?_|refine hn20 _ ?_|refine he20 _ ?_|refine hf20 _ _ (by decide) ?_|refine hn19 _ ?_|refine he19 _ _ ?_|refine hn11 _ ?_|refine he11 _ _ ?_)
        refine zf fun X23 hn23 he23 hr23=>?_
        refine zp fun X24 hn24 he24 hf24 hr24=>?_
        refine zf fun X25 hn25 he25 hr25=>?_
        have hul:u<lab.length:=by rw[W.len];exact hu2
        have hstp:=zcT v lab u
        refine za fun KY hKY=>?_
        simp only[go_sem,VZ,zg hul,hul]
        apply hKY
        by_cases c:lab.getD u 0=(u:Int)
        · rw[if_pos c] at hstp
          refine ZA (by first|rfl|(simp only[go_sem,c,ne_eq,not_true_eq_false];try simp(disch:=omega) only[decide_eq_true,decide_eq_false])) ?_
          refine zh ?_
          repeat (first|refine hn25 _ ?_|refine he25 _ _ ?_|refine hn24 _ ?_|refine he24 _ ?_|refine hf24 _ _ (by decide) ?_|refine hn23 _ ?_|refine he23 _ _ ?_|refine hn22 _ ?_|refine he22 _ _ ?_|refine he21 _ _ ?_|refine hn20 _ ?_|refine he20 _ ?_|refine hf20 _ _ (by decide) ?_|refine hn19 _ ?_|refine he19 _ _ ?_|refine hn11 _ ?_|refine he11 _ _ ?_)
          refine za fun KY hKY=>?_
          simp only[go_sem,VY]
          apply hKY
          simp only[go_sem]
          refine jC [0,14] 1 (by simp only[go_sem]) ?_
          simp only[go_sem]
          rw[show zc.own (some 1) []= .own (some 1) (zJ (vg lab u 0)) from rfl]
          refine zf fun X26 hn26 he26 hr26=>?_
          refine za fun KY hKY=>?_
          simp only[go_sem,VX]
          apply hKY
          refine zp fun X27 hn27 he27 hf27 hr27=>?_
          try simp only[go_sem]
          refine zP (α:=Nat) [113,121] (fun w=>[(14,.own (some 1) (zJ (vg lab u w))),(15,.sc (.int .i64 (w:Int)))]) (fun w=>[]) (fun w q=>w≤v∧q=v - w) (0) (v) rfl (by first|(simp only[go_sem,zd,ze];done)|with_reducible rfl|rfl) (⟨by omega,rfl⟩) ?_
          rintro w q ⟨hw,rfl⟩ X28 hn28 he28 hr28
          simp only[go_sem,zd,ze]
          have hfs:=zdX lab u w
          have hfl:=zfs lab u w
          refine zf fun X29 hn29 he29 hr29=>?_
          refine za fun KY hKY=>?_
          simp only[go_sem,VW]
          apply hKY
          by_cases hw2:w<v
          · refine Zw ?_
            refine zh ?_
            repeat (first|refine hn29 _ ?_|refine he29 _ _ ?_|refine he28 _ _ ?_|refine hn27 _ ?_|refine he27 _ ?_|refine hf27 _ _ (by decide) ?_|refine hn26 _ ?_|refine he26 _ _ ?_|refine hn25 _ ?_|refine he25 _ _ ?_|refine hn24 _ ?_|refine he24 _ ?_|refine hf24 _ _ (by decide) ?_|refine hn23 _ ?_|refine he23 _ _ ?_|refine hn22 _ ?_|refine he22 _ _ ?_)
            refine zf fun X30 hn30 he30 hr30=>?_
            refine zp fun X31 hn31 he31 hf31 hr31=>?_
            have hwl:w<lab.length:=by rw[W.len];exact hw2
            have hby2:((vg lab u w).length+1)*8≤140737488355328:=by omega
            refine za fun KY hKY=>?_
            simp only[go_sem,VV,zg hwl,hwl]
            apply hKY
            by_cases c4:lab.getD w 0=(u:Int)
            · rw[if_pos c4] at hfs
              refine ZM (by first|rfl|(simp only[go_sem,c4];try simp(disch:=omega) only[decide_eq_true,decide_eq_false])) ?_
              refine zn fun KY hKY=>?_
              simp only[go_sem,VU,jg,hby2]
              apply hKY
              repeat (first|refine hn31 _ ?_|refine he31 _ ?_|refine hf31 _ _ (by decide) ?_|refine hn30 _ ?_|refine he30 _ _ ?_|refine hn29 _ ?_|refine he29 _ _ ?_|refine he28 _ _ ?_|refine hn27 _ ?_|refine he27 _ ?_|refine hf27 _ _ (by decide) ?_|refine hn26 _ ?_|refine he26 _ _ ?_|refine hn25 _ ?_|refine he25 _ _ ?_|refine hn24 _ ?_|refine he24 _ ?_|refine hf24 _ _ (by decide) ?_|refine hn23 _ ?_|refine he23 _ _ ?_|refine hn22 _ ?_|refine he22 _ _ ?_)
              refine zn fun KY hKY=>?_
              simp only[go_sem,W5,inc w (by omega)]
              apply hKY
              repeat (first|refine hn31 _ ?_|refine he31 _ ?_|refine hf31 _ _ (by decide) ?_|refine hn30 _ ?_|refine he30 _ _ ?_|refine hn29 _ ?_|refine he29 _ _ ?_)
              refine hn28 _ (w+1) (v - (w+1)) (by omega) (by first|(simp only[go_sem,zd,ze,hfs];done)|with_reducible rfl|rfl) ?_
              exact⟨hw2,rfl⟩
            · rw[if_neg c4] at hfs
              refine ZA (by first|rfl|(simp only[go_sem,c4];try simp(disch:=omega) only[decide_eq_true,decide_eq_false])) ?_
              refine zh ?_
              repeat (first|refine hn31 _ ?_|refine he31 _ ?_|refine hf31 _ _ (by decide) ?_|refine hn30 _ ?_|refine he30 _ _ ?_|refine hn29 _ ?_|refine he29 _ _ ?_|refine he28 _ _ ?_|refine hn27 _ ?_|refine he27 _ ?_|refine hf27 _ _ (by decide) ?_|refine hn26 _ ?_|refine he26 _ _ ?_|refine hn25 _ ?_|refine he25 _ _ ?_|refine hn24 _ ?_|refine he24 _ ?_|refine hf24 _ _ (by decide) ?_|refine hn23 _ ?_|refine he23 _ _ ?_|refine hn22 _ ?_|refine he22 _ _ ?_)
              refine zn fun KY hKY=>?_
              simp only[go_sem,W5,inc w (by omega)]
              apply hKY
              repeat (first|refine hn31 _ ?_|refine he31 _ ?_|refine hf31 _ _ (by decide) ?_|refine hn30 _ ?_|refine he30 _ _ ?_|refine hn29 _ ?_|refine he29 _ _ ?_)
              refine hn28 _ (w+1) (v - (w+1)) (by omega) (by first|(simp only[go_sem,zd,ze,hfs];done)|with_reducible rfl|rfl) ?_
              exact⟨hw2,rfl⟩
          · refine Zr ?_
            refine zy ?_
            repeat (first|refine hn29 _ ?_|refine he29 _ _ ?_|refine he28 _ _ ?_|refine hn27 _ ?_|refine he27 _ ?_|refine hf27 _ _ (by decide) ?_|refine hn26 _ ?_|refine he26 _ _ ?_|refine hn25 _ ?_|refine he25 _ _ ?_|refine hn24 _ ?_|refine he24 _ ?_|refine hf24 _ _ (by decide) ?_|refine hn23 _ ?_|refine he23 _ _ ?_|refine hn22 _ ?_|refine he22 _ _ ?_|refine he21 _ _ ?_|refine hn20 _ ?_|refine he20 _ ?_|refine hf20 _ _ (by decide) ?_|refine hn19 _ ?_|refine he19 _ _ ?_|refine hn11 _ ?_|refine he11 _ _ ?_|refine he10 _ _ ?_|refine hn9 _ ?_|refine he9 _ ?_|refine hf9 _ _ (by decide) ?_|refine hn8 _ ?_|refine he8 _ _ ?_|refine hn5 _ ?_|refine he5 _ _ ?_)
            obtain rfl:w=v:=by omega
            have hbl:=zbJ w lab u
            have hby3:((Z6 w lab u).length+1)*24≤140737488355328:=by omega
            refine zn fun KY hKY=>?_
            simp only[go_sem,VT,Xq,hby3,J9,←hstp]
            apply hKY
            repeat (first|refine hn29 _ ?_|refine he29 _ _ ?_|refine he28 _ _ ?_|refine hn27 _ ?_|refine he27 _ ?_|refine hf27 _ _ (by decide) ?_|refine hn26 _ ?_|refine he26 _ _ ?_|refine hn25 _ ?_|refine he25 _ _ ?_|refine hn24 _ ?_|refine he24 _ ?_|refine hf24 _ _ (by decide) ?_|refine hn23 _ ?_|refine he23 _ _ ?_|refine hn22 _ ?_|refine he22 _ _ ?_)
            refine zn fun KY hKY=>?_
            simp only[go_sem,W4,inc u (by omega)]
            apply hKY
            repeat (first|refine hn29 _ ?_|refine he29 _ _ ?_|refine he28 _ _ ?_|refine hn27 _ ?_|refine he27 _ ?_|refine hf27 _ _ (by decide) ?_|refine hn26 _ ?_|refine he26 _ _ ?_|refine hn25 _ ?_|refine he25 _ _ ?_|refine hn24 _ ?_|refine he24 _ ?_|refine hf24 _ _ (by decide) ?_|refine hn23 _ ?_|refine he23 _ _ ?_|refine hn22 _ ?_|refine he22 _ _ ?_)
            refine hn21 _ (u+1) (w - (u+1)) (by omega) (by first|(simp only[go_sem,zd,ze];done)|with_reducible rfl|rfl) ?_
            exact⟨hu2,rfl⟩
        · rw[if_neg c] at hstp
          refine ZM (by first|rfl|(simp only[go_sem,c,ne_eq,not_false_eq_true];try simp(disch:=omega) only[decide_eq_true,decide_eq_false])) ?_
          refine zy ?_
          repeat (first|refine hn25 _ ?_|refine he25 _ _ ?_|refine hn24 _ ?_|refine he24 _ ?_|refine hf24 _ _ (by decide) ?_|refine hn23 _ ?_|refine he23 _ _ ?_|refine hn22 _ ?_|refine he22 _ _ ?_|refine he21 _ _ ?_|refine hn20 _ ?_|refine he20 _ ?_|refine hf20 _ _ (by decide) ?_|refine hn19 _ ?_|refine he19 _ _ ?_|refine hn11 _ ?_|refine he11 _ _ ?_|refine he10 _ _ ?_|refine hn9 _ ?_|refine he9 _ ?_|refine hf9 _ _ (by decide) ?_|refine hn8 _ ?_|refine he8 _ _ ?_|refine hn5 _ ?_|refine he5 _ _ ?_|refine he4 _ _ ?_|refine hn3 _ ?_|refine he3 _ ?_|refine hf3 _ _ (by decide) ?_|refine hn2 _ ?_|refine he2 _ _ ?_|refine hn1 _ ?_|refine he1 _ _ ?_)
          rw[←hstp]
          refine zn fun KY hKY=>?_
          simp only[go_sem,W4,inc u (by omega)]
          apply hKY
          repeat (first|refine hn25 _ ?_|refine he25 _ _ ?_|refine hn24 _ ?_|refine he24 _ ?_|refine hf24 _ _ (by decide) ?_|refine hn23 _ ?_|refine he23 _ _ ?_|refine hn22 _ ?_|refine he22 _ _ ?_)
          refine hn21 _ (u+1) (v - (u+1)) (by omega) (by first|(simp only[go_sem,zd,ze];done)|with_reducible rfl|rfl) ?_
          exact⟨hu2,rfl⟩
      · refine Zr ?_
        refine zy ?_
        repeat (first|refine hn22 _ ?_|refine he22 _ _ ?_|refine he21 _ _ ?_|refine hn20 _ ?_|refine he20 _ ?_|refine hf20 _ _ (by decide) ?_|refine hn19 _ ?_|refine he19 _ _ ?_|refine hn11 _ ?_|refine he11 _ _ ?_|refine he10 _ _ ?_|refine hn9 _ ?_|refine he9 _ ?_|refine hf9 _ _ (by decide) ?_|refine hn8 _ ?_|refine he8 _ _ ?_|refine hn5 _ ?_|refine he5 _ _ ?_|refine he4 _ _ ?_|refine hn3 _ ?_|refine he3 _ ?_|refine hf3 _ _ (by decide) ?_|refine hn2 _ ?_|refine he2 _ _ ?_|refine hn1 _ ?_|refine he1 _ _ ?_)
        obtain rfl:u=v:=by omega
        refine za fun KY hKY=>?_
        simp only[go_sem,VS]
        apply hKY
        refine zi ?_
        repeat (first|refine hr22 _ ?_|refine hr21 _ ?_|refine hr20 _ ?_|refine hr19 _ ?_|refine hr11 _ ?_|refine hr10 _ ?_|refine hr9 _ ?_|refine hr8 _ ?_|refine hr5 _ ?_|refine hr4 _ ?_|refine hr3 _ ?_|refine hr2 _ ?_|refine hr1 _ ?_)
        simp only[go_sem]
        exact⟨⟨_,hps,rfl⟩,rfl⟩
theorem ge {n:Int}{es:List (Int×Int)}(g:zV n es=false)(out:List Int):
    zo Try.prog [] zds [.agg [.sc (.int .i64 n),.imm 2 (zY es)],.imm 1 (zl out)] [] fun r h'=>r= .sc (.slice none 0 0)∧h'=[]:=by
  refine zgZ rfl ?_
  unfold zhr zZ
  refine za fun KY hKY=>?_
  simp only[go_sem,u7]
  apply hKY
  refine zf fun X1 hn1 he1 hr1=>?_
  refine za fun KY hKY=>?_
  simp only[go_sem,u6]
  refine zk rfl (by simp only[go_sem]<;>rfl) ((jT _ _).mono ?_)
  rintro rr hh ⟨rfl,rfl⟩
  refine⟨rfl,rfl,rfl,?_⟩
  simp only[go_sem,g]
  apply hKY
  refine Zw ?_
  refine za fun KY hKY=>?_
  simp only[go_sem,oA]
  apply hKY
  refine zi ?_
  repeat (first|refine hr1 _ ?_)
  simp only[go_sem]
def xU (n:Int)(es:List (Int×Int))(out:List Int)(ps:List (List Nat)):Prop:=
 (zV n es=true∧∃(N:Nat) (es':Es),n=N∧es=zB es'∧GR N es'∧Zg N es' (fun v=>(v:Int)∈out) ps)∨(zV n es=false∧ps=[])
theorem WW :∀{l m:Es},zB l=zB m→l=m
 |[],[],_=>rfl
 |[],_::_,h=>by simp[zB] at h
 |_::_,[],h=>by simp[zB] at h
 | (a,b)::l,(c,d)::m,h=>by
   simp only[zB,List.map_cons,List.cons.injEq,Prod.mk.injEq] at h
   obtain⟨⟨h1,h2⟩,h3⟩:=h
   rw[WW (l:=l) (m:=m) h3,show a=c by omega,show b=d by omega]
theorem xU.unique {n:Int}{es:List (Int×Int)}{out:List Int}{ps qs:List (List Nat)}(h:xU n es out ps)(h':xU n es out qs):ps=qs:=by
 rcases h with⟨r,N,es',rfl,rfl,g,P⟩|⟨r,rfl⟩
 · rcases h' with⟨_,N',es'',e1,e2,_,Q⟩|⟨r',_⟩
   · obtain rfl:N=N':=by omega
     rw[←WW e2] at Q
     exact P.unique g.adj_lt Q
   · rw[r] at r';cases r'
 · rcases h' with⟨r',_⟩|⟨_,rfl⟩
   · rw[r] at r';cases r'
   · rfl
theorem xU.len {n:Int}{es:List (Int×Int)}{out:List Int}{ps:List (List Nat)}(h:xU n es out ps):ps.length≤4096∧∀p∈ps,p.length≤4096:=by
 rcases h with⟨_,N,es',_,_,g,P⟩|⟨_,rfl⟩
 · have:=g.hn
   exact⟨Nat.le_trans (XB P) this,fun p hp=>Nat.le_trans (vW P hp) this⟩
 · exact⟨by simp,fun p hp=>by simp at hp⟩
abbrev PsG (n:Int)(es:List (Int×Int))(out:List Int)(r:zc)(h':Heap):Prop:=(∃ps,xU n es out ps∧r= .own (some 1) (ZJ ps))∧h'=[]
theorem psG {f:Nat}{args:List zc}{n:Int}{es:List (Int×Int)}{out:List Int}(h1:∀(N:Nat) (es':Es),n=N→es=zB es'→GR N es'→zo Try.prog [] f args [] (PsQ N es' out))(h2:zV n es=false→zo Try.prog [] f args [] fun r h'=>r= .sc (.slice none 0 0)∧h'=[]):zo Try.prog [] f args [] (PsG n es out):=by
 cases hr:zV n es with
 | true=>
   obtain⟨N,es',e1,e2,g⟩:=Qe hr
   refine(h1 N es' e1 e2 g).mono ?_
   rintro r h' ⟨⟨ps,hps,rfl⟩,rfl⟩
   exact⟨⟨ps,.inl ⟨hr,N,es',e1,e2,g,hps⟩,rfl⟩,rfl⟩
 | false=>
   refine(h2 hr).seen ?_
   rintro r h' ⟨rfl,rfl⟩
   exact⟨.own (some 1) (ZJ []),Qz.own 1,⟨[],.inr ⟨hr,rfl⟩,rfl⟩,rfl⟩
theorem kZ (n:Int)(es:List (Int×Int))(out:List Int)(ho:out.length≤1000000000):zo Try.prog [] zds [.agg [.sc (.int .i64 n),.imm 2 (zY es)],.imm 1 (zl out)] [] (PsG n es out):=
 psG (fun N es' e1 e2 g=>by subst e1 e2;exact gc g out ho) (fun h=>ge h out)
theorem xY (ps:List (List Nat))(k:Nat)(h:ps.length≤4096):Zf (ps.take k)≤4096:=Nat.le_trans (zlq _) (Nat.le_trans (List.length_take_le' _ _) h)
theorem zfS (n:Int)(es:List (Int×Int))(out:List Int)(ho:out.length≤1000000000):
    zo Try.prog [] zjK [.agg [.sc (.int .i64 n),.imm 2 (zY es)],.imm 1 (zl out)] [] fun r h'=>(∃ps,xU n es out ps∧r= .sc (.int .i64 (Zf ps:Int)))∧h'=[]:=by
  refine zmf rfl ?_
  unfold zkN J4
  refine za fun KY hKY=>?_
  simp only[go_sem,O1]
  apply hKY
  refine za fun KY hKY=>?_
  simp only[go_sem,OZ]
  apply hKY
  refine za fun KY hKY=>?_
  simp only[go_sem,OY]
  refine zk rfl (by simp only[go_sem]<;>rfl) ((kZ n es out ho).mono ?_)
  rintro rr hh ⟨⟨ps,hps,rfl⟩,rfl⟩
  refine⟨?_,?_,?_,?_⟩
  iterate 3 (first|rfl|simp only[go_sem])
  obtain⟨hpl,hpe⟩:=hps.len
  have hoc:=fun k=>xY ps k hpl
  simp only[go_sem]
  apply hKY
  simp only[go_sem]
  refine ZB [0,6] (by simp only[go_sem];rfl) ?_
  simp only[go_sem]
  refine zf fun X1 hn1 he1 hr1=>?_
  refine za fun KY hKY=>?_
  simp only[go_sem,OX]
  apply hKY
  refine zp fun X2 hn2 he2 hf2 hr2=>?_
  try simp only[go_sem]
  refine zP (α:=Nat) [14] (fun k=>[(5,.sc (.int .i64 (Zf (ps.take k):Int))),(7,.sc (.int .i64 (k:Int)))]) (fun k=>[]) (fun k q=>k≤ps.length∧q=ps.length - k) (0) (ps.length) rfl (by first|(simp only[go_sem,zd,ze];done)|with_reducible rfl|rfl) (⟨by omega,rfl⟩) ?_
  rintro k q ⟨hk,rfl⟩ X3 hn3 he3 hr3
  simp only[go_sem,zd,ze]
  refine zf fun X4 hn4 he4 hr4=>?_
  refine za fun KY hKY=>?_
  simp only[go_sem,OW]
  apply hKY
  by_cases hk2:k<ps.length
  · refine Zw ?_
    refine zh ?_
    repeat (first|refine hn4 _ ?_|refine he4 _ _ ?_|refine he3 _ _ ?_|refine hn2 _ ?_|refine he2 _ ?_|refine hf2 _ _ (by decide) ?_|refine hn1 _ ?_|refine he1 _ _ ?_)
    refine zf fun X5 hn5 he5 hr5=>?_
    refine zp fun X6 hn6 he6 hf6 hr6=>?_
    have hx:ps[k]?=some (ps[k]):=List.getElem?_eq_getElem hk2
    have hy:(ps[k]).length≤4096:=hpe _ (List.getElem_mem hk2)
    generalize ps[k]=p at hx hy
    have hst:=gu ps k p hx
    have h1:=hoc k
    have hm:(p.length:Int).tmod 2=((p.length%2:Nat):Int):=by
      rw[Int.tmod_eq_emod_of_nonneg (by omega)];omega
    have ha:IntKind.i64.wrap ((Zf (ps.take k):Int)+((p.length%2:Nat):Int))=(Zf (ps.take (k+1)):Int):=by
      rw[IntWalk.i64_in _ (by omega),hst];omega
    refine zn fun KY hKY=>?_
    simp only[go_sem,OV,Qc hx,hk2,hm,ha]
    apply hKY
    repeat (first|refine hn6 _ ?_|refine he6 _ ?_|refine hf6 _ _ (by decide) ?_|refine hn5 _ ?_|refine he5 _ _ ?_|refine hn4 _ ?_|refine he4 _ _ ?_|refine he3 _ _ ?_|refine hn2 _ ?_|refine he2 _ ?_|refine hf2 _ _ (by decide) ?_|refine hn1 _ ?_|refine he1 _ _ ?_)
    refine zn fun KY hKY=>?_
    simp only[go_sem,OU,zH (show k<4611686018427387904 by omega)]
    apply hKY
    repeat (first|refine hn6 _ ?_|refine he6 _ ?_|refine hf6 _ _ (by decide) ?_|refine hn5 _ ?_|refine he5 _ _ ?_|refine hn4 _ ?_|refine he4 _ _ ?_)
    refine hn3 _ (k+1) (ps.length - (k+1)) (by omega) (by first|(simp only[go_sem,zd,ze];done)|with_reducible rfl|rfl) ?_
    exact⟨hk2,rfl⟩
  · refine Zr ?_
    refine zy ?_
    repeat (first|refine hn4 _ ?_|refine he4 _ _ ?_|refine he3 _ _ ?_|refine hn2 _ ?_|refine he2 _ ?_|refine hf2 _ _ (by decide) ?_|refine hn1 _ ?_|refine he1 _ _ ?_)
    obtain rfl:k=ps.length:=by omega
    rw[List.take_length]
    refine za fun KY hKY=>?_
    simp only[go_sem,OT]
    apply hKY
    refine zi ?_
    repeat (first|refine hr4 _ ?_|refine hr3 _ ?_|refine hr2 _ ?_|refine hr1 _ ?_)
    simp only[go_sem]
    exact⟨ps,hps,rfl⟩
theorem xU.disj {n:Int}{es:List (Int×Int)}{out:List Int}{ps:List (List Nat)}(h:xU n es out ps):ps.Pairwise fun p q=>∀v∈p,v∉q:=by
 rcases h with⟨_,N,es',_,_,g,P⟩|⟨_,rfl⟩
 · exact P.disj
 · exact .nil
end Go.Proofs.Ytmcfdfafeheihaa
