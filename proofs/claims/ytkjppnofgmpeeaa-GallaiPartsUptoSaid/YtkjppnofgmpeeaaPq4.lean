/- The three parts of any small graph are what they are by definition, over all largest matchings; and so are the pieces of D. -/
import Derived.Test.YtkjppnofgmpeeaaPq3
import Derived.Test.YtkjppnofgmpeeaaPq1
import Derived.Test.YtkjppnofgmpeeaaPq2
import Derived.Test.YtkjppnofgmpeeaaGolhili5
import Derived.WalkKit
import Derived.ProofKit
import Derived.OpenShut
import Derived.JoinedCond
set_option linter.all false
set_option maxRecDepth 100000
set_option maxHeartbeats 4000000
namespace Go.Proofs.Ytkjppnofgmpeeaa
open Go Go.Ga Go.Ga.Gl
theorem zmg (xs:List Int)(v:Int)(hb:xs.length≤1000000000):zo Try.prog [] zi7 [.imm 1 (zj xs),.sc (.int .i64 v)] [] fun r h'=>r= .sc (.bool (decide (v∈xs)))∧h'=[]:=by
 refine zlI rfl ?_
 unfold zka qz
 refine za fun KY hKY=>?_
 simp only[go_sem,zaG]
 apply hKY
 refine zf fun X1 hn1 he1 hr1=>?_
 refine za fun KY hKY=>?_
 simp only[go_sem,zaF]
 apply hKY
 refine zm fun X2 hn2 he2 hf2 hr2=>?_
 try simp only[go_sem]
 refine zU (α:=Nat) [9,17] (fun k=>[(5,.sc (.int .i64 (k:Int)))]) (fun k=>[]) (fun k q=>k≤xs.length∧q=xs.length - k∧∀j x,j<k→xs[j]?=some x→x≠v) (0) (xs.length) rfl (by first|(simp only[go_sem,zd,ze];done)|with_reducible rfl|rfl) (⟨by omega,rfl,fun j x h=>by omega⟩) ?_
 rintro k q ⟨hk,rfl,hz⟩ X3 hn3 he3 hr3
 simp only[go_sem,zd,ze]
 refine zf fun X4 hn4 he4 hr4=>?_
 refine za fun KY hKY=>?_
 simp only[go_sem,zaE,zq]
 apply hKY
 by_cases hk2:k<xs.length
 · refine ZL ?_
   refine zg ?_
   repeat (first|refine hn4 _ ?_|refine he4 _ _ ?_|refine he3 _ _ ?_|refine hn2 _ ?_|refine he2 _ ?_|refine hf2 _ _ (by decide) ?_|refine hn1 _ ?_|refine he1 _ _ ?_)
   refine zf fun X5 hn5 he5 hr5=>?_
   refine zm fun X6 hn6 he6 hf6 hr6=>?_
   have hx:xs[k]?=some xs[k]:=List.getElem?_eq_getElem hk2
   have hmem:xs[k]∈xs:=List.getElem_mem hk2
   generalize xs[k]=x at hx hmem
   refine za fun KY hKY=>?_
   simp only[go_sem,zaD,kL hx,hk2]
   apply hKY
   by_cases hp:x=v
   · refine Zs (by first|rfl|(simp only[go_sem,hp];try simp(disch:=omega) only[decide_eq_true,decide_eq_false])) ?_
     refine za fun KY hKY=>?_
     simp only[go_sem,zaC]
     apply hKY
     refine zi ?_
     repeat (first|refine hr6 _ ?_|refine hr5 _ ?_|refine hr4 _ ?_|refine hr3 _ ?_|refine hr2 _ ?_|refine hr1 _ ?_)
     simp only[go_sem]
     rw[decide_eq_true (hp▸hmem)]
   · refine Zo (by first|rfl|(simp only[go_sem,hp];try simp(disch:=omega) only[decide_eq_true,decide_eq_false])) ?_
     refine zg ?_
     repeat (first|refine hn6 _ ?_|refine he6 _ ?_|refine hf6 _ _ (by decide) ?_|refine hn5 _ ?_|refine he5 _ _ ?_|refine hn4 _ ?_|refine he4 _ _ ?_|refine he3 _ _ ?_|refine hn2 _ ?_|refine he2 _ ?_|refine hf2 _ _ (by decide) ?_|refine hn1 _ ?_|refine he1 _ _ ?_)
     refine zk fun KY hKY=>?_
     simp only[go_sem,zaB,inc k (by omega)]
     apply hKY
     repeat (first|refine hn6 _ ?_|refine he6 _ ?_|refine hf6 _ _ (by decide) ?_|refine hn5 _ ?_|refine he5 _ _ ?_|refine hn4 _ ?_|refine he4 _ _ ?_)
     refine hn3 _ (k+1) (xs.length - (k+1)) (by omega) (by first|(simp only[go_sem,zd,ze];done)|with_reducible rfl|rfl) ?_
     refine⟨hk2,rfl,fun j y hj hy=>?_⟩
     rcases Nat.lt_or_ge j k with h|h
     · exact hz j y h hy
     · obtain rfl:j=k:=by omega
       rw[hx] at hy;cases hy;exact hp
 · refine Zy ?_
   refine zy ?_
   repeat (first|refine hn4 _ ?_|refine he4 _ _ ?_|refine he3 _ _ ?_|refine hn2 _ ?_|refine he2 _ ?_|refine hf2 _ _ (by decide) ?_|refine hn1 _ ?_|refine he1 _ _ ?_)
   refine za fun KY hKY=>?_
   simp only[go_sem,zaA]
   apply hKY
   refine zi ?_
   repeat (first|refine hr4 _ ?_|refine hr3 _ ?_|refine hr2 _ ?_|refine hr1 _ ?_)
   simp only[go_sem]
   rw[decide_eq_false]
   intro hx
   obtain⟨j,hj⟩:=List.mem_iff_getElem?.1 hx
   exact hz j v (by have:=(List.getElem?_eq_some_iff.1 hj).1;omega) hj rfl
end Go.Proofs.Ytkjppnofgmpeeaa
set_option maxHeartbeats 2000000
namespace Go.Proofs.Ytkjppnofgmpeeaa
open Go Go.Ga Go.Ga.Gl
theorem Wt (n:Nat):zF [.int .i64 0] n=zj (List.replicate n 0):=by
 rw[Wq,Qd];simp
theorem xX {n b:Nat}{y:Int}{f g:Nat→Int}(h1:g b=y)(h2:∀v,v≠b→g v=f v):((List.range n).map f).set b y=(List.range n).map g:=by
 apply List.ext_getElem (by simp)
 intro i h3 h4
 rw[List.getElem_set]
 split
 · rename_i h;subst h;simp[h1]
 · rename_i h;simp[h2 i (Ne.symm h)]
def Yp (out:List Int)(v w:Nat):Int:=if w<v then(if(w:Int)∈out then -1 else(w:Int)) else 0
theorem Ku {n :Nat}{es:Es}(g:GR n es)(out:List Int)(ho:out.length≤1000000000):
    zo Try.prog [] zfF [.agg [.sc (.int .i64 (n:Int)),.imm 2 (Zj (zP es))],.imm 1 (zj out)] [] (PsQ n es out):=by
  have hn:=g.hn
  have hm:=g.hm
  have hby:n*8≤140737488355328:=by omega
  have hb0:(n:Int)≤9223372036854775807:=by omega
  refine zlC rfl ?_
  unfold zj4 zY
  refine za fun KY hKY=>?_
  simp only[go_sem,zag]
  apply hKY
  refine zf fun X1 hn1 he1 hr1=>?_
  refine za fun KY hKY=>?_
  simp only[go_sem,zaf]
  refine zA rfl (by simp only[go_sem]<;>rfl) ((Wf _ _).mono ?_)
  rintro rr hh ⟨rfl,rfl⟩
  refine⟨rfl,rfl,rfl,?_⟩
  simp only[go_sem,Jk g]
  apply hKY
  refine Zy ?_
  refine zg ?_
  repeat (first|refine hn1 _ ?_|refine he1 _ _ ?_)
  refine za fun KY hKY=>?_
  simp only[go_sem,zae,Wt,hby,hb0]
  repeat (simp(disch:=omega) only[if_pos,if_neg,decide_eq_true,decide_eq_false,zL,zv,zh,Wt,hby,hb0];try simp only[go_sem,Wt,hby,hb0])
  apply hKY
  simp only[go_sem]
  rw[show List.replicate n (0:Int)=(List.range n).map (Yp out 0) by
    apply List.ext_getElem (by simp)
    intro i h1 h2
    simp[Yp]]
  refine zf fun X2 hn2 he2 hr2=>?_
  refine za fun KY hKY=>?_
  simp only[go_sem,zad]
  apply hKY
  refine zm fun X3 hn3 he3 hf3 hr3=>?_
  try simp only[go_sem]
  refine zU (α:=Nat) [25,34] (fun v=>[(5,.own (some 1) (zj ((List.range n).map (Yp out v)))),(6,.sc (.int .i64 (v:Int)))]) (fun v=>[]) (fun v q=>v≤n∧q=n - v) (0) (n) rfl (by first|(simp only[go_sem,zd,ze];done)|with_reducible rfl|rfl) (⟨by omega,rfl⟩) ?_
  rintro v q ⟨hv,rfl⟩ X4 hn4 he4 hr4
  simp only[go_sem,zd,ze]
  refine zf fun X5 hn5 he5 hr5=>?_
  refine za fun KY hKY=>?_
  simp only[go_sem,zac]
  apply hKY
  by_cases hv2:v<n
  · refine ZL ?_
    refine zg ?_
    repeat (first|refine hn5 _ ?_|refine he5 _ _ ?_|refine he4 _ _ ?_|refine hn3 _ ?_|refine he3 _ ?_|refine hf3 _ _ (by decide) ?_|refine hn2 _ ?_|refine he2 _ _ ?_|refine hn1 _ ?_|refine he1 _ _ ?_)
    refine zf fun X6 hn6 he6 hr6=>?_
    refine zm fun X7 hn7 he7 hf7 hr7=>?_
    refine za fun KY hKY=>?_
    simp only[go_sem,zab,hv2,zq]
    apply hKY
    have hin:=zmg out (v:Int) ho
    refine za fun KY hKY=>?_
    simp only[go_sem,zaa]
    refine zA rfl (by simp only[go_sem]<;>rfl) ((hin).mono ?_)
    rintro rr hh ⟨rfl,rfl⟩
    refine⟨rfl,rfl,rfl,?_⟩
    simp only[go_sem]
    apply hKY
    by_cases hvo:(v:Int)∈out
    · have hset:(((List.range n).map (Yp out v)).set v (v:Int)).set v (-1)=(List.range n).map (Yp out (v+1)):=by
        rw[List.set_set]
        refine xX (by simp[Yp,hvo]) fun w hw=>?_
        unfold Yp
        by_cases h:w<v
        · rw[if_pos (by omega),if_pos h]
        · rw[if_neg (by omega),if_neg h]
      refine Zs (by first|rfl|(simp only[go_sem,hvo];try simp(disch:=omega) only[decide_eq_true,decide_eq_false])) ?_
      refine zk fun KY hKY=>?_
      simp only[go_sem,O9,hv2,zq,hset]
      apply hKY
      repeat (first|refine hn7 _ ?_|refine he7 _ ?_|refine hf7 _ _ (by decide) ?_|refine hn6 _ ?_|refine he6 _ _ ?_|refine hn5 _ ?_|refine he5 _ _ ?_|refine he4 _ _ ?_|refine hn3 _ ?_|refine he3 _ ?_|refine hf3 _ _ (by decide) ?_|refine hn2 _ ?_|refine he2 _ _ ?_|refine hn1 _ ?_|refine he1 _ _ ?_)
      refine zk fun KY hKY=>?_
      simp only[go_sem,Ub,inc v (by omega)]
      apply hKY
      repeat (first|refine hn7 _ ?_|refine he7 _ ?_|refine hf7 _ _ (by decide) ?_|refine hn6 _ ?_|refine he6 _ _ ?_|refine hn5 _ ?_|refine he5 _ _ ?_)
      refine hn4 _ (v+1) (n - (v+1)) (by omega) (by first|(simp only[go_sem,zd,ze];done)|with_reducible rfl|rfl) ?_
      exact⟨hv2,rfl⟩
    · have hset:((List.range n).map (Yp out v)).set v (v:Int)=(List.range n).map (Yp out (v+1)):=by
        refine xX (by simp[Yp,hvo]) fun w hw=>?_
        unfold Yp
        by_cases h:w<v
        · rw[if_pos (by omega),if_pos h]
        · rw[if_neg (by omega),if_neg h]
      refine Zo (by first|rfl|(simp only[go_sem,hvo];try simp(disch:=omega) only[decide_eq_true,decide_eq_false])) ?_
      rw[hset]
      refine zg ?_
      repeat (first|refine hn7 _ ?_|refine he7 _ ?_|refine hf7 _ _ (by decide) ?_|refine hn6 _ ?_|refine he6 _ _ ?_|refine hn5 _ ?_|refine he5 _ _ ?_|refine he4 _ _ ?_|refine hn3 _ ?_|refine he3 _ ?_|refine hf3 _ _ (by decide) ?_|refine hn2 _ ?_|refine he2 _ _ ?_|refine hn1 _ ?_|refine he1 _ _ ?_)
      refine zk fun KY hKY=>?_
      simp only[go_sem,Ub,inc v (by omega)]
      apply hKY
      repeat (first|refine hn7 _ ?_|refine he7 _ ?_|refine hf7 _ _ (by decide) ?_|refine hn6 _ ?_|refine he6 _ _ ?_|refine hn5 _ ?_|refine he5 _ _ ?_)
      refine hn4 _ (v+1) (n - (v+1)) (by omega) (by first|(simp only[go_sem,zd,ze];done)|with_reducible rfl|rfl) ?_
      exact⟨hv2,rfl⟩
  · refine Zy ?_
    refine zy ?_
    repeat (first|refine hn5 _ ?_|refine he5 _ _ ?_|refine he4 _ _ ?_|refine hn3 _ ?_|refine he3 _ ?_|refine hf3 _ _ (by decide) ?_|refine hn2 _ ?_|refine he2 _ _ ?_|refine hn1 _ ?_|refine he1 _ _ ?_)
    obtain rfl:v=n:=by omega
    have w0:LI v es (fun w=>(w:Int)∈out) ((List.range v).map (Yp out v)):=by
      refine LI.start (by simp) fun w hw=>?_
      have:((List.range v).map (Yp out v)).getD w 0=Yp out v w:=by simp[List.getD_eq_getElem?_getD,hw]
      rw[this]
      unfold Yp
      rw[if_pos hw]
      exact⟨fun h=>by rw[if_pos h],fun h=>by rw[if_neg h]⟩
    generalize (List.range v).map (Yp out v)=L0 at w0
    refine zf fun X8 hn8 he8 hr8=>?_
    refine za fun KY hKY=>?_
    simp only[go_sem,V5]
    apply hKY
    refine zm fun X9 hn9 he9 hf9 hr9=>?_
    try simp only[go_sem]
    refine zU (α:=List Int×Bool) [8,9,10,11,25,34,38,43,80] (fun(lab,ag)=>[(5,.own (some 1) (zj lab)),(7,.sc (.bool ag))]) (fun(lab,ag)=>[]) (fun(lab,ag) q=>q=Jb lab+ag.toNat∧LI v es (fun w=>(w:Int)∈out) lab∧(ag=false→∀e∈es,lab.getD e.1 0<0∨lab.getD e.2 0<0∨lab.getD e.1 0=lab.getD e.2 0)) ((L0,true)) (Jb L0+1) rfl (by first|(simp only[go_sem,zd,ze];done)|with_reducible rfl|rfl) (⟨rfl,w0,(fun h=>by cases h)⟩) ?_
    rintro⟨lab,ag⟩ q ⟨hq,W,hfix⟩ X10 hn10 he10 hr10
    simp only[go_sem,zd,ze]
    refine zf fun X11 hn11 he11 hr11=>?_
    refine za fun KY hKY=>?_
    simp only[go_sem,V4]
    apply hKY
    cases ag with
    | true=>
      have hq:q=Jb lab+1:=hq
      refine ZL ?_
      refine zg ?_
      repeat (first|refine hn11 _ ?_|refine he11 _ _ ?_|refine he10 _ _ ?_|refine hn9 _ ?_|refine he9 _ ?_|refine hf9 _ _ (by decide) ?_|refine hn8 _ ?_|refine he8 _ _ ?_|refine hn5 _ ?_|refine he5 _ _ ?_)
      refine zm fun X12 hn12 he12 hf12 hr12=>?_
      refine za fun KY hKY=>?_
      simp only[go_sem,V3]
      apply hKY
      refine za fun KY hKY=>?_
      simp only[go_sem,V0]
      apply hKY
      simp only[go_sem]
      refine zm fun X13 hn13 he13 hf13 hr13=>?_
      try simp only[go_sem]
      refine zU (α:=Nat×List Int×Bool) [9,10,11,43,80] (fun(k,lab',ag)=>[(5,.own (some 1) (zj lab')),(7,.sc (.bool ag)),(8,.sc (.int .i64 (k:Int)))]) (fun(k,lab',ag)=>[]) (fun(k,lab',ag) q=>k≤es.length∧q=es.length - k∧LI v es (fun w=>(w:Int)∈out) lab'∧(ag=true→Jb lab'<Jb lab)∧(ag=false→∀e∈es.take k,lab'.getD e.1 0<0∨lab'.getD e.2 0<0∨lab'.getD e.1 0=lab'.getD e.2 0)∧Jb lab'≤Jb lab) ((0,lab,false)) (es.length) rfl (by first|(simp only[go_sem,zd,ze];done)|with_reducible rfl|rfl) (⟨Nat.zero_le _,rfl,W,(fun h=>by cases h),(fun _ e he=>by simp at he),Nat.le_refl _⟩) ?_
      rintro⟨k,lab',ag⟩ q ⟨hk,rfl,W',h1,h2,h3⟩ X14 hn14 he14 hr14
      simp only[go_sem,zd,ze]
      refine zf fun X15 hn15 he15 hr15=>?_
      refine za fun KY hKY=>?_
      simp only[go_sem,VZ,zx]
      apply hKY
      by_cases hk2:k<es.length
      · refine ZL ?_
        refine zg ?_
        repeat (first|refine hn15 _ ?_|refine he15 _ _ ?_|refine he14 _ _ ?_|refine hn13 _ ?_|refine he13 _ ?_|refine hf13 _ _ (by decide) ?_|refine hn12 _ ?_|refine he12 _ ?_|refine hf12 _ _ (by decide) ?_|refine hn11 _ ?_|refine he11 _ _ ?_)
        refine zf fun X16 hn16 he16 hr16=>?_
        refine zm fun X17 hn17 he17 hf17 hr17=>?_
        have hx:es[k]?=some es[k]:=List.getElem?_eq_getElem hk2
        have hy:=g.ok es[k] (List.getElem_mem hk2)
        have hxm:es[k]∈es:=List.getElem_mem hk2
        generalize es[k]=x at hx hy hxm
        obtain⟨a,b⟩:=x
        simp only at hy
        have hx':=Qk hx
        have hal:a<lab'.length:=by rw[W'.len];omega
        have hbl:b<lab'.length:=by rw[W'.len];omega
        have hb1:k*2+1<es.length*2:=by omega
        have hb2:k*2<es.length*2:=by omega
        have htk:∀e,e∈es.take (k+1)→e∈es.take k∨e=(a,b):=fun e he=>by
          rw[List.take_add_one,hx] at he
          simpa using he
        refine zw fun KY hKY=>?_
        simp only[go_sem,VY,zx,hk2,xP hx',xO hx',hb1,hb2]
        apply hKY
        refine zf fun X18 hn18 he18 hr18=>?_
        by_cases c1:lab'.getD a 0<0
        · refine zw fun KY hKY=>?_
          simp only[go_sem,Qr,zh hal,zh hbl,hal,hbl,c1]
          apply hKY
          refine ZL ?_
          refine zy ?_
          repeat (first|refine hn18 _ ?_|refine he18 _ _ ?_|refine hn17 _ ?_|refine he17 _ ?_|refine hf17 _ _ (by decide) ?_|refine hn16 _ ?_|refine he16 _ _ ?_|refine hn15 _ ?_|refine he15 _ _ ?_|refine he14 _ _ ?_|refine hn13 _ ?_|refine he13 _ ?_|refine hf13 _ _ (by decide) ?_|refine hn12 _ ?_|refine he12 _ ?_|refine hf12 _ _ (by decide) ?_|refine hn11 _ ?_|refine he11 _ _ ?_|refine he10 _ _ ?_|refine hn9 _ ?_|refine he9 _ ?_|refine hf9 _ _ (by decide) ?_|refine hn8 _ ?_|refine he8 _ _ ?_|refine hn5 _ ?_|refine he5 _ _ ?_|refine he4 _ _ ?_|refine hn3 _ ?_|refine he3 _ ?_|refine hf3 _ _ (by decide) ?_|refine hn2 _ ?_|refine he2 _ _ ?_|refine hn1 _ ?_|refine he1 _ _ ?_)
          refine zk fun KY hKY=>?_
          simp only[go_sem,Qq,inc k (by omega)]
          apply hKY
          repeat (first|refine hn18 _ ?_|refine he18 _ _ ?_|refine hn17 _ ?_|refine he17 _ ?_|refine hf17 _ _ (by decide) ?_|refine hn16 _ ?_|refine he16 _ _ ?_|refine hn15 _ ?_|refine he15 _ _ ?_)
          refine hn14 _ ((k+1,lab',ag)) (es.length - (k+1)) (by omega) (by first|(simp only[go_sem,zd,ze];done)|with_reducible rfl|rfl) ?_
          refine⟨hk2,rfl,W',h1,(fun h e he=>?_),h3⟩
          rcases htk e he with h'|rfl
          · exact h2 h e h'
          · simp only;omega
        · by_cases c2:lab'.getD b 0<0
          · refine zw fun KY hKY=>?_
            simp only[go_sem,Qr,zh hal,zh hbl,hal,hbl,c1,c2]
            apply hKY
            refine ZL ?_
            refine zy ?_
            repeat (first|refine hn18 _ ?_|refine he18 _ _ ?_|refine hn17 _ ?_|refine he17 _ ?_|refine hf17 _ _ (by decide) ?_|refine hn16 _ ?_|refine he16 _ _ ?_|refine hn15 _ ?_|refine he15 _ _ ?_|refine he14 _ _ ?_|refine hn13 _ ?_|refine he13 _ ?_|refine hf13 _ _ (by decide) ?_|refine hn12 _ ?_|refine he12 _ ?_|refine hf12 _ _ (by decide) ?_|refine hn11 _ ?_|refine he11 _ _ ?_|refine he10 _ _ ?_|refine hn9 _ ?_|refine he9 _ ?_|refine hf9 _ _ (by decide) ?_|refine hn8 _ ?_|refine he8 _ _ ?_|refine hn5 _ ?_|refine he5 _ _ ?_|refine he4 _ _ ?_|refine hn3 _ ?_|refine he3 _ ?_|refine hf3 _ _ (by decide) ?_|refine hn2 _ ?_|refine he2 _ _ ?_|refine hn1 _ ?_|refine he1 _ _ ?_)
            refine zk fun KY hKY=>?_
            simp only[go_sem,Qq,inc k (by omega)]
            apply hKY
            repeat (first|refine hn18 _ ?_|refine he18 _ _ ?_|refine hn17 _ ?_|refine he17 _ ?_|refine hf17 _ _ (by decide) ?_|refine hn16 _ ?_|refine he16 _ _ ?_|refine hn15 _ ?_|refine he15 _ _ ?_)
            refine hn14 _ ((k+1,lab',ag)) (es.length - (k+1)) (by omega) (by first|(simp only[go_sem,zd,ze];done)|with_reducible rfl|rfl) ?_
            refine⟨hk2,rfl,W',h1,(fun h e he=>?_),h3⟩
            rcases htk e he with h'|rfl
            · exact h2 h e h'
            · simp only;omega
          · by_cases c3:lab'.getD a 0=lab'.getD b 0
            · have c3':decide (lab'.getD a 0=lab'.getD b 0)=true:=decide_eq_true c3
              refine zw fun KY hKY=>?_
              simp only[go_sem,Qr,zh hal,zh hbl,hal,hbl,c1,c2,c3']
              apply hKY
              refine ZL ?_
              refine zy ?_
              repeat (first|refine hn18 _ ?_|refine he18 _ _ ?_|refine hn17 _ ?_|refine he17 _ ?_|refine hf17 _ _ (by decide) ?_|refine hn16 _ ?_|refine he16 _ _ ?_|refine hn15 _ ?_|refine he15 _ _ ?_|refine he14 _ _ ?_|refine hn13 _ ?_|refine he13 _ ?_|refine hf13 _ _ (by decide) ?_|refine hn12 _ ?_|refine he12 _ ?_|refine hf12 _ _ (by decide) ?_|refine hn11 _ ?_|refine he11 _ _ ?_|refine he10 _ _ ?_|refine hn9 _ ?_|refine he9 _ ?_|refine hf9 _ _ (by decide) ?_|refine hn8 _ ?_|refine he8 _ _ ?_|refine hn5 _ ?_|refine he5 _ _ ?_|refine he4 _ _ ?_|refine hn3 _ ?_|refine he3 _ ?_|refine hf3 _ _ (by decide) ?_|refine hn2 _ ?_|refine he2 _ _ ?_|refine hn1 _ ?_|refine he1 _ _ ?_)
              refine zk fun KY hKY=>?_
              simp only[go_sem,Qq,inc k (by omega)]
              apply hKY
              repeat (first|refine hn18 _ ?_|refine he18 _ _ ?_|refine hn17 _ ?_|refine he17 _ ?_|refine hf17 _ _ (by decide) ?_|refine hn16 _ ?_|refine he16 _ _ ?_|refine hn15 _ ?_|refine he15 _ _ ?_)
              refine hn14 _ ((k+1,lab',ag)) (es.length - (k+1)) (by omega) (by first|(simp only[go_sem,zd,ze];done)|with_reducible rfl|rfl) ?_
              refine⟨hk2,rfl,W',h1,(fun h e he=>?_),h3⟩
              rcases htk e he with h'|rfl
              · exact h2 h e h'
              · simp only;omega
            · refine zw fun KY hKY=>?_
              simp only[go_sem,Qr,zh hal,zh hbl,hal,hbl,c1,c2,c3]
              apply hKY
              refine Zy ?_
              refine zg ?_
              repeat (first|refine hn18 _ ?_|refine he18 _ _ ?_|refine hn17 _ ?_|refine he17 _ ?_|refine hf17 _ _ (by decide) ?_|refine hn16 _ ?_|refine he16 _ _ ?_|refine hn15 _ ?_|refine he15 _ _ ?_|refine he14 _ _ ?_|refine hn13 _ ?_|refine he13 _ ?_|refine hf13 _ _ (by decide) ?_|refine hn12 _ ?_|refine he12 _ ?_|refine hf12 _ _ (by decide) ?_|refine hn11 _ ?_|refine he11 _ _ ?_)
              refine zw fun KY hKY=>?_
              simp only[go_sem,VX,zh hal,zh hbl,hal,hbl]
              apply hKY
              have hfold:(lab'.set a (min (lab'.getD a 0) (lab'.getD b 0))).set b (min (lab'.getD a 0) (lab'.getD b 0))=KR lab' a b:=rfl
              refine za fun KY hKY=>?_
              simp only[go_sem,VW,hal,hbl,zq,hfold]
              apply hKY
              refine zk fun KY hKY=>?_
              simp only[go_sem,VV]
              apply hKY
              repeat (first|refine hn18 _ ?_|refine he18 _ _ ?_|refine hn17 _ ?_|refine he17 _ ?_|refine hf17 _ _ (by decide) ?_|refine hn16 _ ?_|refine he16 _ _ ?_|refine hn15 _ ?_|refine he15 _ _ ?_|refine he14 _ _ ?_|refine hn13 _ ?_|refine he13 _ ?_|refine hf13 _ _ (by decide) ?_|refine hn12 _ ?_|refine he12 _ ?_|refine hf12 _ _ (by decide) ?_|refine hn11 _ ?_|refine he11 _ _ ?_)
              have hlt:=zfL hal hbl (by omega) c1 c2 c3
              refine zk fun KY hKY=>?_
              simp only[go_sem,Qq,inc k (by omega)]
              apply hKY
              repeat (first|refine hn18 _ ?_|refine he18 _ _ ?_|refine hn17 _ ?_|refine he17 _ ?_|refine hf17 _ _ (by decide) ?_|refine hn16 _ ?_|refine he16 _ _ ?_|refine hn15 _ ?_|refine he15 _ _ ?_)
              refine hn14 _ ((k+1,KR lab' a b,true)) (es.length - (k+1)) (by omega) (by first|(simp only[go_sem,zd,ze];done)|with_reducible rfl|rfl) ?_
              exact⟨hk2,rfl,W'.step (.inl hxm) (by omega) (by omega) c1 c2,fun _=>by omega,(fun h=>by cases h),by omega⟩
      · refine Zy ?_
        refine zy ?_
        repeat (first|refine hn15 _ ?_|refine he15 _ _ ?_|refine he14 _ _ ?_|refine hn13 _ ?_|refine he13 _ ?_|refine hf13 _ _ (by decide) ?_|refine hn12 _ ?_|refine he12 _ ?_|refine hf12 _ _ (by decide) ?_|refine hn11 _ ?_|refine he11 _ _ ?_|refine he10 _ _ ?_|refine hn9 _ ?_|refine he9 _ ?_|refine hf9 _ _ (by decide) ?_|refine hn8 _ ?_|refine he8 _ _ ?_|refine hn5 _ ?_|refine he5 _ _ ?_|refine he4 _ _ ?_|refine hn3 _ ?_|refine he3 _ ?_|refine hf3 _ _ (by decide) ?_|refine hn2 _ ?_|refine he2 _ _ ?_|refine hn1 _ ?_|refine he1 _ _ ?_)
        obtain rfl:k=es.length:=by omega
        rw[List.take_length] at h2
        cases ag with
        | true=>
          have:=h1 rfl
          repeat (first|refine hn15 _ ?_|refine he15 _ _ ?_|refine he14 _ _ ?_|refine hn13 _ ?_|refine he13 _ ?_|refine hf13 _ _ (by decide) ?_|refine hn12 _ ?_|refine he12 _ ?_|refine hf12 _ _ (by decide) ?_|refine hn11 _ ?_|refine he11 _ _ ?_)
          refine hn10 _ ((lab',true)) (Jb lab'+1) (by omega) (by first|(simp only[go_sem,zd,ze];done)|with_reducible rfl|rfl) ?_
          exact⟨rfl,W',(fun h=>by cases h)⟩
        | false=>
          repeat (first|refine hn15 _ ?_|refine he15 _ _ ?_|refine he14 _ _ ?_|refine hn13 _ ?_|refine he13 _ ?_|refine hf13 _ _ (by decide) ?_|refine hn12 _ ?_|refine he12 _ ?_|refine hf12 _ _ (by decide) ?_|refine hn11 _ ?_|refine he11 _ _ ?_)
          refine hn10 _ ((lab',false)) (Jb lab') (by omega) (by first|(simp only[go_sem,zd,ze];done)|with_reducible rfl|rfl) ?_
          exact⟨rfl,W',fun _=>h2 rfl⟩
    | false =>
      refine Zy ?_
      refine zy ?_
      repeat (first|refine hn11 _ ?_|refine he11 _ _ ?_|refine he10 _ _ ?_|refine hn9 _ ?_|refine he9 _ ?_|refine hf9 _ _ (by decide) ?_|refine hn8 _ ?_|refine he8 _ _ ?_|refine hn5 _ ?_|refine he5 _ _ ?_|refine he4 _ _ ?_|refine hn3 _ ?_|refine he3 _ ?_|refine hf3 _ _ (by decide) ?_|refine hn2 _ ?_|refine he2 _ _ ?_|refine hn1 _ ?_|refine he1 _ _ ?_)
      have hps:=W.pieces g.adj_lt (hfix rfl)
      refine za fun KY hKY=>?_
      simp only[go_sem,VU]
      apply hKY
      simp only[go_sem]
      refine jP [0,12] 1 (by simp only[go_sem]) ?_
      simp only[go_sem]
      rw[show zc.own (some 1) []= .own (some 1) (ZK (Z7 v lab 0)) from rfl]
      refine zf fun X19 hn19 he19 hr19=>?_
      refine za fun KY hKY=>?_
      simp only[go_sem,VT]
      apply hKY
      refine zm fun X20 hn20 he20 hf20 hr20=>?_
      try simp only[go_sem]
      refine zU (α:=Nat) [8,9,10,11,14,15,25,34,38,43,80,101,109,113,121] (fun u=>[(12,.own (some 1) (ZK (Z7 v lab u))),(13,.sc (.int .i64 (u:Int)))]) (fun u=>[]) (fun u q=>u≤v∧q=v - u) (0) (v) rfl (by first|(simp only[go_sem,zd,ze];done)|with_reducible rfl|rfl) (⟨by omega,rfl⟩) ?_
      rintro u q ⟨hu,rfl⟩ X21 hn21 he21 hr21
      simp only[go_sem,zd,ze]
      refine zf fun X22 hn22 he22 hr22=>?_
      refine za fun KY hKY=>?_
      simp only[go_sem,VS]
      apply hKY
      by_cases hu2:u<v
      · refine ZL ?_
        refine zg ?_
        repeat (first|refine hn22 _ ?_|refine he22 _ _ ?_|refine he21 _ _ ?_|refine hn20 _ ?_|refine he20 _ ?_|refine hf20 _ _ (by decide) ?_|refine hn19 _ ?_|refine he19 _ _ ?_|refine hn11 _ ?_|refine he11 _ _ ?_)
        refine zf fun X23 hn23 he23 hr23=>?_
        refine zm fun X24 hn24 he24 hf24 hr24=>?_
        refine zf fun X25 hn25 he25 hr25=>?_
        have hul:u<lab.length:=by rw[W.len];exact hu2
        have hstp:=zb1 v lab u
        refine za fun KY hKY=>?_
        simp only[go_sem,VR,zh hul,hul]
        apply hKY
        by_cases c:lab.getD u 0=(u:Int)
        · rw[if_pos c] at hstp
          refine Zo (by first|rfl|(simp only[go_sem,c,ne_eq,not_true_eq_false];try simp(disch:=omega) only[decide_eq_true,decide_eq_false])) ?_
          refine zg ?_
          repeat (first|refine hn25 _ ?_|refine he25 _ _ ?_|refine hn24 _ ?_|refine he24 _ ?_|refine hf24 _ _ (by decide) ?_|refine hn23 _ ?_|refine he23 _ _ ?_|refine hn22 _ ?_|refine he22 _ _ ?_|refine he21 _ _ ?_|refine hn20 _ ?_|refine he20 _ ?_|refine hf20 _ _ (by decide) ?_|refine hn19 _ ?_|refine he19 _ _ ?_|refine hn11 _ ?_|refine he11 _ _ ?_)
          refine za fun KY hKY=>?_
          simp only[go_sem,VQ]
          apply hKY
          simp only[go_sem]
          refine jP [0,14] 1 (by simp only[go_sem]) ?_
          simp only[go_sem]
          rw[show zc.own (some 1) []= .own (some 1) (zC (UA lab u 0)) from rfl]
          refine zf fun X26 hn26 he26 hr26=>?_
          refine za fun KY hKY=>?_
          simp only[go_sem,VP]
          apply hKY
          refine zm fun X27 hn27 he27 hf27 hr27=>?_
          try simp only[go_sem]
          refine zU (α:=Nat) [113,121] (fun w=>[(14,.own (some 1) (zC (UA lab u w))),(15,.sc (.int .i64 (w:Int)))]) (fun w=>[]) (fun w q=>w≤v∧q=v - w) (0) (v) rfl (by first|(simp only[go_sem,zd,ze];done)|with_reducible rfl|rfl) (⟨by omega,rfl⟩) ?_
          rintro w q ⟨hw,rfl⟩ X28 hn28 he28 hr28
          simp only[go_sem,zd,ze]
          have hfs:=zc6 lab u w
          have hfl:=zew lab u w
          refine zf fun X29 hn29 he29 hr29=>?_
          refine za fun KY hKY=>?_
          simp only[go_sem,VO]
          apply hKY
          by_cases hw2:w<v
          · refine ZL ?_
            refine zg ?_
            repeat (first|refine hn29 _ ?_|refine he29 _ _ ?_|refine he28 _ _ ?_|refine hn27 _ ?_|refine he27 _ ?_|refine hf27 _ _ (by decide) ?_|refine hn26 _ ?_|refine he26 _ _ ?_|refine hn25 _ ?_|refine he25 _ _ ?_|refine hn24 _ ?_|refine he24 _ ?_|refine hf24 _ _ (by decide) ?_|refine hn23 _ ?_|refine he23 _ _ ?_|refine hn22 _ ?_|refine he22 _ _ ?_)
            refine zf fun X30 hn30 he30 hr30=>?_
            refine zm fun X31 hn31 he31 hf31 hr31=>?_
            have hwl:w<lab.length:=by rw[W.len];exact hw2
            have hby2:((UA lab u w).length+1)*8≤140737488355328:=by omega
            refine za fun KY hKY=>?_
            simp only[go_sem,VN,zh hwl,hwl]
            apply hKY
            by_cases c4:lab.getD w 0=(u:Int)
            · rw[if_pos c4] at hfs
              refine Zs (by first|rfl|(simp only[go_sem,c4];try simp(disch:=omega) only[decide_eq_true,decide_eq_false])) ?_
              refine zk fun KY hKY=>?_
              simp only[go_sem,VM,ZR,hby2]
              apply hKY
              repeat (first|refine hn31 _ ?_|refine he31 _ ?_|refine hf31 _ _ (by decide) ?_|refine hn30 _ ?_|refine he30 _ _ ?_|refine hn29 _ ?_|refine he29 _ _ ?_|refine he28 _ _ ?_|refine hn27 _ ?_|refine he27 _ ?_|refine hf27 _ _ (by decide) ?_|refine hn26 _ ?_|refine he26 _ _ ?_|refine hn25 _ ?_|refine he25 _ _ ?_|refine hn24 _ ?_|refine he24 _ ?_|refine hf24 _ _ (by decide) ?_|refine hn23 _ ?_|refine he23 _ _ ?_|refine hn22 _ ?_|refine he22 _ _ ?_)
              refine zk fun KY hKY=>?_
              simp only[go_sem,WS,inc w (by omega)]
              apply hKY
              repeat (first|refine hn31 _ ?_|refine he31 _ ?_|refine hf31 _ _ (by decide) ?_|refine hn30 _ ?_|refine he30 _ _ ?_|refine hn29 _ ?_|refine he29 _ _ ?_)
              refine hn28 _ (w+1) (v - (w+1)) (by omega) (by first|(simp only[go_sem,zd,ze,hfs];done)|with_reducible rfl|rfl) ?_
              exact⟨hw2,rfl⟩
            · rw[if_neg c4] at hfs
              refine Zo (by first|rfl|(simp only[go_sem,c4];try simp(disch:=omega) only[decide_eq_true,decide_eq_false])) ?_
              refine zg ?_
              repeat (first|refine hn31 _ ?_|refine he31 _ ?_|refine hf31 _ _ (by decide) ?_|refine hn30 _ ?_|refine he30 _ _ ?_|refine hn29 _ ?_|refine he29 _ _ ?_|refine he28 _ _ ?_|refine hn27 _ ?_|refine he27 _ ?_|refine hf27 _ _ (by decide) ?_|refine hn26 _ ?_|refine he26 _ _ ?_|refine hn25 _ ?_|refine he25 _ _ ?_|refine hn24 _ ?_|refine he24 _ ?_|refine hf24 _ _ (by decide) ?_|refine hn23 _ ?_|refine he23 _ _ ?_|refine hn22 _ ?_|refine he22 _ _ ?_)
              refine zk fun KY hKY=>?_
              simp only[go_sem,WS,inc w (by omega)]
              apply hKY
              repeat (first|refine hn31 _ ?_|refine he31 _ ?_|refine hf31 _ _ (by decide) ?_|refine hn30 _ ?_|refine he30 _ _ ?_|refine hn29 _ ?_|refine he29 _ _ ?_)
              refine hn28 _ (w+1) (v - (w+1)) (by omega) (by first|(simp only[go_sem,zd,ze,hfs];done)|with_reducible rfl|rfl) ?_
              exact⟨hw2,rfl⟩
          · refine Zy ?_
            refine zy ?_
            repeat (first|refine hn29 _ ?_|refine he29 _ _ ?_|refine he28 _ _ ?_|refine hn27 _ ?_|refine he27 _ ?_|refine hf27 _ _ (by decide) ?_|refine hn26 _ ?_|refine he26 _ _ ?_|refine hn25 _ ?_|refine he25 _ _ ?_|refine hn24 _ ?_|refine he24 _ ?_|refine hf24 _ _ (by decide) ?_|refine hn23 _ ?_|refine he23 _ _ ?_|refine hn22 _ ?_|refine he22 _ _ ?_|refine he21 _ _ ?_|refine hn20 _ ?_|refine he20 _ ?_|refine hf20 _ _ (by decide) ?_|refine hn19 _ ?_|refine he19 _ _ ?_|refine hn11 _ ?_|refine he11 _ _ ?_|refine he10 _ _ ?_|refine hn9 _ ?_|refine he9 _ ?_|refine hf9 _ _ (by decide) ?_|refine hn8 _ ?_|refine he8 _ _ ?_|refine hn5 _ ?_|refine he5 _ _ ?_)
            obtain rfl:w=v:=by omega
            have hbl:=zaM w lab u
            have hby3:((Z7 w lab u).length+1)*24≤140737488355328:=by omega
            refine zk fun KY hKY=>?_
            simp only[go_sem,VL,x8,hby3,J6,←hstp]
            apply hKY
            repeat (first|refine hn29 _ ?_|refine he29 _ _ ?_|refine he28 _ _ ?_|refine hn27 _ ?_|refine he27 _ ?_|refine hf27 _ _ (by decide) ?_|refine hn26 _ ?_|refine he26 _ _ ?_|refine hn25 _ ?_|refine he25 _ _ ?_|refine hn24 _ ?_|refine he24 _ ?_|refine hf24 _ _ (by decide) ?_|refine hn23 _ ?_|refine he23 _ _ ?_|refine hn22 _ ?_|refine he22 _ _ ?_)
            refine zk fun KY hKY=>?_
            simp only[go_sem,WR,inc u (by omega)]
            apply hKY
            repeat (first|refine hn29 _ ?_|refine he29 _ _ ?_|refine he28 _ _ ?_|refine hn27 _ ?_|refine he27 _ ?_|refine hf27 _ _ (by decide) ?_|refine hn26 _ ?_|refine he26 _ _ ?_|refine hn25 _ ?_|refine he25 _ _ ?_|refine hn24 _ ?_|refine he24 _ ?_|refine hf24 _ _ (by decide) ?_|refine hn23 _ ?_|refine he23 _ _ ?_|refine hn22 _ ?_|refine he22 _ _ ?_)
            refine hn21 _ (u+1) (w - (u+1)) (by omega) (by first|(simp only[go_sem,zd,ze];done)|with_reducible rfl|rfl) ?_
            exact⟨hu2,rfl⟩
        · rw[if_neg c] at hstp
          refine Zs (by first|rfl|(simp only[go_sem,c,ne_eq,not_false_eq_true];try simp(disch:=omega) only[decide_eq_true,decide_eq_false])) ?_
          refine zy ?_
          repeat (first|refine hn25 _ ?_|refine he25 _ _ ?_|refine hn24 _ ?_|refine he24 _ ?_|refine hf24 _ _ (by decide) ?_|refine hn23 _ ?_|refine he23 _ _ ?_|refine hn22 _ ?_|refine he22 _ _ ?_|refine he21 _ _ ?_|refine hn20 _ ?_|refine he20 _ ?_|refine hf20 _ _ (by decide) ?_|refine hn19 _ ?_|refine he19 _ _ ?_|refine hn11 _ ?_|refine he11 _ _ ?_|refine he10 _ _ ?_|refine hn9 _ ?_|refine he9 _ ?_|refine hf9 _ _ (by decide) ?_|refine hn8 _ ?_|refine he8 _ _ ?_|refine hn5 _ ?_|refine he5 _ _ ?_|refine he4 _ _ ?_|refine hn3 _ ?_|refine he3 _ ?_|refine hf3 _ _ (by decide) ?_|refine hn2 _ ?_|refine he2 _ _ ?_|refine hn1 _ ?_|refine he1 _ _ ?_)
          rw[←hstp]
          refine zk fun KY hKY=>?_
          simp only[go_sem,WR,inc u (by omega)]
          apply hKY
          repeat (first|refine hn25 _ ?_|refine he25 _ _ ?_|refine hn24 _ ?_|refine he24 _ ?_|refine hf24 _ _ (by decide) ?_|refine hn23 _ ?_|refine he23 _ _ ?_|refine hn22 _ ?_|refine he22 _ _ ?_)
          refine hn21 _ (u+1) (v - (u+1)) (by omega) (by first|(simp only[go_sem,zd,ze];done)|with_reducible rfl|rfl) ?_
          exact⟨hu2,rfl⟩
      · refine Zy ?_
        refine zy ?_
        repeat (first|refine hn22 _ ?_|refine he22 _ _ ?_|refine he21 _ _ ?_|refine hn20 _ ?_|refine he20 _ ?_|refine hf20 _ _ (by decide) ?_|refine hn19 _ ?_|refine he19 _ _ ?_|refine hn11 _ ?_|refine he11 _ _ ?_|refine he10 _ _ ?_|refine hn9 _ ?_|refine he9 _ ?_|refine hf9 _ _ (by decide) ?_|refine hn8 _ ?_|refine he8 _ _ ?_|refine hn5 _ ?_|refine he5 _ _ ?_|refine he4 _ _ ?_|refine hn3 _ ?_|refine he3 _ ?_|refine hf3 _ _ (by decide) ?_|refine hn2 _ ?_|refine he2 _ _ ?_|refine hn1 _ ?_|refine he1 _ _ ?_)
        obtain rfl:u=v:=by omega
        refine za fun KY hKY=>?_
        simp only[go_sem,VK]
        apply hKY
        refine zi ?_
        repeat (first|refine hr22 _ ?_|refine hr21 _ ?_|refine hr20 _ ?_|refine hr19 _ ?_|refine hr11 _ ?_|refine hr10 _ ?_|refine hr9 _ ?_|refine hr8 _ ?_|refine hr5 _ ?_|refine hr4 _ ?_|refine hr3 _ ?_|refine hr2 _ ?_|refine hr1 _ ?_)
        simp only[go_sem]
        exact⟨⟨_,hps,rfl⟩,rfl⟩
def zcc (n:Int)(es:List (Int×Int))(out:List Int)(ps:List (List Nat)):Prop:=
 (ZB n es=true∧∃(N:Nat) (es':Es),n=N∧es=zP es'∧GR N es'∧ZX N es' (fun v=>(v:Int)∈out) ps)∨(ZB n es=false∧ps=[])
theorem vP :∀{l m:Es},zP l=zP m→l=m
 |[],[],_=>rfl
 |[],_::_,h=>by simp[zP] at h
 |_::_,[],h=>by simp[zP] at h
 | (a,b)::l,(c,d)::m,h=>by
   simp only[zP,List.map_cons,List.cons.injEq,Prod.mk.injEq] at h
   obtain⟨⟨h1,h2⟩,h3⟩:=h
   rw[vP (l:=l) (m:=m) h3,show a=c by omega,show b=d by omega]
theorem zcc.unique {n:Int}{es:List (Int×Int)}{out:List Int}{ps qs:List (List Nat)}(h:zcc n es out ps)(h':zcc n es out qs):ps=qs:=by
 rcases h with⟨r,N,es',rfl,rfl,g,P⟩|⟨r,rfl⟩
 · rcases h' with⟨_,N',es'',e1,e2,_,Q⟩|⟨r',_⟩
   · obtain rfl:N=N':=by omega
     rw[←vP e2] at Q
     exact P.unique g.adj_lt Q
   · rw[r] at r';cases r'
 · rcases h' with⟨r',_⟩|⟨_,rfl⟩
   · rw[r] at r';cases r'
   · rfl
theorem zcc.len {n:Int}{es:List (Int×Int)}{out:List Int}{ps:List (List Nat)}(h:zcc n es out ps):ps.length≤4096∧∀p∈ps,p.length≤4096:=by
 rcases h with⟨_,N,es',_,_,g,P⟩|⟨_,rfl⟩
 · have:=g.hn
   exact⟨Nat.le_trans (Xj P) this,fun p hp=>Nat.le_trans (vk P hp) this⟩
 · exact⟨by simp,fun p hp=>by simp at hp⟩
theorem zcc.disj {n:Int}{es:List (Int×Int)}{out:List Int}{ps:List (List Nat)}(h:zcc n es out ps):ps.Pairwise fun p q=>∀v∈p,v∉q:=by
 rcases h with⟨_,N,es',_,_,g,P⟩|⟨_,rfl⟩
 · exact P.disj
 · exact .nil
def mOk (es:Es)(m:List Int)(v:Nat):Bool:=decide (m.getD v 0= -1)||(decide (Jt (v:Int) (m.getD v 0)∈zP es)&&decide (m.getD (m.getD v 0).toNat 0=(v:Int)))
theorem zeA {N:Nat}{es:Es}(g:GR N es){v:Nat}{w:Int}(h:Jt (v:Int) w∈zP es):∃u:Nat,w=u∧u<N∧v<N∧u≠v:=by
 obtain⟨⟨a,b⟩,hm,e⟩:=List.mem_map.1 h
 have hok:=g.ok _ hm
 simp only at hok
 unfold Jt at e
 split at e
 · simp only[Prod.mk.injEq] at e
   exact⟨a,by omega,by omega,by omega,by omega⟩
 · simp only[Prod.mk.injEq] at e
   exact⟨b,by omega,by omega,by omega,by omega⟩
theorem zlY {N k:Nat}{φ:Nat→Bool}(h:k<N)(hf:φ k=false):((List.range N).all fun v=>φ v)=false:=by
 rw[Bool.eq_false_iff];intro h'
 rw[List.all_eq_true] at h'
 rw[h' k (List.mem_range.2 h)] at hf;cases hf
def jAt (m:List Int)(l:Es)(v:Nat):Bool:=l.any fun e=>(decide (e.1=v)||decide (e.2=v))&&(decide (m.getD e.1 0=(e.2:Int))&&decide (m.getD e.2 0=(e.1:Int)))
theorem zkK {N:Nat}{es:Es}(g:GR N es)(m:List Int){v:Nat}(hw:m.getD v 0≠ -1):jAt m es v=mOk es m v:=by
 rw[Bool.eq_iff_iff]
 unfold jAt mOk
 rw[List.any_eq_true,decide_eq_false hw,Bool.false_or,Bool.and_eq_true,decide_eq_true_iff,decide_eq_true_iff]
 constructor
 · rintro⟨⟨a,b⟩,he,h⟩
   have hok:=g.ok _ he
   simp only[Bool.and_eq_true,Bool.or_eq_true,decide_eq_true_eq] at h hok
   obtain⟨rfl|rfl,h1,h2⟩:=h
   · rw[h1]
     refine⟨?_,by rw[Int.toNat_natCast];exact h2⟩
     unfold Jt;rw[if_neg (by omega)];exact Qj.2 he
   · rw[h2]
     refine⟨?_,by rw[Int.toNat_natCast];exact h1⟩
     unfold Jt;rw[if_pos (by omega)];exact Qj.2 he
 · rintro⟨h1,h2⟩
   obtain⟨u,hu,_,_,hne⟩:=zeA g h1
   rw[hu] at h1 h2
   rw[Int.toNat_natCast] at h2
   unfold Jt at h1
   split at h1
   · exact⟨(u,v),Qj.1 h1,by simp only[hu,h2,decide_true,Bool.or_true,Bool.true_or,Bool.and_self]⟩
   · exact⟨(v,u),Qj.1 h1,by simp only[hu,h2,decide_true,Bool.or_true,Bool.true_or,Bool.and_self]⟩
def jL (N:Nat)(m:List Int)(l:Es):List Bool:=(List.range N).map (jAt m l)
theorem zbL (N:Nat)(m:List Int)(l:Es):(jL N m l).length=N:=by simp[jL]
theorem zkJ {N:Nat}(m:List Int)(l:Es){v:Nat}(h:v<N):(jL N m l).getD v false=jAt m l v:=by simp[jL,h]
theorem zja {N:Nat}(m:List Int)(l:Es){a b:Nat}(h:¬(m.getD a 0=(b:Int)∧m.getD b 0=(a:Int))):jL N m (l++[(a,b)])=jL N m l:=by
 refine List.map_congr_left fun v _=>?_
 unfold jAt
 rw[List.any_append]
 have:(decide (m.getD a 0=(b:Int))&&decide (m.getD b 0=(a:Int)))=false:=by
  rw[Bool.eq_false_iff];intro h';rw[Bool.and_eq_true,decide_eq_true_iff,decide_eq_true_iff] at h';exact h h'
 simp only[List.any_cons,List.any_nil,this,Bool.and_false,Bool.or_false]
theorem zkI {N:Nat}(m:List Int)(l:Es){a b:Nat}(h:m.getD a 0=(b:Int)∧m.getD b 0=(a:Int)):((jL N m l).set a true).set b true=jL N m (l++[(a,b)]):=by
 apply List.ext_getElem
 · simp[jL]
 · intro i h1 h2
   have hi:i<N:=by rw[zbL] at h2;exact h2
   have e:jAt m (l++[(a,b)]) i=(jAt m l i||(decide (a=i)||decide (b=i))):=by
    unfold jAt
    rw[List.any_append]
    simp only[List.any_cons,List.any_nil,h.1,h.2,decide_true,Bool.and_true,Bool.or_false]
   simp only[jL,List.getElem_set,List.getElem_map,List.getElem_range,e]
   by_cases hb:b=i
   · simp[hb]
   · by_cases ha:a=i
     · simp[ha,hb]
     · simp[ha,hb]
theorem zbz {N:Nat}{es:Es}(g:GR N es)(m:List Int)(hl:m.length=N):zo Try.prog [] ziE [.agg [.sc (.int .i64 (N:Int)),.imm 2 (Zj (zP es))],.imm 1 (zj m)] [] fun r h'=>r= .sc (.bool ((List.range N).all fun v=>mOk es m v))∧h'=[]:=by
 refine zo.trim ?_
 have hN:=g.hn
 have hem:=g.hm
 have hr:=Jk g
 have hd:decide ((m.length:Int)≠(N:Int))=false:=decide_eq_false (by omega)
 have h0:List.replicate N false=jL N m (es.take 0):=by
  apply List.ext_getElem
  · simp[jL]
  · intro i h1 h2;simp[jL,jAt]
 refine zk7 rfl ?_
 unfold zjz jd
 refine za fun KY hKY=>?_
 simp only[go_sem,pG]
 apply hKY
 refine zf fun X1 hn1 he1 hr1=>?_
 refine za fun KY hKY=>?_
 simp only[go_sem,pF]
 refine zA rfl (by simp only[go_sem]<;>rfl) ((ym N (zP es)).mono ?_)
 rintro rr hh ⟨rfl,rfl⟩
 refine⟨rfl,rfl,rfl,?_⟩
 simp only[go_sem,hr,zq,hd]
 apply hKY
 refine Zy ?_
 refine zg ?_
 repeat (first|refine hn1 _ ?_|refine he1 _ _ ?_)
 refine za fun KY hKY=>?_
 simp only[go_sem,pE,(show N≤140737488355328 by omega),(show 1*N≤140737488355328 by omega),(show(N:Int)≤(N:Int) from Int.le_refl _),(show(N:Int)≤9223372036854775807 by omega),h0]
 apply hKY
 refine zf fun X2 hn2 he2 hr2=>?_
 refine za fun KY hKY=>?_
 simp only[go_sem,pD,ZM,xv,zx]
 apply hKY
 refine zm fun X3 hn3 he3 hf3 hr3=>?_
 try simp only[go_sem]
 refine zU (α:=Nat) [7,27,47] (fun k=>[(5,.own (some 1) (Zb (jL N m (es.take k)))),(26,.sc (.int .i64 (k:Int)))]) (fun k=>[]) (fun k q=>k≤es.length∧q=es.length - k) (0) (es.length) rfl (by first|(simp only[go_sem,zd,ze];done)|with_reducible rfl|rfl) (⟨by omega,rfl⟩) ?_
 rintro k q ⟨hk,rfl⟩ X4 hn4 he4 hr4
 simp only[go_sem,zd,ze]
 rcases Nat.lt_or_ge k es.length with hk2|hk2
 · have hdy:decide ((k:Int)<(es.length:Int))=true:=decide_eq_true (by omega)
   refine za fun KY hKY=>?_
   simp only[go_sem,uC,hdy]
   apply hKY
   refine zf fun X5 hn5 he5 hr5=>?_
   refine ZL ?_
   refine zg ?_
   repeat (first|refine hn5 _ ?_|refine he5 _ _ ?_|refine he4 _ _ ?_|refine hn3 _ ?_|refine he3 _ ?_|refine hf3 _ _ (by decide) ?_|refine hn2 _ ?_|refine he2 _ _ ?_|refine hn1 _ ?_|refine he1 _ _ ?_)
   refine zf fun X6 hn6 he6 hr6=>?_
   refine zm fun X7 hn7 he7 hf7 hr7=>?_
   have hx:es[k]?=some es[k]:=List.getElem?_eq_getElem hk2
   have hxm:es[k]∈es:=List.getElem_mem hk2
   generalize es[k]=x at hx hxm
   obtain⟨a,b⟩:=x
   have hxc:=Qk hx
   have hok:=g.ok (a,b) hxm
   simp only at hok
   have htk:es.take (k+1)=es.take k++[(a,b)]:=by rw[List.take_add_one,hx];rfl
   have haN:a<N:=by omega
   have hbN:b<N:=hok.2
   refine za fun KY hKY=>?_
   simp only[go_sem,pC,(show k*2+1<es.length*2 by omega),(show 1<es.length*2 - k*2 by omega),zT hxc,List.length_drop,ZM,zx]
   apply hKY
   by_cases h1:m.getD a 0=(b:Int)
   · have d1:decide (m.getD a 0=(b:Int))=true:=decide_eq_true h1
     by_cases h2:m.getD b 0=(a:Int)
     · have d2:decide (m.getD b 0=(a:Int))=true:=decide_eq_true h2
       have hst:=zkI (N:=N) m (es.take k) ⟨h1,h2⟩
       rw[←htk] at hst
       refine zw fun KY hKY=>?_
       simp only[go_sem,wR,zh (show a<m.length by omega),zh (show b<m.length by omega),zq,hl,haN,hbN,d1,d2]
       apply hKY
       refine ZL ?_
       refine j0 fun KY hKY=>?_
       simp only[go_sem,pB,zX,zbL,haN,hbN,List.length_set,hst,(show([0,5]==[0,7])=false from rfl),Bool.not_false]
       apply hKY
       repeat (first|refine hn7 _ ?_|refine he7 _ ?_|refine hf7 _ _ (by decide) ?_|refine hn6 _ ?_|refine he6 _ _ ?_|refine hn5 _ ?_|refine he5 _ _ ?_|refine he4 _ _ ?_|refine hn3 _ ?_|refine he3 _ ?_|refine hf3 _ _ (by decide) ?_|refine hn2 _ ?_|refine he2 _ _ ?_|refine hn1 _ ?_|refine he1 _ _ ?_)
       refine zk fun KY hKY=>?_
       simp only[go_sem,wQ,zL (show k<4611686018427387904 by omega)]
       apply hKY
       repeat (first|refine hn7 _ ?_|refine he7 _ ?_|refine hf7 _ _ (by decide) ?_|refine hn6 _ ?_|refine he6 _ _ ?_|refine hn5 _ ?_|refine he5 _ _ ?_)
       refine hn4 _ (k+1) (es.length - (k+1)) (by omega) (by first|(simp only[go_sem,zd,ze];done)|with_reducible rfl|rfl) ?_
       exact⟨hk2,rfl⟩
     · have d2:decide (m.getD b 0=(a:Int))=false:=decide_eq_false h2
       have hst:=zja (N:=N) m (es.take k) (a:=a) (b:=b) fun h=>h2 h.2
       rw[←htk] at hst
       refine zw fun KY hKY=>?_
       simp only[go_sem,wR,zh (show a<m.length by omega),zh (show b<m.length by omega),zq,hl,haN,hbN,d1,d2]
       apply hKY
       refine Zy ?_
       refine zg ?_
       repeat (first|refine hn7 _ ?_|refine he7 _ ?_|refine hf7 _ _ (by decide) ?_|refine hn6 _ ?_|refine he6 _ _ ?_|refine hn5 _ ?_|refine he5 _ _ ?_|refine he4 _ _ ?_|refine hn3 _ ?_|refine he3 _ ?_|refine hf3 _ _ (by decide) ?_|refine hn2 _ ?_|refine he2 _ _ ?_|refine hn1 _ ?_|refine he1 _ _ ?_)
       refine zk fun KY hKY=>?_
       simp only[go_sem,wQ,zL (show k<4611686018427387904 by omega)]
       apply hKY
       repeat (first|refine hn7 _ ?_|refine he7 _ ?_|refine hf7 _ _ (by decide) ?_|refine hn6 _ ?_|refine he6 _ _ ?_|refine hn5 _ ?_|refine he5 _ _ ?_)
       refine hn4 _ (k+1) (es.length - (k+1)) (by omega) (by first|(simp only[go_sem,zd,ze,hst];done)|with_reducible rfl|rfl) ?_
       exact⟨hk2,rfl⟩
   · have d1:decide (m.getD a 0=(b:Int))=false:=decide_eq_false h1
     have hst:=zja (N:=N) m (es.take k) (a:=a) (b:=b) fun h=>h1 h.1
     rw[←htk] at hst
     refine zw fun KY hKY=>?_
     simp only[go_sem,wR,zh (show a<m.length by omega),zq,hl,haN,hbN,d1]
     apply hKY
     refine Zy ?_
     refine zg ?_
     repeat (first|refine hn7 _ ?_|refine he7 _ ?_|refine hf7 _ _ (by decide) ?_|refine hn6 _ ?_|refine he6 _ _ ?_|refine hn5 _ ?_|refine he5 _ _ ?_|refine he4 _ _ ?_|refine hn3 _ ?_|refine he3 _ ?_|refine hf3 _ _ (by decide) ?_|refine hn2 _ ?_|refine he2 _ _ ?_|refine hn1 _ ?_|refine he1 _ _ ?_)
     refine zk fun KY hKY=>?_
     simp only[go_sem,wQ,zL (show k<4611686018427387904 by omega)]
     apply hKY
     repeat (first|refine hn7 _ ?_|refine he7 _ ?_|refine hf7 _ _ (by decide) ?_|refine hn6 _ ?_|refine he6 _ _ ?_|refine hn5 _ ?_|refine he5 _ _ ?_)
     refine hn4 _ (k+1) (es.length - (k+1)) (by omega) (by first|(simp only[go_sem,zd,ze,hst];done)|with_reducible rfl|rfl) ?_
     exact⟨hk2,rfl⟩
 have hdx:decide ((k:Int)<(es.length:Int))=false:=decide_eq_false (by omega)
 refine za fun KY hKY=>?_
 simp only[go_sem,uC,hdx]
 apply hKY
 refine zf fun X8 hn8 he8 hr8=>?_
 refine Zy ?_
 refine zy ?_
 repeat (first|refine hn8 _ ?_|refine he8 _ _ ?_|refine he4 _ _ ?_|refine hn3 _ ?_|refine he3 _ ?_|refine hf3 _ _ (by decide) ?_|refine hn2 _ ?_|refine he2 _ _ ?_|refine hn1 _ ?_|refine he1 _ _ ?_)
 obtain rfl:k=es.length:=by omega
 rw[List.take_length]
 refine zf fun X9 hn9 he9 hr9=>?_
 refine za fun KY hKY=>?_
 simp only[go_sem,Vd,zq,hl]
 apply hKY
 refine zm fun X10 hn10 he10 hf10 hr10=>?_
 try simp only[go_sem]
 refine zU (α:=Nat) [8,9,60,72] (fun v=>[(59,.sc (.int .i64 (v:Int)))]) (fun v=>[]) (fun v q=>v≤N∧q=N - v∧(∀u,u<v→mOk es m u=true)) (0) (N) rfl (by first|(simp only[go_sem,zd,ze];done)|with_reducible rfl|rfl) (⟨by omega,rfl,fun v h=>by omega⟩) ?_
 rintro v q ⟨hv,rfl,hz⟩ X11 hn11 he11 hr11
 simp only[go_sem,zd,ze]
 rcases Nat.lt_or_ge v N with hv2|hv2
 · have hdy:decide ((v:Int)<(N:Int))=true:=decide_eq_true (by omega)
   refine za fun KY hKY=>?_
   simp only[go_sem,WD,hdy]
   apply hKY
   refine zf fun X12 hn12 he12 hr12=>?_
   refine ZL ?_
   refine zg ?_
   repeat (first|refine hn12 _ ?_|refine he12 _ _ ?_|refine he11 _ _ ?_|refine hn10 _ ?_|refine he10 _ ?_|refine hf10 _ _ (by decide) ?_|refine hn9 _ ?_|refine he9 _ _ ?_|refine hn8 _ ?_|refine he8 _ _ ?_)
   refine zf fun X13 hn13 he13 hr13=>?_
   refine zm fun X14 hn14 he14 hf14 hr14=>?_
   refine za fun KY hKY=>?_
   simp only[go_sem,Vc,zh (show v<m.length by omega),zq,hl,hv2]
   apply hKY
   by_cases hw:m.getD v 0= -1
   · have d1:decide (m.getD v 0≠ -1)=false:=decide_eq_false fun h=>h hw
     have hok:mOk es m v=true:=by unfold mOk;rw[decide_eq_true hw];rfl
     refine za fun KY hKY=>?_
     simp only[go_sem,Ye,d1]
     apply hKY
     refine Zy ?_
     refine zg ?_
     repeat (first|refine hn14 _ ?_|refine he14 _ ?_|refine hf14 _ _ (by decide) ?_|refine hn13 _ ?_|refine he13 _ _ ?_|refine hn12 _ ?_|refine he12 _ _ ?_|refine he11 _ _ ?_|refine hn10 _ ?_|refine he10 _ ?_|refine hf10 _ _ (by decide) ?_|refine hn9 _ ?_|refine he9 _ _ ?_|refine hn8 _ ?_|refine he8 _ _ ?_)
     refine zk fun KY hKY=>?_
     simp only[go_sem,WC,zL (show v<4611686018427387904 by omega)]
     apply hKY
     repeat (first|refine hn14 _ ?_|refine he14 _ ?_|refine hf14 _ _ (by decide) ?_|refine hn13 _ ?_|refine he13 _ _ ?_|refine hn12 _ ?_|refine he12 _ _ ?_)
     refine hn11 _ (v+1) (N - (v+1)) (by omega) (by first|(simp only[go_sem,zd,ze];done)|with_reducible rfl|rfl) ?_
     refine⟨hv2,rfl,fun u hu=>?_⟩
     rcases Nat.lt_or_ge u v with h3|h3
     · exact hz u h3
     · obtain rfl:u=v:=by omega
       exact hok
   · have d1:decide (m.getD v 0≠ -1)=true:=decide_eq_true hw
     have hj:=zkK g m hw
     have hjl:=zbL N m es
     have hg:=ji (show v<(jL N m es).length by omega)
     rw[zkJ m es hv2,hj] at hg
     cases hok:mOk es m v with
     | true=>
       rw[hok] at hg
       refine za fun KY hKY=>?_
       simp only[go_sem,Ye,d1,hg,zX,hjl,hv2]
       apply hKY
       refine Zy ?_
       refine zg ?_
       repeat (first|refine hn14 _ ?_|refine he14 _ ?_|refine hf14 _ _ (by decide) ?_|refine hn13 _ ?_|refine he13 _ _ ?_|refine hn12 _ ?_|refine he12 _ _ ?_|refine he11 _ _ ?_|refine hn10 _ ?_|refine he10 _ ?_|refine hf10 _ _ (by decide) ?_|refine hn9 _ ?_|refine he9 _ _ ?_|refine hn8 _ ?_|refine he8 _ _ ?_)
       refine zk fun KY hKY=>?_
       simp only[go_sem,WC,zL (show v<4611686018427387904 by omega)]
       apply hKY
       repeat (first|refine hn14 _ ?_|refine he14 _ ?_|refine hf14 _ _ (by decide) ?_|refine hn13 _ ?_|refine he13 _ _ ?_|refine hn12 _ ?_|refine he12 _ _ ?_)
       refine hn11 _ (v+1) (N - (v+1)) (by omega) (by first|(simp only[go_sem,zd,ze];done)|with_reducible rfl|rfl) ?_
       refine⟨hv2,rfl,fun u hu=>?_⟩
       rcases Nat.lt_or_ge u v with h3|h3
       · exact hz u h3
       · obtain rfl:u=v:=by omega
         exact hok
     | false=>
       rw[hok] at hg
       refine za fun KY hKY=>?_
       simp only[go_sem,Ye,d1,hg,zX,hjl,hv2]
       apply hKY
       refine ZL ?_
       refine za fun KY hKY=>?_
       simp only[go_sem,Vb]
       apply hKY
       refine zi ?_
       repeat (first|refine hr14 _ ?_|refine hr13 _ ?_|refine hr12 _ ?_|refine hr11 _ ?_|refine hr10 _ ?_|refine hr9 _ ?_|refine hr8 _ ?_|refine hr4 _ ?_|refine hr3 _ ?_|refine hr2 _ ?_|refine hr1 _ ?_)
       simp only[go_sem]
       rw[zlY hv2 hok]
 have hdz:decide ((v:Int)<(N:Int))=false:=decide_eq_false (by omega)
 refine za fun KY hKY=>?_
 simp only[go_sem,WD,hdz]
 apply hKY
 refine zf fun X15 hn15 he15 hr15=>?_
 refine Zy ?_
 refine zy ?_
 repeat (first|refine hn15 _ ?_|refine he15 _ _ ?_|refine he11 _ _ ?_|refine hn10 _ ?_|refine he10 _ ?_|refine hf10 _ _ (by decide) ?_|refine hn9 _ ?_|refine he9 _ _ ?_|refine hn8 _ ?_|refine he8 _ _ ?_|refine he4 _ _ ?_|refine hn3 _ ?_|refine he3 _ ?_|refine hf3 _ _ (by decide) ?_|refine hn2 _ ?_|refine he2 _ _ ?_|refine hn1 _ ?_|refine he1 _ _ ?_)
 obtain rfl:v=N:=by omega
 refine za fun KY hKY=>?_
 simp only[go_sem,Va]
 apply hKY
 refine zi ?_
 repeat (first|refine hr15 _ ?_|refine hr11 _ ?_|refine hr10 _ ?_|refine hr9 _ ?_|refine hr8 _ ?_|refine hr4 _ ?_|refine hr3 _ ?_|refine hr2 _ ?_|refine hr1 _ ?_)
 simp only[go_sem]
 rw[show((List.range v).all fun v=>mOk es m v)=true from List.all_eq_true.2 fun u hu=>hz u (List.mem_range.1 hu)]
end Go.Proofs.Ytkjppnofgmpeeaa

namespace Go.Ga.Gl
open Go Go.Ga
noncomputable def qF (n:Nat)(E:Nat→Nat→Prop)(x:Nat):List Nat:=(List.range n).filter fun v=>decide (qq n E v=x)
end Go.Ga.Gl
namespace Go.Proofs.Ytkjppnofgmpeeaa
open Go Go.Ga Go.Ga.Gl
noncomputable def Jv (N:Nat)(es:Es):List Int:=(List.range N).map fun v=>(qq N (Zp es) v:Int)
theorem zbH {N:Nat}{es:Es}{m:List Int}{S:FS}(M:Mf N (Zp es) (mf m))(I:qb N (Zp es) (mf m) S)(L:Lk (Zp es) S []):zdU N S=Jv N es:=by
 apply List.map_congr_left
 intro v _
 have:=zgb M I L v
 unfold fLb
 rw[←this]
 split<;>rfl
theorem Wv (N:Nat)(es:Es)(x:Nat):((List.range (Jv N es).length).filter fun v=>decide ((Jv N es).getD v 0=(x:Int)))=qF N (Zp es) x:=by
 have hl:(Jv N es).length=N:=by simp[Jv]
 rw[hl]
 refine List.filter_congr fun v hv=>?_
 have hv:=List.mem_range.1 hv
 have:(Jv N es).getD v 0=(qq N (Zp es) v:Int):=by simp[Jv,hv]
 rw[this]
 exact decide_eq_decide.2 ⟨fun h=>by omega,fun h=>by omega⟩
theorem zkF {N:Nat}{es:Es}(g:GR N es){m:List Int}(M:Mf N (Zp es) (mf m))(hml:m.length=N):((List.range N).all fun v=>mOk es m v)=true:=by
 rw[List.all_eq_true]
 intro v hv
 have hv:=List.mem_range.1 hv
 unfold mOk
 rw[YU (by omega)]
 rcases M.at_ v hv with h|⟨w,h,hw⟩
 · rw[h];rfl
 · have hs:=M.sy v w h
   have hadj:=(M.ne v w h).2
   obtain⟨_,_,hne⟩:=M.el v w hadj
   rw[h,Int.toNat_natCast,YU (by omega),hs,decide_eq_true (rfl:(v:Int)=v),Bool.and_true]
   have hmem:Jt (v:Int) (w:Int)∈zP es:=by
    unfold Jt
    have lt:∀a b:Nat,(a,b)∈es→a<b:=fun a b h=>by
     exact(g.ok _ h).1
    rcases hadj with h|h
    · have:=lt _ _ h
      rw[if_neg (by omega)]
      exact List.mem_map.2 ⟨(v,w),h,rfl⟩
    · have:=lt _ _ h
      rw[if_pos (by omega)]
      exact List.mem_map.2 ⟨(w,v),h,rfl⟩
   rw[decide_eq_true hmem,Bool.or_true]
theorem Lg.no {N:Nat}{E:Nat→Nat→Prop}{mt:Nat→Int}(L:Lg N E mt){l:List Nat}(A:Aug N E mt l):False:=by
 obtain⟨M2,hfr,r,hrn,hr1,hr2⟩:=zcf L.1 A (mt':=fun u=>if u∈l then(Yn l u:Int) else mt u) (fun u hu=>if_pos hu) (fun u hu=>if_neg hu)
 have h1:=KZ hrn hr1 hr2 hfr
 have h2:=L.2 _ M2
 omega
theorem zhv {N:Nat}{es:Es}(g:GR N es)(m:List Int)(hml:m.length=N)(hL:Lg N (Zp es) (mf m)):zo Try.prog [] ziM [.agg [.sc (.int .i64 (N:Int)),.imm 2 (Zj (zP es))],.imm 1 (zj m)] [] fun r h'=>r= .tup [.sc (.slice none 0 0),.own (some 1) (zj (Jv N es)),.sc (.int .i64 0)]∧h'=[]:=by
 have hN:=g.hn
 have hr:=Jk g
 have M:=hL.1
 have hm:=zkF g M hml
 have hS:zo Try.prog [] zfz [.imm 1 (Zq (J1 N es)),.imm 1 (zj m)] [] fun r h'=>h'=[]∧∃lk:Int,r= .tup [.sc (.slice none 0 0),.own (some 1) (zj (Jv N es)),.sc (.int .i64 lk)]:=by
  refine(We (J1 N es) (jM N es) hml hN (zfs g) M (zft es)).mono ?_
  rintro r h' ⟨rfl,lk,⟨l,hA,rfl⟩|⟨S,hI,hLk,rfl⟩⟩
  · exact(Lg.no hL hA).elim
  · exact⟨rfl,lk,by rw[zbH M hI hLk]⟩
 refine zli rfl ?_
 unfold zjK qh
 refine za fun KY hKY=>?_
 simp only[go_sem,PK]
 apply hKY
 refine zf fun X1 hn1 he1 hr1=>?_
 refine zm fun X2 hn2 he2 hf2 hr2=>?_
 refine za fun KY hKY=>?_
 simp only[go_sem,PJ]
 refine zA rfl (by simp only[go_sem]<;>rfl) ((ym N (zP es)).mono ?_)
 rintro rr hh ⟨rfl,rfl⟩
 refine⟨rfl,rfl,rfl,?_⟩
 simp only[go_sem,hr]
 apply hKY
 refine Zy ?_
 refine za fun KY hKY=>?_
 simp only[go_sem,PI]
 refine zA rfl (by simp only[go_sem]<;>rfl) ((zbz g m hml).mono ?_)
 rintro rr hh ⟨rfl,rfl⟩
 refine⟨rfl,rfl,rfl,?_⟩
 simp only[go_sem,hm]
 apply hKY
 refine Zy ?_
 refine zg ?_
 repeat (first|refine hn2 _ ?_|refine he2 _ ?_|refine hf2 _ _ (by decide) ?_|refine hn1 _ ?_|refine he1 _ _ ?_)
 refine za fun KY hKY=>?_
 simp only[go_sem,PH]
 apply zn [] [] true none rfl
 iterate 8 (first|(simp only[go_sem,zp]<;>rfl)|rfl)
 refine(yx g).mono ?_
 rintro _ _ ⟨rfl,rfl⟩
 refine⟨Nat.le_of_ble_eq_true rfl,(fun _=>by simp only[go_sem,Jx,and_self]),?_⟩
 simp only[go_sem,zr,zb.after]
 apply zn [] [] true none rfl
 iterate 8 (first|(simp only[go_sem,zp]<;>rfl)|rfl)
 refine(hS).mono ?_
 rintro _ _ ⟨rfl,lk,rfl⟩
 refine⟨Nat.le_of_ble_eq_true rfl,(fun _=>by simp only[go_sem,Jx,and_self]),?_⟩
 simp only[go_sem,zr,zb.after]
 apply hKY
 refine za fun KY hKY=>?_
 simp only[go_sem,PG]
 apply hKY
 refine zi ?_
 repeat (first|refine hr2 _ ?_|refine hr1 _ ?_)
 simp only[go_sem]
def k0 (φ:Nat→Bool)(k:Nat):List Nat:=(List.range k).filter φ
theorem xE (φ:Nat→Bool)(k:Nat):(k0 φ k).length≤k:=Nat.le_trans (List.length_filter_le _ _) (by simp)
theorem wj (φ:Nat→Bool)(k:Nat):k0 φ (k+1)=k0 φ k++if φ k=true then [k] else []:=by
 unfold k0
 rw[List.range_succ,List.filter_append];congr 1;simp[List.filter_cons]
theorem zb3 {N:Nat}{es:Es}(g:GR N es):zo Try.prog [] ziZ [.agg [.sc (.int .i64 (N:Int)),.imm 2 (Zj (zP es))]] [] fun r h'=>∃(m:List Int),m.length=N∧(∃D A bs,Fc N (Zp es) (mf m) D A bs)∧((N=0∧r= .tup [.own (some 1) (zj (Jv N es)),.own (some 1) [],.sc (.int .i64 0)]∧h'=[])∨(0<N∧r= .tup [.own (some 1) (zj (Jv N es)),.sl 0 0 N 1,.sc (.int .i64 0)]∧h'=[some (zj m)])):=by
 have hP:=fun m hml hL=>zhv g m hml hL
 refine zly rfl ?_
 unfold zj0 QY
 refine za fun KY hKY=>?_
 simp only[go_sem,OT]
 apply hKY
 refine za fun KY hKY=>?_
 simp only[go_sem,OS]
 apply zn [] [] false none rfl
 iterate 8 (first|(simp only[go_sem,zp]<;>rfl)|rfl)
 refine(zbF g).mono ?_
 rintro _ _ ⟨m,S,a,b,hml,M,I,L,⟨h0,rfl,rfl⟩|⟨h0,rfl,rfl⟩⟩
 · have hLg:=zcI M I L
   have hm0:zj m=[]:=by
    rw[List.length_eq_zero_iff.1 (hml.trans h0)];rfl
   have hP1:=hP m hml hLg
   rw[hm0] at hP1
   refine⟨Nat.le_of_ble_eq_true rfl,(fun hh=>by cases hh),?_⟩
   simp only[go_sem,zr,zb.after]
   apply hKY
   refine zf fun X1 hn1 he1 hr1=>?_
   refine za fun KY hKY=>?_
   simp only[go_sem,u4]
   apply hKY
   refine Zy ?_
   refine zg ?_
   repeat (first|refine hn1 _ ?_|refine he1 _ _ ?_)
   refine za fun KY hKY=>?_
   simp only[go_sem,u0]
   apply zn [] [] true none rfl
   iterate 8 (first|(simp only[go_sem,zp]<;>rfl)|rfl)
   refine(hP1).mono ?_
   rintro _ _ ⟨rfl,rfl⟩
   refine⟨Nat.le_of_ble_eq_true rfl,(fun _=>by simp only[go_sem,Jx,and_self]),?_⟩
   simp only[go_sem,zr,zb.after]
   apply hKY
   refine za fun KY hKY=>?_
   simp only[go_sem,uZ]
   apply hKY
   refine zi ?_
   repeat (first|refine hr1 _ ?_)
   simp only[go_sem]
   exact⟨m,hml,⟨_,_,_,zcJ M I L⟩,.inl h0⟩
 · have hLg:=zcI M I L
   have hP1:=hP m hml hLg
   have htk:List.take N (zj m)=zj m:=List.take_of_length_le (by rw[zq];omega)
   refine⟨Nat.le_of_ble_eq_true rfl,(fun hh=>by cases hh),?_⟩
   simp only[go_sem,zr,zb.after]
   apply hKY
   refine zf fun X2 hn2 he2 hr2=>?_
   refine za fun KY hKY=>?_
   simp only[go_sem,u4]
   apply hKY
   refine Zy ?_
   refine zg ?_
   repeat (first|refine hn2 _ ?_|refine he2 _ _ ?_)
   refine za fun KY hKY=>?_
   simp only[go_sem,u0]
   refine zA rfl (by simp only[go_sem,hml,Nat.le_refl,htk]<;>rfl) ((hP1).mono ?_)
   rintro rr hh ⟨rfl,rfl⟩
   refine⟨?_,?_,?_,?_⟩
   iterate 3 (first|rfl|simp only[go_sem])
   simp only[go_sem]
   apply hKY
   refine za fun KY hKY=>?_
   simp only[go_sem,uZ]
   apply hKY
   refine zi ?_
   repeat (first|refine hr2 _ ?_)
   simp only[go_sem]
   exact⟨m,hml,⟨_,_,_,zcJ M I L⟩,.inr ⟨h0,rfl⟩⟩
def zeU (l:List Int)(x:Int):List Nat:=k0 (fun v=>decide (l.getD v 0=x)) l.length
theorem zgI (l:List Int)(x:Int)(hl:l.length≤100000):zo Try.prog [] ziL [.imm 1 (zj l),.sc (.int .i64 x)] [] fun r h'=>r= .own (some 1) (zC (zeU l x))∧h'=[]:=by
 refine zlh rfl ?_
 unfold zjJ JR
 refine za fun KY hKY=>?_
 simp only[go_sem,PF]
 apply hKY
 refine za fun KY hKY=>?_
 simp only[go_sem,PE]
 apply hKY
 refine jP [0,5] 1 (by simp only[go_sem]) ?_
 simp only[go_sem]
 rw[show zc.own (some 1) []= .own (some 1) (zC (k0 (fun v=>decide (l.getD v 0=x)) 0)) from rfl]
 refine zf fun X1 hn1 he1 hr1=>?_
 refine za fun KY hKY=>?_
 simp only[go_sem,PD,zq]
 apply hKY
 refine zm fun X2 hn2 he2 hf2 hr2=>?_
 try simp only[go_sem]
 refine zU (α:=Nat) [6,7,11,17] (fun k=>[(5,.own (some 1) (zC (k0 (fun v=>decide (l.getD v 0=x)) k))),(10,.sc (.int .i64 (k:Int)))]) (fun k=>[]) (fun k q=>k≤l.length∧q=l.length - k) (0) (l.length) rfl (by first|(simp only[go_sem,zd,ze];done)|with_reducible rfl|rfl) (⟨Nat.zero_le _,rfl⟩) ?_
 rintro k q ⟨hk,rfl⟩ X3 hn3 he3 hr3
 simp only[go_sem,zd,ze]
 have hsl:=xE (fun v=>decide (l.getD v 0=x)) k
 have hst:=wj (fun v=>decide (l.getD v 0=x)) k
 rcases Nat.lt_or_ge k l.length with hk2|hk2
 · have hdx:decide ((k:Int)<(l.length:Int))=true:=decide_eq_true (by omega)
   have hg:(zj l)[k]?=some (.sc (.int .i64 (l.getD k 0))):=zh hk2
   refine za fun KY hKY=>?_
   simp only[go_sem,uI,hdx]
   apply hKY
   refine zf fun X4 hn4 he4 hr4=>?_
   refine ZL ?_
   refine zg ?_
   repeat (first|refine hn4 _ ?_|refine he4 _ _ ?_|refine he3 _ _ ?_|refine hn2 _ ?_|refine he2 _ ?_|refine hf2 _ _ (by decide) ?_|refine hn1 _ ?_|refine he1 _ _ ?_)
   refine zf fun X5 hn5 he5 hr5=>?_
   refine zm fun X6 hn6 he6 hf6 hr6=>?_
   refine za fun KY hKY=>?_
   simp only[go_sem,PC,hg,zq,hk2]
   apply hKY
   by_cases hx:l.getD k 0=x
   · have hd:decide (l.getD k 0=x)=true:=decide_eq_true hx
     rw[hd,if_pos rfl] at hst
     refine za fun KY hKY=>?_
     simp only[go_sem,uH,hd]
     apply hKY
     refine ZL ?_
     refine zk fun KY hKY=>?_
     simp only[go_sem,PB,ZR,zJ,←hst,(show((k0 (fun v=>decide (l.getD v 0=x)) k).length+1)*8≤140737488355328 by omega)]
     apply hKY
     repeat (first|refine hn6 _ ?_|refine he6 _ ?_|refine hf6 _ _ (by decide) ?_|refine hn5 _ ?_|refine he5 _ _ ?_|refine hn4 _ ?_|refine he4 _ _ ?_|refine he3 _ _ ?_|refine hn2 _ ?_|refine he2 _ ?_|refine hf2 _ _ (by decide) ?_|refine hn1 _ ?_|refine he1 _ _ ?_)
     refine zk fun KY hKY=>?_
     simp only[go_sem,uG,zL (show k<4611686018427387904 by omega)]
     apply hKY
     repeat (first|refine hn6 _ ?_|refine he6 _ ?_|refine hf6 _ _ (by decide) ?_|refine hn5 _ ?_|refine he5 _ _ ?_|refine hn4 _ ?_|refine he4 _ _ ?_)
     refine hn3 _ (k+1) (l.length - (k+1)) (by omega) (by first|(simp only[go_sem,zd,ze];done)|with_reducible rfl|rfl) ?_
     exact⟨hk2,rfl⟩
   · have hd:decide (l.getD k 0=x)=false:=decide_eq_false hx
     rw[hd,if_neg (by simp),List.append_nil] at hst
     refine za fun KY hKY=>?_
     simp only[go_sem,uH,hd]
     apply hKY
     refine Zy ?_
     refine zg ?_
     repeat (first|refine hn6 _ ?_|refine he6 _ ?_|refine hf6 _ _ (by decide) ?_|refine hn5 _ ?_|refine he5 _ _ ?_|refine hn4 _ ?_|refine he4 _ _ ?_|refine he3 _ _ ?_|refine hn2 _ ?_|refine he2 _ ?_|refine hf2 _ _ (by decide) ?_|refine hn1 _ ?_|refine he1 _ _ ?_)
     refine zk fun KY hKY=>?_
     simp only[go_sem,uG,zL (show k<4611686018427387904 by omega)]
     apply hKY
     repeat (first|refine hn6 _ ?_|refine he6 _ ?_|refine hf6 _ _ (by decide) ?_|refine hn5 _ ?_|refine he5 _ _ ?_|refine hn4 _ ?_|refine he4 _ _ ?_)
     refine hn3 _ (k+1) (l.length - (k+1)) (by omega) (by first|(simp only[go_sem,zd,ze,hst];done)|with_reducible rfl|rfl) ?_
     exact⟨hk2,rfl⟩
 have hdx:decide ((k:Int)<(l.length:Int))=false:=decide_eq_false (by omega)
 obtain rfl:k=l.length:=by omega
 refine za fun KY hKY=>?_
 simp only[go_sem,uI,hdx]
 apply hKY
 refine zf fun X7 hn7 he7 hr7=>?_
 refine Zy ?_
 refine zy ?_
 repeat (first|refine hn7 _ ?_|refine he7 _ _ ?_|refine he3 _ _ ?_|refine hn2 _ ?_|refine he2 _ ?_|refine hf2 _ _ (by decide) ?_|refine hn1 _ ?_|refine he1 _ _ ?_)
 refine za fun KY hKY=>?_
 simp only[go_sem,PA]
 apply hKY
 refine zi ?_
 repeat (first|refine hr7 _ ?_|refine hr3 _ ?_|refine hr2 _ ?_|refine hr1 _ ?_)
 simp only[go_sem]
 rfl
theorem Xu (l:List Int)(x:Int)(hl:l.length≤100000):zo Try.prog [] ziY [.imm 1 (zj l),.sc (.int .i64 x)] [] fun r h'=>r= .own (some 1) (zC (zeU l x))∧h'=[]:=by
 refine zlx rfl ?_
 unfold zjZ UT
 refine za fun KY hKY=>?_
 simp only[go_sem,OR]
 apply hKY
 refine za fun KY hKY=>?_
 simp only[go_sem,OQ]
 apply zn [] [] false none rfl
 iterate 8 (first|(simp only[go_sem,zp]<;>rfl)|rfl)
 refine(zgI l x hl).mono ?_
 rintro _ _ ⟨rfl,rfl⟩
 refine⟨Nat.le_of_ble_eq_true rfl,(fun hh=>by cases hh),?_⟩
 simp only[go_sem,zr,zb.after]
 apply hKY
 refine zi ?_
 simp only[go_sem]
theorem zbQ {N:Nat}{es:Es}(g:GR N es):zo Try.prog [] zfG [.agg [.sc (.int .i64 (N:Int)),.imm 2 (Zj (zP es))]] [] fun r h'=>r= .tup [.agg [.imm 1 (zC (qF N (Zp es) 1)),.imm 1 (zC (qF N (Zp es) 2)),.imm 1 (zC (qF N (Zp es) 0))],.sc (.int .i64 0)]∧(∃mt D A bs,Fc N (Zp es) mt D A bs)∧h'=[]:=by
 refine zo.trim ?_
 have hN:=g.hn
 have hl:(Jv N es).length≤100000:=by simp[Jv];omega
 have h1:=Xu (Jv N es) (1:Nat) hl
 have h2:=Xu (Jv N es) (2:Nat) hl
 have hC:=Xu (Jv N es) (0:Nat) hl
 rw[show zeU (Jv N es) (1:Nat)=qF N (Zp es) 1 from Wv N es 1] at h1
 rw[show zeU (Jv N es) (2:Nat)=qF N (Zp es) 2 from Wv N es 2] at h2
 rw[show zeU (Jv N es) (0:Nat)=qF N (Zp es) 0 from Wv N es 0] at hC
 refine zlJ rfl ?_
 unfold zkb QZ
 refine za fun KY hKY=>?_
 simp only[go_sem,zaI]
 apply hKY
 refine za fun KY hKY=>?_
 simp only[go_sem,zaH]
 apply zn [] [] false none rfl
 iterate 8 (first|(simp only[go_sem,zp]<;>rfl)|rfl)
 refine(zb3 g).mono ?_
 rintro _ _ ⟨m,hml,⟨D,A,bs,hF⟩,⟨h0,rfl,rfl⟩|⟨h0,rfl,rfl⟩⟩
 · refine⟨Nat.le_of_ble_eq_true rfl,(fun hh=>by cases hh),?_⟩
   simp only[go_sem,zr,zb.after]
   apply hKY
   refine zf fun X1 hn1 he1 hr1=>?_
   refine za fun KY hKY=>?_
   simp only[go_sem,Ug]
   apply hKY
   refine Zy ?_
   refine zg ?_
   repeat (first|refine hn1 _ ?_|refine he1 _ _ ?_)
   refine Zv [0,4] (by simp only[go_sem];rfl) ?_
   simp only[go_sem]
   refine za fun KY hKY=>?_
   simp only[go_sem,Ue]
   apply hKY
   refine za fun KY hKY=>?_
   simp only[go_sem,Ud]
   apply zn [] [] false none rfl
   iterate 8 (first|(simp only[go_sem,zp]<;>rfl)|rfl)
   refine(h1).mono ?_
   rintro _ _ ⟨rfl,rfl⟩
   refine⟨Nat.le_of_ble_eq_true rfl,(fun hh=>by cases hh),?_⟩
   simp only[go_sem,zr,zb.after]
   apply zn [] [] false none rfl
   iterate 8 (first|(simp only[go_sem,zp]<;>rfl)|rfl)
   refine(h2).mono ?_
   rintro _ _ ⟨rfl,rfl⟩
   refine⟨Nat.le_of_ble_eq_true rfl,(fun hh=>by cases hh),?_⟩
   simp only[go_sem,zr,zb.after]
   apply zn [] [] false none rfl
   iterate 8 (first|(simp only[go_sem,zp]<;>rfl)|rfl)
   refine(hC).mono ?_
   rintro _ _ ⟨rfl,rfl⟩
   refine⟨Nat.le_of_ble_eq_true rfl,(fun hh=>by cases hh),?_⟩
   simp only[go_sem,zr,zb.after]
   apply hKY
   refine Zv [0,2,0] (by simp only[go_sem];rfl) ?_
   simp only[go_sem]
   refine Zv [0,2,1] (by simp only[go_sem];rfl) ?_
   simp only[go_sem]
   refine Zv [0,2,2] (by simp only[go_sem];rfl) ?_
   simp only[go_sem]
   refine zi ?_
   repeat (first|refine hr1 _ ?_)
   simp only[go_sem]
   exact⟨_,_,_,_,hF⟩
 · refine⟨Nat.le_of_ble_eq_true rfl,(fun hh=>by cases hh),?_⟩
   simp only[go_sem,zr,zb.after]
   apply hKY
   refine zf fun X2 hn2 he2 hr2=>?_
   refine za fun KY hKY=>?_
   simp only[go_sem,Ug]
   apply hKY
   refine Zy ?_
   refine zg ?_
   repeat (first|refine hn2 _ ?_|refine he2 _ _ ?_)
   refine Zv [0,4] (by simp only[go_sem];rfl) ?_
   simp only[go_sem]
   refine za fun KY hKY=>?_
   simp only[go_sem,Ue]
   apply hKY
   refine za fun KY hKY=>?_
   simp only[go_sem,Ud]
   apply zn [] [] false none rfl
   iterate 8 (first|(simp only[go_sem,zp]<;>rfl)|rfl)
   refine(h1).mono ?_
   rintro _ _ ⟨rfl,rfl⟩
   refine⟨Nat.le_of_ble_eq_true rfl,(fun hh=>by cases hh),?_⟩
   simp only[go_sem,zr,zb.after]
   apply zn [] [] false none rfl
   iterate 8 (first|(simp only[go_sem,zp]<;>rfl)|rfl)
   refine(h2).mono ?_
   rintro _ _ ⟨rfl,rfl⟩
   refine⟨Nat.le_of_ble_eq_true rfl,(fun hh=>by cases hh),?_⟩
   simp only[go_sem,zr,zb.after]
   apply zn [] [] false none rfl
   iterate 8 (first|(simp only[go_sem,zp]<;>rfl)|rfl)
   refine(hC).mono ?_
   rintro _ _ ⟨rfl,rfl⟩
   refine⟨Nat.le_of_ble_eq_true rfl,(fun hh=>by cases hh),?_⟩
   simp only[go_sem,zr,zb.after]
   apply hKY
   refine Zv [0,2,0] (by simp only[go_sem];rfl) ?_
   simp only[go_sem]
   refine Zv [0,2,1] (by simp only[go_sem];rfl) ?_
   simp only[go_sem]
   refine Zv [0,2,2] (by simp only[go_sem];rfl) ?_
   simp only[go_sem]
   refine zi ?_
   repeat (first|refine hr2 _ ?_)
   simp only[go_sem]
   exact⟨_,_,_,_,hF⟩
end Go.Proofs.Ytkjppnofgmpeeaa
set_option maxHeartbeats 8000000
namespace Go.Proofs.Ytkjppnofgmpeeaa
open Go Go.Ga Go.Ga.Gl
theorem XH (d1 a1 c1 d2 a2 c2:List Nat)(h1:d1.length≤1000000000)(h2:a1.length≤1000000000)(h3:c1.length≤1000000000):
    zo Try.prog [] zi6 [.agg [.imm 1 (zC d1),.imm 1 (zC a1),.imm 1 (zC c1)],.agg [.imm 1 (zC d2),.imm 1 (zC a2),.imm 1 (zC c2)]] [] fun r h'=>r= .sc (.bool (decide (d1=d2)&&decide (a1=a2)&&decide (c1=c2)))∧h'=[]:=by
  have p1:=yZ d1 d2 h1
  have p2:=yZ a1 a2 h2
  have p3:=yZ c1 c2 h3
  generalize decide (d1=d2)=x at p1⊢
  generalize decide (a1=a2)=y at p2⊢
  generalize decide (c1=c2)=z at p3⊢
  refine zlG rfl ?_
  unfold zj8 Kf
  refine za fun KY hKY=>?_
  simp only[go_sem,zax]
  apply hKY
  refine za fun KY hKY=>?_
  simp only[go_sem,zaw]
  refine zA rfl (by simp only[go_sem]<;>rfl) ((p1).mono ?_)
  rintro rr hh ⟨rfl,rfl⟩
  refine⟨rfl,rfl,rfl,?_⟩
  simp only[go_sem]
  cases x with
  | false=>
    simp only[go_sem]
    apply hKY
    refine zi ?_
    simp only[go_sem]
  | true=>
    simp only[go_sem]
    refine zA rfl (by simp only[go_sem]<;>rfl) ((p2).mono ?_)
    rintro rr hh ⟨rfl,rfl⟩
    refine⟨rfl,rfl,rfl,?_⟩
    simp only[go_sem]
    cases y with
    | false=>
      simp only[go_sem]
      apply hKY
      refine zi ?_
      simp only[go_sem]
    | true=>
      simp only[go_sem]
      refine zA rfl (by simp only[go_sem]<;>rfl) ((p3).mono ?_)
      rintro rr hh ⟨rfl,rfl⟩
      refine⟨rfl,rfl,rfl,?_⟩
      simp only[go_sem]
      apply hKY
      refine zi ?_
      simp only[go_sem]
def wd :Es:=[(0,1),(0,2)]
theorem zcj :GR 3 wd:=zep (by decide)
def U8 (x:Nat)(u:Nat):Int:=if u=0 then(x:Int) else if u=x then 0 else -1
theorem zba {x:Nat}(hx:x=1∨x=2):Mf 3 (Zp wd) (U8 x):=by
 have M0:Mf 3 (Zp wd) (fun _=> -1):=zcj.none fun _=>rfl
 refine M0.add (v:=0) (w:=x) rfl rfl ?_ (if_pos rfl) ?_ fun u h1 h2=>?_
 · rcases hx with rfl|rfl<;>simp[Zp,wd]
 · show(if x=0 then(x:Int) else if x=x then 0 else -1)=((0:Nat):Int)
   rw[if_neg (by omega),if_pos rfl];rfl
 · show(if u=0 then(x:Int) else if u=x then 0 else -1)= -1
   rw[if_neg h1,if_neg h2]
theorem zhg :Fc 3 (Zp wd) (U8 1) (fun v=>decide (v=1∨v=2)) (fun v=>decide (v=0)) (fun v=>v) where
 m:=zba (.inl rfl)
 c :={
  dn:=fun v h=>by have:=of_decide_eq_true h;omega
  an:=fun v h=>by
   have:=of_decide_eq_true h
   subst this
   exact⟨by omega,by decide⟩
  ed:=fun v w h hE=>by
   have hv:=of_decide_eq_true h
   refine .inl (decide_eq_true ?_)
   simp[Zp,wd] at hE
   omega
  db:=fun v h=>⟨h,rfl⟩
  fr:=fun v hv h=>by
   refine⟨decide_eq_true ?_,rfl⟩
   unfold U8 at h
   by_cases h0:v=0
   · rw[if_pos h0] at h;omega
   · omega
  am:=fun a h=>by
   have:=of_decide_eq_true h
   subst this
   exact⟨1,rfl,by decide,rfl⟩
  dm:=fun v h hb=>absurd rfl hb
  bb:=fun b m h hb hm=>by
   have hv:=of_decide_eq_true h
   refine decide_eq_true ?_
   unfold U8 at hm
   rcases hv with rfl|rfl
   · simp at hm;omega
   · simp at hm}
 d:=fun v h=>by
  have hv:=of_decide_eq_true h
  rcases hv with rfl|rfl
  · exact⟨U8 2,zba (.inr rfl),by decide,rfl⟩
  · exact⟨U8 1,zba (.inl rfl),by decide,rfl⟩
 a:=fun v h=>by
  have:=of_decide_eq_true h
  subst this
  exact⟨1,by decide,by simp[Zp,wd]⟩
theorem xV (k:Nat):qF 3 (Zp wd) k=(List.range 3).filter fun v=>decide ((if decide (v=1∨v=2)=true then 1 else if decide (v=0)=true then 2 else 0)=k):=
 List.filter_congr fun v _=>by rw[zhg.lab v]
theorem zb4 :zo Try.prog [] zi8 [] [] fun r h'=>r= .sc (.bool true)∧h'=[]:=by
 have hG:=zbQ zcj
 rw[xV 1,xV 2,xV 0,show((List.range 3).filter fun v=>decide ((if decide (v=1∨v=2)=true then 1 else if decide (v=0)=true then 2 else 0)=1))=[1,2] by decide,show((List.range 3).filter fun v=>decide ((if decide (v=1∨v=2)=true then 1 else if decide (v=0)=true then 2 else 0)=2))=[0] by decide,show((List.range 3).filter fun v=>decide ((if decide (v=1∨v=2)=true then 1 else if decide (v=0)=true then 2 else 0)=0))=[] by decide] at hG
 have hT:=(XH [1,2] [0] [] [1,2] [0] [] (by simp) (by simp) (by simp)).sees (.cons (.refl _) (.cons ((JC.cons (.refl _) (.cons (.refl _) (.cons (.imm 1) .nil))).agg) .nil))
 rw[show((3:Nat):Int)=3 from rfl,show Zj (zP wd)=[.sc (.int .i64 0),.sc (.int .i64 1),.sc (.int .i64 0),.sc (.int .i64 2)] from rfl] at hG
 rw[show zC [1,2]=[.sc (.int .i64 1),.sc (.int .i64 2)] from rfl,show zC [0]=[.sc (.int .i64 0)] from rfl] at hG hT
 refine zlK rfl ?_
 unfold zkc xM
 refine za fun KY hKY=>?_
 simp only[go_sem,zaL]
 apply hKY
 refine za fun KY hKY=>?_
 simp only[go_sem,zaK]
 have hG2:zo Try.prog [] zfG [.agg [.sc (.int .i64 3),.own (some 2) [.sc (.int .i64 0),.sc (.int .i64 1),.sc (.int .i64 0),.sc (.int .i64 2)]]] [] _:=zo.fzArgs hG
 apply zn [.mv] [] false none rfl
 iterate 8 (first|(simp only[go_sem,zp]<;>rfl)|rfl)
 refine(hG2).mono ?_
 rintro _ _ ⟨rfl,_,rfl⟩
 refine⟨Nat.le_of_ble_eq_true rfl,(fun hh=>by cases hh),?_⟩
 simp only[go_sem,zr,zb.after]
 apply hKY
 refine za fun KY hKY=>?_
 simp only[go_sem,zaJ]
 refine zA rfl (by simp only[go_sem]<;>rfl) ((hT).mono ?_)
 rintro rr hh ⟨rfl,rfl⟩
 refine⟨rfl,rfl,rfl,?_⟩
 simp only[go_sem,(show decide (([1,2]:List Nat)=[1,2])=true from rfl),(show decide (([0]:List Nat)=[0])=true from rfl),(show decide (([]:List Nat)=[])=true from rfl)]
 apply hKY
 refine zi ?_
 simp only[go_sem]
theorem wz (N:Nat)(E:Nat→Nat→Prop)(k:Nat):(qF N E k).length≤N:=by
 unfold qF
 exact Nat.le_trans (List.length_filter_le _ _) (by simp)
end Go.Proofs.Ytkjppnofgmpeeaa

namespace Go.Ga.Gl
open Go Go.Ga
structure Cut (E E':Nat→Nat→Prop)(v:Nat):Prop where
 iff:∀a b,E' a b↔E a b∧a≠v∧b≠v
theorem Cut.up {n:Nat}{E E':Nat→Nat→Prop}{v:Nat}(K:Cut E E' v){mt0 mt:Nat→Int}(M0:Mf n E mt0)(M:Mf n E' mt):Mf n E mt∧(v<n→mt v= -1):=by
 refine⟨M.mono (fun a b h=>((K.iff a b).1 h).1) M0.es M0.el,fun hv=>?_⟩
 rcases M.at_ v hv with h|⟨w,h,_⟩
 · exact h
 · exact absurd rfl ((K.iff v w).1 (M.ne v w h).2).2.1
theorem GR.filter {N:Nat}{es:Es}(g:GR N es)(p:Nat×Nat→Bool):GR N (es.filter p):=
 ⟨g.hn,Nat.le_trans (List.length_filter_le _ _) g.hm,fun e he=>g.ok e (List.mem_filter.1 he).1,g.up.filter _⟩
def clip (N:Nat)(mt:Nat→Int)(v:Nat):Int:=if v<N then mt v else -1
theorem Mf.clip {N:Nat}{E:Nat→Nat→Prop}{mt:Nat→Int}(M:Mf N E mt):Mf N E (Gl.clip N mt)∧qW N (Gl.clip N mt)=qW N mt:=by
 have lo:∀v,v<N→Gl.clip N mt v=mt v:=fun v h=>if_pos h
 have hi:∀v,¬v<N→Gl.clip N mt v= -1:=fun v h=>if_neg h
 have c:∀v w:Nat,Gl.clip N mt v=(w:Int)→v<N∧mt v=(w:Int):=fun v w h=>by
  by_cases k:v<N
  · rw[lo v k] at h;exact⟨k,h⟩
  · rw[hi v k] at h;omega
 refine⟨⟨fun v hv=>by rw[lo v hv];exact M.at_ v hv,fun v hv w h=>hv (c v w h).1,fun v w h=>?_,fun v w h=>M.ne v w (c v w h).2,M.es,M.el⟩,?_⟩
 · obtain⟨k1,k2⟩:=c v w h
   have:=M.el v w (M.ne v w k2).2
   rw[lo w this.2.1];exact M.sy v w k2
 · unfold qW
   exact Wo fun v hv=>by unfold Jc;rw[lo v hv]
theorem zh6 {N:Nat}{E:Nat→Nat→Prop}{k:Nat}(B:W6 N E (2^N - 1) k){mt:Nat→Int}(L:Lg N E mt):N=qW N mt+2*k:=by
 obtain⟨k1,k2⟩:=L.1.clip
 have:=zgK B (fun v hv=>by rw[Nat.testBit_two_pow_sub_one];exact decide_eq_true hv) (mt:=clip N mt) ⟨k1,fun mt' h=>by rw[k2];exact L.2 mt' h⟩ (fun v hv=>if_neg hv)
 rw[k2] at this
 exact this
end Go.Ga.Gl
namespace Go.Proofs.Ytkjppnofgmpeeaa
open Go Go.Ga Go.Ga.Gl
theorem zeP (n:Nat)(hn:n≤10000000):zo Try.prog [] ziK [.sc (.slice none 0 0),.sc (.int .i64 (n:Int))] [] fun r h'=>r= .own (some 1) []∧h'=[]:=by
 refine zo.seen (Q:=fun r h'=>(r= .sc (.slice none 0 0)∨r= .own (some 1) [])∧h'=[]) ?_ ?_
 · refine zlf rfl ?_
   unfold zjH qx
   refine za fun KY hKY=>?_
   simp only[go_sem,Pn]
   apply hKY
   refine zf fun X1 hn1 he1 hr1=>?_
   refine za fun KY hKY=>?_
   simp only[go_sem,Pm]
   apply hKY
   refine Zy ?_
   refine zg ?_
   repeat (first|refine hn1 _ ?_|refine he1 _ _ ?_)
   refine zf fun X2 hn2 he2 hr2=>?_
   have w1:IntKind.i64.wrap ((n:Int) - IntKind.i64.wrap (0 - 0))=(n:Int):=by rw[show IntKind.i64.wrap (0 - 0)=0 by decide,IntWalk.i64_in _ (by omega)];omega
   refine za fun KY hKY=>?_
   simp only[go_sem,Pl,w1]
   apply hKY
   refine za fun KY hKY=>?_
   simp only[go_sem,Pk]
   apply hKY
   by_cases h:0<n
   · refine ZL ?_
     refine zk fun KY hKY=>?_
     simp only[go_sem,Pj,(show 0<(n:Int) by omega),(show(n:Int)≤9223372036854775807 by omega),(show 8*n≤140737488355328 by omega),Int.toNat_natCast]
     apply hKY
     repeat (first|refine hn2 _ ?_|refine he2 _ _ ?_|refine hn1 _ ?_|refine he1 _ _ ?_)
     refine za fun KY hKY=>?_
     simp only[go_sem,uF]
     apply hKY
     refine zi ?_
     repeat (first|refine hr2 _ ?_|refine hr1 _ ?_)
     simp only[go_sem]
     exact .inr (by simp[Zz])
   · refine Zy ?_
     refine zg ?_
     repeat (first|refine hn2 _ ?_|refine he2 _ _ ?_|refine hn1 _ ?_|refine he1 _ _ ?_)
     refine za fun KY hKY=>?_
     simp only[go_sem,uF]
     apply hKY
     refine zi ?_
     repeat (first|refine hr2 _ ?_|refine hr1 _ ?_)
     simp only[go_sem]
 · rintro r h' ⟨rfl|rfl,rfl⟩
   · exact⟨_,qY.own 1,rfl,rfl⟩
   · exact⟨_,qY.refl _,rfl,rfl⟩
theorem zec (A B:List Int)(hA:A.length≤1000000)(hB:B.length≤1000000):zo Try.prog [] zfE [.imm 1 [.imm 1 (zj A),.imm 1 (zj B)]] [] fun r h'=>r= .own (some 1) (zj (A++B))∧h'=[]:=by
 refine zls rfl ?_
 unfold zjU Z2
 refine za fun KY hKY=>?_
 simp only[go_sem,Oo]
 apply hKY
 refine za fun KY hKY=>?_
 simp only[go_sem,Om]
 apply hKY
 refine zf fun X1 hn1 he1 hr1=>?_
 refine za fun KY hKY=>?_
 simp only[go_sem,Ol]
 apply hKY
 refine zm fun X2 hn2 he2 hf2 hr2=>?_
 try simp only[go_sem]
 refine zU (α:=Nat) [5,12,20] (fun k=>[(3,.sc (.int .i64 (bif k==0 then 0 else bif k==1 then(A.length:Int) else((A.length+B.length:Nat):Int)))),(11,.sc (.int .i64 (k:Int)))]) (fun k=>[]) (fun k q=>k≤2∧q=2 - k) (0) (2) rfl (by first|(simp only[go_sem,zd,ze];done)|with_reducible rfl|rfl) (⟨by omega,rfl⟩) ?_
 rintro k q ⟨hk,rfl⟩ X3 hn3 he3 hr3
 simp only[go_sem,zd,ze]
 refine za fun KY hKY=>?_
 simp only[go_sem,Ok]
 apply hKY
 refine zf fun X4 hn4 he4 hr4=>?_
 have w2:IntKind.i64.wrap ((A.length:Int)+(B.length:Int))=((A.length+B.length:Nat):Int):=by rw[IntWalk.i64_in _ (by omega)];omega
 have w1:IntKind.i64.wrap (0+(A.length:Int))=(A.length:Int):=by rw[IntWalk.i64_in _ (by omega)];omega
 by_cases hk0:k=0
 · subst hk0
   refine ZL ?_
   refine zg ?_
   repeat (first|refine hn4 _ ?_|refine he4 _ _ ?_|refine he3 _ _ ?_|refine hn2 _ ?_|refine he2 _ ?_|refine hf2 _ _ (by decide) ?_|refine hn1 _ ?_|refine he1 _ _ ?_)
   refine zf fun X5 hn5 he5 hr5=>?_
   refine zm fun X6 hn6 he6 hf6 hr6=>?_
   refine za fun KY hKY=>?_
   simp only[go_sem,uX]
   apply hKY
   refine za fun KY hKY=>?_
   simp only[go_sem,uW,w1,zq]
   apply hKY
   refine za fun KY hKY=>?_
   simp only[go_sem,uV,(show decide ((A.length:Int)<0)=false from decide_eq_false (by omega))]
   apply hKY
   refine Zy ?_
   refine zg ?_
   repeat (first|refine hn6 _ ?_|refine he6 _ ?_|refine hf6 _ _ (by decide) ?_|refine hn5 _ ?_|refine he5 _ _ ?_|refine hn4 _ ?_|refine he4 _ _ ?_|refine he3 _ _ ?_|refine hn2 _ ?_|refine he2 _ ?_|refine hf2 _ _ (by decide) ?_|refine hn1 _ ?_|refine he1 _ _ ?_)
   refine zk fun KY hKY=>?_
   simp only[go_sem,uU,(show IntKind.i64.wrap 1=1 by decide)]
   apply hKY
   repeat (first|refine hn6 _ ?_|refine he6 _ ?_|refine hf6 _ _ (by decide) ?_|refine hn5 _ ?_|refine he5 _ _ ?_|refine hn4 _ ?_|refine he4 _ _ ?_)
   refine hn3 _ (1) (2 - 1) (by omega) (by first|(simp only[go_sem,zd,ze,(show((1:Nat):Int)=1 from rfl),cond_true,cond_false];done)|with_reducible rfl|rfl) ?_
   exact⟨by omega,rfl⟩
 by_cases hk1:k=1
 · subst hk1
   refine ZL ?_
   refine zg ?_
   repeat (first|refine hn4 _ ?_|refine he4 _ _ ?_|refine he3 _ _ ?_|refine hn2 _ ?_|refine he2 _ ?_|refine hf2 _ _ (by decide) ?_|refine hn1 _ ?_|refine he1 _ _ ?_)
   refine zf fun X7 hn7 he7 hr7=>?_
   refine zm fun X8 hn8 he8 hf8 hr8=>?_
   refine za fun KY hKY=>?_
   simp only[go_sem,uX]
   apply hKY
   refine za fun KY hKY=>?_
   simp only[go_sem,uW,w2,zq]
   apply hKY
   refine za fun KY hKY=>?_
   simp only[go_sem,uV,(show decide (((A.length+B.length:Nat):Int)<0)=false from decide_eq_false (by omega))]
   apply hKY
   refine Zy ?_
   refine zg ?_
   repeat (first|refine hn8 _ ?_|refine he8 _ ?_|refine hf8 _ _ (by decide) ?_|refine hn7 _ ?_|refine he7 _ _ ?_|refine hn4 _ ?_|refine he4 _ _ ?_|refine he3 _ _ ?_|refine hn2 _ ?_|refine he2 _ ?_|refine hf2 _ _ (by decide) ?_|refine hn1 _ ?_|refine he1 _ _ ?_)
   refine zk fun KY hKY=>?_
   simp only[go_sem,uU,(show IntKind.i64.wrap 2=2 by decide)]
   apply hKY
   repeat (first|refine hn8 _ ?_|refine he8 _ ?_|refine hf8 _ _ (by decide) ?_|refine hn7 _ ?_|refine he7 _ _ ?_|refine hn4 _ ?_|refine he4 _ _ ?_)
   refine hn3 _ (2) (2 - 2) (by omega) (by first|(simp only[go_sem,zd,ze,(show((2:Nat):Int)=2 from rfl),cond_true,cond_false];done)|with_reducible rfl|rfl) ?_
   exact⟨by omega,rfl⟩
 · obtain rfl:k=2:=by omega
   refine Zy ?_
   refine zy ?_
   repeat (first|refine hn4 _ ?_|refine he4 _ _ ?_|refine he3 _ _ ?_|refine hn2 _ ?_|refine he2 _ ?_|refine hf2 _ _ (by decide) ?_|refine hn1 _ ?_|refine he1 _ _ ?_)
   have hgr:=zeP (A.length+B.length) (by omega)
   refine za fun KY hKY=>?_
   simp only[go_sem,Oj]
   refine zA rfl (by simp only[go_sem]<;>rfl) ((hgr).mono ?_)
   rintro rr hh ⟨rfl,rfl⟩
   refine⟨rfl,rfl,rfl,?_⟩
   simp only[go_sem]
   apply hKY
   refine zf fun X9 hn9 he9 hr9=>?_
   refine za fun KY hKY=>?_
   simp only[go_sem,Vy]
   apply hKY
   refine zm fun X10 hn10 he10 hf10 hr10=>?_
   try simp only[go_sem]
   refine zU (α:=Nat) [8,28] (fun j=>[(6,.own (some 1) (zj (bif j==0 then [] else bif j==1 then A else A++B))),(27,.sc (.int .i64 (j:Int)))]) (fun j=>[]) (fun j q=>j≤2∧q=2 - j) (0) (2) rfl (by first|(simp only[go_sem,zd,ze];done)|with_reducible rfl|rfl) (⟨by omega,rfl⟩) ?_
   rintro j q ⟨hj,rfl⟩ X11 hn11 he11 hr11
   simp only[go_sem,zd,ze]
   refine za fun KY hKY=>?_
   simp only[go_sem,Vx]
   apply hKY
   refine zf fun X12 hn12 he12 hr12=>?_
   by_cases hj0:j=0
   · subst hj0
     refine ZL ?_
     refine zg ?_
     repeat (first|refine hn12 _ ?_|refine he12 _ _ ?_|refine he11 _ _ ?_|refine hn10 _ ?_|refine he10 _ ?_|refine hf10 _ _ (by decide) ?_|refine hn9 _ ?_|refine he9 _ _ ?_|refine hn4 _ ?_|refine he4 _ _ ?_)
     refine zf fun X13 hn13 he13 hr13=>?_
     refine zm fun X14 hn14 he14 hf14 hr14=>?_
     refine za fun KY hKY=>?_
     simp only[go_sem,WM]
     apply hKY
     refine zk fun KY hKY=>?_
     simp only[go_sem,WL,(show A.length*8≤140737488355328 by omega),yA,(show zj []++zj A=zj A from rfl)]
     apply hKY
     repeat (first|refine hn14 _ ?_|refine he14 _ ?_|refine hf14 _ _ (by decide) ?_|refine hn13 _ ?_|refine he13 _ _ ?_|refine hn12 _ ?_|refine he12 _ _ ?_|refine he11 _ _ ?_|refine hn10 _ ?_|refine he10 _ ?_|refine hf10 _ _ (by decide) ?_|refine hn9 _ ?_|refine he9 _ _ ?_|refine hn4 _ ?_|refine he4 _ _ ?_)
     refine zk fun KY hKY=>?_
     simp only[go_sem,WK,(show IntKind.i64.wrap 1=1 by decide)]
     apply hKY
     repeat (first|refine hn14 _ ?_|refine he14 _ ?_|refine hf14 _ _ (by decide) ?_|refine hn13 _ ?_|refine he13 _ _ ?_|refine hn12 _ ?_|refine he12 _ _ ?_)
     refine hn11 _ (1) (2 - 1) (by omega) (by first|(simp only[go_sem,zd,ze,(show((1:Nat):Int)=1 from rfl),cond_true,cond_false];done)|with_reducible rfl|rfl) ?_
     exact⟨by omega,rfl⟩
   by_cases hj1:j=1
   · subst hj1
     refine ZL ?_
     refine zg ?_
     repeat (first|refine hn12 _ ?_|refine he12 _ _ ?_|refine he11 _ _ ?_|refine hn10 _ ?_|refine he10 _ ?_|refine hf10 _ _ (by decide) ?_|refine hn9 _ ?_|refine he9 _ _ ?_|refine hn4 _ ?_|refine he4 _ _ ?_)
     refine zf fun X15 hn15 he15 hr15=>?_
     refine zm fun X16 hn16 he16 hf16 hr16=>?_
     refine za fun KY hKY=>?_
     simp only[go_sem,WM]
     apply hKY
     refine zk fun KY hKY=>?_
     simp only[go_sem,WL,(show(A.length+B.length)*8≤140737488355328 by omega),yA,(show zj A++zj B=zj (A++B) by simp[zj])]
     apply hKY
     repeat (first|refine hn16 _ ?_|refine he16 _ ?_|refine hf16 _ _ (by decide) ?_|refine hn15 _ ?_|refine he15 _ _ ?_|refine hn12 _ ?_|refine he12 _ _ ?_|refine he11 _ _ ?_|refine hn10 _ ?_|refine he10 _ ?_|refine hf10 _ _ (by decide) ?_|refine hn9 _ ?_|refine he9 _ _ ?_|refine hn4 _ ?_|refine he4 _ _ ?_)
     refine zk fun KY hKY=>?_
     simp only[go_sem,WK,(show IntKind.i64.wrap 2=2 by decide)]
     apply hKY
     repeat (first|refine hn16 _ ?_|refine he16 _ ?_|refine hf16 _ _ (by decide) ?_|refine hn15 _ ?_|refine he15 _ _ ?_|refine hn12 _ ?_|refine he12 _ _ ?_)
     refine hn11 _ (2) (2 - 2) (by omega) (by first|(simp only[go_sem,zd,ze,(show((2:Nat):Int)=2 from rfl),cond_true,cond_false];done)|with_reducible rfl|rfl) ?_
     exact⟨by omega,rfl⟩
   · obtain rfl:j=2:=by omega
     refine Zy ?_
     refine zy ?_
     repeat (first|refine hn12 _ ?_|refine he12 _ _ ?_|refine he11 _ _ ?_|refine hn10 _ ?_|refine he10 _ ?_|refine hf10 _ _ (by decide) ?_|refine hn9 _ ?_|refine he9 _ _ ?_|refine hn4 _ ?_|refine he4 _ _ ?_|refine he3 _ _ ?_|refine hn2 _ ?_|refine he2 _ ?_|refine hf2 _ _ (by decide) ?_|refine hn1 _ ?_|refine he1 _ _ ?_)
     refine za fun KY hKY=>?_
     simp only[go_sem,Vw]
     apply hKY
     refine zi ?_
     repeat (first|refine hr12 _ ?_|refine hr11 _ ?_|refine hr10 _ ?_|refine hr9 _ ?_|refine hr4 _ ?_|refine hr3 _ ?_|refine hr2 _ ?_|refine hr1 _ ?_)
     simp only[go_sem]
def JB (l:List Nat):List Int:=l.map fun x:Nat=>(x:Int)
theorem y5 (l:List Nat):zC l=zj (JB l):=Qd l
theorem zbP {N:Nat}{es:Es}(g:GR N es):zo Try.prog [] zi4 [.agg [.sc (.int .i64 (N:Int)),.imm 2 (Zj (zP es))]] [] fun r h'=>(∃ps,ZX N es (fun v=>(v:Int)∈JB (qF N (Zp es) 2)++JB (qF N (Zp es) 0)) ps∧r= .tup [.own (some 1) (ZK ps),.sc (.int .i64 0)])∧h'=[]:=by
 have hN:=g.hn
 have l2:=wz N (Zp es) 2
 have l0:=wz N (Zp es) 0
 have hC:=zec (JB (qF N (Zp es) 2)) (JB (qF N (Zp es) 0)) (by simp[JB];omega) (by simp[JB];omega)
 have hC2:zo Try.prog [] zfE [.own (some 1) [.imm 1 (zj (JB (qF N (Zp es) 2))),.imm 1 (zj (JB (qF N (Zp es) 0)))]] [] _:=zo.fzArgs (by
  simp only[List.map,zc.freeze,zc.freezeL,yz]
  exact hC)
 have hW:=za1 g (JB (qF N (Zp es) 2)++JB (qF N (Zp es) 0)) (by simp[JB];omega)
 refine zlE rfl ?_
 unfold zj6 wb
 refine za fun KY hKY=>?_
 simp only[go_sem,zam]
 apply hKY
 refine za fun KY hKY=>?_
 simp only[go_sem,zal]
 apply zn [] [] false none rfl
 iterate 8 (first|(simp only[go_sem,zp]<;>rfl)|rfl)
 refine(zbQ g).mono ?_
 rintro _ _ ⟨rfl,_,rfl⟩
 rw[y5 (qF N (Zp es) 2),y5 (qF N (Zp es) 0)]
 refine⟨Nat.le_of_ble_eq_true rfl,(fun hh=>by cases hh),?_⟩
 simp only[go_sem,zr,zb.after]
 apply hKY
 refine zf fun X1 hn1 he1 hr1=>?_
 refine za fun KY hKY=>?_
 simp only[go_sem,zak]
 apply hKY
 refine Zy ?_
 refine zg ?_
 repeat (first|refine hn1 _ ?_|refine he1 _ _ ?_)
 refine zw fun KY hKY=>?_
 simp only[go_sem,zaj]
 apply zn [.mv] [] false none rfl
 iterate 8 (first|(simp only[go_sem,zp]<;>rfl)|rfl)
 refine(hC2).mono ?_
 rintro _ _ ⟨rfl,rfl⟩
 refine⟨Nat.le_of_ble_eq_true rfl,(fun hh=>by cases hh),?_⟩
 simp only[go_sem,zr,zb.after]
 apply zn [] [] true none rfl
 iterate 8 (first|(simp only[go_sem,zp]<;>rfl)|rfl)
 refine(hW).mono ?_
 rintro _ _ ⟨⟨ps,hps,rfl⟩,rfl⟩
 refine⟨Nat.le_of_ble_eq_true rfl,(fun _=>by simp only[go_sem,Jx,and_self]),?_⟩
 simp only[go_sem,zr,zb.after]
 apply hKY
 refine zi ?_
 repeat (first|refine hr1 _ ?_)
 simp only[go_sem]
 exact⟨ps,hps,rfl⟩
end Go.Proofs.Ytkjppnofgmpeeaa

namespace Go.Ga.Gl
open Go Go.Ga
theorem zgJ {N:Nat}{E:Nat→Nat→Prop}{v k k2 r:Nat}(hv:v<N)(B:W6 N E (2^N - 1) k)(B2:W6 N E r k2)(hr:∀u,r.testBit u=((2^N - 1).testBit u&& !decide (u=v))){mt:Nat→Int}{D A:Nat→Bool}{bs:Nat→Nat}(F:Fc N E mt D A bs):k2=k↔D v=true:=by
 have hN:=zh6 B F.lg
 obtain⟨m3,M3,W3,e3⟩:=B2.1
 have hle:=F.lg.2 _ M3
 constructor
 · intro e
   have hv1:m3 v= -1:=W3 v (by rw[hr,decide_eq_true rfl];simp)
   cases hd:D v with
   |true=>rfl
   |false=>have:=F.c.less F.m M3 hv hd hv1;omega
 · intro hd
   obtain⟨m1,M1,e1,h1⟩:=F.d v hd
   obtain⟨M2,e2⟩:=M1.clip
   have:=B2.2 _ M2 fun u hu=>by
    unfold Gl.clip
    by_cases h:u<N
    · rw[if_pos h]
      rw[hr,Nat.testBit_two_pow_sub_one,decide_eq_true h] at hu
      obtain rfl:u=v:=by simpa using hu
      exact h1
    · rw[if_neg h]
   omega
theorem zkz {N:Nat}{E:Nat→Nat→Prop}{mt:Nat→Int}{D A:Nat→Bool}{bs:Nat→Nat}(F:Fc N E mt D A bs){v:Nat}(hd:D v=false):A v=true↔∃w,E v w∧D w=true:=by
 constructor
 · intro h
   obtain⟨w,h1,h2⟩:=F.a v h
   exact⟨w,h2,h1⟩
 · rintro⟨w,h1,h2⟩
   rcases F.c.ed w v h2 (F.m.es _ _ h1) with h|⟨h,_⟩
   · exact h
   · rw[hd] at h;cases h
theorem zdO {N k a b:Nat}{es:Es}{D:Nat→Bool}{nr:List Bool}(hnl:nr.length=N)(hab:a<b)(hb:b<N)(hx:es[k]?=some (a,b))(h:∀u,u<N→(nr.getD u false=true↔∃w,Zp (es.take k) u w∧D w=true)):
    ∀u,u<N→(((nr.set a (nr.getD a false||D b)).set b (nr.getD b false||D a)).getD u false=true↔∃w,Zp (es.take (k+1)) u w∧D w=true):=by
  have ht:es.take (k+1)=es.take k++[(a,b)]:=by
    rw[List.take_add_one,hx];rfl
  have key:∀u,(∃w,Zp (es.take (k+1)) u w∧D w=true)↔(∃w,Zp (es.take k) u w∧D w=true)∨(u=a∧D b=true)∨(u=b∧D a=true):=fun u=>by
    rw[ht]
    unfold Zp
    simp only[List.mem_append,List.mem_singleton,Prod.mk.injEq]
    constructor
    · rintro⟨w,(h|⟨rfl,rfl⟩)|(h|⟨rfl,rfl⟩),hd⟩
      · exact .inl ⟨w,.inl h,hd⟩
      · exact .inr (.inl ⟨rfl,hd⟩)
      · exact .inl ⟨w,.inr h,hd⟩
      · exact .inr (.inr ⟨rfl,hd⟩)
    · rintro(⟨w,h|h,hd⟩|⟨rfl,hd⟩|⟨rfl,hd⟩)
      · exact⟨w,.inl (.inl h),hd⟩
      · exact⟨w,.inr (.inl h),hd⟩
      · exact⟨b,.inl (.inr ⟨rfl,rfl⟩),hd⟩
      · exact⟨a,.inr (.inr ⟨rfl,rfl⟩),hd⟩
  intro u hu
  rw[key u,←h u hu]
  have hab':a≠b:=by omega
  by_cases e:u=b
  · subst e
    have:¬u=a:=by omega
    simp[hnl,hu,this]
  · by_cases e2:u=a
    · subst e2
      have:b≠u:=fun k=>e k.symm
      simp[hnl,hu,this,e]
    · have h1:b≠u:=fun k=>e k.symm
      have h2:a≠u:=fun k=>e2 k.symm
      simp[h1,h2,e,e2,List.getElem?_set]
end Go.Ga.Gl
namespace Go.Proofs.Ytkjppnofgmpeeaa
open Go Go.Ga Go.Ga.Gl
theorem kz (N:Nat)(E:Nat→Nat→Prop)(x:Nat):qF N E x=k0 (fun v=>decide (qq N E v=x)) N:=rfl
theorem zdg {N:Nat}{es:Es}(g:GR N es)(hN:N≤12){mt:Nat→Int}{D A:Nat→Bool}{bs:Nat→Nat}(F:Fc N (Zp es) mt D A bs):zo Try.prog [] zi5 [.agg [.sc (.int .i64 (N:Int)),.imm 2 (Zj (zP es))]] [] fun r h'=>r= .agg [.imm 1 (zC (qF N (Zp es) 1)),.imm 1 (zC (qF N (Zp es) 2)),.imm 1 (zC (qF N (Zp es) 0))]∧h'=[]:=by
 have hem:=g.hm
 have hm1:1*N≤140737488355328∧(N:Int)≤9223372036854775807:=by omega
 have hp:2^N≤2^12:=Nat.pow_le_pow_right (by omega) hN
 have hp0:1≤2^N:=Nat.two_pow_pos N
 have ub:∀x:Nat,x<N→IntKind.u64.wrap (x:Int)=(x:Int):=fun x hx=>IntWalk.u64_in _ (by omega)
 have h2p:∀x:Nat,x<N→2^x<2^62:=fun x hx=>Nat.pow_lt_pow_right (by omega) (by omega)
 refine zlF rfl ?_
 unfold zj7 Zl
 refine za fun KY hKY=>?_
 simp only[go_sem,zav]
 apply hKY
 refine za fun KY hKY=>?_
 simp only[go_sem,zau]
 apply zn [] [] false none rfl
 iterate 8 (first|(simp only[go_sem,zp]<;>rfl)|rfl)
 refine(zeF g hN).mono ?_
 rintro _ _ ⟨⟨t,htl,hbe,rfl⟩,rfl⟩
 refine⟨Nat.le_of_ble_eq_true rfl,(fun hh=>by cases hh),?_⟩
 simp only[go_sem,zr,zb.after]
 apply hKY
 have hB:=hbe (2^N - 1) (by omega)
 obtain⟨P,hP⟩:∃P,P=2^N:=⟨_,rfl⟩
 rw[←hP] at htl hp hp0
 have hw:IntKind.i64.wrap ((P:Int) - 1)=((P - 1:Nat):Int):=by rw[IntWalk.i64_in _ (by omega)];omega
 have hgA:(zC t)[P - 1]?=some (.sc (.int .i64 ((t.getD (P - 1) 0:Nat):Int))):=zv (by omega)
 refine za fun KY hKY=>?_
 simp only[go_sem,zat,zJ,htl,hw]
 apply hKY
 refine za fun KY hKY=>?_
 simp only[go_sem,zas,hm1,(show N≤140737488355328 by omega),Int.le_refl,QT]
 apply hKY
 refine za fun KY hKY=>?_
 simp only[go_sem,zar,hm1,(show N≤140737488355328 by omega),Int.le_refl,QT]
 apply hKY
 refine zf fun X1 hn1 he1 hr1=>?_
 refine za fun KY hKY=>?_
 simp only[go_sem,zaq]
 apply hKY
 refine zm fun X2 hn2 he2 hf2 hr2=>?_
 try simp only[go_sem]
 refine zU (α:=Nat×List Bool) [27] (fun(v,b)=>[(5,.own (some 1) (Zb b)),(7,.sc (.int .i64 (v:Int)))]) (fun(v,b)=>[]) (fun(v,b) q=>v≤N∧b.length=N∧(∀u,u<v→b.getD u false=D u)∧q=N - v) ((0,List.replicate N false)) (N) rfl (by first|(simp only[go_sem,zd,ze];done)|with_reducible rfl|rfl) (⟨Nat.zero_le _,by simp,fun u hu=>by omega,rfl⟩) ?_
 rintro⟨v,b⟩ q ⟨hv,hbl,hbd,rfl⟩ X3 hn3 he3 hr3
 simp only[go_sem,zd,ze]
 refine zf fun X4 hn4 he4 hr4=>?_
 rcases Nat.lt_or_ge v N with hv2|hv2
 · have hdx:decide ((v:Int)<(N:Int))=true:=decide_eq_true (by omega)
   obtain⟨r,hr,hrle,hrb⟩:=zaN (a:=P - 1) (b:=2^v) (by omega) (h2p v hv2)
   have hrt:∀u,r.testBit u=((2^N - 1).testBit u&& !decide (u=v)):=fun u=>by
    rw[hrb,Nat.testBit_two_pow,hP]
    congr 2
    exact decide_eq_decide.2 eq_comm
   have hiff:=zgJ hv2 hB (hbe r (by omega)) hrt F
   rw[←hP] at hiff
   have hdv:decide (((t.getD r 0:Nat):Int)=((t.getD (P - 1) 0:Nat):Int))=D v:=by
    cases hd:D v with
    |true=>exact decide_eq_true (by have:=hiff.2 hd;omega)
    |false=>exact decide_eq_false (fun e=>by have:=hiff.1 (by omega);rw[hd] at this;cases this)
   have hgr:(zC t)[r]?=some (.sc (.int .i64 ((t.getD r 0:Nat):Int))):=zv (by omega)
   have hsv:=we (show v≤40 by omega)
   refine za fun KY hKY=>?_
   simp only[go_sem,Uc,hdx]
   apply hKY
   refine ZL ?_
   refine zg ?_
   repeat (first|refine hn4 _ ?_|refine he4 _ _ ?_|refine he3 _ _ ?_|refine hn2 _ ?_|refine he2 _ ?_|refine hf2 _ _ (by decide) ?_|refine hn1 _ ?_|refine he1 _ _ ?_)
   refine zf fun X5 hn5 he5 hr5=>?_
   refine zm fun X6 hn6 he6 hf6 hr6=>?_
   refine j0 fun KY hKY=>?_
   simp only[go_sem,zap,hgr,hgA,zJ,htl,zX,hbl,hv2,(show r<P by omega),(show P - 1<P by omega),ub v hv2,hsv,↓zma,hr,hdv,jy]
   apply hKY
   repeat (first|refine hn6 _ ?_|refine he6 _ ?_|refine hf6 _ _ (by decide) ?_|refine hn5 _ ?_|refine he5 _ _ ?_|refine hn4 _ ?_|refine he4 _ _ ?_|refine he3 _ _ ?_|refine hn2 _ ?_|refine he2 _ ?_|refine hf2 _ _ (by decide) ?_|refine hn1 _ ?_|refine he1 _ _ ?_)
   refine zk fun KY hKY=>?_
   simp only[go_sem,zao,zL (show v<4611686018427387904 by omega)]
   apply hKY
   repeat (first|refine hn6 _ ?_|refine he6 _ ?_|refine hf6 _ _ (by decide) ?_|refine hn5 _ ?_|refine he5 _ _ ?_|refine hn4 _ ?_|refine he4 _ _ ?_)
   refine hn3 _ ((v+1,b.set v (D v))) (N - (v+1)) (by omega) (by first|(simp only[go_sem,zd,ze];done)|with_reducible rfl) ?_
   refine⟨hv2,by simp[hbl],fun u hu=>?_,rfl⟩
   by_cases e:u=v
   · subst e;simp[hbl,hv2]
   · have:v≠u:=fun k=>e k.symm
     have h2:=hbd u (by omega)
     simpa[this] using h2
 have hdx:decide ((v:Int)<(N:Int))=false:=decide_eq_false (by omega)
 obtain rfl:v=N:=by omega
 refine za fun KY hKY=>?_
 simp only[go_sem,Uc,hdx]
 apply hKY
 refine Zy ?_
 refine zy ?_
 repeat (first|refine hn4 _ ?_|refine he4 _ _ ?_|refine he3 _ _ ?_|refine hn2 _ ?_|refine he2 _ ?_|refine hf2 _ _ (by decide) ?_|refine hn1 _ ?_|refine he1 _ _ ?_)
 have hgb:∀u,u<v→(Zb b)[u]?=some (.sc (.bool (D u))):=fun u hu=>by rw[ji (by omega),hbd u hu]
 refine zf fun X7 hn7 he7 hr7=>?_
 refine za fun KY hKY=>?_
 simp only[go_sem,zan]
 apply hKY
 refine zm fun X8 hn8 he8 hf8 hr8=>?_
 try simp only[go_sem]
 refine zU (α:=Nat×List Bool) [9,10,50] (fun(k,nr)=>[(6,.own (some 1) (Zb nr)),(8,.sc (.int .i64 (k:Int)))]) (fun(k,nr)=>[]) (fun(k,nr) q=>k≤es.length∧nr.length=v∧(∀u,u<v→(nr.getD u false=true↔∃w,Zp (es.take k) u w∧D w=true))∧q=es.length - k) ((0,List.replicate v false)) (es.length) rfl (by first|(simp only[go_sem,zd,ze];done)|with_reducible rfl|rfl) (⟨Nat.zero_le _,by simp,fun u hu=>by simp[Zp,hu],rfl⟩) ?_
 rintro⟨k,nr⟩ q ⟨hk,hnl,hnd,rfl⟩ X9 hn9 he9 hr9
 simp only[go_sem,zd,ze]
 refine zf fun X10 hn10 he10 hr10=>?_
 rcases Nat.lt_or_ge k es.length with hk2|hk2
 · have hdx:decide ((k:Int)<(es.length:Int))=true:=decide_eq_true (by omega)
   have hx:es[k]?=some (es[k]):=List.getElem?_eq_getElem hk2
   have hok:=g.ok _ (List.getElem_mem hk2)
   generalize es[k]=ab at hx hok
   obtain⟨a,c⟩:=ab
   simp only at hok
   have hst:=zdO hnl hok.1 hok.2 hx hnd
   have hcx:(zP es)[k]?=some ((a:Int),(c:Int)):=by simp[zP,hx]
   have hg0:=xP hcx
   have hg1:=xO hcx
   simp only at hg0 hg1
   have hla:a<v:=by omega
   have hgn:(Zb nr)[a]?=some (.sc (.bool (nr.getD a false))):=ji (by omega)
   have hgc:=hgb c hok.2
   have hga:=hgb a hla
   have hgm:∀x,(Zb (nr.set a x))[c]?=some (.sc (.bool (nr.getD c false))):=fun x=>by
    rw[ji (by simp;omega)]
    have:a≠c:=by omega
    simp[this]
   refine za fun KY hKY=>?_
   simp only[go_sem,WW,ZM,xv,zx,hdx]
   apply hKY
   refine ZL ?_
   refine zg ?_
   repeat (first|refine hn10 _ ?_|refine he10 _ _ ?_|refine he9 _ _ ?_|refine hn8 _ ?_|refine he8 _ ?_|refine hf8 _ _ (by decide) ?_|refine hn7 _ ?_|refine he7 _ _ ?_|refine hn4 _ ?_|refine he4 _ _ ?_)
   refine zf fun X11 hn11 he11 hr11=>?_
   refine zm fun X12 hn12 he12 hf12 hr12=>?_
   refine zw fun KY hKY=>?_
   simp only[go_sem,ke,hg0,hg1,ZM,zx,xv,hk2,(show k*2+1<es.length*2 by omega),(show k*2<es.length*2 by omega),List.length_drop,(show 1<es.length*2 - k*2 by omega),List.getElem?_drop]
   apply hKY
   cases hna:nr.getD a false with
   | true=>
     rw[hna] at hgn hst
     rw[Bool.true_or] at hst
     refine za fun KY hKY=>?_
     simp only[go_sem,WV,hgn,hgc,zX,hnl,hbl,hla,hok.2,jy]
     apply hKY
     cases hnb:nr.getD c false with
     | true=>
       have hgm2:=hgm (true)
       rw[hnb] at hgm2 hst
       rw[Bool.true_or] at hst
       refine zk fun KY hKY=>?_
       simp only[go_sem,Qu,hgm2,hga,zX,hnl,hbl,hla,hok.2,List.length_set,jy]
       apply hKY
       repeat (first|refine hn12 _ ?_|refine he12 _ ?_|refine hf12 _ _ (by decide) ?_|refine hn11 _ ?_|refine he11 _ _ ?_|refine hn10 _ ?_|refine he10 _ _ ?_|refine he9 _ _ ?_|refine hn8 _ ?_|refine he8 _ ?_|refine hf8 _ _ (by decide) ?_|refine hn7 _ ?_|refine he7 _ _ ?_|refine hn4 _ ?_|refine he4 _ _ ?_)
       refine zk fun KY hKY=>?_
       simp only[go_sem,Qs,zL (show k<4611686018427387904 by omega)]
       apply hKY
       repeat (first|refine hn12 _ ?_|refine he12 _ ?_|refine hf12 _ _ (by decide) ?_|refine hn11 _ ?_|refine he11 _ _ ?_|refine hn10 _ ?_|refine he10 _ _ ?_)
       refine hn9 _ ((k+1,(nr.set a (true)).set c true)) (es.length - (k+1)) (by omega) (by first|(simp only[go_sem,zd,ze];done)|with_reducible rfl) ?_
       exact⟨hk2,by simp[hnl],hst,rfl⟩
     | false=>
       have hgm2:=hgm (true)
       rw[hnb] at hgm2 hst
       rw[Bool.false_or] at hst
       refine zk fun KY hKY=>?_
       simp only[go_sem,Qu,hgm2,hga,zX,hnl,hbl,hla,hok.2,List.length_set,jy]
       apply hKY
       repeat (first|refine hn12 _ ?_|refine he12 _ ?_|refine hf12 _ _ (by decide) ?_|refine hn11 _ ?_|refine he11 _ _ ?_|refine hn10 _ ?_|refine he10 _ _ ?_|refine he9 _ _ ?_|refine hn8 _ ?_|refine he8 _ ?_|refine hf8 _ _ (by decide) ?_|refine hn7 _ ?_|refine he7 _ _ ?_|refine hn4 _ ?_|refine he4 _ _ ?_)
       refine zk fun KY hKY=>?_
       simp only[go_sem,Qs,zL (show k<4611686018427387904 by omega)]
       apply hKY
       repeat (first|refine hn12 _ ?_|refine he12 _ ?_|refine hf12 _ _ (by decide) ?_|refine hn11 _ ?_|refine he11 _ _ ?_|refine hn10 _ ?_|refine he10 _ _ ?_)
       refine hn9 _ ((k+1,(nr.set a (true)).set c (D a))) (es.length - (k+1)) (by omega) (by first|(simp only[go_sem,zd,ze];done)|with_reducible rfl) ?_
       exact⟨hk2,by simp[hnl],hst,rfl⟩
   | false=>
     rw[hna] at hgn hst
     rw[Bool.false_or] at hst
     refine za fun KY hKY=>?_
     simp only[go_sem,WV,hgn,hgc,zX,hnl,hbl,hla,hok.2,jy]
     apply hKY
     cases hnb:nr.getD c false with
     | true=>
       have hgm2:=hgm ((D c))
       rw[hnb] at hgm2 hst
       rw[Bool.true_or] at hst
       refine zk fun KY hKY=>?_
       simp only[go_sem,Qu,hgm2,hga,zX,hnl,hbl,hla,hok.2,List.length_set,jy]
       apply hKY
       repeat (first|refine hn12 _ ?_|refine he12 _ ?_|refine hf12 _ _ (by decide) ?_|refine hn11 _ ?_|refine he11 _ _ ?_|refine hn10 _ ?_|refine he10 _ _ ?_|refine he9 _ _ ?_|refine hn8 _ ?_|refine he8 _ ?_|refine hf8 _ _ (by decide) ?_|refine hn7 _ ?_|refine he7 _ _ ?_|refine hn4 _ ?_|refine he4 _ _ ?_)
       refine zk fun KY hKY=>?_
       simp only[go_sem,Qs,zL (show k<4611686018427387904 by omega)]
       apply hKY
       repeat (first|refine hn12 _ ?_|refine he12 _ ?_|refine hf12 _ _ (by decide) ?_|refine hn11 _ ?_|refine he11 _ _ ?_|refine hn10 _ ?_|refine he10 _ _ ?_)
       refine hn9 _ ((k+1,(nr.set a ((D c))).set c true)) (es.length - (k+1)) (by omega) (by first|(simp only[go_sem,zd,ze];done)|with_reducible rfl) ?_
       exact⟨hk2,by simp[hnl],hst,rfl⟩
     | false=>
       have hgm2:=hgm ((D c))
       rw[hnb] at hgm2 hst
       rw[Bool.false_or] at hst
       refine zk fun KY hKY=>?_
       simp only[go_sem,Qu,hgm2,hga,zX,hnl,hbl,hla,hok.2,List.length_set,jy]
       apply hKY
       repeat (first|refine hn12 _ ?_|refine he12 _ ?_|refine hf12 _ _ (by decide) ?_|refine hn11 _ ?_|refine he11 _ _ ?_|refine hn10 _ ?_|refine he10 _ _ ?_|refine he9 _ _ ?_|refine hn8 _ ?_|refine he8 _ ?_|refine hf8 _ _ (by decide) ?_|refine hn7 _ ?_|refine he7 _ _ ?_|refine hn4 _ ?_|refine he4 _ _ ?_)
       refine zk fun KY hKY=>?_
       simp only[go_sem,Qs,zL (show k<4611686018427387904 by omega)]
       apply hKY
       repeat (first|refine hn12 _ ?_|refine he12 _ ?_|refine hf12 _ _ (by decide) ?_|refine hn11 _ ?_|refine he11 _ _ ?_|refine hn10 _ ?_|refine he10 _ _ ?_)
       refine hn9 _ ((k+1,(nr.set a ((D c))).set c (D a))) (es.length - (k+1)) (by omega) (by first|(simp only[go_sem,zd,ze];done)|with_reducible rfl) ?_
       exact⟨hk2,by simp[hnl],hst,rfl⟩
 have hdx:decide ((k:Int)<(es.length:Int))=false:=decide_eq_false (by omega)
 obtain rfl:k=es.length:=by omega
 refine za fun KY hKY=>?_
 simp only[go_sem,WW,ZM,xv,zx,hdx]
 apply hKY
 refine Zy ?_
 refine zy ?_
 repeat (first|refine hn10 _ ?_|refine he10 _ _ ?_|refine he9 _ _ ?_|refine hn8 _ ?_|refine he8 _ ?_|refine hf8 _ _ (by decide) ?_|refine hn7 _ ?_|refine he7 _ _ ?_|refine hn4 _ ?_|refine he4 _ _ ?_|refine he3 _ _ ?_|refine hn2 _ ?_|refine he2 _ ?_|refine hf2 _ _ (by decide) ?_|refine hn1 _ ?_|refine he1 _ _ ?_)
 rw[List.take_length] at hnd
 refine za fun KY hKY=>?_
 simp only[go_sem,kb]
 apply hKY
 refine jP [0,11,0] 1 (by simp only[go_sem]) ?_
 simp only[go_sem]
 refine jP [0,11,1] 1 (by simp only[go_sem]) ?_
 simp only[go_sem]
 refine jP [0,11,2] 1 (by simp only[go_sem]) ?_
 simp only[go_sem]
 rw[show zc.own none [.own (some 1) [],.own (some 1) [],.own (some 1) []]= .own none [.own (some 1) (zC (k0 (fun u=>decide (qq v (Zp es) u=1)) 0)),.own (some 1) (zC (k0 (fun u=>decide (qq v (Zp es) u=2)) 0)),.own (some 1) (zC (k0 (fun u=>decide (qq v (Zp es) u=0)) 0))] from rfl]
 refine zf fun X13 hn13 he13 hr13=>?_
 refine za fun KY hKY=>?_
 simp only[go_sem,ka]
 apply hKY
 refine zm fun X14 hn14 he14 hf14 hr14=>?_
 try simp only[go_sem]
 refine zU (α:=Nat) [94,103,114] (fun i=>[(11,.own none [.own (some 1) (zC (k0 (fun u=>decide (qq v (Zp es) u=1)) i)),.own (some 1) (zC (k0 (fun u=>decide (qq v (Zp es) u=2)) i)),.own (some 1) (zC (k0 (fun u=>decide (qq v (Zp es) u=0)) i))]),(12,.sc (.int .i64 (i:Int)))]) (fun i=>[]) (fun i q=>i≤v∧q=v - i) (0) (v) rfl (by first|(simp only[go_sem,zd,ze];done)|with_reducible rfl|rfl) (⟨Nat.zero_le _,rfl⟩) ?_
 rintro i q ⟨hi,rfl⟩ X15 hn15 he15 hr15
 simp only[go_sem,zd,ze]
 have l1:=xE (fun u=>decide (qq v (Zp es) u=1)) i
 have l2:=xE (fun u=>decide (qq v (Zp es) u=2)) i
 have l0:=xE (fun u=>decide (qq v (Zp es) u=0)) i
 have t1:=wj (fun u=>decide (qq v (Zp es) u=1)) i
 have t2:=wj (fun u=>decide (qq v (Zp es) u=2)) i
 have t0:=wj (fun u=>decide (qq v (Zp es) u=0)) i
 have hla:=F.lab i
 simp only[hla] at t1 t2 t0
 refine zf fun X16 hn16 he16 hr16=>?_
 rcases Nat.lt_or_ge i v with hi2|hi2
 · have hdx:decide ((i:Int)<(v:Int))=true:=decide_eq_true (by omega)
   have hgi:=hgb i hi2
   have hgn:(Zb nr)[i]?=some (.sc (.bool (nr.getD i false))):=ji (by omega)
   refine za fun KY hKY=>?_
   simp only[go_sem,WU,hdx]
   apply hKY
   refine ZL ?_
   refine zg ?_
   repeat (first|refine hn16 _ ?_|refine he16 _ _ ?_|refine he15 _ _ ?_|refine hn14 _ ?_|refine he14 _ ?_|refine hf14 _ _ (by decide) ?_|refine hn13 _ ?_|refine he13 _ _ ?_|refine hn10 _ ?_|refine he10 _ _ ?_)
   refine zf fun X17 hn17 he17 hr17=>?_
   refine zm fun X18 hn18 he18 hf18 hr18=>?_
   refine zm fun X19 hn19 he19 hf19 hr19=>?_
   cases hD:D i with
   | true=>
     rw[hD] at hgi
     simp[hD] at t1 t2 t0
     refine za fun KY hKY=>?_
     simp only[go_sem,Yk,hgi,zX,hbl,hi2]
     apply hKY
     refine ZL ?_
     refine zk fun KY hKY=>?_
     simp only[go_sem,V9,ZR,zJ,←t1,(show((k0 (fun u=>decide (qq v (Zp es) u=1)) i).length+1)*8≤140737488355328 by omega)]
     apply hKY
     repeat (first|refine hn19 _ ?_|refine he19 _ ?_|refine hf19 _ _ (by decide) ?_|refine hn18 _ ?_|refine he18 _ ?_|refine hf18 _ _ (by decide) ?_|refine hn17 _ ?_|refine he17 _ _ ?_|refine hn16 _ ?_|refine he16 _ _ ?_|refine he15 _ _ ?_|refine hn14 _ ?_|refine he14 _ ?_|refine hf14 _ _ (by decide) ?_|refine hn13 _ ?_|refine he13 _ _ ?_|refine hn10 _ ?_|refine he10 _ _ ?_)
     refine zk fun KY hKY=>?_
     simp only[go_sem,Yj,zL (show i<4611686018427387904 by omega)]
     apply hKY
     repeat (first|refine hn19 _ ?_|refine he19 _ ?_|refine hf19 _ _ (by decide) ?_|refine hn18 _ ?_|refine he18 _ ?_|refine hf18 _ _ (by decide) ?_|refine hn17 _ ?_|refine he17 _ _ ?_|refine hn16 _ ?_|refine he16 _ _ ?_)
     refine hn15 _ (i+1) (v - (i+1)) (by omega) (by first|(simp only[go_sem,zd,ze,t2,t0];done)|with_reducible rfl) ?_
     exact⟨hi2,rfl⟩
   | false=>
     rw[hD] at hgi
     have hnA:=zkz F hD
     have hnd2:=hnd i hi2
     cases hA:A i with
     | true=>
       have hni:nr.getD i false=true:=hnd2.2 (hnA.1 hA)
       rw[hni] at hgn
       simp[hD,hA] at t1 t2 t0
       refine za fun KY hKY=>?_
       simp only[go_sem,Yk,hgi,zX,hbl,hi2]
       apply hKY
       refine Zy ?_
       refine za fun KY hKY=>?_
       simp only[go_sem,WT,hgn,zX,hnl,hi2]
       apply hKY
       refine ZL ?_
       refine zk fun KY hKY=>?_
       simp only[go_sem,V8,ZR,zJ,←t2,(show((k0 (fun u=>decide (qq v (Zp es) u=2)) i).length+1)*8≤140737488355328 by omega)]
       apply hKY
       repeat (first|refine hn19 _ ?_|refine he19 _ ?_|refine hf19 _ _ (by decide) ?_|refine hn18 _ ?_|refine he18 _ ?_|refine hf18 _ _ (by decide) ?_|refine hn17 _ ?_|refine he17 _ _ ?_|refine hn16 _ ?_|refine he16 _ _ ?_|refine he15 _ _ ?_|refine hn14 _ ?_|refine he14 _ ?_|refine hf14 _ _ (by decide) ?_|refine hn13 _ ?_|refine he13 _ _ ?_|refine hn10 _ ?_|refine he10 _ _ ?_)
       refine zk fun KY hKY=>?_
       simp only[go_sem,Yj,zL (show i<4611686018427387904 by omega)]
       apply hKY
       repeat (first|refine hn19 _ ?_|refine he19 _ ?_|refine hf19 _ _ (by decide) ?_|refine hn18 _ ?_|refine he18 _ ?_|refine hf18 _ _ (by decide) ?_|refine hn17 _ ?_|refine he17 _ _ ?_|refine hn16 _ ?_|refine he16 _ _ ?_)
       refine hn15 _ (i+1) (v - (i+1)) (by omega) (by first|(simp only[go_sem,zd,ze,t1,t0];done)|with_reducible rfl) ?_
       exact⟨hi2,rfl⟩
     | false=>
       have hni:nr.getD i false=false:=by
        cases h:nr.getD i false with
        |false=>rfl
        |true=>have:=hnA.2 (hnd2.1 h);rw[hA] at this;cases this
       rw[hni] at hgn
       simp[hD,hA] at t1 t2 t0
       refine za fun KY hKY=>?_
       simp only[go_sem,Yk,hgi,zX,hbl,hi2]
       apply hKY
       refine Zy ?_
       refine za fun KY hKY=>?_
       simp only[go_sem,WT,hgn,zX,hnl,hi2]
       apply hKY
       refine Zy ?_
       refine zk fun KY hKY=>?_
       simp only[go_sem,V7,ZR,zJ,←t0,(show((k0 (fun u=>decide (qq v (Zp es) u=0)) i).length+1)*8≤140737488355328 by omega)]
       apply hKY
       repeat (first|refine hn19 _ ?_|refine he19 _ ?_|refine hf19 _ _ (by decide) ?_|refine hn18 _ ?_|refine he18 _ ?_|refine hf18 _ _ (by decide) ?_|refine hn17 _ ?_|refine he17 _ _ ?_|refine hn16 _ ?_|refine he16 _ _ ?_|refine he15 _ _ ?_|refine hn14 _ ?_|refine he14 _ ?_|refine hf14 _ _ (by decide) ?_|refine hn13 _ ?_|refine he13 _ _ ?_|refine hn10 _ ?_|refine he10 _ _ ?_)
       refine zk fun KY hKY=>?_
       simp only[go_sem,Yj,zL (show i<4611686018427387904 by omega)]
       apply hKY
       repeat (first|refine hn19 _ ?_|refine he19 _ ?_|refine hf19 _ _ (by decide) ?_|refine hn18 _ ?_|refine he18 _ ?_|refine hf18 _ _ (by decide) ?_|refine hn17 _ ?_|refine he17 _ _ ?_|refine hn16 _ ?_|refine he16 _ _ ?_)
       refine hn15 _ (i+1) (v - (i+1)) (by omega) (by first|(simp only[go_sem,zd,ze,t1,t2];done)|with_reducible rfl) ?_
       exact⟨hi2,rfl⟩
 have hdx:decide ((i:Int)<(v:Int))=false:=decide_eq_false (by omega)
 obtain rfl:i=v:=by omega
 refine za fun KY hKY=>?_
 simp only[go_sem,WU,hdx]
 apply hKY
 refine Zy ?_
 refine zy ?_
 repeat (first|refine hn16 _ ?_|refine he16 _ _ ?_|refine he15 _ _ ?_|refine hn14 _ ?_|refine he14 _ ?_|refine hf14 _ _ (by decide) ?_|refine hn13 _ ?_|refine he13 _ _ ?_|refine hn10 _ ?_|refine he10 _ _ ?_|refine he9 _ _ ?_|refine hn8 _ ?_|refine he8 _ ?_|refine hf8 _ _ (by decide) ?_|refine hn7 _ ?_|refine he7 _ _ ?_|refine hn4 _ ?_|refine he4 _ _ ?_|refine he3 _ _ ?_|refine hn2 _ ?_|refine he2 _ ?_|refine hf2 _ _ (by decide) ?_|refine hn1 _ ?_|refine he1 _ _ ?_)
 refine Zv [0,11,0] (by simp only[go_sem];rfl) ?_
 simp only[go_sem]
 refine Zv [0,11,1] (by simp only[go_sem];rfl) ?_
 simp only[go_sem]
 refine Zv [0,11,2] (by simp only[go_sem];rfl) ?_
 simp only[go_sem]
 refine za fun KY hKY=>?_
 simp only[go_sem,V6]
 apply hKY
 refine zi ?_
 repeat (first|refine hr16 _ ?_|refine hr15 _ ?_|refine hr14 _ ?_|refine hr13 _ ?_|refine hr10 _ ?_|refine hr9 _ ?_|refine hr8 _ ?_|refine hr7 _ ?_|refine hr4 _ ?_|refine hr3 _ ?_|refine hr2 _ ?_|refine hr1 _ ?_)
 simp only[go_sem]
 rw[kz,kz,kz]
theorem zd1 (n:Int)(JE:List Int)(he:JE.length≤1000000000):zo Try.prog [] zmc [.sc (.int .i64 n),.imm 1 (zj JE)] [] fun r h'=>r= .sc (.bool true):=by
 refine zmj rfl ?_
 unfold zms xL
 refine za fun KY hKY=>?_
 simp only[go_sem,zcX]
 apply hKY
 refine za fun KY hKY=>?_
 simp only[go_sem,zcW]
 apply zn [] [] false none rfl
 iterate 8 (first|(simp only[go_sem,zp]<;>rfl)|rfl)
 refine(zeM n JE 11 40 (by omega) (by omega) (by omega)).mono ?_
 rintro _ _ ⟨⟨N,es,g,hN,hm,rfl⟩,rfl⟩
 refine⟨Nat.le_of_ble_eq_true rfl,(fun hh=>by cases hh),?_⟩
 simp only[go_sem,zr,zb.after]
 apply hKY
 refine za fun KY hKY=>?_
 simp only[go_sem,zcV]
 apply zn [] [] false none rfl
 iterate 8 (first|(simp only[go_sem,zp]<;>rfl)|rfl)
 refine(zbQ g).mono ?_
 rintro _ _ ⟨rfl,⟨mt,D,A,bs,F⟩,rfl⟩
 refine⟨Nat.le_of_ble_eq_true rfl,(fun hh=>by cases hh),?_⟩
 simp only[go_sem,zr,zb.after]
 apply hKY
 refine za fun KY hKY=>?_
 simp only[go_sem,zcU]
 apply zn [] [] false none rfl
 iterate 8 (first|(simp only[go_sem,zp]<;>rfl)|rfl)
 refine(zdg g (by omega) F).mono ?_
 rintro _ _ ⟨rfl,rfl⟩
 refine⟨Nat.le_of_ble_eq_true rfl,(fun hh=>by cases hh),?_⟩
 simp only[go_sem,zr,zb.after]
 apply hKY
 refine za fun KY hKY=>?_
 simp only[go_sem,zcT]
 apply zn [] [] false none rfl
 iterate 8 (first|(simp only[go_sem,zp]<;>rfl)|rfl)
 refine(zbP g).mono ?_
 rintro _ _ ⟨⟨ps,hps,rfl⟩,rfl⟩
 refine⟨Nat.le_of_ble_eq_true rfl,(fun hh=>by cases hh),?_⟩
 simp only[go_sem,zr,zb.after]
 apply hKY
 refine Zv [0,9] (by simp only[go_sem];rfl) ?_
 simp only[go_sem]
 have l1:=wz N (Zp es) 1
 have l2:=wz N (Zp es) 2
 have l0:=wz N (Zp es) 0
 have hT:=XH (qF N (Zp es) 1) (qF N (Zp es) 2) (qF N (Zp es) 0) (qF N (Zp es) 1) (qF N (Zp es) 2) (qF N (Zp es) 0) (by omega) (by omega) (by omega)
 rw[decide_eq_true rfl,decide_eq_true rfl,decide_eq_true rfl] at hT
 have hap:zC (qF N (Zp es) 2)++zC (qF N (Zp es) 0)=zj (JB (qF N (Zp es) 2)++JB (qF N (Zp es) 0)):=by
  rw[y5,y5];simp[zj]
 have hW:=Ku g (JB (qF N (Zp es) 2)++JB (qF N (Zp es) 0)) (by simp[JB];omega)
 have hW2:zo Try.prog [] zfF [.agg [.sc (.int .i64 (N:Int)),.imm 2 (Zj (zP es))],.own (some 1) (zj (JB (qF N (Zp es) 2)++JB (qF N (Zp es) 0)))] [] _:=zo.fzArgs (by simp only[List.map,zc.freeze,yz,zc.freezeL,yd];exact hW)
 have hpl:=Xj hps
 have hL:=zd0 ps ps (by omega) (fun x hx=>Nat.le_trans (vk hps hx) (by omega))
 rw[decide_eq_true rfl] at hL
 refine zw fun KY hKY=>?_
 simp only[go_sem,zcS,zJ,(show(qF N (Zp es) 2).length*8≤140737488355328 by omega),(show((qF N (Zp es) 2).length+(qF N (Zp es) 0).length)*8≤140737488355328 by omega)]
 refine zA rfl (by simp only[go_sem]<;>rfl) ((zb4).mono ?_)
 rintro rr hh ⟨rfl,rfl⟩
 refine⟨rfl,rfl,rfl,?_⟩
 simp only[go_sem]
 refine zA rfl (by simp only[go_sem]<;>rfl) ((hT).mono ?_)
 rintro rr hh ⟨rfl,rfl⟩
 refine⟨rfl,rfl,rfl,?_⟩
 simp only[go_sem,zJ,(show(qF N (Zp es) 2).length*8≤140737488355328 by omega),(show((qF N (Zp es) 2).length+(qF N (Zp es) 0).length)*8≤140737488355328 by omega),hap]
 apply zn [.vw,.fz] [] false none rfl
 iterate 8 (first|(simp only[go_sem,zp]<;>rfl)|rfl)
 refine(hW2).mono ?_
 rintro _ _ ⟨⟨qs,hqs,rfl⟩,rfl⟩
 obtain rfl:qs=ps:=hqs.unique g.adj_lt hps
 refine⟨Nat.le_of_ble_eq_true rfl,(fun hh=>by cases hh),?_⟩
 simp only[go_sem,zr,zb.after]
 refine zA rfl (by simp only[go_sem]<;>rfl) ((hL).mono ?_)
 rintro rr hh ⟨rfl,rfl⟩
 refine⟨rfl,rfl,rfl,?_⟩
 simp only[go_sem]
 apply hKY
 refine zi ?_
 simp only[go_sem]
theorem xw (As:List zc)(b:Nat)(h:SAs Try.prog Try.f6.params.toList As b)(hb:b≤1048576):zo Try.prog [] 6 As [] fun r _=>r= .sc (.bool true):=by
 rw[Try.params6] at h
 obtain⟨A1,As1,c1,d1,rfl,rfl,h1,h⟩:=Kt h
 obtain⟨A2,As2,c2,d2,rfl,rfl,h2,h⟩:=Kt h
 obtain rfl:=zhn h
 obtain⟨x1,rfl,w1⟩:=zku Try.underlying3 h1
 obtain⟨x2,rfl,w2,e2⟩:=zho Try.underlying22 Try.underlying3 (by kernel_rfl) h2
 exact(zd1 x1 x2 (by omega)).mono fun _ _ h=>h
end Go.Proofs.Ytkjppnofgmpeeaa
namespace Go.Proofs.Ytkjppnofgmpeeaa.gallaiPartsend
open Go Go.Ga Go.ChangeShapes Go.WideShapes Go.ChangeAt Go.RowKit
theorem own :ownKnob Try.prog.godebug=none:=by kernel_rfl
mutual
theorem xJ {H:Type}:∀d:DataW H,Rows.uptoBulk d=Jp d
 | .lit l=>by cases l<;>simp[Rows.uptoBulk,Jp]
 | .nil=>by simp[Rows.uptoBulk,Jp]
 | .ptr d=>by simp[Rows.uptoBulk,Jp,xJ d]
 | .slice e s=>by simp[Rows.uptoBulk,Jp,bulk_eq e,bulk_eq s]
 | .agg p=>by simp[Rows.uptoBulk,Jp,bulk_eq p]
 | .iface _ d=>by simp[Rows.uptoBulk,Jp,xJ d]
 | .map e=>by simp[Rows.uptoBulk,Jp,bulk_es e]
 | .held _=>by simp[Rows.uptoBulk,Jp]
theorem bulk_eq {H:Type}:∀l:List (DataW H),Rows.uptoBulkAll l=bulkL l
 |[]=>by simp[Rows.uptoBulkAll,bulkL]
 |d::r=>by simp[Rows.uptoBulkAll,bulkL,xJ d,bulk_eq r]
theorem bulk_es {H:Type}:∀l:List (Lit×DataW H),Rows.uptoBulkEntries l=bulkE l
 |[]=>by simp[Rows.uptoBulkEntries,bulkE]
 |d::r=>by simp[Rows.uptoBulkEntries,bulkE,bulk_e d,bulk_es r]
theorem bulk_e {H:Type}:∀d:Lit×DataW H,Rows.uptoBulkEntry d=bulk1 d
 |(l,d)=>by cases l<;>simp[Rows.uptoBulkEntry,bulk1,xJ d]
end
set_option maxRecDepth 100000 in
theorem plain :Plain Try.prog [3,22]:=zfi (by kernel_rfl)
set_option maxRecDepth 100000 in
theorem zgg (H:Type)(enc:TypeId×Value→H)(W:World)(base:Nat)(args:Array Value)(ds gs:List (DataW H))(before:List MemPlace)
    (hval:∀(j:Nat) t v,Try.f6.params[j]?=some t→args[j]?=some v→Value.okWide Try.prog W .any base t v)
    (hW:DataW.Whole enc Try.prog Try.f6.params.toList Rows.gallaiPartsSpec.vars false W args.toList ds gs before) (hk:Rows.uptoSmall H (ds++gs)=true):
    Calls Try.prog 6 args W fun e W'=>∃v,e= .returned v∧Rows.gallaiPartsSpec.post enc Try.prog Try.f6 false true false false W args v W':=by
  have hW':=hW
  obtain⟨p,q,hA,hV,rfl,hfz,hnd⟩:=hW
  obtain⟨rfl,rfl⟩:=Go.Ga.QA hV
  have hb:bulkL (ds++[])≤1048576:=by rw[←bulk_eq];exact of_decide_eq_true hk
  have r0:DataW.TrodAll enc Try.prog W 0 (fun _=>true) true Try.f6.params.toList args.toList ds p:=hA
  rw[Try.params6] at r0
  obtain⟨v0,vs0,d0,ds0,p0,q0,hv0,rfl,rfl,h0,r1⟩:=trodAll_cons r0
  obtain⟨v1,vs1,d1,ds1,p1,q1,hv1,rfl,rfl,h1,r2⟩:=trodAll_cons r1
  obtain⟨rfl,rfl,rfl⟩:=trodAll_nil r2
  exact UH plain hval (by rw[Try.params6];decide) hW' rfl rfl rfl rfl (tb:=4) (by kernel_rfl) Try.underlying4 hb xw
set_option maxRecDepth 100000 in
theorem zkG (os:Os)(started:os.Started)(H:Type)(enc:TypeId×Value→H)(F:Stop.Interp):
    ReturnsInHanded {} Try.checked os 6 .any ((Rows.OpenSpec.upto Rows.gallaiPartsSpec).pre6 enc Try.prog Try.f6 Rows.gallaiPartsUptoRow.domain false) (((Rows.OpenSpec.upto Rows.gallaiPartsSpec).at F).post enc Try.prog Try.f6 false true false false):=by
  refine returnsInHanded_of_cond (C:=Try.checked) (s:=Rows.OpenSpec.upto Rows.gallaiPartsSpec) (k:=Rows.uptoSmall) rfl own started (by kernel_rfl) Try.func6
    (OpenSpec.witness (enc:=enc) (C:=Try.checked) (s:=Rows.OpenSpec.upto Rows.gallaiPartsSpec) (k:=Rows.uptoSmall) rfl false ⟨#[], #[.int .i64 0,.slice none 0 0],[]⟩ 8 (by kernel_rfl) (by kernel_rfl) (by kernel_rfl)
      (x:=([.lit (.int .i64 0),.nil],[],[])) (by kernel_rfl) rfl (by kernel_rfl)) ?_
  intro W base args ds gs before hval hW _ hk _
  exact zgg H enc W base args ds gs before hval hW hk
theorem holds :Rows.GallaiPartsUptoSaid:=
 OpenClaim.holds_of_cond 6 Try.f6 rfl rfl rfl rfl rfl rfl rfl ⟨rfl,rfl,rfl,rfl,rfl⟩ rfl rfl rfl rfl rfl (by kernel_rfl) Try.func6 (by kernel_rfl)
  (of_decide_eq_true (by kernel_rfl)) (by unfold Func.isWrapper;first|(rw[if_pos (by decide+kernel)];kernel_rfl)|(rw[if_neg (by decide+kernel)];exact⟨rfl,rfl⟩))
  (fun os started H enc _ F=>zkG os started H enc F)
end Go.Proofs.Ytkjppnofgmpeeaa.gallaiPartsend
