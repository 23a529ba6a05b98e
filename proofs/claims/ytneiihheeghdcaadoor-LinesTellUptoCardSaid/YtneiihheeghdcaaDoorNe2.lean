/- Which command any line is, the line of any command, and the lines of any bytes, or why there is none; what is handed in stays. -/
import Derived.Shelf.Strings.OnBuilder
import Derived.Shelf.Strconv.Itoa3
import Derived.Test.YtneiihheeghdcaaDoorRows
import Derived.Test.YtneiihheeghdcaaDoorNe1
import Derived.Test.YtneiihheeghdcaaDoorGcciijd5
import Derived.WalkKit
import Derived.ProofKit
import Derived.OpenShut
import Derived.JoinedCond
import Derived.Test.YtneiihheeghdcaaDoorCards
import Derived.Test.YtneiihheeghdcaaDoorTie
import Derived.Deep.DeepHandedRow
import Derived.Lib.LaidTab
import Derived.Stop.LaidErr
import Derived.Lib.ItoaNum
set_option linter.all false

namespace Go.Proofs
open Go.Shelf
def Tryd.lays156_ren :Go.Shelf.Ren:=⟨fun|156=>33|165=>43|166=>44|169=>45|240=>59|241=>60|276=>71|277=>72|n=>n,fun|31=>23|9=>9|3=>3|4=>4|0=>0|20=>20|72=>78|76=>82|70=>76|37=>34|75=>81|127=>93|164=>106|5=>5|80=>84|n=>n,fun|n=>n⟩
theorem Tryd.lays156 :Go.Proofs.Lays.n156 Tryd.prog Tryd.lays156_ren:={
 mixed:=by kernel_rfl
 f156:=Tryd.func33.trans (congrArg some (by kernel_rfl))
 f165:=Tryd.func43.trans (congrArg some (by kernel_rfl))
 f166:=Tryd.func44.trans (congrArg some (by kernel_rfl))
 f169:=Tryd.func45.trans (congrArg some (by kernel_rfl))
 f240:=Tryd.func59.trans (congrArg some (by kernel_rfl))
 f241:=Tryd.func60.trans (congrArg some (by kernel_rfl))
 f276:=Tryd.func71.trans (congrArg some (by kernel_rfl))
 f277:=Tryd.func72.trans (congrArg some (by kernel_rfl))
 t0:=Tryd.underlying0
 a0:=Tryd.isAgg0
 z0:=Tryd.sizeOf0
 v0:=Tryd.zeroValue0
 t3:=Tryd.underlying3
 a3:=Tryd.isAgg3
 z3:=Tryd.sizeOf3
 v3:=Tryd.zeroValue3
 t4:=Tryd.underlying4
 a4:=Tryd.isAgg4
 z4:=Tryd.sizeOf4
 v4:=Tryd.zeroValue4
 t9:=Tryd.underlying9
 a9:=Tryd.isAgg9
 z9:=Tryd.sizeOf9
 v9:=Tryd.zeroValue9
 t20:=Tryd.underlying20
 a20:=Tryd.isAgg20
 z20:=Tryd.sizeOf20
 v20:=Tryd.zeroValue20
 t31:=Tryd.underlying23
 a31:=Tryd.isAgg23
 z31:=Tryd.sizeOf23
 v31:=Tryd.zeroValue23
 t37:=Tryd.underlying34
 a37:=Tryd.isAgg34
 z37:=Tryd.sizeOf34
 v37:=Tryd.zeroValue34
 t70:=Tryd.underlying76
 a70:=Tryd.isAgg76
 z70:=Tryd.sizeOf76
 v70:=Tryd.zeroValue76
 t72:=Tryd.underlying78
 a72:=Tryd.isAgg78
 z72:=Tryd.sizeOf78
 v72:=Tryd.zeroValue78
 t75:=Tryd.underlying81
 a75:=Tryd.isAgg81
 z75:=Tryd.sizeOf81
 v75:=Tryd.zeroValue81
 t76:=Tryd.underlying82
 a76:=Tryd.isAgg82
 z76:=Tryd.sizeOf82
 v76:=Tryd.zeroValue82
 t127:=Tryd.underlying93
 a127:=Tryd.isAgg93
 z127:=Tryd.sizeOf93
 v127:=Tryd.zeroValue93
 t164:=Tryd.underlying106
 a164:=Tryd.isAgg106
 z164:=Tryd.sizeOf106
 v164:=Tryd.zeroValue106}
theorem Tryd.Builder_Extra_156 :Builder.Extra Tryd.prog Tryd.lays156_ren:={
 sizeBuilder:=by kernel_rfl
 liesBuilder:=by kernel_rfl
 t5:=Tryd.underlying5
 a5:=Tryd.isAgg5
 z5:=Tryd.sizeOf5
 v5:=Tryd.zeroValue5
 infoByte:=by kernel_rfl
 cellsByte:=by kernel_rfl
 sizeByte:=by kernel_rfl
 neB5:=by decide}
open Go.RowKit in
theorem Tryd.strings_Join (bk o c:Nat)(xs:List ByteArray)(sep:ByteArray)(w:World)(hcells:∀(j:Nat) x,xs[j]?=some x→w.cell? ⟨bk,o+j,none⟩=some (.string x))(hbk:bk<w.heap.size)(hN:xs.length≤140737488355328)(hcap:xs.length≤c)(hlen:(Lib.join (xs.map (·.data.toList)) sep.data.toList).length≤140737488355328):
 Calls Tryd.prog 33 #[.slice (some ⟨bk,o,none⟩) xs.length c,.string sep] w fun e w'=>e= .returned (.string ⟨(Lib.join (xs.map (·.data.toList)) sep.data.toList).toArray⟩)∧Below w.heap.size w w':=Any.strings_Join Tryd.lays156 Tryd.Builder_Extra_156 bk o c xs sep w hcells hbk hN hcap hlen
def Tryd.laysM171_ren :Go.Shelf.Ren:=⟨fun|171=>32|243=>42|246=>58|283=>67|284=>68|285=>69|286=>70|129=>78|317=>77|318=>79|319=>80|320=>81|337=>84|338=>85|n=>n,fun|3=>3|9=>9|2=>2|4=>4|171=>100|0=>0|53=>101|37=>34|5=>5|173=>104|212=>110|51=>97|20=>20|213=>111|46=>22|232=>119|233=>120|n=>n,fun|17=>1|18=>4|19=>5|n=>n⟩
theorem Tryd.laysM171 :Go.Proofs.LaysM.n171 Tryd.prog Tryd.laysM171_ren:={
 mixed:=by kernel_rfl
 f129:=Tryd.func78.trans (congrArg some (by kernel_rfl))
 f171:=Tryd.func32.trans (congrArg some (by kernel_rfl))
 f243:=Tryd.func42.trans (congrArg some (by kernel_rfl))
 f246:=Tryd.func58.trans (congrArg some (by kernel_rfl))
 f283:=Tryd.func67.trans (congrArg some (by kernel_rfl))
 f284:=Tryd.func68.trans (congrArg some (by kernel_rfl))
 f285:=Tryd.func69.trans (congrArg some (by kernel_rfl))
 f286:=Tryd.func70.trans (congrArg some (by kernel_rfl))
 f317:=Tryd.func77.trans (congrArg some (by kernel_rfl))
 f318:=Tryd.func79.trans (congrArg some (by kernel_rfl))
 f319:=Tryd.func80.trans (congrArg some (by kernel_rfl))
 f320:=Tryd.func81.trans (congrArg some (by kernel_rfl))
 f337:=Tryd.func84.trans (congrArg some (by kernel_rfl))
 f338:=Tryd.func85.trans (congrArg some (by kernel_rfl))
 t0:=Tryd.underlying0
 a0:=Tryd.isAgg0
 z0:=Tryd.sizeOf0
 v0:=Tryd.zeroValue0
 t2:=Tryd.underlying2
 a2:=Tryd.isAgg2
 z2:=Tryd.sizeOf2
 v2:=Tryd.zeroValue2
 t3:=Tryd.underlying3
 a3:=Tryd.isAgg3
 z3:=Tryd.sizeOf3
 v3:=Tryd.zeroValue3
 t4:=Tryd.underlying4
 a4:=Tryd.isAgg4
 z4:=Tryd.sizeOf4
 v4:=Tryd.zeroValue4
 t5:=Tryd.underlying5
 a5:=Tryd.isAgg5
 z5:=Tryd.sizeOf5
 v5:=Tryd.zeroValue5
 t9:=Tryd.underlying9
 a9:=Tryd.isAgg9
 z9:=Tryd.sizeOf9
 v9:=Tryd.zeroValue9
 t20:=Tryd.underlying20
 a20:=Tryd.isAgg20
 z20:=Tryd.sizeOf20
 v20:=Tryd.zeroValue20
 t37:=Tryd.underlying34
 a37:=Tryd.isAgg34
 z37:=Tryd.sizeOf34
 v37:=Tryd.zeroValue34
 t46:=Tryd.underlying22
 a46:=Tryd.isAgg22
 z46:=Tryd.sizeOf22
 v46:=Tryd.zeroValue22
 t51:=Tryd.underlying97
 a51:=Tryd.isAgg97
 z51:=Tryd.sizeOf97
 v51:=Tryd.zeroValue97
 t53:=Tryd.underlying101
 a53:=Tryd.isAgg101
 z53:=Tryd.sizeOf101
 v53:=Tryd.zeroValue101
 t171:=Tryd.underlying100
 a171:=Tryd.isAgg100
 z171:=Tryd.sizeOf100
 v171:=Tryd.zeroValue100
 t173:=Tryd.underlying104
 a173:=Tryd.isAgg104
 z173:=Tryd.sizeOf104
 v173:=Tryd.zeroValue104
 t212:=Tryd.underlying110
 a212:=Tryd.isAgg110
 z212:=Tryd.sizeOf110
 v212:=Tryd.zeroValue110
 t213:=Tryd.underlying111
 a213:=Tryd.isAgg111
 z213:=Tryd.sizeOf111
 t232:=Tryd.underlying119
 a232:=Tryd.isAgg119
 z232:=Tryd.sizeOf119
 v232:=Tryd.zeroValue119
 t233:=Tryd.underlying120
 a233:=Tryd.isAgg120
 z233:=Tryd.sizeOf120
 v233:=Tryd.zeroValue120
 g17:=by kernel_rfl
 g18:=by kernel_rfl
 g19:=by kernel_rfl
 i0:=by kernel_rfl
 i2:=by kernel_rfl
 i3:=by kernel_rfl
 i4:=by kernel_rfl
 i5:=by kernel_rfl
 i9:=by kernel_rfl
 i20:=by kernel_rfl
 i37:=by kernel_rfl
 i46:=by kernel_rfl
 i51:=by kernel_rfl
 i53:=by kernel_rfl
 i171:=by kernel_rfl
 i173:=by kernel_rfl
 i212:=by kernel_rfl
 i232:=by kernel_rfl
 i233:=by kernel_rfl
 m17:=by kernel_rfl
 m18:=by kernel_rfl
 m19:=by kernel_rfl}
open Go.RowKit Go.Sort Go.Lib in
theorem Tryd.strconv_Itoa (n : Int) (h0 : -9223372036854775808 ≤ n) (h1 : n ≤ 9223372036854775807) (w : World) (htab : Lib.TabIs Tryd.prog w "internal/strconv.uint64pow10" .u64 Lib.pow10Tab) :
 Calls Tryd.prog 32 #[.int .i64 n] w fun e w'=>e= .returned (.string ⟨(Lib.itoa n).toArray⟩)∧∃k os,w'=grow (w.drewN k) os:=Any.strconv_Itoa Tryd.laysM171 n h0 h1 w htab
end Go.Proofs
set_option maxRecDepth 100000
set_option maxHeartbeats 4000000
namespace Go.Proofs.YtneiihheeghdcaaDoor
open Go Go.Ga Go.Ga.Gl
theorem gW {k:Nat}(hk:k<15):((Ze xJ yZ).drop (k*2)).take 2=[.sc (.string (Zt (zQ k))),.sc (.int .i64 (z6 k))]:=by
 have hx:yZ[k]?=some (zQ k,z6 k):=by
  unfold zQ z6
  rw[List.getD_eq_getElem?_getD,List.getElem?_eq_getElem (show k<yZ.length from hk)];rfl
 exact wm yW hx
theorem K0 (k:Nat)(a b:Int)(l:List Int)(hk:k<15):zn Tryd.prog [] zcr [.agg (gr (k:Int) a b l)] [] fun r h'=>∃ns,r= .tup [.imm 1 (ints ns),.sc (.bool (jd k a b l).isSome)]∧h'=[]∧∀x,jd k a b l=some x→ns=x:=by
 have hf:=gW hk
 have hfl:(Ze xJ yZ).length=30:=rfl
 have hc:=Ju k (by omega)
 have hk2:k*2+1<30:=by omega
 unfold gr
 have hno:∀x,jd k a b l=x→(if z6 k<0 then(if a=0∧b=0 then some l else none) else if(z6 k<2∧b≠0)∨(z6 k<1∧a≠0)∨l≠ [] then none else some ([a,b].take (z6 k).toNat))=x:=fun x h=>h
 generalize z6 k=n at hf hc hno
 generalize zQ k=w at hf
 have hnum:=hno _ rfl
 clear hno
 refine zdY rfl ?_
 unfold zc0 JP
 refine za fun KY hKY=>?_
 simp only[go_sem,Vx]
 apply hKY
 refine Zb fun KY hKY=>?_
 apply pm
 · intro H
   simp only[go_sem,Vw,hfl,hf,hk,hk2]
   refine⟨?_,?_⟩
   · apply z7 [] [] false none rfl
     iterate 8 (first|(simp only[go_sem,zJ]<;>rfl)|rfl)
     refine(yY).mono ?_
     rintro _ _ ⟨rfl,rfl⟩
     refine⟨Nat.le_of_ble_eq_true rfl,(fun hh=>by cases hh),?_⟩
     simp only[go_sem,zZ,zc.after,hfl,hf,hk,hk2]
     apply hKY
     simp only[go_sem]
     exact H
   · apply z7 [] [] false none rfl
     iterate 8 (first|(simp only[go_sem,zJ]<;>rfl)|rfl)
     refine(yY).mono ?_
     rintro _ _ ⟨rfl,rfl⟩
     refine⟨Nat.le_of_ble_eq_true rfl,(fun hh=>by cases hh),?_⟩
     simp only[go_sem,zZ,zc.after,hfl,hf,hk,hk2]
     apply hKY
     simp only[go_sem]
     exact H
 refine zr fun X1 hn1 he1 hf1 hr1=>?_
 by_cases h0:n<0
 · have d0:decide (n<0)=true:=decide_eq_true h0
   rw[if_pos h0] at hnum
   refine za fun KY hKY=>?_
   simp only[go_sem,WZ,d0]
   apply hKY
   refine Zl ?_
   by_cases ha:a=0
   · by_cases hb:b=0
     · have d1:decide (a=0)=true:=decide_eq_true ha
       have d2:decide (b=0)=true:=decide_eq_true hb
       rw[if_pos ⟨ha,hb⟩] at hnum
       refine Zb fun KY hKY=>?_
       simp only[go_sem,Yf,d1,d2]
       apply hKY
       refine zd ?_
       repeat (first|refine hr1 _ ?_)
       simp only[go_sem]
       refine⟨l,?_,fun x hx=>?_⟩
       · rw[←hnum];rfl
       · rw[←hnum] at hx;cases hx;try rfl
     · have d1:decide (a=0)=true:=decide_eq_true ha
       have d2:decide (b=0)=false:=decide_eq_false hb
       rw[if_neg fun h=>hb h.2] at hnum
       refine Zb fun KY hKY=>?_
       simp only[go_sem,Yf,d1,d2]
       apply hKY
       refine zd ?_
       repeat (first|refine hr1 _ ?_)
       simp only[go_sem]
       refine⟨l,?_,fun x hx=>?_⟩
       · rw[←hnum];rfl
       · rw[←hnum] at hx;cases hx;try rfl
   · have d1:decide (a=0)=false:=decide_eq_false ha
     rw[if_neg fun h=>ha h.1] at hnum
     refine Zb fun KY hKY=>?_
     simp only[go_sem,Yf,d1]
     apply hKY
     refine zd ?_
     repeat (first|refine hr1 _ ?_)
     simp only[go_sem]
     refine⟨l,?_,fun x hx=>?_⟩
     · rw[←hnum];rfl
     · rw[←hnum] at hx;cases hx;try rfl
 have d0:decide (n<0)=false:=decide_eq_false h0
 rw[if_neg h0] at hnum
 refine za fun KY hKY=>?_
 simp only[go_sem,WZ,d0]
 apply hKY
 refine ZD ?_
 rcases(show n=0∨n=1∨n=2 by omega) with rfl|rfl|rfl
 · by_cases hb:b=0
   · have d2:decide (b≠0)=false:=decide_eq_false fun h=>h hb
     by_cases ha:a=0
     · have d4:decide (a≠0)=false:=decide_eq_false fun h=>h ha
       by_cases he:l=[]
       · have d5:decide (0<(l.length:Int))=false:=decide_eq_false (by rw[he];decide)
         rw[if_neg (by rintro(h|h|h)<;>simp_all)] at hnum
         refine za fun KY hKY=>?_
         simp only[go_sem,jv,d2,d4,zm,d5]
         apply hKY
         refine ZD ?_
         refine za fun KY hKY=>?_
         simp only[go_sem,Ye]
         apply hKY
         refine zv [0,2] (by simp only[go_sem];rfl) ?_
         simp only[go_sem]
         refine zd ?_
         repeat (first|refine hr1 _ ?_)
         simp only[go_sem]
         refine⟨([]:List Int),?_,fun x hx=>?_⟩
         · rw[←hnum];rfl
         · rw[←hnum] at hx;cases hx;rfl
       · have d5:decide (0<(l.length:Int))=true:=decide_eq_true (by have:=List.length_pos_iff.2 he;omega)
         rw[if_pos (.inr (.inr he))] at hnum
         refine za fun KY hKY=>?_
         simp only[go_sem,jv,d2,d4,zm,d5]
         apply hKY
         refine Zl ?_
         refine za fun KY hKY=>?_
         simp only[go_sem,JJ]
         apply hKY
         refine Za [0,2] 1 (by simp only[go_sem]) ?_
         simp only[go_sem]
         refine zv [0,2] (by simp only[go_sem];rfl) ?_
         simp only[go_sem]
         refine zd ?_
         repeat (first|refine hr1 _ ?_)
         simp only[go_sem]
         refine⟨[],?_,fun x hx=>?_⟩
         · rw[←hnum];rfl
         · rw[←hnum] at hx;cases hx
     · have d4:decide (a≠0)=true:=decide_eq_true ha
       rw[if_pos (.inr (.inl ⟨by decide,ha⟩))] at hnum
       refine za fun KY hKY=>?_
       simp only[go_sem,jv,d2,d4]
       apply hKY
       refine Zl ?_
       refine za fun KY hKY=>?_
       simp only[go_sem,JJ]
       apply hKY
       refine Za [0,2] 1 (by simp only[go_sem]) ?_
       simp only[go_sem]
       refine zv [0,2] (by simp only[go_sem];rfl) ?_
       simp only[go_sem]
       refine zd ?_
       repeat (first|refine hr1 _ ?_)
       simp only[go_sem]
       refine⟨[],?_,fun x hx=>?_⟩
       · rw[←hnum];rfl
       · rw[←hnum] at hx;cases hx
   · have d2:decide (b≠0)=true:=decide_eq_true hb
     rw[if_pos (.inl ⟨by decide,hb⟩)] at hnum
     refine za fun KY hKY=>?_
     simp only[go_sem,jv,d2]
     apply hKY
     refine Zl ?_
     refine za fun KY hKY=>?_
     simp only[go_sem,JJ]
     apply hKY
     refine Za [0,2] 1 (by simp only[go_sem]) ?_
     simp only[go_sem]
     refine zv [0,2] (by simp only[go_sem];rfl) ?_
     simp only[go_sem]
     refine zd ?_
     repeat (first|refine hr1 _ ?_)
     simp only[go_sem]
     refine⟨[],?_,fun x hx=>?_⟩
     · rw[←hnum];rfl
     · rw[←hnum] at hx;cases hx
 · by_cases hb:b=0
   · have d2:decide (b≠0)=false:=decide_eq_false fun h=>h hb
     by_cases he:l=[]
     · have d5:decide (0<(l.length:Int))=false:=decide_eq_false (by rw[he];decide)
       rw[if_neg (by rintro(h|h|h)<;>simp_all)] at hnum
       refine za fun KY hKY=>?_
       simp only[go_sem,jv,d2,zm,d5]
       apply hKY
       refine ZD ?_
       refine za fun KY hKY=>?_
       simp only[go_sem,Ye]
       apply hKY
       refine zv [0,2] (by simp only[go_sem];rfl) ?_
       simp only[go_sem]
       refine zd ?_
       repeat (first|refine hr1 _ ?_)
       simp only[go_sem]
       refine⟨[a],?_,fun x hx=>?_⟩
       · rw[←hnum];rfl
       · rw[←hnum] at hx;cases hx;rfl
     · have d5:decide (0<(l.length:Int))=true:=decide_eq_true (by have:=List.length_pos_iff.2 he;omega)
       rw[if_pos (.inr (.inr he))] at hnum
       refine za fun KY hKY=>?_
       simp only[go_sem,jv,d2,zm,d5]
       apply hKY
       refine Zl ?_
       refine za fun KY hKY=>?_
       simp only[go_sem,JJ]
       apply hKY
       refine Za [0,2] 1 (by simp only[go_sem]) ?_
       simp only[go_sem]
       refine zv [0,2] (by simp only[go_sem];rfl) ?_
       simp only[go_sem]
       refine zd ?_
       repeat (first|refine hr1 _ ?_)
       simp only[go_sem]
       refine⟨[],?_,fun x hx=>?_⟩
       · rw[←hnum];rfl
       · rw[←hnum] at hx;cases hx
   · have d2:decide (b≠0)=true:=decide_eq_true hb
     rw[if_pos (.inl ⟨by decide,hb⟩)] at hnum
     refine za fun KY hKY=>?_
     simp only[go_sem,jv,d2]
     apply hKY
     refine Zl ?_
     refine za fun KY hKY=>?_
     simp only[go_sem,JJ]
     apply hKY
     refine Za [0,2] 1 (by simp only[go_sem]) ?_
     simp only[go_sem]
     refine zv [0,2] (by simp only[go_sem];rfl) ?_
     simp only[go_sem]
     refine zd ?_
     repeat (first|refine hr1 _ ?_)
     simp only[go_sem]
     refine⟨[],?_,fun x hx=>?_⟩
     · rw[←hnum];rfl
     · rw[←hnum] at hx;cases hx
 · by_cases he:l=[]
   · have d5:decide (0<(l.length:Int))=false:=decide_eq_false (by rw[he];decide)
     rw[if_neg (by rintro(h|h|h)<;>simp_all)] at hnum
     refine za fun KY hKY=>?_
     simp only[go_sem,jv,d0,zm,d5]
     apply hKY
     refine ZD ?_
     refine za fun KY hKY=>?_
     simp only[go_sem,Ye]
     apply hKY
     refine zv [0,2] (by simp only[go_sem];rfl) ?_
     simp only[go_sem]
     refine zd ?_
     repeat (first|refine hr1 _ ?_)
     simp only[go_sem]
     refine⟨[a,b],?_,fun x hx=>?_⟩
     · rw[←hnum];rfl
     · rw[←hnum] at hx;cases hx;rfl
   · have d5:decide (0<(l.length:Int))=true:=decide_eq_true (by have:=List.length_pos_iff.2 he;omega)
     rw[if_pos (.inr (.inr he))] at hnum
     refine za fun KY hKY=>?_
     simp only[go_sem,jv,d0,zm,d5]
     apply hKY
     refine Zl ?_
     refine za fun KY hKY=>?_
     simp only[go_sem,JJ]
     apply hKY
     refine Za [0,2] 1 (by simp only[go_sem]) ?_
     simp only[go_sem]
     refine zv [0,2] (by simp only[go_sem];rfl) ?_
     simp only[go_sem]
     refine zd ?_
     repeat (first|refine hr1 _ ?_)
     simp only[go_sem]
     refine⟨[],?_,fun x hx=>?_⟩
     · rw[←hnum];rfl
     · rw[←hnum] at hx;cases hx
theorem zbG {n:Int}(h0:0≤n)(h1:n≤999999999):zn Tryd.prog [] 32 [.sc (.int .i64 n)] [] fun r h'=>r= .sc (.string (Zt (Zw n.toNat)))∧h'=[]:=by
 have hg : Tryd.prog.globalNamed "internal/strconv.uint64pow10" = some 1 := by kernel_rfl
 rw[←O7 h0]
 refine Ub (us:=[.int .i64 n]) (by kernel_rfl) fun w hw=>(Tryd.strconv_Itoa n (by omega) (by omega) w (hw 1 hg)).mono ?_
 rintro e w' ⟨he,k,os,rfl⟩
 refine⟨he,rfl,rfl,rfl,?_,fun j hj=>?_⟩
 · show w.heap.size≤(w.heap++os).size
   rw[Array.size_append];omega
 · show(w.heap++os)[j]?=_
   exact Array.getElem?_append_left hj
theorem zbF (w:List UInt8)(ws:List (List UInt8))(hl:ws.length≤2000000000)(hj:(Lib.join (w::ws) [32]).length≤100000000000000):zn Tryd.prog [] 33 [.imm 1 (Zk (w::ws)),.sc (.string (Zt [32]))] [] fun r h'=>r= .sc (.string (Zt (Lib.join (w::ws) [32])))∧h'=[]:=by
 have e1:((Zt w::ws.map Zt).map (·.data.toList))=w::ws:=by
  rw[List.map_cons,List.map_map]
  refine congr (congrArg _ (Z8 w)) ((List.map_congr_left fun p _=>Z8 p).trans (List.map_id _))
 have h:=u9 (P:=Tryd.prog) (L:=[]) (f:=33) (by kernel_rfl) (x:=Zt w) (xs:=ws.map Zt) (c:= .string (Zt [32])) (v:= .string (Zt (Lib.join (w::ws) [32]))) fun bk o cap W hb hc hcells=>by
  have:=Tryd.strings_Join bk o cap (Zt w::ws.map Zt) (Zt [32]) W hcells hb (by simp;omega) hc (by rw[e1,Z8];omega)
  rw[e1,Z8] at this
  exact this
 have e2:((Zt w::ws.map Zt).map fun s=>zb.sc (.string s))=Zk (w::ws):=by simp[Zk]
 rw[e2] at h
 exact h
end Go.Proofs.YtneiihheeghdcaaDoor
set_option maxHeartbeats 8000000
namespace Go.Proofs.YtneiihheeghdcaaDoor
open Go Go.Ga Go.Ga.Gl
def wx (w:List UInt8)(l:List Int):List (List UInt8):=w::l.map fun n=>Zw n.toNat
theorem Uc (w:List UInt8)(l:List Int):(wx w l).length=l.length+1:=by simp[wx]
theorem Gp (w:List UInt8)(l:List Int)(n:Int):wx w l++[Zw n.toNat]=wx w (l++[n]):=by simp[wx]
theorem Gq (w:List UInt8)(l:List Int)(n:Int):(wx w (l++[n]))[l.length+1]?=some (Zw n.toNat):=by simp[wx]
theorem OU {k:Nat}{a b:Int}{l ns:List Int}(h:jd k a b l=some ns):ns.length≤l.length+2:=by
 unfold jd at h
 split at h
 · split at h
   · cases h;omega
   · cases h
 · split at h
   · cases h
   · cases h
     rw[List.length_take]
     simp only[List.length_cons,List.length_nil]
     omega
theorem OJ (k a b:Int)(l:List Int)(hl:l.length≤1000000000):zn Tryd.prog [] zcF [.agg (gr k a b l)] [] fun r h'=>r= .tup [.sc (.string (Zt (Zp k a b l).1)),.sc (.int .i64 (Zp k a b l).2)]∧h'=[]:=by
 have hN:=fun(m:Nat) (hm:m<15)=>K0 m a b l hm
 unfold gr at hN⊢
 refine zee rfl ?_
 unfold zdj Zu
 refine za fun KY hKY=>?_
 simp only[go_sem,k7]
 apply hKY
 refine zf fun X1 hn1 he1 hr1=>?_
 by_cases hk:k<1∨14<k∨(k=6∧a≠1∧a≠2)
 · have hres:Zp k a b l=([],15):=if_pos hk
   by_cases k1:k<1
   · have d1:decide (k<1)=true:=decide_eq_true k1
     refine za fun KY hKY=>?_
     simp only[go_sem,JL,d1]
     apply hKY
     refine Zl ?_
     refine za fun KY hKY=>?_
     simp only[go_sem,Yh]
     apply hKY
     refine zd ?_
     repeat (first|refine hr1 _ ?_)
     simp only[go_sem]
     rw[hres]
   have d1:decide (k<1)=false:=decide_eq_false k1
   by_cases k2:14<k
   · have d2:decide (14<k)=true:=decide_eq_true k2
     refine za fun KY hKY=>?_
     simp only[go_sem,JL,d1,d2]
     apply hKY
     refine Zl ?_
     refine za fun KY hKY=>?_
     simp only[go_sem,Yh]
     apply hKY
     refine zd ?_
     repeat (first|refine hr1 _ ?_)
     simp only[go_sem]
     rw[hres]
   have d2:decide (14<k)=false:=decide_eq_false k2
   have k3:k=6∧a≠1∧a≠2:=by omega
   have d3:decide (k=6)=true:=decide_eq_true k3.1
   have d4:decide (a≠1)=true:=decide_eq_true k3.2.1
   have d5:decide (a≠2)=true:=decide_eq_true k3.2.2
   refine za fun KY hKY=>?_
   simp only[go_sem,JL,d1,d2,d3,d4,d5]
   apply hKY
   refine Zl ?_
   refine za fun KY hKY=>?_
   simp only[go_sem,Yh]
   apply hKY
   refine zd ?_
   repeat (first|refine hr1 _ ?_)
   simp only[go_sem]
   rw[hres]
 have hpr:Zp k a b l=_:=if_neg hk
 have d1:decide (k<1)=false:=decide_eq_false (by omega)
 have d2:decide (14<k)=false:=decide_eq_false (by omega)
 refine za fun KY hKY=>?_
 apply pm
 · intro H
   by_cases k3:k=6
   · have d3:decide (k=6)=true:=decide_eq_true k3
     by_cases a1:a=1
     · have d4:decide (a≠1)=false:=decide_eq_false fun h=>h a1
       simp only[go_sem,JL,d1,d2,d3,d4]
       apply hKY
       repeat (first|refine hn1 _ ?_|refine he1 _ _ ?_|refine hr1 _ ?_)
       simp only[go_sem]
       exact H
     · have d4:decide (a≠1)=true:=decide_eq_true a1
       have d5:decide (a≠2)=false:=decide_eq_false fun h=>hk (.inr (.inr ⟨k3,a1,h⟩))
       simp only[go_sem,JL,d1,d2,d3,d4,d5]
       apply hKY
       repeat (first|refine hn1 _ ?_|refine he1 _ _ ?_|refine hr1 _ ?_)
       simp only[go_sem]
       exact H
   · have d3:decide (k=6)=false:=decide_eq_false k3
     simp only[go_sem,JL,d1,d2,d3]
     apply hKY
     repeat (first|refine hn1 _ ?_|refine he1 _ _ ?_|refine hr1 _ ?_)
     simp only[go_sem]
     exact H
 refine ZD ?_
 refine zi ?_
 repeat (first|refine hn1 _ ?_|refine he1 _ _ ?_)
 obtain⟨m,rfl⟩:=Int.eq_ofNat_of_zero_le (show 0≤k by omega)
 have hm:m<15:=by omega
 rw[Int.toNat_natCast] at hpr
 refine za fun KY hKY=>?_
 simp only[go_sem,k6]
 apply z7 [] [] false none rfl
 iterate 8 (first|(simp only[go_sem,zJ]<;>rfl)|rfl)
 refine(hN m hm).mono ?_
 rintro _ _ ⟨ns,rfl,rfl,hns⟩
 refine⟨Nat.le_of_ble_eq_true rfl,(fun hh=>by cases hh),?_⟩
 simp only[go_sem,zZ,zc.after]
 apply hKY
 refine zf fun X2 hn2 he2 hr2=>?_
 cases hnum:jd m a b l with
 | none=>
   rw[hnum] at hpr
   have hres:Zp m a b l=([],15):=hpr
   refine za fun KY hKY=>?_
   simp only[go_sem,xl,Option.isSome_none]
   apply hKY
   refine Zl ?_
   refine za fun KY hKY=>?_
   simp only[go_sem,k5]
   apply hKY
   refine zd ?_
   repeat (first|refine hr2 _ ?_|refine hr1 _ ?_)
   simp only[go_sem]
   rw[hres]
 |some ns2=>
 obtain rfl:=hns _ hnum
 rw[hnum] at hpr
 have hpr2:Zp m a b l=(if ns.all QP=true∧(tx (zQ m) ns).length≤65536 then(tx (zQ m) ns,0) else([],15)):=hpr
 have hwl:=Ju m (by omega)
 have hf:=gW hm
 generalize zQ m=w at hpr2 hwl hf
 refine za fun KY hKY=>?_
 simp only[go_sem,xl,Option.isSome_some]
 apply hKY
 refine ZD ?_
 refine zi ?_
 repeat (first|refine hn2 _ ?_|refine he2 _ _ ?_|refine hn1 _ ?_|refine he1 _ _ ?_)
 have hfl:(Ze xJ yZ).length=30:=rfl
 have hk2:m*2+1<30:=by omega
 refine Zb fun KY hKY=>?_
 simp only[go_sem,k4]
 apply z7 [] [] false none rfl
 iterate 8 (first|(simp only[go_sem,zJ]<;>rfl)|rfl)
 refine(yY).mono ?_
 rintro _ _ ⟨rfl,rfl⟩
 refine⟨Nat.le_of_ble_eq_true rfl,(fun hh=>by cases hh),?_⟩
 simp only[go_sem,zZ,zc.after,hfl,hf,hm,hk2]
 apply hKY
 refine za fun KY hKY=>?_
 simp only[go_sem,k0]
 apply hKY
 have hnl:=OU hnum
 have htl:∀i,(tx w (ns.take i)).length≤(tx w ns).length:=uz w ns
 refine zf fun X3 hn3 he3 hr3=>?_
 refine za fun KY hKY=>?_
 simp only[go_sem,kZ,zm]
 apply hKY
 refine zr fun X4 hn4 he4 hf4 hr4=>?_
 rw[show zb.own (some 1) [zb.sc (.string (Zt w))]= .own (some 1) (Zk (wx w (ns.take 0))) from rfl,show w.length=(tx w (ns.take 0)).length by rw[List.take_zero,q9]]
 try simp only[go_sem]
 refine ZL (α:=Nat) [9,53,61,78] (fun i=>[(6,.own (some 1) (Zk (wx w (ns.take i)))),(7,.sc (.int .i64 ((tx w (ns.take i)).length:Int))),(52,.sc (.int .i64 (i:Int)))]) (fun i=>[]) (fun i q=>i≤ns.length∧(ns.take i).all QP=true∧(tx w (ns.take i)).length≤65536∧q=ns.length - i) (0) (ns.length) rfl (by first|(simp only[go_sem,ze,zg];done)|with_reducible rfl|rfl) (⟨Nat.zero_le _,rfl,by rw[List.take_zero,q9];omega,rfl⟩) ?_
 rintro i q ⟨hi,hall,hsz,rfl⟩ X5 hn5 he5 hr5
 simp only[go_sem,ze,zg]
 rcases Nat.lt_or_ge i ns.length with hi2|hi2
 · have hdx:decide ((i:Int)<(ns.length:Int))=true:=decide_eq_true (by omega)
   have hx:ns[i]?=some ns[i]:=List.getElem?_eq_getElem hi2
   have htk:ns.take (i+1)=ns.take i++[ns[i]]:=by rw[List.take_add_one,hx];rfl
   have hli:(ns.take i).length=i:=by rw[List.length_take];omega
   have hmem:ns[i]∈ns:=List.getElem_mem hi2
   have ht1:=htl (i+1)
   generalize ns[i]=n at hx htk hmem
   have hg:=QN hx
   refine za fun KY hKY=>?_
   simp only[go_sem,xk,hdx]
   apply hKY
   refine zf fun X6 hn6 he6 hr6=>?_
   refine Zl ?_
   refine zi ?_
   repeat (first|refine hn6 _ ?_|refine he6 _ _ ?_|refine he5 _ _ ?_|refine hn4 _ ?_|refine he4 _ ?_|refine hf4 _ _ (by decide) ?_|refine hn3 _ ?_|refine he3 _ _ ?_|refine hn2 _ ?_|refine he2 _ _ ?_|refine hn1 _ ?_|refine he1 _ _ ?_)
   refine zf fun X7 hn7 he7 hr7=>?_
   refine zr fun X8 hn8 he8 hf8 hr8=>?_
   refine za fun KY hKY=>?_
   simp only[go_sem,un,hg,zm,hi2,(show i+1≤ns.length by omega)]
   apply hKY
   refine zf fun X9 hn9 he9 hr9=>?_
   by_cases n0:n<0
   · have e0:decide (n<0)=true:=decide_eq_true n0
     have hres:Zp m a b l=([],15):=hpr2.trans (if_neg fun h=>by have:=Jr.1 (List.all_eq_true.1 h.1 n hmem);omega)
     refine za fun KY hKY=>?_
     simp only[go_sem,QU,e0]
     apply hKY
     refine Zl ?_
     refine za fun KY hKY=>?_
     simp only[go_sem,Y6]
     apply hKY
     refine zd ?_
     repeat (first|refine hr9 _ ?_|refine hr8 _ ?_|refine hr7 _ ?_|refine hr6 _ ?_|refine hr5 _ ?_|refine hr4 _ ?_|refine hr3 _ ?_|refine hr2 _ ?_|refine hr1 _ ?_)
     simp only[go_sem]
     rw[hres]
   have e0:decide (n<0)=false:=decide_eq_false n0
   by_cases n1:999999999<n
   · have e1:decide (999999999<n)=true:=decide_eq_true n1
     have hres:Zp m a b l=([],15):=hpr2.trans (if_neg fun h=>by have:=Jr.1 (List.all_eq_true.1 h.1 n hmem);omega)
     refine za fun KY hKY=>?_
     simp only[go_sem,QU,e0,e1]
     apply hKY
     refine Zl ?_
     refine za fun KY hKY=>?_
     simp only[go_sem,Y6]
     apply hKY
     refine zd ?_
     repeat (first|refine hr9 _ ?_|refine hr8 _ ?_|refine hr7 _ ?_|refine hr6 _ ?_|refine hr5 _ ?_|refine hr4 _ ?_|refine hr3 _ ?_|refine hr2 _ ?_|refine hr1 _ ?_)
     simp only[go_sem]
     rw[hres]
   have e1:decide (999999999<n)=false:=decide_eq_false n1
   have hdl:(Zw n.toNat).length≤19:=(Qr n.toNat 18).2 (by omega)
   have hall2:(ns.take (i+1)).all QP=true:=by rw[htk,List.all_append,hall,List.all_cons,Jr.2 (by omega)];rfl
   have hsn:=Gp w (ns.take i) n
   rw[←htk] at hsn
   have hla:=Gq w (ns.take i) n
   rw[←htk,hli] at hla
   have hgl:=Qb hla
   have hwl1:(wx w (ns.take i)).length=i+1:=by rw[Uc,hli]
   have hwl2:(wx w (ns.take (i+1))).length=i+2:=by rw[Uc,htk,List.length_append,hli];rfl
   have htx:(tx w (ns.take (i+1))).length=(tx w (ns.take i)).length+(1+(Zw n.toNat).length):=by rw[htk,gD,List.length_append,List.length_cons];omega
   refine za fun KY hKY=>?_
   simp only[go_sem,QU,e0,e1]
   apply hKY
   refine ZD ?_
   refine zi ?_
   repeat (first|refine hn9 _ ?_|refine he9 _ _ ?_|refine hn8 _ ?_|refine he8 _ ?_|refine hf8 _ _ (by decide) ?_|refine hn7 _ ?_|refine he7 _ _ ?_|refine hn6 _ ?_|refine he6 _ _ ?_|refine he5 _ _ ?_|refine hn4 _ ?_|refine he4 _ ?_|refine hf4 _ _ (by decide) ?_|refine hn3 _ ?_|refine he3 _ _ ?_|refine hn2 _ ?_|refine he2 _ _ ?_|refine hn1 _ ?_|refine he1 _ _ ?_)
   refine za fun KY hKY=>?_
   simp only[go_sem,um]
   refine zh rfl (by simp only[go_sem]<;>rfl) ((zbG (show 0≤n by omega) (show n≤999999999 by omega)).mono ?_)
   rintro rr hh ⟨rfl,rfl⟩
   refine⟨rfl,rfl,rfl,?_⟩
   simp only[go_sem,jX,hsn,zK,hwl1,(show(i+1+1)*16≤140737488355328 by omega)]
   apply hKY
   have w1:IntKind.i64.wrap (((i+2:Nat):Int) - 1)=((i+1:Nat):Int):=by rw[IntWalk.i64_in _ (by omega)];omega
   have w2:IntKind.i64.wrap (1+((Zw n.toNat).length:Int))=((1+(Zw n.toNat).length:Nat):Int):=by rw[IntWalk.i64_in _ (by omega)];omega
   have w3:IntKind.i64.wrap (((tx w (ns.take i)).length:Int)+((1+(Zw n.toNat).length:Nat):Int))=((tx w (ns.take (i+1))).length:Int):=by rw[IntWalk.i64_in _ (by omega),htx];omega
   have w4:IntKind.i64.wrap ((i:Int)+1)=((i+1:Nat):Int):=by rw[IntWalk.i64_in _ (by omega)];omega
   refine za fun KY hKY=>?_
   simp only[go_sem,ul,zK,hwl2,w1,hgl,(show i+1<i+2 by omega),(show i+1+1≤i+2 by omega),w2,w3]
   apply hKY
   by_cases hbig:65536<(tx w (ns.take (i+1))).length
   · have e2:decide (65536<((tx w (ns.take (i+1))).length:Int))=true:=decide_eq_true (by omega)
     have hres:Zp m a b l=([],15):=hpr2.trans (if_neg fun h=>by omega)
     refine za fun KY hKY=>?_
     simp only[go_sem,Y5,e2]
     apply hKY
     refine Zl ?_
     refine za fun KY hKY=>?_
     simp only[go_sem,uk]
     apply hKY
     refine zd ?_
     repeat (first|refine hr9 _ ?_|refine hr8 _ ?_|refine hr7 _ ?_|refine hr6 _ ?_|refine hr5 _ ?_|refine hr4 _ ?_|refine hr3 _ ?_|refine hr2 _ ?_|refine hr1 _ ?_)
     simp only[go_sem]
     rw[hres]
   have e2:decide (65536<((tx w (ns.take (i+1))).length:Int))=false:=decide_eq_false (by omega)
   refine za fun KY hKY=>?_
   simp only[go_sem,Y5,e2]
   apply hKY
   refine ZD ?_
   refine zi ?_
   repeat (first|refine hn9 _ ?_|refine he9 _ _ ?_|refine hn8 _ ?_|refine he8 _ ?_|refine hf8 _ _ (by decide) ?_|refine hn7 _ ?_|refine he7 _ _ ?_|refine hn6 _ ?_|refine he6 _ _ ?_|refine he5 _ _ ?_|refine hn4 _ ?_|refine he4 _ ?_|refine hf4 _ _ (by decide) ?_|refine hn3 _ ?_|refine he3 _ _ ?_|refine hn2 _ ?_|refine he2 _ _ ?_|refine hn1 _ ?_|refine he1 _ _ ?_)
   refine zt fun KY hKY=>?_
   simp only[go_sem,uj,w4]
   apply hKY
   repeat (first|refine hn9 _ ?_|refine he9 _ _ ?_|refine hn8 _ ?_|refine he8 _ ?_|refine hf8 _ _ (by decide) ?_|refine hn7 _ ?_|refine he7 _ _ ?_|refine hn6 _ ?_|refine he6 _ _ ?_)
   refine hn5 _ (i+1) (ns.length - (i+1)) (by omega) (by first|(simp only[go_sem,ze,zg];done)|with_reducible rfl) ?_
   exact⟨hi2,hall2,by omega,rfl⟩
 have hdx:decide ((i:Int)<(ns.length:Int))=false:=decide_eq_false (by omega)
 obtain rfl:i=ns.length:=by omega
 rw[List.take_length] at hall hsz
 refine za fun KY hKY=>?_
 simp only[go_sem,xk,hdx]
 apply hKY
 refine zf fun X10 hn10 he10 hr10=>?_
 refine ZD ?_
 refine zS ?_
 repeat (first|refine hn10 _ ?_|refine he10 _ _ ?_|refine he5 _ _ ?_|refine hn4 _ ?_|refine he4 _ ?_|refine hf4 _ _ (by decide) ?_|refine hn3 _ ?_|refine he3 _ _ ?_|refine hn2 _ ?_|refine he2 _ _ ?_|refine hn1 _ ?_|refine he1 _ _ ?_)
 rw[List.take_length]
 have hJ:=zbF w (ns.map fun n=>Zw n.toNat) (by rw[List.length_map];omega) (by rw[gT];omega)
 rw[gT] at hJ
 unfold wx
 have hres:Zp m a b l=(tx w ns,0):=hpr2.trans (if_pos ⟨hall,hsz⟩)
 refine za fun KY hKY=>?_
 simp only[go_sem,ui]
 refine zh rfl (by simp only[go_sem]<;>rfl) ((hJ).mono ?_)
 rintro rr hh ⟨rfl,rfl⟩
 refine⟨rfl,rfl,rfl,?_⟩
 simp only[go_sem]
 apply hKY
 refine zd ?_
 repeat (first|refine hr10 _ ?_|refine hr5 _ ?_|refine hr4 _ ?_|refine hr3 _ ?_|refine hr2 _ ?_|refine hr1 _ ?_)
 simp only[go_sem]
 rw[hres]
end Go.Proofs.YtneiihheeghdcaaDoor

namespace Go.Ga.Gl
open Go Go.Ga
theorem qA (c b:UInt8):∀(x:List UInt8) (ps:List (List UInt8)) (p:List UInt8),zx c x=ps++[p]→zx c (x++[b])=if b=c then ps++[p,[]] else ps++[p++[b]]
 | [],ps,p,h=>by
   have h2:ps=[]∧p=[]:=by
    rcases ps with _|⟨q,qs⟩
    · have:[[]]=[p]:=h
      cases this;exact⟨rfl,rfl⟩
    · have h3:[[]]=q::(qs++[p]):=h
      injection h3 with _ h3
      simp at h3
   obtain⟨rfl,rfl⟩:=h2
   show zx c [b]=_
   rw[Z9]
   split<;>rfl
 | a :: r, ps,p,h=>by
   have hne:=ji c r
   have e:zx c ((a::r)++[b])=zx c (a::(r++[b])):=rfl
   rw[e]
   rw[Z9] at h⊢
   by_cases ha:a=c
   · rw[if_pos ha] at h⊢
     rcases ps with _|⟨q,qs⟩
     · injection h with _ h
       exact absurd h hne
     · injection h with h1 h2
       subst h1
       rw[qA c b r qs p h2]
       split<;>rfl
   · rw[if_neg ha] at h⊢
     rcases List.eq_nil_or_concat (zx c r) with hs|⟨qs,q,hs⟩
     · exact absurd hs hne
     · rw [List.concat_eq_append] at hs
       rw[qA c b r qs q hs]
       rw[hs] at h
       rcases qs with _|⟨y,ys⟩
       · have h1:[a::q]=ps++[p]:=h
         rcases ps with _|⟨z,zs⟩
         · cases h1
           by_cases hb:b=c
           · rw[if_pos hb,if_pos hb];rfl
           · rw[if_neg hb,if_neg hb];rfl
         · injection h1 with _ h2;simp at h2
       · have h1:(a::y)::(ys++[q])=ps++[p]:=h
         have h2:ps=(a::y)::ys∧p=q:=by
          have:((a::y)::ys)++[q]=ps++[p]:=h1
          have h3:=List.append_inj_right' this rfl
          have h4:=List.append_inj_left' this rfl
          cases h3
          exact⟨h4.symm,rfl⟩
         obtain⟨rfl,rfl⟩:=h2
         by_cases hb:b=c
         · rw[if_pos hb,if_pos hb];rfl
         · rw[if_neg hb,if_neg hb];rfl
def y5 (c:UInt8)(l:List UInt8)(i:Nat)(ps:List (List UInt8))(f:Nat):Prop:=f≤i∧zx c (l.take i)=ps++[(l.take i).drop f]
theorem vd (c:UInt8)(l:List UInt8):y5 c l 0 [] 0:=⟨Nat.le_refl _,by simp[zx]⟩
theorem gY {c:UInt8}{l:List UInt8}{i:Nat}{ps:List (List UInt8)}{f:Nat}(h:y5 c l i ps f)(hi:l[i]?=some c):y5 c l (i+1) (ps++[(l.take i).drop f]) (i+1):=by
 obtain⟨h1,h2⟩:=h
 have hl:=(List.getElem?_eq_some_iff.1 hi).1
 have ht:l.take (i+1)=l.take i++[c]:=by rw[List.take_add_one,hi];rfl
 refine⟨Nat.le_refl _,?_⟩
 have e:(l.take (i+1)).drop (i+1)=[]:=by rw[List.drop_eq_nil_iff,List.length_take];omega
 rw[e,ht,qA c c _ _ _ h2,if_pos rfl]
 simp
theorem ve {c b:UInt8}{l:List UInt8}{i:Nat}{ps:List (List UInt8)}{f:Nat}(h:y5 c l i ps f)(hi:l[i]?=some b)(hb:b≠c):y5 c l (i+1) ps f:=by
 obtain⟨h1,h2⟩:=h
 have hl:=(List.getElem?_eq_some_iff.1 hi).1
 have ht:l.take (i+1)=l.take i++[b]:=by rw[List.take_add_one,hi];rfl
 refine⟨by omega,?_⟩
 rw[ht,qA c b _ _ _ h2,if_neg hb,List.drop_append_of_le_length (by rw[List.length_take];omega)]
theorem cut_end {c:UInt8}{l:List UInt8}{ps:List (List UInt8)}{f:Nat}(h:y5 c l l.length ps f):zx c l=ps++[l.drop f]:=by
 have:=h.2
 rwa [List.take_length] at this
theorem QS {c:UInt8}{l:List UInt8}{i:Nat}{ps:List (List UInt8)}{f:Nat}(h:y5 c l i ps f):ps.length≤i:=by
 have h1:=jY c (l.take i)
 have h2:=jj c (l.take i)
 rw[h.2] at h1
 rw[List.length_take] at h2
 simp at h1
 omega
def Gr (k:Int):List UInt8:=if 1≤k∧k≤14 then zQ k.toNat else []
def QV (k:Int):Int:=if 1≤k∧k≤14 then z6 k.toNat else 0
def zb2 (k a b:Int)(l:List Int):Prop:=¬(1≤k∧k≤14)∨QP a=false∨QP b=false∨(QV k<2∧b≠0)∨(QV k<1∧a≠0)∨(0≤QV k∧l≠ [])∨(k=6∧a≠1∧a≠2)
theorem zfa {k:Int}(h:1≤k∧k≤14):Gr k≠ []:=by
 have:∀m:Fin 15,1≤m.1→zQ m.1≠ []:=by decide
 unfold Gr
 rw[if_pos h]
 have:=this ⟨k.toNat,by omega⟩ (by show 1≤k.toNat;omega)
 exact this
theorem u4 {k:Int}(h:1≤k∧k≤14):QV k= -1∨QV k=0∨(QV k=1)∨QV k=2:=by
 unfold QV
 rw[if_pos h]
 have:=Ju k.toNat (by omega)
 omega
theorem zax :QV 6=1:=by decide
theorem UZ :QP 0=true:=by decide
theorem og {k a b:Int}{l:List Int}(h:zb2 k a b l):Zp k a b l=([],15):=by
 unfold Zp
 split
 · rfl
 rename_i hk
 have hk2:1≤k∧k≤14:=by omega
 have hc:QV k=z6 k.toNat:=if_pos hk2
 have hcc:=u4 hk2
 have hno:jd k.toNat a b l=if QV k<0 then(if a=0∧b=0 then some l else none) else if(QV k<2∧b≠0)∨(QV k<1∧a≠0)∨l≠ [] then none else some ([a,b].take (QV k).toNat):=by
  rw[hc];rfl
 have ha:QP a=false→a≠0:=fun h e=>by rw[e,UZ] at h;cases h
 have hb:QP b=false→b≠0:=fun h e=>by rw[e,UZ] at h;cases h
 have none_of:jd k.toNat a b l=none→(match jd k.toNat a b l with
  |none=>(([],15):List UInt8×Int)
  |some ns=>if ns.all QP=true∧(tx (zQ k.toNat) ns).length≤65536 then(tx (zQ k.toNat) ns,0) else([],15))=([],15):=fun e=>by rw[e]
 unfold zb2 at h
 have h6:k=6→QV k=1:=fun e=>by rw[e];exact zax
 generalize QV k=n at h hcc hno h6
 rcases hcc with rfl|rfl|rfl|rfl
 · refine none_of (hno.trans ((if_pos (by decide)).trans (if_neg ?_)))
   rintro⟨rfl,rfl⟩
   rcases h with h|h|h|h|h|h|h
   · exact h hk2
   · exact ha h rfl
   · exact hb h rfl
   · exact h.2 rfl
   · exact h.2 rfl
   · omega
   · exact absurd (h6 h.1) (by decide)
 · refine none_of (hno.trans ((if_neg (by decide)).trans (if_pos ?_)))
   rcases h with h|h|h|h|h|h|h
   · exact absurd hk2 h
   · exact .inr (.inl ⟨by decide,ha h⟩)
   · exact .inl ⟨by decide,hb h⟩
   · exact .inl h
   · exact .inr (.inl h)
   · exact .inr (.inr h.2)
   · exact absurd (h6 h.1) (by decide)
 · by_cases hbad:((1:Int)<2∧b≠0)∨((1:Int)<1∧a≠0)∨l≠ []
   · exact none_of (hno.trans ((if_neg (by decide)).trans (if_pos hbad)))
   · have hs:jd k.toNat a b l=some [a]:=hno.trans ((if_neg (by decide)).trans (if_neg hbad))
     rw[hs]
     refine if_neg fun e=>?_
     have e1:QP a=true:=List.all_eq_true.1 e.1 a (.head _)
     rcases h with h|h|h|h|h|h|h
     · exact h hk2
     · rw[h] at e1;cases e1
     · exact hbad (.inl ⟨by decide,hb h⟩)
     · exact hbad (.inl h)
     · exact hbad (.inr (.inl h))
     · exact hbad (.inr (.inr h.2))
     · exact hk (.inr (.inr h))
 · by_cases hbad:((2:Int)<2∧b≠0)∨((2:Int)<1∧a≠0)∨l≠ []
   · exact none_of (hno.trans ((if_neg (by decide)).trans (if_pos hbad)))
   · have hs:jd k.toNat a b l=some [a,b]:=hno.trans ((if_neg (by decide)).trans (if_neg hbad))
     rw[hs]
     refine if_neg fun e=>?_
     have e1:QP a=true:=List.all_eq_true.1 e.1 a (.head _)
     have e2:QP b=true:=List.all_eq_true.1 e.1 b (.tail _ (.head _))
     rcases h with h|h|h|h|h|h|h
     · exact h hk2
     · rw[h] at e1;cases e1
     · rw[h] at e2;cases e2
     · exact hbad (.inl h)
     · exact hbad (.inr (.inl h))
     · exact hbad (.inr (.inr h.2))
     · exact absurd (h6 h.1) (by decide)
theorem gg {k a b:Int}{l:List Int}(h:¬zb2 k a b l):Zp k a b l=if l.all QP=true∧(tx (Gr k) ([a,b].take (QV k).toNat++l)).length≤65536 then(tx (Gr k) ([a,b].take (QV k).toNat++l),0) else([],15):=by
 have hk2:1≤k∧k≤14:=Classical.byContradiction fun e=>h (.inl e)
 have hw:Gr k=zQ k.toNat:=if_pos hk2
 have hc:QV k=z6 k.toNat:=if_pos hk2
 have hno:jd k.toNat a b l=if QV k<0 then(if a=0∧b=0 then some l else none) else if(QV k<2∧b≠0)∨(QV k<1∧a≠0)∨l≠ [] then none else some ([a,b].take (QV k).toNat):=by
  rw[hc];rfl
 have ha:QP a=true:=by
  cases e:QP a with
  |true=>rfl
  |false=>exact absurd (.inr (.inl e)) h
 have hb:QP b=true:=by
  cases e:QP b with
  |true=>rfl
  |false=>exact absurd (.inr (.inr (.inl e))) h
 have hcc:=u4 hk2
 have g1:¬(QV k<2∧b≠0):=fun e=>h (.inr (.inr (.inr (.inl e))))
 have g2:¬(QV k<1∧a≠0):=fun e=>h (.inr (.inr (.inr (.inr (.inl e)))))
 have g3:¬(0≤QV k∧l≠ []):=fun e=>h (.inr (.inr (.inr (.inr (.inr (.inl e))))))
 have g4:¬(k<1∨14<k∨(k=6∧a≠1∧a≠2)):=fun e=>by
  rcases e with e|e|e
  · omega
  · omega
  · exact h (.inr (.inr (.inr (.inr (.inr (.inr e))))))
 unfold Zp
 rw[if_neg g4,hw]
 generalize QV k=n at hno hcc g1 g2 g3
 have hpre:∀m,([a,b].take m).all QP=true:=fun m=>List.all_eq_true.2 fun x hx=>by
  have:=List.mem_of_mem_take hx
  rcases List.mem_cons.1 this with rfl|this
  · exact ha
  · rw[List.mem_singleton.1 this];exact hb
 by_cases hn:n<0
 · obtain rfl:n= -1:=by omega
   have hab:a=0∧b=0:=by
    constructor
    · exact Classical.byContradiction fun e=>g2 ⟨by decide,e⟩
    · exact Classical.byContradiction fun e=>g1 ⟨by decide,e⟩
   rw[hno.trans ((if_pos (by decide)).trans (if_pos hab))];rfl
 · have hl:l=[]:=Classical.byContradiction fun e=>g3 ⟨by omega,e⟩
   rw[hno.trans ((if_neg hn).trans (if_neg fun e=>by
    rcases e with e|e|e
    · exact g1 e
    · exact g2 e
    · exact e hl))]
   subst hl
   simp only[List.append_nil,hpre,List.all_nil]
end Go.Ga.Gl
namespace Go.Proofs.YtneiihheeghdcaaDoor
open Go Go.Ga Go.Ga.Gl
theorem UY (k:Nat)(h:k≤2000000000):IntKind.i64.wrap ((k:Int)+1)=((k+1:Nat):Int):=by rw[IntWalk.i64_in _ (by omega)];omega
theorem Gk {b:UInt8}{n:Nat}(hn:n<256):decide ((b.toNat:Int)=(n:Int))=decide (b=UInt8.ofNat n):=by
 refine decide_eq_decide.2 ⟨fun h=>?_,fun h=>?_⟩
 · apply UInt8.toNat_inj.1
   rw[UInt8.toNat_ofNat'];omega
 · subst h
   rw[UInt8.toNat_ofNat'];omega
theorem GN (l:List UInt8)(hl:l.length≤1000000000):zn Tryd.prog [] zcp [.sc (.string (Zt l))] [] fun r h'=>r= .own (some 1) (Zk (zx 32 l))∧h'=[]:=by
 refine zdW rfl ?_
 unfold zcY jD
 refine za fun KY hKY=>?_
 simp only[go_sem,Vs]
 apply hKY
 refine za fun KY hKY=>?_
 simp only[go_sem,Vr]
 apply hKY
 refine Za [0,3] 1 (by simp only[go_sem]) ?_
 simp only[go_sem]
 refine za fun KY hKY=>?_
 simp only[go_sem,Vq]
 apply hKY
 rw[show zb.own (some 1) []= .own (some 1) (Zk []) from rfl]
 refine zf fun X1 hn1 he1 hr1=>?_
 refine za fun KY hKY=>?_
 simp only[go_sem,Vp]
 apply hKY
 refine zr fun X2 hn2 he2 hf2 hr2=>?_
 try simp only[go_sem]
 refine ZL (α:=Nat×List (List UInt8)×Nat) [9,21] (fun(i,ps,f)=>[(3,.own (some 1) (Zk ps)),(4,.sc (.int .i64 (f:Int))),(5,.sc (.int .i64 (i:Int)))]) (fun(i,ps,f)=>[]) (fun(i,ps,f) q=>i≤l.length+1∧(i≤l.length→y5 32 l i ps f)∧(i=l.length+1→ps=zx 32 l)∧q=l.length+1 - i) ((0,[],0)) (l.length+1) rfl (by first|(simp only[go_sem,ze,zg];done)|with_reducible rfl|rfl) (⟨Nat.zero_le _,fun _=>vd 32 l,fun h=>by omega,rfl⟩) ?_
 rintro⟨i,ps,f⟩ q ⟨hi,hcut,hend,rfl⟩ X3 hn3 he3 hr3
 simp only[go_sem,ze,zg]
 refine zf fun X4 hn4 he4 hr4=>?_
 rcases Nat.lt_or_ge i (l.length+1) with hi2|hi2
 · have hdx:decide ((i:Int)≤(l.length:Int))=true:=decide_eq_true (by omega)
   have hc:=hcut (by omega)
   have hf:=hc.1
   have hpl:=QS hc
   refine za fun KY hKY=>?_
   simp only[go_sem,WY,hdx]
   apply hKY
   refine Zl ?_
   refine zi ?_
   repeat (first|refine hn4 _ ?_|refine he4 _ _ ?_|refine he3 _ _ ?_|refine hn2 _ ?_|refine he2 _ ?_|refine hf2 _ _ (by decide) ?_|refine hn1 _ ?_|refine he1 _ _ ?_)
   refine zf fun X5 hn5 he5 hr5=>?_
   refine zr fun X6 hn6 he6 hf6 hr6=>?_
   rcases Nat.lt_or_ge i l.length with hi3|hi3
   · have d1:decide ((i:Int)=(l.length:Int))=false:=decide_eq_false (by omega)
     have hx:l[i]?=some l[i]:=List.getElem?_eq_getElem hi3
     have hgd:l.getD i 0=l[i]:=by rw[List.getD_eq_getElem?_getD,hx];rfl
     generalize l[i]=b at hx hgd
     have hb:=Gk (b:=b) (n:=32) (by decide)
     rw[show((32:Nat):Int)=32 from rfl,show UInt8.ofNat 32=32 from rfl] at hb
     by_cases hbb:b=32
     · rw[decide_eq_true hbb] at hb
       subst hbb
       have hc2:=gY hc hx
       refine za fun KY hKY=>?_
       simp only[go_sem,Yd,d1,hi3,hgd,hb]
       apply hKY
       refine Zl ?_
       refine za fun KY hKY=>?_
       simp only[go_sem,WX,(show f≤i by omega),(show i≤l.length by omega),jX,zK,(show(ps.length+1)*16≤140737488355328 by omega)]
       apply hKY
       refine zt fun KY hKY=>?_
       simp only[go_sem,WW,UY i (by omega)]
       apply hKY
       repeat (first|refine hn6 _ ?_|refine he6 _ ?_|refine hf6 _ _ (by decide) ?_|refine hn5 _ ?_|refine he5 _ _ ?_|refine hn4 _ ?_|refine he4 _ _ ?_|refine he3 _ _ ?_|refine hn2 _ ?_|refine he2 _ ?_|refine hf2 _ _ (by decide) ?_|refine hn1 _ ?_|refine he1 _ _ ?_)
       refine zt fun KY hKY=>?_
       simp only[go_sem,Yc,UY i (by omega)]
       apply hKY
       repeat (first|refine hn6 _ ?_|refine he6 _ ?_|refine hf6 _ _ (by decide) ?_|refine hn5 _ ?_|refine he5 _ _ ?_|refine hn4 _ ?_|refine he4 _ _ ?_)
       refine hn3 _ ((i+1,ps++[(l.take i).drop f],i+1)) (l.length+1 - (i+1)) (by omega) (by first|(simp only[go_sem,ze,zg];done)|with_reducible rfl) ?_
       exact⟨by omega,fun _=>hc2,fun h=>by omega,rfl⟩
     · rw[decide_eq_false hbb] at hb
       have hc2:=ve hc hx hbb
       refine za fun KY hKY=>?_
       simp only[go_sem,Yd,d1,hi3,hgd,hb]
       apply hKY
       refine ZD ?_
       refine zi ?_
       repeat (first|refine hn6 _ ?_|refine he6 _ ?_|refine hf6 _ _ (by decide) ?_|refine hn5 _ ?_|refine he5 _ _ ?_|refine hn4 _ ?_|refine he4 _ _ ?_|refine he3 _ _ ?_|refine hn2 _ ?_|refine he2 _ ?_|refine hf2 _ _ (by decide) ?_|refine hn1 _ ?_|refine he1 _ _ ?_)
       refine zt fun KY hKY=>?_
       simp only[go_sem,Yc,UY i (by omega)]
       apply hKY
       repeat (first|refine hn6 _ ?_|refine he6 _ ?_|refine hf6 _ _ (by decide) ?_|refine hn5 _ ?_|refine he5 _ _ ?_|refine hn4 _ ?_|refine he4 _ _ ?_)
       refine hn3 _ ((i+1,ps,f)) (l.length+1 - (i+1)) (by omega) (by first|(simp only[go_sem,ze,zg];done)|with_reducible rfl) ?_
       exact⟨by omega,fun _=>hc2,fun h=>by omega,rfl⟩
   · obtain rfl:i=l.length:=by omega
     have d1:decide ((l.length:Int)=(l.length:Int))=true:=decide_eq_true rfl
     have he:=cut_end hc
     refine za fun KY hKY=>?_
     simp only[go_sem,Yd,d1]
     apply hKY
     refine Zl ?_
     refine za fun KY hKY=>?_
     simp only[go_sem,WX,hf,Nat.le_refl,List.take_length,jX,zK,(show(ps.length+1)*16≤140737488355328 by omega)]
     apply hKY
     refine zt fun KY hKY=>?_
     simp only[go_sem,WW,UY l.length (by omega)]
     apply hKY
     repeat (first|refine hn6 _ ?_|refine he6 _ ?_|refine hf6 _ _ (by decide) ?_|refine hn5 _ ?_|refine he5 _ _ ?_|refine hn4 _ ?_|refine he4 _ _ ?_|refine he3 _ _ ?_|refine hn2 _ ?_|refine he2 _ ?_|refine hf2 _ _ (by decide) ?_|refine hn1 _ ?_|refine he1 _ _ ?_)
     refine zt fun KY hKY=>?_
     simp only[go_sem,Yc,UY l.length (by omega)]
     apply hKY
     repeat (first|refine hn6 _ ?_|refine he6 _ ?_|refine hf6 _ _ (by decide) ?_|refine hn5 _ ?_|refine he5 _ _ ?_|refine hn4 _ ?_|refine he4 _ _ ?_)
     refine hn3 _ ((l.length+1,ps++[l.drop f],l.length+1)) (l.length+1 - (l.length+1)) (by omega) (by first|(simp only[go_sem,ze,zg];done)|with_reducible rfl) ?_
     exact⟨by omega,fun h=>by omega,fun _=>he.symm,rfl⟩
 have hdx:decide ((i:Int)≤(l.length:Int))=false:=decide_eq_false (by omega)
 obtain rfl:=hend (by omega)
 refine za fun KY hKY=>?_
 simp only[go_sem,WY,hdx]
 apply hKY
 refine ZD ?_
 refine zS ?_
 repeat (first|refine hn4 _ ?_|refine he4 _ _ ?_|refine he3 _ _ ?_|refine hn2 _ ?_|refine he2 _ ?_|refine hf2 _ _ (by decide) ?_|refine hn1 _ ?_|refine he1 _ _ ?_)
 refine za fun KY hKY=>?_
 simp only[go_sem,Vo]
 apply hKY
 refine zd ?_
 repeat (first|refine hr4 _ ?_|refine hr3 _ ?_|refine hr2 _ ?_|refine hr1 _ ?_)
 simp only[go_sem]
theorem K4 (n:Int):zn Tryd.prog [] zcm [.sc (.int .i64 n)] [] fun r h'=>r= .sc (.bool (QP n))∧h'=[]:=by
 unfold QP
 refine zdT rfl ?_
 unfold zcV x4
 refine za fun KY hKY=>?_
 simp only[go_sem,Vc]
 apply hKY
 by_cases h:0≤n
 · have d1:decide (n≥0)=true:=decide_eq_true h
   have d2:decide (0≤n)=true:=decide_eq_true h
   refine za fun KY hKY=>?_
   simp only[go_sem,WP,d1,d2]
   apply hKY
   refine zd ?_
   simp only[go_sem,d2]
 · have d1:decide (n≥0)=false:=decide_eq_false h
   have d2:decide (0≤n)=false:=decide_eq_false h
   refine za fun KY hKY=>?_
   simp only[go_sem,WP,d1,d2]
   apply hKY
   refine zd ?_
   simp only[go_sem,d2]
theorem Xg (k:Int):zn Tryd.prog [] zco [.sc (.int .i64 k)] [] fun r h'=>r= .tup [.sc (.string (Zt (Gr k))),.sc (.int .i64 (QV k))]∧h'=[]:=by
 refine zdV rfl ?_
 unfold zcX zH
 refine za fun KY hKY=>?_
 simp only[go_sem,Vn]
 apply hKY
 refine zf fun X1 hn1 he1 hr1=>?_
 refine za fun KY hKY=>?_
 simp only[go_sem,Vm]
 apply hKY
 refine zr fun X2 hn2 he2 hf2 hr2=>?_
 by_cases e1:k=1
 · have d:decide (k=1)=true:=decide_eq_true e1
   refine za fun KY hKY=>?_
   simp only[go_sem,WV,d]
   apply hKY
   refine Zl ?_
   refine za fun KY hKY=>?_
   simp only[go_sem,Vl]
   apply hKY
   refine zd ?_
   repeat (first|refine hr2 _ ?_|refine hr1 _ ?_)
   simp only[go_sem]
   rw[e1];rfl
 have d:decide (k=1)=false:=decide_eq_false e1
 refine za fun KY hKY=>?_
 simp only[go_sem,WV,d]
 apply hKY
 refine ZD ?_
 by_cases e2:k=2
 · have d:decide (k=2)=true:=decide_eq_true e2
   refine za fun KY hKY=>?_
   simp only[go_sem,WU,d]
   apply hKY
   refine Zl ?_
   refine za fun KY hKY=>?_
   simp only[go_sem,Vk]
   apply hKY
   refine zd ?_
   repeat (first|refine hr2 _ ?_|refine hr1 _ ?_)
   simp only[go_sem]
   rw[e2];rfl
 have d:decide (k=2)=false:=decide_eq_false e2
 refine za fun KY hKY=>?_
 simp only[go_sem,WU,d]
 apply hKY
 refine ZD ?_
 by_cases e3:k=3
 · have d:decide (k=3)=true:=decide_eq_true e3
   refine za fun KY hKY=>?_
   simp only[go_sem,WT,d]
   apply hKY
   refine Zl ?_
   refine za fun KY hKY=>?_
   simp only[go_sem,Vj]
   apply hKY
   refine zd ?_
   repeat (first|refine hr2 _ ?_|refine hr1 _ ?_)
   simp only[go_sem]
   rw[e3];rfl
 have d:decide (k=3)=false:=decide_eq_false e3
 refine za fun KY hKY=>?_
 simp only[go_sem,WT,d]
 apply hKY
 refine ZD ?_
 by_cases e4:k=4
 · have d:decide (k=4)=true:=decide_eq_true e4
   refine za fun KY hKY=>?_
   simp only[go_sem,WS,d]
   apply hKY
   refine Zl ?_
   refine za fun KY hKY=>?_
   simp only[go_sem,Vi]
   apply hKY
   refine zd ?_
   repeat (first|refine hr2 _ ?_|refine hr1 _ ?_)
   simp only[go_sem]
   rw[e4];rfl
 have d:decide (k=4)=false:=decide_eq_false e4
 refine za fun KY hKY=>?_
 simp only[go_sem,WS,d]
 apply hKY
 refine ZD ?_
 by_cases e5:k=5
 · have d:decide (k=5)=true:=decide_eq_true e5
   refine za fun KY hKY=>?_
   simp only[go_sem,YR,d]
   apply hKY
   refine Zl ?_
   refine za fun KY hKY=>?_
   simp only[go_sem,XX]
   apply hKY
   refine zd ?_
   repeat (first|refine hr2 _ ?_|refine hr1 _ ?_)
   simp only[go_sem]
   rw[e5];rfl
 have d:decide (k=5)=false:=decide_eq_false e5
 refine za fun KY hKY=>?_
 simp only[go_sem,YR,d]
 apply hKY
 refine ZD ?_
 by_cases e6:k=6
 · have d:decide (k=6)=true:=decide_eq_true e6
   refine za fun KY hKY=>?_
   simp only[go_sem,YQ,d]
   apply hKY
   refine Zl ?_
   refine za fun KY hKY=>?_
   simp only[go_sem,XW]
   apply hKY
   refine zd ?_
   repeat (first|refine hr2 _ ?_|refine hr1 _ ?_)
   simp only[go_sem]
   rw[e6];rfl
 have d:decide (k=6)=false:=decide_eq_false e6
 refine za fun KY hKY=>?_
 simp only[go_sem,YQ,d]
 apply hKY
 refine ZD ?_
 by_cases e7:k=7
 · have d:decide (k=7)=true:=decide_eq_true e7
   refine za fun KY hKY=>?_
   simp only[go_sem,YP,d]
   apply hKY
   refine Zl ?_
   refine za fun KY hKY=>?_
   simp only[go_sem,XV]
   apply hKY
   refine zd ?_
   repeat (first|refine hr2 _ ?_|refine hr1 _ ?_)
   simp only[go_sem]
   rw[e7];rfl
 have d:decide (k=7)=false:=decide_eq_false e7
 refine za fun KY hKY=>?_
 simp only[go_sem,YP,d]
 apply hKY
 refine ZD ?_
 by_cases e8:k=8
 · have d:decide (k=8)=true:=decide_eq_true e8
   refine za fun KY hKY=>?_
   simp only[go_sem,YO,d]
   apply hKY
   refine Zl ?_
   refine za fun KY hKY=>?_
   simp only[go_sem,XU]
   apply hKY
   refine zd ?_
   repeat (first|refine hr2 _ ?_|refine hr1 _ ?_)
   simp only[go_sem]
   rw[e8];rfl
 have d:decide (k=8)=false:=decide_eq_false e8
 refine za fun KY hKY=>?_
 simp only[go_sem,YO,d]
 apply hKY
 refine ZD ?_
 by_cases e9:k=9
 · have d:decide (k=9)=true:=decide_eq_true e9
   refine za fun KY hKY=>?_
   simp only[go_sem,YN,d]
   apply hKY
   refine Zl ?_
   refine za fun KY hKY=>?_
   simp only[go_sem,XT]
   apply hKY
   refine zd ?_
   repeat (first|refine hr2 _ ?_|refine hr1 _ ?_)
   simp only[go_sem]
   rw[e9];rfl
 have d:decide (k=9)=false:=decide_eq_false e9
 refine za fun KY hKY=>?_
 simp only[go_sem,YN,d]
 apply hKY
 refine ZD ?_
 by_cases e10:k=10
 · have d:decide (k=10)=true:=decide_eq_true e10
   refine za fun KY hKY=>?_
   simp only[go_sem,YM,d]
   apply hKY
   refine Zl ?_
   refine za fun KY hKY=>?_
   simp only[go_sem,XS]
   apply hKY
   refine zd ?_
   repeat (first|refine hr2 _ ?_|refine hr1 _ ?_)
   simp only[go_sem]
   rw[e10];rfl
 have d:decide (k=10)=false:=decide_eq_false e10
 refine za fun KY hKY=>?_
 simp only[go_sem,YM,d]
 apply hKY
 refine ZD ?_
 by_cases e11:k=11
 · have d:decide (k=11)=true:=decide_eq_true e11
   refine za fun KY hKY=>?_
   simp only[go_sem,YL,d]
   apply hKY
   refine Zl ?_
   refine za fun KY hKY=>?_
   simp only[go_sem,XR]
   apply hKY
   refine zd ?_
   repeat (first|refine hr2 _ ?_|refine hr1 _ ?_)
   simp only[go_sem]
   rw[e11];rfl
 have d:decide (k=11)=false:=decide_eq_false e11
 refine za fun KY hKY=>?_
 simp only[go_sem,YL,d]
 apply hKY
 refine ZD ?_
 by_cases e12:k=12
 · have d:decide (k=12)=true:=decide_eq_true e12
   refine za fun KY hKY=>?_
   simp only[go_sem,YK,d]
   apply hKY
   refine Zl ?_
   refine za fun KY hKY=>?_
   simp only[go_sem,XQ]
   apply hKY
   refine zd ?_
   repeat (first|refine hr2 _ ?_|refine hr1 _ ?_)
   simp only[go_sem]
   rw[e12];rfl
 have d:decide (k=12)=false:=decide_eq_false e12
 refine za fun KY hKY=>?_
 simp only[go_sem,YK,d]
 apply hKY
 refine ZD ?_
 by_cases e13:k=13
 · have d:decide (k=13)=true:=decide_eq_true e13
   refine za fun KY hKY=>?_
   simp only[go_sem,YJ,d]
   apply hKY
   refine Zl ?_
   refine za fun KY hKY=>?_
   simp only[go_sem,XP]
   apply hKY
   refine zd ?_
   repeat (first|refine hr2 _ ?_|refine hr1 _ ?_)
   simp only[go_sem]
   rw[e13];rfl
 have d:decide (k=13)=false:=decide_eq_false e13
 refine za fun KY hKY=>?_
 simp only[go_sem,YJ,d]
 apply hKY
 refine ZD ?_
 by_cases e14:k=14
 · have d:decide (k=14)=true:=decide_eq_true e14
   refine za fun KY hKY=>?_
   simp only[go_sem,YI,d]
   apply hKY
   refine Zl ?_
   refine za fun KY hKY=>?_
   simp only[go_sem,XO]
   apply hKY
   refine zd ?_
   repeat (first|refine hr2 _ ?_|refine hr1 _ ?_)
   simp only[go_sem]
   rw[e14];rfl
 have d:decide (k=14)=false:=decide_eq_false e14
 refine za fun KY hKY=>?_
 simp only[go_sem,YI,d]
 apply hKY
 refine ZD ?_
 refine zi ?_
 repeat (first|refine hn2 _ ?_|refine he2 _ ?_|refine hf2 _ _ (by decide) ?_|refine hn1 _ ?_|refine he1 _ _ ?_)
 refine za fun KY hKY=>?_
 simp only[go_sem,XN]
 apply hKY
 refine zd ?_
 repeat (first|refine hr2 _ ?_|refine hr1 _ ?_)
 simp only[go_sem]
 unfold Gr QV
 rw[if_neg (by omega),if_neg (by omega)]
theorem w8 (w:List UInt8)(hl:w.length≤1000000000):zn Tryd.prog [] zcn [.sc (.string (Zt w))] [] fun r h'=>r= .sc (.int .i64 (match ZX w with|none=> -1|some n=>(n:Int)))∧h'=[]:=by
 refine zdU rfl ?_
 unfold zcW jq
 refine za fun KY hKY=>?_
 simp only[go_sem,Vh]
 apply hKY
 refine zf fun X1 hn1 he1 hr1=>?_
 rcases(show w=[]∨(w≠ []∧9<w.length)∨(w≠ []∧w.length≤9∧w.getD 0 0=48∧1<w.length)∨(w≠ []∧w.length≤9∧¬(1<w.length∧w.getD 0 0=48)) by
  by_cases h0:w=[]
  · exact .inl h0
  · by_cases h:w.getD 0 0=48
    · simp only[h,h0,and_true,true_and,ne_eq,not_false_eq_true,false_or];omega
    · simp only[h,h0,and_false,false_and,not_false_eq_true,and_true,ne_eq,true_and,false_or];omega) with h1|⟨h1,h2⟩|⟨h1,h2,h3,h4⟩|⟨h1,h2,h3⟩
 · have d1:decide (w=[])=true:=decide_eq_true h1
   have hn:ZX w=none:=if_pos (.inl (by rw[h1];decide))
   refine za fun KY hKY=>?_
   simp only[go_sem,qh,d1]
   apply hKY
   refine Zl ?_
   refine za fun KY hKY=>?_
   simp only[go_sem,Yb]
   apply hKY
   refine zd ?_
   repeat (first|refine hr1 _ ?_)
   simp only[go_sem]
   rw[hn]<;>rfl
 · have d1:decide (w=[])=false:=decide_eq_false h1
   have d2:decide (9<(w.length:Int))=true:=decide_eq_true (by omega)
   have hn:ZX w=none:=if_pos (.inr (.inl h2))
   refine za fun KY hKY=>?_
   simp only[go_sem,qh,d1,d2]
   apply hKY
   refine Zl ?_
   refine za fun KY hKY=>?_
   simp only[go_sem,Yb]
   apply hKY
   refine zd ?_
   repeat (first|refine hr1 _ ?_)
   simp only[go_sem]
   rw[hn]<;>rfl
 · have d1:decide (w=[])=false:=decide_eq_false h1
   have d2:decide (9<(w.length:Int))=false:=decide_eq_false (by omega)
   have d3:decide (1<(w.length:Int))=true:=decide_eq_true (by omega)
   have d4:decide (((w.getD 0 0).toNat:Int)=48)=true:=by rw[h3];rfl
   have hn:ZX w=none:=if_pos (.inr (.inr (.inl ⟨h4,h3⟩)))
   refine za fun KY hKY=>?_
   simp only[go_sem,qh,d1,d2,d4,d3,(show 0<w.length by omega)]
   apply hKY
   refine Zl ?_
   refine za fun KY hKY=>?_
   simp only[go_sem,Yb]
   apply hKY
   refine zd ?_
   repeat (first|refine hr1 _ ?_)
   simp only[go_sem]
   rw[hn]<;>rfl
 have hw1:1≤w.length:=List.length_pos_iff.2 h1
 have d1:decide (w=[])=false:=decide_eq_false h1
 have d2:decide (9<(w.length:Int))=false:=decide_eq_false (by omega)
 have hnn:∀b,w.all qK=b→ZX w=if b=false then none else some (val w):=fun b hb=>by
  unfold ZX
  cases b with
  |false=>rw[if_pos (.inr (.inr (.inr hb))),if_pos rfl]
  |true=>rw[if_neg (by rw[hb];rintro(h|h|h|h);omega;omega;exact h3 h;cases h),if_neg (by simp)]
 have d34:w.getD 0 0=48→decide (1<(w.length:Int))=false:=fun h=>decide_eq_false fun e=>h3 ⟨by omega,h⟩
 have hw0:0<w.length:=by omega
 refine za fun KY hKY=>?_
 apply pm
 · intro H
   by_cases h4:w.getD 0 0=48
   · have d4:decide (((w.getD 0 0).toNat:Int)=48)=true:=by rw[h4];rfl
     have d3:=d34 h4
     simp only[go_sem,qh,d1,d2,d4,d3,hw0]
     apply hKY
     repeat (first|refine hn1 _ ?_|refine he1 _ _ ?_|refine hr1 _ ?_)
     simp only[go_sem]
     exact H
   · have d4:decide (((w.getD 0 0).toNat:Int)=48)=false:=decide_eq_false fun e=>h4 (UInt8.toNat_inj.1 (Int.ofNat_inj.1 e))
     simp only[go_sem,qh,d1,d2,d4,hw0]
     apply hKY
     repeat (first|refine hn1 _ ?_|refine he1 _ _ ?_|refine hr1 _ ?_)
     simp only[go_sem]
     exact H
 refine ZD ?_
 refine zi ?_
 repeat (first|refine hn1 _ ?_|refine he1 _ _ ?_)
 refine za fun KY hKY=>?_
 simp only[go_sem,Vg]
 apply hKY
 refine zf fun X2 hn2 he2 hr2=>?_
 refine za fun KY hKY=>?_
 simp only[go_sem,Vf]
 apply hKY
 refine zr fun X3 hn3 he3 hf3 hr3=>?_
 try simp only[go_sem]
 refine ZL (α:=Nat) [25,37] (fun j=>[(3,.sc (.int .i64 ((val (w.take j):Nat):Int))),(4,.sc (.int .i64 (j:Int)))]) (fun j=>[]) (fun j q=>j≤w.length∧(w.take j).all qK=true∧q=w.length - j) (0) (w.length) rfl (by first|(simp only[go_sem,ze,zg];done)|with_reducible rfl|rfl) (⟨Nat.zero_le _,rfl,rfl⟩) ?_
 rintro j q ⟨hj,hall,rfl⟩ X4 hn4 he4 hr4
 simp only[go_sem,ze,zg]
 refine zf fun X5 hn5 he5 hr5=>?_
 rcases Nat.lt_or_ge j w.length with hj2|hj2
 · have hdx:decide ((j:Int)<(w.length:Int))=true:=decide_eq_true (by omega)
   have hx:w[j]?=some w[j]:=List.getElem?_eq_getElem hj2
   have hgd:w.getD j 0=w[j]:=by rw[List.getD_eq_getElem?_getD,hx];rfl
   have htk:w.take (j+1)=w.take j++[w[j]]:=by rw[List.take_add_one,hx];rfl
   have hda:w.all qK=true→qK w[j]=true:=fun h=>List.all_eq_true.1 h _ (List.getElem_mem hj2)
   have hlt:=(w[j]).toNat_lt
   generalize w[j]=c at hx htk hda hlt hgd
   refine za fun KY hKY=>?_
   simp only[go_sem,WR,hdx]
   apply hKY
   refine Zl ?_
   refine zi ?_
   repeat (first|refine hn5 _ ?_|refine he5 _ _ ?_|refine he4 _ _ ?_|refine hn3 _ ?_|refine he3 _ ?_|refine hf3 _ _ (by decide) ?_|refine hn2 _ ?_|refine he2 _ _ ?_|refine hn1 _ ?_|refine he1 _ _ ?_)
   refine zf fun X6 hn6 he6 hr6=>?_
   refine zr fun X7 hn7 he7 hf7 hr7=>?_
   refine zf fun X8 hn8 he8 hr8=>?_
   rcases(show c.toNat<48∨(48≤c.toNat∧57<c.toNat)∨(48≤c.toNat∧c.toNat≤57) by omega) with h6|⟨h6,h7⟩|⟨h6,h7⟩
   · have d5:decide ((c.toNat:Int)<48)=true:=decide_eq_true (by omega)
     have hn:ZX w=none:=by
      rw[hnn _ rfl,if_pos]
      cases hw:w.all qK with
      |false=>rfl
      |true=>have:=hda hw;unfold qK at this;rw[Bool.and_eq_true,decide_eq_true_iff,decide_eq_true_iff] at this;omega
     refine za fun KY hKY=>?_
     simp only[go_sem,Ya,hj2,hgd,d5]
     apply hKY
     refine Zl ?_
     refine za fun KY hKY=>?_
     simp only[go_sem,WQ]
     apply hKY
     refine zd ?_
     repeat (first|refine hr8 _ ?_|refine hr7 _ ?_|refine hr6 _ ?_|refine hr5 _ ?_|refine hr4 _ ?_|refine hr3 _ ?_|refine hr2 _ ?_|refine hr1 _ ?_)
     simp only[go_sem]
     rw[hn]<;>rfl
   · have d5:decide ((c.toNat:Int)<48)=false:=decide_eq_false (by omega)
     have d6:decide (57<(c.toNat:Int))=true:=decide_eq_true (by omega)
     have hn:ZX w=none:=by
      rw[hnn _ rfl,if_pos]
      cases hw:w.all qK with
      |false=>rfl
      |true=>have:=hda hw;unfold qK at this;rw[Bool.and_eq_true,decide_eq_true_iff,decide_eq_true_iff] at this;omega
     refine za fun KY hKY=>?_
     simp only[go_sem,Ya,hj2,hgd,d5,d6]
     apply hKY
     refine Zl ?_
     refine za fun KY hKY=>?_
     simp only[go_sem,WQ]
     apply hKY
     refine zd ?_
     repeat (first|refine hr8 _ ?_|refine hr7 _ ?_|refine hr6 _ ?_|refine hr5 _ ?_|refine hr4 _ ?_|refine hr3 _ ?_|refine hr2 _ ?_|refine hr1 _ ?_)
     simp only[go_sem]
     rw[hn]<;>rfl
   · have d5:decide ((c.toNat:Int)<48)=false:=decide_eq_false (by omega)
     have d6:decide (57<(c.toNat:Int))=false:=decide_eq_false (by omega)
     have hv:=uw _ hall
     have hp:10^(w.take j).length≤10^9:=Nat.pow_le_pow_right (by omega) (by rw[List.length_take];omega)
     have hs:val (w.take (j+1))=10*val (w.take j)+(c.toNat - 48):=by rw[htk,J8]
     have w1:IntKind.i64.wrap (10*((val (w.take j):Nat):Int))=((10*val (w.take j):Nat):Int):=by rw[IntWalk.i64_in _ (by omega)];omega
     have w2:IntKind.u8.wrap ((c.toNat:Int) - 48)=((c.toNat - 48:Nat):Int):=by
      unfold IntKind.wrap;simp[IntKind.bits,IntKind.signed];omega
     have w3:IntKind.i64.wrap ((c.toNat - 48:Nat):Int)=((c.toNat - 48:Nat):Int):=IntWalk.i64_in _ (by omega)
     have w4:IntKind.i64.wrap (((10*val (w.take j):Nat):Int)+((c.toNat - 48:Nat):Int))=((val (w.take (j+1)):Nat):Int):=by rw[IntWalk.i64_in _ (by omega),hs];omega
     refine za fun KY hKY=>?_
     simp only[go_sem,Ya,hj2,hgd,d5,d6]
     apply hKY
     refine ZD ?_
     refine zi ?_
     repeat (first|refine hn8 _ ?_|refine he8 _ _ ?_|refine hn7 _ ?_|refine he7 _ ?_|refine hf7 _ _ (by decide) ?_|refine hn6 _ ?_|refine he6 _ _ ?_|refine hn5 _ ?_|refine he5 _ _ ?_|refine he4 _ _ ?_|refine hn3 _ ?_|refine he3 _ ?_|refine hf3 _ _ (by decide) ?_|refine hn2 _ ?_|refine he2 _ _ ?_|refine hn1 _ ?_|refine he1 _ _ ?_)
     refine zt fun KY hKY=>?_
     simp only[go_sem,Ve,hj2,hgd,w1,w2,w3,w4]
     apply hKY
     repeat (first|refine hn8 _ ?_|refine he8 _ _ ?_|refine hn7 _ ?_|refine he7 _ ?_|refine hf7 _ _ (by decide) ?_|refine hn6 _ ?_|refine he6 _ _ ?_|refine hn5 _ ?_|refine he5 _ _ ?_|refine he4 _ _ ?_|refine hn3 _ ?_|refine he3 _ ?_|refine hf3 _ _ (by decide) ?_|refine hn2 _ ?_|refine he2 _ _ ?_|refine hn1 _ ?_|refine he1 _ _ ?_)
     refine zt fun KY hKY=>?_
     simp only[go_sem,Vd,JN (show j<4611686018427387904 by omega)]
     apply hKY
     repeat (first|refine hn8 _ ?_|refine he8 _ _ ?_|refine hn7 _ ?_|refine he7 _ ?_|refine hf7 _ _ (by decide) ?_|refine hn6 _ ?_|refine he6 _ _ ?_|refine hn5 _ ?_|refine he5 _ _ ?_)
     refine hn4 _ (j+1) (w.length - (j+1)) (by omega) (by first|(simp only[go_sem,ze,zg];done)|with_reducible rfl) ?_
     refine⟨hj2,?_,rfl⟩
     rw[htk,List.all_append,hall]
     unfold qK;simp;omega
 have hdx:decide ((j:Int)<(w.length:Int))=false:=decide_eq_false (by omega)
 obtain rfl:j=w.length:=by omega
 rw[List.take_length] at hall
 have hn:ZX w=some (val w):=by rw[hnn _ hall];rfl
 refine za fun KY hKY=>?_
 simp only[go_sem,WR,hdx]
 apply hKY
 refine ZD ?_
 refine zS ?_
 repeat (first|refine hn5 _ ?_|refine he5 _ _ ?_|refine he4 _ _ ?_|refine hn3 _ ?_|refine he3 _ ?_|refine hf3 _ _ (by decide) ?_|refine hn2 _ ?_|refine he2 _ _ ?_|refine hn1 _ ?_|refine he1 _ _ ?_)
 rw[List.take_length]
 refine za fun KY hKY=>?_
 simp only[go_sem,XM]
 apply hKY
 refine zd ?_
 repeat (first|refine hr5 _ ?_|refine hr4 _ ?_|refine hr3 _ ?_|refine hr2 _ ?_|refine hr1 _ ?_)
 simp only[go_sem]
 rw[hn]
theorem yk {n:Int}(h:QP n=true):zn Tryd.prog [] Xq [.sc (.int .i64 n)] [] fun r h'=>r= .sc (.string (Zt (Zw n.toNat)))∧h'=[]:=by
 obtain⟨h0,h1⟩:=Jr.1 h
 obtain⟨m,rfl⟩:=Int.eq_ofNat_of_zero_le h0
 exact pF m (by omega)
theorem uX {n:Int}(h:QP n=true):(Zw n.toNat).length≤19:=by
 have:=Jr.1 h
 exact(Qr n.toNat 18).2 (by omega)
theorem Ys (k a b:Int)(l:List Int)(hl:l.length≤1000000000):zn Tryd.prog [] zcA [.agg (gr k a b l)] [] fun r h'=>r= .tup [.sc (.string (Zt (Zp k a b l).1)),.sc (.int .i64 (Zp k a b l).2)]∧h'=[]:=by
 have hW:=Xg k
 have hMa:=K4 a
 have hMb:=K4 b
 have hcc:=fun h=> @u4 k h
 have hwn:=fun h=> @zfa k h
 have hwe:¬(1≤k∧k≤14)→Gr k=[]:=fun h=>if_neg h
 have hwl:(Gr k).length≤8:=by
  unfold Gr
  split
  · exact(Ju k.toNat (by omega)).2.1
  · simp
 have h6:k=6→QV k=1:=fun e=>by rw[e];exact zax
 have hgood:= @gg k a b l
 have hbadp:= @og k a b l
 unfold zb2 at hgood hbadp
 generalize Zp k a b l=R at hgood hbadp
 generalize Gr k=w at hW hwn hwe hgood hwl
 generalize QV k=n at hW hcc h6 hgood hbadp
 unfold gr
 refine zd9 rfl ?_
 unfold zde Zs
 refine za fun KY hKY=>?_
 simp only[go_sem,kz]
 apply hKY
 refine za fun KY hKY=>?_
 simp only[go_sem,ky]
 refine zh rfl (by simp only[go_sem]<;>rfl) ((hW).mono ?_)
 rintro rr hh ⟨rfl,rfl⟩
 refine⟨rfl,rfl,rfl,?_⟩
 simp only[go_sem]
 apply hKY
 refine zf fun X1 hn1 he1 hr1=>?_
 have dk:∀{p q:Prop} [Decidable p] [Decidable q],(p↔q)→decide p=decide q:=fun h=>decide_eq_decide.2 h
 by_cases hk:1≤k∧k≤14
 · have d0 : decide (w=[])=false:=decide_eq_false (hwn hk)
   by_cases ha:QP a=true
   · by_cases hb :QP b=true
     · have hn :=hcc hk
       clear hwn hwe hcc dk
       rw[ha] at hMa
       rw[hb] at hMb
       have dB:b≠0→decide (b≠0)=true:=fun h=>decide_eq_true h
       have dB0:b=0→decide (b≠0)=false:=fun h=>decide_eq_false fun e=>e h
       have dA:a≠0→decide (a≠0)=true:=fun h=>decide_eq_true h
       have dA0:a=0→decide (a≠0)=false:=fun h=>decide_eq_false fun e=>e h
       have dL:l≠ []→decide (0<(l.length:Int))=true:=fun h=>decide_eq_true (by have:=List.length_pos_iff.2 h;omega)
       have dL0:l=[]→decide (0<(l.length:Int))=false:=fun h=>decide_eq_false (by rw[h];decide)
       by_cases hbad:(n<2∧b≠0)∨(n<1∧a≠0)∨(0≤n∧l≠ [])∨(k=6∧a≠1∧a≠2)
       · have hres:=hbadp (.inr (.inr (.inr hbad)))
         rcases hn with rfl|rfl|rfl|rfl
         · by_cases hb0:b=0
           · by_cases ha0:a=0
             · exfalso
               rcases hbad with h|h|h|h
               · exact h.2 hb0
               · exact h.2 ha0
               · omega
               · exact absurd (h6 h.1) (by decide)
             · refine za fun KY hKY=>?_
               simp only[go_sem,Zj,d0,zm,dB0 hb0,dA ha0]
               refine zh rfl (by simp only[go_sem]<;>rfl) ((hMa).mono ?_)
               rintro rr hh ⟨rfl,rfl⟩
               refine⟨rfl,rfl,rfl,?_⟩
               simp only[go_sem,d0,zm,dB0 hb0,dA ha0]
               refine zh rfl (by simp only[go_sem]<;>rfl) ((hMb).mono ?_)
               rintro rr hh ⟨rfl,rfl⟩
               refine⟨rfl,rfl,rfl,?_⟩
               simp only[go_sem,d0,zm,dB0 hb0,dA ha0]
               apply hKY
               refine Zl ?_
               refine za fun KY hKY=>?_
               simp only[go_sem,ZO]
               apply hKY
               refine zd ?_
               repeat (first|refine hr1 _ ?_)
               simp only[go_sem]
               rw[hres]
           · refine za fun KY hKY=>?_
             simp only[go_sem,Zj,d0,zm,dB hb0]
             refine zh rfl (by simp only[go_sem]<;>rfl) ((hMa).mono ?_)
             rintro rr hh ⟨rfl,rfl⟩
             refine⟨rfl,rfl,rfl,?_⟩
             simp only[go_sem,d0,zm,dB hb0]
             refine zh rfl (by simp only[go_sem]<;>rfl) ((hMb).mono ?_)
             rintro rr hh ⟨rfl,rfl⟩
             refine⟨rfl,rfl,rfl,?_⟩
             simp only[go_sem,d0,zm,dB hb0]
             apply hKY
             refine Zl ?_
             refine za fun KY hKY=>?_
             simp only[go_sem,ZO]
             apply hKY
             refine zd ?_
             repeat (first|refine hr1 _ ?_)
             simp only[go_sem]
             rw[hres]
         · by_cases hb0:b=0
           · by_cases ha0:a=0
             · by_cases hl0:l=[]
               · exfalso
                 rcases hbad with h|h|h|h
                 · exact h.2 hb0
                 · exact h.2 ha0
                 · exact h.2 hl0
                 · exact absurd (h6 h.1) (by decide)
               · refine za fun KY hKY=>?_
                 simp only[go_sem,Zj,d0,zm,dB0 hb0,dA0 ha0,dL hl0]
                 refine zh rfl (by simp only[go_sem]<;>rfl) ((hMa).mono ?_)
                 rintro rr hh ⟨rfl,rfl⟩
                 refine⟨rfl,rfl,rfl,?_⟩
                 simp only[go_sem,d0,zm,dB0 hb0,dA0 ha0,dL hl0]
                 refine zh rfl (by simp only[go_sem]<;>rfl) ((hMb).mono ?_)
                 rintro rr hh ⟨rfl,rfl⟩
                 refine⟨rfl,rfl,rfl,?_⟩
                 simp only[go_sem,d0,zm,dB0 hb0,dA0 ha0,dL hl0]
                 apply hKY
                 refine Zl ?_
                 refine za fun KY hKY=>?_
                 simp only[go_sem,ZO]
                 apply hKY
                 refine zd ?_
                 repeat (first|refine hr1 _ ?_)
                 simp only[go_sem]
                 rw[hres]
             · refine za fun KY hKY=>?_
               simp only[go_sem,Zj,d0,zm,dB0 hb0,dA ha0]
               refine zh rfl (by simp only[go_sem]<;>rfl) ((hMa).mono ?_)
               rintro rr hh ⟨rfl,rfl⟩
               refine⟨rfl,rfl,rfl,?_⟩
               simp only[go_sem,d0,zm,dB0 hb0,dA ha0]
               refine zh rfl (by simp only[go_sem]<;>rfl) ((hMb).mono ?_)
               rintro rr hh ⟨rfl,rfl⟩
               refine⟨rfl,rfl,rfl,?_⟩
               simp only[go_sem,d0,zm,dB0 hb0,dA ha0]
               apply hKY
               refine Zl ?_
               refine za fun KY hKY=>?_
               simp only[go_sem,ZO]
               apply hKY
               refine zd ?_
               repeat (first|refine hr1 _ ?_)
               simp only[go_sem]
               rw[hres]
           · refine za fun KY hKY=>?_
             simp only[go_sem,Zj,d0,zm,dB hb0]
             refine zh rfl (by simp only[go_sem]<;>rfl) ((hMa).mono ?_)
             rintro rr hh ⟨rfl,rfl⟩
             refine⟨rfl,rfl,rfl,?_⟩
             simp only[go_sem,d0,zm,dB hb0]
             refine zh rfl (by simp only[go_sem]<;>rfl) ((hMb).mono ?_)
             rintro rr hh ⟨rfl,rfl⟩
             refine⟨rfl,rfl,rfl,?_⟩
             simp only[go_sem,d0,zm,dB hb0]
             apply hKY
             refine Zl ?_
             refine za fun KY hKY=>?_
             simp only[go_sem,ZO]
             apply hKY
             refine zd ?_
             repeat (first|refine hr1 _ ?_)
             simp only[go_sem]
             rw[hres]
         · by_cases hb0:b=0
           · by_cases hl0:l=[]
             · rcases hbad with h|h|h|h
               · exact absurd hb0 h.2
               · exact absurd h.1 (by decide)
               · exact absurd hl0 h.2
               · refine za fun KY hKY=>?_
                 simp only[go_sem,Zj,d0,zm,dB0 hb0,dL0 hl0,decide_eq_true h.1,decide_eq_true h.2.1,decide_eq_true h.2.2]
                 refine zh rfl (by simp only[go_sem]<;>rfl) ((hMa).mono ?_)
                 rintro rr hh ⟨rfl,rfl⟩
                 refine⟨rfl,rfl,rfl,?_⟩
                 simp only[go_sem,d0,zm,dB0 hb0,dL0 hl0,decide_eq_true h.1,decide_eq_true h.2.1,decide_eq_true h.2.2]
                 refine zh rfl (by simp only[go_sem]<;>rfl) ((hMb).mono ?_)
                 rintro rr hh ⟨rfl,rfl⟩
                 refine⟨rfl,rfl,rfl,?_⟩
                 simp only[go_sem,d0,zm,dB0 hb0,dL0 hl0,decide_eq_true h.1,decide_eq_true h.2.1,decide_eq_true h.2.2]
                 apply hKY
                 refine Zl ?_
                 refine za fun KY hKY=>?_
                 simp only[go_sem,ZO]
                 apply hKY
                 refine zd ?_
                 repeat (first|refine hr1 _ ?_)
                 simp only[go_sem]
                 rw[hres]
             · refine za fun KY hKY=>?_
               simp only[go_sem,Zj,d0,zm,dB0 hb0,dL hl0]
               refine zh rfl (by simp only[go_sem]<;>rfl) ((hMa).mono ?_)
               rintro rr hh ⟨rfl,rfl⟩
               refine⟨rfl,rfl,rfl,?_⟩
               simp only[go_sem,d0,zm,dB0 hb0,dL hl0]
               refine zh rfl (by simp only[go_sem]<;>rfl) ((hMb).mono ?_)
               rintro rr hh ⟨rfl,rfl⟩
               refine⟨rfl,rfl,rfl,?_⟩
               simp only[go_sem,d0,zm,dB0 hb0,dL hl0]
               apply hKY
               refine Zl ?_
               refine za fun KY hKY=>?_
               simp only[go_sem,ZO]
               apply hKY
               refine zd ?_
               repeat (first|refine hr1 _ ?_)
               simp only[go_sem]
               rw[hres]
           · refine za fun KY hKY=>?_
             simp only[go_sem,Zj,d0,zm,dB hb0]
             refine zh rfl (by simp only[go_sem]<;>rfl) ((hMa).mono ?_)
             rintro rr hh ⟨rfl,rfl⟩
             refine⟨rfl,rfl,rfl,?_⟩
             simp only[go_sem,d0,zm,dB hb0]
             refine zh rfl (by simp only[go_sem]<;>rfl) ((hMb).mono ?_)
             rintro rr hh ⟨rfl,rfl⟩
             refine⟨rfl,rfl,rfl,?_⟩
             simp only[go_sem,d0,zm,dB hb0]
             apply hKY
             refine Zl ?_
             refine za fun KY hKY=>?_
             simp only[go_sem,ZO]
             apply hKY
             refine zd ?_
             repeat (first|refine hr1 _ ?_)
             simp only[go_sem]
             rw[hres]
         · by_cases hl0:l=[]
           · exfalso
             rcases hbad with h|h|h|h
             · exact absurd h.1 (by decide)
             · exact absurd h.1 (by decide)
             · exact h.2 hl0
             · exact absurd (h6 h.1) (by decide)
           · refine za fun KY hKY=>?_
             simp only[go_sem,Zj,d0,zm,dL hl0]
             refine zh rfl (by simp only[go_sem]<;>rfl) ((hMa).mono ?_)
             rintro rr hh ⟨rfl,rfl⟩
             refine⟨rfl,rfl,rfl,?_⟩
             simp only[go_sem,d0,zm,dL hl0]
             refine zh rfl (by simp only[go_sem]<;>rfl) ((hMb).mono ?_)
             rintro rr hh ⟨rfl,rfl⟩
             refine⟨rfl,rfl,rfl,?_⟩
             simp only[go_sem,d0,zm,dL hl0]
             apply hKY
             refine Zl ?_
             refine za fun KY hKY=>?_
             simp only[go_sem,ZO]
             apply hKY
             refine zd ?_
             repeat (first|refine hr1 _ ?_)
             simp only[go_sem]
             rw[hres]
       · have hgd:=hgood (fun h=>by
          rcases h with h|h|h|h
          · exact h hk
          · rw[ha] at h;cases h
          · rw[hb] at h;cases h
          · exact hbad h)
         have dk6:k≠6→decide (k=6)=false:=fun h=>decide_eq_false h
         have dk7:k=6→decide (k=6)=true:=fun h=>decide_eq_true h
         have da1:a=1→decide (a≠1)=false:=fun h=>decide_eq_false fun e=>e h
         have da2:a≠1→decide (a≠1)=true:=fun h=>decide_eq_true h
         have da3:a=2→decide (a≠2)=false:=fun h=>decide_eq_false fun e=>e h
         have h66:QV 6=1:=zax
         have z1:n<2→b=0:=fun h=>Classical.byContradiction fun e=>hbad (.inl ⟨h,e⟩)
         have z2:n<1→a=0:=fun h=>Classical.byContradiction fun e=>hbad (.inr (.inl ⟨h,e⟩))
         have z3:0≤n→l=[]:=fun h=>Classical.byContradiction fun e=>hbad (.inr (.inr (.inl ⟨h,e⟩)))
         have z4:k=6→a≠1→a=2:=fun h h2=>Classical.byContradiction fun e=>hbad (.inr (.inr (.inr ⟨h,h2,e⟩)))
         have q2:n<2→decide (n<2)=true:=fun h=>decide_eq_true h
         have q2f:¬n<2→decide (n<2)=false:=fun h=>decide_eq_false h
         have q1:n<1→decide (n<1)=true:=fun h=>decide_eq_true h
         have q1f:¬n<1→decide (n<1)=false:=fun h=>decide_eq_false h
         have q0:0≤n→decide (0≤n)=true:=fun h=>decide_eq_true h
         have q0f:¬0≤n→decide (0≤n)=false:=fun h=>decide_eq_false h
         refine za fun KY hKY=>?_
         apply pm
         · intro H
           rcases hn with hn|hn|hn|hn
           · have hk6:k≠6:=fun e=>absurd ((h6 e).symm.trans hn) (by decide)
             simp only[go_sem,Zj,d0,zm,q2 (by rw[hn];decide),q1 (by rw[hn];decide),q0f (by rw[hn];decide),dB0 (z1 (by rw[hn];decide)),dA0 (z2 (by rw[hn];decide)),dk6 hk6]
             refine zh rfl (by simp only[go_sem]<;>rfl) ((hMa).mono ?_)
             rintro rr hh ⟨rfl,rfl⟩
             refine⟨rfl,rfl,rfl,?_⟩
             simp only[go_sem,d0,zm,q2 (by rw[hn];decide),q1 (by rw[hn];decide),q0f (by rw[hn];decide),dB0 (z1 (by rw[hn];decide)),dA0 (z2 (by rw[hn];decide)),dk6 hk6]
             refine zh rfl (by simp only[go_sem]<;>rfl) ((hMb).mono ?_)
             rintro rr hh ⟨rfl,rfl⟩
             refine⟨rfl,rfl,rfl,?_⟩
             simp only[go_sem,d0,zm,q2 (by rw[hn];decide),q1 (by rw[hn];decide),q0f (by rw[hn];decide),dB0 (z1 (by rw[hn];decide)),dA0 (z2 (by rw[hn];decide)),dk6 hk6]
             apply hKY
             repeat (first|refine hn1 _ ?_|refine he1 _ _ ?_|refine hr1 _ ?_)
             simp only[go_sem]
             exact H
           · have hk6:k≠6:=fun e=>absurd ((h6 e).symm.trans hn) (by decide)
             simp only[go_sem,Zj,d0,zm,q2 (by rw[hn];decide),q1 (by rw[hn];decide),q0 (by rw[hn];decide),dB0 (z1 (by rw[hn];decide)),dA0 (z2 (by rw[hn];decide)),dL0 (z3 (by rw[hn];decide)),dk6 hk6]
             refine zh rfl (by simp only[go_sem]<;>rfl) ((hMa).mono ?_)
             rintro rr hh ⟨rfl,rfl⟩
             refine⟨rfl,rfl,rfl,?_⟩
             simp only[go_sem,d0,zm,q2 (by rw[hn];decide),q1 (by rw[hn];decide),q0 (by rw[hn];decide),dB0 (z1 (by rw[hn];decide)),dA0 (z2 (by rw[hn];decide)),dL0 (z3 (by rw[hn];decide)),dk6 hk6]
             refine zh rfl (by simp only[go_sem]<;>rfl) ((hMb).mono ?_)
             rintro rr hh ⟨rfl,rfl⟩
             refine⟨rfl,rfl,rfl,?_⟩
             simp only[go_sem,d0,zm,q2 (by rw[hn];decide),q1 (by rw[hn];decide),q0 (by rw[hn];decide),dB0 (z1 (by rw[hn];decide)),dA0 (z2 (by rw[hn];decide)),dL0 (z3 (by rw[hn];decide)),dk6 hk6]
             apply hKY
             repeat (first|refine hn1 _ ?_|refine he1 _ _ ?_|refine hr1 _ ?_)
             simp only[go_sem]
             exact H
           · have f2:=q2 (by rw[hn];decide)
             have f1:=q1f (by rw[hn];decide)
             have f0:=q0 (by rw[hn];decide)
             have f3:=dB0 (z1 (by rw[hn];decide))
             have f4:=dL0 (z3 (by rw[hn];decide))
             by_cases hk6:k=6
             · by_cases ha1:a=1
               · simp only[go_sem,Zj,d0,zm,f2,f1,f0,f3,f4,dk7 hk6,da1 ha1]
                 refine zh rfl (by simp only[go_sem]<;>rfl) ((hMa).mono ?_)
                 rintro rr hh ⟨rfl,rfl⟩
                 refine⟨rfl,rfl,rfl,?_⟩
                 simp only[go_sem,d0,zm,f2,f1,f0,f3,f4,dk7 hk6,da1 ha1]
                 refine zh rfl (by simp only[go_sem]<;>rfl) ((hMb).mono ?_)
                 rintro rr hh ⟨rfl,rfl⟩
                 refine⟨rfl,rfl,rfl,?_⟩
                 simp only[go_sem,d0,zm,f2,f1,f0,f3,f4,dk7 hk6,da1 ha1]
                 apply hKY
                 repeat (first|refine hn1 _ ?_|refine he1 _ _ ?_|refine hr1 _ ?_)
                 simp only[go_sem]
                 exact H
               · simp only[go_sem,Zj,d0,zm,f2,f1,f0,f3,f4,dk7 hk6,da2 ha1,da3 (z4 hk6 ha1)]
                 refine zh rfl (by simp only[go_sem]<;>rfl) ((hMa).mono ?_)
                 rintro rr hh ⟨rfl,rfl⟩
                 refine⟨rfl,rfl,rfl,?_⟩
                 simp only[go_sem,d0,zm,f2,f1,f0,f3,f4,dk7 hk6,da2 ha1,da3 (z4 hk6 ha1)]
                 refine zh rfl (by simp only[go_sem]<;>rfl) ((hMb).mono ?_)
                 rintro rr hh ⟨rfl,rfl⟩
                 refine⟨rfl,rfl,rfl,?_⟩
                 simp only[go_sem,d0,zm,f2,f1,f0,f3,f4,dk7 hk6,da2 ha1,da3 (z4 hk6 ha1)]
                 apply hKY
                 repeat (first|refine hn1 _ ?_|refine he1 _ _ ?_|refine hr1 _ ?_)
                 simp only[go_sem]
                 exact H
             · simp only[go_sem,Zj,d0,zm,f2,f1,f0,f3,f4,dk6 hk6]
               refine zh rfl (by simp only[go_sem]<;>rfl) ((hMa).mono ?_)
               rintro rr hh ⟨rfl,rfl⟩
               refine⟨rfl,rfl,rfl,?_⟩
               simp only[go_sem,d0,zm,f2,f1,f0,f3,f4,dk6 hk6]
               refine zh rfl (by simp only[go_sem]<;>rfl) ((hMb).mono ?_)
               rintro rr hh ⟨rfl,rfl⟩
               refine⟨rfl,rfl,rfl,?_⟩
               simp only[go_sem,d0,zm,f2,f1,f0,f3,f4,dk6 hk6]
               apply hKY
               repeat (first|refine hn1 _ ?_|refine he1 _ _ ?_|refine hr1 _ ?_)
               simp only[go_sem]
               exact H
           · have hk6:k≠6:=fun e=>absurd ((h6 e).symm.trans hn) (by decide)
             simp only[go_sem,Zj,d0,zm,q2f (by rw[hn];decide),q1f (by rw[hn];decide),q0 (by rw[hn];decide),dL0 (z3 (by rw[hn];decide)),dk6 hk6]
             refine zh rfl (by simp only[go_sem]<;>rfl) ((hMa).mono ?_)
             rintro rr hh ⟨rfl,rfl⟩
             refine⟨rfl,rfl,rfl,?_⟩
             simp only[go_sem,d0,zm,q2f (by rw[hn];decide),q1f (by rw[hn];decide),q0 (by rw[hn];decide),dL0 (z3 (by rw[hn];decide)),dk6 hk6]
             refine zh rfl (by simp only[go_sem]<;>rfl) ((hMb).mono ?_)
             rintro rr hh ⟨rfl,rfl⟩
             refine⟨rfl,rfl,rfl,?_⟩
             simp only[go_sem,d0,zm,q2f (by rw[hn];decide),q1f (by rw[hn];decide),q0 (by rw[hn];decide),dL0 (z3 (by rw[hn];decide)),dk6 hk6]
             apply hKY
             repeat (first|refine hn1 _ ?_|refine he1 _ _ ?_|refine hr1 _ ?_)
             simp only[go_sem]
             exact H
         refine ZD ?_
         refine zi ?_
         repeat (first|refine hn1 _ ?_|refine he1 _ _ ?_)
         refine zf fun X2 hn2 he2 hr2=>?_
         refine za fun KY hKY=>?_
         simp only[go_sem,kx]
         apply hKY
         refine zr fun X3 hn3 he3 hf3 hr3=>?_
         try simp only[go_sem]
         refine ZL (α:=Nat) [75,84] (fun i=>[(6,.sc (.int .i64 (i:Int)))]) (fun i=>[]) (fun i q=>i≤l.length∧(l.take i).all QP=true∧q=l.length - i) (0) (l.length) rfl (by first|(simp only[go_sem,ze,zg];done)|with_reducible rfl|rfl) (⟨Nat.zero_le _,rfl,rfl⟩) ?_
         rintro i q ⟨hi,hall,rfl⟩ X4 hn4 he4 hr4
         simp only[go_sem,ze,zg]
         refine zf fun X5 hn5 he5 hr5=>?_
         rcases Nat.lt_or_ge i l.length with hi2|hi2
         · have hdx:decide ((i:Int)<(l.length:Int))=true:=decide_eq_true (by omega)
           have hx:l[i]?=some l[i]:=List.getElem?_eq_getElem hi2
           have htk:l.take (i+1)=l.take i++[l[i]]:=by rw[List.take_add_one,hx];rfl
           have hmem:l[i]∈l:=List.getElem_mem hi2
           generalize l[i]=x at hx htk hmem
           have hg:=QN hx
           have hMx:=K4 x
           refine za fun KY hKY=>?_
           simp only[go_sem,xf,zm,hdx]
           apply hKY
           refine Zl ?_
           refine zi ?_
           repeat (first|refine hn5 _ ?_|refine he5 _ _ ?_|refine he4 _ _ ?_|refine hn3 _ ?_|refine he3 _ ?_|refine hf3 _ _ (by decide) ?_|refine hn2 _ ?_|refine he2 _ _ ?_|refine hn1 _ ?_|refine he1 _ _ ?_)
           refine zf fun X6 hn6 he6 hr6=>?_
           refine zr fun X7 hn7 he7 hf7 hr7=>?_
           refine za fun KY hKY=>?_
           simp only[go_sem,kw,hg,zm,hi2,(show i+1≤l.length by omega)]
           refine zh rfl (by simp only[go_sem]<;>rfl) ((hMx).mono ?_)
           rintro rr hh ⟨rfl,rfl⟩
           refine⟨rfl,rfl,rfl,?_⟩
           cases hxN:QP x with
           | false=>
             have hres:=hgd.trans (if_neg fun e=>by have:=List.all_eq_true.1 e.1 x hmem;rw[hxN] at this;cases this)
             simp only[go_sem,hxN]
             apply hKY
             refine Zl ?_
             refine za fun KY hKY=>?_
             simp only[go_sem,ku]
             apply hKY
             refine zd ?_
             repeat (first|refine hr7 _ ?_|refine hr6 _ ?_|refine hr5 _ ?_|refine hr4 _ ?_|refine hr3 _ ?_|refine hr2 _ ?_|refine hr1 _ ?_)
             simp only[go_sem]
             rw[hres]
           | true=>
             simp only[go_sem,hxN]
             apply hKY
             refine ZD ?_
             refine zi ?_
             repeat (first|refine hn7 _ ?_|refine he7 _ ?_|refine hf7 _ _ (by decide) ?_|refine hn6 _ ?_|refine he6 _ _ ?_|refine hn5 _ ?_|refine he5 _ _ ?_|refine he4 _ _ ?_|refine hn3 _ ?_|refine he3 _ ?_|refine hf3 _ _ (by decide) ?_|refine hn2 _ ?_|refine he2 _ _ ?_|refine hn1 _ ?_|refine he1 _ _ ?_)
             refine zt fun KY hKY=>?_
             simp only[go_sem,kr,JN (show i<4611686018427387904 by omega)]
             apply hKY
             repeat (first|refine hn7 _ ?_|refine he7 _ ?_|refine hf7 _ _ (by decide) ?_|refine hn6 _ ?_|refine he6 _ _ ?_|refine hn5 _ ?_|refine he5 _ _ ?_)
             refine hn4 _ (i+1) (l.length - (i+1)) (by omega) (by first|(simp only[go_sem,ze,zg];done)|with_reducible rfl) ?_
             exact⟨hi2,by rw[htk,List.all_append,hall,List.all_cons,hxN];rfl,rfl⟩
         have hdx:decide ((i:Int)<(l.length:Int))=false:=decide_eq_false (by omega)
         obtain rfl:i=l.length:=by omega
         rw[List.take_length] at hall
         refine za fun KY hKY=>?_
         simp only[go_sem,xf,zm,hdx]
         apply hKY
         refine ZD ?_
         refine zS ?_
         repeat (first|refine hn5 _ ?_|refine he5 _ _ ?_|refine he4 _ _ ?_|refine hn3 _ ?_|refine he3 _ ?_|refine hf3 _ _ (by decide) ?_|refine hn2 _ ?_|refine he2 _ _ ?_|refine hn1 _ ?_|refine he1 _ _ ?_)
         obtain⟨t0,ht0⟩:∃t0,t0=tx w ([a,b].take n.toNat):=⟨_,rfl⟩
         have p1:0≤n→decide (n≥1)=decide (1≤n):=fun _=>rfl
         have q3:1≤n→decide (n≥1)=true:=fun h=>decide_eq_true h
         have q3f:¬1≤n→decide (n≥1)=false:=fun h=>decide_eq_false h
         have q4:n=2→decide (n=2)=true:=fun h=>decide_eq_true h
         have q4f:n≠2→decide (n=2)=false:=fun h=>decide_eq_false h
         have hDa:=yk ha
         have hDb:=yk hb
         have hla:=uX ha
         have hlb:=uX hb
         have a1:jo .add (Zt w) (Zt [32])=_:=qz (by simp;omega)
         have a2:jo .add (Zt (w++[32])) (Zt (Zw a.toNat))=_:=qz (by simp;omega)
         have a3:jo .add (Zt (w++[32]++Zw a.toNat)) (Zt [32])=_:=qz (by simp;omega)
         have a4:jo .add (Zt (w++[32]++Zw a.toNat++[32])) (Zt (Zw b.toNat))=_:=qz (by simp;omega)
         have ht0l:t0.length≤65536:=by
          rw[ht0]
          have h3:=uz w [a,b] n.toNat
          have h4:(tx w [a,b]).length≤48:=by simp[tx];omega
          omega
         apply(pm ?_ ?_)
         rotate_left 1
         · intro H
           rcases hn with hn|hn|hn|hn
           · have e0:w=t0:=by rw[ht0,hn];exact(q9 w).symm
             have f3:=q3f (by rw[hn];decide)
             have f4:=q4f (by rw[hn];decide)
             refine zf fun X8 hn8 he8 hr8=>?_
             refine za fun KY hKY=>?_
             simp only[go_sem,Qy,f3]
             apply hKY
             refine ZD ?_
             refine zi ?_
             repeat (first|refine hn8 _ ?_|refine he8 _ _ ?_|refine hn5 _ ?_|refine he5 _ _ ?_|refine he4 _ _ ?_|refine hn3 _ ?_|refine he3 _ ?_|refine hf3 _ _ (by decide) ?_|refine hn2 _ ?_|refine he2 _ _ ?_|refine hn1 _ ?_|refine he1 _ _ ?_)
             refine zf fun X9 hn9 he9 hr9=>?_
             refine za fun KY hKY=>?_
             simp only[go_sem,qj,f4]
             apply hKY
             refine ZD ?_
             refine zi ?_
             repeat (first|refine hn9 _ ?_|refine he9 _ _ ?_|refine hn8 _ ?_|refine he8 _ _ ?_|refine hn5 _ ?_|refine he5 _ _ ?_|refine he4 _ _ ?_|refine hn3 _ ?_|refine he3 _ ?_|refine hf3 _ _ (by decide) ?_|refine hn2 _ ?_|refine he2 _ _ ?_|refine hn1 _ ?_|refine he1 _ _ ?_)
             simp only[go_sem]
             refine jb [86,94] rfl ?_
             simp only[go_sem]
             rw[e0]
             exact H
           · have e0:w=t0:=by rw[ht0,hn];exact(q9 w).symm
             have f3:=q3f (by rw[hn];decide)
             have f4:=q4f (by rw[hn];decide)
             refine zf fun X10 hn10 he10 hr10=>?_
             refine za fun KY hKY=>?_
             simp only[go_sem,Qy,f3]
             apply hKY
             refine ZD ?_
             refine zi ?_
             repeat (first|refine hn10 _ ?_|refine he10 _ _ ?_|refine hn5 _ ?_|refine he5 _ _ ?_|refine he4 _ _ ?_|refine hn3 _ ?_|refine he3 _ ?_|refine hf3 _ _ (by decide) ?_|refine hn2 _ ?_|refine he2 _ _ ?_|refine hn1 _ ?_|refine he1 _ _ ?_)
             refine zf fun X11 hn11 he11 hr11=>?_
             refine za fun KY hKY=>?_
             simp only[go_sem,qj,f4]
             apply hKY
             refine ZD ?_
             refine zi ?_
             repeat (first|refine hn11 _ ?_|refine he11 _ _ ?_|refine hn10 _ ?_|refine he10 _ _ ?_|refine hn5 _ ?_|refine he5 _ _ ?_|refine he4 _ _ ?_|refine hn3 _ ?_|refine he3 _ ?_|refine hf3 _ _ (by decide) ?_|refine hn2 _ ?_|refine he2 _ _ ?_|refine hn1 _ ?_|refine he1 _ _ ?_)
             simp only[go_sem]
             refine jb [86,94] rfl ?_
             simp only[go_sem]
             rw[e0]
             exact H
           · have e0:w++[32]++Zw a.toNat=t0:=by rw[ht0,hn];simp[tx]
             have f3:=q3 (by rw[hn];decide)
             have f4:=q4f (by rw[hn];decide)
             refine zf fun X12 hn12 he12 hr12=>?_
             refine za fun KY hKY=>?_
             simp only[go_sem,Qy,f3]
             apply hKY
             refine Zl ?_
             refine zt fun KY hKY=>?_
             simp only[go_sem,YY,a1]
             refine zh rfl (by simp only[go_sem]<;>rfl) ((hDa).mono ?_)
             rintro rr hh ⟨rfl,rfl⟩
             refine⟨rfl,rfl,rfl,?_⟩
             simp only[go_sem,a2]
             apply hKY
             repeat (first|refine hn12 _ ?_|refine he12 _ _ ?_|refine hn5 _ ?_|refine he5 _ _ ?_|refine he4 _ _ ?_|refine hn3 _ ?_|refine he3 _ ?_|refine hf3 _ _ (by decide) ?_|refine hn2 _ ?_|refine he2 _ _ ?_|refine hn1 _ ?_|refine he1 _ _ ?_)
             refine zf fun X13 hn13 he13 hr13=>?_
             refine za fun KY hKY=>?_
             simp only[go_sem,qj,f4]
             apply hKY
             refine ZD ?_
             refine zi ?_
             repeat (first|refine hn13 _ ?_|refine he13 _ _ ?_|refine hn12 _ ?_|refine he12 _ _ ?_|refine hn5 _ ?_|refine he5 _ _ ?_|refine he4 _ _ ?_|refine hn3 _ ?_|refine he3 _ ?_|refine hf3 _ _ (by decide) ?_|refine hn2 _ ?_|refine he2 _ _ ?_|refine hn1 _ ?_|refine he1 _ _ ?_)
             simp only[go_sem]
             refine jb [86,94] rfl ?_
             simp only[go_sem]
             rw[e0]
             exact H
           · have e0:w++[32]++Zw a.toNat++[32]++Zw b.toNat=t0:=by rw[ht0,hn];simp[tx]
             have f3:=q3 (by rw[hn];decide)
             have f4:=q4 hn
             refine zf fun X14 hn14 he14 hr14=>?_
             refine za fun KY hKY=>?_
             simp only[go_sem,Qy,f3]
             apply hKY
             refine Zl ?_
             refine zt fun KY hKY=>?_
             simp only[go_sem,YY,a1]
             refine zh rfl (by simp only[go_sem]<;>rfl) ((hDa).mono ?_)
             rintro rr hh ⟨rfl,rfl⟩
             refine⟨rfl,rfl,rfl,?_⟩
             simp only[go_sem,a2]
             apply hKY
             repeat (first|refine hn14 _ ?_|refine he14 _ _ ?_|refine hn5 _ ?_|refine he5 _ _ ?_|refine he4 _ _ ?_|refine hn3 _ ?_|refine he3 _ ?_|refine hf3 _ _ (by decide) ?_|refine hn2 _ ?_|refine he2 _ _ ?_|refine hn1 _ ?_|refine he1 _ _ ?_)
             refine zf fun X15 hn15 he15 hr15=>?_
             refine za fun KY hKY=>?_
             simp only[go_sem,qj,f4]
             apply hKY
             refine Zl ?_
             refine zt fun KY hKY=>?_
             simp only[go_sem,ud,a3]
             refine zh rfl (by simp only[go_sem]<;>rfl) ((hDb).mono ?_)
             rintro rr hh ⟨rfl,rfl⟩
             refine⟨rfl,rfl,rfl,?_⟩
             simp only[go_sem,a4]
             apply hKY
             repeat (first|refine hn15 _ ?_|refine he15 _ _ ?_|refine hn14 _ ?_|refine he14 _ _ ?_|refine hn5 _ ?_|refine he5 _ _ ?_|refine he4 _ _ ?_|refine hn3 _ ?_|refine he3 _ ?_|refine hf3 _ _ (by decide) ?_|refine hn2 _ ?_|refine he2 _ _ ?_|refine hn1 _ ?_|refine he1 _ _ ?_)
             simp only[go_sem]
             refine jb [86,94] rfl ?_
             simp only[go_sem]
             rw[e0]
             exact H
         have htt:tx w ([a,b].take n.toNat++l)=tx t0 l:=by rw[ou,←ht0]
         rw[htt] at hgd
         have htl:∀i,(tx t0 (l.take i)).length≤(tx t0 l).length:=uz t0 l
         clear a1 a2 a3 a4 ht0 htt
         refine zf fun X16 hn16 he16 hr16=>?_
         refine za fun KY hKY=>?_
         simp only[go_sem,uc]
         apply hKY
         refine zr fun X17 hn17 he17 hf17 hr17=>?_
         rw[show Zt t0=Zt (tx t0 (l.take 0)) by rw[List.take_zero,q9]]
         try simp only[go_sem]
         refine ZL (α:=Nat) [105,119] (fun i=>[(4,.sc (.string (Zt (tx t0 (l.take i))))),(7,.sc (.int .i64 (i:Int)))]) (fun i=>[]) (fun i q=>i≤l.length∧(tx t0 (l.take i)).length≤65536∧q=l.length - i) (0) (l.length) rfl (by first|(simp only[go_sem,ze,zg];done)|with_reducible rfl|rfl) (⟨Nat.zero_le _,by rw[List.take_zero,q9];exact ht0l,rfl⟩) ?_
         rintro i q ⟨hi,hsz,rfl⟩ X18 hn18 he18 hr18
         simp only[go_sem,ze,zg]
         refine zf fun X19 hn19 he19 hr19=>?_
         rcases Nat.lt_or_ge i l.length with hi2|hi2
         · have hdx:decide ((i:Int)<(l.length:Int))=true:=decide_eq_true (by omega)
           have hx:l[i]?=some l[i]:=List.getElem?_eq_getElem hi2
           have htk:l.take (i+1)=l.take i++[l[i]]:=by rw[List.take_add_one,hx];rfl
           have hxN:=List.all_eq_true.1 hall l[i] (List.getElem_mem hi2)
           have ht1:=htl (i+1)
           generalize l[i]=x at hx htk hxN
           have hg:=QN hx
           have hDx:=yk hxN
           have hlx:=uX hxN
           have htx:tx t0 (l.take i)++[32]++Zw x.toNat=tx t0 (l.take (i+1)):=by rw[htk,gD];simp
           have a1:jo .add (Zt (tx t0 (l.take i))) (Zt [32])=_:=qz (by simp;omega)
           have a2:jo .add (Zt (tx t0 (l.take i)++[32])) (Zt (Zw x.toNat))=_:=qz (by simp;omega)
           rw[htx] at a2
           refine za fun KY hKY=>?_
           simp only[go_sem,YX,zm,hdx]
           apply hKY
           refine Zl ?_
           refine zi ?_
           repeat (first|refine hn19 _ ?_|refine he19 _ _ ?_|refine he18 _ _ ?_|refine hn17 _ ?_|refine he17 _ ?_|refine hf17 _ _ (by decide) ?_|refine hn16 _ ?_|refine he16 _ _ ?_|refine hn5 _ ?_|refine he5 _ _ ?_)
           refine zf fun X20 hn20 he20 hr20=>?_
           refine zr fun X21 hn21 he21 hf21 hr21=>?_
           refine za fun KY hKY=>?_
           simp only[go_sem,ub,hg,zm,hi2,(show i+1≤l.length by omega),a1]
           refine zh rfl (by simp only[go_sem]<;>rfl) ((hDx).mono ?_)
           rintro rr hh ⟨rfl,rfl⟩
           refine⟨rfl,rfl,rfl,?_⟩
           simp only[go_sem,a2]
           apply hKY
           by_cases hbig:65536<(tx t0 (l.take (i+1))).length
           · have e2:decide (65536<((tx t0 (l.take (i+1))).length:Int))=true:=decide_eq_true (by omega)
             have hres:=hgd.trans (if_neg fun e=>by omega)
             refine za fun KY hKY=>?_
             simp only[go_sem,YW,e2]
             apply hKY
             refine Zl ?_
             refine za fun KY hKY=>?_
             simp only[go_sem,ua]
             apply hKY
             refine zd ?_
             repeat (first|refine hr21 _ ?_|refine hr20 _ ?_|refine hr19 _ ?_|refine hr18 _ ?_|refine hr17 _ ?_|refine hr16 _ ?_|refine hr5 _ ?_|refine hr4 _ ?_|refine hr3 _ ?_|refine hr2 _ ?_|refine hr1 _ ?_)
             simp only[go_sem]
             rw[hres]
           have e2:decide (65536<((tx t0 (l.take (i+1))).length:Int))=false:=decide_eq_false (by omega)
           refine za fun KY hKY=>?_
           simp only[go_sem,YW,e2]
           apply hKY
           refine ZD ?_
           refine zi ?_
           repeat (first|refine hn21 _ ?_|refine he21 _ ?_|refine hf21 _ _ (by decide) ?_|refine hn20 _ ?_|refine he20 _ _ ?_|refine hn19 _ ?_|refine he19 _ _ ?_|refine he18 _ _ ?_|refine hn17 _ ?_|refine he17 _ ?_|refine hf17 _ _ (by decide) ?_|refine hn16 _ ?_|refine he16 _ _ ?_|refine hn5 _ ?_|refine he5 _ _ ?_)
           refine zt fun KY hKY=>?_
           simp only[go_sem,X0,JN (show i<4611686018427387904 by omega)]
           apply hKY
           repeat (first|refine hn21 _ ?_|refine he21 _ ?_|refine hf21 _ _ (by decide) ?_|refine hn20 _ ?_|refine he20 _ _ ?_|refine hn19 _ ?_|refine he19 _ _ ?_)
           refine hn18 _ (i+1) (l.length - (i+1)) (by omega) (by first|(simp only[go_sem,ze,zg];done)|with_reducible rfl) ?_
           exact⟨hi2,by omega,rfl⟩
         have hdx:decide ((i:Int)<(l.length:Int))=false:=decide_eq_false (by omega)
         obtain rfl:i=l.length:=by omega
         rw[List.take_length] at hsz
         refine za fun KY hKY=>?_
         simp only[go_sem,YX,zm,hdx]
         apply hKY
         refine ZD ?_
         refine zS ?_
         repeat (first|refine hn19 _ ?_|refine he19 _ _ ?_|refine he18 _ _ ?_|refine hn17 _ ?_|refine he17 _ ?_|refine hf17 _ _ (by decide) ?_|refine hn16 _ ?_|refine he16 _ _ ?_|refine hn5 _ ?_|refine he5 _ _ ?_|refine he4 _ _ ?_|refine hn3 _ ?_|refine he3 _ ?_|refine hf3 _ _ (by decide) ?_|refine hn2 _ ?_|refine he2 _ _ ?_|refine hn1 _ ?_|refine he1 _ _ ?_)
         rw[List.take_length]
         have hres:=hgd.trans (if_pos ⟨hall,hsz⟩)
         refine za fun KY hKY=>?_
         simp only[go_sem,XZ]
         apply hKY
         refine zd ?_
         repeat (first|refine hr19 _ ?_|refine hr18 _ ?_|refine hr17 _ ?_|refine hr16 _ ?_|refine hr5 _ ?_|refine hr4 _ ?_|refine hr3 _ ?_|refine hr2 _ ?_|refine hr1 _ ?_)
         simp only[go_sem]
         rw[hres]
     · rw[Bool.not_eq_true] at hb
       rw[ha] at hMa
       rw[hb] at hMb
       have hres:=hbadp (.inr (.inr (.inl hb)))
       refine za fun KY hKY=>?_
       simp only[go_sem,Zj,d0]
       refine zh rfl (by simp only[go_sem]<;>rfl) ((hMa).mono ?_)
       rintro rr hh ⟨rfl,rfl⟩
       refine⟨rfl,rfl,rfl,?_⟩
       simp only[go_sem,d0]
       refine zh rfl (by simp only[go_sem]<;>rfl) ((hMb).mono ?_)
       rintro rr hh ⟨rfl,rfl⟩
       refine⟨rfl,rfl,rfl,?_⟩
       simp only[go_sem,d0]
       apply hKY
       refine Zl ?_
       refine za fun KY hKY=>?_
       simp only[go_sem,ZO]
       apply hKY
       refine zd ?_
       repeat (first|refine hr1 _ ?_)
       simp only[go_sem]
       rw[hres]
   · rw[Bool.not_eq_true] at ha
     rw[ha] at hMa
     have hres:=hbadp (.inr (.inl ha))
     refine za fun KY hKY=>?_
     simp only[go_sem,Zj,d0]
     refine zh rfl (by simp only[go_sem]<;>rfl) ((hMa).mono ?_)
     rintro rr hh ⟨rfl,rfl⟩
     refine⟨rfl,rfl,rfl,?_⟩
     simp only[go_sem,d0]
     apply hKY
     refine Zl ?_
     refine za fun KY hKY=>?_
     simp only[go_sem,ZO]
     apply hKY
     refine zd ?_
     repeat (first|refine hr1 _ ?_)
     simp only[go_sem]
     rw[hres]
 · have d0:decide (w=[])=true:=decide_eq_true (hwe hk)
   have hres:=hbadp (.inl hk)
   refine za fun KY hKY=>?_
   simp only[go_sem,Zj,d0]
   apply hKY
   refine Zl ?_
   refine za fun KY hKY=>?_
   simp only[go_sem,ZO]
   apply hKY
   refine zd ?_
   repeat (first|refine hr1 _ ?_)
   simp only[go_sem]
   rw[hres]
end Go.Proofs.YtneiihheeghdcaaDoor

namespace Go.Ga.Gl
open Go Go.Ga
def built (k:Nat)(ns:List Nat):yB:=if z6 k<0 then⟨k,0,0,ns⟩ else⟨k,ns.getD 0 0,ns.getD 1 0,[]⟩
def yB.ints (c:yB):List Int:=c.list.map fun n:Nat=>(n:Int)
def yB.text (c:yB):List UInt8×Int:=Zp c.kind c.a c.b (yB.ints c)
theorem Xm {s p:List UInt8}{ts:List (List UInt8)}(hl:¬65536<s.length)(hsp:zx 32 s=p::ts):
    Zf s=(⟨0,0,0,[]⟩,15)∨∃k ns,1≤k∧k≤14∧zQ k=p∧Zc ts=some ns∧Zf s=(built k ns,0):=by
  unfold Zf
  rw[if_neg hl,hsp]
  simp only[List.headD_cons,List.tail_cons,List.length_cons]
  split
  · exact .inl rfl
  rename_i k hk
  obtain⟨hk1,hk2,_⟩:=List.findIdx?_eq_some_iff_getElem.1 hk
  have hw:zQ k=p∧zQ k≠ []:=by
    unfold hit at hk2
    rw[Bool.and_eq_true,decide_eq_true_iff,decide_eq_true_iff] at hk2
    have e:zQ k=yZ[k].1:=by unfold zQ;rw[List.getD_eq_getElem?_getD,List.getElem?_eq_getElem hk1];rfl
    exact⟨e.trans hk2.2,by rw[e];exact hk2.1⟩
  have hk15:k<15:=hk1
  have hk0:k≠0:=fun e=>by subst e;exact hw.2 rfl
  show(if 0≤z6 k∧((ts.length+1:Nat):Int)≠z6 k+1 then((⟨0,0,0,[]⟩:yB),(15:Int)) else
      match Zc ts with
      |none=>(⟨0,0,0,[]⟩,15)
      |some ns=>if z6 k<0 then(⟨k,0,0,ns⟩,0) else if k=6∧ns.getD 0 0≠1∧ns.getD 0 0≠2 then(⟨0,0,0,[]⟩,15) else(⟨k,ns.getD 0 0,ns.getD 1 0,[]⟩,0))=_∨_
  split
  · exact .inl rfl
  split
  · exact .inl rfl
  rename_i ns hns
  split
  · rename_i hn
    exact .inr ⟨k,ns,by omega,by omega,hw.1,hns,by unfold built;rw[if_pos hn];rename_i hx _;exact(if_neg hx).trans (by rw[hns];exact if_pos hn)⟩
  · rename_i hn
    split
    · exact .inl rfl
    · rename_i h6
      exact .inr ⟨k,ns,by omega,by omega,hw.1,hns,by unfold built;rw[if_neg hn];rename_i hx _;exact(if_neg hx).trans (by rw[hns];exact(if_neg hn).trans (if_neg h6))⟩
theorem ON {s p:List UInt8}{ts:List (List UInt8)}(hl:¬65536<s.length)(hsp:zx 32 s=p::ts)(hn:Zc ts=none):Zf s=(⟨0,0,0,[]⟩,15):=by
 rcases Xm hl hsp with h|⟨k,ns,_,_,_,h,_⟩
 · exact h
 · rw[hn] at h;cases h
theorem UJ {s:List UInt8}{c:yB}(h:yB.text c=(s,0)):Zf s=(c,0):=by
 obtain⟨d,h1,h2,h3,h4,h5⟩:=UH h
 have e:d=c:=by
  obtain⟨k,a,b,l⟩:=c
  obtain⟨k',a',b',l'⟩:=d
  have e1:k'=k:=Int.ofNat_inj.1 h2
  have e2:a'=a:=Int.ofNat_inj.1 h3
  have e3:b'=b:=Int.ofNat_inj.1 h4
  have e4:l'=l:=by have:=congrArg (List.map Int.toNat) h5;simpa[yB.ints,List.map_map,Function.comp_def] using this
  rw[e1,e2,e3,e4]
 rw[h1,e]
theorem OM {s p:List UInt8}{ts:List (List UInt8)}(hl:¬65536<s.length)(hsp:zx 32 s=p::ts)(h:∀k ns,1≤k→k≤14→zQ k=p→Zc ts=some ns→yB.text (built k ns)≠(s,0)):Zf s=(⟨0,0,0,[]⟩,15):=by
 rcases Xm hl hsp with h1|⟨k,ns,h1,h2,h3,h4,h5⟩
 · exact h1
 · exact absurd (UF h5) (h k ns h1 h2 h3 h4)
end Go.Ga.Gl
namespace Go.Proofs.YtneiihheeghdcaaDoor
open Go Go.Ga Go.Ga.Gl
theorem K1 (xs:List Nat):Z6 xs=ints (xs.map fun(n:Nat)=>(n:Int)):=by simp[Z6,ints]
theorem GO (s:List UInt8)(hl:s.length≤1000000000):zn Tryd.prog [] zcB [.sc (.string (Zt s))] [] fun r h'=>r= .tup [.agg (Zf s).1.cells,.sc (.int .i64 (Zf s).2)]∧h'=[]:=by
 refine zea rfl ?_
 unfold zdf zY
 refine za fun KY hKY=>?_
 simp only[go_sem,kF]
 apply hKY
 refine zf fun X1 hn1 he1 hr1=>?_
 by_cases hlen:65536<s.length
 · have d1:decide (65536<(s.length:Int))=true:=decide_eq_true (by omega)
   have hres:Zf s=(⟨0,0,0,[]⟩,8):=if_pos hlen
   refine za fun KY hKY=>?_
   simp only[go_sem,xj,d1]
   apply hKY
   refine Zl ?_
   refine za fun KY hKY=>?_
   simp only[go_sem,kE]
   apply hKY
   refine Za [0,2,3] 1 (by simp only[go_sem]) ?_
   simp only[go_sem]
   refine zv [0,2,3] (by simp only[go_sem];rfl) ?_
   simp only[go_sem]
   refine zd ?_
   repeat (first|refine hr1 _ ?_)
   simp only[go_sem]
   rw[hres];rfl
 have d1:decide (65536<(s.length:Int))=false:=decide_eq_false (by omega)
 have hS:=GN s hl
 have hne:=ji 32 s
 have hsl:=jY 32 s
 have hcl:=jj 32 s
 obtain⟨p,ts,hsp⟩:∃p ts,zx 32 s=p::ts:=by
  cases h:zx 32 s with
  |nil=>exact absurd h hne
  |cons p ts=>exact⟨p,ts,rfl⟩
 have hwl:∀w∈p::ts,w.length≤1000000000:=fun w hw=>Nat.le_trans (yh 32 s w (by rw[hsp];exact hw)) hl
 have hl1:=fun h=>ON hlen hsp h
 have hl3:=fun h=>OM hlen hsp h
 rw[hsp] at hS hsl
 rw[List.length_cons] at hsl
 refine za fun KY hKY=>?_
 simp only[go_sem,xj,d1]
 apply hKY
 refine ZD ?_
 refine zi ?_
 repeat (first|refine hn1 _ ?_|refine he1 _ _ ?_)
 refine za fun KY hKY=>?_
 simp only[go_sem,kD]
 apply z7 [] [] false none rfl
 iterate 8 (first|(simp only[go_sem,zJ]<;>rfl)|rfl)
 refine(hS).mono ?_
 rintro _ _ ⟨rfl,rfl⟩
 refine⟨Nat.le_of_ble_eq_true rfl,(fun hh=>by cases hh),?_⟩
 simp only[go_sem,zZ,zc.after]
 apply hKY
 have hg0:(Zk (p::ts))[0]?=some (.sc (.string (Zt p))):=rfl
 refine zf fun X2 hn2 he2 hr2=>?_
 refine za fun KY hKY=>?_
 simp only[go_sem,kC]
 apply hKY
 refine zr fun X3 hn3 he3 hf3 hr3=>?_
 try simp only[go_sem]
 refine ZL (α:=Nat) [6,7,8,9,10,11,12,20,32,38,47,49,58,63,79] (fun m=>[(5,.sc (.int .i64 (m:Int)))]) (fun m=>[]) (fun m q=>1≤m∧m≤15∧(∀k ns,1≤k→k<m→zQ k=p→Zc ts=some ns→yB.text (built k ns)≠(s,0))∧q=15 - m) (1) (14) rfl (by first|(simp only[go_sem,ze,zg];done)|with_reducible rfl|rfl) (⟨Nat.le_refl _,by decide,fun k ns h1 h2=>by omega,rfl⟩) ?_
 rintro m q ⟨hm1,hm2,hno,rfl⟩ X4 hn4 he4 hr4
 simp only[go_sem,ze,zg]
 refine zf fun X5 hn5 he5 hr5=>?_
 rcases Nat.lt_or_ge m 15 with hm3|hm3
 · have hdx :decide ((m:Int)≤14)=true:=decide_eq_true (by omega)
   have hW:=Xg m
   have e1:Gr m=zQ m:=by unfold Gr;rw[if_pos (by omega),Int.toNat_natCast]
   have e2:QV m=z6 m:=by unfold QV;rw[if_pos (by omega),Int.toNat_natCast]
   rw[e1,e2] at hW
   refine za fun KY hKY=>?_
   simp only[go_sem,xi,hdx]
   apply hKY
   refine Zl ?_
   refine zi ?_
   repeat (first|refine hn5 _ ?_|refine he5 _ _ ?_|refine he4 _ _ ?_|refine hn3 _ ?_|refine he3 _ ?_|refine hf3 _ _ (by decide) ?_|refine hn2 _ ?_|refine he2 _ _ ?_|refine hn1 _ ?_|refine he1 _ _ ?_)
   refine zf fun X6 hn6 he6 hr6=>?_
   refine zr fun X7 hn7 he7 hf7 hr7=>?_
   refine za fun KY hKY=>?_
   simp only[go_sem,kB]
   refine zh rfl (by simp only[go_sem]<;>rfl) ((hW).mono ?_)
   rintro rr hh ⟨rfl,rfl⟩
   refine⟨rfl,rfl,rfl,?_⟩
   simp only[go_sem]
   apply hKY
   refine zf fun X8 hn8 he8 hr8=>?_
   by_cases hp:p=zQ m
   · have dp : decide (p=zQ m)=true:=decide_eq_true hp
     refine za fun KY hKY=>?_
     simp only[go_sem,xh,hg0,zK,List.length_cons,(show 0+1≤ts.length+1 by omega),(show 0<ts.length+1 by omega),dp]
     apply hKY
     refine ZD ?_
     refine zi ?_
     repeat (first|refine hn8 _ ?_|refine he8 _ _ ?_|refine hn7 _ ?_|refine he7 _ ?_|refine hf7 _ _ (by decide) ?_|refine hn6 _ ?_|refine he6 _ _ ?_|refine hn5 _ ?_|refine he5 _ _ ?_|refine he4 _ _ ?_|refine hn3 _ ?_|refine he3 _ ?_|refine hf3 _ _ (by decide) ?_|refine hn2 _ ?_|refine he2 _ _ ?_|refine hn1 _ ?_|refine he1 _ _ ?_)
     refine za fun KY hKY=>?_
     simp only[go_sem,kA]
     apply hKY
     refine Za [0,8,3] 1 (by simp only[go_sem]) ?_
     simp only[go_sem]
     by_cases hneg:z6 m<0
     · have dn :decide (z6 m<0)=true:=decide_eq_true hneg
       have hbu:∀ns,built m ns=⟨m,0,0,ns⟩:=fun ns=>if_pos hneg
       rw[show zb.own (some 1) []= .own (some 1) (Z6 []) from rfl]
       have gnone:True=True:=rfl
       refine zf fun X9 hn9 he9 hr9=>?_
       refine za fun KY hKY=>?_
       simp only[go_sem,xg]
       apply hKY
       refine zr fun X10 hn10 he10 hf10 hr10=>?_
       try simp only[go_sem]
       refine ZL (α:=Nat×List Nat) [10,38,47,49,58,63] (fun(j,ns)=>[(8,.own none [.sc (.int .i64 (m:Int)),.sc (.int .i64 0),.sc (.int .i64 0),.own (some 1) (Z6 ns)]),(9,.sc (.int .i64 ((j+1:Nat):Int)))]) (fun(j,ns)=>[]) (fun(j,ns) q=>j≤ts.length∧Zc (ts.take j)=some ns∧ns.length=j∧q=ts.length - j) ((0,[])) (ts.length) rfl (by first|(simp only[go_sem,ze,zg];done)|with_reducible rfl|rfl) (⟨Nat.zero_le _,rfl,rfl,rfl⟩) ?_
       rintro⟨j,ns⟩ q ⟨hj,hns,hnl,rfl⟩ X11 hn11 he11 hr11
       simp only[go_sem,ze,zg]
       refine zf fun X12 hn12 he12 hr12=>?_
       rcases Nat.lt_or_ge j ts.length with hj2|hj2
       · have hdy:decide (((j+1:Nat):Int)<((ts.length+1:Nat):Int))=true:=decide_eq_true (by omega)
         have hw:ts[j]?=some ts[j]:=List.getElem?_eq_getElem hj2
         have hwm:=hwl _ (.tail _ (List.getElem_mem hj2))
         have htl:ts=ts.take j++ts[j]::ts.drop (j+1):=by rw[←List.drop_eq_getElem_cons hj2,List.take_append_drop]
         have htk:ts.take (j+1)=ts.take j++[ts[j]]:=by rw[List.take_add_one,hw];rfl
         generalize ts[j]=w at hw hwm htl htk
         have hN:=w8 w hwm
         have hgw:(Zk (p::ts))[j+1]?=some (.sc (.string (Zt w))):=Qb (by simpa using hw)
         refine za fun KY hKY=>?_
         simp only[go_sem,qm,zK,List.length_cons,hdy]
         apply hKY
         refine Zl ?_
         refine zi ?_
         repeat (first|refine hn12 _ ?_|refine he12 _ _ ?_|refine he11 _ _ ?_|refine hn10 _ ?_|refine he10 _ ?_|refine hf10 _ _ (by decide) ?_|refine hn9 _ ?_|refine he9 _ _ ?_|refine hn8 _ ?_|refine he8 _ _ ?_|refine hn7 _ ?_|refine he7 _ ?_|refine hf7 _ _ (by decide) ?_|refine hn6 _ ?_|refine he6 _ _ ?_|refine hn5 _ ?_|refine he5 _ _ ?_)
         refine zf fun X13 hn13 he13 hr13=>?_
         refine zr fun X14 hn14 he14 hf14 hr14=>?_
         refine za fun KY hKY=>?_
         simp only[go_sem,Y4,zK,List.length_cons,hgw,(show j+1<ts.length+1 by omega),(show j+1+1≤ts.length+1 by omega)]
         refine zh rfl (by simp only[go_sem]<;>rfl) ((hN).mono ?_)
         rintro rr hh ⟨rfl,rfl⟩
         refine⟨rfl,rfl,rfl,?_⟩
         simp only[go_sem]
         apply hKY
         refine zf fun X15 hn15 he15 hr15=>?_
         cases hnb:ZX w with
         | none=>
           have hres:=hl1 (by rw[htl];exact qG hnb)
           refine za fun KY hKY=>?_
           simp only[go_sem,ql]
           apply hKY
           refine Zl ?_
           refine za fun KY hKY=>?_
           simp only[go_sem,Y3]
           apply hKY
           refine Za [0,2,3] 1 (by simp only[go_sem]) ?_
           simp only[go_sem]
           refine zv [0,2,3] (by simp only[go_sem];rfl) ?_
           simp only[go_sem]
           refine zd ?_
           repeat (first|refine hr15 _ ?_|refine hr14 _ ?_|refine hr13 _ ?_|refine hr12 _ ?_|refine hr11 _ ?_|refine hr10 _ ?_|refine hr9 _ ?_|refine hr8 _ ?_|refine hr7 _ ?_|refine hr6 _ ?_|refine hr5 _ ?_|refine hr4 _ ?_|refine hr3 _ ?_|refine hr2 _ ?_|refine hr1 _ ?_)
           simp only[go_sem]
           rw[hres];rfl
         |some v=>
         have dv:decide ((v:Int)<0)=false:=decide_eq_false (by omega)
         refine za fun KY hKY=>?_
         simp only[go_sem,ql,dv]
         apply hKY
         refine ZD ?_
         refine zi ?_
         repeat (first|refine hn15 _ ?_|refine he15 _ _ ?_|refine hn14 _ ?_|refine he14 _ ?_|refine hf14 _ _ (by decide) ?_|refine hn13 _ ?_|refine he13 _ _ ?_|refine hn12 _ ?_|refine he12 _ _ ?_|refine he11 _ _ ?_|refine hn10 _ ?_|refine he10 _ ?_|refine hf10 _ _ (by decide) ?_|refine hn9 _ ?_|refine he9 _ _ ?_|refine hn8 _ ?_|refine he8 _ _ ?_|refine hn7 _ ?_|refine he7 _ ?_|refine hf7 _ _ (by decide) ?_|refine hn6 _ ?_|refine he6 _ _ ?_|refine hn5 _ ?_|refine he5 _ _ ?_)
         refine zr fun X16 hn16 he16 hf16 hr16=>?_
         refine za fun KY hKY=>?_
         simp only[go_sem,Y2,dn]
         apply hKY
         refine Zl ?_
         refine zt fun KY hKY=>?_
         simp only[go_sem,uh,Yz,qc,hnl,(show(j+1)*8≤140737488355328 by omega)]
         apply hKY
         repeat (first|refine hn16 _ ?_|refine he16 _ ?_|refine hf16 _ _ (by decide) ?_|refine hn15 _ ?_|refine he15 _ _ ?_|refine hn14 _ ?_|refine he14 _ ?_|refine hf14 _ _ (by decide) ?_|refine hn13 _ ?_|refine he13 _ _ ?_|refine hn12 _ ?_|refine he12 _ _ ?_|refine he11 _ _ ?_|refine hn10 _ ?_|refine he10 _ ?_|refine hf10 _ _ (by decide) ?_|refine hn9 _ ?_|refine he9 _ _ ?_|refine hn8 _ ?_|refine he8 _ _ ?_|refine hn7 _ ?_|refine he7 _ ?_|refine hf7 _ _ (by decide) ?_|refine hn6 _ ?_|refine he6 _ _ ?_|refine hn5 _ ?_|refine he5 _ _ ?_)
         refine zt fun KY hKY=>?_
         simp only[go_sem,qk,JN (show j+1<4611686018427387904 by omega)]
         apply hKY
         repeat (first|refine hn16 _ ?_|refine he16 _ ?_|refine hf16 _ _ (by decide) ?_|refine hn15 _ ?_|refine he15 _ _ ?_|refine hn14 _ ?_|refine he14 _ ?_|refine hf14 _ _ (by decide) ?_|refine hn13 _ ?_|refine he13 _ _ ?_|refine hn12 _ ?_|refine he12 _ _ ?_)
         refine hn11 _ ((j+1,ns++[v])) (ts.length - (j+1)) (by omega) (by first|(simp only[go_sem,ze,zg,gnone];done)|with_reducible rfl) ?_
         refine⟨hj2,?_,by simp[hnl],rfl⟩
         rw[htk,jH,hns]
         show(Zc [w]).map _=_
         unfold Zc
         rw[hnb];rfl
       · have hdy:decide (((j+1:Nat):Int)<((ts.length+1:Nat):Int))=false:=decide_eq_false (by omega)
         obtain rfl:j=ts.length:=by omega
         rw[List.take_length] at hns
         refine za fun KY hKY=>?_
         simp only[go_sem,qm,zK,List.length_cons,hdy]
         apply hKY
         refine ZD ?_
         refine zS ?_
         repeat (first|refine hn12 _ ?_|refine he12 _ _ ?_|refine he11 _ _ ?_|refine hn10 _ ?_|refine he10 _ ?_|refine hf10 _ _ (by decide) ?_|refine hn9 _ ?_|refine he9 _ _ ?_|refine hn8 _ ?_|refine he8 _ _ ?_|refine hn7 _ ?_|refine he7 _ ?_|refine hf7 _ _ (by decide) ?_|refine hn6 _ ?_|refine he6 _ _ ?_|refine hn5 _ ?_|refine he5 _ _ ?_|refine he4 _ _ ?_|refine hn3 _ ?_|refine he3 _ ?_|refine hf3 _ _ (by decide) ?_|refine hn2 _ ?_|refine he2 _ _ ?_|refine hn1 _ ?_|refine he1 _ _ ?_)
         simp only[go_sem]
         refine zv [0,8,3] (by simp only[go_sem];rfl) ?_
         simp only[go_sem]
         have hPr:=Ys m 0 0 (ns.map fun(n:Nat)=>(n:Int)) (by rw[List.length_map];omega)
         unfold gr at hPr
         rw[←K1] at hPr
         have ht:Zp m 0 0 (ns.map fun(n:Nat)=>(n:Int))=yB.text (built m ns):=by rw[hbu];rfl
         rw[ht] at hPr
         have hl2:=fun h=>UJ (s:=s) (c:=built m ns) h
         generalize hR:yB.text (built m ns)=R at hPr hl2
         obtain⟨t,e⟩:=R
         simp only at hPr
         refine za fun KY hKY=>?_
         simp only[go_sem,Y0]
         apply z7 [] [] false none rfl
         iterate 8 (first|(simp only[go_sem,zJ]<;>rfl)|rfl)
         refine(hPr).mono ?_
         rintro _ _ ⟨rfl,rfl⟩
         refine⟨Nat.le_of_ble_eq_true rfl,(fun hh=>by cases hh),?_⟩
         simp only[go_sem,zZ,zc.after]
         apply hKY
         by_cases he:e=0
         · have d2:decide (e=0)=true:=decide_eq_true he
           by_cases hst:t=s
           · have d3:decide (t=s)=true:=decide_eq_true hst
             have hres:=hl2 (by rw[he,hst])
             rw[hbu] at hres
             refine za fun KY hKY=>?_
             simp only[go_sem,jZ,d2,d3]
             apply hKY
             refine Zl ?_
             refine za fun KY hKY=>?_
             simp only[go_sem,YZ]
             apply hKY
             refine zd ?_
             repeat (first|refine hr12 _ ?_|refine hr11 _ ?_|refine hr10 _ ?_|refine hr9 _ ?_|refine hr8 _ ?_|refine hr7 _ ?_|refine hr6 _ ?_|refine hr5 _ ?_|refine hr4 _ ?_|refine hr3 _ ?_|refine hr2 _ ?_|refine hr1 _ ?_)
             simp only[go_sem]
             rw[hres];rfl
           · have d3:decide (t=s)=false:=decide_eq_false hst
             refine za fun KY hKY=>?_
             simp only[go_sem,jZ,d2,d3]
             apply hKY
             refine ZD ?_
             refine zi ?_
             repeat (first|refine hn12 _ ?_|refine he12 _ _ ?_|refine he11 _ _ ?_|refine hn10 _ ?_|refine he10 _ ?_|refine hf10 _ _ (by decide) ?_|refine hn9 _ ?_|refine he9 _ _ ?_|refine hn8 _ ?_|refine he8 _ _ ?_|refine hn7 _ ?_|refine he7 _ ?_|refine hf7 _ _ (by decide) ?_|refine hn6 _ ?_|refine he6 _ _ ?_|refine hn5 _ ?_|refine he5 _ _ ?_)
             refine zt fun KY hKY=>?_
             simp only[go_sem,Jw,JN (show m<4611686018427387904 by omega)]
             apply hKY
             repeat (first|refine hn12 _ ?_|refine he12 _ _ ?_|refine he11 _ _ ?_|refine hn10 _ ?_|refine he10 _ ?_|refine hf10 _ _ (by decide) ?_|refine hn9 _ ?_|refine he9 _ _ ?_|refine hn8 _ ?_|refine he8 _ _ ?_|refine hn7 _ ?_|refine he7 _ ?_|refine hf7 _ _ (by decide) ?_|refine hn6 _ ?_|refine he6 _ _ ?_|refine hn5 _ ?_|refine he5 _ _ ?_)
             refine hn4 _ (m+1) (15 - (m+1)) (by omega) (by first|(simp only[go_sem,ze,zg];done)|with_reducible rfl) ?_
             refine⟨by omega,by omega,fun k ns2 h1 h2 h3 h4=>?_,rfl⟩
             rcases(show k<m∨k=m by omega) with h|rfl
             · exact hno k ns2 h1 h h3 h4
             · rw[hns] at h4
               cases h4
               rw[hR]
               intro h
               injection h with h5 h6
               first|exact hst h5|exact he h6
         · have d2:decide (e=0)=false:=decide_eq_false he
           refine za fun KY hKY=>?_
           simp only[go_sem,jZ,d2]
           apply hKY
           refine ZD ?_
           refine zi ?_
           repeat (first|refine hn12 _ ?_|refine he12 _ _ ?_|refine he11 _ _ ?_|refine hn10 _ ?_|refine he10 _ ?_|refine hf10 _ _ (by decide) ?_|refine hn9 _ ?_|refine he9 _ _ ?_|refine hn8 _ ?_|refine he8 _ _ ?_|refine hn7 _ ?_|refine he7 _ ?_|refine hf7 _ _ (by decide) ?_|refine hn6 _ ?_|refine he6 _ _ ?_|refine hn5 _ ?_|refine he5 _ _ ?_)
           refine zt fun KY hKY=>?_
           simp only[go_sem,Jw,JN (show m<4611686018427387904 by omega)]
           apply hKY
           repeat (first|refine hn12 _ ?_|refine he12 _ _ ?_|refine he11 _ _ ?_|refine hn10 _ ?_|refine he10 _ ?_|refine hf10 _ _ (by decide) ?_|refine hn9 _ ?_|refine he9 _ _ ?_|refine hn8 _ ?_|refine he8 _ _ ?_|refine hn7 _ ?_|refine he7 _ ?_|refine hf7 _ _ (by decide) ?_|refine hn6 _ ?_|refine he6 _ _ ?_|refine hn5 _ ?_|refine he5 _ _ ?_)
           refine hn4 _ (m+1) (15 - (m+1)) (by omega) (by first|(simp only[go_sem,ze,zg];done)|with_reducible rfl) ?_
           refine⟨by omega,by omega,fun k ns2 h1 h2 h3 h4=>?_,rfl⟩
           rcases(show k<m∨k=m by omega) with h|rfl
           · exact hno k ns2 h1 h h3 h4
           · rw[hns] at h4
             cases h4
             rw[hR]
             intro h
             injection h with h5 h6
             first|exact hst h5|exact he h6
     · have dn :decide (z6 m<0)=false:=decide_eq_false hneg
       have hbu:∀ns,built m ns=⟨m,ns.getD 0 0,ns.getD 1 0,[]⟩:=fun ns=>if_neg hneg
       have c0:∀k,zb.sc (.int .i64 0)= .sc (.int .i64 ((([]:List Nat).getD k 0:Nat):Int)):=fun k=>rfl
       refine zf fun X17 hn17 he17 hr17=>?_
       refine za fun KY hKY=>?_
       simp only[go_sem,xg]
       apply hKY
       refine zr fun X18 hn18 he18 hf18 hr18=>?_
       try simp only[go_sem]
       refine ZL (α:=Nat×List Nat) [10,38,47,49,58,63] (fun(j,ns)=>[(8,.own none [.sc (.int .i64 (m:Int)),.sc (.int .i64 ((ns.getD 0 0:Nat):Int)),.sc (.int .i64 ((ns.getD 1 0:Nat):Int)),.own (some 1) []]),(9,.sc (.int .i64 ((j+1:Nat):Int)))]) (fun(j,ns)=>[]) (fun(j,ns) q=>j≤ts.length∧Zc (ts.take j)=some ns∧ns.length=j∧q=ts.length - j) ((0,[])) (ts.length) rfl (by first|(simp only[go_sem,ze,zg];done)|with_reducible rfl|rfl) (⟨Nat.zero_le _,rfl,rfl,rfl⟩) ?_
       rintro⟨j,ns⟩ q ⟨hj,hns,hnl,rfl⟩ X19 hn19 he19 hr19
       simp only[go_sem,ze,zg]
       refine zf fun X20 hn20 he20 hr20=>?_
       rcases Nat.lt_or_ge j ts.length with hj2|hj2
       · have hdy:decide (((j+1:Nat):Int)<((ts.length+1:Nat):Int))=true:=decide_eq_true (by omega)
         have hw:ts[j]?=some ts[j]:=List.getElem?_eq_getElem hj2
         have hwm:=hwl _ (.tail _ (List.getElem_mem hj2))
         have htl:ts=ts.take j++ts[j]::ts.drop (j+1):=by rw[←List.drop_eq_getElem_cons hj2,List.take_append_drop]
         have htk:ts.take (j+1)=ts.take j++[ts[j]]:=by rw[List.take_add_one,hw];rfl
         generalize ts[j]=w at hw hwm htl htk
         have hN:=w8 w hwm
         have hgw:(Zk (p::ts))[j+1]?=some (.sc (.string (Zt w))):=Qb (by simpa using hw)
         refine za fun KY hKY=>?_
         simp only[go_sem,qm,zK,List.length_cons,hdy]
         apply hKY
         refine Zl ?_
         refine zi ?_
         repeat (first|refine hn20 _ ?_|refine he20 _ _ ?_|refine he19 _ _ ?_|refine hn18 _ ?_|refine he18 _ ?_|refine hf18 _ _ (by decide) ?_|refine hn17 _ ?_|refine he17 _ _ ?_|refine hn8 _ ?_|refine he8 _ _ ?_|refine hn7 _ ?_|refine he7 _ ?_|refine hf7 _ _ (by decide) ?_|refine hn6 _ ?_|refine he6 _ _ ?_|refine hn5 _ ?_|refine he5 _ _ ?_)
         refine zf fun X21 hn21 he21 hr21=>?_
         refine zr fun X22 hn22 he22 hf22 hr22=>?_
         refine za fun KY hKY=>?_
         simp only[go_sem,Y4,zK,List.length_cons,hgw,(show j+1<ts.length+1 by omega),(show j+1+1≤ts.length+1 by omega)]
         refine zh rfl (by simp only[go_sem]<;>rfl) ((hN).mono ?_)
         rintro rr hh ⟨rfl,rfl⟩
         refine⟨rfl,rfl,rfl,?_⟩
         simp only[go_sem]
         apply hKY
         refine zf fun X23 hn23 he23 hr23=>?_
         cases hnb:ZX w with
         | none=>
           have hres:=hl1 (by rw[htl];exact qG hnb)
           refine za fun KY hKY=>?_
           simp only[go_sem,ql]
           apply hKY
           refine Zl ?_
           refine za fun KY hKY=>?_
           simp only[go_sem,Y3]
           apply hKY
           refine Za [0,2,3] 1 (by simp only[go_sem]) ?_
           simp only[go_sem]
           refine zv [0,2,3] (by simp only[go_sem];rfl) ?_
           simp only[go_sem]
           refine zd ?_
           repeat (first|refine hr23 _ ?_|refine hr22 _ ?_|refine hr21 _ ?_|refine hr20 _ ?_|refine hr19 _ ?_|refine hr18 _ ?_|refine hr17 _ ?_|refine hr8 _ ?_|refine hr7 _ ?_|refine hr6 _ ?_|refine hr5 _ ?_|refine hr4 _ ?_|refine hr3 _ ?_|refine hr2 _ ?_|refine hr1 _ ?_)
           simp only[go_sem]
           rw[hres];rfl
         |some v=>
         have dv:decide ((v:Int)<0)=false:=decide_eq_false (by omega)
         refine za fun KY hKY=>?_
         simp only[go_sem,ql,dv]
         apply hKY
         refine ZD ?_
         refine zi ?_
         repeat (first|refine hn23 _ ?_|refine he23 _ _ ?_|refine hn22 _ ?_|refine he22 _ ?_|refine hf22 _ _ (by decide) ?_|refine hn21 _ ?_|refine he21 _ _ ?_|refine hn20 _ ?_|refine he20 _ _ ?_|refine he19 _ _ ?_|refine hn18 _ ?_|refine he18 _ ?_|refine hf18 _ _ (by decide) ?_|refine hn17 _ ?_|refine he17 _ _ ?_|refine hn8 _ ?_|refine he8 _ _ ?_|refine hn7 _ ?_|refine he7 _ ?_|refine hf7 _ _ (by decide) ?_|refine hn6 _ ?_|refine he6 _ _ ?_|refine hn5 _ ?_|refine he5 _ _ ?_)
         refine zr fun X24 hn24 he24 hf24 hr24=>?_
         refine za fun KY hKY=>?_
         simp only[go_sem,Y2,dn]
         apply hKY
         refine ZD ?_
         have gl:∀k,k<j→(ns++[v]).getD k 0=ns.getD k 0:=fun k hk=>by rw[List.getD_eq_getElem?_getD,List.getD_eq_getElem?_getD,List.getElem?_append_left (by omega)]
         have gv:(ns++[v]).getD j 0=v:=by rw[List.getD_eq_getElem?_getD,←hnl];simp
         rcases(show j=0∨j=1∨2≤j by omega) with hj0|hj0|hj0
         · have q1:decide (((j+1:Nat):Int)=1)=true:=decide_eq_true (by omega)
           have g0:(ns++[v]).getD 0 0=v:=by rw[hj0] at gv;exact gv
           have g1:(ns++[v]).getD 1 0=ns.getD 1 0:=by
            rw[List.length_eq_zero_iff.1 (hnl.trans hj0)];rfl
           refine za fun KY hKY=>?_
           simp only[go_sem,QT,q1]
           apply hKY
           refine Zl ?_
           refine zt fun KY hKY=>?_
           simp only[go_sem,ug]
           apply hKY
           repeat (first|refine hn24 _ ?_|refine he24 _ ?_|refine hf24 _ _ (by decide) ?_|refine hn23 _ ?_|refine he23 _ _ ?_|refine hn22 _ ?_|refine he22 _ ?_|refine hf22 _ _ (by decide) ?_|refine hn21 _ ?_|refine he21 _ _ ?_|refine hn20 _ ?_|refine he20 _ _ ?_|refine he19 _ _ ?_|refine hn18 _ ?_|refine he18 _ ?_|refine hf18 _ _ (by decide) ?_|refine hn17 _ ?_|refine he17 _ _ ?_|refine hn8 _ ?_|refine he8 _ _ ?_|refine hn7 _ ?_|refine he7 _ ?_|refine hf7 _ _ (by decide) ?_|refine hn6 _ ?_|refine he6 _ _ ?_|refine hn5 _ ?_|refine he5 _ _ ?_)
           refine zt fun KY hKY=>?_
           simp only[go_sem,qk,JN (show j+1<4611686018427387904 by omega)]
           apply hKY
           repeat (first|refine hn24 _ ?_|refine he24 _ ?_|refine hf24 _ _ (by decide) ?_|refine hn23 _ ?_|refine he23 _ _ ?_|refine hn22 _ ?_|refine he22 _ ?_|refine hf22 _ _ (by decide) ?_|refine hn21 _ ?_|refine he21 _ _ ?_|refine hn20 _ ?_|refine he20 _ _ ?_)
           refine hn19 _ ((j+1,ns++[v])) (ts.length - (j+1)) (by omega) (by first|(simp only[go_sem,ze,zg,g0,g1];done)|with_reducible rfl) ?_
           refine⟨hj2,?_,by simp[hnl],rfl⟩
           rw[htk,jH,hns]
           show(Zc [w]).map _=_
           unfold Zc
           rw[hnb];rfl
         · have q1:decide (((j+1:Nat):Int)=1)=false:=decide_eq_false (by omega)
           have q2:decide (((j+1:Nat):Int)=2)=true:=decide_eq_true (by omega)
           have g1:(ns++[v]).getD 1 0=v:=by rw[hj0] at gv;exact gv
           have g0:=gl 0 (by omega)
           refine za fun KY hKY=>?_
           simp only[go_sem,QT,q1]
           apply hKY
           refine ZD ?_
           refine za fun KY hKY=>?_
           simp only[go_sem,Y1,q2]
           apply hKY
           refine Zl ?_
           refine zt fun KY hKY=>?_
           simp only[go_sem,uf]
           apply hKY
           repeat (first|refine hn24 _ ?_|refine he24 _ ?_|refine hf24 _ _ (by decide) ?_|refine hn23 _ ?_|refine he23 _ _ ?_|refine hn22 _ ?_|refine he22 _ ?_|refine hf22 _ _ (by decide) ?_|refine hn21 _ ?_|refine he21 _ _ ?_|refine hn20 _ ?_|refine he20 _ _ ?_|refine he19 _ _ ?_|refine hn18 _ ?_|refine he18 _ ?_|refine hf18 _ _ (by decide) ?_|refine hn17 _ ?_|refine he17 _ _ ?_|refine hn8 _ ?_|refine he8 _ _ ?_|refine hn7 _ ?_|refine he7 _ ?_|refine hf7 _ _ (by decide) ?_|refine hn6 _ ?_|refine he6 _ _ ?_|refine hn5 _ ?_|refine he5 _ _ ?_)
           refine zt fun KY hKY=>?_
           simp only[go_sem,qk,JN (show j+1<4611686018427387904 by omega)]
           apply hKY
           repeat (first|refine hn24 _ ?_|refine he24 _ ?_|refine hf24 _ _ (by decide) ?_|refine hn23 _ ?_|refine he23 _ _ ?_|refine hn22 _ ?_|refine he22 _ ?_|refine hf22 _ _ (by decide) ?_|refine hn21 _ ?_|refine he21 _ _ ?_|refine hn20 _ ?_|refine he20 _ _ ?_)
           refine hn19 _ ((j+1,ns++[v])) (ts.length - (j+1)) (by omega) (by first|(simp only[go_sem,ze,zg,g0,g1];done)|with_reducible rfl) ?_
           refine⟨hj2,?_,by simp[hnl],rfl⟩
           rw[htk,jH,hns]
           show(Zc [w]).map _=_
           unfold Zc
           rw[hnb];rfl
         · have q1:decide (((j+1:Nat):Int)=1)=false:=decide_eq_false (by omega)
           have q2:decide (((j+1:Nat):Int)=2)=false:=decide_eq_false (by omega)
           have g0:=gl 0 (by omega)
           have g1:=gl 1 (by omega)
           refine za fun KY hKY=>?_
           simp only[go_sem,QT,q1]
           apply hKY
           refine ZD ?_
           refine za fun KY hKY=>?_
           simp only[go_sem,Y1,q2]
           apply hKY
           refine ZD ?_
           refine zi ?_
           repeat (first|refine hn24 _ ?_|refine he24 _ ?_|refine hf24 _ _ (by decide) ?_|refine hn23 _ ?_|refine he23 _ _ ?_|refine hn22 _ ?_|refine he22 _ ?_|refine hf22 _ _ (by decide) ?_|refine hn21 _ ?_|refine he21 _ _ ?_|refine hn20 _ ?_|refine he20 _ _ ?_|refine he19 _ _ ?_|refine hn18 _ ?_|refine he18 _ ?_|refine hf18 _ _ (by decide) ?_|refine hn17 _ ?_|refine he17 _ _ ?_|refine hn8 _ ?_|refine he8 _ _ ?_|refine hn7 _ ?_|refine he7 _ ?_|refine hf7 _ _ (by decide) ?_|refine hn6 _ ?_|refine he6 _ _ ?_|refine hn5 _ ?_|refine he5 _ _ ?_)
           refine zt fun KY hKY=>?_
           simp only[go_sem,qk,JN (show j+1<4611686018427387904 by omega)]
           apply hKY
           repeat (first|refine hn24 _ ?_|refine he24 _ ?_|refine hf24 _ _ (by decide) ?_|refine hn23 _ ?_|refine he23 _ _ ?_|refine hn22 _ ?_|refine he22 _ ?_|refine hf22 _ _ (by decide) ?_|refine hn21 _ ?_|refine he21 _ _ ?_|refine hn20 _ ?_|refine he20 _ _ ?_)
           refine hn19 _ ((j+1,ns++[v])) (ts.length - (j+1)) (by omega) (by first|(simp only[go_sem,ze,zg,g0,g1];done)|with_reducible rfl) ?_
           refine⟨hj2,?_,by simp[hnl],rfl⟩
           rw[htk,jH,hns]
           show(Zc [w]).map _=_
           unfold Zc
           rw[hnb];rfl
       · have hdy:decide (((j+1:Nat):Int)<((ts.length+1:Nat):Int))=false:=decide_eq_false (by omega)
         obtain rfl:j=ts.length:=by omega
         rw[List.take_length] at hns
         refine za fun KY hKY=>?_
         simp only[go_sem,qm,zK,List.length_cons,hdy]
         apply hKY
         refine ZD ?_
         refine zS ?_
         repeat (first|refine hn20 _ ?_|refine he20 _ _ ?_|refine he19 _ _ ?_|refine hn18 _ ?_|refine he18 _ ?_|refine hf18 _ _ (by decide) ?_|refine hn17 _ ?_|refine he17 _ _ ?_|refine hn8 _ ?_|refine he8 _ _ ?_|refine hn7 _ ?_|refine he7 _ ?_|refine hf7 _ _ (by decide) ?_|refine hn6 _ ?_|refine he6 _ _ ?_|refine hn5 _ ?_|refine he5 _ _ ?_|refine he4 _ _ ?_|refine hn3 _ ?_|refine he3 _ ?_|refine hf3 _ _ (by decide) ?_|refine hn2 _ ?_|refine he2 _ _ ?_|refine hn1 _ ?_|refine he1 _ _ ?_)
         simp only[go_sem]
         refine zv [0,8,3] (by simp only[go_sem];rfl) ?_
         simp only[go_sem]
         have hPr:=Ys m ((ns.getD 0 0:Nat):Int) ((ns.getD 1 0:Nat):Int) [] (by decide)
         unfold gr at hPr
         rw[show ints []=[] from rfl] at hPr
         have ht:Zp m ((ns.getD 0 0:Nat):Int) ((ns.getD 1 0:Nat):Int) []=yB.text (built m ns):=by rw[hbu];rfl
         rw[ht] at hPr
         have hl2:=fun h=>UJ (s:=s) (c:=built m ns) h
         generalize hR:yB.text (built m ns)=R at hPr hl2
         obtain⟨t,e⟩:=R
         simp only at hPr
         refine za fun KY hKY=>?_
         simp only[go_sem,Y0]
         apply z7 [] [] false none rfl
         iterate 8 (first|(simp only[go_sem,zJ]<;>rfl)|rfl)
         refine(hPr).mono ?_
         rintro _ _ ⟨rfl,rfl⟩
         refine⟨Nat.le_of_ble_eq_true rfl,(fun hh=>by cases hh),?_⟩
         simp only[go_sem,zZ,zc.after]
         apply hKY
         by_cases he:e=0
         · have d2:decide (e=0)=true:=decide_eq_true he
           by_cases hst:t=s
           · have d3:decide (t=s)=true:=decide_eq_true hst
             have hres:=hl2 (by rw[he,hst])
             rw[hbu] at hres
             refine za fun KY hKY=>?_
             simp only[go_sem,jZ,d2,d3]
             apply hKY
             refine Zl ?_
             refine za fun KY hKY=>?_
             simp only[go_sem,YZ]
             apply hKY
             refine zd ?_
             repeat (first|refine hr20 _ ?_|refine hr19 _ ?_|refine hr18 _ ?_|refine hr17 _ ?_|refine hr8 _ ?_|refine hr7 _ ?_|refine hr6 _ ?_|refine hr5 _ ?_|refine hr4 _ ?_|refine hr3 _ ?_|refine hr2 _ ?_|refine hr1 _ ?_)
             simp only[go_sem]
             rw[hres];rfl
           · have d3:decide (t=s)=false:=decide_eq_false hst
             refine za fun KY hKY=>?_
             simp only[go_sem,jZ,d2,d3]
             apply hKY
             refine ZD ?_
             refine zi ?_
             repeat (first|refine hn20 _ ?_|refine he20 _ _ ?_|refine he19 _ _ ?_|refine hn18 _ ?_|refine he18 _ ?_|refine hf18 _ _ (by decide) ?_|refine hn17 _ ?_|refine he17 _ _ ?_|refine hn8 _ ?_|refine he8 _ _ ?_|refine hn7 _ ?_|refine he7 _ ?_|refine hf7 _ _ (by decide) ?_|refine hn6 _ ?_|refine he6 _ _ ?_|refine hn5 _ ?_|refine he5 _ _ ?_)
             refine zt fun KY hKY=>?_
             simp only[go_sem,Jw,JN (show m<4611686018427387904 by omega)]
             apply hKY
             repeat (first|refine hn20 _ ?_|refine he20 _ _ ?_|refine he19 _ _ ?_|refine hn18 _ ?_|refine he18 _ ?_|refine hf18 _ _ (by decide) ?_|refine hn17 _ ?_|refine he17 _ _ ?_|refine hn8 _ ?_|refine he8 _ _ ?_|refine hn7 _ ?_|refine he7 _ ?_|refine hf7 _ _ (by decide) ?_|refine hn6 _ ?_|refine he6 _ _ ?_|refine hn5 _ ?_|refine he5 _ _ ?_)
             refine hn4 _ (m+1) (15 - (m+1)) (by omega) (by first|(simp only[go_sem,ze,zg];done)|with_reducible rfl) ?_
             refine⟨by omega,by omega,fun k ns2 h1 h2 h3 h4=>?_,rfl⟩
             rcases(show k<m∨k=m by omega) with h|rfl
             · exact hno k ns2 h1 h h3 h4
             · rw[hns] at h4
               cases h4
               rw[hR]
               intro h
               injection h with h5 h6
               first|exact hst h5|exact he h6
         · have d2:decide (e=0)=false:=decide_eq_false he
           refine za fun KY hKY=>?_
           simp only[go_sem,jZ,d2]
           apply hKY
           refine ZD ?_
           refine zi ?_
           repeat (first|refine hn20 _ ?_|refine he20 _ _ ?_|refine he19 _ _ ?_|refine hn18 _ ?_|refine he18 _ ?_|refine hf18 _ _ (by decide) ?_|refine hn17 _ ?_|refine he17 _ _ ?_|refine hn8 _ ?_|refine he8 _ _ ?_|refine hn7 _ ?_|refine he7 _ ?_|refine hf7 _ _ (by decide) ?_|refine hn6 _ ?_|refine he6 _ _ ?_|refine hn5 _ ?_|refine he5 _ _ ?_)
           refine zt fun KY hKY=>?_
           simp only[go_sem,Jw,JN (show m<4611686018427387904 by omega)]
           apply hKY
           repeat (first|refine hn20 _ ?_|refine he20 _ _ ?_|refine he19 _ _ ?_|refine hn18 _ ?_|refine he18 _ ?_|refine hf18 _ _ (by decide) ?_|refine hn17 _ ?_|refine he17 _ _ ?_|refine hn8 _ ?_|refine he8 _ _ ?_|refine hn7 _ ?_|refine he7 _ ?_|refine hf7 _ _ (by decide) ?_|refine hn6 _ ?_|refine he6 _ _ ?_|refine hn5 _ ?_|refine he5 _ _ ?_)
           refine hn4 _ (m+1) (15 - (m+1)) (by omega) (by first|(simp only[go_sem,ze,zg];done)|with_reducible rfl) ?_
           refine⟨by omega,by omega,fun k ns2 h1 h2 h3 h4=>?_,rfl⟩
           rcases(show k<m∨k=m by omega) with h|rfl
           · exact hno k ns2 h1 h h3 h4
           · rw[hns] at h4
             cases h4
             rw[hR]
             intro h
             injection h with h5 h6
             first|exact hst h5|exact he h6
   · have dp:decide (p=zQ m)=false:=decide_eq_false hp
     refine za fun KY hKY=>?_
     simp only[go_sem,xh,hg0,zK,List.length_cons,(show 0+1≤ts.length+1 by omega),(show 0<ts.length+1 by omega),dp]
     apply hKY
     refine Zl ?_
     refine zS ?_
     repeat (first|refine hn8 _ ?_|refine he8 _ _ ?_|refine hn7 _ ?_|refine he7 _ ?_|refine hf7 _ _ (by decide) ?_|refine hn6 _ ?_|refine he6 _ _ ?_|refine hn5 _ ?_|refine he5 _ _ ?_|refine he4 _ _ ?_|refine hn3 _ ?_|refine he3 _ ?_|refine hf3 _ _ (by decide) ?_|refine hn2 _ ?_|refine he2 _ _ ?_|refine hn1 _ ?_|refine he1 _ _ ?_)
     refine zt fun KY hKY=>?_
     simp only[go_sem,Jw,JN (show m<4611686018427387904 by omega)]
     apply hKY
     repeat (first|refine hn8 _ ?_|refine he8 _ _ ?_|refine hn7 _ ?_|refine he7 _ ?_|refine hf7 _ _ (by decide) ?_|refine hn6 _ ?_|refine he6 _ _ ?_|refine hn5 _ ?_|refine he5 _ _ ?_)
     refine hn4 _ (m+1) (15 - (m+1)) (by omega) (by first|(simp only[go_sem,ze,zg];done)|with_reducible rfl) ?_
     refine⟨by omega,by omega,fun k ns h1 h2 h3=>?_,rfl⟩
     rcases(show k<m∨k=m by omega) with h|rfl
     · exact hno k ns h1 h h3
     · exact absurd h3.symm hp
 have hdx:decide ((m:Int)≤14)=false:=decide_eq_false (by omega)
 have hres:=hl3 fun k ns h1 h2=>hno k ns h1 (by omega)
 refine za fun KY hKY=>?_
 simp only[go_sem,xi,hdx]
 apply hKY
 refine ZD ?_
 refine zS ?_
 repeat (first|refine hn5 _ ?_|refine he5 _ _ ?_|refine he4 _ _ ?_|refine hn3 _ ?_|refine he3 _ ?_|refine hf3 _ _ (by decide) ?_|refine hn2 _ ?_|refine he2 _ _ ?_|refine hn1 _ ?_|refine he1 _ _ ?_)
 refine za fun KY hKY=>?_
 simp only[go_sem,ue]
 apply hKY
 refine Za [0,2,3] 1 (by simp only[go_sem]) ?_
 simp only[go_sem]
 refine zv [0,2,3] (by simp only[go_sem];rfl) ?_
 simp only[go_sem]
 refine zd ?_
 repeat (first|refine hr5 _ ?_|refine hr4 _ ?_|refine hr3 _ ?_|refine hr2 _ ?_|refine hr1 _ ?_)
 simp only[go_sem]
 rw[hres];rfl
theorem zbt (l:List UInt8)(hl:l.length≤1000000000):zn Tryd.prog [] zcz [.imm 1 (ZG l)] [] fun r h'=>r= .imm 1 (Zk (qW l))∧h'=[]:=by
 refine zd8 rfl ?_
 unfold zdd Z7
 refine za fun KY hKY=>?_
 simp only[go_sem,kq]
 apply hKY
 refine za fun KY hKY=>?_
 simp only[go_sem,kp]
 apply hKY
 refine Za [0,3] 1 (by simp only[go_sem]) ?_
 simp only[go_sem]
 refine za fun KY hKY=>?_
 simp only[go_sem,ko]
 apply hKY
 rw[show zb.own (some 1) []= .own (some 1) (Zk []) from rfl]
 refine zf fun X1 hn1 he1 hr1=>?_
 refine za fun KY hKY=>?_
 simp only[go_sem,kn]
 apply hKY
 refine zr fun X2 hn2 he2 hf2 hr2=>?_
 try simp only[go_sem]
 refine ZL (α:=Nat×List (List UInt8)×Nat) [9,16] (fun(i,ps,f)=>[(3,.own (some 1) (Zk ps)),(4,.sc (.int .i64 (f:Int))),(5,.sc (.int .i64 (i:Int)))]) (fun(i,ps,f)=>[]) (fun(i,ps,f) q=>i≤l.length∧y5 10 l i ps f∧q=l.length - i) ((0,[],0)) (l.length) rfl (by first|(simp only[go_sem,ze,zg];done)|with_reducible rfl|rfl) (⟨Nat.zero_le _,vd 10 l,rfl⟩) ?_
 rintro⟨i,ps,f⟩ q ⟨hi,hc,rfl⟩ X3 hn3 he3 hr3
 simp only[go_sem,ze,zg]
 refine zf fun X4 hn4 he4 hr4=>?_
 rcases Nat.lt_or_ge i l.length with hi2|hi2
 · have hdx:decide ((i:Int)<(l.length:Int))=true:=decide_eq_true (by omega)
   have hf:=hc.1
   have hpl:=QS hc
   have hx:l[i]?=some l[i]:=List.getElem?_eq_getElem hi2
   generalize l[i]=b at hx
   have hg:(ZG l)[i]?=some (.sc (.int .u8 (b.toNat:Int))):=by simp[ZG,hx]
   have hb:=Gk (b:=b) (n:=10) (by decide)
   rw[show((10:Nat):Int)=10 from rfl,show UInt8.ofNat 10=10 from rfl] at hb
   refine za fun KY hKY=>?_
   simp only[go_sem,xe,zU,hdx]
   apply hKY
   refine Zl ?_
   refine zi ?_
   repeat (first|refine hn4 _ ?_|refine he4 _ _ ?_|refine he3 _ _ ?_|refine hn2 _ ?_|refine he2 _ ?_|refine hf2 _ _ (by decide) ?_|refine hn1 _ ?_|refine he1 _ _ ?_)
   refine zf fun X5 hn5 he5 hr5=>?_
   refine zr fun X6 hn6 he6 hf6 hr6=>?_
   by_cases hbb:b=10
   · rw[decide_eq_true hbb] at hb
     subst hbb
     have hc2:=gY hc hx
     have hcut:Zd (ZG l) 1 f i=ZG ((l.take i).drop f):=by
      unfold Zd ZG
      rw[Nat.mul_one,Nat.mul_one,←List.map_drop,←List.map_take,List.drop_take]
     refine za fun KY hKY=>?_
     simp only[go_sem,xd,hg,zU,hi2,(show i+1≤l.length by omega),hb]
     apply hKY
     refine Zl ?_
     refine za fun KY hKY=>?_
     simp only[go_sem,km,zU,(show f≤i by omega),(show i≤l.length by omega),hcut,wI,Option.map_some,jX,zK,(show(ps.length+1)*16≤140737488355328 by omega)]
     apply hKY
     refine zt fun KY hKY=>?_
     simp only[go_sem,kj,UY i (by omega)]
     apply hKY
     repeat (first|refine hn6 _ ?_|refine he6 _ ?_|refine hf6 _ _ (by decide) ?_|refine hn5 _ ?_|refine he5 _ _ ?_|refine hn4 _ ?_|refine he4 _ _ ?_|refine he3 _ _ ?_|refine hn2 _ ?_|refine he2 _ ?_|refine hf2 _ _ (by decide) ?_|refine hn1 _ ?_|refine he1 _ _ ?_)
     refine zt fun KY hKY=>?_
     simp only[go_sem,xc,UY i (by omega)]
     apply hKY
     repeat (first|refine hn6 _ ?_|refine he6 _ ?_|refine hf6 _ _ (by decide) ?_|refine hn5 _ ?_|refine he5 _ _ ?_|refine hn4 _ ?_|refine he4 _ _ ?_)
     refine hn3 _ ((i+1,ps++[(l.take i).drop f],i+1)) (l.length - (i+1)) (by omega) (by first|(simp only[go_sem,ze,zg];done)|with_reducible rfl) ?_
     exact⟨hi2,hc2,rfl⟩
   · rw[decide_eq_false hbb] at hb
     have hc2:=ve hc hx hbb
     refine za fun KY hKY=>?_
     simp only[go_sem,xd,hg,zU,hi2,(show i+1≤l.length by omega),hb]
     apply hKY
     refine ZD ?_
     refine zi ?_
     repeat (first|refine hn6 _ ?_|refine he6 _ ?_|refine hf6 _ _ (by decide) ?_|refine hn5 _ ?_|refine he5 _ _ ?_|refine hn4 _ ?_|refine he4 _ _ ?_|refine he3 _ _ ?_|refine hn2 _ ?_|refine he2 _ ?_|refine hf2 _ _ (by decide) ?_|refine hn1 _ ?_|refine he1 _ _ ?_)
     refine zt fun KY hKY=>?_
     simp only[go_sem,xc,UY i (by omega)]
     apply hKY
     repeat (first|refine hn6 _ ?_|refine he6 _ ?_|refine hf6 _ _ (by decide) ?_|refine hn5 _ ?_|refine he5 _ _ ?_|refine hn4 _ ?_|refine he4 _ _ ?_)
     refine hn3 _ ((i+1,ps,f)) (l.length - (i+1)) (by omega) (by first|(simp only[go_sem,ze,zg];done)|with_reducible rfl) ?_
     exact⟨hi2,hc2,rfl⟩
 have hdx:decide ((i:Int)<(l.length:Int))=false:=decide_eq_false (by omega)
 obtain rfl:i=l.length:=by omega
 have hf:=hc.1
 have hpl:=QS hc
 have he:=cut_end hc
 refine za fun KY hKY=>?_
 simp only[go_sem,xe,zU,hdx]
 apply hKY
 refine ZD ?_
 refine zS ?_
 repeat (first|refine hn4 _ ?_|refine he4 _ _ ?_|refine he3 _ _ ?_|refine hn2 _ ?_|refine he2 _ ?_|refine hf2 _ _ (by decide) ?_|refine hn1 _ ?_|refine he1 _ _ ?_)
 refine zf fun X7 hn7 he7 hr7=>?_
 by_cases hlt:f<l.length
 · have d1:decide ((f:Int)<(l.length:Int))=true:=decide_eq_true (by omega)
   have hres:qW l=ps++[l.drop f]:=by
    unfold qW
    rw[he,if_neg]
    simp
    omega
   have hcut:Zd (ZG l) 1 f l.length=ZG (l.drop f):=by
    unfold Zd ZG
    rw[Nat.mul_one,Nat.mul_one,←List.map_drop,←List.map_take,List.take_of_length_le (by simp)]
   refine za fun KY hKY=>?_
   simp only[go_sem,xb,zU,d1]
   apply hKY
   refine Zl ?_
   refine zt fun KY hKY=>?_
   simp only[go_sem,XY,zU,hf,Nat.le_refl,hcut,wI,Option.map_some,jX,zK,(show(ps.length+1)*16≤140737488355328 by omega)]
   apply hKY
   repeat (first|refine hn7 _ ?_|refine he7 _ _ ?_|refine hn4 _ ?_|refine he4 _ _ ?_|refine he3 _ _ ?_|refine hn2 _ ?_|refine he2 _ ?_|refine hf2 _ _ (by decide) ?_|refine hn1 _ ?_|refine he1 _ _ ?_)
   refine za fun KY hKY=>?_
   simp only[go_sem,YV]
   apply hKY
   simp only[go_sem]
   refine zv [0,2] (by simp only[go_sem];rfl) ?_
   simp only[go_sem]
   refine zd ?_
   repeat (first|refine hr7 _ ?_|refine hr4 _ ?_|refine hr3 _ ?_|refine hr2 _ ?_|refine hr1 _ ?_)
   simp only[go_sem]
   rw[hres]
 · have d1:decide ((f:Int)<(l.length:Int))=false:=decide_eq_false (by omega)
   have hres:qW l=ps:=by
    unfold qW
    rw[he,List.drop_eq_nil_of_le (by omega),if_pos (by simp)]
    simp
   refine za fun KY hKY=>?_
   simp only[go_sem,xb,zU,d1]
   apply hKY
   refine ZD ?_
   refine zi ?_
   repeat (first|refine hn7 _ ?_|refine he7 _ _ ?_|refine hn4 _ ?_|refine he4 _ _ ?_|refine he3 _ _ ?_|refine hn2 _ ?_|refine he2 _ ?_|refine hf2 _ _ (by decide) ?_|refine hn1 _ ?_|refine he1 _ _ ?_)
   refine za fun KY hKY=>?_
   simp only[go_sem,YV]
   apply hKY
   simp only[go_sem]
   refine zv [0,2] (by simp only[go_sem];rfl) ?_
   simp only[go_sem]
   refine zd ?_
   repeat (first|refine hr7 _ ?_|refine hr4 _ ?_|refine hr3 _ ?_|refine hr2 _ ?_|refine hr1 _ ?_)
   simp only[go_sem]
   rw[hres]
theorem Xv (n:Nat):zu [.int .i64 0] n=ints (List.replicate n 0):=by
 simp only[zu,List.map]
 induction n with
 |zero=>rfl
 |succ n ih=>simp only[List.replicate_succ,List.flatten_cons,ih];rfl
def jt (l:List Int)(x:Int)(k:Nat):List Int:=l++(List.replicate k x++List.replicate (3 - k) 0)
theorem QG (l:List Int)(x:Int)(k:Nat)(h:k≤3):(jt l x k).length=l.length+3:=by
 simp[jt];omega
theorem G2 (l:List Int)(x:Int)(k:Nat)(h:k<3):(jt l x k).set (l.length+k) x=jt l x (k+1):=by
 unfold jt
 rw[List.set_append_right _ _ (by omega)]
 congr 1
 obtain rfl|rfl|rfl:k=0∨k=1∨k=2:=by omega
 all_goals simp[List.replicate]
theorem KV (l:List Int)(x:Int):zT (zu [.int .i64 0] (l.length+3)) 0 (ints l)=ints (jt l x 0):=by
 rw[Xv,JR _ _ _ (by simp[ints]),List.take_zero,List.nil_append,Nat.zero_add]
 simp[ints,jt]
theorem Oq (l:List Int)(x:Int)(k:Nat)(h:k<3):zT (ints (jt l x k)) (l.length+k) [.sc (.int .i64 x)]=ints (jt l x (k+1)):=by
 rw[←G2 l x k h,←UV];rfl
theorem zdC (l:List Int)(x:Int)(hl:l.length≤1000000):zn Tryd.prog [] zcC [.imm 1 (ints l),.sc (.int .i64 x)] [] fun r h'=>r= .sl 0 0 l.length 1∧h'=[some (ints (jt l x 3))]:=by
 have w0:IntKind.i64.wrap ((l.length:Int)+3)=((l.length+3:Nat):Int):=by rw[IntWalk.i64_in _ (by omega)];omega
 refine zeb rfl ?_
 unfold zdg jN
 refine za fun KY hKY=>?_
 simp only[go_sem,kO]
 apply hKY
 refine za fun KY hKY=>?_
 simp only[go_sem,kN,w0,(show 8*(l.length+3)≤140737488355328 by omega),(show((l.length+3:Nat):Int)≤9223372036854775807 by omega)]
 apply hKY
 refine za fun KY hKY=>?_
 simp only[go_sem,kM,KV l x,(show l.length≤(zu [Value.int IntKind.i64 0] (l.length+3)).length by rw[Xv,zm];simp)]
 apply hKY
 refine za fun KY hKY=>?_
 simp only[go_sem,kL,w0,QG l x 0 (by omega),decide_eq_true_eq,(show l.length+2<l.length+3 by omega),or_true,Nat.sub_zero]
 apply hKY
 refine zf fun X1 hn1 he1 hr1=>?_
 refine za fun KY hKY=>?_
 simp only[go_sem,kK]
 apply hKY
 refine zr fun X2 hn2 he2 hf2 hr2=>?_
 try simp only[go_sem]
 refine ZL (α:=Nat) [25] (fun k=>[(7,.sc (.int .i64 ((l.length+k:Nat):Int)))]) (fun k=>[some (ints (jt l x k))]) (fun k q=>k≤3∧q=3 - k) (0) (3) rfl (by first|(simp only[go_sem,ze,zg];done)|with_reducible rfl|rfl) (⟨by omega,rfl⟩) ?_
 rintro k q ⟨hk,rfl⟩ X3 hn3 he3 hr3
 simp only[go_sem,ze,zg]
 refine zf fun X4 hn4 he4 hr4=>?_
 refine za fun KY hKY=>?_
 simp only[go_sem,kJ]
 apply hKY
 by_cases hk2:k<3
 · refine Zl ?_
   refine zi ?_
   repeat (first|refine hn4 _ ?_|refine he4 _ _ ?_|refine he3 _ _ ?_|refine hn2 _ ?_|refine he2 _ ?_|refine hf2 _ _ (by decide) ?_|refine hn1 _ ?_|refine he1 _ _ ?_)
   refine zf fun X5 hn5 he5 hr5=>?_
   refine zr fun X6 hn6 he6 hf6 hr6=>?_
   refine zt fun KY hKY=>?_
   simp only[go_sem,kI,(show l.length+k<l.length+3 by omega),QG l x k hk,Oq l x k hk2]
   apply hKY
   repeat (first|refine hn6 _ ?_|refine he6 _ ?_|refine hf6 _ _ (by decide) ?_|refine hn5 _ ?_|refine he5 _ _ ?_|refine hn4 _ ?_|refine he4 _ _ ?_|refine he3 _ _ ?_|refine hn2 _ ?_|refine he2 _ ?_|refine hf2 _ _ (by decide) ?_|refine hn1 _ ?_|refine he1 _ _ ?_)
   refine zt fun KY hKY=>?_
   simp only[go_sem,kH,JN (show l.length+k<4611686018427387904 by omega)]
   apply hKY
   repeat (first|refine hn6 _ ?_|refine he6 _ ?_|refine hf6 _ _ (by decide) ?_|refine hn5 _ ?_|refine he5 _ _ ?_|refine hn4 _ ?_|refine he4 _ _ ?_)
   refine hn3 _ (k+1) (3 - (k+1)) (by omega) (by first|(simp only[go_sem,ze,zg,Nat.add_assoc];done)|with_reducible rfl) ?_
   exact⟨hk2,rfl⟩
 · refine ZD ?_
   refine zS ?_
   repeat (first|refine hn4 _ ?_|refine he4 _ _ ?_|refine he3 _ _ ?_|refine hn2 _ ?_|refine he2 _ ?_|refine hf2 _ _ (by decide) ?_|refine hn1 _ ?_|refine he1 _ _ ?_)
   obtain rfl:k=3:=by omega
   refine za fun KY hKY=>?_
   simp only[go_sem,kG]
   apply hKY
   refine zd ?_
   repeat (first|refine hr4 _ ?_|refine hr3 _ ?_|refine hr2 _ ?_|refine hr1 _ ?_)
   simp only[go_sem]
theorem UB (l:List Int)(x:Int)(k:Nat):(ints (jt l x k)).take l.length=ints l:=by
 simp[ints,jt]
theorem Or (l:List Int)(x:Int)(k:Nat)(h:k<3):(ints (jt l x 3))[l.length+k]?=some (.sc (.int .i64 x)):=by
 have:(jt l x 3)[l.length+k]?=some x:=by
  unfold jt
  rw[List.getElem?_append_right (by omega)]
  obtain rfl|rfl|rfl:k=0∨k=1∨k=2:=by omega
  all_goals simp[List.replicate]
 exact QN this
theorem zbE (l:List Int)(x:Int)(hl:l.length≤1000000):zn Tryd.prog [] zcx [.sl 0 0 l.length 1,.imm 1 (ints l),.sc (.int .i64 x)] [some (ints (jt l x 3))] fun r h'=>r= .sc (.bool true)∧h'=[some (ints (jt l x 3))]:=by
 have w0:IntKind.i64.wrap ((l.length:Int)+3)=((l.length+3:Nat):Int):=by rw[IntWalk.i64_in _ (by omega)];omega
 have hlen:=QG l x 3 (Nat.le_refl _)
 have hcut:=UB l x 3
 generalize hR:jt l x 3=R at hlen hcut
 refine zd6 rfl ?_
 unfold zdb jL
 refine za fun KY hKY=>?_
 simp only[go_sem,V8]
 apply hKY
 refine zf fun X1 hn1 he1 hr1=>?_
 refine za fun KY hKY=>?_
 simp only[go_sem,V7,w0,hcut]
 have hle:l.length≤R.length:=by omega
 refine zh rfl (by simp only[go_sem,hcut,zm,hle]<;>rfl) ((Xl l l (by omega)).mono ?_)
 rintro rr hh ⟨rfl,rfl⟩
 refine⟨rfl,rfl,rfl,?_⟩
 simp only[go_sem,w0,hcut,hlen,zm]
 intro n hp1 hp2 hp3
 have hd:decide ((n:Int)<((l.length+3:Nat):Int))=false:=decide_eq_false (by omega)
 simp only[go_sem,hd]
 apply hKY
 refine ZD ?_
 refine zi ?_
 repeat (first|refine hn1 _ ?_|refine he1 _ _ ?_)
 refine za fun KY hKY=>?_
 simp only[go_sem,V6,w0,zm,hlen,decide_eq_true_eq,(show l.length+2<l.length+3 by omega),or_true,Nat.sub_zero]
 apply hKY
 refine zf fun X2 hn2 he2 hr2=>?_
 refine za fun KY hKY=>?_
 simp only[go_sem,V5]
 apply hKY
 refine zr fun X3 hn3 he3 hf3 hr3=>?_
 try simp only[go_sem]
 refine ZL (α:=Nat) [31,39] (fun k=>[(8,.sc (.int .i64 ((l.length+k:Nat):Int)))]) (fun k=>[some (ints R)]) (fun k q=>k≤3∧q=3 - k) (0) (3) rfl (by first|(simp only[go_sem,ze,zg];done)|with_reducible rfl|rfl) (⟨by omega,rfl⟩) ?_
 rintro k q ⟨hk,rfl⟩ X4 hn4 he4 hr4
 simp only[go_sem,ze,zg]
 refine zf fun X5 hn5 he5 hr5=>?_
 refine za fun KY hKY=>?_
 simp only[go_sem,V4]
 apply hKY
 by_cases hk2:k<3
 · refine Zl ?_
   refine zi ?_
   repeat (first|refine hn5 _ ?_|refine he5 _ _ ?_|refine he4 _ _ ?_|refine hn3 _ ?_|refine he3 _ ?_|refine hf3 _ _ (by decide) ?_|refine hn2 _ ?_|refine he2 _ _ ?_|refine hn1 _ ?_|refine he1 _ _ ?_)
   refine zf fun X6 hn6 he6 hr6=>?_
   refine zr fun X7 hn7 he7 hf7 hr7=>?_
   have hg:=Or l x k hk2
   rw[hR] at hg
   refine za fun KY hKY=>?_
   simp only[go_sem,V3,(show l.length+k<l.length+3 by omega),hg,zm,hlen]
   apply hKY
   refine ZD ?_
   refine zi ?_
   repeat (first|refine hn7 _ ?_|refine he7 _ ?_|refine hf7 _ _ (by decide) ?_|refine hn6 _ ?_|refine he6 _ _ ?_|refine hn5 _ ?_|refine he5 _ _ ?_|refine he4 _ _ ?_|refine hn3 _ ?_|refine he3 _ ?_|refine hf3 _ _ (by decide) ?_|refine hn2 _ ?_|refine he2 _ _ ?_|refine hn1 _ ?_|refine he1 _ _ ?_)
   refine zt fun KY hKY=>?_
   simp only[go_sem,V0,JN (show l.length+k<4611686018427387904 by omega)]
   apply hKY
   repeat (first|refine hn7 _ ?_|refine he7 _ ?_|refine hf7 _ _ (by decide) ?_|refine hn6 _ ?_|refine he6 _ _ ?_|refine hn5 _ ?_|refine he5 _ _ ?_)
   refine hn4 _ (k+1) (3 - (k+1)) (by omega) (by first|(simp only[go_sem,ze,zg,Nat.add_assoc];done)|with_reducible rfl) ?_
   exact⟨hk2,rfl⟩
 · refine ZD ?_
   refine zS ?_
   repeat (first|refine hn5 _ ?_|refine he5 _ _ ?_|refine he4 _ _ ?_|refine hn3 _ ?_|refine he3 _ ?_|refine hf3 _ _ (by decide) ?_|refine hn2 _ ?_|refine he2 _ _ ?_|refine hn1 _ ?_|refine he1 _ _ ?_)
   obtain rfl:k=3:=by omega
   refine za fun KY hKY=>?_
   simp only[go_sem,VZ]
   apply hKY
   refine zd ?_
   repeat (first|refine hr5 _ ?_|refine hr4 _ ?_|refine hr3 _ ?_|refine hr2 _ ?_|refine hr1 _ ?_)
   simp only[go_sem]
theorem Ki (n:Nat):zu [.int .u8 0] n=ZG (List.replicate n 0):=by
 simp only[zu,List.map]
 induction n with
 |zero=>rfl
 |succ n ih=>simp only[List.replicate_succ,List.flatten_cons,ih];rfl
theorem zbZ (l:List UInt8)(k:Nat)(x:UInt8):(ZG l).set k (.sc (.int .u8 (x.toNat:Int)))=ZG (l.set k x):=by simp[ZG,List.map_set]
def ju (l:List UInt8)(x:UInt8)(k:Nat):List UInt8:=l++(List.replicate k x++List.replicate (3 - k) 0)
theorem QH (l:List UInt8)(x:UInt8)(k:Nat)(h:k≤3):(ju l x k).length=l.length+3:=by
 simp[ju];omega
theorem G3 (l:List UInt8)(x:UInt8)(k:Nat)(h:k<3):(ju l x k).set (l.length+k) x=ju l x (k+1):=by
 unfold ju
 rw[List.set_append_right _ _ (by omega)]
 congr 1
 obtain rfl|rfl|rfl:k=0∨k=1∨k=2:=by omega
 all_goals simp[List.replicate]
theorem UA (l:List UInt8)(x:UInt8):zT (zu [.int .u8 0] (l.length+3)) 0 (ZG l)=ZG (ju l x 0):=by
 rw[Ki,JR _ _ _ (by simp[ZG]),List.take_zero,List.nil_append,Nat.zero_add]
 simp[ZG,ju]
theorem G0 (l:List UInt8)(x:UInt8)(k:Nat)(h:k<3):zT (ZG (ju l x k)) (l.length+k) [.sc (.int .u8 (x.toNat:Int))]=ZG (ju l x (k+1)):=by
 rw[←G3 l x k h,←zbZ];rfl
theorem zbw (l:List UInt8)(x:UInt8)(hl:l.length≤1000000):zn Tryd.prog [] zcD [.imm 1 (ZG l),.sc (.int .u8 (x.toNat:Int))] [] fun r h'=>r= .sl 0 0 l.length 1∧h'=[some (ZG (ju l x 3))]:=by
 have w0:IntKind.i64.wrap ((l.length:Int)+3)=((l.length+3:Nat):Int):=by rw[IntWalk.i64_in _ (by omega)];omega
 refine zec rfl ?_
 unfold zdh jO
 refine za fun KY hKY=>?_
 simp only[go_sem,kX]
 apply hKY
 refine za fun KY hKY=>?_
 simp only[go_sem,kW,w0,(show 1*(l.length+3)≤140737488355328 by omega),(show((l.length+3:Nat):Int)≤9223372036854775807 by omega)]
 apply hKY
 refine za fun KY hKY=>?_
 simp only[go_sem,kV,UA l x,(show l.length≤(zu [Value.int IntKind.u8 0] (l.length+3)).length by rw[Ki,zU];simp)]
 apply hKY
 refine za fun KY hKY=>?_
 simp only[go_sem,kU,w0,QH l x 0 (by omega),decide_eq_true_eq,(show l.length+2<l.length+3 by omega),or_true,Nat.sub_zero]
 apply hKY
 refine zf fun X1 hn1 he1 hr1=>?_
 refine za fun KY hKY=>?_
 simp only[go_sem,kT]
 apply hKY
 refine zr fun X2 hn2 he2 hf2 hr2=>?_
 try simp only[go_sem]
 refine ZL (α:=Nat) [25] (fun k=>[(7,.sc (.int .i64 ((l.length+k:Nat):Int)))]) (fun k=>[some (ZG (ju l x k))]) (fun k q=>k≤3∧q=3 - k) (0) (3) rfl (by first|(simp only[go_sem,ze,zg];done)|with_reducible rfl|rfl) (⟨by omega,rfl⟩) ?_
 rintro k q ⟨hk,rfl⟩ X3 hn3 he3 hr3
 simp only[go_sem,ze,zg]
 refine zf fun X4 hn4 he4 hr4=>?_
 refine za fun KY hKY=>?_
 simp only[go_sem,kS]
 apply hKY
 by_cases hk2:k<3
 · refine Zl ?_
   refine zi ?_
   repeat (first|refine hn4 _ ?_|refine he4 _ _ ?_|refine he3 _ _ ?_|refine hn2 _ ?_|refine he2 _ ?_|refine hf2 _ _ (by decide) ?_|refine hn1 _ ?_|refine he1 _ _ ?_)
   refine zf fun X5 hn5 he5 hr5=>?_
   refine zr fun X6 hn6 he6 hf6 hr6=>?_
   refine zt fun KY hKY=>?_
   simp only[go_sem,kR,(show l.length+k<l.length+3 by omega),QH l x k hk,G0 l x k hk2]
   apply hKY
   repeat (first|refine hn6 _ ?_|refine he6 _ ?_|refine hf6 _ _ (by decide) ?_|refine hn5 _ ?_|refine he5 _ _ ?_|refine hn4 _ ?_|refine he4 _ _ ?_|refine he3 _ _ ?_|refine hn2 _ ?_|refine he2 _ ?_|refine hf2 _ _ (by decide) ?_|refine hn1 _ ?_|refine he1 _ _ ?_)
   refine zt fun KY hKY=>?_
   simp only[go_sem,kQ,JN (show l.length+k<4611686018427387904 by omega)]
   apply hKY
   repeat (first|refine hn6 _ ?_|refine he6 _ ?_|refine hf6 _ _ (by decide) ?_|refine hn5 _ ?_|refine he5 _ _ ?_|refine hn4 _ ?_|refine he4 _ _ ?_)
   refine hn3 _ (k+1) (3 - (k+1)) (by omega) (by first|(simp only[go_sem,ze,zg,Nat.add_assoc];done)|with_reducible rfl) ?_
   exact⟨hk2,rfl⟩
 · refine ZD ?_
   refine zS ?_
   repeat (first|refine hn4 _ ?_|refine he4 _ _ ?_|refine he3 _ _ ?_|refine hn2 _ ?_|refine he2 _ ?_|refine hf2 _ _ (by decide) ?_|refine hn1 _ ?_|refine he1 _ _ ?_)
   obtain rfl:k=3:=by omega
   refine za fun KY hKY=>?_
   simp only[go_sem,kP]
   apply hKY
   refine zd ?_
   repeat (first|refine hr4 _ ?_|refine hr3 _ ?_|refine hr2 _ ?_|refine hr1 _ ?_)
   simp only[go_sem]
theorem Xh (l:List UInt8)(x:UInt8)(k:Nat):(ZG (ju l x k)).take l.length=ZG l:=by
 simp[ZG,ju]
theorem G1 (l:List UInt8)(x:UInt8)(k:Nat)(h:k<3):(ZG (ju l x 3))[l.length+k]?=some (.sc (.int .u8 (x.toNat:Int))):=by
 have:(ju l x 3)[l.length+k]?=some x:=by
  unfold ju
  rw[List.getElem?_append_right (by omega)]
  obtain rfl|rfl|rfl:k=0∨k=1∨k=2:=by omega
  all_goals simp[List.replicate]
 exact gu this
theorem O5 (l:List UInt8)(x:UInt8)(hl:l.length≤1000000):zn Tryd.prog [] zcy [.sl 0 0 l.length 1,.imm 1 (ZG l),.sc (.int .u8 (x.toNat:Int))] [some (ZG (ju l x 3))] fun r h'=>r= .sc (.bool true)∧h'=[some (ZG (ju l x 3))]:=by
 have w0:IntKind.i64.wrap ((l.length:Int)+3)=((l.length+3:Nat):Int):=by rw[IntWalk.i64_in _ (by omega)];omega
 have hlen:=QH l x 3 (Nat.le_refl _)
 have hcut:=Xh l x 3
 generalize hR:ju l x 3=R at hlen hcut
 refine zd7 rfl ?_
 unfold zdc jM
 refine za fun KY hKY=>?_
 simp only[go_sem,ki]
 apply hKY
 refine zf fun X1 hn1 he1 hr1=>?_
 refine za fun KY hKY=>?_
 simp only[go_sem,kh,w0,hcut]
 have hle:l.length≤R.length:=by omega
 refine zh rfl (by simp only[go_sem,hcut,zU,hle]<;>rfl) ((G8 l l (by omega)).mono ?_)
 rintro rr hh ⟨rfl,rfl⟩
 refine⟨rfl,rfl,rfl,?_⟩
 simp only[go_sem,w0,hcut,hlen,zU]
 intro n hp1 hp2 hp3
 have hd:decide ((n:Int)<((l.length+3:Nat):Int))=false:=decide_eq_false (by omega)
 simp only[go_sem,hd]
 apply hKY
 refine ZD ?_
 refine zi ?_
 repeat (first|refine hn1 _ ?_|refine he1 _ _ ?_)
 refine za fun KY hKY=>?_
 simp only[go_sem,kg,w0,zU,hlen,decide_eq_true_eq,(show l.length+2<l.length+3 by omega),or_true,Nat.sub_zero]
 apply hKY
 refine zf fun X2 hn2 he2 hr2=>?_
 refine za fun KY hKY=>?_
 simp only[go_sem,kf]
 apply hKY
 refine zr fun X3 hn3 he3 hf3 hr3=>?_
 try simp only[go_sem]
 refine ZL (α:=Nat) [31,39] (fun k=>[(8,.sc (.int .i64 ((l.length+k:Nat):Int)))]) (fun k=>[some (ZG R)]) (fun k q=>k≤3∧q=3 - k) (0) (3) rfl (by first|(simp only[go_sem,ze,zg];done)|with_reducible rfl|rfl) (⟨by omega,rfl⟩) ?_
 rintro k q ⟨hk,rfl⟩ X4 hn4 he4 hr4
 simp only[go_sem,ze,zg]
 refine zf fun X5 hn5 he5 hr5=>?_
 refine za fun KY hKY=>?_
 simp only[go_sem,ke]
 apply hKY
 by_cases hk2:k<3
 · refine Zl ?_
   refine zi ?_
   repeat (first|refine hn5 _ ?_|refine he5 _ _ ?_|refine he4 _ _ ?_|refine hn3 _ ?_|refine he3 _ ?_|refine hf3 _ _ (by decide) ?_|refine hn2 _ ?_|refine he2 _ _ ?_|refine hn1 _ ?_|refine he1 _ _ ?_)
   refine zf fun X6 hn6 he6 hr6=>?_
   refine zr fun X7 hn7 he7 hf7 hr7=>?_
   have hg:=G1 l x k hk2
   rw[hR] at hg
   refine za fun KY hKY=>?_
   simp only[go_sem,kb,(show l.length+k<l.length+3 by omega),hg,zU,hlen]
   apply hKY
   refine ZD ?_
   refine zi ?_
   repeat (first|refine hn7 _ ?_|refine he7 _ ?_|refine hf7 _ _ (by decide) ?_|refine hn6 _ ?_|refine he6 _ _ ?_|refine hn5 _ ?_|refine he5 _ _ ?_|refine he4 _ _ ?_|refine hn3 _ ?_|refine he3 _ ?_|refine hf3 _ _ (by decide) ?_|refine hn2 _ ?_|refine he2 _ _ ?_|refine hn1 _ ?_|refine he1 _ _ ?_)
   refine zt fun KY hKY=>?_
   simp only[go_sem,ka,JN (show l.length+k<4611686018427387904 by omega)]
   apply hKY
   repeat (first|refine hn7 _ ?_|refine he7 _ ?_|refine hf7 _ _ (by decide) ?_|refine hn6 _ ?_|refine he6 _ _ ?_|refine hn5 _ ?_|refine he5 _ _ ?_)
   refine hn4 _ (k+1) (3 - (k+1)) (by omega) (by first|(simp only[go_sem,ze,zg,Nat.add_assoc];done)|with_reducible rfl) ?_
   exact⟨hk2,rfl⟩
 · refine ZD ?_
   refine zS ?_
   repeat (first|refine hn5 _ ?_|refine he5 _ _ ?_|refine he4 _ _ ?_|refine hn3 _ ?_|refine he3 _ ?_|refine hf3 _ _ (by decide) ?_|refine hn2 _ ?_|refine he2 _ _ ?_|refine hn1 _ ?_|refine he1 _ _ ?_)
   obtain rfl:k=3:=by omega
   refine za fun KY hKY=>?_
   simp only[go_sem,V9]
   apply hKY
   refine zd ?_
   repeat (first|refine hr5 _ ?_|refine hr4 _ ?_|refine hr3 _ ?_|refine hr2 _ ?_|refine hr1 _ ?_)
   simp only[go_sem]
theorem ph (xs:List Nat):Z6 xs=ints (xs.map fun(n:Nat)=>(n:Int)):=by simp[Z6,ints]
theorem pN (c:yB):c.cells=gr c.kind c.a c.b (yB.ints c):=by
 unfold yB.cells gr yB.ints
 rw[ph]
theorem pg :∀{ts:List (List UInt8)} {ns:List Nat},Zc ts=some ns→ns.length=ts.length:=fun{ts ns} h=>by
 have:=(Yx h).1
 rw[←this,List.length_map]
theorem G9 (s:List UInt8):(Zf s).1.list.length≤s.length+1:=by
 have h1:=jY 32 s
 have h2:=jj 32 s
 unfold Zf
 split
 · simp
 · split
   · simp
   · split
     · simp
     · split
       · simp
       · rename_i ns hns
         have:=pg hns
         rw[List.length_tail] at this
         split
         · show ns.length≤_
           omega
         · split<;>simp
theorem zaX (l:List UInt8):(qW l).length≤l.length+1:=by
 have h1:=jY 10 l
 have h2:=jj 10 l
 unfold qW
 split
 · rw[List.length_dropLast];omega
 · omega
theorem OZ (s:List UInt8)(k n m:Int)(l:List Int)(b:List UInt8)(hs:s.length≤900000000)(hl:l.length≤2000000)(hb:b.length≤1000000000):zn Tryd.prog [] zdD [.sc (.string (Zt s)),.agg (gr k n m l),.imm 1 (ZG b)] [] fun r h'=>r= .sc (.bool true):=by
 have hP:=OJ k n m l (by omega)
 have hR:=Ys k n m l (by omega)
 have hQ:=UI s (by omega)
 have hS:=GO s (by omega)
 rw[pN] at hQ hS
 have hln:=G9 s
 generalize Zf s=y at hQ hS hln
 generalize Zp k n m l=x at hP hR
 obtain⟨t,e⟩:=x
 obtain⟨c,f⟩:=y
 simp only at hQ hS hln hP hR
 have hll:(yB.ints c).length=c.list.length:=List.length_map ..
 have hC:=gq c.kind c.a c.b c.kind c.a c.b (yB.ints c) (yB.ints c) (by omega)
 rw[decide_eq_true (show _∧_∧_∧_ from⟨rfl,rfl,rfl,rfl⟩)] at hC
 unfold gr at*
 refine zeQ rfl ?_
 unfold zeY q5
 refine za fun KY hKY=>?_
 simp only[go_sem,Gj]
 apply hKY
 refine zf fun X1 hn1 he1 hr1=>?_
 by_cases g1:2000<s.length
 · have d1:decide (2000<(s.length:Int))=true:=decide_eq_true (by omega)
   refine za fun KY hKY=>?_
   simp only[go_sem,y9,d1]
   apply hKY
   refine Zl ?_
   refine za fun KY hKY=>?_
   simp only[go_sem,wN]
   refine zh rfl (by simp only[go_sem]<;>rfl) ((qL).mono ?_)
   rintro rr hh ⟨rfl,rfl⟩
   refine⟨rfl,rfl,rfl,?_⟩
   simp only[go_sem]
   apply hKY
   refine zd ?_
   repeat (first|refine hr1 _ ?_)
   simp only[go_sem]
 have d1:decide (2000<(s.length:Int))=false:=decide_eq_false (by omega)
 by_cases g2:300<l.length
 · have d2:decide (300<(l.length:Int))=true:=decide_eq_true (by omega)
   refine za fun KY hKY=>?_
   simp only[go_sem,y9,d1,d2,zm]
   apply hKY
   refine Zl ?_
   refine za fun KY hKY=>?_
   simp only[go_sem,wN]
   refine zh rfl (by simp only[go_sem]<;>rfl) ((qL).mono ?_)
   rintro rr hh ⟨rfl,rfl⟩
   refine⟨rfl,rfl,rfl,?_⟩
   simp only[go_sem]
   apply hKY
   refine zd ?_
   repeat (first|refine hr1 _ ?_)
   simp only[go_sem]
 have d2:decide (300<(l.length:Int))=false:=decide_eq_false (by omega)
 by_cases g3:2000<b.length
 · have d3:decide (2000<(b.length:Int))=true:=decide_eq_true (by omega)
   refine za fun KY hKY=>?_
   simp only[go_sem,y9,d1,d2,d3,zm,zU]
   apply hKY
   refine Zl ?_
   refine za fun KY hKY=>?_
   simp only[go_sem,wN]
   refine zh rfl (by simp only[go_sem]<;>rfl) ((qL).mono ?_)
   rintro rr hh ⟨rfl,rfl⟩
   refine⟨rfl,rfl,rfl,?_⟩
   simp only[go_sem]
   apply hKY
   refine zd ?_
   repeat (first|refine hr1 _ ?_)
   simp only[go_sem]
 have d3:decide (2000<(b.length:Int))=false:=decide_eq_false (by omega)
 have hown:=zdC l 71 (by omega)
 have hkept:=zbE l 71 (by omega)
 have hcut:=UB l 71 3
 have hlen:=QG l 71 3 (Nat.le_refl _)
 have hownb:=zbw b 71 (by omega)
 have hkeptb:=O5 b 71 (by omega)
 rw[show(((71:UInt8).toNat:Nat):Int)=71 from rfl] at hownb hkeptb
 have hcutb:=Xh b 71 3
 have hlenb:=QH b 71 3 (Nat.le_refl _)
 have hle:l.length≤(jt l 71 3).length:=by omega
 have hleb:b.length≤(ju b 71 3).length:=by omega
 generalize jt l 71 3=R at hlen hcut hle hown hkept
 generalize ju b 71 3=RB at hlenb hcutb hleb hownb hkeptb
 have hA:=zbC b (by omega)
 have hB:=zbt b (by omega)
 have hPl:=G7 (qW b) (qW b) (Nat.le_trans (zaX b) (by omega))
 rw[decide_eq_true rfl] at hPl
 refine za fun KY hKY=>?_
 simp only[go_sem,y9,d1,d2,d3,zm,zU]
 apply hKY
 refine ZD ?_
 refine zi ?_
 repeat (first|refine hn1 _ ?_|refine he1 _ _ ?_)
 refine Zb fun KY hKY=>?_
 apply pm
 · intro H
   simp only[go_sem,Gi]
   refine⟨?_,?_⟩
   · apply z7 [] [] false none rfl
     iterate 8 (first|(simp only[go_sem,zJ]<;>rfl)|rfl)
     refine(hownb).mono ?_
     rintro _ _ ⟨rfl,rfl⟩
     refine⟨Nat.le_of_ble_eq_true rfl,(fun hh=>by cases hh),?_⟩
     simp only[go_sem,zZ,zc.after]
     apply hKY
     repeat (first|refine hn1 _ ?_|refine he1 _ _ ?_|refine hr1 _ ?_)
     simp only[go_sem]
     exact H
   · apply z7 [] [] false none rfl
     iterate 8 (first|(simp only[go_sem,zJ]<;>rfl)|rfl)
     refine(hownb).mono ?_
     rintro _ _ ⟨rfl,rfl⟩
     refine⟨Nat.le_of_ble_eq_true rfl,(fun hh=>by cases hh),?_⟩
     simp only[go_sem,zZ,zc.after]
     apply hKY
     repeat (first|refine hn1 _ ?_|refine he1 _ _ ?_|refine hr1 _ ?_)
     simp only[go_sem]
     exact H
 refine za fun KY hKY=>?_
 simp only[go_sem,Gh]
 apply z7 [] [] false none rfl
 iterate 8 (first|(simp only[go_sem,zJ]<;>rfl)|rfl)
 refine(hown).mono ?_
 rintro _ _ ⟨rfl,rfl⟩
 refine⟨Nat.le_of_ble_eq_true rfl,(fun hh=>by cases hh),?_⟩
 simp only[go_sem,zZ,zc.after]
 apply hKY
 refine za fun KY hKY=>?_
 simp only[go_sem,Gg]
 apply z7 [] [] false none rfl
 iterate 8 (first|(simp only[go_sem,zJ]<;>rfl)|rfl)
 refine(hQ).mono ?_
 rintro _ _ ⟨rfl,rfl⟩
 refine⟨Nat.le_of_ble_eq_true rfl,(fun hh=>by cases hh),?_⟩
 simp only[go_sem,zZ,zc.after]
 apply hKY
 refine za fun KY hKY=>?_
 simp only[go_sem,Gf]
 apply z7 [] [] false none rfl
 iterate 8 (first|(simp only[go_sem,zJ]<;>rfl)|rfl)
 refine(hS).mono ?_
 rintro _ _ ⟨rfl,rfl⟩
 refine⟨Nat.le_of_ble_eq_true rfl,(fun hh=>by cases hh),?_⟩
 simp only[go_sem,zZ,zc.after]
 apply hKY
 refine za fun KY hKY=>?_
 simp only[go_sem,Ge]
 refine zh rfl (by simp only[go_sem,hcut,zm,hle]<;>rfl) ((hP).mono ?_)
 rintro rr hh ⟨rfl,rfl⟩
 refine⟨?_,?_,?_,?_⟩
 iterate 3 (first|rfl|simp only[go_sem])
 simp only[go_sem]
 apply hKY
 refine za fun KY hKY=>?_
 simp only[go_sem,Gd]
 apply z7 [] [] false none rfl
 iterate 8 (first|(simp only[go_sem,zJ]<;>rfl)|rfl)
 refine(hR).mono ?_
 rintro _ _ ⟨rfl,rfl⟩
 refine⟨Nat.le_of_ble_eq_true rfl,(fun hh=>by cases hh),?_⟩
 simp only[go_sem,zZ,zc.after]
 apply hKY
 refine za fun KY hKY=>?_
 simp only[go_sem,Gc]
 refine zh rfl (by simp only[go_sem]<;>rfl) ((qL).mono ?_)
 rintro rr hh ⟨rfl,rfl⟩
 refine⟨rfl,rfl,rfl,?_⟩
 simp only[go_sem]
 refine zh rfl (by simp only[go_sem]<;>rfl) ((hC).mono ?_)
 rintro rr hh ⟨rfl,rfl⟩
 refine⟨rfl,rfl,rfl,?_⟩
 simp only[go_sem]
 refine zh rfl (by simp only[go_sem,hcutb,zU,hleb]<;>rfl) ((hA).mono ?_)
 rintro rr hh ⟨rfl,rfl⟩
 refine⟨?_,?_,?_,?_⟩
 iterate 3 (first|rfl|simp only[go_sem])
 simp only[go_sem]
 apply z7 [] [] false none rfl
 iterate 8 (first|(simp only[go_sem,zJ]<;>rfl)|rfl)
 refine(hB).mono ?_
 rintro _ _ ⟨rfl,rfl⟩
 refine⟨Nat.le_of_ble_eq_true rfl,(fun hh=>by cases hh),?_⟩
 simp only[go_sem,zZ,zc.after]
 refine zh rfl (by simp only[go_sem]<;>rfl) ((hPl).mono ?_)
 rintro rr hh ⟨rfl,rfl⟩
 refine⟨rfl,rfl,rfl,?_⟩
 simp only[go_sem]
 apply z7 [] [0] false none rfl
 iterate 8 (first|(simp only[go_sem,zJ]<;>rfl)|rfl)
 refine(hkeptb).mono ?_
 rintro _ _ ⟨rfl,rfl⟩
 refine⟨Nat.le_of_ble_eq_true rfl,(fun _=>by simp only[go_sem,Qp,and_self]),?_⟩
 simp only[go_sem,zZ,zc.after]
 apply z7 [] [1] false none rfl
 iterate 8 (first|(simp only[go_sem,zJ]<;>rfl)|rfl)
 refine(hkept).mono ?_
 rintro _ _ ⟨rfl,rfl⟩
 refine⟨Nat.le_of_ble_eq_true rfl,(fun _=>by simp only[go_sem,Qp,and_self]),?_⟩
 simp only[go_sem,zZ,zc.after]
 apply hKY
 refine zd ?_
 repeat (first|refine hr1 _ ?_)
 simp only[go_sem]
theorem pp (s:ByteArray)(k n m:Int)(l:List Int)(b:List UInt8)(hs:s.size≤900000000)(hl:l.length≤2000000)(hb:b.length≤1000000000):zn Tryd.prog [] zdD [.sc (.string s),.agg [.sc (.int .i64 k),.sc (.int .i64 n),.sc (.int .i64 m),.imm 1 (ints l)],.imm 1 (ZG b)] [] fun r h'=>r= .sc (.bool true):=by
 have:=OZ s.data.toList k n m l b (by rw[Array.length_toList];exact hs) hl hb
 rw[o0] at this
 exact this
theorem xP (As:List zb)(b:Nat)(h:SAs Tryd.prog Tryd.f8.params.toList As b)(hb:b≤1048576):zn Tryd.prog [] 8 As [] fun r _=>r= .sc (.bool true):=by
 rw[Tryd.params8] at h
 obtain⟨A1,As1,c1,d1,rfl,rfl,h1,h⟩:=w5 h
 obtain⟨A2,As2,c2,d2,rfl,rfl,h2,h⟩:=w5 h
 obtain⟨A3,As3,c3,d3,rfl,rfl,h3,h⟩:=w5 h
 obtain rfl:=zbs h
 obtain⟨x1,rfl,w1⟩:=GL Tryd.underlying9 h1
 obtain⟨k2,n2,m2,x2,rfl,u2,v2,w2,e2⟩:=KM Tryd.underlying26 rfl Tryd.underlying3 Tryd.underlying24 Tryd.underlying3 (by kernel_rfl) h2
 obtain⟨x3,rfl,w3⟩:=Ol Tryd.underlying34 Tryd.underlying5 (by kernel_rfl) h3
 exact(pp x1 k2 n2 m2 x2 x3 (by omega) (by omega) (by omega)).mono fun _ _ h=>h
end Go.Proofs.YtneiihheeghdcaaDoor
namespace Go.Proofs.YtneiihheeghdcaaDoor.linesTellend
open Go Go.Ga Go.ChangeShapes Go.WideShapes Go.ChangeAt Go.RowKit
theorem own :ownKnob Tryd.prog.godebug=none:=by kernel_rfl
mutual
theorem wO {H:Type}:∀d:DataW H,Rows.uptoBulk d=jK d
 | .lit l=>by cases l<;>simp[Rows.uptoBulk,jK]
 | .nil=>by simp[Rows.uptoBulk,jK]
 | .ptr d=>by simp[Rows.uptoBulk,jK,wO d]
 | .slice e s=>by simp[Rows.uptoBulk,jK,bulk_eq e,bulk_eq s]
 | .agg p=>by simp[Rows.uptoBulk,jK,bulk_eq p]
 | .iface _ d=>by simp[Rows.uptoBulk,jK,wO d]
 | .map e=>by simp[Rows.uptoBulk,jK,bulk_es e]
 | .held _=>by simp[Rows.uptoBulk,jK]
theorem bulk_eq {H:Type}:∀l:List (DataW H),Rows.uptoBulkAll l=bulkL l
 |[]=>by simp[Rows.uptoBulkAll,bulkL]
 |d::r=>by simp[Rows.uptoBulkAll,bulkL,wO d,bulk_eq r]
theorem bulk_es {H:Type}:∀l:List (Lit×DataW H),Rows.uptoBulkEntries l=bulkE l
 |[]=>by simp[Rows.uptoBulkEntries,bulkE]
 |d::r=>by simp[Rows.uptoBulkEntries,bulkE,bulk_e d,bulk_es r]
theorem bulk_e {H:Type}:∀d:Lit×DataW H,Rows.uptoBulkEntry d=bulk1 d
 |(l,d)=>by cases l<;>simp[Rows.uptoBulkEntry,bulk1,wO d]
end
set_option maxRecDepth 100000 in
theorem plain :ur Tryd.prog [3,5,9,24,26,34]:=OL (by kernel_rfl)
set_option maxRecDepth 100000 in
theorem zaw (H:Type)(enc:TypeId×Value→H)(W:World)(base:Nat)(args:Array Value)(ds gs:List (DataW H))(before:List MemPlace)
    (hval:∀(j:Nat) t v,Tryd.f8.params[j]?=some t→args[j]?=some v→Value.okWide Tryd.prog W .any base t v)
    (hW:DataW.Whole enc Tryd.prog Tryd.f8.params.toList Rows.linesTellSpec.vars false W args.toList ds gs before) (hk:Rows.uptoSmall H (ds++gs)=true) (hT:JO Tryd.prog (Env.plain W)):
    Calls Tryd.prog 8 args W fun e W'=>∃v,e= .returned v∧Rows.linesTellSpec.post enc Tryd.prog Tryd.f8 false true false false W args v W':=by
  have hW':=hW
  obtain⟨p,q,hA,hV,rfl,hfz,hnd⟩:=hW
  obtain⟨rfl,rfl⟩:=Go.Ga.qt hV
  have hb:bulkL (ds++[])≤1048576:=by rw[←bulk_eq];exact of_decide_eq_true hk
  have r0:DataW.TrodAll enc Tryd.prog W 0 (fun _=>true) true Tryd.f8.params.toList args.toList ds p:=hA
  rw[Tryd.params8] at r0
  obtain⟨v0,vs0,d0,ds0,p0,q0,hv0,rfl,rfl,h0,r1⟩:=trodAll_cons r0
  obtain⟨v1,vs1,d1,ds1,p1,q1,hv1,rfl,rfl,h1,r2⟩:=trodAll_cons r1
  obtain⟨v2,vs2,d2,ds2,p2,q2,hv2,rfl,rfl,h2,r3⟩:=trodAll_cons r2
  obtain⟨rfl,rfl,rfl⟩:=trodAll_nil r3
  exact xR plain hval (by rw[Tryd.params8];decide) hW' rfl rfl rfl rfl (tb:=4) (by kernel_rfl) Tryd.underlying4 hb hT xP
mutual
def flat :DataW Unit→List Value
 | .lit l=>[l.value]
 | .agg p=>flatL p
 |_=>[]
def flatL :List (DataW Unit)→List Value
 |[]=>[]
 |d::r=>flat d++flatL r
end
def OH (l:List Value):Obj→Obj
 | .cells _ t frozen=> .cells l.toArray t frozen
 |o=>o
noncomputable def YB (os:Os):World:=
 {World.holding Tryd.prog os ⟨#[], #[],[]⟩ with heap:=((((((World.holding Tryd.prog os ⟨#[], #[],[]⟩).heap).modify 4 (OH (flat Rows.laid_math_bits_deBruijn32tab))).modify 5 (OH (flat Rows.laid_math_bits_deBruijn64tab))).modify 1 (OH (flat Rows.laid_internal_strconv_uint64pow10))).modify 3 (OH (flat Rows.laid_unicode_utf8_acceptRanges))).modify 2 (OH (flat Rows.laid_unicode_utf8_first))}
theorem O4 (os:Os):laidMet Tryd.prog Rows.linesTellUptoRow.laid ((YB os).forCall (fun _ _=>0) ⟨#[], #[.string ⟨#[]⟩,.agg #[.int .i64 0,.int .i64 0,.int .i64 0,.slice none 0 0],.slice none 0 0],[]⟩).memory:=
 laidMet_of_run' 8 (by kernel_rfl) (by kernel_rfl)
theorem zeF (os:Os){H:Type}(enc:TypeId×Value→H):∃places,DataW.whole enc Tryd.prog ((YB os).forCall (fun _ _=>0) ⟨#[], #[.string ⟨#[]⟩,.agg #[.int .i64 0,.int .i64 0,.int .i64 0,.slice none 0 0],.slice none 0 0],[]⟩).memory Tryd.f8.params.toList Rows.linesTellSpec.vars false (#[.string ⟨#[]⟩,.agg #[.int .i64 0,.int .i64 0,.int .i64 0,.slice none 0 0],.slice none 0 0]:Array Value).toList 8=some ([.lit (.string []),.agg [.lit (.int .i64 0),.lit (.int .i64 0),.lit (.int .i64 0),.nil],.nil],[],places):=
 ⟨[],by kernel_rfl⟩
theorem tab (W:World)(h:laidMetH Tryd.prog Rows.linesTellUptoRow.laid W):JO Tryd.prog (Env.plain W):=K7 fun g hg=>by
 obtain rfl := Option.some.inj ((show Tryd.prog.globalNamed "internal/strconv.uint64pow10" = some 1 by kernel_rfl).symm.trans hg)
 have hl:laidMet Tryd.prog Rows.linesTellUptoRow.laid W:=h
 have he:Rows.laid_internal_strconv_uint64pow10 (H:=Unit)=Lib.tabData .u64 Lib.pow10Tab:=by kernel_rfl
 have ht:=((hl.tail).tail)
 rw[he] at ht
 exact Lib.tabIs_of_head hg (t:=110) (e:=101) (n:=20) (by kernel_rfl) (by kernel_rfl) (by kernel_rfl) (by kernel_rfl) (by kernel_rfl) ht
set_option maxRecDepth 100000 in
theorem zdH (os:Os)(started:os.Started)(H:Type)(enc:TypeId×Value→H)(F:Stop.Interp):
    ReturnsInHanded {} Tryd.checked os 8 .any ((Rows.OpenSpec.upto Rows.linesTellSpec).preRow enc Tryd.prog Tryd.f8 Rows.linesTellUptoRow.domain false Rows.linesTellUptoRow.laid) (((Rows.OpenSpec.upto Rows.linesTellSpec).at F).post enc Tryd.prog Tryd.f8 false true false false):=by
  obtain⟨places,hx⟩:=zeF os enc
  refine returnsInHanded_of_row (C:=Tryd.checked) (s:=Rows.OpenSpec.upto Rows.linesTellSpec) own started (by kernel_rfl) Tryd.func8
    (witness_row_at (enc:=enc) (C:=Tryd.checked) false (YB os) #[.string ⟨#[]⟩,.agg #[.int .i64 0,.int .i64 0,.int .i64 0,.slice none 0 0],.slice none 0 0] rfl (by kernel_rfl) (by kernel_rfl) (by kernel_rfl)
      (OpenSpec.preRow_of_cond 8 hx (by kernel_rfl) (fun k hk=>by cases hk;kernel_rfl) (by kernel_rfl) (O4 os))) ?_
  intro W base args ds gs before hval hW _ hcond _ hlaid _ _
  exact zaw H enc W base args ds gs before hval hW (hcond _ rfl) (tab W hlaid)
theorem Oj :Rows.LinesTellUptoSaid:=
 OpenClaim.holds_of_cond 8 Tryd.f8 rfl rfl rfl rfl rfl rfl rfl ⟨rfl,rfl,rfl,rfl,rfl⟩ rfl rfl rfl rfl rfl (by kernel_rfl) Tryd.func8 (by kernel_rfl)
  (of_decide_eq_true (by kernel_rfl)) (by unfold Func.isWrapper;first|(rw[if_pos (by decide+kernel)];kernel_rfl)|(rw[if_neg (by decide+kernel)];exact⟨rfl,rfl⟩))
  (fun os started H enc _ F=>by rw[OpenClaim.pre_eq_preRow];exact zdH os started H enc F)
theorem zeE (f : FuncId) (fn : Func) (hf : Tryd.pinned.checked.prog.funcNamed "garland/garlandlaw26.LinesTell" = some f) (hfn : Tryd.pinned.checked.prog.funcs[f]? = some fn) :
    false=Tryd.pinned.checked.prog.looks []∧∀(j:Nat) t,fn.params[j]?=some t→Tryd.pinned.checked.prog.wantsStandIn t=false:=by
  obtain rfl : f = 8 := Option.some.inj ((show Tryd.prog.funcNamed "garland/garlandlaw26.LinesTell" = some 8 by kernel_rfl).symm.trans hf) |>.symm
  obtain rfl:fn=Tryd.f8:=(Option.some.inj (Tryd.func8.symm.trans hfn)).symm
  refine⟨by kernel_rfl,fun j t ht=>?_⟩
  have h:(Tryd.f8.params.toList.all fun t=> !Tryd.prog.wantsStandIn t)=true:=by kernel_rfl
  have:=List.all_eq_true.1 h t (by rw[Array.mem_toList_iff];exact Array.mem_of_getElem? ht)
  have h2:Tryd.prog.wantsStandIn t=false:=by simpa using this
  exact h2
theorem holds :Rows.LinesTellUptoCardSaid:=
 Claim7.holds_tied_plain_at .later [] _ _ _ _ Oj (fun _ h=>by cases h) (by kernel_rfl) (fun _ h=>by cases h) linesTellUpto_row_tie rfl ⟨rfl,rfl⟩ (by kernel_rfl) rfl zeE (by kernel_rfl)
end Go.Proofs.YtneiihheeghdcaaDoor.linesTellend
