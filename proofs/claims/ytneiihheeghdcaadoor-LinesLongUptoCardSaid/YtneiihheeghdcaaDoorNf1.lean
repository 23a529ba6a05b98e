/- A line as long as may be, and a byte longer. -/
import Derived.Test.YtneiihheeghdcaaDoorRows
import Derived.Test.YtneiihheeghdcaaDoorGdbmenh5
import Derived.Shelf.Strings.Search1
import Derived.Shelf.Strings.Count
import Derived.Shelf.Bytes.IndexByte
import Derived.Shelf.Bytes.SlIndexAt
import Derived.Lib.Bytealg
import Derived.Lib.Join
import Derived.Lib.ItoaNum
import Derived.WalkKit
import Derived.ProofKit
import Derived.OpenShut
import Derived.JoinedCond
import Derived.Test.YtneiihheeghdcaaDoorCards
import Derived.Test.YtneiihheeghdcaaDoorTie
import Derived.Deep.DeepHandedRow
import Derived.Lib.LaidTab
import Derived.Stop.LaidErr
set_option linter.all false

namespace Go.Proofs.YtneiihheeghdcaaDoor
open Go Go.Ga
theorem mix :Tryd.prog.follows .mixedOrders=true:=by kernel_rfl
def uV :List zu:=[oO 2]
def uU :List zu:=[(none,.blds 7 6 1 [((0,1),(.c (.int .u8 102),true)),((1,1),(.c (.int .u8 97),true)),((2,1),(.c (.int .u8 99),true)),((3,1),(.c (.int .u8 116),true)),((4,1),(.c (.int .u8 111),true)),((5,1),(.c (.int .u8 114),true))] [.int .u8 0]),(none,.cvs 8 (.t 7)),oS 3 8]
def WF :List zu:=[oM 9 3,oE 10 9,oB 11 .lss 10 65535]
def uT :List zu:=[oM 12 3,(none,.apps 13 (.t 12) (.c (.string ⟨#[32,49]⟩)) 1),oS 3 13]
def uS :List zu:=[oM 14 3,(none,.r (.box 15 (.t 14))),oS 4 15]
def WE :List zu:=[oM 16 0]
def uR :List zu:=[oM 17 4,(none,.r (.bin 18 .add 0 (.t 17) (.c (.string ⟨#[32,49]⟩)))),oS 4 18]
def WD :List zu:=[oM 20 4,oC 21 9 20,oM 19 21,oY 22 19 0,oY 23 19 1,(none,.alloc 5 [.int .i64 0,.int .i64 0,.int .i64 0,.slice none 0 0]),oW 5 22 4,oS 6 23]
def WC :List zu:=[oM 24 0]
def uQ :List zu:=[(none,.call 25 (.f 10) []),oM 26 25,oK 26 true 27 6,Xv 26 true 28 .eql 27 8,oP 29 26 28,oM 30 29,(some (30,true),.r (.fldA 31 (.t 5) 3)),Xu 30 true 32 31 1,(some (30,true),.r (.len 33 (.t 32))),Xv 30 true 34 .eql 33 0,oP 35 30 34,oS 2 35]
def xN :List zu:=[(none,.call 36 (.f 10) []),oM 37 36,oK 37 true 38 6,Xv 37 true 39 .eql 38 0,oP 40 37 39,oM 41 40,(some (41,true),.r (.fldA 42 (.t 5) 3)),Xu 41 true 43 42 1,(some (41,true),.r (.len 44 (.t 43))),oK 41 true 45 4,(some (41,true),.r (.lenS 46 (.t 45))),Xv 41 true 47 .sub 46 6,
 Xv 41 true 48 .quo 47 2,kP 41 true 49 .eql 44 48,oP 50 41 49,oS 2 50]
def Jk :List Nat:=[0,2,3,4,5,6,11,16,24]
def Gx :zW:=.seq (.reg Jk uV Jk) (.seq (.reg Jk uU Jk) (.seq (.blk 0 (.loop (.seq (.seq (.reg [0,2,3,4,5,6,16,24] WF Jk) (.cond (.t 11) .skip (.exit 0))) (.blk 1 (.reg Jk uT Jk))))) (.seq (.reg Jk uS Jk) (.seq (.seq (.reg [0,
 2,3,4,5,6,11,24] WE Jk) (.cond (.t 16) (.reg Jk uR Jk) .skip)) (.seq (.reg [0,2,3,4,6,11,16,24] WD Jk) (.seq (.seq (.reg [0,2,3,4,5,6,11,16] WC Jk) (.cond (.t 24) (.seq (.reg Jk uQ Jk) .ret) .skip)) (.seq (.reg Jk xN Jk) .ret)))))))
abbrev Gf :Nat:=5
theorem Gn :vG Tryd.prog Tryd.f5.ntmps 1 [2] Jk [(.tmp 2)] Gx Gf:=V5 mix Tryd.func5 (by kernel_rfl) rfl
def uP :List zu:=[(none,.alloc 2 [.int .i64 0,.int .i64 0,.int .i64 0,.slice none 0 0]),oI 3 0]
def WB :List zu:=[oM 13 0,(none,.r (.lenS 14 (.t 13))),oB 15 .gtr 14 65536]
def uO :List zu:=[(none,.bld 16 [] [.int .i64 0,.int .i64 0,.int .i64 0,.slice none 0 0]),oW 2 16 4,oI 3 8]
def uN :List zu:=[oM 17 0,(none,.call 18 (.f 23) [(.t 17,false),(.c (.string ⟨#[32]⟩),false)]),(none,.bld 19 [((0,1),(.t 18,true))] [.slice none 0 0]),(none,.box 20 (.t 19)),(none,.alloc 4 [.pointer none]),oW 4 20 1]
def uM :List zu:=[(none,.call 21 (.f 24) []),(none,.alloc 5 [.string ⟨#[]⟩,.int .i64 0,.string ⟨#[]⟩,.int .i64 0,.string ⟨#[]⟩,.int .i64 0,.string ⟨#[]⟩,.int .i64 0,.string ⟨#[]⟩,.int .i64 0,.string ⟨#[]⟩,.int .i64 0,.string ⟨#[]⟩,.int .i64 0,.string ⟨#[]⟩,.int .i64 0,.string ⟨#[]⟩,.int .i64 0,
 .string ⟨#[]⟩,.int .i64 0,.string ⟨#[]⟩,.int .i64 0,.string ⟨#[]⟩,.int .i64 0,.string ⟨#[]⟩,.int .i64 0,.string ⟨#[]⟩,.int .i64 0,.string ⟨#[]⟩,.int .i64 0]),oW 5 21 30]
def uL :List zu:=[(none,.r (.slc 22 (.t 5) none (some (.c (.int .i64 15))) 2)),(none,.mkfn 23 (.func 26) [] [(.t 4,false)]),VD 24 25 22 23,oS 6 24]
def QH :ZV:=.take [1,2,3,4,5,6,7,8,9,10,11,12,13,14,15,16,17,18,19,20,21] (oM 25 6) (.take [2,3,4,5,6,7,8,9,10,11,12,13,14,15,16,17,18,19,20,21] (oB 26 .lss 25 0) (.take [3,4,5,6,7,8,9,10,11,12,13,14,15,16,17,18,19,20,21] (oM 27 26) (.take [4,5,6,7,8,9,10,11,12,13,14,15,16,17,18,19,
 20,21] (oK 27 false 28 6) (.take [5,6,7,8,9,10,11,12,13,14,15,16,17,18,19,20,21] (some (27,false),.r (.idxP 29 (.t 5) (.t 28) 15 2)) (.take [6,7,8,9,10,11,12,13,14,15,16,17,18,19,20,21] (some (27,false),.r (.fldA 30 (.t 29) 1)) (.take [7,8,9,10,11,12,13,14,15,16,17,18,19,20,21] (Xu 27 false 31 30 1) (.take [8,
 9,10,11,12,13,14,15,16,17,18,19,20,21] (Xv 27 false 32 .geq 31 0) (.take [9,10,11,12,13,14,15,16,17,18,19,20,21] (oK 27 false 33 32) (.take [10,11,12,13,19,20,21] (Xu 33 true 34 4 1) (.take [11,12,13,19,20,21] (some (33,true),.r (.nilck 35 (.t 34))) (.take [12,13,19,20,21] (some (33,true),.r (.fldA 36 (.t 35) 0)) (.take [13,
 19,20,21] (Xu 33 true 37 36 1) (.take [19,20,21] (some (33,true),.r (.len 38 (.t 37))) (.take [15,16,17,18,19,20,21] (oK 33 true 39 6) (.take [16,17,18,19,20,21] (some (33,true),.r (.idxP 40 (.t 5) (.t 39) 15 2)) (.take [17,18,19,20,21] (some (33,true),.r (.fldA 41 (.t 40) 1)) (.take [18,19,20,21] (Xu 33 true 42 41 1) (.take [19,
 20,21] (Xv 33 true 43 .add 42 1) (.take [20,21] (kP 33 true 44 .neq 38 43) (.take [21] (some (27,false),.r (.pick 45 (.t 33) (.t 44) (.c (.bool false)))) (.take [] (oQ 46 27 45) .done)))))))))))))))))))))
def WA :List zu:=[(none,.bld 47 [] [.int .i64 0,.int .i64 0,.int .i64 0,.slice none 0 0]),oW 2 47 4,oI 3 15]
def Wz :List zu:=[oL 48 4 1,(none,.mkfn 49 (.func 27) [(.t 48,false)] []),oS 7 49]
def Wy :List zu:=[oZ 8]
def YF :List zu:=[oI 9 1]
def jR :List zu:=[oM 50 9,oL 51 4 1,oN 52 51,oF 53 52 0,oL 54 53 1,oE 55 54,oD 56 .lss 50 55]
def qp :List zu:=[oM 60 7,oM 61 9,(none,.call 62 (.t 60) [(.t 61,false)]),oM 59 62,oY 63 59 0,oY 64 59 1,oS 10 63,oS 11 64]
def qo :List zu:=[oM 65 11,(none,.r (.notb 66 (.t 65)))]
def YE :List zu:=[(none,.bld 67 [] [.int .i64 0,.int .i64 0,.int .i64 0,.slice none 0 0]),oW 2 67 4,oI 3 15]
def YD :List zu:=[oM 68 8,oM 69 10,(none,.blds 70 1 1 [((0,1),(.t 69,true))] [.int .i64 0]),(none,.app 71 (.t 68) (.t 70) 1 8),oS 8 71]
def YC :List zu:=[oM 57 9,oB 58 .add 57 1,oS 9 58]
def YB :List zu:=[oM 72 6,(none,.bld 73 [((0,1),(.t 72,true))] [.int .i64 0,.int .i64 0,.int .i64 0,.slice none 0 0]),(none,.alloc 12 [.int .i64 0,.int .i64 0,.int .i64 0,.slice none 0 0]),oW 12 73 4]
def YA :List zu:=[oM 74 6,(none,.r (.idxP 75 (.t 5) (.t 74) 15 2)),oF 76 75 1,oL 77 76 1,oB 78 .lss 77 0]
def xH :List zu:=[oM 79 8,oF 80 12 3,oW 80 79 1]
def xG :List zu:=[oT 81 12 4,oW 2 81 4,oI 3 0]
def xF :List zu:=[oM 82 8,(none,.blds 83 2 1 [((0,1),(.c (.int .i64 0),true)),((1,1),(.c (.int .i64 0),true))] [.int .i64 0]),(none,.app 84 (.t 82) (.t 83) 1 8),oS 8 84]
def xE :ZV:=.take [1,2,6,7,8,9] (oM 85 8) (.take [2,6,7,8,9] (none,.r (.idxA 86 (.t 85) (.c (.int .i64 0)) 1)) (.take [6,7,8,9] (oL 87 86 1) (.take [4,5,8,9] (oM 88 8) (.take [5,8,9] (none,.r (.idxA 89 (.t 88) (.c (.int .i64 1)) 1)) (.take [8,9] (oL 90 89 1) (.take [7,8,9] (oF 91 12 1) (.one 7 (oW 91 87 1) (.take [9] (oF 92 12 2) (.one 9 (oW 92 90 1) .done)))))))))
def qn :List zu:=[oM 93 6,oB 94 .eql 93 6,oM 95 94,(some (95,true),.r (.fldA 96 (.t 12) 1)),Xu 95 true 97 96 1,Xv 95 true 98 .neq 97 1,oP 99 95 98,oM 100 99,(some (100,true),.r (.fldA 101 (.t 12) 1)),Xu 100 true 102 101 1,Xv 100 true 103 .neq 102 2,oP 104 100 103]
def xD :List zu:=[(none,.bld 105 [] [.int .i64 0,.int .i64 0,.int .i64 0,.slice none 0 0]),oW 2 105 4,oI 3 15]
def QI :List zu:=[oT 106 12 4,oW 2 106 4,oI 3 0]
def Zf :List Nat:=[0,2,3,4,5,6,7,8,9,10,11,12,15,46,56,66,78,104]
def Gw :zW:=.seq (.reg [0,3,4,5,6,7,8,9,10,11,12,15,46,56,66,78,104] uP Zf) (.seq (.seq (.reg [0,2,3,4,5,6,7,8,9,10,11,12,46,56,66,78,104] WB Zf) (.cond (.t 15) (.seq (.reg Zf uO Zf) .ret) .skip)) (.seq (.reg [0,
 2,3,5,6,7,8,9,10,11,12,15,46,56,66,78,104] uN Zf) (.seq (.reg [0,2,3,4,6,7,8,9,10,11,12,15,46,56,66,78,104] uM Zf) (.seq (.reg Zf uL Zf) (.seq (.seq (.draw [0,2,3,4,5,6,7,8,9,10,11,12,15,56,66,78,104] QH Zf) (.cond (.t 46) (.seq (.reg Zf WA Zf) .ret) .skip)) (.seq (.reg Zf Wz Zf) (.seq (.reg Zf Wy Zf) (.seq (.seq (.reg Zf YF Zf) (.blk 0 (.loop (.seq (.seq (.reg [0,
 2,3,4,5,6,7,8,9,10,11,12,15,46,66,78,104] jR Zf) (.cond (.t 56) .skip (.exit 0))) (.seq (.blk 1 (.seq (.reg Zf qp Zf) (.seq (.seq (.reg [0,2,3,4,5,6,7,8,9,10,11,12,15,46,56,78,104] qo Zf) (.cond (.t 66) (.seq (.reg Zf YE Zf) .ret) .skip)) (.reg Zf YD Zf)))) (.reg Zf YC Zf)))))) (.seq (.reg [0,
 2,3,4,5,6,7,8,9,10,11,15,46,56,66,78,104] YB Zf) (.seq (.seq (.reg [0,2,3,4,5,6,7,8,9,10,11,12,15,46,56,66,104] YA Zf) (.cond (.t 78) (.seq (.reg Zf xH Zf) (.seq (.reg Zf xG Zf) .ret)) .skip)) (.seq (.reg Zf xF Zf) (.seq (.draw Zf xE Zf) (.seq (.seq (.reg [0,
 2,3,4,5,6,7,8,9,10,11,12,15,46,56,66,78] qn Zf) (.cond (.t 104) (.seq (.reg Zf xD Zf) .ret) .skip)) (.seq (.reg Zf QI Zf) .ret))))))))))))))
abbrev Gc :Nat:=9
theorem Gm :vG Tryd.prog Tryd.f9.ntmps 1 [3] Zf [(.cell 2 4 true),(.tmp 3)] Gw Gc:=V5 mix Tryd.func9 (by kernel_rfl) rfl
def Xi :List zu:=[oO 0]
def Xh :List zu:=[(none,.call 4 (.f 9) [(.c (.string ⟨#[97,100,100,32,49,32,50]⟩),false)]),oM 3 4,oY 5 3 0,oY 6 3 1,(none,.alloc 1 [.int .i64 0,.int .i64 0,.int .i64 0,.slice none 0 0]),oW 1 5 4,oS 2 6]
def Xg :List zu:=[oM 7 2,oB 8 .eql 7 0,oM 9 8,(some (9,true),.r (.fldA 10 (.t 1) 0)),Xu 9 true 11 10 1,Xv 9 true 12 .eql 11 2,oP 13 9 12,oM 14 13,(some (14,true),.r (.fldA 15 (.t 1) 1)),Xu 14 true 16 15 1,Xv 14 true 17 .eql 16 1,oP 18 14 17,oM 19 18,(some (19,true),.r (.fldA 20 (.t 1) 2)),
 Xu 19 true 21 20 1,Xv 19 true 22 .eql 21 2,oP 23 19 22,oS 0 23]
def yM :List Nat:=[0,1,2]
def ga :zW:=.seq (.reg yM Xi yM) (.seq (.reg [0,2] Xh yM) (.seq (.reg yM Xg yM) .ret))
abbrev KW :Nat:=10
theorem gJ :vG Tryd.prog Tryd.f10.ntmps 0 [0] yM [(.tmp 0)] ga KW:=V5 mix Tryd.func10 (by kernel_rfl) rfl
def Xf :List zu:=[oZ 4]
def Xe :List zu:=[oM 5 0,oM 6 1,(none,.call 7 (.f 40) [(.t 5,false),(.t 6,false),(.c (.int .i64 0),false),(.c (.int .i64 (- (0+1))),false)]),oS 4 7]
def wh :List Nat:=[0,1,4]
def K9 :zW:=.seq (.reg wh Xf wh) (.seq (.reg wh Xe wh) .ret)
abbrev KV :Nat:=23
theorem gI :vG Tryd.prog Tryd.f23.ntmps 2 [4] wh [(.tmp 4)] K9 KV:=V5 mix Tryd.func23 (by kernel_rfl) rfl
def Xd :List zu:=[(none,.alloc 0 [.string ⟨#[]⟩,.int .i64 0,.string ⟨#[]⟩,.int .i64 0,.string ⟨#[]⟩,.int .i64 0,.string ⟨#[]⟩,.int .i64 0,.string ⟨#[]⟩,.int .i64 0,.string ⟨#[]⟩,.int .i64 0,.string ⟨#[]⟩,.int .i64 0,.string ⟨#[]⟩,.int .i64 0,.string ⟨#[]⟩,.int .i64 0,.string ⟨#[]⟩,.int .i64 0,
 .string ⟨#[]⟩,.int .i64 0,.string ⟨#[]⟩,.int .i64 0,.string ⟨#[]⟩,.int .i64 0,.string ⟨#[]⟩,.int .i64 0,.string ⟨#[]⟩,.int .i64 0])]
def Xc :List zu:=[(none,.bld 1 [((0,1),(.c (.string ⟨#[118,101,114,116,105,99,101,115]⟩),true)),((1,1),(.c (.int .i64 1),true))] [.string ⟨#[]⟩,.int .i64 0]),(none,.bld 2 [((0,1),(.c (.string ⟨#[97,100,100]⟩),true)),((1,1),(.c (.int .i64 2),true))] [.string ⟨#[]⟩,.int .i64 0]),
 (none,.bld 3 [((0,1),(.c (.string ⟨#[114,101,109,111,118,101]⟩),true)),((1,1),(.c (.int .i64 2),true))] [.string ⟨#[]⟩,.int .i64 0]),(none,.bld 4 [((0,1),(.c (.string ⟨#[103,114,111,119]⟩),true)),((1,1),(.c (.int .i64 0),true))] [.string ⟨#[]⟩,.int .i64 0]),(none,.bld 5 [((0,1),(.c (.string ⟨#[99,
  117,116]⟩),true)),((1,1),(.c (.int .i64 1),true))] [.string ⟨#[]⟩,.int .i64 0]),(none,.bld 6 [((0,1),(.c (.string ⟨#[109,97,116,99,104]⟩),true)),((1,1),(.c (.int .i64 1),true))] [.string ⟨#[]⟩,.int .i64 0]),(none,.bld 7 [((0,1),(.c (.string ⟨#[103,97,108,108,97,105]⟩),true)),((1,1),(.c (.int .i64 0),
 true))] [.string ⟨#[]⟩,.int .i64 0]),(none,.bld 8 [((0,1),(.c (.string ⟨#[98,97,114,114,105,101,114]⟩),true)),((1,1),(.c (.int .i64 0),true))] [.string ⟨#[]⟩,.int .i64 0]),(none,.bld 9 [((0,1),(.c (.string ⟨#[115,105,100,101,115]⟩),true)),((1,1),(.c (.int .i64 0),true))] [.string ⟨#[]⟩,.int .i64 0]),
 (none,.bld 10 [((0,1),(.c (.string ⟨#[98,108,111,99,107,115]⟩),true)),((1,1),(.c (.int .i64 0),true))] [.string ⟨#[]⟩,.int .i64 0]),(none,.bld 11 [((0,1),(.c (.string ⟨#[102,97,99,116,111,114]⟩),true)),((1,1),(.c (.int .i64 (- (0+1))),true))] [.string ⟨#[]⟩,.int .i64 0]),(none,.bld 12 [((0,
 1),(.c (.string ⟨#[99,111,118,101,114]⟩),true)),((1,1),(.c (.int .i64 0),true))] [.string ⟨#[]⟩,.int .i64 0]),(none,.bld 13 [((0,1),(.c (.string ⟨#[99,108,97,115,115,105,102,121]⟩),true)),((1,1),(.c (.int .i64 0),true))] [.string ⟨#[]⟩,.int .i64 0]),(none,.bld 14 [((0,1),(.c (.string ⟨#[116,
  101,108,108]⟩),true)),((1,1),(.c (.int .i64 0),true))] [.string ⟨#[]⟩,.int .i64 0]),(none,.bld 15 [((2,2),(.t 1,true)),((4,2),(.t 2,true)),((6,2),(.t 3,true)),((8,2),(.t 4,true)),((10,2),(.t 5,true)),((12,2),(.t 6,true)),((14,2),(.t 7,true)),((16,2),(.t 8,true)),((18,2),(.t 9,true)),((20,2),(.t 10,
 true)),((22,2),(.t 11,true)),((24,2),(.t 12,true)),((26,2),(.t 13,true)),((28,2),(.t 14,true))] [.string ⟨#[]⟩,.int .i64 0,.string ⟨#[]⟩,.int .i64 0,.string ⟨#[]⟩,.int .i64 0,.string ⟨#[]⟩,.int .i64 0,.string ⟨#[]⟩,.int .i64 0,.string ⟨#[]⟩,.int .i64 0,.string ⟨#[]⟩,.int .i64 0,.string ⟨#[]⟩,.int .i64 0,
 .string ⟨#[]⟩,.int .i64 0,.string ⟨#[]⟩,.int .i64 0,.string ⟨#[]⟩,.int .i64 0,.string ⟨#[]⟩,.int .i64 0,.string ⟨#[]⟩,.int .i64 0,.string ⟨#[]⟩,.int .i64 0,.string ⟨#[]⟩,.int .i64 0]),oW 0 15 30]
def WL :List Nat:=[0]
def K8 :zW:=.seq (.reg [] Xd WL) (.seq (.reg WL Xc WL) .ret)
abbrev KU :Nat:=24
theorem gH :vG Tryd.prog Tryd.f24.ntmps 0 [] WL [(.cell 0 30 true)] K8 KU:=V5 mix Tryd.func24 (by kernel_rfl) rfl
def Xb :List zu:=[oI 4 0]
def Xa :List zu:=[oM 6 0,oE 7 6,(none,.r (.mov 8 (.c (.int .i64 0))))]
def YL :List zu:=[oD 9 .lss 8 7]
def x9 :List zu:=[oM 10 8,oS 5 10]
def x8 :List zu:=[oM 11 1,oM 12 0,oM 13 5,oX 14 12 13 2,oT 15 14 2,(none,.call 16 (.t 11) [(.t 15,false)])]
def x7 :List zu:=[oM 17 5,oS 4 17]
def x6 :List zu:=[oB 18 .add 8 1,oS 8 18]
def x5 :List zu:=[(none,.asg 4 (.c (.int .i64 (- (0+1)))) true)]
def jG :List Nat:=[0,1,4,5,7,8,9,16]
def K7 :zW:=.seq (.reg jG Xb jG) (.seq (.seq (.reg [0,1,4,5,9,16] Xa jG) (.blk 0 (.loop (.seq (.reg [0,
 1,4,5,7,8,16] YL jG) (.seq (.cond (.t 9) .skip (.exit 0)) (.seq (.blk 1 (.seq (.reg jG x9 jG) (.seq (.reg [0,
 1,4,5,7,8,9] x8 jG) (.cond (.t 16) (.seq (.reg jG x7 jG) .ret) .skip)))) (.reg jG x6 jG))))))) (.seq (.reg jG x5 jG) .ret))
abbrev KT :Nat:=25
theorem gG :vG Tryd.prog Tryd.f25.ntmps 2 [4] jG [(.tmp 4)] K7 KT:=V5 mix Tryd.func25 (by kernel_rfl) rfl
def x4 :List zu:=[(none,.box 2 (.t 0)),oO 3]
def YK :ZV:=.take [1,2,3,4,5,6,7,8,9,10,11,12,13,14] (oF 4 2 0) (.take [2,3,4,5,6,7,8,9,10,11,12,13,14] (oL 5 4 1) (.take [3,4,5,6,7,8,9,10,11,12,13,14] (none,.r (.bin 6 .neq 0 (.t 5) (.c (.string ⟨#[]⟩)))) (.take [4,5,6,7,8,9,10,11,12,13,14] (oM 7 6) (.take [5,12,13,14] (some (7,
 true),.r (.fldA 8 (.t 2) 0)) (.take [12,13,14] (Xu 7 true 9 8 1) (.take [7,8,9,10,11,12,13,14] (Xu 7 true 10 1 1) (.take [8,9,10,11,12,13,14] (some (7,true),.r (.nilck 11 (.t 10))) (.take [9,10,11,12,13,14] (some (7,true),.r (.fldA 12 (.t 11) 0)) (.take [10,11,12,13,14] (Xu 7 true 13 12 1) (.take [11,
 12,13,14] (some (7,true),.r (.idxA 14 (.t 13) (.c (.int .i64 0)) 1)) (.take [12,13,14] (Xu 7 true 15 14 1) (.take [13,14] (kP 7 true 16 .eql 9 15) (.take [14] (oP 17 7 16) (.one 14 (oS 3 17) .done))))))))))))))
def WK :List Nat:=[0,1,2,3]
def K6 :zW:=.seq (.reg [0,1,3] x4 WK) (.seq (.draw WK YK WK) .ret)
abbrev VH :Nat:=26
theorem gF :vG Tryd.prog Tryd.f26.ntmps 2 [3] WK [(.tmp 3)] K6 VH:=V5 mix Tryd.func26 (by kernel_rfl) rfl
def xZ :List zu:=[oI 4 0,oO 5]
def xY :List zu:=[oM 10 0,oN 11 10,oF 12 11 0,oL 13 12 1,oM 14 1,oX 15 13 14 1,oL 16 15 1,oS 6 16]
def Ju :List zu:=[oM 17 6,(none,.r (.lenS 18 (.t 17))),oB 19 .lss 18 1,oM 20 19,oK 20 false 21 6,(some (20,false),.r (.lenS 22 (.t 21))),Xv 20 false 23 .gtr 22 9,oQ 24 20 23,oM 25 24,oK 25 false 26 6,(some (25,false),.r (.lenS 27 (.t 26))),Xv 25 false 28 .gtr 27 1,oK 25 false 29 28,
 oK 29 true 30 6,(some (29,true),.r (.idxS 31 (.t 30) (.c (.int .i64 0)))),(some (29,true),.r (.bin 32 .eql 0 (.t 31) (.c (.int .u8 48)))),(some (25,false),.r (.pick 33 (.t 29) (.t 32) (.c (.bool false)))),oQ 34 25 33]
def QJ :List zu:=[oI 4 0,oO 5]
def YJ :List zu:=[oI 7 0]
def YI :List zu:=[oM 35 6,(none,.s2b 36 (.t 35)),oE 37 36,(none,.r (.mov 38 (.c (.int .i64 0))))]
def qr :List zu:=[oD 39 .lss 38 37]
def YH :List zu:=[oX 40 36 38 1,oL 41 40 1,oS 9 41]
def jS :List zu:=[oM 42 9,(none,.r (.bin 43 .lss 0 (.t 42) (.c (.int .u8 48)))),oM 44 43,oK 44 false 45 9,(some (44,false),.r (.bin 46 .gtr 0 (.t 45) (.c (.int .u8 57)))),oQ 47 44 46]
def qq :List zu:=[oI 4 0,oO 5]
def Q8 :List zu:=[oM 48 7,(none,.r (.bin 49 .mul 0 (.c (.int .i64 10)) (.t 48))),oM 50 9,(none,.r (.bin 51 .sub 0 (.t 50) (.c (.int .u8 48)))),(none,.r (.conv 52 .i64 (.t 51))),oD 53 .add 49 52,oS 7 53]
def Q7 :List zu:=[oB 54 .add 38 1,oS 38 54]
def Q6 :List zu:=[oM 55 7,oS 4 55,(none,.asg 5 (.c (.bool true)) true)]
def Zz :List Nat:=[0,1,4,5,6,7,9,34,36,37,38,39,47]
def K5 :zW:=.seq (.reg Zz xZ Zz) (.seq (.reg Zz xY Zz) (.seq (.seq (.reg [0,1,4,5,6,7,9,36,37,38,39,47] Ju Zz) (.cond (.t 34) (.seq (.reg Zz QJ Zz) .ret) .skip)) (.seq (.reg Zz YJ Zz) (.seq (.seq (.reg [0,
 1,4,5,6,7,9,34,39,47] YI Zz) (.blk 0 (.loop (.seq (.reg [0,1,4,5,6,7,9,34,36,37,38,47] qr Zz) (.seq (.cond (.t 39) .skip (.exit 0)) (.seq (.blk 1 (.seq (.reg Zz YH Zz) (.seq (.seq (.reg [0,
 1,4,5,6,7,9,34,36,37,38,39] jS Zz) (.cond (.t 47) (.seq (.reg Zz qq Zz) .ret) .skip)) (.reg Zz Q8 Zz)))) (.reg Zz Q7 Zz))))))) (.seq (.reg Zz Q6 Zz) .ret)))))
abbrev KS :Nat:=27
theorem gE :vG Tryd.prog Tryd.f27.ntmps 2 [4,5] Zz [(.tmp 4),(.tmp 5)] K5 KS:=V5 mix Tryd.func27 (by kernel_rfl) rfl
def xX :List zu:=[oZ 8]
def xW :List zu:=[oM 12 3,oB 13 .eql 12 0]
def kq :List zu:=[oZ 8]
def xV :List zu:=[oM 14 1,(none,.r (.bin 15 .eql 0 (.t 14) (.c (.string ⟨#[]⟩))))]
def kp :List zu:=[oM 16 0,oM 17 3,VD 18 50 16 17,oS 8 18]
def xU :List zu:=[oM 19 3,oB 20 .lss 19 0]
def xT :List zu:=[oM 21 0,oM 22 1,VD 23 51 21 22,oB 24 .add 23 1,oS 3 24]
def xS :List zu:=[oM 25 3,oM 26 0,(none,.r (.lenS 27 (.t 26))),oB 28 .add 27 1,(none,.r (.mm 29 false (.t 25) (.t 28))),oS 3 29]
def xR :List zu:=[oM 30 3,(none,.mk 31 (.t 30) (.t 30) 1 16 [.string ⟨#[]⟩]),oS 9 31]
def xQ :List zu:=[oM 32 3,oB 33 .sub 32 1,oS 3 33]
def wT :List zu:=[oI 10 0]
def Q5 :List zu:=[oM 34 10,oM 35 3,oD 36 .lss 34 35]
def wS :List zu:=[oM 37 0,oM 38 1,VD 39 52 37 38,oS 11 39]
def wR :List zu:=[oM 40 11,oB 41 .lss 40 0]
def wQ :List zu:=[oM 42 9,oM 43 10,oM 44 0,oM 45 11,oM 46 2,oD 47 .add 45 46,(none,.r (.slc 48 (.t 44) none (some (.t 47)) 0)),oX 49 42 43 1,oW 49 48 1]
def wP :List zu:=[oM 50 0,oM 51 11,oM 52 1,(none,.r (.lenS 53 (.t 52))),oD 54 .add 51 53,(none,.r (.slc 55 (.t 50) (some (.t 54)) none 0)),oS 0 55]
def wO :List zu:=[oM 56 10,oB 57 .add 56 1,oS 10 57]
def wN :List zu:=[oM 58 9,oM 59 10,oM 60 0,oX 61 58 59 1,oW 61 60 1]
def wM :List zu:=[oM 62 9,oM 63 10,oB 64 .add 63 1,(none,.slc 65 (.t 62) none (some (.t 64)) 1),oS 8 65]
def zT :List Nat:=[0,1,2,3,8,9,10,11,13,15,20,36,41]
def K4 :zW:=.seq (.reg zT xX zT) (.seq (.seq (.reg [0,1,2,3,8,9,10,11,15,20,36,41] xW zT) (.cond (.t 13) (.seq (.reg zT kq zT) .ret) .skip)) (.seq (.seq (.reg [0,
 1,2,3,8,9,10,11,13,20,36,41] xV zT) (.cond (.t 15) (.seq (.reg zT kp zT) .ret) .skip)) (.seq (.seq (.reg [0,1,2,3,8,9,10,11,13,15,36,41] xU zT) (.cond (.t 20) (.reg zT xT zT) .skip)) (.seq (.reg zT xS zT) (.seq (.reg zT xR zT) (.seq (.reg zT xQ zT) (.seq (.reg zT wT zT) (.seq (.blk 0 (.loop (.seq (.seq (.reg [0,
 1,2,3,8,9,10,11,13,15,20,41] Q5 zT) (.cond (.t 36) .skip (.exit 0))) (.blk 1 (.seq (.reg zT wS zT) (.seq (.seq (.reg [0,1,2,3,8,9,10,11,13,15,20,36] wR zT) (.cond (.t 41) (.exit 0) .skip)) (.seq (.reg zT wQ zT) (.seq (.reg zT wP zT) (.reg zT wO zT))))))))) (.seq (.reg zT wN zT) (.seq (.reg zT wM zT) .ret))))))))))
abbrev KR :Nat:=40
theorem gD :vG Tryd.prog Tryd.f40.ntmps 4 [8] zT [(.tmp 8)] K4 KR:=V5 mix Tryd.func40 (by kernel_rfl) rfl
abbrev Ge :Nat:=51
def xP :List zu:=[oI 4 0]
def xO :List zu:=[oM 5 0,oM 6 1,VD 7 64 5 6,oS 4 7]
def wg :List Nat:=[0,1,4]
def K3 :zW:=.seq (.reg wg xP wg) (.seq (.reg wg xO wg) .ret)
abbrev KQ :Nat:=52
theorem gC :vG Tryd.prog Tryd.f52.ntmps 2 [4] wg [(.tmp 4)] K3 KQ:=V5 mix Tryd.func52 (by kernel_rfl) rfl
def xM :List zu:=[oI 4 0]
def xL :List zu:=[oM 14 1,(none,.r (.lenS 15 (.t 14))),oS 5 15]
def YG :List zu:=[oM 17 5,oB 18 .eql 17 0,oM 19 18,oK 19 false 20 1,oK 19 false 21 0,kP 19 false 22 .eql 20 21,oQ 23 19 22,oS 16 23]
def xK :List zu:=[oI 4 0]
def xJ :List zu:=[oM 25 5,oB 26 .eql 25 1,oS 24 26]
def xI :List zu:=[oM 27 0,oM 28 1,(none,.r (.idxS 29 (.t 28) (.c (.int .i64 0)))),VD 30 74 27 29,oS 4 30]
def ko :List zu:=[oM 32 5,oM 33 0,(none,.r (.lenS 34 (.t 33))),oD 35 .geq 32 34,oS 31 35]
def kn :List zu:=[(none,.asg 4 (.c (.int .i64 (- (0+1)))) true)]
def km :List zu:=[oM 37 5,(none,.bad (some 38)),oD 39 .leq 37 38,oM 40 39,oK 40 true 41 0,(some (40,true),.r (.lenS 42 (.t 41))),Xv 40 true 43 .leq 42 64,oP 44 40 43,oS 36 44]
def kj :List zu:=[oM 45 0,oM 46 1,VD 47 75 45 46,oS 4 47]
def vu :List zu:=[oM 48 1,(none,.r (.idxS 49 (.t 48) (.c (.int .i64 0)))),oS 6 49]
def vt :List zu:=[oM 50 1,(none,.r (.idxS 51 (.t 50) (.c (.int .i64 1)))),oS 7 51]
def vr :List zu:=[oI 8 0]
def vq :List zu:=[oM 52 0,(none,.r (.lenS 53 (.t 52))),oM 54 5,oD 55 .sub 53 54,oB 56 .add 55 1,oS 9 56]
def vp :List zu:=[oI 10 0]
def vo :List zu:=[oM 57 8,oM 58 9,oD 59 .lss 57 58]
def vn :List zu:=[oM 60 0,oM 61 8,(none,.r (.idxS 62 (.t 60) (.t 61))),oM 63 6,oD 64 .neq 62 63]
def vm :List zu:=[oM 65 0,oM 66 8,oB 67 .add 66 1,oM 68 9,(none,.r (.slc 69 (.t 65) (some (.t 67)) (some (.t 68)) 0)),oM 70 6,VD 71 74 69 70,oS 11 71]
def vl :List zu:=[oM 72 11,oB 73 .lss 72 0]
def vk :List zu:=[(none,.asg 4 (.c (.int .i64 (- (0+1)))) true)]
def vi :List zu:=[oM 74 8,oM 75 11,oB 76 .add 75 1,oD 77 .add 74 76,oS 8 77]
def vh :List zu:=[oM 78 0,oM 79 8,oB 80 .add 79 1,(none,.r (.idxS 81 (.t 78) (.t 80))),oM 82 7,oD 83 .eql 81 82,oM 84 83,oK 84 true 85 0,oK 84 true 86 8,oK 84 true 87 8,oK 84 true 88 5,kP 84 true 89 .add 87 88,(some (84,true),.r (.slc 90 (.t 85) (some (.t 86)) (some (.t 89)) 0)),
 oK 84 true 91 1,kP 84 true 92 .eql 90 91,oP 93 84 92]
def vg :List zu:=[oM 94 8,oS 4 94]
def vf :List zu:=[oM 95 8,oB 96 .add 95 1,oS 8 96]
def ve :List zu:=[oM 97 10,oB 98 .add 97 1,oS 10 98]
def vd :List zu:=[oM 99 5,(none,.bad (some 100)),oD 101 .leq 99 100,oM 102 101,oK 102 true 103 10,oK 102 true 104 8,(some (102,true),.call 105 (.f 56) [(.t 104,false)]),kP 102 true 106 .gtr 103 105,oP 107 102 106]
def vc :List zu:=[oM 108 0,oM 109 8,(none,.r (.slc 110 (.t 108) (some (.t 109)) none 0)),oM 111 1,VD 112 75 110 111,oS 12 112]
def vb :List zu:=[oM 113 12,oB 114 .geq 113 0]
def U9 :List zu:=[oM 115 12,oM 116 8,oD 117 .add 115 116,oS 4 117]
def U8 :List zu:=[(none,.asg 4 (.c (.int .i64 (- (0+1)))) true)]
def U7 :List zu:=[oM 118 5,(none,.bad (some 119)),oD 120 .gtr 118 119,oM 121 120,oK 121 true 122 10,oK 121 true 123 8,(some (121,true),.r (.bin 124 .shr 0 (.t 123) (.c (.int .u64 4)))),(some (121,true),.r (.bin 125 .add 0 (.c (.int .i64 4)) (.t 124))),kP 121 true 126 .geq 122 125,
 oP 127 121 126,oM 128 127,oK 128 true 129 8,oK 128 true 130 9,kP 128 true 131 .lss 129 130,oP 132 128 131]
def U6 :List zu:=[oM 133 0,oM 134 8,(none,.r (.slc 135 (.t 133) (some (.t 134)) none 0)),oM 136 1,VD 137 76 135 136,oS 13 137]
def U5 :List zu:=[oM 138 13,oB 139 .lss 138 0]
def U4 :List zu:=[(none,.asg 4 (.c (.int .i64 (- (0+1)))) true)]
def U3 :List zu:=[oM 140 8,oM 141 13,oD 142 .add 140 141,oS 4 142]
def U0 :List zu:=[(none,.asg 4 (.c (.int .i64 (- (0+1)))) true)]
def zt :List Nat:=[0,1,4,5,6,7,8,9,10,11,12,13,16,24,31,36,59,64,73,93,107,114,132,139]
def K2 :zW:=.seq (.reg zt xM zt) (.seq (.reg zt xL zt) (.seq (.blk 0 (.seq (.reg zt YG zt) (.cond (.t 16) (.seq (.reg zt xK zt) .ret) (.seq (.reg zt xJ zt) (.cond (.t 24) (.seq (.reg zt xI zt) .ret) (.seq (.reg zt ko zt) (.cond (.t 31) (.seq (.reg zt kn zt) .ret) (.seq (.reg zt km zt) (.cond (.t 36) (.seq (.reg zt kj zt) .ret) .skip))))))))) (.seq (.reg zt vu zt) (.seq (.reg zt vt zt) (.seq (.reg zt vr zt) (.seq (.reg zt vq zt) (.seq (.reg zt vp zt) (.seq (.blk 1 (.loop (.seq (.seq (.reg [0,
 1,4,5,6,7,8,9,10,11,12,13,16,24,31,36,64,73,93,107,114,132,139] vo zt) (.cond (.t 59) .skip (.exit 1))) (.blk 2 (.seq (.seq (.reg [0,1,4,5,6,7,8,9,10,11,12,13,16,24,31,36,59,73,93,107,114,132,139] vn zt) (.cond (.t 64) (.seq (.reg zt vm zt) (.seq (.seq (.reg [0,
 1,4,5,6,7,8,9,10,11,12,13,16,24,31,36,59,64,93,107,114,132,139] vl zt) (.cond (.t 73) (.seq (.reg zt vk zt) .ret) .skip)) (.reg zt vi zt))) .skip)) (.seq (.seq (.reg [0,
 1,4,5,6,7,8,9,10,11,12,13,16,24,31,36,59,64,73,107,114,132,139] vh zt) (.cond (.t 93) (.seq (.reg zt vg zt) .ret) .skip)) (.seq (.reg zt vf zt) (.seq (.reg zt ve zt) (.seq (.reg [0,
 1,4,5,6,7,8,9,10,11,12,13,16,24,31,36,59,64,73,93,114,132,139] vd zt) (.cond (.t 107) (.seq (.reg zt vc zt) (.seq (.seq (.reg [0,1,4,5,6,7,8,9,10,11,12,13,16,24,31,
 36,59,64,73,93,107,132,139] vb zt) (.cond (.t 114) (.seq (.reg zt U9 zt) .ret) .skip)) (.seq (.reg zt U8 zt) .ret))) (.seq (.reg [0,
 1,4,5,6,7,8,9,10,11,12,13,16,24,31,36,59,64,73,93,107,114,139] U7 zt) (.cond (.t 132) (.seq (.reg zt U6 zt) (.seq (.seq (.reg [0,1,4,5,6,7,8,9,10,11,12,13,16,24,31,
 36,59,64,73,93,107,114,132] U5 zt) (.cond (.t 139) (.seq (.reg zt U4 zt) .ret) .skip)) (.seq (.reg zt U3 zt) .ret))) .skip)))))))))))) (.seq (.reg zt U0 zt) .ret)))))))))
abbrev KP :Nat:=64
theorem gB :vG Tryd.prog Tryd.f64.ntmps 2 [4] zt [(.tmp 4)] K2 KP:=V5 mix Tryd.func64 (by kernel_rfl) rfl
abbrev Gd :Nat:=74
end Go.Proofs.YtneiihheeghdcaaDoor

namespace Go.Proofs
open Go.Shelf
def Tryd.lays217_ren :Go.Shelf.Ren:=⟨fun|217=>74|266=>82|n=>n,fun|9=>9|5=>5|3=>3|n=>n,fun|n=>n⟩
theorem Tryd.lays217 :Go.Proofs.Lays.n217 Tryd.prog Tryd.lays217_ren:={
 mixed:=by kernel_rfl
 f217:=Tryd.func74.trans (congrArg some (by kernel_rfl))
 f266:=Tryd.func82.trans (congrArg some (by kernel_rfl))
 t3:=Tryd.underlying3
 a3:=Tryd.isAgg3
 z3:=Tryd.sizeOf3
 v3:=Tryd.zeroValue3
 t5:=Tryd.underlying5
 a5:=Tryd.isAgg5
 z5:=Tryd.sizeOf5
 v5:=Tryd.zeroValue5
 t9:=Tryd.underlying9
 a9:=Tryd.isAgg9
 z9:=Tryd.sizeOf9
 v9:=Tryd.zeroValue9}
open Go.RowKit Go.Lib in
theorem Tryd.stringslite_IndexByte (s:ByteArray)(c:Int)(w:World):
 Calls Tryd.prog 74 #[.string s,.int .u8 c] w fun e w'=>e= .returned (.int .i64 (Lib.indexByte s.data.toList c.toNat.toUInt8))∧w'=w:=Any.stringslite_IndexByte Tryd.lays217 s c w
def Tryd.lays138_ren :Go.Shelf.Ren:=⟨fun|138=>51|195=>61|218=>63|143=>52|219=>64|217=>74|225=>75|224=>56|267=>76|266=>82|314=>83|n=>n,fun|9=>9|3=>3|4=>4|5=>5|0=>0|46=>22|146=>98|51=>97|n=>n,fun|1=>0|n=>n⟩
theorem Tryd.lays138 :Go.Proofs.Lays.n138 Tryd.prog Tryd.lays138_ren:={
 mixed:=by kernel_rfl
 f138:=Tryd.func51.trans (congrArg some (by kernel_rfl))
 f143:=Tryd.func52.trans (congrArg some (by kernel_rfl))
 f195:=Tryd.func61.trans (congrArg some (by kernel_rfl))
 f217:=Tryd.func74.trans (congrArg some (by kernel_rfl))
 f218:=Tryd.func63.trans (congrArg some (by kernel_rfl))
 f219:=Tryd.func64.trans (congrArg some (by kernel_rfl))
 f224:=Tryd.func56.trans (congrArg some (by kernel_rfl))
 f225:=Tryd.func75.trans (congrArg some (by kernel_rfl))
 f266:=Tryd.func82.trans (congrArg some (by kernel_rfl))
 f267:=Tryd.func76.trans (congrArg some (by kernel_rfl))
 f314:=Tryd.func83.trans (congrArg some (by kernel_rfl))
 t0:=Tryd.underlying0
 a0:=Tryd.isAgg0
 z0:=Tryd.sizeOf0
 v0:=Tryd.zeroValue0
 t3:=Tryd.underlying3
 a3:=Tryd.isAgg3
 z3:=Tryd.sizeOf3
 v3:=Tryd.zeroValue3
 t4:=Tryd.underlying4
 a4:=Tryd.isAgg4
 z4:=Tryd.sizeOf4
 v4:=Tryd.zeroValue4
 t5:=Tryd.underlying5
 a5:=Tryd.isAgg5
 z5:=Tryd.sizeOf5
 v5:=Tryd.zeroValue5
 t9:=Tryd.underlying9
 a9:=Tryd.isAgg9
 z9:=Tryd.sizeOf9
 v9:=Tryd.zeroValue9
 t46:=Tryd.underlying22
 a46:=Tryd.isAgg22
 z46:=Tryd.sizeOf22
 v46:=Tryd.zeroValue22
 t51:=Tryd.underlying97
 a51:=Tryd.isAgg97
 z51:=Tryd.sizeOf97
 v51:=Tryd.zeroValue97
 t146:=Tryd.underlying98
 a146:=Tryd.isAgg98
 z146:=Tryd.sizeOf98
 v146:=Tryd.zeroValue98
 g1:=by kernel_rfl}
theorem Tryd.strings_Count_one (s:ByteArray)(c:UInt8)(w:World):
 Calls Tryd.prog 51 #[.string s,.string ⟨#[c]⟩] w fun e w'=>e= .returned (.int .i64 (Lib.countByte s.data.toList c))∧w'=w:=Any.strings_Count_one Tryd.lays138 s c w
end Go.Proofs

namespace Go.Ga.Gl
open Go Go.Ga
def jv (l:List UInt8):ByteArray:=⟨l.toArray⟩
theorem JG (l:List UInt8):(jv l).data.toList=l:=by simp[jv]
theorem WW (l:List UInt8):(jv l).size=l.length:=by simp[jv,ByteArray.size]
theorem k7 (a b:List UInt8):jv a++jv b=jv (a++b):=by
 apply ByteArray.ext
 simp[jv]
theorem k5 (l:List UInt8)(a b:Nat):(jv l).extract a b=jv ((l.take b).drop a):=by
 apply ByteArray.ext
 apply Array.ext'
 simp[jv,List.extract_eq_take_drop,List.drop_take]
theorem gi (l:List UInt8)(k:Nat):(jv l).data.getD k 0=l.getD k 0:=by
 simp[jv]
theorem yg (s:ByteArray):∀(n i:Nat) (r:List UInt8),s.size - i=n→ByteArray.toList.loop s i r=r.reverse++s.data.toList.drop i
 | 0,i,r,h=>by
   unfold ByteArray.toList.loop
   rw[if_neg (by omega),List.drop_eq_nil_of_le (by show s.data.toList.length≤i;rw[Array.length_toList];show s.size≤i;omega),List.append_nil]
 | n+1,i,r,h=>by
   have hi:i<s.data.toList.length:=by rw[Array.length_toList];show i<s.size;omega
   unfold ByteArray.toList.loop
   rw[if_pos (by omega),yg s n (i+1) _ (by omega),List.drop_eq_getElem_cons hi]
   have e:s.get! i=s.data.toList[i]:=by
    have h2:i<s.data.size:=by simpa using hi
    show s.data[i]! =_
    rw[getElem!_pos s.data i h2];simp
   rw[e];simp
theorem u7 (s:ByteArray):s.toList=s.data.toList:=by
 unfold ByteArray.toList
 rw[yg s s.size 0 [] (by omega)];simp
theorem yQ (l:List UInt8):(jv l).toList=l:=by rw[u7,JG]
def zH (c:UInt8):List UInt8→List (List UInt8)
 |[]=>[[]]
 | b::r=>if b=c then []::zH c r else match zH c r with
   |p::ps=>(b::p)::ps
   |[]=>[[b]]
theorem jW (c b:UInt8)(r:List UInt8):zH c (b::r)=if b=c then []::zH c r else match zH c r with
 |p::ps=>(b::p)::ps
 |[]=>[[b]]:=rfl
theorem xq (b:UInt8)(l:List UInt8)(c:UInt8):Lib.indexByte (b::l) c=if b==c then 0 else if Lib.indexByte l c== -1 then -1 else Lib.indexByte l c+1:=rfl
theorem QS (c:UInt8):∀l,zH c l≠ []
 |[]=>by simp[zH]
 | b::r=>by
   unfold zH
   split
   · simp
   · split<;>simp
theorem q6 (c:UInt8):∀l,(zH c l).length=l.count c+1
 |[]=>rfl
 | b ::r=>by
   unfold zH
   have ih:=q6 c r
   by_cases h:b=c
   · rw[if_pos h,List.length_cons,ih,h,List.count_cons_self]
   · rw[if_neg h,List.count_cons_of_ne h]
     have hne:=QS c r
     cases hs:zH c r with
     |nil=>exact absurd hs hne
     |cons p ps=>rw[hs] at ih;exact ih
theorem JR (c:UInt8)(l:List UInt8):l.count c≤l.length:=List.count_le_length
theorem yS (c:UInt8):∀l:List UInt8,∀w∈zH c l,w.length≤l.length
 | [],w,h=>by
   simp[zH] at h;subst h;simp
 | b ::r,w,h=>by
   rw[jW] at h
   have ih:=yS c r
   split at h
   · rcases List.mem_cons.1 h with rfl|h
     · simp
     · have:=ih w h;simp;omega
   · cases hs:zH c r with
     |nil=>exact absurd hs (QS c r)
     | cons p ps=>
       rw[hs] at h ih
       rcases List.mem_cons.1 h with rfl|h
       · have:=ih p (.head _);simp;omega
       · have:=ih w (.tail _ h);simp;omega
theorem J6 {c:UInt8}:∀{l:List UInt8},l.count c=0→zH c l=[l]
 |[],_=>rfl
 | b::r,h=>by
   have hb:b≠c:=fun e=>by rw[e,List.count_cons_self] at h;omega
   rw[List.count_cons_of_ne hb] at h
   unfold zH
   rw[if_neg hb,J6 h]
theorem VS {c:UInt8}:∀{l:List UInt8},0<l.count c→∃m:Nat,Lib.indexByte l c=(m:Int)∧m<l.length∧zH c l=l.take m::zH c (l.drop (m+1))∧(l.drop (m+1)).count c+1=l.count c
 |[],h=>by simp at h
 | b ::r,h=>by
   rw[xq,jW]
   by_cases hb:b=c
   · subst hb
     exact⟨0,by simp,by simp,by simp,by simp⟩
   · rw[List.count_cons_of_ne hb] at h
     obtain⟨m,h1,h2,h3,h4⟩:=VS h
     have hbe:(b==c)=false:=by simpa using hb
     refine⟨m+1,?_,by simp;omega,?_,?_⟩
     · rw[hbe,h1]
       have:((m:Int)== -1)=false:=by simp
       simp[this]
     · rw[if_neg hb,h3];simp
     · rw[List.count_cons_of_ne hb];simpa using h4
def jc (ps:List (List UInt8)):List za:=ps.map fun p=> .sc (.string (jv p))
theorem Zk (ps:List (List UInt8)):(jc ps).length=ps.length:=by simp[jc]
theorem vU {ps:List (List UInt8)}{k:Nat}{p:List UInt8}(h:ps[k]?=some p):(jc ps)[k]?=some (.sc (.string (jv p))):=by simp[jc,h]
theorem WU (ps:List (List UInt8))(k:Nat)(p:List UInt8):(jc ps).set k (.sc (.string (jv p)))=jc (ps.set k p):=by simp[jc,List.map_set]
theorem vV (ps:List (List UInt8))(a b:Nat):Zm (jc ps) 1 a b=jc ((ps.drop a).take (b - a)):=by simp[Zm,jc,List.map_take,List.map_drop]
theorem q5 (ps:List (List UInt8)):za.plainL (jc ps)=true:=(jj (fun p=> .string (jv p)) ps).1
theorem Uc (ps:List (List UInt8)):za.flatL (jc ps)=true:=(jj (fun p=> .string (jv p)) ps).2
theorem yi :∀ps:List (List UInt8),za.cellOkL (jc ps)=true
 |[]=>rfl
 | p::ps=>by
   have:=yi ps
   simpa[jc,za.cellOkL,za.cellOk] using this
theorem qS (ps:List (List UInt8)):za.copyableL (jc ps)=true:=plain_copyableL _ (q5 ps)
theorem WV (ps:List (List UInt8)):za.freezeL (jc ps)=jc ps:=copyable_freezeL _ (qS ps)
theorem wr (ps:List (List UInt8)):za.ids0L (jc ps)=true:=plain_ids0L _ (q5 ps)
theorem vT (g:Nat→Option Nat)(ps:List (List UInt8)):za.renL g (jc ps)=jc ps:=ids0_renL g _ (wr ps)
theorem Ub (n:Nat):zv [.string (jv [])] n=jc (List.replicate n []):=by
 simp only[zv,List.map]
 induction n with
 |zero=>rfl
 |succ n ih=>simp only[List.replicate_succ,List.flatten_cons,ih];rfl
theorem gu (l:List UInt8):ByteArray.mk l.toArray=jv l:=rfl
theorem k4 (a b:List UInt8):Jf .eql (jv a) (jv b)=some (.bool (decide (a=b))):=by
 unfold Jf
 simp only[yQ]
theorem k0 (a b:List UInt8):Jf .neq (jv a) (jv b)=some (.bool (!decide (a=b))):=by
 unfold Jf
 simp only[yQ]
theorem k8 (a b:List UInt8):Jf .add (jv a) (jv b)=if a.length+b.length≤9223372036854775807 then some (.string (jv (a++b))) else none:=by
 unfold Jf
 simp only[WW,k7]
theorem k6 {a b:List UInt8}(h:a.length+b.length≤1000000000000):Jf .add (jv a) (jv b)=some (.string (jv (a++b))):=by
 rw[k8,if_pos (by omega)]
attribute [go_sem] JG gu k4 k0 WW gi k5 Zk q5 Uc yi qS WV wr vT
end Go.Ga.Gl
set_option maxRecDepth 100000
set_option maxHeartbeats 4000000
namespace Go.Proofs.YtneiihheeghdcaaDoor
open Go Go.Ga Go.Ga.Gl
theorem kh (l:List UInt8)(c:UInt8):zJ Tryd.prog [] Ge [.sc (.string (jv l)),.sc (.string ⟨#[c]⟩)] [] fun r h'=>r= .sc (.int .i64 ((l.count c:Nat):Int))∧h'=[]:=
 yr (us:=[.string (jv l),.string ⟨#[c]⟩]) (by kernel_rfl) fun w=>by
  have:=Tryd.strings_Count_one (jv l) c w
  rw[JG] at this
  exact this
theorem vZ (l:List UInt8)(c:Int):zJ Tryd.prog [] Gd [.sc (.string (jv l)),.sc (.int .u8 c)] [] fun r h'=>r= .sc (.int .i64 (Lib.indexByte l c.toNat.toUInt8))∧h'=[]:=
 yr (us:=[.string (jv l),.int .u8 c]) (by kernel_rfl) fun w=>by
  have:=Tryd.stringslite_IndexByte (jv l) c w
  rw[JG] at this
  exact this
theorem vY (l:List UInt8):zJ Tryd.prog [] KP [.sc (.string (jv l)),.sc (.string ⟨#[32]⟩)] [] fun r h'=>r= .sc (.int .i64 (Lib.indexByte l 32))∧h'=[]:=by
 have h8:(((32:UInt8).toNat:Int))=32:=rfl
 have s1:(jv [32]).size=1:=rfl
 refine gB rfl ?_
 unfold K2 zt
 refine zc fun KY hKY=>?_
 simp only[go_sem,xM]
 apply hKY
 refine zc fun KY hKY=>?_
 simp only[go_sem,xL,List.length_cons,List.length_nil]
 apply hKY
 refine zh fun X1 hn1 he1 hr1=>?_
 refine Ze fun X2 hn2 he2 hf2 hr2=>?_
 by_cases e:l=[32]
 · subst e
   refine zc fun KY hKY=>?_
   simp only[go_sem,YG,List.length_cons,List.length_nil]
   apply hKY
   refine Qm ?_
   refine zc fun KY hKY=>?_
   simp only[go_sem,xK]
   apply hKY
   refine zA ?_
   repeat (first|refine hr2 _ ?_|refine hr1 _ ?_)
   simp only[go_sem]
   rfl
 · have hd:decide (([32]:List UInt8)=l)=false:=decide_eq_false fun h=>e h.symm
   refine zc fun KY hKY=>?_
   simp only[go_sem,YG,hd,List.length_cons,List.length_nil]
   apply hKY
   refine QQ ?_
   refine zc fun KY hKY=>?_
   simp only[go_sem,xJ]
   apply hKY
   refine Qm ?_
   refine zc fun KY hKY=>?_
   simp only[go_sem,xI,List.length_cons,List.length_nil]
   refine Zd rfl (by simp only[go_sem]<;>rfl) ((vZ l 32).mono ?_)
   rintro rr hh ⟨rfl,rfl⟩
   refine⟨rfl,rfl,rfl,?_⟩
   simp only[go_sem]
   apply hKY
   refine zA ?_
   repeat (first|refine hr2 _ ?_|refine hr1 _ ?_)
   simp only[go_sem]
   rfl
theorem Ue (l:List UInt8):zJ Tryd.prog [] KQ [.sc (.string (jv l)),.sc (.string (jv [32]))] [] fun r h'=>r= .sc (.int .i64 (Lib.indexByte l 32))∧h'=[]:=by
 refine gC rfl ?_
 unfold K3 wg
 refine zc fun KY hKY=>?_
 simp only[go_sem,xP]
 apply hKY
 refine zc fun KY hKY=>?_
 simp only[go_sem,xO]
 refine Zd rfl (by simp only[go_sem]<;>rfl) ((vY l).mono ?_)
 rintro rr hh ⟨rfl,rfl⟩
 refine⟨rfl,rfl,rfl,?_⟩
 simp only[go_sem]
 apply hKY
 refine zA ?_
 simp only[go_sem]
theorem xv (l:List UInt8)(hl:l.length≤1000000000):zJ Tryd.prog [] KR [.sc (.string (jv l)),.sc (.string (jv [32])),.sc (.int .i64 0),.sc (.int .i64 (-1))] [] fun r h'=>r= .own (some 1) (jc (zH 32 l))∧h'=[]:=by
 obtain⟨c,hc⟩:∃c,c=l.count 32:=⟨_,rfl⟩
 have hcl:=JR 32 l
 rw[←hc] at hcl
 have hC:=kh l 32
 rw[←hc] at hC
 have w1:IntKind.i64.wrap ((c:Int)+1)=((c+1:Nat):Int):=by rw[IntWalk.i64_in _ (by omega)];omega
 have w2:IntKind.i64.wrap ((l.length:Int)+1)=((l.length+1:Nat):Int):=by rw[IntWalk.i64_in _ (by omega)];omega
 have hmn:min ((c+1:Nat):Int) ((l.length+1:Nat):Int)=((c+1:Nat):Int):=by omega
 have hmk:16*(c+1)≤140737488355328∧((c+1:Nat):Int)≤9223372036854775807:=by omega
 have w3:IntKind.i64.wrap (((c+1:Nat):Int) - 1)=(c:Int):=by rw[IntWalk.i64_in _ (by omega)];omega
 refine gD rfl ?_
 unfold K4 zT
 refine zc fun KY hKY=>?_
 simp only[go_sem,xX]
 apply hKY
 refine zh fun X1 hn1 he1 hr1=>?_
 refine zc fun KY hKY=>?_
 simp only[go_sem,xW]
 apply hKY
 refine QQ ?_
 refine zz ?_
 repeat (first|refine hn1 _ ?_|refine he1 _ _ ?_)
 refine zh fun X2 hn2 he2 hr2=>?_
 refine zc fun KY hKY=>?_
 simp only[go_sem,xV]
 apply hKY
 refine QQ ?_
 refine zz ?_
 repeat (first|refine hn2 _ ?_|refine he2 _ _ ?_|refine hn1 _ ?_|refine he1 _ _ ?_)
 refine zh fun X3 hn3 he3 hr3=>?_
 refine zc fun KY hKY=>?_
 simp only[go_sem,xU]
 apply hKY
 refine Qm ?_
 refine ZH fun KY hKY=>?_
 simp only[go_sem,xT]
 refine Zd rfl (by simp only[go_sem]<;>rfl) ((hC).mono ?_)
 rintro rr hh ⟨rfl,rfl⟩
 refine⟨rfl,rfl,rfl,?_⟩
 simp only[go_sem,w1]
 apply hKY
 repeat (first|refine hn3 _ ?_|refine he3 _ _ ?_|refine hn2 _ ?_|refine he2 _ _ ?_|refine hn1 _ ?_|refine he1 _ _ ?_)
 refine zc fun KY hKY=>?_
 simp only[go_sem,xS,w2,hmn]
 apply hKY
 refine zc fun KY hKY=>?_
 simp only[go_sem,xR,hmk,Int.le_refl,Ub]
 apply hKY
 refine zc fun KY hKY=>?_
 simp only[go_sem,xQ,w3]
 apply hKY
 refine zc fun KY hKY=>?_
 simp only[go_sem,wT]
 apply hKY
 refine zh fun X4 hn4 he4 hr4=>?_
 refine Ze fun X5 hn5 he5 hf5 hr5=>?_
 try simp only[go_sem]
 refine q1 (α:=Nat×List (List UInt8)×List UInt8) [11,36,41] (fun(i,z,r)=>[(0,.sc (.string (jv r))),(9,.own (some 1) (jc (z++List.replicate (c+1 - i) []))),(10,.sc (.int .i64 (i:Int)))]) (fun(i,z,r)=>[]) (fun(i,z,r) q=>i≤c∧z.length=i∧zH 32 l=z++zH 32 r∧i+r.count 32=c∧r.length≤l.length∧q=c - i) ((0,[],l)) (c) rfl (by first|(simp only[go_sem,zp,zw];done)|with_reducible rfl|rfl) (⟨Nat.zero_le _,rfl,rfl,by omega,Nat.le_refl _,rfl⟩) ?_
 rintro⟨i,z,r⟩ q ⟨hi,hzl,hsp,hcr,hrl,rfl⟩ X6 hn6 he6 hr6
 simp only[go_sem,zp,zw]
 refine zh fun X7 hn7 he7 hr7=>?_
 rcases Nat.lt_or_ge i c with hi2|hi2
 · have hdx:decide ((i:Int)<(c:Int))=true:=decide_eq_true (by omega)
   obtain⟨m,hm1,hm2,hm3,hm4⟩:=VS (c:=32) (l:=r) (by omega)
   have hI:=Ue r
   rw[hm1] at hI
   have hd0:decide ((m:Int)<0)=false:=decide_eq_false (by omega)
   have wm0:IntKind.i64.wrap ((m:Int)+0)=(m:Int):=by rw[IntWalk.i64_in _ (by omega)];omega
   have wm1:IntKind.i64.wrap ((m:Int)+1)=((m+1:Nat):Int):=by rw[IntWalk.i64_in _ (by omega)];omega
   have hrep:List.replicate (c+1 - i) ([]:List UInt8)=[]::List.replicate (c+1 - (i+1)) []:=by
    rw[show c+1 - i=(c+1 - (i+1))+1 by omega,List.replicate_succ]
   have hset:(z++List.replicate (c+1 - i) []).set i (r.take m)=(z++[r.take m])++List.replicate (c+1 - (i+1)) []:=by
    rw[List.set_append_right _ _ (by omega),hrep,show i - z.length=0 by omega];simp
   have hzn:(z++List.replicate (c+1 - i) ([]:List UInt8)).length=c+1:=by simp;omega
   refine zc fun KY hKY=>?_
   simp only[go_sem,Q5,hdx]
   apply hKY
   refine Qm ?_
   refine zz ?_
   repeat (first|refine hn7 _ ?_|refine he7 _ _ ?_|refine he6 _ _ ?_|refine hn5 _ ?_|refine he5 _ ?_|refine hf5 _ _ (by decide) ?_|refine hn4 _ ?_|refine he4 _ _ ?_|refine hn3 _ ?_|refine he3 _ _ ?_|refine hn2 _ ?_|refine he2 _ _ ?_|refine hn1 _ ?_|refine he1 _ _ ?_)
   refine Ze fun X8 hn8 he8 hf8 hr8=>?_
   refine zc fun KY hKY=>?_
   simp only[go_sem,wS]
   refine Zd rfl (by simp only[go_sem]<;>rfl) ((hI).mono ?_)
   rintro rr hh ⟨rfl,rfl⟩
   refine⟨rfl,rfl,rfl,?_⟩
   simp only[go_sem]
   apply hKY
   refine zh fun X9 hn9 he9 hr9=>?_
   refine zc fun KY hKY=>?_
   simp only[go_sem,wR,hd0]
   apply hKY
   refine QQ ?_
   refine zz ?_
   repeat (first|refine hn9 _ ?_|refine he9 _ _ ?_|refine hn8 _ ?_|refine he8 _ ?_|refine hf8 _ _ (by decide) ?_|refine hn7 _ ?_|refine he7 _ _ ?_|refine he6 _ _ ?_|refine hn5 _ ?_|refine he5 _ ?_|refine hf5 _ _ (by decide) ?_|refine hn4 _ ?_|refine he4 _ _ ?_|refine hn3 _ ?_|refine he3 _ _ ?_|refine hn2 _ ?_|refine he2 _ _ ?_|refine hn1 _ ?_|refine he1 _ _ ?_)
   refine zc fun KY hKY=>?_
   simp only[go_sem,wQ,wm0,Zk,hzn,(show i<c+1 by omega),(show m≤r.length by omega),WU,hset]
   apply hKY
   refine zc fun KY hKY=>?_
   simp only[go_sem,wP,wm1,(show m+1≤r.length by omega),List.length_cons,List.length_nil,List.take_length,Nat.le_refl]
   apply hKY
   refine ZH fun KY hKY=>?_
   simp only[go_sem,wO,UN (show i<4611686018427387904 by omega)]
   apply hKY
   repeat (first|refine hn9 _ ?_|refine he9 _ _ ?_|refine hn8 _ ?_|refine he8 _ ?_|refine hf8 _ _ (by decide) ?_|refine hn7 _ ?_|refine he7 _ _ ?_)
   refine hn6 _ ((i+1,z++[r.take m],r.drop (m+1))) (c - (i+1)) (by omega) (by first|(simp only[go_sem,zp,zw];done)|with_reducible rfl) ?_
   exact⟨hi2,by simp[hzl],by rw[hsp,hm3];simp,by omega,by simp;omega,rfl⟩
 obtain rfl:i=c:=by omega
 have hdx:decide ((i:Int)<(i:Int))=false:=decide_eq_false (by omega)
 have hzn:(z++List.replicate (i+1 - i) ([]:List UInt8)).length=i+1:=by simp;omega
 have hset:(z++List.replicate (i+1 - i) []).set i r=z++[r]:=by
  rw[List.set_append_right _ _ (by omega),show i+1 - i=1 by omega,show i - z.length=0 by omega];simp
 have hw:IntKind.i64.wrap ((i:Int)+1)=((i+1:Nat):Int):=by rw[IntWalk.i64_in _ (by omega)];omega
 have hzl2:(z++[r]).length=i+1:=by simp[hzl]
 refine zc fun KY hKY=>?_
 simp only[go_sem,Q5,hdx]
 apply hKY
 refine QQ ?_
 refine jF ?_
 repeat (first|refine hn7 _ ?_|refine he7 _ _ ?_|refine he6 _ _ ?_|refine hn5 _ ?_|refine he5 _ ?_|refine hf5 _ _ (by decide) ?_|refine hn4 _ ?_|refine he4 _ _ ?_|refine hn3 _ ?_|refine he3 _ _ ?_|refine hn2 _ ?_|refine he2 _ _ ?_|refine hn1 _ ?_|refine he1 _ _ ?_)
 refine zc fun KY hKY=>?_
 simp only[go_sem,wN,Zk,hzn,(show i<i+1 by omega),WU,hset]
 apply hKY
 refine zc fun KY hKY=>?_
 simp only[go_sem,wM,hw,Zk,hzl2,Nat.le_refl,vV]
 apply hKY
 refine zA ?_
 repeat (first|refine hr7 _ ?_|refine hr6 _ ?_|refine hr5 _ ?_|refine hr4 _ ?_|refine hr3 _ ?_|refine hr2 _ ?_|refine hr1 _ ?_)
 simp only[go_sem]
 rw[hsp,J6 (by omega)]
 simp
 rw[List.take_of_length_le (by simp;omega)]
theorem vX (l:List UInt8)(hl:l.length≤1000000000):zJ Tryd.prog [] KV [.sc (.string (jv l)),.sc (.string (jv [32]))] [] fun r h'=>r= .own (some 1) (jc (zH 32 l))∧h'=[]:=by
 refine gI rfl ?_
 unfold K9 wh
 refine zc fun KY hKY=>?_
 simp only[go_sem,Xf]
 apply hKY
 refine zc fun KY hKY=>?_
 simp only[go_sem,Xe]
 apply Jt [] [] false none rfl
 iterate 8 (first|(simp only[go_sem,zQ]<;>rfl)|rfl)
 refine(xv l hl).mono ?_
 rintro _ _ ⟨rfl,rfl⟩
 refine⟨Nat.le_of_ble_eq_true rfl,(fun hh=>by cases hh),?_⟩
 simp only[go_sem,ja,zb.after]
 apply hKY
 refine zA ?_
 simp only[go_sem]
end Go.Proofs.YtneiihheeghdcaaDoor

namespace Go.Ga.Gl
open Go Go.Ga
def Y2 :List (List UInt8×Int):=[([],0),([118,101,114,116,105,99,101,115],1),([97,100,100],2),([114,101,109,111,118,101],2),([103,114,111,119],0),([99,117,116],1),([109,97,116,99,104],1),([103,97,108,108,97,105],0),([98,97,114,114,105,101,114],0),([115,105,100,101,115],0),([98,108,111,99,107,115],0),([102,97,99,116,111,114], -1),([99,111,118,101,114],0),([99,108,97,115,115,105,102,121],0),([116,101,108,108],0)]
def Wt (x:List UInt8×Int):List za:=[.sc (.string (jv x.1)),.sc (.int .i64 x.2)]
theorem yI (x:List UInt8×Int):(Wt x).length=2:=rfl
def yA (b:UInt8):Bool:=decide (48≤b.toNat)&&decide (b.toNat≤57)
def val (w:List UInt8):Nat:=w.foldl (fun n b=>10*n+(b.toNat - 48)) 0
theorem Qo (w:List UInt8)(b:UInt8):val (w++[b])=10*val w+(b.toNat - 48):=by simp[val]
theorem vI :∀w:List UInt8,w.all yA=true→val w<10^w.length:=by
 intro w
 induction hn:w.length generalizing w with
 | zero=>
   intro _
   have:w=[]:=List.length_eq_zero_iff.1 hn
   subst this;decide
 | succ n ih=>
   intro h
   have hne:w≠ []:=by intro e;rw[e] at hn;simp at hn
   obtain⟨v,b,rfl⟩:∃v b,w=v++[b]:=⟨w.dropLast,w.getLast hne,(List.dropLast_concat_getLast hne).symm⟩
   rw[List.all_append,Bool.and_eq_true] at h
   have hv:=ih v (by simp at hn;exact hn) h.1
   have hb:yA b=true:=by simpa using h.2
   unfold yA at hb
   rw[Bool.and_eq_true,decide_eq_true_iff,decide_eq_true_iff] at hb
   rw[Qo,Nat.pow_succ]
   omega
def jE (w:List UInt8):Option Nat:=if w.length<1∨9<w.length∨(1<w.length∧w.getD 0 0=48)∨w.all yA=false then none else some (val w)
def ZE :List (List UInt8)→Option (List Nat)
 |[]=>some []
 | w::ws=>match jE w with
   |none=>none
   |some n=>(ZE ws).map (n:: ·)
def hit (p:List UInt8)(x:List UInt8×Int):Bool:=decide (x.1≠ [])&&decide (x.1=p)
structure kN where
 kind:Nat
 a:Nat
 b:Nat
 list:List Nat
def Zn (l:List UInt8):kN×Int:=
 if 65536<l.length then(⟨0,0,0,[]⟩,8) else
 match Y2.findIdx? (hit ((zH 32 l).headD [])) with
 |none=>(⟨0,0,0,[]⟩,15)
 | some k=>
   if 0≤(Y2.getD k ([],0)).2∧((zH 32 l).length:Int)≠(Y2.getD k ([],0)).2+1 then(⟨0,0,0,[]⟩,15) else
   match ZE (zH 32 l).tail with
   |none=>(⟨0,0,0,[]⟩,15)
   | some ns=>
     if(Y2.getD k ([],0)).2<0 then(⟨k,0,0,ns⟩,0) else
     if k=6∧ns.getD 0 0≠1∧ns.getD 0 0≠2 then(⟨0,0,0,[]⟩,15) else(⟨k,ns.getD 0 0,ns.getD 1 0,[]⟩,0)
def kN.cells (c:kN):List za:=[.sc (.int .i64 (c.kind:Int)),.sc (.int .i64 (c.a:Int)),.sc (.int .i64 (c.b:Int)),.imm 1 (Z1 c.list)]
theorem jC (l xs:List za)(h:l.length=xs.length):zK l 0 xs=xs:=by
 rcases xs with _|⟨A,_|⟨B,r⟩⟩
 · rw[List.length_eq_zero_iff.1 (show l.length=0 from h)];rfl
 · obtain⟨x,rfl⟩:=List.length_eq_one_iff.1 (show l.length=1 from h)
   rfl
 · show(l.take 0++(A::B::r))++l.drop (0+(A::B::r).length)=_
   rw[Nat.zero_add,List.drop_eq_nil_of_le (by omega)];simp
theorem Q1 (fs:List (List UInt8×Int)):za.plainL (zY Wt fs)=true:=j4 (fun _=>rfl) fs
theorem V6 (fs:List (List UInt8×Int)):za.flatL (zY Wt fs)=true:=JL (fun _=>rfl) fs
theorem uj (fs:List (List UInt8×Int)):za.cellOkL (zY Wt fs)=true:=jD (fun _=>rfl) fs
theorem QD (fs:List (List UInt8×Int)):za.copyableL (zY Wt fs)=true:=plain_copyableL _ (Q1 fs)
theorem ui (fs:List (List UInt8×Int)):za.freezeL (zY Wt fs)=zY Wt fs:=copyable_freezeL _ (QD fs)
theorem xw (fs:List (List UInt8×Int)):za.ids0L (zY Wt fs)=true:=plain_ids0L _ (Q1 fs)
theorem Kt (g:Nat→Option Nat)(fs:List (List UInt8×Int)):za.renL g (zY Wt fs)=zY Wt fs:=ids0_renL g _ (xw fs)
theorem qC :∀(a b:List (List UInt8)),ZE (a++b)=(ZE a).bind fun x=>(ZE b).map (x++ ·)
 |[],b=>by simp[ZE]
 | w::a,b=>by
   show(match jE w with|none=>none|some n=>(ZE (a++b)).map (n:: ·))=(match jE w with|none=>none|some n=>(ZE a).map (n:: ·)).bind _
   rw[qC a b]
   cases jE w with
   |none=>rfl
   |some n=>cases ZE a<;>cases ZE b<;>rfl
theorem Ya {a b:List (List UInt8)}{w:List UInt8}(h:jE w=none):ZE (a++w::b)=none:=by
 rw[qC]
 cases ZE a with
 |none=>rfl
 |some x=>show(match jE w with|none=>none|some n=>(ZE b).map (n:: ·)).map _=none;rw[h];rfl
attribute [go_sem] Int.reduceToNat jC List.length_cons List.length_nil Q1 V6 uj QD ui xw Kt yI
end Go.Ga.Gl
namespace Go.Proofs.YtneiihheeghdcaaDoor
open Go Go.Ga Go.Ga.Gl
theorem V7 :zJ Tryd.prog [] KU [] [] fun r h'=>r= .agg (zY Wt Y2)∧h'=[]:=by
 refine gH rfl ?_
 unfold K8 WL
 refine zc fun KY hKY=>?_
 simp only[go_sem,Xd]
 apply hKY
 refine zc fun KY hKY=>?_
 simp only[go_sem,Xc,jC,List.length_cons,List.length_nil]
 apply hKY
 refine zA ?_
 simp only[go_sem,jC,List.length_cons,List.length_nil]
 rfl
abbrev GN (ps:List (List UInt8)):za:= .ia [.imm 1 (jc ps)]
theorem UK (x:List UInt8×Int)(p:List UInt8)(ps:List (List UInt8)):zJ Tryd.prog [] VH [.agg (Wt x),.ia [GN (p::ps)]] [] fun r h'=>r= .sc (.bool (hit p x))∧h'=[]:=by
 obtain⟨w,n⟩:=x
 have h0:(jc (p::ps))[0]?=some (.sc (.string (jv p))):=rfl
 have hl:(jc (p::ps)).length=ps.length+1:=by simp[jc]
 unfold Wt hit
 refine gF rfl ?_
 unfold K6 WK
 refine zc fun KY hKY=>?_
 simp only[go_sem,x4]
 apply hKY
 by_cases hw:w=[]
 · have hd:decide (w=[])=true:=decide_eq_true hw
   refine jf fun KY hKY=>?_
   simp only[go_sem,YK,hd]
   apply hKY
   refine zA ?_
   simp only[go_sem]
   simp[hw]
 · have hd:decide (w=[])=false:=decide_eq_false hw
   refine jf fun KY hKY=>?_
   simp only[go_sem,YK,hd,h0,hl,(show 1≤ps.length+1 by omega)]
   apply hKY
   refine zA ?_
   simp only[go_sem]
   simp[hw]
theorem UM (fs:List (List UInt8×Int))(p:List UInt8)(ps:List (List UInt8))(hf:fs.length≤1000):zJ Tryd.prog [] KT [.imm 2 (zY Wt fs),.fn (.func VH) [] [.ia [GN (p::ps)]]] [] fun r h'=>(∃z:Int,r= .sc (.int .i64 z)∧((z= -1∧fs.findIdx? (hit p)=none)∨∃i:Nat,z=(i:Int)∧fs.findIdx? (hit p)=some i))∧h'=[]:=by
 have hpl:(zY Wt fs).length=fs.length*2:=qA yI fs
 refine gG rfl ?_
 unfold K7 jG
 refine zc fun KY hKY=>?_
 simp only[go_sem,Xb]
 apply hKY
 refine zh fun X1 hn1 he1 hr1=>?_
 refine zc fun KY hKY=>?_
 simp only[go_sem,Xa,hpl,Gg]
 apply hKY
 refine Ze fun X2 hn2 he2 hf2 hr2=>?_
 try simp only[go_sem]
 refine q1 (α:=Nat) [5,9,16] (fun k=>[(8,.sc (.int .i64 (k:Int)))]) (fun k=>[]) (fun k q=>k≤fs.length∧(∀i x,i<k→fs[i]?=some x→hit p x=false)∧q=fs.length - k) (0) (fs.length) rfl (by first|(simp only[go_sem,zp,zw];done)|with_reducible rfl|rfl) (⟨Nat.zero_le _,fun i x h=>by omega,rfl⟩) ?_
 rintro k q ⟨hk,hno,rfl⟩ X3 hn3 he3 hr3
 simp only[go_sem,zp,zw]
 rcases Nat.lt_or_ge k fs.length with hk2|hk2
 · have hdx:decide ((k:Int)<(fs.length:Int))=true:=decide_eq_true (by omega)
   have hx:fs[k]?=some (fs[k]):=List.getElem?_eq_getElem hk2
   generalize fs[k]=x at hx
   have hc:=xd yI hx
   have hI:=UK x p ps
   refine zc fun KY hKY=>?_
   simp only[go_sem,YL,hdx]
   apply hKY
   refine zh fun X4 hn4 he4 hr4=>?_
   refine Qm ?_
   refine zz ?_
   repeat (first|refine hn4 _ ?_|refine he4 _ _ ?_|refine he3 _ _ ?_|refine hn2 _ ?_|refine he2 _ ?_|refine hf2 _ _ (by decide) ?_|refine hn1 _ ?_|refine he1 _ _ ?_)
   refine zh fun X5 hn5 he5 hr5=>?_
   refine Ze fun X6 hn6 he6 hf6 hr6=>?_
   refine zc fun KY hKY=>?_
   simp only[go_sem,x9]
   apply hKY
   refine zc fun KY hKY=>?_
   simp only[go_sem,x8,hc,hpl,hk2,(show k*2+2≤fs.length*2 by omega),(show 2≤fs.length*2 - k*2 by omega),List.length_drop]
   refine Zd rfl (by simp only[go_sem]<;>rfl) ((hI).mono ?_)
   rintro rr hh ⟨rfl,rfl⟩
   refine⟨rfl,rfl,rfl,?_⟩
   simp only[go_sem]
   apply hKY
   cases hh:hit p x with
   | true=>
     refine Qm ?_
     refine zc fun KY hKY=>?_
     simp only[go_sem,x7]
     apply hKY
     refine zA ?_
     repeat (first|refine hr6 _ ?_|refine hr5 _ ?_|refine hr4 _ ?_|refine hr3 _ ?_|refine hr2 _ ?_|refine hr1 _ ?_)
     simp only[go_sem]
     refine⟨_,rfl,.inr ⟨k,rfl,?_⟩⟩
     rw[List.findIdx?_eq_some_iff_getElem]
     obtain⟨hk3,e⟩:=List.getElem?_eq_some_iff.1 hx
     refine⟨hk3,by rw[e];exact hh,fun j hj=>?_⟩
     rw[hno j _ hj (List.getElem?_eq_getElem (by omega))];decide
   | false=>
     refine QQ ?_
     refine zz ?_
     repeat (first|refine hn6 _ ?_|refine he6 _ ?_|refine hf6 _ _ (by decide) ?_|refine hn5 _ ?_|refine he5 _ _ ?_|refine hn4 _ ?_|refine he4 _ _ ?_|refine he3 _ _ ?_|refine hn2 _ ?_|refine he2 _ ?_|refine hf2 _ _ (by decide) ?_|refine hn1 _ ?_|refine he1 _ _ ?_)
     refine ZH fun KY hKY=>?_
     simp only[go_sem,x6,UN (show k<4611686018427387904 by omega)]
     apply hKY
     repeat (first|refine hn6 _ ?_|refine he6 _ ?_|refine hf6 _ _ (by decide) ?_|refine hn5 _ ?_|refine he5 _ _ ?_|refine hn4 _ ?_|refine he4 _ _ ?_)
     refine hn3 _ (k+1) (fs.length - (k+1)) (by omega) (by first|(simp only[go_sem,zp,zw];done)|with_reducible rfl) ?_
     refine⟨hk2,fun i y hi hy=>?_,rfl⟩
     by_cases e:i=k
     · subst e;rw[hx] at hy;cases hy;exact hh
     · exact hno i y (by omega) hy
 have hdx:decide ((k:Int)<(fs.length:Int))=false:=decide_eq_false (by omega)
 refine zc fun KY hKY=>?_
 simp only[go_sem,YL,hdx]
 apply hKY
 refine zh fun X7 hn7 he7 hr7=>?_
 refine QQ ?_
 refine jF ?_
 repeat (first|refine hn7 _ ?_|refine he7 _ _ ?_|refine he3 _ _ ?_|refine hn2 _ ?_|refine he2 _ ?_|refine hf2 _ _ (by decide) ?_|refine hn1 _ ?_|refine he1 _ _ ?_)
 refine zc fun KY hKY=>?_
 simp only[go_sem,x5]
 apply hKY
 refine zA ?_
 repeat (first|refine hr7 _ ?_|refine hr3 _ ?_|refine hr2 _ ?_|refine hr1 _ ?_)
 simp only[go_sem]
 refine⟨_,rfl,.inl ⟨rfl,?_⟩⟩
 rw[List.findIdx?_eq_none_iff]
 intro x hx
 obtain⟨i,hi,e⟩:=List.getElem_of_mem hx
 exact hno i x (by omega) (by rw[←e];exact List.getElem?_eq_getElem hi)
theorem wy (ps:List (List UInt8)){k:Nat}{w:List UInt8}(hk:ps[k]?=some w)(hl:w.length≤1000000000):zJ Tryd.prog [] KS [GN ps,.sc (.int .i64 (k:Int))] [] fun r h'=>r= .tup [.sc (.int .i64 (((jE w).getD 0:Nat):Int)),.sc (.bool (jE w).isSome)]∧h'=[]:=by
 have hkl:k<ps.length:=(List.getElem?_eq_some_iff.1 hk).1
 have hg:=vU hk
 have hdl:k+1≤ps.length:=hkl
 refine gE rfl ?_
 unfold K5 Zz
 refine zc fun KY hKY=>?_
 simp only[go_sem,xZ]
 apply hKY
 refine zc fun KY hKY=>?_
 simp only[go_sem,xY,hg,Zk,hkl,hdl]
 apply hKY
 refine zh fun X1 hn1 he1 hr1=>?_
 rcases(show w.length<1∨(1≤w.length∧9<w.length)∨(1<w.length∧w.length≤9∧w.getD 0 0=48)∨(1≤w.length∧w.length≤9∧¬(1<w.length∧w.getD 0 0=48)) by
  by_cases h:w.getD 0 0=48
  · simp only[h,and_true,true_and];omega
  · simp only[h,and_false,false_and,not_false_eq_true,and_true];omega) with h1|⟨h1,h2⟩|⟨h1,h2,h3⟩|⟨h1,h2,h3⟩
 · have d1:decide ((w.length:Int)<1)=true:=decide_eq_true (by omega)
   have hn:jE w=none:=if_pos (.inl h1)
   refine zc fun KY hKY=>?_
   simp only[go_sem,Ju,d1]
   apply hKY
   refine Qm ?_
   refine zc fun KY hKY=>?_
   simp only[go_sem,QJ]
   apply hKY
   refine zA ?_
   repeat (first|refine hr1 _ ?_)
   simp only[go_sem]
   rw[hn];rfl
 · have d1:decide ((w.length:Int)<1)=false:=decide_eq_false (by omega)
   have d2:decide (9<(w.length:Int))=true:=decide_eq_true (by omega)
   have hn:jE w=none:=if_pos (.inr (.inl h2))
   refine zc fun KY hKY=>?_
   simp only[go_sem,Ju,d1,d2]
   apply hKY
   refine Qm ?_
   refine zc fun KY hKY=>?_
   simp only[go_sem,QJ]
   apply hKY
   refine zA ?_
   repeat (first|refine hr1 _ ?_)
   simp only[go_sem]
   rw[hn];rfl
 · have d1:decide ((w.length:Int)<1)=false:=decide_eq_false (by omega)
   have d2:decide (9<(w.length:Int))=false:=decide_eq_false (by omega)
   have d3:decide (1<(w.length:Int))=true:=decide_eq_true (by omega)
   have d4:decide (((w.getD 0 0).toNat:Int)=48)=true:=by rw[h3];rfl
   have hn:jE w=none:=if_pos (.inr (.inr (.inl ⟨h1,h3⟩)))
   refine zc fun KY hKY=>?_
   simp only[go_sem,Ju,d1,d2,d3,d4,(show 0<w.length by omega)]
   apply hKY
   refine Qm ?_
   refine zc fun KY hKY=>?_
   simp only[go_sem,QJ]
   apply hKY
   refine zA ?_
   repeat (first|refine hr1 _ ?_)
   simp only[go_sem]
   rw[hn];rfl
 · have d1:decide ((w.length:Int)<1)=false:=decide_eq_false (by omega)
   have d2:decide (9<(w.length:Int))=false:=decide_eq_false (by omega)
   have hnn:∀b,w.all yA=b→jE w=if b=false then none else some (val w):=fun b hb=>by
    unfold jE
    cases b with
    |false=>rw[if_pos (.inr (.inr (.inr hb))),if_pos rfl]
    |true=>rw[if_neg (by rw[hb];rintro(h|h|h|h);omega;omega;exact h3 h;cases h),if_neg (by simp)]
   by_cases h4:1<w.length
   · have h5:¬w.getD 0 0=48:=fun e=>h3 ⟨h4,e⟩
     have d3:decide (1<(w.length:Int))=true:=decide_eq_true (by omega)
     have d4:decide (((w.getD 0 0).toNat:Int)=48)=false:=decide_eq_false fun e=>h5 (UInt8.toNat_inj.1 (Int.ofNat_inj.1 e))
     refine zc fun KY hKY=>?_
     simp only[go_sem,Ju,d1,d2,d3,d4,(show 0<w.length by omega)]
     apply hKY
     refine QQ ?_
     refine zz ?_
     repeat (first|refine hn1 _ ?_|refine he1 _ _ ?_)
     refine zc fun KY hKY=>?_
     simp only[go_sem,YJ]
     apply hKY
     refine zh fun X2 hn2 he2 hr2=>?_
     refine zc fun KY hKY=>?_
     simp only[go_sem,YI,ZL]
     apply hKY
     refine Ze fun X3 hn3 he3 hf3 hr3=>?_
     try simp only[go_sem]
     refine q1 (α:=Nat) [9,39,47] (fun j=>[(7,.sc (.int .i64 ((val (w.take j):Nat):Int))),(38,.sc (.int .i64 (j:Int)))]) (fun j=>[]) (fun j q=>j≤w.length∧(w.take j).all yA=true∧q=w.length - j) (0) (w.length) rfl (by first|(simp only[go_sem,zp,zw];done)|with_reducible rfl|rfl) (⟨Nat.zero_le _,rfl,rfl⟩) ?_
     rintro j q ⟨hj,hall,rfl⟩ X4 hn4 he4 hr4
     simp only[go_sem,zp,zw]
     rcases Nat.lt_or_ge j w.length with hj2|hj2
     · have hdx:decide ((j:Int)<(w.length:Int))=true:=decide_eq_true (by omega)
       have hx:w[j]?=some w[j]:=List.getElem?_eq_getElem hj2
       have htk:w.take (j+1)=w.take j++[w[j]]:=by rw[List.take_add_one,hx];rfl
       have hda:w.all yA=true→yA w[j]=true:=fun h=>List.all_eq_true.1 h _ (List.getElem_mem hj2)
       have hlt:=(w[j]).toNat_lt
       generalize w[j]=c at hx htk hda hlt
       have hb:(JX w)[j]?=some (.sc (.int .u8 (c.toNat:Int))):=by simp[JX,hx]
       refine zc fun KY hKY=>?_
       simp only[go_sem,qr,hdx]
       apply hKY
       refine zh fun X5 hn5 he5 hr5=>?_
       refine Qm ?_
       refine zz ?_
       repeat (first|refine hn5 _ ?_|refine he5 _ _ ?_|refine he4 _ _ ?_|refine hn3 _ ?_|refine he3 _ ?_|refine hf3 _ _ (by decide) ?_|refine hn2 _ ?_|refine he2 _ _ ?_|refine hn1 _ ?_|refine he1 _ _ ?_)
       refine zh fun X6 hn6 he6 hr6=>?_
       refine Ze fun X7 hn7 he7 hf7 hr7=>?_
       refine zc fun KY hKY=>?_
       simp only[go_sem,YH,hb,ZL,hj2,(show j+1≤w.length by omega)]
       apply hKY
       refine zh fun X8 hn8 he8 hr8=>?_
       rcases(show c.toNat<48∨(48≤c.toNat∧57<c.toNat)∨(48≤c.toNat∧c.toNat≤57) by omega) with h6|⟨h6,h7⟩|⟨h6,h7⟩
       · have d5:decide ((c.toNat:Int)<48)=true:=decide_eq_true (by omega)
         have hn:jE w=none:=by
          rw[hnn _ rfl,if_pos]
          cases hw:w.all yA with
          |false=>rfl
          |true=>have:=hda hw;unfold yA at this;rw[Bool.and_eq_true,decide_eq_true_iff,decide_eq_true_iff] at this;omega
         refine zc fun KY hKY=>?_
         simp only[go_sem,jS,d5]
         apply hKY
         refine Qm ?_
         refine zc fun KY hKY=>?_
         simp only[go_sem,qq]
         apply hKY
         refine zA ?_
         repeat (first|refine hr8 _ ?_|refine hr7 _ ?_|refine hr6 _ ?_|refine hr5 _ ?_|refine hr4 _ ?_|refine hr3 _ ?_|refine hr2 _ ?_|refine hr1 _ ?_)
         simp only[go_sem]
         rw[hn];rfl
       · have d5:decide ((c.toNat:Int)<48)=false:=decide_eq_false (by omega)
         have d6:decide (57<(c.toNat:Int))=true:=decide_eq_true (by omega)
         have hn:jE w=none:=by
          rw[hnn _ rfl,if_pos]
          cases hw:w.all yA with
          |false=>rfl
          |true=>have:=hda hw;unfold yA at this;rw[Bool.and_eq_true,decide_eq_true_iff,decide_eq_true_iff] at this;omega
         refine zc fun KY hKY=>?_
         simp only[go_sem,jS,d5,d6]
         apply hKY
         refine Qm ?_
         refine zc fun KY hKY=>?_
         simp only[go_sem,qq]
         apply hKY
         refine zA ?_
         repeat (first|refine hr8 _ ?_|refine hr7 _ ?_|refine hr6 _ ?_|refine hr5 _ ?_|refine hr4 _ ?_|refine hr3 _ ?_|refine hr2 _ ?_|refine hr1 _ ?_)
         simp only[go_sem]
         rw[hn];rfl
       · have d5:decide ((c.toNat:Int)<48)=false:=decide_eq_false (by omega)
         have d6:decide (57<(c.toNat:Int))=false:=decide_eq_false (by omega)
         have hv:=vI _ hall
         have hp:10^(w.take j).length≤10^9:=Nat.pow_le_pow_right (by omega) (by rw[List.length_take];omega)
         have hs:val (w.take (j+1))=10*val (w.take j)+(c.toNat - 48):=by rw[htk,Qo]
         have w1:IntKind.i64.wrap (10*((val (w.take j):Nat):Int))=((10*val (w.take j):Nat):Int):=by rw[IntWalk.i64_in _ (by omega)];omega
         have w2:IntKind.u8.wrap ((c.toNat:Int) - 48)=((c.toNat - 48:Nat):Int):=by
          unfold IntKind.wrap;simp[IntKind.bits,IntKind.signed];omega
         have w3:IntKind.i64.wrap ((c.toNat - 48:Nat):Int)=((c.toNat - 48:Nat):Int):=IntWalk.i64_in _ (by omega)
         have w4:IntKind.i64.wrap (((10*val (w.take j):Nat):Int)+((c.toNat - 48:Nat):Int))=((val (w.take (j+1)):Nat):Int):=by rw[IntWalk.i64_in _ (by omega),hs];omega
         refine zc fun KY hKY=>?_
         simp only[go_sem,jS,d5,d6]
         apply hKY
         refine QQ ?_
         refine zz ?_
         repeat (first|refine hn8 _ ?_|refine he8 _ _ ?_|refine hn7 _ ?_|refine he7 _ ?_|refine hf7 _ _ (by decide) ?_|refine hn6 _ ?_|refine he6 _ _ ?_|refine hn5 _ ?_|refine he5 _ _ ?_|refine he4 _ _ ?_|refine hn3 _ ?_|refine he3 _ ?_|refine hf3 _ _ (by decide) ?_|refine hn2 _ ?_|refine he2 _ _ ?_|refine hn1 _ ?_|refine he1 _ _ ?_)
         refine ZH fun KY hKY=>?_
         simp only[go_sem,Q8,w1,w2,w3,w4]
         apply hKY
         repeat (first|refine hn8 _ ?_|refine he8 _ _ ?_|refine hn7 _ ?_|refine he7 _ ?_|refine hf7 _ _ (by decide) ?_|refine hn6 _ ?_|refine he6 _ _ ?_|refine hn5 _ ?_|refine he5 _ _ ?_|refine he4 _ _ ?_|refine hn3 _ ?_|refine he3 _ ?_|refine hf3 _ _ (by decide) ?_|refine hn2 _ ?_|refine he2 _ _ ?_|refine hn1 _ ?_|refine he1 _ _ ?_)
         refine ZH fun KY hKY=>?_
         simp only[go_sem,Q7,UN (show j<4611686018427387904 by omega)]
         apply hKY
         repeat (first|refine hn8 _ ?_|refine he8 _ _ ?_|refine hn7 _ ?_|refine he7 _ ?_|refine hf7 _ _ (by decide) ?_|refine hn6 _ ?_|refine he6 _ _ ?_|refine hn5 _ ?_|refine he5 _ _ ?_)
         refine hn4 _ (j+1) (w.length - (j+1)) (by omega) (by first|(simp only[go_sem,zp,zw];done)|with_reducible rfl) ?_
         refine⟨hj2,?_,rfl⟩
         rw[htk,List.all_append,hall]
         unfold yA;simp;omega
     have hdx:decide ((j:Int)<(w.length:Int))=false:=decide_eq_false (by omega)
     obtain rfl:j=w.length:=by omega
     rw[List.take_length] at hall
     have hn:jE w=some (val w):=by rw[hnn _ hall];rfl
     refine zc fun KY hKY=>?_
     simp only[go_sem,qr,hdx]
     apply hKY
     refine zh fun X9 hn9 he9 hr9=>?_
     refine QQ ?_
     refine jF ?_
     repeat (first|refine hn9 _ ?_|refine he9 _ _ ?_|refine he4 _ _ ?_|refine hn3 _ ?_|refine he3 _ ?_|refine hf3 _ _ (by decide) ?_|refine hn2 _ ?_|refine he2 _ _ ?_|refine hn1 _ ?_|refine he1 _ _ ?_)
     rw[List.take_length]
     refine zc fun KY hKY=>?_
     simp only[go_sem,Q6]
     apply hKY
     refine zA ?_
     repeat (first|refine hr9 _ ?_|refine hr4 _ ?_|refine hr3 _ ?_|refine hr2 _ ?_|refine hr1 _ ?_)
     simp only[go_sem]
     rw[hn];rfl
   · have d3:decide (1<(w.length:Int))=false:=decide_eq_false (by omega)
     refine zc fun KY hKY=>?_
     simp only[go_sem,Ju,d1,d2,d3]
     apply hKY
     refine QQ ?_
     refine zz ?_
     repeat (first|refine hn1 _ ?_|refine he1 _ _ ?_)
     refine zc fun KY hKY=>?_
     simp only[go_sem,YJ]
     apply hKY
     refine zh fun X10 hn10 he10 hr10=>?_
     refine zc fun KY hKY=>?_
     simp only[go_sem,YI,ZL]
     apply hKY
     refine Ze fun X11 hn11 he11 hf11 hr11=>?_
     try simp only[go_sem]
     refine q1 (α:=Nat) [9,39,47] (fun j=>[(7,.sc (.int .i64 ((val (w.take j):Nat):Int))),(38,.sc (.int .i64 (j:Int)))]) (fun j=>[]) (fun j q=>j≤w.length∧(w.take j).all yA=true∧q=w.length - j) (0) (w.length) rfl (by first|(simp only[go_sem,zp,zw];done)|with_reducible rfl|rfl) (⟨Nat.zero_le _,rfl,rfl⟩) ?_
     rintro j q ⟨hj,hall,rfl⟩ X12 hn12 he12 hr12
     simp only[go_sem,zp,zw]
     rcases Nat.lt_or_ge j w.length with hj2|hj2
     · have hdx:decide ((j:Int)<(w.length:Int))=true:=decide_eq_true (by omega)
       have hx:w[j]?=some w[j]:=List.getElem?_eq_getElem hj2
       have htk:w.take (j+1)=w.take j++[w[j]]:=by rw[List.take_add_one,hx];rfl
       have hda:w.all yA=true→yA w[j]=true:=fun h=>List.all_eq_true.1 h _ (List.getElem_mem hj2)
       have hlt:=(w[j]).toNat_lt
       generalize w[j]=c at hx htk hda hlt
       have hb:(JX w)[j]?=some (.sc (.int .u8 (c.toNat:Int))):=by simp[JX,hx]
       refine zc fun KY hKY=>?_
       simp only[go_sem,qr,hdx]
       apply hKY
       refine zh fun X13 hn13 he13 hr13=>?_
       refine Qm ?_
       refine zz ?_
       repeat (first|refine hn13 _ ?_|refine he13 _ _ ?_|refine he12 _ _ ?_|refine hn11 _ ?_|refine he11 _ ?_|refine hf11 _ _ (by decide) ?_|refine hn10 _ ?_|refine he10 _ _ ?_|refine hn1 _ ?_|refine he1 _ _ ?_)
       refine zh fun X14 hn14 he14 hr14=>?_
       refine Ze fun X15 hn15 he15 hf15 hr15=>?_
       refine zc fun KY hKY=>?_
       simp only[go_sem,YH,hb,ZL,hj2,(show j+1≤w.length by omega)]
       apply hKY
       refine zh fun X16 hn16 he16 hr16=>?_
       rcases(show c.toNat<48∨(48≤c.toNat∧57<c.toNat)∨(48≤c.toNat∧c.toNat≤57) by omega) with h6|⟨h6,h7⟩|⟨h6,h7⟩
       · have d5:decide ((c.toNat:Int)<48)=true:=decide_eq_true (by omega)
         have hn:jE w=none:=by
          rw[hnn _ rfl,if_pos]
          cases hw:w.all yA with
          |false=>rfl
          |true=>have:=hda hw;unfold yA at this;rw[Bool.and_eq_true,decide_eq_true_iff,decide_eq_true_iff] at this;omega
         refine zc fun KY hKY=>?_
         simp only[go_sem,jS,d5]
         apply hKY
         refine Qm ?_
         refine zc fun KY hKY=>?_
         simp only[go_sem,qq]
         apply hKY
         refine zA ?_
         repeat (first|refine hr16 _ ?_|refine hr15 _ ?_|refine hr14 _ ?_|refine hr13 _ ?_|refine hr12 _ ?_|refine hr11 _ ?_|refine hr10 _ ?_|refine hr1 _ ?_)
         simp only[go_sem]
         rw[hn];rfl
       · have d5:decide ((c.toNat:Int)<48)=false:=decide_eq_false (by omega)
         have d6:decide (57<(c.toNat:Int))=true:=decide_eq_true (by omega)
         have hn:jE w=none:=by
          rw[hnn _ rfl,if_pos]
          cases hw:w.all yA with
          |false=>rfl
          |true=>have:=hda hw;unfold yA at this;rw[Bool.and_eq_true,decide_eq_true_iff,decide_eq_true_iff] at this;omega
         refine zc fun KY hKY=>?_
         simp only[go_sem,jS,d5,d6]
         apply hKY
         refine Qm ?_
         refine zc fun KY hKY=>?_
         simp only[go_sem,qq]
         apply hKY
         refine zA ?_
         repeat (first|refine hr16 _ ?_|refine hr15 _ ?_|refine hr14 _ ?_|refine hr13 _ ?_|refine hr12 _ ?_|refine hr11 _ ?_|refine hr10 _ ?_|refine hr1 _ ?_)
         simp only[go_sem]
         rw[hn];rfl
       · have d5:decide ((c.toNat:Int)<48)=false:=decide_eq_false (by omega)
         have d6:decide (57<(c.toNat:Int))=false:=decide_eq_false (by omega)
         have hv:=vI _ hall
         have hp:10^(w.take j).length≤10^9:=Nat.pow_le_pow_right (by omega) (by rw[List.length_take];omega)
         have hs:val (w.take (j+1))=10*val (w.take j)+(c.toNat - 48):=by rw[htk,Qo]
         have w1:IntKind.i64.wrap (10*((val (w.take j):Nat):Int))=((10*val (w.take j):Nat):Int):=by rw[IntWalk.i64_in _ (by omega)];omega
         have w2:IntKind.u8.wrap ((c.toNat:Int) - 48)=((c.toNat - 48:Nat):Int):=by
          unfold IntKind.wrap;simp[IntKind.bits,IntKind.signed];omega
         have w3:IntKind.i64.wrap ((c.toNat - 48:Nat):Int)=((c.toNat - 48:Nat):Int):=IntWalk.i64_in _ (by omega)
         have w4:IntKind.i64.wrap (((10*val (w.take j):Nat):Int)+((c.toNat - 48:Nat):Int))=((val (w.take (j+1)):Nat):Int):=by rw[IntWalk.i64_in _ (by omega),hs];omega
         refine zc fun KY hKY=>?_
         simp only[go_sem,jS,d5,d6]
         apply hKY
         refine QQ ?_
         refine zz ?_
         repeat (first|refine hn16 _ ?_|refine he16 _ _ ?_|refine hn15 _ ?_|refine he15 _ ?_|refine hf15 _ _ (by decide) ?_|refine hn14 _ ?_|refine he14 _ _ ?_|refine hn13 _ ?_|refine he13 _ _ ?_|refine he12 _ _ ?_|refine hn11 _ ?_|refine he11 _ ?_|refine hf11 _ _ (by decide) ?_|refine hn10 _ ?_|refine he10 _ _ ?_|refine hn1 _ ?_|refine he1 _ _ ?_)
         refine ZH fun KY hKY=>?_
         simp only[go_sem,Q8,w1,w2,w3,w4]
         apply hKY
         repeat (first|refine hn16 _ ?_|refine he16 _ _ ?_|refine hn15 _ ?_|refine he15 _ ?_|refine hf15 _ _ (by decide) ?_|refine hn14 _ ?_|refine he14 _ _ ?_|refine hn13 _ ?_|refine he13 _ _ ?_|refine he12 _ _ ?_|refine hn11 _ ?_|refine he11 _ ?_|refine hf11 _ _ (by decide) ?_|refine hn10 _ ?_|refine he10 _ _ ?_|refine hn1 _ ?_|refine he1 _ _ ?_)
         refine ZH fun KY hKY=>?_
         simp only[go_sem,Q7,UN (show j<4611686018427387904 by omega)]
         apply hKY
         repeat (first|refine hn16 _ ?_|refine he16 _ _ ?_|refine hn15 _ ?_|refine he15 _ ?_|refine hf15 _ _ (by decide) ?_|refine hn14 _ ?_|refine he14 _ _ ?_|refine hn13 _ ?_|refine he13 _ _ ?_)
         refine hn12 _ (j+1) (w.length - (j+1)) (by omega) (by first|(simp only[go_sem,zp,zw];done)|with_reducible rfl) ?_
         refine⟨hj2,?_,rfl⟩
         rw[htk,List.all_append,hall]
         unfold yA;simp;omega
     have hdx:decide ((j:Int)<(w.length:Int))=false:=decide_eq_false (by omega)
     obtain rfl:j=w.length:=by omega
     rw[List.take_length] at hall
     have hn:jE w=some (val w):=by rw[hnn _ hall];rfl
     refine zc fun KY hKY=>?_
     simp only[go_sem,qr,hdx]
     apply hKY
     refine zh fun X17 hn17 he17 hr17=>?_
     refine QQ ?_
     refine jF ?_
     repeat (first|refine hn17 _ ?_|refine he17 _ _ ?_|refine he12 _ _ ?_|refine hn11 _ ?_|refine he11 _ ?_|refine hf11 _ _ (by decide) ?_|refine hn10 _ ?_|refine he10 _ _ ?_|refine hn1 _ ?_|refine he1 _ _ ?_)
     rw[List.take_length]
     refine zc fun KY hKY=>?_
     simp only[go_sem,Q6]
     apply hKY
     refine zA ?_
     repeat (first|refine hr17 _ ?_|refine hr12 _ ?_|refine hr11 _ ?_|refine hr10 _ ?_|refine hr1 _ ?_)
     simp only[go_sem]
     rw[hn];rfl
end Go.Proofs.YtneiihheeghdcaaDoor
set_option maxHeartbeats 8000000
namespace Go.Proofs.YtneiihheeghdcaaDoor
open Go Go.Ga Go.Ga.Gl
theorem y7 (l:List UInt8)(hl:l.length≤1000000000):zJ Tryd.prog [] Gc [.sc (.string (jv l))] [] fun r h'=>r= .tup [.agg (Zn l).1.cells,.sc (.int .i64 (Zn l).2)]∧h'=[]:=by
 refine Gm rfl ?_
 unfold Gw Zf
 refine zc fun KY hKY=>?_
 simp only[go_sem,uP]
 apply hKY
 refine zh fun X1 hn1 he1 hr1=>?_
 by_cases hlen:65536<l.length
 · have d1:decide (65536<(l.length:Int))=true:=decide_eq_true (by omega)
   have hres:Zn l=(⟨0,0,0,[]⟩,8):=if_pos hlen
   refine zc fun KY hKY=>?_
   simp only[go_sem,WB,d1]
   apply hKY
   refine Qm ?_
   refine zc fun KY hKY=>?_
   simp only[go_sem,uO]
   apply hKY
   refine Z3 [0,2,3] 1 (by simp only[go_sem]) ?_
   simp only[go_sem]
   refine zX [0,2,3] (by simp only[go_sem];rfl) ?_
   simp only[go_sem]
   refine zA ?_
   repeat (first|refine hr1 _ ?_)
   simp only[go_sem]
   rw[hres];rfl
 have d1:decide (65536<(l.length:Int))=false:=decide_eq_false (by omega)
 have hS:=vX l hl
 have hne:=QS 32 l
 have hsl:=q6 32 l
 have hcl:=JR 32 l
 have hpar:Zn l=_:=if_neg hlen
 obtain⟨p,ts,hsp⟩:∃p ts,zH 32 l=p::ts:=by
  cases h:zH 32 l with
  |nil=>exact absurd h hne
  |cons p ts=>exact⟨p,ts,rfl⟩
 rw[hsp] at hS hsl hpar
 simp only[List.headD_cons,List.tail_cons,List.length_cons] at hpar hsl
 have hwl:∀w∈p::ts,w.length≤1000000000:=fun w hw=>Nat.le_trans (yS 32 l w (by rw[hsp];exact hw)) hl
 refine zc fun KY hKY=>?_
 simp only[go_sem,WB,d1]
 apply hKY
 refine QQ ?_
 refine zz ?_
 repeat (first|refine hn1 _ ?_|refine he1 _ _ ?_)
 refine zc fun KY hKY=>?_
 simp only[go_sem,uN]
 apply Jt [] [] false none rfl
 iterate 8 (first|(simp only[go_sem,zQ]<;>rfl)|rfl)
 refine(hS).mono ?_
 rintro _ _ ⟨rfl,rfl⟩
 refine⟨Nat.le_of_ble_eq_true rfl,(fun hh=>by cases hh),?_⟩
 simp only[go_sem,ja,zb.after]
 apply hKY
 refine zX [0,4] (by simp only[go_sem];rfl) ?_
 simp only[go_sem]
 have hfl:(zY Wt Y2).length=30:=rfl
 refine zc fun KY hKY=>?_
 simp only[go_sem,uM]
 apply Jt [] [] false none rfl
 iterate 8 (first|(simp only[go_sem,zQ]<;>rfl)|rfl)
 refine(V7).mono ?_
 rintro _ _ ⟨rfl,rfl⟩
 refine⟨Nat.le_of_ble_eq_true rfl,(fun hh=>by cases hh),?_⟩
 simp only[go_sem,ja,zb.after,jC,hfl,List.length_cons,List.length_nil]
 apply hKY
 refine zX [0,5] (by simp only[go_sem];rfl) ?_
 simp only[go_sem]
 have htk:List.take 30 (zY Wt Y2)=zY Wt Y2:=rfl
 refine zc fun KY hKY=>?_
 simp only[go_sem,uL,hfl,htk,List.drop_zero]
 refine Zd rfl (by simp only[go_sem]<;>rfl) ((UM Y2 p ts (by decide)).mono ?_)
 rintro rr hh ⟨⟨z,rfl,hz⟩,rfl⟩
 refine⟨?_,?_,?_,?_⟩
 iterate 3 (first|rfl|simp only[go_sem])
 simp only[go_sem]
 apply hKY
 refine zh fun X2 hn2 he2 hr2=>?_
 rcases hz with⟨rfl,hno⟩|⟨i,rfl,hi⟩
 · have hres:Zn l=(⟨0,0,0,[]⟩,15):=by rw[hpar,hno]
   refine jf fun KY hKY=>?_
   simp only[go_sem,QH]
   apply hKY
   refine Qm ?_
   refine zc fun KY hKY=>?_
   simp only[go_sem,WA]
   apply hKY
   refine Z3 [0,2,3] 1 (by simp only[go_sem]) ?_
   simp only[go_sem]
   refine zX [0,2,3] (by simp only[go_sem];rfl) ?_
   simp only[go_sem]
   refine zA ?_
   repeat (first|refine hr2 _ ?_|refine hr1 _ ?_)
   simp only[go_sem]
   rw[hres];rfl
 have hi15:i<15:=by
  have:=(List.findIdx?_eq_some_iff_getElem.1 hi).1
  exact this
 have hx:Y2[i]?=some Y2[i]:=List.getElem?_eq_getElem hi15
 have hgd:Y2.getD i ([],0)=Y2[i]:=by rw[List.getD_eq_getElem?_getD,hx];rfl
 rw[hi] at hpar
 simp only[hgd] at hpar
 have hfn: -1≤Y2[i].2∧Y2[i].2≤2:=by
  have:∀x∈Y2, -1≤x.2∧x.2≤2:=by decide
  exact this _ (List.getElem_mem hi15)
 generalize Y2[i]=x at hx hpar hfn hgd
 obtain⟨fw,n⟩:=x
 simp only at hpar hfn
 have hg1:(zY Wt Y2)[i*2+1]?=some (.sc (.int .i64 n)):=Uy yI hx 1 (by decide)
 have di:decide ((i:Int)<0)=false:=decide_eq_false (by omega)
 have hi15':(i:Int).toNat<15:=by omega
 by_cases hbad:0≤n∧((ts.length:Int)+1≠n+1)
 · have hres:Zn l=(⟨0,0,0,[]⟩,15):=by rw[hpar,if_pos (by omega)]
   have dn:decide (0≤n)=true:=decide_eq_true hbad.1
   have w1:IntKind.i64.wrap (n+1)=n+1:=IntWalk.i64_in _ (by omega)
   have dd:decide (((ts.length+1:Nat):Int)≠n+1)=true:=decide_eq_true (by omega)
   refine jf fun KY hKY=>?_
   simp only[go_sem,QH,di,hi15,hg1,dn,w1,dd,Zk]
   apply hKY
   refine Qm ?_
   refine zc fun KY hKY=>?_
   simp only[go_sem,WA]
   apply hKY
   refine Z3 [0,2,3] 1 (by simp only[go_sem]) ?_
   simp only[go_sem]
   refine zX [0,2,3] (by simp only[go_sem];rfl) ?_
   simp only[go_sem]
   refine zA ?_
   repeat (first|refine hr2 _ ?_|refine hr1 _ ?_)
   simp only[go_sem]
   rw[hres];rfl
 replace hpar:=hpar.trans (if_neg (show¬(0≤n∧((ts.length+1:Nat):Int)≠n+1) by omega))
 rcases(show n<0∨(0≤n∧(ts.length:Int)=n) by omega) with hneg|⟨hpos,hlen2⟩
 · have dn:decide (0≤n)=false:=decide_eq_false (by omega)
   have dn2:decide (n<0)=true:=decide_eq_true hneg
   refine jf fun KY hKY=>?_
   simp only[go_sem,QH,di,hi15,hg1,dn]
   apply hKY
   refine QQ ?_
   refine zz ?_
   repeat (first|refine hn2 _ ?_|refine he2 _ _ ?_|refine hn1 _ ?_|refine he1 _ _ ?_)
   refine zc fun KY hKY=>?_
   simp only[go_sem,Wz]
   apply hKY
   refine zc fun KY hKY=>?_
   simp only[go_sem,Wy]
   apply hKY
   refine Z3 [0,8] 1 (by simp only[go_sem]) ?_
   simp only[go_sem]
   refine zh fun X3 hn3 he3 hr3=>?_
   refine zc fun KY hKY=>?_
   simp only[go_sem,YF]
   apply hKY
   refine Ze fun X4 hn4 he4 hf4 hr4=>?_
   try simp only[go_sem]
   refine q1 (α:=Nat×List Nat) [10,11,56,66] (fun(j,ns)=>[(8,.own (some 1) (Z1 ns)),(9,.sc (.int .i64 ((j+1:Nat):Int)))]) (fun(j,ns)=>[]) (fun(j,ns) q=>j≤ts.length∧ZE (ts.take j)=some ns∧ns.length=j∧q=ts.length - j) ((0,[])) (ts.length) rfl (by first|(simp only[go_sem,zp,zw];done)|with_reducible rfl|rfl) (⟨Nat.zero_le _,rfl,rfl,rfl⟩) ?_
   rintro⟨j,ns⟩ q ⟨hj,hns,hnl,rfl⟩ X5 hn5 he5 hr5
   simp only[go_sem,zp,zw]
   refine zh fun X6 hn6 he6 hr6=>?_
   rcases Nat.lt_or_ge j ts.length with hj2|hj2
   · have hdx:decide (((j+1:Nat):Int)<((ts.length+1:Nat):Int))=true:=decide_eq_true (by omega)
     have hw:ts[j]?=some ts[j]:=List.getElem?_eq_getElem hj2
     have hwm:=hwl _ (.tail _ (List.getElem_mem hj2))
     have htl:ts=ts.take j++ts[j]::ts.drop (j+1):=by rw[←List.drop_eq_getElem_cons hj2,List.take_append_drop]
     have htk:ts.take (j+1)=ts.take j++[ts[j]]:=by rw[List.take_add_one,hw];rfl
     generalize ts[j]=w at hw hwm htl htk
     have hN:=wy (p::ts) (k:=j+1) (w:=w) (by simpa using hw) hwm
     cases hnb:jE w with
     | none=>
       have hres:Zn l=(⟨0,0,0,[]⟩,15):=by
        have:ZE ts=none:=by rw[htl];exact Ya hnb
        rw[hpar,this]
       rw[hnb] at hN
       refine zc fun KY hKY=>?_
       simp only[go_sem,jR,hdx,Zk]
       apply hKY
       refine Qm ?_
       refine zz ?_
       repeat (first|refine hn6 _ ?_|refine he6 _ _ ?_|refine he5 _ _ ?_|refine hn4 _ ?_|refine he4 _ ?_|refine hf4 _ _ (by decide) ?_|refine hn3 _ ?_|refine he3 _ _ ?_|refine hn2 _ ?_|refine he2 _ _ ?_|refine hn1 _ ?_|refine he1 _ _ ?_)
       refine zh fun X7 hn7 he7 hr7=>?_
       refine Ze fun X8 hn8 he8 hf8 hr8=>?_
       refine zc fun KY hKY=>?_
       simp only[go_sem,qp]
       refine Zd rfl (by simp only[go_sem]<;>rfl) ((hN).mono ?_)
       rintro rr hh ⟨rfl,rfl⟩
       refine⟨rfl,rfl,rfl,?_⟩
       simp only[go_sem]
       apply hKY
       refine zh fun X9 hn9 he9 hr9=>?_
       refine zc fun KY hKY=>?_
       simp only[go_sem,qo]
       apply hKY
       refine Qm ?_
       refine zc fun KY hKY=>?_
       simp only[go_sem,YE]
       apply hKY
       refine Z3 [0,2,3] 1 (by simp only[go_sem]) ?_
       simp only[go_sem]
       refine zX [0,2,3] (by simp only[go_sem];rfl) ?_
       simp only[go_sem]
       refine zA ?_
       repeat (first|refine hr9 _ ?_|refine hr8 _ ?_|refine hr7 _ ?_|refine hr6 _ ?_|refine hr5 _ ?_|refine hr4 _ ?_|refine hr3 _ ?_|refine hr2 _ ?_|refine hr1 _ ?_)
       simp only[go_sem]
       rw[hres];rfl
     | some v=>
       rw[hnb] at hN
       refine zc fun KY hKY=>?_
       simp only[go_sem,jR,hdx,Zk]
       apply hKY
       refine Qm ?_
       refine zz ?_
       repeat (first|refine hn6 _ ?_|refine he6 _ _ ?_|refine he5 _ _ ?_|refine hn4 _ ?_|refine he4 _ ?_|refine hf4 _ _ (by decide) ?_|refine hn3 _ ?_|refine he3 _ _ ?_|refine hn2 _ ?_|refine he2 _ _ ?_|refine hn1 _ ?_|refine he1 _ _ ?_)
       refine zh fun X10 hn10 he10 hr10=>?_
       refine Ze fun X11 hn11 he11 hf11 hr11=>?_
       refine zc fun KY hKY=>?_
       simp only[go_sem,qp]
       refine Zd rfl (by simp only[go_sem]<;>rfl) ((hN).mono ?_)
       rintro rr hh ⟨rfl,rfl⟩
       refine⟨rfl,rfl,rfl,?_⟩
       simp only[go_sem]
       apply hKY
       refine zh fun X12 hn12 he12 hr12=>?_
       refine zc fun KY hKY=>?_
       simp only[go_sem,qo]
       apply hKY
       refine QQ ?_
       refine zz ?_
       repeat (first|refine hn12 _ ?_|refine he12 _ _ ?_|refine hn11 _ ?_|refine he11 _ ?_|refine hf11 _ _ (by decide) ?_|refine hn10 _ ?_|refine he10 _ _ ?_|refine hn6 _ ?_|refine he6 _ _ ?_|refine he5 _ _ ?_|refine hn4 _ ?_|refine he4 _ ?_|refine hf4 _ _ (by decide) ?_|refine hn3 _ ?_|refine he3 _ _ ?_|refine hn2 _ ?_|refine he2 _ _ ?_|refine hn1 _ ?_|refine he1 _ _ ?_)
       refine ZH fun KY hKY=>?_
       simp only[go_sem,YD,wz,jN,hnl,(show(j+1)*8≤140737488355328 by omega)]
       apply hKY
       repeat (first|refine hn12 _ ?_|refine he12 _ _ ?_|refine hn11 _ ?_|refine he11 _ ?_|refine hf11 _ _ (by decide) ?_|refine hn10 _ ?_|refine he10 _ _ ?_|refine hn6 _ ?_|refine he6 _ _ ?_|refine he5 _ _ ?_|refine hn4 _ ?_|refine he4 _ ?_|refine hf4 _ _ (by decide) ?_|refine hn3 _ ?_|refine he3 _ _ ?_|refine hn2 _ ?_|refine he2 _ _ ?_|refine hn1 _ ?_|refine he1 _ _ ?_)
       refine ZH fun KY hKY=>?_
       simp only[go_sem,YC,UN (show j+1<4611686018427387904 by omega)]
       apply hKY
       repeat (first|refine hn12 _ ?_|refine he12 _ _ ?_|refine hn11 _ ?_|refine he11 _ ?_|refine hf11 _ _ (by decide) ?_|refine hn10 _ ?_|refine he10 _ _ ?_|refine hn6 _ ?_|refine he6 _ _ ?_)
       refine hn5 _ ((j+1,ns++[v])) (ts.length - (j+1)) (by omega) (by first|(simp only[go_sem,zp,zw];done)|with_reducible rfl) ?_
       refine⟨hj2,?_,by simp[hnl],rfl⟩
       rw[htk,qC,hns]
       show(ZE [w]).map _=_
       unfold ZE
       rw[hnb];rfl
   have hdx:decide (((j+1:Nat):Int)<((ts.length+1:Nat):Int))=false:=decide_eq_false (by omega)
   obtain rfl:j=ts.length:=by omega
   rw[List.take_length] at hns
   rw[hns] at hpar
   refine zc fun KY hKY=>?_
   simp only[go_sem,jR,hdx,Zk]
   apply hKY
   refine QQ ?_
   refine jF ?_
   repeat (first|refine hn6 _ ?_|refine he6 _ _ ?_|refine he5 _ _ ?_|refine hn4 _ ?_|refine he4 _ ?_|refine hf4 _ _ (by decide) ?_|refine hn3 _ ?_|refine he3 _ _ ?_|refine hn2 _ ?_|refine he2 _ _ ?_|refine hn1 _ ?_|refine he1 _ _ ?_)
   have hres:Zn l=(⟨i,0,0,ns⟩,0):=hpar.trans (if_pos hneg)
   refine zX [0,8] (by simp only[go_sem];rfl) ?_
   simp only[go_sem]
   refine zc fun KY hKY=>?_
   simp only[go_sem,YB]
   apply hKY
   refine zh fun X13 hn13 he13 hr13=>?_
   refine zc fun KY hKY=>?_
   simp only[go_sem,YA,hi15,hg1,dn2]
   apply hKY
   refine Qm ?_
   refine zc fun KY hKY=>?_
   simp only[go_sem,xH]
   apply hKY
   refine zc fun KY hKY=>?_
   simp only[go_sem,xG]
   apply hKY
   refine zA ?_
   repeat (first|refine hr13 _ ?_|refine hr6 _ ?_|refine hr5 _ ?_|refine hr4 _ ?_|refine hr3 _ ?_|refine hr2 _ ?_|refine hr1 _ ?_)
   simp only[go_sem]
   rw[hres];rfl
 · have dn:decide (0≤n)=true:=decide_eq_true hpos
   have dn2:decide (n<0)=false:=decide_eq_false (by omega)
   have w1:IntKind.i64.wrap (n+1)=n+1:=IntWalk.i64_in _ (by omega)
   have dd:decide (((ts.length+1:Nat):Int)≠n+1)=false:=decide_eq_false (by omega)
   refine jf fun KY hKY=>?_
   simp only[go_sem,QH,di,hi15,hg1,dn,w1,dd,Zk]
   apply hKY
   refine QQ ?_
   refine zz ?_
   repeat (first|refine hn2 _ ?_|refine he2 _ _ ?_|refine hn1 _ ?_|refine he1 _ _ ?_)
   refine zc fun KY hKY=>?_
   simp only[go_sem,Wz]
   apply hKY
   refine zc fun KY hKY=>?_
   simp only[go_sem,Wy]
   apply hKY
   refine Z3 [0,8] 1 (by simp only[go_sem]) ?_
   simp only[go_sem]
   refine zh fun X14 hn14 he14 hr14=>?_
   refine zc fun KY hKY=>?_
   simp only[go_sem,YF]
   apply hKY
   refine Ze fun X15 hn15 he15 hf15 hr15=>?_
   try simp only[go_sem]
   refine q1 (α:=Nat×List Nat) [10,11,56,66] (fun(j,ns)=>[(8,.own (some 1) (Z1 ns)),(9,.sc (.int .i64 ((j+1:Nat):Int)))]) (fun(j,ns)=>[]) (fun(j,ns) q=>j≤ts.length∧ZE (ts.take j)=some ns∧ns.length=j∧q=ts.length - j) ((0,[])) (ts.length) rfl (by first|(simp only[go_sem,zp,zw];done)|with_reducible rfl|rfl) (⟨Nat.zero_le _,rfl,rfl,rfl⟩) ?_
   rintro⟨j,ns⟩ q ⟨hj,hns,hnl,rfl⟩ X16 hn16 he16 hr16
   simp only[go_sem,zp,zw]
   refine zh fun X17 hn17 he17 hr17=>?_
   rcases Nat.lt_or_ge j ts.length with hj2|hj2
   · have hdx:decide (((j+1:Nat):Int)<((ts.length+1:Nat):Int))=true:=decide_eq_true (by omega)
     have hw:ts[j]?=some ts[j]:=List.getElem?_eq_getElem hj2
     have hwm:=hwl _ (.tail _ (List.getElem_mem hj2))
     have htl:ts=ts.take j++ts[j]::ts.drop (j+1):=by rw[←List.drop_eq_getElem_cons hj2,List.take_append_drop]
     have htk:ts.take (j+1)=ts.take j++[ts[j]]:=by rw[List.take_add_one,hw];rfl
     generalize ts[j]=w at hw hwm htl htk
     have hN:=wy (p::ts) (k:=j+1) (w:=w) (by simpa using hw) hwm
     cases hnb:jE w with
     | none=>
       have hres:Zn l=(⟨0,0,0,[]⟩,15):=by
        have:ZE ts=none:=by rw[htl];exact Ya hnb
        rw[hpar,this]
       rw[hnb] at hN
       refine zc fun KY hKY=>?_
       simp only[go_sem,jR,hdx,Zk]
       apply hKY
       refine Qm ?_
       refine zz ?_
       repeat (first|refine hn17 _ ?_|refine he17 _ _ ?_|refine he16 _ _ ?_|refine hn15 _ ?_|refine he15 _ ?_|refine hf15 _ _ (by decide) ?_|refine hn14 _ ?_|refine he14 _ _ ?_|refine hn2 _ ?_|refine he2 _ _ ?_|refine hn1 _ ?_|refine he1 _ _ ?_)
       refine zh fun X18 hn18 he18 hr18=>?_
       refine Ze fun X19 hn19 he19 hf19 hr19=>?_
       refine zc fun KY hKY=>?_
       simp only[go_sem,qp]
       refine Zd rfl (by simp only[go_sem]<;>rfl) ((hN).mono ?_)
       rintro rr hh ⟨rfl,rfl⟩
       refine⟨rfl,rfl,rfl,?_⟩
       simp only[go_sem]
       apply hKY
       refine zh fun X20 hn20 he20 hr20=>?_
       refine zc fun KY hKY=>?_
       simp only[go_sem,qo]
       apply hKY
       refine Qm ?_
       refine zc fun KY hKY=>?_
       simp only[go_sem,YE]
       apply hKY
       refine Z3 [0,2,3] 1 (by simp only[go_sem]) ?_
       simp only[go_sem]
       refine zX [0,2,3] (by simp only[go_sem];rfl) ?_
       simp only[go_sem]
       refine zA ?_
       repeat (first|refine hr20 _ ?_|refine hr19 _ ?_|refine hr18 _ ?_|refine hr17 _ ?_|refine hr16 _ ?_|refine hr15 _ ?_|refine hr14 _ ?_|refine hr2 _ ?_|refine hr1 _ ?_)
       simp only[go_sem]
       rw[hres];rfl
     | some v=>
       rw[hnb] at hN
       refine zc fun KY hKY=>?_
       simp only[go_sem,jR,hdx,Zk]
       apply hKY
       refine Qm ?_
       refine zz ?_
       repeat (first|refine hn17 _ ?_|refine he17 _ _ ?_|refine he16 _ _ ?_|refine hn15 _ ?_|refine he15 _ ?_|refine hf15 _ _ (by decide) ?_|refine hn14 _ ?_|refine he14 _ _ ?_|refine hn2 _ ?_|refine he2 _ _ ?_|refine hn1 _ ?_|refine he1 _ _ ?_)
       refine zh fun X21 hn21 he21 hr21=>?_
       refine Ze fun X22 hn22 he22 hf22 hr22=>?_
       refine zc fun KY hKY=>?_
       simp only[go_sem,qp]
       refine Zd rfl (by simp only[go_sem]<;>rfl) ((hN).mono ?_)
       rintro rr hh ⟨rfl,rfl⟩
       refine⟨rfl,rfl,rfl,?_⟩
       simp only[go_sem]
       apply hKY
       refine zh fun X23 hn23 he23 hr23=>?_
       refine zc fun KY hKY=>?_
       simp only[go_sem,qo]
       apply hKY
       refine QQ ?_
       refine zz ?_
       repeat (first|refine hn23 _ ?_|refine he23 _ _ ?_|refine hn22 _ ?_|refine he22 _ ?_|refine hf22 _ _ (by decide) ?_|refine hn21 _ ?_|refine he21 _ _ ?_|refine hn17 _ ?_|refine he17 _ _ ?_|refine he16 _ _ ?_|refine hn15 _ ?_|refine he15 _ ?_|refine hf15 _ _ (by decide) ?_|refine hn14 _ ?_|refine he14 _ _ ?_|refine hn2 _ ?_|refine he2 _ _ ?_|refine hn1 _ ?_|refine he1 _ _ ?_)
       refine ZH fun KY hKY=>?_
       simp only[go_sem,YD,wz,jN,hnl,(show(j+1)*8≤140737488355328 by omega)]
       apply hKY
       repeat (first|refine hn23 _ ?_|refine he23 _ _ ?_|refine hn22 _ ?_|refine he22 _ ?_|refine hf22 _ _ (by decide) ?_|refine hn21 _ ?_|refine he21 _ _ ?_|refine hn17 _ ?_|refine he17 _ _ ?_|refine he16 _ _ ?_|refine hn15 _ ?_|refine he15 _ ?_|refine hf15 _ _ (by decide) ?_|refine hn14 _ ?_|refine he14 _ _ ?_|refine hn2 _ ?_|refine he2 _ _ ?_|refine hn1 _ ?_|refine he1 _ _ ?_)
       refine ZH fun KY hKY=>?_
       simp only[go_sem,YC,UN (show j+1<4611686018427387904 by omega)]
       apply hKY
       repeat (first|refine hn23 _ ?_|refine he23 _ _ ?_|refine hn22 _ ?_|refine he22 _ ?_|refine hf22 _ _ (by decide) ?_|refine hn21 _ ?_|refine he21 _ _ ?_|refine hn17 _ ?_|refine he17 _ _ ?_)
       refine hn16 _ ((j+1,ns++[v])) (ts.length - (j+1)) (by omega) (by first|(simp only[go_sem,zp,zw];done)|with_reducible rfl) ?_
       refine⟨hj2,?_,by simp[hnl],rfl⟩
       rw[htk,qC,hns]
       show(ZE [w]).map _=_
       unfold ZE
       rw[hnb];rfl
   have hdx:decide (((j+1:Nat):Int)<((ts.length+1:Nat):Int))=false:=decide_eq_false (by omega)
   obtain rfl:j=ts.length:=by omega
   rw[List.take_length] at hns
   rw[hns] at hpar
   refine zc fun KY hKY=>?_
   simp only[go_sem,jR,hdx,Zk]
   apply hKY
   refine QQ ?_
   refine jF ?_
   repeat (first|refine hn17 _ ?_|refine he17 _ _ ?_|refine he16 _ _ ?_|refine hn15 _ ?_|refine he15 _ ?_|refine hf15 _ _ (by decide) ?_|refine hn14 _ ?_|refine he14 _ _ ?_|refine hn2 _ ?_|refine he2 _ _ ?_|refine hn1 _ ?_|refine he1 _ _ ?_)
   replace hpar:=hpar.trans (if_neg (show¬n<0 by omega))
   have hap:Z1 ns++[.sc (.int .i64 0),.sc (.int .i64 0)]=Z1 (ns++[0,0]):=by simp[Z1]
   have hl2:(ns++[0,0]).length=ns.length+2:=by simp
   obtain⟨a,ha⟩:∃a,a=ns.getD 0 0:=⟨_,rfl⟩
   obtain⟨b,hb⟩:∃b,b=ns.getD 1 0:=⟨_,rfl⟩
   have h0:(Z1 (ns++[0,0]))[0]?=some (.sc (.int .i64 (a:Int))):=by
    rw[xf (by omega),ha]
    rcases ns with _|⟨x,_|⟨y,r⟩⟩<;>rfl
   have h1:(Z1 (ns++[0,0]))[1]?=some (.sc (.int .i64 (b:Int))):=by
    rw[xf (by omega),hb]
    rcases ns with _|⟨x,_|⟨y,r⟩⟩<;>rfl
   rw[←ha,←hb] at hpar
   refine zc fun KY hKY=>?_
   simp only[go_sem,YB]
   apply hKY
   refine zh fun X24 hn24 he24 hr24=>?_
   refine zc fun KY hKY=>?_
   simp only[go_sem,YA,hi15,hg1,dn2]
   apply hKY
   refine QQ ?_
   refine zz ?_
   repeat (first|refine hn24 _ ?_|refine he24 _ _ ?_|refine hn17 _ ?_|refine he17 _ _ ?_|refine he16 _ _ ?_|refine hn15 _ ?_|refine he15 _ ?_|refine hf15 _ _ (by decide) ?_|refine hn14 _ ?_|refine he14 _ _ ?_|refine hn2 _ ?_|refine he2 _ _ ?_|refine hn1 _ ?_|refine he1 _ _ ?_)
   refine zc fun KY hKY=>?_
   simp only[go_sem,xF,jN,hap,(show(ns.length+2)*8≤140737488355328 by omega)]
   apply hKY
   refine jf fun KY hKY=>?_
   simp only[go_sem,xE,h0,h1,jN,hl2,(show 1≤ns.length+2 by omega),(show 2≤ns.length+2 by omega),(show([0,12]==[0,8])=false from rfl),Bool.not_false]
   apply hKY
   refine zh fun X25 hn25 he25 hr25=>?_
   by_cases h6:i=6
   · have d6:decide ((i:Int)=6)=true:=decide_eq_true (by omega)
     by_cases h61:a=1
     · have d61:decide ((a:Int)≠1)=false:=decide_eq_false (by omega)
       have hres:Zn l=(⟨i,a,b,[]⟩,0):=hpar.trans (if_neg (by omega))
       refine zc fun KY hKY=>?_
       simp only[go_sem,qn,d6,d61]
       apply hKY
       refine QQ ?_
       refine zz ?_
       repeat (first|refine hn25 _ ?_|refine he25 _ _ ?_|refine hn24 _ ?_|refine he24 _ _ ?_|refine hn17 _ ?_|refine he17 _ _ ?_|refine he16 _ _ ?_|refine hn15 _ ?_|refine he15 _ ?_|refine hf15 _ _ (by decide) ?_|refine hn14 _ ?_|refine he14 _ _ ?_|refine hn2 _ ?_|refine he2 _ _ ?_|refine hn1 _ ?_|refine he1 _ _ ?_)
       refine zc fun KY hKY=>?_
       simp only[go_sem,QI]
       apply hKY
       refine Z3 [0,2,3] 1 (by simp only[go_sem]) ?_
       simp only[go_sem]
       refine zX [0,2,3] (by simp only[go_sem];rfl) ?_
       simp only[go_sem]
       refine zA ?_
       repeat (first|refine hr25 _ ?_|refine hr24 _ ?_|refine hr17 _ ?_|refine hr16 _ ?_|refine hr15 _ ?_|refine hr14 _ ?_|refine hr2 _ ?_|refine hr1 _ ?_)
       simp only[go_sem]
       rw[hres];rfl
     · have d61:decide ((a:Int)≠1)=true:=decide_eq_true (by omega)
       by_cases h62:a=2
       · have d62:decide ((a:Int)≠2)=false:=decide_eq_false (by omega)
         have hres:Zn l=(⟨i,a,b,[]⟩,0):=hpar.trans (if_neg (by omega))
         refine zc fun KY hKY=>?_
         simp only[go_sem,qn,d6,d61,d62]
         apply hKY
         refine QQ ?_
         refine zz ?_
         repeat (first|refine hn25 _ ?_|refine he25 _ _ ?_|refine hn24 _ ?_|refine he24 _ _ ?_|refine hn17 _ ?_|refine he17 _ _ ?_|refine he16 _ _ ?_|refine hn15 _ ?_|refine he15 _ ?_|refine hf15 _ _ (by decide) ?_|refine hn14 _ ?_|refine he14 _ _ ?_|refine hn2 _ ?_|refine he2 _ _ ?_|refine hn1 _ ?_|refine he1 _ _ ?_)
         refine zc fun KY hKY=>?_
         simp only[go_sem,QI]
         apply hKY
         refine Z3 [0,2,3] 1 (by simp only[go_sem]) ?_
         simp only[go_sem]
         refine zX [0,2,3] (by simp only[go_sem];rfl) ?_
         simp only[go_sem]
         refine zA ?_
         repeat (first|refine hr25 _ ?_|refine hr24 _ ?_|refine hr17 _ ?_|refine hr16 _ ?_|refine hr15 _ ?_|refine hr14 _ ?_|refine hr2 _ ?_|refine hr1 _ ?_)
         simp only[go_sem]
         rw[hres];rfl
       · have d62:decide ((a:Int)≠2)=true:=decide_eq_true (by omega)
         have hres:Zn l=(⟨0,0,0,[]⟩,15):=hpar.trans (if_pos ⟨h6,h61,h62⟩)
         refine zc fun KY hKY=>?_
         simp only[go_sem,qn,d6,d61,d62]
         apply hKY
         refine Qm ?_
         refine zc fun KY hKY=>?_
         simp only[go_sem,xD]
         apply hKY
         refine Z3 [0,2,3] 1 (by simp only[go_sem]) ?_
         simp only[go_sem]
         refine zX [0,2,3] (by simp only[go_sem];rfl) ?_
         simp only[go_sem]
         refine zA ?_
         repeat (first|refine hr25 _ ?_|refine hr24 _ ?_|refine hr17 _ ?_|refine hr16 _ ?_|refine hr15 _ ?_|refine hr14 _ ?_|refine hr2 _ ?_|refine hr1 _ ?_)
         simp only[go_sem]
         rw[hres];rfl
   · have d6:decide ((i:Int)=6)=false:=decide_eq_false (by omega)
     have hres:Zn l=(⟨i,a,b,[]⟩,0):=hpar.trans (if_neg (by omega))
     refine zc fun KY hKY=>?_
     simp only[go_sem,qn,d6]
     apply hKY
     refine QQ ?_
     refine zz ?_
     repeat (first|refine hn25 _ ?_|refine he25 _ _ ?_|refine hn24 _ ?_|refine he24 _ _ ?_|refine hn17 _ ?_|refine he17 _ _ ?_|refine he16 _ _ ?_|refine hn15 _ ?_|refine he15 _ ?_|refine hf15 _ _ (by decide) ?_|refine hn14 _ ?_|refine he14 _ _ ?_|refine hn2 _ ?_|refine he2 _ _ ?_|refine hn1 _ ?_|refine he1 _ _ ?_)
     refine zc fun KY hKY=>?_
     simp only[go_sem,QI]
     apply hKY
     refine Z3 [0,2,3] 1 (by simp only[go_sem]) ?_
     simp only[go_sem]
     refine zX [0,2,3] (by simp only[go_sem];rfl) ?_
     simp only[go_sem]
     refine zA ?_
     repeat (first|refine hr25 _ ?_|refine hr24 _ ?_|refine hr17 _ ?_|refine hr16 _ ?_|refine hr15 _ ?_|refine hr14 _ ?_|refine hr2 _ ?_|refine hr1 _ ?_)
     simp only[go_sem]
     rw[hres];rfl
end Go.Proofs.YtneiihheeghdcaaDoor

namespace Go.Ga.Gl
open Go Go.Ga
def jU (n:Nat):List UInt8:=if n<10 then [UInt8.ofNat (48+n)] else jU (n / 10)++[UInt8.ofNat (48+n%10)]
termination_by n
decreasing_by omega
theorem JQ {n:Nat}(h:n<10):jU n=[UInt8.ofNat (48+n)]:=by rw[jU,if_pos h]
theorem qK {n:Nat}(h:¬n<10):jU n=jU (n / 10)++[UInt8.ofNat (48+n%10)]:=by rw[jU,if_neg h]
theorem dg (k:Nat)(h:k<10):(UInt8.ofNat (48+k)).toNat=48+k:=by simp;omega
theorem xB (n:Nat):(jU n).all yA=true:=by
 induction n using Nat.strongRecOn with
 | _ n ih=>
   by_cases h:n<10
   · rw[JQ h]
     simp only[List.all_cons,List.all_nil,Bool.and_true,yA,dg n h]
     simp;omega
   · rw[qK h,List.all_append,ih _ (by omega)]
     have:=dg (n%10) (by omega)
     simp only[List.all_cons,List.all_nil,Bool.and_true,Bool.true_and,yA,this]
     simp;omega
theorem ke (n:Nat):val (jU n)=n:=by
 induction n using Nat.strongRecOn with
 | _ n ih=>
   by_cases h:n<10
   · rw[JQ h]
     show 10*0+((UInt8.ofNat (48+n)).toNat - 48)=n
     rw[dg n h];omega
   · rw[qK h,Qo,ih _ (by omega),dg (n%10) (by omega)];omega
theorem xA (n:Nat):∀k,(jU n).length≤k+1↔n<10^(k+1):=by
 induction n using Nat.strongRecOn with
 | _ n ih=>
   intro k
   by_cases h:n<10
   · rw[JQ h]
     have:10^1≤10^(k+1):=Nat.pow_le_pow_right (by omega) (by omega)
     simp;omega
   · rw [qK h,List.length_append]
     cases k with
     | zero=>
       have h2:1≤(jU (n / 10)).length:=by
        by_cases h3:n / 10<10
        · rw[JQ h3];simp
        · rw[qK h3];simp
       rw[show(10:Nat)^(0+1)=10 from rfl]
       simp only[List.length_cons,List.length_nil]
       omega
     | succ k=>
       have:=ih (n / 10) (by omega) k
       rw[Nat.pow_succ]
       simp only[List.length_cons,List.length_nil]
       omega
theorem xz (n:Nat):1≤(jU n).length:=by
 by_cases h3:n<10
 · rw[JQ h3];simp
 · rw[qK h3];simp
theorem US (n:Nat)(h:1≤n):(jU n).getD 0 0≠48:=by
 induction n using Nat.strongRecOn with
 | _ n ih=>
   by_cases h3:n<10
   · rw[JQ h3]
     intro e
     have:=congrArg UInt8.toNat (show UInt8.ofNat (48+n)=48 from e)
     rw[dg n h3] at this
     have h48:(48:UInt8).toNat=48:=rfl
     omega
   · rw[qK h3]
     have hp:=xz (n / 10)
     have:=ih (n / 10) (by omega) (by omega)
     rw[List.getD_eq_getElem?_getD,List.getElem?_append_left hp]
     rwa [List.getD_eq_getElem?_getD] at this
theorem VE (n:Nat):jE (jU n)=if n<1000000000 then some n else none:=by
 have h1:=xz n
 have h2:=xA n 8
 unfold jE
 by_cases h:n<1000000000
 · rw[if_pos h,if_neg,ke]
   rintro(h3|h3|⟨h3,h4⟩|h3)
   · omega
   · omega
   · have h5:=xA n 0
     exact US n (by omega) h4
   · rw[xB] at h3;cases h3
 · rw[if_neg h,if_pos]
   refine .inr (.inl ?_)
   omega
theorem kb {b:UInt8}(h:yA b=true):b≠32:=by
 intro e;subst e;revert h;decide
end Go.Ga.Gl
namespace Go.Proofs.YtneiihheeghdcaaDoor
open Go Go.Ga Go.Ga.Gl
theorem YQ :zJ Tryd.prog [] KW [] [] fun r h'=>r= .sc (.bool true)∧h'=[]:=by
 have hP:=y7 [97,100,100,32,49,32,50] (by decide)
 rw[show Zn [97,100,100,32,49,32,50]=(⟨2,1,2,[]⟩,0) by kernel_rfl] at hP
 unfold kN.cells at hP
 simp only at hP
 refine gJ rfl ?_
 unfold ga yM
 refine zc fun KY hKY=>?_
 simp only[go_sem,Xi]
 apply hKY
 refine zc fun KY hKY=>?_
 simp only[go_sem,Xh]
 apply Jt [] [] false none rfl
 iterate 8 (first|(simp only[go_sem,zQ]<;>rfl)|rfl)
 refine(hP).mono ?_
 rintro _ _ ⟨rfl,rfl⟩
 refine⟨Nat.le_of_ble_eq_true rfl,(fun hh=>by cases hh),?_⟩
 simp only[go_sem,ja,zb.after]
 apply hKY
 refine zc fun KY hKY=>?_
 simp only[go_sem,Xg]
 apply hKY
 refine zA ?_
 simp only[go_sem]
end Go.Proofs.YtneiihheeghdcaaDoor

namespace Go.Ga.Gl
open Go Go.Ga
theorem Q9 (l:List UInt8):za.plainL (JX l)=true:=(jj (fun b:UInt8=> .int .u8 (b.toNat:Int)) l).1
theorem kr (l:List UInt8):za.flatL (JX l)=true:=(jj (fun b:UInt8=> .int .u8 (b.toNat:Int)) l).2
theorem YM :∀l:List UInt8,za.cellOkL (JX l)=true
 |[]=>rfl
 | b::l=>by
   have:=YM l
   simpa[JX,za.cellOkL,za.cellOk] using this
theorem QK (l:List UInt8):za.copyableL (JX l)=true:=plain_copyableL _ (Q9 l)
theorem uo (l:List UInt8):za.freezeL (JX l)=JX l:=copyable_freezeL _ (QK l)
theorem Xj (l:List UInt8):za.ids0L (JX l)=true:=plain_ids0L _ (Q9 l)
theorem KC (g:Nat→Option Nat)(l:List UInt8):za.renL g (JX l)=JX l:=ids0_renL g _ (Xj l)
theorem VT (l:List za):(za.tup l).ids0=za.ids0L l:=by simp only[za.ids0]
theorem UO (A:za)(l:List za):za.ids0L (A::l)=(A.ids0&&za.ids0L l):=by simp only[za.ids0L]
theorem VU (s:Nat)(l:List za):(za.imm s l).ids0=za.ids0L l:=by simp only[za.ids0]
attribute [go_sem] VT UO VU ZL Q9 kr YM QK uo Xj KC
theorem WZ (c:UInt8):∀(w r:List UInt8),w.count c=0→zH c (w++c::r)=w::zH c r
 |[],r,_=>by show zH c (c::r)=_;rw[jW,if_pos rfl]
 | b::w,r,h=>by
   have hb:b≠c:=fun e=>by rw[e,List.count_cons_self] at h;omega
   rw[List.count_cons_of_ne hb] at h
   show zH c (b::(w++c::r))=_
   rw[jW,if_neg hb,WZ c w r h]
def kept (w:List UInt8)(k:Nat):List UInt8:=(w.take k).filter fun b=>decide (b≠10)
def Je (k:Nat):List UInt8:=(Y2.getD k ([],0)).1
def Z8 (k:Nat):Int:=(Y2.getD k ([],0)).2
def tx (w:List UInt8)(l:List Int):List UInt8:=w++l.flatMap fun n=>32::jU n.toNat
theorem vL (w:List UInt8):tx w []=w:=by simp[tx]
theorem kR (w:List UInt8)(n:Int)(l:List Int):tx w (n::l)=w++32::tx (jU n.toNat) l:=by simp[tx]
theorem kQ (w:List UInt8)(l:List Int)(n:Int):tx w (l++[n])=tx w l++32::jU n.toNat:=by simp[tx]
def KZ (n:Int):Bool:=decide (0≤n)&&decide (n≤999999999)
def Wk (k:Nat)(a b:Int)(l:List Int):Option (List Int):=
 if Z8 k<0 then(if a=0∧b=0 then some l else none)
 else if(Z8 k<2∧b≠0)∨(Z8 k<1∧a≠0)∨l≠ [] then none else some ([a,b].take (Z8 k).toNat)
def Wf (k a b:Int)(l:List Int):List UInt8×Int:=
 if k<1∨14<k∨(k=6∧a≠1∧a≠2) then([],15) else
 match Wk k.toNat a b l with
 |none=>([],15)
 |some ns=>if ns.all KZ=true∧(tx (Je k.toNat) ns).length≤65536 then(tx (Je k.toNat) ns,0) else([],15)
theorem WY :∀(l:List Int) (w:List UInt8),w.count 32=0→zH 32 (tx w l)=w::l.map fun n=>jU n.toNat
 |[],w,h=>by rw[vL,J6 h];rfl
 | n::l,w,h=>by
   have hd:(jU n.toNat).count 32=0:=List.count_eq_zero.2 fun hm=>kb (List.all_eq_true.1 (xB _) _ hm) rfl
   rw[kR,WZ 32 w _ h,WY l _ hd];rfl
theorem xe :∀l:List Int,l.all KZ=true→ZE (l.map fun n=>jU n.toNat)=some (l.map Int.toNat)
 |[],_=>rfl
 | n::l,h=>by
   rw[List.all_cons,Bool.and_eq_true] at h
   obtain⟨h1,h2⟩:=h
   unfold KZ at h1
   rw[Bool.and_eq_true,decide_eq_true_iff,decide_eq_true_iff] at h1
   show(match jE (jU n.toNat) with|none=>none|some m=>(ZE (l.map fun n:Int=>jU n.toNat)).map (m:: ·))=_
   rw[VE,if_pos (by omega),xe l h2];rfl
theorem V8 {k:Nat}(h1:1≤k)(h2:k≤14):Y2.findIdx? (hit (Je k))=some k:=by
 have:∀k:Fin 15,1≤k.1→Y2.findIdx? (hit (Je k.1))=some k.1:=by decide
 exact this ⟨k,by omega⟩ h1
theorem uX (k:Nat)(h2:k≤14):(Je k).count 32=0∧(Je k).length≤8∧ -1≤Z8 k∧Z8 k≤2:=by
 have:∀k:Fin 15,(Je k.1).count 32=0∧(Je k.1).length≤8∧ -1≤Z8 k.1∧Z8 k.1≤2:=by decide
 exact this ⟨k,by omega⟩
theorem UB {l:List Int}(h:l.all KZ=true):(l.map Int.toNat).map (fun n:Nat=>(n:Int))=l:=by
 rw[List.map_map]
 refine(List.map_congr_left fun n hn=>?_).trans (List.map_id l)
 have:=List.all_eq_true.1 h n hn
 unfold KZ at this
 rw[Bool.and_eq_true,decide_eq_true_iff,decide_eq_true_iff] at this
 show((n.toNat:Nat):Int)=n
 omega
theorem Wr {n:Int}:KZ n=true↔0≤n∧n≤999999999:=by
 unfold KZ;rw[Bool.and_eq_true,decide_eq_true_iff,decide_eq_true_iff]
theorem xc {k a b:Int}{l:List Int}{t:List UInt8}(h:Wf k a b l=(t,0)):
    ∃c:kN,Zn t=(c,0)∧(c.kind:Int)=k∧(c.a:Int)=a∧(c.b:Int)=b∧c.list.map (fun n:Nat=>(n:Int))=l:=by
  unfold Wf at h
  split at h
  · cases h
  rename_i hk
  have hk1:1≤k∧k≤14:=by omega
  obtain⟨m,rfl⟩:=Int.eq_ofNat_of_zero_le (show 0≤k by omega)
  simp only[Int.toNat_natCast] at h
  have hm:m≤14:=by omega
  obtain⟨g1,g2,g3,g4⟩:=uX m hm
  split at h
  · cases h
  rename_i ns hns
  split at h
  case isFalse=>cases h
  rename_i hall
  cases h
  have hsp:=WY ns _ g1
  have hnb:=xe ns hall.1
  unfold Wk at hns
  have hfd:=V8 (show 1≤m by omega) hm
  have hpar:∀x,(if 0≤Z8 m∧((ns.length+1:Nat):Int)≠Z8 m+1 then((⟨0,0,0,[]⟩:kN),(15:Int)) else
      if Z8 m<0 then(⟨m,0,0,ns.map Int.toNat⟩,0) else
      if m=6∧(ns.map Int.toNat).getD 0 0≠1∧(ns.map Int.toNat).getD 0 0≠2 then(⟨0,0,0,[]⟩,15) else(⟨m,(ns.map Int.toNat).getD 0 0,(ns.map Int.toNat).getD 1 0,[]⟩,0))=x→Zn (tx (Je m) ns)=x:=by
    rintro x rfl
    unfold Zn
    rw[if_neg (by omega),hsp]
    simp only[List.headD_cons,List.tail_cons,List.length_cons,List.length_map,hfd,hnb]
    rfl
  split at hns
  · rename_i hneg
    split at hns
    case isFalse=>cases hns
    rename_i hab
    cases hns
    refine⟨_,hpar _ ((if_neg (by omega)).trans (if_pos hneg)),rfl,hab.1.symm,hab.2.symm,UB hall.1⟩
  · rename_i hneg
    split at hns
    · cases hns
    rename_i hc
    cases hns
    have hl:l=[]:=Classical.byContradiction fun e=>hc (.inr (.inr e))
    subst hl
    have hab:(Z8 m=0∧a=0∧b=0)∨(Z8 m=1∧b=0)∨Z8 m=2:=by
      rcases(show Z8 m=0∨Z8 m=1∨Z8 m=2 by omega) with e|e|e
      · refine .inl ⟨e,Classical.byContradiction fun h=>hc (.inr (.inl ⟨by omega,h⟩)),Classical.byContradiction fun h=>hc (.inl ⟨by omega,h⟩)⟩
      · exact .inr (.inl ⟨e,Classical.byContradiction fun h=>hc (.inl ⟨by omega,h⟩)⟩)
      · exact .inr (.inr e)
    have c6:Z8 6=1:=by decide
    rcases hab with⟨e,rfl,rfl⟩|⟨e,rfl⟩|e
    · rw[e] at hpar hall⊢
      have h6:m≠6:=fun h=>by subst h;omega
      exact⟨⟨m,0,0,[]⟩,hpar _ ((if_neg (by decide)).trans ((if_neg (by decide)).trans (if_neg fun h=>h6 h.1))),rfl,rfl,rfl,rfl⟩
    · rw[e] at hpar hall⊢
      have ha:=Wr.1 (List.all_eq_true.1 hall.1 a (.head _))
      refine⟨⟨m,a.toNat,0,[]⟩,hpar _ ((if_neg (by show¬((0:Int)≤1∧((1+1:Nat):Int)≠1+1);omega)).trans ((if_neg (by decide)).trans (if_neg fun h=>hk (.inr (.inr ⟨by omega,?_⟩))))),rfl,?_,rfl,rfl⟩
      · have h2:a.toNat≠1∧a.toNat≠2:=h.2
        omega
      · show((a.toNat:Nat):Int)=a
        omega
    · rw[e] at hpar hall⊢
      have ha:=Wr.1 (List.all_eq_true.1 hall.1 a (.head _))
      have hb:=Wr.1 (List.all_eq_true.1 hall.1 b (.tail _ (.head _)))
      have h6:m≠6:=fun h=>by subst h;omega
      refine⟨⟨m,a.toNat,b.toNat,[]⟩,hpar _ ((if_neg (by show¬((0:Int)≤2∧((2+1:Nat):Int)≠2+1);omega)).trans ((if_neg (by decide)).trans (if_neg fun h=>h6 h.1))),rfl,?_,?_,rfl⟩
      · show((a.toNat:Nat):Int)=a
        omega
      · show((b.toNat:Nat):Int)=b
        omega
def Gv (c:UInt8)(l:List UInt8)(i:Nat)(ps:List (List UInt8))(f:Nat):Prop:=f≤i∧zH c (l.take i)=ps++[(l.take i).drop f]
theorem Wx {c:UInt8}{l:List UInt8}{i:Nat}{ps:List (List UInt8)}{f:Nat}(h:Gv c l i ps f):ps.length≤i:=by
 have h1:=q6 c (l.take i)
 have h2:=JR c (l.take i)
 rw[h.2] at h1
 rw[List.length_take] at h2
 simp at h1
 omega
def built (k:Nat)(ns:List Nat):kN:=if Z8 k<0 then⟨k,0,0,ns⟩ else⟨k,ns.getD 0 0,ns.getD 1 0,[]⟩
def kN.ints (c:kN):List Int:=c.list.map fun n:Nat=>(n:Int)
end Go.Ga.Gl
namespace Go.Proofs.YtneiihheeghdcaaDoor
open Go Go.Ga Go.Ga.Gl
def lt (n:Nat):List UInt8:=tx (Je 11) (List.replicate n 1)
theorem Wm (n:Nat):lt n++[32,49]=lt (n+1):=by
 unfold lt
 rw[List.replicate_succ',kQ]
 rw[show jU (1:Int).toNat=[49] from JQ (by decide)]
theorem Wn (n:Nat):(lt n).length=6+2*n:=by
 induction n with
 |zero=>rfl
 |succ n ih=>rw[←Wm,List.length_append,ih];simp;omega
theorem gx (n:Nat):JX (lt n)++JX [32,49]=JX (lt (n+1)):=by
 rw[←Wm];simp[JX]
theorem VI {n:Nat}(h:n≤32765):∃c:kN,Zn (lt n)=(c,0)∧c.list.length=n:=by
 have hall:(List.replicate n (1:Int)).all KZ=true:=List.all_eq_true.2 fun x hx=>by rw[List.eq_of_mem_replicate hx];decide
 have hl:=Wn n
 have hp:Wf 11 0 0 (List.replicate n 1)=(lt n,0):=by
  unfold Wf
  rw[if_neg (by omega)]
  have hn:Wk (11:Int).toNat 0 0 (List.replicate n 1)=some (List.replicate n 1):=by
   unfold Wk
   rw[if_pos (by decide),if_pos ⟨rfl,rfl⟩]
  rw[hn]
  exact if_pos ⟨hall,by show(lt n).length≤65536;omega⟩
 obtain⟨c,h1,_,_,_,h5⟩:=xc hp
 refine⟨c,h1,?_⟩
 have:=congrArg List.length h5
 simpa using this
theorem GV :zv [.int .u8 0] 6=[.sc (.int .u8 0),.sc (.int .u8 0),.sc (.int .u8 0),.sc (.int .u8 0),.sc (.int .u8 0),.sc (.int .u8 0)]:=rfl
theorem VM (b:Bool):zJ Tryd.prog [] Gf [.sc (.bool b)] [] fun r h'=>r= .sc (.bool true):=by
 have h0:JX (lt 0)=[.sc (.int .u8 102),.sc (.int .u8 97),.sc (.int .u8 99),.sc (.int .u8 116),.sc (.int .u8 111),.sc (.int .u8 114)]:=by
  rw[show lt 0=[102,97,99,116,111,114] from vL _];rfl
 refine Gn rfl ?_
 unfold Gx Jk
 refine zc fun KY hKY=>?_
 simp only[go_sem,uV]
 apply hKY
 refine zc fun KY hKY=>?_
 simp only[go_sem,uU,GV,List.length_cons,List.length_nil,List.drop_succ_cons,List.drop_zero,List.drop_nil]
 apply hKY
 rw[←h0]
 refine zh fun X1 hn1 he1 hr1=>?_
 refine Ze fun X2 hn2 he2 hf2 hr2=>?_
 try simp only[go_sem]
 refine q1 (α:=Nat) [11] (fun n=>[(3,.own (some 1) (JX (lt n)))]) (fun n=>[]) (fun n q=>n≤32765∧q=32765 - n) (0) (32765) rfl (by first|(simp only[go_sem,zp,zw];done)|with_reducible rfl|rfl) (⟨by decide,rfl⟩) ?_
 rintro n q ⟨hn,rfl⟩ X3 hn3 he3 hr3
 simp only[go_sem,zp,zw]
 have hl:=Wn n
 refine zh fun X4 hn4 he4 hr4=>?_
 rcases Nat.lt_or_ge n 32765 with hn2|hn2
 · have hdx:decide (((lt n).length:Int)<65535)=true:=decide_eq_true (by omega)
   refine zc fun KY hKY=>?_
   simp only[go_sem,WF,ZL,hdx]
   apply hKY
   refine Qm ?_
   refine zz ?_
   repeat (first|refine hn4 _ ?_|refine he4 _ _ ?_|refine he3 _ _ ?_|refine hn2 _ ?_|refine he2 _ ?_|refine hf2 _ _ (by decide) ?_|refine hn1 _ ?_|refine he1 _ _ ?_)
   refine Ze fun X5 hn5 he5 hf5 hr5=>?_
   refine ZH fun KY hKY=>?_
   simp only[go_sem,uT,ZL,(show 0<(lt n).length by omega),gx,(show(lt n).length+1<140737488355328 by omega),List.length_cons,List.length_nil]
   apply hKY
   repeat (first|refine hn5 _ ?_|refine he5 _ ?_|refine hf5 _ _ (by decide) ?_|refine hn4 _ ?_|refine he4 _ _ ?_)
   refine hn3 _ (n+1) (32765 - (n+1)) (by omega) (by first|(simp only[go_sem,zp,zw];done)|with_reducible rfl) ?_
   exact⟨hn2,rfl⟩
 obtain rfl:n=32765:=by omega
 have hdx:decide (((lt 32765).length:Int)<65535)=false:=decide_eq_false (by omega)
 obtain⟨c,hp,hcl⟩:=VI (Nat.le_refl 32765)
 have hP:=y7 (lt 32765) (by omega)
 have hP2:=y7 (lt 32766) (by rw[Wn];omega)
 have hp2:Zn (lt 32766)=(⟨0,0,0,[]⟩,8):=if_pos (by rw[Wn];omega)
 rw[hp] at hP
 rw[hp2] at hP2
 unfold kN.cells at hP hP2
 simp only at hP hP2
 have ha:Jf .add (jv (lt 32765)) (jv [32,49])=some (.string (jv (lt 32766))):=by
  have:=k6 (a:=lt 32765) (b:=[32,49]) (by rw[hl];decide)
  rwa [Wm] at this
 obtain⟨w,hw⟩:∃w,w=lt 32765:=⟨_,rfl⟩
 obtain⟨w2,hw2⟩:∃w2,w2=lt 32766:=⟨_,rfl⟩
 rw[←hw] at hdx hP ha hl
 rw[←hw2] at hP2 ha
 rw[←hw]
 refine zc fun KY hKY=>?_
 simp only[go_sem,WF,ZL,hdx]
 apply hKY
 refine QQ ?_
 refine jF ?_
 repeat (first|refine hn4 _ ?_|refine he4 _ _ ?_|refine he3 _ _ ?_|refine hn2 _ ?_|refine he2 _ ?_|refine hf2 _ _ (by decide) ?_|refine hn1 _ ?_|refine he1 _ _ ?_)
 refine zc fun KY hKY=>?_
 simp only[go_sem,uS,wZ]
 apply hKY
 refine zh fun X6 hn6 he6 hr6=>?_
 cases b with
 | true=>
   refine zc fun KY hKY=>?_
   simp only[go_sem,WE]
   apply hKY
   refine Qm ?_
   refine ZH fun KY hKY=>?_
   simp only[go_sem,uR,ha]
   apply hKY
   repeat (first|refine hn6 _ ?_|refine he6 _ _ ?_|refine hn4 _ ?_|refine he4 _ _ ?_|refine he3 _ _ ?_|refine hn2 _ ?_|refine he2 _ ?_|refine hf2 _ _ (by decide) ?_|refine hn1 _ ?_|refine he1 _ _ ?_)
   refine zc fun KY hKY=>?_
   simp only[go_sem,WD]
   apply Jt [] [] false none rfl
   iterate 8 (first|(simp only[go_sem,zQ]<;>rfl)|rfl)
   refine(hP2).mono ?_
   rintro _ _ ⟨rfl,rfl⟩
   refine⟨Nat.le_of_ble_eq_true rfl,(fun hh=>by cases hh),?_⟩
   simp only[go_sem,ja,zb.after]
   apply hKY
   refine zh fun X7 hn7 he7 hr7=>?_
   refine zc fun KY hKY=>?_
   simp only[go_sem,WC]
   apply hKY
   refine Qm ?_
   refine zc fun KY hKY=>?_
   simp only[go_sem,uQ]
   refine Zd rfl (by simp only[go_sem]<;>rfl) ((YQ).mono ?_)
   rintro rr hh ⟨rfl,rfl⟩
   refine⟨rfl,rfl,rfl,?_⟩
   simp only[go_sem,jN]
   apply hKY
   refine zA ?_
   repeat (first|refine hr7 _ ?_|refine hr6 _ ?_|refine hr4 _ ?_|refine hr3 _ ?_|refine hr2 _ ?_|refine hr1 _ ?_)
   simp only[go_sem]
 | false=>
   have w1:IntKind.i64.wrap ((w.length:Int) - 6)=65530:=by rw[IntWalk.i64_in _ (by omega)];omega
   have w2:IntKind.i64.wrap ((65530:Int).tdiv 2)=32765:=by decide
   have d1:decide ((c.list.length:Int)=32765)=true:=decide_eq_true (by omega)
   refine zc fun KY hKY=>?_
   simp only[go_sem,WE]
   apply hKY
   refine QQ ?_
   refine zz ?_
   repeat (first|refine hn6 _ ?_|refine he6 _ _ ?_|refine hn4 _ ?_|refine he4 _ _ ?_|refine he3 _ _ ?_|refine hn2 _ ?_|refine he2 _ ?_|refine hf2 _ _ (by decide) ?_|refine hn1 _ ?_|refine he1 _ _ ?_)
   refine zc fun KY hKY=>?_
   simp only[go_sem,WD]
   apply Jt [] [] false none rfl
   iterate 8 (first|(simp only[go_sem,zQ]<;>rfl)|rfl)
   refine(hP).mono ?_
   rintro _ _ ⟨rfl,rfl⟩
   refine⟨Nat.le_of_ble_eq_true rfl,(fun hh=>by cases hh),?_⟩
   simp only[go_sem,ja,zb.after]
   apply hKY
   refine zh fun X8 hn8 he8 hr8=>?_
   refine zc fun KY hKY=>?_
   simp only[go_sem,WC]
   apply hKY
   refine QQ ?_
   refine zz ?_
   repeat (first|refine hn8 _ ?_|refine he8 _ _ ?_|refine hn6 _ ?_|refine he6 _ _ ?_|refine hn4 _ ?_|refine he4 _ _ ?_|refine he3 _ _ ?_|refine hn2 _ ?_|refine he2 _ ?_|refine hf2 _ _ (by decide) ?_|refine hn1 _ ?_|refine he1 _ _ ?_)
   refine zc fun KY hKY=>?_
   simp only[go_sem,xN]
   refine Zd rfl (by simp only[go_sem]<;>rfl) ((YQ).mono ?_)
   rintro rr hh ⟨rfl,rfl⟩
   refine⟨rfl,rfl,rfl,?_⟩
   simp only[go_sem,jN,w1,w2,d1]
   apply hKY
   refine zA ?_
   repeat (first|refine hr8 _ ?_|refine hr6 _ ?_|refine hr4 _ ?_|refine hr3 _ ?_|refine hr2 _ ?_|refine hr1 _ ?_)
   simp only[go_sem]
theorem Y8 (As:List za)(b:Nat)(h:KH Tryd.prog Tryd.f5.params.toList As b)(hb:b≤1048576):zJ Tryd.prog [] 5 As [] fun r _=>r= .sc (.bool true):=by
 rw[Tryd.params5] at h
 obtain⟨A1,As1,c1,d1,rfl,rfl,h1,h⟩:=Va h
 obtain rfl:=Ke h
 obtain⟨x1,rfl⟩:=Kf Tryd.underlying4 h1
 exact(VM x1).mono fun _ _ h=>h
end Go.Proofs.YtneiihheeghdcaaDoor
namespace Go.Proofs.YtneiihheeghdcaaDoor.linesLongend
open Go Go.Ga Go.ChangeShapes Go.WideShapes Go.ChangeAt Go.RowKit
theorem own :ownKnob Tryd.prog.godebug=none:=by kernel_rfl
mutual
theorem yL {H:Type}:∀d:DataW H,Rows.uptoBulk d=Z2 d
 | .lit l=>by cases l<;>simp[Rows.uptoBulk,Z2]
 | .nil=>by simp[Rows.uptoBulk,Z2]
 | .ptr d=>by simp[Rows.uptoBulk,Z2,yL d]
 | .slice e s=>by simp[Rows.uptoBulk,Z2,bulk_eq e,bulk_eq s]
 | .agg p=>by simp[Rows.uptoBulk,Z2,bulk_eq p]
 | .iface _ d=>by simp[Rows.uptoBulk,Z2,yL d]
 | .map e=>by simp[Rows.uptoBulk,Z2,bulk_es e]
 | .held _=>by simp[Rows.uptoBulk,Z2]
theorem bulk_eq {H:Type}:∀l:List (DataW H),Rows.uptoBulkAll l=bulkL l
 |[]=>by simp[Rows.uptoBulkAll,bulkL]
 |d::r=>by simp[Rows.uptoBulkAll,bulkL,yL d,bulk_eq r]
theorem bulk_es {H:Type}:∀l:List (Lit×DataW H),Rows.uptoBulkEntries l=bulkE l
 |[]=>by simp[Rows.uptoBulkEntries,bulkE]
 |d::r=>by simp[Rows.uptoBulkEntries,bulkE,bulk_e d,bulk_es r]
theorem bulk_e {H:Type}:∀d:Lit×DataW H,Rows.uptoBulkEntry d=bulk1 d
 |(l,d)=>by cases l<;>simp[Rows.uptoBulkEntry,bulk1,yL d]
end
set_option maxRecDepth 100000 in
theorem plain :wV Tryd.prog [4]:=Vw (by kernel_rfl)
set_option maxRecDepth 100000 in
theorem ki (H:Type)(enc:TypeId×Value→H)(W:World)(base:Nat)(args:Array Value)(ds gs:List (DataW H))(before:List MemPlace)
    (hval:∀(j:Nat) t v,Tryd.f5.params[j]?=some t→args[j]?=some v→Value.okWide Tryd.prog W .any base t v)
    (hW:DataW.Whole enc Tryd.prog Tryd.f5.params.toList Rows.linesLongSpec.vars false W args.toList ds gs before) (hk:Rows.uptoSmall H (ds++gs)=true) (hT:jV Tryd.prog (Env.plain W)):
    Calls Tryd.prog 5 args W fun e W'=>∃v,e= .returned v∧Rows.linesLongSpec.post enc Tryd.prog Tryd.f5 false true false false W args v W':=by
  have hW':=hW
  obtain⟨p,q,hA,hV,rfl,hfz,hnd⟩:=hW
  obtain⟨rfl,rfl⟩:=Go.Ga.JA hV
  have hb:bulkL (ds++[])≤1048576:=by rw[←bulk_eq];exact of_decide_eq_true hk
  have r0:DataW.TrodAll enc Tryd.prog W 0 (fun _=>true) true Tryd.f5.params.toList args.toList ds p:=hA
  rw[Tryd.params5] at r0
  obtain⟨v0,vs0,d0,ds0,p0,q0,hv0,rfl,rfl,h0,r1⟩:=trodAll_cons r0
  obtain⟨rfl,rfl,rfl⟩:=trodAll_nil r1
  exact wa plain hval (by rw[Tryd.params5];decide) hW' rfl rfl rfl rfl (tb:=4) (by kernel_rfl) Tryd.underlying4 hb hT Y8
mutual
def flat :DataW Unit→List Value
 | .lit l=>[l.value]
 | .agg p=>flatL p
 |_=>[]
def flatL :List (DataW Unit)→List Value
 |[]=>[]
 |d::r=>flat d++flatL r
end
def Gb (l:List Value):Obj→Obj
 | .cells _ t frozen=> .cells l.toArray t frozen
 |o=>o
noncomputable def Q0 (os:Os):World:=
 {World.holding Tryd.prog os ⟨#[], #[],[]⟩ with heap:=(((World.holding Tryd.prog os ⟨#[], #[],[]⟩).heap).modify 3 (Gb (flat Rows.laid_unicode_utf8_acceptRanges))).modify 2 (Gb (flat Rows.laid_unicode_utf8_first))}
theorem VN (os:Os):laidMet Tryd.prog Rows.linesLongUptoRow.laid ((Q0 os).forCall (fun _ _=>0) ⟨#[], #[.bool false],[]⟩).memory:=
 laidMet_of_run' 8 (by kernel_rfl) (by kernel_rfl)
theorem g9 (os:Os){H:Type}(enc:TypeId×Value→H):∃places,DataW.whole enc Tryd.prog ((Q0 os).forCall (fun _ _=>0) ⟨#[], #[.bool false],[]⟩).memory Tryd.f5.params.toList Rows.linesLongSpec.vars false (#[.bool false]:Array Value).toList 8=some ([.lit (.bool false)],[],places):=
 ⟨[],by kernel_rfl⟩
theorem GZ (W:World)(_:laidMetH Tryd.prog Rows.linesLongUptoRow.laid W):jV Tryd.prog (Env.plain W):=UG
set_option maxRecDepth 100000 in
theorem gy (os:Os)(started:os.Started)(H:Type)(enc:TypeId×Value→H)(F:Stop.Interp):
    ReturnsInHanded {} Tryd.checked os 5 .any ((Rows.OpenSpec.upto Rows.linesLongSpec).preRow enc Tryd.prog Tryd.f5 Rows.linesLongUptoRow.domain false Rows.linesLongUptoRow.laid) (((Rows.OpenSpec.upto Rows.linesLongSpec).at F).post enc Tryd.prog Tryd.f5 false true false false):=by
  obtain⟨places,hx⟩:=g9 os enc
  refine returnsInHanded_of_row (C:=Tryd.checked) (s:=Rows.OpenSpec.upto Rows.linesLongSpec) own started (by kernel_rfl) Tryd.func5
    (witness_row_at (enc:=enc) (C:=Tryd.checked) false (Q0 os) #[.bool false] rfl (by kernel_rfl) (by kernel_rfl) (by kernel_rfl)
      (OpenSpec.preRow_of_cond 8 hx (by kernel_rfl) (fun k hk=>by cases hk;kernel_rfl) (by kernel_rfl) (VN os))) ?_
  intro W base args ds gs before hval hW _ hcond _ hlaid _ _
  exact ki H enc W base args ds gs before hval hW (hcond _ rfl) (GZ W hlaid)
theorem Vb :Rows.LinesLongUptoSaid:=
 OpenClaim.holds_of_cond 5 Tryd.f5 rfl rfl rfl rfl rfl rfl rfl ⟨rfl,rfl,rfl,rfl,rfl⟩ rfl rfl rfl rfl rfl (by kernel_rfl) Tryd.func5 (by kernel_rfl)
  (of_decide_eq_true (by kernel_rfl)) (by unfold Func.isWrapper;first|(rw[if_pos (by decide+kernel)];kernel_rfl)|(rw[if_neg (by decide+kernel)];exact⟨rfl,rfl⟩))
  (fun os started H enc _ F=>by rw[OpenClaim.pre_eq_preRow];exact gy os started H enc F)
theorem g8 (f : FuncId) (fn : Func) (hf : Tryd.pinned.checked.prog.funcNamed "garland/garlandlaw26.LinesLong" = some f) (hfn : Tryd.pinned.checked.prog.funcs[f]? = some fn) :
    false=Tryd.pinned.checked.prog.looks []∧∀(j:Nat) t,fn.params[j]?=some t→Tryd.pinned.checked.prog.wantsStandIn t=false:=by
  obtain rfl : f = 5 := Option.some.inj ((show Tryd.prog.funcNamed "garland/garlandlaw26.LinesLong" = some 5 by kernel_rfl).symm.trans hf) |>.symm
  obtain rfl:fn=Tryd.f5:=(Option.some.inj (Tryd.func5.symm.trans hfn)).symm
  refine⟨by kernel_rfl,fun j t ht=>?_⟩
  have h:(Tryd.f5.params.toList.all fun t=> !Tryd.prog.wantsStandIn t)=true:=by kernel_rfl
  have:=List.all_eq_true.1 h t (by rw[Array.mem_toList_iff];exact Array.mem_of_getElem? ht)
  have h2:Tryd.prog.wantsStandIn t=false:=by simpa using this
  exact h2
theorem holds :Rows.LinesLongUptoCardSaid:=
 Claim7.holds_tied_plain_at .later [] _ _ _ _ Vb (fun _ h=>by cases h) (by kernel_rfl) (fun _ h=>by cases h) linesLongUpto_row_tie rfl ⟨rfl,rfl⟩ (by kernel_rfl) rfl g8 (by kernel_rfl)
end Go.Proofs.YtneiihheeghdcaaDoor.linesLongend
