/- What is printed is parsed; what is parsed, printed again, is the same line. -/
import Derived.Test.YtneiihheeghdcaaDoorRows
import Derived.Test.YtneiihheeghdcaaDoorGndhmgj5
import Derived.Shelf.Strings.Search1
import Derived.Shelf.Strings.Count
import Derived.Shelf.Bytes.IndexByte
import Derived.Shelf.Bytes.SlIndexAt
import Derived.Lib.Bytealg
import Derived.Lib.Join
import Derived.Lib.ItoaNum
import Derived.Shelf.Strings.OnBuilder
import Derived.Shelf.Strconv.Itoa3
import Derived.WalkKit
import Derived.ProofKit
import Derived.OpenShut
import Derived.JoinedCond
import Derived.Test.YtneiihheeghdcaaDoorCards
import Derived.Test.YtneiihheeghdcaaDoorTie
import Derived.Deep.DeepHandedRow
import Derived.Lib.LaidTab
import Derived.Stop.LaidErr
set_option linter.all false

namespace Go.Proofs.YtneiihheeghdcaaDoor
open Go Go.Ga
theorem mix :Tryd.prog.follows .mixedOrders=true:=by kernel_rfl
def vk :List zk:=[(none,.box 3 (.t 1)),oO 4]
def Yk :List zk:=[oM 13 0,(none,.r (.lenS 14 (.t 13))),oB 15 .gtr 14 2000,oM 16 15,(some (16,false),.r (.fldA 17 (.t 3) 3)),QB 16 false 18 17 1,(some (16,false),.r (.len 19 (.t 18))),yU 16 false 20 .gtr 19 300,oQ 21 16 20]
def xr :List zk:=[(none,.call 22 (.f 10) []),oS 4 22]
def vi :List zk:=[oT 24 3 4,oC 25 14 24,oM 23 25,oY 26 23 0,oY 27 23 1,oS 5 26,oS 6 27]
def vh :List zk:=[oM 29 5,oC 30 9 29,oM 28 30,oY 31 28 0,oY 32 28 1,(none,.alloc 7 [.int .i64 0,.int .i64 0,.int .i64 0,.slice none 0 0]),oW 7 31 4,oS 8 32]
def vg :List zk:=[oM 34 0,oC 35 9 34,oM 33 35,oY 36 33 0,oY 37 33 1,(none,.alloc 9 [.int .i64 0,.int .i64 0,.int .i64 0,.slice none 0 0]),oW 9 36 4,oS 10 37]
def vf :List zk:=[oT 39 9 4,oC 40 14 39,oM 38 40,oY 41 38 0,oY 42 38 1,oS 11 41,oS 12 42]
def Q4 :List zk:=[(none,.call 43 (.f 10) []),oM 44 43,oK 44 true 45 6,yU 44 true 46 .neq 45 0,oK 44 true 47 46,oK 47 false 48 8,yU 47 false 49 .eql 48 0,oK 47 false 50 49,(some (50,true),.r (.ld 51 (.t 7) 4 true)),(some (50,true),.r (.ld 52 (.t 3) 4 true)),(some (50,true),
 .call 53 (.f 15) [(.t 51,false),(.t 52,false)]),(some (47,false),.r (.pick 54 (.t 50) (.t 53) (.c (.bool false)))),(some (44,true),.r (.pick 55 (.t 47) (.c (.bool true)) (.t 54))),oP 56 44 55,oM 57 56,oK 57 true 58 10,yU 57 true 59 .neq 58 0,oK 57 true 60 59,oK 60 false 61 12,yU 60 false 62 .eql 61 0,
 oK 60 false 63 62,oK 63 true 64 11,oK 63 true 65 0,kf 63 true 66 .eql 64 65,(some (60,false),.r (.pick 67 (.t 63) (.t 66) (.c (.bool false)))),(some (57,true),.r (.pick 68 (.t 60) (.c (.bool true)) (.t 67))),oP 69 57 68,oS 4 69]
def QE :List Nat:=[0,1,3,4,5,6,7,8,9,10,11,12,21]
def Pn :zT:=.seq (.reg [0,1,4,5,6,7,8,9,10,11,12,21] vk QE) (.seq (.seq (.reg [0,1,3,4,5,6,7,8,9,10,11,12] Yk QE) (.cond (.t 21) (.seq (.reg QE xr QE) .ret) .skip)) (.seq (.reg QE vi QE) (.seq (.reg [0,
 1,3,4,5,6,8,9,10,11,12,21] vh QE) (.seq (.reg [0,1,3,4,5,6,7,8,10,11,12,21] vg QE) (.seq (.reg QE vf QE) (.seq (.reg QE Q4 QE) .ret))))))
abbrev pf :Nat:=7
theorem Pf :xy Tryd.prog Tryd.f7.ntmps 2 [4] QE [(.tmp 4)] Pn pf:=Xp mix Tryd.func7 (by kernel_rfl) rfl
def ve :List zk:=[(none,.alloc 2 [.int .i64 0,.int .i64 0,.int .i64 0,.slice none 0 0]),oI 3 0]
def xq :List zk:=[oM 13 0,(none,.r (.lenS 14 (.t 13))),oB 15 .gtr 14 65536]
def vd :List zk:=[(none,.bld 16 [] [.int .i64 0,.int .i64 0,.int .i64 0,.slice none 0 0]),oW 2 16 4,oI 3 8]
def vc :List zk:=[oM 17 0,(none,.call 18 (.f 23) [(.t 17,false),(.c (.string ⟨#[32]⟩),false)]),(none,.bld 19 [((0,1),(.t 18,true))] [.slice none 0 0]),(none,.box 20 (.t 19)),(none,.alloc 4 [.pointer none]),oW 4 20 1]
def vb :List zk:=[(none,.call 21 (.f 24) []),(none,.alloc 5 [.string ⟨#[]⟩,.int .i64 0,.string ⟨#[]⟩,.int .i64 0,.string ⟨#[]⟩,.int .i64 0,.string ⟨#[]⟩,.int .i64 0,.string ⟨#[]⟩,.int .i64 0,.string ⟨#[]⟩,.int .i64 0,.string ⟨#[]⟩,.int .i64 0,.string ⟨#[]⟩,.int .i64 0,.string ⟨#[]⟩,.int .i64 0,
 .string ⟨#[]⟩,.int .i64 0,.string ⟨#[]⟩,.int .i64 0,.string ⟨#[]⟩,.int .i64 0,.string ⟨#[]⟩,.int .i64 0,.string ⟨#[]⟩,.int .i64 0,.string ⟨#[]⟩,.int .i64 0]),oW 5 21 30]
def U9 :List zk:=[(none,.r (.slc 22 (.t 5) none (some (.c (.int .i64 15))) 2)),(none,.mkfn 23 (.func 26) [] [(.t 4,false)]),Kf 24 25 22 23,oS 6 24]
def Q2 :ZW:=.take [1,2,3,4,5,6,7,8,9,10,11,12,13,14,15,16,17,18,19,20,21] (oM 25 6) (.take [2,3,4,5,6,7,8,9,10,11,12,13,14,15,16,17,18,19,20,21] (oB 26 .lss 25 0) (.take [3,4,5,6,7,8,9,10,11,12,13,14,15,16,17,18,19,20,21] (oM 27 26) (.take [4,5,6,7,8,9,10,11,12,13,14,15,16,17,18,19,
 20,21] (oK 27 false 28 6) (.take [5,6,7,8,9,10,11,12,13,14,15,16,17,18,19,20,21] (some (27,false),.r (.idxP 29 (.t 5) (.t 28) 15 2)) (.take [6,7,8,9,10,11,12,13,14,15,16,17,18,19,20,21] (some (27,false),.r (.fldA 30 (.t 29) 1)) (.take [7,8,9,10,11,12,13,14,15,16,17,18,19,20,21] (QB 27 false 31 30 1) (.take [8,
 9,10,11,12,13,14,15,16,17,18,19,20,21] (yU 27 false 32 .geq 31 0) (.take [9,10,11,12,13,14,15,16,17,18,19,20,21] (oK 27 false 33 32) (.take [10,11,12,13,19,20,21] (QB 33 true 34 4 1) (.take [11,12,13,19,20,21] (some (33,true),.r (.nilck 35 (.t 34))) (.take [12,13,19,20,21] (some (33,true),.r (.fldA 36 (.t 35) 0)) (.take [13,
 19,20,21] (QB 33 true 37 36 1) (.take [19,20,21] (some (33,true),.r (.len 38 (.t 37))) (.take [15,16,17,18,19,20,21] (oK 33 true 39 6) (.take [16,17,18,19,20,21] (some (33,true),.r (.idxP 40 (.t 5) (.t 39) 15 2)) (.take [17,18,19,20,21] (some (33,true),.r (.fldA 41 (.t 40) 1)) (.take [18,19,20,21] (QB 33 true 42 41 1) (.take [19,
 20,21] (yU 33 true 43 .add 42 1) (.take [20,21] (kf 33 true 44 .neq 38 43) (.take [21] (some (27,false),.r (.pick 45 (.t 33) (.t 44) (.c (.bool false)))) (.take [] (oQ 46 27 45) .done)))))))))))))))))))))
def xp :List zk:=[(none,.bld 47 [] [.int .i64 0,.int .i64 0,.int .i64 0,.slice none 0 0]),oW 2 47 4,oI 3 15]
def xo :List zk:=[oL 48 4 1,(none,.mkfn 49 (.func 27) [(.t 48,false)] []),oS 7 49]
def xn :List zk:=[oZ 8]
def we :List zk:=[oI 9 1]
def j5 :List zk:=[oM 50 9,oL 51 4 1,oN 52 51,oF 53 52 0,oL 54 53 1,oE 55 54,oD 56 .lss 50 55]
def qy :List zk:=[oM 60 7,oM 61 9,(none,.call 62 (.t 60) [(.t 61,false)]),oM 59 62,oY 63 59 0,oY 64 59 1,oS 10 63,oS 11 64]
def qx :List zk:=[oM 65 11,(none,.r (.notb 66 (.t 65)))]
def wd :List zk:=[(none,.bld 67 [] [.int .i64 0,.int .i64 0,.int .i64 0,.slice none 0 0]),oW 2 67 4,oI 3 15]
def wc :List zk:=[oM 68 8,oM 69 10,(none,.blds 70 1 1 [((0,1),(.t 69,true))] [.int .i64 0]),(none,.app 71 (.t 68) (.t 70) 1 8),oS 8 71]
def wb :List zk:=[oM 57 9,oB 58 .add 57 1,oS 9 58]
def wa :List zk:=[oM 72 6,(none,.bld 73 [((0,1),(.t 72,true))] [.int .i64 0,.int .i64 0,.int .i64 0,.slice none 0 0]),(none,.alloc 12 [.int .i64 0,.int .i64 0,.int .i64 0,.slice none 0 0]),oW 12 73 4]
def Y9 :List zk:=[oM 74 6,(none,.r (.idxP 75 (.t 5) (.t 74) 15 2)),oF 76 75 1,oL 77 76 1,oB 78 .lss 77 0]
def XB :List zk:=[oM 79 8,oF 80 12 3,oW 80 79 1]
def XA :List zk:=[oT 81 12 4,oW 2 81 4,oI 3 0]
def Xz :List zk:=[oM 82 8,(none,.blds 83 2 1 [((0,1),(.c (.int .i64 0),true)),((1,1),(.c (.int .i64 0),true))] [.int .i64 0]),(none,.app 84 (.t 82) (.t 83) 1 8),oS 8 84]
def Xy :ZW:=.take [1,2,6,7,8,9] (oM 85 8) (.take [2,6,7,8,9] (none,.r (.idxA 86 (.t 85) (.c (.int .i64 0)) 1)) (.take [6,7,8,9] (oL 87 86 1) (.take [4,5,8,9] (oM 88 8) (.take [5,8,9] (none,.r (.idxA 89 (.t 88) (.c (.int .i64 1)) 1)) (.take [8,9] (oL 90 89 1) (.take [7,8,9] (oF 91 12 1) (.one 7 (oW 91 87 1) (.take [9] (oF 92 12 2) (.one 9 (oW 92 90 1) .done)))))))))
def qw :List zk:=[oM 93 6,oB 94 .eql 93 6,oM 95 94,(some (95,true),.r (.fldA 96 (.t 12) 1)),QB 95 true 97 96 1,yU 95 true 98 .neq 97 1,oP 99 95 98,oM 100 99,(some (100,true),.r (.fldA 101 (.t 12) 1)),QB 100 true 102 101 1,yU 100 true 103 .neq 102 2,oP 104 100 103]
def Xx :List zk:=[(none,.bld 105 [] [.int .i64 0,.int .i64 0,.int .i64 0,.slice none 0 0]),oW 2 105 4,oI 3 15]
def Q3 :List zk:=[oT 106 12 4,oW 2 106 4,oI 3 0]
def Zk :List Nat:=[0,2,3,4,5,6,7,8,9,10,11,12,15,46,56,66,78,104]
def Pm :zT:=.seq (.reg [0,3,4,5,6,7,8,9,10,11,12,15,46,56,66,78,104] ve Zk) (.seq (.seq (.reg [0,2,3,4,5,6,7,8,9,10,11,12,46,56,66,78,104] xq Zk) (.cond (.t 15) (.seq (.reg Zk vd Zk) .ret) .skip)) (.seq (.reg [0,
 2,3,5,6,7,8,9,10,11,12,15,46,56,66,78,104] vc Zk) (.seq (.reg [0,2,3,4,6,7,8,9,10,11,12,15,46,56,66,78,104] vb Zk) (.seq (.reg Zk U9 Zk) (.seq (.seq (.draw [0,2,3,4,5,6,7,8,9,10,11,12,15,56,66,78,104] Q2 Zk) (.cond (.t 46) (.seq (.reg Zk xp Zk) .ret) .skip)) (.seq (.reg Zk xo Zk) (.seq (.reg Zk xn Zk) (.seq (.seq (.reg Zk we Zk) (.blk 0 (.loop (.seq (.seq (.reg [0,
 2,3,4,5,6,7,8,9,10,11,12,15,46,66,78,104] j5 Zk) (.cond (.t 56) .skip (.exit 0))) (.seq (.blk 1 (.seq (.reg Zk qy Zk) (.seq (.seq (.reg [0,2,3,4,5,6,7,8,9,10,11,12,15,46,56,78,104] qx Zk) (.cond (.t 66) (.seq (.reg Zk wd Zk) .ret) .skip)) (.reg Zk wc Zk)))) (.reg Zk wb Zk)))))) (.seq (.reg [0,
 2,3,4,5,6,7,8,9,10,11,15,46,56,66,78,104] wa Zk) (.seq (.seq (.reg [0,2,3,4,5,6,7,8,9,10,11,12,15,46,56,66,104] Y9 Zk) (.cond (.t 78) (.seq (.reg Zk XB Zk) (.seq (.reg Zk XA Zk) .ret)) .skip)) (.seq (.reg Zk Xz Zk) (.seq (.draw Zk Xy Zk) (.seq (.seq (.reg [0,
 2,3,4,5,6,7,8,9,10,11,12,15,46,56,66,78] qw Zk) (.cond (.t 104) (.seq (.reg Zk Xx Zk) .ret) .skip)) (.seq (.reg Zk Q3 Zk) .ret))))))))))))))
abbrev p5 :Nat:=9
theorem Pe :xy Tryd.prog Tryd.f9.ntmps 1 [3] Zk [(.cell 2 4 true),(.tmp 3)] Pm p5:=Xp mix Tryd.func9 (by kernel_rfl) rfl
def uD :List zk:=[oO 0]
def uC :List zk:=[(none,.call 4 (.f 9) [(.c (.string ⟨#[97,100,100,32,49,32,50]⟩),false)]),oM 3 4,oY 5 3 0,oY 6 3 1,(none,.alloc 1 [.int .i64 0,.int .i64 0,.int .i64 0,.slice none 0 0]),oW 1 5 4,oS 2 6]
def uB :List zk:=[oM 7 2,oB 8 .eql 7 0,oM 9 8,(some (9,true),.r (.fldA 10 (.t 1) 0)),QB 9 true 11 10 1,yU 9 true 12 .eql 11 2,oP 13 9 12,oM 14 13,(some (14,true),.r (.fldA 15 (.t 1) 1)),QB 14 true 16 15 1,yU 14 true 17 .eql 16 1,oP 18 14 17,oM 19 18,(some (19,true),.r (.fldA 20 (.t 1) 2)),
 QB 19 true 21 20 1,yU 19 true 22 .eql 21 2,oP 23 19 22,oS 0 23]
def Ym :List Nat:=[0,1,2]
def GV :zT:=.seq (.reg Ym uD Ym) (.seq (.reg [0,2] uC Ym) (.seq (.reg Ym uB Ym) .ret))
abbrev GD :Nat:=10
theorem pG :xy Tryd.prog Tryd.f10.ntmps 0 [0] Ym [(.tmp 0)] GV GD:=Xp mix Tryd.func10 (by kernel_rfl) rfl
def uA :List zk:=[(none,.box 1 (.t 0)),(none,.asg 2 (.c (.string ⟨#[]⟩)) true),oI 3 0]
def j8 :List zk:=[oF 10 1 0,oL 11 10 1,oB 12 .lss 11 1,oM 13 12,(some (13,false),.r (.fldA 14 (.t 1) 0)),QB 13 false 15 14 1,yU 13 false 16 .gtr 15 14,oQ 17 13 16,oM 18 17,(some (18,false),.r (.fldA 19 (.t 1) 0)),QB 18 false 20 19 1,yU 18 false 21 .eql 20 6,oK 18 false 22 21,(some (22,
 true),.r (.fldA 23 (.t 1) 1)),QB 22 true 24 23 1,yU 22 true 25 .neq 24 1,(some (18,false),.r (.pick 26 (.t 22) (.t 25) (.c (.bool false)))),oK 18 false 27 26,(some (27,true),.r (.fldA 28 (.t 1) 1)),QB 27 true 29 28 1,yU 27 true 30 .neq 29 2,(some (18,false),.r (.pick 31 (.t 27) (.t 30) (.c (.bool false)))),
 oQ 32 18 31]
def Q8 :List zk:=[(none,.asg 2 (.c (.string ⟨#[]⟩)) true),oI 3 15]
def uz :List zk:=[oT 34 1 4,oC 35 31 34,oM 33 35,oY 36 33 0,oY 37 33 1,oS 4 36,oS 5 37]
def wr :List zk:=[oM 38 5,(none,.r (.notb 39 (.t 38)))]
def uy :List zk:=[(none,.asg 2 (.c (.string ⟨#[]⟩)) true),oI 3 15]
def ux :ZW:=.take [2,3,4,5,6] (oF 41 1 0) (.take [3,4,5,6] (oL 42 41 1) (.one 0 (none,.call 40 (.f 24) []) (.take [4,5,6] (none,.r (.idxV 43 (.t 40) (.t 42) 15 2 true)) (.take [5,6] (none,.r (.fld 44 (.t 43) 0 1 false)) (.one 5 (none,.blds 45 1 1 [((0,1),(.t 44,true))] [.string ⟨#[]⟩]) (.one 6 (oS 6 45) .done))))))
def uw :List zk:=[oM 46 6,(none,.r (.idxA 47 (.t 46) (.c (.int .i64 0)) 1)),oL 48 47 1,(none,.r (.lenS 49 (.t 48))),oS 7 49]
def uv :List zk:=[oM 50 4,oE 51 50,(none,.r (.mov 52 (.c (.int .i64 0))))]
def wq :List zk:=[oD 53 .lss 52 51]
def WJ :List zk:=[oX 54 50 52 1,oL 55 54 1,oS 9 55]
def qT :List zk:=[oM 56 9,oB 57 .lss 56 0,oM 58 57,oK 58 false 59 9,yU 58 false 60 .gtr 59 999999999,oQ 61 58 60]
def yF :List zk:=[(none,.asg 2 (.c (.string ⟨#[]⟩)) true),oI 3 15]
def WI :List zk:=[oM 62 6,oM 63 9,oC 64 32 63,(none,.blds 65 1 1 [((0,1),(.t 64,true))] [.string ⟨#[]⟩]),(none,.app 66 (.t 62) (.t 65) 1 16),oS 6 66]
def WH :List zk:=[oM 67 7,oM 68 6,oM 69 6,oE 70 69,oB 71 .sub 70 1,oX 72 68 71 1,oL 73 72 1,(none,.r (.lenS 74 (.t 73))),(none,.r (.bin 75 .add 0 (.c (.int .i64 1)) (.t 74))),oD 76 .add 67 75,oS 7 76]
def yE :List zk:=[oM 77 7,oB 78 .gtr 77 65536]
def WG :List zk:=[(none,.asg 2 (.c (.string ⟨#[]⟩)) true),oI 3 15]
def WF :List zk:=[oB 79 .add 52 1,oS 52 79]
def WE :List zk:=[oM 80 6,(none,.call 81 (.f 33) [(.t 80,false),(.c (.string ⟨#[32]⟩),false)]),oS 2 81,oI 3 0]
def z6 :List Nat:=[0,1,2,3,4,5,6,7,9,32,39,50,51,52,53,61,78]
def GU :zT:=.seq (.reg [0,2,3,4,5,6,7,9,32,39,50,51,52,53,61,78] uA z6) (.seq (.seq (.reg [0,1,2,3,4,5,6,7,9,39,50,51,52,53,61,78] j8 z6) (.cond (.t 32) (.seq (.reg z6 Q8 z6) .ret) .skip)) (.seq (.reg z6 uz z6) (.seq (.seq (.reg [0,
 1,2,3,4,5,6,7,9,32,50,51,52,53,61,78] wr z6) (.cond (.t 39) (.seq (.reg z6 uy z6) .ret) .skip)) (.seq (.draw z6 ux z6) (.seq (.reg z6 uw z6) (.seq (.seq (.reg [0,1,2,3,
 4,5,6,7,9,32,39,53,61,78] uv z6) (.blk 0 (.loop (.seq (.reg [0,1,2,3,4,5,6,7,9,32,39,50,51,52,61,78] wq z6) (.seq (.cond (.t 53) .skip (.exit 0)) (.seq (.blk 1 (.seq (.reg z6 WJ z6) (.seq (.seq (.reg [0,1,2,3,4,5,6,
 7,9,32,39,50,51,52,53,78] qT z6) (.cond (.t 61) (.seq (.reg z6 yF z6) .ret) .skip)) (.seq (.reg z6 WI z6) (.seq (.reg z6 WH z6) (.seq (.reg [0,1,2,3,4,5,6,7,9,32,39,
 50,51,52,53,61] yE z6) (.cond (.t 78) (.seq (.reg z6 WG z6) .ret) .skip))))))) (.reg z6 WF z6))))))) (.seq (.reg z6 WE z6) .ret)))))))
abbrev GC :Nat:=14
theorem pF :xy Tryd.prog Tryd.f14.ntmps 1 [2,3] z6 [(.tmp 2),(.tmp 3)] GU GC:=Xp mix Tryd.func14 (by kernel_rfl) rfl
def uu :List zk:=[(none,.box 2 (.t 0)),(none,.box 3 (.t 1)),oO 4]
def qB :List zk:=[oF 5 2 0,oL 6 5 1,oF 7 3 0,oL 8 7 1,oD 9 .eql 6 8,oM 10 9,(some (10,true),.r (.fldA 11 (.t 2) 1)),QB 10 true 12 11 1,(some (10,true),.r (.fldA 13 (.t 3) 1)),QB 10 true 14 13 1,kf 10 true 15 .eql 12 14,oP 16 10 15,oM 17 16,(some (17,true),.r (.fldA 18 (.t 2) 2)),
 QB 17 true 19 18 1,(some (17,true),.r (.fldA 20 (.t 3) 2)),QB 17 true 21 20 1,kf 17 true 22 .eql 19 21,oP 23 17 22,oM 24 23,(some (24,true),.r (.fldA 25 (.t 2) 3)),QB 24 true 26 25 1,(some (24,true),.r (.fldA 27 (.t 3) 3)),QB 24 true 28 27 1,(some (24,true),.call 29 (.f 34) [(.t 26,false),(.t 28,
 false)]),oP 30 24 29,oS 4 30]
def xE :List Nat:=[0,1,2,3,4]
def GT :zT:=.seq (.reg [0,1,4] uu xE) (.seq (.reg xE qB xE) .ret)
abbrev GB :Nat:=15
theorem pE :xy Tryd.prog Tryd.f15.ntmps 2 [4] xE [(.tmp 4)] GT GB:=Xp mix Tryd.func15 (by kernel_rfl) rfl
def ut :List zk:=[oZ 4]
def ur :List zk:=[oM 5 0,oM 6 1,(none,.call 7 (.f 40) [(.t 5,false),(.t 6,false),(.c (.int .i64 0),false),(.c (.int .i64 (- (0+1))),false)]),oS 4 7]
def w0 :List Nat:=[0,1,4]
def GS :zT:=.seq (.reg w0 ut w0) (.seq (.reg w0 ur w0) .ret)
abbrev GA :Nat:=23
theorem pD :xy Tryd.prog Tryd.f23.ntmps 2 [4] w0 [(.tmp 4)] GS GA:=Xp mix Tryd.func23 (by kernel_rfl) rfl
def uq :List zk:=[(none,.alloc 0 [.string ⟨#[]⟩,.int .i64 0,.string ⟨#[]⟩,.int .i64 0,.string ⟨#[]⟩,.int .i64 0,.string ⟨#[]⟩,.int .i64 0,.string ⟨#[]⟩,.int .i64 0,.string ⟨#[]⟩,.int .i64 0,.string ⟨#[]⟩,.int .i64 0,.string ⟨#[]⟩,.int .i64 0,.string ⟨#[]⟩,.int .i64 0,.string ⟨#[]⟩,.int .i64 0,
 .string ⟨#[]⟩,.int .i64 0,.string ⟨#[]⟩,.int .i64 0,.string ⟨#[]⟩,.int .i64 0,.string ⟨#[]⟩,.int .i64 0,.string ⟨#[]⟩,.int .i64 0])]
def up :List zk:=[(none,.bld 1 [((0,1),(.c (.string ⟨#[118,101,114,116,105,99,101,115]⟩),true)),((1,1),(.c (.int .i64 1),true))] [.string ⟨#[]⟩,.int .i64 0]),(none,.bld 2 [((0,1),(.c (.string ⟨#[97,100,100]⟩),true)),((1,1),(.c (.int .i64 2),true))] [.string ⟨#[]⟩,.int .i64 0]),
 (none,.bld 3 [((0,1),(.c (.string ⟨#[114,101,109,111,118,101]⟩),true)),((1,1),(.c (.int .i64 2),true))] [.string ⟨#[]⟩,.int .i64 0]),(none,.bld 4 [((0,1),(.c (.string ⟨#[103,114,111,119]⟩),true)),((1,1),(.c (.int .i64 0),true))] [.string ⟨#[]⟩,.int .i64 0]),(none,.bld 5 [((0,1),(.c (.string ⟨#[99,
  117,116]⟩),true)),((1,1),(.c (.int .i64 1),true))] [.string ⟨#[]⟩,.int .i64 0]),(none,.bld 6 [((0,1),(.c (.string ⟨#[109,97,116,99,104]⟩),true)),((1,1),(.c (.int .i64 1),true))] [.string ⟨#[]⟩,.int .i64 0]),(none,.bld 7 [((0,1),(.c (.string ⟨#[103,97,108,108,97,105]⟩),true)),((1,1),(.c (.int .i64 0),
 true))] [.string ⟨#[]⟩,.int .i64 0]),(none,.bld 8 [((0,1),(.c (.string ⟨#[98,97,114,114,105,101,114]⟩),true)),((1,1),(.c (.int .i64 0),true))] [.string ⟨#[]⟩,.int .i64 0]),(none,.bld 9 [((0,1),(.c (.string ⟨#[115,105,100,101,115]⟩),true)),((1,1),(.c (.int .i64 0),true))] [.string ⟨#[]⟩,.int .i64 0]),
 (none,.bld 10 [((0,1),(.c (.string ⟨#[98,108,111,99,107,115]⟩),true)),((1,1),(.c (.int .i64 0),true))] [.string ⟨#[]⟩,.int .i64 0]),(none,.bld 11 [((0,1),(.c (.string ⟨#[102,97,99,116,111,114]⟩),true)),((1,1),(.c (.int .i64 (- (0+1))),true))] [.string ⟨#[]⟩,.int .i64 0]),(none,.bld 12 [((0,
 1),(.c (.string ⟨#[99,111,118,101,114]⟩),true)),((1,1),(.c (.int .i64 0),true))] [.string ⟨#[]⟩,.int .i64 0]),(none,.bld 13 [((0,1),(.c (.string ⟨#[99,108,97,115,115,105,102,121]⟩),true)),((1,1),(.c (.int .i64 0),true))] [.string ⟨#[]⟩,.int .i64 0]),(none,.bld 14 [((0,1),(.c (.string ⟨#[116,
  101,108,108]⟩),true)),((1,1),(.c (.int .i64 0),true))] [.string ⟨#[]⟩,.int .i64 0]),(none,.bld 15 [((2,2),(.t 1,true)),((4,2),(.t 2,true)),((6,2),(.t 3,true)),((8,2),(.t 4,true)),((10,2),(.t 5,true)),((12,2),(.t 6,true)),((14,2),(.t 7,true)),((16,2),(.t 8,true)),((18,2),(.t 9,true)),((20,2),(.t 10,
 true)),((22,2),(.t 11,true)),((24,2),(.t 12,true)),((26,2),(.t 13,true)),((28,2),(.t 14,true))] [.string ⟨#[]⟩,.int .i64 0,.string ⟨#[]⟩,.int .i64 0,.string ⟨#[]⟩,.int .i64 0,.string ⟨#[]⟩,.int .i64 0,.string ⟨#[]⟩,.int .i64 0,.string ⟨#[]⟩,.int .i64 0,.string ⟨#[]⟩,.int .i64 0,.string ⟨#[]⟩,.int .i64 0,
 .string ⟨#[]⟩,.int .i64 0,.string ⟨#[]⟩,.int .i64 0,.string ⟨#[]⟩,.int .i64 0,.string ⟨#[]⟩,.int .i64 0,.string ⟨#[]⟩,.int .i64 0,.string ⟨#[]⟩,.int .i64 0,.string ⟨#[]⟩,.int .i64 0]),oW 0 15 30]
def xD :List Nat:=[0]
def GR :zT:=.seq (.reg [] uq xD) (.seq (.reg xD up xD) .ret)
abbrev Gz :Nat:=24
theorem pC :xy Tryd.prog Tryd.f24.ntmps 0 [] xD [(.cell 0 30 true)] GR Gz:=Xp mix Tryd.func24 (by kernel_rfl) rfl
def uo :List zk:=[oI 4 0]
def un :List zk:=[oM 6 0,oE 7 6,(none,.r (.mov 8 (.c (.int .i64 0))))]
def wo :List zk:=[oD 9 .lss 8 7]
def um :List zk:=[oM 10 8,oS 5 10]
def ul :List zk:=[oM 11 1,oM 12 0,oM 13 5,oX 14 12 13 2,oT 15 14 2,(none,.call 16 (.t 11) [(.t 15,false)])]
def uk :List zk:=[oM 17 5,oS 4 17]
def uj :List zk:=[oB 18 .add 8 1,oS 8 18]
def ui :List zk:=[(none,.asg 4 (.c (.int .i64 (- (0+1)))) true)]
def jR :List Nat:=[0,1,4,5,7,8,9,16]
def GQ :zT:=.seq (.reg jR uo jR) (.seq (.seq (.reg [0,1,4,5,9,16] un jR) (.blk 0 (.loop (.seq (.reg [0,
 1,4,5,7,8,16] wo jR) (.seq (.cond (.t 9) .skip (.exit 0)) (.seq (.blk 1 (.seq (.reg jR um jR) (.seq (.reg [0,
 1,4,5,7,8,9] ul jR) (.cond (.t 16) (.seq (.reg jR uk jR) .ret) .skip)))) (.reg jR uj jR))))))) (.seq (.reg jR ui jR) .ret))
abbrev Gy :Nat:=25
theorem pB :xy Tryd.prog Tryd.f25.ntmps 2 [4] jR [(.tmp 4)] GQ Gy:=Xp mix Tryd.func25 (by kernel_rfl) rfl
def uh :List zk:=[(none,.box 2 (.t 0)),oO 3]
def wn :ZW:=.take [1,2,3,4,5,6,7,8,9,10,11,12,13,14] (oF 4 2 0) (.take [2,3,4,5,6,7,8,9,10,11,12,13,14] (oL 5 4 1) (.take [3,4,5,6,7,8,9,10,11,12,13,14] (none,.r (.bin 6 .neq 0 (.t 5) (.c (.string ⟨#[]⟩)))) (.take [4,5,6,7,8,9,10,11,12,13,14] (oM 7 6) (.take [5,12,13,14] (some (7,
 true),.r (.fldA 8 (.t 2) 0)) (.take [12,13,14] (QB 7 true 9 8 1) (.take [7,8,9,10,11,12,13,14] (QB 7 true 10 1 1) (.take [8,9,10,11,12,13,14] (some (7,true),.r (.nilck 11 (.t 10))) (.take [9,10,11,12,13,14] (some (7,true),.r (.fldA 12 (.t 11) 0)) (.take [10,11,12,13,14] (QB 7 true 13 12 1) (.take [11,
 12,13,14] (some (7,true),.r (.idxA 14 (.t 13) (.c (.int .i64 0)) 1)) (.take [12,13,14] (QB 7 true 15 14 1) (.take [13,14] (kf 7 true 16 .eql 9 15) (.take [14] (oP 17 7 16) (.one 14 (oS 3 17) .done))))))))))))))
def xC :List Nat:=[0,1,2,3]
def GP :zT:=.seq (.reg [0,1,3] uh xC) (.seq (.draw xC wn xC) .ret)
abbrev Kk :Nat:=26
theorem pA :xy Tryd.prog Tryd.f26.ntmps 2 [3] xC [(.tmp 3)] GP Kk:=Xp mix Tryd.func26 (by kernel_rfl) rfl
def ug :List zk:=[oI 4 0,oO 5]
def uf :List zk:=[oM 10 0,oN 11 10,oF 12 11 0,oL 13 12 1,oM 14 1,oX 15 13 14 1,oL 16 15 1,oS 6 16]
def JE :List zk:=[oM 17 6,(none,.r (.lenS 18 (.t 17))),oB 19 .lss 18 1,oM 20 19,oK 20 false 21 6,(some (20,false),.r (.lenS 22 (.t 21))),yU 20 false 23 .gtr 22 9,oQ 24 20 23,oM 25 24,oK 25 false 26 6,(some (25,false),.r (.lenS 27 (.t 26))),yU 25 false 28 .gtr 27 1,oK 25 false 29 28,
 oK 29 true 30 6,(some (29,true),.r (.idxS 31 (.t 30) (.c (.int .i64 0)))),(some (29,true),.r (.bin 32 .eql 0 (.t 31) (.c (.int .u8 48)))),(some (25,false),.r (.pick 33 (.t 29) (.t 32) (.c (.bool false)))),oQ 34 25 33]
def Q7 :List zk:=[oI 4 0,oO 5]
def wm :List zk:=[oI 7 0]
def wj :List zk:=[oM 35 6,(none,.s2b 36 (.t 35)),oE 37 36,(none,.r (.mov 38 (.c (.int .i64 0))))]
def qA :List zk:=[oD 39 .lss 38 37]
def wi :List zk:=[oX 40 36 38 1,oL 41 40 1,oS 9 41]
def j7 :List zk:=[oM 42 9,(none,.r (.bin 43 .lss 0 (.t 42) (.c (.int .u8 48)))),oM 44 43,oK 44 false 45 9,(some (44,false),.r (.bin 46 .gtr 0 (.t 45) (.c (.int .u8 57)))),oQ 47 44 46]
def qz :List zk:=[oI 4 0,oO 5]
def yD :List zk:=[oM 48 7,(none,.r (.bin 49 .mul 0 (.c (.int .i64 10)) (.t 48))),oM 50 9,(none,.r (.bin 51 .sub 0 (.t 50) (.c (.int .u8 48)))),(none,.r (.conv 52 .i64 (.t 51))),oD 53 .add 49 52,oS 7 53]
def yC :List zk:=[oB 54 .add 38 1,oS 38 54]
def yB :List zk:=[oM 55 7,oS 4 55,(none,.asg 5 (.c (.bool true)) true)]
def ZM :List Nat:=[0,1,4,5,6,7,9,34,36,37,38,39,47]
def GO :zT:=.seq (.reg ZM ug ZM) (.seq (.reg ZM uf ZM) (.seq (.seq (.reg [0,1,4,5,6,7,9,36,37,38,39,47] JE ZM) (.cond (.t 34) (.seq (.reg ZM Q7 ZM) .ret) .skip)) (.seq (.reg ZM wm ZM) (.seq (.seq (.reg [0,
 1,4,5,6,7,9,34,39,47] wj ZM) (.blk 0 (.loop (.seq (.reg [0,1,4,5,6,7,9,34,36,37,38,47] qA ZM) (.seq (.cond (.t 39) .skip (.exit 0)) (.seq (.blk 1 (.seq (.reg ZM wi ZM) (.seq (.seq (.reg [0,
 1,4,5,6,7,9,34,36,37,38,39] j7 ZM) (.cond (.t 47) (.seq (.reg ZM qz ZM) .ret) .skip)) (.reg ZM yD ZM)))) (.reg ZM yC ZM))))))) (.seq (.reg ZM yB ZM) .ret)))))
abbrev Gx :Nat:=27
theorem pz :xy Tryd.prog Tryd.f27.ntmps 2 [4,5] ZM [(.tmp 4),(.tmp 5)] GO Gx:=Xp mix Tryd.func27 (by kernel_rfl) rfl
def ue :List zk:=[(none,.box 1 (.t 0)),oZ 2,oO 3]
def ud :ZW:=.take [2,3,5] (oF 6 1 0) (.take [3,5] (oL 7 6 1) (.two 0 (none,.call 5 (.f 24) []) (.take [5] (none,.r (.idxV 8 (.t 5) (.t 7) 15 2 true)) (.one 4 (none,.alloc 4 [.string ⟨#[]⟩,.int .i64 0]) (.one 5 (oW 4 8 2) .done))) 4 (none,.alloc 4 [.string ⟨#[]⟩,.int .i64 0]) (.one 0 (none,
 .call 5 (.f 24) []) (.take [5] (none,.r (.idxV 8 (.t 5) (.t 7) 15 2 true)) (.one 5 (oW 4 8 2) .done)))))
def wh :List zk:=[oF 18 4 1,oL 19 18 1,oB 20 .lss 19 0,oS 17 20]
def Q6 :ZW:=.take [1,10,11] (oF 21 1 3) (.take [10,11] (oL 22 21 1) (.take [3,4,5,6,7,8,9,10,11] (oF 23 1 1) (.take [4,5,6,7,8,9,10,11] (oL 24 23 1) (.take [5,6,7,8,9,10,11] (oB 25 .eql 24 0) (.take [6,7,8,9,10,11] (oM 26 25) (.take [7,8,9,11] (some (26,true),.r (.fldA 27 (.t 1) 2)) (.take [8,
 9,11] (QB 26 true 28 27 1) (.take [9,11] (yU 26 true 29 .eql 28 0) (.take [11] (oP 30 26 29) (.one 10 (oS 2 22) (.one 11 (oS 3 30) .done)))))))))))
def Z5 :List zk:=[oF 32 4 1,oL 33 32 1,oB 34 .lss 33 2,oM 35 34,(some (35,true),.r (.fldA 36 (.t 1) 2)),QB 35 true 37 36 1,yU 35 true 38 .neq 37 0,oP 39 35 38,oM 40 39,(some (40,false),.r (.fldA 41 (.t 4) 1)),QB 40 false 42 41 1,yU 40 false 43 .lss 42 1,oK 40 false 44 43,(some (44,
 true),.r (.fldA 45 (.t 1) 1)),QB 44 true 46 45 1,yU 44 true 47 .neq 46 0,(some (40,false),.r (.pick 48 (.t 44) (.t 47) (.c (.bool false)))),oQ 49 40 48,oM 50 49,(some (50,false),.r (.fldA 51 (.t 1) 3)),QB 50 false 52 51 1,(some (50,false),.r (.len 53 (.t 52))),yU 50 false 54 .gtr 53 0,oQ 55 50 54,
 oS 31 55]
def j6 :List zk:=[oZ 2,oO 3]
def Q5 :List zk:=[oF 9 1 1,oL 10 9 1,oF 11 1 2,oL 12 11 1,(none,.blds 13 2 1 [((0,1),(.t 10,true)),((1,1),(.t 12,true))] [.int .i64 0]),oF 14 4 1,oL 15 14 1,(none,.slc 16 (.t 13) none (some (.t 15)) 1),oS 2 16,(none,.asg 3 (.c (.bool true)) true)]
def Jb :List Nat:=[0,1,2,3,4,17,31]
def GN :zT:=.seq (.reg [0,2,3,4,17,31] ue Jb) (.seq (.draw [0,1,2,3,17,31] ud Jb) (.blk 0 (.seq (.reg Jb wh Jb) (.cond (.t 17) (.seq (.draw Jb Q6 Jb) .ret) (.seq (.reg Jb Z5 Jb) (.cond (.t 31) (.seq (.reg Jb j6 Jb) .ret) (.seq (.reg Jb Q5 Jb) .ret)))))))
abbrev Gw :Nat:=31
theorem py :xy Tryd.prog Tryd.f31.ntmps 1 [2,3] Jb [(.tmp 2),(.tmp 3)] GN Gw:=Xp mix Tryd.func31 (by kernel_rfl) rfl
def uc :List zk:=[oO 4]
def ub :List zk:=[oM 5 0,oM 6 1,(none,.call 7 (.f 46) [(.t 5,false),(.t 6,false),(.f 47,false)]),oS 4 7]
def wZ :List Nat:=[0,1,4]
def GM :zT:=.seq (.reg wZ uc wZ) (.seq (.reg wZ ub wZ) .ret)
abbrev Gv :Nat:=34
theorem px :xy Tryd.prog Tryd.f34.ntmps 2 [4] wZ [(.tmp 4)] GM Gv:=Xp mix Tryd.func34 (by kernel_rfl) rfl
def ua :List zk:=[oZ 8]
def X0 :List zk:=[oM 12 3,oB 13 .eql 12 0]
def KW :List zk:=[oZ 8]
def XZ :List zk:=[oM 14 1,(none,.r (.bin 15 .eql 0 (.t 14) (.c (.string ⟨#[]⟩))))]
def KV :List zk:=[oM 16 0,oM 17 3,Kf 18 50 16 17,oS 8 18]
def XY :List zk:=[oM 19 3,oB 20 .lss 19 0]
def XX :List zk:=[oM 21 0,oM 22 1,Kf 23 51 21 22,oB 24 .add 23 1,oS 3 24]
def XW :List zk:=[oM 25 3,oM 26 0,(none,.r (.lenS 27 (.t 26))),oB 28 .add 27 1,(none,.r (.mm 29 false (.t 25) (.t 28))),oS 3 29]
def XV :List zk:=[oM 30 3,(none,.mk 31 (.t 30) (.t 30) 1 16 [.string ⟨#[]⟩]),oS 9 31]
def XU :List zk:=[oM 32 3,oB 33 .sub 32 1,oS 3 33]
def WD :List zk:=[oI 10 0]
def yA :List zk:=[oM 34 10,oM 35 3,oD 36 .lss 34 35]
def WC :List zk:=[oM 37 0,oM 38 1,Kf 39 52 37 38,oS 11 39]
def WB :List zk:=[oM 40 11,oB 41 .lss 40 0]
def WA :List zk:=[oM 42 9,oM 43 10,oM 44 0,oM 45 11,oM 46 2,oD 47 .add 45 46,(none,.r (.slc 48 (.t 44) none (some (.t 47)) 0)),oX 49 42 43 1,oW 49 48 1]
def Wz :List zk:=[oM 50 0,oM 51 11,oM 52 1,(none,.r (.lenS 53 (.t 52))),oD 54 .add 51 53,(none,.r (.slc 55 (.t 50) (some (.t 54)) none 0)),oS 0 55]
def Wy :List zk:=[oM 56 10,oB 57 .add 56 1,oS 10 57]
def Wx :List zk:=[oM 58 9,oM 59 10,oM 60 0,oX 61 58 59 1,oW 61 60 1]
def Ww :List zk:=[oM 62 9,oM 63 10,oB 64 .add 63 1,(none,.slc 65 (.t 62) none (some (.t 64)) 1),oS 8 65]
def zW :List Nat:=[0,1,2,3,8,9,10,11,13,15,20,36,41]
def GL :zT:=.seq (.reg zW ua zW) (.seq (.seq (.reg [0,1,2,3,8,9,10,11,15,20,36,41] X0 zW) (.cond (.t 13) (.seq (.reg zW KW zW) .ret) .skip)) (.seq (.seq (.reg [0,
 1,2,3,8,9,10,11,13,20,36,41] XZ zW) (.cond (.t 15) (.seq (.reg zW KV zW) .ret) .skip)) (.seq (.seq (.reg [0,1,2,3,8,9,10,11,13,15,36,41] XY zW) (.cond (.t 20) (.reg zW XX zW) .skip)) (.seq (.reg zW XW zW) (.seq (.reg zW XV zW) (.seq (.reg zW XU zW) (.seq (.reg zW WD zW) (.seq (.blk 0 (.loop (.seq (.seq (.reg [0,
 1,2,3,8,9,10,11,13,15,20,41] yA zW) (.cond (.t 36) .skip (.exit 0))) (.blk 1 (.seq (.reg zW WC zW) (.seq (.seq (.reg [0,1,2,3,8,9,10,11,13,15,20,36] WB zW) (.cond (.t 41) (.exit 0) .skip)) (.seq (.reg zW WA zW) (.seq (.reg zW Wz zW) (.reg zW Wy zW))))))))) (.seq (.reg zW Wx zW) (.seq (.reg zW Ww zW) .ret))))))))))
abbrev Gu :Nat:=40
theorem pw :xy Tryd.prog Tryd.f40.ntmps 4 [8] zW [(.tmp 8)] GL Gu:=Xp mix Tryd.func40 (by kernel_rfl) rfl
def XT :List zk:=[oO 6]
def XS :List zk:=[oM 8 0,oE 9 8,oM 10 1,oE 11 10,oD 12 .neq 9 11]
def XR :List zk:=[oO 6]
def XQ :List zk:=[oI 7 0]
def XP :List zk:=[oM 13 7,oM 14 0,oE 15 14,oD 16 .lss 13 15]
def XO :ZW:=.take [9,10] (oM 19 2) (.take [3,4,9,10] (oM 20 0) (.take [3,4,9,10] (oM 21 7) (.take [4,9,10] (oX 22 20 21 1) (.take [9,10] (oL 23 22 1) (.take [7,8,9,10] (oM 24 1) (.take [7,8,9,10] (oM 25 7) (.take [8,9,10] (oX 26 24 25 1) (.take [9,10] (oL 27 26 1) (.one 9 (none,
 .call 28 (.t 19) [(.t 23,false),(.t 27,false)]) (.take [] (none,.r (.notb 29 (.t 28))) .done))))))))))
def XN :List zk:=[oO 6]
def XM :List zk:=[oM 17 7,oB 18 .add 17 1,oS 7 18]
def XL :List zk:=[(none,.asg 6 (.c (.bool true)) true)]
def jx :List Nat:=[0,1,2,6,7,12,16,29]
def GK :zT:=.seq (.reg jx XT jx) (.seq (.seq (.reg [0,1,2,6,7,16,29] XS jx) (.cond (.t 12) (.seq (.reg jx XR jx) .ret) .skip)) (.seq (.seq (.reg jx XQ jx) (.blk 0 (.loop (.seq (.seq (.reg [0,
 1,2,6,7,12,29] XP jx) (.cond (.t 16) .skip (.exit 0))) (.seq (.blk 1 (.seq (.draw [0,1,2,6,7,12,16] XO jx) (.cond (.t 29) (.seq (.reg jx XN jx) .ret) .skip))) (.reg jx XM jx)))))) (.seq (.reg jx XL jx) .ret)))
abbrev Gt :Nat:=46
theorem pv :xy Tryd.prog Tryd.f46.ntmps 3 [6] jx [(.tmp 6)] GK Gt:=Xp mix Tryd.func46 (by kernel_rfl) rfl
def XK :List zk:=[oO 4]
def XJ :List zk:=[oM 5 0,oM 6 1,oD 7 .eql 5 6,oS 4 7]
def wY :List Nat:=[0,1,4]
def GJ :zT:=.seq (.reg wY XK wY) (.seq (.reg wY XJ wY) .ret)
abbrev UX :Nat:=47
theorem pu :xy Tryd.prog Tryd.f47.ntmps 2 [4] wY [(.tmp 4)] GJ UX:=Xp mix Tryd.func47 (by kernel_rfl) rfl
abbrev p7 :Nat:=51
def XI :List zk:=[oI 4 0]
def XH :List zk:=[oM 5 0,oM 6 1,Kf 7 64 5 6,oS 4 7]
def wX :List Nat:=[0,1,4]
def GI :zT:=.seq (.reg wX XI wX) (.seq (.reg wX XH wX) .ret)
abbrev Gs :Nat:=52
theorem pr :xy Tryd.prog Tryd.f52.ntmps 2 [4] wX [(.tmp 4)] GI Gs:=Xp mix Tryd.func52 (by kernel_rfl) rfl
def XG :List zk:=[oI 4 0]
def XF :List zk:=[oM 14 1,(none,.r (.lenS 15 (.t 14))),oS 5 15]
def wg :List zk:=[oM 17 5,oB 18 .eql 17 0,oM 19 18,oK 19 false 20 1,oK 19 false 21 0,kf 19 false 22 .eql 20 21,oQ 23 19 22,oS 16 23]
def XE :List zk:=[oI 4 0]
def XD :List zk:=[oM 25 5,oB 26 .eql 25 1,oS 24 26]
def XC :List zk:=[oM 27 0,oM 28 1,(none,.r (.idxS 29 (.t 28) (.c (.int .i64 0)))),Kf 30 74 27 29,oS 4 30]
def KU :List zk:=[oM 32 5,oM 33 0,(none,.r (.lenS 34 (.t 33))),oD 35 .geq 32 34,oS 31 35]
def KT :List zk:=[(none,.asg 4 (.c (.int .i64 (- (0+1)))) true)]
def KS :List zk:=[oM 37 5,(none,.bad (some 38)),oD 39 .leq 37 38,oM 40 39,oK 40 true 41 0,(some (40,true),.r (.lenS 42 (.t 41))),yU 40 true 43 .leq 42 64,oP 44 40 43,oS 36 44]
def KR :List zk:=[oM 45 0,oM 46 1,Kf 47 75 45 46,oS 4 47]
def V5 :List zk:=[oM 48 1,(none,.r (.idxS 49 (.t 48) (.c (.int .i64 0)))),oS 6 49]
def V4 :List zk:=[oM 50 1,(none,.r (.idxS 51 (.t 50) (.c (.int .i64 1)))),oS 7 51]
def V3 :List zk:=[oI 8 0]
def V0 :List zk:=[oM 52 0,(none,.r (.lenS 53 (.t 52))),oM 54 5,oD 55 .sub 53 54,oB 56 .add 55 1,oS 9 56]
def VZ :List zk:=[oI 10 0]
def VY :List zk:=[oM 57 8,oM 58 9,oD 59 .lss 57 58]
def VX :List zk:=[oM 60 0,oM 61 8,(none,.r (.idxS 62 (.t 60) (.t 61))),oM 63 6,oD 64 .neq 62 63]
def VW :List zk:=[oM 65 0,oM 66 8,oB 67 .add 66 1,oM 68 9,(none,.r (.slc 69 (.t 65) (some (.t 67)) (some (.t 68)) 0)),oM 70 6,Kf 71 74 69 70,oS 11 71]
def VV :List zk:=[oM 72 11,oB 73 .lss 72 0]
def VU :List zk:=[(none,.asg 4 (.c (.int .i64 (- (0+1)))) true)]
def VT :List zk:=[oM 74 8,oM 75 11,oB 76 .add 75 1,oD 77 .add 74 76,oS 8 77]
def VS :List zk:=[oM 78 0,oM 79 8,oB 80 .add 79 1,(none,.r (.idxS 81 (.t 78) (.t 80))),oM 82 7,oD 83 .eql 81 82,oM 84 83,oK 84 true 85 0,oK 84 true 86 8,oK 84 true 87 8,oK 84 true 88 5,kf 84 true 89 .add 87 88,(some (84,true),.r (.slc 90 (.t 85) (some (.t 86)) (some (.t 89)) 0)),
 oK 84 true 91 1,kf 84 true 92 .eql 90 91,oP 93 84 92]
def VR :List zk:=[oM 94 8,oS 4 94]
def VQ :List zk:=[oM 95 8,oB 96 .add 95 1,oS 8 96]
def VP :List zk:=[oM 97 10,oB 98 .add 97 1,oS 10 98]
def VO :List zk:=[oM 99 5,(none,.bad (some 100)),oD 101 .leq 99 100,oM 102 101,oK 102 true 103 10,oK 102 true 104 8,(some (102,true),.call 105 (.f 56) [(.t 104,false)]),kf 102 true 106 .gtr 103 105,oP 107 102 106]
def VN :List zk:=[oM 108 0,oM 109 8,(none,.r (.slc 110 (.t 108) (some (.t 109)) none 0)),oM 111 1,Kf 112 75 110 111,oS 12 112]
def VM :List zk:=[oM 113 12,oB 114 .geq 113 0]
def VL :List zk:=[oM 115 12,oM 116 8,oD 117 .add 115 116,oS 4 117]
def VK :List zk:=[(none,.asg 4 (.c (.int .i64 (- (0+1)))) true)]
def VJ :List zk:=[oM 118 5,(none,.bad (some 119)),oD 120 .gtr 118 119,oM 121 120,oK 121 true 122 10,oK 121 true 123 8,(some (121,true),.r (.bin 124 .shr 0 (.t 123) (.c (.int .u64 4)))),(some (121,true),.r (.bin 125 .add 0 (.c (.int .i64 4)) (.t 124))),kf 121 true 126 .geq 122 125,
 oP 127 121 126,oM 128 127,oK 128 true 129 8,oK 128 true 130 9,kf 128 true 131 .lss 129 130,oP 132 128 131]
def VI :List zk:=[oM 133 0,oM 134 8,(none,.r (.slc 135 (.t 133) (some (.t 134)) none 0)),oM 136 1,Kf 137 76 135 136,oS 13 137]
def VH :List zk:=[oM 138 13,oB 139 .lss 138 0]
def VG :List zk:=[(none,.asg 4 (.c (.int .i64 (- (0+1)))) true)]
def VF :List zk:=[oM 140 8,oM 141 13,oD 142 .add 140 141,oS 4 142]
def VE :List zk:=[(none,.asg 4 (.c (.int .i64 (- (0+1)))) true)]
def zv :List Nat:=[0,1,4,5,6,7,8,9,10,11,12,13,16,24,31,36,59,64,73,93,107,114,132,139]
def GH :zT:=.seq (.reg zv XG zv) (.seq (.reg zv XF zv) (.seq (.blk 0 (.seq (.reg zv wg zv) (.cond (.t 16) (.seq (.reg zv XE zv) .ret) (.seq (.reg zv XD zv) (.cond (.t 24) (.seq (.reg zv XC zv) .ret) (.seq (.reg zv KU zv) (.cond (.t 31) (.seq (.reg zv KT zv) .ret) (.seq (.reg zv KS zv) (.cond (.t 36) (.seq (.reg zv KR zv) .ret) .skip))))))))) (.seq (.reg zv V5 zv) (.seq (.reg zv V4 zv) (.seq (.reg zv V3 zv) (.seq (.reg zv V0 zv) (.seq (.reg zv VZ zv) (.seq (.blk 1 (.loop (.seq (.seq (.reg [0,
 1,4,5,6,7,8,9,10,11,12,13,16,24,31,36,64,73,93,107,114,132,139] VY zv) (.cond (.t 59) .skip (.exit 1))) (.blk 2 (.seq (.seq (.reg [0,1,4,5,6,7,8,9,10,11,12,13,16,24,31,36,59,73,93,107,114,132,139] VX zv) (.cond (.t 64) (.seq (.reg zv VW zv) (.seq (.seq (.reg [0,
 1,4,5,6,7,8,9,10,11,12,13,16,24,31,36,59,64,93,107,114,132,139] VV zv) (.cond (.t 73) (.seq (.reg zv VU zv) .ret) .skip)) (.reg zv VT zv))) .skip)) (.seq (.seq (.reg [0,
 1,4,5,6,7,8,9,10,11,12,13,16,24,31,36,59,64,73,107,114,132,139] VS zv) (.cond (.t 93) (.seq (.reg zv VR zv) .ret) .skip)) (.seq (.reg zv VQ zv) (.seq (.reg zv VP zv) (.seq (.reg [0,
 1,4,5,6,7,8,9,10,11,12,13,16,24,31,36,59,64,73,93,114,132,139] VO zv) (.cond (.t 107) (.seq (.reg zv VN zv) (.seq (.seq (.reg [0,1,4,5,6,7,8,9,10,11,12,13,16,24,31,
 36,59,64,73,93,107,132,139] VM zv) (.cond (.t 114) (.seq (.reg zv VL zv) .ret) .skip)) (.seq (.reg zv VK zv) .ret))) (.seq (.reg [0,
 1,4,5,6,7,8,9,10,11,12,13,16,24,31,36,59,64,73,93,107,114,139] VJ zv) (.cond (.t 132) (.seq (.reg zv VI zv) (.seq (.seq (.reg [0,1,4,5,6,7,8,9,10,11,12,13,16,24,31,
 36,59,64,73,93,107,114,132] VH zv) (.cond (.t 139) (.seq (.reg zv VG zv) .ret) .skip)) (.seq (.reg zv VF zv) .ret))) .skip)))))))))))) (.seq (.reg zv VE zv) .ret)))))))))
abbrev Gr :Nat:=64
theorem pq :xy Tryd.prog Tryd.f64.ntmps 2 [4] zv [(.tmp 4)] GH Gr:=Xp mix Tryd.func64 (by kernel_rfl) rfl
abbrev p6 :Nat:=74
end Go.Proofs.YtneiihheeghdcaaDoor

namespace Go.Proofs
open Go.Shelf
def Tryd.lays217_ren :Go.Shelf.Ren:=⟨fun|217=>74|266=>82|n=>n,fun|9=>9|5=>5|3=>3|n=>n,fun|n=>n⟩
theorem Tryd.lays217 :Go.Proofs.Lays.n217 Tryd.prog Tryd.lays217_ren:={
 mixed:=by kernel_rfl
 f217:=Tryd.func74.trans (congrArg some (by kernel_rfl))
 f266:=Tryd.func82.trans (congrArg some (by kernel_rfl))
 t3:=Tryd.underlying3
 a3:=Tryd.isAgg3
 z3:=Tryd.sizeOf3
 v3:=Tryd.zeroValue3
 t5:=Tryd.underlying5
 a5:=Tryd.isAgg5
 z5:=Tryd.sizeOf5
 v5:=Tryd.zeroValue5
 t9:=Tryd.underlying9
 a9:=Tryd.isAgg9
 z9:=Tryd.sizeOf9
 v9:=Tryd.zeroValue9}
open Go.RowKit Go.Lib in
theorem Tryd.stringslite_IndexByte (s:ByteArray)(c:Int)(w:World):
 Calls Tryd.prog 74 #[.string s,.int .u8 c] w fun e w'=>e= .returned (.int .i64 (Lib.indexByte s.data.toList c.toNat.toUInt8))∧w'=w:=Any.stringslite_IndexByte Tryd.lays217 s c w
def Tryd.lays138_ren :Go.Shelf.Ren:=⟨fun|138=>51|195=>61|218=>63|143=>52|219=>64|217=>74|225=>75|224=>56|267=>76|266=>82|314=>83|n=>n,fun|9=>9|3=>3|4=>4|5=>5|0=>0|46=>22|146=>98|51=>97|n=>n,fun|1=>0|n=>n⟩
theorem Tryd.lays138 :Go.Proofs.Lays.n138 Tryd.prog Tryd.lays138_ren:={
 mixed:=by kernel_rfl
 f138:=Tryd.func51.trans (congrArg some (by kernel_rfl))
 f143:=Tryd.func52.trans (congrArg some (by kernel_rfl))
 f195:=Tryd.func61.trans (congrArg some (by kernel_rfl))
 f217:=Tryd.func74.trans (congrArg some (by kernel_rfl))
 f218:=Tryd.func63.trans (congrArg some (by kernel_rfl))
 f219:=Tryd.func64.trans (congrArg some (by kernel_rfl))
 f224:=Tryd.func56.trans (congrArg some (by kernel_rfl))
 f225:=Tryd.func75.trans (congrArg some (by kernel_rfl))
 f266:=Tryd.func82.trans (congrArg some (by kernel_rfl))
 f267:=Tryd.func76.trans (congrArg some (by kernel_rfl))
 f314:=Tryd.func83.trans (congrArg some (by kernel_rfl))
 t0:=Tryd.underlying0
 a0:=Tryd.isAgg0
 z0:=Tryd.sizeOf0
 v0:=Tryd.zeroValue0
 t3:=Tryd.underlying3
 a3:=Tryd.isAgg3
 z3:=Tryd.sizeOf3
 v3:=Tryd.zeroValue3
 t4:=Tryd.underlying4
 a4:=Tryd.isAgg4
 z4:=Tryd.sizeOf4
 v4:=Tryd.zeroValue4
 t5:=Tryd.underlying5
 a5:=Tryd.isAgg5
 z5:=Tryd.sizeOf5
 v5:=Tryd.zeroValue5
 t9:=Tryd.underlying9
 a9:=Tryd.isAgg9
 z9:=Tryd.sizeOf9
 v9:=Tryd.zeroValue9
 t46:=Tryd.underlying22
 a46:=Tryd.isAgg22
 z46:=Tryd.sizeOf22
 v46:=Tryd.zeroValue22
 t51:=Tryd.underlying97
 a51:=Tryd.isAgg97
 z51:=Tryd.sizeOf97
 v51:=Tryd.zeroValue97
 t146:=Tryd.underlying98
 a146:=Tryd.isAgg98
 z146:=Tryd.sizeOf98
 v146:=Tryd.zeroValue98
 g1:=by kernel_rfl}
theorem Tryd.strings_Count_one (s:ByteArray)(c:UInt8)(w:World):
 Calls Tryd.prog 51 #[.string s,.string ⟨#[c]⟩] w fun e w'=>e= .returned (.int .i64 (Lib.countByte s.data.toList c))∧w'=w:=Any.strings_Count_one Tryd.lays138 s c w
end Go.Proofs

namespace Go.Ga.Gl
open Go Go.Ga
def ji (l:List UInt8):ByteArray:=⟨l.toArray⟩
theorem kz (s:ByteArray):ji s.data.toList=s:=by cases s;simp[ji]
theorem ZQ (l:List UInt8):(ji l).data.toList=l:=by simp[ji]
theorem ky (l:List UInt8):(ji l).size=l.length:=by simp[ji,ByteArray.size]
theorem gx (l:List UInt8)(a b:Nat):(ji l).extract a b=ji ((l.take b).drop a):=by
 apply ByteArray.ext
 apply Array.ext'
 simp[ji,List.extract_eq_take_drop,List.drop_take]
theorem G5 (l:List UInt8)(k:Nat):(ji l).data.getD k 0=l.getD k 0:=by
 simp[ji]
theorem yM (s:ByteArray):∀(n i:Nat) (r:List UInt8),s.size - i=n→ByteArray.toList.loop s i r=r.reverse++s.data.toList.drop i
 | 0,i,r,h=>by
   unfold ByteArray.toList.loop
   rw[if_neg (by omega),List.drop_eq_nil_of_le (by show s.data.toList.length≤i;rw[Array.length_toList];show s.size≤i;omega),List.append_nil]
 | n+1,i,r,h=>by
   have hi:i<s.data.toList.length:=by rw[Array.length_toList];show i<s.size;omega
   unfold ByteArray.toList.loop
   rw[if_pos (by omega),yM s n (i+1) _ (by omega),List.drop_eq_getElem_cons hi]
   have e:s.get! i=s.data.toList[i]:=by
    have h2:i<s.data.size:=by simpa using hi
    show s.data[i]! =_
    rw[getElem!_pos s.data i h2];simp
   rw[e];simp
theorem vu (s:ByteArray):s.toList=s.data.toList:=by
 unfold ByteArray.toList
 rw[yM s s.size 0 [] (by omega)];simp
theorem Yq (l:List UInt8):(ji l).toList=l:=by rw[vu,ZQ]
def zI (c:UInt8):List UInt8→List (List UInt8)
 |[]=>[[]]
 | b::r=>if b=c then []::zI c r else match zI c r with
   |p::ps=>(b::p)::ps
   |[]=>[[b]]
theorem jA (c b:UInt8)(r:List UInt8):zI c (b::r)=if b=c then []::zI c r else match zI c r with
 |p::ps=>(b::p)::ps
 |[]=>[[b]]:=rfl
theorem Xm (b:UInt8)(l:List UInt8)(c:UInt8):Lib.indexByte (b::l) c=if b==c then 0 else if Lib.indexByte l c== -1 then -1 else Lib.indexByte l c+1:=rfl
theorem jQ (c:UInt8):∀l,zI c l≠ []
 |[]=>by simp[zI]
 | b::r=>by
   unfold zI
   split
   · simp
   · split<;>simp
theorem Ql (c:UInt8):∀l,(zI c l).length=l.count c+1
 |[]=>rfl
 | b ::r=>by
   unfold zI
   have ih:=Ql c r
   by_cases h:b=c
   · rw[if_pos h,List.length_cons,ih,h,List.count_cons_self]
   · rw[if_neg h,List.count_cons_of_ne h]
     have hne:=jQ c r
     cases hs:zI c r with
     |nil=>exact absurd hs hne
     |cons p ps=>rw[hs] at ih;exact ih
theorem JZ (c:UInt8)(l:List UInt8):l.count c≤l.length:=List.count_le_length
theorem Ys (c:UInt8):∀l:List UInt8,∀w∈zI c l,w.length≤l.length
 | [],w,h=>by
   simp[zI] at h;subst h;simp
 | b ::r,w,h=>by
   rw[jA] at h
   have ih:=Ys c r
   split at h
   · rcases List.mem_cons.1 h with rfl|h
     · simp
     · have:=ih w h;simp;omega
   · cases hs:zI c r with
     |nil=>exact absurd hs (jQ c r)
     | cons p ps=>
       rw[hs] at h ih
       rcases List.mem_cons.1 h with rfl|h
       · have:=ih p (.head _);simp;omega
       · have:=ih w (.tail _ h);simp;omega
theorem qf {c:UInt8}:∀{l:List UInt8},l.count c=0→zI c l=[l]
 |[],_=>rfl
 | b::r,h=>by
   have hb:b≠c:=fun e=>by rw[e,List.count_cons_self] at h;omega
   rw[List.count_cons_of_ne hb] at h
   unfold zI
   rw[if_neg hb,qf h]
theorem Kv {c:UInt8}:∀{l:List UInt8},0<l.count c→∃m:Nat,Lib.indexByte l c=(m:Int)∧m<l.length∧zI c l=l.take m::zI c (l.drop (m+1))∧(l.drop (m+1)).count c+1=l.count c
 |[],h=>by simp at h
 | b ::r,h=>by
   rw[Xm,jA]
   by_cases hb:b=c
   · subst hb
     exact⟨0,by simp,by simp,by simp,by simp⟩
   · rw[List.count_cons_of_ne hb] at h
     obtain⟨m,h1,h2,h3,h4⟩:=Kv h
     have hbe:(b==c)=false:=by simpa using hb
     refine⟨m+1,?_,by simp;omega,?_,?_⟩
     · rw[hbe,h1]
       have:((m:Int)== -1)=false:=by simp
       simp[this]
     · rw[if_neg hb,h3];simp
     · rw[List.count_cons_of_ne hb];simpa using h4
def ZP (ps:List (List UInt8)):List za:=ps.map fun p=> .sc (.string (ji p))
theorem Zd (ps:List (List UInt8)):(ZP ps).length=ps.length:=by simp[ZP]
theorem xO {ps:List (List UInt8)}{k:Nat}{p:List UInt8}(h:ps[k]?=some p):(ZP ps)[k]?=some (.sc (.string (ji p))):=by simp[ZP,h]
theorem xN (ps:List (List UInt8))(k:Nat)(p:List UInt8):(ZP ps).set k (.sc (.string (ji p)))=ZP (ps.set k p):=by simp[ZP,List.map_set]
theorem vz (ps:List (List UInt8))(p:List UInt8):ZP ps++[.sc (.string (ji p))]=ZP (ps++[p]):=by simp[ZP]
theorem kx (ps:List (List UInt8))(a b:Nat):Zw (ZP ps) 1 a b=ZP ((ps.drop a).take (b - a)):=by simp[Zw,ZP,List.map_take,List.map_drop]
theorem Qk (ps:List (List UInt8)):za.plainL (ZP ps)=true:=(jt (fun p=> .string (ji p)) ps).1
theorem vA (ps:List (List UInt8)):za.flatL (ZP ps)=true:=(jt (fun p=> .string (ji p)) ps).2
theorem yO :∀ps:List (List UInt8),za.cellOkL (ZP ps)=true
 |[]=>rfl
 | p::ps=>by
   have:=yO ps
   simpa[ZP,za.cellOkL,za.cellOk] using this
theorem q8 (ps:List (List UInt8)):za.copyableL (ZP ps)=true:=plain_copyableL _ (Qk ps)
theorem xP (ps:List (List UInt8)):za.freezeL (ZP ps)=ZP ps:=copyable_freezeL _ (q8 ps)
theorem Wb (ps:List (List UInt8)):za.ids0L (ZP ps)=true:=plain_ids0L _ (Qk ps)
theorem kw (g:Nat→Option Nat)(ps:List (List UInt8)):za.renL g (ZP ps)=ZP ps:=ids0_renL g _ (Wb ps)
theorem vy (n:Nat):zy [.string (ji [])] n=ZP (List.replicate n []):=by
 simp only[zy,List.map]
 induction n with
 |zero=>rfl
 |succ n ih=>simp only[List.replicate_succ,List.flatten_cons,ih];rfl
theorem ph (l:List UInt8):ByteArray.mk l.toArray=ji l:=rfl
theorem gw (a b:List UInt8):yj .eql (ji a) (ji b)=some (.bool (decide (a=b))):=by
 unfold yj
 simp only[Yq]
theorem gv (a b:List UInt8):yj .neq (ji a) (ji b)=some (.bool (!decide (a=b))):=by
 unfold yj
 simp only[Yq]
attribute [go_sem] ZQ ph gw gv ky G5 gx Zd Qk vA yO q8 xP Wb kw
def yf :List (List UInt8×Int):=[([],0),([118,101,114,116,105,99,101,115],1),([97,100,100],2),([114,101,109,111,118,101],2),([103,114,111,119],0),([99,117,116],1),([109,97,116,99,104],1),([103,97,108,108,97,105],0),([98,97,114,114,105,101,114],0),([115,105,100,101,115],0),([98,108,111,99,107,115],0),([102,97,99,116,111,114], -1),([99,111,118,101,114],0),([99,108,97,115,115,105,102,121],0),([116,101,108,108],0)]
def wJ (x:List UInt8×Int):List za:=[.sc (.string (ji x.1)),.sc (.int .i64 x.2)]
theorem QW (x:List UInt8×Int):(wJ x).length=2:=rfl
def QC (b:UInt8):Bool:=decide (48≤b.toNat)&&decide (b.toNat≤57)
def val (w:List UInt8):Nat:=w.foldl (fun n b=>10*n+(b.toNat - 48)) 0
theorem J9 (w:List UInt8)(b:UInt8):val (w++[b])=10*val w+(b.toNat - 48):=by simp[val]
theorem uQ :∀w:List UInt8,w.all QC=true→val w<10^w.length:=by
 intro w
 induction hn:w.length generalizing w with
 | zero=>
   intro _
   have:w=[]:=List.length_eq_zero_iff.1 hn
   subst this;decide
 | succ n ih=>
   intro h
   have hne:w≠ []:=by intro e;rw[e] at hn;simp at hn
   obtain⟨v,b,rfl⟩:∃v b,w=v++[b]:=⟨w.dropLast,w.getLast hne,(List.dropLast_concat_getLast hne).symm⟩
   rw[List.all_append,Bool.and_eq_true] at h
   have hv:=ih v (by simp at hn;exact hn) h.1
   have hb:QC b=true:=by simpa using h.2
   unfold QC at hb
   rw[Bool.and_eq_true,decide_eq_true_iff,decide_eq_true_iff] at hb
   rw[J9,Nat.pow_succ]
   omega
def jo (w:List UInt8):Option Nat:=if w.length<1∨9<w.length∨(1<w.length∧w.getD 0 0=48)∨w.all QC=false then none else some (val w)
def Zr :List (List UInt8)→Option (List Nat)
 |[]=>some []
 | w::ws=>match jo w with
   |none=>none
   |some n=>(Zr ws).map (n:: ·)
def hit (p:List UInt8)(x:List UInt8×Int):Bool:=decide (x.1≠ [])&&decide (x.1=p)
structure wK where
 kind:Nat
 a:Nat
 b:Nat
 list:List Nat
def z8 (l:List UInt8):wK×Int:=
 if 65536<l.length then(⟨0,0,0,[]⟩,8) else
 match yf.findIdx? (hit ((zI 32 l).headD [])) with
 |none=>(⟨0,0,0,[]⟩,15)
 | some k=>
   if 0≤(yf.getD k ([],0)).2∧((zI 32 l).length:Int)≠(yf.getD k ([],0)).2+1 then(⟨0,0,0,[]⟩,15) else
   match Zr (zI 32 l).tail with
   |none=>(⟨0,0,0,[]⟩,15)
   | some ns=>
     if(yf.getD k ([],0)).2<0 then(⟨k,0,0,ns⟩,0) else
     if k=6∧ns.getD 0 0≠1∧ns.getD 0 0≠2 then(⟨0,0,0,[]⟩,15) else(⟨k,ns.getD 0 0,ns.getD 1 0,[]⟩,0)
def wK.cells (c:wK):List za:=[.sc (.int .i64 (c.kind:Int)),.sc (.int .i64 (c.a:Int)),.sc (.int .i64 (c.b:Int)),.imm 1 (Z4 c.list)]
theorem jN (l xs:List za)(h:l.length=xs.length):zO l 0 xs=xs:=by
 rcases xs with _|⟨A,_|⟨B,r⟩⟩
 · rw[List.length_eq_zero_iff.1 (show l.length=0 from h)];rfl
 · obtain⟨x,rfl⟩:=List.length_eq_one_iff.1 (show l.length=1 from h)
   rfl
 · show(l.take 0++(A::B::r))++l.drop (0+(A::B::r).length)=_
   rw[Nat.zero_add,List.drop_eq_nil_of_le (by omega)];simp
theorem yw (fs:List (List UInt8×Int)):za.plainL (zR wJ fs)=true:=Jg (fun _=>rfl) fs
theorem KH (fs:List (List UInt8×Int)):za.flatL (zR wJ fs)=true:=JT (fun _=>rfl) fs
theorem Uy (fs:List (List UInt8×Int)):za.cellOkL (zR wJ fs)=true:=jO (fun _=>rfl) fs
theorem QX (fs:List (List UInt8×Int)):za.copyableL (zR wJ fs)=true:=plain_copyableL _ (yw fs)
theorem Ux (fs:List (List UInt8×Int)):za.freezeL (zR wJ fs)=zR wJ fs:=copyable_freezeL _ (QX fs)
theorem Xr (fs:List (List UInt8×Int)):za.ids0L (zR wJ fs)=true:=plain_ids0L _ (yw fs)
theorem gV (g:Nat→Option Nat)(fs:List (List UInt8×Int)):za.renL g (zR wJ fs)=zR wJ fs:=ids0_renL g _ (Xr fs)
theorem qN :∀(a b:List (List UInt8)),Zr (a++b)=(Zr a).bind fun x=>(Zr b).map (x++ ·)
 |[],b=>by simp[Zr]
 | w::a,b=>by
   show(match jo w with|none=>none|some n=>(Zr (a++b)).map (n:: ·))=(match jo w with|none=>none|some n=>(Zr a).map (n:: ·)).bind _
   rw[qN a b]
   cases jo w with
   |none=>rfl
   |some n=>cases Zr a<;>cases Zr b<;>rfl
theorem YI {a b:List (List UInt8)}{w:List UInt8}(h:jo w=none):Zr (a++w::b)=none:=by
 rw[qN]
 cases Zr a with
 |none=>rfl
 |some x=>show(match jo w with|none=>none|some n=>(Zr b).map (n:: ·)).map _=none;rw[h];rfl
attribute [go_sem] Int.reduceToNat jN List.length_cons List.length_nil yw KH Uy QX Ux Xr gV QW
def ZK (n:Nat):List UInt8:=if n<10 then [UInt8.ofNat (48+n)] else ZK (n / 10)++[UInt8.ofNat (48+n%10)]
termination_by n
decreasing_by omega
theorem Jo {n:Nat}(h:n<10):ZK n=[UInt8.ofNat (48+n)]:=by rw[ZK,if_pos h]
theorem Jp {n:Nat}(h:¬n<10):ZK n=ZK (n / 10)++[UInt8.ofNat (48+n%10)]:=by rw[ZK,if_neg h]
theorem dg (k:Nat)(h:k<10):(UInt8.ofNat (48+k)).toNat=48+k:=by simp;omega
theorem Xv (n:Nat):(ZK n).all QC=true:=by
 induction n using Nat.strongRecOn with
 | _ n ih=>
   by_cases h:n<10
   · rw[Jo h]
     simp only[List.all_cons,List.all_nil,Bool.and_true,QC,dg n h]
     simp;omega
   · rw[Jp h,List.all_append,ih _ (by omega)]
     have:=dg (n%10) (by omega)
     simp only[List.all_cons,List.all_nil,Bool.and_true,Bool.true_and,QC,this]
     simp;omega
theorem KM (n:Nat):val (ZK n)=n:=by
 induction n using Nat.strongRecOn with
 | _ n ih=>
   by_cases h:n<10
   · rw[Jo h]
     show 10*0+((UInt8.ofNat (48+n)).toNat - 48)=n
     rw[dg n h];omega
   · rw[Jp h,J9,ih _ (by omega),dg (n%10) (by omega)];omega
theorem Y7 (n:Nat):∀k,(ZK n).length≤k+1↔n<10^(k+1):=by
 induction n using Nat.strongRecOn with
 | _ n ih=>
   intro k
   by_cases h:n<10
   · rw[Jo h]
     have:10^1≤10^(k+1):=Nat.pow_le_pow_right (by omega) (by omega)
     simp;omega
   · rw [Jp h,List.length_append]
     cases k with
     | zero=>
       have h2:1≤(ZK (n / 10)).length:=by
        by_cases h3:n / 10<10
        · rw[Jo h3];simp
        · rw[Jp h3];simp
       rw[show(10:Nat)^(0+1)=10 from rfl]
       simp only[List.length_cons,List.length_nil]
       omega
     | succ k=>
       have:=ih (n / 10) (by omega) k
       rw[Nat.pow_succ]
       simp only[List.length_cons,List.length_nil]
       omega
theorem Xu (n:Nat):1≤(ZK n).length:=by
 by_cases h3:n<10
 · rw[Jo h3];simp
 · rw[Jp h3];simp
theorem Vw (n:Nat)(h:1≤n):(ZK n).getD 0 0≠48:=by
 induction n using Nat.strongRecOn with
 | _ n ih=>
   by_cases h3:n<10
   · rw[Jo h3]
     intro e
     have:=congrArg UInt8.toNat (show UInt8.ofNat (48+n)=48 from e)
     rw[dg n h3] at this
     have h48:(48:UInt8).toNat=48:=rfl
     omega
   · rw[Jp h3]
     have hp:=Xu (n / 10)
     have:=ih (n / 10) (by omega) (by omega)
     rw[List.getD_eq_getElem?_getD,List.getElem?_append_left hp]
     rwa [List.getD_eq_getElem?_getD] at this
theorem Kh (n:Nat):jo (ZK n)=if n<1000000000 then some n else none:=by
 have h1:=Xu n
 have h2:=Y7 n 8
 unfold jo
 by_cases h:n<1000000000
 · rw[if_pos h,if_neg,KM]
   rintro(h3|h3|⟨h3,h4⟩|h3)
   · omega
   · omega
   · have h5:=Y7 n 0
     exact Vw n (by omega) h4
   · rw[Xv] at h3;cases h3
 · rw[if_neg h,if_pos]
   refine .inr (.inl ?_)
   omega
theorem KL {b:UInt8}(h:QC b=true):b≠32:=by
 intro e;subst e;revert h;decide
theorem yG (l:List UInt8):za.plainL (WK l)=true:=(jt (fun b:UInt8=> .int .u8 (b.toNat:Int)) l).1
theorem KX (l:List UInt8):za.flatL (WK l)=true:=(jt (fun b:UInt8=> .int .u8 (b.toNat:Int)) l).2
theorem wt :∀l:List UInt8,za.cellOkL (WK l)=true
 |[]=>rfl
 | b::l=>by
   have:=wt l
   simpa[WK,za.cellOkL,za.cellOk] using this
theorem Q9 (l:List UInt8):za.copyableL (WK l)=true:=plain_copyableL _ (yG l)
theorem UE (l:List UInt8):za.freezeL (WK l)=WK l:=copyable_freezeL _ (Q9 l)
theorem uE (l:List UInt8):za.ids0L (WK l)=true:=plain_ids0L _ (yG l)
theorem Gc (g:Nat→Option Nat)(l:List UInt8):za.renL g (WK l)=WK l:=ids0_renL g _ (uE l)
theorem Kx (l:List za):(za.tup l).ids0=za.ids0L l:=by simp only[za.ids0]
theorem Vr (A:za)(l:List za):za.ids0L (A::l)=(A.ids0&&za.ids0L l):=by simp only[za.ids0L]
theorem Ky (s:Nat)(l:List za):(za.imm s l).ids0=za.ids0L l:=by simp only[za.ids0]
attribute [go_sem] Kx Vr Ky Jr yG KX wt Q9 UE uE Gc
end Go.Ga.Gl
set_option maxRecDepth 100000
set_option maxHeartbeats 4000000
namespace Go.Proofs.YtneiihheeghdcaaDoor
open Go Go.Ga Go.Ga.Gl
theorem KP (l:List UInt8)(c:UInt8):zD Tryd.prog [] p7 [.sc (.string (ji l)),.sc (.string ⟨#[c]⟩)] [] fun r h'=>r= .sc (.int .i64 ((l.count c:Nat):Int))∧h'=[]:=
 yZ (us:=[.string (ji l),.string ⟨#[c]⟩]) (by kernel_rfl) fun w=>by
  have:=Tryd.strings_Count_one (ji l) c w
  rw[ZQ] at this
  exact this
theorem kD (l:List UInt8)(c:Int):zD Tryd.prog [] p6 [.sc (.string (ji l)),.sc (.int .u8 c)] [] fun r h'=>r= .sc (.int .i64 (Lib.indexByte l c.toNat.toUInt8))∧h'=[]:=
 yZ (us:=[.string (ji l),.int .u8 c]) (by kernel_rfl) fun w=>by
  have:=Tryd.stringslite_IndexByte (ji l) c w
  rw[ZQ] at this
  exact this
theorem kC (l:List UInt8):zD Tryd.prog [] Gr [.sc (.string (ji l)),.sc (.string ⟨#[32]⟩)] [] fun r h'=>r= .sc (.int .i64 (Lib.indexByte l 32))∧h'=[]:=by
 have h8:(((32:UInt8).toNat:Int))=32:=rfl
 have s1:(ji [32]).size=1:=rfl
 refine pq rfl ?_
 unfold GH zv
 refine zc fun KY hKY=>?_
 simp only[go_sem,XG]
 apply hKY
 refine zc fun KY hKY=>?_
 simp only[go_sem,XF,List.length_cons,List.length_nil]
 apply hKY
 refine zi fun X1 hn1 he1 hr1=>?_
 refine zZ fun X2 hn2 he2 hf2 hr2=>?_
 by_cases e:l=[32]
 · subst e
   refine zc fun KY hKY=>?_
   simp only[go_sem,wg,List.length_cons,List.length_nil]
   apply hKY
   refine Jt ?_
   refine zc fun KY hKY=>?_
   simp only[go_sem,XE]
   apply hKY
   refine zf ?_
   repeat (first|refine hr2 _ ?_|refine hr1 _ ?_)
   simp only[go_sem]
   rfl
 · have hd:decide (([32]:List UInt8)=l)=false:=decide_eq_false fun h=>e h.symm
   refine zc fun KY hKY=>?_
   simp only[go_sem,wg,hd,List.length_cons,List.length_nil]
   apply hKY
   refine qG ?_
   refine zc fun KY hKY=>?_
   simp only[go_sem,XD]
   apply hKY
   refine Jt ?_
   refine zc fun KY hKY=>?_
   simp only[go_sem,XC,List.length_cons,List.length_nil]
   refine zE rfl (by simp only[go_sem]<;>rfl) ((kD l 32).mono ?_)
   rintro rr hh ⟨rfl,rfl⟩
   refine⟨rfl,rfl,rfl,?_⟩
   simp only[go_sem]
   apply hKY
   refine zf ?_
   repeat (first|refine hr2 _ ?_|refine hr1 _ ?_)
   simp only[go_sem]
   rfl
theorem vC (l:List UInt8):zD Tryd.prog [] Gs [.sc (.string (ji l)),.sc (.string (ji [32]))] [] fun r h'=>r= .sc (.int .i64 (Lib.indexByte l 32))∧h'=[]:=by
 refine pr rfl ?_
 unfold GI wX
 refine zc fun KY hKY=>?_
 simp only[go_sem,XI]
 apply hKY
 refine zc fun KY hKY=>?_
 simp only[go_sem,XH]
 refine zE rfl (by simp only[go_sem]<;>rfl) ((kC l).mono ?_)
 rintro rr hh ⟨rfl,rfl⟩
 refine⟨rfl,rfl,rfl,?_⟩
 simp only[go_sem]
 apply hKY
 refine zf ?_
 simp only[go_sem]
theorem Xq (l:List UInt8)(hl:l.length≤1000000000):zD Tryd.prog [] Gu [.sc (.string (ji l)),.sc (.string (ji [32])),.sc (.int .i64 0),.sc (.int .i64 (-1))] [] fun r h'=>r= .own (some 1) (ZP (zI 32 l))∧h'=[]:=by
 obtain⟨c,hc⟩:∃c,c=l.count 32:=⟨_,rfl⟩
 have hcl:=JZ 32 l
 rw[←hc] at hcl
 have hC:=KP l 32
 rw[←hc] at hC
 have w1:IntKind.i64.wrap ((c:Int)+1)=((c+1:Nat):Int):=by rw[IntWalk.i64_in _ (by omega)];omega
 have w2:IntKind.i64.wrap ((l.length:Int)+1)=((l.length+1:Nat):Int):=by rw[IntWalk.i64_in _ (by omega)];omega
 have hmn:min ((c+1:Nat):Int) ((l.length+1:Nat):Int)=((c+1:Nat):Int):=by omega
 have hmk:16*(c+1)≤140737488355328∧((c+1:Nat):Int)≤9223372036854775807:=by omega
 have w3:IntKind.i64.wrap (((c+1:Nat):Int) - 1)=(c:Int):=by rw[IntWalk.i64_in _ (by omega)];omega
 refine pw rfl ?_
 unfold GL zW
 refine zc fun KY hKY=>?_
 simp only[go_sem,ua]
 apply hKY
 refine zi fun X1 hn1 he1 hr1=>?_
 refine zc fun KY hKY=>?_
 simp only[go_sem,X0]
 apply hKY
 refine qG ?_
 refine zo ?_
 repeat (first|refine hn1 _ ?_|refine he1 _ _ ?_)
 refine zi fun X2 hn2 he2 hr2=>?_
 refine zc fun KY hKY=>?_
 simp only[go_sem,XZ]
 apply hKY
 refine qG ?_
 refine zo ?_
 repeat (first|refine hn2 _ ?_|refine he2 _ _ ?_|refine hn1 _ ?_|refine he1 _ _ ?_)
 refine zi fun X3 hn3 he3 hr3=>?_
 refine zc fun KY hKY=>?_
 simp only[go_sem,XY]
 apply hKY
 refine Jt ?_
 refine ZL fun KY hKY=>?_
 simp only[go_sem,XX]
 refine zE rfl (by simp only[go_sem]<;>rfl) ((hC).mono ?_)
 rintro rr hh ⟨rfl,rfl⟩
 refine⟨rfl,rfl,rfl,?_⟩
 simp only[go_sem,w1]
 apply hKY
 repeat (first|refine hn3 _ ?_|refine he3 _ _ ?_|refine hn2 _ ?_|refine he2 _ _ ?_|refine hn1 _ ?_|refine he1 _ _ ?_)
 refine zc fun KY hKY=>?_
 simp only[go_sem,XW,w2,hmn]
 apply hKY
 refine zc fun KY hKY=>?_
 simp only[go_sem,XV,hmk,Int.le_refl,vy]
 apply hKY
 refine zc fun KY hKY=>?_
 simp only[go_sem,XU,w3]
 apply hKY
 refine zc fun KY hKY=>?_
 simp only[go_sem,WD]
 apply hKY
 refine zi fun X4 hn4 he4 hr4=>?_
 refine zZ fun X5 hn5 he5 hf5 hr5=>?_
 try simp only[go_sem]
 refine Qg (α:=Nat×List (List UInt8)×List UInt8) [11,36,41] (fun(i,z,r)=>[(0,.sc (.string (ji r))),(9,.own (some 1) (ZP (z++List.replicate (c+1 - i) []))),(10,.sc (.int .i64 (i:Int)))]) (fun(i,z,r)=>[]) (fun(i,z,r) q=>i≤c∧z.length=i∧zI 32 l=z++zI 32 r∧i+r.count 32=c∧r.length≤l.length∧q=c - i) ((0,[],l)) (c) rfl (by first|(simp only[go_sem,zq,zz];done)|with_reducible rfl|rfl) (⟨Nat.zero_le _,rfl,rfl,by omega,Nat.le_refl _,rfl⟩) ?_
 rintro⟨i,z,r⟩ q ⟨hi,hzl,hsp,hcr,hrl,rfl⟩ X6 hn6 he6 hr6
 simp only[go_sem,zq,zz]
 refine zi fun X7 hn7 he7 hr7=>?_
 rcases Nat.lt_or_ge i c with hi2|hi2
 · have hdx:decide ((i:Int)<(c:Int))=true:=decide_eq_true (by omega)
   obtain⟨m,hm1,hm2,hm3,hm4⟩:=Kv (c:=32) (l:=r) (by omega)
   have hI:=vC r
   rw[hm1] at hI
   have hd0:decide ((m:Int)<0)=false:=decide_eq_false (by omega)
   have wm0:IntKind.i64.wrap ((m:Int)+0)=(m:Int):=by rw[IntWalk.i64_in _ (by omega)];omega
   have wm1:IntKind.i64.wrap ((m:Int)+1)=((m+1:Nat):Int):=by rw[IntWalk.i64_in _ (by omega)];omega
   have hrep:List.replicate (c+1 - i) ([]:List UInt8)=[]::List.replicate (c+1 - (i+1)) []:=by
    rw[show c+1 - i=(c+1 - (i+1))+1 by omega,List.replicate_succ]
   have hset:(z++List.replicate (c+1 - i) []).set i (r.take m)=(z++[r.take m])++List.replicate (c+1 - (i+1)) []:=by
    rw[List.set_append_right _ _ (by omega),hrep,show i - z.length=0 by omega];simp
   have hzn:(z++List.replicate (c+1 - i) ([]:List UInt8)).length=c+1:=by simp;omega
   refine zc fun KY hKY=>?_
   simp only[go_sem,yA,hdx]
   apply hKY
   refine Jt ?_
   refine zo ?_
   repeat (first|refine hn7 _ ?_|refine he7 _ _ ?_|refine he6 _ _ ?_|refine hn5 _ ?_|refine he5 _ ?_|refine hf5 _ _ (by decide) ?_|refine hn4 _ ?_|refine he4 _ _ ?_|refine hn3 _ ?_|refine he3 _ _ ?_|refine hn2 _ ?_|refine he2 _ _ ?_|refine hn1 _ ?_|refine he1 _ _ ?_)
   refine zZ fun X8 hn8 he8 hf8 hr8=>?_
   refine zc fun KY hKY=>?_
   simp only[go_sem,WC]
   refine zE rfl (by simp only[go_sem]<;>rfl) ((hI).mono ?_)
   rintro rr hh ⟨rfl,rfl⟩
   refine⟨rfl,rfl,rfl,?_⟩
   simp only[go_sem]
   apply hKY
   refine zi fun X9 hn9 he9 hr9=>?_
   refine zc fun KY hKY=>?_
   simp only[go_sem,WB,hd0]
   apply hKY
   refine qG ?_
   refine zo ?_
   repeat (first|refine hn9 _ ?_|refine he9 _ _ ?_|refine hn8 _ ?_|refine he8 _ ?_|refine hf8 _ _ (by decide) ?_|refine hn7 _ ?_|refine he7 _ _ ?_|refine he6 _ _ ?_|refine hn5 _ ?_|refine he5 _ ?_|refine hf5 _ _ (by decide) ?_|refine hn4 _ ?_|refine he4 _ _ ?_|refine hn3 _ ?_|refine he3 _ _ ?_|refine hn2 _ ?_|refine he2 _ _ ?_|refine hn1 _ ?_|refine he1 _ _ ?_)
   refine zc fun KY hKY=>?_
   simp only[go_sem,WA,wm0,Zd,hzn,(show i<c+1 by omega),(show m≤r.length by omega),xN,hset]
   apply hKY
   refine zc fun KY hKY=>?_
   simp only[go_sem,Wz,wm1,(show m+1≤r.length by omega),List.length_cons,List.length_nil,List.take_length,Nat.le_refl]
   apply hKY
   refine ZL fun KY hKY=>?_
   simp only[go_sem,Wy,Vq (show i<4611686018427387904 by omega)]
   apply hKY
   repeat (first|refine hn9 _ ?_|refine he9 _ _ ?_|refine hn8 _ ?_|refine he8 _ ?_|refine hf8 _ _ (by decide) ?_|refine hn7 _ ?_|refine he7 _ _ ?_)
   refine hn6 _ ((i+1,z++[r.take m],r.drop (m+1))) (c - (i+1)) (by omega) (by first|(simp only[go_sem,zq,zz];done)|with_reducible rfl) ?_
   exact⟨hi2,by simp[hzl],by rw[hsp,hm3];simp,by omega,by simp;omega,rfl⟩
 obtain rfl:i=c:=by omega
 have hdx:decide ((i:Int)<(i:Int))=false:=decide_eq_false (by omega)
 have hzn:(z++List.replicate (i+1 - i) ([]:List UInt8)).length=i+1:=by simp;omega
 have hset:(z++List.replicate (i+1 - i) []).set i r=z++[r]:=by
  rw[List.set_append_right _ _ (by omega),show i+1 - i=1 by omega,show i - z.length=0 by omega];simp
 have hw:IntKind.i64.wrap ((i:Int)+1)=((i+1:Nat):Int):=by rw[IntWalk.i64_in _ (by omega)];omega
 have hzl2:(z++[r]).length=i+1:=by simp[hzl]
 refine zc fun KY hKY=>?_
 simp only[go_sem,yA,hdx]
 apply hKY
 refine qG ?_
 refine jw ?_
 repeat (first|refine hn7 _ ?_|refine he7 _ _ ?_|refine he6 _ _ ?_|refine hn5 _ ?_|refine he5 _ ?_|refine hf5 _ _ (by decide) ?_|refine hn4 _ ?_|refine he4 _ _ ?_|refine hn3 _ ?_|refine he3 _ _ ?_|refine hn2 _ ?_|refine he2 _ _ ?_|refine hn1 _ ?_|refine he1 _ _ ?_)
 refine zc fun KY hKY=>?_
 simp only[go_sem,Wx,Zd,hzn,(show i<i+1 by omega),xN,hset]
 apply hKY
 refine zc fun KY hKY=>?_
 simp only[go_sem,Ww,hw,Zd,hzl2,Nat.le_refl,kx]
 apply hKY
 refine zf ?_
 repeat (first|refine hr7 _ ?_|refine hr6 _ ?_|refine hr5 _ ?_|refine hr4 _ ?_|refine hr3 _ ?_|refine hr2 _ ?_|refine hr1 _ ?_)
 simp only[go_sem]
 rw[hsp,qf (by omega)]
 simp
 rw[List.take_of_length_le (by simp;omega)]
theorem kB (l:List UInt8)(hl:l.length≤1000000000):zD Tryd.prog [] GA [.sc (.string (ji l)),.sc (.string (ji [32]))] [] fun r h'=>r= .own (some 1) (ZP (zI 32 l))∧h'=[]:=by
 refine pD rfl ?_
 unfold GS w0
 refine zc fun KY hKY=>?_
 simp only[go_sem,ut]
 apply hKY
 refine zc fun KY hKY=>?_
 simp only[go_sem,ur]
 apply ZE [] [] false none rfl
 iterate 8 (first|(simp only[go_sem,zM]<;>rfl)|rfl)
 refine(Xq l hl).mono ?_
 rintro _ _ ⟨rfl,rfl⟩
 refine⟨Nat.le_of_ble_eq_true rfl,(fun hh=>by cases hh),?_⟩
 simp only[go_sem,Zp,zb.after]
 apply hKY
 refine zf ?_
 simp only[go_sem]
theorem QY :zD Tryd.prog [] Gz [] [] fun r h'=>r= .agg (zR wJ yf)∧h'=[]:=by
 refine pC rfl ?_
 unfold GR xD
 refine zc fun KY hKY=>?_
 simp only[go_sem,uq]
 apply hKY
 refine zc fun KY hKY=>?_
 simp only[go_sem,up,jN,List.length_cons,List.length_nil]
 apply hKY
 refine zf ?_
 simp only[go_sem,jN,List.length_cons,List.length_nil]
 rfl
abbrev PE (ps:List (List UInt8)):za:= .ia [.imm 1 (ZP ps)]
theorem Vn (x:List UInt8×Int)(p:List UInt8)(ps:List (List UInt8)):zD Tryd.prog [] Kk [.agg (wJ x),.ia [PE (p::ps)]] [] fun r h'=>r= .sc (.bool (hit p x))∧h'=[]:=by
 obtain⟨w,n⟩:=x
 have h0:(ZP (p::ps))[0]?=some (.sc (.string (ji p))):=rfl
 have hl:(ZP (p::ps)).length=ps.length+1:=by simp[ZP]
 unfold wJ hit
 refine pA rfl ?_
 unfold GP xC
 refine zc fun KY hKY=>?_
 simp only[go_sem,uh]
 apply hKY
 by_cases hw:w=[]
 · have hd:decide (w=[])=true:=decide_eq_true hw
   refine Zb fun KY hKY=>?_
   simp only[go_sem,wn,hd]
   apply hKY
   refine zf ?_
   simp only[go_sem]
   simp[hw]
 · have hd:decide (w=[])=false:=decide_eq_false hw
   refine Zb fun KY hKY=>?_
   simp only[go_sem,wn,hd,h0,hl,(show 1≤ps.length+1 by omega)]
   apply hKY
   refine zf ?_
   simp only[go_sem]
   simp[hw]
theorem Vp (fs:List (List UInt8×Int))(p:List UInt8)(ps:List (List UInt8))(hf:fs.length≤1000):zD Tryd.prog [] Gy [.imm 2 (zR wJ fs),.fn (.func Kk) [] [.ia [PE (p::ps)]]] [] fun r h'=>(∃z:Int,r= .sc (.int .i64 z)∧((z= -1∧fs.findIdx? (hit p)=none)∨∃i:Nat,z=(i:Int)∧fs.findIdx? (hit p)=some i))∧h'=[]:=by
 have hpl:(zR wJ fs).length=fs.length*2:=qL QW fs
 refine pB rfl ?_
 unfold GQ jR
 refine zc fun KY hKY=>?_
 simp only[go_sem,uo]
 apply hKY
 refine zi fun X1 hn1 he1 hr1=>?_
 refine zc fun KY hKY=>?_
 simp only[go_sem,un,hpl,p8]
 apply hKY
 refine zZ fun X2 hn2 he2 hf2 hr2=>?_
 try simp only[go_sem]
 refine Qg (α:=Nat) [5,9,16] (fun k=>[(8,.sc (.int .i64 (k:Int)))]) (fun k=>[]) (fun k q=>k≤fs.length∧(∀i x,i<k→fs[i]?=some x→hit p x=false)∧q=fs.length - k) (0) (fs.length) rfl (by first|(simp only[go_sem,zq,zz];done)|with_reducible rfl|rfl) (⟨Nat.zero_le _,fun i x h=>by omega,rfl⟩) ?_
 rintro k q ⟨hk,hno,rfl⟩ X3 hn3 he3 hr3
 simp only[go_sem,zq,zz]
 rcases Nat.lt_or_ge k fs.length with hk2|hk2
 · have hdx:decide ((k:Int)<(fs.length:Int))=true:=decide_eq_true (by omega)
   have hx:fs[k]?=some (fs[k]):=List.getElem?_eq_getElem hk2
   generalize fs[k]=x at hx
   have hc:=yT QW hx
   have hI:=Vn x p ps
   refine zc fun KY hKY=>?_
   simp only[go_sem,wo,hdx]
   apply hKY
   refine zi fun X4 hn4 he4 hr4=>?_
   refine Jt ?_
   refine zo ?_
   repeat (first|refine hn4 _ ?_|refine he4 _ _ ?_|refine he3 _ _ ?_|refine hn2 _ ?_|refine he2 _ ?_|refine hf2 _ _ (by decide) ?_|refine hn1 _ ?_|refine he1 _ _ ?_)
   refine zi fun X5 hn5 he5 hr5=>?_
   refine zZ fun X6 hn6 he6 hf6 hr6=>?_
   refine zc fun KY hKY=>?_
   simp only[go_sem,um]
   apply hKY
   refine zc fun KY hKY=>?_
   simp only[go_sem,ul,hc,hpl,hk2,(show k*2+2≤fs.length*2 by omega),(show 2≤fs.length*2 - k*2 by omega),List.length_drop]
   refine zE rfl (by simp only[go_sem]<;>rfl) ((hI).mono ?_)
   rintro rr hh ⟨rfl,rfl⟩
   refine⟨rfl,rfl,rfl,?_⟩
   simp only[go_sem]
   apply hKY
   cases hh:hit p x with
   | true=>
     refine Jt ?_
     refine zc fun KY hKY=>?_
     simp only[go_sem,uk]
     apply hKY
     refine zf ?_
     repeat (first|refine hr6 _ ?_|refine hr5 _ ?_|refine hr4 _ ?_|refine hr3 _ ?_|refine hr2 _ ?_|refine hr1 _ ?_)
     simp only[go_sem]
     refine⟨_,rfl,.inr ⟨k,rfl,?_⟩⟩
     rw[List.findIdx?_eq_some_iff_getElem]
     obtain⟨hk3,e⟩:=List.getElem?_eq_some_iff.1 hx
     refine⟨hk3,by rw[e];exact hh,fun j hj=>?_⟩
     rw[hno j _ hj (List.getElem?_eq_getElem (by omega))];decide
   | false=>
     refine qG ?_
     refine zo ?_
     repeat (first|refine hn6 _ ?_|refine he6 _ ?_|refine hf6 _ _ (by decide) ?_|refine hn5 _ ?_|refine he5 _ _ ?_|refine hn4 _ ?_|refine he4 _ _ ?_|refine he3 _ _ ?_|refine hn2 _ ?_|refine he2 _ ?_|refine hf2 _ _ (by decide) ?_|refine hn1 _ ?_|refine he1 _ _ ?_)
     refine ZL fun KY hKY=>?_
     simp only[go_sem,uj,Vq (show k<4611686018427387904 by omega)]
     apply hKY
     repeat (first|refine hn6 _ ?_|refine he6 _ ?_|refine hf6 _ _ (by decide) ?_|refine hn5 _ ?_|refine he5 _ _ ?_|refine hn4 _ ?_|refine he4 _ _ ?_)
     refine hn3 _ (k+1) (fs.length - (k+1)) (by omega) (by first|(simp only[go_sem,zq,zz];done)|with_reducible rfl) ?_
     refine⟨hk2,fun i y hi hy=>?_,rfl⟩
     by_cases e:i=k
     · subst e;rw[hx] at hy;cases hy;exact hh
     · exact hno i y (by omega) hy
 have hdx:decide ((k:Int)<(fs.length:Int))=false:=decide_eq_false (by omega)
 refine zc fun KY hKY=>?_
 simp only[go_sem,wo,hdx]
 apply hKY
 refine zi fun X7 hn7 he7 hr7=>?_
 refine qG ?_
 refine jw ?_
 repeat (first|refine hn7 _ ?_|refine he7 _ _ ?_|refine he3 _ _ ?_|refine hn2 _ ?_|refine he2 _ ?_|refine hf2 _ _ (by decide) ?_|refine hn1 _ ?_|refine he1 _ _ ?_)
 refine zc fun KY hKY=>?_
 simp only[go_sem,ui]
 apply hKY
 refine zf ?_
 repeat (first|refine hr7 _ ?_|refine hr3 _ ?_|refine hr2 _ ?_|refine hr1 _ ?_)
 simp only[go_sem]
 refine⟨_,rfl,.inl ⟨rfl,?_⟩⟩
 rw[List.findIdx?_eq_none_iff]
 intro x hx
 obtain⟨i,hi,e⟩:=List.getElem_of_mem hx
 exact hno i x (by omega) (by rw[←e];exact List.getElem?_eq_getElem hi)
theorem Wg (ps:List (List UInt8)){k:Nat}{w:List UInt8}(hk:ps[k]?=some w)(hl:w.length≤1000000000):zD Tryd.prog [] Gx [PE ps,.sc (.int .i64 (k:Int))] [] fun r h'=>r= .tup [.sc (.int .i64 (((jo w).getD 0:Nat):Int)),.sc (.bool (jo w).isSome)]∧h'=[]:=by
 have hkl:k<ps.length:=(List.getElem?_eq_some_iff.1 hk).1
 have hg:=xO hk
 have hdl:k+1≤ps.length:=hkl
 refine pz rfl ?_
 unfold GO ZM
 refine zc fun KY hKY=>?_
 simp only[go_sem,ug]
 apply hKY
 refine zc fun KY hKY=>?_
 simp only[go_sem,uf,hg,Zd,hkl,hdl]
 apply hKY
 refine zi fun X1 hn1 he1 hr1=>?_
 rcases(show w.length<1∨(1≤w.length∧9<w.length)∨(1<w.length∧w.length≤9∧w.getD 0 0=48)∨(1≤w.length∧w.length≤9∧¬(1<w.length∧w.getD 0 0=48)) by
  by_cases h:w.getD 0 0=48
  · simp only[h,and_true,true_and];omega
  · simp only[h,and_false,false_and,not_false_eq_true,and_true];omega) with h1|⟨h1,h2⟩|⟨h1,h2,h3⟩|⟨h1,h2,h3⟩
 · have d1:decide ((w.length:Int)<1)=true:=decide_eq_true (by omega)
   have hn:jo w=none:=if_pos (.inl h1)
   refine zc fun KY hKY=>?_
   simp only[go_sem,JE,d1]
   apply hKY
   refine Jt ?_
   refine zc fun KY hKY=>?_
   simp only[go_sem,Q7]
   apply hKY
   refine zf ?_
   repeat (first|refine hr1 _ ?_)
   simp only[go_sem]
   rw[hn];rfl
 · have d1:decide ((w.length:Int)<1)=false:=decide_eq_false (by omega)
   have d2:decide (9<(w.length:Int))=true:=decide_eq_true (by omega)
   have hn:jo w=none:=if_pos (.inr (.inl h2))
   refine zc fun KY hKY=>?_
   simp only[go_sem,JE,d1,d2]
   apply hKY
   refine Jt ?_
   refine zc fun KY hKY=>?_
   simp only[go_sem,Q7]
   apply hKY
   refine zf ?_
   repeat (first|refine hr1 _ ?_)
   simp only[go_sem]
   rw[hn];rfl
 · have d1:decide ((w.length:Int)<1)=false:=decide_eq_false (by omega)
   have d2:decide (9<(w.length:Int))=false:=decide_eq_false (by omega)
   have d3:decide (1<(w.length:Int))=true:=decide_eq_true (by omega)
   have d4:decide (((w.getD 0 0).toNat:Int)=48)=true:=by rw[h3];rfl
   have hn:jo w=none:=if_pos (.inr (.inr (.inl ⟨h1,h3⟩)))
   refine zc fun KY hKY=>?_
   simp only[go_sem,JE,d1,d2,d3,d4,(show 0<w.length by omega)]
   apply hKY
   refine Jt ?_
   refine zc fun KY hKY=>?_
   simp only[go_sem,Q7]
   apply hKY
   refine zf ?_
   repeat (first|refine hr1 _ ?_)
   simp only[go_sem]
   rw[hn];rfl
 · have d1:decide ((w.length:Int)<1)=false:=decide_eq_false (by omega)
   have d2:decide (9<(w.length:Int))=false:=decide_eq_false (by omega)
   have hnn:∀b,w.all QC=b→jo w=if b=false then none else some (val w):=fun b hb=>by
    unfold jo
    cases b with
    |false=>rw[if_pos (.inr (.inr (.inr hb))),if_pos rfl]
    |true=>rw[if_neg (by rw[hb];rintro(h|h|h|h);omega;omega;exact h3 h;cases h),if_neg (by simp)]
   by_cases h4:1<w.length
   · have h5:¬w.getD 0 0=48:=fun e=>h3 ⟨h4,e⟩
     have d3:decide (1<(w.length:Int))=true:=decide_eq_true (by omega)
     have d4:decide (((w.getD 0 0).toNat:Int)=48)=false:=decide_eq_false fun e=>h5 (UInt8.toNat_inj.1 (Int.ofNat_inj.1 e))
     refine zc fun KY hKY=>?_
     simp only[go_sem,JE,d1,d2,d3,d4,(show 0<w.length by omega)]
     apply hKY
     refine qG ?_
     refine zo ?_
     repeat (first|refine hn1 _ ?_|refine he1 _ _ ?_)
     refine zc fun KY hKY=>?_
     simp only[go_sem,wm]
     apply hKY
     refine zi fun X2 hn2 he2 hr2=>?_
     refine zc fun KY hKY=>?_
     simp only[go_sem,wj,Jr]
     apply hKY
     refine zZ fun X3 hn3 he3 hf3 hr3=>?_
     try simp only[go_sem]
     refine Qg (α:=Nat) [9,39,47] (fun j=>[(7,.sc (.int .i64 ((val (w.take j):Nat):Int))),(38,.sc (.int .i64 (j:Int)))]) (fun j=>[]) (fun j q=>j≤w.length∧(w.take j).all QC=true∧q=w.length - j) (0) (w.length) rfl (by first|(simp only[go_sem,zq,zz];done)|with_reducible rfl|rfl) (⟨Nat.zero_le _,rfl,rfl⟩) ?_
     rintro j q ⟨hj,hall,rfl⟩ X4 hn4 he4 hr4
     simp only[go_sem,zq,zz]
     rcases Nat.lt_or_ge j w.length with hj2|hj2
     · have hdx:decide ((j:Int)<(w.length:Int))=true:=decide_eq_true (by omega)
       have hx:w[j]?=some w[j]:=List.getElem?_eq_getElem hj2
       have htk:w.take (j+1)=w.take j++[w[j]]:=by rw[List.take_add_one,hx];rfl
       have hda:w.all QC=true→QC w[j]=true:=fun h=>List.all_eq_true.1 h _ (List.getElem_mem hj2)
       have hlt:=(w[j]).toNat_lt
       generalize w[j]=c at hx htk hda hlt
       have hb:(WK w)[j]?=some (.sc (.int .u8 (c.toNat:Int))):=by simp[WK,hx]
       refine zc fun KY hKY=>?_
       simp only[go_sem,qA,hdx]
       apply hKY
       refine zi fun X5 hn5 he5 hr5=>?_
       refine Jt ?_
       refine zo ?_
       repeat (first|refine hn5 _ ?_|refine he5 _ _ ?_|refine he4 _ _ ?_|refine hn3 _ ?_|refine he3 _ ?_|refine hf3 _ _ (by decide) ?_|refine hn2 _ ?_|refine he2 _ _ ?_|refine hn1 _ ?_|refine he1 _ _ ?_)
       refine zi fun X6 hn6 he6 hr6=>?_
       refine zZ fun X7 hn7 he7 hf7 hr7=>?_
       refine zc fun KY hKY=>?_
       simp only[go_sem,wi,hb,Jr,hj2,(show j+1≤w.length by omega)]
       apply hKY
       refine zi fun X8 hn8 he8 hr8=>?_
       rcases(show c.toNat<48∨(48≤c.toNat∧57<c.toNat)∨(48≤c.toNat∧c.toNat≤57) by omega) with h6|⟨h6,h7⟩|⟨h6,h7⟩
       · have d5:decide ((c.toNat:Int)<48)=true:=decide_eq_true (by omega)
         have hn:jo w=none:=by
          rw[hnn _ rfl,if_pos]
          cases hw:w.all QC with
          |false=>rfl
          |true=>have:=hda hw;unfold QC at this;rw[Bool.and_eq_true,decide_eq_true_iff,decide_eq_true_iff] at this;omega
         refine zc fun KY hKY=>?_
         simp only[go_sem,j7,d5]
         apply hKY
         refine Jt ?_
         refine zc fun KY hKY=>?_
         simp only[go_sem,qz]
         apply hKY
         refine zf ?_
         repeat (first|refine hr8 _ ?_|refine hr7 _ ?_|refine hr6 _ ?_|refine hr5 _ ?_|refine hr4 _ ?_|refine hr3 _ ?_|refine hr2 _ ?_|refine hr1 _ ?_)
         simp only[go_sem]
         rw[hn];rfl
       · have d5:decide ((c.toNat:Int)<48)=false:=decide_eq_false (by omega)
         have d6:decide (57<(c.toNat:Int))=true:=decide_eq_true (by omega)
         have hn:jo w=none:=by
          rw[hnn _ rfl,if_pos]
          cases hw:w.all QC with
          |false=>rfl
          |true=>have:=hda hw;unfold QC at this;rw[Bool.and_eq_true,decide_eq_true_iff,decide_eq_true_iff] at this;omega
         refine zc fun KY hKY=>?_
         simp only[go_sem,j7,d5,d6]
         apply hKY
         refine Jt ?_
         refine zc fun KY hKY=>?_
         simp only[go_sem,qz]
         apply hKY
         refine zf ?_
         repeat (first|refine hr8 _ ?_|refine hr7 _ ?_|refine hr6 _ ?_|refine hr5 _ ?_|refine hr4 _ ?_|refine hr3 _ ?_|refine hr2 _ ?_|refine hr1 _ ?_)
         simp only[go_sem]
         rw[hn];rfl
       · have d5:decide ((c.toNat:Int)<48)=false:=decide_eq_false (by omega)
         have d6:decide (57<(c.toNat:Int))=false:=decide_eq_false (by omega)
         have hv:=uQ _ hall
         have hp:10^(w.take j).length≤10^9:=Nat.pow_le_pow_right (by omega) (by rw[List.length_take];omega)
         have hs:val (w.take (j+1))=10*val (w.take j)+(c.toNat - 48):=by rw[htk,J9]
         have w1:IntKind.i64.wrap (10*((val (w.take j):Nat):Int))=((10*val (w.take j):Nat):Int):=by rw[IntWalk.i64_in _ (by omega)];omega
         have w2:IntKind.u8.wrap ((c.toNat:Int) - 48)=((c.toNat - 48:Nat):Int):=by
          unfold IntKind.wrap;simp[IntKind.bits,IntKind.signed];omega
         have w3:IntKind.i64.wrap ((c.toNat - 48:Nat):Int)=((c.toNat - 48:Nat):Int):=IntWalk.i64_in _ (by omega)
         have w4:IntKind.i64.wrap (((10*val (w.take j):Nat):Int)+((c.toNat - 48:Nat):Int))=((val (w.take (j+1)):Nat):Int):=by rw[IntWalk.i64_in _ (by omega),hs];omega
         refine zc fun KY hKY=>?_
         simp only[go_sem,j7,d5,d6]
         apply hKY
         refine qG ?_
         refine zo ?_
         repeat (first|refine hn8 _ ?_|refine he8 _ _ ?_|refine hn7 _ ?_|refine he7 _ ?_|refine hf7 _ _ (by decide) ?_|refine hn6 _ ?_|refine he6 _ _ ?_|refine hn5 _ ?_|refine he5 _ _ ?_|refine he4 _ _ ?_|refine hn3 _ ?_|refine he3 _ ?_|refine hf3 _ _ (by decide) ?_|refine hn2 _ ?_|refine he2 _ _ ?_|refine hn1 _ ?_|refine he1 _ _ ?_)
         refine ZL fun KY hKY=>?_
         simp only[go_sem,yD,w1,w2,w3,w4]
         apply hKY
         repeat (first|refine hn8 _ ?_|refine he8 _ _ ?_|refine hn7 _ ?_|refine he7 _ ?_|refine hf7 _ _ (by decide) ?_|refine hn6 _ ?_|refine he6 _ _ ?_|refine hn5 _ ?_|refine he5 _ _ ?_|refine he4 _ _ ?_|refine hn3 _ ?_|refine he3 _ ?_|refine hf3 _ _ (by decide) ?_|refine hn2 _ ?_|refine he2 _ _ ?_|refine hn1 _ ?_|refine he1 _ _ ?_)
         refine ZL fun KY hKY=>?_
         simp only[go_sem,yC,Vq (show j<4611686018427387904 by omega)]
         apply hKY
         repeat (first|refine hn8 _ ?_|refine he8 _ _ ?_|refine hn7 _ ?_|refine he7 _ ?_|refine hf7 _ _ (by decide) ?_|refine hn6 _ ?_|refine he6 _ _ ?_|refine hn5 _ ?_|refine he5 _ _ ?_)
         refine hn4 _ (j+1) (w.length - (j+1)) (by omega) (by first|(simp only[go_sem,zq,zz];done)|with_reducible rfl) ?_
         refine⟨hj2,?_,rfl⟩
         rw[htk,List.all_append,hall]
         unfold QC;simp;omega
     have hdx:decide ((j:Int)<(w.length:Int))=false:=decide_eq_false (by omega)
     obtain rfl:j=w.length:=by omega
     rw[List.take_length] at hall
     have hn:jo w=some (val w):=by rw[hnn _ hall];rfl
     refine zc fun KY hKY=>?_
     simp only[go_sem,qA,hdx]
     apply hKY
     refine zi fun X9 hn9 he9 hr9=>?_
     refine qG ?_
     refine jw ?_
     repeat (first|refine hn9 _ ?_|refine he9 _ _ ?_|refine he4 _ _ ?_|refine hn3 _ ?_|refine he3 _ ?_|refine hf3 _ _ (by decide) ?_|refine hn2 _ ?_|refine he2 _ _ ?_|refine hn1 _ ?_|refine he1 _ _ ?_)
     rw[List.take_length]
     refine zc fun KY hKY=>?_
     simp only[go_sem,yB]
     apply hKY
     refine zf ?_
     repeat (first|refine hr9 _ ?_|refine hr4 _ ?_|refine hr3 _ ?_|refine hr2 _ ?_|refine hr1 _ ?_)
     simp only[go_sem]
     rw[hn];rfl
   · have d3:decide (1<(w.length:Int))=false:=decide_eq_false (by omega)
     refine zc fun KY hKY=>?_
     simp only[go_sem,JE,d1,d2,d3]
     apply hKY
     refine qG ?_
     refine zo ?_
     repeat (first|refine hn1 _ ?_|refine he1 _ _ ?_)
     refine zc fun KY hKY=>?_
     simp only[go_sem,wm]
     apply hKY
     refine zi fun X10 hn10 he10 hr10=>?_
     refine zc fun KY hKY=>?_
     simp only[go_sem,wj,Jr]
     apply hKY
     refine zZ fun X11 hn11 he11 hf11 hr11=>?_
     try simp only[go_sem]
     refine Qg (α:=Nat) [9,39,47] (fun j=>[(7,.sc (.int .i64 ((val (w.take j):Nat):Int))),(38,.sc (.int .i64 (j:Int)))]) (fun j=>[]) (fun j q=>j≤w.length∧(w.take j).all QC=true∧q=w.length - j) (0) (w.length) rfl (by first|(simp only[go_sem,zq,zz];done)|with_reducible rfl|rfl) (⟨Nat.zero_le _,rfl,rfl⟩) ?_
     rintro j q ⟨hj,hall,rfl⟩ X12 hn12 he12 hr12
     simp only[go_sem,zq,zz]
     rcases Nat.lt_or_ge j w.length with hj2|hj2
     · have hdx:decide ((j:Int)<(w.length:Int))=true:=decide_eq_true (by omega)
       have hx:w[j]?=some w[j]:=List.getElem?_eq_getElem hj2
       have htk:w.take (j+1)=w.take j++[w[j]]:=by rw[List.take_add_one,hx];rfl
       have hda:w.all QC=true→QC w[j]=true:=fun h=>List.all_eq_true.1 h _ (List.getElem_mem hj2)
       have hlt:=(w[j]).toNat_lt
       generalize w[j]=c at hx htk hda hlt
       have hb:(WK w)[j]?=some (.sc (.int .u8 (c.toNat:Int))):=by simp[WK,hx]
       refine zc fun KY hKY=>?_
       simp only[go_sem,qA,hdx]
       apply hKY
       refine zi fun X13 hn13 he13 hr13=>?_
       refine Jt ?_
       refine zo ?_
       repeat (first|refine hn13 _ ?_|refine he13 _ _ ?_|refine he12 _ _ ?_|refine hn11 _ ?_|refine he11 _ ?_|refine hf11 _ _ (by decide) ?_|refine hn10 _ ?_|refine he10 _ _ ?_|refine hn1 _ ?_|refine he1 _ _ ?_)
       refine zi fun X14 hn14 he14 hr14=>?_
       refine zZ fun X15 hn15 he15 hf15 hr15=>?_
       refine zc fun KY hKY=>?_
       simp only[go_sem,wi,hb,Jr,hj2,(show j+1≤w.length by omega)]
       apply hKY
       refine zi fun X16 hn16 he16 hr16=>?_
       rcases(show c.toNat<48∨(48≤c.toNat∧57<c.toNat)∨(48≤c.toNat∧c.toNat≤57) by omega) with h6|⟨h6,h7⟩|⟨h6,h7⟩
       · have d5:decide ((c.toNat:Int)<48)=true:=decide_eq_true (by omega)
         have hn:jo w=none:=by
          rw[hnn _ rfl,if_pos]
          cases hw:w.all QC with
          |false=>rfl
          |true=>have:=hda hw;unfold QC at this;rw[Bool.and_eq_true,decide_eq_true_iff,decide_eq_true_iff] at this;omega
         refine zc fun KY hKY=>?_
         simp only[go_sem,j7,d5]
         apply hKY
         refine Jt ?_
         refine zc fun KY hKY=>?_
         simp only[go_sem,qz]
         apply hKY
         refine zf ?_
         repeat (first|refine hr16 _ ?_|refine hr15 _ ?_|refine hr14 _ ?_|refine hr13 _ ?_|refine hr12 _ ?_|refine hr11 _ ?_|refine hr10 _ ?_|refine hr1 _ ?_)
         simp only[go_sem]
         rw[hn];rfl
       · have d5:decide ((c.toNat:Int)<48)=false:=decide_eq_false (by omega)
         have d6:decide (57<(c.toNat:Int))=true:=decide_eq_true (by omega)
         have hn:jo w=none:=by
          rw[hnn _ rfl,if_pos]
          cases hw:w.all QC with
          |false=>rfl
          |true=>have:=hda hw;unfold QC at this;rw[Bool.and_eq_true,decide_eq_true_iff,decide_eq_true_iff] at this;omega
         refine zc fun KY hKY=>?_
         simp only[go_sem,j7,d5,d6]
         apply hKY
         refine Jt ?_
         refine zc fun KY hKY=>?_
         simp only[go_sem,qz]
         apply hKY
         refine zf ?_
         repeat (first|refine hr16 _ ?_|refine hr15 _ ?_|refine hr14 _ ?_|refine hr13 _ ?_|refine hr12 _ ?_|refine hr11 _ ?_|refine hr10 _ ?_|refine hr1 _ ?_)
         simp only[go_sem]
         rw[hn];rfl
       · have d5:decide ((c.toNat:Int)<48)=false:=decide_eq_false (by omega)
         have d6:decide (57<(c.toNat:Int))=false:=decide_eq_false (by omega)
         have hv:=uQ _ hall
         have hp:10^(w.take j).length≤10^9:=Nat.pow_le_pow_right (by omega) (by rw[List.length_take];omega)
         have hs:val (w.take (j+1))=10*val (w.take j)+(c.toNat - 48):=by rw[htk,J9]
         have w1:IntKind.i64.wrap (10*((val (w.take j):Nat):Int))=((10*val (w.take j):Nat):Int):=by rw[IntWalk.i64_in _ (by omega)];omega
         have w2:IntKind.u8.wrap ((c.toNat:Int) - 48)=((c.toNat - 48:Nat):Int):=by
          unfold IntKind.wrap;simp[IntKind.bits,IntKind.signed];omega
         have w3:IntKind.i64.wrap ((c.toNat - 48:Nat):Int)=((c.toNat - 48:Nat):Int):=IntWalk.i64_in _ (by omega)
         have w4:IntKind.i64.wrap (((10*val (w.take j):Nat):Int)+((c.toNat - 48:Nat):Int))=((val (w.take (j+1)):Nat):Int):=by rw[IntWalk.i64_in _ (by omega),hs];omega
         refine zc fun KY hKY=>?_
         simp only[go_sem,j7,d5,d6]
         apply hKY
         refine qG ?_
         refine zo ?_
         repeat (first|refine hn16 _ ?_|refine he16 _ _ ?_|refine hn15 _ ?_|refine he15 _ ?_|refine hf15 _ _ (by decide) ?_|refine hn14 _ ?_|refine he14 _ _ ?_|refine hn13 _ ?_|refine he13 _ _ ?_|refine he12 _ _ ?_|refine hn11 _ ?_|refine he11 _ ?_|refine hf11 _ _ (by decide) ?_|refine hn10 _ ?_|refine he10 _ _ ?_|refine hn1 _ ?_|refine he1 _ _ ?_)
         refine ZL fun KY hKY=>?_
         simp only[go_sem,yD,w1,w2,w3,w4]
         apply hKY
         repeat (first|refine hn16 _ ?_|refine he16 _ _ ?_|refine hn15 _ ?_|refine he15 _ ?_|refine hf15 _ _ (by decide) ?_|refine hn14 _ ?_|refine he14 _ _ ?_|refine hn13 _ ?_|refine he13 _ _ ?_|refine he12 _ _ ?_|refine hn11 _ ?_|refine he11 _ ?_|refine hf11 _ _ (by decide) ?_|refine hn10 _ ?_|refine he10 _ _ ?_|refine hn1 _ ?_|refine he1 _ _ ?_)
         refine ZL fun KY hKY=>?_
         simp only[go_sem,yC,Vq (show j<4611686018427387904 by omega)]
         apply hKY
         repeat (first|refine hn16 _ ?_|refine he16 _ _ ?_|refine hn15 _ ?_|refine he15 _ ?_|refine hf15 _ _ (by decide) ?_|refine hn14 _ ?_|refine he14 _ _ ?_|refine hn13 _ ?_|refine he13 _ _ ?_)
         refine hn12 _ (j+1) (w.length - (j+1)) (by omega) (by first|(simp only[go_sem,zq,zz];done)|with_reducible rfl) ?_
         refine⟨hj2,?_,rfl⟩
         rw[htk,List.all_append,hall]
         unfold QC;simp;omega
     have hdx:decide ((j:Int)<(w.length:Int))=false:=decide_eq_false (by omega)
     obtain rfl:j=w.length:=by omega
     rw[List.take_length] at hall
     have hn:jo w=some (val w):=by rw[hnn _ hall];rfl
     refine zc fun KY hKY=>?_
     simp only[go_sem,qA,hdx]
     apply hKY
     refine zi fun X17 hn17 he17 hr17=>?_
     refine qG ?_
     refine jw ?_
     repeat (first|refine hn17 _ ?_|refine he17 _ _ ?_|refine he12 _ _ ?_|refine hn11 _ ?_|refine he11 _ ?_|refine hf11 _ _ (by decide) ?_|refine hn10 _ ?_|refine he10 _ _ ?_|refine hn1 _ ?_|refine he1 _ _ ?_)
     rw[List.take_length]
     refine zc fun KY hKY=>?_
     simp only[go_sem,yB]
     apply hKY
     refine zf ?_
     repeat (first|refine hr17 _ ?_|refine hr12 _ ?_|refine hr11 _ ?_|refine hr10 _ ?_|refine hr1 _ ?_)
     simp only[go_sem]
     rw[hn];rfl
end Go.Proofs.YtneiihheeghdcaaDoor
set_option maxHeartbeats 8000000
namespace Go.Proofs.YtneiihheeghdcaaDoor
open Go Go.Ga Go.Ga.Gl
theorem YF (l:List UInt8)(hl:l.length≤1000000000):zD Tryd.prog [] p5 [.sc (.string (ji l))] [] fun r h'=>r= .tup [.agg (z8 l).1.cells,.sc (.int .i64 (z8 l).2)]∧h'=[]:=by
 refine Pe rfl ?_
 unfold Pm Zk
 refine zc fun KY hKY=>?_
 simp only[go_sem,ve]
 apply hKY
 refine zi fun X1 hn1 he1 hr1=>?_
 by_cases hlen:65536<l.length
 · have d1:decide (65536<(l.length:Int))=true:=decide_eq_true (by omega)
   have hres:z8 l=(⟨0,0,0,[]⟩,8):=if_pos hlen
   refine zc fun KY hKY=>?_
   simp only[go_sem,xq,d1]
   apply hKY
   refine Jt ?_
   refine zc fun KY hKY=>?_
   simp only[go_sem,vd]
   apply hKY
   refine Zm [0,2,3] 1 (by simp only[go_sem]) ?_
   simp only[go_sem]
   refine zC [0,2,3] (by simp only[go_sem];rfl) ?_
   simp only[go_sem]
   refine zf ?_
   repeat (first|refine hr1 _ ?_)
   simp only[go_sem]
   rw[hres];rfl
 have d1:decide (65536<(l.length:Int))=false:=decide_eq_false (by omega)
 have hS:=kB l hl
 have hne:=jQ 32 l
 have hsl:=Ql 32 l
 have hcl:=JZ 32 l
 have hpar:z8 l=_:=if_neg hlen
 obtain⟨p,ts,hsp⟩:∃p ts,zI 32 l=p::ts:=by
  cases h:zI 32 l with
  |nil=>exact absurd h hne
  |cons p ts=>exact⟨p,ts,rfl⟩
 rw[hsp] at hS hsl hpar
 simp only[List.headD_cons,List.tail_cons,List.length_cons] at hpar hsl
 have hwl:∀w∈p::ts,w.length≤1000000000:=fun w hw=>Nat.le_trans (Ys 32 l w (by rw[hsp];exact hw)) hl
 refine zc fun KY hKY=>?_
 simp only[go_sem,xq,d1]
 apply hKY
 refine qG ?_
 refine zo ?_
 repeat (first|refine hn1 _ ?_|refine he1 _ _ ?_)
 refine zc fun KY hKY=>?_
 simp only[go_sem,vc]
 apply ZE [] [] false none rfl
 iterate 8 (first|(simp only[go_sem,zM]<;>rfl)|rfl)
 refine(hS).mono ?_
 rintro _ _ ⟨rfl,rfl⟩
 refine⟨Nat.le_of_ble_eq_true rfl,(fun hh=>by cases hh),?_⟩
 simp only[go_sem,Zp,zb.after]
 apply hKY
 refine zC [0,4] (by simp only[go_sem];rfl) ?_
 simp only[go_sem]
 have hfl:(zR wJ yf).length=30:=rfl
 refine zc fun KY hKY=>?_
 simp only[go_sem,vb]
 apply ZE [] [] false none rfl
 iterate 8 (first|(simp only[go_sem,zM]<;>rfl)|rfl)
 refine(QY).mono ?_
 rintro _ _ ⟨rfl,rfl⟩
 refine⟨Nat.le_of_ble_eq_true rfl,(fun hh=>by cases hh),?_⟩
 simp only[go_sem,Zp,zb.after,jN,hfl,List.length_cons,List.length_nil]
 apply hKY
 refine zC [0,5] (by simp only[go_sem];rfl) ?_
 simp only[go_sem]
 have htk:List.take 30 (zR wJ yf)=zR wJ yf:=rfl
 refine zc fun KY hKY=>?_
 simp only[go_sem,U9,hfl,htk,List.drop_zero]
 refine zE rfl (by simp only[go_sem]<;>rfl) ((Vp yf p ts (by decide)).mono ?_)
 rintro rr hh ⟨⟨z,rfl,hz⟩,rfl⟩
 refine⟨?_,?_,?_,?_⟩
 iterate 3 (first|rfl|simp only[go_sem])
 simp only[go_sem]
 apply hKY
 refine zi fun X2 hn2 he2 hr2=>?_
 rcases hz with⟨rfl,hno⟩|⟨i,rfl,hi⟩
 · have hres:z8 l=(⟨0,0,0,[]⟩,15):=by rw[hpar,hno]
   refine Zb fun KY hKY=>?_
   simp only[go_sem,Q2]
   apply hKY
   refine Jt ?_
   refine zc fun KY hKY=>?_
   simp only[go_sem,xp]
   apply hKY
   refine Zm [0,2,3] 1 (by simp only[go_sem]) ?_
   simp only[go_sem]
   refine zC [0,2,3] (by simp only[go_sem];rfl) ?_
   simp only[go_sem]
   refine zf ?_
   repeat (first|refine hr2 _ ?_|refine hr1 _ ?_)
   simp only[go_sem]
   rw[hres];rfl
 have hi15:i<15:=by
  have:=(List.findIdx?_eq_some_iff_getElem.1 hi).1
  exact this
 have hx:yf[i]?=some yf[i]:=List.getElem?_eq_getElem hi15
 have hgd:yf.getD i ([],0)=yf[i]:=by rw[List.getD_eq_getElem?_getD,hx];rfl
 rw[hi] at hpar
 simp only[hgd] at hpar
 have hfn: -1≤yf[i].2∧yf[i].2≤2:=by
  have:∀x∈yf, -1≤x.2∧x.2≤2:=by decide
  exact this _ (List.getElem_mem hi15)
 generalize yf[i]=x at hx hpar hfn hgd
 obtain⟨fw,n⟩:=x
 simp only at hpar hfn
 have hg1:(zR wJ yf)[i*2+1]?=some (.sc (.int .i64 n)):=v7 QW hx 1 (by decide)
 have di:decide ((i:Int)<0)=false:=decide_eq_false (by omega)
 have hi15':(i:Int).toNat<15:=by omega
 by_cases hbad:0≤n∧((ts.length:Int)+1≠n+1)
 · have hres:z8 l=(⟨0,0,0,[]⟩,15):=by rw[hpar,if_pos (by omega)]
   have dn:decide (0≤n)=true:=decide_eq_true hbad.1
   have w1:IntKind.i64.wrap (n+1)=n+1:=IntWalk.i64_in _ (by omega)
   have dd:decide (((ts.length+1:Nat):Int)≠n+1)=true:=decide_eq_true (by omega)
   refine Zb fun KY hKY=>?_
   simp only[go_sem,Q2,di,hi15,hg1,dn,w1,dd,Zd]
   apply hKY
   refine Jt ?_
   refine zc fun KY hKY=>?_
   simp only[go_sem,xp]
   apply hKY
   refine Zm [0,2,3] 1 (by simp only[go_sem]) ?_
   simp only[go_sem]
   refine zC [0,2,3] (by simp only[go_sem];rfl) ?_
   simp only[go_sem]
   refine zf ?_
   repeat (first|refine hr2 _ ?_|refine hr1 _ ?_)
   simp only[go_sem]
   rw[hres];rfl
 replace hpar:=hpar.trans (if_neg (show¬(0≤n∧((ts.length+1:Nat):Int)≠n+1) by omega))
 rcases(show n<0∨(0≤n∧(ts.length:Int)=n) by omega) with hneg|⟨hpos,hlen2⟩
 · have dn:decide (0≤n)=false:=decide_eq_false (by omega)
   have dn2:decide (n<0)=true:=decide_eq_true hneg
   refine Zb fun KY hKY=>?_
   simp only[go_sem,Q2,di,hi15,hg1,dn]
   apply hKY
   refine qG ?_
   refine zo ?_
   repeat (first|refine hn2 _ ?_|refine he2 _ _ ?_|refine hn1 _ ?_|refine he1 _ _ ?_)
   refine zc fun KY hKY=>?_
   simp only[go_sem,xo]
   apply hKY
   refine zc fun KY hKY=>?_
   simp only[go_sem,xn]
   apply hKY
   refine Zm [0,8] 1 (by simp only[go_sem]) ?_
   simp only[go_sem]
   refine zi fun X3 hn3 he3 hr3=>?_
   refine zc fun KY hKY=>?_
   simp only[go_sem,we]
   apply hKY
   refine zZ fun X4 hn4 he4 hf4 hr4=>?_
   try simp only[go_sem]
   refine Qg (α:=Nat×List Nat) [10,11,56,66] (fun(j,ns)=>[(8,.own (some 1) (Z4 ns)),(9,.sc (.int .i64 ((j+1:Nat):Int)))]) (fun(j,ns)=>[]) (fun(j,ns) q=>j≤ts.length∧Zr (ts.take j)=some ns∧ns.length=j∧q=ts.length - j) ((0,[])) (ts.length) rfl (by first|(simp only[go_sem,zq,zz];done)|with_reducible rfl|rfl) (⟨Nat.zero_le _,rfl,rfl,rfl⟩) ?_
   rintro⟨j,ns⟩ q ⟨hj,hns,hnl,rfl⟩ X5 hn5 he5 hr5
   simp only[go_sem,zq,zz]
   refine zi fun X6 hn6 he6 hr6=>?_
   rcases Nat.lt_or_ge j ts.length with hj2|hj2
   · have hdx:decide (((j+1:Nat):Int)<((ts.length+1:Nat):Int))=true:=decide_eq_true (by omega)
     have hw:ts[j]?=some ts[j]:=List.getElem?_eq_getElem hj2
     have hwm:=hwl _ (.tail _ (List.getElem_mem hj2))
     have htl:ts=ts.take j++ts[j]::ts.drop (j+1):=by rw[←List.drop_eq_getElem_cons hj2,List.take_append_drop]
     have htk:ts.take (j+1)=ts.take j++[ts[j]]:=by rw[List.take_add_one,hw];rfl
     generalize ts[j]=w at hw hwm htl htk
     have hN:=Wg (p::ts) (k:=j+1) (w:=w) (by simpa using hw) hwm
     cases hnb:jo w with
     | none=>
       have hres:z8 l=(⟨0,0,0,[]⟩,15):=by
        have:Zr ts=none:=by rw[htl];exact YI hnb
        rw[hpar,this]
       rw[hnb] at hN
       refine zc fun KY hKY=>?_
       simp only[go_sem,j5,hdx,Zd]
       apply hKY
       refine Jt ?_
       refine zo ?_
       repeat (first|refine hn6 _ ?_|refine he6 _ _ ?_|refine he5 _ _ ?_|refine hn4 _ ?_|refine he4 _ ?_|refine hf4 _ _ (by decide) ?_|refine hn3 _ ?_|refine he3 _ _ ?_|refine hn2 _ ?_|refine he2 _ _ ?_|refine hn1 _ ?_|refine he1 _ _ ?_)
       refine zi fun X7 hn7 he7 hr7=>?_
       refine zZ fun X8 hn8 he8 hf8 hr8=>?_
       refine zc fun KY hKY=>?_
       simp only[go_sem,qy]
       refine zE rfl (by simp only[go_sem]<;>rfl) ((hN).mono ?_)
       rintro rr hh ⟨rfl,rfl⟩
       refine⟨rfl,rfl,rfl,?_⟩
       simp only[go_sem]
       apply hKY
       refine zi fun X9 hn9 he9 hr9=>?_
       refine zc fun KY hKY=>?_
       simp only[go_sem,qx]
       apply hKY
       refine Jt ?_
       refine zc fun KY hKY=>?_
       simp only[go_sem,wd]
       apply hKY
       refine Zm [0,2,3] 1 (by simp only[go_sem]) ?_
       simp only[go_sem]
       refine zC [0,2,3] (by simp only[go_sem];rfl) ?_
       simp only[go_sem]
       refine zf ?_
       repeat (first|refine hr9 _ ?_|refine hr8 _ ?_|refine hr7 _ ?_|refine hr6 _ ?_|refine hr5 _ ?_|refine hr4 _ ?_|refine hr3 _ ?_|refine hr2 _ ?_|refine hr1 _ ?_)
       simp only[go_sem]
       rw[hres];rfl
     | some v=>
       rw[hnb] at hN
       refine zc fun KY hKY=>?_
       simp only[go_sem,j5,hdx,Zd]
       apply hKY
       refine Jt ?_
       refine zo ?_
       repeat (first|refine hn6 _ ?_|refine he6 _ _ ?_|refine he5 _ _ ?_|refine hn4 _ ?_|refine he4 _ ?_|refine hf4 _ _ (by decide) ?_|refine hn3 _ ?_|refine he3 _ _ ?_|refine hn2 _ ?_|refine he2 _ _ ?_|refine hn1 _ ?_|refine he1 _ _ ?_)
       refine zi fun X10 hn10 he10 hr10=>?_
       refine zZ fun X11 hn11 he11 hf11 hr11=>?_
       refine zc fun KY hKY=>?_
       simp only[go_sem,qy]
       refine zE rfl (by simp only[go_sem]<;>rfl) ((hN).mono ?_)
       rintro rr hh ⟨rfl,rfl⟩
       refine⟨rfl,rfl,rfl,?_⟩
       simp only[go_sem]
       apply hKY
       refine zi fun X12 hn12 he12 hr12=>?_
       refine zc fun KY hKY=>?_
       simp only[go_sem,qx]
       apply hKY
       refine qG ?_
       refine zo ?_
       repeat (first|refine hn12 _ ?_|refine he12 _ _ ?_|refine hn11 _ ?_|refine he11 _ ?_|refine hf11 _ _ (by decide) ?_|refine hn10 _ ?_|refine he10 _ _ ?_|refine hn6 _ ?_|refine he6 _ _ ?_|refine he5 _ _ ?_|refine hn4 _ ?_|refine he4 _ ?_|refine hf4 _ _ (by decide) ?_|refine hn3 _ ?_|refine he3 _ _ ?_|refine hn2 _ ?_|refine he2 _ _ ?_|refine hn1 _ ?_|refine he1 _ _ ?_)
       refine ZL fun KY hKY=>?_
       simp only[go_sem,wc,Wh,qo,hnl,(show(j+1)*8≤140737488355328 by omega)]
       apply hKY
       repeat (first|refine hn12 _ ?_|refine he12 _ _ ?_|refine hn11 _ ?_|refine he11 _ ?_|refine hf11 _ _ (by decide) ?_|refine hn10 _ ?_|refine he10 _ _ ?_|refine hn6 _ ?_|refine he6 _ _ ?_|refine he5 _ _ ?_|refine hn4 _ ?_|refine he4 _ ?_|refine hf4 _ _ (by decide) ?_|refine hn3 _ ?_|refine he3 _ _ ?_|refine hn2 _ ?_|refine he2 _ _ ?_|refine hn1 _ ?_|refine he1 _ _ ?_)
       refine ZL fun KY hKY=>?_
       simp only[go_sem,wb,Vq (show j+1<4611686018427387904 by omega)]
       apply hKY
       repeat (first|refine hn12 _ ?_|refine he12 _ _ ?_|refine hn11 _ ?_|refine he11 _ ?_|refine hf11 _ _ (by decide) ?_|refine hn10 _ ?_|refine he10 _ _ ?_|refine hn6 _ ?_|refine he6 _ _ ?_)
       refine hn5 _ ((j+1,ns++[v])) (ts.length - (j+1)) (by omega) (by first|(simp only[go_sem,zq,zz];done)|with_reducible rfl) ?_
       refine⟨hj2,?_,by simp[hnl],rfl⟩
       rw[htk,qN,hns]
       show(Zr [w]).map _=_
       unfold Zr
       rw[hnb];rfl
   have hdx:decide (((j+1:Nat):Int)<((ts.length+1:Nat):Int))=false:=decide_eq_false (by omega)
   obtain rfl:j=ts.length:=by omega
   rw[List.take_length] at hns
   rw[hns] at hpar
   refine zc fun KY hKY=>?_
   simp only[go_sem,j5,hdx,Zd]
   apply hKY
   refine qG ?_
   refine jw ?_
   repeat (first|refine hn6 _ ?_|refine he6 _ _ ?_|refine he5 _ _ ?_|refine hn4 _ ?_|refine he4 _ ?_|refine hf4 _ _ (by decide) ?_|refine hn3 _ ?_|refine he3 _ _ ?_|refine hn2 _ ?_|refine he2 _ _ ?_|refine hn1 _ ?_|refine he1 _ _ ?_)
   have hres:z8 l=(⟨i,0,0,ns⟩,0):=hpar.trans (if_pos hneg)
   refine zC [0,8] (by simp only[go_sem];rfl) ?_
   simp only[go_sem]
   refine zc fun KY hKY=>?_
   simp only[go_sem,wa]
   apply hKY
   refine zi fun X13 hn13 he13 hr13=>?_
   refine zc fun KY hKY=>?_
   simp only[go_sem,Y9,hi15,hg1,dn2]
   apply hKY
   refine Jt ?_
   refine zc fun KY hKY=>?_
   simp only[go_sem,XB]
   apply hKY
   refine zc fun KY hKY=>?_
   simp only[go_sem,XA]
   apply hKY
   refine zf ?_
   repeat (first|refine hr13 _ ?_|refine hr6 _ ?_|refine hr5 _ ?_|refine hr4 _ ?_|refine hr3 _ ?_|refine hr2 _ ?_|refine hr1 _ ?_)
   simp only[go_sem]
   rw[hres];rfl
 · have dn:decide (0≤n)=true:=decide_eq_true hpos
   have dn2:decide (n<0)=false:=decide_eq_false (by omega)
   have w1:IntKind.i64.wrap (n+1)=n+1:=IntWalk.i64_in _ (by omega)
   have dd:decide (((ts.length+1:Nat):Int)≠n+1)=false:=decide_eq_false (by omega)
   refine Zb fun KY hKY=>?_
   simp only[go_sem,Q2,di,hi15,hg1,dn,w1,dd,Zd]
   apply hKY
   refine qG ?_
   refine zo ?_
   repeat (first|refine hn2 _ ?_|refine he2 _ _ ?_|refine hn1 _ ?_|refine he1 _ _ ?_)
   refine zc fun KY hKY=>?_
   simp only[go_sem,xo]
   apply hKY
   refine zc fun KY hKY=>?_
   simp only[go_sem,xn]
   apply hKY
   refine Zm [0,8] 1 (by simp only[go_sem]) ?_
   simp only[go_sem]
   refine zi fun X14 hn14 he14 hr14=>?_
   refine zc fun KY hKY=>?_
   simp only[go_sem,we]
   apply hKY
   refine zZ fun X15 hn15 he15 hf15 hr15=>?_
   try simp only[go_sem]
   refine Qg (α:=Nat×List Nat) [10,11,56,66] (fun(j,ns)=>[(8,.own (some 1) (Z4 ns)),(9,.sc (.int .i64 ((j+1:Nat):Int)))]) (fun(j,ns)=>[]) (fun(j,ns) q=>j≤ts.length∧Zr (ts.take j)=some ns∧ns.length=j∧q=ts.length - j) ((0,[])) (ts.length) rfl (by first|(simp only[go_sem,zq,zz];done)|with_reducible rfl|rfl) (⟨Nat.zero_le _,rfl,rfl,rfl⟩) ?_
   rintro⟨j,ns⟩ q ⟨hj,hns,hnl,rfl⟩ X16 hn16 he16 hr16
   simp only[go_sem,zq,zz]
   refine zi fun X17 hn17 he17 hr17=>?_
   rcases Nat.lt_or_ge j ts.length with hj2|hj2
   · have hdx:decide (((j+1:Nat):Int)<((ts.length+1:Nat):Int))=true:=decide_eq_true (by omega)
     have hw:ts[j]?=some ts[j]:=List.getElem?_eq_getElem hj2
     have hwm:=hwl _ (.tail _ (List.getElem_mem hj2))
     have htl:ts=ts.take j++ts[j]::ts.drop (j+1):=by rw[←List.drop_eq_getElem_cons hj2,List.take_append_drop]
     have htk:ts.take (j+1)=ts.take j++[ts[j]]:=by rw[List.take_add_one,hw];rfl
     generalize ts[j]=w at hw hwm htl htk
     have hN:=Wg (p::ts) (k:=j+1) (w:=w) (by simpa using hw) hwm
     cases hnb:jo w with
     | none=>
       have hres:z8 l=(⟨0,0,0,[]⟩,15):=by
        have:Zr ts=none:=by rw[htl];exact YI hnb
        rw[hpar,this]
       rw[hnb] at hN
       refine zc fun KY hKY=>?_
       simp only[go_sem,j5,hdx,Zd]
       apply hKY
       refine Jt ?_
       refine zo ?_
       repeat (first|refine hn17 _ ?_|refine he17 _ _ ?_|refine he16 _ _ ?_|refine hn15 _ ?_|refine he15 _ ?_|refine hf15 _ _ (by decide) ?_|refine hn14 _ ?_|refine he14 _ _ ?_|refine hn2 _ ?_|refine he2 _ _ ?_|refine hn1 _ ?_|refine he1 _ _ ?_)
       refine zi fun X18 hn18 he18 hr18=>?_
       refine zZ fun X19 hn19 he19 hf19 hr19=>?_
       refine zc fun KY hKY=>?_
       simp only[go_sem,qy]
       refine zE rfl (by simp only[go_sem]<;>rfl) ((hN).mono ?_)
       rintro rr hh ⟨rfl,rfl⟩
       refine⟨rfl,rfl,rfl,?_⟩
       simp only[go_sem]
       apply hKY
       refine zi fun X20 hn20 he20 hr20=>?_
       refine zc fun KY hKY=>?_
       simp only[go_sem,qx]
       apply hKY
       refine Jt ?_
       refine zc fun KY hKY=>?_
       simp only[go_sem,wd]
       apply hKY
       refine Zm [0,2,3] 1 (by simp only[go_sem]) ?_
       simp only[go_sem]
       refine zC [0,2,3] (by simp only[go_sem];rfl) ?_
       simp only[go_sem]
       refine zf ?_
       repeat (first|refine hr20 _ ?_|refine hr19 _ ?_|refine hr18 _ ?_|refine hr17 _ ?_|refine hr16 _ ?_|refine hr15 _ ?_|refine hr14 _ ?_|refine hr2 _ ?_|refine hr1 _ ?_)
       simp only[go_sem]
       rw[hres];rfl
     | some v=>
       rw[hnb] at hN
       refine zc fun KY hKY=>?_
       simp only[go_sem,j5,hdx,Zd]
       apply hKY
       refine Jt ?_
       refine zo ?_
       repeat (first|refine hn17 _ ?_|refine he17 _ _ ?_|refine he16 _ _ ?_|refine hn15 _ ?_|refine he15 _ ?_|refine hf15 _ _ (by decide) ?_|refine hn14 _ ?_|refine he14 _ _ ?_|refine hn2 _ ?_|refine he2 _ _ ?_|refine hn1 _ ?_|refine he1 _ _ ?_)
       refine zi fun X21 hn21 he21 hr21=>?_
       refine zZ fun X22 hn22 he22 hf22 hr22=>?_
       refine zc fun KY hKY=>?_
       simp only[go_sem,qy]
       refine zE rfl (by simp only[go_sem]<;>rfl) ((hN).mono ?_)
       rintro rr hh ⟨rfl,rfl⟩
       refine⟨rfl,rfl,rfl,?_⟩
       simp only[go_sem]
       apply hKY
       refine zi fun X23 hn23 he23 hr23=>?_
       refine zc fun KY hKY=>?_
       simp only[go_sem,qx]
       apply hKY
       refine qG ?_
       refine zo ?_
       repeat (first|refine hn23 _ ?_|refine he23 _ _ ?_|refine hn22 _ ?_|refine he22 _ ?_|refine hf22 _ _ (by decide) ?_|refine hn21 _ ?_|refine he21 _ _ ?_|refine hn17 _ ?_|refine he17 _ _ ?_|refine he16 _ _ ?_|refine hn15 _ ?_|refine he15 _ ?_|refine hf15 _ _ (by decide) ?_|refine hn14 _ ?_|refine he14 _ _ ?_|refine hn2 _ ?_|refine he2 _ _ ?_|refine hn1 _ ?_|refine he1 _ _ ?_)
       refine ZL fun KY hKY=>?_
       simp only[go_sem,wc,Wh,qo,hnl,(show(j+1)*8≤140737488355328 by omega)]
       apply hKY
       repeat (first|refine hn23 _ ?_|refine he23 _ _ ?_|refine hn22 _ ?_|refine he22 _ ?_|refine hf22 _ _ (by decide) ?_|refine hn21 _ ?_|refine he21 _ _ ?_|refine hn17 _ ?_|refine he17 _ _ ?_|refine he16 _ _ ?_|refine hn15 _ ?_|refine he15 _ ?_|refine hf15 _ _ (by decide) ?_|refine hn14 _ ?_|refine he14 _ _ ?_|refine hn2 _ ?_|refine he2 _ _ ?_|refine hn1 _ ?_|refine he1 _ _ ?_)
       refine ZL fun KY hKY=>?_
       simp only[go_sem,wb,Vq (show j+1<4611686018427387904 by omega)]
       apply hKY
       repeat (first|refine hn23 _ ?_|refine he23 _ _ ?_|refine hn22 _ ?_|refine he22 _ ?_|refine hf22 _ _ (by decide) ?_|refine hn21 _ ?_|refine he21 _ _ ?_|refine hn17 _ ?_|refine he17 _ _ ?_)
       refine hn16 _ ((j+1,ns++[v])) (ts.length - (j+1)) (by omega) (by first|(simp only[go_sem,zq,zz];done)|with_reducible rfl) ?_
       refine⟨hj2,?_,by simp[hnl],rfl⟩
       rw[htk,qN,hns]
       show(Zr [w]).map _=_
       unfold Zr
       rw[hnb];rfl
   have hdx:decide (((j+1:Nat):Int)<((ts.length+1:Nat):Int))=false:=decide_eq_false (by omega)
   obtain rfl:j=ts.length:=by omega
   rw[List.take_length] at hns
   rw[hns] at hpar
   refine zc fun KY hKY=>?_
   simp only[go_sem,j5,hdx,Zd]
   apply hKY
   refine qG ?_
   refine jw ?_
   repeat (first|refine hn17 _ ?_|refine he17 _ _ ?_|refine he16 _ _ ?_|refine hn15 _ ?_|refine he15 _ ?_|refine hf15 _ _ (by decide) ?_|refine hn14 _ ?_|refine he14 _ _ ?_|refine hn2 _ ?_|refine he2 _ _ ?_|refine hn1 _ ?_|refine he1 _ _ ?_)
   replace hpar:=hpar.trans (if_neg (show¬n<0 by omega))
   have hap:Z4 ns++[.sc (.int .i64 0),.sc (.int .i64 0)]=Z4 (ns++[0,0]):=by simp[Z4]
   have hl2:(ns++[0,0]).length=ns.length+2:=by simp
   obtain⟨a,ha⟩:∃a,a=ns.getD 0 0:=⟨_,rfl⟩
   obtain⟨b,hb⟩:∃b,b=ns.getD 1 0:=⟨_,rfl⟩
   have h0:(Z4 (ns++[0,0]))[0]?=some (.sc (.int .i64 (a:Int))):=by
    rw[Xb (by omega),ha]
    rcases ns with _|⟨x,_|⟨y,r⟩⟩<;>rfl
   have h1:(Z4 (ns++[0,0]))[1]?=some (.sc (.int .i64 (b:Int))):=by
    rw[Xb (by omega),hb]
    rcases ns with _|⟨x,_|⟨y,r⟩⟩<;>rfl
   rw[←ha,←hb] at hpar
   refine zc fun KY hKY=>?_
   simp only[go_sem,wa]
   apply hKY
   refine zi fun X24 hn24 he24 hr24=>?_
   refine zc fun KY hKY=>?_
   simp only[go_sem,Y9,hi15,hg1,dn2]
   apply hKY
   refine qG ?_
   refine zo ?_
   repeat (first|refine hn24 _ ?_|refine he24 _ _ ?_|refine hn17 _ ?_|refine he17 _ _ ?_|refine he16 _ _ ?_|refine hn15 _ ?_|refine he15 _ ?_|refine hf15 _ _ (by decide) ?_|refine hn14 _ ?_|refine he14 _ _ ?_|refine hn2 _ ?_|refine he2 _ _ ?_|refine hn1 _ ?_|refine he1 _ _ ?_)
   refine zc fun KY hKY=>?_
   simp only[go_sem,Xz,qo,hap,(show(ns.length+2)*8≤140737488355328 by omega)]
   apply hKY
   refine Zb fun KY hKY=>?_
   simp only[go_sem,Xy,h0,h1,qo,hl2,(show 1≤ns.length+2 by omega),(show 2≤ns.length+2 by omega),(show([0,12]==[0,8])=false from rfl),Bool.not_false]
   apply hKY
   refine zi fun X25 hn25 he25 hr25=>?_
   by_cases h6:i=6
   · have d6:decide ((i:Int)=6)=true:=decide_eq_true (by omega)
     by_cases h61:a=1
     · have d61:decide ((a:Int)≠1)=false:=decide_eq_false (by omega)
       have hres:z8 l=(⟨i,a,b,[]⟩,0):=hpar.trans (if_neg (by omega))
       refine zc fun KY hKY=>?_
       simp only[go_sem,qw,d6,d61]
       apply hKY
       refine qG ?_
       refine zo ?_
       repeat (first|refine hn25 _ ?_|refine he25 _ _ ?_|refine hn24 _ ?_|refine he24 _ _ ?_|refine hn17 _ ?_|refine he17 _ _ ?_|refine he16 _ _ ?_|refine hn15 _ ?_|refine he15 _ ?_|refine hf15 _ _ (by decide) ?_|refine hn14 _ ?_|refine he14 _ _ ?_|refine hn2 _ ?_|refine he2 _ _ ?_|refine hn1 _ ?_|refine he1 _ _ ?_)
       refine zc fun KY hKY=>?_
       simp only[go_sem,Q3]
       apply hKY
       refine Zm [0,2,3] 1 (by simp only[go_sem]) ?_
       simp only[go_sem]
       refine zC [0,2,3] (by simp only[go_sem];rfl) ?_
       simp only[go_sem]
       refine zf ?_
       repeat (first|refine hr25 _ ?_|refine hr24 _ ?_|refine hr17 _ ?_|refine hr16 _ ?_|refine hr15 _ ?_|refine hr14 _ ?_|refine hr2 _ ?_|refine hr1 _ ?_)
       simp only[go_sem]
       rw[hres];rfl
     · have d61:decide ((a:Int)≠1)=true:=decide_eq_true (by omega)
       by_cases h62:a=2
       · have d62:decide ((a:Int)≠2)=false:=decide_eq_false (by omega)
         have hres:z8 l=(⟨i,a,b,[]⟩,0):=hpar.trans (if_neg (by omega))
         refine zc fun KY hKY=>?_
         simp only[go_sem,qw,d6,d61,d62]
         apply hKY
         refine qG ?_
         refine zo ?_
         repeat (first|refine hn25 _ ?_|refine he25 _ _ ?_|refine hn24 _ ?_|refine he24 _ _ ?_|refine hn17 _ ?_|refine he17 _ _ ?_|refine he16 _ _ ?_|refine hn15 _ ?_|refine he15 _ ?_|refine hf15 _ _ (by decide) ?_|refine hn14 _ ?_|refine he14 _ _ ?_|refine hn2 _ ?_|refine he2 _ _ ?_|refine hn1 _ ?_|refine he1 _ _ ?_)
         refine zc fun KY hKY=>?_
         simp only[go_sem,Q3]
         apply hKY
         refine Zm [0,2,3] 1 (by simp only[go_sem]) ?_
         simp only[go_sem]
         refine zC [0,2,3] (by simp only[go_sem];rfl) ?_
         simp only[go_sem]
         refine zf ?_
         repeat (first|refine hr25 _ ?_|refine hr24 _ ?_|refine hr17 _ ?_|refine hr16 _ ?_|refine hr15 _ ?_|refine hr14 _ ?_|refine hr2 _ ?_|refine hr1 _ ?_)
         simp only[go_sem]
         rw[hres];rfl
       · have d62:decide ((a:Int)≠2)=true:=decide_eq_true (by omega)
         have hres:z8 l=(⟨0,0,0,[]⟩,15):=hpar.trans (if_pos ⟨h6,h61,h62⟩)
         refine zc fun KY hKY=>?_
         simp only[go_sem,qw,d6,d61,d62]
         apply hKY
         refine Jt ?_
         refine zc fun KY hKY=>?_
         simp only[go_sem,Xx]
         apply hKY
         refine Zm [0,2,3] 1 (by simp only[go_sem]) ?_
         simp only[go_sem]
         refine zC [0,2,3] (by simp only[go_sem];rfl) ?_
         simp only[go_sem]
         refine zf ?_
         repeat (first|refine hr25 _ ?_|refine hr24 _ ?_|refine hr17 _ ?_|refine hr16 _ ?_|refine hr15 _ ?_|refine hr14 _ ?_|refine hr2 _ ?_|refine hr1 _ ?_)
         simp only[go_sem]
         rw[hres];rfl
   · have d6:decide ((i:Int)=6)=false:=decide_eq_false (by omega)
     have hres:z8 l=(⟨i,a,b,[]⟩,0):=hpar.trans (if_neg (by omega))
     refine zc fun KY hKY=>?_
     simp only[go_sem,qw,d6]
     apply hKY
     refine qG ?_
     refine zo ?_
     repeat (first|refine hn25 _ ?_|refine he25 _ _ ?_|refine hn24 _ ?_|refine he24 _ _ ?_|refine hn17 _ ?_|refine he17 _ _ ?_|refine he16 _ _ ?_|refine hn15 _ ?_|refine he15 _ ?_|refine hf15 _ _ (by decide) ?_|refine hn14 _ ?_|refine he14 _ _ ?_|refine hn2 _ ?_|refine he2 _ _ ?_|refine hn1 _ ?_|refine he1 _ _ ?_)
     refine zc fun KY hKY=>?_
     simp only[go_sem,Q3]
     apply hKY
     refine Zm [0,2,3] 1 (by simp only[go_sem]) ?_
     simp only[go_sem]
     refine zC [0,2,3] (by simp only[go_sem];rfl) ?_
     simp only[go_sem]
     refine zf ?_
     repeat (first|refine hr25 _ ?_|refine hr24 _ ?_|refine hr17 _ ?_|refine hr16 _ ?_|refine hr15 _ ?_|refine hr14 _ ?_|refine hr2 _ ?_|refine hr1 _ ?_)
     simp only[go_sem]
     rw[hres];rfl
theorem jp :zD Tryd.prog [] GD [] [] fun r h'=>r= .sc (.bool true)∧h'=[]:=by
 have hP:=YF [97,100,100,32,49,32,50] (by decide)
 rw[show z8 [97,100,100,32,49,32,50]=(⟨2,1,2,[]⟩,0) by kernel_rfl] at hP
 unfold wK.cells at hP
 simp only at hP
 refine pG rfl ?_
 unfold GV Ym
 refine zc fun KY hKY=>?_
 simp only[go_sem,uD]
 apply hKY
 refine zc fun KY hKY=>?_
 simp only[go_sem,uC]
 apply ZE [] [] false none rfl
 iterate 8 (first|(simp only[go_sem,zM]<;>rfl)|rfl)
 refine(hP).mono ?_
 rintro _ _ ⟨rfl,rfl⟩
 refine⟨Nat.le_of_ble_eq_true rfl,(fun hh=>by cases hh),?_⟩
 simp only[go_sem,Zp,zb.after]
 apply hKY
 refine zc fun KY hKY=>?_
 simp only[go_sem,uB]
 apply hKY
 refine zf ?_
 simp only[go_sem]
theorem PT (k:Nat)(h:k≤1000000000):IntKind.i64.wrap ((k:Int)+1)=((k+1:Nat):Int):=by rw[IntWalk.i64_in _ (by omega)];omega
theorem UK {α:Type}[DecidableEq α]{xs ys:List α}{k:Nat}{x y:α}(hx:xs[k]?=some x)(hy:ys[k]?=some y)(h:xs.take k=ys.take k):xs.take (k+1)=ys.take (k+1)↔x=y:=by
 rw[List.take_add_one,List.take_add_one,hx,hy,h]
 simp
end Go.Proofs.YtneiihheeghdcaaDoor

namespace Go.Ga.Gl
open Go Go.Ga
theorem xS (c:UInt8):∀(w r:List UInt8),w.count c=0→zI c (w++c::r)=w::zI c r
 |[],r,_=>by show zI c (c::r)=_;rw[jA,if_pos rfl]
 | b::w,r,h=>by
   have hb:b≠c:=fun e=>by rw[e,List.count_cons_self] at h;omega
   rw[List.count_cons_of_ne hb] at h
   show zI c (b::(w++c::r))=_
   rw[jA,if_neg hb,xS c w r h]
def kept (w:List UInt8)(k:Nat):List UInt8:=(w.take k).filter fun b=>decide (b≠10)
end Go.Ga.Gl
namespace Go.Proofs.YtneiihheeghdcaaDoor
open Go Go.Ga Go.Ga.Gl
end Go.Proofs.YtneiihheeghdcaaDoor

namespace Go.Ga.Gl
open Go Go.Ga
theorem gY (n:Nat):Lib.decDigits n=ZK n:=by
 induction n using Nat.strongRecOn with
 | _ n ih=>
   rw[Lib.decDigits]
   by_cases h:n<10
   · rw[dif_pos h,Jo h]
   · rw[dif_neg h,Jp h,ih _ (by omega)]
theorem Kr {n:Int}(h:0≤n):Lib.itoa n=ZK n.toNat:=by
 unfold Lib.itoa
 rw[if_neg (by omega),gY]
def Zq (k:Nat):List UInt8:=(yf.getD k ([],0)).1
def z1 (k:Nat):Int:=(yf.getD k ([],0)).2
def tx (w:List UInt8)(l:List Int):List UInt8:=w++l.flatMap fun n=>32::ZK n.toNat
theorem WT (w:List UInt8):tx w []=w:=by simp[tx]
theorem UO (w:List UInt8)(n:Int)(l:List Int):tx w (n::l)=w++32::tx (ZK n.toNat) l:=by simp[tx]
theorem gk (w:List UInt8)(l:List Int)(n:Int):tx w (l++[n])=tx w l++32::ZK n.toNat:=by simp[tx]
theorem G1 (w:List UInt8)(l m:List Int):tx w (l++m)=tx (tx w l) m:=by simp[tx]
theorem G0 (w:List UInt8)(l:List Int):w.length≤(tx w l).length:=by simp[tx]
theorem gj (w:List UInt8)(l:List Int)(k:Nat):(tx w (l.take k)).length≤(tx w l).length:=by
 have h:=G1 w (l.take k) (l.drop k)
 rw[List.take_append_drop] at h
 rw[h];exact G0 _ _
theorem U0 (w:List UInt8)(l:List Int):Lib.join (w::l.map fun n=>ZK n.toNat) [32]=tx w l:=by
 induction l generalizing w with
 |nil=>rw[List.map_nil,Lib.join_one,WT]
 | cons n l ih=>
   rw[List.map_cons,UO,←ih]
   unfold Lib.join List.intercalate
   simp[List.intersperse]
def Kw (n:Int):Bool:=decide (0≤n)&&decide (n≤999999999)
def jX (k:Nat)(a b:Int)(l:List Int):Option (List Int):=
 if z1 k<0 then(if a=0∧b=0 then some l else none)
 else if(z1 k<2∧b≠0)∨(z1 k<1∧a≠0)∨l≠ [] then none else some ([a,b].take (z1 k).toNat)
def Zu (k a b:Int)(l:List Int):List UInt8×Int:=
 if k<1∨14<k∨(k=6∧a≠1∧a≠2) then([],15) else
 match jX k.toNat a b l with
 |none=>([],15)
 |some ns=>if ns.all Kw=true∧(tx (Zq k.toNat) ns).length≤65536 then(tx (Zq k.toNat) ns,0) else([],15)
theorem xR :∀(l:List Int) (w:List UInt8),w.count 32=0→zI 32 (tx w l)=w::l.map fun n=>ZK n.toNat
 |[],w,h=>by rw[WT,qf h];rfl
 | n::l,w,h=>by
   have hd:(ZK n.toNat).count 32=0:=List.count_eq_zero.2 fun hm=>KL (List.all_eq_true.1 (Xv _) _ hm) rfl
   rw[UO,xS 32 w _ h,xR l _ hd];rfl
theorem Xa :∀l:List Int,l.all Kw=true→Zr (l.map fun n=>ZK n.toNat)=some (l.map Int.toNat)
 |[],_=>rfl
 | n::l,h=>by
   rw[List.all_cons,Bool.and_eq_true] at h
   obtain⟨h1,h2⟩:=h
   unfold Kw at h1
   rw[Bool.and_eq_true,decide_eq_true_iff,decide_eq_true_iff] at h1
   show(match jo (ZK n.toNat) with|none=>none|some m=>(Zr (l.map fun n:Int=>ZK n.toNat)).map (m:: ·))=_
   rw[Kh,if_pos (by omega),Xa l h2];rfl
theorem KI {k:Nat}(h1:1≤k)(h2:k≤14):yf.findIdx? (hit (Zq k))=some k:=by
 have:∀k:Fin 15,1≤k.1→yf.findIdx? (hit (Zq k.1))=some k.1:=by decide
 exact this ⟨k,by omega⟩ h1
theorem qF (k:Nat)(h2:k≤14):(Zq k).count 32=0∧(Zq k).length≤8∧ -1≤z1 k∧z1 k≤2:=by
 have:∀k:Fin 15,(Zq k.1).count 32=0∧(Zq k.1).length≤8∧ -1≤z1 k.1∧z1 k.1≤2:=by decide
 exact this ⟨k,by omega⟩
theorem Vf {l:List Int}(h:l.all Kw=true):(l.map Int.toNat).map (fun n:Nat=>(n:Int))=l:=by
 rw[List.map_map]
 refine(List.map_congr_left fun n hn=>?_).trans (List.map_id l)
 have:=List.all_eq_true.1 h n hn
 unfold Kw at this
 rw[Bool.and_eq_true,decide_eq_true_iff,decide_eq_true_iff] at this
 show((n.toNat:Nat):Int)=n
 omega
theorem JY {n:Int}:Kw n=true↔0≤n∧n≤999999999:=by
 unfold Kw;rw[Bool.and_eq_true,decide_eq_true_iff,decide_eq_true_iff]
theorem x8 {k a b:Int}{l:List Int}{t:List UInt8}(h:Zu k a b l=(t,0)):
    ∃c:wK,z8 t=(c,0)∧(c.kind:Int)=k∧(c.a:Int)=a∧(c.b:Int)=b∧c.list.map (fun n:Nat=>(n:Int))=l:=by
  unfold Zu at h
  split at h
  · cases h
  rename_i hk
  have hk1:1≤k∧k≤14:=by omega
  obtain⟨m,rfl⟩:=Int.eq_ofNat_of_zero_le (show 0≤k by omega)
  simp only[Int.toNat_natCast] at h
  have hm:m≤14:=by omega
  obtain⟨g1,g2,g3,g4⟩:=qF m hm
  split at h
  · cases h
  rename_i ns hns
  split at h
  case isFalse=>cases h
  rename_i hall
  cases h
  have hsp:=xR ns _ g1
  have hnb:=Xa ns hall.1
  unfold jX at hns
  have hfd:=KI (show 1≤m by omega) hm
  have hpar:∀x,(if 0≤z1 m∧((ns.length+1:Nat):Int)≠z1 m+1 then((⟨0,0,0,[]⟩:wK),(15:Int)) else
      if z1 m<0 then(⟨m,0,0,ns.map Int.toNat⟩,0) else
      if m=6∧(ns.map Int.toNat).getD 0 0≠1∧(ns.map Int.toNat).getD 0 0≠2 then(⟨0,0,0,[]⟩,15) else(⟨m,(ns.map Int.toNat).getD 0 0,(ns.map Int.toNat).getD 1 0,[]⟩,0))=x→z8 (tx (Zq m) ns)=x:=by
    rintro x rfl
    unfold z8
    rw[if_neg (by omega),hsp]
    simp only[List.headD_cons,List.tail_cons,List.length_cons,List.length_map,hfd,hnb]
    rfl
  split at hns
  · rename_i hneg
    split at hns
    case isFalse=>cases hns
    rename_i hab
    cases hns
    refine⟨_,hpar _ ((if_neg (by omega)).trans (if_pos hneg)),rfl,hab.1.symm,hab.2.symm,Vf hall.1⟩
  · rename_i hneg
    split at hns
    · cases hns
    rename_i hc
    cases hns
    have hl:l=[]:=Classical.byContradiction fun e=>hc (.inr (.inr e))
    subst hl
    have hab:(z1 m=0∧a=0∧b=0)∨(z1 m=1∧b=0)∨z1 m=2:=by
      rcases(show z1 m=0∨z1 m=1∨z1 m=2 by omega) with e|e|e
      · refine .inl ⟨e,Classical.byContradiction fun h=>hc (.inr (.inl ⟨by omega,h⟩)),Classical.byContradiction fun h=>hc (.inl ⟨by omega,h⟩)⟩
      · exact .inr (.inl ⟨e,Classical.byContradiction fun h=>hc (.inl ⟨by omega,h⟩)⟩)
      · exact .inr (.inr e)
    have c6:z1 6=1:=by decide
    rcases hab with⟨e,rfl,rfl⟩|⟨e,rfl⟩|e
    · rw[e] at hpar hall⊢
      have h6:m≠6:=fun h=>by subst h;omega
      exact⟨⟨m,0,0,[]⟩,hpar _ ((if_neg (by decide)).trans ((if_neg (by decide)).trans (if_neg fun h=>h6 h.1))),rfl,rfl,rfl,rfl⟩
    · rw[e] at hpar hall⊢
      have ha:=JY.1 (List.all_eq_true.1 hall.1 a (.head _))
      refine⟨⟨m,a.toNat,0,[]⟩,hpar _ ((if_neg (by show¬((0:Int)≤1∧((1+1:Nat):Int)≠1+1);omega)).trans ((if_neg (by decide)).trans (if_neg fun h=>hk (.inr (.inr ⟨by omega,?_⟩))))),rfl,?_,rfl,rfl⟩
      · have h2:a.toNat≠1∧a.toNat≠2:=h.2
        omega
      · show((a.toNat:Nat):Int)=a
        omega
    · rw[e] at hpar hall⊢
      have ha:=JY.1 (List.all_eq_true.1 hall.1 a (.head _))
      have hb:=JY.1 (List.all_eq_true.1 hall.1 b (.tail _ (.head _)))
      have h6:m≠6:=fun h=>by subst h;omega
      refine⟨⟨m,a.toNat,b.toNat,[]⟩,hpar _ ((if_neg (by show¬((0:Int)≤2∧((2+1:Nat):Int)≠2+1);omega)).trans ((if_neg (by decide)).trans (if_neg fun h=>h6 h.1))),rfl,?_,?_,rfl⟩
      · show((a.toNat:Nat):Int)=a
        omega
      · show((b.toNat:Nat):Int)=b
        omega
theorem gX (w:List UInt8):w≠ []→w.all QC=true→(1<w.length→w.getD 0 0≠48)→ZK (val w)=w∧(w.getD 0 0≠48→1≤val w):=by
 induction hn:w.length generalizing w with
 |zero=>intro h;exact absurd (List.length_eq_zero_iff.1 hn) h
 | succ n ih=>
   intro hne hall h0
   obtain⟨v,b,rfl⟩:∃v b,w=v++[b]:=⟨w.dropLast,w.getLast hne,(List.dropLast_concat_getLast hne).symm⟩
   rw[List.all_append,Bool.and_eq_true] at hall
   have hb:QC b=true:=by simpa using hall.2
   unfold QC at hb
   rw[Bool.and_eq_true,decide_eq_true_iff,decide_eq_true_iff] at hb
   have hob:UInt8.ofNat (48+(b.toNat - 48))=b:=by
    rw[show 48+(b.toNat - 48)=b.toNat by omega,UInt8.ofNat_toNat]
   rw[J9]
   by_cases hv:v=[]
   · subst hv
     have e:10*val []+(b.toNat - 48)=b.toNat - 48:=by show 10*0+_=_;omega
     rw[e]
     refine⟨?_,fun h=>?_⟩
     · rw[Jo (by omega),hob];rfl
     · have:b≠48:=h
       have:b.toNat≠48:=fun e=>this (UInt8.toNat_inj.1 e)
       omega
   · have hvl:1≤v.length:=by
      rcases v with _|_
      · exact absurd rfl hv
      · simp
     have hg:(v++[b]).getD 0 0=v.getD 0 0:=by
      rw[List.getD_eq_getElem?_getD,List.getElem?_append_left hvl,←List.getD_eq_getElem?_getD]
     have hh:v.getD 0 0≠48:=by rw[←hg];exact h0 (by have:=hn;rw[List.length_append,List.length_singleton] at this;omega)
     obtain⟨i1,i2⟩:=ih v (by simp at hn;exact hn) hv hall.1 fun _=>hh
     have i3:=i2 hh
     refine⟨?_,fun _=>by omega⟩
     rw[Jp (by omega),show(10*val v+(b.toNat - 48)) / 10=val v by omega,show(10*val v+(b.toNat - 48))%10=b.toNat - 48 by omega,i1,hob]
theorem gK {w:List UInt8}{n:Nat}(h:jo w=some n):ZK n=w∧n≤999999999:=by
 unfold jo at h
 split at h
 · cases h
 rename_i hc
 cases h
 have hall:w.all QC=true:=by
  cases hw:w.all QC with
  |true=>rfl
  |false=>exact absurd (.inr (.inr (.inr hw))) hc
 have hl:1≤w.length∧w.length≤9:=by omega
 refine⟨(gX w (fun e=>by subst e;simp at hl) hall fun h1 h2=>hc (.inr (.inr (.inl ⟨h1,h2⟩)))).1,?_⟩
 have:=uQ w hall
 have hp:10^w.length≤10^9:=Nat.pow_le_pow_right (by omega) hl.2
 omega
theorem yp :∀{ts:List (List UInt8)} {ns:List Nat},Zr ts=some ns→(ns.map fun n:Nat=>ZK (n:Int).toNat)=ts∧(ns.map fun n:Nat=>(n:Int)).all Kw=true
 |[],ns,h=>by cases h;exact⟨rfl,rfl⟩
 | w ::ts,ns,h=>by
   unfold Zr at h
   cases hw:jo w with
   |none=>rw[hw] at h;cases h
   | some n=>
     rw[hw] at h
     simp only at h
     cases hr:Zr ts with
     |none=>rw[hr] at h;cases h
     | some ms=>
       rw[hr] at h
       cases h
       obtain⟨h1,h2⟩:=yp hr
       obtain⟨h3,h4⟩:=gK hw
       refine⟨?_,?_⟩
       · rw[List.map_cons,h1,Int.toNat_natCast,h3]
       · rw[List.map_cons,List.all_cons,h2,JY.2 (by omega)];rfl
theorem WR (c:UInt8):∀{s p:List UInt8} {ts:List (List UInt8)},zI c s=p::ts→s=p++ts.flatMap fun w=>c::w
 |[],p,ts,h=>by cases h;rfl
 | b ::r,p,ts,h=>by
   rw[jA] at h
   split at h
   · rename_i hb
     subst hb
     cases hs:zI b r with
     |nil=>exact absurd hs (jQ b r)
     | cons q qs=>
       rw[hs] at h
       cases h
       have:=WR b hs
       simp[←this]
   · cases hs:zI c r with
     |nil=>exact absurd hs (jQ c r)
     | cons q qs=>
       rw[hs] at h
       cases h
       have:=WR c hs
       simp[←this]
theorem G2 {α:Type}{l:List α}(h:l.length=2):∃x y,l=[x,y]:=by
 match l,h with
 |[x,y],_=>exact⟨x,y,rfl⟩
theorem x5 {s:List UInt8}{c:wK}(h:z8 s=(c,0)):Zu c.kind c.a c.b (c.list.map fun n:Nat=>(n:Int))=(s,0):=by
 unfold z8 at h
 split at h
 · cases h
 rename_i hlen
 cases hsp:zI 32 s with
 |nil=>exact absurd hsp (jQ 32 s)
 | cons p ts=>
   rw[hsp] at h
   simp only[List.headD_cons,List.tail_cons,List.length_cons] at h
   have hs:=WR 32 hsp
   split at h
   · cases h
   rename_i k hk
   obtain⟨hk1,hk2,_⟩:=List.findIdx?_eq_some_iff_getElem.1 hk
   have hw:Zq k=p∧Zq k≠ []:=by
    unfold hit at hk2
    rw[Bool.and_eq_true,decide_eq_true_iff,decide_eq_true_iff] at hk2
    have e:Zq k=yf[k].1:=by unfold Zq;rw[List.getD_eq_getElem?_getD,List.getElem?_eq_getElem hk1];rfl
    exact⟨e.trans hk2.2,by rw[e];exact hk2.1⟩
   have hk15:k<15:=hk1
   have hk0:k≠0:=fun e=>by subst e;exact hw.2 rfl
   obtain⟨g1,g2,g3,g4⟩:=qF k (by omega)
   replace h:(if 0≤z1 k∧((ts.length+1:Nat):Int)≠z1 k+1 then((⟨0,0,0,[]⟩:wK),(15:Int)) else
    match Zr ts with
    |none=>(⟨0,0,0,[]⟩,15)
    |some ns=>if z1 k<0 then(⟨k,0,0,ns⟩,0) else if k=6∧ns.getD 0 0≠1∧ns.getD 0 0≠2 then(⟨0,0,0,[]⟩,15) else(⟨k,ns.getD 0 0,ns.getD 1 0,[]⟩,0))=(c,0):=h
   split at h
   · cases h
   rename_i hcn
   split at h
   · cases h
   rename_i ns hns
   obtain⟨e1,e2⟩:=yp hns
   have htx:∀l:List Int,l=ns.map (fun n:Nat=>(n:Int))→tx (Zq k) l=s:=by
    rintro l rfl
    rw[hs,hw.1,←e1]
    simp[tx,List.flatMap_map]
   have hnl:ns.length=ts.length:=by rw[←e1,List.length_map]
   have fin:∀a b l,jX k a b l=some (ns.map fun n:Nat=>(n:Int))→(k=6→a=1∨a=2)→Zu k a b l=(s,0):=fun a b l h1 h2=>by
    unfold Zu
    rw[if_neg (by omega),Int.toNat_natCast,h1]
    simp only
    rw[htx _ rfl,if_pos ⟨e2,by omega⟩]
   have c6:z1 6=1:=by decide
   split at h
   · rename_i hneg
     cases h
     exact fin _ _ _ (by unfold jX;rw[if_pos hneg];rfl) fun e=>by rw[e,c6] at hneg;exact absurd hneg (by decide)
   · rename_i hneg
     split at h
     · cases h
     rename_i h6
     cases h
     have hts:(ts.length:Int)=z1 k:=by omega
     refine fin _ _ _ ?_ fun e=>by
      have h7:ns.getD 0 0=1∨ns.getD 0 0=2:=Classical.byContradiction fun h=>h6 ⟨e,fun x=>h (.inl x),fun x=>h (.inr x)⟩
      show((ns.getD 0 0:Nat):Int)=1∨((ns.getD 0 0:Nat):Int)=2
      omega
     unfold jX
     rw[if_neg hneg]
     rcases(show z1 k=0∨z1 k=1∨z1 k=2 by omega) with e|e|e
     · have:ns=[]:=List.length_eq_zero_iff.1 (by omega)
       subst this
       rw[e,if_neg (by simp)];rfl
     · obtain⟨x,rfl⟩:=List.length_eq_one_iff.1 (show ns.length=1 by omega)
       rw[e,if_neg (by simp)];rfl
     · obtain⟨x,y,rfl⟩:=G2 (show ns.length=2 by omega)
       rw[e,if_neg (by simp)];rfl
end Go.Ga.Gl
namespace Go.Proofs.YtneiihheeghdcaaDoor
open Go Go.Ga Go.Ga.Gl
theorem pK (x y:Int):zD Tryd.prog [] UX [.sc (.int .i64 x),.sc (.int .i64 y)] [] fun r h'=>r= .sc (.bool (decide (x=y)))∧h'=[]:=by
 refine pu rfl ?_
 unfold GJ wY
 refine zc fun KY hKY=>?_
 simp only[go_sem,XK]
 apply hKY
 refine zc fun KY hKY=>?_
 simp only[go_sem,XJ]
 apply hKY
 refine zf ?_
 simp only[go_sem]
theorem xh {xs:List Int}{k:Nat}{x:Int}(h:xs[k]?=some x):(ints xs)[k]?=some (.sc (.int .i64 x)):=by
 obtain⟨hk,e⟩:=List.getElem?_eq_some_iff.1 h
 rw[Ku hk,List.getD_eq_getElem?_getD,h];rfl
theorem kJ (xs ys:List Int)(hb:xs.length≤1000000000):zD Tryd.prog [] Gt [.imm 1 (ints xs),.imm 1 (ints ys),.fn (.func UX) [] []] [] fun r h'=>r= .sc (.bool (decide (xs=ys)))∧h'=[]:=by
 refine pv rfl ?_
 unfold GK jx
 refine zc fun KY hKY=>?_
 simp only[go_sem,XT]
 apply hKY
 refine zi fun X1 hn1 he1 hr1=>?_
 refine zc fun KY hKY=>?_
 simp only[go_sem,XS,Nat.div_one,Zn]
 apply hKY
 simp only[go_sem]
 by_cases hl:xs.length=ys.length
 case neg=>
  have hl':decide (((xs.length:Nat):Int)≠((ys.length:Nat):Int))=true:=decide_eq_true (by omega)
  refine yg (by simp only[go_sem,hl']) ?_
  refine zc fun KY hKY=>?_
  simp only[go_sem,XR]
  apply hKY
  refine zf (hr1 _ ?_)
  simp only[go_sem]
  rw[decide_eq_false (fun e:xs=ys=>hl (by rw[e]))]
 have hl':decide (((xs.length:Nat):Int)≠((ys.length:Nat):Int))=false:=decide_eq_false (by omega)
 refine yh (by simp only[go_sem,hl']) (zo (hn1 _ ?_))
 refine zi fun X2 hn2 he2 hr2=>?_
 refine zc fun KY hKY=>?_
 simp only[go_sem,XQ]
 apply hKY
 refine zZ fun X3 hn3 he3 hf3 hr3=>?_
 refine xA (fun m s=>∃(k:Nat) (A16 A29:za),k≤xs.length∧m=xs.length - k∧xs.take k=ys.take k∧s={vs:=[(0,.imm 1 (ints xs)),(1,.imm 1 (ints ys)),(2,.fn (.func UX) [] []),(6,.sc (.bool false)),(7,.sc (.int .i64 (k:Int))),(12,.sc (.bool (decide (((xs.length:Nat):Int)≠((ys.length:Nat):Int))))),(16,A16),(29,A29)],ts:=[],h:=[]}) xs.length ⟨0,.dead,.dead,Nat.zero_le _,rfl,rfl,?_⟩ ?_
 · rfl
 rintro m _ ⟨k,A16,A29,hk,rfl,hpre,rfl⟩ X4 hn4 he4 hr4
 refine Yv [16,29] rfl ?_
 simp only[go_sem]
 refine zi fun X5 hn5 he5 hr5=>?_
 refine zi fun X6 hn6 he6 hr6=>?_
 refine ZL fun KY hKY=>?_
 simp only[go_sem,XP,Nat.div_one,Zn]
 refine hKY _ (hn6 _ ?_)
 simp only[go_sem]
 refine kh (v:=decide ((k:Int)<(xs.length:Int))) rfl (fun h=>zo (hn5 _ ?_)) fun h=>jw (he5 _ _ (he4 _ _ (he3 _ (hn2 _ ?_))))
 · have hlt:k<xs.length:=by have:=of_decide_eq_true h;omega
   have hlt2:k<ys.length:=by omega
   have hx:xs[k]?=some xs[k]:=List.getElem?_eq_getElem hlt
   have hy:ys[k]?=some ys[k]:=List.getElem?_eq_getElem hlt2
   have st:=UK hx hy hpre
   refine zi fun X7 hn7 he7 hr7=>?_
   refine zZ fun X8 hn8 he8 hf8 hr8=>?_
   refine Zb fun KY hKY=>?_
   simp only[go_sem,XO,Zn,xh hx,xh hy,hlt,hlt2]
   refine zE rfl (by simp only[go_sem]<;>rfl) ((pK xs[k] ys[k]).mono ?_)
   rintro rr hh ⟨rfl,rfl⟩
   refine⟨rfl,rfl,rfl,?_⟩
   simp only[go_sem]
   apply hKY
   simp only[go_sem]
   by_cases e:xs[k]=ys[k]
   · refine yh (by simp only[go_sem,decide_eq_true e]) (zo (hn8 _ (hn7 _ ?_)))
     refine ZL fun KY hKY=>?_
     simp only[go_sem,XM,PT k (by omega)]
     refine hKY _ (hn4 (xs.length - (k+1)) _ (by omega) ?_)
     simp only[go_sem]
     exact⟨k+1,_,_,hlt,rfl,st.2 e,rfl⟩
   · refine yg (by simp only[go_sem,decide_eq_false e]) ?_
     refine zc fun KY hKY=>?_
     simp only[go_sem,XN]
     apply hKY
     refine zf (hr8 _ (hr7 _ (hr4 _ (hr3 _ (hr2 _ ?_)))))
     simp only[go_sem]
     rw[decide_eq_false (fun e':xs=ys=>e (by subst e';rfl))]
 · have hkn:k=xs.length:=by have:=of_decide_eq_false h;omega
   refine zc fun KY hKY=>?_
   simp only[go_sem,XL]
   apply hKY
   refine zf ?_
   simp only[go_sem]
   rw[hkn,List.take_length,hl,List.take_length] at hpre
   rw[decide_eq_true hpre]
theorem v6 (xs ys:List Int)(hb:xs.length≤1000000000):zD Tryd.prog [] Gv [.imm 1 (ints xs),.imm 1 (ints ys)] [] fun r h'=>r= .sc (.bool (decide (xs=ys)))∧h'=[]:=by
 refine px rfl ?_
 unfold GM wZ
 refine zc fun KY hKY=>?_
 simp only[go_sem,uc]
 apply hKY
 refine zc fun KY hKY=>?_
 simp only[go_sem,ub]
 refine zE rfl (by simp only[go_sem]<;>rfl) ((kJ xs ys hb).mono ?_)
 rintro rr hh ⟨rfl,rfl⟩
 refine⟨rfl,rfl,rfl,?_⟩
 simp only[go_sem]
 apply hKY
 refine zf ?_
 simp only[go_sem]
def kg (k a b:Int)(l:List Int):List za:=[.sc (.int .i64 k),.sc (.int .i64 a),.sc (.int .i64 b),.imm 1 (ints l)]
theorem UC (k a b k' a' b':Int)(l l':List Int)(hb:l.length≤1000000000):zD Tryd.prog [] GB [.agg (kg k a b l),.agg (kg k' a' b' l')] [] fun r h'=>r= .sc (.bool (decide (k=k'∧a=a'∧b=b'∧l=l')))∧h'=[]:=by
 have hP:=v6 l l' hb
 unfold kg
 refine pE rfl ?_
 unfold GT xE
 refine zc fun KY hKY=>?_
 simp only[go_sem,uu]
 apply hKY
 by_cases h1:k=k'
 · have d1:decide (k=k')=true:=decide_eq_true h1
   by_cases h2:a=a'
   · have d2:decide (a=a')=true:=decide_eq_true h2
     by_cases h3:b=b'
     · have d3:decide (b=b')=true:=decide_eq_true h3
       refine zc fun KY hKY=>?_
       simp only[go_sem,qB,d1,d2,d3]
       refine zE rfl (by simp only[go_sem]<;>rfl) ((hP).mono ?_)
       rintro rr hh ⟨rfl,rfl⟩
       refine⟨rfl,rfl,rfl,?_⟩
       simp only[go_sem]
       apply hKY
       refine zf ?_
       simp only[go_sem]
       simp only[h1,h2,h3,true_and]
     · have d3:decide (b=b')=false:=decide_eq_false h3
       refine zc fun KY hKY=>?_
       simp only[go_sem,qB,d1,d2,d3]
       apply hKY
       refine zf ?_
       simp only[go_sem]
       simp only[h3,false_and,and_false,decide_false]
   · have d2:decide (a=a')=false:=decide_eq_false h2
     refine zc fun KY hKY=>?_
     simp only[go_sem,qB,d1,d2]
     apply hKY
     refine zf ?_
     simp only[go_sem]
     simp only[h2,false_and,and_false,decide_false]
 · have d1:decide (k=k')=false:=decide_eq_false h1
   refine zc fun KY hKY=>?_
   simp only[go_sem,qB,d1]
   apply hKY
   refine zf ?_
   simp only[go_sem]
   simp only[h1,false_and,and_false,decide_false]
end Go.Proofs.YtneiihheeghdcaaDoor

namespace Go.Proofs
open Go.Shelf
def Tryd.lays156_ren :Go.Shelf.Ren:=⟨fun|156=>33|165=>43|166=>44|169=>45|240=>59|241=>60|276=>71|277=>72|n=>n,fun|31=>23|9=>9|3=>3|4=>4|0=>0|20=>20|72=>78|76=>82|70=>76|37=>34|75=>81|127=>93|164=>106|5=>5|80=>84|n=>n,fun|n=>n⟩
theorem Tryd.lays156 :Go.Proofs.Lays.n156 Tryd.prog Tryd.lays156_ren:={
 mixed:=by kernel_rfl
 f156:=Tryd.func33.trans (congrArg some (by kernel_rfl))
 f165:=Tryd.func43.trans (congrArg some (by kernel_rfl))
 f166:=Tryd.func44.trans (congrArg some (by kernel_rfl))
 f169:=Tryd.func45.trans (congrArg some (by kernel_rfl))
 f240:=Tryd.func59.trans (congrArg some (by kernel_rfl))
 f241:=Tryd.func60.trans (congrArg some (by kernel_rfl))
 f276:=Tryd.func71.trans (congrArg some (by kernel_rfl))
 f277:=Tryd.func72.trans (congrArg some (by kernel_rfl))
 t0:=Tryd.underlying0
 a0:=Tryd.isAgg0
 z0:=Tryd.sizeOf0
 v0:=Tryd.zeroValue0
 t3:=Tryd.underlying3
 a3:=Tryd.isAgg3
 z3:=Tryd.sizeOf3
 v3:=Tryd.zeroValue3
 t4:=Tryd.underlying4
 a4:=Tryd.isAgg4
 z4:=Tryd.sizeOf4
 v4:=Tryd.zeroValue4
 t9:=Tryd.underlying9
 a9:=Tryd.isAgg9
 z9:=Tryd.sizeOf9
 v9:=Tryd.zeroValue9
 t20:=Tryd.underlying20
 a20:=Tryd.isAgg20
 z20:=Tryd.sizeOf20
 v20:=Tryd.zeroValue20
 t31:=Tryd.underlying23
 a31:=Tryd.isAgg23
 z31:=Tryd.sizeOf23
 v31:=Tryd.zeroValue23
 t37:=Tryd.underlying34
 a37:=Tryd.isAgg34
 z37:=Tryd.sizeOf34
 v37:=Tryd.zeroValue34
 t70:=Tryd.underlying76
 a70:=Tryd.isAgg76
 z70:=Tryd.sizeOf76
 v70:=Tryd.zeroValue76
 t72:=Tryd.underlying78
 a72:=Tryd.isAgg78
 z72:=Tryd.sizeOf78
 v72:=Tryd.zeroValue78
 t75:=Tryd.underlying81
 a75:=Tryd.isAgg81
 z75:=Tryd.sizeOf81
 v75:=Tryd.zeroValue81
 t76:=Tryd.underlying82
 a76:=Tryd.isAgg82
 z76:=Tryd.sizeOf82
 v76:=Tryd.zeroValue82
 t127:=Tryd.underlying93
 a127:=Tryd.isAgg93
 z127:=Tryd.sizeOf93
 v127:=Tryd.zeroValue93
 t164:=Tryd.underlying106
 a164:=Tryd.isAgg106
 z164:=Tryd.sizeOf106
 v164:=Tryd.zeroValue106}
theorem Tryd.Builder_Extra_156 :Builder.Extra Tryd.prog Tryd.lays156_ren:={
 sizeBuilder:=by kernel_rfl
 liesBuilder:=by kernel_rfl
 t5:=Tryd.underlying5
 a5:=Tryd.isAgg5
 z5:=Tryd.sizeOf5
 v5:=Tryd.zeroValue5
 infoByte:=by kernel_rfl
 cellsByte:=by kernel_rfl
 sizeByte:=by kernel_rfl
 neB5:=by decide}
open Go.RowKit in
theorem Tryd.strings_Join (bk o c:Nat)(xs:List ByteArray)(sep:ByteArray)(w:World)(hcells:∀(j:Nat) x,xs[j]?=some x→w.cell? ⟨bk,o+j,none⟩=some (.string x))(hbk:bk<w.heap.size)(hN:xs.length≤140737488355328)(hcap:xs.length≤c)(hlen:(Lib.join (xs.map (·.data.toList)) sep.data.toList).length≤140737488355328):
 Calls Tryd.prog 33 #[.slice (some ⟨bk,o,none⟩) xs.length c,.string sep] w fun e w'=>e= .returned (.string ⟨(Lib.join (xs.map (·.data.toList)) sep.data.toList).toArray⟩)∧Below w.heap.size w w':=Any.strings_Join Tryd.lays156 Tryd.Builder_Extra_156 bk o c xs sep w hcells hbk hN hcap hlen
def Tryd.laysM171_ren :Go.Shelf.Ren:=⟨fun|171=>32|243=>42|246=>58|283=>67|284=>68|285=>69|286=>70|129=>78|317=>77|318=>79|319=>80|320=>81|337=>84|338=>85|n=>n,fun|3=>3|9=>9|2=>2|4=>4|171=>100|0=>0|53=>101|37=>34|5=>5|173=>104|212=>110|51=>97|20=>20|213=>111|46=>22|232=>119|233=>120|n=>n,fun|17=>1|18=>4|19=>5|n=>n⟩
theorem Tryd.laysM171 :Go.Proofs.LaysM.n171 Tryd.prog Tryd.laysM171_ren:={
 mixed:=by kernel_rfl
 f129:=Tryd.func78.trans (congrArg some (by kernel_rfl))
 f171:=Tryd.func32.trans (congrArg some (by kernel_rfl))
 f243:=Tryd.func42.trans (congrArg some (by kernel_rfl))
 f246:=Tryd.func58.trans (congrArg some (by kernel_rfl))
 f283:=Tryd.func67.trans (congrArg some (by kernel_rfl))
 f284:=Tryd.func68.trans (congrArg some (by kernel_rfl))
 f285:=Tryd.func69.trans (congrArg some (by kernel_rfl))
 f286:=Tryd.func70.trans (congrArg some (by kernel_rfl))
 f317:=Tryd.func77.trans (congrArg some (by kernel_rfl))
 f318:=Tryd.func79.trans (congrArg some (by kernel_rfl))
 f319:=Tryd.func80.trans (congrArg some (by kernel_rfl))
 f320:=Tryd.func81.trans (congrArg some (by kernel_rfl))
 f337:=Tryd.func84.trans (congrArg some (by kernel_rfl))
 f338:=Tryd.func85.trans (congrArg some (by kernel_rfl))
 t0:=Tryd.underlying0
 a0:=Tryd.isAgg0
 z0:=Tryd.sizeOf0
 v0:=Tryd.zeroValue0
 t2:=Tryd.underlying2
 a2:=Tryd.isAgg2
 z2:=Tryd.sizeOf2
 v2:=Tryd.zeroValue2
 t3:=Tryd.underlying3
 a3:=Tryd.isAgg3
 z3:=Tryd.sizeOf3
 v3:=Tryd.zeroValue3
 t4:=Tryd.underlying4
 a4:=Tryd.isAgg4
 z4:=Tryd.sizeOf4
 v4:=Tryd.zeroValue4
 t5:=Tryd.underlying5
 a5:=Tryd.isAgg5
 z5:=Tryd.sizeOf5
 v5:=Tryd.zeroValue5
 t9:=Tryd.underlying9
 a9:=Tryd.isAgg9
 z9:=Tryd.sizeOf9
 v9:=Tryd.zeroValue9
 t20:=Tryd.underlying20
 a20:=Tryd.isAgg20
 z20:=Tryd.sizeOf20
 v20:=Tryd.zeroValue20
 t37:=Tryd.underlying34
 a37:=Tryd.isAgg34
 z37:=Tryd.sizeOf34
 v37:=Tryd.zeroValue34
 t46:=Tryd.underlying22
 a46:=Tryd.isAgg22
 z46:=Tryd.sizeOf22
 v46:=Tryd.zeroValue22
 t51:=Tryd.underlying97
 a51:=Tryd.isAgg97
 z51:=Tryd.sizeOf97
 v51:=Tryd.zeroValue97
 t53:=Tryd.underlying101
 a53:=Tryd.isAgg101
 z53:=Tryd.sizeOf101
 v53:=Tryd.zeroValue101
 t171:=Tryd.underlying100
 a171:=Tryd.isAgg100
 z171:=Tryd.sizeOf100
 v171:=Tryd.zeroValue100
 t173:=Tryd.underlying104
 a173:=Tryd.isAgg104
 z173:=Tryd.sizeOf104
 v173:=Tryd.zeroValue104
 t212:=Tryd.underlying110
 a212:=Tryd.isAgg110
 z212:=Tryd.sizeOf110
 v212:=Tryd.zeroValue110
 t213:=Tryd.underlying111
 a213:=Tryd.isAgg111
 z213:=Tryd.sizeOf111
 t232:=Tryd.underlying119
 a232:=Tryd.isAgg119
 z232:=Tryd.sizeOf119
 v232:=Tryd.zeroValue119
 t233:=Tryd.underlying120
 a233:=Tryd.isAgg120
 z233:=Tryd.sizeOf120
 v233:=Tryd.zeroValue120
 g17:=by kernel_rfl
 g18:=by kernel_rfl
 g19:=by kernel_rfl
 i0:=by kernel_rfl
 i2:=by kernel_rfl
 i3:=by kernel_rfl
 i4:=by kernel_rfl
 i5:=by kernel_rfl
 i9:=by kernel_rfl
 i20:=by kernel_rfl
 i37:=by kernel_rfl
 i46:=by kernel_rfl
 i51:=by kernel_rfl
 i53:=by kernel_rfl
 i171:=by kernel_rfl
 i173:=by kernel_rfl
 i212:=by kernel_rfl
 i232:=by kernel_rfl
 i233:=by kernel_rfl
 m17:=by kernel_rfl
 m18:=by kernel_rfl
 m19:=by kernel_rfl}
open Go.RowKit Go.Sort Go.Lib in
theorem Tryd.strconv_Itoa (n : Int) (h0 : -9223372036854775808 ≤ n) (h1 : n ≤ 9223372036854775807) (w : World) (htab : Lib.TabIs Tryd.prog w "internal/strconv.uint64pow10" .u64 Lib.pow10Tab) :
 Calls Tryd.prog 32 #[.int .i64 n] w fun e w'=>e= .returned (.string ⟨(Lib.itoa n).toArray⟩)∧∃k os,w'=grow (w.drewN k) os:=Any.strconv_Itoa Tryd.laysM171 n h0 h1 w htab
end Go.Proofs
namespace Go.Proofs.YtneiihheeghdcaaDoor
open Go Go.Ga Go.Ga.Gl
theorem U5 {k:Nat}(hk:k<15):((zR wJ yf).drop (k*2)).take 2=[.sc (.string (ji (Zq k))),.sc (.int .i64 (z1 k))]:=by
 have hx:yf[k]?=some (Zq k,z1 k):=by
  unfold Zq z1
  rw[List.getD_eq_getElem?_getD,List.getElem?_eq_getElem (show k<yf.length from hk)];rfl
 exact yT QW hx
theorem Ul (k:Nat)(a b:Int)(l:List Int)(hk:k<15):zD Tryd.prog [] Gw [.agg (kg (k:Int) a b l)] [] fun r h'=>∃ns,r= .tup [.imm 1 (ints ns),.sc (.bool (jX k a b l).isSome)]∧h'=[]∧∀x,jX k a b l=some x→ns=x:=by
 have hf:=U5 hk
 have hfl:(zR wJ yf).length=30:=rfl
 have hc:=qF k (by omega)
 have hk2:k*2+1<30:=by omega
 unfold kg
 have hno:∀x,jX k a b l=x→(if z1 k<0 then(if a=0∧b=0 then some l else none) else if(z1 k<2∧b≠0)∨(z1 k<1∧a≠0)∨l≠ [] then none else some ([a,b].take (z1 k).toNat))=x:=fun x h=>h
 generalize z1 k=n at hf hc hno
 generalize Zq k=w at hf
 have hnum:=hno _ rfl
 clear hno
 refine py rfl ?_
 unfold GN Jb
 refine zc fun KY hKY=>?_
 simp only[go_sem,ue]
 apply hKY
 refine Zb fun KY hKY=>?_
 apply p9
 · intro H
   simp only[go_sem,ud,hfl,hf,hk,hk2]
   refine⟨?_,?_⟩
   · apply ZE [] [] false none rfl
     iterate 8 (first|(simp only[go_sem,zM]<;>rfl)|rfl)
     refine(QY).mono ?_
     rintro _ _ ⟨rfl,rfl⟩
     refine⟨Nat.le_of_ble_eq_true rfl,(fun hh=>by cases hh),?_⟩
     simp only[go_sem,Zp,zb.after,hfl,hf,hk,hk2]
     apply hKY
     simp only[go_sem]
     exact H
   · apply ZE [] [] false none rfl
     iterate 8 (first|(simp only[go_sem,zM]<;>rfl)|rfl)
     refine(QY).mono ?_
     rintro _ _ ⟨rfl,rfl⟩
     refine⟨Nat.le_of_ble_eq_true rfl,(fun hh=>by cases hh),?_⟩
     simp only[go_sem,Zp,zb.after,hfl,hf,hk,hk2]
     apply hKY
     simp only[go_sem]
     exact H
 refine zZ fun X1 hn1 he1 hf1 hr1=>?_
 by_cases h0:n<0
 · have d0:decide (n<0)=true:=decide_eq_true h0
   rw[if_pos h0] at hnum
   refine zc fun KY hKY=>?_
   simp only[go_sem,wh,d0]
   apply hKY
   refine Jt ?_
   by_cases ha:a=0
   · by_cases hb:b=0
     · have d1:decide (a=0)=true:=decide_eq_true ha
       have d2:decide (b=0)=true:=decide_eq_true hb
       rw[if_pos ⟨ha,hb⟩] at hnum
       refine Zb fun KY hKY=>?_
       simp only[go_sem,Q6,d1,d2]
       apply hKY
       refine zf ?_
       repeat (first|refine hr1 _ ?_)
       simp only[go_sem]
       refine⟨l,?_,fun x hx=>?_⟩
       · rw[←hnum];rfl
       · rw[←hnum] at hx;cases hx;try rfl
     · have d1:decide (a=0)=true:=decide_eq_true ha
       have d2:decide (b=0)=false:=decide_eq_false hb
       rw[if_neg fun h=>hb h.2] at hnum
       refine Zb fun KY hKY=>?_
       simp only[go_sem,Q6,d1,d2]
       apply hKY
       refine zf ?_
       repeat (first|refine hr1 _ ?_)
       simp only[go_sem]
       refine⟨l,?_,fun x hx=>?_⟩
       · rw[←hnum];rfl
       · rw[←hnum] at hx;cases hx;try rfl
   · have d1:decide (a=0)=false:=decide_eq_false ha
     rw[if_neg fun h=>ha h.1] at hnum
     refine Zb fun KY hKY=>?_
     simp only[go_sem,Q6,d1]
     apply hKY
     refine zf ?_
     repeat (first|refine hr1 _ ?_)
     simp only[go_sem]
     refine⟨l,?_,fun x hx=>?_⟩
     · rw[←hnum];rfl
     · rw[←hnum] at hx;cases hx;try rfl
 have d0:decide (n<0)=false:=decide_eq_false h0
 rw[if_neg h0] at hnum
 refine zc fun KY hKY=>?_
 simp only[go_sem,wh,d0]
 apply hKY
 refine qG ?_
 rcases(show n=0∨n=1∨n=2 by omega) with rfl|rfl|rfl
 · by_cases hb:b=0
   · have d2:decide (b≠0)=false:=decide_eq_false fun h=>h hb
     by_cases ha:a=0
     · have d4:decide (a≠0)=false:=decide_eq_false fun h=>h ha
       by_cases he:l=[]
       · have d5:decide (0<(l.length:Int))=false:=decide_eq_false (by rw[he];decide)
         rw[if_neg (by rintro(h|h|h)<;>simp_all)] at hnum
         refine zc fun KY hKY=>?_
         simp only[go_sem,Z5,d2,d4,Zn,d5]
         apply hKY
         refine qG ?_
         refine zc fun KY hKY=>?_
         simp only[go_sem,Q5]
         apply hKY
         refine zC [0,2] (by simp only[go_sem];rfl) ?_
         simp only[go_sem]
         refine zf ?_
         repeat (first|refine hr1 _ ?_)
         simp only[go_sem]
         refine⟨([]:List Int),?_,fun x hx=>?_⟩
         · rw[←hnum];rfl
         · rw[←hnum] at hx;cases hx;rfl
       · have d5:decide (0<(l.length:Int))=true:=decide_eq_true (by have:=List.length_pos_iff.2 he;omega)
         rw[if_pos (.inr (.inr he))] at hnum
         refine zc fun KY hKY=>?_
         simp only[go_sem,Z5,d2,d4,Zn,d5]
         apply hKY
         refine Jt ?_
         refine zc fun KY hKY=>?_
         simp only[go_sem,j6]
         apply hKY
         refine Zm [0,2] 1 (by simp only[go_sem]) ?_
         simp only[go_sem]
         refine zC [0,2] (by simp only[go_sem];rfl) ?_
         simp only[go_sem]
         refine zf ?_
         repeat (first|refine hr1 _ ?_)
         simp only[go_sem]
         refine⟨[],?_,fun x hx=>?_⟩
         · rw[←hnum];rfl
         · rw[←hnum] at hx;cases hx
     · have d4:decide (a≠0)=true:=decide_eq_true ha
       rw[if_pos (.inr (.inl ⟨by decide,ha⟩))] at hnum
       refine zc fun KY hKY=>?_
       simp only[go_sem,Z5,d2,d4]
       apply hKY
       refine Jt ?_
       refine zc fun KY hKY=>?_
       simp only[go_sem,j6]
       apply hKY
       refine Zm [0,2] 1 (by simp only[go_sem]) ?_
       simp only[go_sem]
       refine zC [0,2] (by simp only[go_sem];rfl) ?_
       simp only[go_sem]
       refine zf ?_
       repeat (first|refine hr1 _ ?_)
       simp only[go_sem]
       refine⟨[],?_,fun x hx=>?_⟩
       · rw[←hnum];rfl
       · rw[←hnum] at hx;cases hx
   · have d2:decide (b≠0)=true:=decide_eq_true hb
     rw[if_pos (.inl ⟨by decide,hb⟩)] at hnum
     refine zc fun KY hKY=>?_
     simp only[go_sem,Z5,d2]
     apply hKY
     refine Jt ?_
     refine zc fun KY hKY=>?_
     simp only[go_sem,j6]
     apply hKY
     refine Zm [0,2] 1 (by simp only[go_sem]) ?_
     simp only[go_sem]
     refine zC [0,2] (by simp only[go_sem];rfl) ?_
     simp only[go_sem]
     refine zf ?_
     repeat (first|refine hr1 _ ?_)
     simp only[go_sem]
     refine⟨[],?_,fun x hx=>?_⟩
     · rw[←hnum];rfl
     · rw[←hnum] at hx;cases hx
 · by_cases hb:b=0
   · have d2:decide (b≠0)=false:=decide_eq_false fun h=>h hb
     by_cases he:l=[]
     · have d5:decide (0<(l.length:Int))=false:=decide_eq_false (by rw[he];decide)
       rw[if_neg (by rintro(h|h|h)<;>simp_all)] at hnum
       refine zc fun KY hKY=>?_
       simp only[go_sem,Z5,d2,Zn,d5]
       apply hKY
       refine qG ?_
       refine zc fun KY hKY=>?_
       simp only[go_sem,Q5]
       apply hKY
       refine zC [0,2] (by simp only[go_sem];rfl) ?_
       simp only[go_sem]
       refine zf ?_
       repeat (first|refine hr1 _ ?_)
       simp only[go_sem]
       refine⟨[a],?_,fun x hx=>?_⟩
       · rw[←hnum];rfl
       · rw[←hnum] at hx;cases hx;rfl
     · have d5:decide (0<(l.length:Int))=true:=decide_eq_true (by have:=List.length_pos_iff.2 he;omega)
       rw[if_pos (.inr (.inr he))] at hnum
       refine zc fun KY hKY=>?_
       simp only[go_sem,Z5,d2,Zn,d5]
       apply hKY
       refine Jt ?_
       refine zc fun KY hKY=>?_
       simp only[go_sem,j6]
       apply hKY
       refine Zm [0,2] 1 (by simp only[go_sem]) ?_
       simp only[go_sem]
       refine zC [0,2] (by simp only[go_sem];rfl) ?_
       simp only[go_sem]
       refine zf ?_
       repeat (first|refine hr1 _ ?_)
       simp only[go_sem]
       refine⟨[],?_,fun x hx=>?_⟩
       · rw[←hnum];rfl
       · rw[←hnum] at hx;cases hx
   · have d2:decide (b≠0)=true:=decide_eq_true hb
     rw[if_pos (.inl ⟨by decide,hb⟩)] at hnum
     refine zc fun KY hKY=>?_
     simp only[go_sem,Z5,d2]
     apply hKY
     refine Jt ?_
     refine zc fun KY hKY=>?_
     simp only[go_sem,j6]
     apply hKY
     refine Zm [0,2] 1 (by simp only[go_sem]) ?_
     simp only[go_sem]
     refine zC [0,2] (by simp only[go_sem];rfl) ?_
     simp only[go_sem]
     refine zf ?_
     repeat (first|refine hr1 _ ?_)
     simp only[go_sem]
     refine⟨[],?_,fun x hx=>?_⟩
     · rw[←hnum];rfl
     · rw[←hnum] at hx;cases hx
 · by_cases he:l=[]
   · have d5:decide (0<(l.length:Int))=false:=decide_eq_false (by rw[he];decide)
     rw[if_neg (by rintro(h|h|h)<;>simp_all)] at hnum
     refine zc fun KY hKY=>?_
     simp only[go_sem,Z5,d0,Zn,d5]
     apply hKY
     refine qG ?_
     refine zc fun KY hKY=>?_
     simp only[go_sem,Q5]
     apply hKY
     refine zC [0,2] (by simp only[go_sem];rfl) ?_
     simp only[go_sem]
     refine zf ?_
     repeat (first|refine hr1 _ ?_)
     simp only[go_sem]
     refine⟨[a,b],?_,fun x hx=>?_⟩
     · rw[←hnum];rfl
     · rw[←hnum] at hx;cases hx;rfl
   · have d5:decide (0<(l.length:Int))=true:=decide_eq_true (by have:=List.length_pos_iff.2 he;omega)
     rw[if_pos (.inr (.inr he))] at hnum
     refine zc fun KY hKY=>?_
     simp only[go_sem,Z5,d0,Zn,d5]
     apply hKY
     refine Jt ?_
     refine zc fun KY hKY=>?_
     simp only[go_sem,j6]
     apply hKY
     refine Zm [0,2] 1 (by simp only[go_sem]) ?_
     simp only[go_sem]
     refine zC [0,2] (by simp only[go_sem];rfl) ?_
     simp only[go_sem]
     refine zf ?_
     repeat (first|refine hr1 _ ?_)
     simp only[go_sem]
     refine⟨[],?_,fun x hx=>?_⟩
     · rw[←hnum];rfl
     · rw[←hnum] at hx;cases hx
theorem gO {n:Int}(h0:0≤n)(h1:n≤999999999):zD Tryd.prog [] 32 [.sc (.int .i64 n)] [] fun r h'=>r= .sc (.string (ji (ZK n.toNat)))∧h'=[]:=by
 have hg : Tryd.prog.globalNamed "internal/strconv.uint64pow10" = some 1 := by kernel_rfl
 rw[←Kr h0]
 refine xx (us:=[.int .i64 n]) (by kernel_rfl) fun w hw=>(Tryd.strconv_Itoa n (by omega) (by omega) w (hw 1 hg)).mono ?_
 rintro e w' ⟨he,k,os,rfl⟩
 refine⟨he,rfl,rfl,rfl,?_,fun j hj=>?_⟩
 · show w.heap.size≤(w.heap++os).size
   rw[Array.size_append];omega
 · show(w.heap++os)[j]?=_
   exact Array.getElem?_append_left hj
theorem gN (w:List UInt8)(ws:List (List UInt8))(hl:ws.length≤2000000000)(hj:(Lib.join (w::ws) [32]).length≤100000000000000):zD Tryd.prog [] 33 [.imm 1 (ZP (w::ws)),.sc (.string (ji [32]))] [] fun r h'=>r= .sc (.string (ji (Lib.join (w::ws) [32])))∧h'=[]:=by
 have e1:((ji w::ws.map ji).map (·.data.toList))=w::ws:=by
  rw[List.map_cons,List.map_map]
  refine congr (congrArg _ (ZQ w)) ((List.map_congr_left fun p _=>ZQ p).trans (List.map_id _))
 have h:=xw (P:=Tryd.prog) (L:=[]) (f:=33) (by kernel_rfl) (x:=ji w) (xs:=ws.map ji) (c:= .string (ji [32])) (v:= .string (ji (Lib.join (w::ws) [32]))) fun bk o cap W hb hc hcells=>by
  have:=Tryd.strings_Join bk o cap (ji w::ws.map ji) (ji [32]) W hcells hb (by simp;omega) hc (by rw[e1,ZQ];omega)
  rw[e1,ZQ] at this
  exact this
 have e2:((ji w::ws.map ji).map fun s=>za.sc (.string s))=ZP (w::ws):=by simp[ZP]
 rw[e2] at h
 exact h
def y6 (w:List UInt8)(l:List Int):List (List UInt8):=w::l.map fun n=>ZK n.toNat
theorem xz (w:List UInt8)(l:List Int):(y6 w l).length=l.length+1:=by simp[y6]
theorem vm (w:List UInt8)(l:List Int)(n:Int):y6 w l++[ZK n.toNat]=y6 w (l++[n]):=by simp[y6]
theorem vn (w:List UInt8)(l:List Int)(n:Int):(y6 w (l++[n]))[l.length+1]?=some (ZK n.toNat):=by simp[y6]
theorem Kg {k:Nat}{a b:Int}{l ns:List Int}(h:jX k a b l=some ns):ns.length≤l.length+2:=by
 unfold jX at h
 split at h
 · split at h
   · cases h;omega
   · cases h
 · split at h
   · cases h
   · cases h
     rw[List.length_take]
     simp only[List.length_cons,List.length_nil]
     omega
theorem x6 (k a b:Int)(l:List Int)(hl:l.length≤1000000000):zD Tryd.prog [] GC [.agg (kg k a b l)] [] fun r h'=>r= .tup [.sc (.string (ji (Zu k a b l).1)),.sc (.int .i64 (Zu k a b l).2)]∧h'=[]:=by
 have hN:=fun(m:Nat) (hm:m<15)=>Ul m a b l hm
 unfold kg at hN⊢
 refine pF rfl ?_
 unfold GU z6
 refine zc fun KY hKY=>?_
 simp only[go_sem,uA]
 apply hKY
 refine zi fun X1 hn1 he1 hr1=>?_
 by_cases hk:k<1∨14<k∨(k=6∧a≠1∧a≠2)
 · have hres:Zu k a b l=([],15):=if_pos hk
   by_cases k1:k<1
   · have d1:decide (k<1)=true:=decide_eq_true k1
     refine zc fun KY hKY=>?_
     simp only[go_sem,j8,d1]
     apply hKY
     refine Jt ?_
     refine zc fun KY hKY=>?_
     simp only[go_sem,Q8]
     apply hKY
     refine zf ?_
     repeat (first|refine hr1 _ ?_)
     simp only[go_sem]
     rw[hres]
   have d1:decide (k<1)=false:=decide_eq_false k1
   by_cases k2:14<k
   · have d2:decide (14<k)=true:=decide_eq_true k2
     refine zc fun KY hKY=>?_
     simp only[go_sem,j8,d1,d2]
     apply hKY
     refine Jt ?_
     refine zc fun KY hKY=>?_
     simp only[go_sem,Q8]
     apply hKY
     refine zf ?_
     repeat (first|refine hr1 _ ?_)
     simp only[go_sem]
     rw[hres]
   have d2:decide (14<k)=false:=decide_eq_false k2
   have k3:k=6∧a≠1∧a≠2:=by omega
   have d3:decide (k=6)=true:=decide_eq_true k3.1
   have d4:decide (a≠1)=true:=decide_eq_true k3.2.1
   have d5:decide (a≠2)=true:=decide_eq_true k3.2.2
   refine zc fun KY hKY=>?_
   simp only[go_sem,j8,d1,d2,d3,d4,d5]
   apply hKY
   refine Jt ?_
   refine zc fun KY hKY=>?_
   simp only[go_sem,Q8]
   apply hKY
   refine zf ?_
   repeat (first|refine hr1 _ ?_)
   simp only[go_sem]
   rw[hres]
 have hpr:Zu k a b l=_:=if_neg hk
 have d1:decide (k<1)=false:=decide_eq_false (by omega)
 have d2:decide (14<k)=false:=decide_eq_false (by omega)
 refine zc fun KY hKY=>?_
 apply p9
 · intro H
   by_cases k3:k=6
   · have d3:decide (k=6)=true:=decide_eq_true k3
     by_cases a1:a=1
     · have d4:decide (a≠1)=false:=decide_eq_false fun h=>h a1
       simp only[go_sem,j8,d1,d2,d3,d4]
       apply hKY
       repeat (first|refine hn1 _ ?_|refine he1 _ _ ?_|refine hr1 _ ?_)
       simp only[go_sem]
       exact H
     · have d4:decide (a≠1)=true:=decide_eq_true a1
       have d5:decide (a≠2)=false:=decide_eq_false fun h=>hk (.inr (.inr ⟨k3,a1,h⟩))
       simp only[go_sem,j8,d1,d2,d3,d4,d5]
       apply hKY
       repeat (first|refine hn1 _ ?_|refine he1 _ _ ?_|refine hr1 _ ?_)
       simp only[go_sem]
       exact H
   · have d3:decide (k=6)=false:=decide_eq_false k3
     simp only[go_sem,j8,d1,d2,d3]
     apply hKY
     repeat (first|refine hn1 _ ?_|refine he1 _ _ ?_|refine hr1 _ ?_)
     simp only[go_sem]
     exact H
 refine qG ?_
 refine zo ?_
 repeat (first|refine hn1 _ ?_|refine he1 _ _ ?_)
 obtain⟨m,rfl⟩:=Int.eq_ofNat_of_zero_le (show 0≤k by omega)
 have hm:m<15:=by omega
 rw[Int.toNat_natCast] at hpr
 refine zc fun KY hKY=>?_
 simp only[go_sem,uz]
 apply ZE [] [] false none rfl
 iterate 8 (first|(simp only[go_sem,zM]<;>rfl)|rfl)
 refine(hN m hm).mono ?_
 rintro _ _ ⟨ns,rfl,rfl,hns⟩
 refine⟨Nat.le_of_ble_eq_true rfl,(fun hh=>by cases hh),?_⟩
 simp only[go_sem,Zp,zb.after]
 apply hKY
 refine zi fun X2 hn2 he2 hr2=>?_
 cases hnum:jX m a b l with
 | none=>
   rw[hnum] at hpr
   have hres:Zu m a b l=([],15):=hpr
   refine zc fun KY hKY=>?_
   simp only[go_sem,wr,Option.isSome_none]
   apply hKY
   refine Jt ?_
   refine zc fun KY hKY=>?_
   simp only[go_sem,uy]
   apply hKY
   refine zf ?_
   repeat (first|refine hr2 _ ?_|refine hr1 _ ?_)
   simp only[go_sem]
   rw[hres]
 |some ns2=>
 obtain rfl:=hns _ hnum
 rw[hnum] at hpr
 have hpr2:Zu m a b l=(if ns.all Kw=true∧(tx (Zq m) ns).length≤65536 then(tx (Zq m) ns,0) else([],15)):=hpr
 have hwl:=qF m (by omega)
 have hf:=U5 hm
 generalize Zq m=w at hpr2 hwl hf
 refine zc fun KY hKY=>?_
 simp only[go_sem,wr,Option.isSome_some]
 apply hKY
 refine qG ?_
 refine zo ?_
 repeat (first|refine hn2 _ ?_|refine he2 _ _ ?_|refine hn1 _ ?_|refine he1 _ _ ?_)
 have hfl:(zR wJ yf).length=30:=rfl
 have hk2:m*2+1<30:=by omega
 refine Zb fun KY hKY=>?_
 simp only[go_sem,ux]
 apply ZE [] [] false none rfl
 iterate 8 (first|(simp only[go_sem,zM]<;>rfl)|rfl)
 refine(QY).mono ?_
 rintro _ _ ⟨rfl,rfl⟩
 refine⟨Nat.le_of_ble_eq_true rfl,(fun hh=>by cases hh),?_⟩
 simp only[go_sem,Zp,zb.after,hfl,hf,hm,hk2]
 apply hKY
 refine zc fun KY hKY=>?_
 simp only[go_sem,uw]
 apply hKY
 have hnl:=Kg hnum
 have htl:∀i,(tx w (ns.take i)).length≤(tx w ns).length:=gj w ns
 refine zi fun X3 hn3 he3 hr3=>?_
 refine zc fun KY hKY=>?_
 simp only[go_sem,uv,Zn]
 apply hKY
 refine zZ fun X4 hn4 he4 hf4 hr4=>?_
 rw[show za.own (some 1) [za.sc (.string (ji w))]= .own (some 1) (ZP (y6 w (ns.take 0))) from rfl,show w.length=(tx w (ns.take 0)).length by rw[List.take_zero,WT]]
 try simp only[go_sem]
 refine Qg (α:=Nat) [9,53,61,78] (fun i=>[(6,.own (some 1) (ZP (y6 w (ns.take i)))),(7,.sc (.int .i64 ((tx w (ns.take i)).length:Int))),(52,.sc (.int .i64 (i:Int)))]) (fun i=>[]) (fun i q=>i≤ns.length∧(ns.take i).all Kw=true∧(tx w (ns.take i)).length≤65536∧q=ns.length - i) (0) (ns.length) rfl (by first|(simp only[go_sem,zq,zz];done)|with_reducible rfl|rfl) (⟨Nat.zero_le _,rfl,by rw[List.take_zero,WT];omega,rfl⟩) ?_
 rintro i q ⟨hi,hall,hsz,rfl⟩ X5 hn5 he5 hr5
 simp only[go_sem,zq,zz]
 rcases Nat.lt_or_ge i ns.length with hi2|hi2
 · have hdx:decide ((i:Int)<(ns.length:Int))=true:=decide_eq_true (by omega)
   have hx:ns[i]?=some ns[i]:=List.getElem?_eq_getElem hi2
   have htk:ns.take (i+1)=ns.take i++[ns[i]]:=by rw[List.take_add_one,hx];rfl
   have hli:(ns.take i).length=i:=by rw[List.length_take];omega
   have hmem:ns[i]∈ns:=List.getElem_mem hi2
   have ht1:=htl (i+1)
   generalize ns[i]=n at hx htk hmem
   have hg:=xh hx
   refine zc fun KY hKY=>?_
   simp only[go_sem,wq,hdx]
   apply hKY
   refine zi fun X6 hn6 he6 hr6=>?_
   refine Jt ?_
   refine zo ?_
   repeat (first|refine hn6 _ ?_|refine he6 _ _ ?_|refine he5 _ _ ?_|refine hn4 _ ?_|refine he4 _ ?_|refine hf4 _ _ (by decide) ?_|refine hn3 _ ?_|refine he3 _ _ ?_|refine hn2 _ ?_|refine he2 _ _ ?_|refine hn1 _ ?_|refine he1 _ _ ?_)
   refine zi fun X7 hn7 he7 hr7=>?_
   refine zZ fun X8 hn8 he8 hf8 hr8=>?_
   refine zc fun KY hKY=>?_
   simp only[go_sem,WJ,hg,Zn,hi2,(show i+1≤ns.length by omega)]
   apply hKY
   refine zi fun X9 hn9 he9 hr9=>?_
   by_cases n0:n<0
   · have e0:decide (n<0)=true:=decide_eq_true n0
     have hres:Zu m a b l=([],15):=hpr2.trans (if_neg fun h=>by have:=JY.1 (List.all_eq_true.1 h.1 n hmem);omega)
     refine zc fun KY hKY=>?_
     simp only[go_sem,qT,e0]
     apply hKY
     refine Jt ?_
     refine zc fun KY hKY=>?_
     simp only[go_sem,yF]
     apply hKY
     refine zf ?_
     repeat (first|refine hr9 _ ?_|refine hr8 _ ?_|refine hr7 _ ?_|refine hr6 _ ?_|refine hr5 _ ?_|refine hr4 _ ?_|refine hr3 _ ?_|refine hr2 _ ?_|refine hr1 _ ?_)
     simp only[go_sem]
     rw[hres]
   have e0:decide (n<0)=false:=decide_eq_false n0
   by_cases n1:999999999<n
   · have e1:decide (999999999<n)=true:=decide_eq_true n1
     have hres:Zu m a b l=([],15):=hpr2.trans (if_neg fun h=>by have:=JY.1 (List.all_eq_true.1 h.1 n hmem);omega)
     refine zc fun KY hKY=>?_
     simp only[go_sem,qT,e0,e1]
     apply hKY
     refine Jt ?_
     refine zc fun KY hKY=>?_
     simp only[go_sem,yF]
     apply hKY
     refine zf ?_
     repeat (first|refine hr9 _ ?_|refine hr8 _ ?_|refine hr7 _ ?_|refine hr6 _ ?_|refine hr5 _ ?_|refine hr4 _ ?_|refine hr3 _ ?_|refine hr2 _ ?_|refine hr1 _ ?_)
     simp only[go_sem]
     rw[hres]
   have e1:decide (999999999<n)=false:=decide_eq_false n1
   have hdl:(ZK n.toNat).length≤19:=(Y7 n.toNat 18).2 (by omega)
   have hall2:(ns.take (i+1)).all Kw=true:=by rw[htk,List.all_append,hall,List.all_cons,JY.2 (by omega)];rfl
   have hsn:=vm w (ns.take i) n
   rw[←htk] at hsn
   have hla:=vn w (ns.take i) n
   rw[←htk,hli] at hla
   have hgl:=xO hla
   have hwl1:(y6 w (ns.take i)).length=i+1:=by rw[xz,hli]
   have hwl2:(y6 w (ns.take (i+1))).length=i+2:=by rw[xz,htk,List.length_append,hli];rfl
   have htx:(tx w (ns.take (i+1))).length=(tx w (ns.take i)).length+(1+(ZK n.toNat).length):=by rw[htk,gk,List.length_append,List.length_cons];omega
   refine zc fun KY hKY=>?_
   simp only[go_sem,qT,e0,e1]
   apply hKY
   refine qG ?_
   refine zo ?_
   repeat (first|refine hn9 _ ?_|refine he9 _ _ ?_|refine hn8 _ ?_|refine he8 _ ?_|refine hf8 _ _ (by decide) ?_|refine hn7 _ ?_|refine he7 _ _ ?_|refine hn6 _ ?_|refine he6 _ _ ?_|refine he5 _ _ ?_|refine hn4 _ ?_|refine he4 _ ?_|refine hf4 _ _ (by decide) ?_|refine hn3 _ ?_|refine he3 _ _ ?_|refine hn2 _ ?_|refine he2 _ _ ?_|refine hn1 _ ?_|refine he1 _ _ ?_)
   refine zc fun KY hKY=>?_
   simp only[go_sem,WI]
   refine zE rfl (by simp only[go_sem]<;>rfl) ((gO (show 0≤n by omega) (show n≤999999999 by omega)).mono ?_)
   rintro rr hh ⟨rfl,rfl⟩
   refine⟨rfl,rfl,rfl,?_⟩
   simp only[go_sem,vz,hsn,Zd,hwl1,(show(i+1+1)*16≤140737488355328 by omega)]
   apply hKY
   have w1:IntKind.i64.wrap (((i+2:Nat):Int) - 1)=((i+1:Nat):Int):=by rw[IntWalk.i64_in _ (by omega)];omega
   have w2:IntKind.i64.wrap (1+((ZK n.toNat).length:Int))=((1+(ZK n.toNat).length:Nat):Int):=by rw[IntWalk.i64_in _ (by omega)];omega
   have w3:IntKind.i64.wrap (((tx w (ns.take i)).length:Int)+((1+(ZK n.toNat).length:Nat):Int))=((tx w (ns.take (i+1))).length:Int):=by rw[IntWalk.i64_in _ (by omega),htx];omega
   have w4:IntKind.i64.wrap ((i:Int)+1)=((i+1:Nat):Int):=by rw[IntWalk.i64_in _ (by omega)];omega
   refine zc fun KY hKY=>?_
   simp only[go_sem,WH,Zd,hwl2,w1,hgl,(show i+1<i+2 by omega),(show i+1+1≤i+2 by omega),w2,w3]
   apply hKY
   by_cases hbig:65536<(tx w (ns.take (i+1))).length
   · have e2:decide (65536<((tx w (ns.take (i+1))).length:Int))=true:=decide_eq_true (by omega)
     have hres:Zu m a b l=([],15):=hpr2.trans (if_neg fun h=>by omega)
     refine zc fun KY hKY=>?_
     simp only[go_sem,yE,e2]
     apply hKY
     refine Jt ?_
     refine zc fun KY hKY=>?_
     simp only[go_sem,WG]
     apply hKY
     refine zf ?_
     repeat (first|refine hr9 _ ?_|refine hr8 _ ?_|refine hr7 _ ?_|refine hr6 _ ?_|refine hr5 _ ?_|refine hr4 _ ?_|refine hr3 _ ?_|refine hr2 _ ?_|refine hr1 _ ?_)
     simp only[go_sem]
     rw[hres]
   have e2:decide (65536<((tx w (ns.take (i+1))).length:Int))=false:=decide_eq_false (by omega)
   refine zc fun KY hKY=>?_
   simp only[go_sem,yE,e2]
   apply hKY
   refine qG ?_
   refine zo ?_
   repeat (first|refine hn9 _ ?_|refine he9 _ _ ?_|refine hn8 _ ?_|refine he8 _ ?_|refine hf8 _ _ (by decide) ?_|refine hn7 _ ?_|refine he7 _ _ ?_|refine hn6 _ ?_|refine he6 _ _ ?_|refine he5 _ _ ?_|refine hn4 _ ?_|refine he4 _ ?_|refine hf4 _ _ (by decide) ?_|refine hn3 _ ?_|refine he3 _ _ ?_|refine hn2 _ ?_|refine he2 _ _ ?_|refine hn1 _ ?_|refine he1 _ _ ?_)
   refine ZL fun KY hKY=>?_
   simp only[go_sem,WF,w4]
   apply hKY
   repeat (first|refine hn9 _ ?_|refine he9 _ _ ?_|refine hn8 _ ?_|refine he8 _ ?_|refine hf8 _ _ (by decide) ?_|refine hn7 _ ?_|refine he7 _ _ ?_|refine hn6 _ ?_|refine he6 _ _ ?_)
   refine hn5 _ (i+1) (ns.length - (i+1)) (by omega) (by first|(simp only[go_sem,zq,zz];done)|with_reducible rfl) ?_
   exact⟨hi2,hall2,by omega,rfl⟩
 have hdx:decide ((i:Int)<(ns.length:Int))=false:=decide_eq_false (by omega)
 obtain rfl:i=ns.length:=by omega
 rw[List.take_length] at hall hsz
 refine zc fun KY hKY=>?_
 simp only[go_sem,wq,hdx]
 apply hKY
 refine zi fun X10 hn10 he10 hr10=>?_
 refine qG ?_
 refine jw ?_
 repeat (first|refine hn10 _ ?_|refine he10 _ _ ?_|refine he5 _ _ ?_|refine hn4 _ ?_|refine he4 _ ?_|refine hf4 _ _ (by decide) ?_|refine hn3 _ ?_|refine he3 _ _ ?_|refine hn2 _ ?_|refine he2 _ _ ?_|refine hn1 _ ?_|refine he1 _ _ ?_)
 rw[List.take_length]
 have hJ:=gN w (ns.map fun n=>ZK n.toNat) (by rw[List.length_map];omega) (by rw[U0];omega)
 rw[U0] at hJ
 unfold y6
 have hres:Zu m a b l=(tx w ns,0):=hpr2.trans (if_pos ⟨hall,hsz⟩)
 refine zc fun KY hKY=>?_
 simp only[go_sem,WE]
 refine zE rfl (by simp only[go_sem]<;>rfl) ((hJ).mono ?_)
 rintro rr hh ⟨rfl,rfl⟩
 refine⟨rfl,rfl,rfl,?_⟩
 simp only[go_sem]
 apply hKY
 refine zf ?_
 repeat (first|refine hr10 _ ?_|refine hr5 _ ?_|refine hr4 _ ?_|refine hr3 _ ?_|refine hr2 _ ?_|refine hr1 _ ?_)
 simp only[go_sem]
 rw[hres]
theorem Vc (xs:List Nat):Z4 xs=ints (xs.map fun(n:Nat)=>(n:Int)):=by simp[Z4,ints]
def wK.ints (c:wK):List Int:=c.list.map fun n:Nat=>(n:Int)
theorem Wv (c:wK):c.cells=kg c.kind c.a c.b (wK.ints c):=by
 unfold wK.cells kg wK.ints
 rw[Vc]
theorem Vb :∀{ts:List (List UInt8)} {ns:List Nat},Zr ts=some ns→ns.length=ts.length:=fun{ts ns} h=>by
 have:=(yp h).1
 rw[←this,List.length_map]
theorem Wf (s:List UInt8):(z8 s).1.list.length≤s.length+1:=by
 have h1:=Ql 32 s
 have h2:=JZ 32 s
 unfold z8
 split
 · simp
 · split
   · simp
   · split
     · simp
     · split
       · simp
       · rename_i ns hns
         have:=Vb hns
         rw[List.length_tail] at this
         split
         · show ns.length≤_
           omega
         · split<;>simp
theorem Ko (s:List UInt8)(k a b:Int)(l:List Int)(hs:s.length≤900000000)(hl:l.length≤1000000000):zD Tryd.prog [] pf [.sc (.string (ji s)),.agg (kg k a b l)] [] fun r h'=>r= .sc (.bool true):=by
 have hp1:= @x8 k a b l
 have hP1:=x6 k a b l hl
 have ht:(Zu k a b l).1.length≤1000000000:=by
  unfold Zu
  split
  · simp
  · split
    · simp
    · split
      · rename_i h;show(tx _ _).length≤_;omega
      · simp
 generalize hpr:Zu k a b l=p at hP1 hp1 ht
 obtain⟨t,e⟩:=p
 have hQ1:=YF t ht
 rw[Wv] at hQ1
 have hQ2:=YF s (by omega)
 rw[Wv] at hQ2
 have hln:=Wf s
 have hlt:=Wf t
 have hp2:∀c,z8 s=(c,0)→Zu c.kind c.a c.b (wK.ints c)=(s,0):=fun c h=>x5 h
 generalize hx:z8 t=x at hQ1 hlt
 generalize hy:z8 s=y at hQ2 hln hp2
 obtain⟨c1,f⟩:=x
 obtain⟨c2,g⟩:=y
 simp only at hQ1 hQ2 hln hlt ht
 have hll:(wK.ints c2).length=c2.list.length:=List.length_map ..
 have hll1:(wK.ints c1).length=c1.list.length:=List.length_map ..
 have hP2:=x6 c2.kind c2.a c2.b (wK.ints c2) (by omega)
 generalize hpr2:Zu c2.kind c2.a c2.b (wK.ints c2)=q at hP2
 obtain⟨u,h⟩:=q
 simp only at hP1 hP2
 unfold kg at*
 refine Pf rfl ?_
 unfold Pn QE
 refine zc fun KY hKY=>?_
 simp only[go_sem,vk]
 apply hKY
 refine zi fun X1 hn1 he1 hr1=>?_
 by_cases g1:2000<s.length
 · have d1:decide (2000<(s.length:Int))=true:=decide_eq_true (by omega)
   refine zc fun KY hKY=>?_
   simp only[go_sem,Yk,d1]
   apply hKY
   refine Jt ?_
   refine zc fun KY hKY=>?_
   simp only[go_sem,xr]
   refine zE rfl (by simp only[go_sem]<;>rfl) ((jp).mono ?_)
   rintro rr hh ⟨rfl,rfl⟩
   refine⟨rfl,rfl,rfl,?_⟩
   simp only[go_sem]
   apply hKY
   refine zf ?_
   repeat (first|refine hr1 _ ?_)
   simp only[go_sem]
 have d1:decide (2000<(s.length:Int))=false:=decide_eq_false (by omega)
 by_cases g2:300<l.length
 · have d2:decide (300<(l.length:Int))=true:=decide_eq_true (by omega)
   refine zc fun KY hKY=>?_
   simp only[go_sem,Yk,d1,d2,Zn]
   apply hKY
   refine Jt ?_
   refine zc fun KY hKY=>?_
   simp only[go_sem,xr]
   refine zE rfl (by simp only[go_sem]<;>rfl) ((jp).mono ?_)
   rintro rr hh ⟨rfl,rfl⟩
   refine⟨rfl,rfl,rfl,?_⟩
   simp only[go_sem]
   apply hKY
   refine zf ?_
   repeat (first|refine hr1 _ ?_)
   simp only[go_sem]
 have d2:decide (300<(l.length:Int))=false:=decide_eq_false (by omega)
 refine zc fun KY hKY=>?_
 simp only[go_sem,Yk,d1,d2,Zn]
 apply hKY
 refine qG ?_
 refine zo ?_
 repeat (first|refine hn1 _ ?_|refine he1 _ _ ?_)
 refine zc fun KY hKY=>?_
 simp only[go_sem,vi]
 apply ZE [] [] false none rfl
 iterate 8 (first|(simp only[go_sem,zM]<;>rfl)|rfl)
 refine(hP1).mono ?_
 rintro _ _ ⟨rfl,rfl⟩
 refine⟨Nat.le_of_ble_eq_true rfl,(fun hh=>by cases hh),?_⟩
 simp only[go_sem,Zp,zb.after]
 apply hKY
 refine zc fun KY hKY=>?_
 simp only[go_sem,vh]
 apply ZE [] [] false none rfl
 iterate 8 (first|(simp only[go_sem,zM]<;>rfl)|rfl)
 refine(hQ1).mono ?_
 rintro _ _ ⟨rfl,rfl⟩
 refine⟨Nat.le_of_ble_eq_true rfl,(fun hh=>by cases hh),?_⟩
 simp only[go_sem,Zp,zb.after]
 apply hKY
 refine zc fun KY hKY=>?_
 simp only[go_sem,vg]
 apply ZE [] [] false none rfl
 iterate 8 (first|(simp only[go_sem,zM]<;>rfl)|rfl)
 refine(hQ2).mono ?_
 rintro _ _ ⟨rfl,rfl⟩
 refine⟨Nat.le_of_ble_eq_true rfl,(fun hh=>by cases hh),?_⟩
 simp only[go_sem,Zp,zb.after]
 apply hKY
 refine zc fun KY hKY=>?_
 simp only[go_sem,vf]
 apply ZE [] [] false none rfl
 iterate 8 (first|(simp only[go_sem,zM]<;>rfl)|rfl)
 refine(hP2).mono ?_
 rintro _ _ ⟨rfl,rfl⟩
 refine⟨Nat.le_of_ble_eq_true rfl,(fun hh=>by cases hh),?_⟩
 simp only[go_sem,Zp,zb.after]
 apply hKY
 by_cases he:e=0
 · subst he
   obtain⟨c,q1,q2,q3,q4,q5⟩:=hp1 rfl
   rw[hx] at q1
   cases q1
   have hC:=UC c1.kind c1.a c1.b k a b (wK.ints c1) l (by rw[show wK.ints c1=l from q5];exact hl)
   rw[decide_eq_true (show(c1.kind:Int)=k∧(c1.a:Int)=a∧(c1.b:Int)=b∧wK.ints c1=l from⟨q2,q3,q4,q5⟩)] at hC
   unfold kg at hC
   by_cases hg:g=0
   · subst hg
     have:=hp2 c2 rfl
     rw[hpr2] at this
     cases this
     refine zc fun KY hKY=>?_
     simp only[go_sem,Q4]
     refine zE rfl (by simp only[go_sem]<;>rfl) ((jp).mono ?_)
     rintro rr hh ⟨rfl,rfl⟩
     refine⟨rfl,rfl,rfl,?_⟩
     simp only[go_sem]
     refine zE rfl (by simp only[go_sem]<;>rfl) ((hC).mono ?_)
     rintro rr hh ⟨rfl,rfl⟩
     refine⟨rfl,rfl,rfl,?_⟩
     simp only[go_sem]
     apply hKY
     refine zf ?_
     repeat (first|refine hr1 _ ?_)
     simp only[go_sem]
   · have dg:decide (g≠0)=true:=decide_eq_true hg
     refine zc fun KY hKY=>?_
     simp only[go_sem,Q4,dg]
     refine zE rfl (by simp only[go_sem]<;>rfl) ((jp).mono ?_)
     rintro rr hh ⟨rfl,rfl⟩
     refine⟨rfl,rfl,rfl,?_⟩
     simp only[go_sem,dg]
     refine zE rfl (by simp only[go_sem]<;>rfl) ((hC).mono ?_)
     rintro rr hh ⟨rfl,rfl⟩
     refine⟨rfl,rfl,rfl,?_⟩
     simp only[go_sem,dg]
     apply hKY
     refine zf ?_
     repeat (first|refine hr1 _ ?_)
     simp only[go_sem]
 · have de:decide (e≠0)=true:=decide_eq_true he
   by_cases hg:g=0
   · subst hg
     have:=hp2 c2 rfl
     rw[hpr2] at this
     cases this
     refine zc fun KY hKY=>?_
     simp only[go_sem,Q4,de]
     refine zE rfl (by simp only[go_sem]<;>rfl) ((jp).mono ?_)
     rintro rr hh ⟨rfl,rfl⟩
     refine⟨rfl,rfl,rfl,?_⟩
     simp only[go_sem,de]
     apply hKY
     refine zf ?_
     repeat (first|refine hr1 _ ?_)
     simp only[go_sem]
   · have dg:decide (g≠0)=true:=decide_eq_true hg
     refine zc fun KY hKY=>?_
     simp only[go_sem,Q4,de,dg]
     refine zE rfl (by simp only[go_sem]<;>rfl) ((jp).mono ?_)
     rintro rr hh ⟨rfl,rfl⟩
     refine⟨rfl,rfl,rfl,?_⟩
     simp only[go_sem,de,dg]
     apply hKY
     refine zf ?_
     repeat (first|refine hr1 _ ?_)
     simp only[go_sem]
theorem Vj (s:ByteArray)(k a b:Int)(l:List Int)(hs:s.size≤900000000)(hl:l.length≤1000000000):zD Tryd.prog [] pf [.sc (.string s),.agg [.sc (.int .i64 k),.sc (.int .i64 a),.sc (.int .i64 b),.imm 1 (ints l)]] [] fun r h'=>r= .sc (.bool true):=by
 have:=Ko s.data.toList k a b l (by rw[Array.length_toList];exact hs) hl
 rw[kz] at this
 exact this
theorem wQ (As:List za)(b:Nat)(h:Gh Tryd.prog Tryd.f7.params.toList As b)(hb:b≤1048576):zD Tryd.prog [] 7 As [] fun r _=>r= .sc (.bool true):=by
 rw[Tryd.params7] at h
 obtain⟨A1,As1,c1,d1,rfl,rfl,h1,h⟩:=xV h
 obtain⟨A2,As2,c2,d2,rfl,rfl,h2,h⟩:=xV h
 obtain rfl:=gE h
 obtain⟨x1,rfl,w1⟩:=vK Tryd.underlying9 h1
 obtain⟨k2,n2,m2,x2,rfl,u2,v2,w2,e2⟩:=u9 Tryd.underlying26 rfl Tryd.underlying3 Tryd.underlying24 Tryd.underlying3 (by kernel_rfl) h2
 exact(Vj x1 k2 n2 m2 x2 (by omega) (by omega)).mono fun _ _ h=>h
end Go.Proofs.YtneiihheeghdcaaDoor
namespace Go.Proofs.YtneiihheeghdcaaDoor.linesBackend
open Go Go.Ga Go.ChangeShapes Go.WideShapes Go.ChangeAt Go.RowKit
theorem own :ownKnob Tryd.prog.godebug=none:=by kernel_rfl
mutual
theorem Yl {H:Type}:∀d:DataW H,Rows.uptoBulk d=jh d
 | .lit l=>by cases l<;>simp[Rows.uptoBulk,jh]
 | .nil=>by simp[Rows.uptoBulk,jh]
 | .ptr d=>by simp[Rows.uptoBulk,jh,Yl d]
 | .slice e s=>by simp[Rows.uptoBulk,jh,bulk_eq e,bulk_eq s]
 | .agg p=>by simp[Rows.uptoBulk,jh,bulk_eq p]
 | .iface _ d=>by simp[Rows.uptoBulk,jh,Yl d]
 | .map e=>by simp[Rows.uptoBulk,jh,bulk_es e]
 | .held _=>by simp[Rows.uptoBulk,jh]
theorem bulk_eq {H:Type}:∀l:List (DataW H),Rows.uptoBulkAll l=bulkL l
 |[]=>by simp[Rows.uptoBulkAll,bulkL]
 |d::r=>by simp[Rows.uptoBulkAll,bulkL,Yl d,bulk_eq r]
theorem bulk_es {H:Type}:∀l:List (Lit×DataW H),Rows.uptoBulkEntries l=bulkE l
 |[]=>by simp[Rows.uptoBulkEntries,bulkE]
 |d::r=>by simp[Rows.uptoBulkEntries,bulkE,bulk_e d,bulk_es r]
theorem bulk_e {H:Type}:∀d:Lit×DataW H,Rows.uptoBulkEntry d=bulk1 d
 |(l,d)=>by cases l<;>simp[Rows.uptoBulkEntry,bulk1,Yl d]
end
set_option maxRecDepth 100000 in
theorem plain :WN Tryd.prog [3,9,24,26]:=k8 (by kernel_rfl)
set_option maxRecDepth 100000 in
theorem KQ (H:Type)(enc:TypeId×Value→H)(W:World)(base:Nat)(args:Array Value)(ds gs:List (DataW H))(before:List MemPlace)
    (hval:∀(j:Nat) t v,Tryd.f7.params[j]?=some t→args[j]?=some v→Value.okWide Tryd.prog W .any base t v)
    (hW:DataW.Whole enc Tryd.prog Tryd.f7.params.toList Rows.linesBackSpec.vars false W args.toList ds gs before) (hk:Rows.uptoSmall H (ds++gs)=true) (hT:Ja Tryd.prog (Env.plain W)):
    Calls Tryd.prog 7 args W fun e W'=>∃v,e= .returned v∧Rows.linesBackSpec.post enc Tryd.prog Tryd.f7 false true false false W args v W':=by
  have hW':=hW
  obtain⟨p,q,hA,hV,rfl,hfz,hnd⟩:=hW
  obtain⟨rfl,rfl⟩:=Go.Ga.JJ hV
  have hb:bulkL (ds++[])≤1048576:=by rw[←bulk_eq];exact of_decide_eq_true hk
  have r0:DataW.TrodAll enc Tryd.prog W 0 (fun _=>true) true Tryd.f7.params.toList args.toList ds p:=hA
  rw[Tryd.params7] at r0
  obtain⟨v0,vs0,d0,ds0,p0,q0,hv0,rfl,rfl,h0,r1⟩:=trodAll_cons r0
  obtain⟨v1,vs1,d1,ds1,p1,q1,hv1,rfl,rfl,h1,r2⟩:=trodAll_cons r1
  obtain⟨rfl,rfl,rfl⟩:=trodAll_nil r2
  exact wS plain hval (by rw[Tryd.params7];decide) hW' rfl rfl rfl rfl (tb:=4) (by kernel_rfl) Tryd.underlying4 hb hT wQ
mutual
def flat :DataW Unit→List Value
 | .lit l=>[l.value]
 | .agg p=>flatL p
 |_=>[]
def flatL :List (DataW Unit)→List Value
 |[]=>[]
 |d::r=>flat d++flatL r
end
def k5 (l:List Value):Obj→Obj
 | .cells _ t frozen=> .cells l.toArray t frozen
 |o=>o
noncomputable def yu (os:Os):World:=
 {World.holding Tryd.prog os ⟨#[], #[],[]⟩ with heap:=((((((World.holding Tryd.prog os ⟨#[], #[],[]⟩).heap).modify 4 (k5 (flat Rows.laid_math_bits_deBruijn32tab))).modify 5 (k5 (flat Rows.laid_math_bits_deBruijn64tab))).modify 1 (k5 (flat Rows.laid_internal_strconv_uint64pow10))).modify 3 (k5 (flat Rows.laid_unicode_utf8_acceptRanges))).modify 2 (k5 (flat Rows.laid_unicode_utf8_first))}
theorem Kp (os:Os):laidMet Tryd.prog Rows.linesBackUptoRow.laid ((yu os).forCall (fun _ _=>0) ⟨#[], #[.string ⟨#[]⟩,.agg #[.int .i64 0,.int .i64 0,.int .i64 0,.slice none 0 0]],[]⟩).memory:=
 laidMet_of_run' 8 (by kernel_rfl) (by kernel_rfl)
theorem p4 (os:Os){H:Type}(enc:TypeId×Value→H):∃places,DataW.whole enc Tryd.prog ((yu os).forCall (fun _ _=>0) ⟨#[], #[.string ⟨#[]⟩,.agg #[.int .i64 0,.int .i64 0,.int .i64 0,.slice none 0 0]],[]⟩).memory Tryd.f7.params.toList Rows.linesBackSpec.vars false (#[.string ⟨#[]⟩,.agg #[.int .i64 0,.int .i64 0,.int .i64 0,.slice none 0 0]]:Array Value).toList 8=some ([.lit (.string []),.agg [.lit (.int .i64 0),.lit (.int .i64 0),.lit (.int .i64 0),.nil]],[],places):=
 ⟨[],by kernel_rfl⟩
theorem PQ (W:World)(h:laidMetH Tryd.prog Rows.linesBackUptoRow.laid W):Ja Tryd.prog (Env.plain W):=Uq fun g hg=>by
 obtain rfl := Option.some.inj ((show Tryd.prog.globalNamed "internal/strconv.uint64pow10" = some 1 by kernel_rfl).symm.trans hg)
 have hl:laidMet Tryd.prog Rows.linesBackUptoRow.laid W:=h
 have he:Rows.laid_internal_strconv_uint64pow10 (H:=Unit)=Lib.tabData .u64 Lib.pow10Tab:=by kernel_rfl
 have ht:=((hl.tail).tail)
 rw[he] at ht
 exact Lib.tabIs_of_head hg (t:=110) (e:=101) (n:=20) (by kernel_rfl) (by kernel_rfl) (by kernel_rfl) (by kernel_rfl) (by kernel_rfl) ht
set_option maxRecDepth 100000 in
theorem pm (os:Os)(started:os.Started)(H:Type)(enc:TypeId×Value→H)(F:Stop.Interp):
    ReturnsInHanded {} Tryd.checked os 7 .any ((Rows.OpenSpec.upto Rows.linesBackSpec).preRow enc Tryd.prog Tryd.f7 Rows.linesBackUptoRow.domain false Rows.linesBackUptoRow.laid) (((Rows.OpenSpec.upto Rows.linesBackSpec).at F).post enc Tryd.prog Tryd.f7 false true false false):=by
  obtain⟨places,hx⟩:=p4 os enc
  refine returnsInHanded_of_row (C:=Tryd.checked) (s:=Rows.OpenSpec.upto Rows.linesBackSpec) own started (by kernel_rfl) Tryd.func7
    (witness_row_at (enc:=enc) (C:=Tryd.checked) false (yu os) #[.string ⟨#[]⟩,.agg #[.int .i64 0,.int .i64 0,.int .i64 0,.slice none 0 0]] rfl (by kernel_rfl) (by kernel_rfl) (by kernel_rfl)
      (OpenSpec.preRow_of_cond 8 hx (by kernel_rfl) (fun k hk=>by cases hk;kernel_rfl) (by kernel_rfl) (Kp os))) ?_
  intro W base args ds gs before hval hW _ hcond _ hlaid _ _
  exact KQ H enc W base args ds gs before hval hW (hcond _ rfl) (PQ W hlaid)
theorem kK :Rows.LinesBackUptoSaid:=
 OpenClaim.holds_of_cond 7 Tryd.f7 rfl rfl rfl rfl rfl rfl rfl ⟨rfl,rfl,rfl,rfl,rfl⟩ rfl rfl rfl rfl rfl (by kernel_rfl) Tryd.func7 (by kernel_rfl)
  (of_decide_eq_true (by kernel_rfl)) (by unfold Func.isWrapper;first|(rw[if_pos (by decide+kernel)];kernel_rfl)|(rw[if_neg (by decide+kernel)];exact⟨rfl,rfl⟩))
  (fun os started H enc _ F=>by rw[OpenClaim.pre_eq_preRow];exact pm os started H enc F)
theorem p3 (f : FuncId) (fn : Func) (hf : Tryd.pinned.checked.prog.funcNamed "garland/garlandlaw26.LinesBack" = some f) (hfn : Tryd.pinned.checked.prog.funcs[f]? = some fn) :
    false=Tryd.pinned.checked.prog.looks []∧∀(j:Nat) t,fn.params[j]?=some t→Tryd.pinned.checked.prog.wantsStandIn t=false:=by
  obtain rfl : f = 7 := Option.some.inj ((show Tryd.prog.funcNamed "garland/garlandlaw26.LinesBack" = some 7 by kernel_rfl).symm.trans hf) |>.symm
  obtain rfl:fn=Tryd.f7:=(Option.some.inj (Tryd.func7.symm.trans hfn)).symm
  refine⟨by kernel_rfl,fun j t ht=>?_⟩
  have h:(Tryd.f7.params.toList.all fun t=> !Tryd.prog.wantsStandIn t)=true:=by kernel_rfl
  have:=List.all_eq_true.1 h t (by rw[Array.mem_toList_iff];exact Array.mem_of_getElem? ht)
  have h2:Tryd.prog.wantsStandIn t=false:=by simpa using this
  exact h2
theorem holds :Rows.LinesBackUptoCardSaid:=
 Claim7.holds_tied_plain_at .later [] _ _ _ _ kK (fun _ h=>by cases h) (by kernel_rfl) (fun _ h=>by cases h) linesBackUpto_row_tie rfl ⟨rfl,rfl⟩ (by kernel_rfl) rfl p3 (by kernel_rfl)
end Go.Proofs.YtneiihheeghdcaaDoor.linesBackend
