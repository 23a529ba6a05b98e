/- Each word, with as many numbers as it has, is a command; with one more, or one less, it is none (but factor). -/
import Derived.Test.YtneiihheeghdcaaDoorRows
import Derived.Test.YtneiihheeghdcaaDoorGalmhfj5
import Derived.Shelf.Strings.Search1
import Derived.Shelf.Strings.Count
import Derived.Shelf.Bytes.IndexByte
import Derived.Shelf.Bytes.SlIndexAt
import Derived.Lib.Bytealg
import Derived.KernelRfl
import Derived.WalkKit
import Derived.ProofKit
import Derived.OpenShut
import Derived.JoinedCond
import Derived.Test.YtneiihheeghdcaaDoorCards
import Derived.Test.YtneiihheeghdcaaDoorTie
import Derived.Deep.DeepHandedRow
import Derived.Lib.LaidTab
set_option linter.all false

namespace Go.Proofs.YtneiihheeghdcaaDoor
open Go Go.Ga
theorem mix :Tryd.prog.follows .mixedOrders=true:=by kernel_rfl
def uu :List zv:=[oO 4]
def ut :List zv:=[oM 13 0,(none,.r (.conv 14 .u64 (.t 13))),(none,.r (.bin 15 .rem 0 (.t 14) (.c (.int .u64 14)))),(none,.r (.conv 16 .i64 (.t 15))),(none,.r (.bin 17 .add 0 (.c (.int .i64 1)) (.t 16))),oS 0 17]
def ur :List zv:=[(none,.blds 18 14 1 [((0,1),(.c (.string ⟨#[118,101,114,116,105,99,101,115,32,49]⟩),true)),((1,1),(.c (.string ⟨#[97,100,100,32,49,32,50]⟩),true)),((2,1),(.c (.string ⟨#[114,101,109,111,118,101,32,49,32,50]⟩),true)),((3,1),(.c (.string ⟨#[103,
 114,111,119]⟩),true)),((4,1),(.c (.string ⟨#[99,117,116,32,49]⟩),true)),((5,1),(.c (.string ⟨#[109,97,116,99,104,32,50]⟩),true)),((6,1),(.c (.string ⟨#[103,97,108,108,97,105]⟩),true)),((7,1),(.c (.string ⟨#[98,97,114,114,105,101,114]⟩),true)),((8,1),(.c (.string ⟨#[115,105,100,
 101,115]⟩),true)),((9,1),(.c (.string ⟨#[98,108,111,99,107,115]⟩),true)),((10,1),(.c (.string ⟨#[102,97,99,116,111,114,32,49,32,50]⟩),true)),((11,1),(.c (.string ⟨#[99,111,118,101,114]⟩),true)),((12,1),(.c (.string ⟨#[99,108,97,115,115,105,102,121]⟩),true)),((13,1),(.c (.string ⟨#[116,
 101,108,108]⟩),true))] [.string ⟨#[]⟩]),oS 5 18]
def uq :List zv:=[oM 19 5,oM 20 0,oB 21 .sub 20 1,oX 22 19 21 1,oL 23 22 1,oS 6 23]
def up :List zv:=[oM 25 6,oC 26 9 25,oM 24 26,oY 27 24 0,oY 28 24 1,(none,.alloc 7 [.int .i64 0,.int .i64 0,.int .i64 0,.slice none 0 0]),oW 7 27 4,oS 8 28]
def uo :List zv:=[oM 29 6,(none,.r (.bin 30 .add 0 (.t 29) (.c (.string ⟨#[32,51]⟩)))),oM 31 6,(none,.r (.bin 32 .add 0 (.c (.string ⟨#[32]⟩)) (.t 31))),oM 33 6,(none,.r (.bin 34 .add 0 (.t 33) (.c (.string ⟨#[32]⟩)))),oM 35 6,(none,.r (.bin 36 .add 0 (.c (.string ⟨#[120]⟩)) (.t 35))),
 oM 37 6,(none,.r (.bin 38 .add 0 (.t 37) (.c (.string ⟨#[32,48,51]⟩)))),oM 39 6,(none,.r (.bin 40 .add 0 (.t 39) (.c (.string ⟨#[32,45,49]⟩)))),oM 41 6,(none,.r (.bin 42 .add 0 (.t 41) (.c (.string ⟨#[32,43,49]⟩)))),oM 43 6,(none,.r (.bin 44 .add 0 (.t 43) (.c (.string ⟨#[32,49,50,51,52,53,
  54,55,56,57,48]⟩)))),(none,.blds 45 8 1 [((0,1),(.t 30,true)),((1,1),(.t 32,true)),((2,1),(.t 34,true)),((3,1),(.t 36,true)),((4,1),(.t 38,true)),((5,1),(.t 40,true)),((6,1),(.t 42,true)),((7,1),(.t 44,true))] [.string ⟨#[]⟩]),oM 46 1,(none,.r (.conv 47 .u64 (.t 46))),(none,.r (.bin 48 .rem 0 (.t 47) (.c (.int .u64 8)))),
 (none,.r (.conv 49 .i64 (.t 48))),oX 50 45 49 1,oL 51 50 1,oS 9 51]
def un :List zv:=[oM 53 9,oC 54 9 53,oM 52 54,oY 55 52 0,oY 56 52 1,(none,.alloc 10 [.int .i64 0,.int .i64 0,.int .i64 0,.slice none 0 0]),oW 10 55 4,oS 11 56]
def Wm :List zv:=[oM 57 0,oB 58 .eql 57 11,oM 59 58,oK 59 true 60 9,oK 59 true 61 6,(some (59,true),.r (.bin 62 .add 0 (.t 61) (.c (.string ⟨#[32,51]⟩)))),vZ 59 true 63 .eql 60 62,oP 64 59 63,oS 12 64]
def Wl :List zv:=[(none,.call 65 (.f 10) []),oM 66 65,oK 66 true 67 8,u9 66 true 68 .eql 67 0,oP 69 66 68,oM 70 69,(some (70,true),.r (.fldA 71 (.t 7) 0)),Xv 70 true 72 71 1,oK 70 true 73 0,vZ 70 true 74 .eql 72 73,oP 75 70 74,oM 76 75,oK 76 true 77 11,u9 76 true 78 .eql 77 0,
 oK 76 true 79 12,(some (76,true),.r (.bin 80 .eql 1 (.t 78) (.t 79))),oP 81 76 80,oS 4 81]
def Jo :List Nat:=[0,1,4,5,6,7,8,9,11,12]
def gF :zV:=.seq (.reg Jo uu Jo) (.seq (.reg Jo ut Jo) (.seq (.reg Jo ur Jo) (.seq (.reg Jo uq Jo) (.seq (.reg [0,
 1,4,5,6,8,9,11,12] up Jo) (.seq (.reg Jo uo Jo) (.seq (.reg Jo un Jo) (.seq (.reg Jo Wm Jo) (.seq (.reg Jo Wl Jo) .ret))))))))
abbrev gn :Nat:=3
theorem gw :U6 Tryd.prog Tryd.f3.ntmps 2 [4] Jo [(.tmp 4)] gF gn:=Vs mix Tryd.func3 (by kernel_rfl) rfl
def um :List zv:=[(none,.alloc 2 [.int .i64 0,.int .i64 0,.int .i64 0,.slice none 0 0]),oI 3 0]
def Wk :List zv:=[oM 13 0,(none,.r (.lenS 14 (.t 13))),oB 15 .gtr 14 65536]
def ul :List zv:=[(none,.bld 16 [] [.int .i64 0,.int .i64 0,.int .i64 0,.slice none 0 0]),oW 2 16 4,oI 3 8]
def uk :List zv:=[oM 17 0,(none,.call 18 (.f 23) [(.t 17,false),(.c (.string ⟨#[32]⟩),false)]),(none,.bld 19 [((0,1),(.t 18,true))] [.slice none 0 0]),(none,.box 20 (.t 19)),(none,.alloc 4 [.pointer none]),oW 4 20 1]
def uj :List zv:=[(none,.call 21 (.f 24) []),(none,.alloc 5 [.string ⟨#[]⟩,.int .i64 0,.string ⟨#[]⟩,.int .i64 0,.string ⟨#[]⟩,.int .i64 0,.string ⟨#[]⟩,.int .i64 0,.string ⟨#[]⟩,.int .i64 0,.string ⟨#[]⟩,.int .i64 0,.string ⟨#[]⟩,.int .i64 0,.string ⟨#[]⟩,.int .i64 0,.string ⟨#[]⟩,.int .i64 0,
 .string ⟨#[]⟩,.int .i64 0,.string ⟨#[]⟩,.int .i64 0,.string ⟨#[]⟩,.int .i64 0,.string ⟨#[]⟩,.int .i64 0,.string ⟨#[]⟩,.int .i64 0,.string ⟨#[]⟩,.int .i64 0]),oW 5 21 30]
def ui :List zv:=[(none,.r (.slc 22 (.t 5) none (some (.c (.int .i64 15))) 2)),(none,.mkfn 23 (.func 26) [] [(.t 4,false)]),v6 24 25 22 23,oS 6 24]
def Qt :ZV:=.take [1,2,3,4,5,6,7,8,9,10,11,12,13,14,15,16,17,18,19,20,21] (oM 25 6) (.take [2,3,4,5,6,7,8,9,10,11,12,13,14,15,16,17,18,19,20,21] (oB 26 .lss 25 0) (.take [3,4,5,6,7,8,9,10,11,12,13,14,15,16,17,18,19,20,21] (oM 27 26) (.take [4,5,6,7,8,9,10,11,12,13,14,15,16,17,18,19,
 20,21] (oK 27 false 28 6) (.take [5,6,7,8,9,10,11,12,13,14,15,16,17,18,19,20,21] (some (27,false),.r (.idxP 29 (.t 5) (.t 28) 15 2)) (.take [6,7,8,9,10,11,12,13,14,15,16,17,18,19,20,21] (some (27,false),.r (.fldA 30 (.t 29) 1)) (.take [7,8,9,10,11,12,13,14,15,16,17,18,19,20,21] (Xv 27 false 31 30 1) (.take [8,
 9,10,11,12,13,14,15,16,17,18,19,20,21] (u9 27 false 32 .geq 31 0) (.take [9,10,11,12,13,14,15,16,17,18,19,20,21] (oK 27 false 33 32) (.take [10,11,12,13,19,20,21] (Xv 33 true 34 4 1) (.take [11,12,13,19,20,21] (some (33,true),.r (.nilck 35 (.t 34))) (.take [12,13,19,20,21] (some (33,true),.r (.fldA 36 (.t 35) 0)) (.take [13,
 19,20,21] (Xv 33 true 37 36 1) (.take [19,20,21] (some (33,true),.r (.len 38 (.t 37))) (.take [15,16,17,18,19,20,21] (oK 33 true 39 6) (.take [16,17,18,19,20,21] (some (33,true),.r (.idxP 40 (.t 5) (.t 39) 15 2)) (.take [17,18,19,20,21] (some (33,true),.r (.fldA 41 (.t 40) 1)) (.take [18,19,20,21] (Xv 33 true 42 41 1) (.take [19,
 20,21] (u9 33 true 43 .add 42 1) (.take [20,21] (vZ 33 true 44 .neq 38 43) (.take [21] (some (27,false),.r (.pick 45 (.t 33) (.t 44) (.c (.bool false)))) (.take [] (oQ 46 27 45) .done)))))))))))))))))))))
def Wj :List zv:=[(none,.bld 47 [] [.int .i64 0,.int .i64 0,.int .i64 0,.slice none 0 0]),oW 2 47 4,oI 3 15]
def Wi :List zv:=[oL 48 4 1,(none,.mkfn 49 (.func 27) [(.t 48,false)] []),oS 7 49]
def Wh :List zv:=[oZ 8]
def Yy :List zv:=[oI 9 1]
def jK :List zv:=[oM 50 9,oL 51 4 1,oN 52 51,oF 53 52 0,oL 54 53 1,oE 55 54,oD 56 .lss 50 55]
def qc :List zv:=[oM 60 7,oM 61 9,(none,.call 62 (.t 60) [(.t 61,false)]),oM 59 62,oY 63 59 0,oY 64 59 1,oS 10 63,oS 11 64]
def qb :List zv:=[oM 65 11,(none,.r (.notb 66 (.t 65)))]
def Yx :List zv:=[(none,.bld 67 [] [.int .i64 0,.int .i64 0,.int .i64 0,.slice none 0 0]),oW 2 67 4,oI 3 15]
def Yw :List zv:=[oM 68 8,oM 69 10,(none,.blds 70 1 1 [((0,1),(.t 69,true))] [.int .i64 0]),(none,.app 71 (.t 68) (.t 70) 1 8),oS 8 71]
def Yv :List zv:=[oM 57 9,oB 58 .add 57 1,oS 9 58]
def Yu :List zv:=[oM 72 6,(none,.bld 73 [((0,1),(.t 72,true))] [.int .i64 0,.int .i64 0,.int .i64 0,.slice none 0 0]),(none,.alloc 12 [.int .i64 0,.int .i64 0,.int .i64 0,.slice none 0 0]),oW 12 73 4]
def Yt :List zv:=[oM 74 6,(none,.r (.idxP 75 (.t 5) (.t 74) 15 2)),oF 76 75 1,oL 77 76 1,oB 78 .lss 77 0]
def xh :List zv:=[oM 79 8,oF 80 12 3,oW 80 79 1]
def xg :List zv:=[oT 81 12 4,oW 2 81 4,oI 3 0]
def xf :List zv:=[oM 82 8,(none,.blds 83 2 1 [((0,1),(.c (.int .i64 0),true)),((1,1),(.c (.int .i64 0),true))] [.int .i64 0]),(none,.app 84 (.t 82) (.t 83) 1 8),oS 8 84]
def xe :ZV:=.take [1,2,6,7,8,9] (oM 85 8) (.take [2,6,7,8,9] (none,.r (.idxA 86 (.t 85) (.c (.int .i64 0)) 1)) (.take [6,7,8,9] (oL 87 86 1) (.take [4,5,8,9] (oM 88 8) (.take [5,8,9] (none,.r (.idxA 89 (.t 88) (.c (.int .i64 1)) 1)) (.take [8,9] (oL 90 89 1) (.take [7,8,9] (oF 91 12 1) (.one 7 (oW 91 87 1) (.take [9] (oF 92 12 2) (.one 9 (oW 92 90 1) .done)))))))))
def qa :List zv:=[oM 93 6,oB 94 .eql 93 6,oM 95 94,(some (95,true),.r (.fldA 96 (.t 12) 1)),Xv 95 true 97 96 1,u9 95 true 98 .neq 97 1,oP 99 95 98,oM 100 99,(some (100,true),.r (.fldA 101 (.t 12) 1)),Xv 100 true 102 101 1,u9 100 true 103 .neq 102 2,oP 104 100 103]
def xd :List zv:=[(none,.bld 105 [] [.int .i64 0,.int .i64 0,.int .i64 0,.slice none 0 0]),oW 2 105 4,oI 3 15]
def Qu :List zv:=[oT 106 12 4,oW 2 106 4,oI 3 0]
def Zf :List Nat:=[0,2,3,4,5,6,7,8,9,10,11,12,15,46,56,66,78,104]
def gE :zV:=.seq (.reg [0,3,4,5,6,7,8,9,10,11,12,15,46,56,66,78,104] um Zf) (.seq (.seq (.reg [0,2,3,4,5,6,7,8,9,10,11,12,46,56,66,78,104] Wk Zf) (.cond (.t 15) (.seq (.reg Zf ul Zf) .ret) .skip)) (.seq (.reg [0,
 2,3,5,6,7,8,9,10,11,12,15,46,56,66,78,104] uk Zf) (.seq (.reg [0,2,3,4,6,7,8,9,10,11,12,15,46,56,66,78,104] uj Zf) (.seq (.reg Zf ui Zf) (.seq (.seq (.draw [0,2,3,4,5,6,7,8,9,10,11,12,15,56,66,78,104] Qt Zf) (.cond (.t 46) (.seq (.reg Zf Wj Zf) .ret) .skip)) (.seq (.reg Zf Wi Zf) (.seq (.reg Zf Wh Zf) (.seq (.seq (.reg Zf Yy Zf) (.blk 0 (.loop (.seq (.seq (.reg [0,
 2,3,4,5,6,7,8,9,10,11,12,15,46,66,78,104] jK Zf) (.cond (.t 56) .skip (.exit 0))) (.seq (.blk 1 (.seq (.reg Zf qc Zf) (.seq (.seq (.reg [0,2,3,4,5,6,7,8,9,10,11,12,15,46,56,78,104] qb Zf) (.cond (.t 66) (.seq (.reg Zf Yx Zf) .ret) .skip)) (.reg Zf Yw Zf)))) (.reg Zf Yv Zf)))))) (.seq (.reg [0,
 2,3,4,5,6,7,8,9,10,11,15,46,56,66,78,104] Yu Zf) (.seq (.seq (.reg [0,2,3,4,5,6,7,8,9,10,11,12,15,46,56,66,104] Yt Zf) (.cond (.t 78) (.seq (.reg Zf xh Zf) (.seq (.reg Zf xg Zf) .ret)) .skip)) (.seq (.reg Zf xf Zf) (.seq (.draw Zf xe Zf) (.seq (.seq (.reg [0,
 2,3,4,5,6,7,8,9,10,11,12,15,46,56,66,78] qa Zf) (.cond (.t 104) (.seq (.reg Zf xd Zf) .ret) .skip)) (.seq (.reg Zf Qu Zf) .ret))))))))))))))
abbrev gk :Nat:=9
theorem gv :U6 Tryd.prog Tryd.f9.ntmps 1 [3] Zf [(.cell 2 4 true),(.tmp 3)] gE gk:=Vs mix Tryd.func9 (by kernel_rfl) rfl
def xP :List zv:=[oO 0]
def xO :List zv:=[(none,.call 4 (.f 9) [(.c (.string ⟨#[97,100,100,32,49,32,50]⟩),false)]),oM 3 4,oY 5 3 0,oY 6 3 1,(none,.alloc 1 [.int .i64 0,.int .i64 0,.int .i64 0,.slice none 0 0]),oW 1 5 4,oS 2 6]
def xN :List zv:=[oM 7 2,oB 8 .eql 7 0,oM 9 8,(some (9,true),.r (.fldA 10 (.t 1) 0)),Xv 9 true 11 10 1,u9 9 true 12 .eql 11 2,oP 13 9 12,oM 14 13,(some (14,true),.r (.fldA 15 (.t 1) 1)),Xv 14 true 16 15 1,u9 14 true 17 .eql 16 1,oP 18 14 17,oM 19 18,(some (19,true),.r (.fldA 20 (.t 1) 2)),
 Xv 19 true 21 20 1,u9 19 true 22 .eql 21 2,oP 23 19 22,oS 0 23]
def yC :List Nat:=[0,1,2]
def Kp :zV:=.seq (.reg yC xP yC) (.seq (.reg [0,2] xO yC) (.seq (.reg yC xN yC) .ret))
abbrev Kd :Nat:=10
theorem KU :U6 Tryd.prog Tryd.f10.ntmps 0 [0] yC [(.tmp 0)] Kp Kd:=Vs mix Tryd.func10 (by kernel_rfl) rfl
def xM :List zv:=[oZ 4]
def xL :List zv:=[oM 5 0,oM 6 1,(none,.call 7 (.f 40) [(.t 5,false),(.t 6,false),(.c (.int .i64 0),false),(.c (.int .i64 (- (0+1))),false)]),oS 4 7]
def Y7 :List Nat:=[0,1,4]
def Ko :zV:=.seq (.reg Y7 xM Y7) (.seq (.reg Y7 xL Y7) .ret)
abbrev Kc :Nat:=23
theorem KT :U6 Tryd.prog Tryd.f23.ntmps 2 [4] Y7 [(.tmp 4)] Ko Kc:=Vs mix Tryd.func23 (by kernel_rfl) rfl
def xK :List zv:=[(none,.alloc 0 [.string ⟨#[]⟩,.int .i64 0,.string ⟨#[]⟩,.int .i64 0,.string ⟨#[]⟩,.int .i64 0,.string ⟨#[]⟩,.int .i64 0,.string ⟨#[]⟩,.int .i64 0,.string ⟨#[]⟩,.int .i64 0,.string ⟨#[]⟩,.int .i64 0,.string ⟨#[]⟩,.int .i64 0,.string ⟨#[]⟩,.int .i64 0,.string ⟨#[]⟩,.int .i64 0,
 .string ⟨#[]⟩,.int .i64 0,.string ⟨#[]⟩,.int .i64 0,.string ⟨#[]⟩,.int .i64 0,.string ⟨#[]⟩,.int .i64 0,.string ⟨#[]⟩,.int .i64 0])]
def xJ :List zv:=[(none,.bld 1 [((0,1),(.c (.string ⟨#[118,101,114,116,105,99,101,115]⟩),true)),((1,1),(.c (.int .i64 1),true))] [.string ⟨#[]⟩,.int .i64 0]),(none,.bld 2 [((0,1),(.c (.string ⟨#[97,100,100]⟩),true)),((1,1),(.c (.int .i64 2),true))] [.string ⟨#[]⟩,.int .i64 0]),
 (none,.bld 3 [((0,1),(.c (.string ⟨#[114,101,109,111,118,101]⟩),true)),((1,1),(.c (.int .i64 2),true))] [.string ⟨#[]⟩,.int .i64 0]),(none,.bld 4 [((0,1),(.c (.string ⟨#[103,114,111,119]⟩),true)),((1,1),(.c (.int .i64 0),true))] [.string ⟨#[]⟩,.int .i64 0]),(none,.bld 5 [((0,1),(.c (.string ⟨#[99,
  117,116]⟩),true)),((1,1),(.c (.int .i64 1),true))] [.string ⟨#[]⟩,.int .i64 0]),(none,.bld 6 [((0,1),(.c (.string ⟨#[109,97,116,99,104]⟩),true)),((1,1),(.c (.int .i64 1),true))] [.string ⟨#[]⟩,.int .i64 0]),(none,.bld 7 [((0,1),(.c (.string ⟨#[103,97,108,108,97,105]⟩),true)),((1,1),(.c (.int .i64 0),
 true))] [.string ⟨#[]⟩,.int .i64 0]),(none,.bld 8 [((0,1),(.c (.string ⟨#[98,97,114,114,105,101,114]⟩),true)),((1,1),(.c (.int .i64 0),true))] [.string ⟨#[]⟩,.int .i64 0]),(none,.bld 9 [((0,1),(.c (.string ⟨#[115,105,100,101,115]⟩),true)),((1,1),(.c (.int .i64 0),true))] [.string ⟨#[]⟩,.int .i64 0]),
 (none,.bld 10 [((0,1),(.c (.string ⟨#[98,108,111,99,107,115]⟩),true)),((1,1),(.c (.int .i64 0),true))] [.string ⟨#[]⟩,.int .i64 0]),(none,.bld 11 [((0,1),(.c (.string ⟨#[102,97,99,116,111,114]⟩),true)),((1,1),(.c (.int .i64 (- (0+1))),true))] [.string ⟨#[]⟩,.int .i64 0]),(none,.bld 12 [((0,
 1),(.c (.string ⟨#[99,111,118,101,114]⟩),true)),((1,1),(.c (.int .i64 0),true))] [.string ⟨#[]⟩,.int .i64 0]),(none,.bld 13 [((0,1),(.c (.string ⟨#[99,108,97,115,115,105,102,121]⟩),true)),((1,1),(.c (.int .i64 0),true))] [.string ⟨#[]⟩,.int .i64 0]),(none,.bld 14 [((0,1),(.c (.string ⟨#[116,
  101,108,108]⟩),true)),((1,1),(.c (.int .i64 0),true))] [.string ⟨#[]⟩,.int .i64 0]),(none,.bld 15 [((2,2),(.t 1,true)),((4,2),(.t 2,true)),((6,2),(.t 3,true)),((8,2),(.t 4,true)),((10,2),(.t 5,true)),((12,2),(.t 6,true)),((14,2),(.t 7,true)),((16,2),(.t 8,true)),((18,2),(.t 9,true)),((20,2),(.t 10,
 true)),((22,2),(.t 11,true)),((24,2),(.t 12,true)),((26,2),(.t 13,true)),((28,2),(.t 14,true))] [.string ⟨#[]⟩,.int .i64 0,.string ⟨#[]⟩,.int .i64 0,.string ⟨#[]⟩,.int .i64 0,.string ⟨#[]⟩,.int .i64 0,.string ⟨#[]⟩,.int .i64 0,.string ⟨#[]⟩,.int .i64 0,.string ⟨#[]⟩,.int .i64 0,.string ⟨#[]⟩,.int .i64 0,
 .string ⟨#[]⟩,.int .i64 0,.string ⟨#[]⟩,.int .i64 0,.string ⟨#[]⟩,.int .i64 0,.string ⟨#[]⟩,.int .i64 0,.string ⟨#[]⟩,.int .i64 0,.string ⟨#[]⟩,.int .i64 0,.string ⟨#[]⟩,.int .i64 0]),oW 0 15 30]
def Wt :List Nat:=[0]
def Kn :zV:=.seq (.reg [] xK Wt) (.seq (.reg Wt xJ Wt) .ret)
abbrev Kb :Nat:=24
theorem KS :U6 Tryd.prog Tryd.f24.ntmps 0 [] Wt [(.cell 0 30 true)] Kn Kb:=Vs mix Tryd.func24 (by kernel_rfl) rfl
def xI :List zv:=[oI 4 0]
def xH :List zv:=[oM 6 0,oE 7 6,(none,.r (.mov 8 (.c (.int .i64 0))))]
def YE :List zv:=[oD 9 .lss 8 7]
def xG :List zv:=[oM 10 8,oS 5 10]
def xF :List zv:=[oM 11 1,oM 12 0,oM 13 5,oX 14 12 13 2,oT 15 14 2,(none,.call 16 (.t 11) [(.t 15,false)])]
def xE :List zv:=[oM 17 5,oS 4 17]
def xD :List zv:=[oB 18 .add 8 1,oS 8 18]
def xC :List zv:=[(none,.asg 4 (.c (.int .i64 (- (0+1)))) true)]
def jA :List Nat:=[0,1,4,5,7,8,9,16]
def Km :zV:=.seq (.reg jA xI jA) (.seq (.seq (.reg [0,1,4,5,9,16] xH jA) (.blk 0 (.loop (.seq (.reg [0,
 1,4,5,7,8,16] YE jA) (.seq (.cond (.t 9) .skip (.exit 0)) (.seq (.blk 1 (.seq (.reg jA xG jA) (.seq (.reg [0,
 1,4,5,7,8,9] xF jA) (.cond (.t 16) (.seq (.reg jA xE jA) .ret) .skip)))) (.reg jA xD jA))))))) (.seq (.reg jA xC jA) .ret))
abbrev Ka :Nat:=25
theorem KR :U6 Tryd.prog Tryd.f25.ntmps 2 [4] jA [(.tmp 4)] Km Ka:=Vs mix Tryd.func25 (by kernel_rfl) rfl
def xB :List zv:=[(none,.box 2 (.t 0)),oO 3]
def YD :ZV:=.take [1,2,3,4,5,6,7,8,9,10,11,12,13,14] (oF 4 2 0) (.take [2,3,4,5,6,7,8,9,10,11,12,13,14] (oL 5 4 1) (.take [3,4,5,6,7,8,9,10,11,12,13,14] (none,.r (.bin 6 .neq 0 (.t 5) (.c (.string ⟨#[]⟩)))) (.take [4,5,6,7,8,9,10,11,12,13,14] (oM 7 6) (.take [5,12,13,14] (some (7,
 true),.r (.fldA 8 (.t 2) 0)) (.take [12,13,14] (Xv 7 true 9 8 1) (.take [7,8,9,10,11,12,13,14] (Xv 7 true 10 1 1) (.take [8,9,10,11,12,13,14] (some (7,true),.r (.nilck 11 (.t 10))) (.take [9,10,11,12,13,14] (some (7,true),.r (.fldA 12 (.t 11) 0)) (.take [10,11,12,13,14] (Xv 7 true 13 12 1) (.take [11,
 12,13,14] (some (7,true),.r (.idxA 14 (.t 13) (.c (.int .i64 0)) 1)) (.take [12,13,14] (Xv 7 true 15 14 1) (.take [13,14] (vZ 7 true 16 .eql 9 15) (.take [14] (oP 17 7 16) (.one 14 (oS 3 17) .done))))))))))))))
def Ws :List Nat:=[0,1,2,3]
def Kl :zV:=.seq (.reg [0,1,3] xB Ws) (.seq (.draw Ws YD Ws) .ret)
abbrev Va :Nat:=26
theorem KQ :U6 Tryd.prog Tryd.f26.ntmps 2 [3] Ws [(.tmp 3)] Kl Va:=Vs mix Tryd.func26 (by kernel_rfl) rfl
def xA :List zv:=[oI 4 0,oO 5]
def xz :List zv:=[oM 10 0,oN 11 10,oF 12 11 0,oL 13 12 1,oM 14 1,oX 15 13 14 1,oL 16 15 1,oS 6 16]
def Jj :List zv:=[oM 17 6,(none,.r (.lenS 18 (.t 17))),oB 19 .lss 18 1,oM 20 19,oK 20 false 21 6,(some (20,false),.r (.lenS 22 (.t 21))),u9 20 false 23 .gtr 22 9,oQ 24 20 23,oM 25 24,oK 25 false 26 6,(some (25,false),.r (.lenS 27 (.t 26))),u9 25 false 28 .gtr 27 1,oK 25 false 29 28,
 oK 29 true 30 6,(some (29,true),.r (.idxS 31 (.t 30) (.c (.int .i64 0)))),(some (29,true),.r (.bin 32 .eql 0 (.t 31) (.c (.int .u8 48)))),(some (25,false),.r (.pick 33 (.t 29) (.t 32) (.c (.bool false)))),oQ 34 25 33]
def Qv :List zv:=[oI 4 0,oO 5]
def YC :List zv:=[oI 7 0]
def YB :List zv:=[oM 35 6,(none,.s2b 36 (.t 35)),oE 37 36,(none,.r (.mov 38 (.c (.int .i64 0))))]
def qe :List zv:=[oD 39 .lss 38 37]
def YA :List zv:=[oX 40 36 38 1,oL 41 40 1,oS 9 41]
def jL :List zv:=[oM 42 9,(none,.r (.bin 43 .lss 0 (.t 42) (.c (.int .u8 48)))),oM 44 43,oK 44 false 45 9,(some (44,false),.r (.bin 46 .gtr 0 (.t 45) (.c (.int .u8 57)))),oQ 47 44 46]
def qd :List zv:=[oI 4 0,oO 5]
def QV :List zv:=[oM 48 7,(none,.r (.bin 49 .mul 0 (.c (.int .i64 10)) (.t 48))),oM 50 9,(none,.r (.bin 51 .sub 0 (.t 50) (.c (.int .u8 48)))),(none,.r (.conv 52 .i64 (.t 51))),oD 53 .add 49 52,oS 7 53]
def QU :List zv:=[oB 54 .add 38 1,oS 38 54]
def QT :List zv:=[oM 55 7,oS 4 55,(none,.asg 5 (.c (.bool true)) true)]
def ZA :List Nat:=[0,1,4,5,6,7,9,34,36,37,38,39,47]
def Kk :zV:=.seq (.reg ZA xA ZA) (.seq (.reg ZA xz ZA) (.seq (.seq (.reg [0,1,4,5,6,7,9,36,37,38,39,47] Jj ZA) (.cond (.t 34) (.seq (.reg ZA Qv ZA) .ret) .skip)) (.seq (.reg ZA YC ZA) (.seq (.seq (.reg [0,
 1,4,5,6,7,9,34,39,47] YB ZA) (.blk 0 (.loop (.seq (.reg [0,1,4,5,6,7,9,34,36,37,38,47] qe ZA) (.seq (.cond (.t 39) .skip (.exit 0)) (.seq (.blk 1 (.seq (.reg ZA YA ZA) (.seq (.seq (.reg [0,
 1,4,5,6,7,9,34,36,37,38,39] jL ZA) (.cond (.t 47) (.seq (.reg ZA qd ZA) .ret) .skip)) (.reg ZA QV ZA)))) (.reg ZA QU ZA))))))) (.seq (.reg ZA QT ZA) .ret)))))
abbrev k9 :Nat:=27
theorem KP :U6 Tryd.prog Tryd.f27.ntmps 2 [4,5] ZA [(.tmp 4),(.tmp 5)] Kk k9:=Vs mix Tryd.func27 (by kernel_rfl) rfl
def xy :List zv:=[oZ 8]
def xx :List zv:=[oM 12 3,oB 13 .eql 12 0]
def VH :List zv:=[oZ 8]
def xw :List zv:=[oM 14 1,(none,.r (.bin 15 .eql 0 (.t 14) (.c (.string ⟨#[]⟩))))]
def VG :List zv:=[oM 16 0,oM 17 3,v6 18 50 16 17,oS 8 18]
def xv :List zv:=[oM 19 3,oB 20 .lss 19 0]
def xu :List zv:=[oM 21 0,oM 22 1,v6 23 51 21 22,oB 24 .add 23 1,oS 3 24]
def xr :List zv:=[oM 25 3,oM 26 0,(none,.r (.lenS 27 (.t 26))),oB 28 .add 27 1,(none,.r (.mm 29 false (.t 25) (.t 28))),oS 3 29]
def xq :List zv:=[oM 30 3,(none,.mk 31 (.t 30) (.t 30) 1 16 [.string ⟨#[]⟩]),oS 9 31]
def xp :List zv:=[oM 32 3,oB 33 .sub 32 1,oS 3 33]
def wI :List zv:=[oI 10 0]
def QS :List zv:=[oM 34 10,oM 35 3,oD 36 .lss 34 35]
def wH :List zv:=[oM 37 0,oM 38 1,v6 39 52 37 38,oS 11 39]
def wG :List zv:=[oM 40 11,oB 41 .lss 40 0]
def wF :List zv:=[oM 42 9,oM 43 10,oM 44 0,oM 45 11,oM 46 2,oD 47 .add 45 46,(none,.r (.slc 48 (.t 44) none (some (.t 47)) 0)),oX 49 42 43 1,oW 49 48 1]
def wE :List zv:=[oM 50 0,oM 51 11,oM 52 1,(none,.r (.lenS 53 (.t 52))),oD 54 .add 51 53,(none,.r (.slc 55 (.t 50) (some (.t 54)) none 0)),oS 0 55]
def wD :List zv:=[oM 56 10,oB 57 .add 56 1,oS 10 57]
def wC :List zv:=[oM 58 9,oM 59 10,oM 60 0,oX 61 58 59 1,oW 61 60 1]
def wB :List zv:=[oM 62 9,oM 63 10,oB 64 .add 63 1,(none,.slc 65 (.t 62) none (some (.t 64)) 1),oS 8 65]
def zS :List Nat:=[0,1,2,3,8,9,10,11,13,15,20,36,41]
def Kj :zV:=.seq (.reg zS xy zS) (.seq (.seq (.reg [0,1,2,3,8,9,10,11,15,20,36,41] xx zS) (.cond (.t 13) (.seq (.reg zS VH zS) .ret) .skip)) (.seq (.seq (.reg [0,
 1,2,3,8,9,10,11,13,20,36,41] xw zS) (.cond (.t 15) (.seq (.reg zS VG zS) .ret) .skip)) (.seq (.seq (.reg [0,1,2,3,8,9,10,11,13,15,36,41] xv zS) (.cond (.t 20) (.reg zS xu zS) .skip)) (.seq (.reg zS xr zS) (.seq (.reg zS xq zS) (.seq (.reg zS xp zS) (.seq (.reg zS wI zS) (.seq (.blk 0 (.loop (.seq (.seq (.reg [0,
 1,2,3,8,9,10,11,13,15,20,41] QS zS) (.cond (.t 36) .skip (.exit 0))) (.blk 1 (.seq (.reg zS wH zS) (.seq (.seq (.reg [0,1,2,3,8,9,10,11,13,15,20,36] wG zS) (.cond (.t 41) (.exit 0) .skip)) (.seq (.reg zS wF zS) (.seq (.reg zS wE zS) (.reg zS wD zS))))))))) (.seq (.reg zS wC zS) (.seq (.reg zS wB zS) .ret))))))))))
abbrev k8 :Nat:=40
theorem KO :U6 Tryd.prog Tryd.f40.ntmps 4 [8] zS [(.tmp 8)] Kj k8:=Vs mix Tryd.func40 (by kernel_rfl) rfl
abbrev gm :Nat:=51
def xo :List zv:=[oI 4 0]
def xn :List zv:=[oM 5 0,oM 6 1,v6 7 64 5 6,oS 4 7]
def Y6 :List Nat:=[0,1,4]
def Ki :zV:=.seq (.reg Y6 xo Y6) (.seq (.reg Y6 xn Y6) .ret)
abbrev k7 :Nat:=52
theorem KN :U6 Tryd.prog Tryd.f52.ntmps 2 [4] Y6 [(.tmp 4)] Ki k7:=Vs mix Tryd.func52 (by kernel_rfl) rfl
def xm :List zv:=[oI 4 0]
def xl :List zv:=[oM 14 1,(none,.r (.lenS 15 (.t 14))),oS 5 15]
def Yz :List zv:=[oM 17 5,oB 18 .eql 17 0,oM 19 18,oK 19 false 20 1,oK 19 false 21 0,vZ 19 false 22 .eql 20 21,oQ 23 19 22,oS 16 23]
def xk :List zv:=[oI 4 0]
def xj :List zv:=[oM 25 5,oB 26 .eql 25 1,oS 24 26]
def xi :List zv:=[oM 27 0,oM 28 1,(none,.r (.idxS 29 (.t 28) (.c (.int .i64 0)))),v6 30 74 27 29,oS 4 30]
def VF :List zv:=[oM 32 5,oM 33 0,(none,.r (.lenS 34 (.t 33))),oD 35 .geq 32 34,oS 31 35]
def VE :List zv:=[(none,.asg 4 (.c (.int .i64 (- (0+1)))) true)]
def VD :List zv:=[oM 37 5,(none,.bad (some 38)),oD 39 .leq 37 38,oM 40 39,oK 40 true 41 0,(some (40,true),.r (.lenS 42 (.t 41))),u9 40 true 43 .leq 42 64,oP 44 40 43,oS 36 44]
def VC :List zv:=[oM 45 0,oM 46 1,v6 47 75 45 46,oS 4 47]
def UW :List zv:=[oM 48 1,(none,.r (.idxS 49 (.t 48) (.c (.int .i64 0)))),oS 6 49]
def UV :List zv:=[oM 50 1,(none,.r (.idxS 51 (.t 50) (.c (.int .i64 1)))),oS 7 51]
def UU :List zv:=[oI 8 0]
def UT :List zv:=[oM 52 0,(none,.r (.lenS 53 (.t 52))),oM 54 5,oD 55 .sub 53 54,oB 56 .add 55 1,oS 9 56]
def US :List zv:=[oI 10 0]
def UR :List zv:=[oM 57 8,oM 58 9,oD 59 .lss 57 58]
def UQ :List zv:=[oM 60 0,oM 61 8,(none,.r (.idxS 62 (.t 60) (.t 61))),oM 63 6,oD 64 .neq 62 63]
def UP :List zv:=[oM 65 0,oM 66 8,oB 67 .add 66 1,oM 68 9,(none,.r (.slc 69 (.t 65) (some (.t 67)) (some (.t 68)) 0)),oM 70 6,v6 71 74 69 70,oS 11 71]
def UO :List zv:=[oM 72 11,oB 73 .lss 72 0]
def UN :List zv:=[(none,.asg 4 (.c (.int .i64 (- (0+1)))) true)]
def UM :List zv:=[oM 74 8,oM 75 11,oB 76 .add 75 1,oD 77 .add 74 76,oS 8 77]
def UL :List zv:=[oM 78 0,oM 79 8,oB 80 .add 79 1,(none,.r (.idxS 81 (.t 78) (.t 80))),oM 82 7,oD 83 .eql 81 82,oM 84 83,oK 84 true 85 0,oK 84 true 86 8,oK 84 true 87 8,oK 84 true 88 5,vZ 84 true 89 .add 87 88,(some (84,true),.r (.slc 90 (.t 85) (some (.t 86)) (some (.t 89)) 0)),
 oK 84 true 91 1,vZ 84 true 92 .eql 90 91,oP 93 84 92]
def UK :List zv:=[oM 94 8,oS 4 94]
def UJ :List zv:=[oM 95 8,oB 96 .add 95 1,oS 8 96]
def UI :List zv:=[oM 97 10,oB 98 .add 97 1,oS 10 98]
def UH :List zv:=[oM 99 5,(none,.bad (some 100)),oD 101 .leq 99 100,oM 102 101,oK 102 true 103 10,oK 102 true 104 8,(some (102,true),.call 105 (.f 56) [(.t 104,false)]),vZ 102 true 106 .gtr 103 105,oP 107 102 106]
def UG :List zv:=[oM 108 0,oM 109 8,(none,.r (.slc 110 (.t 108) (some (.t 109)) none 0)),oM 111 1,v6 112 75 110 111,oS 12 112]
def UF :List zv:=[oM 113 12,oB 114 .geq 113 0]
def UE :List zv:=[oM 115 12,oM 116 8,oD 117 .add 115 116,oS 4 117]
def UD :List zv:=[(none,.asg 4 (.c (.int .i64 (- (0+1)))) true)]
def UC :List zv:=[oM 118 5,(none,.bad (some 119)),oD 120 .gtr 118 119,oM 121 120,oK 121 true 122 10,oK 121 true 123 8,(some (121,true),.r (.bin 124 .shr 0 (.t 123) (.c (.int .u64 4)))),(some (121,true),.r (.bin 125 .add 0 (.c (.int .i64 4)) (.t 124))),vZ 121 true 126 .geq 122 125,
 oP 127 121 126,oM 128 127,oK 128 true 129 8,oK 128 true 130 9,vZ 128 true 131 .lss 129 130,oP 132 128 131]
def UB :List zv:=[oM 133 0,oM 134 8,(none,.r (.slc 135 (.t 133) (some (.t 134)) none 0)),oM 136 1,v6 137 76 135 136,oS 13 137]
def UA :List zv:=[oM 138 13,oB 139 .lss 138 0]
def Uz :List zv:=[(none,.asg 4 (.c (.int .i64 (- (0+1)))) true)]
def Uy :List zv:=[oM 140 8,oM 141 13,oD 142 .add 140 141,oS 4 142]
def Ux :List zv:=[(none,.asg 4 (.c (.int .i64 (- (0+1)))) true)]
def zp :List Nat:=[0,1,4,5,6,7,8,9,10,11,12,13,16,24,31,36,59,64,73,93,107,114,132,139]
def Kh :zV:=.seq (.reg zp xm zp) (.seq (.reg zp xl zp) (.seq (.blk 0 (.seq (.reg zp Yz zp) (.cond (.t 16) (.seq (.reg zp xk zp) .ret) (.seq (.reg zp xj zp) (.cond (.t 24) (.seq (.reg zp xi zp) .ret) (.seq (.reg zp VF zp) (.cond (.t 31) (.seq (.reg zp VE zp) .ret) (.seq (.reg zp VD zp) (.cond (.t 36) (.seq (.reg zp VC zp) .ret) .skip))))))))) (.seq (.reg zp UW zp) (.seq (.reg zp UV zp) (.seq (.reg zp UU zp) (.seq (.reg zp UT zp) (.seq (.reg zp US zp) (.seq (.blk 1 (.loop (.seq (.seq (.reg [0,
 1,4,5,6,7,8,9,10,11,12,13,16,24,31,36,64,73,93,107,114,132,139] UR zp) (.cond (.t 59) .skip (.exit 1))) (.blk 2 (.seq (.seq (.reg [0,1,4,5,6,7,8,9,10,11,12,13,16,24,31,36,59,73,93,107,114,132,139] UQ zp) (.cond (.t 64) (.seq (.reg zp UP zp) (.seq (.seq (.reg [0,
 1,4,5,6,7,8,9,10,11,12,13,16,24,31,36,59,64,93,107,114,132,139] UO zp) (.cond (.t 73) (.seq (.reg zp UN zp) .ret) .skip)) (.reg zp UM zp))) .skip)) (.seq (.seq (.reg [0,
 1,4,5,6,7,8,9,10,11,12,13,16,24,31,36,59,64,73,107,114,132,139] UL zp) (.cond (.t 93) (.seq (.reg zp UK zp) .ret) .skip)) (.seq (.reg zp UJ zp) (.seq (.reg zp UI zp) (.seq (.reg [0,
 1,4,5,6,7,8,9,10,11,12,13,16,24,31,36,59,64,73,93,114,132,139] UH zp) (.cond (.t 107) (.seq (.reg zp UG zp) (.seq (.seq (.reg [0,1,4,5,6,7,8,9,10,11,12,13,16,24,31,
 36,59,64,73,93,107,132,139] UF zp) (.cond (.t 114) (.seq (.reg zp UE zp) .ret) .skip)) (.seq (.reg zp UD zp) .ret))) (.seq (.reg [0,
 1,4,5,6,7,8,9,10,11,12,13,16,24,31,36,59,64,73,93,107,114,139] UC zp) (.cond (.t 132) (.seq (.reg zp UB zp) (.seq (.seq (.reg [0,1,4,5,6,7,8,9,10,11,12,13,16,24,31,
 36,59,64,73,93,107,114,132] UA zp) (.cond (.t 139) (.seq (.reg zp Uz zp) .ret) .skip)) (.seq (.reg zp Uy zp) .ret))) .skip)))))))))))) (.seq (.reg zp Ux zp) .ret)))))))))
abbrev k6 :Nat:=64
theorem KM :U6 Tryd.prog Tryd.f64.ntmps 2 [4] zp [(.tmp 4)] Kh k6:=Vs mix Tryd.func64 (by kernel_rfl) rfl
abbrev gl :Nat:=74
end Go.Proofs.YtneiihheeghdcaaDoor

namespace Go.Proofs
open Go.Shelf
def Tryd.lays217_ren :Go.Shelf.Ren:=⟨fun|217=>74|266=>82|n=>n,fun|9=>9|5=>5|3=>3|n=>n,fun|n=>n⟩
theorem Tryd.lays217 :Go.Proofs.Lays.n217 Tryd.prog Tryd.lays217_ren:={
 mixed:=by kernel_rfl
 f217:=Tryd.func74.trans (congrArg some (by kernel_rfl))
 f266:=Tryd.func82.trans (congrArg some (by kernel_rfl))
 t3:=Tryd.underlying3
 a3:=Tryd.isAgg3
 z3:=Tryd.sizeOf3
 v3:=Tryd.zeroValue3
 t5:=Tryd.underlying5
 a5:=Tryd.isAgg5
 z5:=Tryd.sizeOf5
 v5:=Tryd.zeroValue5
 t9:=Tryd.underlying9
 a9:=Tryd.isAgg9
 z9:=Tryd.sizeOf9
 v9:=Tryd.zeroValue9}
open Go.RowKit Go.Lib in
theorem Tryd.stringslite_IndexByte (s:ByteArray)(c:Int)(w:World):
 Calls Tryd.prog 74 #[.string s,.int .u8 c] w fun e w'=>e= .returned (.int .i64 (Lib.indexByte s.data.toList c.toNat.toUInt8))∧w'=w:=Any.stringslite_IndexByte Tryd.lays217 s c w
def Tryd.lays138_ren :Go.Shelf.Ren:=⟨fun|138=>51|195=>61|218=>63|143=>52|219=>64|217=>74|225=>75|224=>56|267=>76|266=>82|314=>83|n=>n,fun|9=>9|3=>3|4=>4|5=>5|0=>0|46=>22|146=>98|51=>97|n=>n,fun|1=>0|n=>n⟩
theorem Tryd.lays138 :Go.Proofs.Lays.n138 Tryd.prog Tryd.lays138_ren:={
 mixed:=by kernel_rfl
 f138:=Tryd.func51.trans (congrArg some (by kernel_rfl))
 f143:=Tryd.func52.trans (congrArg some (by kernel_rfl))
 f195:=Tryd.func61.trans (congrArg some (by kernel_rfl))
 f217:=Tryd.func74.trans (congrArg some (by kernel_rfl))
 f218:=Tryd.func63.trans (congrArg some (by kernel_rfl))
 f219:=Tryd.func64.trans (congrArg some (by kernel_rfl))
 f224:=Tryd.func56.trans (congrArg some (by kernel_rfl))
 f225:=Tryd.func75.trans (congrArg some (by kernel_rfl))
 f266:=Tryd.func82.trans (congrArg some (by kernel_rfl))
 f267:=Tryd.func76.trans (congrArg some (by kernel_rfl))
 f314:=Tryd.func83.trans (congrArg some (by kernel_rfl))
 t0:=Tryd.underlying0
 a0:=Tryd.isAgg0
 z0:=Tryd.sizeOf0
 v0:=Tryd.zeroValue0
 t3:=Tryd.underlying3
 a3:=Tryd.isAgg3
 z3:=Tryd.sizeOf3
 v3:=Tryd.zeroValue3
 t4:=Tryd.underlying4
 a4:=Tryd.isAgg4
 z4:=Tryd.sizeOf4
 v4:=Tryd.zeroValue4
 t5:=Tryd.underlying5
 a5:=Tryd.isAgg5
 z5:=Tryd.sizeOf5
 v5:=Tryd.zeroValue5
 t9:=Tryd.underlying9
 a9:=Tryd.isAgg9
 z9:=Tryd.sizeOf9
 v9:=Tryd.zeroValue9
 t46:=Tryd.underlying22
 a46:=Tryd.isAgg22
 z46:=Tryd.sizeOf22
 v46:=Tryd.zeroValue22
 t51:=Tryd.underlying97
 a51:=Tryd.isAgg97
 z51:=Tryd.sizeOf97
 v51:=Tryd.zeroValue97
 t146:=Tryd.underlying98
 a146:=Tryd.isAgg98
 z146:=Tryd.sizeOf98
 v146:=Tryd.zeroValue98
 g1:=by kernel_rfl}
theorem Tryd.strings_Count_one (s:ByteArray)(c:UInt8)(w:World):
 Calls Tryd.prog 51 #[.string s,.string ⟨#[c]⟩] w fun e w'=>e= .returned (.int .i64 (Lib.countByte s.data.toList c))∧w'=w:=Any.strings_Count_one Tryd.lays138 s c w
end Go.Proofs

namespace Go.Ga.Gl
open Go Go.Ga
def z1 (l:List UInt8):ByteArray:=⟨l.toArray⟩
theorem Jv (l:List UInt8):(z1 l).data.toList=l:=by simp[z1]
theorem WE (l:List UInt8):(z1 l).size=l.length:=by simp[z1,ByteArray.size]
theorem kh (a b:List UInt8):z1 a++z1 b=z1 (a++b):=by
 apply ByteArray.ext
 simp[z1]
theorem kf (l:List UInt8)(a b:Nat):(z1 l).extract a b=z1 ((l.take b).drop a):=by
 apply ByteArray.ext
 apply Array.ext'
 simp[z1,List.extract_eq_take_drop,List.drop_take]
theorem Kv (l:List UInt8)(k:Nat):(z1 l).data.getD k 0=l.getD k 0:=by
 simp[z1]
theorem Q2 (s:ByteArray):∀(n i:Nat) (r:List UInt8),s.size - i=n→ByteArray.toList.loop s i r=r.reverse++s.data.toList.drop i
 | 0,i,r,h=>by
   unfold ByteArray.toList.loop
   rw[if_neg (by omega),List.drop_eq_nil_of_le (by show s.data.toList.length≤i;rw[Array.length_toList];show s.size≤i;omega),List.append_nil]
 | n+1,i,r,h=>by
   have hi:i<s.data.toList.length:=by rw[Array.length_toList];show i<s.size;omega
   unfold ByteArray.toList.loop
   rw[if_pos (by omega),Q2 s n (i+1) _ (by omega),List.drop_eq_getElem_cons hi]
   have e:s.get! i=s.data.toList[i]:=by
    have h2:i<s.data.size:=by simpa using hi
    show s.data[i]! =_
    rw[getElem!_pos s.data i h2];simp
   rw[e];simp
theorem uD (s:ByteArray):s.toList=s.data.toList:=by
 unfold ByteArray.toList
 rw[Q2 s s.size 0 [] (by omega)];simp
theorem yH (l:List UInt8):(z1 l).toList=l:=by rw[uD,Jv]
def zO (c:UInt8):List UInt8→List (List UInt8)
 |[]=>[[]]
 | b::r=>if b=c then []::zO c r else match zO c r with
   |p::ps=>(b::p)::ps
   |[]=>[[b]]
theorem Q8 (c b:UInt8)(r:List UInt8):zO c (b::r)=if b=c then []::zO c r else match zO c r with
 |p::ps=>(b::p)::ps
 |[]=>[[b]]:=rfl
theorem W5 (b:UInt8)(l:List UInt8)(c:UInt8):Lib.indexByte (b::l) c=if b==c then 0 else if Lib.indexByte l c== -1 then -1 else Lib.indexByte l c+1:=rfl
theorem QD (c:UInt8):∀l,zO c l≠ []
 |[]=>by simp[zO]
 | b::r=>by
   unfold zO
   split
   · simp
   · split<;>simp
theorem yK (c:UInt8):∀l,(zO c l).length=l.count c+1
 |[]=>rfl
 | b ::r=>by
   unfold zO
   have ih:=yK c r
   by_cases h:b=c
   · rw[if_pos h,List.length_cons,ih,h,List.count_cons_self]
   · rw[if_neg h,List.count_cons_of_ne h]
     have hne:=QD c r
     cases hs:zO c r with
     |nil=>exact absurd hs hne
     |cons p ps=>rw[hs] at ih;exact ih
theorem Qr (c:UInt8)(l:List UInt8):l.count c≤l.length:=List.count_le_length
theorem yJ (c:UInt8):∀l:List UInt8,∀w∈zO c l,w.length≤l.length
 | [],w,h=>by
   simp[zO] at h;subst h;simp
 | b ::r,w,h=>by
   rw[Q8] at h
   have ih:=yJ c r
   split at h
   · rcases List.mem_cons.1 h with rfl|h
     · simp
     · have:=ih w h;simp;omega
   · cases hs:zO c r with
     |nil=>exact absurd hs (QD c r)
     | cons p ps=>
       rw[hs] at h ih
       rcases List.mem_cons.1 h with rfl|h
       · have:=ih p (.head _);simp;omega
       · have:=ih w (.tail _ h);simp;omega
theorem Q7 {c:UInt8}:∀{l:List UInt8},l.count c=0→zO c l=[l]
 |[],_=>rfl
 | b::r,h=>by
   have hb:b≠c:=fun e=>by rw[e,List.count_cons_self] at h;omega
   rw[List.count_cons_of_ne hb] at h
   unfold zO
   rw[if_neg hb,Q7 h]
theorem Vj {c:UInt8}:∀{l:List UInt8},0<l.count c→∃m:Nat,Lib.indexByte l c=(m:Int)∧m<l.length∧zO c l=l.take m::zO c (l.drop (m+1))∧(l.drop (m+1)).count c+1=l.count c
 |[],h=>by simp at h
 | b ::r,h=>by
   rw[W5,Q8]
   by_cases hb:b=c
   · subst hb
     exact⟨0,by simp,by simp,by simp,by simp⟩
   · rw[List.count_cons_of_ne hb] at h
     obtain⟨m,h1,h2,h3,h4⟩:=Vj h
     have hbe:(b==c)=false:=by simpa using hb
     refine⟨m+1,?_,by simp;omega,?_,?_⟩
     · rw[hbe,h1]
       have:((m:Int)== -1)=false:=by simp
       simp[this]
     · rw[if_neg hb,h3];simp
     · rw[List.count_cons_of_ne hb];simpa using h4
def Z6 (ps:List (List UInt8)):List za:=ps.map fun p=> .sc (.string (z1 p))
theorem Zh (ps:List (List UInt8)):(Z6 ps).length=ps.length:=by simp[Z6]
theorem yF {ps:List (List UInt8)}{k:Nat}{p:List UInt8}(h:ps[k]?=some p):(Z6 ps)[k]?=some (.sc (.string (z1 p))):=by simp[Z6,h]
theorem WC (ps:List (List UInt8))(k:Nat)(p:List UInt8):(Z6 ps).set k (.sc (.string (z1 p)))=Z6 (ps.set k p):=by simp[Z6,List.map_set]
theorem vm (ps:List (List UInt8))(a b:Nat):Zm (Z6 ps) 1 a b=Z6 ((ps.drop a).take (b - a)):=by simp[Zm,Z6,List.map_take,List.map_drop]
theorem qM (ps:List (List UInt8)):za.plainL (Z6 ps)=true:=(jN (fun p=> .string (z1 p)) ps).1
theorem uH (ps:List (List UInt8)):za.flatL (Z6 ps)=true:=(jN (fun p=> .string (z1 p)) ps).2
theorem Q4 :∀ps:List (List UInt8),za.cellOkL (Z6 ps)=true
 |[]=>rfl
 | p::ps=>by
   have:=Q4 ps
   simpa[Z6,za.cellOkL,za.cellOk] using this
theorem qB (ps:List (List UInt8)):za.copyableL (Z6 ps)=true:=plain_copyableL _ (qM ps)
theorem WD (ps:List (List UInt8)):za.freezeL (Z6 ps)=Z6 ps:=copyable_freezeL _ (qB ps)
theorem we (ps:List (List UInt8)):za.ids0L (Z6 ps)=true:=plain_ids0L _ (qM ps)
theorem vl (g:Nat→Option Nat)(ps:List (List UInt8)):za.renL g (Z6 ps)=Z6 ps:=ids0_renL g _ (we ps)
theorem uG (n:Nat):zq [.string (z1 [])] n=Z6 (List.replicate n []):=by
 simp only[zq,List.map]
 induction n with
 |zero=>rfl
 |succ n ih=>simp only[List.replicate_succ,List.flatten_cons,ih];rfl
theorem KG (l:List UInt8):ByteArray.mk l.toArray=z1 l:=rfl
theorem ke (a b:List UInt8):j5 .eql (z1 a) (z1 b)=some (.bool (decide (a=b))):=by
 unfold j5
 simp only[yH]
theorem kb (a b:List UInt8):j5 .neq (z1 a) (z1 b)=some (.bool (!decide (a=b))):=by
 unfold j5
 simp only[yH]
theorem ki (a b:List UInt8):j5 .add (z1 a) (z1 b)=if a.length+b.length≤9223372036854775807 then some (.string (z1 (a++b))) else none:=by
 unfold j5
 simp only[WE,kh]
theorem kg {a b:List UInt8}(h:a.length+b.length≤1000000000000):j5 .add (z1 a) (z1 b)=some (.string (z1 (a++b))):=by
 rw[ki,if_pos (by omega)]
attribute [go_sem] Jv KG ke kb WE Kv kf Zh qM uH Q4 qB WD we vl
end Go.Ga.Gl
set_option maxRecDepth 100000
set_option maxHeartbeats 4000000
namespace Go.Proofs.YtneiihheeghdcaaDoor
open Go Go.Ga Go.Ga.Gl
theorem VA (l:List UInt8)(c:UInt8):zJ Tryd.prog [] gm [.sc (.string (z1 l)),.sc (.string ⟨#[c]⟩)] [] fun r h'=>r= .sc (.int .i64 ((l.count c:Nat):Int))∧h'=[]:=
 yf (us:=[.string (z1 l),.string ⟨#[c]⟩]) (by kernel_rfl) fun w=>by
  have:=Tryd.strings_Count_one (z1 l) c w
  rw[Jv] at this
  exact this
theorem vq (l:List UInt8)(c:Int):zJ Tryd.prog [] gl [.sc (.string (z1 l)),.sc (.int .u8 c)] [] fun r h'=>r= .sc (.int .i64 (Lib.indexByte l c.toNat.toUInt8))∧h'=[]:=
 yf (us:=[.string (z1 l),.int .u8 c]) (by kernel_rfl) fun w=>by
  have:=Tryd.stringslite_IndexByte (z1 l) c w
  rw[Jv] at this
  exact this
theorem vp (l:List UInt8):zJ Tryd.prog [] k6 [.sc (.string (z1 l)),.sc (.string ⟨#[32]⟩)] [] fun r h'=>r= .sc (.int .i64 (Lib.indexByte l 32))∧h'=[]:=by
 have h8:(((32:UInt8).toNat:Int))=32:=rfl
 have s1:(z1 [32]).size=1:=rfl
 refine KM rfl ?_
 unfold Kh zp
 refine zc fun KY hKY=>?_
 simp only[go_sem,xm]
 apply hKY
 refine zc fun KY hKY=>?_
 simp only[go_sem,xl,List.length_cons,List.length_nil]
 apply hKY
 refine zr fun X1 hn1 he1 hr1=>?_
 refine Zp fun X2 hn2 he2 hf2 hr2=>?_
 by_cases e:l=[32]
 · subst e
   refine zc fun KY hKY=>?_
   simp only[go_sem,Yz,List.length_cons,List.length_nil]
   apply hKY
   refine Q1 ?_
   refine zc fun KY hKY=>?_
   simp only[go_sem,xk]
   apply hKY
   refine zz ?_
   repeat (first|refine hr2 _ ?_|refine hr1 _ ?_)
   simp only[go_sem]
   rfl
 · have hd:decide (([32]:List UInt8)=l)=false:=decide_eq_false fun h=>e h.symm
   refine zc fun KY hKY=>?_
   simp only[go_sem,Yz,hd,List.length_cons,List.length_nil]
   apply hKY
   refine yu ?_
   refine zc fun KY hKY=>?_
   simp only[go_sem,xj]
   apply hKY
   refine Q1 ?_
   refine zc fun KY hKY=>?_
   simp only[go_sem,xi,List.length_cons,List.length_nil]
   refine Ze rfl (by simp only[go_sem]<;>rfl) ((vq l 32).mono ?_)
   rintro rr hh ⟨rfl,rfl⟩
   refine⟨rfl,rfl,rfl,?_⟩
   simp only[go_sem]
   apply hKY
   refine zz ?_
   repeat (first|refine hr2 _ ?_|refine hr1 _ ?_)
   simp only[go_sem]
   rfl
theorem uJ (l:List UInt8):zJ Tryd.prog [] k7 [.sc (.string (z1 l)),.sc (.string (z1 [32]))] [] fun r h'=>r= .sc (.int .i64 (Lib.indexByte l 32))∧h'=[]:=by
 refine KN rfl ?_
 unfold Ki Y6
 refine zc fun KY hKY=>?_
 simp only[go_sem,xo]
 apply hKY
 refine zc fun KY hKY=>?_
 simp only[go_sem,xn]
 refine Ze rfl (by simp only[go_sem]<;>rfl) ((vp l).mono ?_)
 rintro rr hh ⟨rfl,rfl⟩
 refine⟨rfl,rfl,rfl,?_⟩
 simp only[go_sem]
 apply hKY
 refine zz ?_
 simp only[go_sem]
theorem W8 (l:List UInt8)(hl:l.length≤1000000000):zJ Tryd.prog [] k8 [.sc (.string (z1 l)),.sc (.string (z1 [32])),.sc (.int .i64 0),.sc (.int .i64 (-1))] [] fun r h'=>r= .own (some 1) (Z6 (zO 32 l))∧h'=[]:=by
 obtain⟨c,hc⟩:∃c,c=l.count 32:=⟨_,rfl⟩
 have hcl:=Qr 32 l
 rw[←hc] at hcl
 have hC:=VA l 32
 rw[←hc] at hC
 have w1:IntKind.i64.wrap ((c:Int)+1)=((c+1:Nat):Int):=by rw[IntWalk.i64_in _ (by omega)];omega
 have w2:IntKind.i64.wrap ((l.length:Int)+1)=((l.length+1:Nat):Int):=by rw[IntWalk.i64_in _ (by omega)];omega
 have hmn:min ((c+1:Nat):Int) ((l.length+1:Nat):Int)=((c+1:Nat):Int):=by omega
 have hmk:16*(c+1)≤140737488355328∧((c+1:Nat):Int)≤9223372036854775807:=by omega
 have w3:IntKind.i64.wrap (((c+1:Nat):Int) - 1)=(c:Int):=by rw[IntWalk.i64_in _ (by omega)];omega
 refine KO rfl ?_
 unfold Kj zS
 refine zc fun KY hKY=>?_
 simp only[go_sem,xy]
 apply hKY
 refine zr fun X1 hn1 he1 hr1=>?_
 refine zc fun KY hKY=>?_
 simp only[go_sem,xx]
 apply hKY
 refine yu ?_
 refine zC ?_
 repeat (first|refine hn1 _ ?_|refine he1 _ _ ?_)
 refine zr fun X2 hn2 he2 hr2=>?_
 refine zc fun KY hKY=>?_
 simp only[go_sem,xw]
 apply hKY
 refine yu ?_
 refine zC ?_
 repeat (first|refine hn2 _ ?_|refine he2 _ _ ?_|refine hn1 _ ?_|refine he1 _ _ ?_)
 refine zr fun X3 hn3 he3 hr3=>?_
 refine zc fun KY hKY=>?_
 simp only[go_sem,xv]
 apply hKY
 refine Q1 ?_
 refine Z5 fun KY hKY=>?_
 simp only[go_sem,xu]
 refine Ze rfl (by simp only[go_sem]<;>rfl) ((hC).mono ?_)
 rintro rr hh ⟨rfl,rfl⟩
 refine⟨rfl,rfl,rfl,?_⟩
 simp only[go_sem,w1]
 apply hKY
 repeat (first|refine hn3 _ ?_|refine he3 _ _ ?_|refine hn2 _ ?_|refine he2 _ _ ?_|refine hn1 _ ?_|refine he1 _ _ ?_)
 refine zc fun KY hKY=>?_
 simp only[go_sem,xr,w2,hmn]
 apply hKY
 refine zc fun KY hKY=>?_
 simp only[go_sem,xq,hmk,Int.le_refl,uG]
 apply hKY
 refine zc fun KY hKY=>?_
 simp only[go_sem,xp,w3]
 apply hKY
 refine zc fun KY hKY=>?_
 simp only[go_sem,wI]
 apply hKY
 refine zr fun X4 hn4 he4 hr4=>?_
 refine Zp fun X5 hn5 he5 hf5 hr5=>?_
 try simp only[go_sem]
 refine QB (α:=Nat×List (List UInt8)×List UInt8) [11,36,41] (fun(i,z,r)=>[(0,.sc (.string (z1 r))),(9,.own (some 1) (Z6 (z++List.replicate (c+1 - i) []))),(10,.sc (.int .i64 (i:Int)))]) (fun(i,z,r)=>[]) (fun(i,z,r) q=>i≤c∧z.length=i∧zO 32 l=z++zO 32 r∧i+r.count 32=c∧r.length≤l.length∧q=c - i) ((0,[],l)) (c) rfl (by first|(simp only[go_sem,zw,zB];done)|with_reducible rfl|rfl) (⟨Nat.zero_le _,rfl,rfl,by omega,Nat.le_refl _,rfl⟩) ?_
 rintro⟨i,z,r⟩ q ⟨hi,hzl,hsp,hcr,hrl,rfl⟩ X6 hn6 he6 hr6
 simp only[go_sem,zw,zB]
 refine zr fun X7 hn7 he7 hr7=>?_
 rcases Nat.lt_or_ge i c with hi2|hi2
 · have hdx:decide ((i:Int)<(c:Int))=true:=decide_eq_true (by omega)
   obtain⟨m,hm1,hm2,hm3,hm4⟩:=Vj (c:=32) (l:=r) (by omega)
   have hI:=uJ r
   rw[hm1] at hI
   have hd0:decide ((m:Int)<0)=false:=decide_eq_false (by omega)
   have wm0:IntKind.i64.wrap ((m:Int)+0)=(m:Int):=by rw[IntWalk.i64_in _ (by omega)];omega
   have wm1:IntKind.i64.wrap ((m:Int)+1)=((m+1:Nat):Int):=by rw[IntWalk.i64_in _ (by omega)];omega
   have hrep:List.replicate (c+1 - i) ([]:List UInt8)=[]::List.replicate (c+1 - (i+1)) []:=by
    rw[show c+1 - i=(c+1 - (i+1))+1 by omega,List.replicate_succ]
   have hset:(z++List.replicate (c+1 - i) []).set i (r.take m)=(z++[r.take m])++List.replicate (c+1 - (i+1)) []:=by
    rw[List.set_append_right _ _ (by omega),hrep,show i - z.length=0 by omega];simp
   have hzn:(z++List.replicate (c+1 - i) ([]:List UInt8)).length=c+1:=by simp;omega
   refine zc fun KY hKY=>?_
   simp only[go_sem,QS,hdx]
   apply hKY
   refine Q1 ?_
   refine zC ?_
   repeat (first|refine hn7 _ ?_|refine he7 _ _ ?_|refine he6 _ _ ?_|refine hn5 _ ?_|refine he5 _ ?_|refine hf5 _ _ (by decide) ?_|refine hn4 _ ?_|refine he4 _ _ ?_|refine hn3 _ ?_|refine he3 _ _ ?_|refine hn2 _ ?_|refine he2 _ _ ?_|refine hn1 _ ?_|refine he1 _ _ ?_)
   refine Zp fun X8 hn8 he8 hf8 hr8=>?_
   refine zc fun KY hKY=>?_
   simp only[go_sem,wH]
   refine Ze rfl (by simp only[go_sem]<;>rfl) ((hI).mono ?_)
   rintro rr hh ⟨rfl,rfl⟩
   refine⟨rfl,rfl,rfl,?_⟩
   simp only[go_sem]
   apply hKY
   refine zr fun X9 hn9 he9 hr9=>?_
   refine zc fun KY hKY=>?_
   simp only[go_sem,wG,hd0]
   apply hKY
   refine yu ?_
   refine zC ?_
   repeat (first|refine hn9 _ ?_|refine he9 _ _ ?_|refine hn8 _ ?_|refine he8 _ ?_|refine hf8 _ _ (by decide) ?_|refine hn7 _ ?_|refine he7 _ _ ?_|refine he6 _ _ ?_|refine hn5 _ ?_|refine he5 _ ?_|refine hf5 _ _ (by decide) ?_|refine hn4 _ ?_|refine he4 _ _ ?_|refine hn3 _ ?_|refine he3 _ _ ?_|refine hn2 _ ?_|refine he2 _ _ ?_|refine hn1 _ ?_|refine he1 _ _ ?_)
   refine zc fun KY hKY=>?_
   simp only[go_sem,wF,wm0,Zh,hzn,(show i<c+1 by omega),(show m≤r.length by omega),WC,hset]
   apply hKY
   refine zc fun KY hKY=>?_
   simp only[go_sem,wE,wm1,(show m+1≤r.length by omega),List.length_cons,List.length_nil,List.take_length,Nat.le_refl]
   apply hKY
   refine Z5 fun KY hKY=>?_
   simp only[go_sem,wD,Um (show i<4611686018427387904 by omega)]
   apply hKY
   repeat (first|refine hn9 _ ?_|refine he9 _ _ ?_|refine hn8 _ ?_|refine he8 _ ?_|refine hf8 _ _ (by decide) ?_|refine hn7 _ ?_|refine he7 _ _ ?_)
   refine hn6 _ ((i+1,z++[r.take m],r.drop (m+1))) (c - (i+1)) (by omega) (by first|(simp only[go_sem,zw,zB];done)|with_reducible rfl) ?_
   exact⟨hi2,by simp[hzl],by rw[hsp,hm3];simp,by omega,by simp;omega,rfl⟩
 obtain rfl:i=c:=by omega
 have hdx:decide ((i:Int)<(i:Int))=false:=decide_eq_false (by omega)
 have hzn:(z++List.replicate (i+1 - i) ([]:List UInt8)).length=i+1:=by simp;omega
 have hset:(z++List.replicate (i+1 - i) []).set i r=z++[r]:=by
  rw[List.set_append_right _ _ (by omega),show i+1 - i=1 by omega,show i - z.length=0 by omega];simp
 have hw:IntKind.i64.wrap ((i:Int)+1)=((i+1:Nat):Int):=by rw[IntWalk.i64_in _ (by omega)];omega
 have hzl2:(z++[r]).length=i+1:=by simp[hzl]
 refine zc fun KY hKY=>?_
 simp only[go_sem,QS,hdx]
 apply hKY
 refine yu ?_
 refine Ja ?_
 repeat (first|refine hn7 _ ?_|refine he7 _ _ ?_|refine he6 _ _ ?_|refine hn5 _ ?_|refine he5 _ ?_|refine hf5 _ _ (by decide) ?_|refine hn4 _ ?_|refine he4 _ _ ?_|refine hn3 _ ?_|refine he3 _ _ ?_|refine hn2 _ ?_|refine he2 _ _ ?_|refine hn1 _ ?_|refine he1 _ _ ?_)
 refine zc fun KY hKY=>?_
 simp only[go_sem,wC,Zh,hzn,(show i<i+1 by omega),WC,hset]
 apply hKY
 refine zc fun KY hKY=>?_
 simp only[go_sem,wB,hw,Zh,hzl2,Nat.le_refl,vm]
 apply hKY
 refine zz ?_
 repeat (first|refine hr7 _ ?_|refine hr6 _ ?_|refine hr5 _ ?_|refine hr4 _ ?_|refine hr3 _ ?_|refine hr2 _ ?_|refine hr1 _ ?_)
 simp only[go_sem]
 rw[hsp,Q7 (by omega)]
 simp
 rw[List.take_of_length_le (by simp;omega)]
theorem vo (l:List UInt8)(hl:l.length≤1000000000):zJ Tryd.prog [] Kc [.sc (.string (z1 l)),.sc (.string (z1 [32]))] [] fun r h'=>r= .own (some 1) (Z6 (zO 32 l))∧h'=[]:=by
 refine KT rfl ?_
 unfold Ko Y7
 refine zc fun KY hKY=>?_
 simp only[go_sem,xM]
 apply hKY
 refine zc fun KY hKY=>?_
 simp only[go_sem,xL]
 apply Ji [] [] false none rfl
 iterate 8 (first|(simp only[go_sem,zP]<;>rfl)|rfl)
 refine(W8 l hl).mono ?_
 rintro _ _ ⟨rfl,rfl⟩
 refine⟨Nat.le_of_ble_eq_true rfl,(fun hh=>by cases hh),?_⟩
 simp only[go_sem,jb,zb.after]
 apply hKY
 refine zz ?_
 simp only[go_sem]
end Go.Proofs.YtneiihheeghdcaaDoor

namespace Go.Ga.Gl
open Go Go.Ga
def Wq :List (List UInt8×Int):=[([],0),([118,101,114,116,105,99,101,115],1),([97,100,100],2),([114,101,109,111,118,101],2),([103,114,111,119],0),([99,117,116],1),([109,97,116,99,104],1),([103,97,108,108,97,105],0),([98,97,114,114,105,101,114],0),([115,105,100,101,115],0),([98,108,111,99,107,115],0),([102,97,99,116,111,114], -1),([99,111,118,101,114],0),([99,108,97,115,115,105,102,121],0),([116,101,108,108],0)]
def Wd (x:List UInt8×Int):List za:=[.sc (.string (z1 x.1)),.sc (.int .i64 x.2)]
theorem yx (x:List UInt8×Int):(Wd x).length=2:=rfl
def Y0 (b:UInt8):Bool:=decide (48≤b.toNat)&&decide (b.toNat≤57)
def val (w:List UInt8):Nat:=w.foldl (fun n b=>10*n+(b.toNat - 48)) 0
theorem yB (w:List UInt8)(b:UInt8):val (w++[b])=10*val w+(b.toNat - 48):=by simp[val]
theorem U9 :∀w:List UInt8,w.all Y0=true→val w<10^w.length:=by
 intro w
 induction hn:w.length generalizing w with
 | zero=>
   intro _
   have:w=[]:=List.length_eq_zero_iff.1 hn
   subst this;decide
 | succ n ih=>
   intro h
   have hne:w≠ []:=by intro e;rw[e] at hn;simp at hn
   obtain⟨v,b,rfl⟩:∃v b,w=v++[b]:=⟨w.dropLast,w.getLast hne,(List.dropLast_concat_getLast hne).symm⟩
   rw[List.all_append,Bool.and_eq_true] at h
   have hv:=ih v (by simp at hn;exact hn) h.1
   have hb:Y0 b=true:=by simpa using h.2
   unfold Y0 at hb
   rw[Bool.and_eq_true,decide_eq_true_iff,decide_eq_true_iff] at hb
   rw[yB,Nat.pow_succ]
   omega
def j6 (w:List UInt8):Option Nat:=if w.length<1∨9<w.length∨(1<w.length∧w.getD 0 0=48)∨w.all Y0=false then none else some (val w)
def ZP :List (List UInt8)→Option (List Nat)
 |[]=>some []
 | w::ws=>match j6 w with
   |none=>none
   |some n=>(ZP ws).map (n:: ·)
def hit (p:List UInt8)(x:List UInt8×Int):Bool:=decide (x.1≠ [])&&decide (x.1=p)
structure gR where
 kind:Nat
 a:Nat
 b:Nat
 list:List Nat
def Zc (l:List UInt8):gR×Int:=
 if 65536<l.length then(⟨0,0,0,[]⟩,8) else
 match Wq.findIdx? (hit ((zO 32 l).headD [])) with
 |none=>(⟨0,0,0,[]⟩,15)
 | some k=>
   if 0≤(Wq.getD k ([],0)).2∧((zO 32 l).length:Int)≠(Wq.getD k ([],0)).2+1 then(⟨0,0,0,[]⟩,15) else
   match ZP (zO 32 l).tail with
   |none=>(⟨0,0,0,[]⟩,15)
   | some ns=>
     if(Wq.getD k ([],0)).2<0 then(⟨k,0,0,ns⟩,0) else
     if k=6∧ns.getD 0 0≠1∧ns.getD 0 0≠2 then(⟨0,0,0,[]⟩,15) else(⟨k,ns.getD 0 0,ns.getD 1 0,[]⟩,0)
def gR.cells (c:gR):List za:=[.sc (.int .i64 (c.kind:Int)),.sc (.int .i64 (c.a:Int)),.sc (.int .i64 (c.b:Int)),.imm 1 (Z3 c.list)]
theorem jx (l xs:List za)(h:l.length=xs.length):zK l 0 xs=xs:=by
 rcases xs with _|⟨A,_|⟨B,r⟩⟩
 · rw[List.length_eq_zero_iff.1 (show l.length=0 from h)];rfl
 · obtain⟨x,rfl⟩:=List.length_eq_one_iff.1 (show l.length=1 from h)
   rfl
 · show(l.take 0++(A::B::r))++l.drop (0+(A::B::r).length)=_
   rw[Nat.zero_add,List.drop_eq_nil_of_le (by omega)];simp
theorem QO (fs:List (List UInt8×Int)):za.plainL (zX Wd fs)=true:=jS (fun _=>rfl) fs
theorem Vu (fs:List (List UInt8×Int)):za.flatL (zX Wd fs)=true:=JA (fun _=>rfl) fs
theorem XH (fs:List (List UInt8×Int)):za.cellOkL (zX Wd fs)=true:=jy (fun _=>rfl) fs
theorem Qo (fs:List (List UInt8×Int)):za.copyableL (zX Wd fs)=true:=plain_copyableL _ (QO fs)
theorem XG (fs:List (List UInt8×Int)):za.freezeL (zX Wd fs)=zX Wd fs:=copyable_freezeL _ (Qo fs)
theorem W9 (fs:List (List UInt8×Int)):za.ids0L (zX Wd fs)=true:=plain_ids0L _ (QO fs)
theorem kG (g:Nat→Option Nat)(fs:List (List UInt8×Int)):za.renL g (zX Wd fs)=zX Wd fs:=ids0_renL g _ (W9 fs)
theorem qn :∀(a b:List (List UInt8)),ZP (a++b)=(ZP a).bind fun x=>(ZP b).map (x++ ·)
 |[],b=>by simp[ZP]
 | w::a,b=>by
   show(match j6 w with|none=>none|some n=>(ZP (a++b)).map (n:: ·))=(match j6 w with|none=>none|some n=>(ZP a).map (n:: ·)).bind _
   rw[qn a b]
   cases j6 w with
   |none=>rfl
   |some n=>cases ZP a<;>cases ZP b<;>rfl
theorem yY {a b:List (List UInt8)}{w:List UInt8}(h:j6 w=none):ZP (a++w::b)=none:=by
 rw[qn]
 cases ZP a with
 |none=>rfl
 |some x=>show(match j6 w with|none=>none|some n=>(ZP b).map (n:: ·)).map _=none;rw[h];rfl
attribute [go_sem] Int.reduceToNat jx List.length_cons List.length_nil QO Vu XH Qo XG W9 kG yx
end Go.Ga.Gl
namespace Go.Proofs.YtneiihheeghdcaaDoor
open Go Go.Ga Go.Ga.Gl
theorem Vv :zJ Tryd.prog [] Kb [] [] fun r h'=>r= .agg (zX Wd Wq)∧h'=[]:=by
 refine KS rfl ?_
 unfold Kn Wt
 refine zc fun KY hKY=>?_
 simp only[go_sem,xK]
 apply hKY
 refine zc fun KY hKY=>?_
 simp only[go_sem,xJ,jx,List.length_cons,List.length_nil]
 apply hKY
 refine zz ?_
 simp only[go_sem,jx,List.length_cons,List.length_nil]
 rfl
abbrev gW (ps:List (List UInt8)):za:= .ia [.imm 1 (Z6 ps)]
theorem Uj (x:List UInt8×Int)(p:List UInt8)(ps:List (List UInt8)):zJ Tryd.prog [] Va [.agg (Wd x),.ia [gW (p::ps)]] [] fun r h'=>r= .sc (.bool (hit p x))∧h'=[]:=by
 obtain⟨w,n⟩:=x
 have h0:(Z6 (p::ps))[0]?=some (.sc (.string (z1 p))):=rfl
 have hl:(Z6 (p::ps)).length=ps.length+1:=by simp[Z6]
 unfold Wd hit
 refine KQ rfl ?_
 unfold Kl Ws
 refine zc fun KY hKY=>?_
 simp only[go_sem,xB]
 apply hKY
 by_cases hw:w=[]
 · have hd:decide (w=[])=true:=decide_eq_true hw
   refine je fun KY hKY=>?_
   simp only[go_sem,YD,hd]
   apply hKY
   refine zz ?_
   simp only[go_sem]
   simp[hw]
 · have hd:decide (w=[])=false:=decide_eq_false hw
   refine je fun KY hKY=>?_
   simp only[go_sem,YD,hd,h0,hl,(show 1≤ps.length+1 by omega)]
   apply hKY
   refine zz ?_
   simp only[go_sem]
   simp[hw]
theorem Ul (fs:List (List UInt8×Int))(p:List UInt8)(ps:List (List UInt8))(hf:fs.length≤1000):zJ Tryd.prog [] Ka [.imm 2 (zX Wd fs),.fn (.func Va) [] [.ia [gW (p::ps)]]] [] fun r h'=>(∃z:Int,r= .sc (.int .i64 z)∧((z= -1∧fs.findIdx? (hit p)=none)∨∃i:Nat,z=(i:Int)∧fs.findIdx? (hit p)=some i))∧h'=[]:=by
 have hpl:(zX Wd fs).length=fs.length*2:=ql yx fs
 refine KR rfl ?_
 unfold Km jA
 refine zc fun KY hKY=>?_
 simp only[go_sem,xI]
 apply hKY
 refine zr fun X1 hn1 he1 hr1=>?_
 refine zc fun KY hKY=>?_
 simp only[go_sem,xH,hpl,gp]
 apply hKY
 refine Zp fun X2 hn2 he2 hf2 hr2=>?_
 try simp only[go_sem]
 refine QB (α:=Nat) [5,9,16] (fun k=>[(8,.sc (.int .i64 (k:Int)))]) (fun k=>[]) (fun k q=>k≤fs.length∧(∀i x,i<k→fs[i]?=some x→hit p x=false)∧q=fs.length - k) (0) (fs.length) rfl (by first|(simp only[go_sem,zw,zB];done)|with_reducible rfl|rfl) (⟨Nat.zero_le _,fun i x h=>by omega,rfl⟩) ?_
 rintro k q ⟨hk,hno,rfl⟩ X3 hn3 he3 hr3
 simp only[go_sem,zw,zB]
 rcases Nat.lt_or_ge k fs.length with hk2|hk2
 · have hdx:decide ((k:Int)<(fs.length:Int))=true:=decide_eq_true (by omega)
   have hx:fs[k]?=some (fs[k]):=List.getElem?_eq_getElem hk2
   generalize fs[k]=x at hx
   have hc:=WQ yx hx
   have hI:=Uj x p ps
   refine zc fun KY hKY=>?_
   simp only[go_sem,YE,hdx]
   apply hKY
   refine zr fun X4 hn4 he4 hr4=>?_
   refine Q1 ?_
   refine zC ?_
   repeat (first|refine hn4 _ ?_|refine he4 _ _ ?_|refine he3 _ _ ?_|refine hn2 _ ?_|refine he2 _ ?_|refine hf2 _ _ (by decide) ?_|refine hn1 _ ?_|refine he1 _ _ ?_)
   refine zr fun X5 hn5 he5 hr5=>?_
   refine Zp fun X6 hn6 he6 hf6 hr6=>?_
   refine zc fun KY hKY=>?_
   simp only[go_sem,xG]
   apply hKY
   refine zc fun KY hKY=>?_
   simp only[go_sem,xF,hc,hpl,hk2,(show k*2+2≤fs.length*2 by omega),(show 2≤fs.length*2 - k*2 by omega),List.length_drop]
   refine Ze rfl (by simp only[go_sem]<;>rfl) ((hI).mono ?_)
   rintro rr hh ⟨rfl,rfl⟩
   refine⟨rfl,rfl,rfl,?_⟩
   simp only[go_sem]
   apply hKY
   cases hh:hit p x with
   | true=>
     refine Q1 ?_
     refine zc fun KY hKY=>?_
     simp only[go_sem,xE]
     apply hKY
     refine zz ?_
     repeat (first|refine hr6 _ ?_|refine hr5 _ ?_|refine hr4 _ ?_|refine hr3 _ ?_|refine hr2 _ ?_|refine hr1 _ ?_)
     simp only[go_sem]
     refine⟨_,rfl,.inr ⟨k,rfl,?_⟩⟩
     rw[List.findIdx?_eq_some_iff_getElem]
     obtain⟨hk3,e⟩:=List.getElem?_eq_some_iff.1 hx
     refine⟨hk3,by rw[e];exact hh,fun j hj=>?_⟩
     rw[hno j _ hj (List.getElem?_eq_getElem (by omega))];decide
   | false=>
     refine yu ?_
     refine zC ?_
     repeat (first|refine hn6 _ ?_|refine he6 _ ?_|refine hf6 _ _ (by decide) ?_|refine hn5 _ ?_|refine he5 _ _ ?_|refine hn4 _ ?_|refine he4 _ _ ?_|refine he3 _ _ ?_|refine hn2 _ ?_|refine he2 _ ?_|refine hf2 _ _ (by decide) ?_|refine hn1 _ ?_|refine he1 _ _ ?_)
     refine Z5 fun KY hKY=>?_
     simp only[go_sem,xD,Um (show k<4611686018427387904 by omega)]
     apply hKY
     repeat (first|refine hn6 _ ?_|refine he6 _ ?_|refine hf6 _ _ (by decide) ?_|refine hn5 _ ?_|refine he5 _ _ ?_|refine hn4 _ ?_|refine he4 _ _ ?_)
     refine hn3 _ (k+1) (fs.length - (k+1)) (by omega) (by first|(simp only[go_sem,zw,zB];done)|with_reducible rfl) ?_
     refine⟨hk2,fun i y hi hy=>?_,rfl⟩
     by_cases e:i=k
     · subst e;rw[hx] at hy;cases hy;exact hh
     · exact hno i y (by omega) hy
 have hdx:decide ((k:Int)<(fs.length:Int))=false:=decide_eq_false (by omega)
 refine zc fun KY hKY=>?_
 simp only[go_sem,YE,hdx]
 apply hKY
 refine zr fun X7 hn7 he7 hr7=>?_
 refine yu ?_
 refine Ja ?_
 repeat (first|refine hn7 _ ?_|refine he7 _ _ ?_|refine he3 _ _ ?_|refine hn2 _ ?_|refine he2 _ ?_|refine hf2 _ _ (by decide) ?_|refine hn1 _ ?_|refine he1 _ _ ?_)
 refine zc fun KY hKY=>?_
 simp only[go_sem,xC]
 apply hKY
 refine zz ?_
 repeat (first|refine hr7 _ ?_|refine hr3 _ ?_|refine hr2 _ ?_|refine hr1 _ ?_)
 simp only[go_sem]
 refine⟨_,rfl,.inl ⟨rfl,?_⟩⟩
 rw[List.findIdx?_eq_none_iff]
 intro x hx
 obtain⟨i,hi,e⟩:=List.getElem_of_mem hx
 exact hno i x (by omega) (by rw[←e];exact List.getElem?_eq_getElem hi)
theorem wj (ps:List (List UInt8)){k:Nat}{w:List UInt8}(hk:ps[k]?=some w)(hl:w.length≤1000000000):zJ Tryd.prog [] k9 [gW ps,.sc (.int .i64 (k:Int))] [] fun r h'=>r= .tup [.sc (.int .i64 (((j6 w).getD 0:Nat):Int)),.sc (.bool (j6 w).isSome)]∧h'=[]:=by
 have hkl:k<ps.length:=(List.getElem?_eq_some_iff.1 hk).1
 have hg:=yF hk
 have hdl:k+1≤ps.length:=hkl
 refine KP rfl ?_
 unfold Kk ZA
 refine zc fun KY hKY=>?_
 simp only[go_sem,xA]
 apply hKY
 refine zc fun KY hKY=>?_
 simp only[go_sem,xz,hg,Zh,hkl,hdl]
 apply hKY
 refine zr fun X1 hn1 he1 hr1=>?_
 rcases(show w.length<1∨(1≤w.length∧9<w.length)∨(1<w.length∧w.length≤9∧w.getD 0 0=48)∨(1≤w.length∧w.length≤9∧¬(1<w.length∧w.getD 0 0=48)) by
  by_cases h:w.getD 0 0=48
  · simp only[h,and_true,true_and];omega
  · simp only[h,and_false,false_and,not_false_eq_true,and_true];omega) with h1|⟨h1,h2⟩|⟨h1,h2,h3⟩|⟨h1,h2,h3⟩
 · have d1:decide ((w.length:Int)<1)=true:=decide_eq_true (by omega)
   have hn:j6 w=none:=if_pos (.inl h1)
   refine zc fun KY hKY=>?_
   simp only[go_sem,Jj,d1]
   apply hKY
   refine Q1 ?_
   refine zc fun KY hKY=>?_
   simp only[go_sem,Qv]
   apply hKY
   refine zz ?_
   repeat (first|refine hr1 _ ?_)
   simp only[go_sem]
   rw[hn];rfl
 · have d1:decide ((w.length:Int)<1)=false:=decide_eq_false (by omega)
   have d2:decide (9<(w.length:Int))=true:=decide_eq_true (by omega)
   have hn:j6 w=none:=if_pos (.inr (.inl h2))
   refine zc fun KY hKY=>?_
   simp only[go_sem,Jj,d1,d2]
   apply hKY
   refine Q1 ?_
   refine zc fun KY hKY=>?_
   simp only[go_sem,Qv]
   apply hKY
   refine zz ?_
   repeat (first|refine hr1 _ ?_)
   simp only[go_sem]
   rw[hn];rfl
 · have d1:decide ((w.length:Int)<1)=false:=decide_eq_false (by omega)
   have d2:decide (9<(w.length:Int))=false:=decide_eq_false (by omega)
   have d3:decide (1<(w.length:Int))=true:=decide_eq_true (by omega)
   have d4:decide (((w.getD 0 0).toNat:Int)=48)=true:=by rw[h3];rfl
   have hn:j6 w=none:=if_pos (.inr (.inr (.inl ⟨h1,h3⟩)))
   refine zc fun KY hKY=>?_
   simp only[go_sem,Jj,d1,d2,d3,d4,(show 0<w.length by omega)]
   apply hKY
   refine Q1 ?_
   refine zc fun KY hKY=>?_
   simp only[go_sem,Qv]
   apply hKY
   refine zz ?_
   repeat (first|refine hr1 _ ?_)
   simp only[go_sem]
   rw[hn];rfl
 · have d1:decide ((w.length:Int)<1)=false:=decide_eq_false (by omega)
   have d2:decide (9<(w.length:Int))=false:=decide_eq_false (by omega)
   have hnn:∀b,w.all Y0=b→j6 w=if b=false then none else some (val w):=fun b hb=>by
    unfold j6
    cases b with
    |false=>rw[if_pos (.inr (.inr (.inr hb))),if_pos rfl]
    |true=>rw[if_neg (by rw[hb];rintro(h|h|h|h);omega;omega;exact h3 h;cases h),if_neg (by simp)]
   by_cases h4:1<w.length
   · have h5:¬w.getD 0 0=48:=fun e=>h3 ⟨h4,e⟩
     have d3:decide (1<(w.length:Int))=true:=decide_eq_true (by omega)
     have d4:decide (((w.getD 0 0).toNat:Int)=48)=false:=decide_eq_false fun e=>h5 (UInt8.toNat_inj.1 (Int.ofNat_inj.1 e))
     refine zc fun KY hKY=>?_
     simp only[go_sem,Jj,d1,d2,d3,d4,(show 0<w.length by omega)]
     apply hKY
     refine yu ?_
     refine zC ?_
     repeat (first|refine hn1 _ ?_|refine he1 _ _ ?_)
     refine zc fun KY hKY=>?_
     simp only[go_sem,YC]
     apply hKY
     refine zr fun X2 hn2 he2 hr2=>?_
     refine zc fun KY hKY=>?_
     simp only[go_sem,YB,JF]
     apply hKY
     refine Zp fun X3 hn3 he3 hf3 hr3=>?_
     try simp only[go_sem]
     refine QB (α:=Nat) [9,39,47] (fun j=>[(7,.sc (.int .i64 ((val (w.take j):Nat):Int))),(38,.sc (.int .i64 (j:Int)))]) (fun j=>[]) (fun j q=>j≤w.length∧(w.take j).all Y0=true∧q=w.length - j) (0) (w.length) rfl (by first|(simp only[go_sem,zw,zB];done)|with_reducible rfl|rfl) (⟨Nat.zero_le _,rfl,rfl⟩) ?_
     rintro j q ⟨hj,hall,rfl⟩ X4 hn4 he4 hr4
     simp only[go_sem,zw,zB]
     rcases Nat.lt_or_ge j w.length with hj2|hj2
     · have hdx:decide ((j:Int)<(w.length:Int))=true:=decide_eq_true (by omega)
       have hx:w[j]?=some w[j]:=List.getElem?_eq_getElem hj2
       have htk:w.take (j+1)=w.take j++[w[j]]:=by rw[List.take_add_one,hx];rfl
       have hda:w.all Y0=true→Y0 w[j]=true:=fun h=>List.all_eq_true.1 h _ (List.getElem_mem hj2)
       have hlt:=(w[j]).toNat_lt
       generalize w[j]=c at hx htk hda hlt
       have hb:(VZ w)[j]?=some (.sc (.int .u8 (c.toNat:Int))):=by simp[VZ,hx]
       refine zc fun KY hKY=>?_
       simp only[go_sem,qe,hdx]
       apply hKY
       refine zr fun X5 hn5 he5 hr5=>?_
       refine Q1 ?_
       refine zC ?_
       repeat (first|refine hn5 _ ?_|refine he5 _ _ ?_|refine he4 _ _ ?_|refine hn3 _ ?_|refine he3 _ ?_|refine hf3 _ _ (by decide) ?_|refine hn2 _ ?_|refine he2 _ _ ?_|refine hn1 _ ?_|refine he1 _ _ ?_)
       refine zr fun X6 hn6 he6 hr6=>?_
       refine Zp fun X7 hn7 he7 hf7 hr7=>?_
       refine zc fun KY hKY=>?_
       simp only[go_sem,YA,hb,JF,hj2,(show j+1≤w.length by omega)]
       apply hKY
       refine zr fun X8 hn8 he8 hr8=>?_
       rcases(show c.toNat<48∨(48≤c.toNat∧57<c.toNat)∨(48≤c.toNat∧c.toNat≤57) by omega) with h6|⟨h6,h7⟩|⟨h6,h7⟩
       · have d5:decide ((c.toNat:Int)<48)=true:=decide_eq_true (by omega)
         have hn:j6 w=none:=by
          rw[hnn _ rfl,if_pos]
          cases hw:w.all Y0 with
          |false=>rfl
          |true=>have:=hda hw;unfold Y0 at this;rw[Bool.and_eq_true,decide_eq_true_iff,decide_eq_true_iff] at this;omega
         refine zc fun KY hKY=>?_
         simp only[go_sem,jL,d5]
         apply hKY
         refine Q1 ?_
         refine zc fun KY hKY=>?_
         simp only[go_sem,qd]
         apply hKY
         refine zz ?_
         repeat (first|refine hr8 _ ?_|refine hr7 _ ?_|refine hr6 _ ?_|refine hr5 _ ?_|refine hr4 _ ?_|refine hr3 _ ?_|refine hr2 _ ?_|refine hr1 _ ?_)
         simp only[go_sem]
         rw[hn];rfl
       · have d5:decide ((c.toNat:Int)<48)=false:=decide_eq_false (by omega)
         have d6:decide (57<(c.toNat:Int))=true:=decide_eq_true (by omega)
         have hn:j6 w=none:=by
          rw[hnn _ rfl,if_pos]
          cases hw:w.all Y0 with
          |false=>rfl
          |true=>have:=hda hw;unfold Y0 at this;rw[Bool.and_eq_true,decide_eq_true_iff,decide_eq_true_iff] at this;omega
         refine zc fun KY hKY=>?_
         simp only[go_sem,jL,d5,d6]
         apply hKY
         refine Q1 ?_
         refine zc fun KY hKY=>?_
         simp only[go_sem,qd]
         apply hKY
         refine zz ?_
         repeat (first|refine hr8 _ ?_|refine hr7 _ ?_|refine hr6 _ ?_|refine hr5 _ ?_|refine hr4 _ ?_|refine hr3 _ ?_|refine hr2 _ ?_|refine hr1 _ ?_)
         simp only[go_sem]
         rw[hn];rfl
       · have d5:decide ((c.toNat:Int)<48)=false:=decide_eq_false (by omega)
         have d6:decide (57<(c.toNat:Int))=false:=decide_eq_false (by omega)
         have hv:=U9 _ hall
         have hp:10^(w.take j).length≤10^9:=Nat.pow_le_pow_right (by omega) (by rw[List.length_take];omega)
         have hs:val (w.take (j+1))=10*val (w.take j)+(c.toNat - 48):=by rw[htk,yB]
         have w1:IntKind.i64.wrap (10*((val (w.take j):Nat):Int))=((10*val (w.take j):Nat):Int):=by rw[IntWalk.i64_in _ (by omega)];omega
         have w2:IntKind.u8.wrap ((c.toNat:Int) - 48)=((c.toNat - 48:Nat):Int):=by
          unfold IntKind.wrap;simp[IntKind.bits,IntKind.signed];omega
         have w3:IntKind.i64.wrap ((c.toNat - 48:Nat):Int)=((c.toNat - 48:Nat):Int):=IntWalk.i64_in _ (by omega)
         have w4:IntKind.i64.wrap (((10*val (w.take j):Nat):Int)+((c.toNat - 48:Nat):Int))=((val (w.take (j+1)):Nat):Int):=by rw[IntWalk.i64_in _ (by omega),hs];omega
         refine zc fun KY hKY=>?_
         simp only[go_sem,jL,d5,d6]
         apply hKY
         refine yu ?_
         refine zC ?_
         repeat (first|refine hn8 _ ?_|refine he8 _ _ ?_|refine hn7 _ ?_|refine he7 _ ?_|refine hf7 _ _ (by decide) ?_|refine hn6 _ ?_|refine he6 _ _ ?_|refine hn5 _ ?_|refine he5 _ _ ?_|refine he4 _ _ ?_|refine hn3 _ ?_|refine he3 _ ?_|refine hf3 _ _ (by decide) ?_|refine hn2 _ ?_|refine he2 _ _ ?_|refine hn1 _ ?_|refine he1 _ _ ?_)
         refine Z5 fun KY hKY=>?_
         simp only[go_sem,QV,w1,w2,w3,w4]
         apply hKY
         repeat (first|refine hn8 _ ?_|refine he8 _ _ ?_|refine hn7 _ ?_|refine he7 _ ?_|refine hf7 _ _ (by decide) ?_|refine hn6 _ ?_|refine he6 _ _ ?_|refine hn5 _ ?_|refine he5 _ _ ?_|refine he4 _ _ ?_|refine hn3 _ ?_|refine he3 _ ?_|refine hf3 _ _ (by decide) ?_|refine hn2 _ ?_|refine he2 _ _ ?_|refine hn1 _ ?_|refine he1 _ _ ?_)
         refine Z5 fun KY hKY=>?_
         simp only[go_sem,QU,Um (show j<4611686018427387904 by omega)]
         apply hKY
         repeat (first|refine hn8 _ ?_|refine he8 _ _ ?_|refine hn7 _ ?_|refine he7 _ ?_|refine hf7 _ _ (by decide) ?_|refine hn6 _ ?_|refine he6 _ _ ?_|refine hn5 _ ?_|refine he5 _ _ ?_)
         refine hn4 _ (j+1) (w.length - (j+1)) (by omega) (by first|(simp only[go_sem,zw,zB];done)|with_reducible rfl) ?_
         refine⟨hj2,?_,rfl⟩
         rw[htk,List.all_append,hall]
         unfold Y0;simp;omega
     have hdx:decide ((j:Int)<(w.length:Int))=false:=decide_eq_false (by omega)
     obtain rfl:j=w.length:=by omega
     rw[List.take_length] at hall
     have hn:j6 w=some (val w):=by rw[hnn _ hall];rfl
     refine zc fun KY hKY=>?_
     simp only[go_sem,qe,hdx]
     apply hKY
     refine zr fun X9 hn9 he9 hr9=>?_
     refine yu ?_
     refine Ja ?_
     repeat (first|refine hn9 _ ?_|refine he9 _ _ ?_|refine he4 _ _ ?_|refine hn3 _ ?_|refine he3 _ ?_|refine hf3 _ _ (by decide) ?_|refine hn2 _ ?_|refine he2 _ _ ?_|refine hn1 _ ?_|refine he1 _ _ ?_)
     rw[List.take_length]
     refine zc fun KY hKY=>?_
     simp only[go_sem,QT]
     apply hKY
     refine zz ?_
     repeat (first|refine hr9 _ ?_|refine hr4 _ ?_|refine hr3 _ ?_|refine hr2 _ ?_|refine hr1 _ ?_)
     simp only[go_sem]
     rw[hn];rfl
   · have d3:decide (1<(w.length:Int))=false:=decide_eq_false (by omega)
     refine zc fun KY hKY=>?_
     simp only[go_sem,Jj,d1,d2,d3]
     apply hKY
     refine yu ?_
     refine zC ?_
     repeat (first|refine hn1 _ ?_|refine he1 _ _ ?_)
     refine zc fun KY hKY=>?_
     simp only[go_sem,YC]
     apply hKY
     refine zr fun X10 hn10 he10 hr10=>?_
     refine zc fun KY hKY=>?_
     simp only[go_sem,YB,JF]
     apply hKY
     refine Zp fun X11 hn11 he11 hf11 hr11=>?_
     try simp only[go_sem]
     refine QB (α:=Nat) [9,39,47] (fun j=>[(7,.sc (.int .i64 ((val (w.take j):Nat):Int))),(38,.sc (.int .i64 (j:Int)))]) (fun j=>[]) (fun j q=>j≤w.length∧(w.take j).all Y0=true∧q=w.length - j) (0) (w.length) rfl (by first|(simp only[go_sem,zw,zB];done)|with_reducible rfl|rfl) (⟨Nat.zero_le _,rfl,rfl⟩) ?_
     rintro j q ⟨hj,hall,rfl⟩ X12 hn12 he12 hr12
     simp only[go_sem,zw,zB]
     rcases Nat.lt_or_ge j w.length with hj2|hj2
     · have hdx:decide ((j:Int)<(w.length:Int))=true:=decide_eq_true (by omega)
       have hx:w[j]?=some w[j]:=List.getElem?_eq_getElem hj2
       have htk:w.take (j+1)=w.take j++[w[j]]:=by rw[List.take_add_one,hx];rfl
       have hda:w.all Y0=true→Y0 w[j]=true:=fun h=>List.all_eq_true.1 h _ (List.getElem_mem hj2)
       have hlt:=(w[j]).toNat_lt
       generalize w[j]=c at hx htk hda hlt
       have hb:(VZ w)[j]?=some (.sc (.int .u8 (c.toNat:Int))):=by simp[VZ,hx]
       refine zc fun KY hKY=>?_
       simp only[go_sem,qe,hdx]
       apply hKY
       refine zr fun X13 hn13 he13 hr13=>?_
       refine Q1 ?_
       refine zC ?_
       repeat (first|refine hn13 _ ?_|refine he13 _ _ ?_|refine he12 _ _ ?_|refine hn11 _ ?_|refine he11 _ ?_|refine hf11 _ _ (by decide) ?_|refine hn10 _ ?_|refine he10 _ _ ?_|refine hn1 _ ?_|refine he1 _ _ ?_)
       refine zr fun X14 hn14 he14 hr14=>?_
       refine Zp fun X15 hn15 he15 hf15 hr15=>?_
       refine zc fun KY hKY=>?_
       simp only[go_sem,YA,hb,JF,hj2,(show j+1≤w.length by omega)]
       apply hKY
       refine zr fun X16 hn16 he16 hr16=>?_
       rcases(show c.toNat<48∨(48≤c.toNat∧57<c.toNat)∨(48≤c.toNat∧c.toNat≤57) by omega) with h6|⟨h6,h7⟩|⟨h6,h7⟩
       · have d5:decide ((c.toNat:Int)<48)=true:=decide_eq_true (by omega)
         have hn:j6 w=none:=by
          rw[hnn _ rfl,if_pos]
          cases hw:w.all Y0 with
          |false=>rfl
          |true=>have:=hda hw;unfold Y0 at this;rw[Bool.and_eq_true,decide_eq_true_iff,decide_eq_true_iff] at this;omega
         refine zc fun KY hKY=>?_
         simp only[go_sem,jL,d5]
         apply hKY
         refine Q1 ?_
         refine zc fun KY hKY=>?_
         simp only[go_sem,qd]
         apply hKY
         refine zz ?_
         repeat (first|refine hr16 _ ?_|refine hr15 _ ?_|refine hr14 _ ?_|refine hr13 _ ?_|refine hr12 _ ?_|refine hr11 _ ?_|refine hr10 _ ?_|refine hr1 _ ?_)
         simp only[go_sem]
         rw[hn];rfl
       · have d5:decide ((c.toNat:Int)<48)=false:=decide_eq_false (by omega)
         have d6:decide (57<(c.toNat:Int))=true:=decide_eq_true (by omega)
         have hn:j6 w=none:=by
          rw[hnn _ rfl,if_pos]
          cases hw:w.all Y0 with
          |false=>rfl
          |true=>have:=hda hw;unfold Y0 at this;rw[Bool.and_eq_true,decide_eq_true_iff,decide_eq_true_iff] at this;omega
         refine zc fun KY hKY=>?_
         simp only[go_sem,jL,d5,d6]
         apply hKY
         refine Q1 ?_
         refine zc fun KY hKY=>?_
         simp only[go_sem,qd]
         apply hKY
         refine zz ?_
         repeat (first|refine hr16 _ ?_|refine hr15 _ ?_|refine hr14 _ ?_|refine hr13 _ ?_|refine hr12 _ ?_|refine hr11 _ ?_|refine hr10 _ ?_|refine hr1 _ ?_)
         simp only[go_sem]
         rw[hn];rfl
       · have d5:decide ((c.toNat:Int)<48)=false:=decide_eq_false (by omega)
         have d6:decide (57<(c.toNat:Int))=false:=decide_eq_false (by omega)
         have hv:=U9 _ hall
         have hp:10^(w.take j).length≤10^9:=Nat.pow_le_pow_right (by omega) (by rw[List.length_take];omega)
         have hs:val (w.take (j+1))=10*val (w.take j)+(c.toNat - 48):=by rw[htk,yB]
         have w1:IntKind.i64.wrap (10*((val (w.take j):Nat):Int))=((10*val (w.take j):Nat):Int):=by rw[IntWalk.i64_in _ (by omega)];omega
         have w2:IntKind.u8.wrap ((c.toNat:Int) - 48)=((c.toNat - 48:Nat):Int):=by
          unfold IntKind.wrap;simp[IntKind.bits,IntKind.signed];omega
         have w3:IntKind.i64.wrap ((c.toNat - 48:Nat):Int)=((c.toNat - 48:Nat):Int):=IntWalk.i64_in _ (by omega)
         have w4:IntKind.i64.wrap (((10*val (w.take j):Nat):Int)+((c.toNat - 48:Nat):Int))=((val (w.take (j+1)):Nat):Int):=by rw[IntWalk.i64_in _ (by omega),hs];omega
         refine zc fun KY hKY=>?_
         simp only[go_sem,jL,d5,d6]
         apply hKY
         refine yu ?_
         refine zC ?_
         repeat (first|refine hn16 _ ?_|refine he16 _ _ ?_|refine hn15 _ ?_|refine he15 _ ?_|refine hf15 _ _ (by decide) ?_|refine hn14 _ ?_|refine he14 _ _ ?_|refine hn13 _ ?_|refine he13 _ _ ?_|refine he12 _ _ ?_|refine hn11 _ ?_|refine he11 _ ?_|refine hf11 _ _ (by decide) ?_|refine hn10 _ ?_|refine he10 _ _ ?_|refine hn1 _ ?_|refine he1 _ _ ?_)
         refine Z5 fun KY hKY=>?_
         simp only[go_sem,QV,w1,w2,w3,w4]
         apply hKY
         repeat (first|refine hn16 _ ?_|refine he16 _ _ ?_|refine hn15 _ ?_|refine he15 _ ?_|refine hf15 _ _ (by decide) ?_|refine hn14 _ ?_|refine he14 _ _ ?_|refine hn13 _ ?_|refine he13 _ _ ?_|refine he12 _ _ ?_|refine hn11 _ ?_|refine he11 _ ?_|refine hf11 _ _ (by decide) ?_|refine hn10 _ ?_|refine he10 _ _ ?_|refine hn1 _ ?_|refine he1 _ _ ?_)
         refine Z5 fun KY hKY=>?_
         simp only[go_sem,QU,Um (show j<4611686018427387904 by omega)]
         apply hKY
         repeat (first|refine hn16 _ ?_|refine he16 _ _ ?_|refine hn15 _ ?_|refine he15 _ ?_|refine hf15 _ _ (by decide) ?_|refine hn14 _ ?_|refine he14 _ _ ?_|refine hn13 _ ?_|refine he13 _ _ ?_)
         refine hn12 _ (j+1) (w.length - (j+1)) (by omega) (by first|(simp only[go_sem,zw,zB];done)|with_reducible rfl) ?_
         refine⟨hj2,?_,rfl⟩
         rw[htk,List.all_append,hall]
         unfold Y0;simp;omega
     have hdx:decide ((j:Int)<(w.length:Int))=false:=decide_eq_false (by omega)
     obtain rfl:j=w.length:=by omega
     rw[List.take_length] at hall
     have hn:j6 w=some (val w):=by rw[hnn _ hall];rfl
     refine zc fun KY hKY=>?_
     simp only[go_sem,qe,hdx]
     apply hKY
     refine zr fun X17 hn17 he17 hr17=>?_
     refine yu ?_
     refine Ja ?_
     repeat (first|refine hn17 _ ?_|refine he17 _ _ ?_|refine he12 _ _ ?_|refine hn11 _ ?_|refine he11 _ ?_|refine hf11 _ _ (by decide) ?_|refine hn10 _ ?_|refine he10 _ _ ?_|refine hn1 _ ?_|refine he1 _ _ ?_)
     rw[List.take_length]
     refine zc fun KY hKY=>?_
     simp only[go_sem,QT]
     apply hKY
     refine zz ?_
     repeat (first|refine hr17 _ ?_|refine hr12 _ ?_|refine hr11 _ ?_|refine hr10 _ ?_|refine hr1 _ ?_)
     simp only[go_sem]
     rw[hn];rfl
end Go.Proofs.YtneiihheeghdcaaDoor
set_option maxHeartbeats 8000000
namespace Go.Proofs.YtneiihheeghdcaaDoor
open Go Go.Ga Go.Ga.Gl
theorem yV (l:List UInt8)(hl:l.length≤1000000000):zJ Tryd.prog [] gk [.sc (.string (z1 l))] [] fun r h'=>r= .tup [.agg (Zc l).1.cells,.sc (.int .i64 (Zc l).2)]∧h'=[]:=by
 refine gv rfl ?_
 unfold gE Zf
 refine zc fun KY hKY=>?_
 simp only[go_sem,um]
 apply hKY
 refine zr fun X1 hn1 he1 hr1=>?_
 by_cases hlen:65536<l.length
 · have d1:decide (65536<(l.length:Int))=true:=decide_eq_true (by omega)
   have hres:Zc l=(⟨0,0,0,[]⟩,8):=if_pos hlen
   refine zc fun KY hKY=>?_
   simp only[go_sem,Wk,d1]
   apply hKY
   refine Q1 ?_
   refine zc fun KY hKY=>?_
   simp only[go_sem,ul]
   apply hKY
   refine Z7 [0,2,3] 1 (by simp only[go_sem]) ?_
   simp only[go_sem]
   refine zW [0,2,3] (by simp only[go_sem];rfl) ?_
   simp only[go_sem]
   refine zz ?_
   repeat (first|refine hr1 _ ?_)
   simp only[go_sem]
   rw[hres];rfl
 have d1:decide (65536<(l.length:Int))=false:=decide_eq_false (by omega)
 have hS:=vo l hl
 have hne:=QD 32 l
 have hsl:=yK 32 l
 have hcl:=Qr 32 l
 have hpar:Zc l=_:=if_neg hlen
 obtain⟨p,ts,hsp⟩:∃p ts,zO 32 l=p::ts:=by
  cases h:zO 32 l with
  |nil=>exact absurd h hne
  |cons p ts=>exact⟨p,ts,rfl⟩
 rw[hsp] at hS hsl hpar
 simp only[List.headD_cons,List.tail_cons,List.length_cons] at hpar hsl
 have hwl:∀w∈p::ts,w.length≤1000000000:=fun w hw=>Nat.le_trans (yJ 32 l w (by rw[hsp];exact hw)) hl
 refine zc fun KY hKY=>?_
 simp only[go_sem,Wk,d1]
 apply hKY
 refine yu ?_
 refine zC ?_
 repeat (first|refine hn1 _ ?_|refine he1 _ _ ?_)
 refine zc fun KY hKY=>?_
 simp only[go_sem,uk]
 apply Ji [] [] false none rfl
 iterate 8 (first|(simp only[go_sem,zP]<;>rfl)|rfl)
 refine(hS).mono ?_
 rintro _ _ ⟨rfl,rfl⟩
 refine⟨Nat.le_of_ble_eq_true rfl,(fun hh=>by cases hh),?_⟩
 simp only[go_sem,jb,zb.after]
 apply hKY
 refine zW [0,4] (by simp only[go_sem];rfl) ?_
 simp only[go_sem]
 have hfl:(zX Wd Wq).length=30:=rfl
 refine zc fun KY hKY=>?_
 simp only[go_sem,uj]
 apply Ji [] [] false none rfl
 iterate 8 (first|(simp only[go_sem,zP]<;>rfl)|rfl)
 refine(Vv).mono ?_
 rintro _ _ ⟨rfl,rfl⟩
 refine⟨Nat.le_of_ble_eq_true rfl,(fun hh=>by cases hh),?_⟩
 simp only[go_sem,jb,zb.after,jx,hfl,List.length_cons,List.length_nil]
 apply hKY
 refine zW [0,5] (by simp only[go_sem];rfl) ?_
 simp only[go_sem]
 have htk:List.take 30 (zX Wd Wq)=zX Wd Wq:=rfl
 refine zc fun KY hKY=>?_
 simp only[go_sem,ui,hfl,htk,List.drop_zero]
 refine Ze rfl (by simp only[go_sem]<;>rfl) ((Ul Wq p ts (by decide)).mono ?_)
 rintro rr hh ⟨⟨z,rfl,hz⟩,rfl⟩
 refine⟨?_,?_,?_,?_⟩
 iterate 3 (first|rfl|simp only[go_sem])
 simp only[go_sem]
 apply hKY
 refine zr fun X2 hn2 he2 hr2=>?_
 rcases hz with⟨rfl,hno⟩|⟨i,rfl,hi⟩
 · have hres:Zc l=(⟨0,0,0,[]⟩,15):=by rw[hpar,hno]
   refine je fun KY hKY=>?_
   simp only[go_sem,Qt]
   apply hKY
   refine Q1 ?_
   refine zc fun KY hKY=>?_
   simp only[go_sem,Wj]
   apply hKY
   refine Z7 [0,2,3] 1 (by simp only[go_sem]) ?_
   simp only[go_sem]
   refine zW [0,2,3] (by simp only[go_sem];rfl) ?_
   simp only[go_sem]
   refine zz ?_
   repeat (first|refine hr2 _ ?_|refine hr1 _ ?_)
   simp only[go_sem]
   rw[hres];rfl
 have hi15:i<15:=by
  have:=(List.findIdx?_eq_some_iff_getElem.1 hi).1
  exact this
 have hx:Wq[i]?=some Wq[i]:=List.getElem?_eq_getElem hi15
 have hgd:Wq.getD i ([],0)=Wq[i]:=by rw[List.getD_eq_getElem?_getD,hx];rfl
 rw[hi] at hpar
 simp only[hgd] at hpar
 have hfn: -1≤Wq[i].2∧Wq[i].2≤2:=by
  have:∀x∈Wq, -1≤x.2∧x.2≤2:=by decide
  exact this _ (List.getElem_mem hi15)
 generalize Wq[i]=x at hx hpar hfn hgd
 obtain⟨fw,n⟩:=x
 simp only at hpar hfn
 have hg1:(zX Wd Wq)[i*2+1]?=some (.sc (.int .i64 n)):=u5 yx hx 1 (by decide)
 have di:decide ((i:Int)<0)=false:=decide_eq_false (by omega)
 have hi15':(i:Int).toNat<15:=by omega
 by_cases hbad:0≤n∧((ts.length:Int)+1≠n+1)
 · have hres:Zc l=(⟨0,0,0,[]⟩,15):=by rw[hpar,if_pos (by omega)]
   have dn:decide (0≤n)=true:=decide_eq_true hbad.1
   have w1:IntKind.i64.wrap (n+1)=n+1:=IntWalk.i64_in _ (by omega)
   have dd:decide (((ts.length+1:Nat):Int)≠n+1)=true:=decide_eq_true (by omega)
   refine je fun KY hKY=>?_
   simp only[go_sem,Qt,di,hi15,hg1,dn,w1,dd,Zh]
   apply hKY
   refine Q1 ?_
   refine zc fun KY hKY=>?_
   simp only[go_sem,Wj]
   apply hKY
   refine Z7 [0,2,3] 1 (by simp only[go_sem]) ?_
   simp only[go_sem]
   refine zW [0,2,3] (by simp only[go_sem];rfl) ?_
   simp only[go_sem]
   refine zz ?_
   repeat (first|refine hr2 _ ?_|refine hr1 _ ?_)
   simp only[go_sem]
   rw[hres];rfl
 replace hpar:=hpar.trans (if_neg (show¬(0≤n∧((ts.length+1:Nat):Int)≠n+1) by omega))
 rcases(show n<0∨(0≤n∧(ts.length:Int)=n) by omega) with hneg|⟨hpos,hlen2⟩
 · have dn:decide (0≤n)=false:=decide_eq_false (by omega)
   have dn2:decide (n<0)=true:=decide_eq_true hneg
   refine je fun KY hKY=>?_
   simp only[go_sem,Qt,di,hi15,hg1,dn]
   apply hKY
   refine yu ?_
   refine zC ?_
   repeat (first|refine hn2 _ ?_|refine he2 _ _ ?_|refine hn1 _ ?_|refine he1 _ _ ?_)
   refine zc fun KY hKY=>?_
   simp only[go_sem,Wi]
   apply hKY
   refine zc fun KY hKY=>?_
   simp only[go_sem,Wh]
   apply hKY
   refine Z7 [0,8] 1 (by simp only[go_sem]) ?_
   simp only[go_sem]
   refine zr fun X3 hn3 he3 hr3=>?_
   refine zc fun KY hKY=>?_
   simp only[go_sem,Yy]
   apply hKY
   refine Zp fun X4 hn4 he4 hf4 hr4=>?_
   try simp only[go_sem]
   refine QB (α:=Nat×List Nat) [10,11,56,66] (fun(j,ns)=>[(8,.own (some 1) (Z3 ns)),(9,.sc (.int .i64 ((j+1:Nat):Int)))]) (fun(j,ns)=>[]) (fun(j,ns) q=>j≤ts.length∧ZP (ts.take j)=some ns∧ns.length=j∧q=ts.length - j) ((0,[])) (ts.length) rfl (by first|(simp only[go_sem,zw,zB];done)|with_reducible rfl|rfl) (⟨Nat.zero_le _,rfl,rfl,rfl⟩) ?_
   rintro⟨j,ns⟩ q ⟨hj,hns,hnl,rfl⟩ X5 hn5 he5 hr5
   simp only[go_sem,zw,zB]
   refine zr fun X6 hn6 he6 hr6=>?_
   rcases Nat.lt_or_ge j ts.length with hj2|hj2
   · have hdx:decide (((j+1:Nat):Int)<((ts.length+1:Nat):Int))=true:=decide_eq_true (by omega)
     have hw:ts[j]?=some ts[j]:=List.getElem?_eq_getElem hj2
     have hwm:=hwl _ (.tail _ (List.getElem_mem hj2))
     have htl:ts=ts.take j++ts[j]::ts.drop (j+1):=by rw[←List.drop_eq_getElem_cons hj2,List.take_append_drop]
     have htk:ts.take (j+1)=ts.take j++[ts[j]]:=by rw[List.take_add_one,hw];rfl
     generalize ts[j]=w at hw hwm htl htk
     have hN:=wj (p::ts) (k:=j+1) (w:=w) (by simpa using hw) hwm
     cases hnb:j6 w with
     | none=>
       have hres:Zc l=(⟨0,0,0,[]⟩,15):=by
        have:ZP ts=none:=by rw[htl];exact yY hnb
        rw[hpar,this]
       rw[hnb] at hN
       refine zc fun KY hKY=>?_
       simp only[go_sem,jK,hdx,Zh]
       apply hKY
       refine Q1 ?_
       refine zC ?_
       repeat (first|refine hn6 _ ?_|refine he6 _ _ ?_|refine he5 _ _ ?_|refine hn4 _ ?_|refine he4 _ ?_|refine hf4 _ _ (by decide) ?_|refine hn3 _ ?_|refine he3 _ _ ?_|refine hn2 _ ?_|refine he2 _ _ ?_|refine hn1 _ ?_|refine he1 _ _ ?_)
       refine zr fun X7 hn7 he7 hr7=>?_
       refine Zp fun X8 hn8 he8 hf8 hr8=>?_
       refine zc fun KY hKY=>?_
       simp only[go_sem,qc]
       refine Ze rfl (by simp only[go_sem]<;>rfl) ((hN).mono ?_)
       rintro rr hh ⟨rfl,rfl⟩
       refine⟨rfl,rfl,rfl,?_⟩
       simp only[go_sem]
       apply hKY
       refine zr fun X9 hn9 he9 hr9=>?_
       refine zc fun KY hKY=>?_
       simp only[go_sem,qb]
       apply hKY
       refine Q1 ?_
       refine zc fun KY hKY=>?_
       simp only[go_sem,Yx]
       apply hKY
       refine Z7 [0,2,3] 1 (by simp only[go_sem]) ?_
       simp only[go_sem]
       refine zW [0,2,3] (by simp only[go_sem];rfl) ?_
       simp only[go_sem]
       refine zz ?_
       repeat (first|refine hr9 _ ?_|refine hr8 _ ?_|refine hr7 _ ?_|refine hr6 _ ?_|refine hr5 _ ?_|refine hr4 _ ?_|refine hr3 _ ?_|refine hr2 _ ?_|refine hr1 _ ?_)
       simp only[go_sem]
       rw[hres];rfl
     | some v=>
       rw[hnb] at hN
       refine zc fun KY hKY=>?_
       simp only[go_sem,jK,hdx,Zh]
       apply hKY
       refine Q1 ?_
       refine zC ?_
       repeat (first|refine hn6 _ ?_|refine he6 _ _ ?_|refine he5 _ _ ?_|refine hn4 _ ?_|refine he4 _ ?_|refine hf4 _ _ (by decide) ?_|refine hn3 _ ?_|refine he3 _ _ ?_|refine hn2 _ ?_|refine he2 _ _ ?_|refine hn1 _ ?_|refine he1 _ _ ?_)
       refine zr fun X10 hn10 he10 hr10=>?_
       refine Zp fun X11 hn11 he11 hf11 hr11=>?_
       refine zc fun KY hKY=>?_
       simp only[go_sem,qc]
       refine Ze rfl (by simp only[go_sem]<;>rfl) ((hN).mono ?_)
       rintro rr hh ⟨rfl,rfl⟩
       refine⟨rfl,rfl,rfl,?_⟩
       simp only[go_sem]
       apply hKY
       refine zr fun X12 hn12 he12 hr12=>?_
       refine zc fun KY hKY=>?_
       simp only[go_sem,qb]
       apply hKY
       refine yu ?_
       refine zC ?_
       repeat (first|refine hn12 _ ?_|refine he12 _ _ ?_|refine hn11 _ ?_|refine he11 _ ?_|refine hf11 _ _ (by decide) ?_|refine hn10 _ ?_|refine he10 _ _ ?_|refine hn6 _ ?_|refine he6 _ _ ?_|refine he5 _ _ ?_|refine hn4 _ ?_|refine he4 _ ?_|refine hf4 _ _ (by decide) ?_|refine hn3 _ ?_|refine he3 _ _ ?_|refine hn2 _ ?_|refine he2 _ _ ?_|refine hn1 _ ?_|refine he1 _ _ ?_)
       refine Z5 fun KY hKY=>?_
       simp only[go_sem,Yw,wm,J2,hnl,(show(j+1)*8≤140737488355328 by omega)]
       apply hKY
       repeat (first|refine hn12 _ ?_|refine he12 _ _ ?_|refine hn11 _ ?_|refine he11 _ ?_|refine hf11 _ _ (by decide) ?_|refine hn10 _ ?_|refine he10 _ _ ?_|refine hn6 _ ?_|refine he6 _ _ ?_|refine he5 _ _ ?_|refine hn4 _ ?_|refine he4 _ ?_|refine hf4 _ _ (by decide) ?_|refine hn3 _ ?_|refine he3 _ _ ?_|refine hn2 _ ?_|refine he2 _ _ ?_|refine hn1 _ ?_|refine he1 _ _ ?_)
       refine Z5 fun KY hKY=>?_
       simp only[go_sem,Yv,Um (show j+1<4611686018427387904 by omega)]
       apply hKY
       repeat (first|refine hn12 _ ?_|refine he12 _ _ ?_|refine hn11 _ ?_|refine he11 _ ?_|refine hf11 _ _ (by decide) ?_|refine hn10 _ ?_|refine he10 _ _ ?_|refine hn6 _ ?_|refine he6 _ _ ?_)
       refine hn5 _ ((j+1,ns++[v])) (ts.length - (j+1)) (by omega) (by first|(simp only[go_sem,zw,zB];done)|with_reducible rfl) ?_
       refine⟨hj2,?_,by simp[hnl],rfl⟩
       rw[htk,qn,hns]
       show(ZP [w]).map _=_
       unfold ZP
       rw[hnb];rfl
   have hdx:decide (((j+1:Nat):Int)<((ts.length+1:Nat):Int))=false:=decide_eq_false (by omega)
   obtain rfl:j=ts.length:=by omega
   rw[List.take_length] at hns
   rw[hns] at hpar
   refine zc fun KY hKY=>?_
   simp only[go_sem,jK,hdx,Zh]
   apply hKY
   refine yu ?_
   refine Ja ?_
   repeat (first|refine hn6 _ ?_|refine he6 _ _ ?_|refine he5 _ _ ?_|refine hn4 _ ?_|refine he4 _ ?_|refine hf4 _ _ (by decide) ?_|refine hn3 _ ?_|refine he3 _ _ ?_|refine hn2 _ ?_|refine he2 _ _ ?_|refine hn1 _ ?_|refine he1 _ _ ?_)
   have hres:Zc l=(⟨i,0,0,ns⟩,0):=hpar.trans (if_pos hneg)
   refine zW [0,8] (by simp only[go_sem];rfl) ?_
   simp only[go_sem]
   refine zc fun KY hKY=>?_
   simp only[go_sem,Yu]
   apply hKY
   refine zr fun X13 hn13 he13 hr13=>?_
   refine zc fun KY hKY=>?_
   simp only[go_sem,Yt,hi15,hg1,dn2]
   apply hKY
   refine Q1 ?_
   refine zc fun KY hKY=>?_
   simp only[go_sem,xh]
   apply hKY
   refine zc fun KY hKY=>?_
   simp only[go_sem,xg]
   apply hKY
   refine zz ?_
   repeat (first|refine hr13 _ ?_|refine hr6 _ ?_|refine hr5 _ ?_|refine hr4 _ ?_|refine hr3 _ ?_|refine hr2 _ ?_|refine hr1 _ ?_)
   simp only[go_sem]
   rw[hres];rfl
 · have dn:decide (0≤n)=true:=decide_eq_true hpos
   have dn2:decide (n<0)=false:=decide_eq_false (by omega)
   have w1:IntKind.i64.wrap (n+1)=n+1:=IntWalk.i64_in _ (by omega)
   have dd:decide (((ts.length+1:Nat):Int)≠n+1)=false:=decide_eq_false (by omega)
   refine je fun KY hKY=>?_
   simp only[go_sem,Qt,di,hi15,hg1,dn,w1,dd,Zh]
   apply hKY
   refine yu ?_
   refine zC ?_
   repeat (first|refine hn2 _ ?_|refine he2 _ _ ?_|refine hn1 _ ?_|refine he1 _ _ ?_)
   refine zc fun KY hKY=>?_
   simp only[go_sem,Wi]
   apply hKY
   refine zc fun KY hKY=>?_
   simp only[go_sem,Wh]
   apply hKY
   refine Z7 [0,8] 1 (by simp only[go_sem]) ?_
   simp only[go_sem]
   refine zr fun X14 hn14 he14 hr14=>?_
   refine zc fun KY hKY=>?_
   simp only[go_sem,Yy]
   apply hKY
   refine Zp fun X15 hn15 he15 hf15 hr15=>?_
   try simp only[go_sem]
   refine QB (α:=Nat×List Nat) [10,11,56,66] (fun(j,ns)=>[(8,.own (some 1) (Z3 ns)),(9,.sc (.int .i64 ((j+1:Nat):Int)))]) (fun(j,ns)=>[]) (fun(j,ns) q=>j≤ts.length∧ZP (ts.take j)=some ns∧ns.length=j∧q=ts.length - j) ((0,[])) (ts.length) rfl (by first|(simp only[go_sem,zw,zB];done)|with_reducible rfl|rfl) (⟨Nat.zero_le _,rfl,rfl,rfl⟩) ?_
   rintro⟨j,ns⟩ q ⟨hj,hns,hnl,rfl⟩ X16 hn16 he16 hr16
   simp only[go_sem,zw,zB]
   refine zr fun X17 hn17 he17 hr17=>?_
   rcases Nat.lt_or_ge j ts.length with hj2|hj2
   · have hdx:decide (((j+1:Nat):Int)<((ts.length+1:Nat):Int))=true:=decide_eq_true (by omega)
     have hw:ts[j]?=some ts[j]:=List.getElem?_eq_getElem hj2
     have hwm:=hwl _ (.tail _ (List.getElem_mem hj2))
     have htl:ts=ts.take j++ts[j]::ts.drop (j+1):=by rw[←List.drop_eq_getElem_cons hj2,List.take_append_drop]
     have htk:ts.take (j+1)=ts.take j++[ts[j]]:=by rw[List.take_add_one,hw];rfl
     generalize ts[j]=w at hw hwm htl htk
     have hN:=wj (p::ts) (k:=j+1) (w:=w) (by simpa using hw) hwm
     cases hnb:j6 w with
     | none=>
       have hres:Zc l=(⟨0,0,0,[]⟩,15):=by
        have:ZP ts=none:=by rw[htl];exact yY hnb
        rw[hpar,this]
       rw[hnb] at hN
       refine zc fun KY hKY=>?_
       simp only[go_sem,jK,hdx,Zh]
       apply hKY
       refine Q1 ?_
       refine zC ?_
       repeat (first|refine hn17 _ ?_|refine he17 _ _ ?_|refine he16 _ _ ?_|refine hn15 _ ?_|refine he15 _ ?_|refine hf15 _ _ (by decide) ?_|refine hn14 _ ?_|refine he14 _ _ ?_|refine hn2 _ ?_|refine he2 _ _ ?_|refine hn1 _ ?_|refine he1 _ _ ?_)
       refine zr fun X18 hn18 he18 hr18=>?_
       refine Zp fun X19 hn19 he19 hf19 hr19=>?_
       refine zc fun KY hKY=>?_
       simp only[go_sem,qc]
       refine Ze rfl (by simp only[go_sem]<;>rfl) ((hN).mono ?_)
       rintro rr hh ⟨rfl,rfl⟩
       refine⟨rfl,rfl,rfl,?_⟩
       simp only[go_sem]
       apply hKY
       refine zr fun X20 hn20 he20 hr20=>?_
       refine zc fun KY hKY=>?_
       simp only[go_sem,qb]
       apply hKY
       refine Q1 ?_
       refine zc fun KY hKY=>?_
       simp only[go_sem,Yx]
       apply hKY
       refine Z7 [0,2,3] 1 (by simp only[go_sem]) ?_
       simp only[go_sem]
       refine zW [0,2,3] (by simp only[go_sem];rfl) ?_
       simp only[go_sem]
       refine zz ?_
       repeat (first|refine hr20 _ ?_|refine hr19 _ ?_|refine hr18 _ ?_|refine hr17 _ ?_|refine hr16 _ ?_|refine hr15 _ ?_|refine hr14 _ ?_|refine hr2 _ ?_|refine hr1 _ ?_)
       simp only[go_sem]
       rw[hres];rfl
     | some v=>
       rw[hnb] at hN
       refine zc fun KY hKY=>?_
       simp only[go_sem,jK,hdx,Zh]
       apply hKY
       refine Q1 ?_
       refine zC ?_
       repeat (first|refine hn17 _ ?_|refine he17 _ _ ?_|refine he16 _ _ ?_|refine hn15 _ ?_|refine he15 _ ?_|refine hf15 _ _ (by decide) ?_|refine hn14 _ ?_|refine he14 _ _ ?_|refine hn2 _ ?_|refine he2 _ _ ?_|refine hn1 _ ?_|refine he1 _ _ ?_)
       refine zr fun X21 hn21 he21 hr21=>?_
       refine Zp fun X22 hn22 he22 hf22 hr22=>?_
       refine zc fun KY hKY=>?_
       simp only[go_sem,qc]
       refine Ze rfl (by simp only[go_sem]<;>rfl) ((hN).mono ?_)
       rintro rr hh ⟨rfl,rfl⟩
       refine⟨rfl,rfl,rfl,?_⟩
       simp only[go_sem]
       apply hKY
       refine zr fun X23 hn23 he23 hr23=>?_
       refine zc fun KY hKY=>?_
       simp only[go_sem,qb]
       apply hKY
       refine yu ?_
       refine zC ?_
       repeat (first|refine hn23 _ ?_|refine he23 _ _ ?_|refine hn22 _ ?_|refine he22 _ ?_|refine hf22 _ _ (by decide) ?_|refine hn21 _ ?_|refine he21 _ _ ?_|refine hn17 _ ?_|refine he17 _ _ ?_|refine he16 _ _ ?_|refine hn15 _ ?_|refine he15 _ ?_|refine hf15 _ _ (by decide) ?_|refine hn14 _ ?_|refine he14 _ _ ?_|refine hn2 _ ?_|refine he2 _ _ ?_|refine hn1 _ ?_|refine he1 _ _ ?_)
       refine Z5 fun KY hKY=>?_
       simp only[go_sem,Yw,wm,J2,hnl,(show(j+1)*8≤140737488355328 by omega)]
       apply hKY
       repeat (first|refine hn23 _ ?_|refine he23 _ _ ?_|refine hn22 _ ?_|refine he22 _ ?_|refine hf22 _ _ (by decide) ?_|refine hn21 _ ?_|refine he21 _ _ ?_|refine hn17 _ ?_|refine he17 _ _ ?_|refine he16 _ _ ?_|refine hn15 _ ?_|refine he15 _ ?_|refine hf15 _ _ (by decide) ?_|refine hn14 _ ?_|refine he14 _ _ ?_|refine hn2 _ ?_|refine he2 _ _ ?_|refine hn1 _ ?_|refine he1 _ _ ?_)
       refine Z5 fun KY hKY=>?_
       simp only[go_sem,Yv,Um (show j+1<4611686018427387904 by omega)]
       apply hKY
       repeat (first|refine hn23 _ ?_|refine he23 _ _ ?_|refine hn22 _ ?_|refine he22 _ ?_|refine hf22 _ _ (by decide) ?_|refine hn21 _ ?_|refine he21 _ _ ?_|refine hn17 _ ?_|refine he17 _ _ ?_)
       refine hn16 _ ((j+1,ns++[v])) (ts.length - (j+1)) (by omega) (by first|(simp only[go_sem,zw,zB];done)|with_reducible rfl) ?_
       refine⟨hj2,?_,by simp[hnl],rfl⟩
       rw[htk,qn,hns]
       show(ZP [w]).map _=_
       unfold ZP
       rw[hnb];rfl
   have hdx:decide (((j+1:Nat):Int)<((ts.length+1:Nat):Int))=false:=decide_eq_false (by omega)
   obtain rfl:j=ts.length:=by omega
   rw[List.take_length] at hns
   rw[hns] at hpar
   refine zc fun KY hKY=>?_
   simp only[go_sem,jK,hdx,Zh]
   apply hKY
   refine yu ?_
   refine Ja ?_
   repeat (first|refine hn17 _ ?_|refine he17 _ _ ?_|refine he16 _ _ ?_|refine hn15 _ ?_|refine he15 _ ?_|refine hf15 _ _ (by decide) ?_|refine hn14 _ ?_|refine he14 _ _ ?_|refine hn2 _ ?_|refine he2 _ _ ?_|refine hn1 _ ?_|refine he1 _ _ ?_)
   replace hpar:=hpar.trans (if_neg (show¬n<0 by omega))
   have hap:Z3 ns++[.sc (.int .i64 0),.sc (.int .i64 0)]=Z3 (ns++[0,0]):=by simp[Z3]
   have hl2:(ns++[0,0]).length=ns.length+2:=by simp
   obtain⟨a,ha⟩:∃a,a=ns.getD 0 0:=⟨_,rfl⟩
   obtain⟨b,hb⟩:∃b,b=ns.getD 1 0:=⟨_,rfl⟩
   have h0:(Z3 (ns++[0,0]))[0]?=some (.sc (.int .i64 (a:Int))):=by
    rw[WR (by omega),ha]
    rcases ns with _|⟨x,_|⟨y,r⟩⟩<;>rfl
   have h1:(Z3 (ns++[0,0]))[1]?=some (.sc (.int .i64 (b:Int))):=by
    rw[WR (by omega),hb]
    rcases ns with _|⟨x,_|⟨y,r⟩⟩<;>rfl
   rw[←ha,←hb] at hpar
   refine zc fun KY hKY=>?_
   simp only[go_sem,Yu]
   apply hKY
   refine zr fun X24 hn24 he24 hr24=>?_
   refine zc fun KY hKY=>?_
   simp only[go_sem,Yt,hi15,hg1,dn2]
   apply hKY
   refine yu ?_
   refine zC ?_
   repeat (first|refine hn24 _ ?_|refine he24 _ _ ?_|refine hn17 _ ?_|refine he17 _ _ ?_|refine he16 _ _ ?_|refine hn15 _ ?_|refine he15 _ ?_|refine hf15 _ _ (by decide) ?_|refine hn14 _ ?_|refine he14 _ _ ?_|refine hn2 _ ?_|refine he2 _ _ ?_|refine hn1 _ ?_|refine he1 _ _ ?_)
   refine zc fun KY hKY=>?_
   simp only[go_sem,xf,J2,hap,(show(ns.length+2)*8≤140737488355328 by omega)]
   apply hKY
   refine je fun KY hKY=>?_
   simp only[go_sem,xe,h0,h1,J2,hl2,(show 1≤ns.length+2 by omega),(show 2≤ns.length+2 by omega),(show([0,12]==[0,8])=false from rfl),Bool.not_false]
   apply hKY
   refine zr fun X25 hn25 he25 hr25=>?_
   by_cases h6:i=6
   · have d6:decide ((i:Int)=6)=true:=decide_eq_true (by omega)
     by_cases h61:a=1
     · have d61:decide ((a:Int)≠1)=false:=decide_eq_false (by omega)
       have hres:Zc l=(⟨i,a,b,[]⟩,0):=hpar.trans (if_neg (by omega))
       refine zc fun KY hKY=>?_
       simp only[go_sem,qa,d6,d61]
       apply hKY
       refine yu ?_
       refine zC ?_
       repeat (first|refine hn25 _ ?_|refine he25 _ _ ?_|refine hn24 _ ?_|refine he24 _ _ ?_|refine hn17 _ ?_|refine he17 _ _ ?_|refine he16 _ _ ?_|refine hn15 _ ?_|refine he15 _ ?_|refine hf15 _ _ (by decide) ?_|refine hn14 _ ?_|refine he14 _ _ ?_|refine hn2 _ ?_|refine he2 _ _ ?_|refine hn1 _ ?_|refine he1 _ _ ?_)
       refine zc fun KY hKY=>?_
       simp only[go_sem,Qu]
       apply hKY
       refine Z7 [0,2,3] 1 (by simp only[go_sem]) ?_
       simp only[go_sem]
       refine zW [0,2,3] (by simp only[go_sem];rfl) ?_
       simp only[go_sem]
       refine zz ?_
       repeat (first|refine hr25 _ ?_|refine hr24 _ ?_|refine hr17 _ ?_|refine hr16 _ ?_|refine hr15 _ ?_|refine hr14 _ ?_|refine hr2 _ ?_|refine hr1 _ ?_)
       simp only[go_sem]
       rw[hres];rfl
     · have d61:decide ((a:Int)≠1)=true:=decide_eq_true (by omega)
       by_cases h62:a=2
       · have d62:decide ((a:Int)≠2)=false:=decide_eq_false (by omega)
         have hres:Zc l=(⟨i,a,b,[]⟩,0):=hpar.trans (if_neg (by omega))
         refine zc fun KY hKY=>?_
         simp only[go_sem,qa,d6,d61,d62]
         apply hKY
         refine yu ?_
         refine zC ?_
         repeat (first|refine hn25 _ ?_|refine he25 _ _ ?_|refine hn24 _ ?_|refine he24 _ _ ?_|refine hn17 _ ?_|refine he17 _ _ ?_|refine he16 _ _ ?_|refine hn15 _ ?_|refine he15 _ ?_|refine hf15 _ _ (by decide) ?_|refine hn14 _ ?_|refine he14 _ _ ?_|refine hn2 _ ?_|refine he2 _ _ ?_|refine hn1 _ ?_|refine he1 _ _ ?_)
         refine zc fun KY hKY=>?_
         simp only[go_sem,Qu]
         apply hKY
         refine Z7 [0,2,3] 1 (by simp only[go_sem]) ?_
         simp only[go_sem]
         refine zW [0,2,3] (by simp only[go_sem];rfl) ?_
         simp only[go_sem]
         refine zz ?_
         repeat (first|refine hr25 _ ?_|refine hr24 _ ?_|refine hr17 _ ?_|refine hr16 _ ?_|refine hr15 _ ?_|refine hr14 _ ?_|refine hr2 _ ?_|refine hr1 _ ?_)
         simp only[go_sem]
         rw[hres];rfl
       · have d62:decide ((a:Int)≠2)=true:=decide_eq_true (by omega)
         have hres:Zc l=(⟨0,0,0,[]⟩,15):=hpar.trans (if_pos ⟨h6,h61,h62⟩)
         refine zc fun KY hKY=>?_
         simp only[go_sem,qa,d6,d61,d62]
         apply hKY
         refine Q1 ?_
         refine zc fun KY hKY=>?_
         simp only[go_sem,xd]
         apply hKY
         refine Z7 [0,2,3] 1 (by simp only[go_sem]) ?_
         simp only[go_sem]
         refine zW [0,2,3] (by simp only[go_sem];rfl) ?_
         simp only[go_sem]
         refine zz ?_
         repeat (first|refine hr25 _ ?_|refine hr24 _ ?_|refine hr17 _ ?_|refine hr16 _ ?_|refine hr15 _ ?_|refine hr14 _ ?_|refine hr2 _ ?_|refine hr1 _ ?_)
         simp only[go_sem]
         rw[hres];rfl
   · have d6:decide ((i:Int)=6)=false:=decide_eq_false (by omega)
     have hres:Zc l=(⟨i,a,b,[]⟩,0):=hpar.trans (if_neg (by omega))
     refine zc fun KY hKY=>?_
     simp only[go_sem,qa,d6]
     apply hKY
     refine yu ?_
     refine zC ?_
     repeat (first|refine hn25 _ ?_|refine he25 _ _ ?_|refine hn24 _ ?_|refine he24 _ _ ?_|refine hn17 _ ?_|refine he17 _ _ ?_|refine he16 _ _ ?_|refine hn15 _ ?_|refine he15 _ ?_|refine hf15 _ _ (by decide) ?_|refine hn14 _ ?_|refine he14 _ _ ?_|refine hn2 _ ?_|refine he2 _ _ ?_|refine hn1 _ ?_|refine he1 _ _ ?_)
     refine zc fun KY hKY=>?_
     simp only[go_sem,Qu]
     apply hKY
     refine Z7 [0,2,3] 1 (by simp only[go_sem]) ?_
     simp only[go_sem]
     refine zW [0,2,3] (by simp only[go_sem];rfl) ?_
     simp only[go_sem]
     refine zz ?_
     repeat (first|refine hr25 _ ?_|refine hr24 _ ?_|refine hr17 _ ?_|refine hr16 _ ?_|refine hr15 _ ?_|refine hr14 _ ?_|refine hr2 _ ?_|refine hr1 _ ?_)
     simp only[go_sem]
     rw[hres];rfl
end Go.Proofs.YtneiihheeghdcaaDoor

namespace Go.Ga.Gl
open Go Go.Ga
end Go.Ga.Gl
namespace Go.Proofs.YtneiihheeghdcaaDoor
open Go Go.Ga Go.Ga.Gl
theorem YI :zJ Tryd.prog [] Kd [] [] fun r h'=>r= .sc (.bool true)∧h'=[]:=by
 have hP:=yV [97,100,100,32,49,32,50] (by decide)
 rw[show Zc [97,100,100,32,49,32,50]=(⟨2,1,2,[]⟩,0) by kernel_rfl] at hP
 unfold gR.cells at hP
 simp only at hP
 refine KU rfl ?_
 unfold Kp yC
 refine zc fun KY hKY=>?_
 simp only[go_sem,xP]
 apply hKY
 refine zc fun KY hKY=>?_
 simp only[go_sem,xO]
 apply Ji [] [] false none rfl
 iterate 8 (first|(simp only[go_sem,zP]<;>rfl)|rfl)
 refine(hP).mono ?_
 rintro _ _ ⟨rfl,rfl⟩
 refine⟨Nat.le_of_ble_eq_true rfl,(fun hh=>by cases hh),?_⟩
 simp only[go_sem,jb,zb.after]
 apply hKY
 refine zc fun KY hKY=>?_
 simp only[go_sem,xN]
 apply hKY
 refine zz ?_
 simp only[go_sem]
theorem gg (x:Int)(k:Nat)(hk:0<k)(hk2:k≤4611686018427387904):∃n:Nat,n<k∧IntKind.i64.wrap ((IntKind.u64.wrap x).tmod (k:Int))=(n:Int):=by
 have h0:0≤IntKind.u64.wrap x:=by
  unfold IntKind.wrap;simp[IntKind.bits,IntKind.signed];omega
 obtain⟨u,hu⟩:=Int.eq_ofNat_of_zero_le h0
 rw[hu]
 refine⟨u%k,Nat.mod_lt _ hk,?_⟩
 have:((u:Int)).tmod (k:Int)=((u%k:Nat):Int):=rfl
 have:=Nat.mod_lt u hk
 rw[‹((u:Int)).tmod (k:Int)=((u%k:Nat):Int)›,IntWalk.i64_in _ (by omega)]
theorem ZZ (l m:List UInt8)(h:l.length+m.length≤1000):j5 .add (z1 l) (z1 m)=some (.string (z1 (l++m))):=kg (by omega)
end Go.Proofs.YtneiihheeghdcaaDoor

namespace Go.Ga.Gl
open Go Go.Ga
def wM :List (List UInt8):=[[118,101,114,116,105,99,101,115,32,49],[97,100,100,32,49,32,50],[114,101,109,111,118,101,32,49,32,50],[103,114,111,119],[99,117,116,32,49],[109,97,116,99,104,32,50],[103,97,108,108,97,105],[98,97,114,114,105,101,114],[115,105,100,101,115],[98,108,111,99,107,115],[102,97,99,116,111,114,32,49,32,50],[99,111,118,101,114],[99,108,97,115,115,105,102,121],[116,101,108,108]]
theorem gS :zq [.string (z1 [])] 14=[.sc (.string (z1 [])),.sc (.string (z1 [])),.sc (.string (z1 [])),.sc (.string (z1 [])),.sc (.string (z1 [])),.sc (.string (z1 [])),.sc (.string (z1 [])),.sc (.string (z1 [])),.sc (.string (z1 [])),.sc (.string (z1 [])),.sc (.string (z1 [])),.sc (.string (z1 [])),.sc (.string (z1 [])),.sc (.string (z1 []))]:=rfl
theorem Gb :zq [.string (z1 [])] 8=[.sc (.string (z1 [])),.sc (.string (z1 [])),.sc (.string (z1 [])),.sc (.string (z1 [])),.sc (.string (z1 [])),.sc (.string (z1 [])),.sc (.string (z1 [])),.sc (.string (z1 []))]:=rfl
def yo (s:List UInt8):List (List UInt8):=[s++[32,51],[32]++s,s++[32],[120]++s,s++[32,48,51],s++[32,45,49],s++[32,43,49],s++[32,49,50,51,52,53,54,55,56,57,48]]
def gD :Bool:=(List.range 14).all fun m=>((Zc (wM.getD m [])).2==0&&(Zc (wM.getD m [])).1.kind==m+1)&&decide ((wM.getD m []).length≤100)&&(List.range 8).all fun j=>((Zc ((yo (wM.getD m [])).getD j [])).2==0)==(m==10&&decide ((yo (wM.getD m [])).getD j []=wM.getD m []++[32,51]))
theorem kP :gD=true:=by kernel_rfl
theorem U7 {m j:Nat}(hm:m<14)(hj:j<8):(Zc (wM.getD m [])).2=0∧(Zc (wM.getD m [])).1.kind=m+1∧(wM.getD m []).length≤100∧(decide ((Zc ((yo (wM.getD m [])).getD j [])).2=0)=(decide (m=10)&&decide ((yo (wM.getD m [])).getD j []=wM.getD m []++[32,51]))):=by
 have h:=kP
 unfold gD at h
 rw[List.all_eq_true] at h
 have h2:=h m (List.mem_range.2 hm)
 rw[Bool.and_eq_true,Bool.and_eq_true,Bool.and_eq_true,List.all_eq_true] at h2
 obtain⟨⟨⟨a,b⟩,c⟩,d⟩:=h2
 have e:=d j (List.mem_range.2 hj)
 exact⟨by simpa using a,by simpa using b,of_decide_eq_true c,by simpa[Bool.beq_eq_decide_eq] using e⟩
end Go.Ga.Gl
namespace Go.Proofs.YtneiihheeghdcaaDoor
open Go Go.Ga Go.Ga.Gl
theorem kW (x k:Int)(hk:0<k)(hk2:k≤4611686018427387904):∃n:Nat,(n:Int)<k∧IntKind.i64.wrap ((IntKind.u64.wrap x).tmod k)=(n:Int):=by
 obtain⟨m,hm⟩:=Int.eq_ofNat_of_zero_le (Int.le_of_lt hk)
 subst hm
 obtain⟨n,h1,h2⟩:=gg x m (by omega) (by omega)
 exact⟨n,by omega,h2⟩
theorem Uc (x y:Int):zJ Tryd.prog [] gn [.sc (.int .i64 x),.sc (.int .i64 y)] [] fun r h'=>r= .sc (.bool true):=by
 obtain⟨m,hm,hx⟩:=kW x 14 (by decide) (by decide)
 obtain⟨j,hj,hy⟩:=kW y 8 (by decide) (by decide)
 obtain⟨o1,o2,o3,o4⟩:=U7 (m:=m) (j:=j) (by omega) (by omega)
 have hw:wM[m]?=some (wM.getD m []):=by
  rw[List.getD_eq_getElem?_getD,List.getElem?_eq_getElem (show m<wM.length by show m<14;omega)];rfl
 have hws:=yF hw
 generalize wM.getD m []=s at*
 have hb:(yo s)[j]?=some ((yo s).getD j []):=by
  rw[List.getD_eq_getElem?_getD,List.getElem?_eq_getElem (show j<(yo s).length by show j<8;omega)];rfl
 have hbs:=yF hb
 have hbs:([.sc (.string (z1 (s++[32,51]))),.sc (.string (z1 (32::s))),.sc (.string (z1 (s++[32]))),.sc (.string (z1 (120::s))),.sc (.string (z1 (s++[32,48,51]))),.sc (.string (z1 (s++[32,45,49]))),.sc (.string (z1 (s++[32,43,49]))),.sc (.string (z1 (s++[32,49,50,51,52,53,54,55,56,57,48])))]:List za)[j]?=_:=hbs
 have hbl:((yo s).getD j []).length≤1000:=by
  have:∀z∈yo s,z.length≤1000:=by
   intro z hz
   simp only[yo,List.mem_cons,List.not_mem_nil,or_false] at hz
   rcases hz with rfl|rfl|rfl|rfl|rfl|rfl|rfl|rfl<;>simp<;>omega
  rw[List.getD_eq_getElem?_getD,List.getElem?_eq_getElem (show j<(yo s).length by show j<8;omega)]
  exact this _ (List.getElem_mem _)
 generalize (yo s).getD j []=t at*
 have q1:=yV s (by omega)
 have q2:=yV t (by omega)
 generalize Zc s=p1 at*
 generalize Zc t=p2 at*
 obtain⟨c1,e1⟩:=p1
 obtain⟨c2,e2⟩:=p2
 simp only at o1 o2 o4 q1 q2
 subst o1
 unfold gR.cells at q1 q2
 have a0:=ZZ s [32,51] (by simp;omega)
 have a1:=ZZ s [32] (by simp;omega)
 have a1p:=ZZ [32] s (by simp;omega)
 have a2:=ZZ [120] s (by simp;omega)
 have a3:=ZZ s [32,48,51] (by simp;omega)
 have a4:=ZZ s [32,45,49] (by simp;omega)
 have a5:=ZZ s [32,43,49] (by simp;omega)
 have a6:=ZZ s [32,49,50,51,52,53,54,55,56,57,48] (by simp;omega)
 have w1:IntKind.i64.wrap (1+(m:Int))=((m+1:Nat):Int):=by rw[IntWalk.i64_in _ (by omega)];omega
 have w2:IntKind.i64.wrap (((m+1:Nat):Int) - 1)=(m:Int):=by rw[IntWalk.i64_in _ (by omega)];omega
 have k1:(c1.kind:Int)=((m+1:Nat):Int):=by rw[o2]
 refine gw rfl ?_
 unfold gF Jo
 refine zc fun KY hKY=>?_
 simp only[go_sem,uu]
 apply hKY
 refine zc fun KY hKY=>?_
 simp only[go_sem,ut,hx,w1]
 apply hKY
 refine zc fun KY hKY=>?_
 simp only[go_sem,ur,gS]
 apply hKY
 rw[show([.sc (.string (z1 [118,101,114,116,105,99,101,115,32,49])),.sc (.string (z1 [97,100,100,32,49,32,50])),.sc (.string (z1 [114,101,109,111,118,101,32,49,32,50])),.sc (.string (z1 [103,114,111,119])),.sc (.string (z1 [99,117,116,32,49])),.sc (.string (z1 [109,97,116,99,104,32,50])),.sc (.string (z1 [103,97,108,108,97,105])),.sc (.string (z1 [98,97,114,114,105,101,114])),.sc (.string (z1 [115,105,100,101,115])),.sc (.string (z1 [98,108,111,99,107,115])),.sc (.string (z1 [102,97,99,116,111,114,32,49,32,50])),.sc (.string (z1 [99,111,118,101,114])),.sc (.string (z1 [99,108,97,115,115,105,102,121])),.sc (.string (z1 [116,101,108,108]))]:List za)=Z6 wM from rfl]
 refine zc fun KY hKY=>?_
 simp only[go_sem,uq,w2,hws,Zh,(show m<wM.length by show m<14;omega),(show m+1≤wM.length by show m+1≤14;omega)]
 apply hKY
 refine zc fun KY hKY=>?_
 simp only[go_sem,up]
 apply Ji [] [] false none rfl
 iterate 8 (first|(simp only[go_sem,zP]<;>rfl)|rfl)
 refine(q1).mono ?_
 rintro _ _ ⟨rfl,rfl⟩
 refine⟨Nat.le_of_ble_eq_true rfl,(fun hh=>by cases hh),?_⟩
 simp only[go_sem,jb,zb.after]
 apply hKY
 refine zc fun KY hKY=>?_
 simp only[go_sem,uo,a0,a1,a2,a3,a4,a5,a6,a1p,hy,Gb,(show j<8 by omega),hbs]
 apply hKY
 refine zc fun KY hKY=>?_
 simp only[go_sem,un]
 apply Ji [] [] false none rfl
 iterate 8 (first|(simp only[go_sem,zP]<;>rfl)|rfl)
 refine(q2).mono ?_
 rintro _ _ ⟨rfl,rfl⟩
 refine⟨Nat.le_of_ble_eq_true rfl,(fun hh=>by cases hh),?_⟩
 simp only[go_sem,jb,zb.after]
 apply hKY
 by_cases h10:m=10
 · have d10:decide (((m+1:Nat):Int)=11)=true:=decide_eq_true (by omega)
   rw[decide_eq_true h10,Bool.true_and] at o4
   refine zc fun KY hKY=>?_
   simp only[go_sem,Wm,d10,a0]
   apply hKY
   refine zc fun KY hKY=>?_
   simp only[go_sem,Wl]
   refine Ze rfl (by simp only[go_sem]<;>rfl) ((YI).mono ?_)
   rintro rr hh ⟨rfl,rfl⟩
   refine⟨rfl,rfl,rfl,?_⟩
   simp only[go_sem,k1,o4,beq_self_eq_true]
   apply hKY
   refine zz ?_
   simp only[go_sem]
 · have d10:decide (((m+1:Nat):Int)=11)=false:=decide_eq_false (by omega)
   rw[decide_eq_false h10,Bool.false_and] at o4
   refine zc fun KY hKY=>?_
   simp only[go_sem,Wm,d10]
   apply hKY
   refine zc fun KY hKY=>?_
   simp only[go_sem,Wl]
   refine Ze rfl (by simp only[go_sem]<;>rfl) ((YI).mono ?_)
   rintro rr hh ⟨rfl,rfl⟩
   refine⟨rfl,rfl,rfl,?_⟩
   simp only[go_sem,k1,o4]
   apply hKY
   refine zz ?_
   simp only[go_sem]
theorem Yb (As:List za)(b:Nat)(h:kU Tryd.prog Tryd.f3.params.toList As b)(hb:b≤1048576):zJ Tryd.prog [] 3 As [] fun r _=>r= .sc (.bool true):=by
 rw[Tryd.params3] at h
 obtain⟨A1,As1,c1,d1,rfl,rfl,h1,h⟩:=WJ h
 obtain⟨A2,As2,c2,d2,rfl,rfl,h2,h⟩:=WJ h
 obtain rfl:=kp h
 obtain⟨x1,rfl,w1⟩:=vy Tryd.underlying3 h1
 obtain⟨x2,rfl,w2⟩:=vy Tryd.underlying3 h2
 exact(Uc x1 x2).mono fun _ _ h=>h
end Go.Proofs.YtneiihheeghdcaaDoor
namespace Go.Proofs.YtneiihheeghdcaaDoor.linesWordsend
open Go Go.Ga Go.ChangeShapes Go.WideShapes Go.ChangeAt Go.RowKit
theorem own :ownKnob Tryd.prog.godebug=none:=by kernel_rfl
mutual
theorem yA {H:Type}:∀d:DataW H,Rows.uptoBulk d=Z4 d
 | .lit l=>by cases l<;>simp[Rows.uptoBulk,Z4]
 | .nil=>by simp[Rows.uptoBulk,Z4]
 | .ptr d=>by simp[Rows.uptoBulk,Z4,yA d]
 | .slice e s=>by simp[Rows.uptoBulk,Z4,bulk_eq e,bulk_eq s]
 | .agg p=>by simp[Rows.uptoBulk,Z4,bulk_eq p]
 | .iface _ d=>by simp[Rows.uptoBulk,Z4,yA d]
 | .map e=>by simp[Rows.uptoBulk,Z4,bulk_es e]
 | .held _=>by simp[Rows.uptoBulk,Z4]
theorem bulk_eq {H:Type}:∀l:List (DataW H),Rows.uptoBulkAll l=bulkL l
 |[]=>by simp[Rows.uptoBulkAll,bulkL]
 |d::r=>by simp[Rows.uptoBulkAll,bulkL,yA d,bulk_eq r]
theorem bulk_es {H:Type}:∀l:List (Lit×DataW H),Rows.uptoBulkEntries l=bulkE l
 |[]=>by simp[Rows.uptoBulkEntries,bulkE]
 |d::r=>by simp[Rows.uptoBulkEntries,bulkE,bulk_e d,bulk_es r]
theorem bulk_e {H:Type}:∀d:Lit×DataW H,Rows.uptoBulkEntry d=bulk1 d
 |(l,d)=>by cases l<;>simp[Rows.uptoBulkEntry,bulk1,yA d]
end
set_option maxRecDepth 100000 in
theorem plain :wK Tryd.prog [3]:=vS (by kernel_rfl)
set_option maxRecDepth 100000 in
theorem VB (H:Type)(enc:TypeId×Value→H)(W:World)(base:Nat)(args:Array Value)(ds gs:List (DataW H))(before:List MemPlace)
    (hval:∀(j:Nat) t v,Tryd.f3.params[j]?=some t→args[j]?=some v→Value.okWide Tryd.prog W .any base t v)
    (hW:DataW.Whole enc Tryd.prog Tryd.f3.params.toList Rows.linesWordsSpec.vars false W args.toList ds gs before) (hk:Rows.uptoSmall H (ds++gs)=true):
    Calls Tryd.prog 3 args W fun e W'=>∃v,e= .returned v∧Rows.linesWordsSpec.post enc Tryd.prog Tryd.f3 false true false false W args v W':=by
  have hW':=hW
  obtain⟨p,q,hA,hV,rfl,hfz,hnd⟩:=hW
  obtain⟨rfl,rfl⟩:=Go.Ga.Jp hV
  have hb:bulkL (ds++[])≤1048576:=by rw[←bulk_eq];exact of_decide_eq_true hk
  have r0:DataW.TrodAll enc Tryd.prog W 0 (fun _=>true) true Tryd.f3.params.toList args.toList ds p:=hA
  rw[Tryd.params3] at r0
  obtain⟨v0,vs0,d0,ds0,p0,q0,hv0,rfl,rfl,h0,r1⟩:=trodAll_cons r0
  obtain⟨v1,vs1,d1,ds1,p1,q1,hv1,rfl,rfl,h1,r2⟩:=trodAll_cons r1
  obtain⟨rfl,rfl,rfl⟩:=trodAll_nil r2
  exact Y1 plain hval (by rw[Tryd.params3];decide) hW' rfl rfl rfl rfl (tb:=4) (by kernel_rfl) Tryd.underlying4 hb Yb
mutual
def flat :DataW Unit→List Value
 | .lit l=>[l.value]
 | .agg p=>flatL p
 |_=>[]
def flatL :List (DataW Unit)→List Value
 |[]=>[]
 |d::r=>flat d++flatL r
end
def gj (l:List Value):Obj→Obj
 | .cells _ t frozen=> .cells l.toArray t frozen
 |o=>o
noncomputable def QM (os:Os):World:=
 {World.holding Tryd.prog os ⟨#[], #[],[]⟩ with heap:=((World.holding Tryd.prog os ⟨#[], #[],[]⟩).heap.modify 2 (gj (flat Rows.laid_unicode_utf8_first))).modify 3 (gj (flat Rows.laid_unicode_utf8_acceptRanges))}
theorem Ve (os:Os):laidMet Tryd.prog Rows.linesWordsUptoRow.laid ((QM os).forCall (fun _ _=>0) ⟨#[], #[.int .i64 0,.int .i64 0],[]⟩).memory:=
 laidMet_of_run' 8 (by kernel_rfl) (by kernel_rfl)
theorem gi (os:Os){H:Type}(enc:TypeId×Value→H):∃places,DataW.whole enc Tryd.prog ((QM os).forCall (fun _ _=>0) ⟨#[], #[.int .i64 0,.int .i64 0],[]⟩).memory Tryd.f3.params.toList Rows.linesWordsSpec.vars false (#[.int .i64 0,.int .i64 0]:Array Value).toList 8=some ([.lit (.int .i64 0),.lit (.int .i64 0)],[],places):=
 ⟨[],by kernel_rfl⟩
set_option maxRecDepth 100000 in
theorem KJ (os:Os)(started:os.Started)(H:Type)(enc:TypeId×Value→H)(F:Stop.Interp):
    ReturnsInHanded {} Tryd.checked os 3 .any ((Rows.OpenSpec.upto Rows.linesWordsSpec).preRow enc Tryd.prog Tryd.f3 Rows.linesWordsUptoRow.domain false Rows.linesWordsUptoRow.laid) (((Rows.OpenSpec.upto Rows.linesWordsSpec).at F).post enc Tryd.prog Tryd.f3 false true false false):=by
  obtain⟨places,hx⟩:=gi os enc
  refine returnsInHanded_of_row (C:=Tryd.checked) (s:=Rows.OpenSpec.upto Rows.linesWordsSpec) own started (by kernel_rfl) Tryd.func3
    (witness_row_at (enc:=enc) (C:=Tryd.checked) false (QM os) #[.int .i64 0,.int .i64 0] rfl (by kernel_rfl) (by kernel_rfl) (by kernel_rfl)
      (OpenSpec.preRow_of_cond 8 hx (by kernel_rfl) (fun k hk=>by cases hk;kernel_rfl) (by kernel_rfl) (Ve os))) ?_
  intro W base args ds gs before hval hW _ hcond _ _ _ _
  exact VB H enc W base args ds gs before hval hW (hcond _ rfl)
theorem vx :Rows.LinesWordsUptoSaid:=
 OpenClaim.holds_of_cond 3 Tryd.f3 rfl rfl rfl rfl rfl rfl rfl ⟨rfl,rfl,rfl,rfl,rfl⟩ rfl rfl rfl rfl rfl (by kernel_rfl) Tryd.func3 (by kernel_rfl)
  (of_decide_eq_true (by kernel_rfl)) (by unfold Func.isWrapper;first|(rw[if_pos (by decide+kernel)];kernel_rfl)|(rw[if_neg (by decide+kernel)];exact⟨rfl,rfl⟩))
  (fun os started H enc _ F=>by rw[OpenClaim.pre_eq_preRow];exact KJ os started H enc F)
theorem gh (f : FuncId) (fn : Func) (hf : Tryd.pinned.checked.prog.funcNamed "garland/garlandlaw26.LinesWords" = some f) (hfn : Tryd.pinned.checked.prog.funcs[f]? = some fn) :
    false=Tryd.pinned.checked.prog.looks []∧∀(j:Nat) t,fn.params[j]?=some t→Tryd.pinned.checked.prog.wantsStandIn t=false:=by
  obtain rfl : f = 3 := Option.some.inj ((show Tryd.prog.funcNamed "garland/garlandlaw26.LinesWords" = some 3 by kernel_rfl).symm.trans hf) |>.symm
  obtain rfl:fn=Tryd.f3:=(Option.some.inj (Tryd.func3.symm.trans hfn)).symm
  refine⟨by kernel_rfl,fun j t ht=>?_⟩
  have h:(Tryd.f3.params.toList.all fun t=> !Tryd.prog.wantsStandIn t)=true:=by kernel_rfl
  have:=List.all_eq_true.1 h t (by rw[Array.mem_toList_iff];exact Array.mem_of_getElem? ht)
  have h2:Tryd.prog.wantsStandIn t=false:=by simpa using this
  exact h2
theorem holds :Rows.LinesWordsUptoCardSaid:=
 Claim7.holds_tied_plain_at .later [] _ _ _ _ vx (fun _ h=>by cases h) (by kernel_rfl) (fun _ h=>by cases h) linesWordsUpto_row_tie rfl ⟨rfl,rfl⟩ (by kernel_rfl) rfl gh (by kernel_rfl)
end Go.Proofs.YtneiihheeghdcaaDoor.linesWordsend
