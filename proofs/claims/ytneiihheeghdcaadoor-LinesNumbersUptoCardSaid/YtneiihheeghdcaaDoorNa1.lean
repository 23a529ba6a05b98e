/- Numbers up to nine digits, without noughts ahead. -/
import Derived.Test.YtneiihheeghdcaaDoorRows
import Derived.Test.YtneiihheeghdcaaDoorGalmhfj5
import Derived.Shelf.Strings.Search1
import Derived.Shelf.Strings.Count
import Derived.Lib.Bytealg
import Derived.WalkKit
import Derived.ProofKit
import Derived.OpenShut
import Derived.JoinedCond
import Derived.Test.YtneiihheeghdcaaDoorCards
import Derived.Test.YtneiihheeghdcaaDoorTie
import Derived.Deep.DeepHandedRow
import Derived.Lib.LaidTab
set_option linter.all false

namespace Go.Proofs.YtneiihheeghdcaaDoor
open Go Go.Ga
theorem mix :Tryd.prog.follows .mixedOrders=true:=by kernel_rfl
def Wy :List zt:=[oO 2]
def Wx :List zt:=[oM 7 0,(none,.r (.conv 8 .u64 (.t 7))),(none,.r (.bin 9 .rem 0 (.t 8) (.c (.int .u64 2000000000)))),(none,.r (.conv 10 .i64 (.t 9))),oS 0 10]
def Ww :List zt:=[oM 12 0,oC 13 11 12,(none,.r (.bin 14 .add 0 (.c (.string ⟨#[99,117,116,32]⟩)) (.t 13))),oC 15 9 14,oM 11 15,oY 16 11 0,oY 17 11 1,(none,.alloc 3 [.int .i64 0,.int .i64 0,.int .i64 0,.slice none 0 0]),oW 3 16 4,oS 4 17]
def Wv :List zt:=[oM 19 0,oC 20 11 19,(none,.r (.bin 21 .add 0 (.c (.string ⟨#[99,117,116,32,48]⟩)) (.t 20))),oC 22 9 21,oM 18 22,oY 23 18 0,oY 24 18 1,(none,.alloc 5 [.int .i64 0,.int .i64 0,.int .i64 0,.slice none 0 0]),oW 5 23 4,oS 6 24]
def Wu :List zt:=[oM 25 0,oB 26 .gtr 25 999999999]
def uL :List zt:=[(none,.call 27 (.f 10) []),oM 28 27,oK 28 true 29 4,XO 28 true 30 .eql 29 15,oP 31 28 30,oM 32 31,oK 32 true 33 6,XO 32 true 34 .eql 33 15,oP 35 32 34,oS 2 35]
def uK :List zt:=[(none,.call 36 (.f 10) []),oM 37 36,oK 37 true 38 4,XO 37 true 39 .eql 38 0,oP 40 37 39,oM 41 40,(some (41,true),.r (.fldA 42 (.t 3) 1)),XN 41 true 43 42 1,oK 41 true 44 0,ko 41 true 45 .eql 43 44,oP 46 41 45,oM 47 46,oK 47 true 48 6,XO 47 true 49 .eql 48 15,
 oP 50 47 49,oS 2 50]
def qN :List Nat:=[0,2,3,4,6,26]
def gr :zW:=.seq (.reg qN Wy qN) (.seq (.reg qN Wx qN) (.seq (.reg [0,2,4,6,26] Ww qN) (.seq (.reg qN Wv qN) (.seq (.seq (.reg [0,
 2,3,4,6] Wu qN) (.cond (.t 26) (.seq (.reg qN uL qN) .ret) .skip)) (.seq (.reg qN uK qN) .ret)))))
abbrev gJ :Nat:=4
theorem Kw :vp Tryd.prog Tryd.f4.ntmps 1 [2] qN [(.tmp 2)] gr gJ:=vq mix Tryd.func4 (by kernel_rfl) rfl
def uJ :List zt:=[(none,.alloc 2 [.int .i64 0,.int .i64 0,.int .i64 0,.slice none 0 0]),oI 3 0]
def Wt :List zt:=[oM 13 0,(none,.r (.lenS 14 (.t 13))),oB 15 .gtr 14 65536]
def uI :List zt:=[(none,.bld 16 [] [.int .i64 0,.int .i64 0,.int .i64 0,.slice none 0 0]),oW 2 16 4,oI 3 8]
def uH :List zt:=[oM 17 0,(none,.call 18 (.f 23) [(.t 17,false),(.c (.string ⟨#[32]⟩),false)]),(none,.bld 19 [((0,1),(.t 18,true))] [.slice none 0 0]),(none,.box 20 (.t 19)),(none,.alloc 4 [.pointer none]),oW 4 20 1]
def uG :List zt:=[(none,.call 21 (.f 24) []),(none,.alloc 5 [.string ⟨#[]⟩,.int .i64 0,.string ⟨#[]⟩,.int .i64 0,.string ⟨#[]⟩,.int .i64 0,.string ⟨#[]⟩,.int .i64 0,.string ⟨#[]⟩,.int .i64 0,.string ⟨#[]⟩,.int .i64 0,.string ⟨#[]⟩,.int .i64 0,.string ⟨#[]⟩,.int .i64 0,.string ⟨#[]⟩,.int .i64 0,
 .string ⟨#[]⟩,.int .i64 0,.string ⟨#[]⟩,.int .i64 0,.string ⟨#[]⟩,.int .i64 0,.string ⟨#[]⟩,.int .i64 0,.string ⟨#[]⟩,.int .i64 0,.string ⟨#[]⟩,.int .i64 0]),oW 5 21 30]
def uF :List zt:=[(none,.r (.slc 22 (.t 5) none (some (.c (.int .i64 15))) 2)),(none,.mkfn 23 (.func 26) [] [(.t 4,false)]),Vn 24 25 22 23,oS 6 24]
def QA :ZQ:=.take [1,2,3,4,5,6,7,8,9,10,11,12,13,14,15,16,17,18,19,20,21] (oM 25 6) (.take [2,3,4,5,6,7,8,9,10,11,12,13,14,15,16,17,18,19,20,21] (oB 26 .lss 25 0) (.take [3,4,5,6,7,8,9,10,11,12,13,14,15,16,17,18,19,20,21] (oM 27 26) (.take [4,5,6,7,8,9,10,11,12,13,14,15,16,17,18,19,
 20,21] (oK 27 false 28 6) (.take [5,6,7,8,9,10,11,12,13,14,15,16,17,18,19,20,21] (some (27,false),.r (.idxP 29 (.t 5) (.t 28) 15 2)) (.take [6,7,8,9,10,11,12,13,14,15,16,17,18,19,20,21] (some (27,false),.r (.fldA 30 (.t 29) 1)) (.take [7,8,9,10,11,12,13,14,15,16,17,18,19,20,21] (XN 27 false 31 30 1) (.take [8,
 9,10,11,12,13,14,15,16,17,18,19,20,21] (XO 27 false 32 .geq 31 0) (.take [9,10,11,12,13,14,15,16,17,18,19,20,21] (oK 27 false 33 32) (.take [10,11,12,13,19,20,21] (XN 33 true 34 4 1) (.take [11,12,13,19,20,21] (some (33,true),.r (.nilck 35 (.t 34))) (.take [12,13,19,20,21] (some (33,true),.r (.fldA 36 (.t 35) 0)) (.take [13,
 19,20,21] (XN 33 true 37 36 1) (.take [19,20,21] (some (33,true),.r (.len 38 (.t 37))) (.take [15,16,17,18,19,20,21] (oK 33 true 39 6) (.take [16,17,18,19,20,21] (some (33,true),.r (.idxP 40 (.t 5) (.t 39) 15 2)) (.take [17,18,19,20,21] (some (33,true),.r (.fldA 41 (.t 40) 1)) (.take [18,19,20,21] (XN 33 true 42 41 1) (.take [19,
 20,21] (XO 33 true 43 .add 42 1) (.take [20,21] (ko 33 true 44 .neq 38 43) (.take [21] (some (27,false),.r (.pick 45 (.t 33) (.t 44) (.c (.bool false)))) (.take [] (oQ 46 27 45) .done)))))))))))))))))))))
def Ws :List zt:=[(none,.bld 47 [] [.int .i64 0,.int .i64 0,.int .i64 0,.slice none 0 0]),oW 2 47 4,oI 3 15]
def Wr :List zt:=[oL 48 4 1,(none,.mkfn 49 (.func 27) [(.t 48,false)] []),oS 7 49]
def Wq :List zt:=[oZ 8]
def YE :List zt:=[oI 9 1]
def jN :List zt:=[oM 50 9,oL 51 4 1,oN 52 51,oF 53 52 0,oL 54 53 1,oE 55 54,oD 56 .lss 50 55]
def qf :List zt:=[oM 60 7,oM 61 9,(none,.call 62 (.t 60) [(.t 61,false)]),oM 59 62,oY 63 59 0,oY 64 59 1,oS 10 63,oS 11 64]
def qe :List zt:=[oM 65 11,(none,.r (.notb 66 (.t 65)))]
def YD :List zt:=[(none,.bld 67 [] [.int .i64 0,.int .i64 0,.int .i64 0,.slice none 0 0]),oW 2 67 4,oI 3 15]
def YC :List zt:=[oM 68 8,oM 69 10,(none,.blds 70 1 1 [((0,1),(.t 69,true))] [.int .i64 0]),(none,.app 71 (.t 68) (.t 70) 1 8),oS 8 71]
def YB :List zt:=[oM 57 9,oB 58 .add 57 1,oS 9 58]
def YA :List zt:=[oM 72 6,(none,.bld 73 [((0,1),(.t 72,true))] [.int .i64 0,.int .i64 0,.int .i64 0,.slice none 0 0]),(none,.alloc 12 [.int .i64 0,.int .i64 0,.int .i64 0,.slice none 0 0]),oW 12 73 4]
def Yz :List zt:=[oM 74 6,(none,.r (.idxP 75 (.t 5) (.t 74) 15 2)),oF 76 75 1,oL 77 76 1,oB 78 .lss 77 0]
def xx :List zt:=[oM 79 8,oF 80 12 3,oW 80 79 1]
def xw :List zt:=[oT 81 12 4,oW 2 81 4,oI 3 0]
def xv :List zt:=[oM 82 8,(none,.blds 83 2 1 [((0,1),(.c (.int .i64 0),true)),((1,1),(.c (.int .i64 0),true))] [.int .i64 0]),(none,.app 84 (.t 82) (.t 83) 1 8),oS 8 84]
def xu :ZQ:=.take [1,2,6,7,8,9] (oM 85 8) (.take [2,6,7,8,9] (none,.r (.idxA 86 (.t 85) (.c (.int .i64 0)) 1)) (.take [6,7,8,9] (oL 87 86 1) (.take [4,5,8,9] (oM 88 8) (.take [5,8,9] (none,.r (.idxA 89 (.t 88) (.c (.int .i64 1)) 1)) (.take [8,9] (oL 90 89 1) (.take [7,8,9] (oF 91 12 1) (.one 7 (oW 91 87 1) (.take [9] (oF 92 12 2) (.one 9 (oW 92 90 1) .done)))))))))
def qd :List zt:=[oM 93 6,oB 94 .eql 93 6,oM 95 94,(some (95,true),.r (.fldA 96 (.t 12) 1)),XN 95 true 97 96 1,XO 95 true 98 .neq 97 1,oP 99 95 98,oM 100 99,(some (100,true),.r (.fldA 101 (.t 12) 1)),XN 100 true 102 101 1,XO 100 true 103 .neq 102 2,oP 104 100 103]
def xr :List zt:=[(none,.bld 105 [] [.int .i64 0,.int .i64 0,.int .i64 0,.slice none 0 0]),oW 2 105 4,oI 3 15]
def QB :List zt:=[oT 106 12 4,oW 2 106 4,oI 3 0]
def Zd :List Nat:=[0,2,3,4,5,6,7,8,9,10,11,12,15,46,56,66,78,104]
def gW :zW:=.seq (.reg [0,3,4,5,6,7,8,9,10,11,12,15,46,56,66,78,104] uJ Zd) (.seq (.seq (.reg [0,2,3,4,5,6,7,8,9,10,11,12,46,56,66,78,104] Wt Zd) (.cond (.t 15) (.seq (.reg Zd uI Zd) .ret) .skip)) (.seq (.reg [0,
 2,3,5,6,7,8,9,10,11,12,15,46,56,66,78,104] uH Zd) (.seq (.reg [0,2,3,4,6,7,8,9,10,11,12,15,46,56,66,78,104] uG Zd) (.seq (.reg Zd uF Zd) (.seq (.seq (.draw [0,2,3,4,5,6,7,8,9,10,11,12,15,56,66,78,104] QA Zd) (.cond (.t 46) (.seq (.reg Zd Ws Zd) .ret) .skip)) (.seq (.reg Zd Wr Zd) (.seq (.reg Zd Wq Zd) (.seq (.seq (.reg Zd YE Zd) (.blk 0 (.loop (.seq (.seq (.reg [0,
 2,3,4,5,6,7,8,9,10,11,12,15,46,66,78,104] jN Zd) (.cond (.t 56) .skip (.exit 0))) (.seq (.blk 1 (.seq (.reg Zd qf Zd) (.seq (.seq (.reg [0,2,3,4,5,6,7,8,9,10,11,12,15,46,56,78,104] qe Zd) (.cond (.t 66) (.seq (.reg Zd YD Zd) .ret) .skip)) (.reg Zd YC Zd)))) (.reg Zd YB Zd)))))) (.seq (.reg [0,
 2,3,4,5,6,7,8,9,10,11,15,46,56,66,78,104] YA Zd) (.seq (.seq (.reg [0,2,3,4,5,6,7,8,9,10,11,12,15,46,56,66,104] Yz Zd) (.cond (.t 78) (.seq (.reg Zd xx Zd) (.seq (.reg Zd xw Zd) .ret)) .skip)) (.seq (.reg Zd xv Zd) (.seq (.draw Zd xu Zd) (.seq (.seq (.reg [0,
 2,3,4,5,6,7,8,9,10,11,12,15,46,56,66,78] qd Zd) (.cond (.t 104) (.seq (.reg Zd xr Zd) .ret) .skip)) (.seq (.reg Zd QB Zd) .ret))))))))))))))
abbrev gG :Nat:=9
theorem gP :vp Tryd.prog Tryd.f9.ntmps 1 [3] Zd [(.cell 2 4 true),(.tmp 3)] gW gG:=vq mix Tryd.func9 (by kernel_rfl) rfl
def x9 :List zt:=[oO 0]
def x8 :List zt:=[(none,.call 4 (.f 9) [(.c (.string ⟨#[97,100,100,32,49,32,50]⟩),false)]),oM 3 4,oY 5 3 0,oY 6 3 1,(none,.alloc 1 [.int .i64 0,.int .i64 0,.int .i64 0,.slice none 0 0]),oW 1 5 4,oS 2 6]
def x7 :List zt:=[oM 7 2,oB 8 .eql 7 0,oM 9 8,(some (9,true),.r (.fldA 10 (.t 1) 0)),XN 9 true 11 10 1,XO 9 true 12 .eql 11 2,oP 13 9 12,oM 14 13,(some (14,true),.r (.fldA 15 (.t 1) 1)),XN 14 true 16 15 1,XO 14 true 17 .eql 16 1,oP 18 14 17,oM 19 18,(some (19,true),.r (.fldA 20 (.t 1) 2)),
 XN 19 true 21 20 1,XO 19 true 22 .eql 21 2,oP 23 19 22,oS 0 23]
def yI :List Nat:=[0,1,2]
def KH :zW:=.seq (.reg yI x9 yI) (.seq (.reg [0,2] x8 yI) (.seq (.reg yI x7 yI) .ret))
abbrev Ku :Nat:=10
theorem gg :vp Tryd.prog Tryd.f10.ntmps 0 [0] yI [(.tmp 0)] KH Ku:=vq mix Tryd.func10 (by kernel_rfl) rfl
def YM :List zt:=[(none,.asg 2 (.c (.string ⟨#[]⟩)) true)]
def YL :List zt:=[oM 3 0,oB 4 .lss 3 10]
def x6 :List zt:=[oM 5 0,(none,.r (.bin 6 .add 0 (.c (.int .i64 48)) (.t 5))),(none,.r (.conv 7 .u8 (.t 6))),(none,.blds 8 1 1 [((0,1),(.t 7,true))] [.int .u8 0]),(none,.r (.box 9 (.t 8))),oS 2 9]
def x5 :ZQ:=.take [1,2,9,10] (oM 10 0) (.take [2,9,10] (oB 11 .quo 10 10) (.take [4,5,6,7,8,9,10] (oM 13 0) (.take [5,6,7,8,9,10] (oB 14 .rem 13 10) (.take [6,7,8,9,10] (none,.r (.bin 15 .add 0 (.c (.int .i64 48)) (.t 14))) (.take [7,8,9,10] (none,.r (.conv 16 .u8 (.t 15))) (.two 2 (oC 12 11 11) (.one 7 (none,
 .blds 17 1 1 [((0,1),(.t 16,true))] [.int .u8 0]) (.take [9,10] (none,.r (.box 18 (.t 17))) (.take [10] (oD 19 .add 12 18) (.one 10 (oS 2 19) .done)))) 7 (none,.blds 17 1 1 [((0,1),(.t 16,true))] [.int .u8 0]) (.take [9,10] (none,.r (.box 18 (.t 17))) (.one 2 (oC 12 11 11) (.take [10] (oD 19 .add 12 18) (.one 10 (oS 2 19) .done))))))))))
def qC :List Nat:=[0,2,4]
def V3 :zW:=.seq (.reg qC YM qC) (.seq (.seq (.reg [0,2] YL qC) (.cond (.t 4) (.seq (.reg qC x6 qC) .ret) .skip)) (.seq (.draw qC x5 qC) .ret))
abbrev W7 :Nat:=11
theorem VK :vp Tryd.prog Tryd.f11.ntmps 1 [2] qC [(.tmp 2)] V3 W7:=vq mix Tryd.func11 (by kernel_rfl) rfl
def x4 :List zt:=[oZ 4]
def xZ :List zt:=[oM 5 0,oM 6 1,(none,.call 7 (.f 40) [(.t 5,false),(.t 6,false),(.c (.int .i64 0),false),(.c (.int .i64 (- (0+1))),false)]),oS 4 7]
def we :List Nat:=[0,1,4]
def KG :zW:=.seq (.reg we x4 we) (.seq (.reg we xZ we) .ret)
abbrev Kt :Nat:=23
theorem gf :vp Tryd.prog Tryd.f23.ntmps 2 [4] we [(.tmp 4)] KG Kt:=vq mix Tryd.func23 (by kernel_rfl) rfl
def xY :List zt:=[(none,.alloc 0 [.string ⟨#[]⟩,.int .i64 0,.string ⟨#[]⟩,.int .i64 0,.string ⟨#[]⟩,.int .i64 0,.string ⟨#[]⟩,.int .i64 0,.string ⟨#[]⟩,.int .i64 0,.string ⟨#[]⟩,.int .i64 0,.string ⟨#[]⟩,.int .i64 0,.string ⟨#[]⟩,.int .i64 0,.string ⟨#[]⟩,.int .i64 0,.string ⟨#[]⟩,.int .i64 0,
 .string ⟨#[]⟩,.int .i64 0,.string ⟨#[]⟩,.int .i64 0,.string ⟨#[]⟩,.int .i64 0,.string ⟨#[]⟩,.int .i64 0,.string ⟨#[]⟩,.int .i64 0])]
def xX :List zt:=[(none,.bld 1 [((0,1),(.c (.string ⟨#[118,101,114,116,105,99,101,115]⟩),true)),((1,1),(.c (.int .i64 1),true))] [.string ⟨#[]⟩,.int .i64 0]),(none,.bld 2 [((0,1),(.c (.string ⟨#[97,100,100]⟩),true)),((1,1),(.c (.int .i64 2),true))] [.string ⟨#[]⟩,.int .i64 0]),
 (none,.bld 3 [((0,1),(.c (.string ⟨#[114,101,109,111,118,101]⟩),true)),((1,1),(.c (.int .i64 2),true))] [.string ⟨#[]⟩,.int .i64 0]),(none,.bld 4 [((0,1),(.c (.string ⟨#[103,114,111,119]⟩),true)),((1,1),(.c (.int .i64 0),true))] [.string ⟨#[]⟩,.int .i64 0]),(none,.bld 5 [((0,1),(.c (.string ⟨#[99,
  117,116]⟩),true)),((1,1),(.c (.int .i64 1),true))] [.string ⟨#[]⟩,.int .i64 0]),(none,.bld 6 [((0,1),(.c (.string ⟨#[109,97,116,99,104]⟩),true)),((1,1),(.c (.int .i64 1),true))] [.string ⟨#[]⟩,.int .i64 0]),(none,.bld 7 [((0,1),(.c (.string ⟨#[103,97,108,108,97,105]⟩),true)),((1,1),(.c (.int .i64 0),
 true))] [.string ⟨#[]⟩,.int .i64 0]),(none,.bld 8 [((0,1),(.c (.string ⟨#[98,97,114,114,105,101,114]⟩),true)),((1,1),(.c (.int .i64 0),true))] [.string ⟨#[]⟩,.int .i64 0]),(none,.bld 9 [((0,1),(.c (.string ⟨#[115,105,100,101,115]⟩),true)),((1,1),(.c (.int .i64 0),true))] [.string ⟨#[]⟩,.int .i64 0]),
 (none,.bld 10 [((0,1),(.c (.string ⟨#[98,108,111,99,107,115]⟩),true)),((1,1),(.c (.int .i64 0),true))] [.string ⟨#[]⟩,.int .i64 0]),(none,.bld 11 [((0,1),(.c (.string ⟨#[102,97,99,116,111,114]⟩),true)),((1,1),(.c (.int .i64 (- (0+1))),true))] [.string ⟨#[]⟩,.int .i64 0]),(none,.bld 12 [((0,
 1),(.c (.string ⟨#[99,111,118,101,114]⟩),true)),((1,1),(.c (.int .i64 0),true))] [.string ⟨#[]⟩,.int .i64 0]),(none,.bld 13 [((0,1),(.c (.string ⟨#[99,108,97,115,115,105,102,121]⟩),true)),((1,1),(.c (.int .i64 0),true))] [.string ⟨#[]⟩,.int .i64 0]),(none,.bld 14 [((0,1),(.c (.string ⟨#[116,
  101,108,108]⟩),true)),((1,1),(.c (.int .i64 0),true))] [.string ⟨#[]⟩,.int .i64 0]),(none,.bld 15 [((2,2),(.t 1,true)),((4,2),(.t 2,true)),((6,2),(.t 3,true)),((8,2),(.t 4,true)),((10,2),(.t 5,true)),((12,2),(.t 6,true)),((14,2),(.t 7,true)),((16,2),(.t 8,true)),((18,2),(.t 9,true)),((20,2),(.t 10,
 true)),((22,2),(.t 11,true)),((24,2),(.t 12,true)),((26,2),(.t 13,true)),((28,2),(.t 14,true))] [.string ⟨#[]⟩,.int .i64 0,.string ⟨#[]⟩,.int .i64 0,.string ⟨#[]⟩,.int .i64 0,.string ⟨#[]⟩,.int .i64 0,.string ⟨#[]⟩,.int .i64 0,.string ⟨#[]⟩,.int .i64 0,.string ⟨#[]⟩,.int .i64 0,.string ⟨#[]⟩,.int .i64 0,
 .string ⟨#[]⟩,.int .i64 0,.string ⟨#[]⟩,.int .i64 0,.string ⟨#[]⟩,.int .i64 0,.string ⟨#[]⟩,.int .i64 0,.string ⟨#[]⟩,.int .i64 0,.string ⟨#[]⟩,.int .i64 0,.string ⟨#[]⟩,.int .i64 0]),oW 0 15 30]
def WE :List Nat:=[0]
def KF :zW:=.seq (.reg [] xY WE) (.seq (.reg WE xX WE) .ret)
abbrev Ks :Nat:=24
theorem ge :vp Tryd.prog Tryd.f24.ntmps 0 [] WE [(.cell 0 30 true)] KF Ks:=vq mix Tryd.func24 (by kernel_rfl) rfl
def xW :List zt:=[oI 4 0]
def xV :List zt:=[oM 6 0,oE 7 6,(none,.r (.mov 8 (.c (.int .i64 0))))]
def YK :List zt:=[oD 9 .lss 8 7]
def xU :List zt:=[oM 10 8,oS 5 10]
def xT :List zt:=[oM 11 1,oM 12 0,oM 13 5,oX 14 12 13 2,oT 15 14 2,(none,.call 16 (.t 11) [(.t 15,false)])]
def xS :List zt:=[oM 17 5,oS 4 17]
def xR :List zt:=[oB 18 .add 8 1,oS 8 18]
def xQ :List zt:=[(none,.asg 4 (.c (.int .i64 (- (0+1)))) true)]
def jD :List Nat:=[0,1,4,5,7,8,9,16]
def KE :zW:=.seq (.reg jD xW jD) (.seq (.seq (.reg [0,1,4,5,9,16] xV jD) (.blk 0 (.loop (.seq (.reg [0,
 1,4,5,7,8,16] YK jD) (.seq (.cond (.t 9) .skip (.exit 0)) (.seq (.blk 1 (.seq (.reg jD xU jD) (.seq (.reg [0,
 1,4,5,7,8,9] xT jD) (.cond (.t 16) (.seq (.reg jD xS jD) .ret) .skip)))) (.reg jD xR jD))))))) (.seq (.reg jD xQ jD) .ret))
abbrev Kr :Nat:=25
theorem gc :vp Tryd.prog Tryd.f25.ntmps 2 [4] jD [(.tmp 4)] KE Kr:=vq mix Tryd.func25 (by kernel_rfl) rfl
def xP :List zt:=[(none,.box 2 (.t 0)),oO 3]
def YJ :ZQ:=.take [1,2,3,4,5,6,7,8,9,10,11,12,13,14] (oF 4 2 0) (.take [2,3,4,5,6,7,8,9,10,11,12,13,14] (oL 5 4 1) (.take [3,4,5,6,7,8,9,10,11,12,13,14] (none,.r (.bin 6 .neq 0 (.t 5) (.c (.string ⟨#[]⟩)))) (.take [4,5,6,7,8,9,10,11,12,13,14] (oM 7 6) (.take [5,12,13,14] (some (7,
 true),.r (.fldA 8 (.t 2) 0)) (.take [12,13,14] (XN 7 true 9 8 1) (.take [7,8,9,10,11,12,13,14] (XN 7 true 10 1 1) (.take [8,9,10,11,12,13,14] (some (7,true),.r (.nilck 11 (.t 10))) (.take [9,10,11,12,13,14] (some (7,true),.r (.fldA 12 (.t 11) 0)) (.take [10,11,12,13,14] (XN 7 true 13 12 1) (.take [11,
 12,13,14] (some (7,true),.r (.idxA 14 (.t 13) (.c (.int .i64 0)) 1)) (.take [12,13,14] (XN 7 true 15 14 1) (.take [13,14] (ko 7 true 16 .eql 9 15) (.take [14] (oP 17 7 16) (.one 14 (oS 3 17) .done))))))))))))))
def WD :List Nat:=[0,1,2,3]
def KD :zW:=.seq (.reg [0,1,3] xP WD) (.seq (.draw WD YJ WD) .ret)
abbrev Vr :Nat:=26
theorem ga :vp Tryd.prog Tryd.f26.ntmps 2 [3] WD [(.tmp 3)] KD Vr:=vq mix Tryd.func26 (by kernel_rfl) rfl
def xO :List zt:=[oI 4 0,oO 5]
def xN :List zt:=[oM 10 0,oN 11 10,oF 12 11 0,oL 13 12 1,oM 14 1,oX 15 13 14 1,oL 16 15 1,oS 6 16]
def Jk :List zt:=[oM 17 6,(none,.r (.lenS 18 (.t 17))),oB 19 .lss 18 1,oM 20 19,oK 20 false 21 6,(some (20,false),.r (.lenS 22 (.t 21))),XO 20 false 23 .gtr 22 9,oQ 24 20 23,oM 25 24,oK 25 false 26 6,(some (25,false),.r (.lenS 27 (.t 26))),XO 25 false 28 .gtr 27 1,oK 25 false 29 28,
 oK 29 true 30 6,(some (29,true),.r (.idxS 31 (.t 30) (.c (.int .i64 0)))),(some (29,true),.r (.bin 32 .eql 0 (.t 31) (.c (.int .u8 48)))),(some (25,false),.r (.pick 33 (.t 29) (.t 32) (.c (.bool false)))),oQ 34 25 33]
def QC :List zt:=[oI 4 0,oO 5]
def YI :List zt:=[oI 7 0]
def YH :List zt:=[oM 35 6,(none,.s2b 36 (.t 35)),oE 37 36,(none,.r (.mov 38 (.c (.int .i64 0))))]
def qh :List zt:=[oD 39 .lss 38 37]
def YG :List zt:=[oX 40 36 38 1,oL 41 40 1,oS 9 41]
def jO :List zt:=[oM 42 9,(none,.r (.bin 43 .lss 0 (.t 42) (.c (.int .u8 48)))),oM 44 43,oK 44 false 45 9,(some (44,false),.r (.bin 46 .gtr 0 (.t 45) (.c (.int .u8 57)))),oQ 47 44 46]
def qg :List zt:=[oI 4 0,oO 5]
def Q5 :List zt:=[oM 48 7,(none,.r (.bin 49 .mul 0 (.c (.int .i64 10)) (.t 48))),oM 50 9,(none,.r (.bin 51 .sub 0 (.t 50) (.c (.int .u8 48)))),(none,.r (.conv 52 .i64 (.t 51))),oD 53 .add 49 52,oS 7 53]
def Q4 :List zt:=[oB 54 .add 38 1,oS 38 54]
def Q3 :List zt:=[oM 55 7,oS 4 55,(none,.asg 5 (.c (.bool true)) true)]
def Zy :List Nat:=[0,1,4,5,6,7,9,34,36,37,38,39,47]
def KC :zW:=.seq (.reg Zy xO Zy) (.seq (.reg Zy xN Zy) (.seq (.seq (.reg [0,1,4,5,6,7,9,36,37,38,39,47] Jk Zy) (.cond (.t 34) (.seq (.reg Zy QC Zy) .ret) .skip)) (.seq (.reg Zy YI Zy) (.seq (.seq (.reg [0,
 1,4,5,6,7,9,34,39,47] YH Zy) (.blk 0 (.loop (.seq (.reg [0,1,4,5,6,7,9,34,36,37,38,47] qh Zy) (.seq (.cond (.t 39) .skip (.exit 0)) (.seq (.blk 1 (.seq (.reg Zy YG Zy) (.seq (.seq (.reg [0,
 1,4,5,6,7,9,34,36,37,38,39] jO Zy) (.cond (.t 47) (.seq (.reg Zy qg Zy) .ret) .skip)) (.reg Zy Q5 Zy)))) (.reg Zy Q4 Zy))))))) (.seq (.reg Zy Q3 Zy) .ret)))))
abbrev Kq :Nat:=27
theorem K9 :vp Tryd.prog Tryd.f27.ntmps 2 [4,5] Zy [(.tmp 4),(.tmp 5)] KC Kq:=vq mix Tryd.func27 (by kernel_rfl) rfl
def xM :List zt:=[oZ 8]
def xL :List zt:=[oM 12 3,oB 13 .eql 12 0]
def V0 :List zt:=[oZ 8]
def xK :List zt:=[oM 14 1,(none,.r (.bin 15 .eql 0 (.t 14) (.c (.string ⟨#[]⟩))))]
def VZ :List zt:=[oM 16 0,oM 17 3,Vn 18 50 16 17,oS 8 18]
def xJ :List zt:=[oM 19 3,oB 20 .lss 19 0]
def xI :List zt:=[oM 21 0,oM 22 1,Vn 23 51 21 22,oB 24 .add 23 1,oS 3 24]
def xH :List zt:=[oM 25 3,oM 26 0,(none,.r (.lenS 27 (.t 26))),oB 28 .add 27 1,(none,.r (.mm 29 false (.t 25) (.t 28))),oS 3 29]
def xG :List zt:=[oM 30 3,(none,.mk 31 (.t 30) (.t 30) 1 16 [.string ⟨#[]⟩]),oS 9 31]
def xF :List zt:=[oM 32 3,oB 33 .sub 32 1,oS 3 33]
def wS :List zt:=[oI 10 0]
def Q2 :List zt:=[oM 34 10,oM 35 3,oD 36 .lss 34 35]
def wR :List zt:=[oM 37 0,oM 38 1,Vn 39 52 37 38,oS 11 39]
def wQ :List zt:=[oM 40 11,oB 41 .lss 40 0]
def wP :List zt:=[oM 42 9,oM 43 10,oM 44 0,oM 45 11,oM 46 2,oD 47 .add 45 46,(none,.r (.slc 48 (.t 44) none (some (.t 47)) 0)),oX 49 42 43 1,oW 49 48 1]
def wO :List zt:=[oM 50 0,oM 51 11,oM 52 1,(none,.r (.lenS 53 (.t 52))),oD 54 .add 51 53,(none,.r (.slc 55 (.t 50) (some (.t 54)) none 0)),oS 0 55]
def wN :List zt:=[oM 56 10,oB 57 .add 56 1,oS 10 57]
def wM :List zt:=[oM 58 9,oM 59 10,oM 60 0,oX 61 58 59 1,oW 61 60 1]
def wL :List zt:=[oM 62 9,oM 63 10,oB 64 .add 63 1,(none,.slc 65 (.t 62) none (some (.t 64)) 1),oS 8 65]
def zT :List Nat:=[0,1,2,3,8,9,10,11,13,15,20,36,41]
def KB :zW:=.seq (.reg zT xM zT) (.seq (.seq (.reg [0,1,2,3,8,9,10,11,15,20,36,41] xL zT) (.cond (.t 13) (.seq (.reg zT V0 zT) .ret) .skip)) (.seq (.seq (.reg [0,
 1,2,3,8,9,10,11,13,20,36,41] xK zT) (.cond (.t 15) (.seq (.reg zT VZ zT) .ret) .skip)) (.seq (.seq (.reg [0,1,2,3,8,9,10,11,13,15,36,41] xJ zT) (.cond (.t 20) (.reg zT xI zT) .skip)) (.seq (.reg zT xH zT) (.seq (.reg zT xG zT) (.seq (.reg zT xF zT) (.seq (.reg zT wS zT) (.seq (.blk 0 (.loop (.seq (.seq (.reg [0,
 1,2,3,8,9,10,11,13,15,20,41] Q2 zT) (.cond (.t 36) .skip (.exit 0))) (.blk 1 (.seq (.reg zT wR zT) (.seq (.seq (.reg [0,1,2,3,8,9,10,11,13,15,20,36] wQ zT) (.cond (.t 41) (.exit 0) .skip)) (.seq (.reg zT wP zT) (.seq (.reg zT wO zT) (.reg zT wN zT))))))))) (.seq (.reg zT wM zT) (.seq (.reg zT wL zT) .ret))))))))))
abbrev Kp :Nat:=40
theorem K8 :vp Tryd.prog Tryd.f40.ntmps 4 [8] zT [(.tmp 8)] KB Kp:=vq mix Tryd.func40 (by kernel_rfl) rfl
abbrev gI :Nat:=51
def xE :List zt:=[oI 4 0]
def xD :List zt:=[oM 5 0,oM 6 1,Vn 7 64 5 6,oS 4 7]
def wd :List Nat:=[0,1,4]
def KA :zW:=.seq (.reg wd xE wd) (.seq (.reg wd xD wd) .ret)
abbrev Ko :Nat:=52
theorem K7 :vp Tryd.prog Tryd.f52.ntmps 2 [4] wd [(.tmp 4)] KA Ko:=vq mix Tryd.func52 (by kernel_rfl) rfl
def xC :List zt:=[oI 4 0]
def xB :List zt:=[oM 14 1,(none,.r (.lenS 15 (.t 14))),oS 5 15]
def YF :List zt:=[oM 17 5,oB 18 .eql 17 0,oM 19 18,oK 19 false 20 1,oK 19 false 21 0,ko 19 false 22 .eql 20 21,oQ 23 19 22,oS 16 23]
def xA :List zt:=[oI 4 0]
def xz :List zt:=[oM 25 5,oB 26 .eql 25 1,oS 24 26]
def xy :List zt:=[oM 27 0,oM 28 1,(none,.r (.idxS 29 (.t 28) (.c (.int .i64 0)))),Vn 30 74 27 29,oS 4 30]
def VY :List zt:=[oM 32 5,oM 33 0,(none,.r (.lenS 34 (.t 33))),oD 35 .geq 32 34,oS 31 35]
def VX :List zt:=[(none,.asg 4 (.c (.int .i64 (- (0+1)))) true)]
def VW :List zt:=[oM 37 5,(none,.bad (some 38)),oD 39 .leq 37 38,oM 40 39,oK 40 true 41 0,(some (40,true),.r (.lenS 42 (.t 41))),XO 40 true 43 .leq 42 64,oP 44 40 43,oS 36 44]
def VV :List zt:=[oM 45 0,oM 46 1,Vn 47 75 45 46,oS 4 47]
def vg :List zt:=[oM 48 1,(none,.r (.idxS 49 (.t 48) (.c (.int .i64 0)))),oS 6 49]
def vf :List zt:=[oM 50 1,(none,.r (.idxS 51 (.t 50) (.c (.int .i64 1)))),oS 7 51]
def ve :List zt:=[oI 8 0]
def vd :List zt:=[oM 52 0,(none,.r (.lenS 53 (.t 52))),oM 54 5,oD 55 .sub 53 54,oB 56 .add 55 1,oS 9 56]
def vc :List zt:=[oI 10 0]
def vb :List zt:=[oM 57 8,oM 58 9,oD 59 .lss 57 58]
def U9 :List zt:=[oM 60 0,oM 61 8,(none,.r (.idxS 62 (.t 60) (.t 61))),oM 63 6,oD 64 .neq 62 63]
def U8 :List zt:=[oM 65 0,oM 66 8,oB 67 .add 66 1,oM 68 9,(none,.r (.slc 69 (.t 65) (some (.t 67)) (some (.t 68)) 0)),oM 70 6,Vn 71 74 69 70,oS 11 71]
def U7 :List zt:=[oM 72 11,oB 73 .lss 72 0]
def U6 :List zt:=[(none,.asg 4 (.c (.int .i64 (- (0+1)))) true)]
def U5 :List zt:=[oM 74 8,oM 75 11,oB 76 .add 75 1,oD 77 .add 74 76,oS 8 77]
def U4 :List zt:=[oM 78 0,oM 79 8,oB 80 .add 79 1,(none,.r (.idxS 81 (.t 78) (.t 80))),oM 82 7,oD 83 .eql 81 82,oM 84 83,oK 84 true 85 0,oK 84 true 86 8,oK 84 true 87 8,oK 84 true 88 5,ko 84 true 89 .add 87 88,(some (84,true),.r (.slc 90 (.t 85) (some (.t 86)) (some (.t 89)) 0)),
 oK 84 true 91 1,ko 84 true 92 .eql 90 91,oP 93 84 92]
def U3 :List zt:=[oM 94 8,oS 4 94]
def U0 :List zt:=[oM 95 8,oB 96 .add 95 1,oS 8 96]
def UZ :List zt:=[oM 97 10,oB 98 .add 97 1,oS 10 98]
def UY :List zt:=[oM 99 5,(none,.bad (some 100)),oD 101 .leq 99 100,oM 102 101,oK 102 true 103 10,oK 102 true 104 8,(some (102,true),.call 105 (.f 56) [(.t 104,false)]),ko 102 true 106 .gtr 103 105,oP 107 102 106]
def UX :List zt:=[oM 108 0,oM 109 8,(none,.r (.slc 110 (.t 108) (some (.t 109)) none 0)),oM 111 1,Vn 112 75 110 111,oS 12 112]
def UW :List zt:=[oM 113 12,oB 114 .geq 113 0]
def UV :List zt:=[oM 115 12,oM 116 8,oD 117 .add 115 116,oS 4 117]
def UU :List zt:=[(none,.asg 4 (.c (.int .i64 (- (0+1)))) true)]
def UT :List zt:=[oM 118 5,(none,.bad (some 119)),oD 120 .gtr 118 119,oM 121 120,oK 121 true 122 10,oK 121 true 123 8,(some (121,true),.r (.bin 124 .shr 0 (.t 123) (.c (.int .u64 4)))),(some (121,true),.r (.bin 125 .add 0 (.c (.int .i64 4)) (.t 124))),ko 121 true 126 .geq 122 125,
 oP 127 121 126,oM 128 127,oK 128 true 129 8,oK 128 true 130 9,ko 128 true 131 .lss 129 130,oP 132 128 131]
def US :List zt:=[oM 133 0,oM 134 8,(none,.r (.slc 135 (.t 133) (some (.t 134)) none 0)),oM 136 1,Vn 137 76 135 136,oS 13 137]
def UR :List zt:=[oM 138 13,oB 139 .lss 138 0]
def UQ :List zt:=[(none,.asg 4 (.c (.int .i64 (- (0+1)))) true)]
def UP :List zt:=[oM 140 8,oM 141 13,oD 142 .add 140 141,oS 4 142]
def UO :List zt:=[(none,.asg 4 (.c (.int .i64 (- (0+1)))) true)]
def zq :List Nat:=[0,1,4,5,6,7,8,9,10,11,12,13,16,24,31,36,59,64,73,93,107,114,132,139]
def Kz :zW:=.seq (.reg zq xC zq) (.seq (.reg zq xB zq) (.seq (.blk 0 (.seq (.reg zq YF zq) (.cond (.t 16) (.seq (.reg zq xA zq) .ret) (.seq (.reg zq xz zq) (.cond (.t 24) (.seq (.reg zq xy zq) .ret) (.seq (.reg zq VY zq) (.cond (.t 31) (.seq (.reg zq VX zq) .ret) (.seq (.reg zq VW zq) (.cond (.t 36) (.seq (.reg zq VV zq) .ret) .skip))))))))) (.seq (.reg zq vg zq) (.seq (.reg zq vf zq) (.seq (.reg zq ve zq) (.seq (.reg zq vd zq) (.seq (.reg zq vc zq) (.seq (.blk 1 (.loop (.seq (.seq (.reg [0,
 1,4,5,6,7,8,9,10,11,12,13,16,24,31,36,64,73,93,107,114,132,139] vb zq) (.cond (.t 59) .skip (.exit 1))) (.blk 2 (.seq (.seq (.reg [0,1,4,5,6,7,8,9,10,11,12,13,16,24,31,36,59,73,93,107,114,132,139] U9 zq) (.cond (.t 64) (.seq (.reg zq U8 zq) (.seq (.seq (.reg [0,
 1,4,5,6,7,8,9,10,11,12,13,16,24,31,36,59,64,93,107,114,132,139] U7 zq) (.cond (.t 73) (.seq (.reg zq U6 zq) .ret) .skip)) (.reg zq U5 zq))) .skip)) (.seq (.seq (.reg [0,
 1,4,5,6,7,8,9,10,11,12,13,16,24,31,36,59,64,73,107,114,132,139] U4 zq) (.cond (.t 93) (.seq (.reg zq U3 zq) .ret) .skip)) (.seq (.reg zq U0 zq) (.seq (.reg zq UZ zq) (.seq (.reg [0,
 1,4,5,6,7,8,9,10,11,12,13,16,24,31,36,59,64,73,93,114,132,139] UY zq) (.cond (.t 107) (.seq (.reg zq UX zq) (.seq (.seq (.reg [0,1,4,5,6,7,8,9,10,11,12,13,16,24,31,
 36,59,64,73,93,107,132,139] UW zq) (.cond (.t 114) (.seq (.reg zq UV zq) .ret) .skip)) (.seq (.reg zq UU zq) .ret))) (.seq (.reg [0,
 1,4,5,6,7,8,9,10,11,12,13,16,24,31,36,59,64,73,93,107,114,139] UT zq) (.cond (.t 132) (.seq (.reg zq US zq) (.seq (.seq (.reg [0,1,4,5,6,7,8,9,10,11,12,13,16,24,31,
 36,59,64,73,93,107,114,132] UR zq) (.cond (.t 139) (.seq (.reg zq UQ zq) .ret) .skip)) (.seq (.reg zq UP zq) .ret))) .skip)))))))))))) (.seq (.reg zq UO zq) .ret)))))))))
abbrev Kn :Nat:=64
theorem K6 :vp Tryd.prog Tryd.f64.ntmps 2 [4] zq [(.tmp 4)] Kz Kn:=vq mix Tryd.func64 (by kernel_rfl) rfl
abbrev gH :Nat:=74
end Go.Proofs.YtneiihheeghdcaaDoor

namespace Go.Proofs
open Go.Shelf
def Tryd.lays217_ren :Go.Shelf.Ren:=⟨fun|217=>74|266=>82|n=>n,fun|9=>9|5=>5|3=>3|n=>n,fun|n=>n⟩
theorem Tryd.lays217 :Go.Proofs.Lays.n217 Tryd.prog Tryd.lays217_ren:={
 mixed:=by kernel_rfl
 f217:=Tryd.func74.trans (congrArg some (by kernel_rfl))
 f266:=Tryd.func82.trans (congrArg some (by kernel_rfl))
 t3:=Tryd.underlying3
 a3:=Tryd.isAgg3
 z3:=Tryd.sizeOf3
 v3:=Tryd.zeroValue3
 t5:=Tryd.underlying5
 a5:=Tryd.isAgg5
 z5:=Tryd.sizeOf5
 v5:=Tryd.zeroValue5
 t9:=Tryd.underlying9
 a9:=Tryd.isAgg9
 z9:=Tryd.sizeOf9
 v9:=Tryd.zeroValue9}
open Go.RowKit Go.Lib in
theorem Tryd.stringslite_IndexByte (s:ByteArray)(c:Int)(w:World):
 Calls Tryd.prog 74 #[.string s,.int .u8 c] w fun e w'=>e= .returned (.int .i64 (Lib.indexByte s.data.toList c.toNat.toUInt8))∧w'=w:=Any.stringslite_IndexByte Tryd.lays217 s c w
def Tryd.lays138_ren :Go.Shelf.Ren:=⟨fun|138=>51|195=>61|218=>63|143=>52|219=>64|217=>74|225=>75|224=>56|267=>76|266=>82|314=>83|n=>n,fun|9=>9|3=>3|4=>4|5=>5|0=>0|46=>22|146=>98|51=>97|n=>n,fun|1=>0|n=>n⟩
theorem Tryd.lays138 :Go.Proofs.Lays.n138 Tryd.prog Tryd.lays138_ren:={
 mixed:=by kernel_rfl
 f138:=Tryd.func51.trans (congrArg some (by kernel_rfl))
 f143:=Tryd.func52.trans (congrArg some (by kernel_rfl))
 f195:=Tryd.func61.trans (congrArg some (by kernel_rfl))
 f217:=Tryd.func74.trans (congrArg some (by kernel_rfl))
 f218:=Tryd.func63.trans (congrArg some (by kernel_rfl))
 f219:=Tryd.func64.trans (congrArg some (by kernel_rfl))
 f224:=Tryd.func56.trans (congrArg some (by kernel_rfl))
 f225:=Tryd.func75.trans (congrArg some (by kernel_rfl))
 f266:=Tryd.func82.trans (congrArg some (by kernel_rfl))
 f267:=Tryd.func76.trans (congrArg some (by kernel_rfl))
 f314:=Tryd.func83.trans (congrArg some (by kernel_rfl))
 t0:=Tryd.underlying0
 a0:=Tryd.isAgg0
 z0:=Tryd.sizeOf0
 v0:=Tryd.zeroValue0
 t3:=Tryd.underlying3
 a3:=Tryd.isAgg3
 z3:=Tryd.sizeOf3
 v3:=Tryd.zeroValue3
 t4:=Tryd.underlying4
 a4:=Tryd.isAgg4
 z4:=Tryd.sizeOf4
 v4:=Tryd.zeroValue4
 t5:=Tryd.underlying5
 a5:=Tryd.isAgg5
 z5:=Tryd.sizeOf5
 v5:=Tryd.zeroValue5
 t9:=Tryd.underlying9
 a9:=Tryd.isAgg9
 z9:=Tryd.sizeOf9
 v9:=Tryd.zeroValue9
 t46:=Tryd.underlying22
 a46:=Tryd.isAgg22
 z46:=Tryd.sizeOf22
 v46:=Tryd.zeroValue22
 t51:=Tryd.underlying97
 a51:=Tryd.isAgg97
 z51:=Tryd.sizeOf97
 v51:=Tryd.zeroValue97
 t146:=Tryd.underlying98
 a146:=Tryd.isAgg98
 z146:=Tryd.sizeOf98
 v146:=Tryd.zeroValue98
 g1:=by kernel_rfl}
theorem Tryd.strings_Count_one (s:ByteArray)(c:UInt8)(w:World):
 Calls Tryd.prog 51 #[.string s,.string ⟨#[c]⟩] w fun e w'=>e= .returned (.int .i64 (Lib.countByte s.data.toList c))∧w'=w:=Any.strings_Count_one Tryd.lays138 s c w
end Go.Proofs

namespace Go.Ga.Gl
open Go Go.Ga
def Z0 (l:List UInt8):ByteArray:=⟨l.toArray⟩
theorem Jv (l:List UInt8):(Z0 l).data.toList=l:=by simp[Z0]
theorem WP (l:List UInt8):(Z0 l).size=l.length:=by simp[Z0,ByteArray.size]
theorem kF (a b:List UInt8):Z0 a++Z0 b=Z0 (a++b):=by
 apply ByteArray.ext
 simp[Z0]
theorem kE (l:List UInt8)(a b:Nat):(Z0 l).extract a b=Z0 ((l.take b).drop a):=by
 apply ByteArray.ext
 apply Array.ext'
 simp[Z0,List.extract_eq_take_drop,List.drop_take]
theorem KN (l:List UInt8)(k:Nat):(Z0 l).data.getD k 0=l.getD k 0:=by
 simp[Z0]
theorem yc (s:ByteArray):∀(n i:Nat) (r:List UInt8),s.size - i=n→ByteArray.toList.loop s i r=r.reverse++s.data.toList.drop i
 | 0,i,r,h=>by
   unfold ByteArray.toList.loop
   rw[if_neg (by omega),List.drop_eq_nil_of_le (by show s.data.toList.length≤i;rw[Array.length_toList];show s.size≤i;omega),List.append_nil]
 | n+1,i,r,h=>by
   have hi:i<s.data.toList.length:=by rw[Array.length_toList];show i<s.size;omega
   unfold ByteArray.toList.loop
   rw[if_pos (by omega),yc s n (i+1) _ (by omega),List.drop_eq_getElem_cons hi]
   have e:s.get! i=s.data.toList[i]:=by
    have h2:i<s.data.size:=by simpa using hi
    show s.data[i]! =_
    rw[getElem!_pos s.data i h2];simp
   rw[e];simp
theorem uU (s:ByteArray):s.toList=s.data.toList:=by
 unfold ByteArray.toList
 rw[yc s s.size 0 [] (by omega)];simp
theorem yM (l:List UInt8):(Z0 l).toList=l:=by rw[uU,Jv]
def zJ (c:UInt8):List UInt8→List (List UInt8)
 |[]=>[[]]
 | b::r=>if b=c then []::zJ c r else match zJ c r with
   |p::ps=>(b::p)::ps
   |[]=>[[b]]
theorem jQ (c b:UInt8)(r:List UInt8):zJ c (b::r)=if b=c then []::zJ c r else match zJ c r with
 |p::ps=>(b::p)::ps
 |[]=>[[b]]:=rfl
theorem xi (b:UInt8)(l:List UInt8)(c:UInt8):Lib.indexByte (b::l) c=if b==c then 0 else if Lib.indexByte l c== -1 then -1 else Lib.indexByte l c+1:=rfl
theorem QL (c:UInt8):∀l,zJ c l≠ []
 |[]=>by simp[zJ]
 | b::r=>by
   unfold zJ
   split
   · simp
   · split<;>simp
theorem yP (c:UInt8):∀l,(zJ c l).length=l.count c+1
 |[]=>rfl
 | b ::r=>by
   unfold zJ
   have ih:=yP c r
   by_cases h:b=c
   · rw[if_pos h,List.length_cons,ih,h,List.count_cons_self]
   · rw[if_neg h,List.count_cons_of_ne h]
     have hne:=QL c r
     cases hs:zJ c r with
     |nil=>exact absurd hs hne
     |cons p ps=>rw[hs] at ih;exact ih
theorem Qy (c:UInt8)(l:List UInt8):l.count c≤l.length:=List.count_le_length
theorem yO (c:UInt8):∀l:List UInt8,∀w∈zJ c l,w.length≤l.length
 | [],w,h=>by
   simp[zJ] at h;subst h;simp
 | b ::r,w,h=>by
   rw[jQ] at h
   have ih:=yO c r
   split at h
   · rcases List.mem_cons.1 h with rfl|h
     · simp
     · have:=ih w h;simp;omega
   · cases hs:zJ c r with
     |nil=>exact absurd hs (QL c r)
     | cons p ps=>
       rw[hs] at h ih
       rcases List.mem_cons.1 h with rfl|h
       · have:=ih p (.head _);simp;omega
       · have:=ih w (.tail _ h);simp;omega
theorem JW {c:UInt8}:∀{l:List UInt8},l.count c=0→zJ c l=[l]
 |[],_=>rfl
 | b::r,h=>by
   have hb:b≠c:=fun e=>by rw[e,List.count_cons_self] at h;omega
   rw[List.count_cons_of_ne hb] at h
   unfold zJ
   rw[if_neg hb,JW h]
theorem VB {c:UInt8}:∀{l:List UInt8},0<l.count c→∃m:Nat,Lib.indexByte l c=(m:Int)∧m<l.length∧zJ c l=l.take m::zJ c (l.drop (m+1))∧(l.drop (m+1)).count c+1=l.count c
 |[],h=>by simp at h
 | b ::r,h=>by
   rw[xi,jQ]
   by_cases hb:b=c
   · subst hb
     exact⟨0,by simp,by simp,by simp,by simp⟩
   · rw[List.count_cons_of_ne hb] at h
     obtain⟨m,h1,h2,h3,h4⟩:=VB h
     have hbe:(b==c)=false:=by simpa using hb
     refine⟨m+1,?_,by simp;omega,?_,?_⟩
     · rw[hbe,h1]
       have:((m:Int)== -1)=false:=by simp
       simp[this]
     · rw[if_neg hb,h3];simp
     · rw[List.count_cons_of_ne hb];simpa using h4
def jc (ps:List (List UInt8)):List za:=ps.map fun p=> .sc (.string (Z0 p))
theorem Zi (ps:List (List UInt8)):(jc ps).length=ps.length:=by simp[jc]
theorem vF {ps:List (List UInt8)}{k:Nat}{p:List UInt8}(h:ps[k]?=some p):(jc ps)[k]?=some (.sc (.string (Z0 p))):=by simp[jc,h]
theorem WN (ps:List (List UInt8))(k:Nat)(p:List UInt8):(jc ps).set k (.sc (.string (Z0 p)))=jc (ps.set k p):=by simp[jc,List.map_set]
theorem vG (ps:List (List UInt8))(a b:Nat):Zk (jc ps) 1 a b=jc ((ps.drop a).take (b - a)):=by simp[Zk,jc,List.map_take,List.map_drop]
theorem qR (ps:List (List UInt8)):za.plainL (jc ps)=true:=(jR (fun p=> .string (Z0 p)) ps).1
theorem uY (ps:List (List UInt8)):za.flatL (jc ps)=true:=(jR (fun p=> .string (Z0 p)) ps).2
theorem ye :∀ps:List (List UInt8),za.cellOkL (jc ps)=true
 |[]=>rfl
 | p::ps=>by
   have:=ye ps
   simpa[jc,za.cellOkL,za.cellOk] using this
theorem qF (ps:List (List UInt8)):za.copyableL (jc ps)=true:=plain_copyableL _ (qR ps)
theorem WO (ps:List (List UInt8)):za.freezeL (jc ps)=jc ps:=copyable_freezeL _ (qF ps)
theorem wo (ps:List (List UInt8)):za.ids0L (jc ps)=true:=plain_ids0L _ (qR ps)
theorem vE (g:Nat→Option Nat)(ps:List (List UInt8)):za.renL g (jc ps)=jc ps:=ids0_renL g _ (wo ps)
theorem uX (n:Nat):zv [.string (Z0 [])] n=jc (List.replicate n []):=by
 simp only[zv,List.map]
 induction n with
 |zero=>rfl
 |succ n ih=>simp only[List.replicate_succ,List.flatten_cons,ih];rfl
theorem K0 (l:List UInt8):ByteArray.mk l.toArray=Z0 l:=rfl
theorem kD (a b:List UInt8):jt .eql (Z0 a) (Z0 b)=some (.bool (decide (a=b))):=by
 unfold jt
 simp only[yM]
theorem kC (a b:List UInt8):jt .neq (Z0 a) (Z0 b)=some (.bool (!decide (a=b))):=by
 unfold jt
 simp only[yM]
theorem kG (a b:List UInt8):jt .add (Z0 a) (Z0 b)=if a.length+b.length≤9223372036854775807 then some (.string (Z0 (a++b))) else none:=by
 unfold jt
 simp only[WP,kF]
theorem uo {a b:List UInt8}(h:a.length+b.length≤1000000000000):jt .add (Z0 a) (Z0 b)=some (.string (Z0 (a++b))):=by
 rw[kG,if_pos (by omega)]
attribute [go_sem] Jv K0 kD kC WP KN kE Zi qR uY ye qF WO wo vE
end Go.Ga.Gl
set_option maxRecDepth 100000
set_option maxHeartbeats 4000000
namespace Go.Proofs.YtneiihheeghdcaaDoor
open Go Go.Ga Go.Ga.Gl
theorem VT (l:List UInt8)(c:UInt8):zF Tryd.prog [] gI [.sc (.string (Z0 l)),.sc (.string ⟨#[c]⟩)] [] fun r h'=>r= .sc (.int .i64 ((l.count c:Nat):Int))∧h'=[]:=
 yo (us:=[.string (Z0 l),.string ⟨#[c]⟩]) (by kernel_rfl) fun w=>by
  have:=Tryd.strings_Count_one (Z0 l) c w
  rw[Jv] at this
  exact this
theorem vK (l:List UInt8)(c:Int):zF Tryd.prog [] gH [.sc (.string (Z0 l)),.sc (.int .u8 c)] [] fun r h'=>r= .sc (.int .i64 (Lib.indexByte l c.toNat.toUInt8))∧h'=[]:=
 yo (us:=[.string (Z0 l),.int .u8 c]) (by kernel_rfl) fun w=>by
  have:=Tryd.stringslite_IndexByte (Z0 l) c w
  rw[Jv] at this
  exact this
theorem vJ (l:List UInt8):zF Tryd.prog [] Kn [.sc (.string (Z0 l)),.sc (.string ⟨#[32]⟩)] [] fun r h'=>r= .sc (.int .i64 (Lib.indexByte l 32))∧h'=[]:=by
 have h8:(((32:UInt8).toNat:Int))=32:=rfl
 have s1:(Z0 [32]).size=1:=rfl
 refine K6 rfl ?_
 unfold Kz zq
 refine zc fun KY hKY=>?_
 simp only[go_sem,xC]
 apply hKY
 refine zc fun KY hKY=>?_
 simp only[go_sem,xB,List.length_cons,List.length_nil]
 apply hKY
 refine zi fun X1 hn1 he1 hr1=>?_
 refine Zn fun X2 hn2 he2 hf2 hr2=>?_
 by_cases e:l=[32]
 · subst e
   refine zc fun KY hKY=>?_
   simp only[go_sem,YF,List.length_cons,List.length_nil]
   apply hKY
   refine QI ?_
   refine zc fun KY hKY=>?_
   simp only[go_sem,xA]
   apply hKY
   refine zw ?_
   repeat (first|refine hr2 _ ?_|refine hr1 _ ?_)
   simp only[go_sem]
   rfl
 · have hd:decide (([32]:List UInt8)=l)=false:=decide_eq_false fun h=>e h.symm
   refine zc fun KY hKY=>?_
   simp only[go_sem,YF,hd,List.length_cons,List.length_nil]
   apply hKY
   refine yb ?_
   refine zc fun KY hKY=>?_
   simp only[go_sem,xz]
   apply hKY
   refine QI ?_
   refine zc fun KY hKY=>?_
   simp only[go_sem,xy,List.length_cons,List.length_nil]
   refine zL rfl (by simp only[go_sem]<;>rfl) ((vK l 32).mono ?_)
   rintro rr hh ⟨rfl,rfl⟩
   refine⟨rfl,rfl,rfl,?_⟩
   simp only[go_sem]
   apply hKY
   refine zw ?_
   repeat (first|refine hr2 _ ?_|refine hr1 _ ?_)
   simp only[go_sem]
   rfl
theorem u0 (l:List UInt8):zF Tryd.prog [] Ko [.sc (.string (Z0 l)),.sc (.string (Z0 [32]))] [] fun r h'=>r= .sc (.int .i64 (Lib.indexByte l 32))∧h'=[]:=by
 refine K7 rfl ?_
 unfold KA wd
 refine zc fun KY hKY=>?_
 simp only[go_sem,xE]
 apply hKY
 refine zc fun KY hKY=>?_
 simp only[go_sem,xD]
 refine zL rfl (by simp only[go_sem]<;>rfl) ((vJ l).mono ?_)
 rintro rr hh ⟨rfl,rfl⟩
 refine⟨rfl,rfl,rfl,?_⟩
 simp only[go_sem]
 apply hKY
 refine zw ?_
 simp only[go_sem]
theorem xl (l:List UInt8)(hl:l.length≤1000000000):zF Tryd.prog [] Kp [.sc (.string (Z0 l)),.sc (.string (Z0 [32])),.sc (.int .i64 0),.sc (.int .i64 (-1))] [] fun r h'=>r= .own (some 1) (jc (zJ 32 l))∧h'=[]:=by
 obtain⟨c,hc⟩:∃c,c=l.count 32:=⟨_,rfl⟩
 have hcl:=Qy 32 l
 rw[←hc] at hcl
 have hC:=VT l 32
 rw[←hc] at hC
 have w1:IntKind.i64.wrap ((c:Int)+1)=((c+1:Nat):Int):=by rw[IntWalk.i64_in _ (by omega)];omega
 have w2:IntKind.i64.wrap ((l.length:Int)+1)=((l.length+1:Nat):Int):=by rw[IntWalk.i64_in _ (by omega)];omega
 have hmn:min ((c+1:Nat):Int) ((l.length+1:Nat):Int)=((c+1:Nat):Int):=by omega
 have hmk:16*(c+1)≤140737488355328∧((c+1:Nat):Int)≤9223372036854775807:=by omega
 have w3:IntKind.i64.wrap (((c+1:Nat):Int) - 1)=(c:Int):=by rw[IntWalk.i64_in _ (by omega)];omega
 refine K8 rfl ?_
 unfold KB zT
 refine zc fun KY hKY=>?_
 simp only[go_sem,xM]
 apply hKY
 refine zi fun X1 hn1 he1 hr1=>?_
 refine zc fun KY hKY=>?_
 simp only[go_sem,xL]
 apply hKY
 refine yb ?_
 refine zA ?_
 repeat (first|refine hn1 _ ?_|refine he1 _ _ ?_)
 refine zi fun X2 hn2 he2 hr2=>?_
 refine zc fun KY hKY=>?_
 simp only[go_sem,xK]
 apply hKY
 refine yb ?_
 refine zA ?_
 repeat (first|refine hn2 _ ?_|refine he2 _ _ ?_|refine hn1 _ ?_|refine he1 _ _ ?_)
 refine zi fun X3 hn3 he3 hr3=>?_
 refine zc fun KY hKY=>?_
 simp only[go_sem,xJ]
 apply hKY
 refine QI ?_
 refine Z6 fun KY hKY=>?_
 simp only[go_sem,xI]
 refine zL rfl (by simp only[go_sem]<;>rfl) ((hC).mono ?_)
 rintro rr hh ⟨rfl,rfl⟩
 refine⟨rfl,rfl,rfl,?_⟩
 simp only[go_sem,w1]
 apply hKY
 repeat (first|refine hn3 _ ?_|refine he3 _ _ ?_|refine hn2 _ ?_|refine he2 _ _ ?_|refine hn1 _ ?_|refine he1 _ _ ?_)
 refine zc fun KY hKY=>?_
 simp only[go_sem,xH,w2,hmn]
 apply hKY
 refine zc fun KY hKY=>?_
 simp only[go_sem,xG,hmk,Int.le_refl,uX]
 apply hKY
 refine zc fun KY hKY=>?_
 simp only[go_sem,xF,w3]
 apply hKY
 refine zc fun KY hKY=>?_
 simp only[go_sem,wS]
 apply hKY
 refine zi fun X4 hn4 he4 hr4=>?_
 refine Zn fun X5 hn5 he5 hf5 hr5=>?_
 try simp only[go_sem]
 refine QJ (α:=Nat×List (List UInt8)×List UInt8) [11,36,41] (fun(i,z,r)=>[(0,.sc (.string (Z0 r))),(9,.own (some 1) (jc (z++List.replicate (c+1 - i) []))),(10,.sc (.int .i64 (i:Int)))]) (fun(i,z,r)=>[]) (fun(i,z,r) q=>i≤c∧z.length=i∧zJ 32 l=z++zJ 32 r∧i+r.count 32=c∧r.length≤l.length∧q=c - i) ((0,[],l)) (c) rfl (by first|(simp only[go_sem,zx,zC];done)|with_reducible rfl|rfl) (⟨Nat.zero_le _,rfl,rfl,by omega,Nat.le_refl _,rfl⟩) ?_
 rintro⟨i,z,r⟩ q ⟨hi,hzl,hsp,hcr,hrl,rfl⟩ X6 hn6 he6 hr6
 simp only[go_sem,zx,zC]
 refine zi fun X7 hn7 he7 hr7=>?_
 rcases Nat.lt_or_ge i c with hi2|hi2
 · have hdx:decide ((i:Int)<(c:Int))=true:=decide_eq_true (by omega)
   obtain⟨m,hm1,hm2,hm3,hm4⟩:=VB (c:=32) (l:=r) (by omega)
   have hI:=u0 r
   rw[hm1] at hI
   have hd0:decide ((m:Int)<0)=false:=decide_eq_false (by omega)
   have wm0:IntKind.i64.wrap ((m:Int)+0)=(m:Int):=by rw[IntWalk.i64_in _ (by omega)];omega
   have wm1:IntKind.i64.wrap ((m:Int)+1)=((m+1:Nat):Int):=by rw[IntWalk.i64_in _ (by omega)];omega
   have hrep:List.replicate (c+1 - i) ([]:List UInt8)=[]::List.replicate (c+1 - (i+1)) []:=by
    rw[show c+1 - i=(c+1 - (i+1))+1 by omega,List.replicate_succ]
   have hset:(z++List.replicate (c+1 - i) []).set i (r.take m)=(z++[r.take m])++List.replicate (c+1 - (i+1)) []:=by
    rw[List.set_append_right _ _ (by omega),hrep,show i - z.length=0 by omega];simp
   have hzn:(z++List.replicate (c+1 - i) ([]:List UInt8)).length=c+1:=by simp;omega
   refine zc fun KY hKY=>?_
   simp only[go_sem,Q2,hdx]
   apply hKY
   refine QI ?_
   refine zA ?_
   repeat (first|refine hn7 _ ?_|refine he7 _ _ ?_|refine he6 _ _ ?_|refine hn5 _ ?_|refine he5 _ ?_|refine hf5 _ _ (by decide) ?_|refine hn4 _ ?_|refine he4 _ _ ?_|refine hn3 _ ?_|refine he3 _ _ ?_|refine hn2 _ ?_|refine he2 _ _ ?_|refine hn1 _ ?_|refine he1 _ _ ?_)
   refine Zn fun X8 hn8 he8 hf8 hr8=>?_
   refine zc fun KY hKY=>?_
   simp only[go_sem,wR]
   refine zL rfl (by simp only[go_sem]<;>rfl) ((hI).mono ?_)
   rintro rr hh ⟨rfl,rfl⟩
   refine⟨rfl,rfl,rfl,?_⟩
   simp only[go_sem]
   apply hKY
   refine zi fun X9 hn9 he9 hr9=>?_
   refine zc fun KY hKY=>?_
   simp only[go_sem,wQ,hd0]
   apply hKY
   refine yb ?_
   refine zA ?_
   repeat (first|refine hn9 _ ?_|refine he9 _ _ ?_|refine hn8 _ ?_|refine he8 _ ?_|refine hf8 _ _ (by decide) ?_|refine hn7 _ ?_|refine he7 _ _ ?_|refine he6 _ _ ?_|refine hn5 _ ?_|refine he5 _ ?_|refine hf5 _ _ (by decide) ?_|refine hn4 _ ?_|refine he4 _ _ ?_|refine hn3 _ ?_|refine he3 _ _ ?_|refine hn2 _ ?_|refine he2 _ _ ?_|refine hn1 _ ?_|refine he1 _ _ ?_)
   refine zc fun KY hKY=>?_
   simp only[go_sem,wP,wm0,Zi,hzn,(show i<c+1 by omega),(show m≤r.length by omega),WN,hset]
   apply hKY
   refine zc fun KY hKY=>?_
   simp only[go_sem,wO,wm1,(show m+1≤r.length by omega),List.length_cons,List.length_nil,List.take_length,Nat.le_refl]
   apply hKY
   refine Z6 fun KY hKY=>?_
   simp only[go_sem,wN,UB (show i<4611686018427387904 by omega)]
   apply hKY
   repeat (first|refine hn9 _ ?_|refine he9 _ _ ?_|refine hn8 _ ?_|refine he8 _ ?_|refine hf8 _ _ (by decide) ?_|refine hn7 _ ?_|refine he7 _ _ ?_)
   refine hn6 _ ((i+1,z++[r.take m],r.drop (m+1))) (c - (i+1)) (by omega) (by first|(simp only[go_sem,zx,zC];done)|with_reducible rfl) ?_
   exact⟨hi2,by simp[hzl],by rw[hsp,hm3];simp,by omega,by simp;omega,rfl⟩
 obtain rfl:i=c:=by omega
 have hdx:decide ((i:Int)<(i:Int))=false:=decide_eq_false (by omega)
 have hzn:(z++List.replicate (i+1 - i) ([]:List UInt8)).length=i+1:=by simp;omega
 have hset:(z++List.replicate (i+1 - i) []).set i r=z++[r]:=by
  rw[List.set_append_right _ _ (by omega),show i+1 - i=1 by omega,show i - z.length=0 by omega];simp
 have hw:IntKind.i64.wrap ((i:Int)+1)=((i+1:Nat):Int):=by rw[IntWalk.i64_in _ (by omega)];omega
 have hzl2:(z++[r]).length=i+1:=by simp[hzl]
 refine zc fun KY hKY=>?_
 simp only[go_sem,Q2,hdx]
 apply hKY
 refine yb ?_
 refine Jc ?_
 repeat (first|refine hn7 _ ?_|refine he7 _ _ ?_|refine he6 _ _ ?_|refine hn5 _ ?_|refine he5 _ ?_|refine hf5 _ _ (by decide) ?_|refine hn4 _ ?_|refine he4 _ _ ?_|refine hn3 _ ?_|refine he3 _ _ ?_|refine hn2 _ ?_|refine he2 _ _ ?_|refine hn1 _ ?_|refine he1 _ _ ?_)
 refine zc fun KY hKY=>?_
 simp only[go_sem,wM,Zi,hzn,(show i<i+1 by omega),WN,hset]
 apply hKY
 refine zc fun KY hKY=>?_
 simp only[go_sem,wL,hw,Zi,hzl2,Nat.le_refl,vG]
 apply hKY
 refine zw ?_
 repeat (first|refine hr7 _ ?_|refine hr6 _ ?_|refine hr5 _ ?_|refine hr4 _ ?_|refine hr3 _ ?_|refine hr2 _ ?_|refine hr1 _ ?_)
 simp only[go_sem]
 rw[hsp,JW (by omega)]
 simp
 rw[List.take_of_length_le (by simp;omega)]
theorem vI (l:List UInt8)(hl:l.length≤1000000000):zF Tryd.prog [] Kt [.sc (.string (Z0 l)),.sc (.string (Z0 [32]))] [] fun r h'=>r= .own (some 1) (jc (zJ 32 l))∧h'=[]:=by
 refine gf rfl ?_
 unfold KG we
 refine zc fun KY hKY=>?_
 simp only[go_sem,x4]
 apply hKY
 refine zc fun KY hKY=>?_
 simp only[go_sem,xZ]
 apply jp [] [] false none rfl
 iterate 8 (first|(simp only[go_sem,zQ]<;>rfl)|rfl)
 refine(xl l hl).mono ?_
 rintro _ _ ⟨rfl,rfl⟩
 refine⟨Nat.le_of_ble_eq_true rfl,(fun hh=>by cases hh),?_⟩
 simp only[go_sem,ZJ,zb.after]
 apply hKY
 refine zw ?_
 simp only[go_sem]
end Go.Proofs.YtneiihheeghdcaaDoor

namespace Go.Ga.Gl
open Go Go.Ga
def wH :List (List UInt8×Int):=[([],0),([118,101,114,116,105,99,101,115],1),([97,100,100],2),([114,101,109,111,118,101],2),([103,114,111,119],0),([99,117,116],1),([109,97,116,99,104],1),([103,97,108,108,97,105],0),([98,97,114,114,105,101,114],0),([115,105,100,101,115],0),([98,108,111,99,107,115],0),([102,97,99,116,111,114], -1),([99,111,118,101,114],0),([99,108,97,115,115,105,102,121],0),([116,101,108,108],0)]
def Wm (x:List UInt8×Int):List za:=[.sc (.string (Z0 x.1)),.sc (.int .i64 x.2)]
theorem yE (x:List UInt8×Int):(Wm x).length=2:=rfl
def QZ (b:UInt8):Bool:=decide (48≤b.toNat)&&decide (b.toNat≤57)
def val (w:List UInt8):Nat:=w.foldl (fun n b=>10*n+(b.toNat - 48)) 0
theorem Qb (w:List UInt8)(b:UInt8):val (w++[b])=10*val w+(b.toNat - 48):=by simp[val]
theorem vt :∀w:List UInt8,w.all QZ=true→val w<10^w.length:=by
 intro w
 induction hn:w.length generalizing w with
 | zero=>
   intro _
   have:w=[]:=List.length_eq_zero_iff.1 hn
   subst this;decide
 | succ n ih=>
   intro h
   have hne:w≠ []:=by intro e;rw[e] at hn;simp at hn
   obtain⟨v,b,rfl⟩:∃v b,w=v++[b]:=⟨w.dropLast,w.getLast hne,(List.dropLast_concat_getLast hne).symm⟩
   rw[List.all_append,Bool.and_eq_true] at h
   have hv:=ih v (by simp at hn;exact hn) h.1
   have hb:QZ b=true:=by simpa using h.2
   unfold QZ at hb
   rw[Bool.and_eq_true,decide_eq_true_iff,decide_eq_true_iff] at hb
   rw[Qb,Nat.pow_succ]
   omega
def jd (w:List UInt8):Option Nat:=if w.length<1∨9<w.length∨(1<w.length∧w.getD 0 0=48)∨w.all QZ=false then none else some (val w)
def ZP :List (List UInt8)→Option (List Nat)
 |[]=>some []
 | w::ws=>match jd w with
   |none=>none
   |some n=>(ZP ws).map (n:: ·)
def hit (p:List UInt8)(x:List UInt8×Int):Bool:=decide (x.1≠ [])&&decide (x.1=p)
structure Ge where
 kind:Nat
 a:Nat
 b:Nat
 list:List Nat
def ZM (l:List UInt8):Ge×Int:=
 if 65536<l.length then(⟨0,0,0,[]⟩,8) else
 match wH.findIdx? (hit ((zJ 32 l).headD [])) with
 |none=>(⟨0,0,0,[]⟩,15)
 | some k=>
   if 0≤(wH.getD k ([],0)).2∧((zJ 32 l).length:Int)≠(wH.getD k ([],0)).2+1 then(⟨0,0,0,[]⟩,15) else
   match ZP (zJ 32 l).tail with
   |none=>(⟨0,0,0,[]⟩,15)
   | some ns=>
     if(wH.getD k ([],0)).2<0 then(⟨k,0,0,ns⟩,0) else
     if k=6∧ns.getD 0 0≠1∧ns.getD 0 0≠2 then(⟨0,0,0,[]⟩,15) else(⟨k,ns.getD 0 0,ns.getD 1 0,[]⟩,0)
def Ge.cells (c:Ge):List za:=[.sc (.int .i64 (c.kind:Int)),.sc (.int .i64 (c.a:Int)),.sc (.int .i64 (c.b:Int)),.imm 1 (Z4 c.list)]
theorem jA (l xs:List za)(h:l.length=xs.length):zM l 0 xs=xs:=by
 rcases xs with _|⟨A,_|⟨B,r⟩⟩
 · rw[List.length_eq_zero_iff.1 (show l.length=0 from h)];rfl
 · obtain⟨x,rfl⟩:=List.length_eq_one_iff.1 (show l.length=1 from h)
   rfl
 · show(l.take 0++(A::B::r))++l.drop (0+(A::B::r).length)=_
   rw[Nat.zero_add,List.drop_eq_nil_of_le (by omega)];simp
theorem QX (fs:List (List UInt8×Int)):za.plainL (zY Wm fs)=true:=jW (fun _=>rfl) fs
theorem VL (fs:List (List UInt8×Int)):za.flatL (zY Wm fs)=true:=JA (fun _=>rfl) fs
theorem X0 (fs:List (List UInt8×Int)):za.cellOkL (zY Wm fs)=true:=jB (fun _=>rfl) fs
theorem Qu (fs:List (List UInt8×Int)):za.copyableL (zY Wm fs)=true:=plain_copyableL _ (QX fs)
theorem XZ (fs:List (List UInt8×Int)):za.freezeL (zY Wm fs)=zY Wm fs:=copyable_freezeL _ (Qu fs)
theorem xm (fs:List (List UInt8×Int)):za.ids0L (zY Wm fs)=true:=plain_ids0L _ (QX fs)
theorem kZ (g:Nat→Option Nat)(fs:List (List UInt8×Int)):za.renL g (zY Wm fs)=zY Wm fs:=ids0_renL g _ (xm fs)
theorem qq :∀(a b:List (List UInt8)),ZP (a++b)=(ZP a).bind fun x=>(ZP b).map (x++ ·)
 |[],b=>by simp[ZP]
 | w::a,b=>by
   show(match jd w with|none=>none|some n=>(ZP (a++b)).map (n:: ·))=(match jd w with|none=>none|some n=>(ZP a).map (n:: ·)).bind _
   rw[qq a b]
   cases jd w with
   |none=>rfl
   |some n=>cases ZP a<;>cases ZP b<;>rfl
theorem y7 {a b:List (List UInt8)}{w:List UInt8}(h:jd w=none):ZP (a++w::b)=none:=by
 rw[qq]
 cases ZP a with
 |none=>rfl
 |some x=>show(match jd w with|none=>none|some n=>(ZP b).map (n:: ·)).map _=none;rw[h];rfl
attribute [go_sem] Int.reduceToNat jA List.length_cons List.length_nil QX VL X0 Qu XZ xm kZ yE
end Go.Ga.Gl
namespace Go.Proofs.YtneiihheeghdcaaDoor
open Go Go.Ga Go.Ga.Gl
theorem VM :zF Tryd.prog [] Ks [] [] fun r h'=>r= .agg (zY Wm wH)∧h'=[]:=by
 refine ge rfl ?_
 unfold KF WE
 refine zc fun KY hKY=>?_
 simp only[go_sem,xY]
 apply hKY
 refine zc fun KY hKY=>?_
 simp only[go_sem,xX,jA,List.length_cons,List.length_nil]
 apply hKY
 refine zw ?_
 simp only[go_sem,jA,List.length_cons,List.length_nil]
 rfl
abbrev Gi (ps:List (List UInt8)):za:= .ia [.imm 1 (jc ps)]
theorem Uy (x:List UInt8×Int)(p:List UInt8)(ps:List (List UInt8)):zF Tryd.prog [] Vr [.agg (Wm x),.ia [Gi (p::ps)]] [] fun r h'=>r= .sc (.bool (hit p x))∧h'=[]:=by
 obtain⟨w,n⟩:=x
 have h0:(jc (p::ps))[0]?=some (.sc (.string (Z0 p))):=rfl
 have hl:(jc (p::ps)).length=ps.length+1:=by simp[jc]
 unfold Wm hit
 refine ga rfl ?_
 unfold KD WD
 refine zc fun KY hKY=>?_
 simp only[go_sem,xP]
 apply hKY
 by_cases hw:w=[]
 · have hd:decide (w=[])=true:=decide_eq_true hw
   refine ZY fun KY hKY=>?_
   simp only[go_sem,YJ,hd]
   apply hKY
   refine zw ?_
   simp only[go_sem]
   simp[hw]
 · have hd:decide (w=[])=false:=decide_eq_false hw
   refine ZY fun KY hKY=>?_
   simp only[go_sem,YJ,hd,h0,hl,(show 1≤ps.length+1 by omega)]
   apply hKY
   refine zw ?_
   simp only[go_sem]
   simp[hw]
theorem UA (fs:List (List UInt8×Int))(p:List UInt8)(ps:List (List UInt8))(hf:fs.length≤1000):zF Tryd.prog [] Kr [.imm 2 (zY Wm fs),.fn (.func Vr) [] [.ia [Gi (p::ps)]]] [] fun r h'=>(∃z:Int,r= .sc (.int .i64 z)∧((z= -1∧fs.findIdx? (hit p)=none)∨∃i:Nat,z=(i:Int)∧fs.findIdx? (hit p)=some i))∧h'=[]:=by
 have hpl:(zY Wm fs).length=fs.length*2:=qo yE fs
 refine gc rfl ?_
 unfold KE jD
 refine zc fun KY hKY=>?_
 simp only[go_sem,xW]
 apply hKY
 refine zi fun X1 hn1 he1 hr1=>?_
 refine zc fun KY hKY=>?_
 simp only[go_sem,xV,hpl,gK]
 apply hKY
 refine Zn fun X2 hn2 he2 hf2 hr2=>?_
 try simp only[go_sem]
 refine QJ (α:=Nat) [5,9,16] (fun k=>[(8,.sc (.int .i64 (k:Int)))]) (fun k=>[]) (fun k q=>k≤fs.length∧(∀i x,i<k→fs[i]?=some x→hit p x=false)∧q=fs.length - k) (0) (fs.length) rfl (by first|(simp only[go_sem,zx,zC];done)|with_reducible rfl|rfl) (⟨Nat.zero_le _,fun i x h=>by omega,rfl⟩) ?_
 rintro k q ⟨hk,hno,rfl⟩ X3 hn3 he3 hr3
 simp only[go_sem,zx,zC]
 rcases Nat.lt_or_ge k fs.length with hk2|hk2
 · have hdx:decide ((k:Int)<(fs.length:Int))=true:=decide_eq_true (by omega)
   have hx:fs[k]?=some (fs[k]):=List.getElem?_eq_getElem hk2
   generalize fs[k]=x at hx
   have hc:=W0 yE hx
   have hI:=Uy x p ps
   refine zc fun KY hKY=>?_
   simp only[go_sem,YK,hdx]
   apply hKY
   refine zi fun X4 hn4 he4 hr4=>?_
   refine QI ?_
   refine zA ?_
   repeat (first|refine hn4 _ ?_|refine he4 _ _ ?_|refine he3 _ _ ?_|refine hn2 _ ?_|refine he2 _ ?_|refine hf2 _ _ (by decide) ?_|refine hn1 _ ?_|refine he1 _ _ ?_)
   refine zi fun X5 hn5 he5 hr5=>?_
   refine Zn fun X6 hn6 he6 hf6 hr6=>?_
   refine zc fun KY hKY=>?_
   simp only[go_sem,xU]
   apply hKY
   refine zc fun KY hKY=>?_
   simp only[go_sem,xT,hc,hpl,hk2,(show k*2+2≤fs.length*2 by omega),(show 2≤fs.length*2 - k*2 by omega),List.length_drop]
   refine zL rfl (by simp only[go_sem]<;>rfl) ((hI).mono ?_)
   rintro rr hh ⟨rfl,rfl⟩
   refine⟨rfl,rfl,rfl,?_⟩
   simp only[go_sem]
   apply hKY
   cases hh:hit p x with
   | true=>
     refine QI ?_
     refine zc fun KY hKY=>?_
     simp only[go_sem,xS]
     apply hKY
     refine zw ?_
     repeat (first|refine hr6 _ ?_|refine hr5 _ ?_|refine hr4 _ ?_|refine hr3 _ ?_|refine hr2 _ ?_|refine hr1 _ ?_)
     simp only[go_sem]
     refine⟨_,rfl,.inr ⟨k,rfl,?_⟩⟩
     rw[List.findIdx?_eq_some_iff_getElem]
     obtain⟨hk3,e⟩:=List.getElem?_eq_some_iff.1 hx
     refine⟨hk3,by rw[e];exact hh,fun j hj=>?_⟩
     rw[hno j _ hj (List.getElem?_eq_getElem (by omega))];decide
   | false=>
     refine yb ?_
     refine zA ?_
     repeat (first|refine hn6 _ ?_|refine he6 _ ?_|refine hf6 _ _ (by decide) ?_|refine hn5 _ ?_|refine he5 _ _ ?_|refine hn4 _ ?_|refine he4 _ _ ?_|refine he3 _ _ ?_|refine hn2 _ ?_|refine he2 _ ?_|refine hf2 _ _ (by decide) ?_|refine hn1 _ ?_|refine he1 _ _ ?_)
     refine Z6 fun KY hKY=>?_
     simp only[go_sem,xR,UB (show k<4611686018427387904 by omega)]
     apply hKY
     repeat (first|refine hn6 _ ?_|refine he6 _ ?_|refine hf6 _ _ (by decide) ?_|refine hn5 _ ?_|refine he5 _ _ ?_|refine hn4 _ ?_|refine he4 _ _ ?_)
     refine hn3 _ (k+1) (fs.length - (k+1)) (by omega) (by first|(simp only[go_sem,zx,zC];done)|with_reducible rfl) ?_
     refine⟨hk2,fun i y hi hy=>?_,rfl⟩
     by_cases e:i=k
     · subst e;rw[hx] at hy;cases hy;exact hh
     · exact hno i y (by omega) hy
 have hdx:decide ((k:Int)<(fs.length:Int))=false:=decide_eq_false (by omega)
 refine zc fun KY hKY=>?_
 simp only[go_sem,YK,hdx]
 apply hKY
 refine zi fun X7 hn7 he7 hr7=>?_
 refine yb ?_
 refine Jc ?_
 repeat (first|refine hn7 _ ?_|refine he7 _ _ ?_|refine he3 _ _ ?_|refine hn2 _ ?_|refine he2 _ ?_|refine hf2 _ _ (by decide) ?_|refine hn1 _ ?_|refine he1 _ _ ?_)
 refine zc fun KY hKY=>?_
 simp only[go_sem,xQ]
 apply hKY
 refine zw ?_
 repeat (first|refine hr7 _ ?_|refine hr3 _ ?_|refine hr2 _ ?_|refine hr1 _ ?_)
 simp only[go_sem]
 refine⟨_,rfl,.inl ⟨rfl,?_⟩⟩
 rw[List.findIdx?_eq_none_iff]
 intro x hx
 obtain⟨i,hi,e⟩:=List.getElem_of_mem hx
 exact hno i x (by omega) (by rw[←e];exact List.getElem?_eq_getElem hi)
theorem ww (ps:List (List UInt8)){k:Nat}{w:List UInt8}(hk:ps[k]?=some w)(hl:w.length≤1000000000):zF Tryd.prog [] Kq [Gi ps,.sc (.int .i64 (k:Int))] [] fun r h'=>r= .tup [.sc (.int .i64 (((jd w).getD 0:Nat):Int)),.sc (.bool (jd w).isSome)]∧h'=[]:=by
 have hkl:k<ps.length:=(List.getElem?_eq_some_iff.1 hk).1
 have hg:=vF hk
 have hdl:k+1≤ps.length:=hkl
 refine K9 rfl ?_
 unfold KC Zy
 refine zc fun KY hKY=>?_
 simp only[go_sem,xO]
 apply hKY
 refine zc fun KY hKY=>?_
 simp only[go_sem,xN,hg,Zi,hkl,hdl]
 apply hKY
 refine zi fun X1 hn1 he1 hr1=>?_
 rcases(show w.length<1∨(1≤w.length∧9<w.length)∨(1<w.length∧w.length≤9∧w.getD 0 0=48)∨(1≤w.length∧w.length≤9∧¬(1<w.length∧w.getD 0 0=48)) by
  by_cases h:w.getD 0 0=48
  · simp only[h,and_true,true_and];omega
  · simp only[h,and_false,false_and,not_false_eq_true,and_true];omega) with h1|⟨h1,h2⟩|⟨h1,h2,h3⟩|⟨h1,h2,h3⟩
 · have d1:decide ((w.length:Int)<1)=true:=decide_eq_true (by omega)
   have hn:jd w=none:=if_pos (.inl h1)
   refine zc fun KY hKY=>?_
   simp only[go_sem,Jk,d1]
   apply hKY
   refine QI ?_
   refine zc fun KY hKY=>?_
   simp only[go_sem,QC]
   apply hKY
   refine zw ?_
   repeat (first|refine hr1 _ ?_)
   simp only[go_sem]
   rw[hn];rfl
 · have d1:decide ((w.length:Int)<1)=false:=decide_eq_false (by omega)
   have d2:decide (9<(w.length:Int))=true:=decide_eq_true (by omega)
   have hn:jd w=none:=if_pos (.inr (.inl h2))
   refine zc fun KY hKY=>?_
   simp only[go_sem,Jk,d1,d2]
   apply hKY
   refine QI ?_
   refine zc fun KY hKY=>?_
   simp only[go_sem,QC]
   apply hKY
   refine zw ?_
   repeat (first|refine hr1 _ ?_)
   simp only[go_sem]
   rw[hn];rfl
 · have d1:decide ((w.length:Int)<1)=false:=decide_eq_false (by omega)
   have d2:decide (9<(w.length:Int))=false:=decide_eq_false (by omega)
   have d3:decide (1<(w.length:Int))=true:=decide_eq_true (by omega)
   have d4:decide (((w.getD 0 0).toNat:Int)=48)=true:=by rw[h3];rfl
   have hn:jd w=none:=if_pos (.inr (.inr (.inl ⟨h1,h3⟩)))
   refine zc fun KY hKY=>?_
   simp only[go_sem,Jk,d1,d2,d3,d4,(show 0<w.length by omega)]
   apply hKY
   refine QI ?_
   refine zc fun KY hKY=>?_
   simp only[go_sem,QC]
   apply hKY
   refine zw ?_
   repeat (first|refine hr1 _ ?_)
   simp only[go_sem]
   rw[hn];rfl
 · have d1:decide ((w.length:Int)<1)=false:=decide_eq_false (by omega)
   have d2:decide (9<(w.length:Int))=false:=decide_eq_false (by omega)
   have hnn:∀b,w.all QZ=b→jd w=if b=false then none else some (val w):=fun b hb=>by
    unfold jd
    cases b with
    |false=>rw[if_pos (.inr (.inr (.inr hb))),if_pos rfl]
    |true=>rw[if_neg (by rw[hb];rintro(h|h|h|h);omega;omega;exact h3 h;cases h),if_neg (by simp)]
   by_cases h4:1<w.length
   · have h5:¬w.getD 0 0=48:=fun e=>h3 ⟨h4,e⟩
     have d3:decide (1<(w.length:Int))=true:=decide_eq_true (by omega)
     have d4:decide (((w.getD 0 0).toNat:Int)=48)=false:=decide_eq_false fun e=>h5 (UInt8.toNat_inj.1 (Int.ofNat_inj.1 e))
     refine zc fun KY hKY=>?_
     simp only[go_sem,Jk,d1,d2,d3,d4,(show 0<w.length by omega)]
     apply hKY
     refine yb ?_
     refine zA ?_
     repeat (first|refine hn1 _ ?_|refine he1 _ _ ?_)
     refine zc fun KY hKY=>?_
     simp only[go_sem,YI]
     apply hKY
     refine zi fun X2 hn2 he2 hr2=>?_
     refine zc fun KY hKY=>?_
     simp only[go_sem,YH,JH]
     apply hKY
     refine Zn fun X3 hn3 he3 hf3 hr3=>?_
     try simp only[go_sem]
     refine QJ (α:=Nat) [9,39,47] (fun j=>[(7,.sc (.int .i64 ((val (w.take j):Nat):Int))),(38,.sc (.int .i64 (j:Int)))]) (fun j=>[]) (fun j q=>j≤w.length∧(w.take j).all QZ=true∧q=w.length - j) (0) (w.length) rfl (by first|(simp only[go_sem,zx,zC];done)|with_reducible rfl|rfl) (⟨Nat.zero_le _,rfl,rfl⟩) ?_
     rintro j q ⟨hj,hall,rfl⟩ X4 hn4 he4 hr4
     simp only[go_sem,zx,zC]
     rcases Nat.lt_or_ge j w.length with hj2|hj2
     · have hdx:decide ((j:Int)<(w.length:Int))=true:=decide_eq_true (by omega)
       have hx:w[j]?=some w[j]:=List.getElem?_eq_getElem hj2
       have htk:w.take (j+1)=w.take j++[w[j]]:=by rw[List.take_add_one,hx];rfl
       have hda:w.all QZ=true→QZ w[j]=true:=fun h=>List.all_eq_true.1 h _ (List.getElem_mem hj2)
       have hlt:=(w[j]).toNat_lt
       generalize w[j]=c at hx htk hda hlt
       have hb:(kp w)[j]?=some (.sc (.int .u8 (c.toNat:Int))):=by simp[kp,hx]
       refine zc fun KY hKY=>?_
       simp only[go_sem,qh,hdx]
       apply hKY
       refine zi fun X5 hn5 he5 hr5=>?_
       refine QI ?_
       refine zA ?_
       repeat (first|refine hn5 _ ?_|refine he5 _ _ ?_|refine he4 _ _ ?_|refine hn3 _ ?_|refine he3 _ ?_|refine hf3 _ _ (by decide) ?_|refine hn2 _ ?_|refine he2 _ _ ?_|refine hn1 _ ?_|refine he1 _ _ ?_)
       refine zi fun X6 hn6 he6 hr6=>?_
       refine Zn fun X7 hn7 he7 hf7 hr7=>?_
       refine zc fun KY hKY=>?_
       simp only[go_sem,YG,hb,JH,hj2,(show j+1≤w.length by omega)]
       apply hKY
       refine zi fun X8 hn8 he8 hr8=>?_
       rcases(show c.toNat<48∨(48≤c.toNat∧57<c.toNat)∨(48≤c.toNat∧c.toNat≤57) by omega) with h6|⟨h6,h7⟩|⟨h6,h7⟩
       · have d5:decide ((c.toNat:Int)<48)=true:=decide_eq_true (by omega)
         have hn:jd w=none:=by
          rw[hnn _ rfl,if_pos]
          cases hw:w.all QZ with
          |false=>rfl
          |true=>have:=hda hw;unfold QZ at this;rw[Bool.and_eq_true,decide_eq_true_iff,decide_eq_true_iff] at this;omega
         refine zc fun KY hKY=>?_
         simp only[go_sem,jO,d5]
         apply hKY
         refine QI ?_
         refine zc fun KY hKY=>?_
         simp only[go_sem,qg]
         apply hKY
         refine zw ?_
         repeat (first|refine hr8 _ ?_|refine hr7 _ ?_|refine hr6 _ ?_|refine hr5 _ ?_|refine hr4 _ ?_|refine hr3 _ ?_|refine hr2 _ ?_|refine hr1 _ ?_)
         simp only[go_sem]
         rw[hn];rfl
       · have d5:decide ((c.toNat:Int)<48)=false:=decide_eq_false (by omega)
         have d6:decide (57<(c.toNat:Int))=true:=decide_eq_true (by omega)
         have hn:jd w=none:=by
          rw[hnn _ rfl,if_pos]
          cases hw:w.all QZ with
          |false=>rfl
          |true=>have:=hda hw;unfold QZ at this;rw[Bool.and_eq_true,decide_eq_true_iff,decide_eq_true_iff] at this;omega
         refine zc fun KY hKY=>?_
         simp only[go_sem,jO,d5,d6]
         apply hKY
         refine QI ?_
         refine zc fun KY hKY=>?_
         simp only[go_sem,qg]
         apply hKY
         refine zw ?_
         repeat (first|refine hr8 _ ?_|refine hr7 _ ?_|refine hr6 _ ?_|refine hr5 _ ?_|refine hr4 _ ?_|refine hr3 _ ?_|refine hr2 _ ?_|refine hr1 _ ?_)
         simp only[go_sem]
         rw[hn];rfl
       · have d5:decide ((c.toNat:Int)<48)=false:=decide_eq_false (by omega)
         have d6:decide (57<(c.toNat:Int))=false:=decide_eq_false (by omega)
         have hv:=vt _ hall
         have hp:10^(w.take j).length≤10^9:=Nat.pow_le_pow_right (by omega) (by rw[List.length_take];omega)
         have hs:val (w.take (j+1))=10*val (w.take j)+(c.toNat - 48):=by rw[htk,Qb]
         have w1:IntKind.i64.wrap (10*((val (w.take j):Nat):Int))=((10*val (w.take j):Nat):Int):=by rw[IntWalk.i64_in _ (by omega)];omega
         have w2:IntKind.u8.wrap ((c.toNat:Int) - 48)=((c.toNat - 48:Nat):Int):=by
          unfold IntKind.wrap;simp[IntKind.bits,IntKind.signed];omega
         have w3:IntKind.i64.wrap ((c.toNat - 48:Nat):Int)=((c.toNat - 48:Nat):Int):=IntWalk.i64_in _ (by omega)
         have w4:IntKind.i64.wrap (((10*val (w.take j):Nat):Int)+((c.toNat - 48:Nat):Int))=((val (w.take (j+1)):Nat):Int):=by rw[IntWalk.i64_in _ (by omega),hs];omega
         refine zc fun KY hKY=>?_
         simp only[go_sem,jO,d5,d6]
         apply hKY
         refine yb ?_
         refine zA ?_
         repeat (first|refine hn8 _ ?_|refine he8 _ _ ?_|refine hn7 _ ?_|refine he7 _ ?_|refine hf7 _ _ (by decide) ?_|refine hn6 _ ?_|refine he6 _ _ ?_|refine hn5 _ ?_|refine he5 _ _ ?_|refine he4 _ _ ?_|refine hn3 _ ?_|refine he3 _ ?_|refine hf3 _ _ (by decide) ?_|refine hn2 _ ?_|refine he2 _ _ ?_|refine hn1 _ ?_|refine he1 _ _ ?_)
         refine Z6 fun KY hKY=>?_
         simp only[go_sem,Q5,w1,w2,w3,w4]
         apply hKY
         repeat (first|refine hn8 _ ?_|refine he8 _ _ ?_|refine hn7 _ ?_|refine he7 _ ?_|refine hf7 _ _ (by decide) ?_|refine hn6 _ ?_|refine he6 _ _ ?_|refine hn5 _ ?_|refine he5 _ _ ?_|refine he4 _ _ ?_|refine hn3 _ ?_|refine he3 _ ?_|refine hf3 _ _ (by decide) ?_|refine hn2 _ ?_|refine he2 _ _ ?_|refine hn1 _ ?_|refine he1 _ _ ?_)
         refine Z6 fun KY hKY=>?_
         simp only[go_sem,Q4,UB (show j<4611686018427387904 by omega)]
         apply hKY
         repeat (first|refine hn8 _ ?_|refine he8 _ _ ?_|refine hn7 _ ?_|refine he7 _ ?_|refine hf7 _ _ (by decide) ?_|refine hn6 _ ?_|refine he6 _ _ ?_|refine hn5 _ ?_|refine he5 _ _ ?_)
         refine hn4 _ (j+1) (w.length - (j+1)) (by omega) (by first|(simp only[go_sem,zx,zC];done)|with_reducible rfl) ?_
         refine⟨hj2,?_,rfl⟩
         rw[htk,List.all_append,hall]
         unfold QZ;simp;omega
     have hdx:decide ((j:Int)<(w.length:Int))=false:=decide_eq_false (by omega)
     obtain rfl:j=w.length:=by omega
     rw[List.take_length] at hall
     have hn:jd w=some (val w):=by rw[hnn _ hall];rfl
     refine zc fun KY hKY=>?_
     simp only[go_sem,qh,hdx]
     apply hKY
     refine zi fun X9 hn9 he9 hr9=>?_
     refine yb ?_
     refine Jc ?_
     repeat (first|refine hn9 _ ?_|refine he9 _ _ ?_|refine he4 _ _ ?_|refine hn3 _ ?_|refine he3 _ ?_|refine hf3 _ _ (by decide) ?_|refine hn2 _ ?_|refine he2 _ _ ?_|refine hn1 _ ?_|refine he1 _ _ ?_)
     rw[List.take_length]
     refine zc fun KY hKY=>?_
     simp only[go_sem,Q3]
     apply hKY
     refine zw ?_
     repeat (first|refine hr9 _ ?_|refine hr4 _ ?_|refine hr3 _ ?_|refine hr2 _ ?_|refine hr1 _ ?_)
     simp only[go_sem]
     rw[hn];rfl
   · have d3:decide (1<(w.length:Int))=false:=decide_eq_false (by omega)
     refine zc fun KY hKY=>?_
     simp only[go_sem,Jk,d1,d2,d3]
     apply hKY
     refine yb ?_
     refine zA ?_
     repeat (first|refine hn1 _ ?_|refine he1 _ _ ?_)
     refine zc fun KY hKY=>?_
     simp only[go_sem,YI]
     apply hKY
     refine zi fun X10 hn10 he10 hr10=>?_
     refine zc fun KY hKY=>?_
     simp only[go_sem,YH,JH]
     apply hKY
     refine Zn fun X11 hn11 he11 hf11 hr11=>?_
     try simp only[go_sem]
     refine QJ (α:=Nat) [9,39,47] (fun j=>[(7,.sc (.int .i64 ((val (w.take j):Nat):Int))),(38,.sc (.int .i64 (j:Int)))]) (fun j=>[]) (fun j q=>j≤w.length∧(w.take j).all QZ=true∧q=w.length - j) (0) (w.length) rfl (by first|(simp only[go_sem,zx,zC];done)|with_reducible rfl|rfl) (⟨Nat.zero_le _,rfl,rfl⟩) ?_
     rintro j q ⟨hj,hall,rfl⟩ X12 hn12 he12 hr12
     simp only[go_sem,zx,zC]
     rcases Nat.lt_or_ge j w.length with hj2|hj2
     · have hdx:decide ((j:Int)<(w.length:Int))=true:=decide_eq_true (by omega)
       have hx:w[j]?=some w[j]:=List.getElem?_eq_getElem hj2
       have htk:w.take (j+1)=w.take j++[w[j]]:=by rw[List.take_add_one,hx];rfl
       have hda:w.all QZ=true→QZ w[j]=true:=fun h=>List.all_eq_true.1 h _ (List.getElem_mem hj2)
       have hlt:=(w[j]).toNat_lt
       generalize w[j]=c at hx htk hda hlt
       have hb:(kp w)[j]?=some (.sc (.int .u8 (c.toNat:Int))):=by simp[kp,hx]
       refine zc fun KY hKY=>?_
       simp only[go_sem,qh,hdx]
       apply hKY
       refine zi fun X13 hn13 he13 hr13=>?_
       refine QI ?_
       refine zA ?_
       repeat (first|refine hn13 _ ?_|refine he13 _ _ ?_|refine he12 _ _ ?_|refine hn11 _ ?_|refine he11 _ ?_|refine hf11 _ _ (by decide) ?_|refine hn10 _ ?_|refine he10 _ _ ?_|refine hn1 _ ?_|refine he1 _ _ ?_)
       refine zi fun X14 hn14 he14 hr14=>?_
       refine Zn fun X15 hn15 he15 hf15 hr15=>?_
       refine zc fun KY hKY=>?_
       simp only[go_sem,YG,hb,JH,hj2,(show j+1≤w.length by omega)]
       apply hKY
       refine zi fun X16 hn16 he16 hr16=>?_
       rcases(show c.toNat<48∨(48≤c.toNat∧57<c.toNat)∨(48≤c.toNat∧c.toNat≤57) by omega) with h6|⟨h6,h7⟩|⟨h6,h7⟩
       · have d5:decide ((c.toNat:Int)<48)=true:=decide_eq_true (by omega)
         have hn:jd w=none:=by
          rw[hnn _ rfl,if_pos]
          cases hw:w.all QZ with
          |false=>rfl
          |true=>have:=hda hw;unfold QZ at this;rw[Bool.and_eq_true,decide_eq_true_iff,decide_eq_true_iff] at this;omega
         refine zc fun KY hKY=>?_
         simp only[go_sem,jO,d5]
         apply hKY
         refine QI ?_
         refine zc fun KY hKY=>?_
         simp only[go_sem,qg]
         apply hKY
         refine zw ?_
         repeat (first|refine hr16 _ ?_|refine hr15 _ ?_|refine hr14 _ ?_|refine hr13 _ ?_|refine hr12 _ ?_|refine hr11 _ ?_|refine hr10 _ ?_|refine hr1 _ ?_)
         simp only[go_sem]
         rw[hn];rfl
       · have d5:decide ((c.toNat:Int)<48)=false:=decide_eq_false (by omega)
         have d6:decide (57<(c.toNat:Int))=true:=decide_eq_true (by omega)
         have hn:jd w=none:=by
          rw[hnn _ rfl,if_pos]
          cases hw:w.all QZ with
          |false=>rfl
          |true=>have:=hda hw;unfold QZ at this;rw[Bool.and_eq_true,decide_eq_true_iff,decide_eq_true_iff] at this;omega
         refine zc fun KY hKY=>?_
         simp only[go_sem,jO,d5,d6]
         apply hKY
         refine QI ?_
         refine zc fun KY hKY=>?_
         simp only[go_sem,qg]
         apply hKY
         refine zw ?_
         repeat (first|refine hr16 _ ?_|refine hr15 _ ?_|refine hr14 _ ?_|refine hr13 _ ?_|refine hr12 _ ?_|refine hr11 _ ?_|refine hr10 _ ?_|refine hr1 _ ?_)
         simp only[go_sem]
         rw[hn];rfl
       · have d5:decide ((c.toNat:Int)<48)=false:=decide_eq_false (by omega)
         have d6:decide (57<(c.toNat:Int))=false:=decide_eq_false (by omega)
         have hv:=vt _ hall
         have hp:10^(w.take j).length≤10^9:=Nat.pow_le_pow_right (by omega) (by rw[List.length_take];omega)
         have hs:val (w.take (j+1))=10*val (w.take j)+(c.toNat - 48):=by rw[htk,Qb]
         have w1:IntKind.i64.wrap (10*((val (w.take j):Nat):Int))=((10*val (w.take j):Nat):Int):=by rw[IntWalk.i64_in _ (by omega)];omega
         have w2:IntKind.u8.wrap ((c.toNat:Int) - 48)=((c.toNat - 48:Nat):Int):=by
          unfold IntKind.wrap;simp[IntKind.bits,IntKind.signed];omega
         have w3:IntKind.i64.wrap ((c.toNat - 48:Nat):Int)=((c.toNat - 48:Nat):Int):=IntWalk.i64_in _ (by omega)
         have w4:IntKind.i64.wrap (((10*val (w.take j):Nat):Int)+((c.toNat - 48:Nat):Int))=((val (w.take (j+1)):Nat):Int):=by rw[IntWalk.i64_in _ (by omega),hs];omega
         refine zc fun KY hKY=>?_
         simp only[go_sem,jO,d5,d6]
         apply hKY
         refine yb ?_
         refine zA ?_
         repeat (first|refine hn16 _ ?_|refine he16 _ _ ?_|refine hn15 _ ?_|refine he15 _ ?_|refine hf15 _ _ (by decide) ?_|refine hn14 _ ?_|refine he14 _ _ ?_|refine hn13 _ ?_|refine he13 _ _ ?_|refine he12 _ _ ?_|refine hn11 _ ?_|refine he11 _ ?_|refine hf11 _ _ (by decide) ?_|refine hn10 _ ?_|refine he10 _ _ ?_|refine hn1 _ ?_|refine he1 _ _ ?_)
         refine Z6 fun KY hKY=>?_
         simp only[go_sem,Q5,w1,w2,w3,w4]
         apply hKY
         repeat (first|refine hn16 _ ?_|refine he16 _ _ ?_|refine hn15 _ ?_|refine he15 _ ?_|refine hf15 _ _ (by decide) ?_|refine hn14 _ ?_|refine he14 _ _ ?_|refine hn13 _ ?_|refine he13 _ _ ?_|refine he12 _ _ ?_|refine hn11 _ ?_|refine he11 _ ?_|refine hf11 _ _ (by decide) ?_|refine hn10 _ ?_|refine he10 _ _ ?_|refine hn1 _ ?_|refine he1 _ _ ?_)
         refine Z6 fun KY hKY=>?_
         simp only[go_sem,Q4,UB (show j<4611686018427387904 by omega)]
         apply hKY
         repeat (first|refine hn16 _ ?_|refine he16 _ _ ?_|refine hn15 _ ?_|refine he15 _ ?_|refine hf15 _ _ (by decide) ?_|refine hn14 _ ?_|refine he14 _ _ ?_|refine hn13 _ ?_|refine he13 _ _ ?_)
         refine hn12 _ (j+1) (w.length - (j+1)) (by omega) (by first|(simp only[go_sem,zx,zC];done)|with_reducible rfl) ?_
         refine⟨hj2,?_,rfl⟩
         rw[htk,List.all_append,hall]
         unfold QZ;simp;omega
     have hdx:decide ((j:Int)<(w.length:Int))=false:=decide_eq_false (by omega)
     obtain rfl:j=w.length:=by omega
     rw[List.take_length] at hall
     have hn:jd w=some (val w):=by rw[hnn _ hall];rfl
     refine zc fun KY hKY=>?_
     simp only[go_sem,qh,hdx]
     apply hKY
     refine zi fun X17 hn17 he17 hr17=>?_
     refine yb ?_
     refine Jc ?_
     repeat (first|refine hn17 _ ?_|refine he17 _ _ ?_|refine he12 _ _ ?_|refine hn11 _ ?_|refine he11 _ ?_|refine hf11 _ _ (by decide) ?_|refine hn10 _ ?_|refine he10 _ _ ?_|refine hn1 _ ?_|refine he1 _ _ ?_)
     rw[List.take_length]
     refine zc fun KY hKY=>?_
     simp only[go_sem,Q3]
     apply hKY
     refine zw ?_
     repeat (first|refine hr17 _ ?_|refine hr12 _ ?_|refine hr11 _ ?_|refine hr10 _ ?_|refine hr1 _ ?_)
     simp only[go_sem]
     rw[hn];rfl
end Go.Proofs.YtneiihheeghdcaaDoor
set_option maxHeartbeats 8000000
namespace Go.Proofs.YtneiihheeghdcaaDoor
open Go Go.Ga Go.Ga.Gl
theorem y4 (l:List UInt8)(hl:l.length≤1000000000):zF Tryd.prog [] gG [.sc (.string (Z0 l))] [] fun r h'=>r= .tup [.agg (ZM l).1.cells,.sc (.int .i64 (ZM l).2)]∧h'=[]:=by
 refine gP rfl ?_
 unfold gW Zd
 refine zc fun KY hKY=>?_
 simp only[go_sem,uJ]
 apply hKY
 refine zi fun X1 hn1 he1 hr1=>?_
 by_cases hlen:65536<l.length
 · have d1:decide (65536<(l.length:Int))=true:=decide_eq_true (by omega)
   have hres:ZM l=(⟨0,0,0,[]⟩,8):=if_pos hlen
   refine zc fun KY hKY=>?_
   simp only[go_sem,Wt,d1]
   apply hKY
   refine QI ?_
   refine zc fun KY hKY=>?_
   simp only[go_sem,uI]
   apply hKY
   refine Z7 [0,2,3] 1 (by simp only[go_sem]) ?_
   simp only[go_sem]
   refine zX [0,2,3] (by simp only[go_sem];rfl) ?_
   simp only[go_sem]
   refine zw ?_
   repeat (first|refine hr1 _ ?_)
   simp only[go_sem]
   rw[hres];rfl
 have d1:decide (65536<(l.length:Int))=false:=decide_eq_false (by omega)
 have hS:=vI l hl
 have hne:=QL 32 l
 have hsl:=yP 32 l
 have hcl:=Qy 32 l
 have hpar:ZM l=_:=if_neg hlen
 obtain⟨p,ts,hsp⟩:∃p ts,zJ 32 l=p::ts:=by
  cases h:zJ 32 l with
  |nil=>exact absurd h hne
  |cons p ts=>exact⟨p,ts,rfl⟩
 rw[hsp] at hS hsl hpar
 simp only[List.headD_cons,List.tail_cons,List.length_cons] at hpar hsl
 have hwl:∀w∈p::ts,w.length≤1000000000:=fun w hw=>Nat.le_trans (yO 32 l w (by rw[hsp];exact hw)) hl
 refine zc fun KY hKY=>?_
 simp only[go_sem,Wt,d1]
 apply hKY
 refine yb ?_
 refine zA ?_
 repeat (first|refine hn1 _ ?_|refine he1 _ _ ?_)
 refine zc fun KY hKY=>?_
 simp only[go_sem,uH]
 apply jp [] [] false none rfl
 iterate 8 (first|(simp only[go_sem,zQ]<;>rfl)|rfl)
 refine(hS).mono ?_
 rintro _ _ ⟨rfl,rfl⟩
 refine⟨Nat.le_of_ble_eq_true rfl,(fun hh=>by cases hh),?_⟩
 simp only[go_sem,ZJ,zb.after]
 apply hKY
 refine zX [0,4] (by simp only[go_sem];rfl) ?_
 simp only[go_sem]
 have hfl:(zY Wm wH).length=30:=rfl
 refine zc fun KY hKY=>?_
 simp only[go_sem,uG]
 apply jp [] [] false none rfl
 iterate 8 (first|(simp only[go_sem,zQ]<;>rfl)|rfl)
 refine(VM).mono ?_
 rintro _ _ ⟨rfl,rfl⟩
 refine⟨Nat.le_of_ble_eq_true rfl,(fun hh=>by cases hh),?_⟩
 simp only[go_sem,ZJ,zb.after,jA,hfl,List.length_cons,List.length_nil]
 apply hKY
 refine zX [0,5] (by simp only[go_sem];rfl) ?_
 simp only[go_sem]
 have htk:List.take 30 (zY Wm wH)=zY Wm wH:=rfl
 refine zc fun KY hKY=>?_
 simp only[go_sem,uF,hfl,htk,List.drop_zero]
 refine zL rfl (by simp only[go_sem]<;>rfl) ((UA wH p ts (by decide)).mono ?_)
 rintro rr hh ⟨⟨z,rfl,hz⟩,rfl⟩
 refine⟨?_,?_,?_,?_⟩
 iterate 3 (first|rfl|simp only[go_sem])
 simp only[go_sem]
 apply hKY
 refine zi fun X2 hn2 he2 hr2=>?_
 rcases hz with⟨rfl,hno⟩|⟨i,rfl,hi⟩
 · have hres:ZM l=(⟨0,0,0,[]⟩,15):=by rw[hpar,hno]
   refine ZY fun KY hKY=>?_
   simp only[go_sem,QA]
   apply hKY
   refine QI ?_
   refine zc fun KY hKY=>?_
   simp only[go_sem,Ws]
   apply hKY
   refine Z7 [0,2,3] 1 (by simp only[go_sem]) ?_
   simp only[go_sem]
   refine zX [0,2,3] (by simp only[go_sem];rfl) ?_
   simp only[go_sem]
   refine zw ?_
   repeat (first|refine hr2 _ ?_|refine hr1 _ ?_)
   simp only[go_sem]
   rw[hres];rfl
 have hi15:i<15:=by
  have:=(List.findIdx?_eq_some_iff_getElem.1 hi).1
  exact this
 have hx:wH[i]?=some wH[i]:=List.getElem?_eq_getElem hi15
 have hgd:wH.getD i ([],0)=wH[i]:=by rw[List.getD_eq_getElem?_getD,hx];rfl
 rw[hi] at hpar
 simp only[hgd] at hpar
 have hfn: -1≤wH[i].2∧wH[i].2≤2:=by
  have:∀x∈wH, -1≤x.2∧x.2≤2:=by decide
  exact this _ (List.getElem_mem hi15)
 generalize wH[i]=x at hx hpar hfn hgd
 obtain⟨fw,n⟩:=x
 simp only at hpar hfn
 have hg1:(zY Wm wH)[i*2+1]?=some (.sc (.int .i64 n)):=Un yE hx 1 (by decide)
 have di:decide ((i:Int)<0)=false:=decide_eq_false (by omega)
 have hi15':(i:Int).toNat<15:=by omega
 by_cases hbad:0≤n∧((ts.length:Int)+1≠n+1)
 · have hres:ZM l=(⟨0,0,0,[]⟩,15):=by rw[hpar,if_pos (by omega)]
   have dn:decide (0≤n)=true:=decide_eq_true hbad.1
   have w1:IntKind.i64.wrap (n+1)=n+1:=IntWalk.i64_in _ (by omega)
   have dd:decide (((ts.length+1:Nat):Int)≠n+1)=true:=decide_eq_true (by omega)
   refine ZY fun KY hKY=>?_
   simp only[go_sem,QA,di,hi15,hg1,dn,w1,dd,Zi]
   apply hKY
   refine QI ?_
   refine zc fun KY hKY=>?_
   simp only[go_sem,Ws]
   apply hKY
   refine Z7 [0,2,3] 1 (by simp only[go_sem]) ?_
   simp only[go_sem]
   refine zX [0,2,3] (by simp only[go_sem];rfl) ?_
   simp only[go_sem]
   refine zw ?_
   repeat (first|refine hr2 _ ?_|refine hr1 _ ?_)
   simp only[go_sem]
   rw[hres];rfl
 replace hpar:=hpar.trans (if_neg (show¬(0≤n∧((ts.length+1:Nat):Int)≠n+1) by omega))
 rcases(show n<0∨(0≤n∧(ts.length:Int)=n) by omega) with hneg|⟨hpos,hlen2⟩
 · have dn:decide (0≤n)=false:=decide_eq_false (by omega)
   have dn2:decide (n<0)=true:=decide_eq_true hneg
   refine ZY fun KY hKY=>?_
   simp only[go_sem,QA,di,hi15,hg1,dn]
   apply hKY
   refine yb ?_
   refine zA ?_
   repeat (first|refine hn2 _ ?_|refine he2 _ _ ?_|refine hn1 _ ?_|refine he1 _ _ ?_)
   refine zc fun KY hKY=>?_
   simp only[go_sem,Wr]
   apply hKY
   refine zc fun KY hKY=>?_
   simp only[go_sem,Wq]
   apply hKY
   refine Z7 [0,8] 1 (by simp only[go_sem]) ?_
   simp only[go_sem]
   refine zi fun X3 hn3 he3 hr3=>?_
   refine zc fun KY hKY=>?_
   simp only[go_sem,YE]
   apply hKY
   refine Zn fun X4 hn4 he4 hf4 hr4=>?_
   try simp only[go_sem]
   refine QJ (α:=Nat×List Nat) [10,11,56,66] (fun(j,ns)=>[(8,.own (some 1) (Z4 ns)),(9,.sc (.int .i64 ((j+1:Nat):Int)))]) (fun(j,ns)=>[]) (fun(j,ns) q=>j≤ts.length∧ZP (ts.take j)=some ns∧ns.length=j∧q=ts.length - j) ((0,[])) (ts.length) rfl (by first|(simp only[go_sem,zx,zC];done)|with_reducible rfl|rfl) (⟨Nat.zero_le _,rfl,rfl,rfl⟩) ?_
   rintro⟨j,ns⟩ q ⟨hj,hns,hnl,rfl⟩ X5 hn5 he5 hr5
   simp only[go_sem,zx,zC]
   refine zi fun X6 hn6 he6 hr6=>?_
   rcases Nat.lt_or_ge j ts.length with hj2|hj2
   · have hdx:decide (((j+1:Nat):Int)<((ts.length+1:Nat):Int))=true:=decide_eq_true (by omega)
     have hw:ts[j]?=some ts[j]:=List.getElem?_eq_getElem hj2
     have hwm:=hwl _ (.tail _ (List.getElem_mem hj2))
     have htl:ts=ts.take j++ts[j]::ts.drop (j+1):=by rw[←List.drop_eq_getElem_cons hj2,List.take_append_drop]
     have htk:ts.take (j+1)=ts.take j++[ts[j]]:=by rw[List.take_add_one,hw];rfl
     generalize ts[j]=w at hw hwm htl htk
     have hN:=ww (p::ts) (k:=j+1) (w:=w) (by simpa using hw) hwm
     cases hnb:jd w with
     | none=>
       have hres:ZM l=(⟨0,0,0,[]⟩,15):=by
        have:ZP ts=none:=by rw[htl];exact y7 hnb
        rw[hpar,this]
       rw[hnb] at hN
       refine zc fun KY hKY=>?_
       simp only[go_sem,jN,hdx,Zi]
       apply hKY
       refine QI ?_
       refine zA ?_
       repeat (first|refine hn6 _ ?_|refine he6 _ _ ?_|refine he5 _ _ ?_|refine hn4 _ ?_|refine he4 _ ?_|refine hf4 _ _ (by decide) ?_|refine hn3 _ ?_|refine he3 _ _ ?_|refine hn2 _ ?_|refine he2 _ _ ?_|refine hn1 _ ?_|refine he1 _ _ ?_)
       refine zi fun X7 hn7 he7 hr7=>?_
       refine Zn fun X8 hn8 he8 hf8 hr8=>?_
       refine zc fun KY hKY=>?_
       simp only[go_sem,qf]
       refine zL rfl (by simp only[go_sem]<;>rfl) ((hN).mono ?_)
       rintro rr hh ⟨rfl,rfl⟩
       refine⟨rfl,rfl,rfl,?_⟩
       simp only[go_sem]
       apply hKY
       refine zi fun X9 hn9 he9 hr9=>?_
       refine zc fun KY hKY=>?_
       simp only[go_sem,qe]
       apply hKY
       refine QI ?_
       refine zc fun KY hKY=>?_
       simp only[go_sem,YD]
       apply hKY
       refine Z7 [0,2,3] 1 (by simp only[go_sem]) ?_
       simp only[go_sem]
       refine zX [0,2,3] (by simp only[go_sem];rfl) ?_
       simp only[go_sem]
       refine zw ?_
       repeat (first|refine hr9 _ ?_|refine hr8 _ ?_|refine hr7 _ ?_|refine hr6 _ ?_|refine hr5 _ ?_|refine hr4 _ ?_|refine hr3 _ ?_|refine hr2 _ ?_|refine hr1 _ ?_)
       simp only[go_sem]
       rw[hres];rfl
     | some v=>
       rw[hnb] at hN
       refine zc fun KY hKY=>?_
       simp only[go_sem,jN,hdx,Zi]
       apply hKY
       refine QI ?_
       refine zA ?_
       repeat (first|refine hn6 _ ?_|refine he6 _ _ ?_|refine he5 _ _ ?_|refine hn4 _ ?_|refine he4 _ ?_|refine hf4 _ _ (by decide) ?_|refine hn3 _ ?_|refine he3 _ _ ?_|refine hn2 _ ?_|refine he2 _ _ ?_|refine hn1 _ ?_|refine he1 _ _ ?_)
       refine zi fun X10 hn10 he10 hr10=>?_
       refine Zn fun X11 hn11 he11 hf11 hr11=>?_
       refine zc fun KY hKY=>?_
       simp only[go_sem,qf]
       refine zL rfl (by simp only[go_sem]<;>rfl) ((hN).mono ?_)
       rintro rr hh ⟨rfl,rfl⟩
       refine⟨rfl,rfl,rfl,?_⟩
       simp only[go_sem]
       apply hKY
       refine zi fun X12 hn12 he12 hr12=>?_
       refine zc fun KY hKY=>?_
       simp only[go_sem,qe]
       apply hKY
       refine yb ?_
       refine zA ?_
       repeat (first|refine hn12 _ ?_|refine he12 _ _ ?_|refine hn11 _ ?_|refine he11 _ ?_|refine hf11 _ _ (by decide) ?_|refine hn10 _ ?_|refine he10 _ _ ?_|refine hn6 _ ?_|refine he6 _ _ ?_|refine he5 _ _ ?_|refine hn4 _ ?_|refine he4 _ ?_|refine hf4 _ _ (by decide) ?_|refine hn3 _ ?_|refine he3 _ _ ?_|refine hn2 _ ?_|refine he2 _ _ ?_|refine hn1 _ ?_|refine he1 _ _ ?_)
       refine Z6 fun KY hKY=>?_
       simp only[go_sem,YC,wx,J5,hnl,(show(j+1)*8≤140737488355328 by omega)]
       apply hKY
       repeat (first|refine hn12 _ ?_|refine he12 _ _ ?_|refine hn11 _ ?_|refine he11 _ ?_|refine hf11 _ _ (by decide) ?_|refine hn10 _ ?_|refine he10 _ _ ?_|refine hn6 _ ?_|refine he6 _ _ ?_|refine he5 _ _ ?_|refine hn4 _ ?_|refine he4 _ ?_|refine hf4 _ _ (by decide) ?_|refine hn3 _ ?_|refine he3 _ _ ?_|refine hn2 _ ?_|refine he2 _ _ ?_|refine hn1 _ ?_|refine he1 _ _ ?_)
       refine Z6 fun KY hKY=>?_
       simp only[go_sem,YB,UB (show j+1<4611686018427387904 by omega)]
       apply hKY
       repeat (first|refine hn12 _ ?_|refine he12 _ _ ?_|refine hn11 _ ?_|refine he11 _ ?_|refine hf11 _ _ (by decide) ?_|refine hn10 _ ?_|refine he10 _ _ ?_|refine hn6 _ ?_|refine he6 _ _ ?_)
       refine hn5 _ ((j+1,ns++[v])) (ts.length - (j+1)) (by omega) (by first|(simp only[go_sem,zx,zC];done)|with_reducible rfl) ?_
       refine⟨hj2,?_,by simp[hnl],rfl⟩
       rw[htk,qq,hns]
       show(ZP [w]).map _=_
       unfold ZP
       rw[hnb];rfl
   have hdx:decide (((j+1:Nat):Int)<((ts.length+1:Nat):Int))=false:=decide_eq_false (by omega)
   obtain rfl:j=ts.length:=by omega
   rw[List.take_length] at hns
   rw[hns] at hpar
   refine zc fun KY hKY=>?_
   simp only[go_sem,jN,hdx,Zi]
   apply hKY
   refine yb ?_
   refine Jc ?_
   repeat (first|refine hn6 _ ?_|refine he6 _ _ ?_|refine he5 _ _ ?_|refine hn4 _ ?_|refine he4 _ ?_|refine hf4 _ _ (by decide) ?_|refine hn3 _ ?_|refine he3 _ _ ?_|refine hn2 _ ?_|refine he2 _ _ ?_|refine hn1 _ ?_|refine he1 _ _ ?_)
   have hres:ZM l=(⟨i,0,0,ns⟩,0):=hpar.trans (if_pos hneg)
   refine zX [0,8] (by simp only[go_sem];rfl) ?_
   simp only[go_sem]
   refine zc fun KY hKY=>?_
   simp only[go_sem,YA]
   apply hKY
   refine zi fun X13 hn13 he13 hr13=>?_
   refine zc fun KY hKY=>?_
   simp only[go_sem,Yz,hi15,hg1,dn2]
   apply hKY
   refine QI ?_
   refine zc fun KY hKY=>?_
   simp only[go_sem,xx]
   apply hKY
   refine zc fun KY hKY=>?_
   simp only[go_sem,xw]
   apply hKY
   refine zw ?_
   repeat (first|refine hr13 _ ?_|refine hr6 _ ?_|refine hr5 _ ?_|refine hr4 _ ?_|refine hr3 _ ?_|refine hr2 _ ?_|refine hr1 _ ?_)
   simp only[go_sem]
   rw[hres];rfl
 · have dn:decide (0≤n)=true:=decide_eq_true hpos
   have dn2:decide (n<0)=false:=decide_eq_false (by omega)
   have w1:IntKind.i64.wrap (n+1)=n+1:=IntWalk.i64_in _ (by omega)
   have dd:decide (((ts.length+1:Nat):Int)≠n+1)=false:=decide_eq_false (by omega)
   refine ZY fun KY hKY=>?_
   simp only[go_sem,QA,di,hi15,hg1,dn,w1,dd,Zi]
   apply hKY
   refine yb ?_
   refine zA ?_
   repeat (first|refine hn2 _ ?_|refine he2 _ _ ?_|refine hn1 _ ?_|refine he1 _ _ ?_)
   refine zc fun KY hKY=>?_
   simp only[go_sem,Wr]
   apply hKY
   refine zc fun KY hKY=>?_
   simp only[go_sem,Wq]
   apply hKY
   refine Z7 [0,8] 1 (by simp only[go_sem]) ?_
   simp only[go_sem]
   refine zi fun X14 hn14 he14 hr14=>?_
   refine zc fun KY hKY=>?_
   simp only[go_sem,YE]
   apply hKY
   refine Zn fun X15 hn15 he15 hf15 hr15=>?_
   try simp only[go_sem]
   refine QJ (α:=Nat×List Nat) [10,11,56,66] (fun(j,ns)=>[(8,.own (some 1) (Z4 ns)),(9,.sc (.int .i64 ((j+1:Nat):Int)))]) (fun(j,ns)=>[]) (fun(j,ns) q=>j≤ts.length∧ZP (ts.take j)=some ns∧ns.length=j∧q=ts.length - j) ((0,[])) (ts.length) rfl (by first|(simp only[go_sem,zx,zC];done)|with_reducible rfl|rfl) (⟨Nat.zero_le _,rfl,rfl,rfl⟩) ?_
   rintro⟨j,ns⟩ q ⟨hj,hns,hnl,rfl⟩ X16 hn16 he16 hr16
   simp only[go_sem,zx,zC]
   refine zi fun X17 hn17 he17 hr17=>?_
   rcases Nat.lt_or_ge j ts.length with hj2|hj2
   · have hdx:decide (((j+1:Nat):Int)<((ts.length+1:Nat):Int))=true:=decide_eq_true (by omega)
     have hw:ts[j]?=some ts[j]:=List.getElem?_eq_getElem hj2
     have hwm:=hwl _ (.tail _ (List.getElem_mem hj2))
     have htl:ts=ts.take j++ts[j]::ts.drop (j+1):=by rw[←List.drop_eq_getElem_cons hj2,List.take_append_drop]
     have htk:ts.take (j+1)=ts.take j++[ts[j]]:=by rw[List.take_add_one,hw];rfl
     generalize ts[j]=w at hw hwm htl htk
     have hN:=ww (p::ts) (k:=j+1) (w:=w) (by simpa using hw) hwm
     cases hnb:jd w with
     | none=>
       have hres:ZM l=(⟨0,0,0,[]⟩,15):=by
        have:ZP ts=none:=by rw[htl];exact y7 hnb
        rw[hpar,this]
       rw[hnb] at hN
       refine zc fun KY hKY=>?_
       simp only[go_sem,jN,hdx,Zi]
       apply hKY
       refine QI ?_
       refine zA ?_
       repeat (first|refine hn17 _ ?_|refine he17 _ _ ?_|refine he16 _ _ ?_|refine hn15 _ ?_|refine he15 _ ?_|refine hf15 _ _ (by decide) ?_|refine hn14 _ ?_|refine he14 _ _ ?_|refine hn2 _ ?_|refine he2 _ _ ?_|refine hn1 _ ?_|refine he1 _ _ ?_)
       refine zi fun X18 hn18 he18 hr18=>?_
       refine Zn fun X19 hn19 he19 hf19 hr19=>?_
       refine zc fun KY hKY=>?_
       simp only[go_sem,qf]
       refine zL rfl (by simp only[go_sem]<;>rfl) ((hN).mono ?_)
       rintro rr hh ⟨rfl,rfl⟩
       refine⟨rfl,rfl,rfl,?_⟩
       simp only[go_sem]
       apply hKY
       refine zi fun X20 hn20 he20 hr20=>?_
       refine zc fun KY hKY=>?_
       simp only[go_sem,qe]
       apply hKY
       refine QI ?_
       refine zc fun KY hKY=>?_
       simp only[go_sem,YD]
       apply hKY
       refine Z7 [0,2,3] 1 (by simp only[go_sem]) ?_
       simp only[go_sem]
       refine zX [0,2,3] (by simp only[go_sem];rfl) ?_
       simp only[go_sem]
       refine zw ?_
       repeat (first|refine hr20 _ ?_|refine hr19 _ ?_|refine hr18 _ ?_|refine hr17 _ ?_|refine hr16 _ ?_|refine hr15 _ ?_|refine hr14 _ ?_|refine hr2 _ ?_|refine hr1 _ ?_)
       simp only[go_sem]
       rw[hres];rfl
     | some v=>
       rw[hnb] at hN
       refine zc fun KY hKY=>?_
       simp only[go_sem,jN,hdx,Zi]
       apply hKY
       refine QI ?_
       refine zA ?_
       repeat (first|refine hn17 _ ?_|refine he17 _ _ ?_|refine he16 _ _ ?_|refine hn15 _ ?_|refine he15 _ ?_|refine hf15 _ _ (by decide) ?_|refine hn14 _ ?_|refine he14 _ _ ?_|refine hn2 _ ?_|refine he2 _ _ ?_|refine hn1 _ ?_|refine he1 _ _ ?_)
       refine zi fun X21 hn21 he21 hr21=>?_
       refine Zn fun X22 hn22 he22 hf22 hr22=>?_
       refine zc fun KY hKY=>?_
       simp only[go_sem,qf]
       refine zL rfl (by simp only[go_sem]<;>rfl) ((hN).mono ?_)
       rintro rr hh ⟨rfl,rfl⟩
       refine⟨rfl,rfl,rfl,?_⟩
       simp only[go_sem]
       apply hKY
       refine zi fun X23 hn23 he23 hr23=>?_
       refine zc fun KY hKY=>?_
       simp only[go_sem,qe]
       apply hKY
       refine yb ?_
       refine zA ?_
       repeat (first|refine hn23 _ ?_|refine he23 _ _ ?_|refine hn22 _ ?_|refine he22 _ ?_|refine hf22 _ _ (by decide) ?_|refine hn21 _ ?_|refine he21 _ _ ?_|refine hn17 _ ?_|refine he17 _ _ ?_|refine he16 _ _ ?_|refine hn15 _ ?_|refine he15 _ ?_|refine hf15 _ _ (by decide) ?_|refine hn14 _ ?_|refine he14 _ _ ?_|refine hn2 _ ?_|refine he2 _ _ ?_|refine hn1 _ ?_|refine he1 _ _ ?_)
       refine Z6 fun KY hKY=>?_
       simp only[go_sem,YC,wx,J5,hnl,(show(j+1)*8≤140737488355328 by omega)]
       apply hKY
       repeat (first|refine hn23 _ ?_|refine he23 _ _ ?_|refine hn22 _ ?_|refine he22 _ ?_|refine hf22 _ _ (by decide) ?_|refine hn21 _ ?_|refine he21 _ _ ?_|refine hn17 _ ?_|refine he17 _ _ ?_|refine he16 _ _ ?_|refine hn15 _ ?_|refine he15 _ ?_|refine hf15 _ _ (by decide) ?_|refine hn14 _ ?_|refine he14 _ _ ?_|refine hn2 _ ?_|refine he2 _ _ ?_|refine hn1 _ ?_|refine he1 _ _ ?_)
       refine Z6 fun KY hKY=>?_
       simp only[go_sem,YB,UB (show j+1<4611686018427387904 by omega)]
       apply hKY
       repeat (first|refine hn23 _ ?_|refine he23 _ _ ?_|refine hn22 _ ?_|refine he22 _ ?_|refine hf22 _ _ (by decide) ?_|refine hn21 _ ?_|refine he21 _ _ ?_|refine hn17 _ ?_|refine he17 _ _ ?_)
       refine hn16 _ ((j+1,ns++[v])) (ts.length - (j+1)) (by omega) (by first|(simp only[go_sem,zx,zC];done)|with_reducible rfl) ?_
       refine⟨hj2,?_,by simp[hnl],rfl⟩
       rw[htk,qq,hns]
       show(ZP [w]).map _=_
       unfold ZP
       rw[hnb];rfl
   have hdx:decide (((j+1:Nat):Int)<((ts.length+1:Nat):Int))=false:=decide_eq_false (by omega)
   obtain rfl:j=ts.length:=by omega
   rw[List.take_length] at hns
   rw[hns] at hpar
   refine zc fun KY hKY=>?_
   simp only[go_sem,jN,hdx,Zi]
   apply hKY
   refine yb ?_
   refine Jc ?_
   repeat (first|refine hn17 _ ?_|refine he17 _ _ ?_|refine he16 _ _ ?_|refine hn15 _ ?_|refine he15 _ ?_|refine hf15 _ _ (by decide) ?_|refine hn14 _ ?_|refine he14 _ _ ?_|refine hn2 _ ?_|refine he2 _ _ ?_|refine hn1 _ ?_|refine he1 _ _ ?_)
   replace hpar:=hpar.trans (if_neg (show¬n<0 by omega))
   have hap:Z4 ns++[.sc (.int .i64 0),.sc (.int .i64 0)]=Z4 (ns++[0,0]):=by simp[Z4]
   have hl2:(ns++[0,0]).length=ns.length+2:=by simp
   obtain⟨a,ha⟩:∃a,a=ns.getD 0 0:=⟨_,rfl⟩
   obtain⟨b,hb⟩:∃b,b=ns.getD 1 0:=⟨_,rfl⟩
   have h0:(Z4 (ns++[0,0]))[0]?=some (.sc (.int .i64 (a:Int))):=by
    rw[W5 (by omega),ha]
    rcases ns with _|⟨x,_|⟨y,r⟩⟩<;>rfl
   have h1:(Z4 (ns++[0,0]))[1]?=some (.sc (.int .i64 (b:Int))):=by
    rw[W5 (by omega),hb]
    rcases ns with _|⟨x,_|⟨y,r⟩⟩<;>rfl
   rw[←ha,←hb] at hpar
   refine zc fun KY hKY=>?_
   simp only[go_sem,YA]
   apply hKY
   refine zi fun X24 hn24 he24 hr24=>?_
   refine zc fun KY hKY=>?_
   simp only[go_sem,Yz,hi15,hg1,dn2]
   apply hKY
   refine yb ?_
   refine zA ?_
   repeat (first|refine hn24 _ ?_|refine he24 _ _ ?_|refine hn17 _ ?_|refine he17 _ _ ?_|refine he16 _ _ ?_|refine hn15 _ ?_|refine he15 _ ?_|refine hf15 _ _ (by decide) ?_|refine hn14 _ ?_|refine he14 _ _ ?_|refine hn2 _ ?_|refine he2 _ _ ?_|refine hn1 _ ?_|refine he1 _ _ ?_)
   refine zc fun KY hKY=>?_
   simp only[go_sem,xv,J5,hap,(show(ns.length+2)*8≤140737488355328 by omega)]
   apply hKY
   refine ZY fun KY hKY=>?_
   simp only[go_sem,xu,h0,h1,J5,hl2,(show 1≤ns.length+2 by omega),(show 2≤ns.length+2 by omega),(show([0,12]==[0,8])=false from rfl),Bool.not_false]
   apply hKY
   refine zi fun X25 hn25 he25 hr25=>?_
   by_cases h6:i=6
   · have d6:decide ((i:Int)=6)=true:=decide_eq_true (by omega)
     by_cases h61:a=1
     · have d61:decide ((a:Int)≠1)=false:=decide_eq_false (by omega)
       have hres:ZM l=(⟨i,a,b,[]⟩,0):=hpar.trans (if_neg (by omega))
       refine zc fun KY hKY=>?_
       simp only[go_sem,qd,d6,d61]
       apply hKY
       refine yb ?_
       refine zA ?_
       repeat (first|refine hn25 _ ?_|refine he25 _ _ ?_|refine hn24 _ ?_|refine he24 _ _ ?_|refine hn17 _ ?_|refine he17 _ _ ?_|refine he16 _ _ ?_|refine hn15 _ ?_|refine he15 _ ?_|refine hf15 _ _ (by decide) ?_|refine hn14 _ ?_|refine he14 _ _ ?_|refine hn2 _ ?_|refine he2 _ _ ?_|refine hn1 _ ?_|refine he1 _ _ ?_)
       refine zc fun KY hKY=>?_
       simp only[go_sem,QB]
       apply hKY
       refine Z7 [0,2,3] 1 (by simp only[go_sem]) ?_
       simp only[go_sem]
       refine zX [0,2,3] (by simp only[go_sem];rfl) ?_
       simp only[go_sem]
       refine zw ?_
       repeat (first|refine hr25 _ ?_|refine hr24 _ ?_|refine hr17 _ ?_|refine hr16 _ ?_|refine hr15 _ ?_|refine hr14 _ ?_|refine hr2 _ ?_|refine hr1 _ ?_)
       simp only[go_sem]
       rw[hres];rfl
     · have d61:decide ((a:Int)≠1)=true:=decide_eq_true (by omega)
       by_cases h62:a=2
       · have d62:decide ((a:Int)≠2)=false:=decide_eq_false (by omega)
         have hres:ZM l=(⟨i,a,b,[]⟩,0):=hpar.trans (if_neg (by omega))
         refine zc fun KY hKY=>?_
         simp only[go_sem,qd,d6,d61,d62]
         apply hKY
         refine yb ?_
         refine zA ?_
         repeat (first|refine hn25 _ ?_|refine he25 _ _ ?_|refine hn24 _ ?_|refine he24 _ _ ?_|refine hn17 _ ?_|refine he17 _ _ ?_|refine he16 _ _ ?_|refine hn15 _ ?_|refine he15 _ ?_|refine hf15 _ _ (by decide) ?_|refine hn14 _ ?_|refine he14 _ _ ?_|refine hn2 _ ?_|refine he2 _ _ ?_|refine hn1 _ ?_|refine he1 _ _ ?_)
         refine zc fun KY hKY=>?_
         simp only[go_sem,QB]
         apply hKY
         refine Z7 [0,2,3] 1 (by simp only[go_sem]) ?_
         simp only[go_sem]
         refine zX [0,2,3] (by simp only[go_sem];rfl) ?_
         simp only[go_sem]
         refine zw ?_
         repeat (first|refine hr25 _ ?_|refine hr24 _ ?_|refine hr17 _ ?_|refine hr16 _ ?_|refine hr15 _ ?_|refine hr14 _ ?_|refine hr2 _ ?_|refine hr1 _ ?_)
         simp only[go_sem]
         rw[hres];rfl
       · have d62:decide ((a:Int)≠2)=true:=decide_eq_true (by omega)
         have hres:ZM l=(⟨0,0,0,[]⟩,15):=hpar.trans (if_pos ⟨h6,h61,h62⟩)
         refine zc fun KY hKY=>?_
         simp only[go_sem,qd,d6,d61,d62]
         apply hKY
         refine QI ?_
         refine zc fun KY hKY=>?_
         simp only[go_sem,xr]
         apply hKY
         refine Z7 [0,2,3] 1 (by simp only[go_sem]) ?_
         simp only[go_sem]
         refine zX [0,2,3] (by simp only[go_sem];rfl) ?_
         simp only[go_sem]
         refine zw ?_
         repeat (first|refine hr25 _ ?_|refine hr24 _ ?_|refine hr17 _ ?_|refine hr16 _ ?_|refine hr15 _ ?_|refine hr14 _ ?_|refine hr2 _ ?_|refine hr1 _ ?_)
         simp only[go_sem]
         rw[hres];rfl
   · have d6:decide ((i:Int)=6)=false:=decide_eq_false (by omega)
     have hres:ZM l=(⟨i,a,b,[]⟩,0):=hpar.trans (if_neg (by omega))
     refine zc fun KY hKY=>?_
     simp only[go_sem,qd,d6]
     apply hKY
     refine yb ?_
     refine zA ?_
     repeat (first|refine hn25 _ ?_|refine he25 _ _ ?_|refine hn24 _ ?_|refine he24 _ _ ?_|refine hn17 _ ?_|refine he17 _ _ ?_|refine he16 _ _ ?_|refine hn15 _ ?_|refine he15 _ ?_|refine hf15 _ _ (by decide) ?_|refine hn14 _ ?_|refine he14 _ _ ?_|refine hn2 _ ?_|refine he2 _ _ ?_|refine hn1 _ ?_|refine he1 _ _ ?_)
     refine zc fun KY hKY=>?_
     simp only[go_sem,QB]
     apply hKY
     refine Z7 [0,2,3] 1 (by simp only[go_sem]) ?_
     simp only[go_sem]
     refine zX [0,2,3] (by simp only[go_sem];rfl) ?_
     simp only[go_sem]
     refine zw ?_
     repeat (first|refine hr25 _ ?_|refine hr24 _ ?_|refine hr17 _ ?_|refine hr16 _ ?_|refine hr15 _ ?_|refine hr14 _ ?_|refine hr2 _ ?_|refine hr1 _ ?_)
     simp only[go_sem]
     rw[hres];rfl
end Go.Proofs.YtneiihheeghdcaaDoor

namespace Go.Ga.Gl
open Go Go.Ga
def je (n:Nat):List UInt8:=if n<10 then [UInt8.ofNat (48+n)] else je (n / 10)++[UInt8.ofNat (48+n%10)]
termination_by n
decreasing_by omega
theorem JF {n:Nat}(h:n<10):je n=[UInt8.ofNat (48+n)]:=by rw[je,if_pos h]
theorem JG {n:Nat}(h:¬n<10):je n=je (n / 10)++[UInt8.ofNat (48+n%10)]:=by rw[je,if_neg h]
theorem dg (k:Nat)(h:k<10):(UInt8.ofNat (48+k)).toNat=48+k:=by simp;omega
theorem Yx (n:Nat):(je n).all QZ=true:=by
 induction n using Nat.strongRecOn with
 | _ n ih=>
   by_cases h:n<10
   · rw[JF h]
     simp only[List.all_cons,List.all_nil,Bool.and_true,QZ,dg n h]
     simp;omega
   · rw[JG h,List.all_append,ih _ (by omega)]
     have:=dg (n%10) (by omega)
     simp only[List.all_cons,List.all_nil,Bool.and_true,Bool.true_and,QZ,this]
     simp;omega
theorem VQ (n:Nat):val (je n)=n:=by
 induction n using Nat.strongRecOn with
 | _ n ih=>
   by_cases h:n<10
   · rw[JF h]
     show 10*0+((UInt8.ofNat (48+n)).toNat - 48)=n
     rw[dg n h];omega
   · rw[JG h,Qb,ih _ (by omega),dg (n%10) (by omega)];omega
theorem Qw (n:Nat):∀k,(je n).length≤k+1↔n<10^(k+1):=by
 induction n using Nat.strongRecOn with
 | _ n ih=>
   intro k
   by_cases h:n<10
   · rw[JF h]
     have:10^1≤10^(k+1):=Nat.pow_le_pow_right (by omega) (by omega)
     simp;omega
   · rw [JG h,List.length_append]
     cases k with
     | zero=>
       have h2:1≤(je (n / 10)).length:=by
        by_cases h3:n / 10<10
        · rw[JF h3];simp
        · rw[JG h3];simp
       rw[show(10:Nat)^(0+1)=10 from rfl]
       simp only[List.length_cons,List.length_nil]
       omega
     | succ k=>
       have:=ih (n / 10) (by omega) k
       rw[Nat.pow_succ]
       simp only[List.length_cons,List.length_nil]
       omega
theorem Yw (n:Nat):1≤(je n).length:=by
 by_cases h3:n<10
 · rw[JF h3];simp
 · rw[JG h3];simp
theorem UG (n:Nat)(h:1≤n):(je n).getD 0 0≠48:=by
 induction n using Nat.strongRecOn with
 | _ n ih=>
   by_cases h3:n<10
   · rw[JF h3]
     intro e
     have:=congrArg UInt8.toNat (show UInt8.ofNat (48+n)=48 from e)
     rw[dg n h3] at this
     have h48:(48:UInt8).toNat=48:=rfl
     omega
   · rw[JG h3]
     have hp:=Yw (n / 10)
     have:=ih (n / 10) (by omega) (by omega)
     rw[List.getD_eq_getElem?_getD,List.getElem?_append_left hp]
     rwa [List.getD_eq_getElem?_getD] at this
theorem Vo (n:Nat):jd (je n)=if n<1000000000 then some n else none:=by
 have h1:=Yw n
 have h2:=Qw n 8
 unfold jd
 by_cases h:n<1000000000
 · rw[if_pos h,if_neg,VQ]
   rintro(h3|h3|⟨h3,h4⟩|h3)
   · omega
   · omega
   · have h5:=Qw n 0
     exact UG n (by omega) h4
   · rw[Yx] at h3;cases h3
 · rw[if_neg h,if_pos]
   refine .inr (.inl ?_)
   omega
theorem W4 (n:Nat):jd (48::je n)=none:=by
 have h1:=Yw n
 unfold jd
 rw[if_pos]
 exact .inr (.inr (.inl ⟨by simp;omega,rfl⟩))
theorem VP {b:UInt8}(h:QZ b=true):b≠32:=by
 intro e;subst e;revert h;decide
theorem Xt {l:List UInt8}(h:l.all QZ=true):zJ 32 l=[l]:=
 JW (List.count_eq_zero.2 fun hm=>VP (List.all_eq_true.1 h _ hm) rfl)
theorem yh :∀(w r:List UInt8),w.all (fun b=>decide (b≠32))=true→zJ 32 (w++32::r)=w::zJ 32 r
 |[],r,_=>by show zJ 32 (32::r)=_;rw[jQ,if_pos rfl]
 | b::w,r,h=>by
   rw[List.all_cons,Bool.and_eq_true,decide_eq_true_iff] at h
   show zJ 32 (b::(w++32::r))=_
   rw[jQ,if_neg h.1,yh w r h.2]
theorem wv (w:List UInt8)(hw:w.all QZ=true)(hl:w.length≤1000):ZM ([99,117,116,32]++w)=match jd w with
    |none=>(⟨0,0,0,[]⟩,15)
    |some n=>(⟨5,n,0,[]⟩,0):=by
  have h1:zJ 32 ([99,117,116,32]++w)=[[99,117,116],w]:=by
    have:=yh [99,117,116] w (by decide)
    rw[Xt hw] at this
    exact this
  unfold ZM
  rw[if_neg (by simp;omega),h1]
  have h2:wH.findIdx? (hit (([[99,117,116],w]:List (List UInt8)).headD []))=some 5:=by
    show wH.findIdx? (hit [99,117,116])=some 5
    decide
  rw[h2]
  show(if 0≤(1:Int)∧((2:Nat):Int)≠1+1 then _ else _)=_
  rw[if_neg (by omega)]
  show(match(match jd w with|none=>none|some n=>some [n]) with|none=>_|some ns=>_)=_
  cases jd w with
  |none=>rfl
  | some n=>
    show(if(1:Int)<0 then _ else if 5=6∧_ then _ else _)=_
    rw[if_neg (by omega),if_neg (by omega)]
    rfl
end Go.Ga.Gl
namespace Go.Proofs.YtneiihheeghdcaaDoor
open Go Go.Ga Go.Ga.Gl
theorem YQ :zF Tryd.prog [] Ku [] [] fun r h'=>r= .sc (.bool true)∧h'=[]:=by
 have hP:=y4 [97,100,100,32,49,32,50] (by decide)
 rw[show ZM [97,100,100,32,49,32,50]=(⟨2,1,2,[]⟩,0) by kernel_rfl] at hP
 unfold Ge.cells at hP
 simp only at hP
 refine gg rfl ?_
 unfold KH yI
 refine zc fun KY hKY=>?_
 simp only[go_sem,x9]
 apply hKY
 refine zc fun KY hKY=>?_
 simp only[go_sem,x8]
 apply jp [] [] false none rfl
 iterate 8 (first|(simp only[go_sem,zQ]<;>rfl)|rfl)
 refine(hP).mono ?_
 rintro _ _ ⟨rfl,rfl⟩
 refine⟨Nat.le_of_ble_eq_true rfl,(fun hh=>by cases hh),?_⟩
 simp only[go_sem,ZJ,zb.after]
 apply hKY
 refine zc fun KY hKY=>?_
 simp only[go_sem,x7]
 apply hKY
 refine zw ?_
 simp only[go_sem]
theorem xp (n q m:Nat)(ds:List UInt8)(t1:IntKind.i64.wrap ((n:Int).tdiv 10)=(q:Int))(t2:(n:Int).tmod 10=(m:Int))(h:¬n<10)(hm:m<10)(ha:jt .add (Z0 ds) (Z0 [UInt8.ofNat (48+m)])=some (.string (Z0 (ds++[UInt8.ofNat (48+m)]))))
    (hD:zF Tryd.prog [] W7 [.sc (.int .i64 (q:Int))] [] fun r h'=>r= .sc (.string (Z0 ds))∧h'=[]):zF Tryd.prog [] W7 [.sc (.int .i64 (n:Int))] [] fun r h'=>r= .sc (.string (Z0 (ds++[UInt8.ofNat (48+m)])))∧h'=[]:=by
  have d:decide ((n:Int)<10)=false:=decide_eq_false (by omega)
  have w1:IntKind.i64.wrap (48+(m:Int))=((48+m:Nat):Int):=by rw[IntWalk.i64_in _ (by omega)];omega
  have w2:IntKind.u8.wrap ((48+m:Nat):Int)=((48+m:Nat):Int):=by
    unfold IntKind.wrap;simp[IntKind.bits,IntKind.signed];omega
  have hu:Xj [.sc (.int .u8 ((48+m:Nat):Int))]=some [UInt8.ofNat (48+m)]:=by
    unfold Xj Xj
    rw[if_pos (by omega)];rfl
  generalize UInt8.ofNat (48+m)=b at ha hu⊢
  generalize 48+m=k at w1 w2 hu
  refine VK rfl ?_
  unfold V3 qC
  refine zc fun KY hKY=>?_
  simp only[go_sem,YM]
  apply hKY
  refine zi fun X1 hn1 he1 hr1=>?_
  refine zc fun KY hKY=>?_
  simp only[go_sem,YL,d]
  apply hKY
  refine yb ?_
  refine zA ?_
  repeat (first|refine hn1 _ ?_|refine he1 _ _ ?_)
  refine ZY fun KY hKY=>?_
  simp only[go_sem,x5,t1,t2,w1,w2,hu,ha]
  refine⟨?_,?_⟩
  · refine zL rfl (by simp only[go_sem]<;>rfl) ((hD).mono ?_)
    rintro rr hh ⟨rfl,rfl⟩
    refine⟨rfl,rfl,rfl,?_⟩
    simp only[go_sem,hu,ha]
    apply hKY
    refine zw ?_
    repeat (first|refine hr1 _ ?_)
    simp only[go_sem]
  · refine zL rfl (by simp only[go_sem]<;>rfl) ((hD).mono ?_)
    rintro rr hh ⟨rfl,rfl⟩
    refine⟨rfl,rfl,rfl,?_⟩
    simp only[go_sem,hu,ha]
    apply hKY
    refine zw ?_
    repeat (first|refine hr1 _ ?_)
    simp only[go_sem]
theorem uc (n:Nat)(h:n<10):zF Tryd.prog [] W7 [.sc (.int .i64 (n:Int))] [] fun r h'=>r= .sc (.string (Z0 [UInt8.ofNat (48+n)]))∧h'=[]:=by
 have d:decide ((n:Int)<10)=true:=decide_eq_true (by omega)
 have w1:IntKind.i64.wrap (48+(n:Int))=((48+n:Nat):Int):=by rw[IntWalk.i64_in _ (by omega)];omega
 have w2:IntKind.u8.wrap ((48+n:Nat):Int)=((48+n:Nat):Int):=by
  unfold IntKind.wrap;simp[IntKind.bits,IntKind.signed];omega
 have hu:Xj [.sc (.int .u8 ((48+n:Nat):Int))]=some [UInt8.ofNat (48+n)]:=by
  unfold Xj Xj
  rw[if_pos (by omega)];rfl
 refine VK rfl ?_
 unfold V3 qC
 refine zc fun KY hKY=>?_
 simp only[go_sem,YM]
 apply hKY
 refine zi fun X1 hn1 he1 hr1=>?_
 refine zc fun KY hKY=>?_
 simp only[go_sem,YL,d]
 apply hKY
 refine QI ?_
 refine zc fun KY hKY=>?_
 simp only[go_sem,x6,w1,w2,hu]
 apply hKY
 refine zw ?_
 repeat (first|refine hr1 _ ?_)
 simp only[go_sem]
theorem UF (n:Nat)(hn:n≤2000000000):zF Tryd.prog [] W7 [.sc (.int .i64 (n:Int))] [] fun r h'=>r= .sc (.string (Z0 (je n)))∧h'=[]:=by
 induction n using Nat.strongRecOn with
 | _ n ih=>
   by_cases h:n<10
   · rw[JF h];exact uc n h
   · rw[JG h]
     refine xp n (n / 10) (n%10) _ ?_ rfl h (by omega) (uo ?_) (ih _ (by omega) (by omega))
     · rw[show(n:Int).tdiv 10=((n / 10:Nat):Int) from rfl,IntWalk.i64_in _ (by omega)]
     · have hlen:(je (n / 10)).length≤19:=(Qw (n / 10) 18).2 (by omega)
       simp;omega
theorem gC (x:Int)(k:Nat)(hk:0<k)(hk2:k≤4611686018427387904):∃n:Nat,n<k∧IntKind.i64.wrap ((IntKind.u64.wrap x).tmod (k:Int))=(n:Int):=by
 have h0:0≤IntKind.u64.wrap x:=by
  unfold IntKind.wrap;simp[IntKind.bits,IntKind.signed];omega
 obtain⟨u,hu⟩:=Int.eq_ofNat_of_zero_le h0
 rw[hu]
 refine⟨u%k,Nat.mod_lt _ hk,?_⟩
 have:((u:Int)).tmod (k:Int)=((u%k:Nat):Int):=rfl
 have:=Nat.mod_lt u hk
 rw[‹((u:Int)).tmod (k:Int)=((u%k:Nat):Int)›,IntWalk.i64_in _ (by omega)]
theorem wq (l m:List UInt8)(h:l.length+m.length≤1000):jt .add (Z0 l) (Z0 m)=some (.string (Z0 (l++m))):=uo (by omega)
theorem xb (x:Int):zF Tryd.prog [] gJ [.sc (.int .i64 x)] [] fun r h'=>r= .sc (.bool true):=by
 obtain⟨n,hn,hx⟩:=gC x 2000000000 (by decide) (by decide)
 rw[show((2000000000:Nat):Int)=2000000000 from rfl] at hx
 have hl:(je n).length≤19:=(Qw n 18).2 (by omega)
 have hD:=UF n (by omega)
 have p1:=wv (je n) (Yx n) (by omega)
 have p2:=wv (48::je n) (by rw[List.all_cons,Yx];decide) (by simp;omega)
 rw[W4] at p2
 rw[Vo] at p1
 have q1:=y4 ([99,117,116,32]++je n) (by simp;omega)
 have q2:=y4 ([99,117,116,32]++(48::je n)) (by simp;omega)
 rw[p1] at q1
 rw[p2] at q2
 have a1:=wq [99,117,116,32] (je n) (by simp;omega)
 have a2:jt .add (Z0 [99,117,116,32,48]) (Z0 (je n))=some (.string (Z0 ([99,117,116,32]++(48::je n)))):=wq [99,117,116,32,48] (je n) (by simp;omega)
 clear p1 p2
 generalize [99,117,116,32]++(48::je n)=l2 at q2 a2
 generalize [99,117,116,32]++je n=l1 at q1 a1
 generalize je n=ds at hD a1 a2
 unfold Ge.cells at q1 q2
 simp only at q1 q2
 by_cases hb:n<1000000000
 · rw[if_pos hb] at q1
   have d1:decide (999999999<(n:Int))=false:=decide_eq_false (by omega)
   refine Kw rfl ?_
   unfold gr qN
   refine zc fun KY hKY=>?_
   simp only[go_sem,Wy]
   apply hKY
   refine zc fun KY hKY=>?_
   simp only[go_sem,Wx,hx]
   apply hKY
   refine zc fun KY hKY=>?_
   simp only[go_sem,Ww]
   refine zL rfl (by simp only[go_sem]<;>rfl) ((hD).mono ?_)
   rintro rr hh ⟨rfl,rfl⟩
   refine⟨rfl,rfl,rfl,?_⟩
   simp only[go_sem,a1]
   apply jp [] [] false none rfl
   iterate 8 (first|(simp only[go_sem,zQ]<;>rfl)|rfl)
   refine(q1).mono ?_
   rintro _ _ ⟨rfl,rfl⟩
   refine⟨Nat.le_of_ble_eq_true rfl,(fun hh=>by cases hh),?_⟩
   simp only[go_sem,ZJ,zb.after]
   apply hKY
   refine zc fun KY hKY=>?_
   simp only[go_sem,Wv]
   refine zL rfl (by simp only[go_sem]<;>rfl) ((hD).mono ?_)
   rintro rr hh ⟨rfl,rfl⟩
   refine⟨rfl,rfl,rfl,?_⟩
   simp only[go_sem,a2]
   apply jp [] [] false none rfl
   iterate 8 (first|(simp only[go_sem,zQ]<;>rfl)|rfl)
   refine(q2).mono ?_
   rintro _ _ ⟨rfl,rfl⟩
   refine⟨Nat.le_of_ble_eq_true rfl,(fun hh=>by cases hh),?_⟩
   simp only[go_sem,ZJ,zb.after]
   apply hKY
   refine zi fun X1 hn1 he1 hr1=>?_
   refine zc fun KY hKY=>?_
   simp only[go_sem,Wu,d1]
   apply hKY
   refine yb ?_
   refine zA ?_
   repeat (first|refine hn1 _ ?_|refine he1 _ _ ?_)
   refine zc fun KY hKY=>?_
   simp only[go_sem,uK]
   refine zL rfl (by simp only[go_sem]<;>rfl) ((YQ).mono ?_)
   rintro rr hh ⟨rfl,rfl⟩
   refine⟨rfl,rfl,rfl,?_⟩
   simp only[go_sem]
   apply hKY
   refine zw ?_
   repeat (first|refine hr1 _ ?_)
   simp only[go_sem]
 · rw[if_neg hb] at q1
   have d1:decide (999999999<(n:Int))=true:=decide_eq_true (by omega)
   refine Kw rfl ?_
   unfold gr qN
   refine zc fun KY hKY=>?_
   simp only[go_sem,Wy]
   apply hKY
   refine zc fun KY hKY=>?_
   simp only[go_sem,Wx,hx]
   apply hKY
   refine zc fun KY hKY=>?_
   simp only[go_sem,Ww]
   refine zL rfl (by simp only[go_sem]<;>rfl) ((hD).mono ?_)
   rintro rr hh ⟨rfl,rfl⟩
   refine⟨rfl,rfl,rfl,?_⟩
   simp only[go_sem,a1]
   apply jp [] [] false none rfl
   iterate 8 (first|(simp only[go_sem,zQ]<;>rfl)|rfl)
   refine(q1).mono ?_
   rintro _ _ ⟨rfl,rfl⟩
   refine⟨Nat.le_of_ble_eq_true rfl,(fun hh=>by cases hh),?_⟩
   simp only[go_sem,ZJ,zb.after]
   apply hKY
   refine zc fun KY hKY=>?_
   simp only[go_sem,Wv]
   refine zL rfl (by simp only[go_sem]<;>rfl) ((hD).mono ?_)
   rintro rr hh ⟨rfl,rfl⟩
   refine⟨rfl,rfl,rfl,?_⟩
   simp only[go_sem,a2]
   apply jp [] [] false none rfl
   iterate 8 (first|(simp only[go_sem,zQ]<;>rfl)|rfl)
   refine(q2).mono ?_
   rintro _ _ ⟨rfl,rfl⟩
   refine⟨Nat.le_of_ble_eq_true rfl,(fun hh=>by cases hh),?_⟩
   simp only[go_sem,ZJ,zb.after]
   apply hKY
   refine zi fun X2 hn2 he2 hr2=>?_
   refine zc fun KY hKY=>?_
   simp only[go_sem,Wu,d1]
   apply hKY
   refine QI ?_
   refine zc fun KY hKY=>?_
   simp only[go_sem,uL]
   refine zL rfl (by simp only[go_sem]<;>rfl) ((YQ).mono ?_)
   rintro rr hh ⟨rfl,rfl⟩
   refine⟨rfl,rfl,rfl,?_⟩
   simp only[go_sem]
   apply hKY
   refine zw ?_
   repeat (first|refine hr2 _ ?_)
   simp only[go_sem]
theorem QU (As:List za)(b:Nat)(h:Kf Tryd.prog Tryd.f4.params.toList As b)(hb:b≤1048576):zF Tryd.prog [] 4 As [] fun r _=>r= .sc (.bool true):=by
 rw[Tryd.params4] at h
 obtain⟨A1,As1,c1,d1,rfl,rfl,h1,h⟩:=vP h
 obtain rfl:=kL h
 obtain⟨x1,rfl,w1⟩:=KV Tryd.underlying3 h1
 exact(xb x1).mono fun _ _ h=>h
end Go.Proofs.YtneiihheeghdcaaDoor
namespace Go.Proofs.YtneiihheeghdcaaDoor.linesNumbersend
open Go Go.Ga Go.ChangeShapes Go.WideShapes Go.ChangeAt Go.RowKit
theorem own :ownKnob Tryd.prog.godebug=none:=by kernel_rfl
mutual
theorem yH {H:Type}:∀d:DataW H,Rows.uptoBulk d=Z5 d
 | .lit l=>by cases l<;>simp[Rows.uptoBulk,Z5]
 | .nil=>by simp[Rows.uptoBulk,Z5]
 | .ptr d=>by simp[Rows.uptoBulk,Z5,yH d]
 | .slice e s=>by simp[Rows.uptoBulk,Z5,bulk_eq e,bulk_eq s]
 | .agg p=>by simp[Rows.uptoBulk,Z5,bulk_eq p]
 | .iface _ d=>by simp[Rows.uptoBulk,Z5,yH d]
 | .map e=>by simp[Rows.uptoBulk,Z5,bulk_es e]
 | .held _=>by simp[Rows.uptoBulk,Z5]
theorem bulk_eq {H:Type}:∀l:List (DataW H),Rows.uptoBulkAll l=bulkL l
 |[]=>by simp[Rows.uptoBulkAll,bulkL]
 |d::r=>by simp[Rows.uptoBulkAll,bulkL,yH d,bulk_eq r]
theorem bulk_es {H:Type}:∀l:List (Lit×DataW H),Rows.uptoBulkEntries l=bulkE l
 |[]=>by simp[Rows.uptoBulkEntries,bulkE]
 |d::r=>by simp[Rows.uptoBulkEntries,bulkE,bulk_e d,bulk_es r]
theorem bulk_e {H:Type}:∀d:Lit×DataW H,Rows.uptoBulkEntry d=bulk1 d
 |(l,d)=>by cases l<;>simp[Rows.uptoBulkEntry,bulk1,yH d]
end
set_option maxRecDepth 100000 in
theorem plain :wU Tryd.prog [3]:=Vg (by kernel_rfl)
set_option maxRecDepth 100000 in
theorem VU (H:Type)(enc:TypeId×Value→H)(W:World)(base:Nat)(args:Array Value)(ds gs:List (DataW H))(before:List MemPlace)
    (hval:∀(j:Nat) t v,Tryd.f4.params[j]?=some t→args[j]?=some v→Value.okWide Tryd.prog W .any base t v)
    (hW:DataW.Whole enc Tryd.prog Tryd.f4.params.toList Rows.linesNumbersSpec.vars false W args.toList ds gs before) (hk:Rows.uptoSmall H (ds++gs)=true):
    Calls Tryd.prog 4 args W fun e W'=>∃v,e= .returned v∧Rows.linesNumbersSpec.post enc Tryd.prog Tryd.f4 false true false false W args v W':=by
  have hW':=hW
  obtain⟨p,q,hA,hV,rfl,hfz,hnd⟩:=hW
  obtain⟨rfl,rfl⟩:=Go.Ga.Jp hV
  have hb:bulkL (ds++[])≤1048576:=by rw[←bulk_eq];exact of_decide_eq_true hk
  have r0:DataW.TrodAll enc Tryd.prog W 0 (fun _=>true) true Tryd.f4.params.toList args.toList ds p:=hA
  rw[Tryd.params4] at r0
  obtain⟨v0,vs0,d0,ds0,p0,q0,hv0,rfl,rfl,h0,r1⟩:=trodAll_cons r0
  obtain⟨rfl,rfl,rfl⟩:=trodAll_nil r1
  exact Y8 plain hval (by rw[Tryd.params4];decide) hW' rfl rfl rfl rfl (tb:=4) (by kernel_rfl) Tryd.underlying4 hb QU
mutual
def flat :DataW Unit→List Value
 | .lit l=>[l.value]
 | .agg p=>flatL p
 |_=>[]
def flatL :List (DataW Unit)→List Value
 |[]=>[]
 |d::r=>flat d++flatL r
end
def gF (l:List Value):Obj→Obj
 | .cells _ t frozen=> .cells l.toArray t frozen
 |o=>o
noncomputable def QV (os:Os):World:=
 {World.holding Tryd.prog os ⟨#[], #[],[]⟩ with heap:=((World.holding Tryd.prog os ⟨#[], #[],[]⟩).heap.modify 2 (gF (flat Rows.laid_unicode_utf8_first))).modify 3 (gF (flat Rows.laid_unicode_utf8_acceptRanges))}
theorem Vw (os:Os):laidMet Tryd.prog Rows.linesNumbersUptoRow.laid ((QV os).forCall (fun _ _=>0) ⟨#[], #[.int .i64 0],[]⟩).memory:=
 laidMet_of_run' 8 (by kernel_rfl) (by kernel_rfl)
theorem gE (os:Os){H:Type}(enc:TypeId×Value→H):∃places,DataW.whole enc Tryd.prog ((QV os).forCall (fun _ _=>0) ⟨#[], #[.int .i64 0],[]⟩).memory Tryd.f4.params.toList Rows.linesNumbersSpec.vars false (#[.int .i64 0]:Array Value).toList 8=some ([.lit (.int .i64 0)],[],places):=
 ⟨[],by kernel_rfl⟩
set_option maxRecDepth 100000 in
theorem K3 (os:Os)(started:os.Started)(H:Type)(enc:TypeId×Value→H)(F:Stop.Interp):
    ReturnsInHanded {} Tryd.checked os 4 .any ((Rows.OpenSpec.upto Rows.linesNumbersSpec).preRow enc Tryd.prog Tryd.f4 Rows.linesNumbersUptoRow.domain false Rows.linesNumbersUptoRow.laid) (((Rows.OpenSpec.upto Rows.linesNumbersSpec).at F).post enc Tryd.prog Tryd.f4 false true false false):=by
  obtain⟨places,hx⟩:=gE os enc
  refine returnsInHanded_of_row (C:=Tryd.checked) (s:=Rows.OpenSpec.upto Rows.linesNumbersSpec) own started (by kernel_rfl) Tryd.func4
    (witness_row_at (enc:=enc) (C:=Tryd.checked) false (QV os) #[.int .i64 0] rfl (by kernel_rfl) (by kernel_rfl) (by kernel_rfl)
      (OpenSpec.preRow_of_cond 8 hx (by kernel_rfl) (fun k hk=>by cases hk;kernel_rfl) (by kernel_rfl) (Vw os))) ?_
  intro W base args ds gs before hval hW _ hcond _ _ _ _
  exact VU H enc W base args ds gs before hval hW (hcond _ rfl)
theorem vQ :Rows.LinesNumbersUptoSaid:=
 OpenClaim.holds_of_cond 4 Tryd.f4 rfl rfl rfl rfl rfl rfl rfl ⟨rfl,rfl,rfl,rfl,rfl⟩ rfl rfl rfl rfl rfl (by kernel_rfl) Tryd.func4 (by kernel_rfl)
  (of_decide_eq_true (by kernel_rfl)) (by unfold Func.isWrapper;first|(rw[if_pos (by decide+kernel)];kernel_rfl)|(rw[if_neg (by decide+kernel)];exact⟨rfl,rfl⟩))
  (fun os started H enc _ F=>by rw[OpenClaim.pre_eq_preRow];exact K3 os started H enc F)
theorem gD (f : FuncId) (fn : Func) (hf : Tryd.pinned.checked.prog.funcNamed "garland/garlandlaw26.LinesNumbers" = some f) (hfn : Tryd.pinned.checked.prog.funcs[f]? = some fn) :
    false=Tryd.pinned.checked.prog.looks []∧∀(j:Nat) t,fn.params[j]?=some t→Tryd.pinned.checked.prog.wantsStandIn t=false:=by
  obtain rfl : f = 4 := Option.some.inj ((show Tryd.prog.funcNamed "garland/garlandlaw26.LinesNumbers" = some 4 by kernel_rfl).symm.trans hf) |>.symm
  obtain rfl:fn=Tryd.f4:=(Option.some.inj (Tryd.func4.symm.trans hfn)).symm
  refine⟨by kernel_rfl,fun j t ht=>?_⟩
  have h:(Tryd.f4.params.toList.all fun t=> !Tryd.prog.wantsStandIn t)=true:=by kernel_rfl
  have:=List.all_eq_true.1 h t (by rw[Array.mem_toList_iff];exact Array.mem_of_getElem? ht)
  have h2:Tryd.prog.wantsStandIn t=false:=by simpa using this
  exact h2
theorem holds :Rows.LinesNumbersUptoCardSaid:=
 Claim7.holds_tied_plain_at .later [] _ _ _ _ vQ (fun _ h=>by cases h) (by kernel_rfl) (fun _ h=>by cases h) linesNumbersUpto_row_tie rfl ⟨rfl,rfl⟩ (by kernel_rfl) rfl gD (by kernel_rfl)
end Go.Proofs.YtneiihheeghdcaaDoor.linesNumbersend
