/- Lines, put one behind the other, are cut again, whether the last one xX or not; empty ones, too. -/
import Derived.Test.YtneiihheeghdcaaDoorRows
import Derived.Test.YtneiihheeghdcaaDoorGjeccma5
import Derived.Shelf.Strings.Search1
import Derived.Shelf.Strings.Count
import Derived.Shelf.Bytes.IndexByte
import Derived.Shelf.Bytes.SlIndexAt
import Derived.Lib.Bytealg
import Derived.WalkKit
import Derived.ProofKit
import Derived.OpenShut
import Derived.JoinedCond
import Derived.Test.YtneiihheeghdcaaDoorCards
import Derived.Test.YtneiihheeghdcaaDoorTie
import Derived.Deep.DeepHandedRow
import Derived.Lib.LaidTab
set_option linter.all false

namespace Go.Proofs.YtneiihheeghdcaaDoor
open Go Go.Ga
theorem mix :Tryd.prog.follows .mixedOrders=true:=by kernel_rfl
def UR :List zj:=[oO 4]
def WY :List zj:=[oM 10 0,oE 11 10,oB 12 .gtr 11 40]
def UQ :List zj:=[(none,.call 13 (.f 10) []),oS 4 13]
def UP :List zj:=[(none,.asg 5 (.c (.string ⟨#[]⟩)) true)]
def UO :List zj:=[oZ 6]
def UN :List zj:=[oI 7 0]
def WX :List zj:=[oM 14 7,oM 15 0,oE 16 15,oD 17 .lss 14 16]
def UM :List zj:=[(none,.asg 8 (.c (.string ⟨#[]⟩)) true)]
def UL :List zj:=[oI 9 0]
def yT :List zj:=[oM 20 9,oM 21 0,oM 22 7,oX 23 21 22 1,oL 24 23 1,(none,.r (.lenS 25 (.t 24))),oD 26 .lss 20 25,oM 27 26,oK 27 true 28 9,Uw 27 true 29 .lss 28 60,oP 30 27 29]
def YU :List zj:=[oM 33 0,oM 34 7,oX 35 33 34 1,oL 36 35 1,oM 37 9,(none,.r (.idxS 38 (.t 36) (.t 37))),(none,.r (.bin 39 .neq 0 (.t 38) (.c (.int .u8 10))))]
def Xc :List zj:=[oM 40 8,oM 41 0,oM 42 7,oX 43 41 42 1,oL 44 43 1,oM 45 9,oM 46 9,oB 47 .add 46 1,(none,.r (.slc 48 (.t 44) (some (.t 45)) (some (.t 47)) 0)),oD 49 .add 40 48,oS 8 49]
def YT :List zj:=[oM 31 9,oB 32 .add 31 1,oS 9 32]
def Xb :List zj:=[oM 50 6,oM 51 8,(none,.blds 52 1 1 [((0,1),(.t 51,true))] [.string ⟨#[]⟩]),(none,.app 53 (.t 50) (.t 52) 1 16),oS 6 53]
def Xa :List zj:=[oM 54 5,oM 55 8,oD 56 .add 54 55,(none,.r (.bin 57 .add 0 (.t 56) (.c (.string ⟨#[10]⟩)))),oS 5 57]
def x9 :List zj:=[oM 18 7,oB 19 .add 18 1,oS 7 19]
def qp :List zj:=[oM 58 1,(none,.r (.notb 59 (.t 58))),oM 60 59,oK 60 true 61 6,(some (60,true),.r (.len 62 (.t 61))),Uw 60 true 63 .gtr 62 0,oP 64 60 63,oM 65 64,oK 65 true 66 6,oK 65 true 67 6,(some (65,true),.r (.len 68 (.t 67))),Uw 65 true 69 .sub 68 1,(some (65,true),
 .r (.idxA 70 (.t 66) (.t 69) 1)),uT 65 true 71 70 1,(some (65,true),.r (.bin 72 .neq 0 (.t 71) (.c (.string ⟨#[]⟩)))),oP 73 65 72]
def x8 :List zj:=[oM 74 5,oM 75 5,(none,.r (.lenS 76 (.t 75))),oB 77 .sub 76 1,(none,.r (.slc 78 (.t 74) none (some (.t 77)) 0)),oS 5 78]
def qo :List zj:=[(none,.call 79 (.f 10) []),oM 80 79,oK 80 true 81 5,(some (80,true),.s2b 82 (.t 81)),(some (80,true),.call 83 (.f 13) [(.t 82,false)]),oK 80 true 84 6,(some (80,true),.call 85 (.f 12) [(.t 83,false),(.t 84,false)]),oP 86 80 85,oS 4 86]
def ZH :List Nat:=[0,1,4,5,6,7,8,9,12,17,30,39,73]
def Px :zU:=.seq (.reg ZH UR ZH) (.seq (.seq (.reg [0,1,4,5,6,7,8,9,17,30,39,73] WY ZH) (.cond (.t 12) (.seq (.reg ZH UQ ZH) .ret) .skip)) (.seq (.reg ZH UP ZH) (.seq (.reg ZH UO ZH) (.seq (.seq (.reg ZH UN ZH) (.blk 0 (.loop (.seq (.seq (.reg [0,
 1,4,5,6,7,8,9,12,30,39,73] WX ZH) (.cond (.t 17) .skip (.exit 0))) (.seq (.blk 1 (.seq (.reg ZH UM ZH) (.seq (.seq (.reg ZH UL ZH) (.blk 2 (.loop (.seq (.seq (.reg [0,
 1,4,5,6,7,8,9,12,17,39,73] yT ZH) (.cond (.t 30) .skip (.exit 2))) (.seq (.blk 3 (.seq (.reg [0,1,4,5,6,7,8,9,12,17,30,73] YU ZH) (.cond (.t 39) (.reg ZH Xc ZH) .skip))) (.reg ZH YT ZH)))))) (.seq (.reg ZH Xb ZH) (.reg ZH Xa ZH))))) (.reg ZH x9 ZH)))))) (.seq (.seq (.reg [0,
 1,4,5,6,7,8,9,12,17,30,39] qp ZH) (.cond (.t 73) (.reg ZH x8 ZH) .skip)) (.seq (.reg ZH qo ZH) .ret))))))
abbrev pr :Nat:=6
theorem Po :W7 Tryd.prog Tryd.f6.ntmps 2 [4] ZH [(.tmp 4)] Px pr:=xS mix Tryd.func6 (by kernel_rfl) rfl
def UK :List zj:=[(none,.alloc 2 [.int .i64 0,.int .i64 0,.int .i64 0,.slice none 0 0]),oI 3 0]
def WW :List zj:=[oM 13 0,(none,.r (.lenS 14 (.t 13))),oB 15 .gtr 14 65536]
def UJ :List zj:=[(none,.bld 16 [] [.int .i64 0,.int .i64 0,.int .i64 0,.slice none 0 0]),oW 2 16 4,oI 3 8]
def UI :List zj:=[oM 17 0,(none,.call 18 (.f 23) [(.t 17,false),(.c (.string ⟨#[32]⟩),false)]),(none,.bld 19 [((0,1),(.t 18,true))] [.slice none 0 0]),(none,.box 20 (.t 19)),(none,.alloc 4 [.pointer none]),oW 4 20 1]
def UH :List zj:=[(none,.call 21 (.f 24) []),(none,.alloc 5 [.string ⟨#[]⟩,.int .i64 0,.string ⟨#[]⟩,.int .i64 0,.string ⟨#[]⟩,.int .i64 0,.string ⟨#[]⟩,.int .i64 0,.string ⟨#[]⟩,.int .i64 0,.string ⟨#[]⟩,.int .i64 0,.string ⟨#[]⟩,.int .i64 0,.string ⟨#[]⟩,.int .i64 0,.string ⟨#[]⟩,.int .i64 0,
 .string ⟨#[]⟩,.int .i64 0,.string ⟨#[]⟩,.int .i64 0,.string ⟨#[]⟩,.int .i64 0,.string ⟨#[]⟩,.int .i64 0,.string ⟨#[]⟩,.int .i64 0,.string ⟨#[]⟩,.int .i64 0]),oW 5 21 30]
def UG :List zj:=[(none,.r (.slc 22 (.t 5) none (some (.c (.int .i64 15))) 2)),(none,.mkfn 23 (.func 26) [] [(.t 4,false)]),wU 24 25 22 23,oS 6 24]
def QK :ZU:=.take [1,2,3,4,5,6,7,8,9,10,11,12,13,14,15,16,17,18,19,20,21] (oM 25 6) (.take [2,3,4,5,6,7,8,9,10,11,12,13,14,15,16,17,18,19,20,21] (oB 26 .lss 25 0) (.take [3,4,5,6,7,8,9,10,11,12,13,14,15,16,17,18,19,20,21] (oM 27 26) (.take [4,5,6,7,8,9,10,11,12,13,14,15,16,17,18,19,
 20,21] (oK 27 false 28 6) (.take [5,6,7,8,9,10,11,12,13,14,15,16,17,18,19,20,21] (some (27,false),.r (.idxP 29 (.t 5) (.t 28) 15 2)) (.take [6,7,8,9,10,11,12,13,14,15,16,17,18,19,20,21] (some (27,false),.r (.fldA 30 (.t 29) 1)) (.take [7,8,9,10,11,12,13,14,15,16,17,18,19,20,21] (uT 27 false 31 30 1) (.take [8,
 9,10,11,12,13,14,15,16,17,18,19,20,21] (Uw 27 false 32 .geq 31 0) (.take [9,10,11,12,13,14,15,16,17,18,19,20,21] (oK 27 false 33 32) (.take [10,11,12,13,19,20,21] (uT 33 true 34 4 1) (.take [11,12,13,19,20,21] (some (33,true),.r (.nilck 35 (.t 34))) (.take [12,13,19,20,21] (some (33,true),.r (.fldA 36 (.t 35) 0)) (.take [13,
 19,20,21] (uT 33 true 37 36 1) (.take [19,20,21] (some (33,true),.r (.len 38 (.t 37))) (.take [15,16,17,18,19,20,21] (oK 33 true 39 6) (.take [16,17,18,19,20,21] (some (33,true),.r (.idxP 40 (.t 5) (.t 39) 15 2)) (.take [17,18,19,20,21] (some (33,true),.r (.fldA 41 (.t 40) 1)) (.take [18,19,20,21] (uT 33 true 42 41 1) (.take [19,
 20,21] (Uw 33 true 43 .add 42 1) (.take [20,21] (kz 33 true 44 .neq 38 43) (.take [21] (some (27,false),.r (.pick 45 (.t 33) (.t 44) (.c (.bool false)))) (.take [] (oQ 46 27 45) .done)))))))))))))))))))))
def WV :List zj:=[(none,.bld 47 [] [.int .i64 0,.int .i64 0,.int .i64 0,.slice none 0 0]),oW 2 47 4,oI 3 15]
def WU :List zj:=[oL 48 4 1,(none,.mkfn 49 (.func 27) [(.t 48,false)] []),oS 7 49]
def WT :List zj:=[oZ 8]
def YS :List zj:=[oI 9 1]
def jX :List zj:=[oM 50 9,oL 51 4 1,oN 52 51,oF 53 52 0,oL 54 53 1,oE 55 54,oD 56 .lss 50 55]
def qn :List zj:=[oM 60 7,oM 61 9,(none,.call 62 (.t 60) [(.t 61,false)]),oM 59 62,oY 63 59 0,oY 64 59 1,oS 10 63,oS 11 64]
def qm :List zj:=[oM 65 11,(none,.r (.notb 66 (.t 65)))]
def YR :List zj:=[(none,.bld 67 [] [.int .i64 0,.int .i64 0,.int .i64 0,.slice none 0 0]),oW 2 67 4,oI 3 15]
def YQ :List zj:=[oM 68 8,oM 69 10,(none,.blds 70 1 1 [((0,1),(.t 69,true))] [.int .i64 0]),(none,.app 71 (.t 68) (.t 70) 1 8),oS 8 71]
def YP :List zj:=[oM 57 9,oB 58 .add 57 1,oS 9 58]
def YO :List zj:=[oM 72 6,(none,.bld 73 [((0,1),(.t 72,true))] [.int .i64 0,.int .i64 0,.int .i64 0,.slice none 0 0]),(none,.alloc 12 [.int .i64 0,.int .i64 0,.int .i64 0,.slice none 0 0]),oW 12 73 4]
def YN :List zj:=[oM 74 6,(none,.r (.idxP 75 (.t 5) (.t 74) 15 2)),oF 76 75 1,oL 77 76 1,oB 78 .lss 77 0]
def x7 :List zj:=[oM 79 8,oF 80 12 3,oW 80 79 1]
def x6 :List zj:=[oT 81 12 4,oW 2 81 4,oI 3 0]
def x5 :List zj:=[oM 82 8,(none,.blds 83 2 1 [((0,1),(.c (.int .i64 0),true)),((1,1),(.c (.int .i64 0),true))] [.int .i64 0]),(none,.app 84 (.t 82) (.t 83) 1 8),oS 8 84]
def x4 :ZU:=.take [1,2,6,7,8,9] (oM 85 8) (.take [2,6,7,8,9] (none,.r (.idxA 86 (.t 85) (.c (.int .i64 0)) 1)) (.take [6,7,8,9] (oL 87 86 1) (.take [4,5,8,9] (oM 88 8) (.take [5,8,9] (none,.r (.idxA 89 (.t 88) (.c (.int .i64 1)) 1)) (.take [8,9] (oL 90 89 1) (.take [7,8,9] (oF 91 12 1) (.one 7 (oW 91 87 1) (.take [9] (oF 92 12 2) (.one 9 (oW 92 90 1) .done)))))))))
def ql :List zj:=[oM 93 6,oB 94 .eql 93 6,oM 95 94,(some (95,true),.r (.fldA 96 (.t 12) 1)),uT 95 true 97 96 1,Uw 95 true 98 .neq 97 1,oP 99 95 98,oM 100 99,(some (100,true),.r (.fldA 101 (.t 12) 1)),uT 100 true 102 101 1,Uw 100 true 103 .neq 102 2,oP 104 100 103]
def xZ :List zj:=[(none,.bld 105 [] [.int .i64 0,.int .i64 0,.int .i64 0,.slice none 0 0]),oW 2 105 4,oI 3 15]
def QL :List zj:=[oT 106 12 4,oW 2 106 4,oI 3 0]
def Zj :List Nat:=[0,2,3,4,5,6,7,8,9,10,11,12,15,46,56,66,78,104]
def Pw :zU:=.seq (.reg [0,3,4,5,6,7,8,9,10,11,12,15,46,56,66,78,104] UK Zj) (.seq (.seq (.reg [0,2,3,4,5,6,7,8,9,10,11,12,46,56,66,78,104] WW Zj) (.cond (.t 15) (.seq (.reg Zj UJ Zj) .ret) .skip)) (.seq (.reg [0,
 2,3,5,6,7,8,9,10,11,12,15,46,56,66,78,104] UI Zj) (.seq (.reg [0,2,3,4,6,7,8,9,10,11,12,15,46,56,66,78,104] UH Zj) (.seq (.reg Zj UG Zj) (.seq (.seq (.draw [0,2,3,4,5,6,7,8,9,10,11,12,15,56,66,78,104] QK Zj) (.cond (.t 46) (.seq (.reg Zj WV Zj) .ret) .skip)) (.seq (.reg Zj WU Zj) (.seq (.reg Zj WT Zj) (.seq (.seq (.reg Zj YS Zj) (.blk 0 (.loop (.seq (.seq (.reg [0,
 2,3,4,5,6,7,8,9,10,11,12,15,46,66,78,104] jX Zj) (.cond (.t 56) .skip (.exit 0))) (.seq (.blk 1 (.seq (.reg Zj qn Zj) (.seq (.seq (.reg [0,2,3,4,5,6,7,8,9,10,11,12,15,46,56,78,104] qm Zj) (.cond (.t 66) (.seq (.reg Zj YR Zj) .ret) .skip)) (.reg Zj YQ Zj)))) (.reg Zj YP Zj)))))) (.seq (.reg [0,
 2,3,4,5,6,7,8,9,10,11,15,46,56,66,78,104] YO Zj) (.seq (.seq (.reg [0,2,3,4,5,6,7,8,9,10,11,12,15,46,56,66,104] YN Zj) (.cond (.t 78) (.seq (.reg Zj x7 Zj) (.seq (.reg Zj x6 Zj) .ret)) .skip)) (.seq (.reg Zj x5 Zj) (.seq (.draw Zj x4 Zj) (.seq (.seq (.reg [0,
 2,3,4,5,6,7,8,9,10,11,12,15,46,56,66,78] ql Zj) (.cond (.t 104) (.seq (.reg Zj xZ Zj) .ret) .skip)) (.seq (.reg Zj QL Zj) .ret))))))))))))))
abbrev Pe :Nat:=9
theorem Pn :W7 Tryd.prog Tryd.f9.ntmps 1 [3] Zj [(.cell 2 4 true),(.tmp 3)] Pw Pe:=xS mix Tryd.func9 (by kernel_rfl) rfl
def ue :List zj:=[oO 0]
def ud :List zj:=[(none,.call 4 (.f 9) [(.c (.string ⟨#[97,100,100,32,49,32,50]⟩),false)]),oM 3 4,oY 5 3 0,oY 6 3 1,(none,.alloc 1 [.int .i64 0,.int .i64 0,.int .i64 0,.slice none 0 0]),oW 1 5 4,oS 2 6]
def uc :List zj:=[oM 7 2,oB 8 .eql 7 0,oM 9 8,(some (9,true),.r (.fldA 10 (.t 1) 0)),uT 9 true 11 10 1,Uw 9 true 12 .eql 11 2,oP 13 9 12,oM 14 13,(some (14,true),.r (.fldA 15 (.t 1) 1)),uT 14 true 16 15 1,Uw 14 true 17 .eql 16 1,oP 18 14 17,oM 19 18,(some (19,true),.r (.fldA 20 (.t 1) 2)),
 uT 19 true 21 20 1,Uw 19 true 22 .eql 21 2,oP 23 19 22,oS 0 23]
def yW :List Nat:=[0,1,2]
def G9 :zU:=.seq (.reg yW ue yW) (.seq (.reg [0,2] ud yW) (.seq (.reg yW uc yW) .ret))
abbrev GS :Nat:=10
theorem pN :W7 Tryd.prog Tryd.f10.ntmps 0 [0] yW [(.tmp 0)] G9 GS:=xS mix Tryd.func10 (by kernel_rfl) rfl
def ub :List zj:=[oO 4]
def ua :List zj:=[oM 5 0,oM 6 1,(none,.call 7 (.f 28) [(.t 5,false),(.t 6,false),(.f 29,false)]),oS 4 7]
def wI :List Nat:=[0,1,4]
def G8 :zU:=.seq (.reg wI ub wI) (.seq (.reg wI ua wI) .ret)
abbrev GR :Nat:=12
theorem pM :W7 Tryd.prog Tryd.f12.ntmps 2 [4] wI [(.tmp 4)] G8 GR:=xS mix Tryd.func12 (by kernel_rfl) rfl
def X0 :List zj:=[oZ 2]
def XZ :List zj:=[oZ 3]
def QN :List zj:=[oM 7 0,oE 8 7,oB 9 .gtr 8 0]
def Y6 :List zj:=[oM 11 0,(none,.blds 12 1 1 [((0,1),(.c (.int .u8 10),true))] [.int .u8 0]),wU 13 30 11 12,oM 10 13,oY 14 10 0,oY 15 10 1,oY 16 10 2,oS 4 14,oS 5 15,oS 6 16]
def Y5 :List zj:=[oM 17 3,oM 18 4,(none,.r (.box 19 (.t 18))),(none,.blds 20 1 1 [((0,1),(.t 19,true))] [.string ⟨#[]⟩]),(none,.app 21 (.t 17) (.t 20) 1 16),oS 3 21]
def Y4 :List zj:=[oM 22 5,oS 0 22]
def XY :List zj:=[oM 23 3,oS 2 23]
def jM :List Nat:=[0,2,3,4,5,6,9]
def G7 :zU:=.seq (.reg jM X0 jM) (.seq (.reg jM XZ jM) (.seq (.blk 0 (.loop (.seq (.seq (.reg [0,2,3,4,5,6] QN jM) (.cond (.t 9) .skip (.exit 0))) (.blk 1 (.seq (.reg jM Y6 jM) (.seq (.reg jM Y5 jM) (.reg jM Y4 jM))))))) (.seq (.reg jM XY jM) .ret)))
abbrev GQ :Nat:=13
theorem pL :W7 Tryd.prog Tryd.f13.ntmps 1 [2] jM [(.tmp 2)] G7 GQ:=xS mix Tryd.func13 (by kernel_rfl) rfl
def XX :List zj:=[oZ 4]
def XW :List zj:=[oM 5 0,oM 6 1,(none,.call 7 (.f 40) [(.t 5,false),(.t 6,false),(.c (.int .i64 0),false),(.c (.int .i64 (- (0+1))),false)]),oS 4 7]
def wH :List Nat:=[0,1,4]
def G6 :zU:=.seq (.reg wH XX wH) (.seq (.reg wH XW wH) .ret)
abbrev GP :Nat:=23
theorem pK :W7 Tryd.prog Tryd.f23.ntmps 2 [4] wH [(.tmp 4)] G6 GP:=xS mix Tryd.func23 (by kernel_rfl) rfl
def XV :List zj:=[(none,.alloc 0 [.string ⟨#[]⟩,.int .i64 0,.string ⟨#[]⟩,.int .i64 0,.string ⟨#[]⟩,.int .i64 0,.string ⟨#[]⟩,.int .i64 0,.string ⟨#[]⟩,.int .i64 0,.string ⟨#[]⟩,.int .i64 0,.string ⟨#[]⟩,.int .i64 0,.string ⟨#[]⟩,.int .i64 0,.string ⟨#[]⟩,.int .i64 0,.string ⟨#[]⟩,.int .i64 0,
 .string ⟨#[]⟩,.int .i64 0,.string ⟨#[]⟩,.int .i64 0,.string ⟨#[]⟩,.int .i64 0,.string ⟨#[]⟩,.int .i64 0,.string ⟨#[]⟩,.int .i64 0])]
def XU :List zj:=[(none,.bld 1 [((0,1),(.c (.string ⟨#[118,101,114,116,105,99,101,115]⟩),true)),((1,1),(.c (.int .i64 1),true))] [.string ⟨#[]⟩,.int .i64 0]),(none,.bld 2 [((0,1),(.c (.string ⟨#[97,100,100]⟩),true)),((1,1),(.c (.int .i64 2),true))] [.string ⟨#[]⟩,.int .i64 0]),
 (none,.bld 3 [((0,1),(.c (.string ⟨#[114,101,109,111,118,101]⟩),true)),((1,1),(.c (.int .i64 2),true))] [.string ⟨#[]⟩,.int .i64 0]),(none,.bld 4 [((0,1),(.c (.string ⟨#[103,114,111,119]⟩),true)),((1,1),(.c (.int .i64 0),true))] [.string ⟨#[]⟩,.int .i64 0]),(none,.bld 5 [((0,1),(.c (.string ⟨#[99,
  117,116]⟩),true)),((1,1),(.c (.int .i64 1),true))] [.string ⟨#[]⟩,.int .i64 0]),(none,.bld 6 [((0,1),(.c (.string ⟨#[109,97,116,99,104]⟩),true)),((1,1),(.c (.int .i64 1),true))] [.string ⟨#[]⟩,.int .i64 0]),(none,.bld 7 [((0,1),(.c (.string ⟨#[103,97,108,108,97,105]⟩),true)),((1,1),(.c (.int .i64 0),
 true))] [.string ⟨#[]⟩,.int .i64 0]),(none,.bld 8 [((0,1),(.c (.string ⟨#[98,97,114,114,105,101,114]⟩),true)),((1,1),(.c (.int .i64 0),true))] [.string ⟨#[]⟩,.int .i64 0]),(none,.bld 9 [((0,1),(.c (.string ⟨#[115,105,100,101,115]⟩),true)),((1,1),(.c (.int .i64 0),true))] [.string ⟨#[]⟩,.int .i64 0]),
 (none,.bld 10 [((0,1),(.c (.string ⟨#[98,108,111,99,107,115]⟩),true)),((1,1),(.c (.int .i64 0),true))] [.string ⟨#[]⟩,.int .i64 0]),(none,.bld 11 [((0,1),(.c (.string ⟨#[102,97,99,116,111,114]⟩),true)),((1,1),(.c (.int .i64 (- (0+1))),true))] [.string ⟨#[]⟩,.int .i64 0]),(none,.bld 12 [((0,
 1),(.c (.string ⟨#[99,111,118,101,114]⟩),true)),((1,1),(.c (.int .i64 0),true))] [.string ⟨#[]⟩,.int .i64 0]),(none,.bld 13 [((0,1),(.c (.string ⟨#[99,108,97,115,115,105,102,121]⟩),true)),((1,1),(.c (.int .i64 0),true))] [.string ⟨#[]⟩,.int .i64 0]),(none,.bld 14 [((0,1),(.c (.string ⟨#[116,
  101,108,108]⟩),true)),((1,1),(.c (.int .i64 0),true))] [.string ⟨#[]⟩,.int .i64 0]),(none,.bld 15 [((2,2),(.t 1,true)),((4,2),(.t 2,true)),((6,2),(.t 3,true)),((8,2),(.t 4,true)),((10,2),(.t 5,true)),((12,2),(.t 6,true)),((14,2),(.t 7,true)),((16,2),(.t 8,true)),((18,2),(.t 9,true)),((20,2),(.t 10,
 true)),((22,2),(.t 11,true)),((24,2),(.t 12,true)),((26,2),(.t 13,true)),((28,2),(.t 14,true))] [.string ⟨#[]⟩,.int .i64 0,.string ⟨#[]⟩,.int .i64 0,.string ⟨#[]⟩,.int .i64 0,.string ⟨#[]⟩,.int .i64 0,.string ⟨#[]⟩,.int .i64 0,.string ⟨#[]⟩,.int .i64 0,.string ⟨#[]⟩,.int .i64 0,.string ⟨#[]⟩,.int .i64 0,
 .string ⟨#[]⟩,.int .i64 0,.string ⟨#[]⟩,.int .i64 0,.string ⟨#[]⟩,.int .i64 0,.string ⟨#[]⟩,.int .i64 0,.string ⟨#[]⟩,.int .i64 0,.string ⟨#[]⟩,.int .i64 0,.string ⟨#[]⟩,.int .i64 0]),oW 0 15 30]
def xb :List Nat:=[0]
def G5 :zU:=.seq (.reg [] XV xb) (.seq (.reg xb XU xb) .ret)
abbrev GO :Nat:=24
theorem pJ :W7 Tryd.prog Tryd.f24.ntmps 0 [] xb [(.cell 0 30 true)] G5 GO:=xS mix Tryd.func24 (by kernel_rfl) rfl
def XT :List zj:=[oI 4 0]
def XS :List zj:=[oM 6 0,oE 7 6,(none,.r (.mov 8 (.c (.int .i64 0))))]
def Y3 :List zj:=[oD 9 .lss 8 7]
def XR :List zj:=[oM 10 8,oS 5 10]
def XQ :List zj:=[oM 11 1,oM 12 0,oM 13 5,oX 14 12 13 2,oT 15 14 2,(none,.call 16 (.t 11) [(.t 15,false)])]
def XP :List zj:=[oM 17 5,oS 4 17]
def XO :List zj:=[oB 18 .add 8 1,oS 8 18]
def XN :List zj:=[(none,.asg 4 (.c (.int .i64 (- (0+1)))) true)]
def jL :List Nat:=[0,1,4,5,7,8,9,16]
def G4 :zU:=.seq (.reg jL XT jL) (.seq (.seq (.reg [0,1,4,5,9,16] XS jL) (.blk 0 (.loop (.seq (.reg [0,
 1,4,5,7,8,16] Y3 jL) (.seq (.cond (.t 9) .skip (.exit 0)) (.seq (.blk 1 (.seq (.reg jL XR jL) (.seq (.reg [0,
 1,4,5,7,8,9] XQ jL) (.cond (.t 16) (.seq (.reg jL XP jL) .ret) .skip)))) (.reg jL XO jL))))))) (.seq (.reg jL XN jL) .ret))
abbrev GN :Nat:=25
theorem pI :W7 Tryd.prog Tryd.f25.ntmps 2 [4] jL [(.tmp 4)] G4 GN:=xS mix Tryd.func25 (by kernel_rfl) rfl
def XM :List zj:=[(none,.box 2 (.t 0)),oO 3]
def Y2 :ZU:=.take [1,2,3,4,5,6,7,8,9,10,11,12,13,14] (oF 4 2 0) (.take [2,3,4,5,6,7,8,9,10,11,12,13,14] (oL 5 4 1) (.take [3,4,5,6,7,8,9,10,11,12,13,14] (none,.r (.bin 6 .neq 0 (.t 5) (.c (.string ⟨#[]⟩)))) (.take [4,5,6,7,8,9,10,11,12,13,14] (oM 7 6) (.take [5,12,13,14] (some (7,
 true),.r (.fldA 8 (.t 2) 0)) (.take [12,13,14] (uT 7 true 9 8 1) (.take [7,8,9,10,11,12,13,14] (uT 7 true 10 1 1) (.take [8,9,10,11,12,13,14] (some (7,true),.r (.nilck 11 (.t 10))) (.take [9,10,11,12,13,14] (some (7,true),.r (.fldA 12 (.t 11) 0)) (.take [10,11,12,13,14] (uT 7 true 13 12 1) (.take [11,
 12,13,14] (some (7,true),.r (.idxA 14 (.t 13) (.c (.int .i64 0)) 1)) (.take [12,13,14] (uT 7 true 15 14 1) (.take [13,14] (kz 7 true 16 .eql 9 15) (.take [14] (oP 17 7 16) (.one 14 (oS 3 17) .done))))))))))))))
def xa :List Nat:=[0,1,2,3]
def G3 :zU:=.seq (.reg [0,1,3] XM xa) (.seq (.draw xa Y2 xa) .ret)
abbrev Kx :Nat:=26
theorem pH :W7 Tryd.prog Tryd.f26.ntmps 2 [3] xa [(.tmp 3)] G3 Kx:=xS mix Tryd.func26 (by kernel_rfl) rfl
def XL :List zj:=[oI 4 0,oO 5]
def XK :List zj:=[oM 10 0,oN 11 10,oF 12 11 0,oL 13 12 1,oM 14 1,oX 15 13 14 1,oL 16 15 1,oS 6 16]
def Jv :List zj:=[oM 17 6,(none,.r (.lenS 18 (.t 17))),oB 19 .lss 18 1,oM 20 19,oK 20 false 21 6,(some (20,false),.r (.lenS 22 (.t 21))),Uw 20 false 23 .gtr 22 9,oQ 24 20 23,oM 25 24,oK 25 false 26 6,(some (25,false),.r (.lenS 27 (.t 26))),Uw 25 false 28 .gtr 27 1,oK 25 false 29 28,
 oK 29 true 30 6,(some (29,true),.r (.idxS 31 (.t 30) (.c (.int .i64 0)))),(some (29,true),.r (.bin 32 .eql 0 (.t 31) (.c (.int .u8 48)))),(some (25,false),.r (.pick 33 (.t 29) (.t 32) (.c (.bool false)))),oQ 34 25 33]
def QM :List zj:=[oI 4 0,oO 5]
def Y1 :List zj:=[oI 7 0]
def Y0 :List zj:=[oM 35 6,(none,.s2b 36 (.t 35)),oE 37 36,(none,.r (.mov 38 (.c (.int .i64 0))))]
def qr :List zj:=[oD 39 .lss 38 37]
def YZ :List zj:=[oX 40 36 38 1,oL 41 40 1,oS 9 41]
def jY :List zj:=[oM 42 9,(none,.r (.bin 43 .lss 0 (.t 42) (.c (.int .u8 48)))),oM 44 43,oK 44 false 45 9,(some (44,false),.r (.bin 46 .gtr 0 (.t 45) (.c (.int .u8 57)))),oQ 47 44 46]
def qq :List zj:=[oI 4 0,oO 5]
def yf :List zj:=[oM 48 7,(none,.r (.bin 49 .mul 0 (.c (.int .i64 10)) (.t 48))),oM 50 9,(none,.r (.bin 51 .sub 0 (.t 50) (.c (.int .u8 48)))),(none,.r (.conv 52 .i64 (.t 51))),oD 53 .add 49 52,oS 7 53]
def ye :List zj:=[oB 54 .add 38 1,oS 38 54]
def yd :List zj:=[oM 55 7,oS 4 55,(none,.asg 5 (.c (.bool true)) true)]
def ZD :List Nat:=[0,1,4,5,6,7,9,34,36,37,38,39,47]
def G2 :zU:=.seq (.reg ZD XL ZD) (.seq (.reg ZD XK ZD) (.seq (.seq (.reg [0,1,4,5,6,7,9,36,37,38,39,47] Jv ZD) (.cond (.t 34) (.seq (.reg ZD QM ZD) .ret) .skip)) (.seq (.reg ZD Y1 ZD) (.seq (.seq (.reg [0,
 1,4,5,6,7,9,34,39,47] Y0 ZD) (.blk 0 (.loop (.seq (.reg [0,1,4,5,6,7,9,34,36,37,38,47] qr ZD) (.seq (.cond (.t 39) .skip (.exit 0)) (.seq (.blk 1 (.seq (.reg ZD YZ ZD) (.seq (.seq (.reg [0,
 1,4,5,6,7,9,34,36,37,38,39] jY ZD) (.cond (.t 47) (.seq (.reg ZD qq ZD) .ret) .skip)) (.reg ZD yf ZD)))) (.reg ZD ye ZD))))))) (.seq (.reg ZD yd ZD) .ret)))))
abbrev GM :Nat:=27
theorem pG :W7 Tryd.prog Tryd.f27.ntmps 2 [4,5] ZD [(.tmp 4),(.tmp 5)] G2 GM:=xS mix Tryd.func27 (by kernel_rfl) rfl
def XJ :List zj:=[oO 6]
def XI :List zj:=[oM 8 0,oE 9 8,oM 10 1,oE 11 10,oD 12 .neq 9 11]
def XH :List zj:=[oO 6]
def XG :List zj:=[oI 7 0]
def XF :List zj:=[oM 13 7,oM 14 0,oE 15 14,oD 16 .lss 13 15]
def XE :ZU:=.take [9,10] (oM 19 2) (.take [3,4,9,10] (oM 20 0) (.take [3,4,9,10] (oM 21 7) (.take [4,9,10] (oX 22 20 21 1) (.take [9,10] (oL 23 22 1) (.take [7,8,9,10] (oM 24 1) (.take [7,8,9,10] (oM 25 7) (.take [8,9,10] (oX 26 24 25 1) (.take [9,10] (oL 27 26 1) (.one 9 (none,
 .call 28 (.t 19) [(.t 23,false),(.t 27,false)]) (.take [] (none,.r (.notb 29 (.t 28))) .done))))))))))
def XD :List zj:=[oO 6]
def XC :List zj:=[oM 17 7,oB 18 .add 17 1,oS 7 18]
def XB :List zj:=[(none,.asg 6 (.c (.bool true)) true)]
def jr :List Nat:=[0,1,2,6,7,12,16,29]
def G1 :zU:=.seq (.reg jr XJ jr) (.seq (.seq (.reg [0,1,2,6,7,16,29] XI jr) (.cond (.t 12) (.seq (.reg jr XH jr) .ret) .skip)) (.seq (.seq (.reg jr XG jr) (.blk 0 (.loop (.seq (.seq (.reg [0,
 1,2,6,7,12,29] XF jr) (.cond (.t 16) .skip (.exit 0))) (.seq (.blk 1 (.seq (.draw [0,1,2,6,7,12,16] XE jr) (.cond (.t 29) (.seq (.reg jr XD jr) .ret) .skip))) (.reg jr XC jr)))))) (.seq (.reg jr XB jr) .ret)))
abbrev GL :Nat:=28
theorem pF :W7 Tryd.prog Tryd.f28.ntmps 3 [6] jr [(.tmp 6)] G1 GL:=xS mix Tryd.func28 (by kernel_rfl) rfl
def XA :List zj:=[oO 4]
def Xz :List zj:=[oM 5 0,oM 6 1,oD 7 .eql 5 6,oS 4 7]
def wG :List Nat:=[0,1,4]
def G0 :zU:=.seq (.reg wG XA wG) (.seq (.reg wG Xz wG) .ret)
abbrev Ux :Nat:=29
theorem pE :W7 Tryd.prog Tryd.f29.ntmps 2 [4] wG [(.tmp 4)] G0 Ux:=xS mix Tryd.func29 (by kernel_rfl) rfl
def YY :List zj:=[oZ 4,oZ 5,oO 6]
def YX :List zj:=[oM 8 0,oM 9 1,wU 10 41 8 9,oS 7 10]
def YW :List zj:=[oM 11 7,oB 12 .geq 11 0]
def Xy :ZU:=.take [2,9,10,11] (oM 13 0) (.take [2,9,10,11] (oM 14 7) (.take [8,10,11] (oM 16 0) (.take [7,8,10,11] (oM 17 7) (.take [6,7,8,10,11] (oM 18 1) (.take [7,8,10,11] (oE 19 18) (.take [8,10,11] (oD 20 .add 17 19) (.two 2 (none,.slc 15 (.t 13) none (some (.t 14)) 1) (.two 8 (none,
 .slc 21 (.t 16) (some (.t 20)) none 1) (.one 9 (oS 4 15) (.one 10 (oS 5 21) (.one 11 (none,.asg 6 (.c (.bool true)) true) .done))) 9 (oS 4 15) (.one 8 (none,.slc 21 (.t 16) (some (.t 20)) none 1) (.one 10 (oS 5 21) (.one 11 (none,.asg 6 (.c (.bool true)) true) .done)))) 8 (none,.slc 21 (.t 16) (some (.t 20)) none 1) (.one 2 (none,
 .slc 15 (.t 13) none (some (.t 14)) 1) (.one 9 (oS 4 15) (.one 10 (oS 5 21) (.one 11 (none,.asg 6 (.c (.bool true)) true) .done)))))))))))
def Xx :List zj:=[oM 22 0,oS 4 22,oZ 5,oO 6]
def JU :List Nat:=[0,1,4,5,6,7,12]
def ge :zU:=.seq (.reg JU YY JU) (.seq (.seq (.reg JU YX JU) (.seq (.reg [0,1,4,5,6,7] YW JU) (.cond (.t 12) (.seq (.draw JU Xy JU) .ret) .skip))) (.seq (.reg JU Xx JU) .ret))
abbrev xE :Nat:=30
theorem KR :W7 Tryd.prog Tryd.f30.ntmps 2 [4,5,6] JU [(.tmp 4),(.tmp 5),(.tmp 6)] ge xE:=xS mix Tryd.func30 (by kernel_rfl) rfl
def Xw :List zj:=[oZ 8]
def Xv :List zj:=[oM 12 3,oB 13 .eql 12 0]
def gc :List zj:=[oZ 8]
def Xu :List zj:=[oM 14 1,(none,.r (.bin 15 .eql 0 (.t 14) (.c (.string ⟨#[]⟩))))]
def ga :List zj:=[oM 16 0,oM 17 3,wU 18 50 16 17,oS 8 18]
def Xt :List zj:=[oM 19 3,oB 20 .lss 19 0]
def Xs :List zj:=[oM 21 0,oM 22 1,wU 23 51 21 22,oB 24 .add 23 1,oS 3 24]
def Xr :List zj:=[oM 25 3,oM 26 0,(none,.r (.lenS 27 (.t 26))),oB 28 .add 27 1,(none,.r (.mm 29 false (.t 25) (.t 28))),oS 3 29]
def Xq :List zj:=[oM 30 3,(none,.mk 31 (.t 30) (.t 30) 1 16 [.string ⟨#[]⟩]),oS 9 31]
def Xp :List zj:=[oM 32 3,oB 33 .sub 32 1,oS 3 33]
def Wk :List zj:=[oI 10 0]
def yc :List zj:=[oM 34 10,oM 35 3,oD 36 .lss 34 35]
def Wj :List zj:=[oM 37 0,oM 38 1,wU 39 52 37 38,oS 11 39]
def Wi :List zj:=[oM 40 11,oB 41 .lss 40 0]
def Wh :List zj:=[oM 42 9,oM 43 10,oM 44 0,oM 45 11,oM 46 2,oD 47 .add 45 46,(none,.r (.slc 48 (.t 44) none (some (.t 47)) 0)),oX 49 42 43 1,oW 49 48 1]
def Wg :List zj:=[oM 50 0,oM 51 11,oM 52 1,(none,.r (.lenS 53 (.t 52))),oD 54 .add 51 53,(none,.r (.slc 55 (.t 50) (some (.t 54)) none 0)),oS 0 55]
def Wf :List zj:=[oM 56 10,oB 57 .add 56 1,oS 10 57]
def We :List zj:=[oM 58 9,oM 59 10,oM 60 0,oX 61 58 59 1,oW 61 60 1]
def Wd :List zj:=[oM 62 9,oM 63 10,oB 64 .add 63 1,(none,.slc 65 (.t 62) none (some (.t 64)) 1),oS 8 65]
def z1 :List Nat:=[0,1,2,3,8,9,10,11,13,15,20,36,41]
def GZ :zU:=.seq (.reg z1 Xw z1) (.seq (.seq (.reg [0,1,2,3,8,9,10,11,15,20,36,41] Xv z1) (.cond (.t 13) (.seq (.reg z1 gc z1) .ret) .skip)) (.seq (.seq (.reg [0,
 1,2,3,8,9,10,11,13,20,36,41] Xu z1) (.cond (.t 15) (.seq (.reg z1 ga z1) .ret) .skip)) (.seq (.seq (.reg [0,1,2,3,8,9,10,11,13,15,36,41] Xt z1) (.cond (.t 20) (.reg z1 Xs z1) .skip)) (.seq (.reg z1 Xr z1) (.seq (.reg z1 Xq z1) (.seq (.reg z1 Xp z1) (.seq (.reg z1 Wk z1) (.seq (.blk 0 (.loop (.seq (.seq (.reg [0,
 1,2,3,8,9,10,11,13,15,20,41] yc z1) (.cond (.t 36) .skip (.exit 0))) (.blk 1 (.seq (.reg z1 Wj z1) (.seq (.seq (.reg [0,1,2,3,8,9,10,11,13,15,20,36] Wi z1) (.cond (.t 41) (.exit 0) .skip)) (.seq (.reg z1 Wh z1) (.seq (.reg z1 Wg z1) (.reg z1 Wf z1))))))))) (.seq (.reg z1 We z1) (.seq (.reg z1 Wd z1) .ret))))))))))
abbrev GK :Nat:=40
theorem pD :W7 Tryd.prog Tryd.f40.ntmps 4 [8] z1 [(.tmp 8)] GZ GK:=xS mix Tryd.func40 (by kernel_rfl) rfl
def Xo :List zj:=[oI 4 0]
def Xn :List zj:=[oM 20 1,oE 21 20,oS 5 21]
def Xm :List zj:=[oM 23 5,oB 24 .eql 23 0,oS 22 24]
def K9 :List zj:=[oI 4 0]
def Xl :List zj:=[oM 26 5,oB 27 .eql 26 1,oS 25 27]
def Xk :List zj:=[oM 28 0,oM 29 1,(none,.r (.idxA 30 (.t 29) (.c (.int .i64 0)) 1)),oL 31 30 1,wU 32 53 28 31,oS 4 32]
def K8 :List zj:=[oM 34 5,oM 35 0,oE 36 35,oD 37 .eql 34 36,oS 33 37]
def K7 :List zj:=[oM 38 1,oM 39 0,wU 40 54 38 39]
def K6 :List zj:=[oI 4 0]
def K5 :List zj:=[(none,.asg 4 (.c (.int .i64 (- (0+1)))) true)]
def km :List zj:=[oM 42 5,oM 43 0,oE 44 43,oD 45 .gtr 42 44,oS 41 45]
def kj :List zj:=[(none,.asg 4 (.c (.int .i64 (- (0+1)))) true)]
def ki :List zj:=[oM 47 5,(none,.bad (some 48)),oD 49 .leq 47 48,oS 46 49]
def kh :List zj:=[oM 50 0,oE 51 50,oB 52 .leq 51 64]
def kg :List zj:=[oM 53 0,oM 54 1,wU 55 55 53 54,oS 4 55]
def kf :List zj:=[oM 56 1,(none,.r (.idxA 57 (.t 56) (.c (.int .i64 0)) 1)),oL 58 57 1,oS 6 58]
def ke :List zj:=[oM 59 1,(none,.r (.idxA 60 (.t 59) (.c (.int .i64 1)) 1)),oL 61 60 1,oS 7 61]
def kb :List zj:=[oI 8 0]
def ka :List zj:=[oM 62 0,oE 63 62,oM 64 5,oD 65 .sub 63 64,oB 66 .add 65 1,oS 9 66]
def V9 :List zj:=[oI 10 0]
def V8 :List zj:=[oM 67 8,oM 68 9,oD 69 .lss 67 68]
def V7 :List zj:=[oM 70 0,oM 71 8,oX 72 70 71 1,oL 73 72 1,oM 74 6,oD 75 .neq 73 74]
def V6 :List zj:=[oM 76 0,oM 77 8,oB 78 .add 77 1,oM 79 9,(none,.slc 80 (.t 76) (some (.t 78)) (some (.t 79)) 1),oM 81 6,wU 82 53 80 81,oS 11 82]
def V5 :List zj:=[oM 83 11,oB 84 .lss 83 0]
def V4 :List zj:=[(none,.asg 4 (.c (.int .i64 (- (0+1)))) true)]
def V3 :List zj:=[oM 85 8,oM 86 11,oB 87 .add 86 1,oD 88 .add 85 87,oS 8 88]
def V0 :List zj:=[oM 89 0,oM 90 8,oB 91 .add 90 1,oX 92 89 91 1,oL 93 92 1,oM 94 7,oD 95 .eql 93 94,oM 96 95,oK 96 true 97 0,oK 96 true 98 8,oK 96 true 99 8,oK 96 true 100 5,kz 96 true 101 .add 99 100,(some (96,true),.slc 102 (.t 97) (some (.t 98)) (some (.t 101)) 1),oK 96 true 103 1,
 (some (96,true),.call 104 (.f 54) [(.t 102,false),(.t 103,false)]),oP 105 96 104]
def VZ :List zj:=[oM 106 8,oS 4 106]
def VY :List zj:=[oM 107 10,oB 108 .add 107 1,oS 10 108]
def VX :List zj:=[oM 109 8,oB 110 .add 109 1,oS 8 110]
def VW :List zj:=[oM 111 10,oM 112 8,oC 113 56 112,oD 114 .gtr 111 113]
def VV :List zj:=[oM 115 0,oM 116 8,(none,.slc 117 (.t 115) (some (.t 116)) none 1),oM 118 1,wU 119 55 117 118,oS 12 119]
def VU :List zj:=[oM 120 12,oB 121 .geq 120 0]
def VT :List zj:=[oM 122 12,oM 123 8,oD 124 .add 122 123,oS 4 124]
def VS :List zj:=[(none,.asg 4 (.c (.int .i64 (- (0+1)))) true)]
def VR :List zj:=[(none,.asg 4 (.c (.int .i64 (- (0+1)))) true)]
def VQ :List zj:=[oM 125 1,(none,.r (.idxA 126 (.t 125) (.c (.int .i64 0)) 1)),oL 127 126 1,oS 13 127]
def VP :List zj:=[oM 128 1,(none,.r (.idxA 129 (.t 128) (.c (.int .i64 1)) 1)),oL 130 129 1,oS 14 130]
def VO :List zj:=[oI 15 0]
def VN :List zj:=[oI 16 0]
def VM :List zj:=[oM 131 0,oE 132 131,oM 133 5,oD 134 .sub 132 133,oB 135 .add 134 1,oS 17 135]
def VL :List zj:=[oM 136 15,oM 137 17,oD 138 .lss 136 137]
def VK :List zj:=[oM 139 0,oM 140 15,oX 141 139 140 1,oL 142 141 1,oM 143 13,oD 144 .neq 142 143]
def VJ :List zj:=[oM 145 0,oM 146 15,oB 147 .add 146 1,oM 148 17,(none,.slc 149 (.t 145) (some (.t 147)) (some (.t 148)) 1),oM 150 13,wU 151 53 149 150,oS 18 151]
def VI :List zj:=[oM 152 18,oB 153 .lss 152 0]
def VH :List zj:=[oM 154 15,oM 155 18,oB 156 .add 155 1,oD 157 .add 154 156,oS 15 157]
def VG :List zj:=[oM 158 0,oM 159 15,oB 160 .add 159 1,oX 161 158 160 1,oL 162 161 1,oM 163 14,oD 164 .eql 162 163,oM 165 164,oK 165 true 166 0,oK 165 true 167 15,oK 165 true 168 15,oK 165 true 169 5,kz 165 true 170 .add 168 169,(some (165,true),.slc 171 (.t 166) (some (.t 167)) (some (.t 170)) 1),
 oK 165 true 172 1,(some (165,true),.call 173 (.f 54) [(.t 171,false),(.t 172,false)]),oP 174 165 173]
def VF :List zj:=[oM 175 15,oS 4 175]
def VE :List zj:=[oM 176 15,oB 177 .add 176 1,oS 15 177]
def VD :List zj:=[oM 178 16,oB 179 .add 178 1,oS 16 179]
def VC :List zj:=[oM 180 16,oM 181 15,(none,.r (.bin 182 .shr 0 (.t 181) (.c (.int .u64 4)))),(none,.r (.bin 183 .add 0 (.c (.int .i64 4)) (.t 182))),oD 184 .geq 180 183,oM 185 184,oK 185 true 186 15,oK 185 true 187 17,kz 185 true 188 .lss 186 187,oP 189 185 188]
def VB :List zj:=[oM 190 0,oM 191 15,(none,.slc 192 (.t 190) (some (.t 191)) none 1),oM 193 1,wU 194 57 192 193,oS 19 194]
def VA :List zj:=[oM 195 19,oB 196 .lss 195 0]
def Vz :List zj:=[(none,.asg 4 (.c (.int .i64 (- (0+1)))) true)]
def Vy :List zj:=[oM 197 15,oM 198 19,oD 199 .add 197 198,oS 4 199]
def Vx :List zj:=[(none,.asg 4 (.c (.int .i64 (- (0+1)))) true)]
def zg :List Nat:=[0,1,4,5,6,7,8,9,10,11,12,13,14,15,16,17,18,19,22,25,33,40,41,46,52,69,75,84,105,114,121,138,144,153,174,189,196]
def GY :zU:=.seq (.reg zg Xo zg) (.seq (.reg zg Xn zg) (.seq (.blk 0 (.seq (.reg zg Xm zg) (.cond (.t 22) (.seq (.reg zg K9 zg) .ret) (.seq (.reg zg Xl zg) (.cond (.t 25) (.seq (.reg zg Xk zg) .ret) (.seq (.reg zg K8 zg) (.cond (.t 33) (.seq (.seq (.reg [0,
 1,4,5,6,7,8,9,10,11,12,13,14,15,16,17,18,19,22,25,33,41,46,52,69,75,84,105,114,121,138,144,153,174,189,196] K7 zg) (.cond (.t 40) (.seq (.reg zg K6 zg) .ret) .skip)) (.seq (.reg zg K5 zg) .ret)) (.seq (.reg zg km zg) (.cond (.t 41) (.seq (.reg zg kj zg) .ret) (.seq (.reg zg ki zg) (.cond (.t 46) (.seq (.seq (.reg [0,
 1,4,5,6,7,8,9,10,11,12,13,14,15,16,17,18,19,22,25,33,40,41,46,69,75,84,105,114,121,138,144,153,174,189,196] kh zg) (.cond (.t 52) (.seq (.reg zg kg zg) .ret) .skip)) (.seq (.reg zg kf zg) (.seq (.reg zg ke zg) (.seq (.reg zg kb zg) (.seq (.reg zg ka zg) (.seq (.reg zg V9 zg) (.seq (.blk 1 (.loop (.seq (.seq (.reg [0,
 1,4,5,6,7,8,9,10,11,12,13,14,15,16,17,18,19,22,25,33,40,41,46,52,75,84,105,114,121,138,144,153,174,189,196] V8 zg) (.cond (.t 69) .skip (.exit 1))) (.blk 2 (.seq (.seq (.reg [0,1,4,5,6,7,8,9,10,11,12,13,14,15,16,17,18,19,22,25,33,40,41,46,52,69,84,105,114,121,138,144,153,174,
 189,196] V7 zg) (.cond (.t 75) (.seq (.reg zg V6 zg) (.seq (.seq (.reg [0,1,4,5,6,7,8,9,10,11,12,13,14,15,16,17,18,19,22,25,33,40,41,46,52,69,75,105,114,121,138,144,153,174,189,196] V5 zg) (.cond (.t 84) (.seq (.reg zg V4 zg) .ret) .skip)) (.reg zg V3 zg))) .skip)) (.seq (.seq (.reg [0,
 1,4,5,6,7,8,9,10,11,12,13,14,15,16,17,18,19,22,25,33,40,41,46,52,69,75,84,114,121,138,144,153,174,189,196] V0 zg) (.cond (.t 105) (.seq (.reg zg VZ zg) .ret) .skip)) (.seq (.reg zg VY zg) (.seq (.reg zg VX zg) (.seq (.reg [0,
 1,4,5,6,7,8,9,10,11,12,13,14,15,16,17,18,19,22,25,33,40,41,46,52,69,75,84,105,121,138,144,153,174,189,196] VW zg) (.cond (.t 114) (.seq (.reg zg VV zg) (.seq (.seq (.reg [0,1,4,5,6,7,8,9,10,11,12,13,14,15,16,17,18,19,22,25,33,40,41,46,52,
 69,75,84,105,114,138,144,153,174,189,196] VU zg) (.cond (.t 121) (.seq (.reg zg VT zg) .ret) .skip)) (.seq (.reg zg VS zg) .ret))) .skip)))))))))) (.seq (.reg zg VR zg) .ret)))))))) .skip))))))))))) (.seq (.reg zg VQ zg) (.seq (.reg zg VP zg) (.seq (.reg zg VO zg) (.seq (.reg zg VN zg) (.seq (.reg zg VM zg) (.seq (.blk 3 (.loop (.seq (.seq (.reg [0,
 1,4,5,6,7,8,9,10,11,12,13,14,15,16,17,18,19,22,25,33,40,41,46,52,69,75,84,105,114,121,144,153,174,189,196] VL zg) (.cond (.t 138) .skip (.exit 3))) (.blk 4 (.seq (.seq (.reg [0,1,4,5,6,7,8,9,10,11,12,13,14,15,16,17,18,19,22,25,33,40,41,46,52,69,75,84,105,114,121,138,153,174,
 189,196] VK zg) (.cond (.t 144) (.seq (.reg zg VJ zg) (.seq (.seq (.reg [0,1,4,5,6,7,8,9,10,11,12,13,14,15,16,17,18,19,22,25,33,40,41,46,52,69,75,84,105,114,121,138,144,174,189,196] VI zg) (.cond (.t 153) (.exit 3) .skip)) (.reg zg VH zg))) .skip)) (.seq (.seq (.reg [0,
 1,4,5,6,7,8,9,10,11,12,13,14,15,16,17,18,19,22,25,33,40,41,46,52,69,75,84,105,114,121,138,144,153,189,196] VG zg) (.cond (.t 174) (.seq (.reg zg VF zg) .ret) .skip)) (.seq (.reg zg VE zg) (.seq (.reg zg VD zg) (.seq (.reg [0,
 1,4,5,6,7,8,9,10,11,12,13,14,15,16,17,18,19,22,25,33,40,41,46,52,69,75,84,105,114,121,138,144,153,174,196] VC zg) (.cond (.t 189) (.seq (.reg zg VB zg) (.seq (.seq (.reg [0,1,4,5,6,7,8,9,10,11,12,13,14,15,16,17,18,19,22,25,33,40,41,46,52,
 69,75,84,105,114,121,138,144,153,174,189] VA zg) (.cond (.t 196) (.seq (.reg zg Vz zg) .ret) .skip)) (.seq (.reg zg Vy zg) .ret))) .skip)))))))))) (.seq (.reg zg Vx zg) .ret)))))))))
abbrev GJ :Nat:=41
theorem pC :W7 Tryd.prog Tryd.f41.ntmps 2 [4] zg [(.tmp 4)] GY GJ:=xS mix Tryd.func41 (by kernel_rfl) rfl
abbrev Ph :Nat:=51
def Xj :List zj:=[oI 4 0]
def Xi :List zj:=[oM 5 0,oM 6 1,wU 7 64 5 6,oS 4 7]
def wF :List Nat:=[0,1,4]
def GX :zU:=.seq (.reg wF Xj wF) (.seq (.reg wF Xi wF) .ret)
abbrev GI :Nat:=52
theorem pB :W7 Tryd.prog Tryd.f52.ntmps 2 [4] wF [(.tmp 4)] GX GI:=xS mix Tryd.func52 (by kernel_rfl) rfl
abbrev Pg :Nat:=53
def Xh :List zj:=[oI 4 0]
def Xg :List zj:=[oM 14 1,(none,.r (.lenS 15 (.t 14))),oS 5 15]
def YV :List zj:=[oM 17 5,oB 18 .eql 17 0,oM 19 18,oK 19 false 20 1,oK 19 false 21 0,kz 19 false 22 .eql 20 21,oQ 23 19 22,oS 16 23]
def Xf :List zj:=[oI 4 0]
def Xe :List zj:=[oM 25 5,oB 26 .eql 25 1,oS 24 26]
def Xd :List zj:=[oM 27 0,oM 28 1,(none,.r (.idxS 29 (.t 28) (.c (.int .i64 0)))),wU 30 74 27 29,oS 4 30]
def K4 :List zj:=[oM 32 5,oM 33 0,(none,.r (.lenS 34 (.t 33))),oD 35 .geq 32 34,oS 31 35]
def K3 :List zj:=[(none,.asg 4 (.c (.int .i64 (- (0+1)))) true)]
def K2 :List zj:=[oM 37 5,(none,.bad (some 38)),oD 39 .leq 37 38,oM 40 39,oK 40 true 41 0,(some (40,true),.r (.lenS 42 (.t 41))),Uw 40 true 43 .leq 42 64,oP 44 40 43,oS 36 44]
def K1 :List zj:=[oM 45 0,oM 46 1,wU 47 75 45 46,oS 4 47]
def Vw :List zj:=[oM 48 1,(none,.r (.idxS 49 (.t 48) (.c (.int .i64 0)))),oS 6 49]
def Vv :List zj:=[oM 50 1,(none,.r (.idxS 51 (.t 50) (.c (.int .i64 1)))),oS 7 51]
def Vu :List zj:=[oI 8 0]
def Vs :List zj:=[oM 52 0,(none,.r (.lenS 53 (.t 52))),oM 54 5,oD 55 .sub 53 54,oB 56 .add 55 1,oS 9 56]
def Vr :List zj:=[oI 10 0]
def Vq :List zj:=[oM 57 8,oM 58 9,oD 59 .lss 57 58]
def Vp :List zj:=[oM 60 0,oM 61 8,(none,.r (.idxS 62 (.t 60) (.t 61))),oM 63 6,oD 64 .neq 62 63]
def Vo :List zj:=[oM 65 0,oM 66 8,oB 67 .add 66 1,oM 68 9,(none,.r (.slc 69 (.t 65) (some (.t 67)) (some (.t 68)) 0)),oM 70 6,wU 71 74 69 70,oS 11 71]
def Vn :List zj:=[oM 72 11,oB 73 .lss 72 0]
def Vm :List zj:=[(none,.asg 4 (.c (.int .i64 (- (0+1)))) true)]
def Vl :List zj:=[oM 74 8,oM 75 11,oB 76 .add 75 1,oD 77 .add 74 76,oS 8 77]
def Vk :List zj:=[oM 78 0,oM 79 8,oB 80 .add 79 1,(none,.r (.idxS 81 (.t 78) (.t 80))),oM 82 7,oD 83 .eql 81 82,oM 84 83,oK 84 true 85 0,oK 84 true 86 8,oK 84 true 87 8,oK 84 true 88 5,kz 84 true 89 .add 87 88,(some (84,true),.r (.slc 90 (.t 85) (some (.t 86)) (some (.t 89)) 0)),
 oK 84 true 91 1,kz 84 true 92 .eql 90 91,oP 93 84 92]
def Vj :List zj:=[oM 94 8,oS 4 94]
def Vi :List zj:=[oM 95 8,oB 96 .add 95 1,oS 8 96]
def Vh :List zj:=[oM 97 10,oB 98 .add 97 1,oS 10 98]
def Vg :List zj:=[oM 99 5,(none,.bad (some 100)),oD 101 .leq 99 100,oM 102 101,oK 102 true 103 10,oK 102 true 104 8,(some (102,true),.call 105 (.f 56) [(.t 104,false)]),kz 102 true 106 .gtr 103 105,oP 107 102 106]
def Vf :List zj:=[oM 108 0,oM 109 8,(none,.r (.slc 110 (.t 108) (some (.t 109)) none 0)),oM 111 1,wU 112 75 110 111,oS 12 112]
def Ve :List zj:=[oM 113 12,oB 114 .geq 113 0]
def Vd :List zj:=[oM 115 12,oM 116 8,oD 117 .add 115 116,oS 4 117]
def Vc :List zj:=[(none,.asg 4 (.c (.int .i64 (- (0+1)))) true)]
def Vb :List zj:=[oM 118 5,(none,.bad (some 119)),oD 120 .gtr 118 119,oM 121 120,oK 121 true 122 10,oK 121 true 123 8,(some (121,true),.r (.bin 124 .shr 0 (.t 123) (.c (.int .u64 4)))),(some (121,true),.r (.bin 125 .add 0 (.c (.int .i64 4)) (.t 124))),kz 121 true 126 .geq 122 125,
 oP 127 121 126,oM 128 127,oK 128 true 129 8,oK 128 true 130 9,kz 128 true 131 .lss 129 130,oP 132 128 131]
def Va :List zj:=[oM 133 0,oM 134 8,(none,.r (.slc 135 (.t 133) (some (.t 134)) none 0)),oM 136 1,wU 137 76 135 136,oS 13 137]
def v8 :List zj:=[oM 138 13,oB 139 .lss 138 0]
def v7 :List zj:=[(none,.asg 4 (.c (.int .i64 (- (0+1)))) true)]
def v6 :List zj:=[oM 140 8,oM 141 13,oD 142 .add 140 141,oS 4 142]
def vZ :List zj:=[(none,.asg 4 (.c (.int .i64 (- (0+1)))) true)]
def zx :List Nat:=[0,1,4,5,6,7,8,9,10,11,12,13,16,24,31,36,59,64,73,93,107,114,132,139]
def GW :zU:=.seq (.reg zx Xh zx) (.seq (.reg zx Xg zx) (.seq (.blk 0 (.seq (.reg zx YV zx) (.cond (.t 16) (.seq (.reg zx Xf zx) .ret) (.seq (.reg zx Xe zx) (.cond (.t 24) (.seq (.reg zx Xd zx) .ret) (.seq (.reg zx K4 zx) (.cond (.t 31) (.seq (.reg zx K3 zx) .ret) (.seq (.reg zx K2 zx) (.cond (.t 36) (.seq (.reg zx K1 zx) .ret) .skip))))))))) (.seq (.reg zx Vw zx) (.seq (.reg zx Vv zx) (.seq (.reg zx Vu zx) (.seq (.reg zx Vs zx) (.seq (.reg zx Vr zx) (.seq (.blk 1 (.loop (.seq (.seq (.reg [0,
 1,4,5,6,7,8,9,10,11,12,13,16,24,31,36,64,73,93,107,114,132,139] Vq zx) (.cond (.t 59) .skip (.exit 1))) (.blk 2 (.seq (.seq (.reg [0,1,4,5,6,7,8,9,10,11,12,13,16,24,31,36,59,73,93,107,114,132,139] Vp zx) (.cond (.t 64) (.seq (.reg zx Vo zx) (.seq (.seq (.reg [0,
 1,4,5,6,7,8,9,10,11,12,13,16,24,31,36,59,64,93,107,114,132,139] Vn zx) (.cond (.t 73) (.seq (.reg zx Vm zx) .ret) .skip)) (.reg zx Vl zx))) .skip)) (.seq (.seq (.reg [0,
 1,4,5,6,7,8,9,10,11,12,13,16,24,31,36,59,64,73,107,114,132,139] Vk zx) (.cond (.t 93) (.seq (.reg zx Vj zx) .ret) .skip)) (.seq (.reg zx Vi zx) (.seq (.reg zx Vh zx) (.seq (.reg [0,
 1,4,5,6,7,8,9,10,11,12,13,16,24,31,36,59,64,73,93,114,132,139] Vg zx) (.cond (.t 107) (.seq (.reg zx Vf zx) (.seq (.seq (.reg [0,1,4,5,6,7,8,9,10,11,12,13,16,24,31,
 36,59,64,73,93,107,132,139] Ve zx) (.cond (.t 114) (.seq (.reg zx Vd zx) .ret) .skip)) (.seq (.reg zx Vc zx) .ret))) (.seq (.reg [0,
 1,4,5,6,7,8,9,10,11,12,13,16,24,31,36,59,64,73,93,107,114,139] Vb zx) (.cond (.t 132) (.seq (.reg zx Va zx) (.seq (.seq (.reg [0,1,4,5,6,7,8,9,10,11,12,13,16,24,31,
 36,59,64,73,93,107,114,132] v8 zx) (.cond (.t 139) (.seq (.reg zx v7 zx) .ret) .skip)) (.seq (.reg zx v6 zx) .ret))) .skip)))))))))))) (.seq (.reg zx vZ zx) .ret)))))))))
abbrev GH :Nat:=64
theorem pA :W7 Tryd.prog Tryd.f64.ntmps 2 [4] zx [(.tmp 4)] GW GH:=xS mix Tryd.func64 (by kernel_rfl) rfl
abbrev Pf :Nat:=74
end Go.Proofs.YtneiihheeghdcaaDoor

namespace Go.Proofs
open Go.Shelf
def Tryd.lays217_ren :Go.Shelf.Ren:=⟨fun|217=>74|266=>82|n=>n,fun|9=>9|5=>5|3=>3|n=>n,fun|n=>n⟩
theorem Tryd.lays217 :Go.Proofs.Lays.n217 Tryd.prog Tryd.lays217_ren:={
 mixed:=by kernel_rfl
 f217:=Tryd.func74.trans (congrArg some (by kernel_rfl))
 f266:=Tryd.func82.trans (congrArg some (by kernel_rfl))
 t3:=Tryd.underlying3
 a3:=Tryd.isAgg3
 z3:=Tryd.sizeOf3
 v3:=Tryd.zeroValue3
 t5:=Tryd.underlying5
 a5:=Tryd.isAgg5
 z5:=Tryd.sizeOf5
 v5:=Tryd.zeroValue5
 t9:=Tryd.underlying9
 a9:=Tryd.isAgg9
 z9:=Tryd.sizeOf9
 v9:=Tryd.zeroValue9}
open Go.RowKit Go.Lib in
theorem Tryd.stringslite_IndexByte (s:ByteArray)(c:Int)(w:World):
 Calls Tryd.prog 74 #[.string s,.int .u8 c] w fun e w'=>e= .returned (.int .i64 (Lib.indexByte s.data.toList c.toNat.toUInt8))∧w'=w:=Any.stringslite_IndexByte Tryd.lays217 s c w
def Tryd.lays138_ren :Go.Shelf.Ren:=⟨fun|138=>51|195=>61|218=>63|143=>52|219=>64|217=>74|225=>75|224=>56|267=>76|266=>82|314=>83|n=>n,fun|9=>9|3=>3|4=>4|5=>5|0=>0|46=>22|146=>98|51=>97|n=>n,fun|1=>0|n=>n⟩
theorem Tryd.lays138 :Go.Proofs.Lays.n138 Tryd.prog Tryd.lays138_ren:={
 mixed:=by kernel_rfl
 f138:=Tryd.func51.trans (congrArg some (by kernel_rfl))
 f143:=Tryd.func52.trans (congrArg some (by kernel_rfl))
 f195:=Tryd.func61.trans (congrArg some (by kernel_rfl))
 f217:=Tryd.func74.trans (congrArg some (by kernel_rfl))
 f218:=Tryd.func63.trans (congrArg some (by kernel_rfl))
 f219:=Tryd.func64.trans (congrArg some (by kernel_rfl))
 f224:=Tryd.func56.trans (congrArg some (by kernel_rfl))
 f225:=Tryd.func75.trans (congrArg some (by kernel_rfl))
 f266:=Tryd.func82.trans (congrArg some (by kernel_rfl))
 f267:=Tryd.func76.trans (congrArg some (by kernel_rfl))
 f314:=Tryd.func83.trans (congrArg some (by kernel_rfl))
 t0:=Tryd.underlying0
 a0:=Tryd.isAgg0
 z0:=Tryd.sizeOf0
 v0:=Tryd.zeroValue0
 t3:=Tryd.underlying3
 a3:=Tryd.isAgg3
 z3:=Tryd.sizeOf3
 v3:=Tryd.zeroValue3
 t4:=Tryd.underlying4
 a4:=Tryd.isAgg4
 z4:=Tryd.sizeOf4
 v4:=Tryd.zeroValue4
 t5:=Tryd.underlying5
 a5:=Tryd.isAgg5
 z5:=Tryd.sizeOf5
 v5:=Tryd.zeroValue5
 t9:=Tryd.underlying9
 a9:=Tryd.isAgg9
 z9:=Tryd.sizeOf9
 v9:=Tryd.zeroValue9
 t46:=Tryd.underlying22
 a46:=Tryd.isAgg22
 z46:=Tryd.sizeOf22
 v46:=Tryd.zeroValue22
 t51:=Tryd.underlying97
 a51:=Tryd.isAgg97
 z51:=Tryd.sizeOf97
 v51:=Tryd.zeroValue97
 t146:=Tryd.underlying98
 a146:=Tryd.isAgg98
 z146:=Tryd.sizeOf98
 v146:=Tryd.zeroValue98
 g1:=by kernel_rfl}
theorem Tryd.strings_Count_one (s:ByteArray)(c:UInt8)(w:World):
 Calls Tryd.prog 51 #[.string s,.string ⟨#[c]⟩] w fun e w'=>e= .returned (.int .i64 (Lib.countByte s.data.toList c))∧w'=w:=Any.strings_Count_one Tryd.lays138 s c w
def Tryd.lays187_ren :Go.Shelf.Ren:=⟨fun|187=>53|255=>65|n=>n,fun|37=>34|5=>5|3=>3|n=>n,fun|n=>n⟩
theorem Tryd.lays187 :Go.Proofs.Lays.n187 Tryd.prog Tryd.lays187_ren:={
 mixed:=by kernel_rfl
 f187:=Tryd.func53.trans (congrArg some (by kernel_rfl))
 f255:=Tryd.func65.trans (congrArg some (by kernel_rfl))
 t3:=Tryd.underlying3
 a3:=Tryd.isAgg3
 z3:=Tryd.sizeOf3
 v3:=Tryd.zeroValue3
 t5:=Tryd.underlying5
 a5:=Tryd.isAgg5
 z5:=Tryd.sizeOf5
 v5:=Tryd.zeroValue5
 t37:=Tryd.underlying34
 a37:=Tryd.isAgg34
 z37:=Tryd.sizeOf34
 v37:=Tryd.zeroValue34}
theorem Tryd.bytes_IndexByte_at (a:Addr)(n c:Nat)(xs:List Int)(cv:Int)(w:World)(hx:xs.length=n)(hc:∀i,i<n→w.cell? (a.add i)=some (.int .u8 (xs.getD i 0))):
 Calls Tryd.prog 53 #[.slice (some a) n c,.int .u8 cv] w fun e w'=>e= .returned (.int .i64 (Lib.indexByte (Lib.bytesOf xs) cv.toNat.toUInt8))∧w'=w:=Any.bytes_IndexByte_at Tryd.lays187 a n c xs cv w hx hc
end Go.Proofs

namespace Go.Ga.Gl
open Go Go.Ga
def ZN (l:List UInt8):ByteArray:=⟨l.toArray⟩
theorem kN (s:ByteArray):ZN s.data.toList=s:=by cases s;simp[ZN]
theorem JH (l:List UInt8):(ZN l).data.toList=l:=by simp[ZN]
theorem xm (l:List UInt8):(ZN l).size=l.length:=by simp[ZN,ByteArray.size]
theorem gN (a b:List UInt8):ZN a++ZN b=ZN (a++b):=by
 apply ByteArray.ext
 simp[ZN]
theorem gM (l:List UInt8)(a b:Nat):(ZN l).extract a b=ZN ((l.take b).drop a):=by
 apply ByteArray.ext
 apply Array.ext'
 simp[ZN,List.extract_eq_take_drop,List.drop_take]
theorem ph (l:List UInt8)(k:Nat):(ZN l).data.getD k 0=l.getD k 0:=by
 simp[ZN]
theorem yn (s:ByteArray):∀(n i:Nat) (r:List UInt8),s.size - i=n→ByteArray.toList.loop s i r=r.reverse++s.data.toList.drop i
 | 0,i,r,h=>by
   unfold ByteArray.toList.loop
   rw[if_neg (by omega),List.drop_eq_nil_of_le (by show s.data.toList.length≤i;rw[Array.length_toList];show s.size≤i;omega),List.append_nil]
 | n+1,i,r,h=>by
   have hi:i<s.data.toList.length:=by rw[Array.length_toList];show i<s.size;omega
   unfold ByteArray.toList.loop
   rw[if_pos (by omega),yn s n (i+1) _ (by omega),List.drop_eq_getElem_cons hi]
   have e:s.get! i=s.data.toList[i]:=by
    have h2:i<s.data.size:=by simpa using hi
    show s.data[i]! =_
    rw[getElem!_pos s.data i h2];simp
   rw[e];simp
theorem UZ (s:ByteArray):s.toList=s.data.toList:=by
 unfold ByteArray.toList
 rw[yn s s.size 0 [] (by omega)];simp
theorem y4 (l:List UInt8):(ZN l).toList=l:=by rw[UZ,JH]
def zH (c:UInt8):List UInt8→List (List UInt8)
 |[]=>[[]]
 | b::r=>if b=c then []::zH c r else match zH c r with
   |p::ps=>(b::p)::ps
   |[]=>[[b]]
theorem j5 (c b:UInt8)(r:List UInt8):zH c (b::r)=if b=c then []::zH c r else match zH c r with
 |p::ps=>(b::p)::ps
 |[]=>[[b]]:=rfl
theorem yx (b:UInt8)(l:List UInt8)(c:UInt8):Lib.indexByte (b::l) c=if b==c then 0 else if Lib.indexByte l c== -1 then -1 else Lib.indexByte l c+1:=rfl
theorem qx (c:UInt8):∀l,zH c l≠ []
 |[]=>by simp[zH]
 | b::r=>by
   unfold zH
   split
   · simp
   · split<;>simp
theorem y7 (c:UInt8):∀l,(zH c l).length=l.count c+1
 |[]=>rfl
 | b ::r=>by
   unfold zH
   have ih:=y7 c r
   by_cases h:b=c
   · rw[if_pos h,List.length_cons,ih,h,List.count_cons_self]
   · rw[if_neg h,List.count_cons_of_ne h]
     have hne:=qx c r
     cases hs:zH c r with
     |nil=>exact absurd hs hne
     |cons p ps=>rw[hs] at ih;exact ih
theorem QI (c:UInt8)(l:List UInt8):l.count c≤l.length:=List.count_le_length
theorem y6 (c:UInt8):∀l:List UInt8,∀w∈zH c l,w.length≤l.length
 | [],w,h=>by
   simp[zH] at h;subst h;simp
 | b ::r,w,h=>by
   rw[j5] at h
   have ih:=y6 c r
   split at h
   · rcases List.mem_cons.1 h with rfl|h
     · simp
     · have:=ih w h;simp;omega
   · cases hs:zH c r with
     |nil=>exact absurd hs (qx c r)
     | cons p ps=>
       rw[hs] at h ih
       rcases List.mem_cons.1 h with rfl|h
       · have:=ih p (.head _);simp;omega
       · have:=ih w (.tail _ h);simp;omega
theorem j4 {c:UInt8}:∀{l:List UInt8},l.count c=0→zH c l=[l]
 |[],_=>rfl
 | b::r,h=>by
   have hb:b≠c:=fun e=>by rw[e,List.count_cons_self] at h;omega
   rw[List.count_cons_of_ne hb] at h
   unfold zH
   rw[if_neg hb,j4 h]
theorem u4 {c:UInt8}:∀{l:List UInt8},0<l.count c→∃m:Nat,Lib.indexByte l c=(m:Int)∧m<l.length∧zH c l=l.take m::zH c (l.drop (m+1))∧(l.drop (m+1)).count c+1=l.count c
 |[],h=>by simp at h
 | b ::r,h=>by
   rw[yx,j5]
   by_cases hb:b=c
   · subst hb
     exact⟨0,by simp,by simp,by simp,by simp⟩
   · rw[List.count_cons_of_ne hb] at h
     obtain⟨m,h1,h2,h3,h4⟩:=u4 h
     have hbe:(b==c)=false:=by simpa using hb
     refine⟨m+1,?_,by simp;omega,?_,?_⟩
     · rw[hbe,h1]
       have:((m:Int)== -1)=false:=by simp
       simp[this]
     · rw[if_neg hb,h3];simp
     · rw[List.count_cons_of_ne hb];simpa using h4
def Zc (ps:List (List UInt8)):List za:=ps.map fun p=> .sc (.string (ZN p))
theorem zD (ps:List (List UInt8)):(Zc ps).length=ps.length:=by simp[Zc]
theorem Qn {ps:List (List UInt8)}{k:Nat}{p:List UInt8}(h:ps[k]?=some p):(Zc ps)[k]?=some (.sc (.string (ZN p))):=by simp[Zc,h]
theorem xk (ps:List (List UInt8))(k:Nat)(p:List UInt8):(Zc ps).set k (.sc (.string (ZN p)))=Zc (ps.set k p):=by simp[Zc,List.map_set]
theorem QX (ps:List (List UInt8))(p:List UInt8):Zc ps++[.sc (.string (ZN p))]=Zc (ps++[p]):=by simp[Zc]
theorem kM (ps:List (List UInt8))(a b:Nat):z7 (Zc ps) 1 a b=Zc ((ps.drop a).take (b - a)):=by simp[z7,Zc,List.map_take,List.map_drop]
theorem q3 (ps:List (List UInt8)):za.plainL (Zc ps)=true:=(jm (fun p=> .string (ZN p)) ps).1
theorem U5 (ps:List (List UInt8)):za.flatL (Zc ps)=true:=(jm (fun p=> .string (ZN p)) ps).2
theorem yp :∀ps:List (List UInt8),za.cellOkL (Zc ps)=true
 |[]=>rfl
 | p::ps=>by
   have:=yp ps
   simpa[Zc,za.cellOkL,za.cellOk] using this
theorem qQ (ps:List (List UInt8)):za.copyableL (Zc ps)=true:=plain_copyableL _ (q3 ps)
theorem xl (ps:List (List UInt8)):za.freezeL (Zc ps)=Zc ps:=copyable_freezeL _ (qQ ps)
theorem wP (ps:List (List UInt8)):za.ids0L (Zc ps)=true:=plain_ids0L _ (q3 ps)
theorem kL (g:Nat→Option Nat)(ps:List (List UInt8)):za.renL g (Zc ps)=Zc ps:=ids0_renL g _ (wP ps)
theorem U4 (n:Nat):zB [.string (ZN [])] n=Zc (List.replicate n []):=by
 simp only[zB,List.map]
 induction n with
 |zero=>rfl
 |succ n ih=>simp only[List.replicate_succ,List.flatten_cons,ih];rfl
theorem uV (l:List UInt8):ByteArray.mk l.toArray=ZN l:=rfl
theorem gL (a b:List UInt8):jC .eql (ZN a) (ZN b)=some (.bool (decide (a=b))):=by
 unfold jC
 simp only[y4]
theorem gK (a b:List UInt8):jC .neq (ZN a) (ZN b)=some (.bool (!decide (a=b))):=by
 unfold jC
 simp only[y4]
theorem gO (a b:List UInt8):jC .add (ZN a) (ZN b)=if a.length+b.length≤9223372036854775807 then some (.string (ZN (a++b))) else none:=by
 unfold jC
 simp only[xm,gN]
theorem Ws {a b:List UInt8}(h:a.length+b.length≤1000000000000):jC .add (ZN a) (ZN b)=some (.string (ZN (a++b))):=by
 rw[gO,if_pos (by omega)]
attribute [go_sem] JH uV gL gK xm ph gM zD q3 U5 yp qQ xl wP kL
def W6 :List (List UInt8×Int):=[([],0),([118,101,114,116,105,99,101,115],1),([97,100,100],2),([114,101,109,111,118,101],2),([103,114,111,119],0),([99,117,116],1),([109,97,116,99,104],1),([103,97,108,108,97,105],0),([98,97,114,114,105,101,114],0),([115,105,100,101,115],0),([98,108,111,99,107,115],0),([102,97,99,116,111,114], -1),([99,111,118,101,114],0),([99,108,97,115,115,105,102,121],0),([116,101,108,108],0)]
def WP (x:List UInt8×Int):List za:=[.sc (.string (ZN x.1)),.sc (.int .i64 x.2)]
theorem yQ (x:List UInt8×Int):(WP x).length=2:=rfl
def wy (b:UInt8):Bool:=decide (48≤b.toNat)&&decide (b.toNat≤57)
def val (w:List UInt8):Nat:=w.foldl (fun n b=>10*n+(b.toNat - 48)) 0
theorem yV (w:List UInt8)(b:UInt8):val (w++[b])=10*val w+(b.toNat - 48):=by simp[val]
theorem kB :∀w:List UInt8,w.all wy=true→val w<10^w.length:=by
 intro w
 induction hn:w.length generalizing w with
 | zero=>
   intro _
   have:w=[]:=List.length_eq_zero_iff.1 hn
   subst this;decide
 | succ n ih=>
   intro h
   have hne:w≠ []:=by intro e;rw[e] at hn;simp at hn
   obtain⟨v,b,rfl⟩:∃v b,w=v++[b]:=⟨w.dropLast,w.getLast hne,(List.dropLast_concat_getLast hne).symm⟩
   rw[List.all_append,Bool.and_eq_true] at h
   have hv:=ih v (by simp at hn;exact hn) h.1
   have hb:wy b=true:=by simpa using h.2
   unfold wy at hb
   rw[Bool.and_eq_true,decide_eq_true_iff,decide_eq_true_iff] at hb
   rw[yV,Nat.pow_succ]
   omega
def Jj (w:List UInt8):Option Nat:=if w.length<1∨9<w.length∨(1<w.length∧w.getD 0 0=48)∨w.all wy=false then none else some (val w)
def ZY :List (List UInt8)→Option (List Nat)
 |[]=>some []
 | w::ws=>match Jj w with
   |none=>none
   |some n=>(ZY ws).map (n:: ·)
def hit (p:List UInt8)(x:List UInt8×Int):Bool:=decide (x.1≠ [])&&decide (x.1=p)
structure PK where
 kind:Nat
 a:Nat
 b:Nat
 list:List Nat
def je (l:List UInt8):PK×Int:=
 if 65536<l.length then(⟨0,0,0,[]⟩,8) else
 match W6.findIdx? (hit ((zH 32 l).headD [])) with
 |none=>(⟨0,0,0,[]⟩,15)
 | some k=>
   if 0≤(W6.getD k ([],0)).2∧((zH 32 l).length:Int)≠(W6.getD k ([],0)).2+1 then(⟨0,0,0,[]⟩,15) else
   match ZY (zH 32 l).tail with
   |none=>(⟨0,0,0,[]⟩,15)
   | some ns=>
     if(W6.getD k ([],0)).2<0 then(⟨k,0,0,ns⟩,0) else
     if k=6∧ns.getD 0 0≠1∧ns.getD 0 0≠2 then(⟨0,0,0,[]⟩,15) else(⟨k,ns.getD 0 0,ns.getD 1 0,[]⟩,0)
def PK.cells (c:PK):List za:=[.sc (.int .i64 (c.kind:Int)),.sc (.int .i64 (c.a:Int)),.sc (.int .i64 (c.b:Int)),.imm 1 (jb c.list)]
theorem jH (l xs:List za)(h:l.length=xs.length):zQ l 0 xs=xs:=by
 rcases xs with _|⟨A,_|⟨B,r⟩⟩
 · rw[List.length_eq_zero_iff.1 (show l.length=0 from h)];rfl
 · obtain⟨x,rfl⟩:=List.length_eq_one_iff.1 (show l.length=1 from h)
   rfl
 · show(l.take 0++(A::B::r))++l.drop (0+(A::B::r).length)=_
   rw[Nat.zero_add,List.drop_eq_nil_of_le (by omega)];simp
theorem Q8 (fs:List (List UInt8×Int)):za.plainL (zV WP fs)=true:=j9 (fun _=>rfl) fs
theorem KS (fs:List (List UInt8×Int)):za.flatL (zV WP fs)=true:=JM (fun _=>rfl) fs
theorem Ua (fs:List (List UInt8×Int)):za.cellOkL (zV WP fs)=true:=jI (fun _=>rfl) fs
theorem QF (fs:List (List UInt8×Int)):za.copyableL (zV WP fs)=true:=plain_copyableL _ (Q8 fs)
theorem u9 (fs:List (List UInt8×Int)):za.freezeL (zV WP fs)=zV WP fs:=copyable_freezeL _ (QF fs)
theorem xU (fs:List (List UInt8×Int)):za.ids0L (zV WP fs)=true:=plain_ids0L _ (Q8 fs)
theorem Gh (g:Nat→Option Nat)(fs:List (List UInt8×Int)):za.renL g (zV WP fs)=zV WP fs:=ids0_renL g _ (xU fs)
theorem qC :∀(a b:List (List UInt8)),ZY (a++b)=(ZY a).bind fun x=>(ZY b).map (x++ ·)
 |[],b=>by simp[ZY]
 | w::a,b=>by
   show(match Jj w with|none=>none|some n=>(ZY (a++b)).map (n:: ·))=(match Jj w with|none=>none|some n=>(ZY a).map (n:: ·)).bind _
   rw[qC a b]
   cases Jj w with
   |none=>rfl
   |some n=>cases ZY a<;>cases ZY b<;>rfl
theorem Ym {a b:List (List UInt8)}{w:List UInt8}(h:Jj w=none):ZY (a++w::b)=none:=by
 rw[qC]
 cases ZY a with
 |none=>rfl
 |some x=>show(match Jj w with|none=>none|some n=>(ZY b).map (n:: ·)).map _=none;rw[h];rfl
attribute [go_sem] Int.reduceToNat jH List.length_cons List.length_nil Q8 KS Ua QF u9 xU Gh yQ
theorem yg (l:List UInt8):za.plainL (jK l)=true:=(jm (fun b:UInt8=> .int .u8 (b.toNat:Int)) l).1
theorem gf (l:List UInt8):za.flatL (jK l)=true:=(jm (fun b:UInt8=> .int .u8 (b.toNat:Int)) l).2
theorem Y7 :∀l:List UInt8,za.cellOkL (jK l)=true
 |[]=>rfl
 | b::l=>by
   have:=Y7 l
   simpa[jK,za.cellOkL,za.cellOk] using this
theorem QO (l:List UInt8):za.copyableL (jK l)=true:=plain_copyableL _ (yg l)
theorem Qg (l:List UInt8):za.freezeL (jK l)=jK l:=copyable_freezeL _ (QO l)
theorem uf (l:List UInt8):za.ids0L (jK l)=true:=plain_ids0L _ (yg l)
theorem Gt (g:Nat→Option Nat)(l:List UInt8):za.renL g (jK l)=jK l:=ids0_renL g _ (uf l)
theorem KH (l:List za):(za.tup l).ids0=za.ids0L l:=by simp only[za.ids0]
theorem vO (A:za)(l:List za):za.ids0L (A::l)=(A.ids0&&za.ids0L l):=by simp only[za.ids0L]
theorem KI (s:Nat)(l:List za):(za.imm s l).ids0=za.ids0L l:=by simp only[za.ids0]
attribute [go_sem] KH vO KI jo yg gf Y7 QO Qg uf Gt
def yk (l:List UInt8):List (List UInt8):=if(zH 10 l).getLast?=some [] then(zH 10 l).dropLast else zH 10 l
theorem ug :yk []=[]:=by decide
theorem gm {l:List UInt8}(h:l.count 10=0)(hl:l≠ []):yk l=[l]:=by
 unfold yk
 rw[j4 h,if_neg]
 simpa using hl
theorem kx {l:List UInt8}{m:Nat}(h:zH 10 l=l.take m::zH 10 (l.drop (m+1))):yk l=l.take m::yk (l.drop (m+1)):=by
 unfold yk
 have hne:=qx 10 (l.drop (m+1))
 rw[h]
 generalize zH 10 (l.drop (m+1))=q at hne
 obtain⟨x,r,rfl⟩:∃x r,q=x::r:=by
  cases q with
  |nil=>exact absurd rfl hne
  |cons x r=>exact⟨x,r,rfl⟩
 rw[List.getLast?_cons_cons]
 split<;>simp[List.dropLast]
theorem KG {l:List UInt8}{c:UInt8}:l.count c=0→Lib.indexByte l c= -1:=by
 induction l with
 |nil=>intro _;rfl
 | cons b r ih=>
   intro h
   have hb:b≠c:=fun e=>by rw[e,List.count_cons_self] at h;omega
   rw[List.count_cons_of_ne hb] at h
   have hbe:(b==c)=false:=by simpa using hb
   rw[yx,hbe,ih h];rfl
end Go.Ga.Gl
set_option maxRecDepth 100000
set_option maxHeartbeats 4000000
namespace Go.Proofs.YtneiihheeghdcaaDoor
open Go Go.Ga Go.Ga.Gl
theorem WZ (l:List UInt8):Lib.bytesOf (l.map fun b=>(b.toNat:Int))=l:=by
 unfold Lib.bytesOf
 rw[List.map_map]
 refine(List.map_congr_left fun b _=>?_).trans (List.map_id l)
 show UInt8.ofNat ((b.toNat:Int)).toNat=b
 rw[Int.toNat_natCast,UInt8.ofNat_toNat]
theorem Gu (l:List UInt8)(c:Int):zy Tryd.prog [] Pg [.imm 1 (jK l),.sc (.int .u8 c)] [] fun r h'=>r= .sc (.int .i64 (Lib.indexByte l c.toNat.toUInt8))∧h'=[]:=by
 refine W5 (by kernel_rfl) (fun a cap w hc=>?_) fun h w=>?_
 · have:=Tryd.bytes_IndexByte_at a l.length cap (l.map fun b=>(b.toNat:Int)) c w (by simp) (fun i hi=>by
    rw[hc i hi,List.getD_eq_getElem?_getD,List.getD_eq_getElem?_getD,List.getElem?_map,List.getElem?_eq_getElem hi];rfl)
   rw[WZ] at this
   exact this
 · subst h
   exact Any.bytes_IndexByte_nil Tryd.lays187 c w
theorem US (l:List UInt8)(a b:Nat):z7 (jK l) 1 a b=jK ((l.drop a).take (b - a)):=by simp[z7,jK,List.map_take,List.map_drop]
theorem Wm (l:List UInt8):zy Tryd.prog [] GJ [.imm 1 (jK l),.imm 1 (jK [10])] [] fun r h'=>r= .sc (.int .i64 (Lib.indexByte l 10))∧h'=[]:=by
 have e1:jK [10]=[.sc (.int .u8 10)]:=rfl
 rw[e1]
 refine pC rfl ?_
 unfold GY zg
 refine zc fun KY hKY=>?_
 simp only[go_sem,Xo]
 apply hKY
 refine zc fun KY hKY=>?_
 simp only[go_sem,Xn]
 apply hKY
 refine zi fun X1 hn1 he1 hr1=>?_
 refine zO fun X2 hn2 he2 hf2 hr2=>?_
 refine zc fun KY hKY=>?_
 simp only[go_sem,Xm]
 apply hKY
 refine qv ?_
 refine zc fun KY hKY=>?_
 simp only[go_sem,Xl]
 apply hKY
 refine JX ?_
 refine zc fun KY hKY=>?_
 simp only[go_sem,Xk]
 refine zF rfl (by simp only[go_sem]<;>rfl) ((Gu l 10).mono ?_)
 rintro rr hh ⟨rfl,rfl⟩
 refine⟨rfl,rfl,rfl,?_⟩
 simp only[go_sem]
 apply hKY
 refine zo ?_
 repeat (first|refine hr2 _ ?_|refine hr1 _ ?_)
 simp only[go_sem]
 rfl
theorem pV (l:List UInt8)(h:Lib.indexByte l 10= -1):zy Tryd.prog [] xE [.imm 1 (jK l),.imm 1 (jK [10])] [] fun r h'=>r= .tup [.imm 1 (jK l),.sc (.slice none 0 0),.sc (.bool false)]∧h'=[]:=by
 have hI:=Wm l
 rw[h] at hI
 refine KR rfl ?_
 unfold ge JU
 refine zc fun KY hKY=>?_
 simp only[go_sem,YY]
 apply hKY
 refine zi fun X1 hn1 he1 hr1=>?_
 refine zc fun KY hKY=>?_
 simp only[go_sem,YX]
 refine zF rfl (by simp only[go_sem]<;>rfl) ((hI).mono ?_)
 rintro rr hh ⟨rfl,rfl⟩
 refine⟨rfl,rfl,rfl,?_⟩
 simp only[go_sem]
 apply hKY
 refine zc fun KY hKY=>?_
 simp only[go_sem,YW]
 apply hKY
 refine qv ?_
 refine zn ?_
 repeat (first|refine hn1 _ ?_|refine he1 _ _ ?_)
 refine zc fun KY hKY=>?_
 simp only[go_sem,Xx]
 apply hKY
 refine zo ?_
 repeat (first|refine hr1 _ ?_)
 simp only[go_sem]
theorem Gj (l:List UInt8)(m:Nat)(h:Lib.indexByte l 10=(m:Int))(hm:m<l.length)(hl:l.length≤1000000000):zy Tryd.prog [] xE [.imm 1 (jK l),.imm 1 (jK [10])] [] fun r h'=>r= .tup [.imm 1 (jK (l.take m)),.imm 1 (jK (l.drop (m+1))),.sc (.bool true)]∧h'=[]:=by
 have hI:=Wm l
 rw[h] at hI
 have d0:decide (0≤(m:Int))=true:=decide_eq_true (by omega)
 have w1:IntKind.i64.wrap ((m:Int)+1)=((m+1:Nat):Int):=by rw[IntWalk.i64_in _ (by omega)];omega
 have e1:(jK [10]).length=1:=rfl
 have c1:z7 (jK l) 1 0 m=jK (l.take m):=by rw[US];simp
 have c2:z7 (jK l) 1 (m+1) l.length=jK (l.drop (m+1)):=by
  rw[US,List.take_of_length_le (by simp)]
 refine KR rfl ?_
 unfold ge JU
 refine zc fun KY hKY=>?_
 simp only[go_sem,YY]
 apply hKY
 refine zi fun X1 hn1 he1 hr1=>?_
 refine zc fun KY hKY=>?_
 simp only[go_sem,YX]
 refine zF rfl (by simp only[go_sem]<;>rfl) ((hI).mono ?_)
 rintro rr hh ⟨rfl,rfl⟩
 refine⟨rfl,rfl,rfl,?_⟩
 simp only[go_sem]
 apply hKY
 refine zc fun KY hKY=>?_
 simp only[go_sem,YW,d0]
 apply hKY
 refine JX ?_
 refine ZO fun KY hKY=>?_
 simp only[go_sem,Xy,jo,e1,w1,(show m≤l.length by omega),(show m+1≤l.length by omega),c1,c2,Nat.le_refl]
 refine(fun H=>by refine⟨⟨hKY _ ?_,hKY _ ?_⟩,hKY _ ?_⟩<;>(simp only[go_sem];exact H)) ?_
 refine zo ?_
 repeat (first|refine hr1 _ ?_)
 simp only[go_sem]
theorem yP (l:List UInt8)(hl:l.length≤1000000):zy Tryd.prog [] GQ [.imm 1 (jK l)] [] fun r h'=>r= .own (some 1) (Zc (yk l))∧h'=[]:=by
 refine pL rfl ?_
 unfold G7 jM
 refine zc fun KY hKY=>?_
 simp only[go_sem,X0]
 apply hKY
 refine zc fun KY hKY=>?_
 simp only[go_sem,XZ]
 apply hKY
 refine ZE [0,3] 1 (by simp only[go_sem]) ?_
 simp only[go_sem]
 rw[show za.own (some 1) []= .own (some 1) (Zc []) from rfl]
 refine zi fun X1 hn1 he1 hr1=>?_
 refine zO fun X2 hn2 he2 hf2 hr2=>?_
 try simp only[go_sem]
 refine Jz (α:=List (List UInt8)×List UInt8) [4,5,6,9] (fun(acc,r)=>[(0,.imm 1 (jK r)),(3,.own (some 1) (Zc acc))]) (fun(acc,r)=>[]) (fun(acc,r) q=>yk l=acc++yk r∧acc.length+r.length≤l.length∧q=r.length) (([],l)) (l.length) rfl (by first|(simp only[go_sem,zk,zl];done)|with_reducible rfl|rfl) (⟨rfl,by simp,rfl⟩) ?_
 rintro⟨acc,r⟩ q ⟨hall,hlen,rfl⟩ X3 hn3 he3 hr3
 simp only[go_sem,zk,zl]
 refine zi fun X4 hn4 he4 hr4=>?_
 by_cases hr:r=[]
 · subst hr
   have hdx:decide (0<((([]:List UInt8).length:Nat):Int))=false:=rfl
   refine zc fun KY hKY=>?_
   simp only[go_sem,QN]
   apply hKY
   refine qv ?_
   refine ZW ?_
   repeat (first|refine hn4 _ ?_|refine he4 _ _ ?_|refine he3 _ _ ?_|refine hn2 _ ?_|refine he2 _ ?_|refine hf2 _ _ (by decide) ?_|refine hn1 _ ?_|refine he1 _ _ ?_)
   refine zc fun KY hKY=>?_
   simp only[go_sem,XY]
   apply hKY
   refine zo ?_
   repeat (first|refine hr4 _ ?_|refine hr3 _ ?_|refine hr2 _ ?_|refine hr1 _ ?_)
   simp only[go_sem]
   rw[hall,ug,List.append_nil]
 have hr1:1≤r.length:=List.length_pos_iff.2 hr
 have hdx:decide (0<(r.length:Int))=true:=decide_eq_true (by omega)
 have hsz:(acc.length+1)*16≤140737488355328:=by omega
 by_cases hc:r.count 10=0
 · have hC:=pV r (KG hc)
   have hC2:zy Tryd.prog [] xE [.imm 1 (jK r),.own (some 1) [.sc (.int .u8 10)]] [] _:=zy.fzArgs (by simp only[List.map,za.freeze,za.freezeL,Qg];exact hC)
   refine zc fun KY hKY=>?_
   simp only[go_sem,QN,hdx]
   apply hKY
   refine JX ?_
   refine zn ?_
   repeat (first|refine hn4 _ ?_|refine he4 _ _ ?_|refine he3 _ _ ?_|refine hn2 _ ?_|refine he2 _ ?_|refine hf2 _ _ (by decide) ?_|refine hn1 _ ?_|refine he1 _ _ ?_)
   refine zO fun X5 hn5 he5 hf5 hr5=>?_
   refine zc fun KY hKY=>?_
   simp only[go_sem,Y6]
   apply ZZ [.vw,.fz] [] false none rfl
   iterate 8 (first|(simp only[go_sem,zP]<;>rfl)|rfl)
   refine(hC2).mono ?_
   rintro _ _ ⟨rfl,rfl⟩
   refine⟨Nat.le_of_ble_eq_true rfl,(fun hh=>by cases hh),?_⟩
   simp only[go_sem,Zv,zb.after]
   apply hKY
   refine ZE [0,5] 1 (by simp only[go_sem]) ?_
   simp only[go_sem]
   refine zW [0,5] (by simp only[go_sem];rfl) ?_
   simp only[go_sem]
   refine zc fun KY hKY=>?_
   simp only[go_sem,Y5,QX,hsz,uV]
   apply hKY
   refine zX fun KY hKY=>?_
   simp only[go_sem,Y4]
   apply hKY
   repeat (first|refine hn5 _ ?_|refine he5 _ ?_|refine hf5 _ _ (by decide) ?_|refine hn4 _ ?_|refine he4 _ _ ?_)
   refine hn3 _ ((acc++[r],[])) (0) (by omega) (by first|(simp only[go_sem,zk,zl,(show jK ([]:List UInt8)=[] from rfl)];done)|with_reducible rfl) ?_
   exact⟨by rw[hall,gm hc hr,ug];simp,by simp;omega,rfl⟩
 · obtain⟨m,hm1,hm2,hm3,hm4⟩:=u4 (c:=10) (l:=r) (by omega)
   have hC:=Gj r m hm1 hm2 (by omega)
   have hC2:zy Tryd.prog [] xE [.imm 1 (jK r),.own (some 1) [.sc (.int .u8 10)]] [] _:=zy.fzArgs (by simp only[List.map,za.freeze,za.freezeL,Qg];exact hC)
   refine zc fun KY hKY=>?_
   simp only[go_sem,QN,hdx]
   apply hKY
   refine JX ?_
   refine zn ?_
   repeat (first|refine hn4 _ ?_|refine he4 _ _ ?_|refine he3 _ _ ?_|refine hn2 _ ?_|refine he2 _ ?_|refine hf2 _ _ (by decide) ?_|refine hn1 _ ?_|refine he1 _ _ ?_)
   refine zO fun X6 hn6 he6 hf6 hr6=>?_
   refine zc fun KY hKY=>?_
   simp only[go_sem,Y6]
   apply ZZ [.vw,.fz] [] false none rfl
   iterate 8 (first|(simp only[go_sem,zP]<;>rfl)|rfl)
   refine(hC2).mono ?_
   rintro _ _ ⟨rfl,rfl⟩
   refine⟨Nat.le_of_ble_eq_true rfl,(fun hh=>by cases hh),?_⟩
   simp only[go_sem,Zv,zb.after]
   apply hKY
   refine zc fun KY hKY=>?_
   simp only[go_sem,Y5,QX,hsz,uV]
   apply hKY
   refine zX fun KY hKY=>?_
   simp only[go_sem,Y4]
   apply hKY
   repeat (first|refine hn6 _ ?_|refine he6 _ ?_|refine hf6 _ _ (by decide) ?_|refine hn4 _ ?_|refine he4 _ _ ?_)
   refine hn3 _ ((acc++[r.take m],r.drop (m+1))) (r.length - (m+1)) (by omega) (by first|(simp only[go_sem,zk,zl];done)|with_reducible rfl) ?_
   exact⟨by rw[hall,kx hm3];simp,by simp;omega,by simp⟩
theorem KZ (l:List UInt8)(c:UInt8):zy Tryd.prog [] Ph [.sc (.string (ZN l)),.sc (.string ⟨#[c]⟩)] [] fun r h'=>r= .sc (.int .i64 ((l.count c:Nat):Int))∧h'=[]:=
 yB (us:=[.string (ZN l),.string ⟨#[c]⟩]) (by kernel_rfl) fun w=>by
  have:=Tryd.strings_Count_one (ZN l) c w
  rw[JH] at this
  exact this
theorem kR (l:List UInt8)(c:Int):zy Tryd.prog [] Pf [.sc (.string (ZN l)),.sc (.int .u8 c)] [] fun r h'=>r= .sc (.int .i64 (Lib.indexByte l c.toNat.toUInt8))∧h'=[]:=
 yB (us:=[.string (ZN l),.int .u8 c]) (by kernel_rfl) fun w=>by
  have:=Tryd.stringslite_IndexByte (ZN l) c w
  rw[JH] at this
  exact this
theorem kQ (l:List UInt8):zy Tryd.prog [] GH [.sc (.string (ZN l)),.sc (.string ⟨#[32]⟩)] [] fun r h'=>r= .sc (.int .i64 (Lib.indexByte l 32))∧h'=[]:=by
 have h8:(((32:UInt8).toNat:Int))=32:=rfl
 have s1:(ZN [32]).size=1:=rfl
 refine pA rfl ?_
 unfold GW zx
 refine zc fun KY hKY=>?_
 simp only[go_sem,Xh]
 apply hKY
 refine zc fun KY hKY=>?_
 simp only[go_sem,Xg,List.length_cons,List.length_nil]
 apply hKY
 refine zi fun X1 hn1 he1 hr1=>?_
 refine zO fun X2 hn2 he2 hf2 hr2=>?_
 by_cases e:l=[32]
 · subst e
   refine zc fun KY hKY=>?_
   simp only[go_sem,YV,List.length_cons,List.length_nil]
   apply hKY
   refine JX ?_
   refine zc fun KY hKY=>?_
   simp only[go_sem,Xf]
   apply hKY
   refine zo ?_
   repeat (first|refine hr2 _ ?_|refine hr1 _ ?_)
   simp only[go_sem]
   rfl
 · have hd:decide (([32]:List UInt8)=l)=false:=decide_eq_false fun h=>e h.symm
   refine zc fun KY hKY=>?_
   simp only[go_sem,YV,hd,List.length_cons,List.length_nil]
   apply hKY
   refine qv ?_
   refine zc fun KY hKY=>?_
   simp only[go_sem,Xe]
   apply hKY
   refine JX ?_
   refine zc fun KY hKY=>?_
   simp only[go_sem,Xd,List.length_cons,List.length_nil]
   refine zF rfl (by simp only[go_sem]<;>rfl) ((kR l 32).mono ?_)
   rintro rr hh ⟨rfl,rfl⟩
   refine⟨rfl,rfl,rfl,?_⟩
   simp only[go_sem]
   apply hKY
   refine zo ?_
   repeat (first|refine hr2 _ ?_|refine hr1 _ ?_)
   simp only[go_sem]
   rfl
theorem U8 (l:List UInt8):zy Tryd.prog [] GI [.sc (.string (ZN l)),.sc (.string (ZN [32]))] [] fun r h'=>r= .sc (.int .i64 (Lib.indexByte l 32))∧h'=[]:=by
 refine pB rfl ?_
 unfold GX wF
 refine zc fun KY hKY=>?_
 simp only[go_sem,Xj]
 apply hKY
 refine zc fun KY hKY=>?_
 simp only[go_sem,Xi]
 refine zF rfl (by simp only[go_sem]<;>rfl) ((kQ l).mono ?_)
 rintro rr hh ⟨rfl,rfl⟩
 refine⟨rfl,rfl,rfl,?_⟩
 simp only[go_sem]
 apply hKY
 refine zo ?_
 simp only[go_sem]
theorem xT (l:List UInt8)(hl:l.length≤1000000000):zy Tryd.prog [] GK [.sc (.string (ZN l)),.sc (.string (ZN [32])),.sc (.int .i64 0),.sc (.int .i64 (-1))] [] fun r h'=>r= .own (some 1) (Zc (zH 32 l))∧h'=[]:=by
 obtain⟨c,hc⟩:∃c,c=l.count 32:=⟨_,rfl⟩
 have hcl:=QI 32 l
 rw[←hc] at hcl
 have hC:=KZ l 32
 rw[←hc] at hC
 have w1:IntKind.i64.wrap ((c:Int)+1)=((c+1:Nat):Int):=by rw[IntWalk.i64_in _ (by omega)];omega
 have w2:IntKind.i64.wrap ((l.length:Int)+1)=((l.length+1:Nat):Int):=by rw[IntWalk.i64_in _ (by omega)];omega
 have hmn:min ((c+1:Nat):Int) ((l.length+1:Nat):Int)=((c+1:Nat):Int):=by omega
 have hmk:16*(c+1)≤140737488355328∧((c+1:Nat):Int)≤9223372036854775807:=by omega
 have w3:IntKind.i64.wrap (((c+1:Nat):Int) - 1)=(c:Int):=by rw[IntWalk.i64_in _ (by omega)];omega
 refine pD rfl ?_
 unfold GZ z1
 refine zc fun KY hKY=>?_
 simp only[go_sem,Xw]
 apply hKY
 refine zi fun X1 hn1 he1 hr1=>?_
 refine zc fun KY hKY=>?_
 simp only[go_sem,Xv]
 apply hKY
 refine qv ?_
 refine zn ?_
 repeat (first|refine hn1 _ ?_|refine he1 _ _ ?_)
 refine zi fun X2 hn2 he2 hr2=>?_
 refine zc fun KY hKY=>?_
 simp only[go_sem,Xu]
 apply hKY
 refine qv ?_
 refine zn ?_
 repeat (first|refine hn2 _ ?_|refine he2 _ _ ?_|refine hn1 _ ?_|refine he1 _ _ ?_)
 refine zi fun X3 hn3 he3 hr3=>?_
 refine zc fun KY hKY=>?_
 simp only[go_sem,Xt]
 apply hKY
 refine JX ?_
 refine zX fun KY hKY=>?_
 simp only[go_sem,Xs]
 refine zF rfl (by simp only[go_sem]<;>rfl) ((hC).mono ?_)
 rintro rr hh ⟨rfl,rfl⟩
 refine⟨rfl,rfl,rfl,?_⟩
 simp only[go_sem,w1]
 apply hKY
 repeat (first|refine hn3 _ ?_|refine he3 _ _ ?_|refine hn2 _ ?_|refine he2 _ _ ?_|refine hn1 _ ?_|refine he1 _ _ ?_)
 refine zc fun KY hKY=>?_
 simp only[go_sem,Xr,w2,hmn]
 apply hKY
 refine zc fun KY hKY=>?_
 simp only[go_sem,Xq,hmk,Int.le_refl,U4]
 apply hKY
 refine zc fun KY hKY=>?_
 simp only[go_sem,Xp,w3]
 apply hKY
 refine zc fun KY hKY=>?_
 simp only[go_sem,Wk]
 apply hKY
 refine zi fun X4 hn4 he4 hr4=>?_
 refine zO fun X5 hn5 he5 hf5 hr5=>?_
 try simp only[go_sem]
 refine Jz (α:=Nat×List (List UInt8)×List UInt8) [11,36,41] (fun(i,z,r)=>[(0,.sc (.string (ZN r))),(9,.own (some 1) (Zc (z++List.replicate (c+1 - i) []))),(10,.sc (.int .i64 (i:Int)))]) (fun(i,z,r)=>[]) (fun(i,z,r) q=>i≤c∧z.length=i∧zH 32 l=z++zH 32 r∧i+r.count 32=c∧r.length≤l.length∧q=c - i) ((0,[],l)) (c) rfl (by first|(simp only[go_sem,zk,zl];done)|with_reducible rfl|rfl) (⟨Nat.zero_le _,rfl,rfl,by omega,Nat.le_refl _,rfl⟩) ?_
 rintro⟨i,z,r⟩ q ⟨hi,hzl,hsp,hcr,hrl,rfl⟩ X6 hn6 he6 hr6
 simp only[go_sem,zk,zl]
 refine zi fun X7 hn7 he7 hr7=>?_
 rcases Nat.lt_or_ge i c with hi2|hi2
 · have hdx:decide ((i:Int)<(c:Int))=true:=decide_eq_true (by omega)
   obtain⟨m,hm1,hm2,hm3,hm4⟩:=u4 (c:=32) (l:=r) (by omega)
   have hI:=U8 r
   rw[hm1] at hI
   have hd0:decide ((m:Int)<0)=false:=decide_eq_false (by omega)
   have wm0:IntKind.i64.wrap ((m:Int)+0)=(m:Int):=by rw[IntWalk.i64_in _ (by omega)];omega
   have wm1:IntKind.i64.wrap ((m:Int)+1)=((m+1:Nat):Int):=by rw[IntWalk.i64_in _ (by omega)];omega
   have hrep:List.replicate (c+1 - i) ([]:List UInt8)=[]::List.replicate (c+1 - (i+1)) []:=by
    rw[show c+1 - i=(c+1 - (i+1))+1 by omega,List.replicate_succ]
   have hset:(z++List.replicate (c+1 - i) []).set i (r.take m)=(z++[r.take m])++List.replicate (c+1 - (i+1)) []:=by
    rw[List.set_append_right _ _ (by omega),hrep,show i - z.length=0 by omega];simp
   have hzn:(z++List.replicate (c+1 - i) ([]:List UInt8)).length=c+1:=by simp;omega
   refine zc fun KY hKY=>?_
   simp only[go_sem,yc,hdx]
   apply hKY
   refine JX ?_
   refine zn ?_
   repeat (first|refine hn7 _ ?_|refine he7 _ _ ?_|refine he6 _ _ ?_|refine hn5 _ ?_|refine he5 _ ?_|refine hf5 _ _ (by decide) ?_|refine hn4 _ ?_|refine he4 _ _ ?_|refine hn3 _ ?_|refine he3 _ _ ?_|refine hn2 _ ?_|refine he2 _ _ ?_|refine hn1 _ ?_|refine he1 _ _ ?_)
   refine zO fun X8 hn8 he8 hf8 hr8=>?_
   refine zc fun KY hKY=>?_
   simp only[go_sem,Wj]
   refine zF rfl (by simp only[go_sem]<;>rfl) ((hI).mono ?_)
   rintro rr hh ⟨rfl,rfl⟩
   refine⟨rfl,rfl,rfl,?_⟩
   simp only[go_sem]
   apply hKY
   refine zi fun X9 hn9 he9 hr9=>?_
   refine zc fun KY hKY=>?_
   simp only[go_sem,Wi,hd0]
   apply hKY
   refine qv ?_
   refine zn ?_
   repeat (first|refine hn9 _ ?_|refine he9 _ _ ?_|refine hn8 _ ?_|refine he8 _ ?_|refine hf8 _ _ (by decide) ?_|refine hn7 _ ?_|refine he7 _ _ ?_|refine he6 _ _ ?_|refine hn5 _ ?_|refine he5 _ ?_|refine hf5 _ _ (by decide) ?_|refine hn4 _ ?_|refine he4 _ _ ?_|refine hn3 _ ?_|refine he3 _ _ ?_|refine hn2 _ ?_|refine he2 _ _ ?_|refine hn1 _ ?_|refine he1 _ _ ?_)
   refine zc fun KY hKY=>?_
   simp only[go_sem,Wh,wm0,zD,hzn,(show i<c+1 by omega),(show m≤r.length by omega),xk,hset]
   apply hKY
   refine zc fun KY hKY=>?_
   simp only[go_sem,Wg,wm1,(show m+1≤r.length by omega),List.length_cons,List.length_nil,List.take_length,Nat.le_refl]
   apply hKY
   refine zX fun KY hKY=>?_
   simp only[go_sem,Wf,xP (show i<4611686018427387904 by omega)]
   apply hKY
   repeat (first|refine hn9 _ ?_|refine he9 _ _ ?_|refine hn8 _ ?_|refine he8 _ ?_|refine hf8 _ _ (by decide) ?_|refine hn7 _ ?_|refine he7 _ _ ?_)
   refine hn6 _ ((i+1,z++[r.take m],r.drop (m+1))) (c - (i+1)) (by omega) (by first|(simp only[go_sem,zk,zl];done)|with_reducible rfl) ?_
   exact⟨hi2,by simp[hzl],by rw[hsp,hm3];simp,by omega,by simp;omega,rfl⟩
 obtain rfl:i=c:=by omega
 have hdx:decide ((i:Int)<(i:Int))=false:=decide_eq_false (by omega)
 have hzn:(z++List.replicate (i+1 - i) ([]:List UInt8)).length=i+1:=by simp;omega
 have hset:(z++List.replicate (i+1 - i) []).set i r=z++[r]:=by
  rw[List.set_append_right _ _ (by omega),show i+1 - i=1 by omega,show i - z.length=0 by omega];simp
 have hw:IntKind.i64.wrap ((i:Int)+1)=((i+1:Nat):Int):=by rw[IntWalk.i64_in _ (by omega)];omega
 have hzl2:(z++[r]).length=i+1:=by simp[hzl]
 refine zc fun KY hKY=>?_
 simp only[go_sem,yc,hdx]
 apply hKY
 refine qv ?_
 refine ZW ?_
 repeat (first|refine hn7 _ ?_|refine he7 _ _ ?_|refine he6 _ _ ?_|refine hn5 _ ?_|refine he5 _ ?_|refine hf5 _ _ (by decide) ?_|refine hn4 _ ?_|refine he4 _ _ ?_|refine hn3 _ ?_|refine he3 _ _ ?_|refine hn2 _ ?_|refine he2 _ _ ?_|refine hn1 _ ?_|refine he1 _ _ ?_)
 refine zc fun KY hKY=>?_
 simp only[go_sem,We,zD,hzn,(show i<i+1 by omega),xk,hset]
 apply hKY
 refine zc fun KY hKY=>?_
 simp only[go_sem,Wd,hw,zD,hzl2,Nat.le_refl,kM]
 apply hKY
 refine zo ?_
 repeat (first|refine hr7 _ ?_|refine hr6 _ ?_|refine hr5 _ ?_|refine hr4 _ ?_|refine hr3 _ ?_|refine hr2 _ ?_|refine hr1 _ ?_)
 simp only[go_sem]
 rw[hsp,j4 (by omega)]
 simp
 rw[List.take_of_length_le (by simp;omega)]
theorem kP (l:List UInt8)(hl:l.length≤1000000000):zy Tryd.prog [] GP [.sc (.string (ZN l)),.sc (.string (ZN [32]))] [] fun r h'=>r= .own (some 1) (Zc (zH 32 l))∧h'=[]:=by
 refine pK rfl ?_
 unfold G6 wH
 refine zc fun KY hKY=>?_
 simp only[go_sem,XX]
 apply hKY
 refine zc fun KY hKY=>?_
 simp only[go_sem,XW]
 apply ZZ [] [] false none rfl
 iterate 8 (first|(simp only[go_sem,zP]<;>rfl)|rfl)
 refine(xT l hl).mono ?_
 rintro _ _ ⟨rfl,rfl⟩
 refine⟨Nat.le_of_ble_eq_true rfl,(fun hh=>by cases hh),?_⟩
 simp only[go_sem,Zv,zb.after]
 apply hKY
 refine zo ?_
 simp only[go_sem]
theorem KT :zy Tryd.prog [] GO [] [] fun r h'=>r= .agg (zV WP W6)∧h'=[]:=by
 refine pJ rfl ?_
 unfold G5 xb
 refine zc fun KY hKY=>?_
 simp only[go_sem,XV]
 apply hKY
 refine zc fun KY hKY=>?_
 simp only[go_sem,XU,jH,List.length_cons,List.length_nil]
 apply hKY
 refine zo ?_
 simp only[go_sem,jH,List.length_cons,List.length_nil]
 rfl
abbrev PO (ps:List (List UInt8)):za:= .ia [.imm 1 (Zc ps)]
theorem vL (x:List UInt8×Int)(p:List UInt8)(ps:List (List UInt8)):zy Tryd.prog [] Kx [.agg (WP x),.ia [PO (p::ps)]] [] fun r h'=>r= .sc (.bool (hit p x))∧h'=[]:=by
 obtain⟨w,n⟩:=x
 have h0:(Zc (p::ps))[0]?=some (.sc (.string (ZN p))):=rfl
 have hl:(Zc (p::ps)).length=ps.length+1:=by simp[Zc]
 unfold WP hit
 refine pH rfl ?_
 unfold G3 xa
 refine zc fun KY hKY=>?_
 simp only[go_sem,XM]
 apply hKY
 by_cases hw:w=[]
 · have hd:decide (w=[])=true:=decide_eq_true hw
   refine ZO fun KY hKY=>?_
   simp only[go_sem,Y2,hd]
   apply hKY
   refine zo ?_
   simp only[go_sem]
   simp[hw]
 · have hd:decide (w=[])=false:=decide_eq_false hw
   refine ZO fun KY hKY=>?_
   simp only[go_sem,Y2,hd,h0,hl,(show 1≤ps.length+1 by omega)]
   apply hKY
   refine zo ?_
   simp only[go_sem]
   simp[hw]
theorem vN (fs:List (List UInt8×Int))(p:List UInt8)(ps:List (List UInt8))(hf:fs.length≤1000):zy Tryd.prog [] GN [.imm 2 (zV WP fs),.fn (.func Kx) [] [.ia [PO (p::ps)]]] [] fun r h'=>(∃z:Int,r= .sc (.int .i64 z)∧((z= -1∧fs.findIdx? (hit p)=none)∨∃i:Nat,z=(i:Int)∧fs.findIdx? (hit p)=some i))∧h'=[]:=by
 have hpl:(zV WP fs).length=fs.length*2:=qA yQ fs
 refine pI rfl ?_
 unfold G4 jL
 refine zc fun KY hKY=>?_
 simp only[go_sem,XT]
 apply hKY
 refine zi fun X1 hn1 he1 hr1=>?_
 refine zc fun KY hKY=>?_
 simp only[go_sem,XS,hpl,Pi]
 apply hKY
 refine zO fun X2 hn2 he2 hf2 hr2=>?_
 try simp only[go_sem]
 refine Jz (α:=Nat) [5,9,16] (fun k=>[(8,.sc (.int .i64 (k:Int)))]) (fun k=>[]) (fun k q=>k≤fs.length∧(∀i x,i<k→fs[i]?=some x→hit p x=false)∧q=fs.length - k) (0) (fs.length) rfl (by first|(simp only[go_sem,zk,zl];done)|with_reducible rfl|rfl) (⟨Nat.zero_le _,fun i x h=>by omega,rfl⟩) ?_
 rintro k q ⟨hk,hno,rfl⟩ X3 hn3 he3 hr3
 simp only[go_sem,zk,zl]
 rcases Nat.lt_or_ge k fs.length with hk2|hk2
 · have hdx:decide ((k:Int)<(fs.length:Int))=true:=decide_eq_true (by omega)
   have hx:fs[k]?=some (fs[k]):=List.getElem?_eq_getElem hk2
   generalize fs[k]=x at hx
   have hc:=xB yQ hx
   have hI:=vL x p ps
   refine zc fun KY hKY=>?_
   simp only[go_sem,Y3,hdx]
   apply hKY
   refine zi fun X4 hn4 he4 hr4=>?_
   refine JX ?_
   refine zn ?_
   repeat (first|refine hn4 _ ?_|refine he4 _ _ ?_|refine he3 _ _ ?_|refine hn2 _ ?_|refine he2 _ ?_|refine hf2 _ _ (by decide) ?_|refine hn1 _ ?_|refine he1 _ _ ?_)
   refine zi fun X5 hn5 he5 hr5=>?_
   refine zO fun X6 hn6 he6 hf6 hr6=>?_
   refine zc fun KY hKY=>?_
   simp only[go_sem,XR]
   apply hKY
   refine zc fun KY hKY=>?_
   simp only[go_sem,XQ,hc,hpl,hk2,(show k*2+2≤fs.length*2 by omega),(show 2≤fs.length*2 - k*2 by omega),List.length_drop]
   refine zF rfl (by simp only[go_sem]<;>rfl) ((hI).mono ?_)
   rintro rr hh ⟨rfl,rfl⟩
   refine⟨rfl,rfl,rfl,?_⟩
   simp only[go_sem]
   apply hKY
   cases hh:hit p x with
   | true=>
     refine JX ?_
     refine zc fun KY hKY=>?_
     simp only[go_sem,XP]
     apply hKY
     refine zo ?_
     repeat (first|refine hr6 _ ?_|refine hr5 _ ?_|refine hr4 _ ?_|refine hr3 _ ?_|refine hr2 _ ?_|refine hr1 _ ?_)
     simp only[go_sem]
     refine⟨_,rfl,.inr ⟨k,rfl,?_⟩⟩
     rw[List.findIdx?_eq_some_iff_getElem]
     obtain⟨hk3,e⟩:=List.getElem?_eq_some_iff.1 hx
     refine⟨hk3,by rw[e];exact hh,fun j hj=>?_⟩
     rw[hno j _ hj (List.getElem?_eq_getElem (by omega))];decide
   | false=>
     refine qv ?_
     refine zn ?_
     repeat (first|refine hn6 _ ?_|refine he6 _ ?_|refine hf6 _ _ (by decide) ?_|refine hn5 _ ?_|refine he5 _ _ ?_|refine hn4 _ ?_|refine he4 _ _ ?_|refine he3 _ _ ?_|refine hn2 _ ?_|refine he2 _ ?_|refine hf2 _ _ (by decide) ?_|refine hn1 _ ?_|refine he1 _ _ ?_)
     refine zX fun KY hKY=>?_
     simp only[go_sem,XO,xP (show k<4611686018427387904 by omega)]
     apply hKY
     repeat (first|refine hn6 _ ?_|refine he6 _ ?_|refine hf6 _ _ (by decide) ?_|refine hn5 _ ?_|refine he5 _ _ ?_|refine hn4 _ ?_|refine he4 _ _ ?_)
     refine hn3 _ (k+1) (fs.length - (k+1)) (by omega) (by first|(simp only[go_sem,zk,zl];done)|with_reducible rfl) ?_
     refine⟨hk2,fun i y hi hy=>?_,rfl⟩
     by_cases e:i=k
     · subst e;rw[hx] at hy;cases hy;exact hh
     · exact hno i y (by omega) hy
 have hdx:decide ((k:Int)<(fs.length:Int))=false:=decide_eq_false (by omega)
 refine zc fun KY hKY=>?_
 simp only[go_sem,Y3,hdx]
 apply hKY
 refine zi fun X7 hn7 he7 hr7=>?_
 refine qv ?_
 refine ZW ?_
 repeat (first|refine hn7 _ ?_|refine he7 _ _ ?_|refine he3 _ _ ?_|refine hn2 _ ?_|refine he2 _ ?_|refine hf2 _ _ (by decide) ?_|refine hn1 _ ?_|refine he1 _ _ ?_)
 refine zc fun KY hKY=>?_
 simp only[go_sem,XN]
 apply hKY
 refine zo ?_
 repeat (first|refine hr7 _ ?_|refine hr3 _ ?_|refine hr2 _ ?_|refine hr1 _ ?_)
 simp only[go_sem]
 refine⟨_,rfl,.inl ⟨rfl,?_⟩⟩
 rw[List.findIdx?_eq_none_iff]
 intro x hx
 obtain⟨i,hi,e⟩:=List.getElem_of_mem hx
 exact hno i x (by omega) (by rw[←e];exact List.getElem?_eq_getElem hi)
theorem wV (ps:List (List UInt8)){k:Nat}{w:List UInt8}(hk:ps[k]?=some w)(hl:w.length≤1000000000):zy Tryd.prog [] GM [PO ps,.sc (.int .i64 (k:Int))] [] fun r h'=>r= .tup [.sc (.int .i64 (((Jj w).getD 0:Nat):Int)),.sc (.bool (Jj w).isSome)]∧h'=[]:=by
 have hkl:k<ps.length:=(List.getElem?_eq_some_iff.1 hk).1
 have hg:=Qn hk
 have hdl:k+1≤ps.length:=hkl
 refine pG rfl ?_
 unfold G2 ZD
 refine zc fun KY hKY=>?_
 simp only[go_sem,XL]
 apply hKY
 refine zc fun KY hKY=>?_
 simp only[go_sem,XK,hg,zD,hkl,hdl]
 apply hKY
 refine zi fun X1 hn1 he1 hr1=>?_
 rcases(show w.length<1∨(1≤w.length∧9<w.length)∨(1<w.length∧w.length≤9∧w.getD 0 0=48)∨(1≤w.length∧w.length≤9∧¬(1<w.length∧w.getD 0 0=48)) by
  by_cases h:w.getD 0 0=48
  · simp only[h,and_true,true_and];omega
  · simp only[h,and_false,false_and,not_false_eq_true,and_true];omega) with h1|⟨h1,h2⟩|⟨h1,h2,h3⟩|⟨h1,h2,h3⟩
 · have d1:decide ((w.length:Int)<1)=true:=decide_eq_true (by omega)
   have hn:Jj w=none:=if_pos (.inl h1)
   refine zc fun KY hKY=>?_
   simp only[go_sem,Jv,d1]
   apply hKY
   refine JX ?_
   refine zc fun KY hKY=>?_
   simp only[go_sem,QM]
   apply hKY
   refine zo ?_
   repeat (first|refine hr1 _ ?_)
   simp only[go_sem]
   rw[hn];rfl
 · have d1:decide ((w.length:Int)<1)=false:=decide_eq_false (by omega)
   have d2:decide (9<(w.length:Int))=true:=decide_eq_true (by omega)
   have hn:Jj w=none:=if_pos (.inr (.inl h2))
   refine zc fun KY hKY=>?_
   simp only[go_sem,Jv,d1,d2]
   apply hKY
   refine JX ?_
   refine zc fun KY hKY=>?_
   simp only[go_sem,QM]
   apply hKY
   refine zo ?_
   repeat (first|refine hr1 _ ?_)
   simp only[go_sem]
   rw[hn];rfl
 · have d1:decide ((w.length:Int)<1)=false:=decide_eq_false (by omega)
   have d2:decide (9<(w.length:Int))=false:=decide_eq_false (by omega)
   have d3:decide (1<(w.length:Int))=true:=decide_eq_true (by omega)
   have d4:decide (((w.getD 0 0).toNat:Int)=48)=true:=by rw[h3];rfl
   have hn:Jj w=none:=if_pos (.inr (.inr (.inl ⟨h1,h3⟩)))
   refine zc fun KY hKY=>?_
   simp only[go_sem,Jv,d1,d2,d3,d4,(show 0<w.length by omega)]
   apply hKY
   refine JX ?_
   refine zc fun KY hKY=>?_
   simp only[go_sem,QM]
   apply hKY
   refine zo ?_
   repeat (first|refine hr1 _ ?_)
   simp only[go_sem]
   rw[hn];rfl
 · have d1:decide ((w.length:Int)<1)=false:=decide_eq_false (by omega)
   have d2:decide (9<(w.length:Int))=false:=decide_eq_false (by omega)
   have hnn:∀b,w.all wy=b→Jj w=if b=false then none else some (val w):=fun b hb=>by
    unfold Jj
    cases b with
    |false=>rw[if_pos (.inr (.inr (.inr hb))),if_pos rfl]
    |true=>rw[if_neg (by rw[hb];rintro(h|h|h|h);omega;omega;exact h3 h;cases h),if_neg (by simp)]
   by_cases h4:1<w.length
   · have h5:¬w.getD 0 0=48:=fun e=>h3 ⟨h4,e⟩
     have d3:decide (1<(w.length:Int))=true:=decide_eq_true (by omega)
     have d4:decide (((w.getD 0 0).toNat:Int)=48)=false:=decide_eq_false fun e=>h5 (UInt8.toNat_inj.1 (Int.ofNat_inj.1 e))
     refine zc fun KY hKY=>?_
     simp only[go_sem,Jv,d1,d2,d3,d4,(show 0<w.length by omega)]
     apply hKY
     refine qv ?_
     refine zn ?_
     repeat (first|refine hn1 _ ?_|refine he1 _ _ ?_)
     refine zc fun KY hKY=>?_
     simp only[go_sem,Y1]
     apply hKY
     refine zi fun X2 hn2 he2 hr2=>?_
     refine zc fun KY hKY=>?_
     simp only[go_sem,Y0,jo]
     apply hKY
     refine zO fun X3 hn3 he3 hf3 hr3=>?_
     try simp only[go_sem]
     refine Jz (α:=Nat) [9,39,47] (fun j=>[(7,.sc (.int .i64 ((val (w.take j):Nat):Int))),(38,.sc (.int .i64 (j:Int)))]) (fun j=>[]) (fun j q=>j≤w.length∧(w.take j).all wy=true∧q=w.length - j) (0) (w.length) rfl (by first|(simp only[go_sem,zk,zl];done)|with_reducible rfl|rfl) (⟨Nat.zero_le _,rfl,rfl⟩) ?_
     rintro j q ⟨hj,hall,rfl⟩ X4 hn4 he4 hr4
     simp only[go_sem,zk,zl]
     rcases Nat.lt_or_ge j w.length with hj2|hj2
     · have hdx:decide ((j:Int)<(w.length:Int))=true:=decide_eq_true (by omega)
       have hx:w[j]?=some w[j]:=List.getElem?_eq_getElem hj2
       have htk:w.take (j+1)=w.take j++[w[j]]:=by rw[List.take_add_one,hx];rfl
       have hda:w.all wy=true→wy w[j]=true:=fun h=>List.all_eq_true.1 h _ (List.getElem_mem hj2)
       have hlt:=(w[j]).toNat_lt
       generalize w[j]=c at hx htk hda hlt
       have hb:(jK w)[j]?=some (.sc (.int .u8 (c.toNat:Int))):=by simp[jK,hx]
       refine zc fun KY hKY=>?_
       simp only[go_sem,qr,hdx]
       apply hKY
       refine zi fun X5 hn5 he5 hr5=>?_
       refine JX ?_
       refine zn ?_
       repeat (first|refine hn5 _ ?_|refine he5 _ _ ?_|refine he4 _ _ ?_|refine hn3 _ ?_|refine he3 _ ?_|refine hf3 _ _ (by decide) ?_|refine hn2 _ ?_|refine he2 _ _ ?_|refine hn1 _ ?_|refine he1 _ _ ?_)
       refine zi fun X6 hn6 he6 hr6=>?_
       refine zO fun X7 hn7 he7 hf7 hr7=>?_
       refine zc fun KY hKY=>?_
       simp only[go_sem,YZ,hb,jo,hj2,(show j+1≤w.length by omega)]
       apply hKY
       refine zi fun X8 hn8 he8 hr8=>?_
       rcases(show c.toNat<48∨(48≤c.toNat∧57<c.toNat)∨(48≤c.toNat∧c.toNat≤57) by omega) with h6|⟨h6,h7⟩|⟨h6,h7⟩
       · have d5:decide ((c.toNat:Int)<48)=true:=decide_eq_true (by omega)
         have hn:Jj w=none:=by
          rw[hnn _ rfl,if_pos]
          cases hw:w.all wy with
          |false=>rfl
          |true=>have:=hda hw;unfold wy at this;rw[Bool.and_eq_true,decide_eq_true_iff,decide_eq_true_iff] at this;omega
         refine zc fun KY hKY=>?_
         simp only[go_sem,jY,d5]
         apply hKY
         refine JX ?_
         refine zc fun KY hKY=>?_
         simp only[go_sem,qq]
         apply hKY
         refine zo ?_
         repeat (first|refine hr8 _ ?_|refine hr7 _ ?_|refine hr6 _ ?_|refine hr5 _ ?_|refine hr4 _ ?_|refine hr3 _ ?_|refine hr2 _ ?_|refine hr1 _ ?_)
         simp only[go_sem]
         rw[hn];rfl
       · have d5:decide ((c.toNat:Int)<48)=false:=decide_eq_false (by omega)
         have d6:decide (57<(c.toNat:Int))=true:=decide_eq_true (by omega)
         have hn:Jj w=none:=by
          rw[hnn _ rfl,if_pos]
          cases hw:w.all wy with
          |false=>rfl
          |true=>have:=hda hw;unfold wy at this;rw[Bool.and_eq_true,decide_eq_true_iff,decide_eq_true_iff] at this;omega
         refine zc fun KY hKY=>?_
         simp only[go_sem,jY,d5,d6]
         apply hKY
         refine JX ?_
         refine zc fun KY hKY=>?_
         simp only[go_sem,qq]
         apply hKY
         refine zo ?_
         repeat (first|refine hr8 _ ?_|refine hr7 _ ?_|refine hr6 _ ?_|refine hr5 _ ?_|refine hr4 _ ?_|refine hr3 _ ?_|refine hr2 _ ?_|refine hr1 _ ?_)
         simp only[go_sem]
         rw[hn];rfl
       · have d5:decide ((c.toNat:Int)<48)=false:=decide_eq_false (by omega)
         have d6:decide (57<(c.toNat:Int))=false:=decide_eq_false (by omega)
         have hv:=kB _ hall
         have hp:10^(w.take j).length≤10^9:=Nat.pow_le_pow_right (by omega) (by rw[List.length_take];omega)
         have hs:val (w.take (j+1))=10*val (w.take j)+(c.toNat - 48):=by rw[htk,yV]
         have w1:IntKind.i64.wrap (10*((val (w.take j):Nat):Int))=((10*val (w.take j):Nat):Int):=by rw[IntWalk.i64_in _ (by omega)];omega
         have w2:IntKind.u8.wrap ((c.toNat:Int) - 48)=((c.toNat - 48:Nat):Int):=by
          unfold IntKind.wrap;simp[IntKind.bits,IntKind.signed];omega
         have w3:IntKind.i64.wrap ((c.toNat - 48:Nat):Int)=((c.toNat - 48:Nat):Int):=IntWalk.i64_in _ (by omega)
         have w4:IntKind.i64.wrap (((10*val (w.take j):Nat):Int)+((c.toNat - 48:Nat):Int))=((val (w.take (j+1)):Nat):Int):=by rw[IntWalk.i64_in _ (by omega),hs];omega
         refine zc fun KY hKY=>?_
         simp only[go_sem,jY,d5,d6]
         apply hKY
         refine qv ?_
         refine zn ?_
         repeat (first|refine hn8 _ ?_|refine he8 _ _ ?_|refine hn7 _ ?_|refine he7 _ ?_|refine hf7 _ _ (by decide) ?_|refine hn6 _ ?_|refine he6 _ _ ?_|refine hn5 _ ?_|refine he5 _ _ ?_|refine he4 _ _ ?_|refine hn3 _ ?_|refine he3 _ ?_|refine hf3 _ _ (by decide) ?_|refine hn2 _ ?_|refine he2 _ _ ?_|refine hn1 _ ?_|refine he1 _ _ ?_)
         refine zX fun KY hKY=>?_
         simp only[go_sem,yf,w1,w2,w3,w4]
         apply hKY
         repeat (first|refine hn8 _ ?_|refine he8 _ _ ?_|refine hn7 _ ?_|refine he7 _ ?_|refine hf7 _ _ (by decide) ?_|refine hn6 _ ?_|refine he6 _ _ ?_|refine hn5 _ ?_|refine he5 _ _ ?_|refine he4 _ _ ?_|refine hn3 _ ?_|refine he3 _ ?_|refine hf3 _ _ (by decide) ?_|refine hn2 _ ?_|refine he2 _ _ ?_|refine hn1 _ ?_|refine he1 _ _ ?_)
         refine zX fun KY hKY=>?_
         simp only[go_sem,ye,xP (show j<4611686018427387904 by omega)]
         apply hKY
         repeat (first|refine hn8 _ ?_|refine he8 _ _ ?_|refine hn7 _ ?_|refine he7 _ ?_|refine hf7 _ _ (by decide) ?_|refine hn6 _ ?_|refine he6 _ _ ?_|refine hn5 _ ?_|refine he5 _ _ ?_)
         refine hn4 _ (j+1) (w.length - (j+1)) (by omega) (by first|(simp only[go_sem,zk,zl];done)|with_reducible rfl) ?_
         refine⟨hj2,?_,rfl⟩
         rw[htk,List.all_append,hall]
         unfold wy;simp;omega
     have hdx:decide ((j:Int)<(w.length:Int))=false:=decide_eq_false (by omega)
     obtain rfl:j=w.length:=by omega
     rw[List.take_length] at hall
     have hn:Jj w=some (val w):=by rw[hnn _ hall];rfl
     refine zc fun KY hKY=>?_
     simp only[go_sem,qr,hdx]
     apply hKY
     refine zi fun X9 hn9 he9 hr9=>?_
     refine qv ?_
     refine ZW ?_
     repeat (first|refine hn9 _ ?_|refine he9 _ _ ?_|refine he4 _ _ ?_|refine hn3 _ ?_|refine he3 _ ?_|refine hf3 _ _ (by decide) ?_|refine hn2 _ ?_|refine he2 _ _ ?_|refine hn1 _ ?_|refine he1 _ _ ?_)
     rw[List.take_length]
     refine zc fun KY hKY=>?_
     simp only[go_sem,yd]
     apply hKY
     refine zo ?_
     repeat (first|refine hr9 _ ?_|refine hr4 _ ?_|refine hr3 _ ?_|refine hr2 _ ?_|refine hr1 _ ?_)
     simp only[go_sem]
     rw[hn];rfl
   · have d3:decide (1<(w.length:Int))=false:=decide_eq_false (by omega)
     refine zc fun KY hKY=>?_
     simp only[go_sem,Jv,d1,d2,d3]
     apply hKY
     refine qv ?_
     refine zn ?_
     repeat (first|refine hn1 _ ?_|refine he1 _ _ ?_)
     refine zc fun KY hKY=>?_
     simp only[go_sem,Y1]
     apply hKY
     refine zi fun X10 hn10 he10 hr10=>?_
     refine zc fun KY hKY=>?_
     simp only[go_sem,Y0,jo]
     apply hKY
     refine zO fun X11 hn11 he11 hf11 hr11=>?_
     try simp only[go_sem]
     refine Jz (α:=Nat) [9,39,47] (fun j=>[(7,.sc (.int .i64 ((val (w.take j):Nat):Int))),(38,.sc (.int .i64 (j:Int)))]) (fun j=>[]) (fun j q=>j≤w.length∧(w.take j).all wy=true∧q=w.length - j) (0) (w.length) rfl (by first|(simp only[go_sem,zk,zl];done)|with_reducible rfl|rfl) (⟨Nat.zero_le _,rfl,rfl⟩) ?_
     rintro j q ⟨hj,hall,rfl⟩ X12 hn12 he12 hr12
     simp only[go_sem,zk,zl]
     rcases Nat.lt_or_ge j w.length with hj2|hj2
     · have hdx:decide ((j:Int)<(w.length:Int))=true:=decide_eq_true (by omega)
       have hx:w[j]?=some w[j]:=List.getElem?_eq_getElem hj2
       have htk:w.take (j+1)=w.take j++[w[j]]:=by rw[List.take_add_one,hx];rfl
       have hda:w.all wy=true→wy w[j]=true:=fun h=>List.all_eq_true.1 h _ (List.getElem_mem hj2)
       have hlt:=(w[j]).toNat_lt
       generalize w[j]=c at hx htk hda hlt
       have hb:(jK w)[j]?=some (.sc (.int .u8 (c.toNat:Int))):=by simp[jK,hx]
       refine zc fun KY hKY=>?_
       simp only[go_sem,qr,hdx]
       apply hKY
       refine zi fun X13 hn13 he13 hr13=>?_
       refine JX ?_
       refine zn ?_
       repeat (first|refine hn13 _ ?_|refine he13 _ _ ?_|refine he12 _ _ ?_|refine hn11 _ ?_|refine he11 _ ?_|refine hf11 _ _ (by decide) ?_|refine hn10 _ ?_|refine he10 _ _ ?_|refine hn1 _ ?_|refine he1 _ _ ?_)
       refine zi fun X14 hn14 he14 hr14=>?_
       refine zO fun X15 hn15 he15 hf15 hr15=>?_
       refine zc fun KY hKY=>?_
       simp only[go_sem,YZ,hb,jo,hj2,(show j+1≤w.length by omega)]
       apply hKY
       refine zi fun X16 hn16 he16 hr16=>?_
       rcases(show c.toNat<48∨(48≤c.toNat∧57<c.toNat)∨(48≤c.toNat∧c.toNat≤57) by omega) with h6|⟨h6,h7⟩|⟨h6,h7⟩
       · have d5:decide ((c.toNat:Int)<48)=true:=decide_eq_true (by omega)
         have hn:Jj w=none:=by
          rw[hnn _ rfl,if_pos]
          cases hw:w.all wy with
          |false=>rfl
          |true=>have:=hda hw;unfold wy at this;rw[Bool.and_eq_true,decide_eq_true_iff,decide_eq_true_iff] at this;omega
         refine zc fun KY hKY=>?_
         simp only[go_sem,jY,d5]
         apply hKY
         refine JX ?_
         refine zc fun KY hKY=>?_
         simp only[go_sem,qq]
         apply hKY
         refine zo ?_
         repeat (first|refine hr16 _ ?_|refine hr15 _ ?_|refine hr14 _ ?_|refine hr13 _ ?_|refine hr12 _ ?_|refine hr11 _ ?_|refine hr10 _ ?_|refine hr1 _ ?_)
         simp only[go_sem]
         rw[hn];rfl
       · have d5:decide ((c.toNat:Int)<48)=false:=decide_eq_false (by omega)
         have d6:decide (57<(c.toNat:Int))=true:=decide_eq_true (by omega)
         have hn:Jj w=none:=by
          rw[hnn _ rfl,if_pos]
          cases hw:w.all wy with
          |false=>rfl
          |true=>have:=hda hw;unfold wy at this;rw[Bool.and_eq_true,decide_eq_true_iff,decide_eq_true_iff] at this;omega
         refine zc fun KY hKY=>?_
         simp only[go_sem,jY,d5,d6]
         apply hKY
         refine JX ?_
         refine zc fun KY hKY=>?_
         simp only[go_sem,qq]
         apply hKY
         refine zo ?_
         repeat (first|refine hr16 _ ?_|refine hr15 _ ?_|refine hr14 _ ?_|refine hr13 _ ?_|refine hr12 _ ?_|refine hr11 _ ?_|refine hr10 _ ?_|refine hr1 _ ?_)
         simp only[go_sem]
         rw[hn];rfl
       · have d5:decide ((c.toNat:Int)<48)=false:=decide_eq_false (by omega)
         have d6:decide (57<(c.toNat:Int))=false:=decide_eq_false (by omega)
         have hv:=kB _ hall
         have hp:10^(w.take j).length≤10^9:=Nat.pow_le_pow_right (by omega) (by rw[List.length_take];omega)
         have hs:val (w.take (j+1))=10*val (w.take j)+(c.toNat - 48):=by rw[htk,yV]
         have w1:IntKind.i64.wrap (10*((val (w.take j):Nat):Int))=((10*val (w.take j):Nat):Int):=by rw[IntWalk.i64_in _ (by omega)];omega
         have w2:IntKind.u8.wrap ((c.toNat:Int) - 48)=((c.toNat - 48:Nat):Int):=by
          unfold IntKind.wrap;simp[IntKind.bits,IntKind.signed];omega
         have w3:IntKind.i64.wrap ((c.toNat - 48:Nat):Int)=((c.toNat - 48:Nat):Int):=IntWalk.i64_in _ (by omega)
         have w4:IntKind.i64.wrap (((10*val (w.take j):Nat):Int)+((c.toNat - 48:Nat):Int))=((val (w.take (j+1)):Nat):Int):=by rw[IntWalk.i64_in _ (by omega),hs];omega
         refine zc fun KY hKY=>?_
         simp only[go_sem,jY,d5,d6]
         apply hKY
         refine qv ?_
         refine zn ?_
         repeat (first|refine hn16 _ ?_|refine he16 _ _ ?_|refine hn15 _ ?_|refine he15 _ ?_|refine hf15 _ _ (by decide) ?_|refine hn14 _ ?_|refine he14 _ _ ?_|refine hn13 _ ?_|refine he13 _ _ ?_|refine he12 _ _ ?_|refine hn11 _ ?_|refine he11 _ ?_|refine hf11 _ _ (by decide) ?_|refine hn10 _ ?_|refine he10 _ _ ?_|refine hn1 _ ?_|refine he1 _ _ ?_)
         refine zX fun KY hKY=>?_
         simp only[go_sem,yf,w1,w2,w3,w4]
         apply hKY
         repeat (first|refine hn16 _ ?_|refine he16 _ _ ?_|refine hn15 _ ?_|refine he15 _ ?_|refine hf15 _ _ (by decide) ?_|refine hn14 _ ?_|refine he14 _ _ ?_|refine hn13 _ ?_|refine he13 _ _ ?_|refine he12 _ _ ?_|refine hn11 _ ?_|refine he11 _ ?_|refine hf11 _ _ (by decide) ?_|refine hn10 _ ?_|refine he10 _ _ ?_|refine hn1 _ ?_|refine he1 _ _ ?_)
         refine zX fun KY hKY=>?_
         simp only[go_sem,ye,xP (show j<4611686018427387904 by omega)]
         apply hKY
         repeat (first|refine hn16 _ ?_|refine he16 _ _ ?_|refine hn15 _ ?_|refine he15 _ ?_|refine hf15 _ _ (by decide) ?_|refine hn14 _ ?_|refine he14 _ _ ?_|refine hn13 _ ?_|refine he13 _ _ ?_)
         refine hn12 _ (j+1) (w.length - (j+1)) (by omega) (by first|(simp only[go_sem,zk,zl];done)|with_reducible rfl) ?_
         refine⟨hj2,?_,rfl⟩
         rw[htk,List.all_append,hall]
         unfold wy;simp;omega
     have hdx:decide ((j:Int)<(w.length:Int))=false:=decide_eq_false (by omega)
     obtain rfl:j=w.length:=by omega
     rw[List.take_length] at hall
     have hn:Jj w=some (val w):=by rw[hnn _ hall];rfl
     refine zc fun KY hKY=>?_
     simp only[go_sem,qr,hdx]
     apply hKY
     refine zi fun X17 hn17 he17 hr17=>?_
     refine qv ?_
     refine ZW ?_
     repeat (first|refine hn17 _ ?_|refine he17 _ _ ?_|refine he12 _ _ ?_|refine hn11 _ ?_|refine he11 _ ?_|refine hf11 _ _ (by decide) ?_|refine hn10 _ ?_|refine he10 _ _ ?_|refine hn1 _ ?_|refine he1 _ _ ?_)
     rw[List.take_length]
     refine zc fun KY hKY=>?_
     simp only[go_sem,yd]
     apply hKY
     refine zo ?_
     repeat (first|refine hr17 _ ?_|refine hr12 _ ?_|refine hr11 _ ?_|refine hr10 _ ?_|refine hr1 _ ?_)
     simp only[go_sem]
     rw[hn];rfl
end Go.Proofs.YtneiihheeghdcaaDoor
set_option maxHeartbeats 8000000
namespace Go.Proofs.YtneiihheeghdcaaDoor
open Go Go.Ga Go.Ga.Gl
theorem Ko (l:List UInt8)(hl:l.length≤1000000000):zy Tryd.prog [] Pe [.sc (.string (ZN l))] [] fun r h'=>r= .tup [.agg (je l).1.cells,.sc (.int .i64 (je l).2)]∧h'=[]:=by
 refine Pn rfl ?_
 unfold Pw Zj
 refine zc fun KY hKY=>?_
 simp only[go_sem,UK]
 apply hKY
 refine zi fun X1 hn1 he1 hr1=>?_
 by_cases hlen:65536<l.length
 · have d1:decide (65536<(l.length:Int))=true:=decide_eq_true (by omega)
   have hres:je l=(⟨0,0,0,[]⟩,8):=if_pos hlen
   refine zc fun KY hKY=>?_
   simp only[go_sem,WW,d1]
   apply hKY
   refine JX ?_
   refine zc fun KY hKY=>?_
   simp only[go_sem,UJ]
   apply hKY
   refine ZE [0,2,3] 1 (by simp only[go_sem]) ?_
   simp only[go_sem]
   refine zW [0,2,3] (by simp only[go_sem];rfl) ?_
   simp only[go_sem]
   refine zo ?_
   repeat (first|refine hr1 _ ?_)
   simp only[go_sem]
   rw[hres];rfl
 have d1:decide (65536<(l.length:Int))=false:=decide_eq_false (by omega)
 have hS:=kP l hl
 have hne:=qx 32 l
 have hsl:=y7 32 l
 have hcl:=QI 32 l
 have hpar:je l=_:=if_neg hlen
 obtain⟨p,ts,hsp⟩:∃p ts,zH 32 l=p::ts:=by
  cases h:zH 32 l with
  |nil=>exact absurd h hne
  |cons p ts=>exact⟨p,ts,rfl⟩
 rw[hsp] at hS hsl hpar
 simp only[List.headD_cons,List.tail_cons,List.length_cons] at hpar hsl
 have hwl:∀w∈p::ts,w.length≤1000000000:=fun w hw=>Nat.le_trans (y6 32 l w (by rw[hsp];exact hw)) hl
 refine zc fun KY hKY=>?_
 simp only[go_sem,WW,d1]
 apply hKY
 refine qv ?_
 refine zn ?_
 repeat (first|refine hn1 _ ?_|refine he1 _ _ ?_)
 refine zc fun KY hKY=>?_
 simp only[go_sem,UI]
 apply ZZ [] [] false none rfl
 iterate 8 (first|(simp only[go_sem,zP]<;>rfl)|rfl)
 refine(hS).mono ?_
 rintro _ _ ⟨rfl,rfl⟩
 refine⟨Nat.le_of_ble_eq_true rfl,(fun hh=>by cases hh),?_⟩
 simp only[go_sem,Zv,zb.after]
 apply hKY
 refine zW [0,4] (by simp only[go_sem];rfl) ?_
 simp only[go_sem]
 have hfl:(zV WP W6).length=30:=rfl
 refine zc fun KY hKY=>?_
 simp only[go_sem,UH]
 apply ZZ [] [] false none rfl
 iterate 8 (first|(simp only[go_sem,zP]<;>rfl)|rfl)
 refine(KT).mono ?_
 rintro _ _ ⟨rfl,rfl⟩
 refine⟨Nat.le_of_ble_eq_true rfl,(fun hh=>by cases hh),?_⟩
 simp only[go_sem,Zv,zb.after,jH,hfl,List.length_cons,List.length_nil]
 apply hKY
 refine zW [0,5] (by simp only[go_sem];rfl) ?_
 simp only[go_sem]
 have htk:List.take 30 (zV WP W6)=zV WP W6:=rfl
 refine zc fun KY hKY=>?_
 simp only[go_sem,UG,hfl,htk,List.drop_zero]
 refine zF rfl (by simp only[go_sem]<;>rfl) ((vN W6 p ts (by decide)).mono ?_)
 rintro rr hh ⟨⟨z,rfl,hz⟩,rfl⟩
 refine⟨?_,?_,?_,?_⟩
 iterate 3 (first|rfl|simp only[go_sem])
 simp only[go_sem]
 apply hKY
 refine zi fun X2 hn2 he2 hr2=>?_
 rcases hz with⟨rfl,hno⟩|⟨i,rfl,hi⟩
 · have hres:je l=(⟨0,0,0,[]⟩,15):=by rw[hpar,hno]
   refine ZO fun KY hKY=>?_
   simp only[go_sem,QK]
   apply hKY
   refine JX ?_
   refine zc fun KY hKY=>?_
   simp only[go_sem,WV]
   apply hKY
   refine ZE [0,2,3] 1 (by simp only[go_sem]) ?_
   simp only[go_sem]
   refine zW [0,2,3] (by simp only[go_sem];rfl) ?_
   simp only[go_sem]
   refine zo ?_
   repeat (first|refine hr2 _ ?_|refine hr1 _ ?_)
   simp only[go_sem]
   rw[hres];rfl
 have hi15:i<15:=by
  have:=(List.findIdx?_eq_some_iff_getElem.1 hi).1
  exact this
 have hx:W6[i]?=some W6[i]:=List.getElem?_eq_getElem hi15
 have hgd:W6.getD i ([],0)=W6[i]:=by rw[List.getD_eq_getElem?_getD,hx];rfl
 rw[hi] at hpar
 simp only[hgd] at hpar
 have hfn: -1≤W6[i].2∧W6[i].2≤2:=by
  have:∀x∈W6, -1≤x.2∧x.2≤2:=by decide
  exact this _ (List.getElem_mem hi15)
 generalize W6[i]=x at hx hpar hfn hgd
 obtain⟨fw,n⟩:=x
 simp only at hpar hfn
 have hg1:(zV WP W6)[i*2+1]?=some (.sc (.int .i64 n)):=vz yQ hx 1 (by decide)
 have di:decide ((i:Int)<0)=false:=decide_eq_false (by omega)
 have hi15':(i:Int).toNat<15:=by omega
 by_cases hbad:0≤n∧((ts.length:Int)+1≠n+1)
 · have hres:je l=(⟨0,0,0,[]⟩,15):=by rw[hpar,if_pos (by omega)]
   have dn:decide (0≤n)=true:=decide_eq_true hbad.1
   have w1:IntKind.i64.wrap (n+1)=n+1:=IntWalk.i64_in _ (by omega)
   have dd:decide (((ts.length+1:Nat):Int)≠n+1)=true:=decide_eq_true (by omega)
   refine ZO fun KY hKY=>?_
   simp only[go_sem,QK,di,hi15,hg1,dn,w1,dd,zD]
   apply hKY
   refine JX ?_
   refine zc fun KY hKY=>?_
   simp only[go_sem,WV]
   apply hKY
   refine ZE [0,2,3] 1 (by simp only[go_sem]) ?_
   simp only[go_sem]
   refine zW [0,2,3] (by simp only[go_sem];rfl) ?_
   simp only[go_sem]
   refine zo ?_
   repeat (first|refine hr2 _ ?_|refine hr1 _ ?_)
   simp only[go_sem]
   rw[hres];rfl
 replace hpar:=hpar.trans (if_neg (show¬(0≤n∧((ts.length+1:Nat):Int)≠n+1) by omega))
 rcases(show n<0∨(0≤n∧(ts.length:Int)=n) by omega) with hneg|⟨hpos,hlen2⟩
 · have dn:decide (0≤n)=false:=decide_eq_false (by omega)
   have dn2:decide (n<0)=true:=decide_eq_true hneg
   refine ZO fun KY hKY=>?_
   simp only[go_sem,QK,di,hi15,hg1,dn]
   apply hKY
   refine qv ?_
   refine zn ?_
   repeat (first|refine hn2 _ ?_|refine he2 _ _ ?_|refine hn1 _ ?_|refine he1 _ _ ?_)
   refine zc fun KY hKY=>?_
   simp only[go_sem,WU]
   apply hKY
   refine zc fun KY hKY=>?_
   simp only[go_sem,WT]
   apply hKY
   refine ZE [0,8] 1 (by simp only[go_sem]) ?_
   simp only[go_sem]
   refine zi fun X3 hn3 he3 hr3=>?_
   refine zc fun KY hKY=>?_
   simp only[go_sem,YS]
   apply hKY
   refine zO fun X4 hn4 he4 hf4 hr4=>?_
   try simp only[go_sem]
   refine Jz (α:=Nat×List Nat) [10,11,56,66] (fun(j,ns)=>[(8,.own (some 1) (jb ns)),(9,.sc (.int .i64 ((j+1:Nat):Int)))]) (fun(j,ns)=>[]) (fun(j,ns) q=>j≤ts.length∧ZY (ts.take j)=some ns∧ns.length=j∧q=ts.length - j) ((0,[])) (ts.length) rfl (by first|(simp only[go_sem,zk,zl];done)|with_reducible rfl|rfl) (⟨Nat.zero_le _,rfl,rfl,rfl⟩) ?_
   rintro⟨j,ns⟩ q ⟨hj,hns,hnl,rfl⟩ X5 hn5 he5 hr5
   simp only[go_sem,zk,zl]
   refine zi fun X6 hn6 he6 hr6=>?_
   rcases Nat.lt_or_ge j ts.length with hj2|hj2
   · have hdx:decide (((j+1:Nat):Int)<((ts.length+1:Nat):Int))=true:=decide_eq_true (by omega)
     have hw:ts[j]?=some ts[j]:=List.getElem?_eq_getElem hj2
     have hwm:=hwl _ (.tail _ (List.getElem_mem hj2))
     have htl:ts=ts.take j++ts[j]::ts.drop (j+1):=by rw[←List.drop_eq_getElem_cons hj2,List.take_append_drop]
     have htk:ts.take (j+1)=ts.take j++[ts[j]]:=by rw[List.take_add_one,hw];rfl
     generalize ts[j]=w at hw hwm htl htk
     have hN:=wV (p::ts) (k:=j+1) (w:=w) (by simpa using hw) hwm
     cases hnb:Jj w with
     | none=>
       have hres:je l=(⟨0,0,0,[]⟩,15):=by
        have:ZY ts=none:=by rw[htl];exact Ym hnb
        rw[hpar,this]
       rw[hnb] at hN
       refine zc fun KY hKY=>?_
       simp only[go_sem,jX,hdx,zD]
       apply hKY
       refine JX ?_
       refine zn ?_
       repeat (first|refine hn6 _ ?_|refine he6 _ _ ?_|refine he5 _ _ ?_|refine hn4 _ ?_|refine he4 _ ?_|refine hf4 _ _ (by decide) ?_|refine hn3 _ ?_|refine he3 _ _ ?_|refine hn2 _ ?_|refine he2 _ _ ?_|refine hn1 _ ?_|refine he1 _ _ ?_)
       refine zi fun X7 hn7 he7 hr7=>?_
       refine zO fun X8 hn8 he8 hf8 hr8=>?_
       refine zc fun KY hKY=>?_
       simp only[go_sem,qn]
       refine zF rfl (by simp only[go_sem]<;>rfl) ((hN).mono ?_)
       rintro rr hh ⟨rfl,rfl⟩
       refine⟨rfl,rfl,rfl,?_⟩
       simp only[go_sem]
       apply hKY
       refine zi fun X9 hn9 he9 hr9=>?_
       refine zc fun KY hKY=>?_
       simp only[go_sem,qm]
       apply hKY
       refine JX ?_
       refine zc fun KY hKY=>?_
       simp only[go_sem,YR]
       apply hKY
       refine ZE [0,2,3] 1 (by simp only[go_sem]) ?_
       simp only[go_sem]
       refine zW [0,2,3] (by simp only[go_sem];rfl) ?_
       simp only[go_sem]
       refine zo ?_
       repeat (first|refine hr9 _ ?_|refine hr8 _ ?_|refine hr7 _ ?_|refine hr6 _ ?_|refine hr5 _ ?_|refine hr4 _ ?_|refine hr3 _ ?_|refine hr2 _ ?_|refine hr1 _ ?_)
       simp only[go_sem]
       rw[hres];rfl
     | some v=>
       rw[hnb] at hN
       refine zc fun KY hKY=>?_
       simp only[go_sem,jX,hdx,zD]
       apply hKY
       refine JX ?_
       refine zn ?_
       repeat (first|refine hn6 _ ?_|refine he6 _ _ ?_|refine he5 _ _ ?_|refine hn4 _ ?_|refine he4 _ ?_|refine hf4 _ _ (by decide) ?_|refine hn3 _ ?_|refine he3 _ _ ?_|refine hn2 _ ?_|refine he2 _ _ ?_|refine hn1 _ ?_|refine he1 _ _ ?_)
       refine zi fun X10 hn10 he10 hr10=>?_
       refine zO fun X11 hn11 he11 hf11 hr11=>?_
       refine zc fun KY hKY=>?_
       simp only[go_sem,qn]
       refine zF rfl (by simp only[go_sem]<;>rfl) ((hN).mono ?_)
       rintro rr hh ⟨rfl,rfl⟩
       refine⟨rfl,rfl,rfl,?_⟩
       simp only[go_sem]
       apply hKY
       refine zi fun X12 hn12 he12 hr12=>?_
       refine zc fun KY hKY=>?_
       simp only[go_sem,qm]
       apply hKY
       refine qv ?_
       refine zn ?_
       repeat (first|refine hn12 _ ?_|refine he12 _ _ ?_|refine hn11 _ ?_|refine he11 _ ?_|refine hf11 _ _ (by decide) ?_|refine hn10 _ ?_|refine he10 _ _ ?_|refine hn6 _ ?_|refine he6 _ _ ?_|refine he5 _ _ ?_|refine hn4 _ ?_|refine he4 _ ?_|refine hf4 _ _ (by decide) ?_|refine hn3 _ ?_|refine he3 _ _ ?_|refine hn2 _ ?_|refine he2 _ _ ?_|refine hn1 _ ?_|refine he1 _ _ ?_)
       refine zX fun KY hKY=>?_
       simp only[go_sem,YQ,wW,qe,hnl,(show(j+1)*8≤140737488355328 by omega)]
       apply hKY
       repeat (first|refine hn12 _ ?_|refine he12 _ _ ?_|refine hn11 _ ?_|refine he11 _ ?_|refine hf11 _ _ (by decide) ?_|refine hn10 _ ?_|refine he10 _ _ ?_|refine hn6 _ ?_|refine he6 _ _ ?_|refine he5 _ _ ?_|refine hn4 _ ?_|refine he4 _ ?_|refine hf4 _ _ (by decide) ?_|refine hn3 _ ?_|refine he3 _ _ ?_|refine hn2 _ ?_|refine he2 _ _ ?_|refine hn1 _ ?_|refine he1 _ _ ?_)
       refine zX fun KY hKY=>?_
       simp only[go_sem,YP,xP (show j+1<4611686018427387904 by omega)]
       apply hKY
       repeat (first|refine hn12 _ ?_|refine he12 _ _ ?_|refine hn11 _ ?_|refine he11 _ ?_|refine hf11 _ _ (by decide) ?_|refine hn10 _ ?_|refine he10 _ _ ?_|refine hn6 _ ?_|refine he6 _ _ ?_)
       refine hn5 _ ((j+1,ns++[v])) (ts.length - (j+1)) (by omega) (by first|(simp only[go_sem,zk,zl];done)|with_reducible rfl) ?_
       refine⟨hj2,?_,by simp[hnl],rfl⟩
       rw[htk,qC,hns]
       show(ZY [w]).map _=_
       unfold ZY
       rw[hnb];rfl
   have hdx:decide (((j+1:Nat):Int)<((ts.length+1:Nat):Int))=false:=decide_eq_false (by omega)
   obtain rfl:j=ts.length:=by omega
   rw[List.take_length] at hns
   rw[hns] at hpar
   refine zc fun KY hKY=>?_
   simp only[go_sem,jX,hdx,zD]
   apply hKY
   refine qv ?_
   refine ZW ?_
   repeat (first|refine hn6 _ ?_|refine he6 _ _ ?_|refine he5 _ _ ?_|refine hn4 _ ?_|refine he4 _ ?_|refine hf4 _ _ (by decide) ?_|refine hn3 _ ?_|refine he3 _ _ ?_|refine hn2 _ ?_|refine he2 _ _ ?_|refine hn1 _ ?_|refine he1 _ _ ?_)
   have hres:je l=(⟨i,0,0,ns⟩,0):=hpar.trans (if_pos hneg)
   refine zW [0,8] (by simp only[go_sem];rfl) ?_
   simp only[go_sem]
   refine zc fun KY hKY=>?_
   simp only[go_sem,YO]
   apply hKY
   refine zi fun X13 hn13 he13 hr13=>?_
   refine zc fun KY hKY=>?_
   simp only[go_sem,YN,hi15,hg1,dn2]
   apply hKY
   refine JX ?_
   refine zc fun KY hKY=>?_
   simp only[go_sem,x7]
   apply hKY
   refine zc fun KY hKY=>?_
   simp only[go_sem,x6]
   apply hKY
   refine zo ?_
   repeat (first|refine hr13 _ ?_|refine hr6 _ ?_|refine hr5 _ ?_|refine hr4 _ ?_|refine hr3 _ ?_|refine hr2 _ ?_|refine hr1 _ ?_)
   simp only[go_sem]
   rw[hres];rfl
 · have dn:decide (0≤n)=true:=decide_eq_true hpos
   have dn2:decide (n<0)=false:=decide_eq_false (by omega)
   have w1:IntKind.i64.wrap (n+1)=n+1:=IntWalk.i64_in _ (by omega)
   have dd:decide (((ts.length+1:Nat):Int)≠n+1)=false:=decide_eq_false (by omega)
   refine ZO fun KY hKY=>?_
   simp only[go_sem,QK,di,hi15,hg1,dn,w1,dd,zD]
   apply hKY
   refine qv ?_
   refine zn ?_
   repeat (first|refine hn2 _ ?_|refine he2 _ _ ?_|refine hn1 _ ?_|refine he1 _ _ ?_)
   refine zc fun KY hKY=>?_
   simp only[go_sem,WU]
   apply hKY
   refine zc fun KY hKY=>?_
   simp only[go_sem,WT]
   apply hKY
   refine ZE [0,8] 1 (by simp only[go_sem]) ?_
   simp only[go_sem]
   refine zi fun X14 hn14 he14 hr14=>?_
   refine zc fun KY hKY=>?_
   simp only[go_sem,YS]
   apply hKY
   refine zO fun X15 hn15 he15 hf15 hr15=>?_
   try simp only[go_sem]
   refine Jz (α:=Nat×List Nat) [10,11,56,66] (fun(j,ns)=>[(8,.own (some 1) (jb ns)),(9,.sc (.int .i64 ((j+1:Nat):Int)))]) (fun(j,ns)=>[]) (fun(j,ns) q=>j≤ts.length∧ZY (ts.take j)=some ns∧ns.length=j∧q=ts.length - j) ((0,[])) (ts.length) rfl (by first|(simp only[go_sem,zk,zl];done)|with_reducible rfl|rfl) (⟨Nat.zero_le _,rfl,rfl,rfl⟩) ?_
   rintro⟨j,ns⟩ q ⟨hj,hns,hnl,rfl⟩ X16 hn16 he16 hr16
   simp only[go_sem,zk,zl]
   refine zi fun X17 hn17 he17 hr17=>?_
   rcases Nat.lt_or_ge j ts.length with hj2|hj2
   · have hdx:decide (((j+1:Nat):Int)<((ts.length+1:Nat):Int))=true:=decide_eq_true (by omega)
     have hw:ts[j]?=some ts[j]:=List.getElem?_eq_getElem hj2
     have hwm:=hwl _ (.tail _ (List.getElem_mem hj2))
     have htl:ts=ts.take j++ts[j]::ts.drop (j+1):=by rw[←List.drop_eq_getElem_cons hj2,List.take_append_drop]
     have htk:ts.take (j+1)=ts.take j++[ts[j]]:=by rw[List.take_add_one,hw];rfl
     generalize ts[j]=w at hw hwm htl htk
     have hN:=wV (p::ts) (k:=j+1) (w:=w) (by simpa using hw) hwm
     cases hnb:Jj w with
     | none=>
       have hres:je l=(⟨0,0,0,[]⟩,15):=by
        have:ZY ts=none:=by rw[htl];exact Ym hnb
        rw[hpar,this]
       rw[hnb] at hN
       refine zc fun KY hKY=>?_
       simp only[go_sem,jX,hdx,zD]
       apply hKY
       refine JX ?_
       refine zn ?_
       repeat (first|refine hn17 _ ?_|refine he17 _ _ ?_|refine he16 _ _ ?_|refine hn15 _ ?_|refine he15 _ ?_|refine hf15 _ _ (by decide) ?_|refine hn14 _ ?_|refine he14 _ _ ?_|refine hn2 _ ?_|refine he2 _ _ ?_|refine hn1 _ ?_|refine he1 _ _ ?_)
       refine zi fun X18 hn18 he18 hr18=>?_
       refine zO fun X19 hn19 he19 hf19 hr19=>?_
       refine zc fun KY hKY=>?_
       simp only[go_sem,qn]
       refine zF rfl (by simp only[go_sem]<;>rfl) ((hN).mono ?_)
       rintro rr hh ⟨rfl,rfl⟩
       refine⟨rfl,rfl,rfl,?_⟩
       simp only[go_sem]
       apply hKY
       refine zi fun X20 hn20 he20 hr20=>?_
       refine zc fun KY hKY=>?_
       simp only[go_sem,qm]
       apply hKY
       refine JX ?_
       refine zc fun KY hKY=>?_
       simp only[go_sem,YR]
       apply hKY
       refine ZE [0,2,3] 1 (by simp only[go_sem]) ?_
       simp only[go_sem]
       refine zW [0,2,3] (by simp only[go_sem];rfl) ?_
       simp only[go_sem]
       refine zo ?_
       repeat (first|refine hr20 _ ?_|refine hr19 _ ?_|refine hr18 _ ?_|refine hr17 _ ?_|refine hr16 _ ?_|refine hr15 _ ?_|refine hr14 _ ?_|refine hr2 _ ?_|refine hr1 _ ?_)
       simp only[go_sem]
       rw[hres];rfl
     | some v=>
       rw[hnb] at hN
       refine zc fun KY hKY=>?_
       simp only[go_sem,jX,hdx,zD]
       apply hKY
       refine JX ?_
       refine zn ?_
       repeat (first|refine hn17 _ ?_|refine he17 _ _ ?_|refine he16 _ _ ?_|refine hn15 _ ?_|refine he15 _ ?_|refine hf15 _ _ (by decide) ?_|refine hn14 _ ?_|refine he14 _ _ ?_|refine hn2 _ ?_|refine he2 _ _ ?_|refine hn1 _ ?_|refine he1 _ _ ?_)
       refine zi fun X21 hn21 he21 hr21=>?_
       refine zO fun X22 hn22 he22 hf22 hr22=>?_
       refine zc fun KY hKY=>?_
       simp only[go_sem,qn]
       refine zF rfl (by simp only[go_sem]<;>rfl) ((hN).mono ?_)
       rintro rr hh ⟨rfl,rfl⟩
       refine⟨rfl,rfl,rfl,?_⟩
       simp only[go_sem]
       apply hKY
       refine zi fun X23 hn23 he23 hr23=>?_
       refine zc fun KY hKY=>?_
       simp only[go_sem,qm]
       apply hKY
       refine qv ?_
       refine zn ?_
       repeat (first|refine hn23 _ ?_|refine he23 _ _ ?_|refine hn22 _ ?_|refine he22 _ ?_|refine hf22 _ _ (by decide) ?_|refine hn21 _ ?_|refine he21 _ _ ?_|refine hn17 _ ?_|refine he17 _ _ ?_|refine he16 _ _ ?_|refine hn15 _ ?_|refine he15 _ ?_|refine hf15 _ _ (by decide) ?_|refine hn14 _ ?_|refine he14 _ _ ?_|refine hn2 _ ?_|refine he2 _ _ ?_|refine hn1 _ ?_|refine he1 _ _ ?_)
       refine zX fun KY hKY=>?_
       simp only[go_sem,YQ,wW,qe,hnl,(show(j+1)*8≤140737488355328 by omega)]
       apply hKY
       repeat (first|refine hn23 _ ?_|refine he23 _ _ ?_|refine hn22 _ ?_|refine he22 _ ?_|refine hf22 _ _ (by decide) ?_|refine hn21 _ ?_|refine he21 _ _ ?_|refine hn17 _ ?_|refine he17 _ _ ?_|refine he16 _ _ ?_|refine hn15 _ ?_|refine he15 _ ?_|refine hf15 _ _ (by decide) ?_|refine hn14 _ ?_|refine he14 _ _ ?_|refine hn2 _ ?_|refine he2 _ _ ?_|refine hn1 _ ?_|refine he1 _ _ ?_)
       refine zX fun KY hKY=>?_
       simp only[go_sem,YP,xP (show j+1<4611686018427387904 by omega)]
       apply hKY
       repeat (first|refine hn23 _ ?_|refine he23 _ _ ?_|refine hn22 _ ?_|refine he22 _ ?_|refine hf22 _ _ (by decide) ?_|refine hn21 _ ?_|refine he21 _ _ ?_|refine hn17 _ ?_|refine he17 _ _ ?_)
       refine hn16 _ ((j+1,ns++[v])) (ts.length - (j+1)) (by omega) (by first|(simp only[go_sem,zk,zl];done)|with_reducible rfl) ?_
       refine⟨hj2,?_,by simp[hnl],rfl⟩
       rw[htk,qC,hns]
       show(ZY [w]).map _=_
       unfold ZY
       rw[hnb];rfl
   have hdx:decide (((j+1:Nat):Int)<((ts.length+1:Nat):Int))=false:=decide_eq_false (by omega)
   obtain rfl:j=ts.length:=by omega
   rw[List.take_length] at hns
   rw[hns] at hpar
   refine zc fun KY hKY=>?_
   simp only[go_sem,jX,hdx,zD]
   apply hKY
   refine qv ?_
   refine ZW ?_
   repeat (first|refine hn17 _ ?_|refine he17 _ _ ?_|refine he16 _ _ ?_|refine hn15 _ ?_|refine he15 _ ?_|refine hf15 _ _ (by decide) ?_|refine hn14 _ ?_|refine he14 _ _ ?_|refine hn2 _ ?_|refine he2 _ _ ?_|refine hn1 _ ?_|refine he1 _ _ ?_)
   replace hpar:=hpar.trans (if_neg (show¬n<0 by omega))
   have hap:jb ns++[.sc (.int .i64 0),.sc (.int .i64 0)]=jb (ns++[0,0]):=by simp[jb]
   have hl2:(ns++[0,0]).length=ns.length+2:=by simp
   obtain⟨a,ha⟩:∃a,a=ns.getD 0 0:=⟨_,rfl⟩
   obtain⟨b,hb⟩:∃b,b=ns.getD 1 0:=⟨_,rfl⟩
   have h0:(jb (ns++[0,0]))[0]?=some (.sc (.int .i64 (a:Int))):=by
    rw[xC (by omega),ha]
    rcases ns with _|⟨x,_|⟨y,r⟩⟩<;>rfl
   have h1:(jb (ns++[0,0]))[1]?=some (.sc (.int .i64 (b:Int))):=by
    rw[xC (by omega),hb]
    rcases ns with _|⟨x,_|⟨y,r⟩⟩<;>rfl
   rw[←ha,←hb] at hpar
   refine zc fun KY hKY=>?_
   simp only[go_sem,YO]
   apply hKY
   refine zi fun X24 hn24 he24 hr24=>?_
   refine zc fun KY hKY=>?_
   simp only[go_sem,YN,hi15,hg1,dn2]
   apply hKY
   refine qv ?_
   refine zn ?_
   repeat (first|refine hn24 _ ?_|refine he24 _ _ ?_|refine hn17 _ ?_|refine he17 _ _ ?_|refine he16 _ _ ?_|refine hn15 _ ?_|refine he15 _ ?_|refine hf15 _ _ (by decide) ?_|refine hn14 _ ?_|refine he14 _ _ ?_|refine hn2 _ ?_|refine he2 _ _ ?_|refine hn1 _ ?_|refine he1 _ _ ?_)
   refine zc fun KY hKY=>?_
   simp only[go_sem,x5,qe,hap,(show(ns.length+2)*8≤140737488355328 by omega)]
   apply hKY
   refine ZO fun KY hKY=>?_
   simp only[go_sem,x4,h0,h1,qe,hl2,(show 1≤ns.length+2 by omega),(show 2≤ns.length+2 by omega),(show([0,12]==[0,8])=false from rfl),Bool.not_false]
   apply hKY
   refine zi fun X25 hn25 he25 hr25=>?_
   by_cases h6:i=6
   · have d6:decide ((i:Int)=6)=true:=decide_eq_true (by omega)
     by_cases h61:a=1
     · have d61:decide ((a:Int)≠1)=false:=decide_eq_false (by omega)
       have hres:je l=(⟨i,a,b,[]⟩,0):=hpar.trans (if_neg (by omega))
       refine zc fun KY hKY=>?_
       simp only[go_sem,ql,d6,d61]
       apply hKY
       refine qv ?_
       refine zn ?_
       repeat (first|refine hn25 _ ?_|refine he25 _ _ ?_|refine hn24 _ ?_|refine he24 _ _ ?_|refine hn17 _ ?_|refine he17 _ _ ?_|refine he16 _ _ ?_|refine hn15 _ ?_|refine he15 _ ?_|refine hf15 _ _ (by decide) ?_|refine hn14 _ ?_|refine he14 _ _ ?_|refine hn2 _ ?_|refine he2 _ _ ?_|refine hn1 _ ?_|refine he1 _ _ ?_)
       refine zc fun KY hKY=>?_
       simp only[go_sem,QL]
       apply hKY
       refine ZE [0,2,3] 1 (by simp only[go_sem]) ?_
       simp only[go_sem]
       refine zW [0,2,3] (by simp only[go_sem];rfl) ?_
       simp only[go_sem]
       refine zo ?_
       repeat (first|refine hr25 _ ?_|refine hr24 _ ?_|refine hr17 _ ?_|refine hr16 _ ?_|refine hr15 _ ?_|refine hr14 _ ?_|refine hr2 _ ?_|refine hr1 _ ?_)
       simp only[go_sem]
       rw[hres];rfl
     · have d61:decide ((a:Int)≠1)=true:=decide_eq_true (by omega)
       by_cases h62:a=2
       · have d62:decide ((a:Int)≠2)=false:=decide_eq_false (by omega)
         have hres:je l=(⟨i,a,b,[]⟩,0):=hpar.trans (if_neg (by omega))
         refine zc fun KY hKY=>?_
         simp only[go_sem,ql,d6,d61,d62]
         apply hKY
         refine qv ?_
         refine zn ?_
         repeat (first|refine hn25 _ ?_|refine he25 _ _ ?_|refine hn24 _ ?_|refine he24 _ _ ?_|refine hn17 _ ?_|refine he17 _ _ ?_|refine he16 _ _ ?_|refine hn15 _ ?_|refine he15 _ ?_|refine hf15 _ _ (by decide) ?_|refine hn14 _ ?_|refine he14 _ _ ?_|refine hn2 _ ?_|refine he2 _ _ ?_|refine hn1 _ ?_|refine he1 _ _ ?_)
         refine zc fun KY hKY=>?_
         simp only[go_sem,QL]
         apply hKY
         refine ZE [0,2,3] 1 (by simp only[go_sem]) ?_
         simp only[go_sem]
         refine zW [0,2,3] (by simp only[go_sem];rfl) ?_
         simp only[go_sem]
         refine zo ?_
         repeat (first|refine hr25 _ ?_|refine hr24 _ ?_|refine hr17 _ ?_|refine hr16 _ ?_|refine hr15 _ ?_|refine hr14 _ ?_|refine hr2 _ ?_|refine hr1 _ ?_)
         simp only[go_sem]
         rw[hres];rfl
       · have d62:decide ((a:Int)≠2)=true:=decide_eq_true (by omega)
         have hres:je l=(⟨0,0,0,[]⟩,15):=hpar.trans (if_pos ⟨h6,h61,h62⟩)
         refine zc fun KY hKY=>?_
         simp only[go_sem,ql,d6,d61,d62]
         apply hKY
         refine JX ?_
         refine zc fun KY hKY=>?_
         simp only[go_sem,xZ]
         apply hKY
         refine ZE [0,2,3] 1 (by simp only[go_sem]) ?_
         simp only[go_sem]
         refine zW [0,2,3] (by simp only[go_sem];rfl) ?_
         simp only[go_sem]
         refine zo ?_
         repeat (first|refine hr25 _ ?_|refine hr24 _ ?_|refine hr17 _ ?_|refine hr16 _ ?_|refine hr15 _ ?_|refine hr14 _ ?_|refine hr2 _ ?_|refine hr1 _ ?_)
         simp only[go_sem]
         rw[hres];rfl
   · have d6:decide ((i:Int)=6)=false:=decide_eq_false (by omega)
     have hres:je l=(⟨i,a,b,[]⟩,0):=hpar.trans (if_neg (by omega))
     refine zc fun KY hKY=>?_
     simp only[go_sem,ql,d6]
     apply hKY
     refine qv ?_
     refine zn ?_
     repeat (first|refine hn25 _ ?_|refine he25 _ _ ?_|refine hn24 _ ?_|refine he24 _ _ ?_|refine hn17 _ ?_|refine he17 _ _ ?_|refine he16 _ _ ?_|refine hn15 _ ?_|refine he15 _ ?_|refine hf15 _ _ (by decide) ?_|refine hn14 _ ?_|refine he14 _ _ ?_|refine hn2 _ ?_|refine he2 _ _ ?_|refine hn1 _ ?_|refine he1 _ _ ?_)
     refine zc fun KY hKY=>?_
     simp only[go_sem,QL]
     apply hKY
     refine ZE [0,2,3] 1 (by simp only[go_sem]) ?_
     simp only[go_sem]
     refine zW [0,2,3] (by simp only[go_sem];rfl) ?_
     simp only[go_sem]
     refine zo ?_
     repeat (first|refine hr25 _ ?_|refine hr24 _ ?_|refine hr17 _ ?_|refine hr16 _ ?_|refine hr15 _ ?_|refine hr14 _ ?_|refine hr2 _ ?_|refine hr1 _ ?_)
     simp only[go_sem]
     rw[hres];rfl
theorem jZ :zy Tryd.prog [] GS [] [] fun r h'=>r= .sc (.bool true)∧h'=[]:=by
 have hP:=Ko [97,100,100,32,49,32,50] (by decide)
 rw[show je [97,100,100,32,49,32,50]=(⟨2,1,2,[]⟩,0) by kernel_rfl] at hP
 unfold PK.cells at hP
 simp only at hP
 refine pN rfl ?_
 unfold G9 yW
 refine zc fun KY hKY=>?_
 simp only[go_sem,ue]
 apply hKY
 refine zc fun KY hKY=>?_
 simp only[go_sem,ud]
 apply ZZ [] [] false none rfl
 iterate 8 (first|(simp only[go_sem,zP]<;>rfl)|rfl)
 refine(hP).mono ?_
 rintro _ _ ⟨rfl,rfl⟩
 refine⟨Nat.le_of_ble_eq_true rfl,(fun hh=>by cases hh),?_⟩
 simp only[go_sem,Zv,zb.after]
 apply hKY
 refine zc fun KY hKY=>?_
 simp only[go_sem,uc]
 apply hKY
 refine zo ?_
 simp only[go_sem]
theorem U7 (l m:List UInt8)(h:l.length+m.length≤1000):jC .add (ZN l) (ZN m)=some (.string (ZN (l++m))):=Ws (by omega)
theorem P8 (k:Nat)(h:k≤1000000000):IntKind.i64.wrap ((k:Int)+1)=((k+1:Nat):Int):=by rw[IntWalk.i64_in _ (by omega)];omega
theorem pR (x y:List UInt8):zy Tryd.prog [] Ux [.sc (.string (ZN x)),.sc (.string (ZN y))] [] fun r h'=>r= .sc (.bool (decide (x=y)))∧h'=[]:=by
 refine pE rfl ?_
 unfold G0 wG
 refine zc fun KY hKY=>?_
 simp only[go_sem,XA]
 apply hKY
 refine zc fun KY hKY=>?_
 simp only[go_sem,Xz]
 apply hKY
 refine zo ?_
 simp only[go_sem]
theorem Uo {xs:List (List UInt8)}{k:Nat}{x:List UInt8}(h:xs[k]?=some x):(Zc xs)[k]?=some (.sc (.string (ZN x))):=Qn h
theorem Uj {α:Type}[DecidableEq α]{xs ys:List α}{k:Nat}{x y:α}(hx:xs[k]?=some x)(hy:ys[k]?=some y)(h:xs.take k=ys.take k):xs.take (k+1)=ys.take (k+1)↔x=y:=by
 rw[List.take_add_one,List.take_add_one,hx,hy,h]
 simp
theorem kX (xs ys:List (List UInt8))(hb:xs.length≤1000000000):zy Tryd.prog [] GL [.imm 1 (Zc xs),.imm 1 (Zc ys),.fn (.func Ux) [] []] [] fun r h'=>r= .sc (.bool (decide (xs=ys)))∧h'=[]:=by
 refine pF rfl ?_
 unfold G1 jr
 refine zc fun KY hKY=>?_
 simp only[go_sem,XJ]
 apply hKY
 refine zi fun X1 hn1 he1 hr1=>?_
 refine zc fun KY hKY=>?_
 simp only[go_sem,XI,Nat.div_one,zD]
 apply hKY
 simp only[go_sem]
 by_cases hl:xs.length=ys.length
 case neg=>
  have hl':decide (((xs.length:Nat):Int)≠((ys.length:Nat):Int))=true:=decide_eq_true (by omega)
  refine QU (by simp only[go_sem,hl']) ?_
  refine zc fun KY hKY=>?_
  simp only[go_sem,XH]
  apply hKY
  refine zo (hr1 _ ?_)
  simp only[go_sem]
  rw[decide_eq_false (fun e:xs=ys=>hl (by rw[e]))]
 have hl':decide (((xs.length:Nat):Int)≠((ys.length:Nat):Int))=false:=decide_eq_false (by omega)
 refine QV (by simp only[go_sem,hl']) (zn (hn1 _ ?_))
 refine zi fun X2 hn2 he2 hr2=>?_
 refine zc fun KY hKY=>?_
 simp only[go_sem,XG]
 apply hKY
 refine zO fun X3 hn3 he3 hf3 hr3=>?_
 refine W8 (fun m s=>∃(k:Nat) (A16 A29:za),k≤xs.length∧m=xs.length - k∧xs.take k=ys.take k∧s={vs:=[(0,.imm 1 (Zc xs)),(1,.imm 1 (Zc ys)),(2,.fn (.func Ux) [] []),(6,.sc (.bool false)),(7,.sc (.int .i64 (k:Int))),(12,.sc (.bool (decide (((xs.length:Nat):Int)≠((ys.length:Nat):Int))))),(16,A16),(29,A29)],ts:=[],h:=[]}) xs.length ⟨0,.dead,.dead,Nat.zero_le _,rfl,rfl,?_⟩ ?_
 · rfl
 rintro m _ ⟨k,A16,A29,hk,rfl,hpre,rfl⟩ X4 hn4 he4 hr4
 refine Ya [16,29] rfl ?_
 simp only[go_sem]
 refine zi fun X5 hn5 he5 hr5=>?_
 refine zi fun X6 hn6 he6 hr6=>?_
 refine zX fun KY hKY=>?_
 simp only[go_sem,XF,Nat.div_one,zD]
 refine hKY _ (hn6 _ ?_)
 simp only[go_sem]
 refine kA (v:=decide ((k:Int)<(xs.length:Int))) rfl (fun h=>zn (hn5 _ ?_)) fun h=>ZW (he5 _ _ (he4 _ _ (he3 _ (hn2 _ ?_))))
 · have hlt:k<xs.length:=by have:=of_decide_eq_true h;omega
   have hlt2:k<ys.length:=by omega
   have hx:xs[k]?=some xs[k]:=List.getElem?_eq_getElem hlt
   have hy:ys[k]?=some ys[k]:=List.getElem?_eq_getElem hlt2
   have st:=Uj hx hy hpre
   refine zi fun X7 hn7 he7 hr7=>?_
   refine zO fun X8 hn8 he8 hf8 hr8=>?_
   refine ZO fun KY hKY=>?_
   simp only[go_sem,XE,zD,Uo hx,Uo hy,hlt,hlt2]
   refine zF rfl (by simp only[go_sem]<;>rfl) ((pR xs[k] ys[k]).mono ?_)
   rintro rr hh ⟨rfl,rfl⟩
   refine⟨rfl,rfl,rfl,?_⟩
   simp only[go_sem]
   apply hKY
   simp only[go_sem]
   by_cases e:xs[k]=ys[k]
   · refine QV (by simp only[go_sem,decide_eq_true e]) (zn (hn8 _ (hn7 _ ?_)))
     refine zX fun KY hKY=>?_
     simp only[go_sem,XC,P8 k (by omega)]
     refine hKY _ (hn4 (xs.length - (k+1)) _ (by omega) ?_)
     simp only[go_sem]
     exact⟨k+1,_,_,hlt,rfl,st.2 e,rfl⟩
   · refine QU (by simp only[go_sem,decide_eq_false e]) ?_
     refine zc fun KY hKY=>?_
     simp only[go_sem,XD]
     apply hKY
     refine zo (hr8 _ (hr7 _ (hr4 _ (hr3 _ (hr2 _ ?_)))))
     simp only[go_sem]
     rw[decide_eq_false (fun e':xs=ys=>e (by subst e';rfl))]
 · have hkn:k=xs.length:=by have:=of_decide_eq_false h;omega
   refine zc fun KY hKY=>?_
   simp only[go_sem,XB]
   apply hKY
   refine zo ?_
   simp only[go_sem]
   rw[hkn,List.take_length,hl,List.take_length] at hpre
   rw[decide_eq_true hpre]
theorem vx (xs ys:List (List UInt8))(hb:xs.length≤1000000000):zy Tryd.prog [] GR [.imm 1 (Zc xs),.imm 1 (Zc ys)] [] fun r h'=>r= .sc (.bool (decide (xs=ys)))∧h'=[]:=by
 refine pM rfl ?_
 unfold G8 wI
 refine zc fun KY hKY=>?_
 simp only[go_sem,ub]
 apply hKY
 refine zc fun KY hKY=>?_
 simp only[go_sem,ua]
 refine zF rfl (by simp only[go_sem]<;>rfl) ((kX xs ys hb).mono ?_)
 rintro rr hh ⟨rfl,rfl⟩
 refine⟨rfl,rfl,rfl,?_⟩
 simp only[go_sem]
 apply hKY
 refine zo ?_
 simp only[go_sem]
end Go.Proofs.YtneiihheeghdcaaDoor

namespace Go.Ga.Gl
open Go Go.Ga
theorem xo (c:UInt8):∀(w r:List UInt8),w.count c=0→zH c (w++c::r)=w::zH c r
 |[],r,_=>by show zH c (c::r)=_;rw[j5,if_pos rfl]
 | b::w,r,h=>by
   have hb:b≠c:=fun e=>by rw[e,List.count_cons_self] at h;omega
   rw[List.count_cons_of_ne hb] at h
   show zH c (b::(w++c::r))=_
   rw[j5,if_neg hb,xo c w r h]
def kept (w:List UInt8)(k:Nat):List UInt8:=(w.take k).filter fun b=>decide (b≠10)
theorem vK {w:List UInt8}{k:Nat}{b:UInt8}(h:w[k]?=some b):kept w (k+1)=if b=10 then kept w k else kept w k++[b]:=by
 unfold kept
 rw[List.take_add_one,h,List.filter_append]
 by_cases hb:b=10<;>simp[hb]
theorem Yw (w:List UInt8)(k:Nat):(kept w k).length≤k:=Nat.le_trans (List.length_filter_le _ _) (by simp;omega)
theorem u0 (w:List UInt8)(k:Nat):(kept w k).count 10=0:=by
 rw[List.count_eq_zero]
 intro h
 have:=(List.mem_filter.1 h).2
 revert this;decide
def jq (ws:List (List UInt8)):List (List UInt8):=ws.map fun w=>kept w 60
def ZC (ps:List (List UInt8)):List UInt8:=ps.flatMap fun p=>p++[10]
theorem wR (ps:List (List UInt8))(p:List UInt8):ZC (ps++[p])=ZC ps++(p++[10]):=by simp[ZC]
theorem Kk (ps:List (List UInt8))(h:∀p∈ps,p.length≤60):(ZC ps).length≤ps.length*61:=by
 induction ps with
 |nil=>simp[ZC]
 | cons p ps ih=>
   have h1:=h p (.head _)
   have h2:=ih fun q hq=>h q (.tail _ hq)
   have:ZC (p::ps)=(p++[10])++ZC ps:=by simp[ZC]
   rw[this];simp;omega
theorem q4 :∀(ps:List (List UInt8)) (r:List UInt8),(∀p∈ps,p.count 10=0)→zH 10 (ZC ps++r)=ps++zH 10 r
 |[],r,_=>by simp[ZC]
 | p::ps,r,h=>by
   have e:ZC (p::ps)++r=p++10::(ZC ps++r):=by simp[ZC]
   rw[e,xo 10 p _ (h p (.head _)),q4 ps r fun q hq=>h q (.tail _ hq)];rfl
theorem wi (ps:List (List UInt8))(h:∀p∈ps,p.count 10=0):yk (ZC ps)=ps:=by
 have:=q4 ps [] h
 rw[List.append_nil] at this
 unfold yk
 rw[this,show zH 10 []=[[]] from rfl]
 simp
theorem kw (ps:List (List UInt8))(q:List UInt8)(h:∀p∈ps,p.count 10=0)(hq:q.count 10=0)(hne:q≠ []):yk (ZC ps++q)=ps++[q]:=by
 unfold yk
 rw[q4 ps q h,j4 hq]
 simp[hne]
end Go.Ga.Gl
namespace Go.Proofs.YtneiihheeghdcaaDoor
open Go Go.Ga Go.Ga.Gl
theorem xI (ws:List (List UInt8))(e:Bool)(hwl:ws.length≤1000000000)(hws:∀w∈ws,w.length≤1000000000):zy Tryd.prog [] pr [.imm 1 (Zc ws),.sc (.bool e)] [] fun r h'=>r= .sc (.bool true):=by
 refine Po rfl ?_
 unfold Px ZH
 refine zc fun KY hKY=>?_
 simp only[go_sem,UR]
 apply hKY
 refine zi fun X1 hn1 he1 hr1=>?_
 by_cases hbig:40<ws.length
 · have d:decide (40<(ws.length:Int))=true:=decide_eq_true (by omega)
   refine zc fun KY hKY=>?_
   simp only[go_sem,WY,zD,d]
   apply hKY
   refine JX ?_
   refine zc fun KY hKY=>?_
   simp only[go_sem,UQ]
   refine zF rfl (by simp only[go_sem]<;>rfl) ((jZ).mono ?_)
   rintro rr hh ⟨rfl,rfl⟩
   refine⟨rfl,rfl,rfl,?_⟩
   simp only[go_sem]
   apply hKY
   refine zo ?_
   repeat (first|refine hr1 _ ?_)
   simp only[go_sem]
 have d:decide (40<(ws.length:Int))=false:=decide_eq_false (by omega)
 refine zc fun KY hKY=>?_
 simp only[go_sem,WY,zD,d]
 apply hKY
 refine qv ?_
 refine zn ?_
 repeat (first|refine hn1 _ ?_|refine he1 _ _ ?_)
 refine zc fun KY hKY=>?_
 simp only[go_sem,UP]
 apply hKY
 refine zc fun KY hKY=>?_
 simp only[go_sem,UO]
 apply hKY
 refine ZE [0,6] 1 (by simp only[go_sem]) ?_
 simp only[go_sem]
 rw[show za.own (some 1) []= .own (some 1) (Zc (jq (ws.take 0))) from rfl,show ZN []=ZN (ZC (jq (ws.take 0))) from rfl]
 refine zi fun X2 hn2 he2 hr2=>?_
 refine zc fun KY hKY=>?_
 simp only[go_sem,UN]
 apply hKY
 refine zO fun X3 hn3 he3 hf3 hr3=>?_
 try simp only[go_sem]
 refine Jz (α:=Nat) [8,9,17,30,39] (fun i=>[(5,.sc (.string (ZN (ZC (jq (ws.take i)))))),(6,.own (some 1) (Zc (jq (ws.take i)))),(7,.sc (.int .i64 (i:Int)))]) (fun i=>[]) (fun i q=>i≤ws.length∧q=ws.length - i) (0) (ws.length) rfl (by first|(simp only[go_sem,zk,zl];done)|with_reducible rfl|rfl) (⟨Nat.zero_le _,rfl⟩) ?_
 rintro i q ⟨hi,rfl⟩ X4 hn4 he4 hr4
 simp only[go_sem,zk,zl]
 have hwc:∀k,∀p∈jq (ws.take k),p.length≤60:=fun k p hp=>by
  obtain⟨w,_,rfl⟩:=List.mem_map.1 hp
  exact Yw w 60
 have hwn:∀k,∀p∈jq (ws.take k),p.count 10=0:=fun k p hp=>by
  obtain⟨w,_,rfl⟩:=List.mem_map.1 hp
  exact u0 w 60
 have hwlen:∀k,k≤ws.length→(jq (ws.take k)).length=k:=fun k hk=>by simp[jq];omega
 have hpl:∀k,k≤ws.length→(ZC (jq (ws.take k))).length≤61*40:=fun k hk=>by
  exact Nat.le_trans (Kk _ (hwc k)) (by rw[hwlen k hk];omega)
 refine zi fun X5 hn5 he5 hr5=>?_
 rcases Nat.lt_or_ge i ws.length with hi2|hi2
 · have hi1:i+1≤ws.length:=hi2
   have hsz:(i+1)*16≤140737488355328:=by omega
   have hii:=xP (show i<4611686018427387904 by omega)
   have hdx:decide ((i:Int)<(ws.length:Int))=true:=decide_eq_true (by omega)
   have hx:ws[i]?=some ws[i]:=List.getElem?_eq_getElem hi2
   have hwm:=hws _ (List.getElem_mem hi2)
   have htk:ws.take (i+1)=ws.take i++[ws[i]]:=by rw[List.take_add_one,hx];rfl
   generalize ws[i]=w at hx hwm htk
   have hg:=Qn hx
   have hwt:jq (ws.take (i+1))=jq (ws.take i)++[kept w 60]:=by rw[htk];simp[jq]
   have hpt:ZC (jq (ws.take (i+1)))=ZC (jq (ws.take i))++kept w 60++[10]:=by rw[hwt,wR];simp
   refine zc fun KY hKY=>?_
   simp only[go_sem,WX,zD,hdx]
   apply hKY
   refine JX ?_
   refine zn ?_
   repeat (first|refine hn5 _ ?_|refine he5 _ _ ?_|refine he4 _ _ ?_|refine hn3 _ ?_|refine he3 _ ?_|refine hf3 _ _ (by decide) ?_|refine hn2 _ ?_|refine he2 _ _ ?_|refine hn1 _ ?_|refine he1 _ _ ?_)
   refine zi fun X6 hn6 he6 hr6=>?_
   refine zO fun X7 hn7 he7 hf7 hr7=>?_
   refine zc fun KY hKY=>?_
   simp only[go_sem,UM]
   apply hKY
   rw[show za.sc (.string (ZN []))= .sc (.string (ZN (kept w 0))) from rfl]
   refine zi fun X8 hn8 he8 hr8=>?_
   refine zc fun KY hKY=>?_
   simp only[go_sem,UL]
   apply hKY
   refine zO fun X9 hn9 he9 hf9 hr9=>?_
   try simp only[go_sem]
   refine Jz (α:=Nat) [30,39] (fun k=>[(8,.sc (.string (ZN (kept w k)))),(9,.sc (.int .i64 (k:Int)))]) (fun k=>[]) (fun k q=>k≤w.length∧k≤60∧q=60 - k) (0) (60) rfl (by first|(simp only[go_sem,zk,zl];done)|with_reducible rfl|rfl) (⟨Nat.zero_le _,Nat.zero_le _,rfl⟩) ?_
   rintro k q ⟨hk,hk60,rfl⟩ X10 hn10 he10 hr10
   simp only[go_sem,zk,zl]
   refine zi fun X11 hn11 he11 hr11=>?_
   rcases(show(k<w.length∧k<60)∨k=w.length∨(k<w.length∧k=60) by omega) with⟨hk1,hk2⟩|hk1
   · have d1:decide ((k:Int)<(w.length:Int))=true:=decide_eq_true (by omega)
     have d2:decide ((k:Int)<60)=true:=decide_eq_true (by omega)
     have hb:w[k]?=some w[k]:=List.getElem?_eq_getElem hk1
     have hgb:w.getD k 0=w[k]:=by rw[List.getD_eq_getElem?_getD,hb];rfl
     have hcut:(w.take (k+1)).drop k=[w[k]]:=by
      rw[List.drop_take,List.drop_eq_getElem_cons hk1,show k+1 - k=1 by omega];rfl
     have hks:=vK hb
     generalize w[k]=b at hb hgb hcut hks
     refine zc fun KY hKY=>?_
     simp only[go_sem,yT,hg,zD,hi2,hi1,d1,d2]
     apply hKY
     refine JX ?_
     refine zn ?_
     repeat (first|refine hn11 _ ?_|refine he11 _ _ ?_|refine he10 _ _ ?_|refine hn9 _ ?_|refine he9 _ ?_|refine hf9 _ _ (by decide) ?_|refine hn8 _ ?_|refine he8 _ _ ?_|refine hn7 _ ?_|refine he7 _ ?_|refine hf7 _ _ (by decide) ?_|refine hn6 _ ?_|refine he6 _ _ ?_|refine hn5 _ ?_|refine he5 _ _ ?_)
     refine zi fun X12 hn12 he12 hr12=>?_
     refine zO fun X13 hn13 he13 hf13 hr13=>?_
     by_cases hb10:b=10
     · have d3:decide ((b.toNat:Int)≠10)=false:=decide_eq_false (fun h=>h (by rw[hb10];rfl))
       rw[if_pos hb10] at hks
       refine zc fun KY hKY=>?_
       simp only[go_sem,YU,hg,zD,hi2,hi1,hk1,hgb,d3]
       apply hKY
       refine qv ?_
       refine zn ?_
       repeat (first|refine hn13 _ ?_|refine he13 _ ?_|refine hf13 _ _ (by decide) ?_|refine hn12 _ ?_|refine he12 _ _ ?_|refine hn11 _ ?_|refine he11 _ _ ?_|refine he10 _ _ ?_|refine hn9 _ ?_|refine he9 _ ?_|refine hf9 _ _ (by decide) ?_|refine hn8 _ ?_|refine he8 _ _ ?_|refine hn7 _ ?_|refine he7 _ ?_|refine hf7 _ _ (by decide) ?_|refine hn6 _ ?_|refine he6 _ _ ?_|refine hn5 _ ?_|refine he5 _ _ ?_)
       refine zX fun KY hKY=>?_
       simp only[go_sem,YT,xP (show k<4611686018427387904 by omega)]
       apply hKY
       repeat (first|refine hn13 _ ?_|refine he13 _ ?_|refine hf13 _ _ (by decide) ?_|refine hn12 _ ?_|refine he12 _ _ ?_|refine hn11 _ ?_|refine he11 _ _ ?_)
       refine hn10 _ (k+1) (60 - (k+1)) (by omega) (by first|(simp only[go_sem,zk,zl,hks];done)|with_reducible rfl) ?_
       exact⟨hk1,hk2,rfl⟩
     · have d3:decide ((b.toNat:Int)≠10)=true:=decide_eq_true (fun h=>hb10 (UInt8.toNat_inj.1 (Int.ofNat_inj.1 h)))
       rw[if_neg hb10] at hks
       have hkl:=Yw w k
       have ha:=U7 (kept w k) [b] (by simp;omega)
       have wk:IntKind.i64.wrap ((k:Int)+1)=((k+1:Nat):Int):=by rw[IntWalk.i64_in _ (by omega)];omega
       refine zc fun KY hKY=>?_
       simp only[go_sem,YU,hg,zD,hi2,hi1,hk1,hgb,d3]
       apply hKY
       refine JX ?_
       refine zX fun KY hKY=>?_
       simp only[go_sem,Xc,hg,zD,hi2,hi1,wk,(show k≤k+1 by omega),(show k+1≤w.length by omega),hcut,ha]
       apply hKY
       repeat (first|refine hn13 _ ?_|refine he13 _ ?_|refine hf13 _ _ (by decide) ?_|refine hn12 _ ?_|refine he12 _ _ ?_|refine hn11 _ ?_|refine he11 _ _ ?_|refine he10 _ _ ?_|refine hn9 _ ?_|refine he9 _ ?_|refine hf9 _ _ (by decide) ?_|refine hn8 _ ?_|refine he8 _ _ ?_|refine hn7 _ ?_|refine he7 _ ?_|refine hf7 _ _ (by decide) ?_|refine hn6 _ ?_|refine he6 _ _ ?_|refine hn5 _ ?_|refine he5 _ _ ?_)
       refine zX fun KY hKY=>?_
       simp only[go_sem,YT,wk]
       apply hKY
       repeat (first|refine hn13 _ ?_|refine he13 _ ?_|refine hf13 _ _ (by decide) ?_|refine hn12 _ ?_|refine he12 _ _ ?_|refine hn11 _ ?_|refine he11 _ _ ?_)
       refine hn10 _ (k+1) (60 - (k+1)) (by omega) (by first|(simp only[go_sem,zk,zl,hks];done)|with_reducible rfl) ?_
       exact⟨hk1,hk2,rfl⟩
   have hfull:kept w k=kept w 60:=by
    unfold kept
    rcases hk1 with h|⟨h,h2⟩
    · rw[h,List.take_length,List.take_of_length_le (by omega)]
    · rw[h2]
   rw[hfull]
   have hwk:=Yw w 60
   have hpi:=hpl i hi
   have a1:jC .add (ZN (ZC (jq (ws.take i)))) (ZN (kept w 60))=_:=Ws (by omega)
   have a2:jC .add (ZN (ZC (jq (ws.take i))++kept w 60)) (ZN [10])=_:=Ws (by simp;omega)
   rw[←hpt] at a2
   have hwi:=hwlen i hi
   have hend:(decide ((k:Int)<(w.length:Int))=false)∨(decide ((k:Int)<(w.length:Int))=true∧decide ((k:Int)<60)=false):=by
    rcases hk1 with h|⟨h,h2⟩
    · exact .inl (decide_eq_false (by omega))
    · exact .inr ⟨decide_eq_true (by omega),decide_eq_false (by omega)⟩
   refine zc fun KY hKY=>?_
   apply PQ
   · intro H
     rcases hend with h1|⟨h1,h2⟩
     · simp only[go_sem,yT,hg,zD,hi2,hi1,h1]
       apply hKY
       repeat (first|refine hn11 _ ?_|refine he11 _ _ ?_|refine hr11 _ ?_|refine he10 _ _ ?_|refine hr10 _ ?_|refine hn9 _ ?_|refine he9 _ ?_|refine hf9 _ _ (by decide) ?_|refine hr9 _ ?_|refine hn8 _ ?_|refine he8 _ _ ?_|refine hr8 _ ?_|refine hn7 _ ?_|refine he7 _ ?_|refine hf7 _ _ (by decide) ?_|refine hr7 _ ?_|refine hn6 _ ?_|refine he6 _ _ ?_|refine hr6 _ ?_|refine hn5 _ ?_|refine he5 _ _ ?_|refine hr5 _ ?_|refine he4 _ _ ?_|refine hr4 _ ?_|refine hn3 _ ?_|refine he3 _ ?_|refine hf3 _ _ (by decide) ?_|refine hr3 _ ?_|refine hn2 _ ?_|refine he2 _ _ ?_|refine hr2 _ ?_|refine hn1 _ ?_|refine he1 _ _ ?_|refine hr1 _ ?_)
       simp only[go_sem]
       exact H
     · simp only[go_sem,yT,hg,zD,hi2,hi1,h1,h2]
       apply hKY
       repeat (first|refine hn11 _ ?_|refine he11 _ _ ?_|refine hr11 _ ?_|refine he10 _ _ ?_|refine hr10 _ ?_|refine hn9 _ ?_|refine he9 _ ?_|refine hf9 _ _ (by decide) ?_|refine hr9 _ ?_|refine hn8 _ ?_|refine he8 _ _ ?_|refine hr8 _ ?_|refine hn7 _ ?_|refine he7 _ ?_|refine hf7 _ _ (by decide) ?_|refine hr7 _ ?_|refine hn6 _ ?_|refine he6 _ _ ?_|refine hr6 _ ?_|refine hn5 _ ?_|refine he5 _ _ ?_|refine hr5 _ ?_|refine he4 _ _ ?_|refine hr4 _ ?_|refine hn3 _ ?_|refine he3 _ ?_|refine hf3 _ _ (by decide) ?_|refine hr3 _ ?_|refine hn2 _ ?_|refine he2 _ _ ?_|refine hr2 _ ?_|refine hn1 _ ?_|refine he1 _ _ ?_|refine hr1 _ ?_)
       simp only[go_sem]
       exact H
   refine qv ?_
   refine ZW ?_
   repeat (first|refine hn11 _ ?_|refine he11 _ _ ?_|refine he10 _ _ ?_|refine hn9 _ ?_|refine he9 _ ?_|refine hf9 _ _ (by decide) ?_|refine hn8 _ ?_|refine he8 _ _ ?_|refine hn7 _ ?_|refine he7 _ ?_|refine hf7 _ _ (by decide) ?_|refine hn6 _ ?_|refine he6 _ _ ?_|refine hn5 _ ?_|refine he5 _ _ ?_|refine he4 _ _ ?_|refine hn3 _ ?_|refine he3 _ ?_|refine hf3 _ _ (by decide) ?_|refine hn2 _ ?_|refine he2 _ _ ?_|refine hn1 _ ?_|refine he1 _ _ ?_)
   refine zc fun KY hKY=>?_
   simp only[go_sem,Xb,QX,←hwt,zD,hwi,hsz]
   apply hKY
   refine zX fun KY hKY=>?_
   simp only[go_sem,Xa,a1,a2]
   apply hKY
   repeat (first|refine hn11 _ ?_|refine he11 _ _ ?_|refine he10 _ _ ?_|refine hn9 _ ?_|refine he9 _ ?_|refine hf9 _ _ (by decide) ?_|refine hn8 _ ?_|refine he8 _ _ ?_|refine hn7 _ ?_|refine he7 _ ?_|refine hf7 _ _ (by decide) ?_|refine hn6 _ ?_|refine he6 _ _ ?_|refine hn5 _ ?_|refine he5 _ _ ?_)
   refine zX fun KY hKY=>?_
   simp only[go_sem,x9,hii]
   apply hKY
   repeat (first|refine hn11 _ ?_|refine he11 _ _ ?_|refine he10 _ _ ?_|refine hn9 _ ?_|refine he9 _ ?_|refine hf9 _ _ (by decide) ?_|refine hn8 _ ?_|refine he8 _ _ ?_|refine hn7 _ ?_|refine he7 _ ?_|refine hf7 _ _ (by decide) ?_|refine hn6 _ ?_|refine he6 _ _ ?_|refine hn5 _ ?_|refine he5 _ _ ?_)
   refine hn4 _ (i+1) (ws.length - (i+1)) (by omega) (by first|(simp only[go_sem,zk,zl];done)|with_reducible rfl) ?_
   exact⟨hi2,rfl⟩
 obtain rfl:i=ws.length:=by omega
 have hdx:decide ((ws.length:Int)<(ws.length:Int))=false:=decide_eq_false (by omega)
 have hwn:=hwn ws.length
 have hwlen:=hwlen ws.length (Nat.le_refl _)
 have hpl:=hpl ws.length (Nat.le_refl _)
 rw[List.take_length] at hwn hwlen hpl
 refine zc fun KY hKY=>?_
 simp only[go_sem,WX,zD,hdx]
 apply hKY
 refine qv ?_
 refine ZW ?_
 repeat (first|refine hn5 _ ?_|refine he5 _ _ ?_|refine he4 _ _ ?_|refine hn3 _ ?_|refine he3 _ ?_|refine hf3 _ _ (by decide) ?_|refine hn2 _ ?_|refine he2 _ _ ?_|refine hn1 _ ?_|refine he1 _ _ ?_)
 rw[List.take_length]
 generalize jq ws=W at*
 have hP:=vx W W (by omega)
 rw[decide_eq_true rfl] at hP
 have hW40:W.length≤40:=by omega
 refine zi fun X14 hn14 he14 hr14=>?_
 cases e with
 | true=>
   have hA:=yP (ZC W) (by omega)
   rw[wi W hwn] at hA
   refine zc fun KY hKY=>?_
   simp only[go_sem,qp]
   apply hKY
   refine qv ?_
   refine zn ?_
   repeat (first|refine hn14 _ ?_|refine he14 _ _ ?_|refine hn5 _ ?_|refine he5 _ _ ?_|refine he4 _ _ ?_|refine hn3 _ ?_|refine he3 _ ?_|refine hf3 _ _ (by decide) ?_|refine hn2 _ ?_|refine he2 _ _ ?_|refine hn1 _ ?_|refine he1 _ _ ?_)
   refine zc fun KY hKY=>?_
   simp only[go_sem,qo]
   refine zF rfl (by simp only[go_sem]<;>rfl) ((jZ).mono ?_)
   rintro rr hh ⟨rfl,rfl⟩
   refine⟨rfl,rfl,rfl,?_⟩
   simp only[go_sem]
   apply ZZ [] [] false none rfl
   iterate 8 (first|(simp only[go_sem,zP]<;>rfl)|rfl)
   refine(hA).mono ?_
   rintro _ _ ⟨rfl,rfl⟩
   refine⟨Nat.le_of_ble_eq_true rfl,(fun hh=>by cases hh),?_⟩
   simp only[go_sem,Zv,zb.after]
   refine zF rfl (by simp only[go_sem]<;>rfl) ((hP).mono ?_)
   rintro rr hh ⟨rfl,rfl⟩
   refine⟨rfl,rfl,rfl,?_⟩
   simp only[go_sem]
   apply hKY
   refine zo ?_
   repeat (first|refine hr14 _ ?_|refine hr5 _ ?_|refine hr4 _ ?_|refine hr3 _ ?_|refine hr2 _ ?_|refine hr1 _ ?_)
   simp only[go_sem]
 | false=>
   rcases List.eq_nil_or_concat W with rfl|⟨init,p,rfl⟩
   · have hA:=yP (ZC []) (by decide)
     rw[wi [] hwn] at hA
     refine zc fun KY hKY=>?_
     simp only[go_sem,qp]
     apply hKY
     refine qv ?_
     refine zn ?_
     repeat (first|refine hn14 _ ?_|refine he14 _ _ ?_|refine hn5 _ ?_|refine he5 _ _ ?_|refine he4 _ _ ?_|refine hn3 _ ?_|refine he3 _ ?_|refine hf3 _ _ (by decide) ?_|refine hn2 _ ?_|refine he2 _ _ ?_|refine hn1 _ ?_|refine he1 _ _ ?_)
     refine zc fun KY hKY=>?_
     simp only[go_sem,qo]
     refine zF rfl (by simp only[go_sem]<;>rfl) ((jZ).mono ?_)
     rintro rr hh ⟨rfl,rfl⟩
     refine⟨rfl,rfl,rfl,?_⟩
     simp only[go_sem]
     apply ZZ [] [] false none rfl
     iterate 8 (first|(simp only[go_sem,zP]<;>rfl)|rfl)
     refine(hA).mono ?_
     rintro _ _ ⟨rfl,rfl⟩
     refine⟨Nat.le_of_ble_eq_true rfl,(fun hh=>by cases hh),?_⟩
     simp only[go_sem,Zv,zb.after]
     refine zF rfl (by simp only[go_sem]<;>rfl) ((hP).mono ?_)
     rintro rr hh ⟨rfl,rfl⟩
     refine⟨rfl,rfl,rfl,?_⟩
     simp only[go_sem]
     apply hKY
     refine zo ?_
     repeat (first|refine hr14 _ ?_|refine hr5 _ ?_|refine hr4 _ ?_|refine hr3 _ ?_|refine hr2 _ ?_|refine hr1 _ ?_)
     simp only[go_sem]
   rw[List.concat_eq_append] at*
   have hil:(init++[p]).length=init.length+1:=by simp
   have hgp:(Zc (init++[p]))[init.length]?=some (.sc (.string (ZN p))):=Qn (by simp)
   have d1:decide (0<((init.length+1:Nat):Int))=true:=decide_eq_true (by omega)
   have w1:IntKind.i64.wrap (((init.length+1:Nat):Int) - 1)=(init.length:Int):=by rw[IntWalk.i64_in _ (by omega)];omega
   by_cases hp:p=[]
   · have dp:decide (p=[])=true:=decide_eq_true hp
     have hA:=yP (ZC (init++[p])) (by omega)
     rw[wi _ hwn] at hA
     refine zc fun KY hKY=>?_
     simp only[go_sem,qp,zD,hil,d1,w1,hgp,Nat.le_refl,(show init.length<init.length+1 by omega),dp]
     apply hKY
     refine qv ?_
     refine zn ?_
     repeat (first|refine hn14 _ ?_|refine he14 _ _ ?_|refine hn5 _ ?_|refine he5 _ _ ?_|refine he4 _ _ ?_|refine hn3 _ ?_|refine he3 _ ?_|refine hf3 _ _ (by decide) ?_|refine hn2 _ ?_|refine he2 _ _ ?_|refine hn1 _ ?_|refine he1 _ _ ?_)
     refine zc fun KY hKY=>?_
     simp only[go_sem,qo]
     refine zF rfl (by simp only[go_sem]<;>rfl) ((jZ).mono ?_)
     rintro rr hh ⟨rfl,rfl⟩
     refine⟨rfl,rfl,rfl,?_⟩
     simp only[go_sem]
     apply ZZ [] [] false none rfl
     iterate 8 (first|(simp only[go_sem,zP]<;>rfl)|rfl)
     refine(hA).mono ?_
     rintro _ _ ⟨rfl,rfl⟩
     refine⟨Nat.le_of_ble_eq_true rfl,(fun hh=>by cases hh),?_⟩
     simp only[go_sem,Zv,zb.after]
     refine zF rfl (by simp only[go_sem]<;>rfl) ((hP).mono ?_)
     rintro rr hh ⟨rfl,rfl⟩
     refine⟨rfl,rfl,rfl,?_⟩
     simp only[go_sem]
     apply hKY
     refine zo ?_
     repeat (first|refine hr14 _ ?_|refine hr5 _ ?_|refine hr4 _ ?_|refine hr3 _ ?_|refine hr2 _ ?_|refine hr1 _ ?_)
     simp only[go_sem]
   · have dp:decide (p=[])=false:=decide_eq_false hp
     have hpu:ZC (init++[p])=(ZC init++p)++[10]:=by rw[wR];simp
     have hpl2:(ZC (init++[p])).length=(ZC init++p).length+1:=by rw[hpu,List.length_append];rfl
     have hA:=yP (ZC init++p) (by omega)
     rw[kw init p (fun q hq=>hwn q (by simp[hq])) (hwn p (by simp)) hp] at hA
     have w2:IntKind.i64.wrap (((ZC init++p).length+1:Nat) - 1:Int)=((ZC init++p).length:Int):=by rw[IntWalk.i64_in _ (by omega)];omega
     have hcut:(ZC (init++[p])).take (ZC init++p).length=ZC init++p:=by rw[hpu];exact List.take_left
     refine zc fun KY hKY=>?_
     simp only[go_sem,qp,zD,hil,d1,w1,hgp,Nat.le_refl,(show init.length<init.length+1 by omega),dp]
     apply hKY
     refine JX ?_
     refine zX fun KY hKY=>?_
     simp only[go_sem,x8,hpl2,w2,(show(ZC init++p).length≤(ZC init++p).length+1 by omega),hcut,List.drop_zero]
     apply hKY
     repeat (first|refine hn14 _ ?_|refine he14 _ _ ?_|refine hn5 _ ?_|refine he5 _ _ ?_|refine he4 _ _ ?_|refine hn3 _ ?_|refine he3 _ ?_|refine hf3 _ _ (by decide) ?_|refine hn2 _ ?_|refine he2 _ _ ?_|refine hn1 _ ?_|refine he1 _ _ ?_)
     refine zc fun KY hKY=>?_
     simp only[go_sem,qo]
     refine zF rfl (by simp only[go_sem]<;>rfl) ((jZ).mono ?_)
     rintro rr hh ⟨rfl,rfl⟩
     refine⟨rfl,rfl,rfl,?_⟩
     simp only[go_sem]
     apply ZZ [] [] false none rfl
     iterate 8 (first|(simp only[go_sem,zP]<;>rfl)|rfl)
     refine(hA).mono ?_
     rintro _ _ ⟨rfl,rfl⟩
     refine⟨Nat.le_of_ble_eq_true rfl,(fun hh=>by cases hh),?_⟩
     simp only[go_sem,Zv,zb.after]
     refine zF rfl (by simp only[go_sem]<;>rfl) ((hP).mono ?_)
     rintro rr hh ⟨rfl,rfl⟩
     refine⟨rfl,rfl,rfl,?_⟩
     simp only[go_sem]
     apply hKY
     refine zo ?_
     repeat (first|refine hr14 _ ?_|refine hr5 _ ?_|refine hr4 _ ?_|refine hr3 _ ?_|refine hr2 _ ?_|refine hr1 _ ?_)
     simp only[go_sem]
theorem gJ (xs:List ByteArray):xs.map (fun s=>za.sc (.string s))=Zc (xs.map fun s=>s.data.toList):=by
 unfold Zc
 rw[List.map_map]
 refine List.map_congr_left fun s _=>?_
 show _=za.sc (.string (ZN s.data.toList))
 rw[kN]
theorem WK (xs:List ByteArray)(e:Bool)(hl:xs.length≤1000000000)(hs:∀s∈xs,s.size≤1000000000):zy Tryd.prog [] pr [.imm 1 (xs.map fun s=> .sc (.string s)),.sc (.bool e)] [] fun r h'=>r= .sc (.bool true):=by
 rw[gJ]
 refine xI _ e (by simpa using hl) fun w hw=>?_
 obtain⟨s,h1,rfl⟩:=List.mem_map.1 hw
 have:=hs s h1
 simpa using this
theorem WL (As:List za)(b:Nat)(h:Gz Tryd.prog Tryd.f6.params.toList As b)(hb:b≤1048576):zy Tryd.prog [] 6 As [] fun r _=>r= .sc (.bool true):=by
 rw[Tryd.params6] at h
 obtain⟨A1,As1,c1,d1,rfl,rfl,h1,h⟩:=xr h
 obtain⟨A2,As2,c2,d2,rfl,rfl,h2,h⟩:=xr h
 obtain rfl:=gV h
 obtain⟨x1,rfl,w1,e1⟩:=gW Tryd.underlying23 Tryd.underlying9 (by kernel_rfl) h1
 obtain⟨x2,rfl⟩:=gX Tryd.underlying4 h2
 exact(WK x1 x2 (by omega) (fun s hs=>by have:=w1 s hs;omega)).mono fun _ _ h=>h
end Go.Proofs.YtneiihheeghdcaaDoor
namespace Go.Proofs.YtneiihheeghdcaaDoor.linesAllend
open Go Go.Ga Go.ChangeShapes Go.WideShapes Go.ChangeAt Go.RowKit
theorem own :ownKnob Tryd.prog.godebug=none:=by kernel_rfl
mutual
theorem yU {H:Type}:∀d:DataW H,Rows.uptoBulk d=jc d
 | .lit l=>by cases l<;>simp[Rows.uptoBulk,jc]
 | .nil=>by simp[Rows.uptoBulk,jc]
 | .ptr d=>by simp[Rows.uptoBulk,jc,yU d]
 | .slice e s=>by simp[Rows.uptoBulk,jc,bulk_eq e,bulk_eq s]
 | .agg p=>by simp[Rows.uptoBulk,jc,bulk_eq p]
 | .iface _ d=>by simp[Rows.uptoBulk,jc,yU d]
 | .map e=>by simp[Rows.uptoBulk,jc,bulk_es e]
 | .held _=>by simp[Rows.uptoBulk,jc]
theorem bulk_eq {H:Type}:∀l:List (DataW H),Rows.uptoBulkAll l=bulkL l
 |[]=>by simp[Rows.uptoBulkAll,bulkL]
 |d::r=>by simp[Rows.uptoBulkAll,bulkL,yU d,bulk_eq r]
theorem bulk_es {H:Type}:∀l:List (Lit×DataW H),Rows.uptoBulkEntries l=bulkE l
 |[]=>by simp[Rows.uptoBulkEntries,bulkE]
 |d::r=>by simp[Rows.uptoBulkEntries,bulkE,bulk_e d,bulk_es r]
theorem bulk_e {H:Type}:∀d:Lit×DataW H,Rows.uptoBulkEntry d=bulk1 d
 |(l,d)=>by cases l<;>simp[Rows.uptoBulkEntry,bulk1,yU d]
end
set_option maxRecDepth 100000 in
theorem plain :Wn Tryd.prog [4,9,23]:=Kn (by kernel_rfl)
set_option maxRecDepth 100000 in
theorem K0 (H:Type)(enc:TypeId×Value→H)(W:World)(base:Nat)(args:Array Value)(ds gs:List (DataW H))(before:List MemPlace)
    (hval:∀(j:Nat) t v,Tryd.f6.params[j]?=some t→args[j]?=some v→Value.okWide Tryd.prog W .any base t v)
    (hW:DataW.Whole enc Tryd.prog Tryd.f6.params.toList Rows.linesAllSpec.vars false W args.toList ds gs before) (hk:Rows.uptoSmall H (ds++gs)=true):
    Calls Tryd.prog 6 args W fun e W'=>∃v,e= .returned v∧Rows.linesAllSpec.post enc Tryd.prog Tryd.f6 false true false false W args v W':=by
  have hW':=hW
  obtain⟨p,q,hA,hV,rfl,hfz,hnd⟩:=hW
  obtain⟨rfl,rfl⟩:=Go.Ga.JB hV
  have hb:bulkL (ds++[])≤1048576:=by rw[←bulk_eq];exact of_decide_eq_true hk
  have r0:DataW.TrodAll enc Tryd.prog W 0 (fun _=>true) true Tryd.f6.params.toList args.toList ds p:=hA
  rw[Tryd.params6] at r0
  obtain⟨v0,vs0,d0,ds0,p0,q0,hv0,rfl,rfl,h0,r1⟩:=trodAll_cons r0
  obtain⟨v1,vs1,d1,ds1,p1,q1,hv1,rfl,rfl,h1,r2⟩:=trodAll_cons r1
  obtain⟨rfl,rfl,rfl⟩:=trodAll_nil r2
  exact wz plain hval (by rw[Tryd.params6];decide) hW' rfl rfl rfl rfl (tb:=4) (by kernel_rfl) Tryd.underlying4 hb WL
mutual
def flat :DataW Unit→List Value
 | .lit l=>[l.value]
 | .agg p=>flatL p
 |_=>[]
def flatL :List (DataW Unit)→List Value
 |[]=>[]
 |d::r=>flat d++flatL r
end
def Pd (l:List Value):Obj→Obj
 | .cells _ t frozen=> .cells l.toArray t frozen
 |o=>o
noncomputable def Q6 (os:Os):World:=
 {World.holding Tryd.prog os ⟨#[], #[],[]⟩ with heap:=((World.holding Tryd.prog os ⟨#[], #[],[]⟩).heap.modify 2 (Pd (flat Rows.laid_unicode_utf8_first))).modify 3 (Pd (flat Rows.laid_unicode_utf8_acceptRanges))}
theorem KB (os:Os):laidMet Tryd.prog Rows.linesAllUptoRow.laid ((Q6 os).forCall (fun _ _=>0) ⟨#[], #[.slice none 0 0,.bool false],[]⟩).memory:=
 laidMet_of_run' 8 (by kernel_rfl) (by kernel_rfl)
theorem Pc (os:Os){H:Type}(enc:TypeId×Value→H):∃places,DataW.whole enc Tryd.prog ((Q6 os).forCall (fun _ _=>0) ⟨#[], #[.slice none 0 0,.bool false],[]⟩).memory Tryd.f6.params.toList Rows.linesAllSpec.vars false (#[.slice none 0 0,.bool false]:Array Value).toList 8=some ([.nil,.lit (.bool false)],[],places):=
 ⟨[],by kernel_rfl⟩
set_option maxRecDepth 100000 in
theorem px (os:Os)(started:os.Started)(H:Type)(enc:TypeId×Value→H)(F:Stop.Interp):
    ReturnsInHanded {} Tryd.checked os 6 .any ((Rows.OpenSpec.upto Rows.linesAllSpec).preRow enc Tryd.prog Tryd.f6 Rows.linesAllUptoRow.domain false Rows.linesAllUptoRow.laid) (((Rows.OpenSpec.upto Rows.linesAllSpec).at F).post enc Tryd.prog Tryd.f6 false true false false):=by
  obtain⟨places,hx⟩:=Pc os enc
  refine returnsInHanded_of_row (C:=Tryd.checked) (s:=Rows.OpenSpec.upto Rows.linesAllSpec) own started (by kernel_rfl) Tryd.func6
    (witness_row_at (enc:=enc) (C:=Tryd.checked) false (Q6 os) #[.slice none 0 0,.bool false] rfl (by kernel_rfl) (by kernel_rfl) (by kernel_rfl)
      (OpenSpec.preRow_of_cond 8 hx (by kernel_rfl) (fun k hk=>by cases hk;kernel_rfl) (by kernel_rfl) (KB os))) ?_
  intro W base args ds gs before hval hW _ hcond _ _ _ _
  exact K0 H enc W base args ds gs before hval hW (hcond _ rfl)
theorem kY :Rows.LinesAllUptoSaid:=
 OpenClaim.holds_of_cond 6 Tryd.f6 rfl rfl rfl rfl rfl rfl rfl ⟨rfl,rfl,rfl,rfl,rfl⟩ rfl rfl rfl rfl rfl (by kernel_rfl) Tryd.func6 (by kernel_rfl)
  (of_decide_eq_true (by kernel_rfl)) (by unfold Func.isWrapper;first|(rw[if_pos (by decide+kernel)];kernel_rfl)|(rw[if_neg (by decide+kernel)];exact⟨rfl,rfl⟩))
  (fun os started H enc _ F=>by rw[OpenClaim.pre_eq_preRow];exact px os started H enc F)
theorem Pb (f : FuncId) (fn : Func) (hf : Tryd.pinned.checked.prog.funcNamed "garland/garlandlaw26.LinesAll" = some f) (hfn : Tryd.pinned.checked.prog.funcs[f]? = some fn) :
    false=Tryd.pinned.checked.prog.looks []∧∀(j:Nat) t,fn.params[j]?=some t→Tryd.pinned.checked.prog.wantsStandIn t=false:=by
  obtain rfl : f = 6 := Option.some.inj ((show Tryd.prog.funcNamed "garland/garlandlaw26.LinesAll" = some 6 by kernel_rfl).symm.trans hf) |>.symm
  obtain rfl:fn=Tryd.f6:=(Option.some.inj (Tryd.func6.symm.trans hfn)).symm
  refine⟨by kernel_rfl,fun j t ht=>?_⟩
  have h:(Tryd.f6.params.toList.all fun t=> !Tryd.prog.wantsStandIn t)=true:=by kernel_rfl
  have:=List.all_eq_true.1 h t (by rw[Array.mem_toList_iff];exact Array.mem_of_getElem? ht)
  have h2:Tryd.prog.wantsStandIn t=false:=by simpa using this
  exact h2
theorem holds :Rows.LinesAllUptoCardSaid:=
 Claim7.holds_tied_plain_at .later [] _ _ _ _ kY (fun _ h=>by cases h) (by kernel_rfl) (fun _ h=>by cases h) linesAllUpto_row_tie rfl ⟨rfl,rfl⟩ (by kernel_rfl) rfl Pb (by kernel_rfl)
end Go.Proofs.YtneiihheeghdcaaDoor.linesAllend
