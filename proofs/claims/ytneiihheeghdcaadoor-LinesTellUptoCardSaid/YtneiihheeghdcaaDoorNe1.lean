/- Which command any line is, the line of any command, and the lines of any bytes, or why there is none; what is handed in stays. -/
import Derived.Test.YtneiihheeghdcaaDoorRows
import Derived.Test.YtneiihheeghdcaaDoorGcciijd5
import Derived.Shelf.Strings.Search1
import Derived.Shelf.Strings.Count
import Derived.Shelf.Bytes.IndexByte
import Derived.Shelf.Bytes.SlIndexAt
import Derived.Lib.Bytealg
import Derived.Lib.Join
import Derived.Lib.ItoaNum
set_option linter.all false

namespace Go.Proofs.YtneiihheeghdcaaDoor
open Go Go.Ga
theorem mix :Tryd.prog.follows .mixedOrders=true:=by kernel_rfl
def Gj :List zl:=[(none,.box 4 (.t 1)),oO 6]
def y9 :List zl:=[oM 17 0,(none,.r (.lenS 18 (.t 17))),oB 19 .gtr 18 2000,oM 20 19,(some (20,false),.r (.fldA 21 (.t 4) 3)),qo 20 false 22 21 1,(some (20,false),.r (.len 23 (.t 22))),qV 20 false 24 .gtr 23 300,oQ 25 20 24,oM 26 25,oK 26 false 27 2,(some (26,false),.r (.len 28 (.t 27))),
 qV 26 false 29 .gtr 28 2000,oQ 30 26 29]
def wN :List zl:=[(none,.call 31 (.f 10) []),oS 6 31]
def Gi :ZP:=.take [1,4,5] (oM 32 2) (.take [5] (oT 34 4 4) (.two 1 (none,.call 33 (.f 16) [(.t 32,false),(.c (.int .u8 71),false)]) (.one 3 (none,.alloc 8 [.int .i64 0,.int .i64 0,.int .i64 0,.slice none 0 0]) (.one 4 (oS 7 33) (.one 5 (oW 8 34 4) .done))) 3 (none,.alloc 8 [.int .i64 0,
 .int .i64 0,.int .i64 0,.slice none 0 0]) (.one 1 (none,.call 33 (.f 16) [(.t 32,false),(.c (.int .u8 71),false)]) (.one 4 (oS 7 33) (.one 5 (oW 8 34 4) .done)))))
def Gh :List zl:=[oF 35 4 3,oL 36 35 1,(none,.call 37 (.f 17) [(.t 36,false),(.c (.int .i64 71),false)]),oF 38 8 3,oW 38 37 1]
def Gg :List zl:=[oM 40 0,oC 41 9 40,oM 39 41,oY 42 39 0,oY 43 39 1,(none,.alloc 9 [.int .i64 0,.int .i64 0,.int .i64 0,.slice none 0 0]),oW 9 42 4,oS 10 43]
def Gf :List zl:=[oM 45 0,oC 46 18 45,oM 44 46,oY 47 44 0,oY 48 44 1,(none,.alloc 11 [.int .i64 0,.int .i64 0,.int .i64 0,.slice none 0 0]),oW 11 47 4,oS 12 48]
def Ge :List zl:=[oT 50 8 4,oC 51 14 50,oM 49 51,oY 52 49 0,oY 53 49 1,oS 13 52,oS 14 53]
def Gd :List zl:=[oT 55 4 4,oC 56 19 55,oM 54 56,oY 57 54 0,oY 58 54 1,oS 15 57,oS 16 58]
def Gc :List zl:=[(none,.call 59 (.f 10) []),oM 60 59,(some (60,true),.r (.ld 61 (.t 9) 4 true)),(some (60,true),.r (.ld 62 (.t 11) 4 true)),(some (60,true),.call 63 (.f 15) [(.t 61,false),(.t 62,false)]),oP 64 60 63,oM 65 64,oK 65 true 66 10,oK 65 true 67 12,Xn 65 true 68 .eql 66 67,
 oP 69 65 68,oM 70 69,oK 70 true 71 13,oK 70 true 72 15,Xn 70 true 73 .eql 71 72,oP 74 70 73,oM 75 74,oK 75 true 76 14,oK 75 true 77 16,Xn 75 true 78 .eql 76 77,oP 79 75 78,oM 80 79,oK 80 true 81 7,(some (80,true),.call 82 (.f 13) [(.t 81,false)]),oK 80 true 83 2,(some (80,true),.call 84 (.f 20) [(.t 83,
 false)]),(some (80,true),.call 85 (.f 12) [(.t 82,false),(.t 84,false)]),oP 86 80 85,oM 87 86,oK 87 true 88 7,oK 87 true 89 2,(some (87,true),.call 90 (.f 21) [(.t 88,false),(.t 89,false),(.c (.int .u8 71),false)]),oP 91 87 90,oM 92 91,(some (92,true),.r (.fldA 93 (.t 8) 3)),qo 92 true 94 93 1,(some (92,
 true),.r (.fldA 95 (.t 4) 3)),qo 92 true 96 95 1,(some (92,true),.call 97 (.f 22) [(.t 94,false),(.t 96,false),(.c (.int .i64 71),false)]),oP 98 92 97,oS 6 98]
def q5 :List Nat:=[0,1,2,4,6,7,8,9,10,11,12,13,14,15,16,30]
def zeY :zM:=.seq (.reg [0,1,2,6,7,8,9,10,11,12,13,14,15,16,30] Gj q5) (.seq (.seq (.reg [0,1,2,4,6,7,8,9,10,11,12,13,14,15,16] y9 q5) (.cond (.t 30) (.seq (.reg q5 wN q5) .ret) .skip)) (.seq (.draw [0,
 1,2,4,6,7,9,10,11,12,13,14,15,16,30] Gi q5) (.seq (.reg q5 Gh q5) (.seq (.reg [0,1,2,4,6,7,8,10,11,12,13,14,15,16,30] Gg q5) (.seq (.reg [0,
 1,2,4,6,7,8,9,10,12,13,14,15,16,30] Gf q5) (.seq (.reg q5 Ge q5) (.seq (.reg q5 Gd q5) (.seq (.reg q5 Gc q5) .ret))))))))
abbrev zdD :Nat:=8
theorem zeQ :qP Tryd.prog Tryd.f8.ntmps 3 [6] q5 [(.tmp 6)] zeY zdD:=qT mix Tryd.func8 (by kernel_rfl) rfl
def Gb :List zl:=[(none,.alloc 2 [.int .i64 0,.int .i64 0,.int .i64 0,.slice none 0 0]),oI 3 0]
def u3 :List zl:=[oM 13 0,(none,.r (.lenS 14 (.t 13))),oB 15 .gtr 14 65536]
def g9 :List zl:=[(none,.bld 16 [] [.int .i64 0,.int .i64 0,.int .i64 0,.slice none 0 0]),oW 2 16 4,oI 3 8]
def g8 :List zl:=[oM 17 0,(none,.call 18 (.f 23) [(.t 17,false),(.c (.string ⟨#[32]⟩),false)]),(none,.bld 19 [((0,1),(.t 18,true))] [.slice none 0 0]),(none,.box 20 (.t 19)),(none,.alloc 4 [.pointer none]),oW 4 20 1]
def g7 :List zl:=[(none,.call 21 (.f 24) []),(none,.alloc 5 [.string ⟨#[]⟩,.int .i64 0,.string ⟨#[]⟩,.int .i64 0,.string ⟨#[]⟩,.int .i64 0,.string ⟨#[]⟩,.int .i64 0,.string ⟨#[]⟩,.int .i64 0,.string ⟨#[]⟩,.int .i64 0,.string ⟨#[]⟩,.int .i64 0,.string ⟨#[]⟩,.int .i64 0,.string ⟨#[]⟩,.int .i64 0,
 .string ⟨#[]⟩,.int .i64 0,.string ⟨#[]⟩,.int .i64 0,.string ⟨#[]⟩,.int .i64 0,.string ⟨#[]⟩,.int .i64 0,.string ⟨#[]⟩,.int .i64 0,.string ⟨#[]⟩,.int .i64 0]),oW 5 21 30]
def g6 :List zl:=[(none,.r (.slc 22 (.t 5) none (some (.c (.int .i64 15))) 2)),(none,.mkfn 23 (.func 26) [] [(.t 4,false)]),xH 24 25 22 23,oS 6 24]
def y7 :ZP:=.take [1,2,3,4,5,6,7,8,9,10,11,12,13,14,15,16,17,18,19,20,21] (oM 25 6) (.take [2,3,4,5,6,7,8,9,10,11,12,13,14,15,16,17,18,19,20,21] (oB 26 .lss 25 0) (.take [3,4,5,6,7,8,9,10,11,12,13,14,15,16,17,18,19,20,21] (oM 27 26) (.take [4,5,6,7,8,9,10,11,12,13,14,15,16,17,18,19,
 20,21] (oK 27 false 28 6) (.take [5,6,7,8,9,10,11,12,13,14,15,16,17,18,19,20,21] (some (27,false),.r (.idxP 29 (.t 5) (.t 28) 15 2)) (.take [6,7,8,9,10,11,12,13,14,15,16,17,18,19,20,21] (some (27,false),.r (.fldA 30 (.t 29) 1)) (.take [7,8,9,10,11,12,13,14,15,16,17,18,19,20,21] (qo 27 false 31 30 1) (.take [8,
 9,10,11,12,13,14,15,16,17,18,19,20,21] (qV 27 false 32 .geq 31 0) (.take [9,10,11,12,13,14,15,16,17,18,19,20,21] (oK 27 false 33 32) (.take [10,11,12,13,19,20,21] (qo 33 true 34 4 1) (.take [11,12,13,19,20,21] (some (33,true),.r (.nilck 35 (.t 34))) (.take [12,13,19,20,21] (some (33,true),.r (.fldA 36 (.t 35) 0)) (.take [13,
 19,20,21] (qo 33 true 37 36 1) (.take [19,20,21] (some (33,true),.r (.len 38 (.t 37))) (.take [15,16,17,18,19,20,21] (oK 33 true 39 6) (.take [16,17,18,19,20,21] (some (33,true),.r (.idxP 40 (.t 5) (.t 39) 15 2)) (.take [17,18,19,20,21] (some (33,true),.r (.fldA 41 (.t 40) 1)) (.take [18,19,20,21] (qo 33 true 42 41 1) (.take [19,
 20,21] (qV 33 true 43 .add 42 1) (.take [20,21] (Xn 33 true 44 .neq 38 43) (.take [21] (some (27,false),.r (.pick 45 (.t 33) (.t 44) (.c (.bool false)))) (.take [] (oQ 46 27 45) .done)))))))))))))))))))))
def u0 :List zl:=[(none,.bld 47 [] [.int .i64 0,.int .i64 0,.int .i64 0,.slice none 0 0]),oW 2 47 4,oI 3 15]
def uZ :List zl:=[oL 48 4 1,(none,.mkfn 49 (.func 27) [(.t 48,false)] []),oS 7 49]
def uY :List zl:=[oZ 8]
def WN :List zl:=[oI 9 1]
def JI :List zl:=[oM 50 9,oL 51 4 1,oN 52 51,oF 53 52 0,oL 54 53 1,oE 55 54,oD 56 .lss 50 55]
def Qv :List zl:=[oM 60 7,oM 61 9,(none,.call 62 (.t 60) [(.t 61,false)]),oM 59 62,oY 63 59 0,oY 64 59 1,oS 10 63,oS 11 64]
def Qu :List zl:=[oM 65 11,(none,.r (.notb 66 (.t 65)))]
def WM :List zl:=[(none,.bld 67 [] [.int .i64 0,.int .i64 0,.int .i64 0,.slice none 0 0]),oW 2 67 4,oI 3 15]
def WL :List zl:=[oM 68 8,oM 69 10,(none,.blds 70 1 1 [((0,1),(.t 69,true))] [.int .i64 0]),(none,.app 71 (.t 68) (.t 70) 1 8),oS 8 71]
def WK :List zl:=[oM 57 9,oB 58 .add 57 1,oS 9 58]
def WJ :List zl:=[oM 72 6,(none,.bld 73 [((0,1),(.t 72,true))] [.int .i64 0,.int .i64 0,.int .i64 0,.slice none 0 0]),(none,.alloc 12 [.int .i64 0,.int .i64 0,.int .i64 0,.slice none 0 0]),oW 12 73 4]
def WI :List zl:=[oM 74 6,(none,.r (.idxP 75 (.t 5) (.t 74) 15 2)),oF 76 75 1,oL 77 76 1,oB 78 .lss 77 0]
def vk :List zl:=[oM 79 8,oF 80 12 3,oW 80 79 1]
def vi :List zl:=[oT 81 12 4,oW 2 81 4,oI 3 0]
def vh :List zl:=[oM 82 8,(none,.blds 83 2 1 [((0,1),(.c (.int .i64 0),true)),((1,1),(.c (.int .i64 0),true))] [.int .i64 0]),(none,.app 84 (.t 82) (.t 83) 1 8),oS 8 84]
def vg :ZP:=.take [1,2,6,7,8,9] (oM 85 8) (.take [2,6,7,8,9] (none,.r (.idxA 86 (.t 85) (.c (.int .i64 0)) 1)) (.take [6,7,8,9] (oL 87 86 1) (.take [4,5,8,9] (oM 88 8) (.take [5,8,9] (none,.r (.idxA 89 (.t 88) (.c (.int .i64 1)) 1)) (.take [8,9] (oL 90 89 1) (.take [7,8,9] (oF 91 12 1) (.one 7 (oW 91 87 1) (.take [9] (oF 92 12 2) (.one 9 (oW 92 90 1) .done)))))))))
def Qt :List zl:=[oM 93 6,oB 94 .eql 93 6,oM 95 94,(some (95,true),.r (.fldA 96 (.t 12) 1)),qo 95 true 97 96 1,qV 95 true 98 .neq 97 1,oP 99 95 98,oM 100 99,(some (100,true),.r (.fldA 101 (.t 12) 1)),qo 100 true 102 101 1,qV 100 true 103 .neq 102 2,oP 104 100 103]
def vf :List zl:=[(none,.bld 105 [] [.int .i64 0,.int .i64 0,.int .i64 0,.slice none 0 0]),oW 2 105 4,oI 3 15]
def y8 :List zl:=[oT 106 12 4,oW 2 106 4,oI 3 0]
def ZH :List Nat:=[0,2,3,4,5,6,7,8,9,10,11,12,15,46,56,66,78,104]
def zeX :zM:=.seq (.reg [0,3,4,5,6,7,8,9,10,11,12,15,46,56,66,78,104] Gb ZH) (.seq (.seq (.reg [0,2,3,4,5,6,7,8,9,10,11,12,46,56,66,78,104] u3 ZH) (.cond (.t 15) (.seq (.reg ZH g9 ZH) .ret) .skip)) (.seq (.reg [0,
 2,3,5,6,7,8,9,10,11,12,15,46,56,66,78,104] g8 ZH) (.seq (.reg [0,2,3,4,6,7,8,9,10,11,12,15,46,56,66,78,104] g7 ZH) (.seq (.reg ZH g6 ZH) (.seq (.seq (.draw [0,2,3,4,5,6,7,8,9,10,11,12,15,56,66,78,104] y7 ZH) (.cond (.t 46) (.seq (.reg ZH u0 ZH) .ret) .skip)) (.seq (.reg ZH uZ ZH) (.seq (.reg ZH uY ZH) (.seq (.seq (.reg ZH WN ZH) (.blk 0 (.loop (.seq (.seq (.reg [0,
 2,3,4,5,6,7,8,9,10,11,12,15,46,66,78,104] JI ZH) (.cond (.t 56) .skip (.exit 0))) (.seq (.blk 1 (.seq (.reg ZH Qv ZH) (.seq (.seq (.reg [0,2,3,4,5,6,7,8,9,10,11,12,15,46,56,78,104] Qu ZH) (.cond (.t 66) (.seq (.reg ZH WM ZH) .ret) .skip)) (.reg ZH WL ZH)))) (.reg ZH WK ZH)))))) (.seq (.reg [0,
 2,3,4,5,6,7,8,9,10,11,15,46,56,66,78,104] WJ ZH) (.seq (.seq (.reg [0,2,3,4,5,6,7,8,9,10,11,12,15,46,56,66,104] WI ZH) (.cond (.t 78) (.seq (.reg ZH vk ZH) (.seq (.reg ZH vi ZH) .ret)) .skip)) (.seq (.reg ZH vh ZH) (.seq (.draw ZH vg ZH) (.seq (.seq (.reg [0,
 2,3,4,5,6,7,8,9,10,11,12,15,46,56,66,78] Qt ZH) (.cond (.t 104) (.seq (.reg ZH vf ZH) .ret) .skip)) (.seq (.reg ZH y8 ZH) .ret))))))))))))))
abbrev zeG :Nat:=9
theorem zeP :qP Tryd.prog Tryd.f9.ntmps 1 [3] ZH [(.cell 2 4 true),(.tmp 3)] zeX zeG:=qT mix Tryd.func9 (by kernel_rfl) rfl
def Kh :List zl:=[oO 0]
def Kg :List zl:=[(none,.call 4 (.f 9) [(.c (.string ⟨#[97,100,100,32,49,32,50]⟩),false)]),oM 3 4,oY 5 3 0,oY 6 3 1,(none,.alloc 1 [.int .i64 0,.int .i64 0,.int .i64 0,.slice none 0 0]),oW 1 5 4,oS 2 6]
def Kf :List zl:=[oM 7 2,oB 8 .eql 7 0,oM 9 8,(some (9,true),.r (.fldA 10 (.t 1) 0)),qo 9 true 11 10 1,qV 9 true 12 .eql 11 2,oP 13 9 12,oM 14 13,(some (14,true),.r (.fldA 15 (.t 1) 1)),qo 14 true 16 15 1,qV 14 true 17 .eql 16 1,oP 18 14 17,oM 19 18,(some (19,true),.r (.fldA 20 (.t 1) 2)),
 qo 19 true 21 20 1,qV 19 true 22 .eql 21 2,oP 23 19 22,oS 0 23]
def wQ :List Nat:=[0,1,2]
def zdm :zM:=.seq (.reg wQ Kh wQ) (.seq (.reg [0,2] Kg wQ) (.seq (.reg wQ Kf wQ) .ret))
abbrev zcI :Nat:=10
theorem zeh :qP Tryd.prog Tryd.f10.ntmps 0 [0] wQ [(.tmp 0)] zdm zcI:=qT mix Tryd.func10 (by kernel_rfl) rfl
def xq :List zl:=[(none,.asg 2 (.c (.string ⟨#[]⟩)) true)]
def xp :List zl:=[oM 3 0,oB 4 .lss 3 10]
def Ke :List zl:=[oM 5 0,(none,.r (.bin 6 .add 0 (.c (.int .i64 48)) (.t 5))),(none,.r (.conv 7 .u8 (.t 6))),(none,.blds 8 1 1 [((0,1),(.t 7,true))] [.int .u8 0]),(none,.r (.box 9 (.t 8))),oS 2 9]
def Kd :ZP:=.take [1,2,9,10] (oM 10 0) (.take [2,9,10] (oB 11 .quo 10 10) (.take [4,5,6,7,8,9,10] (oM 13 0) (.take [5,6,7,8,9,10] (oB 14 .rem 13 10) (.take [6,7,8,9,10] (none,.r (.bin 15 .add 0 (.c (.int .i64 48)) (.t 14))) (.take [7,8,9,10] (none,.r (.conv 16 .u8 (.t 15))) (.two 2 (oC 12 11 11) (.one 7 (none,
 .blds 17 1 1 [((0,1),(.t 16,true))] [.int .u8 0]) (.take [9,10] (none,.r (.box 18 (.t 17))) (.take [10] (oD 19 .add 12 18) (.one 10 (oS 2 19) .done)))) 7 (none,.blds 17 1 1 [((0,1),(.t 16,true))] [.int .u8 0]) (.take [9,10] (none,.r (.box 18 (.t 17))) (.one 2 (oC 12 11 11) (.take [10] (oD 19 .add 12 18) (.one 10 (oS 2 19) .done))))))))))
def Q2 :List Nat:=[0,2,4]
def zaO :zM:=.seq (.reg Q2 xq Q2) (.seq (.seq (.reg [0,2] xp Q2) (.cond (.t 4) (.seq (.reg Q2 Ke Q2) .ret) .skip)) (.seq (.draw Q2 Kd Q2) .ret))
abbrev Xq :Nat:=11
theorem zam :qP Tryd.prog Tryd.f11.ntmps 1 [2] Q2 [(.tmp 2)] zaO Xq:=qT mix Tryd.func11 (by kernel_rfl) rfl
def Kc :List zl:=[oO 4]
def Kb :List zl:=[oM 5 0,oM 6 1,(none,.call 7 (.f 28) [(.t 5,false),(.t 6,false),(.f 29,false)]),oS 4 7]
def x8 :List Nat:=[0,1,4]
def zdl :zM:=.seq (.reg x8 Kc x8) (.seq (.reg x8 Kb x8) .ret)
abbrev zcH :Nat:=12
theorem zeg :qP Tryd.prog Tryd.f12.ntmps 2 [4] x8 [(.tmp 4)] zdl zcH:=qT mix Tryd.func12 (by kernel_rfl) rfl
def Ka :List zl:=[oZ 2]
def k9 :List zl:=[oZ 3]
def Yi :List zl:=[oM 7 0,oE 8 7,oB 9 .gtr 8 0]
def xo :List zl:=[oM 11 0,(none,.blds 12 1 1 [((0,1),(.c (.int .u8 10),true))] [.int .u8 0]),xH 13 30 11 12,oM 10 13,oY 14 10 0,oY 15 10 1,oY 16 10 2,oS 4 14,oS 5 15,oS 6 16]
def xn :List zl:=[oM 17 3,oM 18 4,(none,.r (.box 19 (.t 18))),(none,.blds 20 1 1 [((0,1),(.t 19,true))] [.string ⟨#[]⟩]),(none,.app 21 (.t 17) (.t 20) 1 16),oS 3 21]
def xm :List zl:=[oM 22 5,oS 0 22]
def k8 :List zl:=[oM 23 3,oS 2 23]
def Jy :List Nat:=[0,2,3,4,5,6,9]
def zdk :zM:=.seq (.reg Jy Ka Jy) (.seq (.reg Jy k9 Jy) (.seq (.blk 0 (.loop (.seq (.seq (.reg [0,2,3,4,5,6] Yi Jy) (.cond (.t 9) .skip (.exit 0))) (.blk 1 (.seq (.reg Jy xo Jy) (.seq (.reg Jy xn Jy) (.reg Jy xm Jy))))))) (.seq (.reg Jy k8 Jy) .ret)))
abbrev zcG :Nat:=13
theorem zef :qP Tryd.prog Tryd.f13.ntmps 1 [2] Jy [(.tmp 2)] zdk zcG:=qT mix Tryd.func13 (by kernel_rfl) rfl
def k7 :List zl:=[(none,.box 1 (.t 0)),(none,.asg 2 (.c (.string ⟨#[]⟩)) true),oI 3 0]
def JL :List zl:=[oF 10 1 0,oL 11 10 1,oB 12 .lss 11 1,oM 13 12,(some (13,false),.r (.fldA 14 (.t 1) 0)),qo 13 false 15 14 1,qV 13 false 16 .gtr 15 14,oQ 17 13 16,oM 18 17,(some (18,false),.r (.fldA 19 (.t 1) 0)),qo 18 false 20 19 1,qV 18 false 21 .eql 20 6,oK 18 false 22 21,(some (22,
 true),.r (.fldA 23 (.t 1) 1)),qo 22 true 24 23 1,qV 22 true 25 .neq 24 1,(some (18,false),.r (.pick 26 (.t 22) (.t 25) (.c (.bool false)))),oK 18 false 27 26,(some (27,true),.r (.fldA 28 (.t 1) 1)),qo 27 true 29 28 1,qV 27 true 30 .neq 29 2,(some (18,false),.r (.pick 31 (.t 27) (.t 30) (.c (.bool false)))),
 oQ 32 18 31]
def Yh :List zl:=[(none,.asg 2 (.c (.string ⟨#[]⟩)) true),oI 3 15]
def k6 :List zl:=[oT 34 1 4,oC 35 31 34,oM 33 35,oY 36 33 0,oY 37 33 1,oS 4 36,oS 5 37]
def xl :List zl:=[oM 38 5,(none,.r (.notb 39 (.t 38)))]
def k5 :List zl:=[(none,.asg 2 (.c (.string ⟨#[]⟩)) true),oI 3 15]
def k4 :ZP:=.take [2,3,4,5,6] (oF 41 1 0) (.take [3,4,5,6] (oL 42 41 1) (.one 0 (none,.call 40 (.f 24) []) (.take [4,5,6] (none,.r (.idxV 43 (.t 40) (.t 42) 15 2 true)) (.take [5,6] (none,.r (.fld 44 (.t 43) 0 1 false)) (.one 5 (none,.blds 45 1 1 [((0,1),(.t 44,true))] [.string ⟨#[]⟩]) (.one 6 (oS 6 45) .done))))))
def k0 :List zl:=[oM 46 6,(none,.r (.idxA 47 (.t 46) (.c (.int .i64 0)) 1)),oL 48 47 1,(none,.r (.lenS 49 (.t 48))),oS 7 49]
def kZ :List zl:=[oM 50 4,oE 51 50,(none,.r (.mov 52 (.c (.int .i64 0))))]
def xk :List zl:=[oD 53 .lss 52 51]
def un :List zl:=[oX 54 50 52 1,oL 55 54 1,oS 9 55]
def QU :List zl:=[oM 56 9,oB 57 .lss 56 0,oM 58 57,oK 58 false 59 9,qV 58 false 60 .gtr 59 999999999,oQ 61 58 60]
def Y6 :List zl:=[(none,.asg 2 (.c (.string ⟨#[]⟩)) true),oI 3 15]
def um :List zl:=[oM 62 6,oM 63 9,oC 64 32 63,(none,.blds 65 1 1 [((0,1),(.t 64,true))] [.string ⟨#[]⟩]),(none,.app 66 (.t 62) (.t 65) 1 16),oS 6 66]
def ul :List zl:=[oM 67 7,oM 68 6,oM 69 6,oE 70 69,oB 71 .sub 70 1,oX 72 68 71 1,oL 73 72 1,(none,.r (.lenS 74 (.t 73))),(none,.r (.bin 75 .add 0 (.c (.int .i64 1)) (.t 74))),oD 76 .add 67 75,oS 7 76]
def Y5 :List zl:=[oM 77 7,oB 78 .gtr 77 65536]
def uk :List zl:=[(none,.asg 2 (.c (.string ⟨#[]⟩)) true),oI 3 15]
def uj :List zl:=[oB 79 .add 52 1,oS 52 79]
def ui :List zl:=[oM 80 6,(none,.call 81 (.f 33) [(.t 80,false),(.c (.string ⟨#[32]⟩),false)]),oS 2 81,oI 3 0]
def Zu :List Nat:=[0,1,2,3,4,5,6,7,9,32,39,50,51,52,53,61,78]
def zdj :zM:=.seq (.reg [0,2,3,4,5,6,7,9,32,39,50,51,52,53,61,78] k7 Zu) (.seq (.seq (.reg [0,1,2,3,4,5,6,7,9,39,50,51,52,53,61,78] JL Zu) (.cond (.t 32) (.seq (.reg Zu Yh Zu) .ret) .skip)) (.seq (.reg Zu k6 Zu) (.seq (.seq (.reg [0,
 1,2,3,4,5,6,7,9,32,50,51,52,53,61,78] xl Zu) (.cond (.t 39) (.seq (.reg Zu k5 Zu) .ret) .skip)) (.seq (.draw Zu k4 Zu) (.seq (.reg Zu k0 Zu) (.seq (.seq (.reg [0,1,2,3,
 4,5,6,7,9,32,39,53,61,78] kZ Zu) (.blk 0 (.loop (.seq (.reg [0,1,2,3,4,5,6,7,9,32,39,50,51,52,61,78] xk Zu) (.seq (.cond (.t 53) .skip (.exit 0)) (.seq (.blk 1 (.seq (.reg Zu un Zu) (.seq (.seq (.reg [0,1,2,3,4,5,6,
 7,9,32,39,50,51,52,53,78] QU Zu) (.cond (.t 61) (.seq (.reg Zu Y6 Zu) .ret) .skip)) (.seq (.reg Zu um Zu) (.seq (.reg Zu ul Zu) (.seq (.reg [0,1,2,3,4,5,6,7,9,32,39,
 50,51,52,53,61] Y5 Zu) (.cond (.t 78) (.seq (.reg Zu uk Zu) .ret) .skip))))))) (.reg Zu uj Zu))))))) (.seq (.reg Zu ui Zu) .ret)))))))
abbrev zcF :Nat:=14
theorem zee :qP Tryd.prog Tryd.f14.ntmps 1 [2,3] Zu [(.tmp 2),(.tmp 3)] zdj zcF:=qT mix Tryd.func14 (by kernel_rfl) rfl
def kY :List zl:=[(none,.box 2 (.t 0)),(none,.box 3 (.t 1)),oO 4]
def Qz :List zl:=[oF 5 2 0,oL 6 5 1,oF 7 3 0,oL 8 7 1,oD 9 .eql 6 8,oM 10 9,(some (10,true),.r (.fldA 11 (.t 2) 1)),qo 10 true 12 11 1,(some (10,true),.r (.fldA 13 (.t 3) 1)),qo 10 true 14 13 1,Xn 10 true 15 .eql 12 14,oP 16 10 15,oM 17 16,(some (17,true),.r (.fldA 18 (.t 2) 2)),
 qo 17 true 19 18 1,(some (17,true),.r (.fldA 20 (.t 3) 2)),qo 17 true 21 20 1,Xn 17 true 22 .eql 19 21,oP 23 17 22,oM 24 23,(some (24,true),.r (.fldA 25 (.t 2) 3)),qo 24 true 26 25 1,(some (24,true),.r (.fldA 27 (.t 3) 3)),qo 24 true 28 27 1,(some (24,true),.call 29 (.f 34) [(.t 26,false),(.t 28,
 false)]),oP 30 24 29,oS 4 30]
def Ug :List Nat:=[0,1,2,3,4]
def zdi :zM:=.seq (.reg [0,1,4] kY Ug) (.seq (.reg Ug Qz Ug) .ret)
abbrev zcE :Nat:=15
theorem zed :qP Tryd.prog Tryd.f15.ntmps 2 [4] Ug [(.tmp 4)] zdi zcE:=qT mix Tryd.func15 (by kernel_rfl) rfl
def kX :List zl:=[oZ 4]
def kW :List zl:=[oM 8 0,oE 9 8,oB 10 .add 9 3,(none,.mko 11 (.c (.int .i64 0)) (.t 10) 1 1 [.int .u8 0]),oS 5 11]
def kV :List zl:=[oM 12 5,oM 13 0,(none,.app 14 (.t 12) (.t 13) 1 1),oS 5 14]
def kU :List zl:=[oM 15 5,oM 16 0,oE 17 16,oB 18 .add 17 3,(none,.slc 19 (.t 15) none (some (.t 18)) 1),oS 6 19]
def kT :List zl:=[oM 20 0,oE 21 20,oS 7 21]
def kS :List zl:=[oM 22 7,oM 23 6,oE 24 23,oD 25 .lss 22 24]
def kR :List zl:=[oM 28 6,oM 29 7,oM 30 1,oX 31 28 29 1,oW 31 30 1]
def kQ :List zl:=[oM 26 7,oB 27 .add 26 1,oS 7 27]
def kP :List zl:=[oM 32 5,oS 4 32]
def jO :List Nat:=[0,1,4,5,6,7,25]
def zdh :zM:=.seq (.reg jO kX jO) (.seq (.reg jO kW jO) (.seq (.reg jO kV jO) (.seq (.reg jO kU jO) (.seq (.seq (.reg jO kT jO) (.blk 0 (.loop (.seq (.seq (.reg [0,
 1,4,5,6,7] kS jO) (.cond (.t 25) .skip (.exit 0))) (.seq (.blk 1 (.reg jO kR jO)) (.reg jO kQ jO)))))) (.seq (.reg jO kP jO) .ret)))))
abbrev zcD :Nat:=16
theorem zec :qP Tryd.prog Tryd.f16.ntmps 2 [4] jO [(.tmp 4)] zdh zcD:=qT mix Tryd.func16 (by kernel_rfl) rfl
def kO :List zl:=[oZ 4]
def kN :List zl:=[oM 8 0,oE 9 8,oB 10 .add 9 3,(none,.mko 11 (.c (.int .i64 0)) (.t 10) 1 8 [.int .i64 0]),oS 5 11]
def kM :List zl:=[oM 12 5,oM 13 0,(none,.app 14 (.t 12) (.t 13) 1 8),oS 5 14]
def kL :List zl:=[oM 15 5,oM 16 0,oE 17 16,oB 18 .add 17 3,(none,.slc 19 (.t 15) none (some (.t 18)) 1),oS 6 19]
def kK :List zl:=[oM 20 0,oE 21 20,oS 7 21]
def kJ :List zl:=[oM 22 7,oM 23 6,oE 24 23,oD 25 .lss 22 24]
def kI :List zl:=[oM 28 6,oM 29 7,oM 30 1,oX 31 28 29 1,oW 31 30 1]
def kH :List zl:=[oM 26 7,oB 27 .add 26 1,oS 7 27]
def kG :List zl:=[oM 32 5,oS 4 32]
def jN :List Nat:=[0,1,4,5,6,7,25]
def zdg :zM:=.seq (.reg jN kO jN) (.seq (.reg jN kN jN) (.seq (.reg jN kM jN) (.seq (.reg jN kL jN) (.seq (.seq (.reg jN kK jN) (.blk 0 (.loop (.seq (.seq (.reg [0,
 1,4,5,6,7] kJ jN) (.cond (.t 25) .skip (.exit 0))) (.seq (.blk 1 (.reg jN kI jN)) (.reg jN kH jN)))))) (.seq (.reg jN kG jN) .ret)))))
abbrev zcC :Nat:=17
theorem zeb :qP Tryd.prog Tryd.f17.ntmps 2 [4] jN [(.tmp 4)] zdg zcC:=qT mix Tryd.func17 (by kernel_rfl) rfl
def kF :List zl:=[(none,.alloc 2 [.int .i64 0,.int .i64 0,.int .i64 0,.slice none 0 0]),oI 3 0]
def xj :List zl:=[oM 13 0,(none,.r (.lenS 14 (.t 13))),oB 15 .gtr 14 65536]
def kE :List zl:=[(none,.bld 16 [] [.int .i64 0,.int .i64 0,.int .i64 0,.slice none 0 0]),oW 2 16 4,oI 3 8]
def kD :List zl:=[oM 17 0,oC 18 35 17,oS 4 18]
def kC :List zl:=[oI 5 1]
def xi :List zl:=[oM 19 5,oB 20 .leq 19 14]
def kB :List zl:=[oM 24 5,oC 25 36 24,oM 23 25,oY 26 23 0,oY 27 23 1,oS 6 26,oS 7 27]
def xh :List zl:=[oM 28 4,(none,.r (.idxA 29 (.t 28) (.c (.int .i64 0)) 1)),oL 30 29 1,oM 31 6,oD 32 .neq 30 31]
def kA :List zl:=[oM 33 5,(none,.bld 34 [((0,1),(.t 33,true))] [.int .i64 0,.int .i64 0,.int .i64 0,.slice none 0 0]),(none,.alloc 8 [.int .i64 0,.int .i64 0,.int .i64 0,.slice none 0 0]),oW 8 34 4]
def xg :List zl:=[oI 9 1]
def qm :List zl:=[oM 35 9,oM 36 4,oE 37 36,oD 38 .lss 35 37]
def Y4 :List zl:=[oM 41 4,oM 42 9,oX 43 41 42 1,oL 44 43 1,oC 45 37 44,oS 10 45]
def ql :List zl:=[oM 46 10,oB 47 .lss 46 0]
def Y3 :List zl:=[(none,.bld 48 [] [.int .i64 0,.int .i64 0,.int .i64 0,.slice none 0 0]),oW 2 48 4,oI 3 15]
def Y2 :List zl:=[oM 50 7,oB 51 .lss 50 0,oS 49 51]
def uh :List zl:=[oF 52 8 3,oL 53 52 1,oM 54 10,(none,.blds 55 1 1 [((0,1),(.t 54,true))] [.int .i64 0]),(none,.app 56 (.t 53) (.t 55) 1 8),oF 57 8 3,oW 57 56 1]
def QT :List zl:=[oM 59 9,oB 60 .eql 59 1,oS 58 60]
def ug :List zl:=[oM 61 10,oF 62 8 1,oW 62 61 1]
def Y1 :List zl:=[oM 64 9,oB 65 .eql 64 2,oS 63 65]
def uf :List zl:=[oM 66 10,oF 67 8 2,oW 67 66 1]
def qk :List zl:=[oM 39 9,oB 40 .add 39 1,oS 9 40]
def Y0 :List zl:=[oT 69 8 4,oC 70 19 69,oM 68 70,oY 71 68 0,oY 72 68 1,oS 11 71,oS 12 72]
def jZ :List zl:=[oM 73 12,oB 74 .eql 73 0,oM 75 74,oK 75 true 76 11,oK 75 true 77 0,Xn 75 true 78 .eql 76 77,oP 79 75 78]
def YZ :List zl:=[oT 80 8 4,oW 2 80 4,oI 3 0]
def Jw :List zl:=[oM 21 5,oB 22 .add 21 1,oS 5 22]
def ue :List zl:=[(none,.bld 81 [] [.int .i64 0,.int .i64 0,.int .i64 0,.slice none 0 0]),oW 2 81 4,oI 3 15]
def zY :List Nat:=[0,2,3,4,5,6,7,8,9,10,11,12,15,20,32,38,47,49,58,63,79]
def zdf :zM:=.seq (.reg [0,3,4,5,6,7,8,9,10,11,12,15,20,32,38,47,49,58,63,79] kF zY) (.seq (.seq (.reg [0,2,3,4,5,6,7,8,9,10,11,12,20,32,38,47,49,58,63,79] xj zY) (.cond (.t 15) (.seq (.reg zY kE zY) .ret) .skip)) (.seq (.reg zY kD zY) (.seq (.seq (.reg zY kC zY) (.blk 0 (.loop (.seq (.seq (.reg [0,
 2,3,4,5,6,7,8,9,10,11,12,15,32,38,47,49,58,63,79] xi zY) (.cond (.t 20) .skip (.exit 0))) (.seq (.blk 1 (.seq (.reg zY kB zY) (.seq (.seq (.reg [0,2,3,4,5,6,7,8,9,10,11,12,15,20,38,47,49,58,63,79] xh zY) (.cond (.t 32) (.exit 1) .skip)) (.seq (.reg [0,
 2,3,4,5,6,7,9,10,11,12,15,20,32,38,47,49,58,63,79] kA zY) (.seq (.seq (.reg zY xg zY) (.blk 2 (.loop (.seq (.seq (.reg [0,2,3,4,5,6,7,8,9,10,11,12,15,20,32,47,49,58,63,79] qm zY) (.cond (.t 38) .skip (.exit 2))) (.seq (.blk 3 (.seq (.reg zY Y4 zY) (.seq (.seq (.reg [0,
 2,3,4,5,6,7,8,9,10,11,12,15,20,32,38,49,58,63,79] ql zY) (.cond (.t 47) (.seq (.reg zY Y3 zY) .ret) .skip)) (.blk 4 (.seq (.reg zY Y2 zY) (.cond (.t 49) (.reg zY uh zY) (.seq (.reg zY QT zY) (.cond (.t 58) (.reg zY ug zY) (.seq (.reg zY Y1 zY) (.cond (.t 63) (.reg zY uf zY) .skip)))))))))) (.reg zY qk zY)))))) (.seq (.reg zY Y0 zY) (.seq (.reg [0,
 2,3,4,5,6,7,8,9,10,11,12,15,20,32,38,47,49,58,63] jZ zY) (.cond (.t 79) (.seq (.reg zY YZ zY) .ret) .skip)))))))) (.reg zY Jw zY)))))) (.seq (.reg zY ue zY) .ret))))
abbrev zcB :Nat:=18
theorem zea :qP Tryd.prog Tryd.f18.ntmps 1 [3] zY [(.cell 2 4 true),(.tmp 3)] zdf zcB:=qT mix Tryd.func18 (by kernel_rfl) rfl
def kz :List zl:=[(none,.box 1 (.t 0)),(none,.asg 2 (.c (.string ⟨#[]⟩)) true),oI 3 0]
def ky :List zl:=[oF 9 1 0,oL 10 9 1,oC 11 36 10,oM 8 11,oY 12 8 0,oY 13 8 1,oS 4 12,oS 5 13]
def Zj :List zl:=[oM 14 4,(none,.r (.bin 15 .eql 0 (.t 14) (.c (.string ⟨#[]⟩)))),oM 16 15,(some (16,false),.r (.fldA 17 (.t 1) 1)),qo 16 false 18 17 1,(some (16,false),.call 19 (.f 38) [(.t 18,false)]),(some (16,false),.r (.notb 20 (.t 19))),oQ 21 16 20,oM 22 21,(some (22,false),
 .r (.fldA 23 (.t 1) 2)),qo 22 false 24 23 1,(some (22,false),.call 25 (.f 38) [(.t 24,false)]),(some (22,false),.r (.notb 26 (.t 25))),oQ 27 22 26,oM 28 27,oK 28 false 29 5,qV 28 false 30 .lss 29 2,oK 28 false 31 30,(some (31,true),.r (.fldA 32 (.t 1) 2)),qo 31 true 33 32 1,qV 31 true 34 .neq 33 0,
 (some (28,false),.r (.pick 35 (.t 31) (.t 34) (.c (.bool false)))),oQ 36 28 35,oM 37 36,oK 37 false 38 5,qV 37 false 39 .lss 38 1,oK 37 false 40 39,(some (40,true),.r (.fldA 41 (.t 1) 1)),qo 40 true 42 41 1,qV 40 true 43 .neq 42 0,(some (37,false),.r (.pick 44 (.t 40) (.t 43) (.c (.bool false)))),
 oQ 45 37 44,oM 46 45,oK 46 false 47 5,qV 46 false 48 .geq 47 0,oK 46 false 49 48,(some (49,true),.r (.fldA 50 (.t 1) 3)),qo 49 true 51 50 1,(some (49,true),.r (.len 52 (.t 51))),qV 49 true 53 .gtr 52 0,(some (46,false),.r (.pick 54 (.t 49) (.t 53) (.c (.bool false)))),oQ 55 46 54,oM 56 55,(some (56,
 false),.r (.fldA 57 (.t 1) 0)),qo 56 false 58 57 1,qV 56 false 59 .eql 58 6,oK 56 false 60 59,(some (60,true),.r (.fldA 61 (.t 1) 1)),qo 60 true 62 61 1,qV 60 true 63 .neq 62 1,(some (56,false),.r (.pick 64 (.t 60) (.t 63) (.c (.bool false)))),oK 56 false 65 64,(some (65,true),.r (.fldA 66 (.t 1) 1)),
 qo 65 true 67 66 1,qV 65 true 68 .neq 67 2,(some (56,false),.r (.pick 69 (.t 65) (.t 68) (.c (.bool false)))),oQ 70 56 69]
def ZO :List zl:=[(none,.asg 2 (.c (.string ⟨#[]⟩)) true),oI 3 15]
def kx :List zl:=[oI 6 0]
def xf :List zl:=[oM 71 6,oF 72 1 3,oL 73 72 1,oE 74 73,oD 75 .lss 71 74]
def kw :List zl:=[oF 78 1 3,oL 79 78 1,oM 80 6,oX 81 79 80 1,oL 82 81 1,oC 83 38 82,(none,.r (.notb 84 (.t 83)))]
def ku :List zl:=[(none,.asg 2 (.c (.string ⟨#[]⟩)) true),oI 3 15]
def kr :List zl:=[oM 76 6,oB 77 .add 76 1,oS 6 77]
def Qy :List zl:=[oM 85 5,oB 86 .geq 85 1]
def YY :List zl:=[oM 87 4,(none,.r (.bin 88 .add 0 (.t 87) (.c (.string ⟨#[32]⟩)))),oF 89 1 1,oL 90 89 1,oC 91 11 90,oD 92 .add 88 91,oS 4 92]
def qj :List zl:=[oM 93 5,oB 94 .eql 93 2]
def ud :List zl:=[oM 95 4,(none,.r (.bin 96 .add 0 (.t 95) (.c (.string ⟨#[32]⟩)))),oF 97 1 2,oL 98 97 1,oC 99 11 98,oD 100 .add 96 99,oS 4 100]
def uc :List zl:=[oI 7 0]
def YX :List zl:=[oM 101 7,oF 102 1 3,oL 103 102 1,oE 104 103,oD 105 .lss 101 104]
def ub :List zl:=[oM 108 4,(none,.r (.bin 109 .add 0 (.t 108) (.c (.string ⟨#[32]⟩)))),oF 110 1 3,oL 111 110 1,oM 112 7,oX 113 111 112 1,oL 114 113 1,oC 115 11 114,oD 116 .add 109 115,oS 4 116]
def YW :List zl:=[oM 117 4,(none,.r (.lenS 118 (.t 117))),oB 119 .gtr 118 65536]
def ua :List zl:=[(none,.asg 2 (.c (.string ⟨#[]⟩)) true),oI 3 15]
def X0 :List zl:=[oM 106 7,oB 107 .add 106 1,oS 7 107]
def XZ :List zl:=[oM 120 4,oS 2 120,oI 3 0]
def Zs :List Nat:=[0,1,2,3,4,5,6,7,70,75,84,86,94,105,119]
def zde :zM:=.seq (.reg [0,2,3,4,5,6,7,70,75,84,86,94,105,119] kz Zs) (.seq (.reg Zs ky Zs) (.seq (.seq (.reg [0,1,2,3,4,5,6,7,75,84,86,94,105,119] Zj Zs) (.cond (.t 70) (.seq (.reg Zs ZO Zs) .ret) .skip)) (.seq (.seq (.reg Zs kx Zs) (.blk 0 (.loop (.seq (.seq (.reg [0,
 1,2,3,4,5,6,7,70,84,86,94,105,119] xf Zs) (.cond (.t 75) .skip (.exit 0))) (.seq (.blk 1 (.seq (.reg [0,1,2,3,4,5,6,7,70,75,86,94,105,119] kw Zs) (.cond (.t 84) (.seq (.reg Zs ku Zs) .ret) .skip))) (.reg Zs kr Zs)))))) (.seq (.seq (.reg [0,
 1,2,3,4,5,6,7,70,75,84,94,105,119] Qy Zs) (.cond (.t 86) (.reg Zs YY Zs) .skip)) (.seq (.seq (.reg [0,1,2,3,4,5,6,7,70,75,84,86,105,119] qj Zs) (.cond (.t 94) (.reg Zs ud Zs) .skip)) (.seq (.seq (.reg Zs uc Zs) (.blk 2 (.loop (.seq (.seq (.reg [0,
 1,2,3,4,5,6,7,70,75,84,86,94,119] YX Zs) (.cond (.t 105) .skip (.exit 2))) (.seq (.blk 3 (.seq (.reg Zs ub Zs) (.seq (.reg [0,1,2,3,4,5,6,7,70,75,84,86,94,105] YW Zs) (.cond (.t 119) (.seq (.reg Zs ua Zs) .ret) .skip)))) (.reg Zs X0 Zs)))))) (.seq (.reg Zs XZ Zs) .ret)))))))
abbrev zcA :Nat:=19
theorem zd9 :qP Tryd.prog Tryd.f19.ntmps 1 [2,3] Zs [(.tmp 2),(.tmp 3)] zde zcA:=qT mix Tryd.func19 (by kernel_rfl) rfl
def kq :List zl:=[oZ 2]
def kp :List zl:=[oZ 3]
def ko :List zl:=[oI 4 0]
def kn :List zl:=[oI 5 0]
def xe :List zl:=[oM 6 5,oM 7 0,oE 8 7,oD 9 .lss 6 8]
def xd :List zl:=[oM 12 0,oM 13 5,oX 14 12 13 1,oL 15 14 1,(none,.r (.bin 16 .eql 0 (.t 15) (.c (.int .u8 10))))]
def km :List zl:=[oM 17 3,oM 18 0,oM 19 4,oM 20 5,(none,.slc 21 (.t 18) (some (.t 19)) (some (.t 20)) 1),(none,.r (.box 22 (.t 21))),(none,.blds 23 1 1 [((0,1),(.t 22,true))] [.string ⟨#[]⟩]),(none,.app 24 (.t 17) (.t 23) 1 16),oS 3 24]
def kj :List zl:=[oM 25 5,oB 26 .add 25 1,oS 4 26]
def xc :List zl:=[oM 10 5,oB 11 .add 10 1,oS 5 11]
def xb :List zl:=[oM 27 4,oM 28 0,oE 29 28,oD 30 .lss 27 29]
def XY :List zl:=[oM 31 3,oM 32 0,oM 33 4,(none,.slc 34 (.t 32) (some (.t 33)) none 1),(none,.r (.box 35 (.t 34))),(none,.blds 36 1 1 [((0,1),(.t 35,true))] [.string ⟨#[]⟩]),(none,.app 37 (.t 31) (.t 36) 1 16),oS 3 37]
def YV :List zl:=[oM 38 3,oS 2 38]
def Z7 :List Nat:=[0,2,3,4,5,9,16,30]
def zdd :zM:=.seq (.reg Z7 kq Z7) (.seq (.reg Z7 kp Z7) (.seq (.reg Z7 ko Z7) (.seq (.seq (.reg Z7 kn Z7) (.blk 0 (.loop (.seq (.seq (.reg [0,
 2,3,4,5,16,30] xe Z7) (.cond (.t 9) .skip (.exit 0))) (.seq (.blk 1 (.seq (.reg [0,2,3,4,5,9,30] xd Z7) (.cond (.t 16) (.seq (.reg Z7 km Z7) (.reg Z7 kj Z7)) .skip))) (.reg Z7 xc Z7)))))) (.seq (.seq (.reg [0,
 2,3,4,5,9,16] xb Z7) (.cond (.t 30) (.reg Z7 XY Z7) .skip)) (.seq (.reg Z7 YV Z7) .ret)))))
abbrev zcz :Nat:=20
theorem zd8 :qP Tryd.prog Tryd.f20.ntmps 1 [2] Z7 [(.tmp 2)] zdd zcz:=qT mix Tryd.func20 (by kernel_rfl) rfl
def ki :List zl:=[oO 6]
def kh :List zl:=[oM 9 0,oM 10 1,xH 11 39 9 10,(none,.r (.notb 12 (.t 11))),oM 13 12,oK 13 false 14 0,(some (13,false),.capq 15 (.t 14)),oK 13 false 16 1,(some (13,false),.r (.len 17 (.t 16))),qV 13 false 18 .add 17 3,Xn 13 false 19 .lss 15 18,oQ 20 13 19]
def zaN :List zl:=[oO 6]
def kg :List zl:=[oM 21 0,oM 22 1,oE 23 22,oB 24 .add 23 3,(none,.slc 25 (.t 21) none (some (.t 24)) 1),oS 7 25]
def kf :List zl:=[oM 26 1,oE 27 26,oS 8 27]
def ke :List zl:=[oM 28 8,oM 29 7,oE 30 29,oD 31 .lss 28 30]
def kb :List zl:=[oM 34 7,oM 35 8,oX 36 34 35 1,oL 37 36 1,oM 38 2,oD 39 .neq 37 38]
def zaM :List zl:=[oO 6]
def ka :List zl:=[oM 32 8,oB 33 .add 32 1,oS 8 33]
def V9 :List zl:=[(none,.asg 6 (.c (.bool true)) true)]
def jM :List Nat:=[0,1,2,6,7,8,20,31,39]
def zdc :zM:=.seq (.reg jM ki jM) (.seq (.seq (.reg [0,1,2,6,7,8,31,39] kh jM) (.cond (.t 20) (.seq (.reg jM zaN jM) .ret) .skip)) (.seq (.reg jM kg jM) (.seq (.seq (.reg jM kf jM) (.blk 0 (.loop (.seq (.seq (.reg [0,
 1,2,6,7,8,20,39] ke jM) (.cond (.t 31) .skip (.exit 0))) (.seq (.blk 1 (.seq (.reg [0,1,2,6,7,8,20,31] kb jM) (.cond (.t 39) (.seq (.reg jM zaM jM) .ret) .skip))) (.reg jM ka jM)))))) (.seq (.reg jM V9 jM) .ret))))
abbrev zcy :Nat:=21
theorem zd7 :qP Tryd.prog Tryd.f21.ntmps 3 [6] jM [(.tmp 6)] zdc zcy:=qT mix Tryd.func21 (by kernel_rfl) rfl
def V8 :List zl:=[oO 6]
def V7 :List zl:=[oM 9 0,oM 10 1,xH 11 34 9 10,(none,.r (.notb 12 (.t 11))),oM 13 12,oK 13 false 14 0,(some (13,false),.capq 15 (.t 14)),oK 13 false 16 1,(some (13,false),.r (.len 17 (.t 16))),qV 13 false 18 .add 17 3,Xn 13 false 19 .lss 15 18,oQ 20 13 19]
def zaL :List zl:=[oO 6]
def V6 :List zl:=[oM 21 0,oM 22 1,oE 23 22,oB 24 .add 23 3,(none,.slc 25 (.t 21) none (some (.t 24)) 1),oS 7 25]
def V5 :List zl:=[oM 26 1,oE 27 26,oS 8 27]
def V4 :List zl:=[oM 28 8,oM 29 7,oE 30 29,oD 31 .lss 28 30]
def V3 :List zl:=[oM 34 7,oM 35 8,oX 36 34 35 1,oL 37 36 1,oM 38 2,oD 39 .neq 37 38]
def zaK :List zl:=[oO 6]
def V0 :List zl:=[oM 32 8,oB 33 .add 32 1,oS 8 33]
def VZ :List zl:=[(none,.asg 6 (.c (.bool true)) true)]
def jL :List Nat:=[0,1,2,6,7,8,20,31,39]
def zdb :zM:=.seq (.reg jL V8 jL) (.seq (.seq (.reg [0,1,2,6,7,8,31,39] V7 jL) (.cond (.t 20) (.seq (.reg jL zaL jL) .ret) .skip)) (.seq (.reg jL V6 jL) (.seq (.seq (.reg jL V5 jL) (.blk 0 (.loop (.seq (.seq (.reg [0,
 1,2,6,7,8,20,39] V4 jL) (.cond (.t 31) .skip (.exit 0))) (.seq (.blk 1 (.seq (.reg [0,1,2,6,7,8,20,31] V3 jL) (.cond (.t 39) (.seq (.reg jL zaK jL) .ret) .skip))) (.reg jL V0 jL)))))) (.seq (.reg jL VZ jL) .ret))))
abbrev zcx :Nat:=22
theorem zd6 :qP Tryd.prog Tryd.f22.ntmps 3 [6] jL [(.tmp 6)] zdb zcx:=qT mix Tryd.func22 (by kernel_rfl) rfl
def VY :List zl:=[oZ 4]
def VX :List zl:=[oM 5 0,oM 6 1,(none,.call 7 (.f 40) [(.t 5,false),(.t 6,false),(.c (.int .i64 0),false),(.c (.int .i64 (- (0+1))),false)]),oS 4 7]
def x7 :List Nat:=[0,1,4]
def zda :zM:=.seq (.reg x7 VY x7) (.seq (.reg x7 VX x7) .ret)
abbrev zcw :Nat:=23
theorem zd5 :qP Tryd.prog Tryd.f23.ntmps 2 [4] x7 [(.tmp 4)] zda zcw:=qT mix Tryd.func23 (by kernel_rfl) rfl
def VW :List zl:=[(none,.alloc 0 [.string ⟨#[]⟩,.int .i64 0,.string ⟨#[]⟩,.int .i64 0,.string ⟨#[]⟩,.int .i64 0,.string ⟨#[]⟩,.int .i64 0,.string ⟨#[]⟩,.int .i64 0,.string ⟨#[]⟩,.int .i64 0,.string ⟨#[]⟩,.int .i64 0,.string ⟨#[]⟩,.int .i64 0,.string ⟨#[]⟩,.int .i64 0,.string ⟨#[]⟩,.int .i64 0,
 .string ⟨#[]⟩,.int .i64 0,.string ⟨#[]⟩,.int .i64 0,.string ⟨#[]⟩,.int .i64 0,.string ⟨#[]⟩,.int .i64 0,.string ⟨#[]⟩,.int .i64 0])]
def VV :List zl:=[(none,.bld 1 [((0,1),(.c (.string ⟨#[118,101,114,116,105,99,101,115]⟩),true)),((1,1),(.c (.int .i64 1),true))] [.string ⟨#[]⟩,.int .i64 0]),(none,.bld 2 [((0,1),(.c (.string ⟨#[97,100,100]⟩),true)),((1,1),(.c (.int .i64 2),true))] [.string ⟨#[]⟩,.int .i64 0]),
 (none,.bld 3 [((0,1),(.c (.string ⟨#[114,101,109,111,118,101]⟩),true)),((1,1),(.c (.int .i64 2),true))] [.string ⟨#[]⟩,.int .i64 0]),(none,.bld 4 [((0,1),(.c (.string ⟨#[103,114,111,119]⟩),true)),((1,1),(.c (.int .i64 0),true))] [.string ⟨#[]⟩,.int .i64 0]),(none,.bld 5 [((0,1),(.c (.string ⟨#[99,
  117,116]⟩),true)),((1,1),(.c (.int .i64 1),true))] [.string ⟨#[]⟩,.int .i64 0]),(none,.bld 6 [((0,1),(.c (.string ⟨#[109,97,116,99,104]⟩),true)),((1,1),(.c (.int .i64 1),true))] [.string ⟨#[]⟩,.int .i64 0]),(none,.bld 7 [((0,1),(.c (.string ⟨#[103,97,108,108,97,105]⟩),true)),((1,1),(.c (.int .i64 0),
 true))] [.string ⟨#[]⟩,.int .i64 0]),(none,.bld 8 [((0,1),(.c (.string ⟨#[98,97,114,114,105,101,114]⟩),true)),((1,1),(.c (.int .i64 0),true))] [.string ⟨#[]⟩,.int .i64 0]),(none,.bld 9 [((0,1),(.c (.string ⟨#[115,105,100,101,115]⟩),true)),((1,1),(.c (.int .i64 0),true))] [.string ⟨#[]⟩,.int .i64 0]),
 (none,.bld 10 [((0,1),(.c (.string ⟨#[98,108,111,99,107,115]⟩),true)),((1,1),(.c (.int .i64 0),true))] [.string ⟨#[]⟩,.int .i64 0]),(none,.bld 11 [((0,1),(.c (.string ⟨#[102,97,99,116,111,114]⟩),true)),((1,1),(.c (.int .i64 (- (0+1))),true))] [.string ⟨#[]⟩,.int .i64 0]),(none,.bld 12 [((0,
 1),(.c (.string ⟨#[99,111,118,101,114]⟩),true)),((1,1),(.c (.int .i64 0),true))] [.string ⟨#[]⟩,.int .i64 0]),(none,.bld 13 [((0,1),(.c (.string ⟨#[99,108,97,115,115,105,102,121]⟩),true)),((1,1),(.c (.int .i64 0),true))] [.string ⟨#[]⟩,.int .i64 0]),(none,.bld 14 [((0,1),(.c (.string ⟨#[116,
  101,108,108]⟩),true)),((1,1),(.c (.int .i64 0),true))] [.string ⟨#[]⟩,.int .i64 0]),(none,.bld 15 [((2,2),(.t 1,true)),((4,2),(.t 2,true)),((6,2),(.t 3,true)),((8,2),(.t 4,true)),((10,2),(.t 5,true)),((12,2),(.t 6,true)),((14,2),(.t 7,true)),((16,2),(.t 8,true)),((18,2),(.t 9,true)),((20,2),(.t 10,
 true)),((22,2),(.t 11,true)),((24,2),(.t 12,true)),((26,2),(.t 13,true)),((28,2),(.t 14,true))] [.string ⟨#[]⟩,.int .i64 0,.string ⟨#[]⟩,.int .i64 0,.string ⟨#[]⟩,.int .i64 0,.string ⟨#[]⟩,.int .i64 0,.string ⟨#[]⟩,.int .i64 0,.string ⟨#[]⟩,.int .i64 0,.string ⟨#[]⟩,.int .i64 0,.string ⟨#[]⟩,.int .i64 0,
 .string ⟨#[]⟩,.int .i64 0,.string ⟨#[]⟩,.int .i64 0,.string ⟨#[]⟩,.int .i64 0,.string ⟨#[]⟩,.int .i64 0,.string ⟨#[]⟩,.int .i64 0,.string ⟨#[]⟩,.int .i64 0,.string ⟨#[]⟩,.int .i64 0]),oW 0 15 30]
def Uf :List Nat:=[0]
def zc9 :zM:=.seq (.reg [] VW Uf) (.seq (.reg Uf VV Uf) .ret)
abbrev zcv :Nat:=24
theorem zd4 :qP Tryd.prog Tryd.f24.ntmps 0 [] Uf [(.cell 0 30 true)] zc9 zcv:=qT mix Tryd.func24 (by kernel_rfl) rfl
def VU :List zl:=[oI 4 0]
def VT :List zl:=[oM 6 0,oE 7 6,(none,.r (.mov 8 (.c (.int .i64 0))))]
def xa :List zl:=[oD 9 .lss 8 7]
def VS :List zl:=[oM 10 8,oS 5 10]
def VR :List zl:=[oM 11 1,oM 12 0,oM 13 5,oX 14 12 13 2,oT 15 14 2,(none,.call 16 (.t 11) [(.t 15,false)])]
def VQ :List zl:=[oM 17 5,oS 4 17]
def VP :List zl:=[oB 18 .add 8 1,oS 8 18]
def VO :List zl:=[(none,.asg 4 (.c (.int .i64 (- (0+1)))) true)]
def Jx :List Nat:=[0,1,4,5,7,8,9,16]
def zc8 :zM:=.seq (.reg Jx VU Jx) (.seq (.seq (.reg [0,1,4,5,9,16] VT Jx) (.blk 0 (.loop (.seq (.reg [0,
 1,4,5,7,8,16] xa Jx) (.seq (.cond (.t 9) .skip (.exit 0)) (.seq (.blk 1 (.seq (.reg Jx VS Jx) (.seq (.reg [0,
 1,4,5,7,8,9] VR Jx) (.cond (.t 16) (.seq (.reg Jx VQ Jx) .ret) .skip)))) (.reg Jx VP Jx))))))) (.seq (.reg Jx VO Jx) .ret))
abbrev zcu :Nat:=25
theorem zd3 :qP Tryd.prog Tryd.f25.ntmps 2 [4] Jx [(.tmp 4)] zc8 zcu:=qT mix Tryd.func25 (by kernel_rfl) rfl
def VN :List zl:=[(none,.box 2 (.t 0)),oO 3]
def W9 :ZP:=.take [1,2,3,4,5,6,7,8,9,10,11,12,13,14] (oF 4 2 0) (.take [2,3,4,5,6,7,8,9,10,11,12,13,14] (oL 5 4 1) (.take [3,4,5,6,7,8,9,10,11,12,13,14] (none,.r (.bin 6 .neq 0 (.t 5) (.c (.string ⟨#[]⟩)))) (.take [4,5,6,7,8,9,10,11,12,13,14] (oM 7 6) (.take [5,12,13,14] (some (7,
 true),.r (.fldA 8 (.t 2) 0)) (.take [12,13,14] (qo 7 true 9 8 1) (.take [7,8,9,10,11,12,13,14] (qo 7 true 10 1 1) (.take [8,9,10,11,12,13,14] (some (7,true),.r (.nilck 11 (.t 10))) (.take [9,10,11,12,13,14] (some (7,true),.r (.fldA 12 (.t 11) 0)) (.take [10,11,12,13,14] (qo 7 true 13 12 1) (.take [11,
 12,13,14] (some (7,true),.r (.idxA 14 (.t 13) (.c (.int .i64 0)) 1)) (.take [12,13,14] (qo 7 true 15 14 1) (.take [13,14] (Xn 7 true 16 .eql 9 15) (.take [14] (oP 17 7 16) (.one 14 (oS 3 17) .done))))))))))))))
def Ue :List Nat:=[0,1,2,3]
def zc7 :zM:=.seq (.reg [0,1,3] VN Ue) (.seq (.draw Ue W9 Ue) .ret)
abbrev OY :Nat:=26
theorem zd2 :qP Tryd.prog Tryd.f26.ntmps 2 [3] Ue [(.tmp 3)] zc7 OY:=qT mix Tryd.func26 (by kernel_rfl) rfl
def VM :List zl:=[oI 4 0,oO 5]
def VL :List zl:=[oM 10 0,oN 11 10,oF 12 11 0,oL 13 12 1,oM 14 1,oX 15 13 14 1,oL 16 15 1,oS 6 16]
def qi :List zl:=[oM 17 6,(none,.r (.lenS 18 (.t 17))),oB 19 .lss 18 1,oM 20 19,oK 20 false 21 6,(some (20,false),.r (.lenS 22 (.t 21))),qV 20 false 23 .gtr 22 9,oQ 24 20 23,oM 25 24,oK 25 false 26 6,(some (25,false),.r (.lenS 27 (.t 26))),qV 25 false 28 .gtr 27 1,oK 25 false 29 28,
 oK 29 true 30 6,(some (29,true),.r (.idxS 31 (.t 30) (.c (.int .i64 0)))),(some (29,true),.r (.bin 32 .eql 0 (.t 31) (.c (.int .u8 48)))),(some (25,false),.r (.pick 33 (.t 29) (.t 32) (.c (.bool false)))),oQ 34 25 33]
def Yg :List zl:=[oI 4 0,oO 5]
def W8 :List zl:=[oI 7 0]
def W7 :List zl:=[oM 35 6,(none,.s2b 36 (.t 35)),oE 37 36,(none,.r (.mov 38 (.c (.int .i64 0))))]
def Qx :List zl:=[oD 39 .lss 38 37]
def W6 :List zl:=[oX 40 36 38 1,oL 41 40 1,oS 9 41]
def JK :List zl:=[oM 42 9,(none,.r (.bin 43 .lss 0 (.t 42) (.c (.int .u8 48)))),oM 44 43,oK 44 false 45 9,(some (44,false),.r (.bin 46 .gtr 0 (.t 45) (.c (.int .u8 57)))),oQ 47 44 46]
def Qw :List zl:=[oI 4 0,oO 5]
def YU :List zl:=[oM 48 7,(none,.r (.bin 49 .mul 0 (.c (.int .i64 10)) (.t 48))),oM 50 9,(none,.r (.bin 51 .sub 0 (.t 50) (.c (.int .u8 48)))),(none,.r (.conv 52 .i64 (.t 51))),oD 53 .add 49 52,oS 7 53]
def YT :List zl:=[oB 54 .add 38 1,oS 38 54]
def YS :List zl:=[oM 55 7,oS 4 55,(none,.asg 5 (.c (.bool true)) true)]
def Z3 :List Nat:=[0,1,4,5,6,7,9,34,36,37,38,39,47]
def zc6 :zM:=.seq (.reg Z3 VM Z3) (.seq (.reg Z3 VL Z3) (.seq (.seq (.reg [0,1,4,5,6,7,9,36,37,38,39,47] qi Z3) (.cond (.t 34) (.seq (.reg Z3 Yg Z3) .ret) .skip)) (.seq (.reg Z3 W8 Z3) (.seq (.seq (.reg [0,
 1,4,5,6,7,9,34,39,47] W7 Z3) (.blk 0 (.loop (.seq (.reg [0,1,4,5,6,7,9,34,36,37,38,47] Qx Z3) (.seq (.cond (.t 39) .skip (.exit 0)) (.seq (.blk 1 (.seq (.reg Z3 W6 Z3) (.seq (.seq (.reg [0,
 1,4,5,6,7,9,34,36,37,38,39] JK Z3) (.cond (.t 47) (.seq (.reg Z3 Qw Z3) .ret) .skip)) (.reg Z3 YU Z3)))) (.reg Z3 YT Z3))))))) (.seq (.reg Z3 YS Z3) .ret)))))
abbrev zct :Nat:=27
theorem zd1 :qP Tryd.prog Tryd.f27.ntmps 2 [4,5] Z3 [(.tmp 4),(.tmp 5)] zc6 zct:=qT mix Tryd.func27 (by kernel_rfl) rfl
def VK :List zl:=[oO 6]
def VJ :List zl:=[oM 8 0,oE 9 8,oM 10 1,oE 11 10,oD 12 .neq 9 11]
def VI :List zl:=[oO 6]
def VH :List zl:=[oI 7 0]
def VG :List zl:=[oM 13 7,oM 14 0,oE 15 14,oD 16 .lss 13 15]
def VF :ZP:=.take [9,10] (oM 19 2) (.take [3,4,9,10] (oM 20 0) (.take [3,4,9,10] (oM 21 7) (.take [4,9,10] (oX 22 20 21 1) (.take [9,10] (oL 23 22 1) (.take [7,8,9,10] (oM 24 1) (.take [7,8,9,10] (oM 25 7) (.take [8,9,10] (oX 26 24 25 1) (.take [9,10] (oL 27 26 1) (.one 9 (none,
 .call 28 (.t 19) [(.t 23,false),(.t 27,false)]) (.take [] (none,.r (.notb 29 (.t 28))) .done))))))))))
def VE :List zl:=[oO 6]
def VD :List zl:=[oM 17 7,oB 18 .add 17 1,oS 7 18]
def VC :List zl:=[(none,.asg 6 (.c (.bool true)) true)]
def Ja :List Nat:=[0,1,2,6,7,12,16,29]
def zc5 :zM:=.seq (.reg Ja VK Ja) (.seq (.seq (.reg [0,1,2,6,7,16,29] VJ Ja) (.cond (.t 12) (.seq (.reg Ja VI Ja) .ret) .skip)) (.seq (.seq (.reg Ja VH Ja) (.blk 0 (.loop (.seq (.seq (.reg [0,
 1,2,6,7,12,29] VG Ja) (.cond (.t 16) .skip (.exit 0))) (.seq (.blk 1 (.seq (.draw [0,1,2,6,7,12,16] VF Ja) (.cond (.t 29) (.seq (.reg Ja VE Ja) .ret) .skip))) (.reg Ja VD Ja)))))) (.seq (.reg Ja VC Ja) .ret)))
abbrev zcs :Nat:=28
theorem zd0 :qP Tryd.prog Tryd.f28.ntmps 3 [6] Ja [(.tmp 6)] zc5 zcs:=qT mix Tryd.func28 (by kernel_rfl) rfl
def VB :List zl:=[oO 4]
def VA :List zl:=[oM 5 0,oM 6 1,oD 7 .eql 5 6,oS 4 7]
def x6 :List Nat:=[0,1,4]
def zc4 :zM:=.seq (.reg x6 VB x6) (.seq (.reg x6 VA x6) .ret)
abbrev gQ :Nat:=29
theorem zdZ :qP Tryd.prog Tryd.f29.ntmps 2 [4] x6 [(.tmp 4)] zc4 gQ:=qT mix Tryd.func29 (by kernel_rfl) rfl
def W5 :List zl:=[oZ 4,oZ 5,oO 6]
def W4 :List zl:=[oM 8 0,oM 9 1,xH 10 41 8 9,oS 7 10]
def W0 :List zl:=[oM 11 7,oB 12 .geq 11 0]
def Vz :ZP:=.take [2,9,10,11] (oM 13 0) (.take [2,9,10,11] (oM 14 7) (.take [8,10,11] (oM 16 0) (.take [7,8,10,11] (oM 17 7) (.take [6,7,8,10,11] (oM 18 1) (.take [7,8,10,11] (oE 19 18) (.take [8,10,11] (oD 20 .add 17 19) (.two 2 (none,.slc 15 (.t 13) none (some (.t 14)) 1) (.two 8 (none,
 .slc 21 (.t 16) (some (.t 20)) none 1) (.one 9 (oS 4 15) (.one 10 (oS 5 21) (.one 11 (none,.asg 6 (.c (.bool true)) true) .done))) 9 (oS 4 15) (.one 8 (none,.slc 21 (.t 16) (some (.t 20)) none 1) (.one 10 (oS 5 21) (.one 11 (none,.asg 6 (.c (.bool true)) true) .done)))) 8 (none,.slc 21 (.t 16) (some (.t 20)) none 1) (.one 2 (none,
 .slc 15 (.t 13) none (some (.t 14)) 1) (.one 9 (oS 4 15) (.one 10 (oS 5 21) (.one 11 (none,.asg 6 (.c (.bool true)) true) .done)))))))))))
def Vy :List zl:=[oM 22 0,oS 4 22,oZ 5,oO 6]
def qR :List Nat:=[0,1,4,5,6,7,12]
def zaJ :zM:=.seq (.reg qR W5 qR) (.seq (.seq (.reg qR W4 qR) (.seq (.reg [0,1,4,5,6,7] W0 qR) (.cond (.t 12) (.seq (.draw qR Vz qR) .ret) .skip))) (.seq (.reg qR Vy qR) .ret))
abbrev UN :Nat:=30
theorem zal :qP Tryd.prog Tryd.f30.ntmps 2 [4,5,6] qR [(.tmp 4),(.tmp 5),(.tmp 6)] zaJ UN:=qT mix Tryd.func30 (by kernel_rfl) rfl
def Vx :List zl:=[(none,.box 1 (.t 0)),oZ 2,oO 3]
def Vw :ZP:=.take [2,3,5] (oF 6 1 0) (.take [3,5] (oL 7 6 1) (.two 0 (none,.call 5 (.f 24) []) (.take [5] (none,.r (.idxV 8 (.t 5) (.t 7) 15 2 true)) (.one 4 (none,.alloc 4 [.string ⟨#[]⟩,.int .i64 0]) (.one 5 (oW 4 8 2) .done))) 4 (none,.alloc 4 [.string ⟨#[]⟩,.int .i64 0]) (.one 0 (none,
 .call 5 (.f 24) []) (.take [5] (none,.r (.idxV 8 (.t 5) (.t 7) 15 2 true)) (.one 5 (oW 4 8 2) .done)))))
def WZ :List zl:=[oF 18 4 1,oL 19 18 1,oB 20 .lss 19 0,oS 17 20]
def Yf :ZP:=.take [1,10,11] (oF 21 1 3) (.take [10,11] (oL 22 21 1) (.take [3,4,5,6,7,8,9,10,11] (oF 23 1 1) (.take [4,5,6,7,8,9,10,11] (oL 24 23 1) (.take [5,6,7,8,9,10,11] (oB 25 .eql 24 0) (.take [6,7,8,9,10,11] (oM 26 25) (.take [7,8,9,11] (some (26,true),.r (.fldA 27 (.t 1) 2)) (.take [8,
 9,11] (qo 26 true 28 27 1) (.take [9,11] (qV 26 true 29 .eql 28 0) (.take [11] (oP 30 26 29) (.one 10 (oS 2 22) (.one 11 (oS 3 30) .done)))))))))))
def jv :List zl:=[oF 32 4 1,oL 33 32 1,oB 34 .lss 33 2,oM 35 34,(some (35,true),.r (.fldA 36 (.t 1) 2)),qo 35 true 37 36 1,qV 35 true 38 .neq 37 0,oP 39 35 38,oM 40 39,(some (40,false),.r (.fldA 41 (.t 4) 1)),qo 40 false 42 41 1,qV 40 false 43 .lss 42 1,oK 40 false 44 43,(some (44,
 true),.r (.fldA 45 (.t 1) 1)),qo 44 true 46 45 1,qV 44 true 47 .neq 46 0,(some (40,false),.r (.pick 48 (.t 44) (.t 47) (.c (.bool false)))),oQ 49 40 48,oM 50 49,(some (50,false),.r (.fldA 51 (.t 1) 3)),qo 50 false 52 51 1,(some (50,false),.r (.len 53 (.t 52))),qV 50 false 54 .gtr 53 0,oQ 55 50 54,
 oS 31 55]
def JJ :List zl:=[oZ 2,oO 3]
def Ye :List zl:=[oF 9 1 1,oL 10 9 1,oF 11 1 2,oL 12 11 1,(none,.blds 13 2 1 [((0,1),(.t 10,true)),((1,1),(.t 12,true))] [.int .i64 0]),oF 14 4 1,oL 15 14 1,(none,.slc 16 (.t 13) none (some (.t 15)) 1),oS 2 16,(none,.asg 3 (.c (.bool true)) true)]
def JP :List Nat:=[0,1,2,3,4,17,31]
def zc0 :zM:=.seq (.reg [0,2,3,4,17,31] Vx JP) (.seq (.draw [0,1,2,3,17,31] Vw JP) (.blk 0 (.seq (.reg JP WZ JP) (.cond (.t 17) (.seq (.draw JP Yf JP) .ret) (.seq (.reg JP jv JP) (.cond (.t 31) (.seq (.reg JP JJ JP) .ret) (.seq (.reg JP Ye JP) .ret)))))))
abbrev zcr :Nat:=31
theorem zdY :qP Tryd.prog Tryd.f31.ntmps 1 [2,3] JP [(.tmp 2),(.tmp 3)] zc0 zcr:=qT mix Tryd.func31 (by kernel_rfl) rfl
def Vv :List zl:=[oO 4]
def Vu :List zl:=[oM 5 0,oM 6 1,(none,.call 7 (.f 46) [(.t 5,false),(.t 6,false),(.f 47,false)]),oS 4 7]
def x5 :List Nat:=[0,1,4]
def zcZ :zM:=.seq (.reg x5 Vv x5) (.seq (.reg x5 Vu x5) .ret)
abbrev zcq :Nat:=34
theorem zdX :qP Tryd.prog Tryd.f34.ntmps 2 [4] x5 [(.tmp 4)] zcZ zcq:=qT mix Tryd.func34 (by kernel_rfl) rfl
def Vs :List zl:=[oZ 2]
def Vr :List zl:=[oZ 3]
def Vq :List zl:=[oI 4 0]
def Vp :List zl:=[oI 5 0]
def WY :List zl:=[oM 6 5,oM 7 0,(none,.r (.lenS 8 (.t 7))),oD 9 .leq 6 8]
def Yd :List zl:=[oM 12 5,oM 13 0,(none,.r (.lenS 14 (.t 13))),oD 15 .eql 12 14,oM 16 15,oK 16 false 17 0,oK 16 false 18 5,(some (16,false),.r (.idxS 19 (.t 17) (.t 18))),(some (16,false),.r (.bin 20 .eql 0 (.t 19) (.c (.int .u8 32)))),oQ 21 16 20]
def WX :List zl:=[oM 22 3,oM 23 0,oM 24 4,oM 25 5,(none,.r (.slc 26 (.t 23) (some (.t 24)) (some (.t 25)) 0)),(none,.blds 27 1 1 [((0,1),(.t 26,true))] [.string ⟨#[]⟩]),(none,.app 28 (.t 22) (.t 27) 1 16),oS 3 28]
def WW :List zl:=[oM 29 5,oB 30 .add 29 1,oS 4 30]
def Yc :List zl:=[oM 10 5,oB 11 .add 10 1,oS 5 11]
def Vo :List zl:=[oM 31 3,oS 2 31]
def jD :List Nat:=[0,2,3,4,5,9,21]
def zcY :zM:=.seq (.reg jD Vs jD) (.seq (.reg jD Vr jD) (.seq (.reg jD Vq jD) (.seq (.seq (.reg jD Vp jD) (.blk 0 (.loop (.seq (.seq (.reg [0,
 2,3,4,5,21] WY jD) (.cond (.t 9) .skip (.exit 0))) (.seq (.blk 1 (.seq (.reg [0,2,3,4,5,9] Yd jD) (.cond (.t 21) (.seq (.reg jD WX jD) (.reg jD WW jD)) .skip))) (.reg jD Yc jD)))))) (.seq (.reg jD Vo jD) .ret))))
abbrev zcp :Nat:=35
theorem zdW :qP Tryd.prog Tryd.f35.ntmps 1 [2] jD [(.tmp 2)] zcY zcp:=qT mix Tryd.func35 (by kernel_rfl) rfl
def Vn :List zl:=[(none,.asg 2 (.c (.string ⟨#[]⟩)) true),oI 3 0]
def Vm :List zl:=[oM 4 0]
def WV :List zl:=[oB 6 .eql 4 1,oS 5 6]
def Vl :List zl:=[(none,.asg 2 (.c (.string ⟨#[118,101,114,116,105,99,101,115]⟩)) true),oI 3 1]
def WU :List zl:=[oB 8 .eql 4 2,oS 7 8]
def Vk :List zl:=[(none,.asg 2 (.c (.string ⟨#[97,100,100]⟩)) true),oI 3 2]
def WT :List zl:=[oB 10 .eql 4 3,oS 9 10]
def Vj :List zl:=[(none,.asg 2 (.c (.string ⟨#[114,101,109,111,118,101]⟩)) true),oI 3 2]
def WS :List zl:=[oB 12 .eql 4 4,oS 11 12]
def Vi :List zl:=[(none,.asg 2 (.c (.string ⟨#[103,114,111,119]⟩)) true),oI 3 0]
def YR :List zl:=[oB 14 .eql 4 5,oS 13 14]
def XX :List zl:=[(none,.asg 2 (.c (.string ⟨#[99,117,116]⟩)) true),oI 3 1]
def YQ :List zl:=[oB 16 .eql 4 6,oS 15 16]
def XW :List zl:=[(none,.asg 2 (.c (.string ⟨#[109,97,116,99,104]⟩)) true),oI 3 1]
def YP :List zl:=[oB 18 .eql 4 7,oS 17 18]
def XV :List zl:=[(none,.asg 2 (.c (.string ⟨#[103,97,108,108,97,105]⟩)) true),oI 3 0]
def YO :List zl:=[oB 20 .eql 4 8,oS 19 20]
def XU :List zl:=[(none,.asg 2 (.c (.string ⟨#[98,97,114,114,105,101,114]⟩)) true),oI 3 0]
def YN :List zl:=[oB 22 .eql 4 9,oS 21 22]
def XT :List zl:=[(none,.asg 2 (.c (.string ⟨#[115,105,100,101,115]⟩)) true),oI 3 0]
def YM :List zl:=[oB 24 .eql 4 10,oS 23 24]
def XS :List zl:=[(none,.asg 2 (.c (.string ⟨#[98,108,111,99,107,115]⟩)) true),oI 3 0]
def YL :List zl:=[oB 26 .eql 4 11,oS 25 26]
def XR :List zl:=[(none,.asg 2 (.c (.string ⟨#[102,97,99,116,111,114]⟩)) true),(none,.asg 3 (.c (.int .i64 (- (0+1)))) true)]
def YK :List zl:=[oB 28 .eql 4 12,oS 27 28]
def XQ :List zl:=[(none,.asg 2 (.c (.string ⟨#[99,111,118,101,114]⟩)) true),oI 3 0]
def YJ :List zl:=[oB 30 .eql 4 13,oS 29 30]
def XP :List zl:=[(none,.asg 2 (.c (.string ⟨#[99,108,97,115,115,105,102,121]⟩)) true),oI 3 0]
def YI :List zl:=[oB 32 .eql 4 14,oS 31 32]
def XO :List zl:=[(none,.asg 2 (.c (.string ⟨#[116,101,108,108]⟩)) true),oI 3 0]
def XN :List zl:=[(none,.asg 2 (.c (.string ⟨#[]⟩)) true),oI 3 0]
def zH :List Nat:=[0,2,3,4,5,7,9,11,13,15,17,19,21,23,25,27,29,31]
def zcX :zM:=.seq (.reg zH Vn zH) (.seq (.seq (.reg [0,2,3,5,7,9,11,13,15,17,19,21,23,25,27,29,31] Vm zH) (.blk 0 (.seq (.reg zH WV zH) (.cond (.t 5) (.seq (.reg zH Vl zH) .ret) (.seq (.reg zH WU zH) (.cond (.t 7) (.seq (.reg zH Vk zH) .ret) (.seq (.reg zH WT zH) (.cond (.t 9) (.seq (.reg zH Vj zH) .ret) (.seq (.reg zH WS zH) (.cond (.t 11) (.seq (.reg zH Vi zH) .ret) (.seq (.reg zH YR zH) (.cond (.t 13) (.seq (.reg zH XX zH) .ret) (.seq (.reg zH YQ zH) (.cond (.t 15) (.seq (.reg zH XW zH) .ret) (.seq (.reg zH YP zH) (.cond (.t 17) (.seq (.reg zH XV zH) .ret) (.seq (.reg zH YO zH) (.cond (.t 19) (.seq (.reg zH XU zH) .ret) (.seq (.reg zH YN zH) (.cond (.t 21) (.seq (.reg zH XT zH) .ret) (.seq (.reg zH YM zH) (.cond (.t 23) (.seq (.reg zH XS zH) .ret) (.seq (.reg zH YL zH) (.cond (.t 25) (.seq (.reg zH XR zH) .ret) (.seq (.reg zH YK zH) (.cond (.t 27) (.seq (.reg zH XQ zH) .ret) (.seq (.reg zH YJ zH) (.cond (.t 29) (.seq (.reg zH XP zH) .ret) (.seq (.reg zH YI zH) (.cond (.t 31) (.seq (.reg zH XO zH) .ret) .skip)))))))))))))))))))))))))))))) (.seq (.reg zH XN zH) .ret))
abbrev zco :Nat:=36
theorem zdV :qP Tryd.prog Tryd.f36.ntmps 1 [2,3] zH [(.tmp 2),(.tmp 3)] zcX zco:=qT mix Tryd.func36 (by kernel_rfl) rfl
def Vh :List zl:=[oI 2 0]
def qh :List zl:=[oM 5 0,(none,.r (.bin 6 .eql 0 (.t 5) (.c (.string ⟨#[]⟩)))),oM 7 6,oK 7 false 8 0,(some (7,false),.r (.lenS 9 (.t 8))),qV 7 false 10 .gtr 9 9,oQ 11 7 10,oM 12 11,oK 12 false 13 0,(some (12,false),.r (.idxS 14 (.t 13) (.c (.int .i64 0)))),(some (12,false),.r (.bin 15 .eql 0 (.t 14) (.c (.int .u8 48)))),
 oK 12 false 16 15,oK 16 true 17 0,(some (16,true),.r (.lenS 18 (.t 17))),qV 16 true 19 .gtr 18 1,(some (12,false),.r (.pick 20 (.t 16) (.t 19) (.c (.bool false)))),oQ 21 12 20]
def Yb :List zl:=[(none,.asg 2 (.c (.int .i64 (- (0+1)))) true)]
def Vg :List zl:=[oI 3 0]
def Vf :List zl:=[oI 4 0]
def WR :List zl:=[oM 22 4,oM 23 0,(none,.r (.lenS 24 (.t 23))),oD 25 .lss 22 24]
def Ya :List zl:=[oM 28 0,oM 29 4,(none,.r (.idxS 30 (.t 28) (.t 29))),(none,.r (.bin 31 .lss 0 (.t 30) (.c (.int .u8 48)))),oM 32 31,oK 32 false 33 0,oK 32 false 34 4,(some (32,false),.r (.idxS 35 (.t 33) (.t 34))),(some (32,false),.r (.bin 36 .gtr 0 (.t 35) (.c (.int .u8 57)))),
 oQ 37 32 36]
def WQ :List zl:=[(none,.asg 2 (.c (.int .i64 (- (0+1)))) true)]
def Ve :List zl:=[oM 38 3,(none,.r (.bin 39 .mul 0 (.c (.int .i64 10)) (.t 38))),oM 40 0,oM 41 4,(none,.r (.idxS 42 (.t 40) (.t 41))),(none,.r (.bin 43 .sub 0 (.t 42) (.c (.int .u8 48)))),(none,.r (.conv 44 .i64 (.t 43))),oD 45 .add 39 44,oS 3 45]
def Vd :List zl:=[oM 26 4,oB 27 .add 26 1,oS 4 27]
def XM :List zl:=[oM 46 3,oS 2 46]
def jq :List Nat:=[0,2,3,4,21,25,37]
def zcW :zM:=.seq (.reg jq Vh jq) (.seq (.seq (.reg [0,2,3,4,25,37] qh jq) (.cond (.t 21) (.seq (.reg jq Yb jq) .ret) .skip)) (.seq (.reg jq Vg jq) (.seq (.seq (.reg jq Vf jq) (.blk 0 (.loop (.seq (.seq (.reg [0,
 2,3,4,21,37] WR jq) (.cond (.t 25) .skip (.exit 0))) (.seq (.blk 1 (.seq (.seq (.reg [0,2,3,4,21,25] Ya jq) (.cond (.t 37) (.seq (.reg jq WQ jq) .ret) .skip)) (.reg jq Ve jq))) (.reg jq Vd jq)))))) (.seq (.reg jq XM jq) .ret))))
abbrev zcn :Nat:=37
theorem zdU :qP Tryd.prog Tryd.f37.ntmps 1 [2] jq [(.tmp 2)] zcW zcn:=qT mix Tryd.func37 (by kernel_rfl) rfl
def Vc :List zl:=[oO 2]
def WP :List zl:=[oM 3 0,oB 4 .geq 3 0,oM 5 4,oK 5 true 6 0,qV 5 true 7 .leq 6 999999999,oP 8 5 7,oS 2 8]
def x4 :List Nat:=[0,2]
def zcV :zM:=.seq (.reg x4 Vc x4) (.seq (.reg x4 WP x4) .ret)
abbrev zcm :Nat:=38
theorem zdT :qP Tryd.prog Tryd.f38.ntmps 1 [2] x4 [(.tmp 2)] zcV zcm:=qT mix Tryd.func38 (by kernel_rfl) rfl
def Vb :List zl:=[oO 4]
def Va :List zl:=[oM 5 0,oM 6 1,(none,.call 7 (.f 48) [(.t 5,false),(.t 6,false),(.f 49,false)]),oS 4 7]
def xZ :List Nat:=[0,1,4]
def zcU :zM:=.seq (.reg xZ Vb xZ) (.seq (.reg xZ Va xZ) .ret)
abbrev zcl :Nat:=39
theorem zdS :qP Tryd.prog Tryd.f39.ntmps 2 [4] xZ [(.tmp 4)] zcU zcl:=qT mix Tryd.func39 (by kernel_rfl) rfl
def v8 :List zl:=[oZ 8]
def v7 :List zl:=[oM 12 3,oB 13 .eql 12 0]
def zaI :List zl:=[oZ 8]
def v6 :List zl:=[oM 14 1,(none,.r (.bin 15 .eql 0 (.t 14) (.c (.string ⟨#[]⟩))))]
def zaH :List zl:=[oM 16 0,oM 17 3,xH 18 50 16 17,oS 8 18]
def vZ :List zl:=[oM 19 3,oB 20 .lss 19 0]
def vY :List zl:=[oM 21 0,oM 22 1,xH 23 51 21 22,oB 24 .add 23 1,oS 3 24]
def vX :List zl:=[oM 25 3,oM 26 0,(none,.r (.lenS 27 (.t 26))),oB 28 .add 27 1,(none,.r (.mm 29 false (.t 25) (.t 28))),oS 3 29]
def vW :List zl:=[oM 30 3,(none,.mk 31 (.t 30) (.t 30) 1 16 [.string ⟨#[]⟩]),oS 9 31]
def vV :List zl:=[oM 32 3,oB 33 .sub 32 1,oS 3 33]
def XL :List zl:=[oI 10 0]
def YH :List zl:=[oM 34 10,oM 35 3,oD 36 .lss 34 35]
def XK :List zl:=[oM 37 0,oM 38 1,xH 39 52 37 38,oS 11 39]
def XJ :List zl:=[oM 40 11,oB 41 .lss 40 0]
def XI :List zl:=[oM 42 9,oM 43 10,oM 44 0,oM 45 11,oM 46 2,oD 47 .add 45 46,(none,.r (.slc 48 (.t 44) none (some (.t 47)) 0)),oX 49 42 43 1,oW 49 48 1]
def XH :List zl:=[oM 50 0,oM 51 11,oM 52 1,(none,.r (.lenS 53 (.t 52))),oD 54 .add 51 53,(none,.r (.slc 55 (.t 50) (some (.t 54)) none 0)),oS 0 55]
def XG :List zl:=[oM 56 10,oB 57 .add 56 1,oS 10 57]
def XF :List zl:=[oM 58 9,oM 59 10,oM 60 0,oX 61 58 59 1,oW 61 60 1]
def XE :List zl:=[oM 62 9,oM 63 10,oB 64 .add 63 1,(none,.slc 65 (.t 62) none (some (.t 64)) 1),oS 8 65]
def Zo :List Nat:=[0,1,2,3,8,9,10,11,13,15,20,36,41]
def zcT :zM:=.seq (.reg Zo v8 Zo) (.seq (.seq (.reg [0,1,2,3,8,9,10,11,15,20,36,41] v7 Zo) (.cond (.t 13) (.seq (.reg Zo zaI Zo) .ret) .skip)) (.seq (.seq (.reg [0,
 1,2,3,8,9,10,11,13,20,36,41] v6 Zo) (.cond (.t 15) (.seq (.reg Zo zaH Zo) .ret) .skip)) (.seq (.seq (.reg [0,1,2,3,8,9,10,11,13,15,36,41] vZ Zo) (.cond (.t 20) (.reg Zo vY Zo) .skip)) (.seq (.reg Zo vX Zo) (.seq (.reg Zo vW Zo) (.seq (.reg Zo vV Zo) (.seq (.reg Zo XL Zo) (.seq (.blk 0 (.loop (.seq (.seq (.reg [0,
 1,2,3,8,9,10,11,13,15,20,41] YH Zo) (.cond (.t 36) .skip (.exit 0))) (.blk 1 (.seq (.reg Zo XK Zo) (.seq (.seq (.reg [0,1,2,3,8,9,10,11,13,15,20,36] XJ Zo) (.cond (.t 41) (.exit 0) .skip)) (.seq (.reg Zo XI Zo) (.seq (.reg Zo XH Zo) (.reg Zo XG Zo))))))))) (.seq (.reg Zo XF Zo) (.seq (.reg Zo XE Zo) .ret))))))))))
abbrev zck :Nat:=40
theorem zdR :qP Tryd.prog Tryd.f40.ntmps 4 [8] Zo [(.tmp 8)] zcT zck:=qT mix Tryd.func40 (by kernel_rfl) rfl
def vU :List zl:=[oI 4 0]
def vT :List zl:=[oM 20 1,oE 21 20,oS 5 21]
def vS :List zl:=[oM 23 5,oB 24 .eql 23 0,oS 22 24]
def zaG :List zl:=[oI 4 0]
def vR :List zl:=[oM 26 5,oB 27 .eql 26 1,oS 25 27]
def vQ :List zl:=[oM 28 0,oM 29 1,(none,.r (.idxA 30 (.t 29) (.c (.int .i64 0)) 1)),oL 31 30 1,xH 32 53 28 31,oS 4 32]
def zaF :List zl:=[oM 34 5,oM 35 0,oE 36 35,oD 37 .eql 34 36,oS 33 37]
def zaE :List zl:=[oM 38 1,oM 39 0,xH 40 54 38 39]
def zaD :List zl:=[oI 4 0]
def zaC :List zl:=[(none,.asg 4 (.c (.int .i64 (- (0+1)))) true)]
def P8 :List zl:=[oM 42 5,oM 43 0,oE 44 43,oD 45 .gtr 42 44,oS 41 45]
def P7 :List zl:=[(none,.asg 4 (.c (.int .i64 (- (0+1)))) true)]
def P6 :List zl:=[oM 47 5,(none,.bad (some 48)),oD 49 .leq 47 48,oS 46 49]
def P5 :List zl:=[oM 50 0,oE 51 50,oB 52 .leq 51 64]
def PZ :List zl:=[oM 53 0,oM 54 1,xH 55 55 53 54,oS 4 55]
def PY :List zl:=[oM 56 1,(none,.r (.idxA 57 (.t 56) (.c (.int .i64 0)) 1)),oL 58 57 1,oS 6 58]
def PX :List zl:=[oM 59 1,(none,.r (.idxA 60 (.t 59) (.c (.int .i64 1)) 1)),oL 61 60 1,oS 7 61]
def PW :List zl:=[oI 8 0]
def PV :List zl:=[oM 62 0,oE 63 62,oM 64 5,oD 65 .sub 63 64,oB 66 .add 65 1,oS 9 66]
def PU :List zl:=[oI 10 0]
def PT :List zl:=[oM 67 8,oM 68 9,oD 69 .lss 67 68]
def PS :List zl:=[oM 70 0,oM 71 8,oX 72 70 71 1,oL 73 72 1,oM 74 6,oD 75 .neq 73 74]
def PR :List zl:=[oM 76 0,oM 77 8,oB 78 .add 77 1,oM 79 9,(none,.slc 80 (.t 76) (some (.t 78)) (some (.t 79)) 1),oM 81 6,xH 82 53 80 81,oS 11 82]
def PQ :List zl:=[oM 83 11,oB 84 .lss 83 0]
def PP :List zl:=[(none,.asg 4 (.c (.int .i64 (- (0+1)))) true)]
def PO :List zl:=[oM 85 8,oM 86 11,oB 87 .add 86 1,oD 88 .add 85 87,oS 8 88]
def PN :List zl:=[oM 89 0,oM 90 8,oB 91 .add 90 1,oX 92 89 91 1,oL 93 92 1,oM 94 7,oD 95 .eql 93 94,oM 96 95,oK 96 true 97 0,oK 96 true 98 8,oK 96 true 99 8,oK 96 true 100 5,Xn 96 true 101 .add 99 100,(some (96,true),.slc 102 (.t 97) (some (.t 98)) (some (.t 101)) 1),oK 96 true 103 1,
 (some (96,true),.call 104 (.f 54) [(.t 102,false),(.t 103,false)]),oP 105 96 104]
def PM :List zl:=[oM 106 8,oS 4 106]
def PL :List zl:=[oM 107 10,oB 108 .add 107 1,oS 10 108]
def PK :List zl:=[oM 109 8,oB 110 .add 109 1,oS 8 110]
def PJ :List zl:=[oM 111 10,oM 112 8,oC 113 56 112,oD 114 .gtr 111 113]
def PI :List zl:=[oM 115 0,oM 116 8,(none,.slc 117 (.t 115) (some (.t 116)) none 1),oM 118 1,xH 119 55 117 118,oS 12 119]
def PH :List zl:=[oM 120 12,oB 121 .geq 120 0]
def PG :List zl:=[oM 122 12,oM 123 8,oD 124 .add 122 123,oS 4 124]
def PF :List zl:=[(none,.asg 4 (.c (.int .i64 (- (0+1)))) true)]
def PE :List zl:=[(none,.asg 4 (.c (.int .i64 (- (0+1)))) true)]
def PD :List zl:=[oM 125 1,(none,.r (.idxA 126 (.t 125) (.c (.int .i64 0)) 1)),oL 127 126 1,oS 13 127]
def PC :List zl:=[oM 128 1,(none,.r (.idxA 129 (.t 128) (.c (.int .i64 1)) 1)),oL 130 129 1,oS 14 130]
def PB :List zl:=[oI 15 0]
def PA :List zl:=[oI 16 0]
def Py :List zl:=[oM 131 0,oE 132 131,oM 133 5,oD 134 .sub 132 133,oB 135 .add 134 1,oS 17 135]
def Px :List zl:=[oM 136 15,oM 137 17,oD 138 .lss 136 137]
def Pw :List zl:=[oM 139 0,oM 140 15,oX 141 139 140 1,oL 142 141 1,oM 143 13,oD 144 .neq 142 143]
def Pv :List zl:=[oM 145 0,oM 146 15,oB 147 .add 146 1,oM 148 17,(none,.slc 149 (.t 145) (some (.t 147)) (some (.t 148)) 1),oM 150 13,xH 151 53 149 150,oS 18 151]
def Pu :List zl:=[oM 152 18,oB 153 .lss 152 0]
def Ps :List zl:=[oM 154 15,oM 155 18,oB 156 .add 155 1,oD 157 .add 154 156,oS 15 157]
def Pr :List zl:=[oM 158 0,oM 159 15,oB 160 .add 159 1,oX 161 158 160 1,oL 162 161 1,oM 163 14,oD 164 .eql 162 163,oM 165 164,oK 165 true 166 0,oK 165 true 167 15,oK 165 true 168 15,oK 165 true 169 5,Xn 165 true 170 .add 168 169,(some (165,true),.slc 171 (.t 166) (some (.t 167)) (some (.t 170)) 1),
 oK 165 true 172 1,(some (165,true),.call 173 (.f 54) [(.t 171,false),(.t 172,false)]),oP 174 165 173]
def Pq :List zl:=[oM 175 15,oS 4 175]
def Pp :List zl:=[oM 176 15,oB 177 .add 176 1,oS 15 177]
def Po :List zl:=[oM 178 16,oB 179 .add 178 1,oS 16 179]
def Pn :List zl:=[oM 180 16,oM 181 15,(none,.r (.bin 182 .shr 0 (.t 181) (.c (.int .u64 4)))),(none,.r (.bin 183 .add 0 (.c (.int .i64 4)) (.t 182))),oD 184 .geq 180 183,oM 185 184,oK 185 true 186 15,oK 185 true 187 17,Xn 185 true 188 .lss 186 187,oP 189 185 188]
def Pm :List zl:=[oM 190 0,oM 191 15,(none,.slc 192 (.t 190) (some (.t 191)) none 1),oM 193 1,xH 194 57 192 193,oS 19 194]
def Pl :List zl:=[oM 195 19,oB 196 .lss 195 0]
def Pk :List zl:=[(none,.asg 4 (.c (.int .i64 (- (0+1)))) true)]
def Pj :List zl:=[oM 197 15,oM 198 19,oD 199 .add 197 198,oS 4 199]
def Pi :List zl:=[(none,.asg 4 (.c (.int .i64 (- (0+1)))) true)]
def zp :List Nat:=[0,1,4,5,6,7,8,9,10,11,12,13,14,15,16,17,18,19,22,25,33,40,41,46,52,69,75,84,105,114,121,138,144,153,174,189,196]
def zcS :zM:=.seq (.reg zp vU zp) (.seq (.reg zp vT zp) (.seq (.blk 0 (.seq (.reg zp vS zp) (.cond (.t 22) (.seq (.reg zp zaG zp) .ret) (.seq (.reg zp vR zp) (.cond (.t 25) (.seq (.reg zp vQ zp) .ret) (.seq (.reg zp zaF zp) (.cond (.t 33) (.seq (.seq (.reg [0,
 1,4,5,6,7,8,9,10,11,12,13,14,15,16,17,18,19,22,25,33,41,46,52,69,75,84,105,114,121,138,144,153,174,189,196] zaE zp) (.cond (.t 40) (.seq (.reg zp zaD zp) .ret) .skip)) (.seq (.reg zp zaC zp) .ret)) (.seq (.reg zp P8 zp) (.cond (.t 41) (.seq (.reg zp P7 zp) .ret) (.seq (.reg zp P6 zp) (.cond (.t 46) (.seq (.seq (.reg [0,
 1,4,5,6,7,8,9,10,11,12,13,14,15,16,17,18,19,22,25,33,40,41,46,69,75,84,105,114,121,138,144,153,174,189,196] P5 zp) (.cond (.t 52) (.seq (.reg zp PZ zp) .ret) .skip)) (.seq (.reg zp PY zp) (.seq (.reg zp PX zp) (.seq (.reg zp PW zp) (.seq (.reg zp PV zp) (.seq (.reg zp PU zp) (.seq (.blk 1 (.loop (.seq (.seq (.reg [0,
 1,4,5,6,7,8,9,10,11,12,13,14,15,16,17,18,19,22,25,33,40,41,46,52,75,84,105,114,121,138,144,153,174,189,196] PT zp) (.cond (.t 69) .skip (.exit 1))) (.blk 2 (.seq (.seq (.reg [0,1,4,5,6,7,8,9,10,11,12,13,14,15,16,17,18,19,22,25,33,40,41,46,52,69,84,105,114,121,138,144,153,174,
 189,196] PS zp) (.cond (.t 75) (.seq (.reg zp PR zp) (.seq (.seq (.reg [0,1,4,5,6,7,8,9,10,11,12,13,14,15,16,17,18,19,22,25,33,40,41,46,52,69,75,105,114,121,138,144,153,174,189,196] PQ zp) (.cond (.t 84) (.seq (.reg zp PP zp) .ret) .skip)) (.reg zp PO zp))) .skip)) (.seq (.seq (.reg [0,
 1,4,5,6,7,8,9,10,11,12,13,14,15,16,17,18,19,22,25,33,40,41,46,52,69,75,84,114,121,138,144,153,174,189,196] PN zp) (.cond (.t 105) (.seq (.reg zp PM zp) .ret) .skip)) (.seq (.reg zp PL zp) (.seq (.reg zp PK zp) (.seq (.reg [0,
 1,4,5,6,7,8,9,10,11,12,13,14,15,16,17,18,19,22,25,33,40,41,46,52,69,75,84,105,121,138,144,153,174,189,196] PJ zp) (.cond (.t 114) (.seq (.reg zp PI zp) (.seq (.seq (.reg [0,1,4,5,6,7,8,9,10,11,12,13,14,15,16,17,18,19,22,25,33,40,41,46,52,
 69,75,84,105,114,138,144,153,174,189,196] PH zp) (.cond (.t 121) (.seq (.reg zp PG zp) .ret) .skip)) (.seq (.reg zp PF zp) .ret))) .skip)))))))))) (.seq (.reg zp PE zp) .ret)))))))) .skip))))))))))) (.seq (.reg zp PD zp) (.seq (.reg zp PC zp) (.seq (.reg zp PB zp) (.seq (.reg zp PA zp) (.seq (.reg zp Py zp) (.seq (.blk 3 (.loop (.seq (.seq (.reg [0,
 1,4,5,6,7,8,9,10,11,12,13,14,15,16,17,18,19,22,25,33,40,41,46,52,69,75,84,105,114,121,144,153,174,189,196] Px zp) (.cond (.t 138) .skip (.exit 3))) (.blk 4 (.seq (.seq (.reg [0,1,4,5,6,7,8,9,10,11,12,13,14,15,16,17,18,19,22,25,33,40,41,46,52,69,75,84,105,114,121,138,153,174,
 189,196] Pw zp) (.cond (.t 144) (.seq (.reg zp Pv zp) (.seq (.seq (.reg [0,1,4,5,6,7,8,9,10,11,12,13,14,15,16,17,18,19,22,25,33,40,41,46,52,69,75,84,105,114,121,138,144,174,189,196] Pu zp) (.cond (.t 153) (.exit 3) .skip)) (.reg zp Ps zp))) .skip)) (.seq (.seq (.reg [0,
 1,4,5,6,7,8,9,10,11,12,13,14,15,16,17,18,19,22,25,33,40,41,46,52,69,75,84,105,114,121,138,144,153,189,196] Pr zp) (.cond (.t 174) (.seq (.reg zp Pq zp) .ret) .skip)) (.seq (.reg zp Pp zp) (.seq (.reg zp Po zp) (.seq (.reg [0,
 1,4,5,6,7,8,9,10,11,12,13,14,15,16,17,18,19,22,25,33,40,41,46,52,69,75,84,105,114,121,138,144,153,174,196] Pn zp) (.cond (.t 189) (.seq (.reg zp Pm zp) (.seq (.seq (.reg [0,1,4,5,6,7,8,9,10,11,12,13,14,15,16,17,18,19,22,25,33,40,41,46,52,
 69,75,84,105,114,121,138,144,153,174,189] Pl zp) (.cond (.t 196) (.seq (.reg zp Pk zp) .ret) .skip)) (.seq (.reg zp Pj zp) .ret))) .skip)))))))))) (.seq (.reg zp Pi zp) .ret)))))))))
abbrev zcj :Nat:=41
theorem zdQ :qP Tryd.prog Tryd.f41.ntmps 2 [4] zp [(.tmp 4)] zcS zcj:=qT mix Tryd.func41 (by kernel_rfl) rfl
def vP :List zl:=[oO 6]
def vO :List zl:=[oM 8 0,oE 9 8,oM 10 1,oE 11 10,oD 12 .neq 9 11]
def vN :List zl:=[oO 6]
def vM :List zl:=[oI 7 0]
def vL :List zl:=[oM 13 7,oM 14 0,oE 15 14,oD 16 .lss 13 15]
def vK :ZP:=.take [9,10] (oM 19 2) (.take [3,4,9,10] (oM 20 0) (.take [3,4,9,10] (oM 21 7) (.take [4,9,10] (oX 22 20 21 1) (.take [9,10] (oL 23 22 1) (.take [7,8,9,10] (oM 24 1) (.take [7,8,9,10] (oM 25 7) (.take [8,9,10] (oX 26 24 25 1) (.take [9,10] (oL 27 26 1) (.one 9 (none,
 .call 28 (.t 19) [(.t 23,false),(.t 27,false)]) (.take [] (none,.r (.notb 29 (.t 28))) .done))))))))))
def vJ :List zl:=[oO 6]
def vI :List zl:=[oM 17 7,oB 18 .add 17 1,oS 7 18]
def vH :List zl:=[(none,.asg 6 (.c (.bool true)) true)]
def j9 :List Nat:=[0,1,2,6,7,12,16,29]
def zcR :zM:=.seq (.reg j9 vP j9) (.seq (.seq (.reg [0,1,2,6,7,16,29] vO j9) (.cond (.t 12) (.seq (.reg j9 vN j9) .ret) .skip)) (.seq (.seq (.reg j9 vM j9) (.blk 0 (.loop (.seq (.seq (.reg [0,
 1,2,6,7,12,29] vL j9) (.cond (.t 16) .skip (.exit 0))) (.seq (.blk 1 (.seq (.draw [0,1,2,6,7,12,16] vK j9) (.cond (.t 29) (.seq (.reg j9 vJ j9) .ret) .skip))) (.reg j9 vI j9)))))) (.seq (.reg j9 vH j9) .ret)))
abbrev zci :Nat:=46
theorem zdP :qP Tryd.prog Tryd.f46.ntmps 3 [6] j9 [(.tmp 6)] zcR zci:=qT mix Tryd.func46 (by kernel_rfl) rfl
def vG :List zl:=[oO 4]
def vF :List zl:=[oM 5 0,oM 6 1,oD 7 .eql 5 6,oS 4 7]
def xY :List Nat:=[0,1,4]
def zcQ :zM:=.seq (.reg xY vG xY) (.seq (.reg xY vF xY) .ret)
abbrev gP :Nat:=47
theorem zdO :qP Tryd.prog Tryd.f47.ntmps 2 [4] xY [(.tmp 4)] zcQ gP:=qT mix Tryd.func47 (by kernel_rfl) rfl
def vE :List zl:=[oO 6]
def vD :List zl:=[oM 8 0,oE 9 8,oM 10 1,oE 11 10,oD 12 .neq 9 11]
def vC :List zl:=[oO 6]
def vB :List zl:=[oI 7 0]
def vA :List zl:=[oM 13 7,oM 14 0,oE 15 14,oD 16 .lss 13 15]
def vz :ZP:=.take [9,10] (oM 19 2) (.take [3,4,9,10] (oM 20 0) (.take [3,4,9,10] (oM 21 7) (.take [4,9,10] (oX 22 20 21 1) (.take [9,10] (oL 23 22 1) (.take [7,8,9,10] (oM 24 1) (.take [7,8,9,10] (oM 25 7) (.take [8,9,10] (oX 26 24 25 1) (.take [9,10] (oL 27 26 1) (.one 9 (none,
 .call 28 (.t 19) [(.t 23,false),(.t 27,false)]) (.take [] (none,.r (.notb 29 (.t 28))) .done))))))))))
def vy :List zl:=[oO 6]
def vx :List zl:=[oM 17 7,oB 18 .add 17 1,oS 7 18]
def vv :List zl:=[(none,.asg 6 (.c (.bool true)) true)]
def j8 :List Nat:=[0,1,2,6,7,12,16,29]
def zcP :zM:=.seq (.reg j8 vE j8) (.seq (.seq (.reg [0,1,2,6,7,16,29] vD j8) (.cond (.t 12) (.seq (.reg j8 vC j8) .ret) .skip)) (.seq (.seq (.reg j8 vB j8) (.blk 0 (.loop (.seq (.seq (.reg [0,
 1,2,6,7,12,29] vA j8) (.cond (.t 16) .skip (.exit 0))) (.seq (.blk 1 (.seq (.draw [0,1,2,6,7,12,16] vz j8) (.cond (.t 29) (.seq (.reg j8 vy j8) .ret) .skip))) (.reg j8 vx j8)))))) (.seq (.reg j8 vv j8) .ret)))
abbrev zch :Nat:=48
theorem zdN :qP Tryd.prog Tryd.f48.ntmps 3 [6] j8 [(.tmp 6)] zcP zch:=qT mix Tryd.func48 (by kernel_rfl) rfl
def vu :List zl:=[oO 4]
def vt :List zl:=[oM 5 0,oM 6 1,oD 7 .eql 5 6,oS 4 7]
def xX :List Nat:=[0,1,4]
def zcO :zM:=.seq (.reg xX vu xX) (.seq (.reg xX vt xX) .ret)
abbrev gO :Nat:=49
theorem zdM :qP Tryd.prog Tryd.f49.ntmps 2 [4] xX [(.tmp 4)] zcO gO:=qT mix Tryd.func49 (by kernel_rfl) rfl
abbrev zeJ :Nat:=51
def vr :List zl:=[oI 4 0]
def vq :List zl:=[oM 5 0,oM 6 1,xH 7 64 5 6,oS 4 7]
def xW :List Nat:=[0,1,4]
def zcN :zM:=.seq (.reg xW vr xW) (.seq (.reg xW vq xW) .ret)
abbrev zcg :Nat:=52
theorem zdL :qP Tryd.prog Tryd.f52.ntmps 2 [4] xW [(.tmp 4)] zcN zcg:=qT mix Tryd.func52 (by kernel_rfl) rfl
abbrev zeI :Nat:=53
def vp :List zl:=[oI 4 0]
def vo :List zl:=[oM 14 1,(none,.r (.lenS 15 (.t 14))),oS 5 15]
def WO :List zl:=[oM 17 5,oB 18 .eql 17 0,oM 19 18,oK 19 false 20 1,oK 19 false 21 0,Xn 19 false 22 .eql 20 21,oQ 23 19 22,oS 16 23]
def vn :List zl:=[oI 4 0]
def vm :List zl:=[oM 25 5,oB 26 .eql 25 1,oS 24 26]
def vl :List zl:=[oM 27 0,oM 28 1,(none,.r (.idxS 29 (.t 28) (.c (.int .i64 0)))),xH 30 74 27 29,oS 4 30]
def zaB :List zl:=[oM 32 5,oM 33 0,(none,.r (.lenS 34 (.t 33))),oD 35 .geq 32 34,oS 31 35]
def zaA :List zl:=[(none,.asg 4 (.c (.int .i64 (- (0+1)))) true)]
def zaz :List zl:=[oM 37 5,(none,.bad (some 38)),oD 39 .leq 37 38,oM 40 39,oK 40 true 41 0,(some (40,true),.r (.lenS 42 (.t 41))),qV 40 true 43 .leq 42 64,oP 44 40 43,oS 36 44]
def zay :List zl:=[oM 45 0,oM 46 1,xH 47 75 45 46,oS 4 47]
def Ph :List zl:=[oM 48 1,(none,.r (.idxS 49 (.t 48) (.c (.int .i64 0)))),oS 6 49]
def Pg :List zl:=[oM 50 1,(none,.r (.idxS 51 (.t 50) (.c (.int .i64 1)))),oS 7 51]
def Pf :List zl:=[oI 8 0]
def Pe :List zl:=[oM 52 0,(none,.r (.lenS 53 (.t 52))),oM 54 5,oD 55 .sub 53 54,oB 56 .add 55 1,oS 9 56]
def Pd :List zl:=[oI 10 0]
def Pc :List zl:=[oM 57 8,oM 58 9,oD 59 .lss 57 58]
def Pb :List zl:=[oM 60 0,oM 61 8,(none,.r (.idxS 62 (.t 60) (.t 61))),oM 63 6,oD 64 .neq 62 63]
def Pa :List zl:=[oM 65 0,oM 66 8,oB 67 .add 66 1,oM 68 9,(none,.r (.slc 69 (.t 65) (some (.t 67)) (some (.t 68)) 0)),oM 70 6,xH 71 74 69 70,oS 11 71]
def p9 :List zl:=[oM 72 11,oB 73 .lss 72 0]
def p8 :List zl:=[(none,.asg 4 (.c (.int .i64 (- (0+1)))) true)]
def p7 :List zl:=[oM 74 8,oM 75 11,oB 76 .add 75 1,oD 77 .add 74 76,oS 8 77]
def p6 :List zl:=[oM 78 0,oM 79 8,oB 80 .add 79 1,(none,.r (.idxS 81 (.t 78) (.t 80))),oM 82 7,oD 83 .eql 81 82,oM 84 83,oK 84 true 85 0,oK 84 true 86 8,oK 84 true 87 8,oK 84 true 88 5,Xn 84 true 89 .add 87 88,(some (84,true),.r (.slc 90 (.t 85) (some (.t 86)) (some (.t 89)) 0)),
 oK 84 true 91 1,Xn 84 true 92 .eql 90 91,oP 93 84 92]
def p5 :List zl:=[oM 94 8,oS 4 94]
def p4 :List zl:=[oM 95 8,oB 96 .add 95 1,oS 8 96]
def p3 :List zl:=[oM 97 10,oB 98 .add 97 1,oS 10 98]
def pZ :List zl:=[oM 99 5,(none,.bad (some 100)),oD 101 .leq 99 100,oM 102 101,oK 102 true 103 10,oK 102 true 104 8,(some (102,true),.call 105 (.f 56) [(.t 104,false)]),Xn 102 true 106 .gtr 103 105,oP 107 102 106]
def pY :List zl:=[oM 108 0,oM 109 8,(none,.r (.slc 110 (.t 108) (some (.t 109)) none 0)),oM 111 1,xH 112 75 110 111,oS 12 112]
def pX :List zl:=[oM 113 12,oB 114 .geq 113 0]
def pW :List zl:=[oM 115 12,oM 116 8,oD 117 .add 115 116,oS 4 117]
def pV :List zl:=[(none,.asg 4 (.c (.int .i64 (- (0+1)))) true)]
def pU :List zl:=[oM 118 5,(none,.bad (some 119)),oD 120 .gtr 118 119,oM 121 120,oK 121 true 122 10,oK 121 true 123 8,(some (121,true),.r (.bin 124 .shr 0 (.t 123) (.c (.int .u64 4)))),(some (121,true),.r (.bin 125 .add 0 (.c (.int .i64 4)) (.t 124))),Xn 121 true 126 .geq 122 125,
 oP 127 121 126,oM 128 127,oK 128 true 129 8,oK 128 true 130 9,Xn 128 true 131 .lss 129 130,oP 132 128 131]
def pT :List zl:=[oM 133 0,oM 134 8,(none,.r (.slc 135 (.t 133) (some (.t 134)) none 0)),oM 136 1,xH 137 76 135 136,oS 13 137]
def pS :List zl:=[oM 138 13,oB 139 .lss 138 0]
def pR :List zl:=[(none,.asg 4 (.c (.int .i64 (- (0+1)))) true)]
def pQ :List zl:=[oM 140 8,oM 141 13,oD 142 .add 140 141,oS 4 142]
def pP :List zl:=[(none,.asg 4 (.c (.int .i64 (- (0+1)))) true)]
def zF :List Nat:=[0,1,4,5,6,7,8,9,10,11,12,13,16,24,31,36,59,64,73,93,107,114,132,139]
def zcM :zM:=.seq (.reg zF vp zF) (.seq (.reg zF vo zF) (.seq (.blk 0 (.seq (.reg zF WO zF) (.cond (.t 16) (.seq (.reg zF vn zF) .ret) (.seq (.reg zF vm zF) (.cond (.t 24) (.seq (.reg zF vl zF) .ret) (.seq (.reg zF zaB zF) (.cond (.t 31) (.seq (.reg zF zaA zF) .ret) (.seq (.reg zF zaz zF) (.cond (.t 36) (.seq (.reg zF zay zF) .ret) .skip))))))))) (.seq (.reg zF Ph zF) (.seq (.reg zF Pg zF) (.seq (.reg zF Pf zF) (.seq (.reg zF Pe zF) (.seq (.reg zF Pd zF) (.seq (.blk 1 (.loop (.seq (.seq (.reg [0,
 1,4,5,6,7,8,9,10,11,12,13,16,24,31,36,64,73,93,107,114,132,139] Pc zF) (.cond (.t 59) .skip (.exit 1))) (.blk 2 (.seq (.seq (.reg [0,1,4,5,6,7,8,9,10,11,12,13,16,24,31,36,59,73,93,107,114,132,139] Pb zF) (.cond (.t 64) (.seq (.reg zF Pa zF) (.seq (.seq (.reg [0,
 1,4,5,6,7,8,9,10,11,12,13,16,24,31,36,59,64,93,107,114,132,139] p9 zF) (.cond (.t 73) (.seq (.reg zF p8 zF) .ret) .skip)) (.reg zF p7 zF))) .skip)) (.seq (.seq (.reg [0,
 1,4,5,6,7,8,9,10,11,12,13,16,24,31,36,59,64,73,107,114,132,139] p6 zF) (.cond (.t 93) (.seq (.reg zF p5 zF) .ret) .skip)) (.seq (.reg zF p4 zF) (.seq (.reg zF p3 zF) (.seq (.reg [0,
 1,4,5,6,7,8,9,10,11,12,13,16,24,31,36,59,64,73,93,114,132,139] pZ zF) (.cond (.t 107) (.seq (.reg zF pY zF) (.seq (.seq (.reg [0,1,4,5,6,7,8,9,10,11,12,13,16,24,31,
 36,59,64,73,93,107,132,139] pX zF) (.cond (.t 114) (.seq (.reg zF pW zF) .ret) .skip)) (.seq (.reg zF pV zF) .ret))) (.seq (.reg [0,
 1,4,5,6,7,8,9,10,11,12,13,16,24,31,36,59,64,73,93,107,114,139] pU zF) (.cond (.t 132) (.seq (.reg zF pT zF) (.seq (.seq (.reg [0,1,4,5,6,7,8,9,10,11,12,13,16,24,31,
 36,59,64,73,93,107,114,132] pS zF) (.cond (.t 139) (.seq (.reg zF pR zF) .ret) .skip)) (.seq (.reg zF pQ zF) .ret))) .skip)))))))))))) (.seq (.reg zF pP zF) .ret)))))))))
abbrev zcf :Nat:=64
theorem zdK :qP Tryd.prog Tryd.f64.ntmps 2 [4] zF [(.tmp 4)] zcM zcf:=qT mix Tryd.func64 (by kernel_rfl) rfl
abbrev zeH :Nat:=74
end Go.Proofs.YtneiihheeghdcaaDoor

namespace Go.Proofs
open Go.Shelf
def Tryd.lays217_ren :Go.Shelf.Ren:=⟨fun|217=>74|266=>82|n=>n,fun|9=>9|5=>5|3=>3|n=>n,fun|n=>n⟩
theorem Tryd.lays217 :Go.Proofs.Lays.n217 Tryd.prog Tryd.lays217_ren:={
 mixed:=by kernel_rfl
 f217:=Tryd.func74.trans (congrArg some (by kernel_rfl))
 f266:=Tryd.func82.trans (congrArg some (by kernel_rfl))
 t3:=Tryd.underlying3
 a3:=Tryd.isAgg3
 z3:=Tryd.sizeOf3
 v3:=Tryd.zeroValue3
 t5:=Tryd.underlying5
 a5:=Tryd.isAgg5
 z5:=Tryd.sizeOf5
 v5:=Tryd.zeroValue5
 t9:=Tryd.underlying9
 a9:=Tryd.isAgg9
 z9:=Tryd.sizeOf9
 v9:=Tryd.zeroValue9}
open Go.RowKit Go.Lib in
theorem Tryd.stringslite_IndexByte (s:ByteArray)(c:Int)(w:World):
 Calls Tryd.prog 74 #[.string s,.int .u8 c] w fun e w'=>e= .returned (.int .i64 (Lib.indexByte s.data.toList c.toNat.toUInt8))∧w'=w:=Any.stringslite_IndexByte Tryd.lays217 s c w
def Tryd.lays138_ren :Go.Shelf.Ren:=⟨fun|138=>51|195=>61|218=>63|143=>52|219=>64|217=>74|225=>75|224=>56|267=>76|266=>82|314=>83|n=>n,fun|9=>9|3=>3|4=>4|5=>5|0=>0|46=>22|146=>98|51=>97|n=>n,fun|1=>0|n=>n⟩
theorem Tryd.lays138 :Go.Proofs.Lays.n138 Tryd.prog Tryd.lays138_ren:={
 mixed:=by kernel_rfl
 f138:=Tryd.func51.trans (congrArg some (by kernel_rfl))
 f143:=Tryd.func52.trans (congrArg some (by kernel_rfl))
 f195:=Tryd.func61.trans (congrArg some (by kernel_rfl))
 f217:=Tryd.func74.trans (congrArg some (by kernel_rfl))
 f218:=Tryd.func63.trans (congrArg some (by kernel_rfl))
 f219:=Tryd.func64.trans (congrArg some (by kernel_rfl))
 f224:=Tryd.func56.trans (congrArg some (by kernel_rfl))
 f225:=Tryd.func75.trans (congrArg some (by kernel_rfl))
 f266:=Tryd.func82.trans (congrArg some (by kernel_rfl))
 f267:=Tryd.func76.trans (congrArg some (by kernel_rfl))
 f314:=Tryd.func83.trans (congrArg some (by kernel_rfl))
 t0:=Tryd.underlying0
 a0:=Tryd.isAgg0
 z0:=Tryd.sizeOf0
 v0:=Tryd.zeroValue0
 t3:=Tryd.underlying3
 a3:=Tryd.isAgg3
 z3:=Tryd.sizeOf3
 v3:=Tryd.zeroValue3
 t4:=Tryd.underlying4
 a4:=Tryd.isAgg4
 z4:=Tryd.sizeOf4
 v4:=Tryd.zeroValue4
 t5:=Tryd.underlying5
 a5:=Tryd.isAgg5
 z5:=Tryd.sizeOf5
 v5:=Tryd.zeroValue5
 t9:=Tryd.underlying9
 a9:=Tryd.isAgg9
 z9:=Tryd.sizeOf9
 v9:=Tryd.zeroValue9
 t46:=Tryd.underlying22
 a46:=Tryd.isAgg22
 z46:=Tryd.sizeOf22
 v46:=Tryd.zeroValue22
 t51:=Tryd.underlying97
 a51:=Tryd.isAgg97
 z51:=Tryd.sizeOf97
 v51:=Tryd.zeroValue97
 t146:=Tryd.underlying98
 a146:=Tryd.isAgg98
 z146:=Tryd.sizeOf98
 v146:=Tryd.zeroValue98
 g1:=by kernel_rfl}
theorem Tryd.strings_Count_one (s:ByteArray)(c:UInt8)(w:World):
 Calls Tryd.prog 51 #[.string s,.string ⟨#[c]⟩] w fun e w'=>e= .returned (.int .i64 (Lib.countByte s.data.toList c))∧w'=w:=Any.strings_Count_one Tryd.lays138 s c w
def Tryd.lays187_ren :Go.Shelf.Ren:=⟨fun|187=>53|255=>65|n=>n,fun|37=>34|5=>5|3=>3|n=>n,fun|n=>n⟩
theorem Tryd.lays187 :Go.Proofs.Lays.n187 Tryd.prog Tryd.lays187_ren:={
 mixed:=by kernel_rfl
 f187:=Tryd.func53.trans (congrArg some (by kernel_rfl))
 f255:=Tryd.func65.trans (congrArg some (by kernel_rfl))
 t3:=Tryd.underlying3
 a3:=Tryd.isAgg3
 z3:=Tryd.sizeOf3
 v3:=Tryd.zeroValue3
 t5:=Tryd.underlying5
 a5:=Tryd.isAgg5
 z5:=Tryd.sizeOf5
 v5:=Tryd.zeroValue5
 t37:=Tryd.underlying34
 a37:=Tryd.isAgg34
 z37:=Tryd.sizeOf34
 v37:=Tryd.zeroValue34}
theorem Tryd.bytes_IndexByte_at (a:Addr)(n c:Nat)(xs:List Int)(cv:Int)(w:World)(hx:xs.length=n)(hc:∀i,i<n→w.cell? (a.add i)=some (.int .u8 (xs.getD i 0))):
 Calls Tryd.prog 53 #[.slice (some a) n c,.int .u8 cv] w fun e w'=>e= .returned (.int .i64 (Lib.indexByte (Lib.bytesOf xs) cv.toNat.toUInt8))∧w'=w:=Any.bytes_IndexByte_at Tryd.lays187 a n c xs cv w hx hc
end Go.Proofs

namespace Go.Ga.Gl
open Go Go.Ga
def Zt (l:List UInt8):ByteArray:=⟨l.toArray⟩
theorem o0 (s:ByteArray):Zt s.data.toList=s:=by cases s;simp[Zt]
theorem Z8 (l:List UInt8):(Zt l).data.toList=l:=by simp[Zt]
theorem Ur (l:List UInt8):(Zt l).size=l.length:=by simp[Zt,ByteArray.size]
theorem zbk (a b:List UInt8):Zt a++Zt b=Zt (a++b):=by
 apply ByteArray.ext
 simp[Zt]
theorem zbj (l:List UInt8)(a b:Nat):(Zt l).extract a b=Zt ((l.take b).drop a):=by
 apply ByteArray.ext
 apply Array.ext'
 simp[Zt,List.extract_eq_take_drop,List.drop_take]
theorem zdv (l:List UInt8)(k:Nat):(Zt l).data.getD k 0=l.getD k 0:=by
 simp[Zt]
theorem wd (s:ByteArray):∀(n i:Nat) (r:List UInt8),s.size - i=n→ByteArray.toList.loop s i r=r.reverse++s.data.toList.drop i
 | 0,i,r,h=>by
   unfold ByteArray.toList.loop
   rw[if_neg (by omega),List.drop_eq_nil_of_le (by show s.data.toList.length≤i;rw[Array.length_toList];show s.size≤i;omega),List.append_nil]
 | n+1,i,r,h=>by
   have hi:i<s.data.toList.length:=by rw[Array.length_toList];show i<s.size;omega
   unfold ByteArray.toList.loop
   rw[if_pos (by omega),wd s n (i+1) _ (by omega),List.drop_eq_getElem_cons hi]
   have e:s.get! i=s.data.toList[i]:=by
    have h2:i<s.data.size:=by simpa using hi
    show s.data[i]! =_
    rw[getElem!_pos s.data i h2];simp
   rw[e];simp
theorem Gx (s:ByteArray):s.toList=s.data.toList:=by
 unfold ByteArray.toList
 rw[wd s s.size 0 [] (by omega)];simp
theorem wU (l:List UInt8):(Zt l).toList=l:=by rw[Gx,Z8]
def zx (c:UInt8):List UInt8→List (List UInt8)
 |[]=>[[]]
 | b::r=>if b=c then []::zx c r else match zx c r with
   |p::ps=>(b::p)::ps
   |[]=>[[b]]
theorem Z9 (c b:UInt8)(r:List UInt8):zx c (b::r)=if b=c then []::zx c r else match zx c r with
 |p::ps=>(b::p)::ps
 |[]=>[[b]]:=rfl
theorem wo (b:UInt8)(l:List UInt8)(c:UInt8):Lib.indexByte (b::l) c=if b==c then 0 else if Lib.indexByte l c== -1 then -1 else Lib.indexByte l c+1:=rfl
theorem ji (c:UInt8):∀l,zx c l≠ []
 |[]=>by simp[zx]
 | b::r=>by
   unfold zx
   split
   · simp
   · split<;>simp
theorem jY (c:UInt8):∀l,(zx c l).length=l.count c+1
 |[]=>rfl
 | b ::r=>by
   unfold zx
   have ih:=jY c r
   by_cases h:b=c
   · rw[if_pos h,List.length_cons,ih,h,List.count_cons_self]
   · rw[if_neg h,List.count_cons_of_ne h]
     have hne:=ji c r
     cases hs:zx c r with
     |nil=>exact absurd hs hne
     |cons p ps=>rw[hs] at ih;exact ih
theorem jj (c:UInt8)(l:List UInt8):l.count c≤l.length:=List.count_le_length
theorem yh (c:UInt8):∀l:List UInt8,∀w∈zx c l,w.length≤l.length
 | [],w,h=>by
   simp[zx] at h;subst h;simp
 | b ::r,w,h=>by
   rw[Z9] at h
   have ih:=yh c r
   split at h
   · rcases List.mem_cons.1 h with rfl|h
     · simp
     · have:=ih w h;simp;omega
   · cases hs:zx c r with
     |nil=>exact absurd hs (ji c r)
     | cons p ps=>
       rw[hs] at h ih
       rcases List.mem_cons.1 h with rfl|h
       · have:=ih p (.head _);simp;omega
       · have:=ih w (.tail _ h);simp;omega
theorem JQ {c:UInt8}:∀{l:List UInt8},l.count c=0→zx c l=[l]
 |[],_=>rfl
 | b::r,h=>by
   have hb:b≠c:=fun e=>by rw[e,List.count_cons_self] at h;omega
   rw[List.count_cons_of_ne hb] at h
   unfold zx
   rw[if_neg hb,JQ h]
theorem gc {c:UInt8}:∀{l:List UInt8},0<l.count c→∃m:Nat,Lib.indexByte l c=(m:Int)∧m<l.length∧zx c l=l.take m::zx c (l.drop (m+1))∧(l.drop (m+1)).count c+1=l.count c
 |[],h=>by simp at h
 | b ::r,h=>by
   rw[wo,Z9]
   by_cases hb:b=c
   · subst hb
     exact⟨0,by simp,by simp,by simp,by simp⟩
   · rw[List.count_cons_of_ne hb] at h
     obtain⟨m,h1,h2,h3,h4⟩:=gc h
     have hbe:(b==c)=false:=by simpa using hb
     refine⟨m+1,?_,by simp;omega,?_,?_⟩
     · rw[hbe,h1]
       have:((m:Int)== -1)=false:=by simp
       simp[this]
     · rw[if_neg hb,h3];simp
     · rw[List.count_cons_of_ne hb];simpa using h4
def Zk (ps:List (List UInt8)):List zb:=ps.map fun p=> .sc (.string (Zt p))
theorem zK (ps:List (List UInt8)):(Zk ps).length=ps.length:=by simp[Zk]
theorem Qb {ps:List (List UInt8)}{k:Nat}{p:List UInt8}(h:ps[k]?=some p):(Zk ps)[k]?=some (.sc (.string (Zt p))):=by simp[Zk,h]
theorem Up (ps:List (List UInt8))(k:Nat)(p:List UInt8):(Zk ps).set k (.sc (.string (Zt p)))=Zk (ps.set k p):=by simp[Zk,List.map_set]
theorem jX (ps:List (List UInt8))(p:List UInt8):Zk ps++[.sc (.string (Zt p))]=Zk (ps++[p]):=by simp[Zk]
theorem oV (ps:List (List UInt8))(a b:Nat):Zd (Zk ps) 1 a b=Zk ((ps.drop a).take (b - a)):=by simp[Zd,Zk,List.map_take,List.map_drop]
theorem yg (ps:List (List UInt8)):zb.plainL (Zk ps)=true:=(j5 (fun p=> .string (Zt p)) ps).1
theorem GB (ps:List (List UInt8)):zb.flatL (Zk ps)=true:=(j5 (fun p=> .string (Zt p)) ps).2
theorem wg :∀ps:List (List UInt8),zb.cellOkL (Zk ps)=true
 |[]=>rfl
 | p::ps=>by
   have:=wg ps
   simpa[Zk,zb.cellOkL,zb.cellOk] using this
theorem Q5 (ps:List (List UInt8)):zb.copyableL (Zk ps)=true:=plain_copyableL _ (yg ps)
theorem Uq (ps:List (List UInt8)):zb.freezeL (Zk ps)=Zk ps:=copyable_freezeL _ (Q5 ps)
theorem Xf (ps:List (List UInt8)):zb.ids0L (Zk ps)=true:=plain_ids0L _ (yg ps)
theorem oU (g:Nat→Option Nat)(ps:List (List UInt8)):zb.renL g (Zk ps)=Zk ps:=ids0_renL g _ (Xf ps)
theorem GA (n:Nat):zu [.string (Zt [])] n=Zk (List.replicate n []):=by
 simp only[zu,List.map]
 induction n with
 |zero=>rfl
 |succ n ih=>simp only[List.replicate_succ,List.flatten_cons,ih];rfl
theorem K3 (l:List UInt8):ByteArray.mk l.toArray=Zt l:=rfl
theorem zbi (a b:List UInt8):jo .eql (Zt a) (Zt b)=some (.bool (decide (a=b))):=by
 unfold jo
 simp only[wU]
theorem zbh (a b:List UInt8):jo .neq (Zt a) (Zt b)=some (.bool (!decide (a=b))):=by
 unfold jo
 simp only[wU]
theorem zbl (a b:List UInt8):jo .add (Zt a) (Zt b)=if a.length+b.length≤9223372036854775807 then some (.string (Zt (a++b))) else none:=by
 unfold jo
 simp only[Ur,zbk]
theorem qz {a b:List UInt8}(h:a.length+b.length≤1000000000000):jo .add (Zt a) (Zt b)=some (.string (Zt (a++b))):=by
 rw[zbl,if_pos (by omega)]
attribute [go_sem] Z8 K3 zbi zbh Ur zdv zbj zK yg GB wg Q5 Uq Xf oU
def yZ :List (List UInt8×Int):=[([],0),([118,101,114,116,105,99,101,115],1),([97,100,100],2),([114,101,109,111,118,101],2),([103,114,111,119],0),([99,117,116],1),([109,97,116,99,104],1),([103,97,108,108,97,105],0),([98,97,114,114,105,101,114],0),([115,105,100,101,115],0),([98,108,111,99,107,115],0),([102,97,99,116,111,114], -1),([99,111,118,101,114],0),([99,108,97,115,115,105,102,121],0),([116,101,108,108],0)]
def xJ (x:List UInt8×Int):List zb:=[.sc (.string (Zt x.1)),.sc (.int .i64 x.2)]
theorem yW (x:List UInt8×Int):(xJ x).length=2:=rfl
def qK (b:UInt8):Bool:=decide (48≤b.toNat)&&decide (b.toNat≤57)
def val (w:List UInt8):Nat:=w.foldl (fun n b=>10*n+(b.toNat - 48)) 0
theorem J8 (w:List UInt8)(b:UInt8):val (w++[b])=10*val w+(b.toNat - 48):=by simp[val]
theorem uw :∀w:List UInt8,w.all qK=true→val w<10^w.length:=by
 intro w
 induction hn:w.length generalizing w with
 | zero=>
   intro _
   have:w=[]:=List.length_eq_zero_iff.1 hn
   subst this;decide
 | succ n ih=>
   intro h
   have hne:w≠ []:=by intro e;rw[e] at hn;simp at hn
   obtain⟨v,b,rfl⟩:∃v b,w=v++[b]:=⟨w.dropLast,w.getLast hne,(List.dropLast_concat_getLast hne).symm⟩
   rw[List.all_append,Bool.and_eq_true] at h
   have hv:=ih v (by simp at hn;exact hn) h.1
   have hb:qK b=true:=by simpa using h.2
   unfold qK at hb
   rw[Bool.and_eq_true,decide_eq_true_iff,decide_eq_true_iff] at hb
   rw[J8,Nat.pow_succ]
   omega
def ZX (w:List UInt8):Option Nat:=if w.length<1∨9<w.length∨(1<w.length∧w.getD 0 0=48)∨w.all qK=false then none else some (val w)
def Zc :List (List UInt8)→Option (List Nat)
 |[]=>some []
 | w::ws=>match ZX w with
   |none=>none
   |some n=>(Zc ws).map (n:: ·)
def hit (p:List UInt8)(x:List UInt8×Int):Bool:=decide (x.1≠ [])&&decide (x.1=p)
structure yB where
 kind:Nat
 a:Nat
 b:Nat
 list:List Nat
def Zf (l:List UInt8):yB×Int:=
 if 65536<l.length then(⟨0,0,0,[]⟩,8) else
 match yZ.findIdx? (hit ((zx 32 l).headD [])) with
 |none=>(⟨0,0,0,[]⟩,15)
 | some k=>
   if 0≤(yZ.getD k ([],0)).2∧((zx 32 l).length:Int)≠(yZ.getD k ([],0)).2+1 then(⟨0,0,0,[]⟩,15) else
   match Zc (zx 32 l).tail with
   |none=>(⟨0,0,0,[]⟩,15)
   | some ns=>
     if(yZ.getD k ([],0)).2<0 then(⟨k,0,0,ns⟩,0) else
     if k=6∧ns.getD 0 0≠1∧ns.getD 0 0≠2 then(⟨0,0,0,[]⟩,15) else(⟨k,ns.getD 0 0,ns.getD 1 0,[]⟩,0)
def yB.cells (c:yB):List zb:=[.sc (.int .i64 (c.kind:Int)),.sc (.int .i64 (c.a:Int)),.sc (.int .i64 (c.b:Int)),.imm 1 (Z6 c.list)]
theorem Jp (l xs:List zb)(h:l.length=xs.length):zT l 0 xs=xs:=by
 rcases xs with _|⟨A,_|⟨B,r⟩⟩
 · rw[List.length_eq_zero_iff.1 (show l.length=0 from h)];rfl
 · obtain⟨x,rfl⟩:=List.length_eq_one_iff.1 (show l.length=1 from h)
   rfl
 · show(l.take 0++(A::B::r))++l.drop (0+(A::B::r).length)=_
   rw[Nat.zero_add,List.drop_eq_nil_of_le (by omega)];simp
theorem YD (fs:List (List UInt8×Int)):zb.plainL (Ze xJ fs)=true:=JV (fun _=>rfl) fs
theorem zan (fs:List (List UInt8×Int)):zb.flatL (Ze xJ fs)=true:=qF (fun _=>rfl) fs
theorem gj (fs:List (List UInt8×Int)):zb.cellOkL (Ze xJ fs)=true:=Jq (fun _=>rfl) fs
theorem yX (fs:List (List UInt8×Int)):zb.copyableL (Ze xJ fs)=true:=plain_copyableL _ (YD fs)
theorem gi (fs:List (List UInt8×Int)):zb.freezeL (Ze xJ fs)=Ze xJ fs:=copyable_freezeL _ (yX fs)
theorem U5 (fs:List (List UInt8×Int)):zb.ids0L (Ze xJ fs)=true:=plain_ids0L _ (YD fs)
theorem zbN (g:Nat→Option Nat)(fs:List (List UInt8×Int)):zb.renL g (Ze xJ fs)=Ze xJ fs:=ids0_renL g _ (U5 fs)
theorem jH :∀(a b:List (List UInt8)),Zc (a++b)=(Zc a).bind fun x=>(Zc b).map (x++ ·)
 |[],b=>by simp[Zc]
 | w::a,b=>by
   show(match ZX w with|none=>none|some n=>(Zc (a++b)).map (n:: ·))=(match ZX w with|none=>none|some n=>(Zc a).map (n:: ·)).bind _
   rw[jH a b]
   cases ZX w with
   |none=>rfl
   |some n=>cases Zc a<;>cases Zc b<;>rfl
theorem qG {a b:List (List UInt8)}{w:List UInt8}(h:ZX w=none):Zc (a++w::b)=none:=by
 rw[jH]
 cases Zc a with
 |none=>rfl
 |some x=>show(match ZX w with|none=>none|some n=>(Zc b).map (n:: ·)).map _=none;rw[h];rfl
attribute [go_sem] Int.reduceToNat Jp List.length_cons List.length_nil YD zan gj yX gi U5 zbN yW
def Zw (n:Nat):List UInt8:=if n<10 then [UInt8.ofNat (48+n)] else Zw (n / 10)++[UInt8.ofNat (48+n%10)]
termination_by n
decreasing_by omega
theorem Js {n:Nat}(h:n<10):Zw n=[UInt8.ofNat (48+n)]:=by rw[Zw,if_pos h]
theorem Jt {n:Nat}(h:¬n<10):Zw n=Zw (n / 10)++[UInt8.ofNat (48+n%10)]:=by rw[Zw,if_neg h]
theorem dg (k:Nat)(h:k<10):(UInt8.ofNat (48+k)).toNat=48+k:=by simp;omega
theorem vb (n:Nat):(Zw n).all qK=true:=by
 induction n using Nat.strongRecOn with
 | _ n ih=>
   by_cases h:n<10
   · rw[Js h]
     simp only[List.all_cons,List.all_nil,Bool.and_true,qK,dg n h]
     simp;omega
   · rw[Jt h,List.all_append,ih _ (by omega)]
     have:=dg (n%10) (by omega)
     simp only[List.all_cons,List.all_nil,Bool.and_true,Bool.true_and,qK,this]
     simp;omega
theorem zas (n:Nat):val (Zw n)=n:=by
 induction n using Nat.strongRecOn with
 | _ n ih=>
   by_cases h:n<10
   · rw[Js h]
     show 10*0+((UInt8.ofNat (48+n)).toNat - 48)=n
     rw[dg n h];omega
   · rw[Jt h,J8,ih _ (by omega),dg (n%10) (by omega)];omega
theorem Qr (n:Nat):∀k,(Zw n).length≤k+1↔n<10^(k+1):=by
 induction n using Nat.strongRecOn with
 | _ n ih=>
   intro k
   by_cases h:n<10
   · rw[Js h]
     have:10^1≤10^(k+1):=Nat.pow_le_pow_right (by omega) (by omega)
     simp;omega
   · rw [Jt h,List.length_append]
     cases k with
     | zero=>
       have h2:1≤(Zw (n / 10)).length:=by
        by_cases h3:n / 10<10
        · rw[Js h3];simp
        · rw[Jt h3];simp
       rw[show(10:Nat)^(0+1)=10 from rfl]
       simp only[List.length_cons,List.length_nil]
       omega
     | succ k=>
       have:=ih (n / 10) (by omega) k
       rw[Nat.pow_succ]
       simp only[List.length_cons,List.length_nil]
       omega
theorem U9 (n:Nat):1≤(Zw n).length:=by
 by_cases h3:n<10
 · rw[Js h3];simp
 · rw[Jt h3];simp
theorem pG (n:Nat)(h:1≤n):(Zw n).getD 0 0≠48:=by
 induction n using Nat.strongRecOn with
 | _ n ih=>
   by_cases h3:n<10
   · rw[Js h3]
     intro e
     have:=congrArg UInt8.toNat (show UInt8.ofNat (48+n)=48 from e)
     rw[dg n h3] at this
     have h48:(48:UInt8).toNat=48:=rfl
     omega
   · rw[Jt h3]
     have hp:=U9 (n / 10)
     have:=ih (n / 10) (by omega) (by omega)
     rw[List.getD_eq_getElem?_getD,List.getElem?_append_left hp]
     rwa [List.getD_eq_getElem?_getD] at this
theorem OV (n:Nat):ZX (Zw n)=if n<1000000000 then some n else none:=by
 have h1:=U9 n
 have h2:=Qr n 8
 unfold ZX
 by_cases h:n<1000000000
 · rw[if_pos h,if_neg,zas]
   rintro(h3|h3|⟨h3,h4⟩|h3)
   · omega
   · omega
   · have h5:=Qr n 0
     exact pG n (by omega) h4
   · rw[vb] at h3;cases h3
 · rw[if_neg h,if_pos]
   refine .inr (.inl ?_)
   omega
theorem zar {b:UInt8}(h:qK b=true):b≠32:=by
 intro e;subst e;revert h;decide
theorem Y7 (l:List UInt8):zb.plainL (ZG l)=true:=(j5 (fun b:UInt8=> .int .u8 (b.toNat:Int)) l).1
theorem zaP (l:List UInt8):zb.flatL (ZG l)=true:=(j5 (fun b:UInt8=> .int .u8 (b.toNat:Int)) l).2
theorem xr :∀l:List UInt8,zb.cellOkL (ZG l)=true
 |[]=>rfl
 | b::l=>by
   have:=xr l
   simpa[ZG,zb.cellOkL,zb.cellOk] using this
theorem Yj (l:List UInt8):zb.copyableL (ZG l)=true:=plain_copyableL _ (Y7 l)
theorem yw (l:List UInt8):zb.freezeL (ZG l)=ZG l:=copyable_freezeL _ (Yj l)
theorem Kj (l:List UInt8):zb.ids0L (ZG l)=true:=plain_ids0L _ (Y7 l)
theorem zb0 (g:Nat→Option Nat)(l:List UInt8):zb.renL g (ZG l)=ZG l:=ids0_renL g _ (Kj l)
theorem zab (l:List zb):(zb.tup l).ids0=zb.ids0L l:=by simp only[zb.ids0]
theorem pB (A:zb)(l:List zb):zb.ids0L (A::l)=(A.ids0&&zb.ids0L l):=by simp only[zb.ids0L]
theorem zac (s:Nat)(l:List zb):(zb.imm s l).ids0=zb.ids0L l:=by simp only[zb.ids0]
attribute [go_sem] zab pB zac zU Y7 zaP xr Yj yw Kj zb0
def qW (l:List UInt8):List (List UInt8):=if(zx 10 l).getLast?=some [] then(zx 10 l).dropLast else zx 10 l
theorem Kk :qW []=[]:=by decide
theorem zaW {l:List UInt8}(h:l.count 10=0)(hl:l≠ []):qW l=[l]:=by
 unfold qW
 rw[JQ h,if_neg]
 simpa using hl
theorem om {l:List UInt8}{m:Nat}(h:zx 10 l=l.take m::zx 10 (l.drop (m+1))):qW l=l.take m::qW (l.drop (m+1)):=by
 unfold qW
 have hne:=ji 10 (l.drop (m+1))
 rw[h]
 generalize zx 10 (l.drop (m+1))=q at hne
 obtain⟨x,r,rfl⟩:∃x r,q=x::r:=by
  cases q with
  |nil=>exact absurd rfl hne
  |cons x r=>exact⟨x,r,rfl⟩
 rw[List.getLast?_cons_cons]
 split<;>simp[List.dropLast]
theorem zaa {l:List UInt8}{c:UInt8}:l.count c=0→Lib.indexByte l c= -1:=by
 induction l with
 |nil=>intro _;rfl
 | cons b r ih=>
   intro h
   have hb:b≠c:=fun e=>by rw[e,List.count_cons_self] at h;omega
   rw[List.count_cons_of_ne hb] at h
   have hbe:(b==c)=false:=by simpa using hb
   rw[wo,hbe,ih h];rfl
end Go.Ga.Gl
set_option maxRecDepth 100000
set_option maxHeartbeats 4000000
namespace Go.Proofs.YtneiihheeghdcaaDoor
open Go Go.Ga Go.Ga.Gl
theorem u5 (l:List UInt8):Lib.bytesOf (l.map fun b=>(b.toNat:Int))=l:=by
 unfold Lib.bytesOf
 rw[List.map_map]
 refine(List.map_congr_left fun b _=>?_).trans (List.map_id l)
 show UInt8.ofNat ((b.toNat:Int)).toNat=b
 rw[Int.toNat_natCast,UInt8.ofNat_toNat]
theorem zb1 (l:List UInt8)(c:Int):zn Tryd.prog [] zeI [.imm 1 (ZG l),.sc (.int .u8 c)] [] fun r h'=>r= .sc (.int .i64 (Lib.indexByte l c.toNat.toUInt8))∧h'=[]:=by
 refine Ua (by kernel_rfl) (fun a cap w hc=>?_) fun h w=>?_
 · have:=Tryd.bytes_IndexByte_at a l.length cap (l.map fun b=>(b.toNat:Int)) c w (by simp) (fun i hi=>by
    rw[hc i hi,List.getD_eq_getElem?_getD,List.getD_eq_getElem?_getD,List.getElem?_map,List.getElem?_eq_getElem hi];rfl)
   rw[u5] at this
   exact this
 · subst h
   exact Any.bytes_IndexByte_nil Tryd.lays187 c w
theorem Gm (l:List UInt8)(a b:Nat):Zd (ZG l) 1 a b=ZG ((l.drop a).take (b - a)):=by simp[Zd,ZG,List.map_take,List.map_drop]
theorem up (l:List UInt8):zn Tryd.prog [] zcj [.imm 1 (ZG l),.imm 1 (ZG [10])] [] fun r h'=>r= .sc (.int .i64 (Lib.indexByte l 10))∧h'=[]:=by
 have e1:ZG [10]=[.sc (.int .u8 10)]:=rfl
 rw[e1]
 refine zdQ rfl ?_
 unfold zcS zp
 refine za fun KY hKY=>?_
 simp only[go_sem,vU]
 apply hKY
 refine za fun KY hKY=>?_
 simp only[go_sem,vT]
 apply hKY
 refine zf fun X1 hn1 he1 hr1=>?_
 refine zr fun X2 hn2 he2 hf2 hr2=>?_
 refine za fun KY hKY=>?_
 simp only[go_sem,vS]
 apply hKY
 refine ZD ?_
 refine za fun KY hKY=>?_
 simp only[go_sem,vR]
 apply hKY
 refine Zl ?_
 refine za fun KY hKY=>?_
 simp only[go_sem,vQ]
 refine zh rfl (by simp only[go_sem]<;>rfl) ((zb1 l 10).mono ?_)
 rintro rr hh ⟨rfl,rfl⟩
 refine⟨rfl,rfl,rfl,?_⟩
 simp only[go_sem]
 apply hKY
 refine zd ?_
 repeat (first|refine hr2 _ ?_|refine hr1 _ ?_)
 simp only[go_sem]
 rfl
theorem zer (l:List UInt8)(h:Lib.indexByte l 10= -1):zn Tryd.prog [] UN [.imm 1 (ZG l),.imm 1 (ZG [10])] [] fun r h'=>r= .tup [.imm 1 (ZG l),.sc (.slice none 0 0),.sc (.bool false)]∧h'=[]:=by
 have hI:=up l
 rw[h] at hI
 refine zal rfl ?_
 unfold zaJ qR
 refine za fun KY hKY=>?_
 simp only[go_sem,W5]
 apply hKY
 refine zf fun X1 hn1 he1 hr1=>?_
 refine za fun KY hKY=>?_
 simp only[go_sem,W4]
 refine zh rfl (by simp only[go_sem]<;>rfl) ((hI).mono ?_)
 rintro rr hh ⟨rfl,rfl⟩
 refine⟨rfl,rfl,rfl,?_⟩
 simp only[go_sem]
 apply hKY
 refine za fun KY hKY=>?_
 simp only[go_sem,W0]
 apply hKY
 refine ZD ?_
 refine zi ?_
 repeat (first|refine hn1 _ ?_|refine he1 _ _ ?_)
 refine za fun KY hKY=>?_
 simp only[go_sem,Vy]
 apply hKY
 refine zd ?_
 repeat (first|refine hr1 _ ?_)
 simp only[go_sem]
theorem zbR (l:List UInt8)(m:Nat)(h:Lib.indexByte l 10=(m:Int))(hm:m<l.length)(hl:l.length≤1000000000):zn Tryd.prog [] UN [.imm 1 (ZG l),.imm 1 (ZG [10])] [] fun r h'=>r= .tup [.imm 1 (ZG (l.take m)),.imm 1 (ZG (l.drop (m+1))),.sc (.bool true)]∧h'=[]:=by
 have hI:=up l
 rw[h] at hI
 have d0:decide (0≤(m:Int))=true:=decide_eq_true (by omega)
 have w1:IntKind.i64.wrap ((m:Int)+1)=((m+1:Nat):Int):=by rw[IntWalk.i64_in _ (by omega)];omega
 have e1:(ZG [10]).length=1:=rfl
 have c1:Zd (ZG l) 1 0 m=ZG (l.take m):=by rw[Gm];simp
 have c2:Zd (ZG l) 1 (m+1) l.length=ZG (l.drop (m+1)):=by
  rw[Gm,List.take_of_length_le (by simp)]
 refine zal rfl ?_
 unfold zaJ qR
 refine za fun KY hKY=>?_
 simp only[go_sem,W5]
 apply hKY
 refine zf fun X1 hn1 he1 hr1=>?_
 refine za fun KY hKY=>?_
 simp only[go_sem,W4]
 refine zh rfl (by simp only[go_sem]<;>rfl) ((hI).mono ?_)
 rintro rr hh ⟨rfl,rfl⟩
 refine⟨rfl,rfl,rfl,?_⟩
 simp only[go_sem]
 apply hKY
 refine za fun KY hKY=>?_
 simp only[go_sem,W0,d0]
 apply hKY
 refine Zl ?_
 refine Zb fun KY hKY=>?_
 simp only[go_sem,Vz,zU,e1,w1,(show m≤l.length by omega),(show m+1≤l.length by omega),c1,c2,Nat.le_refl]
 refine(fun H=>by refine⟨⟨hKY _ ?_,hKY _ ?_⟩,hKY _ ?_⟩<;>(simp only[go_sem];exact H)) ?_
 refine zd ?_
 repeat (first|refine hr1 _ ?_)
 simp only[go_sem]
theorem zbC (l:List UInt8)(hl:l.length≤1000000):zn Tryd.prog [] zcG [.imm 1 (ZG l)] [] fun r h'=>r= .own (some 1) (Zk (qW l))∧h'=[]:=by
 refine zef rfl ?_
 unfold zdk Jy
 refine za fun KY hKY=>?_
 simp only[go_sem,Ka]
 apply hKY
 refine za fun KY hKY=>?_
 simp only[go_sem,k9]
 apply hKY
 refine Za [0,3] 1 (by simp only[go_sem]) ?_
 simp only[go_sem]
 rw[show zb.own (some 1) []= .own (some 1) (Zk []) from rfl]
 refine zf fun X1 hn1 he1 hr1=>?_
 refine zr fun X2 hn2 he2 hf2 hr2=>?_
 try simp only[go_sem]
 refine ZL (α:=List (List UInt8)×List UInt8) [4,5,6,9] (fun(acc,r)=>[(0,.imm 1 (ZG r)),(3,.own (some 1) (Zk acc))]) (fun(acc,r)=>[]) (fun(acc,r) q=>qW l=acc++qW r∧acc.length+r.length≤l.length∧q=r.length) (([],l)) (l.length) rfl (by first|(simp only[go_sem,ze,zg];done)|with_reducible rfl|rfl) (⟨rfl,by simp,rfl⟩) ?_
 rintro⟨acc,r⟩ q ⟨hall,hlen,rfl⟩ X3 hn3 he3 hr3
 simp only[go_sem,ze,zg]
 refine zf fun X4 hn4 he4 hr4=>?_
 by_cases hr:r=[]
 · subst hr
   have hdx:decide (0<((([]:List UInt8).length:Nat):Int))=false:=rfl
   refine za fun KY hKY=>?_
   simp only[go_sem,Yi]
   apply hKY
   refine ZD ?_
   refine zS ?_
   repeat (first|refine hn4 _ ?_|refine he4 _ _ ?_|refine he3 _ _ ?_|refine hn2 _ ?_|refine he2 _ ?_|refine hf2 _ _ (by decide) ?_|refine hn1 _ ?_|refine he1 _ _ ?_)
   refine za fun KY hKY=>?_
   simp only[go_sem,k8]
   apply hKY
   refine zd ?_
   repeat (first|refine hr4 _ ?_|refine hr3 _ ?_|refine hr2 _ ?_|refine hr1 _ ?_)
   simp only[go_sem]
   rw[hall,Kk,List.append_nil]
 have hr1:1≤r.length:=List.length_pos_iff.2 hr
 have hdx:decide (0<(r.length:Int))=true:=decide_eq_true (by omega)
 have hsz:(acc.length+1)*16≤140737488355328:=by omega
 by_cases hc:r.count 10=0
 · have hC:=zer r (zaa hc)
   have hC2:zn Tryd.prog [] UN [.imm 1 (ZG r),.own (some 1) [.sc (.int .u8 10)]] [] _:=zn.fzArgs (by simp only[List.map,zb.freeze,zb.freezeL,yw];exact hC)
   refine za fun KY hKY=>?_
   simp only[go_sem,Yi,hdx]
   apply hKY
   refine Zl ?_
   refine zi ?_
   repeat (first|refine hn4 _ ?_|refine he4 _ _ ?_|refine he3 _ _ ?_|refine hn2 _ ?_|refine he2 _ ?_|refine hf2 _ _ (by decide) ?_|refine hn1 _ ?_|refine he1 _ _ ?_)
   refine zr fun X5 hn5 he5 hf5 hr5=>?_
   refine za fun KY hKY=>?_
   simp only[go_sem,xo]
   apply z7 [.vw,.fz] [] false none rfl
   iterate 8 (first|(simp only[go_sem,zJ]<;>rfl)|rfl)
   refine(hC2).mono ?_
   rintro _ _ ⟨rfl,rfl⟩
   refine⟨Nat.le_of_ble_eq_true rfl,(fun hh=>by cases hh),?_⟩
   simp only[go_sem,zZ,zc.after]
   apply hKY
   refine Za [0,5] 1 (by simp only[go_sem]) ?_
   simp only[go_sem]
   refine zv [0,5] (by simp only[go_sem];rfl) ?_
   simp only[go_sem]
   refine za fun KY hKY=>?_
   simp only[go_sem,xn,jX,hsz,K3]
   apply hKY
   refine zt fun KY hKY=>?_
   simp only[go_sem,xm]
   apply hKY
   repeat (first|refine hn5 _ ?_|refine he5 _ ?_|refine hf5 _ _ (by decide) ?_|refine hn4 _ ?_|refine he4 _ _ ?_)
   refine hn3 _ ((acc++[r],[])) (0) (by omega) (by first|(simp only[go_sem,ze,zg,(show ZG ([]:List UInt8)=[] from rfl)];done)|with_reducible rfl) ?_
   exact⟨by rw[hall,zaW hc hr,Kk];simp,by simp;omega,rfl⟩
 · obtain⟨m,hm1,hm2,hm3,hm4⟩:=gc (c:=10) (l:=r) (by omega)
   have hC:=zbR r m hm1 hm2 (by omega)
   have hC2:zn Tryd.prog [] UN [.imm 1 (ZG r),.own (some 1) [.sc (.int .u8 10)]] [] _:=zn.fzArgs (by simp only[List.map,zb.freeze,zb.freezeL,yw];exact hC)
   refine za fun KY hKY=>?_
   simp only[go_sem,Yi,hdx]
   apply hKY
   refine Zl ?_
   refine zi ?_
   repeat (first|refine hn4 _ ?_|refine he4 _ _ ?_|refine he3 _ _ ?_|refine hn2 _ ?_|refine he2 _ ?_|refine hf2 _ _ (by decide) ?_|refine hn1 _ ?_|refine he1 _ _ ?_)
   refine zr fun X6 hn6 he6 hf6 hr6=>?_
   refine za fun KY hKY=>?_
   simp only[go_sem,xo]
   apply z7 [.vw,.fz] [] false none rfl
   iterate 8 (first|(simp only[go_sem,zJ]<;>rfl)|rfl)
   refine(hC2).mono ?_
   rintro _ _ ⟨rfl,rfl⟩
   refine⟨Nat.le_of_ble_eq_true rfl,(fun hh=>by cases hh),?_⟩
   simp only[go_sem,zZ,zc.after]
   apply hKY
   refine za fun KY hKY=>?_
   simp only[go_sem,xn,jX,hsz,K3]
   apply hKY
   refine zt fun KY hKY=>?_
   simp only[go_sem,xm]
   apply hKY
   repeat (first|refine hn6 _ ?_|refine he6 _ ?_|refine hf6 _ _ (by decide) ?_|refine hn4 _ ?_|refine he4 _ _ ?_)
   refine hn3 _ ((acc++[r.take m],r.drop (m+1))) (r.length - (m+1)) (by omega) (by first|(simp only[go_sem,ze,zg];done)|with_reducible rfl) ?_
   exact⟨by rw[hall,om hm3];simp,by simp;omega,by simp⟩
theorem zav (l:List UInt8)(c:UInt8):zn Tryd.prog [] zeJ [.sc (.string (Zt l)),.sc (.string ⟨#[c]⟩)] [] fun r h'=>r= .sc (.int .i64 ((l.count c:Nat):Int))∧h'=[]:=
 wu (us:=[.string (Zt l),.string ⟨#[c]⟩]) (by kernel_rfl) fun w=>by
  have:=Tryd.strings_Count_one (Zt l) c w
  rw[Z8] at this
  exact this
theorem Oa (l:List UInt8)(c:Int):zn Tryd.prog [] zeH [.sc (.string (Zt l)),.sc (.int .u8 c)] [] fun r h'=>r= .sc (.int .i64 (Lib.indexByte l c.toNat.toUInt8))∧h'=[]:=
 wu (us:=[.string (Zt l),.int .u8 c]) (by kernel_rfl) fun w=>by
  have:=Tryd.stringslite_IndexByte (Zt l) c w
  rw[Z8] at this
  exact this
theorem o9 (l:List UInt8):zn Tryd.prog [] zcf [.sc (.string (Zt l)),.sc (.string ⟨#[32]⟩)] [] fun r h'=>r= .sc (.int .i64 (Lib.indexByte l 32))∧h'=[]:=by
 have h8:(((32:UInt8).toNat:Int))=32:=rfl
 have s1:(Zt [32]).size=1:=rfl
 refine zdK rfl ?_
 unfold zcM zF
 refine za fun KY hKY=>?_
 simp only[go_sem,vp]
 apply hKY
 refine za fun KY hKY=>?_
 simp only[go_sem,vo,List.length_cons,List.length_nil]
 apply hKY
 refine zf fun X1 hn1 he1 hr1=>?_
 refine zr fun X2 hn2 he2 hf2 hr2=>?_
 by_cases e:l=[32]
 · subst e
   refine za fun KY hKY=>?_
   simp only[go_sem,WO,List.length_cons,List.length_nil]
   apply hKY
   refine Zl ?_
   refine za fun KY hKY=>?_
   simp only[go_sem,vn]
   apply hKY
   refine zd ?_
   repeat (first|refine hr2 _ ?_|refine hr1 _ ?_)
   simp only[go_sem]
   rfl
 · have hd:decide (([32]:List UInt8)=l)=false:=decide_eq_false fun h=>e h.symm
   refine za fun KY hKY=>?_
   simp only[go_sem,WO,hd,List.length_cons,List.length_nil]
   apply hKY
   refine ZD ?_
   refine za fun KY hKY=>?_
   simp only[go_sem,vm]
   apply hKY
   refine Zl ?_
   refine za fun KY hKY=>?_
   simp only[go_sem,vl,List.length_cons,List.length_nil]
   refine zh rfl (by simp only[go_sem]<;>rfl) ((Oa l 32).mono ?_)
   rintro rr hh ⟨rfl,rfl⟩
   refine⟨rfl,rfl,rfl,?_⟩
   simp only[go_sem]
   apply hKY
   refine zd ?_
   repeat (first|refine hr2 _ ?_|refine hr1 _ ?_)
   simp only[go_sem]
   rfl
theorem GD (l:List UInt8):zn Tryd.prog [] zcg [.sc (.string (Zt l)),.sc (.string (Zt [32]))] [] fun r h'=>r= .sc (.int .i64 (Lib.indexByte l 32))∧h'=[]:=by
 refine zdL rfl ?_
 unfold zcN xW
 refine za fun KY hKY=>?_
 simp only[go_sem,vr]
 apply hKY
 refine za fun KY hKY=>?_
 simp only[go_sem,vq]
 refine zh rfl (by simp only[go_sem]<;>rfl) ((o9 l).mono ?_)
 rintro rr hh ⟨rfl,rfl⟩
 refine⟨rfl,rfl,rfl,?_⟩
 simp only[go_sem]
 apply hKY
 refine zd ?_
 simp only[go_sem]
theorem U4 (l:List UInt8)(hl:l.length≤1000000000):zn Tryd.prog [] zck [.sc (.string (Zt l)),.sc (.string (Zt [32])),.sc (.int .i64 0),.sc (.int .i64 (-1))] [] fun r h'=>r= .own (some 1) (Zk (zx 32 l))∧h'=[]:=by
 obtain⟨c,hc⟩:∃c,c=l.count 32:=⟨_,rfl⟩
 have hcl:=jj 32 l
 rw[←hc] at hcl
 have hC:=zav l 32
 rw[←hc] at hC
 have w1:IntKind.i64.wrap ((c:Int)+1)=((c+1:Nat):Int):=by rw[IntWalk.i64_in _ (by omega)];omega
 have w2:IntKind.i64.wrap ((l.length:Int)+1)=((l.length+1:Nat):Int):=by rw[IntWalk.i64_in _ (by omega)];omega
 have hmn:min ((c+1:Nat):Int) ((l.length+1:Nat):Int)=((c+1:Nat):Int):=by omega
 have hmk:16*(c+1)≤140737488355328∧((c+1:Nat):Int)≤9223372036854775807:=by omega
 have w3:IntKind.i64.wrap (((c+1:Nat):Int) - 1)=(c:Int):=by rw[IntWalk.i64_in _ (by omega)];omega
 refine zdR rfl ?_
 unfold zcT Zo
 refine za fun KY hKY=>?_
 simp only[go_sem,v8]
 apply hKY
 refine zf fun X1 hn1 he1 hr1=>?_
 refine za fun KY hKY=>?_
 simp only[go_sem,v7]
 apply hKY
 refine ZD ?_
 refine zi ?_
 repeat (first|refine hn1 _ ?_|refine he1 _ _ ?_)
 refine zf fun X2 hn2 he2 hr2=>?_
 refine za fun KY hKY=>?_
 simp only[go_sem,v6]
 apply hKY
 refine ZD ?_
 refine zi ?_
 repeat (first|refine hn2 _ ?_|refine he2 _ _ ?_|refine hn1 _ ?_|refine he1 _ _ ?_)
 refine zf fun X3 hn3 he3 hr3=>?_
 refine za fun KY hKY=>?_
 simp only[go_sem,vZ]
 apply hKY
 refine Zl ?_
 refine zt fun KY hKY=>?_
 simp only[go_sem,vY]
 refine zh rfl (by simp only[go_sem]<;>rfl) ((hC).mono ?_)
 rintro rr hh ⟨rfl,rfl⟩
 refine⟨rfl,rfl,rfl,?_⟩
 simp only[go_sem,w1]
 apply hKY
 repeat (first|refine hn3 _ ?_|refine he3 _ _ ?_|refine hn2 _ ?_|refine he2 _ _ ?_|refine hn1 _ ?_|refine he1 _ _ ?_)
 refine za fun KY hKY=>?_
 simp only[go_sem,vX,w2,hmn]
 apply hKY
 refine za fun KY hKY=>?_
 simp only[go_sem,vW,hmk,Int.le_refl,GA]
 apply hKY
 refine za fun KY hKY=>?_
 simp only[go_sem,vV,w3]
 apply hKY
 refine za fun KY hKY=>?_
 simp only[go_sem,XL]
 apply hKY
 refine zf fun X4 hn4 he4 hr4=>?_
 refine zr fun X5 hn5 he5 hf5 hr5=>?_
 try simp only[go_sem]
 refine ZL (α:=Nat×List (List UInt8)×List UInt8) [11,36,41] (fun(i,z,r)=>[(0,.sc (.string (Zt r))),(9,.own (some 1) (Zk (z++List.replicate (c+1 - i) []))),(10,.sc (.int .i64 (i:Int)))]) (fun(i,z,r)=>[]) (fun(i,z,r) q=>i≤c∧z.length=i∧zx 32 l=z++zx 32 r∧i+r.count 32=c∧r.length≤l.length∧q=c - i) ((0,[],l)) (c) rfl (by first|(simp only[go_sem,ze,zg];done)|with_reducible rfl|rfl) (⟨Nat.zero_le _,rfl,rfl,by omega,Nat.le_refl _,rfl⟩) ?_
 rintro⟨i,z,r⟩ q ⟨hi,hzl,hsp,hcr,hrl,rfl⟩ X6 hn6 he6 hr6
 simp only[go_sem,ze,zg]
 refine zf fun X7 hn7 he7 hr7=>?_
 rcases Nat.lt_or_ge i c with hi2|hi2
 · have hdx:decide ((i:Int)<(c:Int))=true:=decide_eq_true (by omega)
   obtain⟨m,hm1,hm2,hm3,hm4⟩:=gc (c:=32) (l:=r) (by omega)
   have hI:=GD r
   rw[hm1] at hI
   have hd0:decide ((m:Int)<0)=false:=decide_eq_false (by omega)
   have wm0:IntKind.i64.wrap ((m:Int)+0)=(m:Int):=by rw[IntWalk.i64_in _ (by omega)];omega
   have wm1:IntKind.i64.wrap ((m:Int)+1)=((m+1:Nat):Int):=by rw[IntWalk.i64_in _ (by omega)];omega
   have hrep:List.replicate (c+1 - i) ([]:List UInt8)=[]::List.replicate (c+1 - (i+1)) []:=by
    rw[show c+1 - i=(c+1 - (i+1))+1 by omega,List.replicate_succ]
   have hset:(z++List.replicate (c+1 - i) []).set i (r.take m)=(z++[r.take m])++List.replicate (c+1 - (i+1)) []:=by
    rw[List.set_append_right _ _ (by omega),hrep,show i - z.length=0 by omega];simp
   have hzn:(z++List.replicate (c+1 - i) ([]:List UInt8)).length=c+1:=by simp;omega
   refine za fun KY hKY=>?_
   simp only[go_sem,YH,hdx]
   apply hKY
   refine Zl ?_
   refine zi ?_
   repeat (first|refine hn7 _ ?_|refine he7 _ _ ?_|refine he6 _ _ ?_|refine hn5 _ ?_|refine he5 _ ?_|refine hf5 _ _ (by decide) ?_|refine hn4 _ ?_|refine he4 _ _ ?_|refine hn3 _ ?_|refine he3 _ _ ?_|refine hn2 _ ?_|refine he2 _ _ ?_|refine hn1 _ ?_|refine he1 _ _ ?_)
   refine zr fun X8 hn8 he8 hf8 hr8=>?_
   refine za fun KY hKY=>?_
   simp only[go_sem,XK]
   refine zh rfl (by simp only[go_sem]<;>rfl) ((hI).mono ?_)
   rintro rr hh ⟨rfl,rfl⟩
   refine⟨rfl,rfl,rfl,?_⟩
   simp only[go_sem]
   apply hKY
   refine zf fun X9 hn9 he9 hr9=>?_
   refine za fun KY hKY=>?_
   simp only[go_sem,XJ,hd0]
   apply hKY
   refine ZD ?_
   refine zi ?_
   repeat (first|refine hn9 _ ?_|refine he9 _ _ ?_|refine hn8 _ ?_|refine he8 _ ?_|refine hf8 _ _ (by decide) ?_|refine hn7 _ ?_|refine he7 _ _ ?_|refine he6 _ _ ?_|refine hn5 _ ?_|refine he5 _ ?_|refine hf5 _ _ (by decide) ?_|refine hn4 _ ?_|refine he4 _ _ ?_|refine hn3 _ ?_|refine he3 _ _ ?_|refine hn2 _ ?_|refine he2 _ _ ?_|refine hn1 _ ?_|refine he1 _ _ ?_)
   refine za fun KY hKY=>?_
   simp only[go_sem,XI,wm0,zK,hzn,(show i<c+1 by omega),(show m≤r.length by omega),Up,hset]
   apply hKY
   refine za fun KY hKY=>?_
   simp only[go_sem,XH,wm1,(show m+1≤r.length by omega),List.length_cons,List.length_nil,List.take_length,Nat.le_refl]
   apply hKY
   refine zt fun KY hKY=>?_
   simp only[go_sem,XG,JN (show i<4611686018427387904 by omega)]
   apply hKY
   repeat (first|refine hn9 _ ?_|refine he9 _ _ ?_|refine hn8 _ ?_|refine he8 _ ?_|refine hf8 _ _ (by decide) ?_|refine hn7 _ ?_|refine he7 _ _ ?_)
   refine hn6 _ ((i+1,z++[r.take m],r.drop (m+1))) (c - (i+1)) (by omega) (by first|(simp only[go_sem,ze,zg];done)|with_reducible rfl) ?_
   exact⟨hi2,by simp[hzl],by rw[hsp,hm3];simp,by omega,by simp;omega,rfl⟩
 obtain rfl:i=c:=by omega
 have hdx:decide ((i:Int)<(i:Int))=false:=decide_eq_false (by omega)
 have hzn:(z++List.replicate (i+1 - i) ([]:List UInt8)).length=i+1:=by simp;omega
 have hset:(z++List.replicate (i+1 - i) []).set i r=z++[r]:=by
  rw[List.set_append_right _ _ (by omega),show i+1 - i=1 by omega,show i - z.length=0 by omega];simp
 have hw:IntKind.i64.wrap ((i:Int)+1)=((i+1:Nat):Int):=by rw[IntWalk.i64_in _ (by omega)];omega
 have hzl2:(z++[r]).length=i+1:=by simp[hzl]
 refine za fun KY hKY=>?_
 simp only[go_sem,YH,hdx]
 apply hKY
 refine ZD ?_
 refine zS ?_
 repeat (first|refine hn7 _ ?_|refine he7 _ _ ?_|refine he6 _ _ ?_|refine hn5 _ ?_|refine he5 _ ?_|refine hf5 _ _ (by decide) ?_|refine hn4 _ ?_|refine he4 _ _ ?_|refine hn3 _ ?_|refine he3 _ _ ?_|refine hn2 _ ?_|refine he2 _ _ ?_|refine hn1 _ ?_|refine he1 _ _ ?_)
 refine za fun KY hKY=>?_
 simp only[go_sem,XF,zK,hzn,(show i<i+1 by omega),Up,hset]
 apply hKY
 refine za fun KY hKY=>?_
 simp only[go_sem,XE,hw,zK,hzl2,Nat.le_refl,oV]
 apply hKY
 refine zd ?_
 repeat (first|refine hr7 _ ?_|refine hr6 _ ?_|refine hr5 _ ?_|refine hr4 _ ?_|refine hr3 _ ?_|refine hr2 _ ?_|refine hr1 _ ?_)
 simp only[go_sem]
 rw[hsp,JQ (by omega)]
 simp
 rw[List.take_of_length_le (by simp;omega)]
theorem o8 (l:List UInt8)(hl:l.length≤1000000000):zn Tryd.prog [] zcw [.sc (.string (Zt l)),.sc (.string (Zt [32]))] [] fun r h'=>r= .own (some 1) (Zk (zx 32 l))∧h'=[]:=by
 refine zd5 rfl ?_
 unfold zda x7
 refine za fun KY hKY=>?_
 simp only[go_sem,VY]
 apply hKY
 refine za fun KY hKY=>?_
 simp only[go_sem,VX]
 apply z7 [] [] false none rfl
 iterate 8 (first|(simp only[go_sem,zJ]<;>rfl)|rfl)
 refine(U4 l hl).mono ?_
 rintro _ _ ⟨rfl,rfl⟩
 refine⟨Nat.le_of_ble_eq_true rfl,(fun hh=>by cases hh),?_⟩
 simp only[go_sem,zZ,zc.after]
 apply hKY
 refine zd ?_
 simp only[go_sem]
theorem yY :zn Tryd.prog [] zcv [] [] fun r h'=>r= .agg (Ze xJ yZ)∧h'=[]:=by
 refine zd4 rfl ?_
 unfold zc9 Uf
 refine za fun KY hKY=>?_
 simp only[go_sem,VW]
 apply hKY
 refine za fun KY hKY=>?_
 simp only[go_sem,VV,Jp,List.length_cons,List.length_nil]
 apply hKY
 refine zd ?_
 simp only[go_sem,Jp,List.length_cons,List.length_nil]
 rfl
abbrev rdr (ps:List (List UInt8)):zb:= .ia [.imm 1 (Zk ps)]
theorem py (x:List UInt8×Int)(p:List UInt8)(ps:List (List UInt8)):zn Tryd.prog [] OY [.agg (xJ x),.ia [rdr (p::ps)]] [] fun r h'=>r= .sc (.bool (hit p x))∧h'=[]:=by
 obtain⟨w,n⟩:=x
 have h0:(Zk (p::ps))[0]?=some (.sc (.string (Zt p))):=rfl
 have hl:(Zk (p::ps)).length=ps.length+1:=by simp[Zk]
 unfold xJ hit
 refine zd2 rfl ?_
 unfold zc7 Ue
 refine za fun KY hKY=>?_
 simp only[go_sem,VN]
 apply hKY
 by_cases hw:w=[]
 · have hd:decide (w=[])=true:=decide_eq_true hw
   refine Zb fun KY hKY=>?_
   simp only[go_sem,W9,hd]
   apply hKY
   refine zd ?_
   simp only[go_sem]
   simp[hw]
 · have hd:decide (w=[])=false:=decide_eq_false hw
   refine Zb fun KY hKY=>?_
   simp only[go_sem,W9,hd,h0,hl,(show 1≤ps.length+1 by omega)]
   apply hKY
   refine zd ?_
   simp only[go_sem]
   simp[hw]
theorem pA (fs:List (List UInt8×Int))(p:List UInt8)(ps:List (List UInt8))(hf:fs.length≤1000):zn Tryd.prog [] zcu [.imm 2 (Ze xJ fs),.fn (.func OY) [] [.ia [rdr (p::ps)]]] [] fun r h'=>(∃z:Int,r= .sc (.int .i64 z)∧((z= -1∧fs.findIdx? (hit p)=none)∨∃i:Nat,z=(i:Int)∧fs.findIdx? (hit p)=some i))∧h'=[]:=by
 have hpl:(Ze xJ fs).length=fs.length*2:=QJ yW fs
 refine zd3 rfl ?_
 unfold zc8 Jx
 refine za fun KY hKY=>?_
 simp only[go_sem,VU]
 apply hKY
 refine zf fun X1 hn1 he1 hr1=>?_
 refine za fun KY hKY=>?_
 simp only[go_sem,VT,hpl,zeK]
 apply hKY
 refine zr fun X2 hn2 he2 hf2 hr2=>?_
 try simp only[go_sem]
 refine ZL (α:=Nat) [5,9,16] (fun k=>[(8,.sc (.int .i64 (k:Int)))]) (fun k=>[]) (fun k q=>k≤fs.length∧(∀i x,i<k→fs[i]?=some x→hit p x=false)∧q=fs.length - k) (0) (fs.length) rfl (by first|(simp only[go_sem,ze,zg];done)|with_reducible rfl|rfl) (⟨Nat.zero_le _,fun i x h=>by omega,rfl⟩) ?_
 rintro k q ⟨hk,hno,rfl⟩ X3 hn3 he3 hr3
 simp only[go_sem,ze,zg]
 rcases Nat.lt_or_ge k fs.length with hk2|hk2
 · have hdx:decide ((k:Int)<(fs.length:Int))=true:=decide_eq_true (by omega)
   have hx:fs[k]?=some (fs[k]):=List.getElem?_eq_getElem hk2
   generalize fs[k]=x at hx
   have hc:=wm yW hx
   have hI:=py x p ps
   refine za fun KY hKY=>?_
   simp only[go_sem,xa,hdx]
   apply hKY
   refine zf fun X4 hn4 he4 hr4=>?_
   refine Zl ?_
   refine zi ?_
   repeat (first|refine hn4 _ ?_|refine he4 _ _ ?_|refine he3 _ _ ?_|refine hn2 _ ?_|refine he2 _ ?_|refine hf2 _ _ (by decide) ?_|refine hn1 _ ?_|refine he1 _ _ ?_)
   refine zf fun X5 hn5 he5 hr5=>?_
   refine zr fun X6 hn6 he6 hf6 hr6=>?_
   refine za fun KY hKY=>?_
   simp only[go_sem,VS]
   apply hKY
   refine za fun KY hKY=>?_
   simp only[go_sem,VR,hc,hpl,hk2,(show k*2+2≤fs.length*2 by omega),(show 2≤fs.length*2 - k*2 by omega),List.length_drop]
   refine zh rfl (by simp only[go_sem]<;>rfl) ((hI).mono ?_)
   rintro rr hh ⟨rfl,rfl⟩
   refine⟨rfl,rfl,rfl,?_⟩
   simp only[go_sem]
   apply hKY
   cases hh:hit p x with
   | true=>
     refine Zl ?_
     refine za fun KY hKY=>?_
     simp only[go_sem,VQ]
     apply hKY
     refine zd ?_
     repeat (first|refine hr6 _ ?_|refine hr5 _ ?_|refine hr4 _ ?_|refine hr3 _ ?_|refine hr2 _ ?_|refine hr1 _ ?_)
     simp only[go_sem]
     refine⟨_,rfl,.inr ⟨k,rfl,?_⟩⟩
     rw[List.findIdx?_eq_some_iff_getElem]
     obtain⟨hk3,e⟩:=List.getElem?_eq_some_iff.1 hx
     refine⟨hk3,by rw[e];exact hh,fun j hj=>?_⟩
     rw[hno j _ hj (List.getElem?_eq_getElem (by omega))];decide
   | false=>
     refine ZD ?_
     refine zi ?_
     repeat (first|refine hn6 _ ?_|refine he6 _ ?_|refine hf6 _ _ (by decide) ?_|refine hn5 _ ?_|refine he5 _ _ ?_|refine hn4 _ ?_|refine he4 _ _ ?_|refine he3 _ _ ?_|refine hn2 _ ?_|refine he2 _ ?_|refine hf2 _ _ (by decide) ?_|refine hn1 _ ?_|refine he1 _ _ ?_)
     refine zt fun KY hKY=>?_
     simp only[go_sem,VP,JN (show k<4611686018427387904 by omega)]
     apply hKY
     repeat (first|refine hn6 _ ?_|refine he6 _ ?_|refine hf6 _ _ (by decide) ?_|refine hn5 _ ?_|refine he5 _ _ ?_|refine hn4 _ ?_|refine he4 _ _ ?_)
     refine hn3 _ (k+1) (fs.length - (k+1)) (by omega) (by first|(simp only[go_sem,ze,zg];done)|with_reducible rfl) ?_
     refine⟨hk2,fun i y hi hy=>?_,rfl⟩
     by_cases e:i=k
     · subst e;rw[hx] at hy;cases hy;exact hh
     · exact hno i y (by omega) hy
 have hdx:decide ((k:Int)<(fs.length:Int))=false:=decide_eq_false (by omega)
 refine za fun KY hKY=>?_
 simp only[go_sem,xa,hdx]
 apply hKY
 refine zf fun X7 hn7 he7 hr7=>?_
 refine ZD ?_
 refine zS ?_
 repeat (first|refine hn7 _ ?_|refine he7 _ _ ?_|refine he3 _ _ ?_|refine hn2 _ ?_|refine he2 _ ?_|refine hf2 _ _ (by decide) ?_|refine hn1 _ ?_|refine he1 _ _ ?_)
 refine za fun KY hKY=>?_
 simp only[go_sem,VO]
 apply hKY
 refine zd ?_
 repeat (first|refine hr7 _ ?_|refine hr3 _ ?_|refine hr2 _ ?_|refine hr1 _ ?_)
 simp only[go_sem]
 refine⟨_,rfl,.inl ⟨rfl,?_⟩⟩
 rw[List.findIdx?_eq_none_iff]
 intro x hx
 obtain⟨i,hi,e⟩:=List.getElem_of_mem hx
 exact hno i x (by omega) (by rw[←e];exact List.getElem?_eq_getElem hi)
theorem Xo (ps:List (List UInt8)){k:Nat}{w:List UInt8}(hk:ps[k]?=some w)(hl:w.length≤1000000000):zn Tryd.prog [] zct [rdr ps,.sc (.int .i64 (k:Int))] [] fun r h'=>r= .tup [.sc (.int .i64 (((ZX w).getD 0:Nat):Int)),.sc (.bool (ZX w).isSome)]∧h'=[]:=by
 have hkl:k<ps.length:=(List.getElem?_eq_some_iff.1 hk).1
 have hg:=Qb hk
 have hdl:k+1≤ps.length:=hkl
 refine zd1 rfl ?_
 unfold zc6 Z3
 refine za fun KY hKY=>?_
 simp only[go_sem,VM]
 apply hKY
 refine za fun KY hKY=>?_
 simp only[go_sem,VL,hg,zK,hkl,hdl]
 apply hKY
 refine zf fun X1 hn1 he1 hr1=>?_
 rcases(show w.length<1∨(1≤w.length∧9<w.length)∨(1<w.length∧w.length≤9∧w.getD 0 0=48)∨(1≤w.length∧w.length≤9∧¬(1<w.length∧w.getD 0 0=48)) by
  by_cases h:w.getD 0 0=48
  · simp only[h,and_true,true_and];omega
  · simp only[h,and_false,false_and,not_false_eq_true,and_true];omega) with h1|⟨h1,h2⟩|⟨h1,h2,h3⟩|⟨h1,h2,h3⟩
 · have d1:decide ((w.length:Int)<1)=true:=decide_eq_true (by omega)
   have hn:ZX w=none:=if_pos (.inl h1)
   refine za fun KY hKY=>?_
   simp only[go_sem,qi,d1]
   apply hKY
   refine Zl ?_
   refine za fun KY hKY=>?_
   simp only[go_sem,Yg]
   apply hKY
   refine zd ?_
   repeat (first|refine hr1 _ ?_)
   simp only[go_sem]
   rw[hn];rfl
 · have d1:decide ((w.length:Int)<1)=false:=decide_eq_false (by omega)
   have d2:decide (9<(w.length:Int))=true:=decide_eq_true (by omega)
   have hn:ZX w=none:=if_pos (.inr (.inl h2))
   refine za fun KY hKY=>?_
   simp only[go_sem,qi,d1,d2]
   apply hKY
   refine Zl ?_
   refine za fun KY hKY=>?_
   simp only[go_sem,Yg]
   apply hKY
   refine zd ?_
   repeat (first|refine hr1 _ ?_)
   simp only[go_sem]
   rw[hn];rfl
 · have d1:decide ((w.length:Int)<1)=false:=decide_eq_false (by omega)
   have d2:decide (9<(w.length:Int))=false:=decide_eq_false (by omega)
   have d3:decide (1<(w.length:Int))=true:=decide_eq_true (by omega)
   have d4:decide (((w.getD 0 0).toNat:Int)=48)=true:=by rw[h3];rfl
   have hn:ZX w=none:=if_pos (.inr (.inr (.inl ⟨h1,h3⟩)))
   refine za fun KY hKY=>?_
   simp only[go_sem,qi,d1,d2,d3,d4,(show 0<w.length by omega)]
   apply hKY
   refine Zl ?_
   refine za fun KY hKY=>?_
   simp only[go_sem,Yg]
   apply hKY
   refine zd ?_
   repeat (first|refine hr1 _ ?_)
   simp only[go_sem]
   rw[hn];rfl
 · have d1:decide ((w.length:Int)<1)=false:=decide_eq_false (by omega)
   have d2:decide (9<(w.length:Int))=false:=decide_eq_false (by omega)
   have hnn:∀b,w.all qK=b→ZX w=if b=false then none else some (val w):=fun b hb=>by
    unfold ZX
    cases b with
    |false=>rw[if_pos (.inr (.inr (.inr hb))),if_pos rfl]
    |true=>rw[if_neg (by rw[hb];rintro(h|h|h|h);omega;omega;exact h3 h;cases h),if_neg (by simp)]
   by_cases h4:1<w.length
   · have h5:¬w.getD 0 0=48:=fun e=>h3 ⟨h4,e⟩
     have d3:decide (1<(w.length:Int))=true:=decide_eq_true (by omega)
     have d4:decide (((w.getD 0 0).toNat:Int)=48)=false:=decide_eq_false fun e=>h5 (UInt8.toNat_inj.1 (Int.ofNat_inj.1 e))
     refine za fun KY hKY=>?_
     simp only[go_sem,qi,d1,d2,d3,d4,(show 0<w.length by omega)]
     apply hKY
     refine ZD ?_
     refine zi ?_
     repeat (first|refine hn1 _ ?_|refine he1 _ _ ?_)
     refine za fun KY hKY=>?_
     simp only[go_sem,W8]
     apply hKY
     refine zf fun X2 hn2 he2 hr2=>?_
     refine za fun KY hKY=>?_
     simp only[go_sem,W7,zU]
     apply hKY
     refine zr fun X3 hn3 he3 hf3 hr3=>?_
     try simp only[go_sem]
     refine ZL (α:=Nat) [9,39,47] (fun j=>[(7,.sc (.int .i64 ((val (w.take j):Nat):Int))),(38,.sc (.int .i64 (j:Int)))]) (fun j=>[]) (fun j q=>j≤w.length∧(w.take j).all qK=true∧q=w.length - j) (0) (w.length) rfl (by first|(simp only[go_sem,ze,zg];done)|with_reducible rfl|rfl) (⟨Nat.zero_le _,rfl,rfl⟩) ?_
     rintro j q ⟨hj,hall,rfl⟩ X4 hn4 he4 hr4
     simp only[go_sem,ze,zg]
     rcases Nat.lt_or_ge j w.length with hj2|hj2
     · have hdx:decide ((j:Int)<(w.length:Int))=true:=decide_eq_true (by omega)
       have hx:w[j]?=some w[j]:=List.getElem?_eq_getElem hj2
       have htk:w.take (j+1)=w.take j++[w[j]]:=by rw[List.take_add_one,hx];rfl
       have hda:w.all qK=true→qK w[j]=true:=fun h=>List.all_eq_true.1 h _ (List.getElem_mem hj2)
       have hlt:=(w[j]).toNat_lt
       generalize w[j]=c at hx htk hda hlt
       have hb:(ZG w)[j]?=some (.sc (.int .u8 (c.toNat:Int))):=by simp[ZG,hx]
       refine za fun KY hKY=>?_
       simp only[go_sem,Qx,hdx]
       apply hKY
       refine zf fun X5 hn5 he5 hr5=>?_
       refine Zl ?_
       refine zi ?_
       repeat (first|refine hn5 _ ?_|refine he5 _ _ ?_|refine he4 _ _ ?_|refine hn3 _ ?_|refine he3 _ ?_|refine hf3 _ _ (by decide) ?_|refine hn2 _ ?_|refine he2 _ _ ?_|refine hn1 _ ?_|refine he1 _ _ ?_)
       refine zf fun X6 hn6 he6 hr6=>?_
       refine zr fun X7 hn7 he7 hf7 hr7=>?_
       refine za fun KY hKY=>?_
       simp only[go_sem,W6,hb,zU,hj2,(show j+1≤w.length by omega)]
       apply hKY
       refine zf fun X8 hn8 he8 hr8=>?_
       rcases(show c.toNat<48∨(48≤c.toNat∧57<c.toNat)∨(48≤c.toNat∧c.toNat≤57) by omega) with h6|⟨h6,h7⟩|⟨h6,h7⟩
       · have d5:decide ((c.toNat:Int)<48)=true:=decide_eq_true (by omega)
         have hn:ZX w=none:=by
          rw[hnn _ rfl,if_pos]
          cases hw:w.all qK with
          |false=>rfl
          |true=>have:=hda hw;unfold qK at this;rw[Bool.and_eq_true,decide_eq_true_iff,decide_eq_true_iff] at this;omega
         refine za fun KY hKY=>?_
         simp only[go_sem,JK,d5]
         apply hKY
         refine Zl ?_
         refine za fun KY hKY=>?_
         simp only[go_sem,Qw]
         apply hKY
         refine zd ?_
         repeat (first|refine hr8 _ ?_|refine hr7 _ ?_|refine hr6 _ ?_|refine hr5 _ ?_|refine hr4 _ ?_|refine hr3 _ ?_|refine hr2 _ ?_|refine hr1 _ ?_)
         simp only[go_sem]
         rw[hn];rfl
       · have d5:decide ((c.toNat:Int)<48)=false:=decide_eq_false (by omega)
         have d6:decide (57<(c.toNat:Int))=true:=decide_eq_true (by omega)
         have hn:ZX w=none:=by
          rw[hnn _ rfl,if_pos]
          cases hw:w.all qK with
          |false=>rfl
          |true=>have:=hda hw;unfold qK at this;rw[Bool.and_eq_true,decide_eq_true_iff,decide_eq_true_iff] at this;omega
         refine za fun KY hKY=>?_
         simp only[go_sem,JK,d5,d6]
         apply hKY
         refine Zl ?_
         refine za fun KY hKY=>?_
         simp only[go_sem,Qw]
         apply hKY
         refine zd ?_
         repeat (first|refine hr8 _ ?_|refine hr7 _ ?_|refine hr6 _ ?_|refine hr5 _ ?_|refine hr4 _ ?_|refine hr3 _ ?_|refine hr2 _ ?_|refine hr1 _ ?_)
         simp only[go_sem]
         rw[hn];rfl
       · have d5:decide ((c.toNat:Int)<48)=false:=decide_eq_false (by omega)
         have d6:decide (57<(c.toNat:Int))=false:=decide_eq_false (by omega)
         have hv:=uw _ hall
         have hp:10^(w.take j).length≤10^9:=Nat.pow_le_pow_right (by omega) (by rw[List.length_take];omega)
         have hs:val (w.take (j+1))=10*val (w.take j)+(c.toNat - 48):=by rw[htk,J8]
         have w1:IntKind.i64.wrap (10*((val (w.take j):Nat):Int))=((10*val (w.take j):Nat):Int):=by rw[IntWalk.i64_in _ (by omega)];omega
         have w2:IntKind.u8.wrap ((c.toNat:Int) - 48)=((c.toNat - 48:Nat):Int):=by
          unfold IntKind.wrap;simp[IntKind.bits,IntKind.signed];omega
         have w3:IntKind.i64.wrap ((c.toNat - 48:Nat):Int)=((c.toNat - 48:Nat):Int):=IntWalk.i64_in _ (by omega)
         have w4:IntKind.i64.wrap (((10*val (w.take j):Nat):Int)+((c.toNat - 48:Nat):Int))=((val (w.take (j+1)):Nat):Int):=by rw[IntWalk.i64_in _ (by omega),hs];omega
         refine za fun KY hKY=>?_
         simp only[go_sem,JK,d5,d6]
         apply hKY
         refine ZD ?_
         refine zi ?_
         repeat (first|refine hn8 _ ?_|refine he8 _ _ ?_|refine hn7 _ ?_|refine he7 _ ?_|refine hf7 _ _ (by decide) ?_|refine hn6 _ ?_|refine he6 _ _ ?_|refine hn5 _ ?_|refine he5 _ _ ?_|refine he4 _ _ ?_|refine hn3 _ ?_|refine he3 _ ?_|refine hf3 _ _ (by decide) ?_|refine hn2 _ ?_|refine he2 _ _ ?_|refine hn1 _ ?_|refine he1 _ _ ?_)
         refine zt fun KY hKY=>?_
         simp only[go_sem,YU,w1,w2,w3,w4]
         apply hKY
         repeat (first|refine hn8 _ ?_|refine he8 _ _ ?_|refine hn7 _ ?_|refine he7 _ ?_|refine hf7 _ _ (by decide) ?_|refine hn6 _ ?_|refine he6 _ _ ?_|refine hn5 _ ?_|refine he5 _ _ ?_|refine he4 _ _ ?_|refine hn3 _ ?_|refine he3 _ ?_|refine hf3 _ _ (by decide) ?_|refine hn2 _ ?_|refine he2 _ _ ?_|refine hn1 _ ?_|refine he1 _ _ ?_)
         refine zt fun KY hKY=>?_
         simp only[go_sem,YT,JN (show j<4611686018427387904 by omega)]
         apply hKY
         repeat (first|refine hn8 _ ?_|refine he8 _ _ ?_|refine hn7 _ ?_|refine he7 _ ?_|refine hf7 _ _ (by decide) ?_|refine hn6 _ ?_|refine he6 _ _ ?_|refine hn5 _ ?_|refine he5 _ _ ?_)
         refine hn4 _ (j+1) (w.length - (j+1)) (by omega) (by first|(simp only[go_sem,ze,zg];done)|with_reducible rfl) ?_
         refine⟨hj2,?_,rfl⟩
         rw[htk,List.all_append,hall]
         unfold qK;simp;omega
     have hdx:decide ((j:Int)<(w.length:Int))=false:=decide_eq_false (by omega)
     obtain rfl:j=w.length:=by omega
     rw[List.take_length] at hall
     have hn:ZX w=some (val w):=by rw[hnn _ hall];rfl
     refine za fun KY hKY=>?_
     simp only[go_sem,Qx,hdx]
     apply hKY
     refine zf fun X9 hn9 he9 hr9=>?_
     refine ZD ?_
     refine zS ?_
     repeat (first|refine hn9 _ ?_|refine he9 _ _ ?_|refine he4 _ _ ?_|refine hn3 _ ?_|refine he3 _ ?_|refine hf3 _ _ (by decide) ?_|refine hn2 _ ?_|refine he2 _ _ ?_|refine hn1 _ ?_|refine he1 _ _ ?_)
     rw[List.take_length]
     refine za fun KY hKY=>?_
     simp only[go_sem,YS]
     apply hKY
     refine zd ?_
     repeat (first|refine hr9 _ ?_|refine hr4 _ ?_|refine hr3 _ ?_|refine hr2 _ ?_|refine hr1 _ ?_)
     simp only[go_sem]
     rw[hn];rfl
   · have d3:decide (1<(w.length:Int))=false:=decide_eq_false (by omega)
     refine za fun KY hKY=>?_
     simp only[go_sem,qi,d1,d2,d3]
     apply hKY
     refine ZD ?_
     refine zi ?_
     repeat (first|refine hn1 _ ?_|refine he1 _ _ ?_)
     refine za fun KY hKY=>?_
     simp only[go_sem,W8]
     apply hKY
     refine zf fun X10 hn10 he10 hr10=>?_
     refine za fun KY hKY=>?_
     simp only[go_sem,W7,zU]
     apply hKY
     refine zr fun X11 hn11 he11 hf11 hr11=>?_
     try simp only[go_sem]
     refine ZL (α:=Nat) [9,39,47] (fun j=>[(7,.sc (.int .i64 ((val (w.take j):Nat):Int))),(38,.sc (.int .i64 (j:Int)))]) (fun j=>[]) (fun j q=>j≤w.length∧(w.take j).all qK=true∧q=w.length - j) (0) (w.length) rfl (by first|(simp only[go_sem,ze,zg];done)|with_reducible rfl|rfl) (⟨Nat.zero_le _,rfl,rfl⟩) ?_
     rintro j q ⟨hj,hall,rfl⟩ X12 hn12 he12 hr12
     simp only[go_sem,ze,zg]
     rcases Nat.lt_or_ge j w.length with hj2|hj2
     · have hdx:decide ((j:Int)<(w.length:Int))=true:=decide_eq_true (by omega)
       have hx:w[j]?=some w[j]:=List.getElem?_eq_getElem hj2
       have htk:w.take (j+1)=w.take j++[w[j]]:=by rw[List.take_add_one,hx];rfl
       have hda:w.all qK=true→qK w[j]=true:=fun h=>List.all_eq_true.1 h _ (List.getElem_mem hj2)
       have hlt:=(w[j]).toNat_lt
       generalize w[j]=c at hx htk hda hlt
       have hb:(ZG w)[j]?=some (.sc (.int .u8 (c.toNat:Int))):=by simp[ZG,hx]
       refine za fun KY hKY=>?_
       simp only[go_sem,Qx,hdx]
       apply hKY
       refine zf fun X13 hn13 he13 hr13=>?_
       refine Zl ?_
       refine zi ?_
       repeat (first|refine hn13 _ ?_|refine he13 _ _ ?_|refine he12 _ _ ?_|refine hn11 _ ?_|refine he11 _ ?_|refine hf11 _ _ (by decide) ?_|refine hn10 _ ?_|refine he10 _ _ ?_|refine hn1 _ ?_|refine he1 _ _ ?_)
       refine zf fun X14 hn14 he14 hr14=>?_
       refine zr fun X15 hn15 he15 hf15 hr15=>?_
       refine za fun KY hKY=>?_
       simp only[go_sem,W6,hb,zU,hj2,(show j+1≤w.length by omega)]
       apply hKY
       refine zf fun X16 hn16 he16 hr16=>?_
       rcases(show c.toNat<48∨(48≤c.toNat∧57<c.toNat)∨(48≤c.toNat∧c.toNat≤57) by omega) with h6|⟨h6,h7⟩|⟨h6,h7⟩
       · have d5:decide ((c.toNat:Int)<48)=true:=decide_eq_true (by omega)
         have hn:ZX w=none:=by
          rw[hnn _ rfl,if_pos]
          cases hw:w.all qK with
          |false=>rfl
          |true=>have:=hda hw;unfold qK at this;rw[Bool.and_eq_true,decide_eq_true_iff,decide_eq_true_iff] at this;omega
         refine za fun KY hKY=>?_
         simp only[go_sem,JK,d5]
         apply hKY
         refine Zl ?_
         refine za fun KY hKY=>?_
         simp only[go_sem,Qw]
         apply hKY
         refine zd ?_
         repeat (first|refine hr16 _ ?_|refine hr15 _ ?_|refine hr14 _ ?_|refine hr13 _ ?_|refine hr12 _ ?_|refine hr11 _ ?_|refine hr10 _ ?_|refine hr1 _ ?_)
         simp only[go_sem]
         rw[hn];rfl
       · have d5:decide ((c.toNat:Int)<48)=false:=decide_eq_false (by omega)
         have d6:decide (57<(c.toNat:Int))=true:=decide_eq_true (by omega)
         have hn:ZX w=none:=by
          rw[hnn _ rfl,if_pos]
          cases hw:w.all qK with
          |false=>rfl
          |true=>have:=hda hw;unfold qK at this;rw[Bool.and_eq_true,decide_eq_true_iff,decide_eq_true_iff] at this;omega
         refine za fun KY hKY=>?_
         simp only[go_sem,JK,d5,d6]
         apply hKY
         refine Zl ?_
         refine za fun KY hKY=>?_
         simp only[go_sem,Qw]
         apply hKY
         refine zd ?_
         repeat (first|refine hr16 _ ?_|refine hr15 _ ?_|refine hr14 _ ?_|refine hr13 _ ?_|refine hr12 _ ?_|refine hr11 _ ?_|refine hr10 _ ?_|refine hr1 _ ?_)
         simp only[go_sem]
         rw[hn];rfl
       · have d5:decide ((c.toNat:Int)<48)=false:=decide_eq_false (by omega)
         have d6:decide (57<(c.toNat:Int))=false:=decide_eq_false (by omega)
         have hv:=uw _ hall
         have hp:10^(w.take j).length≤10^9:=Nat.pow_le_pow_right (by omega) (by rw[List.length_take];omega)
         have hs:val (w.take (j+1))=10*val (w.take j)+(c.toNat - 48):=by rw[htk,J8]
         have w1:IntKind.i64.wrap (10*((val (w.take j):Nat):Int))=((10*val (w.take j):Nat):Int):=by rw[IntWalk.i64_in _ (by omega)];omega
         have w2:IntKind.u8.wrap ((c.toNat:Int) - 48)=((c.toNat - 48:Nat):Int):=by
          unfold IntKind.wrap;simp[IntKind.bits,IntKind.signed];omega
         have w3:IntKind.i64.wrap ((c.toNat - 48:Nat):Int)=((c.toNat - 48:Nat):Int):=IntWalk.i64_in _ (by omega)
         have w4:IntKind.i64.wrap (((10*val (w.take j):Nat):Int)+((c.toNat - 48:Nat):Int))=((val (w.take (j+1)):Nat):Int):=by rw[IntWalk.i64_in _ (by omega),hs];omega
         refine za fun KY hKY=>?_
         simp only[go_sem,JK,d5,d6]
         apply hKY
         refine ZD ?_
         refine zi ?_
         repeat (first|refine hn16 _ ?_|refine he16 _ _ ?_|refine hn15 _ ?_|refine he15 _ ?_|refine hf15 _ _ (by decide) ?_|refine hn14 _ ?_|refine he14 _ _ ?_|refine hn13 _ ?_|refine he13 _ _ ?_|refine he12 _ _ ?_|refine hn11 _ ?_|refine he11 _ ?_|refine hf11 _ _ (by decide) ?_|refine hn10 _ ?_|refine he10 _ _ ?_|refine hn1 _ ?_|refine he1 _ _ ?_)
         refine zt fun KY hKY=>?_
         simp only[go_sem,YU,w1,w2,w3,w4]
         apply hKY
         repeat (first|refine hn16 _ ?_|refine he16 _ _ ?_|refine hn15 _ ?_|refine he15 _ ?_|refine hf15 _ _ (by decide) ?_|refine hn14 _ ?_|refine he14 _ _ ?_|refine hn13 _ ?_|refine he13 _ _ ?_|refine he12 _ _ ?_|refine hn11 _ ?_|refine he11 _ ?_|refine hf11 _ _ (by decide) ?_|refine hn10 _ ?_|refine he10 _ _ ?_|refine hn1 _ ?_|refine he1 _ _ ?_)
         refine zt fun KY hKY=>?_
         simp only[go_sem,YT,JN (show j<4611686018427387904 by omega)]
         apply hKY
         repeat (first|refine hn16 _ ?_|refine he16 _ _ ?_|refine hn15 _ ?_|refine he15 _ ?_|refine hf15 _ _ (by decide) ?_|refine hn14 _ ?_|refine he14 _ _ ?_|refine hn13 _ ?_|refine he13 _ _ ?_)
         refine hn12 _ (j+1) (w.length - (j+1)) (by omega) (by first|(simp only[go_sem,ze,zg];done)|with_reducible rfl) ?_
         refine⟨hj2,?_,rfl⟩
         rw[htk,List.all_append,hall]
         unfold qK;simp;omega
     have hdx:decide ((j:Int)<(w.length:Int))=false:=decide_eq_false (by omega)
     obtain rfl:j=w.length:=by omega
     rw[List.take_length] at hall
     have hn:ZX w=some (val w):=by rw[hnn _ hall];rfl
     refine za fun KY hKY=>?_
     simp only[go_sem,Qx,hdx]
     apply hKY
     refine zf fun X17 hn17 he17 hr17=>?_
     refine ZD ?_
     refine zS ?_
     repeat (first|refine hn17 _ ?_|refine he17 _ _ ?_|refine he12 _ _ ?_|refine hn11 _ ?_|refine he11 _ ?_|refine hf11 _ _ (by decide) ?_|refine hn10 _ ?_|refine he10 _ _ ?_|refine hn1 _ ?_|refine he1 _ _ ?_)
     rw[List.take_length]
     refine za fun KY hKY=>?_
     simp only[go_sem,YS]
     apply hKY
     refine zd ?_
     repeat (first|refine hr17 _ ?_|refine hr12 _ ?_|refine hr11 _ ?_|refine hr10 _ ?_|refine hr1 _ ?_)
     simp only[go_sem]
     rw[hn];rfl
end Go.Proofs.YtneiihheeghdcaaDoor
set_option maxHeartbeats 8000000
namespace Go.Proofs.YtneiihheeghdcaaDoor
open Go Go.Ga Go.Ga.Gl
theorem UI (l:List UInt8)(hl:l.length≤1000000000):zn Tryd.prog [] zeG [.sc (.string (Zt l))] [] fun r h'=>r= .tup [.agg (Zf l).1.cells,.sc (.int .i64 (Zf l).2)]∧h'=[]:=by
 refine zeP rfl ?_
 unfold zeX ZH
 refine za fun KY hKY=>?_
 simp only[go_sem,Gb]
 apply hKY
 refine zf fun X1 hn1 he1 hr1=>?_
 by_cases hlen:65536<l.length
 · have d1:decide (65536<(l.length:Int))=true:=decide_eq_true (by omega)
   have hres:Zf l=(⟨0,0,0,[]⟩,8):=if_pos hlen
   refine za fun KY hKY=>?_
   simp only[go_sem,u3,d1]
   apply hKY
   refine Zl ?_
   refine za fun KY hKY=>?_
   simp only[go_sem,g9]
   apply hKY
   refine Za [0,2,3] 1 (by simp only[go_sem]) ?_
   simp only[go_sem]
   refine zv [0,2,3] (by simp only[go_sem];rfl) ?_
   simp only[go_sem]
   refine zd ?_
   repeat (first|refine hr1 _ ?_)
   simp only[go_sem]
   rw[hres];rfl
 have d1:decide (65536<(l.length:Int))=false:=decide_eq_false (by omega)
 have hS:=o8 l hl
 have hne:=ji 32 l
 have hsl:=jY 32 l
 have hcl:=jj 32 l
 have hpar:Zf l=_:=if_neg hlen
 obtain⟨p,ts,hsp⟩:∃p ts,zx 32 l=p::ts:=by
  cases h:zx 32 l with
  |nil=>exact absurd h hne
  |cons p ts=>exact⟨p,ts,rfl⟩
 rw[hsp] at hS hsl hpar
 simp only[List.headD_cons,List.tail_cons,List.length_cons] at hpar hsl
 have hwl:∀w∈p::ts,w.length≤1000000000:=fun w hw=>Nat.le_trans (yh 32 l w (by rw[hsp];exact hw)) hl
 refine za fun KY hKY=>?_
 simp only[go_sem,u3,d1]
 apply hKY
 refine ZD ?_
 refine zi ?_
 repeat (first|refine hn1 _ ?_|refine he1 _ _ ?_)
 refine za fun KY hKY=>?_
 simp only[go_sem,g8]
 apply z7 [] [] false none rfl
 iterate 8 (first|(simp only[go_sem,zJ]<;>rfl)|rfl)
 refine(hS).mono ?_
 rintro _ _ ⟨rfl,rfl⟩
 refine⟨Nat.le_of_ble_eq_true rfl,(fun hh=>by cases hh),?_⟩
 simp only[go_sem,zZ,zc.after]
 apply hKY
 refine zv [0,4] (by simp only[go_sem];rfl) ?_
 simp only[go_sem]
 have hfl:(Ze xJ yZ).length=30:=rfl
 refine za fun KY hKY=>?_
 simp only[go_sem,g7]
 apply z7 [] [] false none rfl
 iterate 8 (first|(simp only[go_sem,zJ]<;>rfl)|rfl)
 refine(yY).mono ?_
 rintro _ _ ⟨rfl,rfl⟩
 refine⟨Nat.le_of_ble_eq_true rfl,(fun hh=>by cases hh),?_⟩
 simp only[go_sem,zZ,zc.after,Jp,hfl,List.length_cons,List.length_nil]
 apply hKY
 refine zv [0,5] (by simp only[go_sem];rfl) ?_
 simp only[go_sem]
 have htk:List.take 30 (Ze xJ yZ)=Ze xJ yZ:=rfl
 refine za fun KY hKY=>?_
 simp only[go_sem,g6,hfl,htk,List.drop_zero]
 refine zh rfl (by simp only[go_sem]<;>rfl) ((pA yZ p ts (by decide)).mono ?_)
 rintro rr hh ⟨⟨z,rfl,hz⟩,rfl⟩
 refine⟨?_,?_,?_,?_⟩
 iterate 3 (first|rfl|simp only[go_sem])
 simp only[go_sem]
 apply hKY
 refine zf fun X2 hn2 he2 hr2=>?_
 rcases hz with⟨rfl,hno⟩|⟨i,rfl,hi⟩
 · have hres:Zf l=(⟨0,0,0,[]⟩,15):=by rw[hpar,hno]
   refine Zb fun KY hKY=>?_
   simp only[go_sem,y7]
   apply hKY
   refine Zl ?_
   refine za fun KY hKY=>?_
   simp only[go_sem,u0]
   apply hKY
   refine Za [0,2,3] 1 (by simp only[go_sem]) ?_
   simp only[go_sem]
   refine zv [0,2,3] (by simp only[go_sem];rfl) ?_
   simp only[go_sem]
   refine zd ?_
   repeat (first|refine hr2 _ ?_|refine hr1 _ ?_)
   simp only[go_sem]
   rw[hres];rfl
 have hi15:i<15:=by
  have:=(List.findIdx?_eq_some_iff_getElem.1 hi).1
  exact this
 have hx:yZ[i]?=some yZ[i]:=List.getElem?_eq_getElem hi15
 have hgd:yZ.getD i ([],0)=yZ[i]:=by rw[List.getD_eq_getElem?_getD,hx];rfl
 rw[hi] at hpar
 simp only[hgd] at hpar
 have hfn: -1≤yZ[i].2∧yZ[i].2≤2:=by
  have:∀x∈yZ, -1≤x.2∧x.2≤2:=by decide
  exact this _ (List.getElem_mem hi15)
 generalize yZ[i]=x at hx hpar hfn hgd
 obtain⟨fw,n⟩:=x
 simp only at hpar hfn
 have hg1:(Ze xJ yZ)[i*2+1]?=some (.sc (.int .i64 n)):=pd yW hx 1 (by decide)
 have di:decide ((i:Int)<0)=false:=decide_eq_false (by omega)
 have hi15':(i:Int).toNat<15:=by omega
 by_cases hbad:0≤n∧((ts.length:Int)+1≠n+1)
 · have hres:Zf l=(⟨0,0,0,[]⟩,15):=by rw[hpar,if_pos (by omega)]
   have dn:decide (0≤n)=true:=decide_eq_true hbad.1
   have w1:IntKind.i64.wrap (n+1)=n+1:=IntWalk.i64_in _ (by omega)
   have dd:decide (((ts.length+1:Nat):Int)≠n+1)=true:=decide_eq_true (by omega)
   refine Zb fun KY hKY=>?_
   simp only[go_sem,y7,di,hi15,hg1,dn,w1,dd,zK]
   apply hKY
   refine Zl ?_
   refine za fun KY hKY=>?_
   simp only[go_sem,u0]
   apply hKY
   refine Za [0,2,3] 1 (by simp only[go_sem]) ?_
   simp only[go_sem]
   refine zv [0,2,3] (by simp only[go_sem];rfl) ?_
   simp only[go_sem]
   refine zd ?_
   repeat (first|refine hr2 _ ?_|refine hr1 _ ?_)
   simp only[go_sem]
   rw[hres];rfl
 replace hpar:=hpar.trans (if_neg (show¬(0≤n∧((ts.length+1:Nat):Int)≠n+1) by omega))
 rcases(show n<0∨(0≤n∧(ts.length:Int)=n) by omega) with hneg|⟨hpos,hlen2⟩
 · have dn:decide (0≤n)=false:=decide_eq_false (by omega)
   have dn2:decide (n<0)=true:=decide_eq_true hneg
   refine Zb fun KY hKY=>?_
   simp only[go_sem,y7,di,hi15,hg1,dn]
   apply hKY
   refine ZD ?_
   refine zi ?_
   repeat (first|refine hn2 _ ?_|refine he2 _ _ ?_|refine hn1 _ ?_|refine he1 _ _ ?_)
   refine za fun KY hKY=>?_
   simp only[go_sem,uZ]
   apply hKY
   refine za fun KY hKY=>?_
   simp only[go_sem,uY]
   apply hKY
   refine Za [0,8] 1 (by simp only[go_sem]) ?_
   simp only[go_sem]
   refine zf fun X3 hn3 he3 hr3=>?_
   refine za fun KY hKY=>?_
   simp only[go_sem,WN]
   apply hKY
   refine zr fun X4 hn4 he4 hf4 hr4=>?_
   try simp only[go_sem]
   refine ZL (α:=Nat×List Nat) [10,11,56,66] (fun(j,ns)=>[(8,.own (some 1) (Z6 ns)),(9,.sc (.int .i64 ((j+1:Nat):Int)))]) (fun(j,ns)=>[]) (fun(j,ns) q=>j≤ts.length∧Zc (ts.take j)=some ns∧ns.length=j∧q=ts.length - j) ((0,[])) (ts.length) rfl (by first|(simp only[go_sem,ze,zg];done)|with_reducible rfl|rfl) (⟨Nat.zero_le _,rfl,rfl,rfl⟩) ?_
   rintro⟨j,ns⟩ q ⟨hj,hns,hnl,rfl⟩ X5 hn5 he5 hr5
   simp only[go_sem,ze,zg]
   refine zf fun X6 hn6 he6 hr6=>?_
   rcases Nat.lt_or_ge j ts.length with hj2|hj2
   · have hdx:decide (((j+1:Nat):Int)<((ts.length+1:Nat):Int))=true:=decide_eq_true (by omega)
     have hw:ts[j]?=some ts[j]:=List.getElem?_eq_getElem hj2
     have hwm:=hwl _ (.tail _ (List.getElem_mem hj2))
     have htl:ts=ts.take j++ts[j]::ts.drop (j+1):=by rw[←List.drop_eq_getElem_cons hj2,List.take_append_drop]
     have htk:ts.take (j+1)=ts.take j++[ts[j]]:=by rw[List.take_add_one,hw];rfl
     generalize ts[j]=w at hw hwm htl htk
     have hN:=Xo (p::ts) (k:=j+1) (w:=w) (by simpa using hw) hwm
     cases hnb:ZX w with
     | none=>
       have hres:Zf l=(⟨0,0,0,[]⟩,15):=by
        have:Zc ts=none:=by rw[htl];exact qG hnb
        rw[hpar,this]
       rw[hnb] at hN
       refine za fun KY hKY=>?_
       simp only[go_sem,JI,hdx,zK]
       apply hKY
       refine Zl ?_
       refine zi ?_
       repeat (first|refine hn6 _ ?_|refine he6 _ _ ?_|refine he5 _ _ ?_|refine hn4 _ ?_|refine he4 _ ?_|refine hf4 _ _ (by decide) ?_|refine hn3 _ ?_|refine he3 _ _ ?_|refine hn2 _ ?_|refine he2 _ _ ?_|refine hn1 _ ?_|refine he1 _ _ ?_)
       refine zf fun X7 hn7 he7 hr7=>?_
       refine zr fun X8 hn8 he8 hf8 hr8=>?_
       refine za fun KY hKY=>?_
       simp only[go_sem,Qv]
       refine zh rfl (by simp only[go_sem]<;>rfl) ((hN).mono ?_)
       rintro rr hh ⟨rfl,rfl⟩
       refine⟨rfl,rfl,rfl,?_⟩
       simp only[go_sem]
       apply hKY
       refine zf fun X9 hn9 he9 hr9=>?_
       refine za fun KY hKY=>?_
       simp only[go_sem,Qu]
       apply hKY
       refine Zl ?_
       refine za fun KY hKY=>?_
       simp only[go_sem,WM]
       apply hKY
       refine Za [0,2,3] 1 (by simp only[go_sem]) ?_
       simp only[go_sem]
       refine zv [0,2,3] (by simp only[go_sem];rfl) ?_
       simp only[go_sem]
       refine zd ?_
       repeat (first|refine hr9 _ ?_|refine hr8 _ ?_|refine hr7 _ ?_|refine hr6 _ ?_|refine hr5 _ ?_|refine hr4 _ ?_|refine hr3 _ ?_|refine hr2 _ ?_|refine hr1 _ ?_)
       simp only[go_sem]
       rw[hres];rfl
     | some v=>
       rw[hnb] at hN
       refine za fun KY hKY=>?_
       simp only[go_sem,JI,hdx,zK]
       apply hKY
       refine Zl ?_
       refine zi ?_
       repeat (first|refine hn6 _ ?_|refine he6 _ _ ?_|refine he5 _ _ ?_|refine hn4 _ ?_|refine he4 _ ?_|refine hf4 _ _ (by decide) ?_|refine hn3 _ ?_|refine he3 _ _ ?_|refine hn2 _ ?_|refine he2 _ _ ?_|refine hn1 _ ?_|refine he1 _ _ ?_)
       refine zf fun X10 hn10 he10 hr10=>?_
       refine zr fun X11 hn11 he11 hf11 hr11=>?_
       refine za fun KY hKY=>?_
       simp only[go_sem,Qv]
       refine zh rfl (by simp only[go_sem]<;>rfl) ((hN).mono ?_)
       rintro rr hh ⟨rfl,rfl⟩
       refine⟨rfl,rfl,rfl,?_⟩
       simp only[go_sem]
       apply hKY
       refine zf fun X12 hn12 he12 hr12=>?_
       refine za fun KY hKY=>?_
       simp only[go_sem,Qu]
       apply hKY
       refine ZD ?_
       refine zi ?_
       repeat (first|refine hn12 _ ?_|refine he12 _ _ ?_|refine hn11 _ ?_|refine he11 _ ?_|refine hf11 _ _ (by decide) ?_|refine hn10 _ ?_|refine he10 _ _ ?_|refine hn6 _ ?_|refine he6 _ _ ?_|refine he5 _ _ ?_|refine hn4 _ ?_|refine he4 _ ?_|refine hf4 _ _ (by decide) ?_|refine hn3 _ ?_|refine he3 _ _ ?_|refine hn2 _ ?_|refine he2 _ _ ?_|refine hn1 _ ?_|refine he1 _ _ ?_)
       refine zt fun KY hKY=>?_
       simp only[go_sem,WL,Yz,qc,hnl,(show(j+1)*8≤140737488355328 by omega)]
       apply hKY
       repeat (first|refine hn12 _ ?_|refine he12 _ _ ?_|refine hn11 _ ?_|refine he11 _ ?_|refine hf11 _ _ (by decide) ?_|refine hn10 _ ?_|refine he10 _ _ ?_|refine hn6 _ ?_|refine he6 _ _ ?_|refine he5 _ _ ?_|refine hn4 _ ?_|refine he4 _ ?_|refine hf4 _ _ (by decide) ?_|refine hn3 _ ?_|refine he3 _ _ ?_|refine hn2 _ ?_|refine he2 _ _ ?_|refine hn1 _ ?_|refine he1 _ _ ?_)
       refine zt fun KY hKY=>?_
       simp only[go_sem,WK,JN (show j+1<4611686018427387904 by omega)]
       apply hKY
       repeat (first|refine hn12 _ ?_|refine he12 _ _ ?_|refine hn11 _ ?_|refine he11 _ ?_|refine hf11 _ _ (by decide) ?_|refine hn10 _ ?_|refine he10 _ _ ?_|refine hn6 _ ?_|refine he6 _ _ ?_)
       refine hn5 _ ((j+1,ns++[v])) (ts.length - (j+1)) (by omega) (by first|(simp only[go_sem,ze,zg];done)|with_reducible rfl) ?_
       refine⟨hj2,?_,by simp[hnl],rfl⟩
       rw[htk,jH,hns]
       show(Zc [w]).map _=_
       unfold Zc
       rw[hnb];rfl
   have hdx:decide (((j+1:Nat):Int)<((ts.length+1:Nat):Int))=false:=decide_eq_false (by omega)
   obtain rfl:j=ts.length:=by omega
   rw[List.take_length] at hns
   rw[hns] at hpar
   refine za fun KY hKY=>?_
   simp only[go_sem,JI,hdx,zK]
   apply hKY
   refine ZD ?_
   refine zS ?_
   repeat (first|refine hn6 _ ?_|refine he6 _ _ ?_|refine he5 _ _ ?_|refine hn4 _ ?_|refine he4 _ ?_|refine hf4 _ _ (by decide) ?_|refine hn3 _ ?_|refine he3 _ _ ?_|refine hn2 _ ?_|refine he2 _ _ ?_|refine hn1 _ ?_|refine he1 _ _ ?_)
   have hres:Zf l=(⟨i,0,0,ns⟩,0):=hpar.trans (if_pos hneg)
   refine zv [0,8] (by simp only[go_sem];rfl) ?_
   simp only[go_sem]
   refine za fun KY hKY=>?_
   simp only[go_sem,WJ]
   apply hKY
   refine zf fun X13 hn13 he13 hr13=>?_
   refine za fun KY hKY=>?_
   simp only[go_sem,WI,hi15,hg1,dn2]
   apply hKY
   refine Zl ?_
   refine za fun KY hKY=>?_
   simp only[go_sem,vk]
   apply hKY
   refine za fun KY hKY=>?_
   simp only[go_sem,vi]
   apply hKY
   refine zd ?_
   repeat (first|refine hr13 _ ?_|refine hr6 _ ?_|refine hr5 _ ?_|refine hr4 _ ?_|refine hr3 _ ?_|refine hr2 _ ?_|refine hr1 _ ?_)
   simp only[go_sem]
   rw[hres];rfl
 · have dn:decide (0≤n)=true:=decide_eq_true hpos
   have dn2:decide (n<0)=false:=decide_eq_false (by omega)
   have w1:IntKind.i64.wrap (n+1)=n+1:=IntWalk.i64_in _ (by omega)
   have dd:decide (((ts.length+1:Nat):Int)≠n+1)=false:=decide_eq_false (by omega)
   refine Zb fun KY hKY=>?_
   simp only[go_sem,y7,di,hi15,hg1,dn,w1,dd,zK]
   apply hKY
   refine ZD ?_
   refine zi ?_
   repeat (first|refine hn2 _ ?_|refine he2 _ _ ?_|refine hn1 _ ?_|refine he1 _ _ ?_)
   refine za fun KY hKY=>?_
   simp only[go_sem,uZ]
   apply hKY
   refine za fun KY hKY=>?_
   simp only[go_sem,uY]
   apply hKY
   refine Za [0,8] 1 (by simp only[go_sem]) ?_
   simp only[go_sem]
   refine zf fun X14 hn14 he14 hr14=>?_
   refine za fun KY hKY=>?_
   simp only[go_sem,WN]
   apply hKY
   refine zr fun X15 hn15 he15 hf15 hr15=>?_
   try simp only[go_sem]
   refine ZL (α:=Nat×List Nat) [10,11,56,66] (fun(j,ns)=>[(8,.own (some 1) (Z6 ns)),(9,.sc (.int .i64 ((j+1:Nat):Int)))]) (fun(j,ns)=>[]) (fun(j,ns) q=>j≤ts.length∧Zc (ts.take j)=some ns∧ns.length=j∧q=ts.length - j) ((0,[])) (ts.length) rfl (by first|(simp only[go_sem,ze,zg];done)|with_reducible rfl|rfl) (⟨Nat.zero_le _,rfl,rfl,rfl⟩) ?_
   rintro⟨j,ns⟩ q ⟨hj,hns,hnl,rfl⟩ X16 hn16 he16 hr16
   simp only[go_sem,ze,zg]
   refine zf fun X17 hn17 he17 hr17=>?_
   rcases Nat.lt_or_ge j ts.length with hj2|hj2
   · have hdx:decide (((j+1:Nat):Int)<((ts.length+1:Nat):Int))=true:=decide_eq_true (by omega)
     have hw:ts[j]?=some ts[j]:=List.getElem?_eq_getElem hj2
     have hwm:=hwl _ (.tail _ (List.getElem_mem hj2))
     have htl:ts=ts.take j++ts[j]::ts.drop (j+1):=by rw[←List.drop_eq_getElem_cons hj2,List.take_append_drop]
     have htk:ts.take (j+1)=ts.take j++[ts[j]]:=by rw[List.take_add_one,hw];rfl
     generalize ts[j]=w at hw hwm htl htk
     have hN:=Xo (p::ts) (k:=j+1) (w:=w) (by simpa using hw) hwm
     cases hnb:ZX w with
     | none=>
       have hres:Zf l=(⟨0,0,0,[]⟩,15):=by
        have:Zc ts=none:=by rw[htl];exact qG hnb
        rw[hpar,this]
       rw[hnb] at hN
       refine za fun KY hKY=>?_
       simp only[go_sem,JI,hdx,zK]
       apply hKY
       refine Zl ?_
       refine zi ?_
       repeat (first|refine hn17 _ ?_|refine he17 _ _ ?_|refine he16 _ _ ?_|refine hn15 _ ?_|refine he15 _ ?_|refine hf15 _ _ (by decide) ?_|refine hn14 _ ?_|refine he14 _ _ ?_|refine hn2 _ ?_|refine he2 _ _ ?_|refine hn1 _ ?_|refine he1 _ _ ?_)
       refine zf fun X18 hn18 he18 hr18=>?_
       refine zr fun X19 hn19 he19 hf19 hr19=>?_
       refine za fun KY hKY=>?_
       simp only[go_sem,Qv]
       refine zh rfl (by simp only[go_sem]<;>rfl) ((hN).mono ?_)
       rintro rr hh ⟨rfl,rfl⟩
       refine⟨rfl,rfl,rfl,?_⟩
       simp only[go_sem]
       apply hKY
       refine zf fun X20 hn20 he20 hr20=>?_
       refine za fun KY hKY=>?_
       simp only[go_sem,Qu]
       apply hKY
       refine Zl ?_
       refine za fun KY hKY=>?_
       simp only[go_sem,WM]
       apply hKY
       refine Za [0,2,3] 1 (by simp only[go_sem]) ?_
       simp only[go_sem]
       refine zv [0,2,3] (by simp only[go_sem];rfl) ?_
       simp only[go_sem]
       refine zd ?_
       repeat (first|refine hr20 _ ?_|refine hr19 _ ?_|refine hr18 _ ?_|refine hr17 _ ?_|refine hr16 _ ?_|refine hr15 _ ?_|refine hr14 _ ?_|refine hr2 _ ?_|refine hr1 _ ?_)
       simp only[go_sem]
       rw[hres];rfl
     | some v=>
       rw[hnb] at hN
       refine za fun KY hKY=>?_
       simp only[go_sem,JI,hdx,zK]
       apply hKY
       refine Zl ?_
       refine zi ?_
       repeat (first|refine hn17 _ ?_|refine he17 _ _ ?_|refine he16 _ _ ?_|refine hn15 _ ?_|refine he15 _ ?_|refine hf15 _ _ (by decide) ?_|refine hn14 _ ?_|refine he14 _ _ ?_|refine hn2 _ ?_|refine he2 _ _ ?_|refine hn1 _ ?_|refine he1 _ _ ?_)
       refine zf fun X21 hn21 he21 hr21=>?_
       refine zr fun X22 hn22 he22 hf22 hr22=>?_
       refine za fun KY hKY=>?_
       simp only[go_sem,Qv]
       refine zh rfl (by simp only[go_sem]<;>rfl) ((hN).mono ?_)
       rintro rr hh ⟨rfl,rfl⟩
       refine⟨rfl,rfl,rfl,?_⟩
       simp only[go_sem]
       apply hKY
       refine zf fun X23 hn23 he23 hr23=>?_
       refine za fun KY hKY=>?_
       simp only[go_sem,Qu]
       apply hKY
       refine ZD ?_
       refine zi ?_
       repeat (first|refine hn23 _ ?_|refine he23 _ _ ?_|refine hn22 _ ?_|refine he22 _ ?_|refine hf22 _ _ (by decide) ?_|refine hn21 _ ?_|refine he21 _ _ ?_|refine hn17 _ ?_|refine he17 _ _ ?_|refine he16 _ _ ?_|refine hn15 _ ?_|refine he15 _ ?_|refine hf15 _ _ (by decide) ?_|refine hn14 _ ?_|refine he14 _ _ ?_|refine hn2 _ ?_|refine he2 _ _ ?_|refine hn1 _ ?_|refine he1 _ _ ?_)
       refine zt fun KY hKY=>?_
       simp only[go_sem,WL,Yz,qc,hnl,(show(j+1)*8≤140737488355328 by omega)]
       apply hKY
       repeat (first|refine hn23 _ ?_|refine he23 _ _ ?_|refine hn22 _ ?_|refine he22 _ ?_|refine hf22 _ _ (by decide) ?_|refine hn21 _ ?_|refine he21 _ _ ?_|refine hn17 _ ?_|refine he17 _ _ ?_|refine he16 _ _ ?_|refine hn15 _ ?_|refine he15 _ ?_|refine hf15 _ _ (by decide) ?_|refine hn14 _ ?_|refine he14 _ _ ?_|refine hn2 _ ?_|refine he2 _ _ ?_|refine hn1 _ ?_|refine he1 _ _ ?_)
       refine zt fun KY hKY=>?_
       simp only[go_sem,WK,JN (show j+1<4611686018427387904 by omega)]
       apply hKY
       repeat (first|refine hn23 _ ?_|refine he23 _ _ ?_|refine hn22 _ ?_|refine he22 _ ?_|refine hf22 _ _ (by decide) ?_|refine hn21 _ ?_|refine he21 _ _ ?_|refine hn17 _ ?_|refine he17 _ _ ?_)
       refine hn16 _ ((j+1,ns++[v])) (ts.length - (j+1)) (by omega) (by first|(simp only[go_sem,ze,zg];done)|with_reducible rfl) ?_
       refine⟨hj2,?_,by simp[hnl],rfl⟩
       rw[htk,jH,hns]
       show(Zc [w]).map _=_
       unfold Zc
       rw[hnb];rfl
   have hdx:decide (((j+1:Nat):Int)<((ts.length+1:Nat):Int))=false:=decide_eq_false (by omega)
   obtain rfl:j=ts.length:=by omega
   rw[List.take_length] at hns
   rw[hns] at hpar
   refine za fun KY hKY=>?_
   simp only[go_sem,JI,hdx,zK]
   apply hKY
   refine ZD ?_
   refine zS ?_
   repeat (first|refine hn17 _ ?_|refine he17 _ _ ?_|refine he16 _ _ ?_|refine hn15 _ ?_|refine he15 _ ?_|refine hf15 _ _ (by decide) ?_|refine hn14 _ ?_|refine he14 _ _ ?_|refine hn2 _ ?_|refine he2 _ _ ?_|refine hn1 _ ?_|refine he1 _ _ ?_)
   replace hpar:=hpar.trans (if_neg (show¬n<0 by omega))
   have hap:Z6 ns++[.sc (.int .i64 0),.sc (.int .i64 0)]=Z6 (ns++[0,0]):=by simp[Z6]
   have hl2:(ns++[0,0]).length=ns.length+2:=by simp
   obtain⟨a,ha⟩:∃a,a=ns.getD 0 0:=⟨_,rfl⟩
   obtain⟨b,hb⟩:∃b,b=ns.getD 1 0:=⟨_,rfl⟩
   have h0:(Z6 (ns++[0,0]))[0]?=some (.sc (.int .i64 (a:Int))):=by
    rw[UL (by omega),ha]
    rcases ns with _|⟨x,_|⟨y,r⟩⟩<;>rfl
   have h1:(Z6 (ns++[0,0]))[1]?=some (.sc (.int .i64 (b:Int))):=by
    rw[UL (by omega),hb]
    rcases ns with _|⟨x,_|⟨y,r⟩⟩<;>rfl
   rw[←ha,←hb] at hpar
   refine za fun KY hKY=>?_
   simp only[go_sem,WJ]
   apply hKY
   refine zf fun X24 hn24 he24 hr24=>?_
   refine za fun KY hKY=>?_
   simp only[go_sem,WI,hi15,hg1,dn2]
   apply hKY
   refine ZD ?_
   refine zi ?_
   repeat (first|refine hn24 _ ?_|refine he24 _ _ ?_|refine hn17 _ ?_|refine he17 _ _ ?_|refine he16 _ _ ?_|refine hn15 _ ?_|refine he15 _ ?_|refine hf15 _ _ (by decide) ?_|refine hn14 _ ?_|refine he14 _ _ ?_|refine hn2 _ ?_|refine he2 _ _ ?_|refine hn1 _ ?_|refine he1 _ _ ?_)
   refine za fun KY hKY=>?_
   simp only[go_sem,vh,qc,hap,(show(ns.length+2)*8≤140737488355328 by omega)]
   apply hKY
   refine Zb fun KY hKY=>?_
   simp only[go_sem,vg,h0,h1,qc,hl2,(show 1≤ns.length+2 by omega),(show 2≤ns.length+2 by omega),(show([0,12]==[0,8])=false from rfl),Bool.not_false]
   apply hKY
   refine zf fun X25 hn25 he25 hr25=>?_
   by_cases h6:i=6
   · have d6:decide ((i:Int)=6)=true:=decide_eq_true (by omega)
     by_cases h61:a=1
     · have d61:decide ((a:Int)≠1)=false:=decide_eq_false (by omega)
       have hres:Zf l=(⟨i,a,b,[]⟩,0):=hpar.trans (if_neg (by omega))
       refine za fun KY hKY=>?_
       simp only[go_sem,Qt,d6,d61]
       apply hKY
       refine ZD ?_
       refine zi ?_
       repeat (first|refine hn25 _ ?_|refine he25 _ _ ?_|refine hn24 _ ?_|refine he24 _ _ ?_|refine hn17 _ ?_|refine he17 _ _ ?_|refine he16 _ _ ?_|refine hn15 _ ?_|refine he15 _ ?_|refine hf15 _ _ (by decide) ?_|refine hn14 _ ?_|refine he14 _ _ ?_|refine hn2 _ ?_|refine he2 _ _ ?_|refine hn1 _ ?_|refine he1 _ _ ?_)
       refine za fun KY hKY=>?_
       simp only[go_sem,y8]
       apply hKY
       refine Za [0,2,3] 1 (by simp only[go_sem]) ?_
       simp only[go_sem]
       refine zv [0,2,3] (by simp only[go_sem];rfl) ?_
       simp only[go_sem]
       refine zd ?_
       repeat (first|refine hr25 _ ?_|refine hr24 _ ?_|refine hr17 _ ?_|refine hr16 _ ?_|refine hr15 _ ?_|refine hr14 _ ?_|refine hr2 _ ?_|refine hr1 _ ?_)
       simp only[go_sem]
       rw[hres];rfl
     · have d61:decide ((a:Int)≠1)=true:=decide_eq_true (by omega)
       by_cases h62:a=2
       · have d62:decide ((a:Int)≠2)=false:=decide_eq_false (by omega)
         have hres:Zf l=(⟨i,a,b,[]⟩,0):=hpar.trans (if_neg (by omega))
         refine za fun KY hKY=>?_
         simp only[go_sem,Qt,d6,d61,d62]
         apply hKY
         refine ZD ?_
         refine zi ?_
         repeat (first|refine hn25 _ ?_|refine he25 _ _ ?_|refine hn24 _ ?_|refine he24 _ _ ?_|refine hn17 _ ?_|refine he17 _ _ ?_|refine he16 _ _ ?_|refine hn15 _ ?_|refine he15 _ ?_|refine hf15 _ _ (by decide) ?_|refine hn14 _ ?_|refine he14 _ _ ?_|refine hn2 _ ?_|refine he2 _ _ ?_|refine hn1 _ ?_|refine he1 _ _ ?_)
         refine za fun KY hKY=>?_
         simp only[go_sem,y8]
         apply hKY
         refine Za [0,2,3] 1 (by simp only[go_sem]) ?_
         simp only[go_sem]
         refine zv [0,2,3] (by simp only[go_sem];rfl) ?_
         simp only[go_sem]
         refine zd ?_
         repeat (first|refine hr25 _ ?_|refine hr24 _ ?_|refine hr17 _ ?_|refine hr16 _ ?_|refine hr15 _ ?_|refine hr14 _ ?_|refine hr2 _ ?_|refine hr1 _ ?_)
         simp only[go_sem]
         rw[hres];rfl
       · have d62:decide ((a:Int)≠2)=true:=decide_eq_true (by omega)
         have hres:Zf l=(⟨0,0,0,[]⟩,15):=hpar.trans (if_pos ⟨h6,h61,h62⟩)
         refine za fun KY hKY=>?_
         simp only[go_sem,Qt,d6,d61,d62]
         apply hKY
         refine Zl ?_
         refine za fun KY hKY=>?_
         simp only[go_sem,vf]
         apply hKY
         refine Za [0,2,3] 1 (by simp only[go_sem]) ?_
         simp only[go_sem]
         refine zv [0,2,3] (by simp only[go_sem];rfl) ?_
         simp only[go_sem]
         refine zd ?_
         repeat (first|refine hr25 _ ?_|refine hr24 _ ?_|refine hr17 _ ?_|refine hr16 _ ?_|refine hr15 _ ?_|refine hr14 _ ?_|refine hr2 _ ?_|refine hr1 _ ?_)
         simp only[go_sem]
         rw[hres];rfl
   · have d6:decide ((i:Int)=6)=false:=decide_eq_false (by omega)
     have hres:Zf l=(⟨i,a,b,[]⟩,0):=hpar.trans (if_neg (by omega))
     refine za fun KY hKY=>?_
     simp only[go_sem,Qt,d6]
     apply hKY
     refine ZD ?_
     refine zi ?_
     repeat (first|refine hn25 _ ?_|refine he25 _ _ ?_|refine hn24 _ ?_|refine he24 _ _ ?_|refine hn17 _ ?_|refine he17 _ _ ?_|refine he16 _ _ ?_|refine hn15 _ ?_|refine he15 _ ?_|refine hf15 _ _ (by decide) ?_|refine hn14 _ ?_|refine he14 _ _ ?_|refine hn2 _ ?_|refine he2 _ _ ?_|refine hn1 _ ?_|refine he1 _ _ ?_)
     refine za fun KY hKY=>?_
     simp only[go_sem,y8]
     apply hKY
     refine Za [0,2,3] 1 (by simp only[go_sem]) ?_
     simp only[go_sem]
     refine zv [0,2,3] (by simp only[go_sem];rfl) ?_
     simp only[go_sem]
     refine zd ?_
     repeat (first|refine hr25 _ ?_|refine hr24 _ ?_|refine hr17 _ ?_|refine hr16 _ ?_|refine hr15 _ ?_|refine hr14 _ ?_|refine hr2 _ ?_|refine hr1 _ ?_)
     simp only[go_sem]
     rw[hres];rfl
theorem qL :zn Tryd.prog [] zcI [] [] fun r h'=>r= .sc (.bool true)∧h'=[]:=by
 have hP:=UI [97,100,100,32,49,32,50] (by decide)
 rw[show Zf [97,100,100,32,49,32,50]=(⟨2,1,2,[]⟩,0) by kernel_rfl] at hP
 unfold yB.cells at hP
 simp only at hP
 refine zeh rfl ?_
 unfold zdm wQ
 refine za fun KY hKY=>?_
 simp only[go_sem,Kh]
 apply hKY
 refine za fun KY hKY=>?_
 simp only[go_sem,Kg]
 apply z7 [] [] false none rfl
 iterate 8 (first|(simp only[go_sem,zJ]<;>rfl)|rfl)
 refine(hP).mono ?_
 rintro _ _ ⟨rfl,rfl⟩
 refine⟨Nat.le_of_ble_eq_true rfl,(fun hh=>by cases hh),?_⟩
 simp only[go_sem,zZ,zc.after]
 apply hKY
 refine za fun KY hKY=>?_
 simp only[go_sem,Kf]
 apply hKY
 refine zd ?_
 simp only[go_sem]
theorem U8 (n q m:Nat)(ds:List UInt8)(t1:IntKind.i64.wrap ((n:Int).tdiv 10)=(q:Int))(t2:(n:Int).tmod 10=(m:Int))(h:¬n<10)(hm:m<10)(ha:jo .add (Zt ds) (Zt [UInt8.ofNat (48+m)])=some (.string (Zt (ds++[UInt8.ofNat (48+m)]))))
    (hD:zn Tryd.prog [] Xq [.sc (.int .i64 (q:Int))] [] fun r h'=>r= .sc (.string (Zt ds))∧h'=[]):zn Tryd.prog [] Xq [.sc (.int .i64 (n:Int))] [] fun r h'=>r= .sc (.string (Zt (ds++[UInt8.ofNat (48+m)])))∧h'=[]:=by
  have d:decide ((n:Int)<10)=false:=decide_eq_false (by omega)
  have w1:IntKind.i64.wrap (48+(m:Int))=((48+m:Nat):Int):=by rw[IntWalk.i64_in _ (by omega)];omega
  have w2:IntKind.u8.wrap ((48+m:Nat):Int)=((48+m:Nat):Int):=by
    unfold IntKind.wrap;simp[IntKind.bits,IntKind.signed];omega
  have hu:Ku [.sc (.int .u8 ((48+m:Nat):Int))]=some [UInt8.ofNat (48+m)]:=by
    unfold Ku Ku
    rw[if_pos (by omega)];rfl
  generalize UInt8.ofNat (48+m)=b at ha hu⊢
  generalize 48+m=k at w1 w2 hu
  refine zam rfl ?_
  unfold zaO Q2
  refine za fun KY hKY=>?_
  simp only[go_sem,xq]
  apply hKY
  refine zf fun X1 hn1 he1 hr1=>?_
  refine za fun KY hKY=>?_
  simp only[go_sem,xp,d]
  apply hKY
  refine ZD ?_
  refine zi ?_
  repeat (first|refine hn1 _ ?_|refine he1 _ _ ?_)
  refine Zb fun KY hKY=>?_
  simp only[go_sem,Kd,t1,t2,w1,w2,hu,ha]
  refine⟨?_,?_⟩
  · refine zh rfl (by simp only[go_sem]<;>rfl) ((hD).mono ?_)
    rintro rr hh ⟨rfl,rfl⟩
    refine⟨rfl,rfl,rfl,?_⟩
    simp only[go_sem,hu,ha]
    apply hKY
    refine zd ?_
    repeat (first|refine hr1 _ ?_)
    simp only[go_sem]
  · refine zh rfl (by simp only[go_sem]<;>rfl) ((hD).mono ?_)
    rintro rr hh ⟨rfl,rfl⟩
    refine⟨rfl,rfl,rfl,?_⟩
    simp only[go_sem,hu,ha]
    apply hKY
    refine zd ?_
    repeat (first|refine hr1 _ ?_)
    simp only[go_sem]
theorem gn (n:Nat)(h:n<10):zn Tryd.prog [] Xq [.sc (.int .i64 (n:Int))] [] fun r h'=>r= .sc (.string (Zt [UInt8.ofNat (48+n)]))∧h'=[]:=by
 have d:decide ((n:Int)<10)=true:=decide_eq_true (by omega)
 have w1:IntKind.i64.wrap (48+(n:Int))=((48+n:Nat):Int):=by rw[IntWalk.i64_in _ (by omega)];omega
 have w2:IntKind.u8.wrap ((48+n:Nat):Int)=((48+n:Nat):Int):=by
  unfold IntKind.wrap;simp[IntKind.bits,IntKind.signed];omega
 have hu:Ku [.sc (.int .u8 ((48+n:Nat):Int))]=some [UInt8.ofNat (48+n)]:=by
  unfold Ku Ku
  rw[if_pos (by omega)];rfl
 refine zam rfl ?_
 unfold zaO Q2
 refine za fun KY hKY=>?_
 simp only[go_sem,xq]
 apply hKY
 refine zf fun X1 hn1 he1 hr1=>?_
 refine za fun KY hKY=>?_
 simp only[go_sem,xp,d]
 apply hKY
 refine Zl ?_
 refine za fun KY hKY=>?_
 simp only[go_sem,Ke,w1,w2,hu]
 apply hKY
 refine zd ?_
 repeat (first|refine hr1 _ ?_)
 simp only[go_sem]
theorem pF (n:Nat)(hn:n≤2000000000):zn Tryd.prog [] Xq [.sc (.int .i64 (n:Int))] [] fun r h'=>r= .sc (.string (Zt (Zw n)))∧h'=[]:=by
 induction n using Nat.strongRecOn with
 | _ n ih=>
   by_cases h:n<10
   · rw[Js h];exact gn n h
   · rw[Jt h]
     refine U8 n (n / 10) (n%10) _ ?_ rfl h (by omega) (qz ?_) (ih _ (by omega) (by omega))
     · rw[show(n:Int).tdiv 10=((n / 10:Nat):Int) from rfl,IntWalk.i64_in _ (by omega)]
     · have hlen:(Zw (n / 10)).length≤19:=(Qr (n / 10) 18).2 (by omega)
       simp;omega
theorem inc (k:Nat)(h:k≤1000000000):IntKind.i64.wrap ((k:Int)+1)=((k+1:Nat):Int):=by rw[IntWalk.i64_in _ (by omega)];omega
theorem zel (x y:List UInt8):zn Tryd.prog [] gQ [.sc (.string (Zt x)),.sc (.string (Zt y))] [] fun r h'=>r= .sc (.bool (decide (x=y)))∧h'=[]:=by
 refine zdZ rfl ?_
 unfold zc4 x6
 refine za fun KY hKY=>?_
 simp only[go_sem,VB]
 apply hKY
 refine za fun KY hKY=>?_
 simp only[go_sem,VA]
 apply hKY
 refine zd ?_
 simp only[go_sem]
theorem gG {xs:List (List UInt8)}{k:Nat}{x:List UInt8}(h:xs[k]?=some x):(Zk xs)[k]?=some (.sc (.string (Zt x))):=Qb h
theorem yx {α:Type}[DecidableEq α]{xs ys:List α}{k:Nat}{x y:α}(hx:xs[k]?=some x)(hy:ys[k]?=some y)(h:xs.take k=ys.take k):xs.take (k+1)=ys.take (k+1)↔x=y:=by
 rw[List.take_add_one,List.take_add_one,hx,hy,h]
 simp
theorem Og (xs ys:List (List UInt8))(hb:xs.length≤1000000000):zn Tryd.prog [] zcs [.imm 1 (Zk xs),.imm 1 (Zk ys),.fn (.func gQ) [] []] [] fun r h'=>r= .sc (.bool (decide (xs=ys)))∧h'=[]:=by
 refine zd0 rfl ?_
 unfold zc5 Ja
 refine za fun KY hKY=>?_
 simp only[go_sem,VK]
 apply hKY
 refine zf fun X1 hn1 he1 hr1=>?_
 refine za fun KY hKY=>?_
 simp only[go_sem,VJ,Nat.div_one,zK]
 apply hKY
 simp only[go_sem]
 by_cases hl:xs.length=ys.length
 case neg=>
  have hl':decide (((xs.length:Nat):Int)≠((ys.length:Nat):Int))=true:=decide_eq_true (by omega)
  refine jV (by simp only[go_sem,hl']) ?_
  refine za fun KY hKY=>?_
  simp only[go_sem,VI]
  apply hKY
  refine zd (hr1 _ ?_)
  simp only[go_sem]
  rw[decide_eq_false (fun e:xs=ys=>hl (by rw[e]))]
 have hl':decide (((xs.length:Nat):Int)≠((ys.length:Nat):Int))=false:=decide_eq_false (by omega)
 refine jW (by simp only[go_sem,hl']) (zi (hn1 _ ?_))
 refine zf fun X2 hn2 he2 hr2=>?_
 refine za fun KY hKY=>?_
 simp only[go_sem,VH]
 apply hKY
 refine zr fun X3 hn3 he3 hf3 hr3=>?_
 refine yD (fun m s=>∃(k:Nat) (A16 A29:zb),k≤xs.length∧m=xs.length - k∧xs.take k=ys.take k∧s={vs:=[(0,.imm 1 (Zk xs)),(1,.imm 1 (Zk ys)),(2,.fn (.func gQ) [] []),(6,.sc (.bool false)),(7,.sc (.int .i64 (k:Int))),(12,.sc (.bool (decide (((xs.length:Nat):Int)≠((ys.length:Nat):Int))))),(16,A16),(29,A29)],ts:=[],h:=[]}) xs.length ⟨0,.dead,.dead,Nat.zero_le _,rfl,rfl,?_⟩ ?_
 · rfl
 rintro m _ ⟨k,A16,A29,hk,rfl,hpre,rfl⟩ X4 hn4 he4 hr4
 refine jb [16,29] rfl ?_
 simp only[go_sem]
 refine zf fun X5 hn5 he5 hr5=>?_
 refine zf fun X6 hn6 he6 hr6=>?_
 refine zt fun KY hKY=>?_
 simp only[go_sem,VG,Nat.div_one,zK]
 refine hKY _ (hn6 _ ?_)
 simp only[go_sem]
 refine wP (v:=decide ((k:Int)<(xs.length:Int))) rfl (fun h=>zi (hn5 _ ?_)) fun h=>zS (he5 _ _ (he4 _ _ (he3 _ (hn2 _ ?_))))
 · have hlt:k<xs.length:=by have:=of_decide_eq_true h;omega
   have hlt2:k<ys.length:=by omega
   have hx:xs[k]?=some xs[k]:=List.getElem?_eq_getElem hlt
   have hy:ys[k]?=some ys[k]:=List.getElem?_eq_getElem hlt2
   have st:=yx hx hy hpre
   refine zf fun X7 hn7 he7 hr7=>?_
   refine zr fun X8 hn8 he8 hf8 hr8=>?_
   refine Zb fun KY hKY=>?_
   simp only[go_sem,VF,zK,gG hx,gG hy,hlt,hlt2]
   refine zh rfl (by simp only[go_sem]<;>rfl) ((zel xs[k] ys[k]).mono ?_)
   rintro rr hh ⟨rfl,rfl⟩
   refine⟨rfl,rfl,rfl,?_⟩
   simp only[go_sem]
   apply hKY
   simp only[go_sem]
   by_cases e:xs[k]=ys[k]
   · refine jW (by simp only[go_sem,decide_eq_true e]) (zi (hn8 _ (hn7 _ ?_)))
     refine zt fun KY hKY=>?_
     simp only[go_sem,VD,inc k (by omega)]
     refine hKY _ (hn4 (xs.length - (k+1)) _ (by omega) ?_)
     simp only[go_sem]
     exact⟨k+1,_,_,hlt,rfl,st.2 e,rfl⟩
   · refine jV (by simp only[go_sem,decide_eq_false e]) ?_
     refine za fun KY hKY=>?_
     simp only[go_sem,VE]
     apply hKY
     refine zd (hr8 _ (hr7 _ (hr4 _ (hr3 _ (hr2 _ ?_)))))
     simp only[go_sem]
     rw[decide_eq_false (fun e':xs=ys=>e (by subst e';rfl))]
 · have hkn:k=xs.length:=by have:=of_decide_eq_false h;omega
   refine za fun KY hKY=>?_
   simp only[go_sem,VC]
   apply hKY
   refine zd ?_
   simp only[go_sem]
   rw[hkn,List.take_length,hl,List.take_length] at hpre
   rw[decide_eq_true hpre]
theorem G7 (xs ys:List (List UInt8))(hb:xs.length≤1000000000):zn Tryd.prog [] zcH [.imm 1 (Zk xs),.imm 1 (Zk ys)] [] fun r h'=>r= .sc (.bool (decide (xs=ys)))∧h'=[]:=by
 refine zeg rfl ?_
 unfold zdl x8
 refine za fun KY hKY=>?_
 simp only[go_sem,Kc]
 apply hKY
 refine za fun KY hKY=>?_
 simp only[go_sem,Kb]
 refine zh rfl (by simp only[go_sem]<;>rfl) ((Og xs ys hb).mono ?_)
 rintro rr hh ⟨rfl,rfl⟩
 refine⟨rfl,rfl,rfl,?_⟩
 simp only[go_sem]
 apply hKY
 refine zd ?_
 simp only[go_sem]
end Go.Proofs.YtneiihheeghdcaaDoor

namespace Go.Ga.Gl
open Go Go.Ga
theorem Uu (c:UInt8):∀(w r:List UInt8),w.count c=0→zx c (w++c::r)=w::zx c r
 |[],r,_=>by show zx c (c::r)=_;rw[Z9,if_pos rfl]
 | b::w,r,h=>by
   have hb:b≠c:=fun e=>by rw[e,List.count_cons_self] at h;omega
   rw[List.count_cons_of_ne hb] at h
   show zx c (b::(w++c::r))=_
   rw[Z9,if_neg hb,Uu c w r h]
def kept (w:List UInt8)(k:Nat):List UInt8:=(w.take k).filter fun b=>decide (b≠10)
end Go.Ga.Gl
namespace Go.Proofs.YtneiihheeghdcaaDoor
open Go Go.Ga Go.Ga.Gl
end Go.Proofs.YtneiihheeghdcaaDoor

namespace Go.Ga.Gl
open Go Go.Ga
theorem zbQ (n:Nat):Lib.decDigits n=Zw n:=by
 induction n using Nat.strongRecOn with
 | _ n ih=>
   rw[Lib.decDigits]
   by_cases h:n<10
   · rw[dif_pos h,Js h]
   · rw[dif_neg h,Jt h,ih _ (by omega)]
theorem O7 {n:Int}(h:0≤n):Lib.itoa n=Zw n.toNat:=by
 unfold Lib.itoa
 rw[if_neg (by omega),zbQ]
def zQ (k:Nat):List UInt8:=(yZ.getD k ([],0)).1
def z6 (k:Nat):Int:=(yZ.getD k ([],0)).2
def tx (w:List UInt8)(l:List Int):List UInt8:=w++l.flatMap fun n=>32::Zw n.toNat
theorem q9 (w:List UInt8):tx w []=w:=by simp[tx]
theorem gE (w:List UInt8)(n:Int)(l:List Int):tx w (n::l)=w++32::tx (Zw n.toNat) l:=by simp[tx]
theorem gD (w:List UInt8)(l:List Int)(n:Int):tx w (l++[n])=tx w l++32::Zw n.toNat:=by simp[tx]
theorem ou (w:List UInt8)(l m:List Int):tx w (l++m)=tx (tx w l) m:=by simp[tx]
theorem zdr (w:List UInt8)(l:List Int):w.length≤(tx w l).length:=by simp[tx]
theorem uz (w:List UInt8)(l:List Int)(k:Nat):(tx w (l.take k)).length≤(tx w l).length:=by
 have h:=ou w (l.take k) (l.drop k)
 rw[List.take_append_drop] at h
 rw[h];exact zdr _ _
theorem gT (w:List UInt8)(l:List Int):Lib.join (w::l.map fun n=>Zw n.toNat) [32]=tx w l:=by
 induction l generalizing w with
 |nil=>rw[List.map_nil,Lib.join_one,q9]
 | cons n l ih=>
   rw[List.map_cons,gE,←ih]
   unfold Lib.join List.intercalate
   simp[List.intersperse]
def QP (n:Int):Bool:=decide (0≤n)&&decide (n≤999999999)
def jd (k:Nat)(a b:Int)(l:List Int):Option (List Int):=
 if z6 k<0 then(if a=0∧b=0 then some l else none)
 else if(z6 k<2∧b≠0)∨(z6 k<1∧a≠0)∨l≠ [] then none else some ([a,b].take (z6 k).toNat)
def Zp (k a b:Int)(l:List Int):List UInt8×Int:=
 if k<1∨14<k∨(k=6∧a≠1∧a≠2) then([],15) else
 match jd k.toNat a b l with
 |none=>([],15)
 |some ns=>if ns.all QP=true∧(tx (zQ k.toNat) ns).length≤65536 then(tx (zQ k.toNat) ns,0) else([],15)
theorem Ut :∀(l:List Int) (w:List UInt8),w.count 32=0→zx 32 (tx w l)=w::l.map fun n=>Zw n.toNat
 |[],w,h=>by rw[q9,JQ h];rfl
 | n::l,w,h=>by
   have hd:(Zw n.toNat).count 32=0:=List.count_eq_zero.2 fun hm=>zar (List.all_eq_true.1 (vb _) _ hm) rfl
   rw[gE,Uu 32 w _ h,Ut l _ hd];rfl
theorem UK :∀l:List Int,l.all QP=true→Zc (l.map fun n=>Zw n.toNat)=some (l.map Int.toNat)
 |[],_=>rfl
 | n::l,h=>by
   rw[List.all_cons,Bool.and_eq_true] at h
   obtain⟨h1,h2⟩:=h
   unfold QP at h1
   rw[Bool.and_eq_true,decide_eq_true_iff,decide_eq_true_iff] at h1
   show(match ZX (Zw n.toNat) with|none=>none|some m=>(Zc (l.map fun n:Int=>Zw n.toNat)).map (m:: ·))=_
   rw[OV,if_pos (by omega),UK l h2];rfl
theorem zao {k:Nat}(h1:1≤k)(h2:k≤14):yZ.findIdx? (hit (zQ k))=some k:=by
 have:∀k:Fin 15,1≤k.1→yZ.findIdx? (hit (zQ k.1))=some k.1:=by decide
 exact this ⟨k,by omega⟩ h1
theorem Ju (k:Nat)(h2:k≤14):(zQ k).count 32=0∧(zQ k).length≤8∧ -1≤z6 k∧z6 k≤2:=by
 have:∀k:Fin 15,(zQ k.1).count 32=0∧(zQ k.1).length≤8∧ -1≤z6 k.1∧z6 k.1≤2:=by decide
 exact this ⟨k,by omega⟩
theorem pn {l:List Int}(h:l.all QP=true):(l.map Int.toNat).map (fun n:Nat=>(n:Int))=l:=by
 rw[List.map_map]
 refine(List.map_congr_left fun n hn=>?_).trans (List.map_id l)
 have:=List.all_eq_true.1 h n hn
 unfold QP at this
 rw[Bool.and_eq_true,decide_eq_true_iff,decide_eq_true_iff] at this
 show((n.toNat:Nat):Int)=n
 omega
theorem Jr {n:Int}:QP n=true↔0≤n∧n≤999999999:=by
 unfold QP;rw[Bool.and_eq_true,decide_eq_true_iff,decide_eq_true_iff]
theorem UH {k a b:Int}{l:List Int}{t:List UInt8}(h:Zp k a b l=(t,0)):
    ∃c:yB,Zf t=(c,0)∧(c.kind:Int)=k∧(c.a:Int)=a∧(c.b:Int)=b∧c.list.map (fun n:Nat=>(n:Int))=l:=by
  unfold Zp at h
  split at h
  · cases h
  rename_i hk
  have hk1:1≤k∧k≤14:=by omega
  obtain⟨m,rfl⟩:=Int.eq_ofNat_of_zero_le (show 0≤k by omega)
  simp only[Int.toNat_natCast] at h
  have hm:m≤14:=by omega
  obtain⟨g1,g2,g3,g4⟩:=Ju m hm
  split at h
  · cases h
  rename_i ns hns
  split at h
  case isFalse=>cases h
  rename_i hall
  cases h
  have hsp:=Ut ns _ g1
  have hnb:=UK ns hall.1
  unfold jd at hns
  have hfd:=zao (show 1≤m by omega) hm
  have hpar:∀x,(if 0≤z6 m∧((ns.length+1:Nat):Int)≠z6 m+1 then((⟨0,0,0,[]⟩:yB),(15:Int)) else
      if z6 m<0 then(⟨m,0,0,ns.map Int.toNat⟩,0) else
      if m=6∧(ns.map Int.toNat).getD 0 0≠1∧(ns.map Int.toNat).getD 0 0≠2 then(⟨0,0,0,[]⟩,15) else(⟨m,(ns.map Int.toNat).getD 0 0,(ns.map Int.toNat).getD 1 0,[]⟩,0))=x→Zf (tx (zQ m) ns)=x:=by
    rintro x rfl
    unfold Zf
    rw[if_neg (by omega),hsp]
    simp only[List.headD_cons,List.tail_cons,List.length_cons,List.length_map,hfd,hnb]
    rfl
  split at hns
  · rename_i hneg
    split at hns
    case isFalse=>cases hns
    rename_i hab
    cases hns
    refine⟨_,hpar _ ((if_neg (by omega)).trans (if_pos hneg)),rfl,hab.1.symm,hab.2.symm,pn hall.1⟩
  · rename_i hneg
    split at hns
    · cases hns
    rename_i hc
    cases hns
    have hl:l=[]:=Classical.byContradiction fun e=>hc (.inr (.inr e))
    subst hl
    have hab:(z6 m=0∧a=0∧b=0)∨(z6 m=1∧b=0)∨z6 m=2:=by
      rcases(show z6 m=0∨z6 m=1∨z6 m=2 by omega) with e|e|e
      · refine .inl ⟨e,Classical.byContradiction fun h=>hc (.inr (.inl ⟨by omega,h⟩)),Classical.byContradiction fun h=>hc (.inl ⟨by omega,h⟩)⟩
      · exact .inr (.inl ⟨e,Classical.byContradiction fun h=>hc (.inl ⟨by omega,h⟩)⟩)
      · exact .inr (.inr e)
    have c6:z6 6=1:=by decide
    rcases hab with⟨e,rfl,rfl⟩|⟨e,rfl⟩|e
    · rw[e] at hpar hall⊢
      have h6:m≠6:=fun h=>by subst h;omega
      exact⟨⟨m,0,0,[]⟩,hpar _ ((if_neg (by decide)).trans ((if_neg (by decide)).trans (if_neg fun h=>h6 h.1))),rfl,rfl,rfl,rfl⟩
    · rw[e] at hpar hall⊢
      have ha:=Jr.1 (List.all_eq_true.1 hall.1 a (.head _))
      refine⟨⟨m,a.toNat,0,[]⟩,hpar _ ((if_neg (by show¬((0:Int)≤1∧((1+1:Nat):Int)≠1+1);omega)).trans ((if_neg (by decide)).trans (if_neg fun h=>hk (.inr (.inr ⟨by omega,?_⟩))))),rfl,?_,rfl,rfl⟩
      · have h2:a.toNat≠1∧a.toNat≠2:=h.2
        omega
      · show((a.toNat:Nat):Int)=a
        omega
    · rw[e] at hpar hall⊢
      have ha:=Jr.1 (List.all_eq_true.1 hall.1 a (.head _))
      have hb:=Jr.1 (List.all_eq_true.1 hall.1 b (.tail _ (.head _)))
      have h6:m≠6:=fun h=>by subst h;omega
      refine⟨⟨m,a.toNat,b.toNat,[]⟩,hpar _ ((if_neg (by show¬((0:Int)≤2∧((2+1:Nat):Int)≠2+1);omega)).trans ((if_neg (by decide)).trans (if_neg fun h=>h6 h.1))),rfl,?_,?_,rfl⟩
      · show((a.toNat:Nat):Int)=a
        omega
      · show((b.toNat:Nat):Int)=b
        omega
theorem zbP (w:List UInt8):w≠ []→w.all qK=true→(1<w.length→w.getD 0 0≠48)→Zw (val w)=w∧(w.getD 0 0≠48→1≤val w):=by
 induction hn:w.length generalizing w with
 |zero=>intro h;exact absurd (List.length_eq_zero_iff.1 hn) h
 | succ n ih=>
   intro hne hall h0
   obtain⟨v,b,rfl⟩:∃v b,w=v++[b]:=⟨w.dropLast,w.getLast hne,(List.dropLast_concat_getLast hne).symm⟩
   rw[List.all_append,Bool.and_eq_true] at hall
   have hb:qK b=true:=by simpa using hall.2
   unfold qK at hb
   rw[Bool.and_eq_true,decide_eq_true_iff,decide_eq_true_iff] at hb
   have hob:UInt8.ofNat (48+(b.toNat - 48))=b:=by
    rw[show 48+(b.toNat - 48)=b.toNat by omega,UInt8.ofNat_toNat]
   rw[J8]
   by_cases hv:v=[]
   · subst hv
     have e:10*val []+(b.toNat - 48)=b.toNat - 48:=by show 10*0+_=_;omega
     rw[e]
     refine⟨?_,fun h=>?_⟩
     · rw[Js (by omega),hob];rfl
     · have:b≠48:=h
       have:b.toNat≠48:=fun e=>this (UInt8.toNat_inj.1 e)
       omega
   · have hvl:1≤v.length:=by
      rcases v with _|_
      · exact absurd rfl hv
      · simp
     have hg:(v++[b]).getD 0 0=v.getD 0 0:=by
      rw[List.getD_eq_getElem?_getD,List.getElem?_append_left hvl,←List.getD_eq_getElem?_getD]
     have hh:v.getD 0 0≠48:=by rw[←hg];exact h0 (by have:=hn;rw[List.length_append,List.length_singleton] at this;omega)
     obtain⟨i1,i2⟩:=ih v (by simp at hn;exact hn) hv hall.1 fun _=>hh
     have i3:=i2 hh
     refine⟨?_,fun _=>by omega⟩
     rw[Jt (by omega),show(10*val v+(b.toNat - 48)) / 10=val v by omega,show(10*val v+(b.toNat - 48))%10=b.toNat - 48 by omega,i1,hob]
theorem zbA {w:List UInt8}{n:Nat}(h:ZX w=some n):Zw n=w∧n≤999999999:=by
 unfold ZX at h
 split at h
 · cases h
 rename_i hc
 cases h
 have hall:w.all qK=true:=by
  cases hw:w.all qK with
  |true=>rfl
  |false=>exact absurd (.inr (.inr (.inr hw))) hc
 have hl:1≤w.length∧w.length≤9:=by omega
 refine⟨(zbP w (fun e=>by subst e;simp at hl) hall fun h1 h2=>hc (.inr (.inr (.inl ⟨h1,h2⟩)))).1,?_⟩
 have:=uw w hall
 have hp:10^w.length≤10^9:=Nat.pow_le_pow_right (by omega) hl.2
 omega
theorem Yx :∀{ts:List (List UInt8)} {ns:List Nat},Zc ts=some ns→(ns.map fun n:Nat=>Zw (n:Int).toNat)=ts∧(ns.map fun n:Nat=>(n:Int)).all QP=true
 |[],ns,h=>by cases h;exact⟨rfl,rfl⟩
 | w ::ts,ns,h=>by
   unfold Zc at h
   cases hw:ZX w with
   |none=>rw[hw] at h;cases h
   | some n=>
     rw[hw] at h
     simp only at h
     cases hr:Zc ts with
     |none=>rw[hr] at h;cases h
     | some ms=>
       rw[hr] at h
       cases h
       obtain⟨h1,h2⟩:=Yx hr
       obtain⟨h3,h4⟩:=zbA hw
       refine⟨?_,?_⟩
       · rw[List.map_cons,h1,Int.toNat_natCast,h3]
       · rw[List.map_cons,List.all_cons,h2,Jr.2 (by omega)];rfl
theorem ux (c:UInt8):∀{s p:List UInt8} {ts:List (List UInt8)},zx c s=p::ts→s=p++ts.flatMap fun w=>c::w
 |[],p,ts,h=>by cases h;rfl
 | b ::r,p,ts,h=>by
   rw[Z9] at h
   split at h
   · rename_i hb
     subst hb
     cases hs:zx b r with
     |nil=>exact absurd hs (ji b r)
     | cons q qs=>
       rw[hs] at h
       cases h
       have:=ux b hs
       simp[←this]
   · cases hs:zx c r with
     |nil=>exact absurd hs (ji c r)
     | cons q qs=>
       rw[hs] at h
       cases h
       have:=ux c hs
       simp[←this]
theorem zds {α:Type}{l:List α}(h:l.length=2):∃x y,l=[x,y]:=by
 match l,h with
 |[x,y],_=>exact⟨x,y,rfl⟩
theorem UF {s:List UInt8}{c:yB}(h:Zf s=(c,0)):Zp c.kind c.a c.b (c.list.map fun n:Nat=>(n:Int))=(s,0):=by
 unfold Zf at h
 split at h
 · cases h
 rename_i hlen
 cases hsp:zx 32 s with
 |nil=>exact absurd hsp (ji 32 s)
 | cons p ts=>
   rw[hsp] at h
   simp only[List.headD_cons,List.tail_cons,List.length_cons] at h
   have hs:=ux 32 hsp
   split at h
   · cases h
   rename_i k hk
   obtain⟨hk1,hk2,_⟩:=List.findIdx?_eq_some_iff_getElem.1 hk
   have hw:zQ k=p∧zQ k≠ []:=by
    unfold hit at hk2
    rw[Bool.and_eq_true,decide_eq_true_iff,decide_eq_true_iff] at hk2
    have e:zQ k=yZ[k].1:=by unfold zQ;rw[List.getD_eq_getElem?_getD,List.getElem?_eq_getElem hk1];rfl
    exact⟨e.trans hk2.2,by rw[e];exact hk2.1⟩
   have hk15:k<15:=hk1
   have hk0:k≠0:=fun e=>by subst e;exact hw.2 rfl
   obtain⟨g1,g2,g3,g4⟩:=Ju k (by omega)
   replace h:(if 0≤z6 k∧((ts.length+1:Nat):Int)≠z6 k+1 then((⟨0,0,0,[]⟩:yB),(15:Int)) else
    match Zc ts with
    |none=>(⟨0,0,0,[]⟩,15)
    |some ns=>if z6 k<0 then(⟨k,0,0,ns⟩,0) else if k=6∧ns.getD 0 0≠1∧ns.getD 0 0≠2 then(⟨0,0,0,[]⟩,15) else(⟨k,ns.getD 0 0,ns.getD 1 0,[]⟩,0))=(c,0):=h
   split at h
   · cases h
   rename_i hcn
   split at h
   · cases h
   rename_i ns hns
   obtain⟨e1,e2⟩:=Yx hns
   have htx:∀l:List Int,l=ns.map (fun n:Nat=>(n:Int))→tx (zQ k) l=s:=by
    rintro l rfl
    rw[hs,hw.1,←e1]
    simp[tx,List.flatMap_map]
   have hnl:ns.length=ts.length:=by rw[←e1,List.length_map]
   have fin:∀a b l,jd k a b l=some (ns.map fun n:Nat=>(n:Int))→(k=6→a=1∨a=2)→Zp k a b l=(s,0):=fun a b l h1 h2=>by
    unfold Zp
    rw[if_neg (by omega),Int.toNat_natCast,h1]
    simp only
    rw[htx _ rfl,if_pos ⟨e2,by omega⟩]
   have c6:z6 6=1:=by decide
   split at h
   · rename_i hneg
     cases h
     exact fin _ _ _ (by unfold jd;rw[if_pos hneg];rfl) fun e=>by rw[e,c6] at hneg;exact absurd hneg (by decide)
   · rename_i hneg
     split at h
     · cases h
     rename_i h6
     cases h
     have hts:(ts.length:Int)=z6 k:=by omega
     refine fin _ _ _ ?_ fun e=>by
      have h7:ns.getD 0 0=1∨ns.getD 0 0=2:=Classical.byContradiction fun h=>h6 ⟨e,fun x=>h (.inl x),fun x=>h (.inr x)⟩
      show((ns.getD 0 0:Nat):Int)=1∨((ns.getD 0 0:Nat):Int)=2
      omega
     unfold jd
     rw[if_neg hneg]
     rcases(show z6 k=0∨z6 k=1∨z6 k=2 by omega) with e|e|e
     · have:ns=[]:=List.length_eq_zero_iff.1 (by omega)
       subst this
       rw[e,if_neg (by simp)];rfl
     · obtain⟨x,rfl⟩:=List.length_eq_one_iff.1 (show ns.length=1 by omega)
       rw[e,if_neg (by simp)];rfl
     · obtain⟨x,y,rfl⟩:=zds (show ns.length=2 by omega)
       rw[e,if_neg (by simp)];rfl
end Go.Ga.Gl
namespace Go.Proofs.YtneiihheeghdcaaDoor
open Go Go.Ga Go.Ga.Gl
theorem zem (x y:Int):zn Tryd.prog [] gP [.sc (.int .i64 x),.sc (.int .i64 y)] [] fun r h'=>r= .sc (.bool (decide (x=y)))∧h'=[]:=by
 refine zdO rfl ?_
 unfold zcQ xY
 refine za fun KY hKY=>?_
 simp only[go_sem,vG]
 apply hKY
 refine za fun KY hKY=>?_
 simp only[go_sem,vF]
 apply hKY
 refine zd ?_
 simp only[go_sem]
theorem QN {xs:List Int}{k:Nat}{x:Int}(h:xs[k]?=some x):(ints xs)[k]?=some (.sc (.int .i64 x)):=by
 obtain⟨hk,e⟩:=List.getElem?_eq_some_iff.1 h
 rw[O9 hk,List.getD_eq_getElem?_getD,h];rfl
theorem Oh (xs ys:List Int)(hb:xs.length≤1000000000):zn Tryd.prog [] zci [.imm 1 (ints xs),.imm 1 (ints ys),.fn (.func gP) [] []] [] fun r h'=>r= .sc (.bool (decide (xs=ys)))∧h'=[]:=by
 refine zdP rfl ?_
 unfold zcR j9
 refine za fun KY hKY=>?_
 simp only[go_sem,vP]
 apply hKY
 refine zf fun X1 hn1 he1 hr1=>?_
 refine za fun KY hKY=>?_
 simp only[go_sem,vO,Nat.div_one,zm]
 apply hKY
 simp only[go_sem]
 by_cases hl:xs.length=ys.length
 case neg=>
  have hl':decide (((xs.length:Nat):Int)≠((ys.length:Nat):Int))=true:=decide_eq_true (by omega)
  refine jV (by simp only[go_sem,hl']) ?_
  refine za fun KY hKY=>?_
  simp only[go_sem,vN]
  apply hKY
  refine zd (hr1 _ ?_)
  simp only[go_sem]
  rw[decide_eq_false (fun e:xs=ys=>hl (by rw[e]))]
 have hl':decide (((xs.length:Nat):Int)≠((ys.length:Nat):Int))=false:=decide_eq_false (by omega)
 refine jW (by simp only[go_sem,hl']) (zi (hn1 _ ?_))
 refine zf fun X2 hn2 he2 hr2=>?_
 refine za fun KY hKY=>?_
 simp only[go_sem,vM]
 apply hKY
 refine zr fun X3 hn3 he3 hf3 hr3=>?_
 refine yD (fun m s=>∃(k:Nat) (A16 A29:zb),k≤xs.length∧m=xs.length - k∧xs.take k=ys.take k∧s={vs:=[(0,.imm 1 (ints xs)),(1,.imm 1 (ints ys)),(2,.fn (.func gP) [] []),(6,.sc (.bool false)),(7,.sc (.int .i64 (k:Int))),(12,.sc (.bool (decide (((xs.length:Nat):Int)≠((ys.length:Nat):Int))))),(16,A16),(29,A29)],ts:=[],h:=[]}) xs.length ⟨0,.dead,.dead,Nat.zero_le _,rfl,rfl,?_⟩ ?_
 · rfl
 rintro m _ ⟨k,A16,A29,hk,rfl,hpre,rfl⟩ X4 hn4 he4 hr4
 refine jb [16,29] rfl ?_
 simp only[go_sem]
 refine zf fun X5 hn5 he5 hr5=>?_
 refine zf fun X6 hn6 he6 hr6=>?_
 refine zt fun KY hKY=>?_
 simp only[go_sem,vL,Nat.div_one,zm]
 refine hKY _ (hn6 _ ?_)
 simp only[go_sem]
 refine wP (v:=decide ((k:Int)<(xs.length:Int))) rfl (fun h=>zi (hn5 _ ?_)) fun h=>zS (he5 _ _ (he4 _ _ (he3 _ (hn2 _ ?_))))
 · have hlt:k<xs.length:=by have:=of_decide_eq_true h;omega
   have hlt2:k<ys.length:=by omega
   have hx:xs[k]?=some xs[k]:=List.getElem?_eq_getElem hlt
   have hy:ys[k]?=some ys[k]:=List.getElem?_eq_getElem hlt2
   have st:=yx hx hy hpre
   refine zf fun X7 hn7 he7 hr7=>?_
   refine zr fun X8 hn8 he8 hf8 hr8=>?_
   refine Zb fun KY hKY=>?_
   simp only[go_sem,vK,zm,QN hx,QN hy,hlt,hlt2]
   refine zh rfl (by simp only[go_sem]<;>rfl) ((zem xs[k] ys[k]).mono ?_)
   rintro rr hh ⟨rfl,rfl⟩
   refine⟨rfl,rfl,rfl,?_⟩
   simp only[go_sem]
   apply hKY
   simp only[go_sem]
   by_cases e:xs[k]=ys[k]
   · refine jW (by simp only[go_sem,decide_eq_true e]) (zi (hn8 _ (hn7 _ ?_)))
     refine zt fun KY hKY=>?_
     simp only[go_sem,vI,inc k (by omega)]
     refine hKY _ (hn4 (xs.length - (k+1)) _ (by omega) ?_)
     simp only[go_sem]
     exact⟨k+1,_,_,hlt,rfl,st.2 e,rfl⟩
   · refine jV (by simp only[go_sem,decide_eq_false e]) ?_
     refine za fun KY hKY=>?_
     simp only[go_sem,vJ]
     apply hKY
     refine zd (hr8 _ (hr7 _ (hr4 _ (hr3 _ (hr2 _ ?_)))))
     simp only[go_sem]
     rw[decide_eq_false (fun e':xs=ys=>e (by subst e';rfl))]
 · have hkn:k=xs.length:=by have:=of_decide_eq_false h;omega
   refine za fun KY hKY=>?_
   simp only[go_sem,vH]
   apply hKY
   refine zd ?_
   simp only[go_sem]
   rw[hkn,List.take_length,hl,List.take_length] at hpre
   rw[decide_eq_true hpre]
theorem Xl (xs ys:List Int)(hb:xs.length≤1000000000):zn Tryd.prog [] zcq [.imm 1 (ints xs),.imm 1 (ints ys)] [] fun r h'=>r= .sc (.bool (decide (xs=ys)))∧h'=[]:=by
 refine zdX rfl ?_
 unfold zcZ x5
 refine za fun KY hKY=>?_
 simp only[go_sem,Vv]
 apply hKY
 refine za fun KY hKY=>?_
 simp only[go_sem,Vu]
 refine zh rfl (by simp only[go_sem]<;>rfl) ((Oh xs ys hb).mono ?_)
 rintro rr hh ⟨rfl,rfl⟩
 refine⟨rfl,rfl,rfl,?_⟩
 simp only[go_sem]
 apply hKY
 refine zd ?_
 simp only[go_sem]
theorem zen (x y:UInt8):zn Tryd.prog [] gO [.sc (.int .u8 (x.toNat:Int)),.sc (.int .u8 (y.toNat:Int))] [] fun r h'=>r= .sc (.bool (decide (x=y)))∧h'=[]:=by
 have e:decide ((x.toNat:Int)=(y.toNat:Int))=decide (x=y):=decide_eq_decide.2 ⟨fun h=>UInt8.toNat_inj.1 (Int.ofNat_inj.1 h),fun h=>by rw[h]⟩
 refine zdM rfl ?_
 unfold zcO xX
 refine za fun KY hKY=>?_
 simp only[go_sem,vu]
 apply hKY
 refine za fun KY hKY=>?_
 simp only[go_sem,vt,e]
 apply hKY
 refine zd ?_
 simp only[go_sem]
theorem gu {xs:List UInt8}{k:Nat}{x:UInt8}(h:xs[k]?=some x):(ZG xs)[k]?=some (.sc (.int .u8 (x.toNat:Int))):=by simp[ZG,h]
theorem Oi (xs ys:List UInt8)(hb:xs.length≤1000000000):zn Tryd.prog [] zch [.imm 1 (ZG xs),.imm 1 (ZG ys),.fn (.func gO) [] []] [] fun r h'=>r= .sc (.bool (decide (xs=ys)))∧h'=[]:=by
 refine zdN rfl ?_
 unfold zcP j8
 refine za fun KY hKY=>?_
 simp only[go_sem,vE]
 apply hKY
 refine zf fun X1 hn1 he1 hr1=>?_
 refine za fun KY hKY=>?_
 simp only[go_sem,vD,Nat.div_one,zU]
 apply hKY
 simp only[go_sem]
 by_cases hl:xs.length=ys.length
 case neg=>
  have hl':decide (((xs.length:Nat):Int)≠((ys.length:Nat):Int))=true:=decide_eq_true (by omega)
  refine jV (by simp only[go_sem,hl']) ?_
  refine za fun KY hKY=>?_
  simp only[go_sem,vC]
  apply hKY
  refine zd (hr1 _ ?_)
  simp only[go_sem]
  rw[decide_eq_false (fun e:xs=ys=>hl (by rw[e]))]
 have hl':decide (((xs.length:Nat):Int)≠((ys.length:Nat):Int))=false:=decide_eq_false (by omega)
 refine jW (by simp only[go_sem,hl']) (zi (hn1 _ ?_))
 refine zf fun X2 hn2 he2 hr2=>?_
 refine za fun KY hKY=>?_
 simp only[go_sem,vB]
 apply hKY
 refine zr fun X3 hn3 he3 hf3 hr3=>?_
 refine yD (fun m s=>∃(k:Nat) (A16 A29:zb),k≤xs.length∧m=xs.length - k∧xs.take k=ys.take k∧s={vs:=[(0,.imm 1 (ZG xs)),(1,.imm 1 (ZG ys)),(2,.fn (.func gO) [] []),(6,.sc (.bool false)),(7,.sc (.int .i64 (k:Int))),(12,.sc (.bool (decide (((xs.length:Nat):Int)≠((ys.length:Nat):Int))))),(16,A16),(29,A29)],ts:=[],h:=[]}) xs.length ⟨0,.dead,.dead,Nat.zero_le _,rfl,rfl,?_⟩ ?_
 · rfl
 rintro m _ ⟨k,A16,A29,hk,rfl,hpre,rfl⟩ X4 hn4 he4 hr4
 refine jb [16,29] rfl ?_
 simp only[go_sem]
 refine zf fun X5 hn5 he5 hr5=>?_
 refine zf fun X6 hn6 he6 hr6=>?_
 refine zt fun KY hKY=>?_
 simp only[go_sem,vA,Nat.div_one,zU]
 refine hKY _ (hn6 _ ?_)
 simp only[go_sem]
 refine wP (v:=decide ((k:Int)<(xs.length:Int))) rfl (fun h=>zi (hn5 _ ?_)) fun h=>zS (he5 _ _ (he4 _ _ (he3 _ (hn2 _ ?_))))
 · have hlt:k<xs.length:=by have:=of_decide_eq_true h;omega
   have hlt2:k<ys.length:=by omega
   have hx:xs[k]?=some xs[k]:=List.getElem?_eq_getElem hlt
   have hy:ys[k]?=some ys[k]:=List.getElem?_eq_getElem hlt2
   have st:=yx hx hy hpre
   refine zf fun X7 hn7 he7 hr7=>?_
   refine zr fun X8 hn8 he8 hf8 hr8=>?_
   refine Zb fun KY hKY=>?_
   simp only[go_sem,vz,zU,gu hx,gu hy,hlt,hlt2]
   refine zh rfl (by simp only[go_sem]<;>rfl) ((zen xs[k] ys[k]).mono ?_)
   rintro rr hh ⟨rfl,rfl⟩
   refine⟨rfl,rfl,rfl,?_⟩
   simp only[go_sem]
   apply hKY
   simp only[go_sem]
   by_cases e:xs[k]=ys[k]
   · refine jW (by simp only[go_sem,decide_eq_true e]) (zi (hn8 _ (hn7 _ ?_)))
     refine zt fun KY hKY=>?_
     simp only[go_sem,vx,inc k (by omega)]
     refine hKY _ (hn4 (xs.length - (k+1)) _ (by omega) ?_)
     simp only[go_sem]
     exact⟨k+1,_,_,hlt,rfl,st.2 e,rfl⟩
   · refine jV (by simp only[go_sem,decide_eq_false e]) ?_
     refine za fun KY hKY=>?_
     simp only[go_sem,vy]
     apply hKY
     refine zd (hr8 _ (hr7 _ (hr4 _ (hr3 _ (hr2 _ ?_)))))
     simp only[go_sem]
     rw[decide_eq_false (fun e':xs=ys=>e (by subst e';rfl))]
 · have hkn:k=xs.length:=by have:=of_decide_eq_false h;omega
   refine za fun KY hKY=>?_
   simp only[go_sem,vv]
   apply hKY
   refine zd ?_
   simp only[go_sem]
   rw[hkn,List.take_length,hl,List.take_length] at hpre
   rw[decide_eq_true hpre]
theorem G8 (xs ys:List UInt8)(hb:xs.length≤1000000000):zn Tryd.prog [] zcl [.imm 1 (ZG xs),.imm 1 (ZG ys)] [] fun r h'=>r= .sc (.bool (decide (xs=ys)))∧h'=[]:=by
 refine zdS rfl ?_
 unfold zcU xZ
 refine za fun KY hKY=>?_
 simp only[go_sem,Vb]
 apply hKY
 refine za fun KY hKY=>?_
 simp only[go_sem,Va]
 refine zh rfl (by simp only[go_sem]<;>rfl) ((Oi xs ys hb).mono ?_)
 rintro rr hh ⟨rfl,rfl⟩
 refine⟨rfl,rfl,rfl,?_⟩
 simp only[go_sem]
 apply hKY
 refine zd ?_
 simp only[go_sem]
def gr (k a b:Int)(l:List Int):List zb:=[.sc (.int .i64 k),.sc (.int .i64 a),.sc (.int .i64 b),.imm 1 (ints l)]
theorem gq (k a b k' a' b':Int)(l l':List Int)(hb:l.length≤1000000000):zn Tryd.prog [] zcE [.agg (gr k a b l),.agg (gr k' a' b' l')] [] fun r h'=>r= .sc (.bool (decide (k=k'∧a=a'∧b=b'∧l=l')))∧h'=[]:=by
 have hP:=Xl l l' hb
 unfold gr
 refine zed rfl ?_
 unfold zdi Ug
 refine za fun KY hKY=>?_
 simp only[go_sem,kY]
 apply hKY
 by_cases h1:k=k'
 · have d1:decide (k=k')=true:=decide_eq_true h1
   by_cases h2:a=a'
   · have d2:decide (a=a')=true:=decide_eq_true h2
     by_cases h3:b=b'
     · have d3:decide (b=b')=true:=decide_eq_true h3
       refine za fun KY hKY=>?_
       simp only[go_sem,Qz,d1,d2,d3]
       refine zh rfl (by simp only[go_sem]<;>rfl) ((hP).mono ?_)
       rintro rr hh ⟨rfl,rfl⟩
       refine⟨rfl,rfl,rfl,?_⟩
       simp only[go_sem]
       apply hKY
       refine zd ?_
       simp only[go_sem]
       simp only[h1,h2,h3,true_and]
     · have d3:decide (b=b')=false:=decide_eq_false h3
       refine za fun KY hKY=>?_
       simp only[go_sem,Qz,d1,d2,d3]
       apply hKY
       refine zd ?_
       simp only[go_sem]
       simp only[h3,false_and,and_false,decide_false]
   · have d2:decide (a=a')=false:=decide_eq_false h2
     refine za fun KY hKY=>?_
     simp only[go_sem,Qz,d1,d2]
     apply hKY
     refine zd ?_
     simp only[go_sem]
     simp only[h2,false_and,and_false,decide_false]
 · have d1:decide (k=k')=false:=decide_eq_false h1
   refine za fun KY hKY=>?_
   simp only[go_sem,Qz,d1]
   apply hKY
   refine zd ?_
   simp only[go_sem]
   simp only[h1,false_and,and_false,decide_false]
end Go.Proofs.YtneiihheeghdcaaDoor
