/- The three parts of any small graph are what they are by definition, over all largest matchings; and so are the pieces of D. -/
import Derived.Test.YtkjppnofgmpeeaaRows
import Derived.Test.YtkjppnofgmpeeaaGolhili5
set_option linter.all false

namespace Go.Proofs.Ytkjppnofgmpeeaa
open Go Go.Ga
theorem mix :Try.prog.follows .mixedOrders=true:=by kernel_rfl
def zcX :List zl:=[oO 4]
def zcW :List zl:=[oM 11 0,oM 12 1,(none,.call 13 (.f 9) [(.t 11,false),(.t 12,false),(.c (.int .i64 11),false),(.c (.int .i64 40),false)]),(none,.alloc 5 [.int .i64 0,.slice none 0 0]),oW 5 13 2]
def zcV :List zl:=[oT 15 5 2,oC 16 11 15,oM 14 16,oY 17 14 0,oY 18 14 1,(none,.alloc 6 [.slice none 0 0,.slice none 0 0,.slice none 0 0]),oW 6 17 3,oS 7 18]
def zcU :List zl:=[oT 19 5 2,oC 20 19 19,(none,.alloc 8 [.slice none 0 0,.slice none 0 0,.slice none 0 0]),oW 8 20 3]
def zcT :List zl:=[oT 22 5 2,oC 23 20 22,oM 21 23,oY 24 21 0,oY 25 21 1,oS 9 24,oS 10 25]
def zcS :Zf:=.one 0 (none,.call 26 (.f 10) []) (.take [2,3,4,5,6,7,8,9,10,11,12,13,14,15,16,17,18,19,20,21,22,23,24,25,26] (oM 27 26) (.take [3,4,5,6,7,8,9,10,11,12,13,14,15,16,17,18,19,20,21,22,23,24,25,26] (oK 27 true 28 7) (.take [4,5,6,7,8,9,10,11,12,13,14,15,16,17,18,
 19,20,21,22,23,24,25,26] (KE 27 true 29 .eql 28 0) (.take [5,6,7,8,9,10,11,12,13,14,15,16,17,18,19,20,21,22,23,24,25,26] (oP 30 27 29) (.take [6,7,8,9,10,11,12,13,14,15,16,17,18,19,20,21,22,23,24,25,26] (oM 31 30) (.take [8,9,10,11,12,13,14,15,16,17,18,19,20,21,22,23,24,25,26] (some (31,true),.r (.ld 32 (.t 6) 3 true)) (.take [8,
 9,10,11,12,13,14,15,16,17,18,19,20,21,22,23,24,25,26] (some (31,true),.r (.ld 33 (.t 8) 3 true)) (.one 8 (some (31,true),.call 34 (.f 17) [(.t 32,false),(.t 33,false)]) (.take [10,11,12,13,14,15,16,17,18,19,20,21,22,23,24,25,26] (oP 35 31 34) (.take [11,12,13,14,15,16,17,18,19,20,21,22,23,24,25,26] (oM 36 35) (.take [12,
 13,14,15,16,17,18,19,20,21,22,23,24,25,26] (oK 36 true 37 10) (.take [13,14,15,16,17,18,19,20,21,22,23,24,25,26] (KE 36 true 38 .eql 37 0) (.take [14,15,16,17,18,19,20,21,22,23,24,25,26] (oP 39 36 38) (.take [15,16,17,18,19,20,21,22,23,24,25,26] (oM 40 39) (.take [24,25,26] (oK 40 true 41 9) (.take [23,
 24,25,26] (some (40,true),.r (.ld 42 (.t 5) 2 true)) (.take [18,19,22,23,24,25,26] (some (40,true),.r (.fldA 43 (.t 8) 1)) (.take [19,22,23,24,25,26] (q5 40 true 44 43 1) (.take [21,22,23,24,25,26] (some (40,true),.r (.fldA 46 (.t 8) 2)) (.take [22,23,24,25,26] (q5 40 true 47 46 1) (.one 19 (some (40,
 true),.app 45 (.c (.slice none 0 0)) (.t 44) 1 8) (.one 22 (some (40,true),.app 48 (.t 45) (.t 47) 1 8) (.one 23 (some (40,true),.call 49 (.f 22) [(.t 42,false),(.t 48,false)]) (.one 24 (some (40,true),.call 50 (.f 21) [(.t 41,false),(.t 49,false)]) (.take [26] (oP 51 40 50) (.one 26 (oS 4 51) .done))))))))))))))))))))))))))
def xL :List Nat:=[0,1,4,5,6,7,8,9,10]
def zms :zD:=.seq (.reg xL zcX xL) (.seq (.reg [0,1,4,6,7,8,9,10] zcW xL) (.seq (.reg [0,1,4,5,7,8,9,10] zcV xL) (.seq (.reg [0,
 1,4,5,6,7,9,10] zcU xL) (.seq (.reg xL zcT xL) (.seq (.draw xL zcS xL) .ret)))))
abbrev zmc :Nat:=6
theorem zmj :jU Try.prog Try.f6.ntmps 2 [4] xL [(.tmp 4)] zms zmc:=jY mix Try.func6 (by kernel_rfl) rfl
def zcR :List zl:=[(none,.alloc 8 [.int .i64 0,.slice none 0 0])]
def zcQ :List zl:=[oM 13 0,(none,.r (.conv 14 .u64 (.t 13))),oM 15 2,oB 16 .add 15 1,(none,.r (.conv 17 .u64 (.t 16))),oD 18 .rem 14 17,(none,.r (.conv 19 .i64 (.t 18))),oS 0 19]
def zcP :List zl:=[oM 20 0,(none,.bld 21 [((0,1),(.t 20,true))] [.int .i64 0,.slice none 0 0]),(none,.alloc 9 [.int .i64 0,.slice none 0 0]),oW 9 21 2]
def zcO :List zl:=[oI 10 0]
def Yd :List zl:=[oM 22 10,oB 23 .add 22 1,oM 24 1,oE 25 24,oD 26 .lss 23 25,oM 27 26,(some (27,true),.r (.fldA 28 (.t 9) 1)),q5 27 true 29 28 1,(some (27,true),.r (.len 30 (.t 29))),oK 27 true 31 3,oKD 27 true 32 .lss 30 31,oP 33 27 32,oM 34 33,oK 34 true 35 0,KE 34 true 36 .gtr 35 0,
 oP 37 34 36,oM 38 37,oK 38 true 39 10,KE 38 true 40 .lss 39 400,oP 41 38 40]
def zcN :Zf:=.take [20,21,22,23,25,26] (oT 45 9 2) (.take [3,4,5,8,9,20,21,22,23,25,26] (oM 46 1) (.take [3,4,5,8,9,20,21,22,23,25,26] (oM 47 10) (.take [4,5,8,9,20,21,22,23,25,26] (oX 48 46 47 1) (.take [5,8,9,20,21,22,23,25,26] (oL 49 48 1) (.take [8,9,20,21,22,23,25,26] (none,
 .r (.conv 50 .u64 (.t 49))) (.take [7,8,9,20,21,22,23,25,26] (oM 51 0) (.take [8,9,20,21,22,23,25,26] (none,.r (.conv 52 .u64 (.t 51))) (.take [9,20,21,22,23,25,26] (oD 53 .rem 50 52) (.take [20,21,22,23,25,26] (none,.r (.conv 54 .i64 (.t 53))) (.take [13,14,15,18,19,20,21,22,23,25,26] (oM 55 1) (.take [12,
 13,14,15,18,19,20,21,22,23,25,26] (oM 56 10) (.take [13,14,15,18,19,20,21,22,23,25,26] (oB 57 .add 56 1) (.take [14,15,18,19,20,21,22,23,25,26] (oX 58 55 57 1) (.take [15,18,19,20,21,22,23,25,26] (oL 59 58 1) (.take [18,19,20,21,22,23,25,26] (none,.r (.conv 60 .u64 (.t 59))) (.take [17,18,19,20,21,22,
 23,25,26] (oM 61 0) (.take [18,19,20,21,22,23,25,26] (none,.r (.conv 62 .u64 (.t 61))) (.take [19,20,21,22,23,25,26] (oD 63 .rem 60 62) (.take [20,21,22,23,25,26] (none,.r (.conv 64 .i64 (.t 63))) (.two 20 (oC3 65 28 45 54 64) (.take [22,23,25,26] (oM 44 65) (.take [25,26] (oY 66 44 0) (.take [26] (oY 67 44 1) (.one 24 (none,
 .alloc 11 [.int .i64 0,.slice none 0 0]) (.one 25 (oW 11 66 2) (.one 26 (oS 12 67) .done)))))) 24 (none,.alloc 11 [.int .i64 0,.slice none 0 0]) (.one 20 (oC3 65 28 45 54 64) (.take [22,23,25,26] (oM 44 65) (.take [25,26] (oY 66 44 0) (.take [26] (oY 67 44 1) (.one 25 (oW 11 66 2) (.one 26 (oS 12 67) .done))))))))))))))))))))))))))
def wL :List zl:=[oM 68 12,oB 69 .eql 68 0]
def kT :List zl:=[oT 70 11 2,oW 9 70 2]
def wK :List zl:=[oM 42 10,oB 43 .add 42 2,oS 10 43]
def wJ :List zl:=[oT 71 9 2,oW 8 71 2]
def Q8 :List Nat:=[0,1,2,3,8,9,10,11,12,41,69]
def zmr :zD:=.seq (.reg [0,1,2,3,9,10,11,12,41,69] zcR Q8) (.seq (.reg Q8 zcQ Q8) (.seq (.reg [0,1,2,3,8,10,11,12,41,69] zcP Q8) (.seq (.seq (.reg Q8 zcO Q8) (.blk 0 (.loop (.seq (.seq (.reg [0,
 1,2,3,8,9,10,11,12,69] Yd Q8) (.cond (.t 41) .skip (.exit 0))) (.seq (.blk 1 (.seq (.draw [0,1,2,3,8,9,10,12,41,69] zcN Q8) (.seq (.reg [0,1,2,3,8,9,10,11,12,41] wL Q8) (.cond (.t 69) (.reg Q8 kT Q8) .skip)))) (.reg Q8 wK Q8)))))) (.seq (.reg Q8 wJ Q8) .ret))))
abbrev zmb :Nat:=9
theorem zmi :jU Try.prog Try.f9.ntmps 4 [] Q8 [(.cell 8 2 true)] zmr zmb:=jY mix Try.func9 (by kernel_rfl) rfl
def zaL :List zl:=[oO 0]
def zaK :List zl:=[(none,.bld 4 [((0,1),(.c (.int .i64 0),true)),((1,1),(.c (.int .i64 1),true))] [.int .i64 0,.int .i64 0]),(none,.bld 5 [((0,1),(.c (.int .i64 0),true)),((1,1),(.c (.int .i64 2),true))] [.int .i64 0,.int .i64 0]),(none,.blds 6 2 2 [((0,2),(.t 4,true)),((2,2),(.t 5,
 true))] [.int .i64 0,.int .i64 0]),(none,.bld 7 [((0,1),(.c (.int .i64 3),true)),((1,1),(.t 6,true))] [.int .i64 0,.slice none 0 0]),oC 8 11 7,oM 3 8,oY 9 3 0,oY 10 3 1,(none,.alloc 1 [.slice none 0 0,.slice none 0 0,.slice none 0 0]),oW 1 9 3,oS 2 10]
def zaJ :List zl:=[oM 11 2,oB 12 .eql 11 0,oM 13 12,(some (13,true),.r (.ld 14 (.t 1) 3 true)),(some (13,true),.blds 15 2 1 [((0,1),(.c (.int .i64 1),true)),((1,1),(.c (.int .i64 2),true))] [.int .i64 0]),(some (13,true),.blds 16 1 1 [((0,1),(.c (.int .i64 0),true))] [.int .i64 0]),
 (some (13,true),.bld 17 [((0,1),(.t 15,true)),((1,1),(.t 16,true))] [.slice none 0 0,.slice none 0 0,.slice none 0 0]),(some (13,true),.call 18 (.f 17) [(.t 14,false),(.t 17,false)]),oP 19 13 18,oS 0 19]
def xM :List Nat:=[0,1,2]
def zkc :zD:=.seq (.reg xM zaL xM) (.seq (.reg [0,2] zaK xM) (.seq (.reg xM zaJ xM) .ret))
abbrev zi8 :Nat:=10
theorem zlK :jU Try.prog Try.f10.ntmps 0 [0] xM [(.tmp 0)] zkc zi8:=jY mix Try.func10 (by kernel_rfl) rfl
def zaI :List zl:=[(none,.box 1 (.t 0)),(none,.alloc 2 [.slice none 0 0,.slice none 0 0,.slice none 0 0]),oI 3 0]
def zaH :List zl:=[oT 9 1 2,oC 10 29 9,oM 8 10,oY 11 8 0,oY 12 8 1,oY 13 8 2,oS 4 11,oS 5 12,oS 6 13]
def Ug :List zl:=[oM 14 6,oB 15 .neq 14 0]
def zgG :List zl:=[(none,.bld 16 [] [.slice none 0 0,.slice none 0 0,.slice none 0 0]),oM 17 6,oW 2 16 3,oS 3 17]
def Ue :List zl:=[oM 18 4,(none,.mkfn 19 (.func 30) [(.t 18,false)] []),oS 7 19]
def Ud :List zl:=[oM 20 7,(none,.call 21 (.t 20) [(.c (.int .i64 1),false)]),oM 22 7,(none,.call 23 (.t 22) [(.c (.int .i64 2),false)]),oM 24 7,(none,.call 25 (.t 24) [(.c (.int .i64 0),false)]),(none,.bld 26 [((0,1),(.t 21,true)),((1,1),(.t 23,true)),((2,1),(.t 25,true))] [.slice none 0 0,
 .slice none 0 0,.slice none 0 0]),oW 2 26 3,oI 3 0]
def QZ :List Nat:=[0,1,2,3,4,5,6,7,15]
def zkb :zD:=.seq (.reg [0,3,4,5,6,7,15] zaI QZ) (.seq (.reg QZ zaH QZ) (.seq (.seq (.reg [0,1,2,3,4,5,6,7] Ug QZ) (.cond (.t 15) (.seq (.reg QZ zgG QZ) .ret) .skip)) (.seq (.reg QZ Ue QZ) (.seq (.reg QZ Ud QZ) .ret))))
abbrev zfG :Nat:=11
theorem zlJ :jU Try.prog Try.f11.ntmps 1 [3] QZ [(.cell 2 3 true),(.tmp 3)] zkb zfG:=jY mix Try.func11 (by kernel_rfl) rfl
def zaG :List zl:=[oO 4]
def zaF :List zl:=[oI 5 0]
def zaE :List zl:=[oM 6 5,oM 7 0,oE 8 7,oD 9 .lss 6 8]
def zaD :List zl:=[oM 12 0,oM 13 5,oX 14 12 13 1,oL 15 14 1,oM 16 1,oD 17 .eql 15 16]
def zaC :List zl:=[(none,.asg 4 (.c (.bool true)) true)]
def zaB :List zl:=[oM 10 5,oB 11 .add 10 1,oS 5 11]
def zaA :List zl:=[oO 4]
def qz :List Nat:=[0,1,4,5,9,17]
def zka :zD:=.seq (.reg qz zaG qz) (.seq (.seq (.reg qz zaF qz) (.blk 0 (.loop (.seq (.seq (.reg [0,1,4,5,17] zaE qz) (.cond (.t 9) .skip (.exit 0))) (.seq (.blk 1 (.seq (.reg [0,
 1,4,5,9] zaD qz) (.cond (.t 17) (.seq (.reg qz zaC qz) .ret) .skip))) (.reg qz zaB qz)))))) (.seq (.reg qz zaA qz) .ret))
abbrev zi7 :Nat:=13
theorem zlI :jU Try.prog Try.f13.ntmps 2 [4] qz [(.tmp 4)] zka zi7:=jY mix Try.func13 (by kernel_rfl) rfl
def zaz :List zl:=[oO 4]
def zay :List zl:=[oM 5 0,oM 6 1,(none,.call 7 (.f 32) [(.t 5,false),(.t 6,false),(.f 33,false)]),oS 4 7]
def UV :List Nat:=[0,1,4]
def zj9 :zD:=.seq (.reg UV zaz UV) (.seq (.reg UV zay UV) .ret)
abbrev KJ :Nat:=14
theorem zlH :jU Try.prog Try.f14.ntmps 2 [4] UV [(.tmp 4)] zj9 KJ:=jY mix Try.func14 (by kernel_rfl) rfl
def zax :List zl:=[(none,.box 2 (.t 0)),(none,.box 3 (.t 1)),oO 4]
def zaw :List zl:=[oF 5 2 0,oL 6 5 1,oF 7 3 0,oL 8 7 1,QO 9 14 6 8,oM 10 9,(some (10,true),.r (.fldA 11 (.t 2) 1)),q5 10 true 12 11 1,(some (10,true),.r (.fldA 13 (.t 3) 1)),q5 10 true 14 13 1,(some (10,true),.call 15 (.f 14) [(.t 12,false),(.t 14,false)]),oP 16 10 15,oM 17 16,
 (some (17,true),.r (.fldA 18 (.t 2) 2)),q5 17 true 19 18 1,(some (17,true),.r (.fldA 20 (.t 3) 2)),q5 17 true 21 20 1,(some (17,true),.call 22 (.f 14) [(.t 19,false),(.t 21,false)]),oP 23 17 22,oS 4 23]
def Kf :List Nat:=[0,1,2,3,4]
def zj8 :zD:=.seq (.reg [0,1,4] zax Kf) (.seq (.reg Kf zaw Kf) .ret)
abbrev zi6 :Nat:=17
theorem zlG :jU Try.prog Try.f17.ntmps 2 [4] Kf [(.tmp 4)] zj8 zi6:=jY mix Try.func17 (by kernel_rfl) rfl
def zav :List zl:=[(none,.box 1 (.t 0)),(none,.alloc 2 [.slice none 0 0,.slice none 0 0,.slice none 0 0])]
def zau :List zl:=[oT 13 1 2,oC 14 31 13,oS 3 14]
def zat :List zl:=[oM 15 3,oE 16 15,oB 17 .sub 16 1,oS 4 17]
def zas :List zl:=[oF 18 1 0,oL 19 18 1,(none,.mk 20 (.t 19) (.t 19) 1 1 [.bool false]),oS 5 20]
def zar :List zl:=[oF 21 1 0,oL 22 21 1,(none,.mk 23 (.t 22) (.t 22) 1 1 [.bool false]),oS 6 23]
def zaq :List zl:=[oI 7 0]
def Uc :List zl:=[oM 24 7,oF 25 1 0,oL 26 25 1,oD 27 .lss 24 26]
def zap :Zf:=.take [15,16] (oM 30 5) (.take [15,16] (oM 31 7) (.take [8,9,14,15,16] (oM 32 3) (.take [7,8,9,14,15,16] (oM 33 4) (.take [5,6,7,8,9,14,15,16] (oM 34 7) (.take [6,7,8,9,14,15,16] (none,.r (.conv 35 .u64 (.t 34))) (.take [7,8,9,14,15,16] (none,.r (.bin 36 .shl 0 (.c (.int .i64 1)) (.t 35))) (.take [8,
 9,14,15,16] (oD 37 .andNot 33 36) (.take [9,14,15,16] (oX 38 32 37 1) (.take [14,15,16] (oL 39 38 1) (.take [12,13,14,15,16] (oM 40 3) (.take [12,13,14,15,16] (oM 41 4) (.take [13,14,15,16] (oX 42 40 41 1) (.take [14,15,16] (oL 43 42 1) (.take [15,16] (oD 44 .eql 39 43) (.take [16] (oX 45 30 31 1) (.one 16 (oW 45 44 1) .done))))))))))))))))
def zao :List zl:=[oM 28 7,oB 29 .add 28 1,oS 7 29]
def zan :List zl:=[oI 8 0]
def WW :List zl:=[oM 46 8,oF 47 1 1,oL 48 47 1,oE 49 48,oD 50 .lss 46 49]
def ke :Zf:=.take [1,3,4,5,12,13] (oF 53 1 1) (.take [3,4,5,12,13] (oL 54 53 1) (.take [3,4,5,12,13] (oM 55 8) (.take [4,5,12,13] (oX 56 54 55 2) (.take [5,12,13] (oF 57 56 0) (.take [12,13] (oL 58 57 1) (.take [7,9,10,11,13] (oF 59 1 1) (.take [9,10,11,13] (oL 60 59 1) (.take [9,
 10,11,13] (oM 61 8) (.take [10,11,13] (oX 62 60 61 2) (.take [11,13] (oF 63 62 1) (.take [13] (oL 64 63 1) (.one 12 (oS 9 58) (.one 13 (oS 10 64) .done)))))))))))))
def WV :List zl:=[oM 65 6,oM 66 9,oM 67 6,oM 68 9,oX 69 67 68 1,oL 70 69 1,oM 71 70,oK 71 false 72 5,oK 71 false 73 10,(some (71,false),.r (.idxA 74 (.t 72) (.t 73) 1)),q5 71 false 75 74 1,oQ 76 71 75,oX 77 65 66 1,oW 77 76 1]
def Qu :List zl:=[oM 78 6,oM 79 10,oM 80 6,oM 81 10,oX 82 80 81 1,oL 83 82 1,oM 84 83,oK 84 false 85 5,oK 84 false 86 9,(some (84,false),.r (.idxA 87 (.t 85) (.t 86) 1)),q5 84 false 88 87 1,oQ 89 84 88,oX 90 78 79 1,oW 90 89 1]
def Qs :List zl:=[oM 51 8,oB 52 .add 51 1,oS 8 52]
def kb :List zl:=[(none,.alloc 11 [.slice none 0 0,.slice none 0 0,.slice none 0 0])]
def ka :List zl:=[oI 12 0]
def WU :List zl:=[oM 91 12,oF 92 1 0,oL 93 92 1,oD 94 .lss 91 93]
def Yk :List zl:=[oM 104 5,oM 105 12,oX 106 104 105 1,oL 107 106 1,oS 103 107]
def V9 :List zl:=[oF 108 11 0,oL 109 108 1,oM 110 12,(none,.blds 111 1 1 [((0,1),(.t 110,true))] [.int .i64 0]),(none,.app 112 (.t 109) (.t 111) 1 8),oF 113 11 0,oW 113 112 1]
def WT :List zl:=[oM 115 6,oM 116 12,oX 117 115 116 1,oL 118 117 1,oS 114 118]
def V8 :List zl:=[oF 119 11 1,oL 120 119 1,oM 121 12,(none,.blds 122 1 1 [((0,1),(.t 121,true))] [.int .i64 0]),(none,.app 123 (.t 120) (.t 122) 1 8),oF 124 11 1,oW 124 123 1]
def V7 :List zl:=[oF 97 11 2,oL 98 97 1,oM 99 12,(none,.blds 100 1 1 [((0,1),(.t 99,true))] [.int .i64 0]),(none,.app 101 (.t 98) (.t 100) 1 8),oF 102 11 2,oW 102 101 1]
def Yj :List zl:=[oM 95 12,oB 96 .add 95 1,oS 12 96]
def V6 :List zl:=[oT 125 11 3,oW 2 125 3]
def Zl :List Nat:=[0,1,2,3,4,5,6,7,8,9,10,11,12,27,50,94,103,114]
def zj7 :zD:=.seq (.reg [0,3,4,5,6,7,8,9,10,11,12,27,50,94,103,114] zav Zl) (.seq (.reg Zl zau Zl) (.seq (.reg Zl zat Zl) (.seq (.reg Zl zas Zl) (.seq (.reg Zl zar Zl) (.seq (.seq (.reg Zl zaq Zl) (.blk 0 (.loop (.seq (.seq (.reg [0,
 1,2,3,4,5,6,7,8,9,10,11,12,50,94,103,114] Uc Zl) (.cond (.t 27) .skip (.exit 0))) (.seq (.blk 1 (.draw Zl zap Zl)) (.reg Zl zao Zl)))))) (.seq (.seq (.reg Zl zan Zl) (.blk 2 (.loop (.seq (.seq (.reg [0,
 1,2,3,4,5,6,7,8,9,10,11,12,27,94,103,114] WW Zl) (.cond (.t 50) .skip (.exit 2))) (.seq (.blk 3 (.seq (.draw Zl ke Zl) (.seq (.reg Zl WV Zl) (.reg Zl Qu Zl)))) (.reg Zl Qs Zl)))))) (.seq (.reg [0,
 1,2,3,4,5,6,7,8,9,10,12,27,50,94,103,114] kb Zl) (.seq (.seq (.reg Zl ka Zl) (.blk 4 (.loop (.seq (.seq (.reg [0,1,2,3,4,5,6,7,8,9,10,11,12,27,50,103,114] WU Zl) (.cond (.t 94) .skip (.exit 4))) (.seq (.blk 5 (.blk 6 (.seq (.reg Zl Yk Zl) (.cond (.t 103) (.reg Zl V9 Zl) (.seq (.reg Zl WT Zl) (.cond (.t 114) (.reg Zl V8 Zl) (.reg Zl V7 Zl))))))) (.reg Zl Yj Zl)))))) (.seq (.reg Zl V6 Zl) .ret)))))))))
abbrev zi5 :Nat:=19
theorem zlF :jU Try.prog Try.f19.ntmps 1 [] Zl [(.cell 2 3 true)] zj7 zi5:=jY mix Try.func19 (by kernel_rfl) rfl
def zam :List zl:=[(none,.box 1 (.t 0)),oZ 2,oI 3 0]
def zal :List zl:=[oT 7 1 2,oC 8 11 7,oM 6 8,oY 9 6 0,oY 10 6 1,(none,.alloc 4 [.slice none 0 0,.slice none 0 0,.slice none 0 0]),oW 4 9 3,oS 5 10]
def zak :List zl:=[oM 11 5,oB 12 .neq 11 0]
def zgF :List zl:=[oM 13 5,oZ 2,oS 3 13]
def zaj :Zf:=.take [7,8,9] (oT 14 1 2) (.take [2,5,6,7,8,9] (oF 15 4 1) (.take [5,6,7,8,9] (oL 16 15 1) (.take [4,5,6,7,8,9] (oF 17 4 2) (.take [5,6,7,8,9] (oL 18 17 1) (.one 5 (none,.blds 19 2 1 [((0,1),(.t 16,true)),((1,1),(.t 18,true))] [.slice none 0 0]) (.one 6 (oC 20 35 19) (.one 7 (QO 21 34 14 20) (.one 8 (oS 2 21) (.one 9 (oI 3 0) .done)))))))))
def wb :List Nat:=[0,1,2,3,4,5,12]
def zj6 :zD:=.seq (.reg [0,2,3,4,5,12] zam wb) (.seq (.reg [0,1,2,3,5,12] zal wb) (.seq (.seq (.reg [0,1,2,3,4,5] zak wb) (.cond (.t 12) (.seq (.reg wb zgF wb) .ret) .skip)) (.seq (.draw wb zaj wb) .ret)))
abbrev zi4 :Nat:=20
theorem zlE :jU Try.prog Try.f20.ntmps 1 [2,3] wb [(.tmp 2),(.tmp 3)] zj6 zi4:=jY mix Try.func20 (by kernel_rfl) rfl
def zai :List zl:=[oO 4]
def zah :List zl:=[oM 5 0,oM 6 1,(none,.call 7 (.f 36) [(.t 5,false),(.t 6,false),(.f 14,false)]),oS 4 7]
def UU :List Nat:=[0,1,4]
def zj5 :zD:=.seq (.reg UU zai UU) (.seq (.reg UU zah UU) .ret)
abbrev zi3 :Nat:=21
theorem zlD :jU Try.prog Try.f21.ntmps 2 [4] UU [(.tmp 4)] zj5 zi3:=jY mix Try.func21 (by kernel_rfl) rfl
def zag :List zl:=[(none,.box 2 (.t 0)),oZ 4]
def zaf :List zl:=[oT 16 2 2,oC 17 23 16,(none,.r (.notb 18 (.t 17)))]
def zgE :List zl:=[oZ 4]
def zae :List zl:=[oF 19 2 0,oL 20 19 1,(none,.mk 21 (.t 20) (.t 20) 1 8 [.int .i64 0]),oS 5 21]
def zad :List zl:=[oI 6 0]
def zac :List zl:=[oM 22 6,oF 23 2 0,oL 24 23 1,oD 25 .lss 22 24]
def zab :List zl:=[oM 28 5,oM 29 6,oM 30 6,oX 31 28 29 1,oW 31 30 1]
def zaa :List zl:=[oM 32 1,oM 33 6,QO 34 13 32 33]
def O9 :List zl:=[oM 35 5,oM 36 6,oX 37 35 36 1,(none,.st (.t 37) (.c (.int .i64 (- (0+1)))) 1)]
def Ub :List zl:=[oM 26 6,oB 27 .add 26 1,oS 6 27]
def V5 :List zl:=[(none,.asg 7 (.c (.bool true)) true)]
def V4 :List zl:=[oM 38 7]
def V3 :List zl:=[oO 7]
def V0 :List zl:=[oI 8 0]
def VZ :List zl:=[oM 39 8,oF 40 2 1,oL 41 40 1,oE 42 41,oD 43 .lss 39 42]
def VY :Zf:=.take [1,3,4,5,12,13] (oF 46 2 1) (.take [3,4,5,12,13] (oL 47 46 1) (.take [3,4,5,12,13] (oM 48 8) (.take [4,5,12,13] (oX 49 47 48 2) (.take [5,12,13] (oF 50 49 0) (.take [12,13] (oL 51 50 1) (.take [7,9,10,11,13] (oF 52 2 1) (.take [9,10,11,13] (oL 53 52 1) (.take [9,
 10,11,13] (oM 54 8) (.take [10,11,13] (oX 55 53 54 2) (.take [11,13] (oF 56 55 1) (.take [13] (oL 57 56 1) (.one 12 (oS 9 51) (.one 13 (oS 10 57) .done)))))))))))))
def Qr :Zf:=.take [2,3,4,5,6,7,8,9,10,11,12,13,14,15,16,17,18,19,20,21,22] (oM 58 5) (.take [2,3,4,5,6,7,8,9,10,11,12,13,14,15,16,17,18,19,20,21,22] (oM 59 9) (.take [3,4,5,6,7,8,9,10,11,12,13,14,15,16,17,18,19,20,21,22] (oX 60 58 59 1) (.take [4,5,6,7,8,9,10,11,12,13,14,15,
 16,17,18,19,20,21,22] (oL 61 60 1) (.take [5,6,7,8,9,10,11,12,13,14,15,16,17,18,19,20,21,22] (oB 62 .lss 61 0) (.take [6,7,8,9,10,11,12,13,14,15,16,17,18,19,20,21,22] (oM 63 62) (.take [8,9,10,11,12,13,14,15,16,17,18,19,20,21,22] (oK 63 false 64 5) (.take [8,9,10,11,12,13,14,15,16,17,18,19,20,21,22] (oK 63 false 65 10) (.take [9,
 10,11,12,13,14,15,16,17,18,19,20,21,22] (some (63,false),.r (.idxA 66 (.t 64) (.t 65) 1)) (.take [10,11,12,13,14,15,16,17,18,19,20,21,22] (q5 63 false 67 66 1) (.take [11,12,13,14,15,16,17,18,19,20,21,22] (KE 63 false 68 .lss 67 0) (.take [12,13,14,15,16,17,18,19,20,21,22] (oQ 69 63 68) (.take [13,
 14,15,16,17,18,19,20,21,22] (oM 70 69) (.take [15,16,21,22] (oK 70 false 71 5) (.take [15,16,21,22] (oK 70 false 72 9) (.take [16,21,22] (some (70,false),.r (.idxA 73 (.t 71) (.t 72) 1)) (.take [21,22] (q5 70 false 74 73 1) (.take [19,20,21,22] (oK 70 false 75 5) (.take [19,20,21,22] (oK 70 false 76 10) (.take [20,
 21,22] (some (70,false),.r (.idxA 77 (.t 75) (.t 76) 1)) (.take [21,22] (q5 70 false 78 77 1) (.take [22] (oKD 70 false 79 .eql 74 78) (.take [] (oQ 80 70 79) .done))))))))))))))))))))))
def VX :Zf:=.take [2,3,8,9] (oM 81 5) (.take [2,3,8,9] (oM 82 9) (.take [3,8,9] (oX 83 81 82 1) (.take [8,9] (oL 84 83 1) (.take [6,7,8,9] (oM 85 5) (.take [6,7,8,9] (oM 86 10) (.take [7,8,9] (oX 87 85 86 1) (.take [8,9] (oL 88 87 1) (.take [9] (none,.r (.mm 89 false (.t 84) (.t 88))) (.one 9 (oS 11 89) .done)))))))))
def VW :List zl:=[oM 90 5,oM 91 9,oM 92 5,oM 93 10,oM 94 11,oM 95 11,oX 96 90 91 1,oW 96 94 1,oX 97 92 93 1,oW 97 95 1]
def VV :List zl:=[(none,.asg 7 (.c (.bool true)) true)]
def Qq :List zl:=[oM 44 8,oB 45 .add 44 1,oS 8 45]
def VU :List zl:=[oZ 12]
def VT :List zl:=[oI 13 0]
def VS :List zl:=[oM 98 13,oF 99 2 0,oL 100 99 1,oD 101 .lss 98 100]
def VR :List zl:=[oM 104 5,oM 105 13,oX 106 104 105 1,oL 107 106 1,oM 108 13,oD 109 .neq 107 108]
def VQ :List zl:=[oZ 14]
def VP :List zl:=[oI 15 0]
def VO :List zl:=[oM 110 15,oF 111 2 0,oL 112 111 1,oD 113 .lss 110 112]
def VN :List zl:=[oM 116 5,oM 117 15,oX 118 116 117 1,oL 119 118 1,oM 120 13,oD 121 .eql 119 120]
def VM :List zl:=[oM 122 14,oM 123 15,(none,.blds 124 1 1 [((0,1),(.t 123,true))] [.int .i64 0]),(none,.app 125 (.t 122) (.t 124) 1 8),oS 14 125]
def WS :List zl:=[oM 114 15,oB 115 .add 114 1,oS 15 115]
def VL :List zl:=[oM 126 12,oM 127 14,(none,.blds 128 1 1 [((0,1),(.t 127,true))] [.slice none 0 0]),(none,.app 129 (.t 126) (.t 128) 1 24),oS 12 129]
def WR :List zl:=[oM 102 13,oB 103 .add 102 1,oS 13 103]
def VK :List zl:=[oM 130 12,oS 4 130]
def zY :List Nat:=[0,1,2,4,5,6,7,8,9,10,11,12,13,14,15,18,25,34,38,43,80,101,109,113,121]
def zj4 :zD:=.seq (.reg [0,1,4,5,6,7,8,9,10,11,12,13,14,15,18,25,34,38,43,80,101,109,113,121] zag zY) (.seq (.seq (.reg [0,1,2,4,5,6,7,8,9,10,11,12,13,14,15,25,34,38,43,80,101,109,113,121] zaf zY) (.cond (.t 18) (.seq (.reg zY zgE zY) .ret) .skip)) (.seq (.reg zY zae zY) (.seq (.seq (.reg zY zad zY) (.blk 0 (.loop (.seq (.seq (.reg [0,
 1,2,4,5,6,7,8,9,10,11,12,13,14,15,18,34,38,43,80,101,109,113,121] zac zY) (.cond (.t 25) .skip (.exit 0))) (.seq (.blk 1 (.seq (.reg zY zab zY) (.seq (.reg [0,1,2,4,5,6,7,8,9,10,11,12,13,14,15,18,25,
 38,43,80,101,109,113,121] zaa zY) (.cond (.t 34) (.reg zY O9 zY) .skip)))) (.reg zY Ub zY)))))) (.seq (.seq (.reg zY V5 zY) (.blk 2 (.loop (.seq (.seq (.reg [0,
 1,2,4,5,6,7,8,9,10,11,12,13,14,15,18,25,34,43,80,101,109,113,121] V4 zY) (.cond (.t 38) .skip (.exit 2))) (.blk 3 (.seq (.reg zY V3 zY) (.seq (.reg zY V0 zY) (.blk 4 (.loop (.seq (.seq (.reg [0,
 1,2,4,5,6,7,8,9,10,11,12,13,14,15,18,25,34,38,80,101,109,113,121] VZ zY) (.cond (.t 43) .skip (.exit 4))) (.seq (.blk 5 (.seq (.draw zY VY zY) (.seq (.seq (.draw [0,1,2,4,5,6,7,8,9,10,11,12,13,
 14,15,18,25,34,38,43,101,109,113,121] Qr zY) (.cond (.t 80) (.exit 5) .skip)) (.seq (.draw zY VX zY) (.seq (.reg zY VW zY) (.reg zY VV zY)))))) (.reg zY Qq zY)))))))))))) (.seq (.reg zY VU zY) (.seq (.seq (.reg zY VT zY) (.blk 6 (.loop (.seq (.seq (.reg [0,
 1,2,4,5,6,7,8,9,10,11,12,13,14,15,18,25,34,38,43,80,109,113,121] VS zY) (.cond (.t 101) .skip (.exit 6))) (.seq (.blk 7 (.seq (.seq (.reg [0,1,2,4,5,6,7,8,9,10,11,12,13,14,15,18,25,34,38,43,80,101,113,121] VR zY) (.cond (.t 109) (.exit 7) .skip)) (.seq (.reg zY VQ zY) (.seq (.seq (.reg zY VP zY) (.blk 8 (.loop (.seq (.seq (.reg [0,
 1,2,4,5,6,7,8,9,10,11,12,13,14,15,18,25,34,38,43,80,101,109,121] VO zY) (.cond (.t 113) .skip (.exit 8))) (.seq (.blk 9 (.seq (.reg [0,1,2,4,5,6,7,8,9,10,11,12,13,14,15,18,25,34,38,43,80,101,109,113] VN zY) (.cond (.t 121) (.reg zY VM zY) .skip))) (.reg zY WS zY)))))) (.reg zY VL zY))))) (.reg zY WR zY)))))) (.seq (.reg zY VK zY) .ret)))))))
abbrev zfF :Nat:=22
theorem zlC :jU Try.prog Try.f22.ntmps 2 [4] zY [(.tmp 4)] zj4 zfF:=jY mix Try.func22 (by kernel_rfl) rfl
def O8 :List zl:=[(none,.box 1 (.t 0)),oO 2]
def yR :List zl:=[oF 5 1 0,oL 6 5 1,oB 7 .lss 6 0,oM 8 7,(some (8,false),.r (.fldA 9 (.t 1) 0)),q5 8 false 10 9 1,KE 8 false 11 .gtr 10 4096,oQ 12 8 11,oM 13 12,(some (13,false),.r (.fldA 14 (.t 1) 1)),q5 13 false 15 14 1,(some (13,false),.r (.len 16 (.t 15))),KE 13 false 17 .gtr 16 65536,
 oQ 18 13 17]
def wZ :List zl:=[oO 2]
def O7 :List zl:=[oI 3 0]
def O6 :List zl:=[oM 19 3,oF 20 1 1,oL 21 20 1,oE 22 21,oD 23 .lss 19 22]
def O5 :List zl:=[oF 26 1 1,oL 27 26 1,oM 28 3,oX 29 27 28 2,oT 30 29 2,(none,.alloc 4 [.int .i64 0,.int .i64 0]),oW 4 30 2]
def yQ :List zl:=[oF 31 4 0,oL 32 31 1,oB 33 .lss 32 0,oM 34 33,(some (34,false),.r (.fldA 35 (.t 4) 0)),q5 34 false 36 35 1,(some (34,false),.r (.fldA 37 (.t 4) 1)),q5 34 false 38 37 1,oKD 34 false 39 .geq 36 38,oQ 40 34 39,oM 41 40,(some (41,false),.r (.fldA 42 (.t 4) 1)),
 q5 41 false 43 42 1,(some (41,false),.r (.fldA 44 (.t 1) 0)),q5 41 false 45 44 1,oKD 41 false 46 .geq 43 45,oQ 47 41 46]
def wY :List zl:=[oO 2]
def Ua :Zf:=.take [1,2,3,4,5,6,7,8,9,10,11,12] (oM 48 3) (.take [2,3,4,5,6,7,8,9,10,11,12] (oB 49 .gtr 48 0) (.take [3,4,5,6,7,8,9,10,11,12] (oM 50 49) (.take [4,7,8,10,11,12] (some (50,true),.r (.fldA 51 (.t 1) 1)) (.take [7,8,10,11,12] (q5 50 true 52 51 1) (.take [6,7,8,10,
 11,12] (oK 50 true 53 3) (.take [7,8,10,11,12] (KE 50 true 54 .sub 53 1) (.take [8,10,11,12] (some (50,true),.r (.idxA 55 (.t 52) (.t 54) 2)) (.take [10,11,12] (some (50,true),.r (.ld 56 (.t 55) 2 true)) (.take [10,11,12] (some (50,true),.r (.ld 57 (.t 4) 2 true)) (.one 10 (some (50,true),.call 58 (.f 37) [(.t 56,
 false),(.t 57,false)]) (.take [12] (some (50,true),.r (.notb 59 (.t 58))) (.take [] (oP 60 50 59) .done))))))))))))
def O4 :List zl:=[oO 2]
def WQ :List zl:=[oM 24 3,oB 25 .add 24 1,oS 3 25]
def VJ :List zl:=[(none,.asg 2 (.c (.bool true)) true)]
def Jg :List Nat:=[0,1,2,3,4,18,23,47,60]
def zj3 :zD:=.seq (.reg [0,2,3,4,18,23,47,60] O8 Jg) (.seq (.seq (.reg [0,1,2,3,4,23,47,60] yR Jg) (.cond (.t 18) (.seq (.reg Jg wZ Jg) .ret) .skip)) (.seq (.seq (.reg Jg O7 Jg) (.blk 0 (.loop (.seq (.seq (.reg [0,
 1,2,3,4,18,47,60] O6 Jg) (.cond (.t 23) .skip (.exit 0))) (.seq (.blk 1 (.seq (.reg [0,1,2,3,18,23,47,60] O5 Jg) (.seq (.seq (.reg [0,1,2,3,4,18,23,60] yQ Jg) (.cond (.t 47) (.seq (.reg Jg wY Jg) .ret) .skip)) (.seq (.draw [0,
 1,2,3,4,18,23,47] Ua Jg) (.cond (.t 60) (.seq (.reg Jg O4 Jg) .ret) .skip))))) (.reg Jg WQ Jg)))))) (.seq (.reg Jg VJ Jg) .ret)))
abbrev zi2 :Nat:=23
theorem zlB :jU Try.prog Try.f23.ntmps 1 [2] Jg [(.tmp 2)] zj3 zi2:=jY mix Try.func23 (by kernel_rfl) rfl
def O2 :List zl:=[(none,.box 1 (.t 0)),oZ 2,(none,.alloc 3 [.int .i64 0,.int .i64 0]),oI 4 0]
def O1 :List zl:=[oT 8 1 2,oC 9 38 8,(none,.r (.notb 10 (.t 9)))]
def zgD :List zl:=[(none,.bld 11 [] [.int .i64 0,.int .i64 0]),oZ 2,oW 3 11 2,oI 4 3]
def OZ :List zl:=[oT 12 1 2,oC 13 39 12,oS 5 13]
def u9 :List zl:=[oF 15 1 0,oL 16 15 1,oF 17 1 1,oL 18 17 1,QO 19 41 16 18,oM 20 5,QO 21 40 19 20,oM 14 21,oY 22 14 0,oY 23 14 1,(none,.alloc 7 [.int .i64 0,.int .i64 0]),oS 6 22,oW 7 23 2]
def u7 :Zf:=.take [2,3,4] (oM 24 5) (.take [3,4] (oT 25 7 2) (.one 2 (oS 2 24) (.one 3 (oW 3 25 2) (.one 4 (oI 4 0) .done))))
def ya :List Nat:=[0,1,2,3,4,5,6,7,10]
def zj2 :zD:=.seq (.reg [0,2,4,5,6,7,10] O2 ya) (.seq (.seq (.reg [0,1,2,3,4,5,6,7] O1 ya) (.cond (.t 10) (.seq (.reg ya zgD ya) .ret) .skip)) (.seq (.reg ya OZ ya) (.seq (.reg [0,
 1,2,3,4,5,6,10] u9 ya) (.seq (.draw ya u7 ya) .ret))))
abbrev zi1 :Nat:=25
theorem zlA :jU Try.prog Try.f25.ntmps 1 [2,4] ya [(.tmp 2),(.cell 3 2 true),(.tmp 4)] zj2 zi1:=jY mix Try.func25 (by kernel_rfl) rfl
def OY :List zl:=[(none,.box 3 (.t 0)),(none,.alloc 6 [.int .i64 0,.slice none 0 0]),oI 7 0]
def OX :List zl:=[oT 9 3 2,oC 10 23 9,(none,.r (.notb 11 (.t 10))),oS 8 11]
def zgC :List zl:=[(none,.bld 12 [] [.int .i64 0,.slice none 0 0]),oW 6 12 2,oI 7 3]
def yP :List zl:=[oT 14 3 2,oM 15 1,QO 16 45 14 15,(none,.r (.notb 17 (.t 16))),oM 18 17,(some (18,false),.r (.ld 19 (.t 3) 2 true)),oK 18 false 20 2,(some (18,false),.call 21 (.f 45) [(.t 19,false),(.t 20,false)]),(some (18,false),.r (.notb 22 (.t 21))),oQ 23 18 22,oS 13 23]
def yO :List zl:=[(none,.bld 24 [] [.int .i64 0,.slice none 0 0]),oW 6 24 2,oI 7 4]
def u6 :List zl:=[oM 26 1,oM 27 2,oD 28 .eql 26 27,oS 25 28]
def OW :List zl:=[(none,.bld 29 [] [.int .i64 0,.slice none 0 0]),oW 6 29 2,oI 7 5]
def OV :List zl:=[oT 31 3 2,oM 32 1,oM 33 2,oC3 34 46 31 32 33,oS 30 34]
def OU :List zl:=[(none,.bld 35 [] [.int .i64 0,.slice none 0 0]),oW 6 35 2,oI 7 6]
def u5 :List zl:=[oF 37 3 1,oL 38 37 1,oE 39 38,oB 40 .geq 39 65536,oS 36 40]
def VI :List zl:=[(none,.bld 41 [] [.int .i64 0,.slice none 0 0]),oW 6 41 2,oI 7 8]
def VH :Zf:=.take [1,8,9,10] (oF 42 3 0) (.take [8,9,10] (oL 43 42 1) (.take [3,7,8,9,10] (oF 44 3 1) (.take [7,8,9,10] (oL 45 44 1) (.take [6,7,8,9,10] (oM 46 1) (.take [6,7,8,9,10] (oM 47 2) (.one 6 (QO 48 48 46 47) (.one 7 (QO 49 47 45 48) (.one 8 (none,.bld 50 [((0,1),(.t 43,
 true)),((1,1),(.t 49,true))] [.int .i64 0,.slice none 0 0]) (.one 9 (oW 6 50 2) (.one 10 (oI 7 0) .done))))))))))
def jq :List Nat:=[0,1,2,3,6,7,8,13,25,30,36]
def zj1 :zD:=.seq (.reg [0,1,2,7,8,13,25,30,36] OY jq) (.seq (.blk 0 (.seq (.reg jq OX jq) (.cond (.t 8) (.seq (.reg jq zgC jq) .ret) (.seq (.reg jq yP jq) (.cond (.t 13) (.seq (.reg jq yO jq) .ret) (.seq (.reg jq u6 jq) (.cond (.t 25) (.seq (.reg jq OW jq) .ret) (.seq (.reg jq OV jq) (.cond (.t 30) (.seq (.reg jq OU jq) .ret) (.seq (.reg jq u5 jq) (.cond (.t 36) (.seq (.reg jq VI jq) .ret) .skip))))))))))) (.seq (.draw jq VH jq) .ret))
abbrev zi0 :Nat:=28
theorem zlz :jU Try.prog Try.f28.ntmps 3 [7] jq [(.cell 6 2 true),(.tmp 7)] zj1 zi0:=jY mix Try.func28 (by kernel_rfl) rfl
def OT :List zl:=[(none,.box 1 (.t 0)),oZ 2,oZ 3,oI 4 0]
def OS :List zl:=[oT 11 1 2,oC 12 25 11,oM 10 12,oY 13 10 0,oY 14 10 1,oY 15 10 2,(none,.alloc 6 [.int .i64 0,.int .i64 0]),oS 5 13,oW 6 14 2,oS 7 15]
def u4 :List zl:=[oM 16 7,oB 17 .neq 16 0]
def zgB :List zl:=[oM 18 7,oZ 2,oZ 3,oS 4 18]
def u0 :List zl:=[oT 20 1 2,oM 21 5,QO 22 49 20 21,oM 19 22,oY 23 19 0,oY 24 19 1,oY 25 19 2,oS 8 23,oS 9 24,oS 7 25]
def uZ :List zl:=[oM 26 9,oM 27 5,oM 28 7,oS 2 26,oS 3 27,oS 4 28]
def QY :List Nat:=[0,1,2,3,4,5,7,8,9,17]
def zj0 :zD:=.seq (.reg [0,2,3,4,5,7,8,9,17] OT QY) (.seq (.reg QY OS QY) (.seq (.seq (.reg [0,1,2,3,4,5,7,8,9] u4 QY) (.cond (.t 17) (.seq (.reg QY zgB QY) .ret) .skip)) (.seq (.reg QY u0 QY) (.seq (.reg QY uZ QY) .ret))))
abbrev ziZ :Nat:=29
theorem zly :jU Try.prog Try.f29.ntmps 1 [2,3,4] QY [(.tmp 2),(.tmp 3),(.tmp 4)] zj0 ziZ:=jY mix Try.func29 (by kernel_rfl) rfl
def OR :List zl:=[oZ 4]
def OQ :List zl:=[oM 5 0,oM 6 1,QO 7 50 5 6,oS 4 7]
def UT :List Nat:=[0,1,4]
def zjZ :zD:=.seq (.reg UT OR UT) (.seq (.reg UT OQ UT) .ret)
abbrev ziY :Nat:=30
theorem zlx :jU Try.prog Try.f30.ntmps 2 [4] UT [(.tmp 4)] zjZ ziY:=jY mix Try.func30 (by kernel_rfl) rfl
def OP :List zl:=[(none,.box 1 (.t 0)),oZ 2]
def OO :List zl:=[oF 12 1 0,oL 13 12 1,(none,.mk 14 (.t 13) (.t 13) 1 8 [.int .i64 0]),oS 3 14]
def ON :List zl:=[oI 4 0]
def uY :List zl:=[oM 15 4,oF 16 1 1,oL 17 16 1,oE 18 17,oD 19 .lss 15 18]
def OM :Zf:=.take [1,3,4,5,12,13] (oF 22 1 1) (.take [3,4,5,12,13] (oL 23 22 1) (.take [3,4,5,12,13] (oM 24 4) (.take [4,5,12,13] (oX 25 23 24 2) (.take [5,12,13] (oF 26 25 0) (.take [12,13] (oL 27 26 1) (.take [7,9,10,11,13] (oF 28 1 1) (.take [9,10,11,13] (oL 29 28 1) (.take [9,
 10,11,13] (oM 30 4) (.take [10,11,13] (oX 31 29 30 2) (.take [11,13] (oF 32 31 1) (.take [13] (oL 33 32 1) (.one 12 (oS 5 27) (.one 13 (oS 6 33) .done)))))))))))))
def OL :List zl:=[oM 34 3,oM 35 5,oM 36 3,oM 37 5,oX 38 36 37 1,oL 39 38 1,oM 40 6,(none,.r (.conv 41 .u64 (.t 40))),(none,.r (.bin 42 .shl 0 (.c (.int .i64 1)) (.t 41))),oD 43 .or 39 42,oX 44 34 35 1,oW 44 43 1]
def OK :List zl:=[oM 45 3,oM 46 6,oM 47 3,oM 48 6,oX 49 47 48 1,oL 50 49 1,oM 51 5,(none,.r (.conv 52 .u64 (.t 51))),(none,.r (.bin 53 .shl 0 (.c (.int .i64 1)) (.t 52))),oD 54 .or 50 53,oX 55 45 46 1,oW 55 54 1]
def OJ :List zl:=[oM 20 4,oB 21 .add 20 1,oS 4 21]
def OH :List zl:=[oF 56 1 0,oL 57 56 1,(none,.r (.conv 58 .u64 (.t 57))),(none,.r (.bin 59 .shl 0 (.c (.int .i64 1)) (.t 58))),(none,.mk 60 (.t 59) (.t 59) 1 8 [.int .i64 0]),oS 7 60]
def OG :List zl:=[oI 8 1]
def WP :List zl:=[oM 61 8,oM 62 7,oE 63 62,oD 64 .lss 61 63]
def VG :List zl:=[oI 9 0]
def WO :List zl:=[oM 67 8,oM 68 9,(none,.r (.conv 69 .u64 (.t 68))),oD 70 .shr 67 69,oB 71 .and 70 1,oB 72 .eql 71 0]
def VF :List zl:=[oM 73 9,oB 74 .add 73 1,oS 9 74]
def VE :List zl:=[oM 75 8,oM 76 8,oB 77 .sub 76 1,oD 78 .and 75 77,oS 10 78]
def VD :List zl:=[oM 79 7,oM 80 8,oM 81 7,oM 82 10,oX 83 81 82 1,oL 84 83 1,oX 85 79 80 1,oW 85 84 1]
def VC :List zl:=[oM 86 9,oB 87 .add 86 1,oS 11 87]
def WN :List zl:=[oM 88 11,oF 89 1 0,oL 90 89 1,oD 91 .lss 88 90]
def Yi :List zl:=[oM 94 10,oM 95 11,(none,.r (.conv 96 .u64 (.t 95))),oD 97 .shr 94 96,oB 98 .and 97 1,oB 99 .eql 98 1,oM 100 99,oK 100 true 101 3,oK 100 true 102 9,(some (100,true),.r (.idxA 103 (.t 101) (.t 102) 1)),q5 100 true 104 103 1,oK 100 true 105 11,(some (100,true),
 .r (.conv 106 .u64 (.t 105))),oKD 100 true 107 .shr 104 106,KE 100 true 108 .and 107 1,KE 100 true 109 .eql 108 1,oP 110 100 109]
def VB :Zf:=.take [16,17] (oM 111 7) (.take [16,17] (oM 112 8) (.take [4,5,15,16,17] (oM 113 7) (.take [4,5,15,16,17] (oM 114 8) (.take [5,15,16,17] (oX 115 113 114 1) (.take [15,16,17] (oL 116 115 1) (.take [12,13,14,15,16,17] (oM 117 7) (.take [11,12,13,14,15,16,17] (oM 118 10) (.take [9,
 10,11,12,13,14,15,16,17] (oM 119 11) (.take [10,11,12,13,14,15,16,17] (none,.r (.conv 120 .u64 (.t 119))) (.take [11,12,13,14,15,16,17] (none,.r (.bin 121 .shl 0 (.c (.int .i64 1)) (.t 120))) (.take [12,13,14,15,16,17] (oD 122 .andNot 118 121) (.take [13,14,15,16,17] (oX 123 117 122 1) (.take [14,15,
 16,17] (oL 124 123 1) (.take [15,16,17] (none,.r (.bin 125 .add 0 (.c (.int .i64 1)) (.t 124))) (.take [16,17] (none,.r (.mm 126 true (.t 116) (.t 125))) (.take [17] (oX 127 111 112 1) (.one 17 (oW 127 126 1) .done)))))))))))))))))
def Yh :List zl:=[oM 92 11,oB 93 .add 92 1,oS 11 93]
def VA :List zl:=[oM 65 8,oB 66 .add 65 1,oS 8 66]
def Vz :List zl:=[oM 128 7,oS 2 128]
def Zu :List Nat:=[0,1,2,3,4,5,6,7,8,9,10,11,19,64,72,91,110]
def zjY :zD:=.seq (.reg [0,2,3,4,5,6,7,8,9,10,11,19,64,72,91,110] OP Zu) (.seq (.reg Zu OO Zu) (.seq (.seq (.reg Zu ON Zu) (.blk 0 (.loop (.seq (.seq (.reg [0,
 1,2,3,4,5,6,7,8,9,10,11,64,72,91,110] uY Zu) (.cond (.t 19) .skip (.exit 0))) (.seq (.blk 1 (.seq (.draw Zu OM Zu) (.seq (.reg Zu OL Zu) (.reg Zu OK Zu)))) (.reg Zu OJ Zu)))))) (.seq (.reg Zu OH Zu) (.seq (.seq (.reg Zu OG Zu) (.blk 2 (.loop (.seq (.seq (.reg [0,
 1,2,3,4,5,6,7,8,9,10,11,19,72,91,110] WP Zu) (.cond (.t 64) .skip (.exit 2))) (.seq (.blk 3 (.seq (.reg Zu VG Zu) (.seq (.blk 4 (.loop (.seq (.seq (.reg [0,1,2,3,4,5,6,7,8,9,10,11,19,64,91,110] WO Zu) (.cond (.t 72) .skip (.exit 4))) (.blk 5 (.reg Zu VF Zu))))) (.seq (.reg Zu VE Zu) (.seq (.reg Zu VD Zu) (.seq (.reg Zu VC Zu) (.blk 6 (.loop (.seq (.seq (.reg [0,
 1,2,3,4,5,6,7,8,9,10,11,19,64,72,110] WN Zu) (.cond (.t 91) .skip (.exit 6))) (.seq (.blk 7 (.seq (.reg [0,1,2,3,4,5,6,7,8,9,10,11,19,64,72,91] Yi Zu) (.cond (.t 110) (.draw Zu VB Zu) .skip))) (.reg Zu Yh Zu))))))))))) (.reg Zu VA Zu)))))) (.seq (.reg Zu Vz Zu) .ret)))))
abbrev ziX :Nat:=31
theorem zlw :jU Try.prog Try.f31.ntmps 1 [2] Zu [(.tmp 2)] zjY ziX:=jY mix Try.func31 (by kernel_rfl) rfl
def OF :List zl:=[oO 6]
def OE :List zl:=[oM 8 0,oE 9 8,oM 10 1,oE 11 10,oD 12 .neq 9 11]
def OD :List zl:=[oO 6]
def OC :List zl:=[oI 7 0]
def OB :List zl:=[oM 13 7,oM 14 0,oE 15 14,oD 16 .lss 13 15]
def OA :Zf:=.take [9,10] (oM 19 2) (.take [3,4,9,10] (oM 20 0) (.take [3,4,9,10] (oM 21 7) (.take [4,9,10] (oX 22 20 21 1) (.take [9,10] (oL 23 22 1) (.take [7,8,9,10] (oM 24 1) (.take [7,8,9,10] (oM 25 7) (.take [8,9,10] (oX 26 24 25 1) (.take [9,10] (oL 27 26 1) (.one 9 (none,
 .call 28 (.t 19) [(.t 23,false),(.t 27,false)]) (.take [] (none,.r (.notb 29 (.t 28))) .done))))))))))
def Oz :List zl:=[oO 6]
def Oy :List zl:=[oM 17 7,oB 18 .add 17 1,oS 7 18]
def Ox :List zl:=[(none,.asg 6 (.c (.bool true)) true)]
def JT :List Nat:=[0,1,2,6,7,12,16,29]
def zjX :zD:=.seq (.reg JT OF JT) (.seq (.seq (.reg [0,1,2,6,7,16,29] OE JT) (.cond (.t 12) (.seq (.reg JT OD JT) .ret) .skip)) (.seq (.seq (.reg JT OC JT) (.blk 0 (.loop (.seq (.seq (.reg [0,
 1,2,6,7,12,29] OB JT) (.cond (.t 16) .skip (.exit 0))) (.seq (.blk 1 (.seq (.draw [0,1,2,6,7,12,16] OA JT) (.cond (.t 29) (.seq (.reg JT Oz JT) .ret) .skip))) (.reg JT Oy JT)))))) (.seq (.reg JT Ox JT) .ret)))
abbrev ziW :Nat:=32
theorem zlv :jU Try.prog Try.f32.ntmps 3 [6] JT [(.tmp 6)] zjX ziW:=jY mix Try.func32 (by kernel_rfl) rfl
def Ow :List zl:=[oO 4]
def Ov :List zl:=[oM 5 0,oM 6 1,oD 7 .eql 5 6,oS 4 7]
def US :List Nat:=[0,1,4]
def zjW :zD:=.seq (.reg US Ow US) (.seq (.reg US Ov US) .ret)
abbrev zcv :Nat:=33
theorem zlu :jU Try.prog Try.f33.ntmps 2 [4] US [(.tmp 4)] zjW zcv:=jY mix Try.func33 (by kernel_rfl) rfl
def Ou :List zl:=[(none,.box 2 (.t 0)),oZ 4]
def Ot :List zl:=[oT 5 2 2,oC 6 38 5,(none,.r (.notb 7 (.t 6)))]
def zgA :List zl:=[oZ 4]
def Oq :List zl:=[oF 8 2 0,oL 9 8 1,oF 10 2 1,oL 11 10 1,QO 12 41 9 11,oM 13 1,QO 14 51 12 13,oS 4 14]
def xa :List Nat:=[0,1,2,4,7]
def zjV :zD:=.seq (.reg [0,1,4,7] Ou xa) (.seq (.seq (.reg [0,1,2,4] Ot xa) (.cond (.t 7) (.seq (.reg xa zgA xa) .ret) .skip)) (.seq (.reg xa Oq xa) .ret))
abbrev ziV :Nat:=34
theorem zlt :jU Try.prog Try.f34.ntmps 2 [4] xa [(.tmp 4)] zjV ziV:=jY mix Try.func34 (by kernel_rfl) rfl
def Oo :List zl:=[oZ 2]
def Om :List zl:=[oI 3 0]
def Ol :List zl:=[oM 9 0,oE 10 9,(none,.r (.mov 11 (.c (.int .i64 0))))]
def Ok :List zl:=[oD 12 .lss 11 10]
def uX :List zl:=[oX 13 9 11 1,oL 14 13 1,oS 5 14]
def uW :List zl:=[oM 15 3,oM 16 5,oE 17 16,oD 18 .add 15 17,oS 3 18]
def uV :List zl:=[oM 19 3,oB 20 .lss 19 0]
def zgz :List zl:=[(none,.bad (some 21)),(none,.bad none)]
def uU :List zl:=[oB 22 .add 11 1,oS 11 22]
def Oj :List zl:=[oM 23 3,(none,.call 24 (.f 52) [(.c (.slice none 0 0),false),(.t 23,false)]),oS 6 24]
def Vy :List zl:=[oM 25 0,oE 26 25,(none,.r (.mov 27 (.c (.int .i64 0))))]
def Vx :List zl:=[oD 28 .lss 27 26]
def WM :List zl:=[oX 29 25 27 1,oL 30 29 1,oS 8 30]
def WL :List zl:=[oM 31 6,oM 32 8,(none,.app 33 (.t 31) (.t 32) 1 8),oS 6 33]
def WK :List zl:=[oB 34 .add 27 1,oS 27 34]
def Vw :List zl:=[oM 35 6,oS 2 35]
def Z2 :List Nat:=[0,2,3,5,6,8,9,10,11,12,20,25,26,27,28]
def zjU :zD:=.seq (.reg Z2 Oo Z2) (.seq (.reg Z2 Om Z2) (.seq (.seq (.reg [0,2,3,5,6,8,12,20,25,26,27,28] Ol Z2) (.blk 0 (.loop (.seq (.reg [0,
 2,3,5,6,8,9,10,11,20,25,26,27,28] Ok Z2) (.seq (.cond (.t 12) .skip (.exit 0)) (.seq (.blk 1 (.seq (.reg Z2 uX Z2) (.seq (.reg Z2 uW Z2) (.seq (.reg [0,
 2,3,5,6,8,9,10,11,12,25,26,27,28] uV Z2) (.cond (.t 20) (.reg Z2 zgz Z2) .skip))))) (.reg Z2 uU Z2))))))) (.seq (.reg Z2 Oj Z2) (.seq (.seq (.reg [0,
 2,3,5,6,8,9,10,11,12,20,28] Vy Z2) (.blk 2 (.loop (.seq (.reg [0,2,3,5,6,8,9,10,11,12,20,25,26,27] Vx Z2) (.seq (.cond (.t 28) .skip (.exit 2)) (.seq (.blk 3 (.seq (.reg Z2 WM Z2) (.reg Z2 WL Z2))) (.reg Z2 WK Z2))))))) (.seq (.reg Z2 Vw Z2) .ret)))))
abbrev zfE :Nat:=35
theorem zls :jU Try.prog Try.f35.ntmps 1 [2] Z2 [(.tmp 2)] zjU zfE:=jY mix Try.func35 (by kernel_rfl) rfl
def Oh :List zl:=[oO 6]
def Og :List zl:=[oM 8 0,oE 9 8,oM 10 1,oE 11 10,oD 12 .neq 9 11]
def Oe :List zl:=[oO 6]
def Od :List zl:=[oI 7 0]
def Oc :List zl:=[oM 13 7,oM 14 0,oE 15 14,oD 16 .lss 13 15]
def Ob :Zf:=.take [9,10] (oM 19 2) (.take [3,4,9,10] (oM 20 0) (.take [3,4,9,10] (oM 21 7) (.take [4,9,10] (oX 22 20 21 1) (.take [9,10] (oL 23 22 1) (.take [7,8,9,10] (oM 24 1) (.take [7,8,9,10] (oM 25 7) (.take [8,9,10] (oX 26 24 25 1) (.take [9,10] (oL 27 26 1) (.one 9 (none,
 .call 28 (.t 19) [(.t 23,false),(.t 27,false)]) (.take [] (none,.r (.notb 29 (.t 28))) .done))))))))))
def Oa :List zl:=[oO 6]
def o9 :List zl:=[oM 17 7,oB 18 .add 17 1,oS 7 18]
def o8 :List zl:=[(none,.asg 6 (.c (.bool true)) true)]
def JS :List Nat:=[0,1,2,6,7,12,16,29]
def zjT :zD:=.seq (.reg JS Oh JS) (.seq (.seq (.reg [0,1,2,6,7,16,29] Og JS) (.cond (.t 12) (.seq (.reg JS Oe JS) .ret) .skip)) (.seq (.seq (.reg JS Od JS) (.blk 0 (.loop (.seq (.seq (.reg [0,
 1,2,6,7,12,29] Oc JS) (.cond (.t 16) .skip (.exit 0))) (.seq (.blk 1 (.seq (.draw [0,1,2,6,7,12,16] Ob JS) (.cond (.t 29) (.seq (.reg JS Oa JS) .ret) .skip))) (.reg JS o9 JS)))))) (.seq (.reg JS o8 JS) .ret)))
abbrev ziU :Nat:=36
theorem zlr :jU Try.prog Try.f36.ntmps 3 [6] JS [(.tmp 6)] zjT ziU:=jY mix Try.func36 (by kernel_rfl) rfl
def o7 :List zl:=[(none,.box 2 (.t 0)),(none,.box 3 (.t 1)),oO 4]
def wX :List zl:=[oF 5 2 0,oL 6 5 1,oF 7 3 0,oL 8 7 1,oD 9 .lss 6 8,oM 10 9,(some (10,false),.r (.fldA 11 (.t 2) 0)),q5 10 false 12 11 1,(some (10,false),.r (.fldA 13 (.t 3) 0)),q5 10 false 14 13 1,oKD 10 false 15 .eql 12 14,oK 10 false 16 15,(some (16,true),.r (.fldA 17 (.t 2) 1)),
 q5 16 true 18 17 1,(some (16,true),.r (.fldA 19 (.t 3) 1)),q5 16 true 20 19 1,oKD 16 true 21 .lss 18 20,(some (10,false),.r (.pick 22 (.t 16) (.t 21) (.c (.bool false)))),oQ 23 10 22,oS 4 23]
def Ke :List Nat:=[0,1,2,3,4]
def zjS :zD:=.seq (.reg [0,1,4] o7 Ke) (.seq (.reg Ke wX Ke) .ret)
abbrev ziT :Nat:=37
theorem zlq :jU Try.prog Try.f37.ntmps 2 [4] Ke [(.tmp 4)] zjS ziT:=jY mix Try.func37 (by kernel_rfl) rfl
def o0 :List zl:=[(none,.box 1 (.t 0)),oO 2]
def yN :List zl:=[oF 6 1 0,oL 7 6 1,oB 8 .lss 7 0,oM 9 8,(some (9,false),.r (.fldA 10 (.t 1) 0)),q5 9 false 11 10 1,KE 9 false 12 .gtr 11 4096,oQ 13 9 12,oM 14 13,(some (14,false),.r (.fldA 15 (.t 1) 1)),q5 14 false 16 15 1,(some (14,false),.r (.len 17 (.t 16))),KE 14 false 18 .gtr 17 65536,
 oQ 19 14 18]
def wW :List zl:=[oO 2]
def oV :List zl:=[(none,.bld 20 [] []),(none,.mkfn 21 (.func 53) [(.t 20,false)] []),oS 3 21]
def oU :List zl:=[oF 22 1 1,oL 23 22 1,oE 24 23,(none,.r (.mov 25 (.c (.int .i64 0))))]
def oR :List zl:=[oD 26 .lss 25 24]
def oJ :List zl:=[oM 27 25,oX 28 23 25 2,oT 29 28 2,(none,.alloc 5 [.int .i64 0,.int .i64 0]),oS 4 27,oW 5 29 2]
def Qp :Zf:=.take [1,2,3,4,5,6,7,8,9,10,11,12,13,14,15,16,17,18,19,20,21,22,23,24,25,26,27,28,29,30,31,32] (oF 30 5 0) (.take [2,3,4,5,6,7,8,9,10,11,12,13,14,15,16,17,18,19,20,21,22,23,24,25,26,27,28,29,30,31,32] (oL 31 30 1) (.take [3,4,5,6,7,8,9,10,11,12,13,14,15,16,17,18,19,20,21,
 22,23,24,25,26,27,28,29,30,31,32] (oB 32 .lss 31 0) (.take [4,5,6,7,8,9,10,11,12,13,14,15,16,17,18,19,20,21,22,23,24,25,26,27,28,29,30,31,32] (oM 33 32) (.take [5,8,9,10,11,12,13,14,15,16,17,18,19,20,21,22,23,24,25,26,27,28,29,30,31,32] (some (33,false),.r (.fldA 34 (.t 5) 0)) (.take [8,9,10,11,12,13,
 14,15,16,17,18,19,20,21,22,23,24,25,26,27,28,29,30,31,32] (q5 33 false 35 34 1) (.take [7,8,9,10,11,12,13,14,15,16,17,18,19,20,21,22,23,24,25,26,27,28,29,30,31,32] (some (33,false),.r (.fldA 36 (.t 5) 1)) (.take [8,9,10,11,12,13,14,15,16,17,18,19,20,21,22,23,24,25,26,27,28,29,30,31,32] (q5 33 false 37 36 1) (.take [9,
 10,11,12,13,14,15,16,17,18,19,20,21,22,23,24,25,26,27,28,29,30,31,32] (oKD 33 false 38 .geq 35 37) (.take [10,11,12,13,14,15,16,17,18,19,20,21,22,23,24,25,26,27,28,29,30,31,32] (oQ 39 33 38) (.take [11,12,13,14,15,16,17,18,19,20,21,22,23,24,25,26,27,28,29,30,31,32] (oM 40 39) (.take [12,15,16,17,18,19,
 20,21,22,23,24,25,26,27,28,29,30,31,32] (some (40,false),.r (.fldA 41 (.t 5) 1)) (.take [15,16,17,18,19,20,21,22,23,24,25,26,27,28,29,30,31,32] (q5 40 false 42 41 1) (.take [14,15,16,17,18,19,20,21,22,23,24,25,26,27,28,29,30,31,32] (some (40,false),.r (.fldA 43 (.t 1) 0)) (.take [15,16,17,18,19,20,21,
 22,23,24,25,26,27,28,29,30,31,32] (q5 40 false 44 43 1) (.take [16,17,18,19,20,21,22,23,24,25,26,27,28,29,30,31,32] (oKD 40 false 45 .geq 42 44) (.take [17,18,19,20,21,22,23,24,25,26,27,28,29,30,31,32] (oQ 46 40 45) (.take [18,19,20,21,22,23,24,25,26,27,28,29,30,31,32] (oM 47 46) (.take [19,20,21,22,
 23,24,25,26,27,28,29,30,31,32] (oK 47 false 48 4) (.take [20,21,22,23,24,25,26,27,28,29,30,31,32] (KE 47 false 49 .gtr 48 0) (.take [21,22,23,24,25,26,27,28,29,30,31,32] (oK 47 false 50 49) (.take [29,30,31,32] (oK 50 true 51 3) (.take [23,26,27,29,30,31,32] (some (50,true),.r (.fldA 52 (.t 1) 1)) (.take [26,
 27,29,30,31,32] (q5 50 true 53 52 1) (.take [25,26,27,29,30,31,32] (oK 50 true 54 4) (.take [26,27,29,30,31,32] (KE 50 true 55 .sub 54 1) (.take [27,29,30,31,32] (some (50,true),.r (.idxA 56 (.t 53) (.t 55) 2)) (.take [29,30,31,32] (some (50,true),.r (.ld 57 (.t 56) 2 true)) (.take [29,30,31,32] (some (50,
 true),.r (.ld 58 (.t 5) 2 true)) (.one 29 (some (50,true),.call 59 (.t 51) [(.t 57,false),(.t 58,false)]) (.take [31,32] (KE 50 true 60 .geq 59 0) (.take [32] (some (47,false),.r (.pick 61 (.t 50) (.t 60) (.c (.bool false)))) (.take [] (oQ 62 47 61) .done))))))))))))))))))))))))))))))))
def yM :List zl:=[oO 2]
def uT :List zl:=[oB 63 .add 25 1,oS 25 63]
def Vv :List zl:=[(none,.asg 2 (.c (.bool true)) true)]
def JG :List Nat:=[0,1,2,3,4,5,19,23,24,25,26,62]
def zjR :zD:=.seq (.reg [0,2,3,4,5,19,23,24,25,26,62] o0 JG) (.seq (.seq (.reg [0,1,2,3,4,5,23,24,25,26,62] yN JG) (.cond (.t 19) (.seq (.reg JG wW JG) .ret) .skip)) (.seq (.reg JG oV JG) (.seq (.seq (.reg [0,
 1,2,3,4,5,19,26,62] oU JG) (.blk 0 (.loop (.seq (.reg [0,1,2,3,4,5,19,23,24,25,62] oR JG) (.seq (.cond (.t 26) .skip (.exit 0)) (.seq (.blk 1 (.seq (.reg [0,1,2,3,4,19,23,24,25,26,62] oJ JG) (.seq (.draw [0,1,2,3,4,5,19,23,24,
 25,26] Qp JG) (.cond (.t 62) (.seq (.reg JG yM JG) .ret) .skip)))) (.reg JG uT JG))))))) (.seq (.reg JG Vv JG) .ret))))
abbrev ziS :Nat:=38
theorem zlp :jU Try.prog Try.f38.ntmps 1 [2] JG [(.tmp 2)] zjR ziS:=jY mix Try.func38 (by kernel_rfl) rfl
def oH :List zl:=[(none,.box 1 (.t 0)),oZ 2]
def oG :List zl:=[oT 8 1 2,oC 9 54 8,(none,.bld 10 [((0,1),(.t 9,true))] [.slice none 0 0]),(none,.alloc 3 [.slice none 0 0]),oW 3 10 1]
def uS :List zl:=[oF 11 3 0,oL 12 11 1,oE 13 12,oB 14 .eql 13 0]
def oA :List zl:=[oZ 2]
def oz :List zl:=[oF 15 1 0,oL 16 15 1,oF 17 1 1,oL 18 17 1,QO 19 41 16 18,oS 4 19]
def ou :List zl:=[oF 20 3 0,oL 21 20 1,oE 22 21,(none,.r (.mov 23 (.c (.int .i64 0))))]
def uR :List zl:=[oD 24 .lss 23 22]
def ot :List zl:=[oM 25 23,oS 5 25]
def uQ :List zl:=[oT 26 3 1,oM 27 5,QO 28 55 26 27,(none,.r (.notb 29 (.t 28)))]
def oq :Zf:=.take [2,3,6,7] (oM 30 4) (.take [2,3,6,7] (oM 31 5) (.take [3,6,7] (oX 32 30 31 1) (.take [6,7] (oL 33 32 1) (.take [5,6,7] (oT 34 3 1) (.one 5 (none,.mkfn 35 (.func 55) [(.t 34,false)] []) (.one 6 (QO 36 56 33 35) (.one 7 (oS 6 36) .done)))))))
def WH :List zl:=[oM 37 6,oB 38 .geq 37 0]
def Vu :List zl:=[oM 39 4,oM 40 5,oX 41 39 40 1,oL 42 41 1,oM 43 6,oX 44 42 43 1,oL 45 44 1,oS 7 45]
def Vs :Zf:=.take [1,8,9,10,11] (oF 46 3 0) (.take [8,9,10,11] (oL 47 46 1) (.take [8,9,10,11] (oM 48 5) (.take [4,10,11] (oF 49 3 0) (.take [10,11] (oL 50 49 1) (.take [10,11] (oM 51 7) (.take [8,9,10,11] (oM 52 7) (.take [10,11] (oM 53 5) (.take [9,10,11] (oX 54 47 48 1) (.one 9 (oW 54 52 1) (.take [11] (oX 55 50 51 1) (.one 11 (oW 55 53 1) .done)))))))))))
def Yg :List zl:=[oB 56 .add 23 1,oS 23 56]
def Vr :List zl:=[oF 57 3 0,oL 58 57 1,oS 2 58]
def jp :List Nat:=[0,1,2,3,4,5,6,7,14,22,23,24,29,38]
def zjQ :zD:=.seq (.reg [0,2,3,4,5,6,7,14,22,23,24,29,38] oH jp) (.seq (.reg [0,1,2,4,5,6,7,14,22,23,24,29,38] oG jp) (.seq (.seq (.reg [0,1,2,3,4,5,6,7,22,23,24,29,38] uS jp) (.cond (.t 14) (.seq (.reg jp oA jp) .ret) .skip)) (.seq (.reg jp oz jp) (.seq (.seq (.reg [0,
 1,2,3,4,5,6,7,14,24,29,38] ou jp) (.blk 0 (.loop (.seq (.reg [0,1,2,3,4,5,6,7,14,22,23,29,38] uR jp) (.seq (.cond (.t 24) .skip (.exit 0)) (.seq (.blk 1 (.seq (.reg jp ot jp) (.seq (.seq (.reg [0,1,2,3,4,5,6,
 7,14,22,23,24,38] uQ jp) (.cond (.t 29) (.exit 1) .skip)) (.seq (.draw jp oq jp) (.seq (.reg [0,1,2,3,4,5,6,7,14,22,23,24,29] WH jp) (.cond (.t 38) (.seq (.reg jp Vu jp) (.draw jp Vs jp)) .skip)))))) (.reg jp Yg jp))))))) (.seq (.reg jp Vr jp) .ret)))))
abbrev ziR :Nat:=39
theorem zlo :jU Try.prog Try.f39.ntmps 1 [2] jp [(.tmp 2)] zjQ ziR:=jY mix Try.func39 (by kernel_rfl) rfl
def uP :List zl:=[oZ 4,(none,.alloc 5 [.int .i64 0,.int .i64 0])]
def uO :List zl:=[(none,.alloc 6 [.int .i64 0,.int .i64 0])]
def uM :List zl:=[oM 11 0,oM 12 1,QO 13 57 11 12,oM 10 13,oY 14 10 0,oY 15 10 1,oY 16 10 2,oS 7 14,oS 8 15,oS 9 16]
def wV :List zl:=[oF 17 6 0,oL 18 17 1,oB 19 .add 18 1,oF 20 6 1,oL 21 20 1,oM 22 9,(none,.r (.mm 23 true (.t 21) (.t 22))),(none,.bld 24 [((0,1),(.t 19,true)),((1,1),(.t 23,true))] [.int .i64 0,.int .i64 0]),oW 6 24 2]
def wU :List zl:=[oM 25 7,(none,.r (.bin 26 .eql 3 (.t 25) (.c (.slice none 0 0))))]
def uL :Zf:=.take [2,3] (oM 27 8) (.take [3] (oT 28 6 2) (.one 2 (oS 4 27) (.one 3 (oW 5 28 2) .done)))
def oo :List zl:=[oM 29 1,oM 30 7,QO 31 58 29 30]
def qy :List Nat:=[0,1,4,5,6,7,8,9,26]
def zgy :zD:=.seq (.reg [0,1,4,6,7,8,9,26] uP qy) (.seq (.reg [0,1,4,5,7,8,9,26] uO qy) (.blk 0 (.loop (.blk 1 (.seq (.reg qy uM qy) (.seq (.reg qy wV qy) (.seq (.seq (.reg [0,
 1,4,5,6,7,8,9] wU qy) (.cond (.t 26) (.seq (.draw qy uL qy) .ret) .skip)) (.reg qy oo qy))))))))
abbrev zfD :Nat:=40
theorem zf6 :jU Try.prog Try.f40.ntmps 2 [4] qy [(.tmp 4),(.cell 5 2 true)] zgy zfD:=jY mix Try.func40 (by kernel_rfl) rfl
def om :List zl:=[oZ 4]
def oh :List zl:=[oM 10 0,(none,.mk 11 (.t 10) (.t 10) 1 24 [.slice none 0 0]),oS 5 11]
def og :List zl:=[oM 12 1,oE 13 12,(none,.r (.mov 14 (.c (.int .i64 0))))]
def oe :List zl:=[oD 15 .lss 14 13]
def P9 :List zl:=[oX 16 12 14 2,oT 17 16 2,(none,.alloc 7 [.int .i64 0,.int .i64 0]),oW 7 17 2]
def P8 :Zf:=.take [12,13] (oM 18 5) (.take [2,12,13] (oF 19 7 1) (.take [12,13] (oL 20 19 1) (.take [6,7,11,12,13] (oM 21 5) (.take [5,6,7,11,12,13] (oF 22 7 1) (.take [6,7,11,12,13] (oL 23 22 1) (.take [7,11,12,13] (oX 24 21 23 1) (.take [11,12,13] (oL 25 24 1) (.take [9,10,11,12,13] (oF 26 7 0) (.take [10,
 11,12,13] (oL 27 26 1) (.one 10 (none,.blds 28 1 1 [((0,1),(.t 27,true))] [.int .i64 0]) (.one 11 (none,.app 29 (.t 25) (.t 28) 1 8) (.take [13] (oX 30 18 20 1) (.one 13 (oW 30 29 1) .done)))))))))))))
def P7 :List zl:=[oB 31 .add 14 1,oS 14 31]
def P6 :List zl:=[oM 32 1,oE 33 32,(none,.r (.mov 34 (.c (.int .i64 0))))]
def P5 :List zl:=[oD 35 .lss 34 33]
def PZ :List zl:=[oX 36 32 34 2,oT 37 36 2,(none,.alloc 9 [.int .i64 0,.int .i64 0]),oW 9 37 2]
def Vq :Zf:=.take [12,13] (oM 38 5) (.take [2,12,13] (oF 39 9 0) (.take [12,13] (oL 40 39 1) (.take [6,7,11,12,13] (oM 41 5) (.take [5,6,7,11,12,13] (oF 42 9 0) (.take [6,7,11,12,13] (oL 43 42 1) (.take [7,11,12,13] (oX 44 41 43 1) (.take [11,12,13] (oL 45 44 1) (.take [9,10,11,12,
 13] (oF 46 9 1) (.take [10,11,12,13] (oL 47 46 1) (.one 10 (none,.blds 48 1 1 [((0,1),(.t 47,true))] [.int .i64 0]) (.one 11 (none,.app 49 (.t 45) (.t 48) 1 8) (.take [13] (oX 50 38 40 1) (.one 13 (oW 50 49 1) .done)))))))))))))
def Vp :List zl:=[oB 51 .add 34 1,oS 34 51]
def Vo :List zl:=[oM 52 5,oS 4 52]
def jS :List Nat:=[0,1,4,5,7,9,12,13,14,15,32,33,34,35]
def zjP :zD:=.seq (.reg jS om jS) (.seq (.reg jS oh jS) (.seq (.seq (.reg [0,1,4,5,7,9,15,32,33,34,35] og jS) (.blk 0 (.loop (.seq (.reg [0,1,4,5,7,9,12,13,14,32,33,34,35] oe jS) (.seq (.cond (.t 15) .skip (.exit 0)) (.seq (.blk 1 (.seq (.reg [0,
 1,4,5,9,12,13,14,15,32,33,34,35] P9 jS) (.draw jS P8 jS))) (.reg jS P7 jS))))))) (.seq (.seq (.reg [0,1,4,5,7,9,12,13,14,15,35] P6 jS) (.blk 2 (.loop (.seq (.reg [0,1,4,5,7,9,12,13,
 14,15,32,33,34] P5 jS) (.seq (.cond (.t 35) .skip (.exit 2)) (.seq (.blk 3 (.seq (.reg [0,1,4,5,7,12,13,14,15,32,33,34,35] PZ jS) (.draw jS Vq jS))) (.reg jS Vp jS))))))) (.seq (.reg jS Vo jS) .ret))))
abbrev ziQ :Nat:=41
theorem zln :jU Try.prog Try.f41.ntmps 2 [4] jS [(.tmp 4)] zjP ziQ:=jY mix Try.func41 (by kernel_rfl) rfl
def PW :List zl:=[(none,.box 2 (.t 0)),oO 4]
def uK :List zl:=[oM 5 1,oB 6 .geq 5 0,oM 7 6,oK 7 true 8 1,(some (7,true),.r (.fldA 9 (.t 2) 0)),q5 7 true 10 9 1,oKD 7 true 11 .lss 8 10,oP 12 7 11,oS 4 12]
def Kd :List Nat:=[0,1,2,4]
def zjO :zD:=.seq (.reg [0,1,4] PW Kd) (.seq (.reg Kd uK Kd) .ret)
abbrev ziP :Nat:=45
theorem zlm :jU Try.prog Try.f45.ntmps 2 [4] Kd [(.tmp 4)] zjO ziP:=jY mix Try.func45 (by kernel_rfl) rfl
def PV :List zl:=[(none,.box 3 (.t 0)),oO 6]
def PU :List zl:=[oT 7 3 2,oM 8 1,oM 9 2,oC3 10 61 7 8 9,oB 11 .geq 10 0,oS 6 11]
def Kc :List Nat:=[0,1,2,3,6]
def zjN :zD:=.seq (.reg [0,1,2,6] PV Kc) (.seq (.reg Kc PU Kc) .ret)
abbrev ziO :Nat:=46
theorem zll :jU Try.prog Try.f46.ntmps 3 [6] Kc [(.tmp 6)] zjN ziO:=jY mix Try.func46 (by kernel_rfl) rfl
def PS :List zl:=[(none,.box 3 (.t 1)),oZ 4]
def PR :List zl:=[oM 6 0,oE 7 6,oS 5 7]
def uJ :Zf:=.take [1,2,3,4,5,6,7,8,9,10] (oM 8 5) (.take [2,3,4,5,6,7,8,9,10] (oB 9 .gtr 8 0) (.take [3,4,5,6,7,8,9,10] (oM 10 9) (.take [9,10] (some (10,true),.r (.ld 11 (.t 3) 2 true)) (.take [7,8,9,10] (oK 10 true 12 0) (.take [6,7,8,9,10] (oK 10 true 13 5) (.take [7,8,9,10] (KE 10 true 14 .sub 13 1) (.take [8,
 9,10] (some (10,true),.r (.idxA 15 (.t 12) (.t 14) 2)) (.take [9,10] (some (10,true),.r (.ld 16 (.t 15) 2 true)) (.one 9 (some (10,true),.call 17 (.f 37) [(.t 11,false),(.t 16,false)]) (.take [] (oP 18 10 17) .done))))))))))
def PQ :List zl:=[oM 19 5,oB 20 .sub 19 1,oS 5 20]
def PP :Zf:=.take [2,3,6,10,11] (oM 21 0) (.take [2,3,6,10,11] (oM 22 5) (.take [5,6,10,11] (oT 25 3 2) (.take [9,10,11] (oM 28 0) (.take [9,10,11] (oM 29 5) (.three 2 (none,.slc 23 (.t 21) none (some (.t 22)) 2) (.three 3 (none,.app 24 (.c (.slice none 0 0)) (.t 23) 2 16) (.two 5 (none,
 .blds 26 1 2 [((0,2),(.t 25,true))] [.int .i64 0,.int .i64 0]) (.two 6 (none,.app 27 (.t 24) (.t 26) 2 16) (.one 9 (none,.slc 30 (.t 28) (some (.t 29)) none 2) (.one 10 (none,.app 31 (.t 27) (.t 30) 2 16) (.one 11 (oS 4 31) .done))) 9 (none,.slc 30 (.t 28) (some (.t 29)) none 2) (.one 6 (none,.app 27 (.t 24) (.t 26) 2 16) (.one 10 (none,
 .app 31 (.t 27) (.t 30) 2 16) (.one 11 (oS 4 31) .done)))) 9 (none,.slc 30 (.t 28) (some (.t 29)) none 2) (.one 5 (none,.blds 26 1 2 [((0,2),(.t 25,true))] [.int .i64 0,.int .i64 0]) (.one 6 (none,.app 27 (.t 24) (.t 26) 2 16) (.one 10 (none,.app 31 (.t 27) (.t 30) 2 16) (.one 11 (oS 4 31) .done))))) 5 (none,
 .blds 26 1 2 [((0,2),(.t 25,true))] [.int .i64 0,.int .i64 0]) (.two 3 (none,.app 24 (.c (.slice none 0 0)) (.t 23) 2 16) (.two 6 (none,.app 27 (.t 24) (.t 26) 2 16) (.one 9 (none,.slc 30 (.t 28) (some (.t 29)) none 2) (.one 10 (none,.app 31 (.t 27) (.t 30) 2 16) (.one 11 (oS 4 31) .done))) 9 (none,.slc 30 (.t 28) (some (.t 29)) none 2) (.one 6 (none,
 .app 27 (.t 24) (.t 26) 2 16) (.one 10 (none,.app 31 (.t 27) (.t 30) 2 16) (.one 11 (oS 4 31) .done)))) 9 (none,.slc 30 (.t 28) (some (.t 29)) none 2) (.one 3 (none,.app 24 (.c (.slice none 0 0)) (.t 23) 2 16) (.one 6 (none,.app 27 (.t 24) (.t 26) 2 16) (.one 10 (none,.app 31 (.t 27) (.t 30) 2 16) (.one 11 (oS 4 31) .done))))) 9 (none,
 .slc 30 (.t 28) (some (.t 29)) none 2) (.two 3 (none,.app 24 (.c (.slice none 0 0)) (.t 23) 2 16) (.one 5 (none,.blds 26 1 2 [((0,2),(.t 25,true))] [.int .i64 0,.int .i64 0]) (.one 6 (none,.app 27 (.t 24) (.t 26) 2 16) (.one 10 (none,.app 31 (.t 27) (.t 30) 2 16) (.one 11 (oS 4 31) .done)))) 5 (none,
 .blds 26 1 2 [((0,2),(.t 25,true))] [.int .i64 0,.int .i64 0]) (.one 3 (none,.app 24 (.c (.slice none 0 0)) (.t 23) 2 16) (.one 6 (none,.app 27 (.t 24) (.t 26) 2 16) (.one 10 (none,.app 31 (.t 27) (.t 30) 2 16) (.one 11 (oS 4 31) .done)))))) 5 (none,.blds 26 1 2 [((0,2),(.t 25,true))] [.int .i64 0,.int .i64 0]) (.two 2 (none,
 .slc 23 (.t 21) none (some (.t 22)) 2) (.two 3 (none,.app 24 (.c (.slice none 0 0)) (.t 23) 2 16) (.two 6 (none,.app 27 (.t 24) (.t 26) 2 16) (.one 9 (none,.slc 30 (.t 28) (some (.t 29)) none 2) (.one 10 (none,.app 31 (.t 27) (.t 30) 2 16) (.one 11 (oS 4 31) .done))) 9 (none,.slc 30 (.t 28) (some (.t 29)) none 2) (.one 6 (none,
 .app 27 (.t 24) (.t 26) 2 16) (.one 10 (none,.app 31 (.t 27) (.t 30) 2 16) (.one 11 (oS 4 31) .done)))) 9 (none,.slc 30 (.t 28) (some (.t 29)) none 2) (.one 3 (none,.app 24 (.c (.slice none 0 0)) (.t 23) 2 16) (.one 6 (none,.app 27 (.t 24) (.t 26) 2 16) (.one 10 (none,.app 31 (.t 27) (.t 30) 2 16) (.one 11 (oS 4 31) .done))))) 9 (none,
 .slc 30 (.t 28) (some (.t 29)) none 2) (.one 2 (none,.slc 23 (.t 21) none (some (.t 22)) 2) (.one 3 (none,.app 24 (.c (.slice none 0 0)) (.t 23) 2 16) (.one 6 (none,.app 27 (.t 24) (.t 26) 2 16) (.one 10 (none,.app 31 (.t 27) (.t 30) 2 16) (.one 11 (oS 4 31) .done)))))) 9 (none,.slc 30 (.t 28) (some (.t 29)) none 2) (.two 2 (none,
 .slc 23 (.t 21) none (some (.t 22)) 2) (.two 3 (none,.app 24 (.c (.slice none 0 0)) (.t 23) 2 16) (.one 5 (none,.blds 26 1 2 [((0,2),(.t 25,true))] [.int .i64 0,.int .i64 0]) (.one 6 (none,.app 27 (.t 24) (.t 26) 2 16) (.one 10 (none,.app 31 (.t 27) (.t 30) 2 16) (.one 11 (oS 4 31) .done)))) 5 (none,
 .blds 26 1 2 [((0,2),(.t 25,true))] [.int .i64 0,.int .i64 0]) (.one 3 (none,.app 24 (.c (.slice none 0 0)) (.t 23) 2 16) (.one 6 (none,.app 27 (.t 24) (.t 26) 2 16) (.one 10 (none,.app 31 (.t 27) (.t 30) 2 16) (.one 11 (oS 4 31) .done))))) 5 (none,.blds 26 1 2 [((0,2),(.t 25,true))] [.int .i64 0,.int .i64 0]) (.one 2 (none,
 .slc 23 (.t 21) none (some (.t 22)) 2) (.one 3 (none,.app 24 (.c (.slice none 0 0)) (.t 23) 2 16) (.one 6 (none,.app 27 (.t 24) (.t 26) 2 16) (.one 10 (none,.app 31 (.t 27) (.t 30) 2 16) (.one 11 (oS 4 31) .done)))))))))))
def Yu :List Nat:=[0,1,3,4,5,18]
def zjM :zD:=.seq (.reg [0,1,4,5,18] PS Yu) (.seq (.reg Yu PR Yu) (.seq (.blk 0 (.loop (.seq (.seq (.draw [0,1,3,4,5] uJ Yu) (.cond (.t 18) .skip (.exit 0))) (.blk 1 (.reg Yu PQ Yu))))) (.seq (.draw Yu PP Yu) .ret)))
abbrev zfC :Nat:=47
theorem zlk :jU Try.prog Try.f47.ntmps 2 [4] Yu [(.tmp 4)] zjM zfC:=jY mix Try.func47 (by kernel_rfl) rfl
def PO :List zl:=[(none,.alloc 4 [.int .i64 0,.int .i64 0])]
def PN :List zl:=[oM 5 0,oM 6 1,oD 7 .gtr 5 6]
def PM :List zl:=[oM 8 1,oM 9 0,(none,.bld 10 [((0,1),(.t 8,true)),((1,1),(.t 9,true))] [.int .i64 0,.int .i64 0]),oW 4 10 2]
def PL :List zl:=[oM 11 0,oM 12 1,(none,.bld 13 [((0,1),(.t 11,true)),((1,1),(.t 12,true))] [.int .i64 0,.int .i64 0]),oW 4 13 2]
def W9 :List Nat:=[0,1,4,7]
def zjL :zD:=.seq (.reg [0,1,7] PO W9) (.seq (.seq (.reg [0,1,4] PN W9) (.cond (.t 7) (.seq (.reg W9 PM W9) .ret) .skip)) (.seq (.reg W9 PL W9) .ret))
abbrev ziN :Nat:=48
theorem zlj :jU Try.prog Try.f48.ntmps 2 [] W9 [(.cell 4 2 true)] zjL ziN:=jY mix Try.func48 (by kernel_rfl) rfl
def PK :List zl:=[(none,.box 2 (.t 0)),oZ 4,oZ 5,oI 6 0]
def PJ :List zl:=[oT 11 2 2,oC 12 38 11,(none,.r (.notb 13 (.t 12))),oS 10 13]
def zgx :List zl:=[oZ 4,oZ 5,oI 6 3]
def PI :List zl:=[oT 15 2 2,oM 16 1,QO 17 62 15 16,(none,.r (.notb 18 (.t 17))),oS 14 18]
def zgw :List zl:=[oZ 4,oZ 5,oI 6 9]
def PH :List zl:=[oF 20 2 0,oL 21 20 1,oF 22 2 1,oL 23 22 1,QO 24 41 21 23,oM 25 1,QO 26 57 24 25,oM 19 26,oY 27 19 0,oY 28 19 1,oY 29 19 2,oS 7 27,oS 8 28,oS 9 29]
def PG :List zl:=[oM 30 7,oM 31 8,oS 4 30,oS 5 31,oI 6 0]
def qh :List Nat:=[0,1,2,4,5,6,7,8,9,10,14]
def zjK :zD:=.seq (.reg [0,1,4,5,6,7,8,9,10,14] PK qh) (.seq (.blk 0 (.seq (.reg qh PJ qh) (.cond (.t 10) (.seq (.reg qh zgx qh) .ret) (.seq (.reg qh PI qh) (.cond (.t 14) (.seq (.reg qh zgw qh) .ret) .skip))))) (.seq (.reg qh PH qh) (.seq (.reg qh PG qh) .ret)))
abbrev ziM :Nat:=49
theorem zli :jU Try.prog Try.f49.ntmps 2 [4,5,6] qh [(.tmp 4),(.tmp 5),(.tmp 6)] zjK ziM:=jY mix Try.func49 (by kernel_rfl) rfl
def PF :List zl:=[oZ 4]
def PE :List zl:=[oZ 5]
def PD :List zl:=[oM 8 0,oE 9 8,(none,.r (.mov 10 (.c (.int .i64 0))))]
def uI :List zl:=[oD 11 .lss 10 9]
def PC :List zl:=[oM 12 10,oX 13 8 10 1,oL 14 13 1,oS 6 12,oS 7 14]
def uH :List zl:=[oM 15 7,oM 16 1,oD 17 .eql 15 16]
def PB :List zl:=[oM 18 5,oM 19 6,(none,.blds 20 1 1 [((0,1),(.t 19,true))] [.int .i64 0]),(none,.app 21 (.t 18) (.t 20) 1 8),oS 5 21]
def uG :List zl:=[oB 22 .add 10 1,oS 10 22]
def PA :List zl:=[oM 23 5,oS 4 23]
def JR :List Nat:=[0,1,4,5,6,7,8,9,10,11,17]
def zjJ :zD:=.seq (.reg JR PF JR) (.seq (.reg JR PE JR) (.seq (.seq (.reg [0,1,4,5,6,7,11,17] PD JR) (.blk 0 (.loop (.seq (.reg [0,1,4,5,6,7,8,9,10,17] uI JR) (.seq (.cond (.t 11) .skip (.exit 0)) (.seq (.blk 1 (.seq (.reg JR PC JR) (.seq (.reg [0,
 1,4,5,6,7,8,9,10,11] uH JR) (.cond (.t 17) (.reg JR PB JR) .skip)))) (.reg JR uG JR))))))) (.seq (.reg JR PA JR) .ret)))
abbrev ziL :Nat:=50
theorem zlh :jU Try.prog Try.f50.ntmps 2 [4] JR [(.tmp 4)] zjJ ziL:=jY mix Try.func50 (by kernel_rfl) rfl
def Py :List zl:=[oZ 4]
def Px :List zl:=[oM 10 0,oM 11 0,oE 12 11,(none,.mk 13 (.t 12) (.t 12) 1 1 [.bool false]),(none,.bld 14 [((0,1),(.t 10,true)),((1,1),(.t 13,true))] [.slice none 0 0,.slice none 0 0,.slice none 0 0,.slice none 0 0]),(none,.box 15 (.t 14)),oS 5 15]
def Pv :List zl:=[oM 16 1,oE 17 16,(none,.r (.mov 18 (.c (.int .i64 0))))]
def Pu :List zl:=[oD 19 .lss 18 17]
def Ps :List zl:=[oX 20 16 18 1,oL 21 20 1,oS 7 21]
def wT :List zl:=[oM 22 7,oB 23 .geq 22 0,oM 24 23,oK 24 true 25 7,oK 24 true 26 0,(some (24,true),.r (.len 27 (.t 26))),oKD 24 true 28 .lss 25 27,oP 29 24 28]
def Pr :List zl:=[oM 30 5,oN 31 30,oF 32 31 1,oL 33 32 1,oM 34 7,oX 35 33 34 1,(none,.st (.t 35) (.c (.bool true)) 1)]
def wS :List zl:=[oB 36 .add 18 1,oS 18 36]
def Pq :List zl:=[oZ 8]
def Pp :List zl:=[oM 37 0,oE 38 37,(none,.r (.mov 39 (.c (.int .i64 0))))]
def Vn :List zl:=[oD 40 .lss 39 38]
def Vm :List zl:=[oM 41 39,oS 9 41]
def Vl :List zl:=[oM 42 5,oN 43 42,oF 44 43 1,oL 45 44 1,oM 46 9,oX 47 45 46 1,oL 48 47 1,(none,.r (.notb 49 (.t 48)))]
def Vk :List zl:=[oM 50 8,oM 51 5,oM 52 9,QO 53 63 51 52,(none,.blds 54 1 1 [((0,1),(.t 53,true))] [.slice none 0 0]),(none,.app 55 (.t 50) (.t 54) 1 24),oS 8 55]
def WG :List zl:=[oB 56 .add 39 1,oS 39 56]
def Vj :List zl:=[oM 57 8,oS 4 57]
def ja :List Nat:=[0,1,4,5,7,8,9,16,17,18,19,29,38,39,40,49]
def zjI :zD:=.seq (.reg ja Py ja) (.seq (.reg ja Px ja) (.seq (.seq (.reg [0,1,4,5,7,8,9,19,29,38,39,40,49] Pv ja) (.blk 0 (.loop (.seq (.reg [0,1,4,5,7,8,9,16,17,18,29,38,39,40,49] Pu ja) (.seq (.cond (.t 19) .skip (.exit 0)) (.seq (.blk 1 (.seq (.reg ja Ps ja) (.seq (.reg [0,
 1,4,5,7,8,9,16,17,18,19,38,39,40,49] wT ja) (.cond (.t 29) (.reg ja Pr ja) .skip)))) (.reg ja wS ja))))))) (.seq (.reg ja Pq ja) (.seq (.seq (.reg [0,1,4,5,7,8,9,16,17,18,19,29,40,49] Pp ja) (.blk 2 (.loop (.seq (.reg [0,
 1,4,5,7,8,9,16,17,18,19,29,38,39,49] Vn ja) (.seq (.cond (.t 40) .skip (.exit 2)) (.seq (.blk 3 (.seq (.reg ja Vm ja) (.seq (.reg [0,1,4,5,7,8,9,16,17,18,19,29,38,39,40] Vl ja) (.cond (.t 49) (.reg ja Vk ja) .skip)))) (.reg ja WG ja))))))) (.seq (.reg ja Vj ja) .ret)))))
abbrev zfB :Nat:=51
theorem zlg :jU Try.prog Try.f51.ntmps 2 [4] ja [(.tmp 4)] zjI zfB:=jY mix Try.func51 (by kernel_rfl) rfl
def Pn :List zl:=[oZ 4]
def Pm :List zl:=[oM 5 1,oB 6 .lss 5 0]
def zgv :List zl:=[(none,.bad (some 7)),(none,.bad none)]
def Pl :List zl:=[oM 8 1,oM 9 0,(none,.capq 10 (.t 9)),oM 11 0,oE 12 11,oD 13 .sub 10 12,oD 14 .sub 8 13,oS 1 14]
def Pk :List zl:=[oM 15 1,oB 16 .gtr 15 0]
def Pj :List zl:=[oM 17 0,oM 18 0,(none,.capq 19 (.t 18)),(none,.slc 20 (.t 17) none (some (.t 19)) 1),oM 21 1,(none,.appz 22 (.t 20) (.t 21) 1 8 [.int .i64 0]),oM 23 0,oE 24 23,(none,.slc 25 (.t 22) none (some (.t 24)) 1),oS 0 25]
def uF :List zl:=[oM 26 0,oS 4 26]
def qx :List Nat:=[0,1,4,6,16]
def zjH :zD:=.seq (.reg qx Pn qx) (.seq (.seq (.reg [0,1,4,16] Pm qx) (.cond (.t 6) (.reg qx zgv qx) .skip)) (.seq (.seq (.reg qx Pl qx) (.seq (.reg [0,
 1,4,6] Pk qx) (.cond (.t 16) (.reg qx Pj qx) .skip))) (.seq (.reg qx uF qx) .ret)))
abbrev ziK :Nat:=52
theorem zlf :jU Try.prog Try.f52.ntmps 2 [4] qx [(.tmp 4)] zjH ziK:=jY mix Try.func52 (by kernel_rfl) rfl
def Pi :List zl:=[(none,.box 3 (.t 0)),(none,.box 4 (.t 1)),(none,.box 5 (.t 2)),oI 6 0]
def Ph :Zf:=.take [1,4,9,10,11,12] (oF 7 4 0) (.take [4,9,10,11,12] (oL 8 7 1) (.take [3,4,9,10,11,12] (oF 9 5 0) (.take [4,9,10,11,12] (oL 10 9 1) (.take [6,9,10,11,12] (oF 12 4 1) (.take [9,10,11,12] (oL 13 12 1) (.take [8,9,10,11,12] (oF 14 5 1) (.take [9,10,11,12] (oL 15 14 1) (.one 4 (QO 11 65 8 10) (.one 9 (QO 16 65 13 15) (.one 10 (none,
 .blds 17 2 1 [((0,1),(.t 11,true)),((1,1),(.t 16,true))] [.int .i64 0]) (.one 11 (oC 18 64 17) (.one 12 (oS 6 18) .done))))))))))))
def Kb :List Nat:=[0,1,2,4,5,6]
def zjG :zD:=.seq (.reg [0,1,2,6] Pi Kb) (.seq (.draw Kb Ph Kb) .ret)
abbrev ziJ :Nat:=53
theorem zle :jU Try.prog Try.f53.ntmps 3 [6] Kb [(.tmp 6)] zjG ziJ:=jY mix Try.func53 (by kernel_rfl) rfl
def Pg :List zl:=[(none,.box 1 (.t 0)),oZ 2]
def Pf :List zl:=[oT 3 1 2,oC 4 38 3,(none,.r (.notb 5 (.t 4)))]
def zgu :List zl:=[oZ 2]
def Pe :List zl:=[(none,.blds 6 1 1 [((0,1),(.c (.int .i64 (- (0+1))),true))] [.int .i64 0]),oF 7 1 0,oL 8 7 1,QO 9 66 6 8,oS 2 9]
def W8 :List Nat:=[0,1,2,5]
def zjF :zD:=.seq (.reg [0,2,5] Pg W8) (.seq (.seq (.reg [0,1,2] Pf W8) (.cond (.t 5) (.seq (.reg W8 zgu W8) .ret) .skip)) (.seq (.reg W8 Pe W8) .ret))
abbrev ziI :Nat:=54
theorem zld :jU Try.prog Try.f54.ntmps 1 [2] W8 [(.tmp 2)] zjF ziI:=jY mix Try.func54 (by kernel_rfl) rfl
def Pd :List zl:=[(none,.box 2 (.t 0)),oO 4]
def Pc :List zl:=[oF 5 2 0,oL 6 5 1,oM 7 1,oX 8 6 7 1,oL 9 8 1,oB 10 .lss 9 0,oS 4 10]
def Ka :List Nat:=[0,1,2,4]
def zjE :zD:=.seq (.reg [0,1,4] Pd Ka) (.seq (.reg Ka Pc Ka) .ret)
abbrev zfA :Nat:=55
theorem zlc :jU Try.prog Try.f55.ntmps 2 [4] Ka [(.tmp 4)] zjE zfA:=jY mix Try.func55 (by kernel_rfl) rfl
def Pb :List zl:=[oI 4 0]
def Pa :List zl:=[oM 6 0,oE 7 6,(none,.r (.mov 8 (.c (.int .i64 0))))]
def uE :List zl:=[oD 9 .lss 8 7]
def p9 :List zl:=[oM 10 8,oS 5 10]
def p8 :List zl:=[oM 11 1,oM 12 0,oM 13 5,oX 14 12 13 1,oL 15 14 1,(none,.call 16 (.t 11) [(.t 15,false)])]
def p7 :List zl:=[oM 17 5,oS 4 17]
def p6 :List zl:=[oB 18 .add 8 1,oS 8 18]
def p5 :List zl:=[(none,.asg 4 (.c (.int .i64 (- (0+1)))) true)]
def qg :List Nat:=[0,1,4,5,7,8,9,16]
def zjD :zD:=.seq (.reg qg Pb qg) (.seq (.seq (.reg [0,1,4,5,9,16] Pa qg) (.blk 0 (.loop (.seq (.reg [0,1,4,5,7,8,16] uE qg) (.seq (.cond (.t 9) .skip (.exit 0)) (.seq (.blk 1 (.seq (.reg qg p9 qg) (.seq (.reg [0,
 1,4,5,7,8,9] p8 qg) (.cond (.t 16) (.seq (.reg qg p7 qg) .ret) .skip)))) (.reg qg p6 qg))))))) (.seq (.reg qg p5 qg) .ret))
abbrev ziH :Nat:=56
theorem zlb :jU Try.prog Try.f56.ntmps 2 [4] qg [(.tmp 4)] zjD ziH:=jY mix Try.func56 (by kernel_rfl) rfl
def pZ :List zl:=[oZ 4,oZ 5,oI 6 0]
def pY :List zl:=[oM 14 0,oM 15 1,QO 16 67 14 15,oS 7 16]
def pX :List zl:=[oM 17 7,(none,.mkfn 18 (.func 68) [(.t 17,false)] []),oS 8 18]
def pW :List zl:=[oM 20 7,oC 21 69 20,oM 19 21,oY 22 19 0,oY 23 19 1,oS 9 22,oS 10 23]
def pV :List zl:=[oM 24 10]
def pU :List zl:=[oM 30 0,oM 31 9,oX 32 30 31 1,oL 33 32 1,oE 34 33,(none,.r (.mov 35 (.c (.int .i64 0))))]
def Qn :List zl:=[oD 36 .lss 35 34]
def yL :List zl:=[oX 37 33 35 1,oL 38 37 1,oS 12 38]
def yK :List zl:=[oM 39 7,oM 40 9,oM 41 12,oC3 42 70 39 40 41]
def yJ :List zl:=[oB 44 .eql 42 1,oS 43 44]
def Vi :List zl:=[oM 45 7,oM 46 9,oM 47 12,oC3 48 71 45 46 47]
def Yf :List zl:=[oB 50 .eql 42 2,oS 49 50]
def Vh :List zl:=[oM 51 8,oM 52 9,(none,.call 53 (.t 51) [(.t 52,false)]),oM 54 8,oM 55 12,(none,.call 56 (.t 54) [(.t 55,false)]),oD 57 .eql 53 56]
def WF :List zl:=[oM 58 7,oM 59 9,oM 60 12,oC3 61 72 58 59 60,oS 13 61]
def WE :List zl:=[oM 62 13,(none,.r (.bin 63 .neq 3 (.t 62) (.c (.slice none 0 0))))]
def Vg :Zf:=.take [5,6,7] (oM 64 13) (.take [2,3,4,7] (oM 65 7) (.take [3,4,7] (oN 66 65) (.take [4,7] (oF 67 66 15) (.take [7] (oL 68 67 1) (.one 5 (oS 4 64) (.one 6 (oZ 5) (.one 7 (oS 6 68) .done)))))))
def Qo :List zl:=[oB 69 .add 35 1,oS 35 69]
def Vf :List zl:=[oM 26 7,oC 27 69 26,oM 25 27,oY 28 25 0,oY 29 25 1,oS 9 28,oS 10 29]
def Ve :Zf:=.take [1,6,7,8] (oM 70 7) (.take [3,4,5,8] (oM 72 7) (.take [4,5,8] (oN 73 72) (.take [5,8] (oF 74 73 15) (.take [8] (oL 75 74 1) (.one 1 (oC 71 73 70) (.one 6 (oZ 4) (.one 7 (oS 5 71) (.one 8 (oS 6 75) .done))))))))
def ZJ :List Nat:=[0,1,4,5,6,7,8,9,10,12,13,24,33,34,35,36,42,43,49,57,63]
def zjC :zD:=.seq (.reg ZJ pZ ZJ) (.seq (.reg ZJ pY ZJ) (.seq (.reg ZJ pX ZJ) (.seq (.seq (.reg ZJ pW ZJ) (.blk 0 (.loop (.seq (.seq (.reg [0,
 1,4,5,6,7,8,9,10,12,13,33,34,35,36,42,43,49,57,63] pV ZJ) (.cond (.t 24) .skip (.exit 0))) (.seq (.blk 1 (.seq (.reg [0,1,4,5,6,7,8,9,10,12,13,24,36,42,43,49,57,63] pU ZJ) (.blk 2 (.loop (.seq (.reg [0,1,4,5,6,7,8,9,10,12,13,24,33,34,35,42,43,
 49,57,63] Qn ZJ) (.seq (.cond (.t 36) .skip (.exit 2)) (.seq (.blk 3 (.seq (.reg ZJ yL ZJ) (.seq (.reg [0,1,4,5,6,7,8,9,10,12,13,24,33,34,35,36,43,49,57,63] yK ZJ) (.blk 4 (.seq (.reg ZJ yJ ZJ) (.cond (.t 43) (.reg ZJ Vi ZJ) (.seq (.reg ZJ Yf ZJ) (.cond (.t 49) (.seq (.seq (.reg [0,
 1,4,5,6,7,8,9,10,12,13,24,33,34,35,36,42,43,49,63] Vh ZJ) (.cond (.t 57) (.exit 3) .skip)) (.seq (.reg ZJ WF ZJ) (.seq (.reg [0,1,4,5,6,7,8,9,10,12,13,24,33,34,35,36,42,43,49,57] WE ZJ) (.cond (.t 63) (.seq (.draw ZJ Vg ZJ) .ret) .skip)))) .skip)))))))) (.reg ZJ Qo ZJ)))))))) (.reg ZJ Vf ZJ)))))) (.seq (.draw ZJ Ve ZJ) .ret))))
abbrev zfz :Nat:=57
theorem zla :jU Try.prog Try.f57.ntmps 2 [4,5,6] ZJ [(.tmp 4),(.tmp 5),(.tmp 6)] zjC zfz:=jY mix Try.func57 (by kernel_rfl) rfl
def pT :List zl:=[oI 4 1]
def uD :List zl:=[oM 5 4,oM 6 1,oE 7 6,oD 8 .lss 5 7]
def pS :Zf:=.take [20,21,22,23] (oM 11 0) (.take [4,5,20,21,22,23] (oM 12 1) (.take [3,4,5,20,21,22,23] (oM 13 4) (.take [4,5,20,21,22,23] (oB 14 .sub 13 1) (.take [5,20,21,22,23] (oX 15 12 14 1) (.take [20,21,22,23] (oL 16 15 1) (.take [22,23] (oM 17 0) (.take [9,10,20,21,22,23] (oM 18 1) (.take [9,
 10,20,21,22,23] (oM 19 4) (.take [10,20,21,22,23] (oX 20 18 19 1) (.take [20,21,22,23] (oL 21 20 1) (.take [13,14,20,21,22,23] (oM 22 1) (.take [13,14,20,21,22,23] (oM 23 4) (.take [14,20,21,22,23] (oX 24 22 23 1) (.take [20,21,22,23] (oL 25 24 1) (.take [18,19,20,21,22,23] (oM 26 1) (.take [17,18,19,
 20,21,22,23] (oM 27 4) (.take [18,19,20,21,22,23] (oB 28 .sub 27 1) (.take [19,20,21,22,23] (oX 29 26 28 1) (.take [20,21,22,23] (oL 30 29 1) (.take [21,22,23] (oX 31 11 16 1) (.one 21 (oW 31 25 1) (.take [23] (oX 32 17 21 1) (.one 23 (oW 32 30 1) .done)))))))))))))))))))))))
def pR :List zl:=[oM 9 4,oB 10 .add 9 2,oS 4 10]
def wa :List Nat:=[0,1,4,8]
def zjB :zD:=.seq (.reg wa pT wa) (.blk 0 (.loop (.seq (.seq (.reg [0,1,4] uD wa) (.cond (.t 8) .skip (.exit 0))) (.seq (.blk 1 (.draw wa pS wa)) (.reg wa pR wa)))))
abbrev ziG :Nat:=58
theorem zk9 :jU Try.prog Try.f58.ntmps 2 [] wa [] zjB ziG:=jY mix Try.func58 (by kernel_rfl) rfl
def pQ :List zl:=[(none,.box 3 (.t 0)),oI 6 0]
def pP :List zl:=[oT 9 3 2,oC 10 23 9,(none,.r (.notb 11 (.t 10)))]
def pO :List zl:=[(none,.asg 6 (.c (.int .i64 (- (0+1)))) true)]
def pN :List zl:=[oM 12 1,oM 13 2,QO 14 48 12 13,(none,.alloc 7 [.int .i64 0,.int .i64 0]),oW 7 14 2]
def pM :List zl:=[oI 8 0]
def pL :List zl:=[oM 15 8,oF 16 3 1,oL 17 16 1,oE 18 17,oD 19 .lss 15 18]
def pK :Zf:=.take [1,3,4,6] (oF 22 3 1) (.take [3,4,6] (oL 23 22 1) (.take [3,4,6] (oM 24 8) (.take [4,6] (oX 25 23 24 2) (.take [6] (oT 26 25 2) (.take [6] (oT 27 7 2) (.take [] (none,.r (.bin 28 .eql 8 (.t 26) (.t 27))) .done))))))
def pJ :List zl:=[oM 29 8,oS 6 29]
def pI :List zl:=[oM 20 8,oB 21 .add 20 1,oS 8 21]
def pH :List zl:=[(none,.asg 6 (.c (.int .i64 (- (0+1)))) true)]
def JQ :List Nat:=[0,1,2,3,6,7,8,11,19,28]
def zjA :zD:=.seq (.reg [0,1,2,6,7,8,11,19,28] pQ JQ) (.seq (.seq (.reg [0,1,2,3,6,7,8,19,28] pP JQ) (.cond (.t 11) (.seq (.reg JQ pO JQ) .ret) .skip)) (.seq (.reg [0,
 1,2,3,6,8,11,19,28] pN JQ) (.seq (.seq (.reg JQ pM JQ) (.blk 0 (.loop (.seq (.seq (.reg [0,1,2,3,6,7,8,11,28] pL JQ) (.cond (.t 19) .skip (.exit 0))) (.seq (.blk 1 (.seq (.draw [0,
 1,2,3,6,7,8,11,19] pK JQ) (.cond (.t 28) (.seq (.reg JQ pJ JQ) .ret) .skip))) (.reg JQ pI JQ)))))) (.seq (.reg JQ pH JQ) .ret))))
abbrev ziF :Nat:=61
theorem zk8 :jU Try.prog Try.f61.ntmps 3 [6] JQ [(.tmp 6)] zjA ziF:=jY mix Try.func61 (by kernel_rfl) rfl
def pG :List zl:=[(none,.box 2 (.t 0)),oO 4]
def pF :List zl:=[oT 10 2 2,oC 11 38 10,(none,.r (.notb 12 (.t 11))),oM 13 12,oK 13 false 14 1,(some (13,false),.r (.len 15 (.t 14))),(some (13,false),.r (.fldA 16 (.t 2) 0)),q5 13 false 17 16 1,oKD 13 false 18 .neq 15 17,oQ 19 13 18]
def zgt :List zl:=[oO 4]
def pE :List zl:=[oF 20 2 0,oL 21 20 1,(none,.mk 22 (.t 21) (.t 21) 1 1 [.bool false]),oS 5 22]
def pD :List zl:=[oF 23 2 1,oL 24 23 1,oE 25 24,(none,.r (.mov 26 (.c (.int .i64 0))))]
def uC :List zl:=[oD 27 .lss 26 25]
def pC :List zl:=[oX 28 24 26 2,oT 29 28 2,(none,.alloc 7 [.int .i64 0,.int .i64 0]),oW 7 29 2]
def wR :Zf:=.take [3,4,7,8,9,10,11,12,13,14,15,16,17] (oM 30 1) (.take [2,3,4,7,8,9,10,11,12,13,14,15,16,17] (oF 31 7 0) (.take [3,4,7,8,9,10,11,12,13,14,15,16,17] (oL 32 31 1) (.take [4,7,8,9,10,11,12,13,14,15,16,17] (oX 33 30 32 1) (.take [7,8,9,10,11,12,13,14,15,16,17] (oL 34 33 1) (.take [6,
 7,8,9,10,11,12,13,14,15,16,17] (oF 35 7 1) (.take [7,8,9,10,11,12,13,14,15,16,17] (oL 36 35 1) (.take [8,9,10,11,12,13,14,15,16,17] (oD 37 .eql 34 36) (.take [9,10,11,12,13,14,15,16,17] (oM 38 37) (.take [12,13,16,17] (oK 38 true 39 1) (.take [11,12,13,16,17] (some (38,true),.r (.fldA 40 (.t 7) 1)) (.take [12,
 13,16,17] (q5 38 true 41 40 1) (.take [13,16,17] (some (38,true),.r (.idxA 42 (.t 39) (.t 41) 1)) (.take [16,17] (q5 38 true 43 42 1) (.take [15,16,17] (some (38,true),.r (.fldA 44 (.t 7) 0)) (.take [16,17] (q5 38 true 45 44 1) (.take [17] (oKD 38 true 46 .eql 43 45) (.take [] (oP 47 38 46) .done)))))))))))))))))
def pB :Zf:=.take [6,7,8,9] (oM 48 5) (.take [2,6,7,8,9] (oF 49 7 0) (.take [6,7,8,9] (oL 50 49 1) (.take [8,9] (oM 51 5) (.take [5,8,9] (oF 52 7 1) (.take [8,9] (oL 53 52 1) (.take [7,8,9] (oX 54 48 50 1) (.one 7 (none,.st (.t 54) (.c (.bool true)) 1) (.take [9] (oX 55 51 53 1) (.one 9 (none,
 .st (.t 55) (.c (.bool true)) 1) .done)))))))))
def wQ :List zl:=[oB 56 .add 26 1,oS 26 56]
def Vd :List zl:=[oM 57 1,oE 58 57,(none,.r (.mov 59 (.c (.int .i64 0))))]
def WD :List zl:=[oD 60 .lss 59 58]
def Vc :List zl:=[oM 61 59,oX 62 57 59 1,oL 63 62 1,oS 8 61,oS 9 63]
def Ye :List zl:=[oM 64 9,(none,.r (.bin 65 .neq 0 (.t 64) (.c (.int .i64 (- (0+1)))))),oM 66 65,oK 66 true 67 5,oK 66 true 68 8,(some (66,true),.r (.idxA 69 (.t 67) (.t 68) 1)),q5 66 true 70 69 1,(some (66,true),.r (.notb 71 (.t 70))),oP 72 66 71]
def Vb :List zl:=[oO 4]
def WC :List zl:=[oB 73 .add 59 1,oS 59 73]
def Va :List zl:=[(none,.asg 4 (.c (.bool true)) true)]
def jd :List Nat:=[0,1,2,4,5,7,8,9,19,24,25,26,27,47,57,58,59,60,72]
def zjz :zD:=.seq (.reg [0,1,4,5,7,8,9,19,24,25,26,27,47,57,58,59,60,72] pG jd) (.seq (.seq (.reg [0,1,2,4,5,7,8,9,24,25,26,27,47,57,58,59,60,72] pF jd) (.cond (.t 19) (.seq (.reg jd zgt jd) .ret) .skip)) (.seq (.reg jd pE jd) (.seq (.seq (.reg [0,
 1,2,4,5,7,8,9,19,27,47,57,58,59,60,72] pD jd) (.blk 0 (.loop (.seq (.reg [0,1,2,4,5,7,8,9,19,24,25,26,47,57,58,59,60,72] uC jd) (.seq (.cond (.t 27) .skip (.exit 0)) (.seq (.blk 1 (.seq (.reg [0,1,2,4,5,8,9,19,24,25,26,27,47,57,58,59,60,72] pC jd) (.seq (.draw [0,
 1,2,4,5,7,8,9,19,24,25,26,27,57,58,59,60,72] wR jd) (.cond (.t 47) (.draw jd pB jd) .skip)))) (.reg jd wQ jd))))))) (.seq (.seq (.reg [0,1,2,4,5,7,8,9,19,24,25,26,27,47,60,72] Vd jd) (.blk 2 (.loop (.seq (.reg [0,
 1,2,4,5,7,8,9,19,24,25,26,27,47,57,58,59,72] WD jd) (.seq (.cond (.t 60) .skip (.exit 2)) (.seq (.blk 3 (.seq (.reg jd Vc jd) (.seq (.reg [0,1,2,4,5,7,8,9,19,24,25,26,27,47,57,58,59,60] Ye jd) (.cond (.t 72) (.seq (.reg jd Vb jd) .ret) .skip)))) (.reg jd WC jd))))))) (.seq (.reg jd Va jd) .ret)))))
abbrev ziE :Nat:=62
theorem zk7 :jU Try.prog Try.f62.ntmps 2 [4] jd [(.tmp 4)] zjz ziE:=jY mix Try.func62 (by kernel_rfl) rfl
def pA :List zl:=[oZ 4]
def pz :List zl:=[oM 9 0,(none,.mkfn 10 (.func 74) [(.t 9,false)] []),oS 5 10]
def py :List zl:=[oM 11 0,oN 12 11,oF 13 12 2,(none,.st (.t 13) (.c (.slice none 0 0)) 1)]
def px :List zl:=[oM 14 5,oM 15 1,(none,.call 16 (.t 14) [(.t 15,false)])]
def uB :List zl:=[oM 17 0,oN 18 17,oF 19 18 3,oL 20 19 1,oE 21 20,oB 22 .gtr 21 0]
def pw :Zf:=.take [1,2,3,10,11,12] (oM 23 0) (.take [2,3,10,11,12] (oN 24 23) (.take [3,10,11,12] (oF 25 24 3) (.take [10,11,12] (oL 26 25 1) (.take [5,6,7,8,9,10,11,12] (oM 27 0) (.take [6,7,8,9,10,11,12] (oN 28 27) (.take [7,8,9,10,11,12] (oF 29 28 3) (.take [8,9,10,11,12] (oL 30 29 1) (.take [9,
 10,11,12] (oE 31 30) (.take [10,11,12] (oB 32 .sub 31 1) (.take [11,12] (oX 33 26 32 1) (.take [12] (oL 34 33 1) (.one 12 (oS 6 34) .done))))))))))))
def pv :Zf:=.take [12,13,14] (oM 35 0) (.take [2,3,4,11,12,13,14] (oM 36 0) (.take [3,4,11,12,13,14] (oN 37 36) (.take [4,11,12,13,14] (oF 38 37 3) (.take [11,12,13,14] (oL 39 38 1) (.take [6,7,8,9,10,11,12,13,14] (oM 40 0) (.take [7,8,9,10,11,12,13,14] (oN 41 40) (.take [8,9,
 10,11,12,13,14] (oF 42 41 3) (.take [9,10,11,12,13,14] (oL 43 42 1) (.take [10,11,12,13,14] (oE 44 43) (.take [11,12,13,14] (oB 45 .sub 44 1) (.one 11 (none,.slc 46 (.t 39) none (some (.t 45)) 1) (.take [13,14] (oN 47 35) (.take [14] (oF 48 47 3) (.one 14 (oW 48 46 1) .done))))))))))))))
def pu :List zl:=[oM 49 0,oN 50 49,oF 51 50 0,oL 52 51 1,oM 53 6,oX 54 52 53 1,oL 55 54 1,oE 56 55,(none,.r (.mov 57 (.c (.int .i64 0))))]
def pq :List zl:=[oD 58 .lss 57 56]
def pp :List zl:=[oX 59 55 57 1,oL 60 59 1,oS 8 60]
def v8 :List zl:=[oM 61 5,oM 62 8,(none,.call 63 (.t 61) [(.t 62,false)])]
def v7 :List zl:=[oB 64 .add 57 1,oS 57 64]
def v6 :List zl:=[oM 65 0,oN 66 65,oF 67 66 2,oL 68 67 1,oC 69 75 68]
def vZ :List zl:=[oM 70 0,oN 71 70,oF 72 71 2,oL 73 72 1,oS 4 73]
def jc :List Nat:=[0,1,4,5,6,8,22,55,56,57,58]
def zjy :zD:=.seq (.reg jc pA jc) (.seq (.reg jc pz jc) (.seq (.reg jc py jc) (.seq (.reg jc px jc) (.seq (.blk 0 (.loop (.seq (.seq (.reg [0,
 1,4,5,6,8,55,56,57,58] uB jc) (.cond (.t 22) .skip (.exit 0))) (.blk 1 (.seq (.draw jc pw jc) (.seq (.draw jc pv jc) (.seq (.reg [0,1,4,5,6,8,22,58] pu jc) (.blk 2 (.loop (.seq (.reg [0,
 1,4,5,6,8,22,55,56,57] pq jc) (.seq (.cond (.t 58) .skip (.exit 2)) (.seq (.blk 3 (.seq (.reg jc pp jc) (.reg jc v8 jc))) (.reg jc v7 jc))))))))))))) (.seq (.reg jc v6 jc) (.seq (.reg jc vZ jc) .ret))))))
abbrev ziD :Nat:=63
theorem zk6 :jU Try.prog Try.f63.ntmps 2 [4] jc [(.tmp 4)] zjy ziD:=jY mix Try.func63 (by kernel_rfl) rfl
def pn :List zl:=[oI 2 0]
def pm :List zl:=[oI 3 0]
def pj :List zl:=[oM 6 0,oE 7 6,(none,.r (.mov 8 (.c (.int .i64 0))))]
def pi :List zl:=[oD 9 .lss 8 7]
def ph :List zl:=[oX 10 6 8 1,oL 11 10 1,oS 5 11]
def pg :List zl:=[oM 12 5,oM 13 3,oD 14 .neq 12 13]
def pf :List zl:=[oM 15 5,oS 2 15]
def pe :List zl:=[oB 16 .add 8 1,oS 8 16]
def pd :List zl:=[oM 17 3,oS 2 17]
def JP :List Nat:=[0,2,3,5,6,7,8,9,14]
def zjx :zD:=.seq (.reg JP pn JP) (.seq (.reg JP pm JP) (.seq (.seq (.reg [0,2,3,5,9,14] pj JP) (.blk 0 (.loop (.seq (.reg [0,2,3,5,6,7,8,14] pi JP) (.seq (.cond (.t 9) .skip (.exit 0)) (.seq (.blk 1 (.seq (.reg JP ph JP) (.seq (.reg [0,
 2,3,5,6,7,8,9] pg JP) (.cond (.t 14) (.seq (.reg JP pf JP) .ret) .skip)))) (.reg JP pe JP))))))) (.seq (.reg JP pd JP) .ret)))
abbrev ziC :Nat:=64
theorem zk5 :jU Try.prog Try.f64.ntmps 1 [2] JP [(.tmp 2)] zjx ziC:=jY mix Try.func64 (by kernel_rfl) rfl
def pc :List zl:=[oI 4 0]
def G9 :List zl:=[oM 7 0,oC 8 76 7,oS 5 8]
def G8 :List zl:=[oM 9 1,oC 10 76 9,oS 6 10]
def G7 :List zl:=[oM 11 5]
def zgs :List zl:=[oM 12 6]
def zgr :List zl:=[oI 4 0]
def zgq :List zl:=[(none,.asg 4 (.c (.int .i64 (- (0+1)))) true)]
def G6 :List zl:=[oM 13 6]
def zgp :List zl:=[oI 4 1]
def G5 :List zl:=[oM 14 0,oM 15 1,oD 16 .lss 14 15]
def vY :List zl:=[(none,.asg 4 (.c (.int .i64 (- (0+1)))) true)]
def vX :List zl:=[oM 17 0,oM 18 1,oD 19 .gtr 17 18]
def vW :List zl:=[oI 4 1]
def vV :List zl:=[oI 4 0]
def jo :List Nat:=[0,1,4,5,6,11,12,13,16,19]
def zjw :zD:=.seq (.reg jo pc jo) (.seq (.reg jo G9 jo) (.seq (.reg jo G8 jo) (.seq (.seq (.reg [0,1,4,5,6,12,13,16,19] G7 jo) (.cond (.t 11) (.seq (.seq (.reg [0,
 1,4,5,6,11,13,16,19] zgs jo) (.cond (.t 12) (.seq (.reg jo zgr jo) .ret) .skip)) (.seq (.reg jo zgq jo) .ret)) .skip)) (.seq (.seq (.reg [0,1,4,5,6,11,12,16,19] G6 jo) (.cond (.t 13) (.seq (.reg jo zgp jo) .ret) .skip)) (.seq (.seq (.reg [0,
 1,4,5,6,11,12,13,19] G5 jo) (.cond (.t 16) (.seq (.reg jo vY jo) .ret) .skip)) (.seq (.seq (.reg [0,1,4,5,6,11,12,13,16] vX jo) (.cond (.t 19) (.seq (.reg jo vW jo) .ret) .skip)) (.seq (.reg jo vV jo) .ret)))))))
abbrev ziB :Nat:=65
theorem zk4 :jU Try.prog Try.f65.ntmps 2 [4] jo [(.tmp 4)] zjw ziB:=jY mix Try.func65 (by kernel_rfl) rfl
def G4 :List zl:=[oZ 4]
def G3 :List zl:=[oM 9 1,oB 10 .lss 9 0]
def zgo :List zl:=[(none,.bad (some 11)),(none,.bad none)]
def G0 :List zl:=[oM 13 0,oE 14 13,(none,.r (.conv 15 .u64 (.t 14))),oM 16 1,(none,.r (.conv 17 .u64 (.t 16))),QO 18 77 15 17,oM 12 18,oY 19 12 0,oY 20 12 1,oS 5 19,oS 6 20]
def GZ :List zl:=[oM 21 5,(none,.r (.bin 22 .gtr 0 (.t 21) (.c (.int .u64 0)))),oM 23 22,oK 23 false 24 6,(some (23,false),.r (.bin 25 .gtr 0 (.t 24) (.c (.int .u64 9223372036854775807)))),oQ 26 23 25]
def zgn :List zl:=[(none,.bad (some 27)),(none,.bad none)]
def GY :List zl:=[oM 28 6,(none,.r (.conv 29 .i64 (.t 28))),(none,.mk 30 (.t 29) (.t 29) 1 8 [.int .i64 0]),oS 7 30]
def uA :List zl:=[oM 31 7,oM 32 0,(none,.cpy 33 (.t 31) (.t 32) 1),oS 8 33]
def wP :List zl:=[oM 34 8,oM 35 7,oE 36 35,oD 37 .lss 34 36]
def GX :Zf:=.take [8,9] (oM 38 8) (.take [3,7,8,9] (oM 39 7) (.take [3,7,8,9] (oM 40 8) (.take [6,7,8,9] (oM 42 7) (.take [6,7,8,9] (oM 43 8) (.two 3 (none,.slc 41 (.t 39) (some (.t 40)) none 1) (.one 6 (none,.slc 44 (.t 42) none (some (.t 43)) 1) (.one 7 (none,.cpy 45 (.t 41) (.t 44) 1) (.take [9] (oD 46 .add 38 45) (.one 9 (oS 8 46) .done)))) 6 (none,
 .slc 44 (.t 42) none (some (.t 43)) 1) (.one 3 (none,.slc 41 (.t 39) (some (.t 40)) none 1) (.one 7 (none,.cpy 45 (.t 41) (.t 44) 1) (.take [9] (oD 46 .add 38 45) (.one 9 (oS 8 46) .done)))))))))
def WB :List zl:=[oM 47 7,oS 4 47]
def j6 :List Nat:=[0,1,4,5,6,7,8,10,26,37]
def zjv :zD:=.seq (.reg j6 G4 j6) (.seq (.seq (.reg [0,1,4,5,6,7,8,26,37] G3 j6) (.cond (.t 10) (.reg j6 zgo j6) .skip)) (.seq (.reg j6 G0 j6) (.seq (.seq (.reg [0,
 1,4,5,6,7,8,10,37] GZ j6) (.cond (.t 26) (.reg j6 zgn j6) .skip)) (.seq (.reg j6 GY j6) (.seq (.reg j6 uA j6) (.seq (.blk 0 (.loop (.seq (.seq (.reg [0,
 1,4,5,6,7,8,10,26] wP j6) (.cond (.t 37) .skip (.exit 0))) (.blk 1 (.draw j6 GX j6))))) (.seq (.reg j6 WB j6) .ret)))))))
abbrev ziA :Nat:=66
theorem zk3 :jU Try.prog Try.f66.ntmps 2 [4] j6 [(.tmp 4)] zjv ziA:=jY mix Try.func66 (by kernel_rfl) rfl
def GW :List zl:=[(none,.asg 4 (.c (.pointer none)) true)]
def GV :List zl:=[oM 8 0,oE 9 8,oS 5 9]
def GU :Zf:=.take [24,25,26] (oM 10 0) (.take [24,25,26] (oM 11 1) (.take [3,24,25,26] (oM 12 5) (.take [5,24,25,26] (oM 14 5) (.take [7,24,25,26] (oM 16 5) (.take [9,24,25,26] (oM 18 5) (.take [11,24,25,26] (oM 20 5) (.take [13,24,25,26] (oM 22 5) (.take [15,24,25,26] (oM 24 5) (.take [17,
 24,25,26] (oM 26 5) (.take [19,24,25,26] (oM 28 5) (.take [21,24,25,26] (oM 30 5) (.take [23,24,25,26] (oM 32 5) (.many [(3,(none,.mk 13 (.t 12) (.t 12) 1 8 [.int .i64 0])),(5,(none,.mk 15 (.t 14) (.t 14) 1 1 [.bool false])),(7,(none,.mk 17 (.t 16) (.t 16) 1 8 [.int .i64 0])),(9,(none,.mk 19 (.t 18) (.t 18) 1 8 [.int .i64 0])),
 (11,(none,.mk 21 (.t 20) (.t 20) 1 8 [.int .i64 0])),(13,(none,.mk 23 (.t 22) (.t 22) 1 8 [.int .i64 0])),(15,(none,.mk 25 (.t 24) (.t 24) 2 16 [.int .i64 0,.int .i64 0])),(17,(none,.mk 27 (.t 26) (.t 26) 1 1 [.bool false])),(19,(none,.mk 29 (.t 28) (.t 28) 1 8 [.int .i64 0])),(21,(none,.mk 31 (.t 30) (.t 30) 1 8 [.int .i64 0])),
 (23,(none,.mk 33 (.t 32) (.t 32) 1 8 [.int .i64 0]))] (.one 24 (none,.bld 34 [((0,1),(.t 10,true)),((1,1),(.t 11,true)),((2,1),(.t 13,true)),((3,1),(.t 15,true)),((4,1),(.t 17,true)),((5,1),(.t 19,true)),((6,1),(.t 21,true)),((7,1),(.t 23,true)),((8,1),(.t 25,true)),((9,1),(.t 27,true)),((10,1),(.t 29,
 true)),((11,1),(.t 31,true)),((12,1),(.t 33,true))] [.slice none 0 0,.slice none 0 0,.slice none 0 0,.slice none 0 0,.slice none 0 0,.slice none 0 0,.slice none 0 0,.slice none 0 0,.slice none 0 0,.slice none 0 0,.slice none 0 0,.slice none 0 0,.slice none 0 0,.int .i64 0,.slice none 0 0,.int .i64 0]) (.one 25 (none,
 .box 35 (.t 34)) (.one 26 (oS 6 35) .done))))))))))))))))
def GT :List zl:=[oM 36 5,(none,.r (.mov 37 (.c (.int .i64 0))))]
def uz :List zl:=[oD 38 .lss 37 36]
def GS :List zl:=[oM 39 37,oS 7 39]
def GQ :Zf:=.take [1,2,3,17,18,19,20,21,22] (oM 40 6) (.take [2,3,17,18,19,20,21,22] (oN 41 40) (.take [3,17,18,19,20,21,22] (oF 42 41 10) (.take [17,18,19,20,21,22] (oL 43 42 1) (.take [17,18,19,20,21,22] (oM 44 7) (.take [6,7,8,17,18,19,20,21,22] (oM 45 6) (.take [7,8,17,18,19,20,21,
 22] (oN 46 45) (.take [8,17,18,19,20,21,22] (oF 47 46 11) (.take [17,18,19,20,21,22] (oL 48 47 1) (.take [19,20,21,22] (oM 49 7) (.take [11,12,13,17,18,19,20,21,22] (oM 50 6) (.take [12,13,17,18,19,20,21,22] (oN 51 50) (.take [13,17,18,19,20,21,22] (oF 52 51 7) (.take [17,18,19,20,21,22] (oL 53 52 1) (.take [21,
 22] (oM 54 7) (.take [17,18,19,20,21,22] (oM 55 7) (.take [19,20,21,22] (oM 56 7) (.take [18,19,20,21,22] (oX 57 43 44 1) (.one 18 (oW 57 55 1) (.take [20,21,22] (oX 58 48 49 1) (.one 20 (oW 58 56 1) (.take [22] (oX 59 53 54 1) (.one 22 (none,.st (.t 59) (.c (.int .i64 (- (0+1)))) 1) .done))))))))))))))))))))))
def uy :List zl:=[oM 60 1,oM 61 7,oX 62 60 61 1,oL 63 62 1,(none,.r (.bin 64 .eql 0 (.t 63) (.c (.int .i64 (- (0+1))))))]
def GP :List zl:=[oM 65 6,oN 66 65,oF 67 66 7,oL 68 67 1,oM 69 7,oM 70 7,oX 71 68 69 1,oW 71 70 1]
def GO :List zl:=[oM 72 6,oM 73 7,(none,.call 74 (.f 78) [(.t 72,false),(.t 73,false),(.c (.int .i64 0),false),(.c (.int .i64 1),false)])]
def WA :List zl:=[oB 75 .add 37 1,oS 37 75]
def vU :List zl:=[oM 76 6,oS 4 76]
def jG :List Nat:=[0,1,4,5,6,7,36,37,38,64]
def zju :zD:=.seq (.reg jG GW jG) (.seq (.reg jG GV jG) (.seq (.draw jG GU jG) (.seq (.seq (.reg [0,1,4,5,6,7,38,64] GT jG) (.blk 0 (.loop (.seq (.reg [0,1,4,5,6,7,36,
 37,64] uz jG) (.seq (.cond (.t 38) .skip (.exit 0)) (.seq (.blk 1 (.seq (.reg jG GS jG) (.seq (.draw jG GQ jG) (.seq (.reg [0,1,4,5,6,7,36,37,38] uy jG) (.cond (.t 64) (.seq (.reg jG GP jG) (.reg jG GO jG)) .skip))))) (.reg jG WA jG))))))) (.seq (.reg jG vU jG) .ret))))
abbrev ziz :Nat:=67
theorem zk2 :jU Try.prog Try.f67.ntmps 2 [4] jG [(.tmp 4)] zju ziz:=jY mix Try.func67 (by kernel_rfl) rfl
def GN :List zl:=[oI 4 0]
def GM :Zf:=.take [1,2,3,7,8,9] (oM 5 0) (.take [2,3,7,8,9] (oN 6 5) (.take [3,7,8,9] (oF 7 6 11) (.take [7,8,9] (oL 8 7 1) (.take [6,7,8,9] (oM 9 0) (.take [6,7,8,9] (oM 10 1) (.one 6 (QO 11 79 9 10) (.take [8,9] (oX 12 8 11 1) (.take [9] (oL 13 12 1) (.one 9 (oS 4 13) .done)))))))))
def UR :List Nat:=[0,1,4]
def zjt :zD:=.seq (.reg UR GN UR) (.seq (.draw UR GM UR) .ret)
abbrev KI :Nat:=68
theorem zk1 :jU Try.prog Try.f68.ntmps 2 [4] UR [(.tmp 4)] zjt KI:=jY mix Try.func68 (by kernel_rfl) rfl
def ux :List zl:=[oI 2 0,oO 3]
def uw :List zl:=[oM 5 0,oN 6 5,oF 7 6 14,oL 8 7 1,oE 9 8,oB 10 .eql 9 0]
def GL :List zl:=[oI 2 0,oO 3]
def GK :List zl:=[oM 11 0,oN 12 11,oF 13 12 14,oL 14 13 1,(none,.r (.idxA 15 (.t 14) (.c (.int .i64 0)) 1)),oL 16 15 1,oS 4 16]
def GJ :List zl:=[oM 17 0,oM 18 0,oN 19 18,oF 20 19 14,oL 21 20 1,(none,.slc 22 (.t 21) (some (.c (.int .i64 1))) none 1),oN 23 17,oF 24 23 14,oW 24 22 1]
def GI :List zl:=[oM 25 4,oS 2 25,(none,.asg 3 (.c (.bool true)) true)]
def qw :List Nat:=[0,2,3,4,10]
def zgm :zD:=.seq (.reg qw ux qw) (.seq (.seq (.reg [0,2,3,4] uw qw) (.cond (.t 10) (.seq (.reg qw GL qw) .ret) .skip)) (.seq (.reg qw GK qw) (.seq (.reg qw GJ qw) (.seq (.reg qw GI qw) .ret))))
abbrev zcu :Nat:=69
theorem zf5 :jU Try.prog Try.f69.ntmps 1 [2,3] qw [(.tmp 2),(.tmp 3)] zgm zcu:=jY mix Try.func69 (by kernel_rfl) rfl
def GH :List zl:=[oI 6 0]
def GG :List zl:=[oM 7 0,oN 8 7,oF 9 8 15,oL 10 9 1,oB 11 .add 10 1,oN 12 7,oF 13 12 15,oW 13 11 1]
def uv :List zl:=[oM 15 2,oM 16 0,oN 17 16,oF 18 17 1,oL 19 18 1,oM 20 1,oX 21 19 20 1,oL 22 21 1,oD 23 .eql 15 22,oM 24 23,oK 24 false 25 0,oK 24 false 26 1,(some (24,false),.call 27 (.f 80) [(.t 25,false),(.t 26,false)]),oQ 28 24 27,oM 29 28,oK 29 false 30 0,oK 29 false 31 2,
 (some (29,false),.call 32 (.f 80) [(.t 30,false),(.t 31,false)]),oQ 33 29 32,oS 14 33]
def GF :List zl:=[oI 6 0]
def uu :List zl:=[oM 35 0,oN 36 35,oF 37 36 2,oL 38 37 1,oM 39 2,oX 40 38 39 1,oL 41 40 1,oB 42 .eql 41 0,oS 34 42]
def GE :List zl:=[oI 6 1]
def wO :List zl:=[oM 44 0,oN 45 44,oF 46 45 3,oL 47 46 1,oM 48 2,oX 49 47 48 1,oL 50 49 1,oM 51 50,oK 51 true 52 0,oK 51 true 53 1,(some (51,true),.call 54 (.f 68) [(.t 52,false),(.t 53,false)]),oK 51 true 55 0,oK 51 true 56 2,(some (51,true),.call 57 (.f 68) [(.t 55,false),(.t 56,
 false)]),oKD 51 true 58 .neq 54 57,oP 59 51 58,oS 43 59]
def GD :List zl:=[oI 6 2]
def ut :List zl:=[oI 6 0]
def Jf :List Nat:=[0,1,2,6,14,34,43]
def zjs :zD:=.seq (.reg Jf GH Jf) (.seq (.reg Jf GG Jf) (.seq (.blk 0 (.seq (.reg Jf uv Jf) (.cond (.t 14) (.seq (.reg Jf GF Jf) .ret) (.seq (.reg Jf uu Jf) (.cond (.t 34) (.seq (.reg Jf GE Jf) .ret) (.seq (.reg Jf wO Jf) (.cond (.t 43) (.seq (.reg Jf GD Jf) .ret) .skip))))))) (.seq (.reg Jf ut Jf) .ret)))
abbrev ziy :Nat:=70
theorem zk0 :jU Try.prog Try.f70.ntmps 3 [6] Jf [(.tmp 6)] zjs ziy:=jY mix Try.func70 (by kernel_rfl) rfl
def GC :Zf:=.take [1,2,3,36,37,38,39,40,41,42,43] (oM 7 0) (.take [2,3,36,37,38,39,40,41,42,43] (oN 8 7) (.take [3,36,37,38,39,40,41,42,43] (oF 9 8 2) (.take [36,37,38,39,40,41,42,43] (oL 10 9 1) (.take [36,37,38,39,40,41,42,43] (oM 11 2) (.take [6,7,8,36,37,38,39,40,41,42,43] (oM 12 0) (.take [7,
 8,36,37,38,39,40,41,42,43] (oN 13 12) (.take [8,36,37,38,39,40,41,42,43] (oF 14 13 6) (.take [36,37,38,39,40,41,42,43] (oL 15 14 1) (.take [38,39,40,41,42,43] (oM 16 2) (.take [11,12,13,36,37,38,39,40,41,42,43] (oM 17 0) (.take [12,13,36,37,38,39,40,41,42,43] (oN 18 17) (.take [13,36,37,38,39,40,41,42,
 43] (oF 19 18 7) (.take [36,37,38,39,40,41,42,43] (oL 20 19 1) (.take [40,41,42,43] (oM 21 2) (.take [16,17,18,36,37,38,39,40,41,42,43] (oM 22 0) (.take [17,18,36,37,38,39,40,41,42,43] (oN 23 22) (.take [18,36,37,38,39,40,41,42,43] (oF 24 23 5) (.take [36,37,38,39,40,41,42,43] (oL 25 24 1) (.take [42,
 43] (oM 26 2) (.take [38,39,40,41,42,43] (oM 27 1) (.take [22,23,24,26,27,36,37,38,39,40,41,42,43] (oM 28 0) (.take [23,24,26,27,36,37,38,39,40,41,42,43] (oN 29 28) (.take [24,26,27,36,37,38,39,40,41,42,43] (oF 30 29 7) (.take [26,27,36,37,38,39,40,41,42,43] (oL 31 30 1) (.take [26,27,36,37,38,39,40,
 41,42,43] (oM 32 1) (.take [27,36,37,38,39,40,41,42,43] (oX 33 31 32 1) (.take [36,37,38,39,40,41,42,43] (oL 34 33 1) (.take [29,30,31,33,34,35,36,37,38,39,40,41,42,43] (oM 35 0) (.take [30,31,33,34,35,36,37,38,39,40,41,42,43] (oN 36 35) (.take [31,33,34,35,36,37,38,39,40,41,42,43] (oF 37 36 4) (.take [33,
 34,35,36,37,38,39,40,41,42,43] (oL 38 37 1) (.take [33,34,35,36,37,38,39,40,41,42,43] (oM 39 1) (.take [34,35,36,37,38,39,40,41,42,43] (oX 40 38 39 1) (.take [35,36,37,38,39,40,41,42,43] (oL 41 40 1) (.take [42,43] (oB 42 .add 41 1) (.take [37,38,39,40,41,42,43] (oX 43 10 11 1) (.one 37 (none,.st (.t 43) (.c (.int .i64 2)) 1) (.take [39,
 40,41,42,43] (oX 44 15 16 1) (.one 39 (oW 44 27 1) (.take [41,42,43] (oX 45 20 21 1) (.one 41 (oW 45 34 1) (.take [43] (oX 46 25 26 1) (.one 43 (oW 46 42 1) .done)))))))))))))))))))))))))))))))))))))))))))
def GB :List zl:=[oM 47 0,oN 48 47,oF 49 48 1,oL 50 49 1,oM 51 2,oX 52 50 51 1,oL 53 52 1,oS 6 53]
def GA :Zf:=.take [1,2,3,12,13] (oM 54 0) (.take [2,3,12,13] (oN 55 54) (.take [3,12,13] (oF 56 55 7) (.take [12,13] (oL 57 56 1) (.take [12,13] (oM 58 6) (.take [6,7,8,10,11,12,13] (oM 59 0) (.take [7,8,10,11,12,13] (oN 60 59) (.take [8,10,11,12,13] (oF 61 60 7) (.take [10,11,
 12,13] (oL 62 61 1) (.take [10,11,12,13] (oM 63 1) (.take [11,12,13] (oX 64 62 63 1) (.take [12,13] (oL 65 64 1) (.take [13] (oX 66 57 58 1) (.one 13 (oW 66 65 1) .done)))))))))))))
def Gz :List zl:=[oM 67 0,oM 68 6,oM 69 0,oN 70 69,oF 71 70 4,oL 72 71 1,oM 73 1,oX 74 72 73 1,oL 75 74 1,oB 76 .add 75 2,(none,.call 77 (.f 78) [(.t 67,false),(.t 68,false),(.t 76,false),(.c (.int .i64 1),false)])]
def Yt :List Nat:=[0,1,2,6]
def zjr :zD:=.seq (.draw Yt GC Yt) (.seq (.reg Yt GB Yt) (.seq (.draw Yt GA Yt) (.reg Yt Gz Yt)))
abbrev zix :Nat:=71
theorem zkZ :jU Try.prog Try.f71.ntmps 3 [] Yt [] zjr zix:=jY mix Try.func71 (by kernel_rfl) rfl
def ur :List zl:=[oZ 6]
def uq :Zf:=.take [1,2,3,5,6,14] (oM 9 0) (.take [2,3,5,6,14] (oN 10 9) (.take [3,5,6,14] (oF 11 10 7) (.take [5,6,14] (oL 12 11 1) (.take [5,6,14] (oM 13 1) (.take [6,14] (oX 14 12 13 1) (.take [14] (oL 15 14 1) (.take [8,9,10,12,13,14] (oM 16 0) (.take [9,10,12,13,14] (oN 17 16) (.take [10,
 12,13,14] (oF 18 17 7) (.take [12,13,14] (oL 19 18 1) (.take [12,13,14] (oM 20 2) (.take [13,14] (oX 21 19 20 1) (.take [14] (oL 22 21 1) (.take [] (oD 23 .neq 15 22) .done))))))))))))))
def Gy :List zl:=[oM 24 0,oM 25 1,oM 26 0,oN 27 26,oF 28 27 7,oL 29 28 1,oM 30 1,oX 31 29 30 1,oL 32 31 1,oC3 33 82 24 25 32,oC 34 81 33,oS 7 34]
def Gx :List zl:=[oM 35 7,oM 36 0,oM 37 2,oM 38 0,oN 39 38,oF 40 39 7,oL 41 40 1,oM 42 2,oX 43 41 42 1,oL 44 43 1,oC3 45 82 36 37 44,(none,.app 46 (.t 35) (.t 45) 1 8),oS 7 46]
def Gw :Zf:=.take [1,2,3,22,23,24,25] (oM 47 0) (.take [2,3,22,23,24,25] (oN 48 47) (.take [3,22,23,24,25] (oF 49 48 9) (.take [22,23,24,25] (oL 50 49 1) (.take [5,6,7,9,10,22,23,24,25] (oM 51 0) (.take [6,7,9,10,22,23,24,25] (oN 52 51) (.take [7,9,10,22,23,24,25] (oF 53 52 7) (.take [9,
 10,22,23,24,25] (oL 54 53 1) (.take [9,10,22,23,24,25] (oM 55 1) (.take [10,22,23,24,25] (oX 56 54 55 1) (.take [22,23,24,25] (oL 57 56 1) (.take [12,13,14,22,23,24,25] (oM 58 0) (.take [13,14,22,23,24,25] (oN 59 58) (.take [14,22,23,24,25] (oF 60 59 9) (.take [22,23,24,25] (oL 61 60 1) (.take [16,17,
 18,20,21,22,23,24,25] (oM 62 0) (.take [17,18,20,21,22,23,24,25] (oN 63 62) (.take [18,20,21,22,23,24,25] (oF 64 63 7) (.take [20,21,22,23,24,25] (oL 65 64 1) (.take [20,21,22,23,24,25] (oM 66 2) (.take [21,22,23,24,25] (oX 67 65 66 1) (.take [22,23,24,25] (oL 68 67 1) (.take [23,24,25] (oX 69 50 57 1) (.one 23 (none,
 .st (.t 69) (.c (.bool true)) 1) (.take [25] (oX 70 61 68 1) (.one 25 (none,.st (.t 70) (.c (.bool true)) 1) .done)))))))))))))))))))))))))
def Gv :List zl:=[oM 71 7,oS 6 71]
def Gu :List zl:=[oM 72 0,oM 73 0,oM 74 1,QO 75 68 73 74,oM 76 0,oM 77 2,QO 78 68 76 77,oC3 79 83 72 75 78,oS 8 79]
def Gt :List zl:=[oM 80 0,oM 81 1,oM 82 2,oM 83 8,(none,.call 84 (.f 84) [(.t 80,false),(.t 81,false),(.t 82,false),(.t 83,false)])]
def Gs :List zl:=[oM 85 0,oM 86 2,oM 87 1,oM 88 8,(none,.call 89 (.f 84) [(.t 85,false),(.t 86,false),(.t 87,false),(.t 88,false)])]
def Gr :List zl:=[oZ 6]
def jR :List Nat:=[0,1,2,6,7,8,23]
def zgl :zD:=.seq (.reg jR ur jR) (.seq (.seq (.draw [0,1,2,6,7,8] uq jR) (.cond (.t 23) (.seq (.reg jR Gy jR) (.seq (.reg jR Gx jR) (.seq (.draw jR Gw jR) (.seq (.reg jR Gv jR) .ret)))) .skip)) (.seq (.reg jR Gu jR) (.seq (.reg jR Gt jR) (.seq (.reg jR Gs jR) (.seq (.reg jR Gr jR) .ret)))))
abbrev zfy :Nat:=72
theorem zf4 :jU Try.prog Try.f72.ntmps 3 [6] jR [(.tmp 6)] zgl zfy:=jY mix Try.func72 (by kernel_rfl) rfl
def Gq :List zl:=[oZ 2]
def Gp :List zl:=[oM 5 0,oN 6 5,oF 7 6 2,oL 8 7 1,oE 9 8,(none,.mk 10 (.t 9) (.t 9) 1 8 [.int .i64 0]),oS 3 10]
def Gn :List zl:=[oM 11 3,oE 12 11,(none,.r (.mov 13 (.c (.int .i64 0))))]
def uo :List zl:=[oD 14 .lss 13 12]
def Gm :List zl:=[oM 15 13,oS 4 15]
def Gk :List zl:=[oM 16 3,oM 17 4,oM 18 0,oN 19 18,oF 20 19 2,oL 21 20 1,oM 22 4,oX 23 21 22 1,oL 24 23 1,oX 25 16 17 1,oW 25 24 1]
def un :List zl:=[oM 26 0,oN 27 26,oF 28 27 3,oL 29 28 1,oM 30 4,oX 31 29 30 1,oL 32 31 1]
def Gj :List zl:=[oM 33 3,oM 34 4,oX 35 33 34 1,(none,.st (.t 35) (.c (.int .i64 1)) 1)]
def um :List zl:=[oB 36 .add 13 1,oS 13 36]
def Gi :List zl:=[oM 37 3,oS 2 37]
def Jr :List Nat:=[0,2,3,4,12,13,14,32]
def zjq :zD:=.seq (.reg Jr Gq Jr) (.seq (.reg Jr Gp Jr) (.seq (.seq (.reg [0,2,3,4,14,32] Gn Jr) (.blk 0 (.loop (.seq (.reg [0,
 2,3,4,12,13,32] uo Jr) (.seq (.cond (.t 14) .skip (.exit 0)) (.seq (.blk 1 (.seq (.reg Jr Gm Jr) (.seq (.reg Jr Gk Jr) (.seq (.reg [0,
 2,3,4,12,13,14] un Jr) (.cond (.t 32) (.reg Jr Gj Jr) .skip))))) (.reg Jr um Jr))))))) (.seq (.reg Jr Gi Jr) .ret)))
abbrev ziw :Nat:=73
theorem zkY :jU Try.prog Try.f73.ntmps 1 [2] Jr [(.tmp 2)] zjq ziw:=jY mix Try.func73 (by kernel_rfl) rfl
def Gh :List zl:=[oM 4 0,oN 5 4,oF 6 5 1,oL 7 6 1,oM 8 1,oX 9 7 8 1,oL 10 9 1,(none,.r (.notb 11 (.t 10)))]
def Gg :List zl:=[oM 12 0,oN 13 12,oF 14 13 1,oL 15 14 1,oM 16 1,oX 17 15 16 1,(none,.st (.t 17) (.c (.bool true)) 1)]
def Gf :List zl:=[oM 18 0,oM 19 0,oN 20 19,oF 21 20 2,oL 22 21 1,oM 23 1,(none,.blds 24 1 1 [((0,1),(.t 23,true))] [.int .i64 0]),(none,.app 25 (.t 22) (.t 24) 1 8),oN 26 18,oF 27 26 2,oW 27 25 1]
def Ge :List zl:=[oM 28 0,oM 29 0,oN 30 29,oF 31 30 3,oL 32 31 1,oM 33 1,(none,.blds 34 1 1 [((0,1),(.t 33,true))] [.int .i64 0]),(none,.app 35 (.t 32) (.t 34) 1 8),oN 36 28,oF 37 36 3,oW 37 35 1]
def Y9 :List Nat:=[0,1,11]
def zjp :zD:=.seq (.reg [0,1] Gh Y9) (.cond (.t 11) (.seq (.reg Y9 Gg Y9) (.seq (.reg Y9 Gf Y9) (.reg Y9 Ge Y9))) .skip)
abbrev ziv :Nat:=74
theorem zkX :jU Try.prog Try.f74.ntmps 2 [] Y9 [] zjp ziv:=jY mix Try.func74 (by kernel_rfl) rfl
abbrev ziu :Nat:=75
def Gd :List zl:=[oO 2]
def Gc :List zl:=[oM 3 0,oM 4 0,oD 5 .neq 3 4,oS 2 5]
def UQ :List Nat:=[0,2]
def zjo :zD:=.seq (.reg UQ Gd UQ) (.seq (.reg UQ Gc UQ) .ret)
abbrev zit :Nat:=76
theorem zkW :jU Try.prog Try.f76.ntmps 1 [2] UQ [(.tmp 2)] zjo zit:=jY mix Try.func76 (by kernel_rfl) rfl
def Gb :List zl:=[(none,.asg 4 (.c (.int .u64 0)) true),(none,.asg 5 (.c (.int .u64 0)) true)]
def zgk :List zl:=[oM 11 0,(none,.r (.conv 12 .u32 (.t 11))),oM 13 1,(none,.r (.conv 14 .u32 (.t 13))),QO 15 87 12 14,oM 10 15,oY 16 10 0,oY 17 10 1,oS 6 16,oS 7 17]
def zgj :List zl:=[oM 18 6,(none,.r (.conv 19 .u64 (.t 18))),oM 20 7,(none,.r (.conv 21 .u64 (.t 20))),oS 4 19,oS 5 21]
def g0 :List zl:=[oM 23 0,oM 24 1,QO 25 88 23 24,oM 22 25,oY 26 22 0,oY 27 22 1,oS 8 26,oS 9 27]
def gZ :List zl:=[oM 28 8,oM 29 9,oS 4 28,oS 5 29]
def QX :List Nat:=[0,1,4,5,6,7,8,9]
def zjn :zD:=.seq (.reg QX Gb QX) (.seq (.cond (.c (.bool false)) (.seq (.reg QX zgk QX) (.seq (.reg QX zgj QX) .ret)) .skip) (.seq (.reg QX g0 QX) (.seq (.reg QX gZ QX) .ret)))
abbrev zis :Nat:=77
theorem zkV :jU Try.prog Try.f77.ntmps 2 [4,5] QX [(.tmp 4),(.tmp 5)] zjn zis:=jY mix Try.func77 (by kernel_rfl) rfl
def gY :Zf:=.take [1,2,3,11,12,13,14] (oM 8 0) (.take [2,3,11,12,13,14] (oN 9 8) (.take [3,11,12,13,14] (oF 10 9 3) (.take [11,12,13,14] (oL 11 10 1) (.take [11,12,13,14] (oM 12 1) (.take [6,7,8,11,12,13,14] (oM 13 0) (.take [7,8,11,12,13,14] (oN 14 13) (.take [8,11,12,13,14] (oF 15 14 4) (.take [11,
 12,13,14] (oL 16 15 1) (.take [13,14] (oM 17 1) (.take [13,14] (oM 18 2) (.take [12,13,14] (oX 19 11 12 1) (.one 12 (none,.st (.t 19) (.c (.bool true)) 1) (.take [14] (oX 20 16 17 1) (.one 14 (oW 20 18 1) .done))))))))))))))
def ul :List zl:=[oM 21 0,oN 22 21,oF 23 22 2,oL 24 23 1,oM 25 1,oX 26 24 25 1,oL 27 26 1,oB 28 .eql 27 0]
def gX :List zl:=[oM 29 0,oN 30 29,oF 31 30 2,oL 32 31 1,oM 33 1,oM 34 3,oX 35 32 33 1,oW 35 34 1]
def uk :List zl:=[oM 36 0,oM 37 0,oN 38 37,oF 39 38 14,oL 40 39 1,oM 41 1,(none,.blds 42 1 1 [((0,1),(.t 41,true))] [.int .i64 0]),(none,.app 43 (.t 40) (.t 42) 1 8),oN 44 36,oF 45 44 14,oW 45 43 1]
def Y8 :List Nat:=[0,1,2,3,28]
def zjm :zD:=.seq (.draw Y8 gY Y8) (.seq (.seq (.reg [0,1,2,3] ul Y8) (.cond (.t 28) (.reg Y8 gX Y8) .skip)) (.reg Y8 uk Y8))
abbrev zfx :Nat:=78
theorem zkU :jU Try.prog Try.f78.ntmps 4 [] Y8 [] zjm zfx:=jY mix Try.func78 (by kernel_rfl) rfl
def gW :List zl:=[oI 4 0]
def uj :List zl:=[oM 5 0,oN 6 5,oF 7 6 10,oL 8 7 1,oM 9 1,oX 10 8 9 1,oL 11 10 1,oM 12 1,oD 13 .neq 11 12]
def gV :Zf:=.take [1,2,3,18,19] (oM 14 0) (.take [2,3,18,19] (oN 15 14) (.take [3,18,19] (oF 16 15 10) (.take [18,19] (oL 17 16 1) (.take [18,19] (oM 18 1) (.take [6,7,8,16,17,18,19] (oM 19 0) (.take [7,8,16,17,18,19] (oN 20 19) (.take [8,16,17,18,19] (oF 21 20 10) (.take [16,
 17,18,19] (oL 22 21 1) (.take [10,11,12,14,15,16,17,18,19] (oM 23 0) (.take [11,12,14,15,16,17,18,19] (oN 24 23) (.take [12,14,15,16,17,18,19] (oF 25 24 10) (.take [14,15,16,17,18,19] (oL 26 25 1) (.take [14,15,16,17,18,19] (oM 27 1) (.take [15,16,17,18,19] (oX 28 26 27 1) (.take [16,17,18,19] (oL 29 28 1) (.take [17,
 18,19] (oX 30 22 29 1) (.take [18,19] (oL 31 30 1) (.take [19] (oX 32 17 18 1) (.one 19 (oW 32 31 1) .done)))))))))))))))))))
def gU :List zl:=[oM 33 0,oN 34 33,oF 35 34 10,oL 36 35 1,oM 37 1,oX 38 36 37 1,oL 39 38 1,oS 1 39]
def gT :List zl:=[oM 40 1,oS 4 40]
def Q9 :List Nat:=[0,1,4,13]
def zjl :zD:=.seq (.reg Q9 gW Q9) (.seq (.blk 0 (.loop (.seq (.seq (.reg [0,1,4] uj Q9) (.cond (.t 13) .skip (.exit 0))) (.blk 1 (.seq (.draw Q9 gV Q9) (.reg Q9 gU Q9)))))) (.seq (.reg Q9 gT Q9) .ret))
abbrev zir :Nat:=79
theorem zkT :jU Try.prog Try.f79.ntmps 2 [4] Q9 [(.tmp 4)] zjl zir:=jY mix Try.func79 (by kernel_rfl) rfl
def gS :List zl:=[oO 4]
def ui :Zf:=.take [1,2,3,5,6,7,8,9,10,11,12,13,14,15,16,17,18,19,20,21,22,23] (oM 5 0) (.take [2,3,5,6,7,8,9,10,11,12,13,14,15,16,17,18,19,20,21,22,23] (oN 6 5) (.take [3,5,6,7,8,9,10,11,12,13,14,15,16,17,18,19,20,21,22,23] (oF 7 6 7) (.take [5,6,7,8,9,10,11,12,13,14,15,16,17,
 18,19,20,21,22,23] (oL 8 7 1) (.take [5,6,7,8,9,10,11,12,13,14,15,16,17,18,19,20,21,22,23] (oM 9 1) (.take [6,7,8,9,10,11,12,13,14,15,16,17,18,19,20,21,22,23] (oX 10 8 9 1) (.take [7,8,9,10,11,12,13,14,15,16,17,18,19,20,21,22,23] (oL 11 10 1) (.take [8,9,10,11,12,13,14,15,16,17,18,19,20,21,22,23] (none,
 .r (.bin 12 .neq 0 (.t 11) (.c (.int .i64 (- (0+1)))))) (.take [9,10,11,12,13,14,15,16,17,18,19,20,21,22,23] (oM 13 12) (.take [10,11,12,20,21,22,23] (oK 13 true 14 0) (.take [11,12,20,21,22,23] (some (13,true),.r (.nilck 15 (.t 14))) (.take [12,20,21,22,23] (some (13,true),.r (.fldA 16 (.t 15) 9)) (.take [20,
 21,22,23] (q5 13 true 17 16 1) (.take [14,15,16,18,19,20,21,22,23] (oK 13 true 18 0) (.take [15,16,18,19,20,21,22,23] (some (13,true),.r (.nilck 19 (.t 18))) (.take [16,18,19,20,21,22,23] (some (13,true),.r (.fldA 20 (.t 19) 7)) (.take [18,19,20,21,22,23] (q5 13 true 21 20 1) (.take [18,19,20,21,22,
 23] (oK 13 true 22 1) (.take [19,20,21,22,23] (some (13,true),.r (.idxA 23 (.t 21) (.t 22) 1)) (.take [20,21,22,23] (q5 13 true 24 23 1) (.take [21,22,23] (some (13,true),.r (.idxA 25 (.t 17) (.t 24) 1)) (.take [22,23] (q5 13 true 26 25 1) (.take [23] (oP 27 13 26) (.one 23 (oS 4 27) .done)))))))))))))))))))))))
def UP :List Nat:=[0,1,4]
def zjk :zD:=.seq (.reg UP gS UP) (.seq (.draw UP ui UP) .ret)
abbrev ziq :Nat:=80
theorem zkS :jU Try.prog Try.f80.ntmps 2 [4] UP [(.tmp 4)] zjk ziq:=jY mix Try.func80 (by kernel_rfl) rfl
def gR :List zl:=[oZ 2]
def gQ :List zl:=[oM 5 0,oE 6 5,oB 7 .sub 6 1,oI 3 0,oS 4 7]
def uh :List zl:=[oM 8 3,oM 9 4,oD 10 .lss 8 9]
def gP :Zf:=.take [12,13,14,15] (oM 15 0) (.take [12,13,14,15] (oM 16 3) (.take [14,15] (oM 17 0) (.take [14,15] (oM 18 4) (.take [6,7,12,13,14,15] (oM 19 0) (.take [6,7,12,13,14,15] (oM 20 4) (.take [7,12,13,14,15] (oX 21 19 20 1) (.take [12,13,14,15] (oL 22 21 1) (.take [10,11,12,
 13,14,15] (oM 23 0) (.take [10,11,12,13,14,15] (oM 24 3) (.take [11,12,13,14,15] (oX 25 23 24 1) (.take [12,13,14,15] (oL 26 25 1) (.take [13,14,15] (oX 27 15 16 1) (.one 13 (oW 27 22 1) (.take [15] (oX 28 17 18 1) (.one 15 (oW 28 26 1) .done)))))))))))))))
def gO :List zl:=[oM 11 3,oB 12 .add 11 1,oM 13 4,oB 14 .sub 13 1,oS 3 12,oS 4 14]
def gN :List zl:=[oM 29 0,oS 2 29]
def q6 :List Nat:=[0,2,3,4,10]
def zjj :zD:=.seq (.reg q6 gR q6) (.seq (.seq (.reg q6 gQ q6) (.blk 0 (.loop (.seq (.seq (.reg [0,2,3,4] uh q6) (.cond (.t 10) .skip (.exit 0))) (.seq (.blk 1 (.draw q6 gP q6)) (.reg q6 gO q6)))))) (.seq (.reg q6 gN q6) .ret))
abbrev zip :Nat:=81
theorem zkR :jU Try.prog Try.f81.ntmps 1 [2] q6 [(.tmp 2)] zjj zip:=jY mix Try.func81 (by kernel_rfl) rfl
def gM :List zl:=[oZ 6]
def gL :List zl:=[oZ 7]
def gK :List zl:=[oM 9 7,oM 10 1,(none,.blds 11 1 1 [((0,1),(.t 10,true))] [.int .i64 0]),(none,.app 12 (.t 9) (.t 11) 1 8),oS 7 12]
def wN :List zl:=[oM 37 1,oM 38 2,oD 39 .eql 37 38,oS 36 39]
def gJ :List zl:=[oM 40 7,oS 6 40]
def ug :List zl:=[oM 42 0,oN 43 42,oF 44 43 2,oL 45 44 1,oM 46 1,oX 47 45 46 1,oL 48 47 1,oB 49 .eql 48 1,oS 41 49]
def gI :List zl:=[oM 50 7,oM 51 0,oN 52 51,oF 53 52 1,oL 54 53 1,oM 55 1,oX 56 54 55 1,oL 57 56 1,(none,.blds 58 1 1 [((0,1),(.t 57,true))] [.int .i64 0]),(none,.app 59 (.t 50) (.t 58) 1 8),oS 7 59]
def gH :Zf:=.take [1,2,3,11,12,13] (oM 60 0) (.take [2,3,11,12,13] (oN 61 60) (.take [3,11,12,13] (oF 62 61 6) (.take [11,12,13] (oL 63 62 1) (.take [5,6,7,9,10,11,12,13] (oM 64 0) (.take [6,7,9,10,11,12,13] (oN 65 64) (.take [7,9,10,11,12,13] (oF 66 65 1) (.take [9,10,11,12,13] (oL 67 66 1) (.take [9,
 10,11,12,13] (oM 68 1) (.take [10,11,12,13] (oX 69 67 68 1) (.take [11,12,13] (oL 70 69 1) (.take [12,13] (oX 71 63 70 1) (.take [13] (oL 72 71 1) (.one 13 (oS 1 72) .done)))))))))))))
def gG :List zl:=[oM 13 0,oN 14 13,oF 15 14 8,oL 16 15 1,oM 17 1,oX 18 16 17 2,oT 19 18 2,(none,.alloc 8 [.int .i64 0,.int .i64 0]),oW 8 19 2]
def gF :Zf:=.take [13,14] (oM 20 7) (.take [11,12,13,14] (oM 21 0) (.take [3,11,12,13,14] (none,.r (.idxP 22 (.t 8) (.c (.int .i64 0)) 2 1)) (.take [11,12,13,14] (oL 23 22 1) (.take [5,6,7,9,10,11,12,13,14] (oM 24 0) (.take [6,7,9,10,11,12,13,14] (oN 25 24) (.take [7,9,10,11,12,
 13,14] (oF 26 25 1) (.take [9,10,11,12,13,14] (oL 27 26 1) (.take [9,10,11,12,13,14] (oM 28 1) (.take [10,11,12,13,14] (oX 29 27 28 1) (.take [11,12,13,14] (oL 30 29 1) (.one 11 (oC3 31 82 21 23 30) (.one 12 (oC 32 81 31) (.one 13 (none,.app 33 (.t 20) (.t 32) 1 8) (.one 14 (oS 7 33) .done))))))))))))))
def vT :List zl:=[(none,.r (.idxP 34 (.t 8) (.c (.int .i64 1)) 2 1)),oL 35 34 1,oS 1 35]
def jF :List Nat:=[0,1,2,6,7,8,36,41]
def zji :zD:=.seq (.reg jF gM jF) (.seq (.reg jF gL jF) (.blk 0 (.loop (.blk 1 (.seq (.reg jF gK jF) (.blk 2 (.seq (.reg jF wN jF) (.cond (.t 36) (.seq (.reg jF gJ jF) .ret) (.seq (.reg jF ug jF) (.cond (.t 41) (.seq (.reg jF gI jF) (.draw jF gH jF)) (.seq (.reg [0,
 1,2,6,7,36,41] gG jF) (.seq (.draw jF gF jF) (.reg jF vT jF)))))))))))))
abbrev zio :Nat:=82
theorem zkQ :jU Try.prog Try.f82.ntmps 3 [6] jF [(.tmp 6)] zji zio:=jY mix Try.func82 (by kernel_rfl) rfl
def gE :List zl:=[oI 6 0]
def gD :List zl:=[oM 7 0,oN 8 7,oF 9 8 13,oL 10 9 1,oB 11 .add 10 1,oN 12 7,oF 13 12 13,oW 13 11 1]
def ue :List zl:=[oM 14 1,(none,.r (.bin 15 .neq 0 (.t 14) (.c (.int .i64 (- (0+1))))))]
def ud :Zf:=.take [1,2,3,5,6,11] (oM 16 0) (.take [2,3,5,6,11] (oN 17 16) (.take [3,5,6,11] (oF 18 17 12) (.take [5,6,11] (oL 19 18 1) (.take [5,6,11] (oM 20 1) (.take [6,11] (oX 21 19 20 1) (.take [11] (oL 22 21 1) (.take [8,9,10,11] (oM 23 0) (.take [9,10,11] (oN 24 23) (.take [10,
 11] (oF 25 24 13) (.take [11] (oL 26 25 1) (.take [] (oD 27 .eql 22 26) .done)))))))))))
def gC :List zl:=[oM 28 1,oS 6 28]
def gB :Zf:=.take [1,2,3,9,10] (oM 29 0) (.take [2,3,9,10] (oN 30 29) (.take [3,9,10] (oF 31 30 12) (.take [9,10] (oL 32 31 1) (.take [9,10] (oM 33 1) (.take [6,7,8,9,10] (oM 34 0) (.take [7,8,9,10] (oN 35 34) (.take [8,9,10] (oF 36 35 13) (.take [9,10] (oL 37 36 1) (.take [10] (oX 38 32 33 1) (.one 10 (oW 38 37 1) .done))))))))))
def uc :List zl:=[oM 39 0,oM 40 1,QO 41 89 39 40,oS 1 41]
def wM :List zl:=[oM 42 2,oM 43 1,oS 1 42,oS 2 43]
def J2 :List Nat:=[0,1,2,6,15,27]
def zjh :zD:=.seq (.reg J2 gE J2) (.seq (.reg J2 gD J2) (.blk 0 (.loop (.blk 1 (.seq (.seq (.reg [0,1,2,6,27] ue J2) (.cond (.t 15) (.seq (.seq (.draw [0,
 1,2,6,15] ud J2) (.cond (.t 27) (.seq (.reg J2 gC J2) .ret) .skip)) (.seq (.draw J2 gB J2) (.reg J2 uc J2))) .skip)) (.reg J2 wM J2))))))
abbrev zin :Nat:=83
theorem zkP :jU Try.prog Try.f83.ntmps 3 [6] J2 [(.tmp 6)] zjh zin:=jY mix Try.func83 (by kernel_rfl) rfl
def gA :Zf:=.take [1,2,3,5,6,14,15,16] (oM 12 0) (.take [2,3,5,6,14,15,16] (oN 13 12) (.take [3,5,6,14,15,16] (oF 14 13 4) (.take [5,6,14,15,16] (oL 15 14 1) (.take [5,6,14,15,16] (oM 16 1) (.take [6,14,15,16] (oX 17 15 16 1) (.take [14,15,16] (oL 18 17 1) (.take [8,9,10,12,
 13,14,15,16] (oM 19 0) (.take [9,10,12,13,14,15,16] (oN 20 19) (.take [10,12,13,14,15,16] (oF 21 20 4) (.take [12,13,14,15,16] (oL 22 21 1) (.take [12,13,14,15,16] (oM 23 2) (.take [13,14,15,16] (oX 24 22 23 1) (.take [14,15,16] (oL 25 24 1) (.take [15,16] (oD 26 .add 18 25) (.take [16] (oB 27 .add 26 1) (.one 16 (oS 8 27) .done))))))))))))))))
def gz :List zl:=[oM 28 0,oM 29 1,QO 30 68 28 29,oS 9 30]
def ua :List zl:=[oM 31 9,oM 32 3,oD 33 .neq 31 32]
def gy :List zl:=[oM 34 0,oN 35 34,oF 36 35 1,oL 37 36 1,oM 38 9,oX 39 37 38 1,oL 40 39 1,oS 10 40]
def gx :List zl:=[oM 41 0,oN 42 41,oF 43 42 3,oL 44 43 1,oM 45 10,oX 46 44 45 1,oL 47 46 1,(none,.r (.notb 48 (.t 47)))]
def gw :List zl:=[oM 49 0,oN 50 49,oF 51 50 8,oL 52 51 1,oM 53 10,oM 54 1,oM 55 2,(none,.bld 56 [((0,1),(.t 54,true)),((1,1),(.t 55,true))] [.int .i64 0,.int .i64 0]),oX 57 52 53 2,oW 57 56 2]
def gv :List zl:=[oM 58 0,oM 59 10,oM 60 8,oM 61 0,oN 62 61,oF 63 62 5,oL 64 63 1,oM 65 10,oX 66 64 65 1,oL 67 66 1,oD 68 .sub 60 67,(none,.call 69 (.f 78) [(.t 58,false),(.t 59,false),(.t 68,false),(.c (.int .i64 2),false)])]
def gu :List zl:=[oM 70 0,oM 71 0,oN 72 71,oF 73 72 6,oL 74 73 1,oM 75 10,oX 76 74 75 1,oL 77 76 1,QO 78 68 70 77,oS 11 78]
def gt :List zl:=[oM 79 0,oM 80 9,oM 81 10,oM 82 3,(none,.call 83 (.f 90) [(.t 79,false),(.t 80,false),(.t 81,false),(.t 82,false)])]
def gr :List zl:=[oM 84 0,oM 85 10,oM 86 0,oN 87 86,oF 88 87 6,oL 89 88 1,oM 90 10,oX 91 89 90 1,oL 92 91 1,oM 93 3,(none,.call 94 (.f 90) [(.t 84,false),(.t 85,false),(.t 92,false),(.t 93,false)])]
def vS :List zl:=[oM 95 11,oS 9 95]
def jQ :List Nat:=[0,1,2,3,8,9,10,11,33,48]
def zjg :zD:=.seq (.draw jQ gA jQ) (.seq (.reg jQ gz jQ) (.blk 0 (.loop (.seq (.seq (.reg [0,1,2,3,8,9,10,11,48] ua jQ) (.cond (.t 33) .skip (.exit 0))) (.blk 1 (.seq (.reg jQ gy jQ) (.seq (.seq (.reg [0,
 1,2,3,8,9,10,11,33] gx jQ) (.cond (.t 48) (.seq (.reg jQ gw jQ) (.reg jQ gv jQ)) .skip)) (.seq (.reg jQ gu jQ) (.seq (.reg jQ gt jQ) (.seq (.reg jQ gr jQ) (.reg jQ vS jQ)))))))))))
abbrev zim :Nat:=84
theorem zkO :jU Try.prog Try.f84.ntmps 4 [] jQ [] zjg zim:=jY mix Try.func84 (by kernel_rfl) rfl
def gq :List zl:=[(none,.asg 4 (.c (.int .u64 0)) true),(none,.asg 5 (.c (.int .u64 0)) true)]
def gp :List zl:=[oM 14 0,(none,.r (.bin 15 .and 0 (.t 14) (.c (.int .u64 4294967295)))),oS 6 15]
def gn :List zl:=[oM 16 0,(none,.r (.bin 17 .shr 0 (.t 16) (.c (.int .u64 32)))),oS 7 17]
def gm :List zl:=[oM 18 1,(none,.r (.bin 19 .and 0 (.t 18) (.c (.int .u64 4294967295)))),oS 8 19]
def gl :List zl:=[oM 20 1,(none,.r (.bin 21 .shr 0 (.t 20) (.c (.int .u64 32)))),oS 9 21]
def gk :List zl:=[oM 22 6,oM 23 8,oD 24 .mul 22 23,oS 10 24]
def gj :List zl:=[oM 25 7,oM 26 8,oD 27 .mul 25 26,oM 28 10,(none,.r (.bin 29 .shr 0 (.t 28) (.c (.int .u64 32)))),oD 30 .add 27 29,oS 11 30]
def gi :List zl:=[oM 31 11,(none,.r (.bin 32 .and 0 (.t 31) (.c (.int .u64 4294967295)))),oS 12 32]
def gh :List zl:=[oM 33 11,(none,.r (.bin 34 .shr 0 (.t 33) (.c (.int .u64 32)))),oS 13 34]
def gg :List zl:=[oM 35 12,oM 36 6,oM 37 9,oD 38 .mul 36 37,oD 39 .add 35 38,oS 12 39]
def vR :List zl:=[oM 40 7,oM 41 9,oD 42 .mul 40 41,oM 43 13,oD 44 .add 42 43,oM 45 12,(none,.r (.bin 46 .shr 0 (.t 45) (.c (.int .u64 32)))),oD 47 .add 44 46,oS 4 47]
def vQ :List zl:=[oM 48 0,oM 49 1,oD 50 .mul 48 49,oS 5 50]
def jj :List Nat:=[0,1,4,5,6,7,8,9,10,11,12,13]
def zjf :zD:=.seq (.reg jj gq jj) (.seq (.reg jj gp jj) (.seq (.reg jj gn jj) (.seq (.reg jj gm jj) (.seq (.reg jj gl jj) (.seq (.reg jj gk jj) (.seq (.reg jj gj jj) (.seq (.reg jj gi jj) (.seq (.reg jj gh jj) (.seq (.reg jj gg jj) (.seq (.reg jj vR jj) (.seq (.reg jj vQ jj) .ret)))))))))))
abbrev zil :Nat:=88
theorem zkN :jU Try.prog Try.f88.ntmps 2 [4,5] jj [(.tmp 4),(.tmp 5)] zjf zil:=jY mix Try.func88 (by kernel_rfl) rfl
def X0 :List zl:=[oI 4 0]
def XZ :List zl:=[oM 5 0,oN 6 5,oF 7 6 1,oL 8 7 1,oM 9 1,oX 10 8 9 1,oL 11 10 1,(none,.r (.bin 12 .eql 0 (.t 11) (.c (.int .i64 (- (0+1))))))]
def gf :List zl:=[(none,.asg 4 (.c (.int .i64 (- (0+1)))) true)]
def ge :Zf:=.take [14,15] (oM 13 0) (.take [2,3,4,12,13,14,15] (oM 14 0) (.take [3,4,12,13,14,15] (oN 15 14) (.take [4,12,13,14,15] (oF 16 15 6) (.take [12,13,14,15] (oL 17 16 1) (.take [6,7,8,10,11,12,13,14,15] (oM 18 0) (.take [7,8,10,11,12,13,14,15] (oN 19 18) (.take [8,10,
 11,12,13,14,15] (oF 20 19 1) (.take [10,11,12,13,14,15] (oL 21 20 1) (.take [10,11,12,13,14,15] (oM 22 1) (.take [11,12,13,14,15] (oX 23 21 22 1) (.take [12,13,14,15] (oL 24 23 1) (.take [13,14,15] (oX 25 17 24 1) (.take [14,15] (oL 26 25 1) (.one 14 (QO 27 68 13 26) (.one 15 (oS 4 27) .done)))))))))))))))
def Ys :List Nat:=[0,1,4,12]
def zgi :zD:=.seq (.reg Ys X0 Ys) (.seq (.seq (.reg [0,1,4] XZ Ys) (.cond (.t 12) (.seq (.reg Ys gf Ys) .ret) .skip)) (.seq (.draw Ys ge Ys) .ret))
abbrev zfw :Nat:=89
theorem zf3 :jU Try.prog Try.f89.ntmps 2 [4] Ys [(.tmp 4)] zgi zfw:=jY mix Try.func89 (by kernel_rfl) rfl
def gc :List zl:=[oM 10 0,oM 11 1,QO 12 79 10 11,oM 13 0,oM 14 2,QO 15 79 13 14,oS 8 12,oS 9 15]
def ga :List zl:=[oM 16 0,oN 17 16,oF 18 17 10,oL 19 18 1,oM 20 8,oM 21 9,oX 22 19 20 1,oW 22 21 1]
def K9 :List zl:=[oM 23 0,oN 24 23,oF 25 24 11,oL 26 25 1,oM 27 9,oM 28 3,oX 29 26 27 1,oW 29 28 1]
def W7 :List Nat:=[0,1,2,3,8,9]
def zje :zD:=.seq (.reg W7 gc W7) (.seq (.reg W7 ga W7) (.reg W7 K9 W7))
abbrev zfv :Nat:=90
theorem zkM :jU Try.prog Try.f90.ntmps 4 [] W7 [] zje zfv:=jY mix Try.func90 (by kernel_rfl) rfl
end Go.Proofs.Ytkjppnofgmpeeaa

namespace Go.Ga.Gl
open Go Go.Ga
abbrev Es :=List (Nat×Nat)
def ZZ (a b:Nat×Nat):Prop:=a.1<b.1∨a.1=b.1∧a.2<b.2
instance (a b:Nat×Nat):Decidable (ZZ a b):=inferInstanceAs (Decidable (a.1<b.1∨a.1=b.1∧a.2<b.2))
structure GR (n:Nat)(es:Es):Prop where
 hn:n≤4096
 hm:es.length≤65536
 ok:∀e∈es,e.1<e.2∧e.2<n
 up:es.Pairwise ZZ
def zP (l:Es):List (Int×Int):=l.map fun e=>((e.1:Int),(e.2:Int))
theorem zx (l:Es):(zP l).length=l.length:=by simp[zP]
theorem Qk {l:Es}{k:Nat}{a b:Nat}(h:l[k]?=some (a,b)):(zP l)[k]?=some ((a:Int),(b:Int)):=by simp[zP,h]
theorem zb0 (l:Es)(k:Nat):(zP l).drop k=zP (l.drop k):=by simp[zP]
theorem castE_append (l m:Es):zP (l++m)=zP l++zP m:=by simp[zP]
def J7 (n:Int)(es:List (Int×Int))(i:Nat):Bool:=
 let e:=es.getD i (0,0)
 let p:=es.getD (i - 1) (0,0)
 decide (0≤e.1)&&decide (e.1<e.2)&&decide (e.2<n)&&(decide (i=0)||(decide (p.1<e.1)||decide (p.1=e.1)&&decide (p.2<e.2)))
def ZB (n:Int)(es:List (Int×Int)):Bool:=
 decide (0≤n)&&decide (n≤4096)&&decide (es.length≤65536)&&(List.range es.length).all (J7 n es)
theorem Z4 {n:Int}{es:List (Int×Int)}{i:Nat}(hi:i<es.length)(h:J7 n es i=false):ZB n es=false:=by
 have:(List.range es.length).all (J7 n es)=false:=by
  rw[Bool.eq_false_iff]
  intro h1
  rw[List.all_eq_true] at h1
  have:=h1 i (List.mem_range.2 hi)
  rw[h] at this;cases this
 simp[ZB,this]
theorem yn {n:Int}{es:List (Int×Int)}(h0:0≤n)(h1:n≤4096)(h2:es.length≤65536)(h:∀i,i<es.length→J7 n es i=true):ZB n es=true:=by
 simp only[ZB,Bool.and_eq_true,decide_eq_true_eq,List.all_eq_true,List.mem_range]
 exact⟨⟨⟨h0,h1⟩,h2⟩,h⟩
theorem Qb {α:Type}{R:α→α→Prop}(ht:∀a b c,R a b→R b c→R a c):∀{l:List α},(∀i a b,l[i]?=some a→l[i+1]?=some b→R a b)→l.Pairwise R
 |[],_=> .nil
 |[a],_=>by simp
 | a::b::l,h=>by
   have ih:(b::l).Pairwise R:=Qb ht fun i x y hx hy=>h (i+1) x y hx hy
   have hab:R a b:=h 0 a b rfl rfl
   refine List.Pairwise.cons ?_ ih
   intro c hc
   cases hc with
   |head=>exact hab
   |tail _ hc=>exact ht a b c hab (List.rel_of_pairwise_cons ih hc)
theorem qJ (a b c:Nat×Nat)(h1:ZZ a b)(h2:ZZ b c):ZZ a c:=by
 unfold ZZ at*;omega
theorem QR (a:Nat×Nat):¬ZZ a a:=by unfold ZZ;omega
theorem zbS (es:Es)(i:Nat):(zP es).getD i (0,0)=(((es.getD i (0,0)).1:Int),((es.getD i (0,0)).2:Int)):=by
 simp only[zP,List.getD_eq_getElem?_getD,List.getElem?_map]
 cases es[i]?<;>rfl
theorem vn (n:Nat)(es:Es)(i:Nat):J7 (n:Int) (zP es) i=true↔
    (es.getD i (0,0)).1<(es.getD i (0,0)).2∧(es.getD i (0,0)).2<n∧(i=0∨ZZ (es.getD (i - 1) (0,0)) (es.getD i (0,0))):=by
  simp only[J7,zbS,ZZ,Bool.and_eq_true,Bool.or_eq_true,decide_eq_true_eq]
  omega
theorem Jk {n:Nat}{es:Es}(g:GR n es):ZB n (zP es)=true:=by
 refine yn (by omega) (by have:=g.hn;omega) (by rw[zx];exact g.hm) fun i hi=>?_
 rw[zx] at hi
 rw[vn]
 have hmem:es.getD i (0,0)∈es:=by
  rw[List.getD_eq_getElem?_getD,List.getElem?_eq_getElem hi];exact List.getElem_mem hi
 have h1:=g.ok _ hmem
 refine⟨h1.1,h1.2,?_⟩
 cases i with
 |zero=>exact .inl rfl
 | succ i=>
   right
   have:=List.pairwise_iff_getElem.1 g.up i (i+1) (by omega) hi (by omega)
   simpa[List.getD_eq_getElem?_getD,List.getElem?_eq_getElem hi,List.getElem?_eq_getElem (show i<es.length by omega)] using this
theorem zep {n:Nat}{es:Es}(h:ZB n (zP es)=true):GR n es:=by
 simp only[ZB,Bool.and_eq_true,decide_eq_true_eq,List.all_eq_true,List.mem_range,zx] at h
 obtain⟨⟨⟨_,h1⟩,h2⟩,h3⟩:=h
 have h4:∀i,i<es.length→(es.getD i (0,0)).1<(es.getD i (0,0)).2∧(es.getD i (0,0)).2<n∧(i=0∨ZZ (es.getD (i - 1) (0,0)) (es.getD i (0,0))):=
  fun i hi=>(vn n es i).1 (h3 i hi)
 refine⟨by omega,h2,?_,?_⟩
 · intro e he
   obtain⟨i,hi,rfl⟩:=List.mem_iff_getElem.1 he
   have:=h4 i hi
   rw[List.getD_eq_getElem?_getD,List.getElem?_eq_getElem hi] at this
   exact⟨this.1,this.2.1⟩
 · refine Qb qJ fun i a b ha hb=>?_
   have hi:i+1<es.length:=(List.getElem?_eq_some_iff.1 hb).1
   have:=(h4 (i+1) hi).2.2
   rw[List.getD_eq_getElem?_getD,List.getD_eq_getElem?_getD,hb,Nat.add_sub_cancel,ha] at this
   exact this.resolve_left (by omega)
theorem GR.nodup {n:Nat}{es:Es}(g:GR n es):es.Nodup:=g.up.imp fun{a b} h e=>by subst e;exact QR _ h
def Wh (l:Es)(e:Nat×Nat):Es:=(l.filter fun x=>decide (ZZ x e))++e::(l.filter fun x=> !decide (ZZ x e))
theorem zfg {l:Es}{e x:Nat×Nat}:x∈Wh l e↔x=e∨x∈l:=by
 simp only[Wh,List.mem_append,List.mem_filter,List.mem_cons]
 by_cases h:ZZ x e<;>simp[h]
 constructor
 · rintro(h|h)
   · exact .inr h
   · exact .inl h
 · rintro(rfl|h)
   · exact absurd h (QR _)
   · exact .inl h
theorem Xe (l:Es)(e:Nat×Nat):(Wh l e).length=l.length+1:=by
 have:∀(p:Nat×Nat→Bool),(l.filter p).length+(l.filter fun x=> !p x).length=l.length:=by
  intro p
  induction l with
  |nil=>rfl
  | cons a l ih=>
    cases h:p a<;>simp[h]<;>omega
 simp only[Wh,List.length_append,List.length_cons]
 have:=this fun x=>decide (ZZ x e)
 omega
theorem GR.put {n:Nat}{es:Es}(g:GR n es){e:Nat×Nat}(h1:e.1<e.2)(h2:e.2<n)(h3:e∉es)(h4:es.length<65536):GR n (Wh es e):=by
 refine⟨g.hn,by rw[Xe];omega,?_,?_⟩
 · intro x hx
   rcases zfg.1 hx with rfl|hx
   · exact⟨h1,h2⟩
   · exact g.ok x hx
 · refine List.pairwise_append.2 ⟨g.up.filter _,List.pairwise_cons.2 ⟨?_,g.up.filter _⟩,?_⟩
   · intro x hx
     simp only[List.mem_filter,Bool.not_eq_true',decide_eq_false_iff_not] at hx
     have:x≠e:=fun h=>h3 (h▸hx.1)
     have h5:¬(x.1=e.1∧x.2=e.2):=fun h=>this (Prod.ext h.1 h.2)
     have h6:=hx.2
     unfold ZZ at*
     omega
   · intro x hx y hy
     simp only[List.mem_filter,decide_eq_true_eq] at hx
     have hxe:ZZ x e:=hx.2
     simp only[List.mem_cons,List.mem_filter,Bool.not_eq_true',decide_eq_false_iff_not] at hy
     rcases hy with rfl|hy
     · exact hxe
     · refine qJ _ e _ hxe ?_
       have:y≠e:=fun h=>h3 (h▸hy.1)
       have h5:¬(y.1=e.1∧y.2=e.2):=fun h=>this (Prod.ext h.1 h.2)
       have h6:=hy.2
       unfold ZZ at*
       omega
theorem zbu {l:Es}{e:Nat×Nat}{k:Nat}(hk:k≤l.length)(h1:∀x∈l.take k,ZZ x e)(h2:∀x∈l.drop k,¬ZZ x e):l.take k++e::l.drop k=Wh l e:=by
 unfold Wh
 have e1:(l.filter fun x=>decide (ZZ x e))=l.take k:=by
  conv=>lhs;rw[←List.take_append_drop k l]
  rw[List.filter_append,List.filter_eq_self.2 fun x hx=>decide_eq_true (h1 x hx),List.filter_eq_nil_iff.2 fun x hx=>by simpa using h2 x hx,List.append_nil]
 have e2:(l.filter fun x=> !decide (ZZ x e))=l.drop k:=by
  conv=>lhs;rw[←List.take_append_drop k l]
  rw[List.filter_append,List.filter_eq_nil_iff.2 fun x hx=>by simpa using h1 x hx,List.filter_eq_self.2 fun x hx=>by simpa using h2 x hx,List.nil_append]
 rw[e1,e2]
def ZU (es:Es)(v:Nat):List Nat:=(es.filter fun e=>decide (e.2=v)).map (·.1)
def Z9 (es:Es)(v:Nat):List Nat:=(es.filter fun e=>decide (e.1=v)).map (·.2)
def zZ (es:Es)(v:Nat):List Nat:=ZU es v++Z9 es v
def J1 (n:Nat)(es:Es):List (List Nat):=(List.range n).map (zZ es)
def Zp (es:Es)(a b:Nat):Prop:=(a,b)∈es∨(b,a)∈es
theorem Ut {es:Es}{a b:Nat}(h:Zp es a b):Zp es b a:=h.symm
theorem JL {es:Es}{v w:Nat}:w∈zZ es v↔Zp es v w:=by
 simp only[zZ,ZU,Z9,List.mem_append,List.mem_map,List.mem_filter,decide_eq_true_eq,Zp]
 constructor
 · rintro(⟨⟨a,b⟩,⟨h,h1⟩,h2⟩|⟨⟨a,b⟩,⟨h,h1⟩,h2⟩)
   · right;simp at h1 h2;subst h1 h2;exact h
   · left;simp at h1 h2;subst h1 h2;exact h
 · rintro(h|h)
   · exact .inr ⟨(v,w),⟨h,rfl⟩,rfl⟩
   · exact .inl ⟨(w,v),⟨h,rfl⟩,rfl⟩
theorem jM (n:Nat)(es:Es):(J1 n es).length=n:=by simp[J1]
theorem Xo {n:Nat}{es:Es}{v:Nat}(h:v<n):(J1 n es)[v]?=some (zZ es v):=by simp[J1,h]
def zaX (es:Es)(O:Nat→Prop)(f:Nat→Nat):Prop:=∀a b,Zp es a b→¬O a→¬O b→f a=f b
structure ZX (n:Nat)(es:Es)(O:Nat→Prop)(ps:List (List Nat)):Prop where
 mem:∀v,(∃p∈ps,v∈p)↔v<n∧¬O v
 ne:∀p∈ps,p≠ []
 inc:∀p∈ps,p.Pairwise (· < ·)
 heads:ps.Pairwise fun p q=>∀a∈p.head?,∀b∈q.head?,a<b
 disj:ps.Pairwise fun p q=>∀v∈p,v∉q
 edge:∀p∈ps,∀a∈p,∀b,Zp es a b→b<n→¬O b→b∈p
 conn:∀p∈ps,∀f,zaX es O f→∀a∈p,∀b∈p,f a=f b
theorem zcB :∀{p q:List Nat},p.Pairwise (· < ·)→q.Pairwise (· < ·)→(∀x,x∈p↔x∈q)→p=q
 |[],[],_,_,_=>rfl
 |[],b::q,_,_,h=>by have:=(h b).2 (List.mem_cons_self ..);cases this
 |a::p,[],_,_,h=>by have:=(h a).1 (List.mem_cons_self ..);cases this
 | a ::p,b::q,hp,hq,h=>by
   have hp':=List.pairwise_cons.1 hp
   have hq':=List.pairwise_cons.1 hq
   have hab:a=b:=by
    rcases List.mem_cons.1 ((h a).1 (List.mem_cons_self ..)) with e|e
    · exact e
    · rcases List.mem_cons.1 ((h b).2 (List.mem_cons_self ..)) with e'|e'
      · exact e'.symm
      · have:=hq'.1 a e;have:=hp'.1 b e';omega
   subst hab
   rw[zcB hp'.2 hq'.2 fun x=>?_]
   constructor
   · intro hx
     rcases List.mem_cons.1 ((h x).1 (List.mem_cons_of_mem _ hx)) with e|e
     · subst e;exact absurd (hp'.1 x hx) (by omega)
     · exact e
   · intro hx
     rcases List.mem_cons.1 ((h x).2 (List.mem_cons_of_mem _ hx)) with e|e
     · subst e;exact absurd (hq'.1 x hx) (by omega)
     · exact e
theorem vE :∀{ps qs:List (List Nat)},(∀p∈ps,p≠ [])→(∀q∈qs,q≠ [])→
    (ps.Pairwise fun p q=>∀a∈p.head?,∀b∈q.head?,a<b)→(qs.Pairwise fun p q=>∀a∈p.head?,∀b∈q.head?,a<b)→(∀p,p∈ps↔p∈qs)→ps=qs
  |[],[],_,_,_,_,_=>rfl
  |[],b::q,_,_,_,_,h=>by have:=(h b).2 (List.mem_cons_self ..);cases this
  |a::p,[],_,_,_,_,h=>by have:=(h a).1 (List.mem_cons_self ..);cases this
  | a ::p,b::q,n1,n2,hp,hq,h=>by
    have hp':=List.pairwise_cons.1 hp
    have hq':=List.pairwise_cons.1 hq
    have key:∀(x y:List Nat),x≠ []→y≠ []→(∀a∈x.head?,∀b∈y.head?,a<b)→(∀a∈y.head?,∀b∈x.head?,a<b)→False:=by
      intro x y hx hy h1 h2
      cases x with
      |nil=>exact hx rfl
      | cons u x=>cases y with
        |nil=>exact hy rfl
        |cons w y=>have:=h1 u rfl w rfl;have:=h2 w rfl u rfl;omega
    have hab:a=b:=by
      rcases List.mem_cons.1 ((h a).1 (List.mem_cons_self ..)) with e|e
      · exact e
      · rcases List.mem_cons.1 ((h b).2 (List.mem_cons_self ..)) with e'|e'
        · exact e'.symm
        · exact(key a b (n1 a (List.mem_cons_self ..)) (n2 b (List.mem_cons_self ..)) (hp'.1 b e') (hq'.1 a e)).elim
    subst hab
    have self:∀x,x≠ []→¬(∀u∈x.head?,∀w∈x.head?,u<w):=fun x hx h1=>key x x hx hx h1 h1
    rw[vE (fun p hp=>n1 p (List.mem_cons_of_mem _ hp)) (fun p hp=>n2 p (List.mem_cons_of_mem _ hp)) hp'.2 hq'.2 fun x=>?_]
    constructor
    · intro hx
      rcases List.mem_cons.1 ((h x).1 (List.mem_cons_of_mem _ hx)) with e|e
      · subst e;exact(self x (n1 x (List.mem_cons_self ..)) (hp'.1 x hx)).elim
      · exact e
    · intro hx
      rcases List.mem_cons.1 ((h x).2 (List.mem_cons_of_mem _ hx)) with e|e
      · subst e;exact(self x (n1 x (List.mem_cons_self ..)) (hq'.1 x hx)).elim
      · exact e
open Classical in
theorem Xi {n:Nat}{es:Es}{O:Nat→Prop}{ps qs:List (List Nat)}(hes:∀a b,Zp es a b→a<n∧b<n)(P:ZX n es O ps)(Q:ZX n es O qs){p:List Nat}(hp:p∈ps){q:List Nat}(hq:q∈qs){v:Nat}(h1:v∈p)(h2:v∈q):∀x∈p,x∈q:=by
 intro x hx
 have hfl:zaX es O (fun x=>if x∈q then 1 else 0):=by
  intro a b hab ha hb
  have hl:=hes a b hab
  by_cases h:a∈q
  · simp[h,Q.edge q hq a h b hab hl.2 hb]
  · have:b∉q:=fun h'=>h (Q.edge q hq b h' a (Ut hab) hl.1 ha)
    simp[h,this]
 have:=P.conn p hp _ hfl v h1 x hx
 simp only[h2,if_true] at this
 by_cases h:x∈q
 · exact h
 · simp[h] at this
theorem ZX.unique {n:Nat}{es:Es}{O:Nat→Prop}{ps qs:List (List Nat)}(hes:∀a b,Zp es a b→a<n∧b<n)(P:ZX n es O ps)(Q:ZX n es O qs):ps=qs:=by
 have half:∀{ps qs:List (List Nat)},ZX n es O ps→ZX n es O qs→∀p∈ps,p∈qs:=by
  intro ps qs P Q p hp
  obtain⟨v,hv⟩:=List.exists_mem_of_ne_nil p (P.ne p hp)
  obtain⟨q,hq,hvq⟩:=(Q.mem v).2 ((P.mem v).1 ⟨p,hp,hv⟩)
  rw[zcB (P.inc p hp) (Q.inc q hq) fun x=>⟨Xi hes P Q hp hq hv hvq x,Xi hes Q P hq hp hvq hv x⟩]
  exact hq
 exact vE P.ne Q.ne P.heads Q.heads fun p=>⟨half P Q p,half Q P p⟩
theorem GR.adj_lt {n:Nat}{es:Es}(g:GR n es):∀a b,Zp es a b→a<n∧b<n:=by
 intro a b h
 rcases h with h|h
 · obtain⟨h1,h2⟩:=g.ok _ h;simp only at h1 h2;exact⟨by omega,h2⟩
 · obtain⟨h1,h2⟩:=g.ok _ h;simp only at h1 h2;exact⟨h2,by omega⟩
theorem vk {n:Nat}{es:Es}{O:Nat→Prop}{ps:List (List Nat)}(P:ZX n es O ps){p:List Nat}(hp:p∈ps):p.length≤n:=by
 have:=(List.pairwise_iff_getElem.1 (P.inc p hp))
 have key:∀(m:Nat) (q:List Nat),q.Pairwise (· < ·)→(∀x∈q,m≤x∧x<n)→q.length≤n - m:=by
  intro m q
  induction q generalizing m with
  |nil=>intro _ _;exact Nat.zero_le _
  | cons a q ih=>
    intro h1 h2
    have h1':=List.pairwise_cons.1 h1
    have ha:=h2 a (List.mem_cons_self ..)
    have:=ih (a+1) h1'.2 fun x hx=>⟨h1'.1 x hx,(h2 x (List.mem_cons_of_mem _ hx)).2⟩
    simp only[List.length_cons];omega
 have:=key 0 p (P.inc p hp) fun x hx=>⟨Nat.zero_le _,((P.mem x).1 ⟨p,hp,hx⟩).1⟩
 omega
theorem Xj {n:Nat}{es:Es}{O:Nat→Prop}{ps:List (List Nat)}(P:ZX n es O ps):ps.length≤n:=by
 have h:(ps.map fun p=>p.headD 0).Pairwise (· < ·):=by
  refine List.pairwise_map.2 (P.heads.imp_of_mem fun{p q} hp hq h=>?_)
  have h1:=P.ne p hp;have h2:=P.ne q hq
  cases p with
  |nil=>exact absurd rfl h1
  | cons a p=>cases q with
    |nil=>exact absurd rfl h2
    |cons b q=>exact h a rfl b rfl
 have h2:∀x∈ps.map fun p=>p.headD 0,x<n:=by
  intro x hx
  obtain⟨p,hp,rfl⟩:=List.mem_map.1 hx
  cases p with
  |nil=>exact absurd rfl (P.ne _ hp)
  |cons a p=>exact((P.mem a).1 ⟨_,hp,List.mem_cons_self ..⟩).1
 have key:∀(m:Nat) (q:List Nat),q.Pairwise (· < ·)→(∀x∈q,m≤x∧x<n)→q.length≤n - m:=by
  intro m q
  induction q generalizing m with
  |nil=>intro _ _;exact Nat.zero_le _
  | cons a q ih=>
    intro h1 h2
    have h1':=List.pairwise_cons.1 h1
    have ha:=h2 a (List.mem_cons_self ..)
    have:=ih (a+1) h1'.2 fun x hx=>⟨h1'.1 x hx,(h2 x (List.mem_cons_of_mem _ hx)).2⟩
    simp only[List.length_cons];omega
 have:=key 0 _ h fun x hx=>⟨Nat.zero_le _,h2 x hx⟩
 simpa using this
abbrev DS :=List Bool×List Nat×List Nat
def come (s:DS)(v:Nat):DS:=if s.1.getD v false=true then s else(s.1.set v true,s.2.1++[v],s.2.2++[v])
def Jz (s:DS)(l:List Nat):DS:=l.foldl come s
theorem XX (s:DS)(l:List Nat)(k:Nat)(x:Nat)(h:l[k]?=some x):Jz s (l.take (k+1))=come (Jz s (l.take k)) x:=by
 rw[List.take_add_one,h]
 simp[Jz]
def JJ (d:List Bool):Nat:=(d.filter fun b=> !b).length
theorem wg (d:List Bool)(v x:Nat):(d.set v true).getD x false=true↔d.getD x false=true∨(x=v∧v<d.length):=by
 simp only[List.getD_eq_getElem?_getD,List.getElem?_set]
 by_cases h:v=x
 · subst h
   by_cases h2:v<d.length
   · simp[h2]
   · simp[h2]
 · simp[h,Ne.symm h]
theorem xN :∀(d:List Bool) (v:Nat),v<d.length→d.getD v false=false→JJ (d.set v true)+1=JJ d
 |[],v,h,_=>by simp at h
 | b::d,0,_,h=>by
   simp at h;subst h;simp[JJ]
 | b::d,v+1,h,h2=>by
   have:=xN d v (by simpa using h) (by simpa using h2)
   cases b<;>simp[JJ] at*<;>omega
structure WI (n:Nat)(es:Es)(D:List Bool)(v:Nat)(s:DS):Prop where
 len:s.1.length=n
 done:∀x,s.1.getD x false=true↔D.getD x false=true∨x∈s.2.1
 nd:s.2.1.Nodup
 now:∀x∈s.2.1,x<n∧D.getD x false=false
 rest:∀x∈s.2.2,x∈s.2.1
 rl:s.2.2.length≤s.2.1.length
 conn:∀f,zaX es (fun x=>D.getD x false=true) f→∀x∈s.2.1,f x=f v
theorem Z5 :∀{l m:List Nat},l.Nodup→(∀x∈l,x∈m)→l.length≤m.length
 |[],m,_,_=>Nat.zero_le _
 | a::l,m,h,hm=>by
   have h':=List.pairwise_cons.1 h
   have ha:=hm a (List.mem_cons_self ..)
   have:=Z5 (l:=l) (m:=m.erase a) h'.2 fun x hx=>(List.mem_erase_of_ne fun e=>h'.1 x hx e.symm).2 (hm x (List.mem_cons_of_mem _ hx))
   rw[List.length_erase_of_mem ha] at this
   have:=List.length_pos_of_mem ha
   simp;omega
theorem WI.size {n:Nat}{es:Es}{D:List Bool}{v:Nat}{s:DS}(w:WI n es D v s):s.2.1.length≤n:=by
 have:=Z5 w.nd (m:=List.range n) fun x hx=>List.mem_range.2 (w.now x hx).1
 simpa using this
theorem WI.start {n:Nat}{es:Es}{D:List Bool}{v:Nat}(hD:D.length=n):WI n es D v (D,[],[]):=
 ⟨hD,fun x=>by simp,List.nodup_nil,fun x h=>by simp at h,fun x h=>by simp at h,Nat.le_refl _,fun f _ x h=>by simp at h⟩
theorem WI.come {n:Nat}{es:Es}{D:List Bool}{v:Nat}{s:DS}(w:WI n es D v s){x:Nat}(hx:x<n)(hc:x=v∨∃u∈s.2.1,Zp es u x):WI n es D v (come s x):=by
 unfold Gl.come
 split
 · exact w
 · rename_i h
   have hD:D.getD x false=false:=by
    cases e:D.getD x false with
    |false=>rfl
    |true=>exact absurd ((w.done x).2 (.inl e)) h
   have hn:x∉s.2.1:=fun e=>h ((w.done x).2 (.inr e))
   refine⟨by simpa using w.len,fun y=>?_,?_,?_,?_,by simp;exact w.rl,?_⟩
   · show(s.1.set x true).getD y false=true↔_
     rw[wg,w.done,w.len,List.mem_append,List.mem_singleton]
     constructor
     · rintro(h|h)
       · exact h.imp id .inl
       · exact .inr (.inr h.1)
     · rintro(h|h|h)
       · exact .inl (.inl h)
       · exact .inl (.inr h)
       · exact .inr ⟨h,hx⟩
   · exact List.nodup_append.2 ⟨w.nd,by simp,fun a ha b hb e=>by simp at hb;subst hb;subst e;exact hn ha⟩
   · intro y hy
     rcases List.mem_append.1 hy with hy|hy
     · exact w.now y hy
     · simp at hy;subst hy;exact⟨hx,hD⟩
   · intro y hy
     rcases List.mem_append.1 hy with hy|hy
     · exact List.mem_append_left _ (w.rest y hy)
     · exact List.mem_append_right _ hy
   · intro f hf y hy
     rcases List.mem_append.1 hy with hy|hy
     · exact w.conn f hf y hy
     · simp at hy;subst hy
       rcases hc with rfl|⟨u,hu,ha⟩
       · rfl
       · rw[←w.conn f hf u hu]
         have h1:=(w.now u hu).2
         exact(hf u y ha (by show¬(D.getD u false=true);rw[h1];simp) (by show¬(D.getD y false=true);rw[hD];simp)).symm
theorem vO {s:DS}{x y:Nat}(h:s.1.getD y false=true):(come s x).1.getD y false=true:=by
 unfold come
 split
 · exact h
 · exact(wg _ _ _).2 (.inl h)
theorem zee {s:DS}{x:Nat}(h:x<s.1.length):(come s x).1.getD x false=true:=by
 unfold come
 split
 · assumption
 · exact(wg _ _ _).2 (.inr ⟨rfl,h⟩)
theorem K6 {s:DS}{x y:Nat}(h:y∈s.2.1):y∈(come s x).2.1:=by
 unfold come
 split
 · exact h
 · exact List.mem_append_left _ h
theorem vN {s:DS}{x y:Nat}(h:y∈(come s x).2.1):y∈s.2.1∨y∈(come s x).2.2:=by
 unfold come at*
 split at h
 · rename_i h1;rw[if_pos h1];exact .inl h
 · rename_i h1;rw[if_neg h1]
   rcases List.mem_append.1 h with h|h
   · exact .inl h
   · exact .inr (List.mem_append_right _ h)
theorem zed {s:DS}{x y:Nat}(h:y∈s.2.2):y∈(come s x).2.2:=by
 unfold come
 split
 · exact h
 · exact List.mem_append_left _ h
theorem kS {s:DS}{x:Nat}(h:x<s.1.length):2*JJ (come s x).1+(come s x).2.2.length≤2*JJ s.1+s.2.2.length:=by
 unfold come
 split
 · exact Nat.le_refl _
 · rename_i h1
   have:=xN s.1 x h (by simpa using h1)
   simp only[List.length_append,List.length_singleton]
   omega
def zg1 (es:Es)(U:Nat→Prop)(s:DS):Prop:=∀x∈s.2.1,x∉s.2.2→¬U x→∀y,Zp es x y→s.1.getD y false=true
structure WJ (n:Nat)(es:Es)(D:List Bool)(v:Nat)(s:DS):Prop extends WI n es D v s where
 gone:zg1 es (fun _=>False) s
 self:v∈s.2.1
theorem K5 {n:Nat}{es:Es}(hes:∀a b,Zp es a b→a<n∧b<n){D:List Bool}{v u:Nat}{s:DS}(w:WI n es D v s)(hu:u∈s.2.1)(hg:zg1 es (fun x=>x=u) s):
    ∀k,k≤(zZ es u).length→
    WI n es D v (Jz s ((zZ es u).take k))∧u∈(Jz s ((zZ es u).take k)).2.1∧zg1 es (fun x=>x=u) (Jz s ((zZ es u).take k))∧
    (∀y∈(zZ es u).take k,(Jz s ((zZ es u).take k)).1.getD y false=true)∧
    2*JJ (Jz s ((zZ es u).take k)).1+(Jz s ((zZ es u).take k)).2.2.length≤2*JJ s.1+s.2.2.length∧(∀x∈s.2.1,x∈(Jz s ((zZ es u).take k)).2.1):=by
  intro k
  induction k with
  |zero=>intro _;simp only[List.take_zero,Jz,List.foldl_nil];exact⟨w,hu,hg,fun y hy=>by simp at hy,Nat.le_refl _,fun x h=>h⟩
  | succ k ih=>
    intro hk
    obtain⟨h1,h2,h3,h4,h5,h6⟩:=ih (by omega)
    have hx:(zZ es u)[k]?=some ((zZ es u)[k]'(by omega)):=List.getElem?_eq_getElem _
    generalize (zZ es u)[k]'(by omega)=x at hx
    have hax:Zp es u x:=JL.1 (List.mem_iff_getElem?.2 ⟨k,hx⟩)
    have hxn:=(hes u x hax).2
    rw[XX _ _ _ _ hx]
    refine⟨h1.come hxn (.inr ⟨u,h2,hax⟩),K6 h2,?_,?_,Nat.le_trans (kS (by rw[h1.len];exact hxn)) h5,fun x h=>K6 (h6 x h)⟩
    · intro y hy hr hne z hz
      rcases vN hy with hy|hy
      · exact vO (h3 y hy (fun e=>hr (zed e)) hne z hz)
      · exact absurd hy hr
    · intro y hy
      rw[List.take_add_one,hx] at hy
      rcases List.mem_append.1 hy with hy|hy
      · exact vO (h4 y hy)
      · simp at hy;subst hy;exact zee (by rw[h1.len];exact hxn)
theorem WJ.step {n:Nat}{es:Es}(hes:∀a b,Zp es a b→a<n∧b<n){D:List Bool}{v u:Nat}{d:List Bool}{nw r:List Nat}(w:WJ n es D v (d,nw,r++[u])):
    WJ n es D v (Jz (d,nw,r) (zZ es u))∧2*JJ (Jz (d,nw,r) (zZ es u)).1+(Jz (d,nw,r) (zZ es u)).2.2.length<2*JJ d+(r++[u]).length:=by
  have w1:WI n es D v (d,nw,r):=⟨w.len,w.done,w.nd,w.now,fun x h=>w.rest x (List.mem_append_left _ h),by have:=w.rl;simp at this⊢;omega,w.conn⟩
  have hu:u∈nw:=w.rest u (List.mem_append_right _ (List.mem_singleton.2 rfl))
  have hg:zg1 es (fun x=>x=u) (d,nw,r):=fun x hx hr hne y hy=>w.gone x hx (fun e=>by
    rcases List.mem_append.1 e with e|e
    · exact hr e
    · simp at e;exact hne e) (fun e=>e) y hy
  obtain⟨h1,h2,h3,h4,h5,h6⟩:=K5 hes w1 hu hg (zZ es u).length (Nat.le_refl _)
  rw[List.take_length] at*
  refine⟨⟨h1,fun x hx hr _ y hy=>?_,h6 v w.self⟩,by simp at h5⊢;omega⟩
  by_cases e:x=u
  · subst e;exact h4 y (JL.2 hy)
  · exact h3 x hx hr e y hy
theorem WJ.start {n:Nat}{es:Es}{D:List Bool}{v:Nat}(hD:D.length=n)(hv:v<n)(h0:D.getD v false=false):WJ n es D v (come (D,[],[]) v):=by
 refine⟨(WI.start hD).come hv (.inl rfl),?_,?_⟩
 · intro x hx hr _ y _
   rcases vN hx with h|h
   · simp at h
   · exact absurd h hr
 · have:¬D.getD v false=true:=by rw[h0];simp
   unfold come;rw[if_neg this];simp
structure kY (n:Nat)(es:Es)(D:List Bool)(v:Nat)(D':List Bool)(p:List Nat):Prop where
 len:D'.length=n
 done:∀x,D'.getD x false=true↔D.getD x false=true∨x∈p
 inc:p.Pairwise (· < ·)
 mem:∀x∈p,x<n∧D.getD x false=false
 self:v∈p
 closed:∀x∈p,∀y,Zp es x y→D'.getD y false=true
 conn:∀f,zaX es (fun x=>D.getD x false=true) f→∀x∈p,f x=f v
theorem WJ.piece {n:Nat}{es:Es}{D:List Bool}{v:Nat}{d:List Bool}{nw p:List Nat}(w:WJ n es D v (d,nw,[]))(hp:p.Perm nw)(hs:p.Pairwise (· ≤ ·)):kY n es D v d p where
 len:=w.len
 done x:=by rw[w.done,hp.mem_iff]
 inc:=by
  have nd:p.Nodup:=hp.nodup_iff.2 w.nd
  refine(hs.and nd).imp fun{a b} h=>?_
  have:=h.1;have:=h.2;omega
 mem x hx:=w.now x (hp.mem_iff.1 hx)
 self:=hp.mem_iff.2 w.self
 closed x hx y hy:=w.gone x (hp.mem_iff.1 hx) (by simp) (fun e=>e) y hy
 conn f hf x hx:=w.conn f hf x (hp.mem_iff.1 hx)
structure OI (n:Nat)(es:Es)(O:Nat→Prop)(v:Nat)(D:List Bool)(ps:List (List Nat)):Prop where
 len:D.length=n
 done:∀x,x<n→(D.getD x false=true↔O x∨∃p∈ps,x∈p)
 out:∀p∈ps,∀x∈p,x<n∧¬O x
 before:∀x,x<v→x<n→D.getD x false=true
 ne:∀p∈ps,p≠ []
 inc:∀p∈ps,p.Pairwise (· < ·)
 low:∀p∈ps,∀a∈p.head?,a<v
 heads:ps.Pairwise fun p q=>∀a∈p.head?,∀b∈q.head?,a<b
 disj:ps.Pairwise fun p q=>∀v∈p,v∉q
 edge:∀p∈ps,∀a∈p,∀b,Zp es a b→b<n→¬O b→b∈p
 conn:∀p∈ps,∀f,zaX es O f→∀a∈p,∀b∈p,f a=f b
theorem OI.start {n:Nat}{es:Es}{O:Nat→Prop}{D:List Bool}(hD:D.length=n)(h:∀x,x<n→(D.getD x false=true↔O x)):OI n es O 0 D []:=
 ⟨hD,fun x hx=>by rw[h x hx];simp,fun p hp=>by simp at hp,fun x hx=>by omega,fun p hp=>by simp at hp,fun p hp=>by simp at hp,fun p hp=>by simp at hp,.nil,.nil,fun p hp=>by simp at hp,fun p hp=>by simp at hp⟩
theorem OI.skip {n:Nat}{es:Es}{O:Nat→Prop}{v:Nat}{D:List Bool}{ps:List (List Nat)}(w:OI n es O v D ps)(h:D.getD v false=true):OI n es O (v+1) D ps:=
 { w with
  before:=fun x hx hn=>by
   rcases Nat.lt_or_ge x v with h1|h1
   · exact w.before x h1 hn
   · have:x=v:=by omega
     subst this;exact h
  low:=fun p hp a ha=>Nat.lt_succ_of_lt (w.low p hp a ha)}
theorem OI.take {n:Nat}{es:Es}(hes:∀a b,Zp es a b→a<n∧b<n){O:Nat→Prop}{v:Nat}{D D':List Bool}{ps:List (List Nat)}{p:List Nat}(w:OI n es O v D ps)(hp:kY n es D v D' p):OI n es O (v+1) D' (ps++[p]):=by
 have hO:∀x∈p,¬O x:=fun x hx ho=>by
  have h1:=hp.mem x hx
  have:=(w.done x h1.1).2 (.inl ho)
  rw[h1.2] at this;cases this
 have hsep:∀q∈ps,∀x∈q,x∉p:=fun q hq x hx hxp=>by
  have h1:=hp.mem x hxp
  have:=(w.done x h1.1).2 (.inr ⟨q,hq,hx⟩)
  rw[h1.2] at this;cases this
 have hmin:∀x∈p,v≤x:=fun x hx=>by
  rcases Nat.lt_or_ge x v with h|h
  · have h1:=hp.mem x hx
    have:=w.before x h h1.1
    rw[h1.2] at this;cases this
  · exact h
 have hhead:∀a∈p.head?,a=v:=by
  intro a ha
  cases p with
  |nil=>cases ha
  | cons b p=>
    have e0:b=a:=by simpa using ha
    subst e0
    have h1:=hmin b (List.mem_cons_self ..)
    rcases List.mem_cons.1 hp.self with e|e
    · exact e.symm
    · have:=(List.pairwise_cons.1 hp.inc).1 v e;omega
 refine⟨hp.len,fun x hx=>?_,?_,fun x hx hn=>?_,?_,?_,?_,?_,?_,?_,?_⟩
 · rw[hp.done,w.done x hx]
   simp only[List.mem_append,List.mem_singleton]
   constructor
   · rintro((h|⟨q,h1,h2⟩)|h)
     · exact .inl h
     · exact .inr ⟨q,.inl h1,h2⟩
     · exact .inr ⟨p,.inr rfl,h⟩
   · rintro(h|⟨q,h1|h1,h2⟩)
     · exact .inl (.inl h)
     · exact .inl (.inr ⟨q,h1,h2⟩)
     · subst h1;exact .inr h2
 · intro q hq x hx
   rcases List.mem_append.1 hq with hq|hq
   · exact w.out q hq x hx
   · simp at hq;subst hq;exact⟨(hp.mem x hx).1,hO x hx⟩
 · rw[hp.done]
   rcases Nat.lt_or_ge x v with h1|h1
   · exact .inl (w.before x h1 hn)
   · have:x=v:=by omega
     subst this;exact .inr hp.self
 · intro q hq
   rcases List.mem_append.1 hq with hq|hq
   · exact w.ne q hq
   · simp at hq;subst hq;intro e;rw[e] at hp;exact absurd hp.self (by simp)
 · intro q hq
   rcases List.mem_append.1 hq with hq|hq
   · exact w.inc q hq
   · simp at hq;subst hq;exact hp.inc
 · intro q hq a ha
   rcases List.mem_append.1 hq with hq|hq
   · exact Nat.lt_succ_of_lt (w.low q hq a ha)
   · simp at hq;subst hq;rw[hhead a ha];omega
 · refine List.pairwise_append.2 ⟨w.heads,by simp,fun q hq r hr a ha b hb=>?_⟩
   simp at hr;subst hr
   rw[hhead b hb];exact w.low q hq a ha
 · refine List.pairwise_append.2 ⟨w.disj,by simp,fun q hq r hr x hx=>?_⟩
   simp at hr;subst hr
   exact hsep q hq x hx
 · intro q hq a ha b hab hb hob
   rcases List.mem_append.1 hq with hq|hq
   · exact w.edge q hq a ha b hab hb hob
   · simp at hq;subst hq
     rcases(hp.done b).1 (hp.closed a ha b hab) with h|h
     · rcases(w.done b hb).1 h with h|⟨q,hq,hbq⟩
       · exact absurd h hob
       · exact absurd ha (hsep q hq a (w.edge q hq b hbq a (Ut hab) (hp.mem a ha).1 (hO a ha)))
     · exact h
 · intro q hq f hf a ha b hb
   rcases List.mem_append.1 hq with hq|hq
   · exact w.conn q hq f hf a ha b hb
   · simp at hq;subst hq
     have hf':zaX es (fun x=>D.getD x false=true) f:=by
      intro x y hxy hx hy
      have hl:=hes x y hxy
      exact hf x y hxy (fun ho=>hx ((w.done x hl.1).2 (.inl ho))) fun ho=>hy ((w.done y hl.2).2 (.inl ho))
     rw[hp.conn f hf' a ha,hp.conn f hf' b hb]
theorem OI.pieces {n:Nat}{es:Es}{O:Nat→Prop}{D:List Bool}{ps:List (List Nat)}(w:OI n es O n D ps):ZX n es O ps where
 mem v:=by
  constructor
  · rintro⟨p,hp,hv⟩;exact w.out p hp v hv
  · rintro⟨h1,h2⟩
    rcases(w.done v h1).1 (w.before v h1 h1) with h|h
    · exact absurd h h2
    · exact h
 ne:=w.ne
 inc:=w.inc
 heads:=w.heads
 disj:=w.disj
 edge:=w.edge
 conn:=w.conn
end Go.Ga.Gl
set_option maxRecDepth 100000
set_option maxHeartbeats 4000000
namespace Go.Proofs.Ytkjppnofgmpeeaa
open Go Go.Ga Go.Ga.Gl
theorem KU (a:Int):zo Try.prog [] zit [.sc (.int .i64 a)] [] fun r h'=>r= .sc (.bool false)∧h'=[]:=by
 refine zkW rfl ?_
 unfold zjo UQ
 refine za fun KY hKY=>?_
 simp only[go_sem,Gd]
 apply hKY
 refine za fun KY hKY=>?_
 simp only[go_sem,Gc,ne_eq,not_true_eq_false]
 apply hKY
 refine zi ?_
 simp only[go_sem]
def UI (a b:Int):Int:=if a<b then -1 else if b<a then 1 else 0
theorem XW (a b:Int):zo Try.prog [] ziB [.sc (.int .i64 a),.sc (.int .i64 b)] [] fun r h'=>r= .sc (.int .i64 (UI a b))∧h'=[]:=by
 refine zk4 rfl ?_
 unfold zjw jo
 refine za fun KY hKY=>?_
 simp only[go_sem,pc]
 apply hKY
 refine za fun KY hKY=>?_
 simp only[go_sem,G9]
 refine zA rfl (by simp only[go_sem]<;>rfl) ((KU _).mono ?_)
 rintro rr hh ⟨rfl,rfl⟩
 refine⟨rfl,rfl,rfl,?_⟩
 simp only[go_sem]
 apply hKY
 refine za fun KY hKY=>?_
 simp only[go_sem,G8]
 refine zA rfl (by simp only[go_sem]<;>rfl) ((KU _).mono ?_)
 rintro rr hh ⟨rfl,rfl⟩
 refine⟨rfl,rfl,rfl,?_⟩
 simp only[go_sem]
 apply hKY
 refine zf fun X1 hn1 he1 hr1=>?_
 refine za fun KY hKY=>?_
 simp only[go_sem,G7]
 apply hKY
 refine Zy ?_
 refine zg ?_
 repeat (first|refine hn1 _ ?_|refine he1 _ _ ?_)
 refine zf fun X2 hn2 he2 hr2=>?_
 refine za fun KY hKY=>?_
 simp only[go_sem,G6]
 apply hKY
 refine Zy ?_
 refine zg ?_
 repeat (first|refine hn2 _ ?_|refine he2 _ _ ?_|refine hn1 _ ?_|refine he1 _ _ ?_)
 unfold UI
 refine zf fun X3 hn3 he3 hr3=>?_
 refine za fun KY hKY=>?_
 simp only[go_sem,G5]
 apply hKY
 by_cases h:a<b
 · refine Zs (by first|rfl|(simp only[go_sem,h];try simp(disch:=omega) only[decide_eq_true,decide_eq_false])) ?_
   refine za fun KY hKY=>?_
   simp only[go_sem,vY]
   apply hKY
   refine zi ?_
   repeat (first|refine hr3 _ ?_|refine hr2 _ ?_|refine hr1 _ ?_)
   simp only[go_sem,h]
 · refine Zo (by first|rfl|(simp only[go_sem,h];try simp(disch:=omega) only[decide_eq_true,decide_eq_false])) ?_
   refine zg ?_
   repeat (first|refine hn3 _ ?_|refine he3 _ _ ?_|refine hn2 _ ?_|refine he2 _ _ ?_|refine hn1 _ ?_|refine he1 _ _ ?_)
   refine zf fun X4 hn4 he4 hr4=>?_
   refine za fun KY hKY=>?_
   simp only[go_sem,vX]
   apply hKY
   by_cases h2:b<a
   · refine Zs (by first|rfl|(simp only[go_sem,h2];try simp(disch:=omega) only[decide_eq_true,decide_eq_false])) ?_
     refine za fun KY hKY=>?_
     simp only[go_sem,vW]
     apply hKY
     refine zi ?_
     repeat (first|refine hr4 _ ?_|refine hr3 _ ?_|refine hr2 _ ?_|refine hr1 _ ?_)
     simp only[go_sem,h,h2]
   · refine Zo (by first|rfl|(simp only[go_sem,h2];try simp(disch:=omega) only[decide_eq_true,decide_eq_false])) ?_
     refine zg ?_
     repeat (first|refine hn4 _ ?_|refine he4 _ _ ?_|refine hn3 _ ?_|refine he3 _ _ ?_|refine hn2 _ ?_|refine he2 _ _ ?_|refine hn1 _ ?_|refine he1 _ _ ?_)
     refine za fun KY hKY=>?_
     simp only[go_sem,vV]
     apply hKY
     refine zi ?_
     repeat (first|refine hr4 _ ?_|refine hr3 _ ?_|refine hr2 _ ?_|refine hr1 _ ?_)
     simp only[go_sem,h,h2]
theorem XR :∀{l:List Int} {k:Nat},k<l.length→l.getD k 0≠0→(∀j,j<k→l.getD j 0=0)→l.find? (· ≠0)=some (l.getD k 0)
 |[],k,h,_,_=>by simp at h
 | a::l,0,_,h,_=>by
   have:a≠0:=by simpa using h
   simp[List.find?,this]
 | a::l,k+1,h,h2,hz=>by
   have h0:a=0:=by simpa using hz 0 (by omega)
   subst h0
   have ih:=XR (l:=l) (k:=k) (by simpa using h) (by simpa using h2) fun j hj=>by simpa using hz (j+1) (by omega)
   simp only[List.find?,ne_eq,not_true_eq_false,decide_false]
   simpa using ih
theorem vJ :∀{l:List Int},(∀j,j<l.length→l.getD j 0=0)→l.find? (· ≠0)=none
 |[],_=>rfl
 | a::l,hz=>by
   have h0:a=0:=by simpa using hz 0 (by simp)
   subst h0
   have ih:=vJ (l:=l) fun j hj=>by simpa using hz (j+1) (by simp;omega)
   simp only[List.find?,ne_eq,not_true_eq_false,decide_false]
   simpa using ih
theorem zl8 (l:List Int)(hl:l.length≤1000):zo Try.prog [] ziC [.imm 1 (zj l)] [] fun r h'=>r= .sc (.int .i64 ((l.find? (· ≠0)).getD 0))∧h'=[]:=by
 refine zk5 rfl ?_
 unfold zjx JP
 refine za fun KY hKY=>?_
 simp only[go_sem,pn]
 apply hKY
 refine za fun KY hKY=>?_
 simp only[go_sem,pm]
 apply hKY
 refine zf fun X1 hn1 he1 hr1=>?_
 refine za fun KY hKY=>?_
 simp only[go_sem,pj]
 apply hKY
 refine zm fun X2 hn2 he2 hf2 hr2=>?_
 try simp only[go_sem]
 refine zU (α:=Nat) [5,9,14] (fun k=>[(8,.sc (.int .i64 (k:Int)))]) (fun k=>[]) (fun k q=>k≤l.length∧q=l.length - k∧∀j,j<k→l.getD j 0=0) (0) (l.length) rfl (by first|(simp only[go_sem,zd,ze];done)|with_reducible rfl|rfl) (⟨by omega,rfl,fun j h=>by omega⟩) ?_
 rintro k q ⟨hk,rfl,hz⟩ X3 hn3 he3 hr3
 simp only[go_sem,zd,ze]
 refine za fun KY hKY=>?_
 simp only[go_sem,pi]
 apply hKY
 refine zf fun X4 hn4 he4 hr4=>?_
 by_cases h:k<l.length
 · refine ZL ?_
   refine zg ?_
   repeat (first|refine hn4 _ ?_|refine he4 _ _ ?_|refine he3 _ _ ?_|refine hn2 _ ?_|refine he2 _ ?_|refine hf2 _ _ (by decide) ?_|refine hn1 _ ?_|refine he1 _ _ ?_)
   refine zf fun X5 hn5 he5 hr5=>?_
   refine zm fun X6 hn6 he6 hf6 hr6=>?_
   refine za fun KY hKY=>?_
   simp only[go_sem,ph]
   repeat (simp(disch:=omega) only[if_pos,if_neg,decide_eq_true,decide_eq_false,zL,zv,zh];try simp only[go_sem])
   apply hKY
   refine za fun KY hKY=>?_
   simp only[go_sem,pg]
   apply hKY
   by_cases h2:l.getD k 0=0
   · refine Zo (by first|rfl|(simp only[go_sem,h2,ne_eq,not_true_eq_false];try simp(disch:=omega) only[decide_eq_true,decide_eq_false])) ?_
     refine zg ?_
     repeat (first|refine hn6 _ ?_|refine he6 _ ?_|refine hf6 _ _ (by decide) ?_|refine hn5 _ ?_|refine he5 _ _ ?_|refine hn4 _ ?_|refine he4 _ _ ?_|refine he3 _ _ ?_|refine hn2 _ ?_|refine he2 _ ?_|refine hf2 _ _ (by decide) ?_|refine hn1 _ ?_|refine he1 _ _ ?_)
     refine zk fun KY hKY=>?_
     simp only[go_sem,pe]
     repeat (simp(disch:=omega) only[if_pos,if_neg,decide_eq_true,decide_eq_false,zL,zv,zh];try simp only[go_sem])
     apply hKY
     repeat (first|refine hn6 _ ?_|refine he6 _ ?_|refine hf6 _ _ (by decide) ?_|refine hn5 _ ?_|refine he5 _ _ ?_|refine hn4 _ ?_|refine he4 _ _ ?_)
     refine hn3 _ (k+1) (l.length - (k+1)) (by omega) (by first|(simp only[go_sem,zd,ze];done)|with_reducible rfl|rfl) ?_
     refine⟨h,rfl,fun j hj=>?_⟩
     rcases Nat.lt_or_ge j k with h3|h3
     · exact hz j h3
     · have:j=k:=by omega
       subst this;exact h2
   · refine Zs (by first|rfl|(simp only[go_sem,h2,ne_eq,not_false_eq_true];try simp(disch:=omega) only[decide_eq_true,decide_eq_false])) ?_
     refine za fun KY hKY=>?_
     simp only[go_sem,pf]
     apply hKY
     refine zi ?_
     repeat (first|refine hr6 _ ?_|refine hr5 _ ?_|refine hr4 _ ?_|refine hr3 _ ?_|refine hr2 _ ?_|refine hr1 _ ?_)
     simp only[go_sem]
     rw[XR h h2 hz]
     rfl
 · refine Zy ?_
   refine zy ?_
   repeat (first|refine hn4 _ ?_|refine he4 _ _ ?_|refine he3 _ _ ?_|refine hn2 _ ?_|refine he2 _ ?_|refine hf2 _ _ (by decide) ?_|refine hn1 _ ?_|refine he1 _ _ ?_)
   refine za fun KY hKY=>?_
   simp only[go_sem,pd]
   apply hKY
   refine zi ?_
   repeat (first|refine hr4 _ ?_|refine hr3 _ ?_|refine hr2 _ ?_|refine hr1 _ ?_)
   simp only[go_sem]
   have:k=l.length:=by omega
   subst this
   rw[vJ hz]
   rfl
theorem Wb (a b:Int):two (a,b)=[.sc (.int .i64 a),.sc (.int .i64 b)]:=rfl
def zgh (a b:Int×Int):Int:=if UI a.1 b.1≠0 then UI a.1 b.1 else UI a.2 b.2
theorem zh5 (a b:Int×Int):zgh a b<0↔(a.1<b.1∨a.1=b.1∧a.2<b.2):=by
 unfold zgh UI
 repeat' split
 all_goals omega
theorem KD (a b:Int×Int):zo Try.prog [] ziJ [.agg [],.agg (two a),.agg (two b)] [] fun r h'=>r= .sc (.int .i64 (zgh a b))∧h'=[]:=by
 obtain⟨a1,a2⟩:=a
 obtain⟨b1,b2⟩:=b
 simp only[Wb]
 refine zle rfl ?_
 unfold zjG Kb
 refine za fun KY hKY=>?_
 simp only[go_sem,Pi]
 apply hKY
 refine zw fun KY hKY=>?_
 simp only[go_sem,Ph]
 refine zA rfl (by simp only[go_sem]<;>rfl) ((XW _ _).mono ?_)
 rintro rr hh ⟨rfl,rfl⟩
 refine⟨rfl,rfl,rfl,?_⟩
 simp only[go_sem]
 refine zA rfl (by simp only[go_sem]<;>rfl) ((XW _ _).mono ?_)
 rintro rr hh ⟨rfl,rfl⟩
 refine⟨rfl,rfl,rfl,?_⟩
 simp only[go_sem]
 refine zA rfl (by simp only[go_sem]<;>rfl) ((zl8 [UI a1 b1,UI a2 b2] (Nat.le_of_ble_eq_true rfl)).mono ?_)
 rintro rr hh ⟨rfl,rfl⟩
 refine⟨rfl,rfl,rfl,?_⟩
 simp only[go_sem]
 apply hKY
 refine zi ?_
 simp only[go_sem]
 unfold zgh
 by_cases h:UI a1 b1=0
 · by_cases h2:UI a2 b2=0
   · simp[h,h2]
   · simp[h,h2]
 · simp[h]
theorem ym (n:Int)(es:List (Int×Int)):zo Try.prog [] ziS [.agg [.sc (.int .i64 n),.imm 2 (Zj es)]] [] fun r h'=>r= .sc (.bool (ZB n es))∧h'=[]:=by
 refine zlp rfl ?_
 unfold zjR JG
 refine za fun KY hKY=>?_
 simp only[go_sem,o0]
 apply hKY
 refine zf fun X1 hn1 he1 hr1=>?_
 by_cases h:0≤n∧n≤4096∧es.length≤65536
 · obtain ⟨h0, h1,h2⟩:=h
   refine za fun KY hKY=>?_
   simp only[go_sem,yN,ZM,xv]
   repeat (simp(disch:=omega) only[if_pos,if_neg,decide_eq_true,decide_eq_false,zL,zv,zh,ZM,xv];try simp only[go_sem,ZM,xv])
   apply hKY
   refine Zy ?_
   refine zg ?_
   repeat (first|refine hn1 _ ?_|refine he1 _ _ ?_)
   refine za fun KY hKY=>?_
   simp only[go_sem,oV]
   apply hKY
   refine zf fun X2 hn2 he2 hr2=>?_
   refine za fun KY hKY=>?_
   simp only[go_sem,oU,ZM,xv]
   apply hKY
   refine zm fun X3 hn3 he3 hf3 hr3=>?_
   try simp only[go_sem]
   refine zU (α:=Nat) [4,5,26,62] (fun k=>[(25,.sc (.int .i64 (k:Int)))]) (fun k=>[]) (fun k q=>k≤es.length∧q=es.length - k∧∀j,j<k→J7 n es j=true) (0) (es.length) rfl (by first|(simp only[go_sem,zd,ze];done)|with_reducible rfl|rfl) (⟨by omega,rfl,fun j h=>by omega⟩) ?_
   rintro k q ⟨hk,rfl,hz⟩ X4 hn4 he4 hr4
   simp only[go_sem,zd,ze]
   refine za fun KY hKY=>?_
   simp only[go_sem,oR]
   apply hKY
   refine zf fun X5 hn5 he5 hr5=>?_
   by_cases hk2:k<es.length
   · refine ZL ?_
     refine zg ?_
     repeat (first|refine hn5 _ ?_|refine he5 _ _ ?_|refine he4 _ _ ?_|refine hn3 _ ?_|refine he3 _ ?_|refine hf3 _ _ (by decide) ?_|refine hn2 _ ?_|refine he2 _ _ ?_|refine hn1 _ ?_|refine he1 _ _ ?_)
     refine zf fun X6 hn6 he6 hr6=>?_
     refine zm fun X7 hn7 he7 hf7 hr7=>?_
     have hx:es[k]?=some es[k]:=List.getElem?_eq_getElem hk2
     have hy:es.getD k (0,0)=es[k]:=by simp[List.getD_eq_getElem?_getD,hx]
     generalize es[k]=x at hx hy
     obtain⟨a,b⟩:=x
     refine za fun KY hKY=>?_
     simp only[go_sem,oJ,zT hx,List.length_drop]
     repeat (simp(disch:=omega) only[if_pos,if_neg,decide_eq_true,decide_eq_false,zL,zv,zh,zT hx,List.length_drop];try simp only[go_sem,zT hx,List.length_drop])
     apply hKY
     have hiff:J7 n es k=true↔0≤a∧a<b∧b<n∧(k=0∨((es.getD (k - 1) (0,0)).1<a∨(es.getD (k - 1) (0,0)).1=a∧(es.getD (k - 1) (0,0)).2<b)):=by
      simp only[J7,hy,Bool.and_eq_true,Bool.or_eq_true,decide_eq_true_eq,and_assoc]
     by_cases ha:a<0
     · have hf:J7 n es k=false:=by rw[Bool.eq_false_iff];intro h;have:=hiff.1 h;omega
       refine zw fun KY hKY=>?_
       simp only[go_sem,Qp,ha]
       repeat (simp(disch:=omega) only[if_pos,if_neg,decide_eq_true,decide_eq_false,zL,zv,zh,ha];try simp only[go_sem,ha])
       apply hKY
       refine ZL ?_
       refine za fun KY hKY=>?_
       simp only[go_sem,yM]
       apply hKY
       refine zi ?_
       repeat (first|refine hr7 _ ?_|refine hr6 _ ?_|refine hr5 _ ?_|refine hr4 _ ?_|refine hr3 _ ?_|refine hr2 _ ?_|refine hr1 _ ?_)
       simp only[go_sem]
       rw[Z4 hk2 hf]
     · by_cases hb:b≤a
       · have hf:J7 n es k=false:=by rw[Bool.eq_false_iff];intro h;have:=hiff.1 h;omega
         refine zw fun KY hKY=>?_
         simp only[go_sem,Qp,ha,hb]
         repeat (simp(disch:=omega) only[if_pos,if_neg,decide_eq_true,decide_eq_false,zL,zv,zh,ha,hb];try simp only[go_sem,ha,hb])
         apply hKY
         refine ZL ?_
         refine za fun KY hKY=>?_
         simp only[go_sem,yM]
         apply hKY
         refine zi ?_
         repeat (first|refine hr7 _ ?_|refine hr6 _ ?_|refine hr5 _ ?_|refine hr4 _ ?_|refine hr3 _ ?_|refine hr2 _ ?_|refine hr1 _ ?_)
         simp only[go_sem]
         rw[Z4 hk2 hf]
       · by_cases hc:n≤b
         · have hf:J7 n es k=false:=by rw[Bool.eq_false_iff];intro h;have:=hiff.1 h;omega
           refine zw fun KY hKY=>?_
           simp only[go_sem,Qp,ha,hb,hc]
           repeat (simp(disch:=omega) only[if_pos,if_neg,decide_eq_true,decide_eq_false,zL,zv,zh,ha,hb,hc];try simp only[go_sem,ha,hb,hc])
           apply hKY
           refine ZL ?_
           refine za fun KY hKY=>?_
           simp only[go_sem,yM]
           apply hKY
           refine zi ?_
           repeat (first|refine hr7 _ ?_|refine hr6 _ ?_|refine hr5 _ ?_|refine hr4 _ ?_|refine hr3 _ ?_|refine hr2 _ ?_|refine hr1 _ ?_)
           simp only[go_sem]
           rw[Z4 hk2 hf]
         · cases k with
           | zero=>
             have ht:J7 n es 0=true:=hiff.2 (by omega)
             refine zw fun KY hKY=>?_
             simp only[go_sem,Qp,ha,hb,hc,show((0:Nat):Int)=0 from rfl]
             repeat (simp(disch:=omega) only[if_pos,if_neg,decide_eq_true,decide_eq_false,zL,zv,zh,ha,hb,hc,show((0:Nat):Int)=0 from rfl];try simp only[go_sem,ha,hb,hc,show((0:Nat):Int)=0 from rfl])
             apply hKY
             refine Zy ?_
             refine zg ?_
             repeat (first|refine hn7 _ ?_|refine he7 _ ?_|refine hf7 _ _ (by decide) ?_|refine hn6 _ ?_|refine he6 _ _ ?_|refine hn5 _ ?_|refine he5 _ _ ?_|refine he4 _ _ ?_|refine hn3 _ ?_|refine he3 _ ?_|refine hf3 _ _ (by decide) ?_|refine hn2 _ ?_|refine he2 _ _ ?_|refine hn1 _ ?_|refine he1 _ _ ?_)
             refine zk fun KY hKY=>?_
             simp only[go_sem,uT]
             repeat (simp(disch:=omega) only[if_pos,if_neg,decide_eq_true,decide_eq_false,zL,zv,zh];try simp only[go_sem])
             apply hKY
             repeat (first|refine hn7 _ ?_|refine he7 _ ?_|refine hf7 _ _ (by decide) ?_|refine hn6 _ ?_|refine he6 _ _ ?_|refine hn5 _ ?_|refine he5 _ _ ?_)
             refine hn4 _ (0+1) (es.length - (0+1)) (by omega) (by first|(simp only[go_sem,zd,ze];done)|with_reducible rfl|rfl) ?_
             refine⟨hk2,rfl,fun j hj=>?_⟩
             rcases Nat.lt_or_ge j (0) with h3|h3
             · exact hz j h3
             · have:j=0:=by omega
               subst this;exact ht
           | succ m=>
             have hm:es[m]?=some (es[m]'(by omega)):=List.getElem?_eq_getElem _
             have hmy:es.getD (m+1 - 1) (0,0)=es[m]'(by omega):=by simp[List.getD_eq_getElem?_getD,hm]
             generalize es[m]'(by omega)=x at hm hmy
             obtain⟨c,d⟩:=x
             rw[hmy] at hiff
             have hm0:¬(((m+1:Nat):Int)≤0):=by omega
             refine zw fun KY hKY=>?_
             simp only[go_sem,Qp,ha,hb,hc,Ww,zT hm,List.length_drop]
             repeat (simp(disch:=omega) only[if_pos,if_neg,decide_eq_true,decide_eq_false,zL,zv,zh,ha,hb,hc,Ww,zT hm,List.length_drop];try simp only[go_sem,ha,hb,hc,Ww,zT hm,List.length_drop])
             refine zA rfl (by simp only[go_sem]<;>rfl) ((KD (c,d) (a,b)).mono ?_)
             rintro rr hh ⟨rfl,rfl⟩
             refine⟨rfl,rfl,rfl,?_⟩
             have hlt:=zh5 (c,d) (a,b)
             simp only at hlt
             by_cases hq:0≤zgh (c,d) (a,b)
             · have hf:J7 n es (m+1)=false:=by rw[Bool.eq_false_iff];intro h;have:=(hiff.1 h).2.2.2;simp only at this;omega
               try simp only[go_sem,hq]
               repeat (simp(disch:=omega) only[if_pos,if_neg,decide_eq_true,decide_eq_false,zL,zv,zh,hq];try simp only[go_sem,hq])
               apply hKY
               refine ZL ?_
               refine za fun KY hKY=>?_
               simp only[go_sem,yM]
               apply hKY
               refine zi ?_
               repeat (first|refine hr7 _ ?_|refine hr6 _ ?_|refine hr5 _ ?_|refine hr4 _ ?_|refine hr3 _ ?_|refine hr2 _ ?_|refine hr1 _ ?_)
               simp only[go_sem]
               rw[Z4 hk2 hf]
             · have ht:J7 n es (m+1)=true:=hiff.2 (by simp only;omega)
               try simp only[go_sem,hq]
               repeat (simp(disch:=omega) only[if_pos,if_neg,decide_eq_true,decide_eq_false,zL,zv,zh,hq];try simp only[go_sem,hq])
               apply hKY
               refine Zy ?_
               refine zg ?_
               repeat (first|refine hn7 _ ?_|refine he7 _ ?_|refine hf7 _ _ (by decide) ?_|refine hn6 _ ?_|refine he6 _ _ ?_|refine hn5 _ ?_|refine he5 _ _ ?_|refine he4 _ _ ?_|refine hn3 _ ?_|refine he3 _ ?_|refine hf3 _ _ (by decide) ?_|refine hn2 _ ?_|refine he2 _ _ ?_|refine hn1 _ ?_|refine he1 _ _ ?_)
               refine zk fun KY hKY=>?_
               simp only[go_sem,uT]
               repeat (simp(disch:=omega) only[if_pos,if_neg,decide_eq_true,decide_eq_false,zL,zv,zh];try simp only[go_sem])
               apply hKY
               repeat (first|refine hn7 _ ?_|refine he7 _ ?_|refine hf7 _ _ (by decide) ?_|refine hn6 _ ?_|refine he6 _ _ ?_|refine hn5 _ ?_|refine he5 _ _ ?_)
               refine hn4 _ (m+1+1) (es.length - (m+1+1)) (by omega) (by first|(simp only[go_sem,zd,ze];done)|with_reducible rfl|rfl) ?_
               refine⟨hk2,rfl,fun j hj=>?_⟩
               rcases Nat.lt_or_ge j (m+1) with h3|h3
               · exact hz j h3
               · have:j=m+1:=by omega
                 subst this;exact ht
   · refine Zy ?_
     refine zy ?_
     repeat (first|refine hn5 _ ?_|refine he5 _ _ ?_|refine he4 _ _ ?_|refine hn3 _ ?_|refine he3 _ ?_|refine hf3 _ _ (by decide) ?_|refine hn2 _ ?_|refine he2 _ _ ?_|refine hn1 _ ?_|refine he1 _ _ ?_)
     refine za fun KY hKY=>?_
     simp only[go_sem,Vv]
     apply hKY
     refine zi ?_
     repeat (first|refine hr5 _ ?_|refine hr4 _ ?_|refine hr3 _ ?_|refine hr2 _ ?_|refine hr1 _ ?_)
     simp only[go_sem]
     rw[yn h0 h1 h2 fun i hi=>hz i (by omega)]
 · by_cases h0:n<0
   · refine za fun KY hKY=>?_
     simp only[go_sem,yN,h0]
     repeat (simp(disch:=omega) only[if_pos,if_neg,decide_eq_true,decide_eq_false,zL,zv,zh,h0];try simp only[go_sem,h0])
     apply hKY
     refine ZL ?_
     refine za fun KY hKY=>?_
     simp only[go_sem,wW]
     apply hKY
     refine zi ?_
     repeat (first|refine hr1 _ ?_)
     simp only[go_sem]
     rw[show ZB n es=false by rw[Bool.eq_false_iff];intro h';simp only[ZB,Bool.and_eq_true,decide_eq_true_eq] at h';omega]
   · by_cases h1:4096<n
     · refine za fun KY hKY=>?_
       simp only[go_sem,yN,h0,h1]
       repeat (simp(disch:=omega) only[if_pos,if_neg,decide_eq_true,decide_eq_false,zL,zv,zh,h0,h1];try simp only[go_sem,h0,h1])
       apply hKY
       refine ZL ?_
       refine za fun KY hKY=>?_
       simp only[go_sem,wW]
       apply hKY
       refine zi ?_
       repeat (first|refine hr1 _ ?_)
       simp only[go_sem]
       rw[show ZB n es=false by rw[Bool.eq_false_iff];intro h';simp only[ZB,Bool.and_eq_true,decide_eq_true_eq] at h';omega]
     · refine za fun KY hKY=>?_
       simp only[go_sem,yN,h0,h1]
       repeat (simp(disch:=omega) only[if_pos,if_neg,decide_eq_true,decide_eq_false,zL,zv,zh,h0,h1];try simp only[go_sem,h0,h1])
       apply hKY
       refine ZL ?_
       refine za fun KY hKY=>?_
       simp only[go_sem,wW]
       apply hKY
       refine zi ?_
       repeat (first|refine hr1 _ ?_)
       simp only[go_sem]
       rw[show ZB n es=false by rw[Bool.eq_false_iff];intro h';simp only[ZB,Bool.and_eq_true,decide_eq_true_eq] at h';omega]
theorem inc (k:Nat)(h:k≤1000000000):IntKind.i64.wrap ((k:Int)+1)=((k+1:Nat):Int):=by rw[IntWalk.i64_in _ (by omega)];omega
theorem Qd (xs:List Nat):zC xs=zj (xs.map fun(n:Nat)=>(n:Int)):=by simp[zC,zj]
theorem kL {xs:List Int}{k:Nat}{x:Int}(h:xs[k]?=some x):(zj xs)[k]?=some (.sc (.int .i64 x)):=by simp[zj,h]
theorem zlO (x y:Int):zo Try.prog [] zcv [.sc (.int .i64 x),.sc (.int .i64 y)] [] fun r h'=>r= .sc (.bool (decide (x=y)))∧h'=[]:=by
 refine zlu rfl ?_
 unfold zjW US
 refine za fun KY hKY=>?_
 simp only[go_sem,Ow]
 apply hKY
 refine za fun KY hKY=>?_
 simp only[go_sem,Ov]
 apply hKY
 refine zi ?_
 simp only[go_sem]
theorem Uq {α:Type}[DecidableEq α]{xs ys:List α}{k:Nat}{x y:α}(hx:xs[k]?=some x)(hy:ys[k]?=some y)(h:xs.take k=ys.take k):xs.take (k+1)=ys.take (k+1)↔x=y:=by
 rw[List.take_add_one,List.take_add_one,hx,hy,h]
 simp
theorem zeW (xs ys:List Int)(hb:xs.length≤1000000000):zo Try.prog [] ziW [.imm 1 (zj xs),.imm 1 (zj ys),.fn (.func zcv) [] []] [] fun r h'=>r= .sc (.bool (decide (xs=ys)))∧h'=[]:=by
 refine zlv rfl ?_
 unfold zjX JT
 refine za fun KY hKY=>?_
 simp only[go_sem,OF]
 apply hKY
 refine zf fun X1 hn1 he1 hr1=>?_
 refine za fun KY hKY=>?_
 simp only[go_sem,OE,Nat.div_one,zq]
 apply hKY
 simp only[go_sem]
 by_cases hl:xs.length=ys.length
 case neg=>
  have hl':decide (((xs.length:Nat):Int)≠((ys.length:Nat):Int))=true:=decide_eq_true (by omega)
  refine Zs (by simp only[go_sem,hl']) ?_
  refine za fun KY hKY=>?_
  simp only[go_sem,OD]
  apply hKY
  refine zi (hr1 _ ?_)
  simp only[go_sem]
  rw[decide_eq_false (fun e:xs=ys=>hl (by rw[e]))]
 have hl':decide (((xs.length:Nat):Int)≠((ys.length:Nat):Int))=false:=decide_eq_false (by omega)
 refine Zo (by simp only[go_sem,hl']) (zg (hn1 _ ?_))
 refine zf fun X2 hn2 he2 hr2=>?_
 refine za fun KY hKY=>?_
 simp only[go_sem,OC]
 apply hKY
 refine zm fun X3 hn3 he3 hf3 hr3=>?_
 refine xK (fun m s=>∃(k:Nat) (A16 A29:zc),k≤xs.length∧m=xs.length - k∧xs.take k=ys.take k∧s={vs:=[(0,.imm 1 (zj xs)),(1,.imm 1 (zj ys)),(2,.fn (.func zcv) [] []),(6,.sc (.bool false)),(7,.sc (.int .i64 (k:Int))),(12,.sc (.bool (decide (((xs.length:Nat):Int)≠((ys.length:Nat):Int))))),(16,A16),(29,A29)],ts:=[],h:=[]}) xs.length ⟨0,.dead,.dead,Nat.zero_le _,rfl,rfl,?_⟩ ?_
 · rfl
 rintro m _ ⟨k,A16,A29,hk,rfl,hpre,rfl⟩ X4 hn4 he4 hr4
 refine YK [16,29] rfl ?_
 simp only[go_sem]
 refine zf fun X5 hn5 he5 hr5=>?_
 refine zf fun X6 hn6 he6 hr6=>?_
 refine zk fun KY hKY=>?_
 simp only[go_sem,OB,Nat.div_one,zq]
 refine hKY _ (hn6 _ ?_)
 simp only[go_sem]
 refine k8 (v:=decide ((k:Int)<(xs.length:Int))) rfl (fun h=>zg (hn5 _ ?_)) fun h=>zy (he5 _ _ (he4 _ _ (he3 _ (hn2 _ ?_))))
 · have hlt:k<xs.length:=by have:=of_decide_eq_true h;omega
   have hlt2:k<ys.length:=by omega
   have hx:xs[k]?=some xs[k]:=List.getElem?_eq_getElem hlt
   have hy:ys[k]?=some ys[k]:=List.getElem?_eq_getElem hlt2
   have st:=Uq hx hy hpre
   refine zf fun X7 hn7 he7 hr7=>?_
   refine zm fun X8 hn8 he8 hf8 hr8=>?_
   refine zw fun KY hKY=>?_
   simp only[go_sem,OA,zq,kL hx,kL hy,hlt,hlt2]
   refine zA rfl (by simp only[go_sem]<;>rfl) ((zlO xs[k] ys[k]).mono ?_)
   rintro rr hh ⟨rfl,rfl⟩
   refine⟨rfl,rfl,rfl,?_⟩
   simp only[go_sem]
   apply hKY
   simp only[go_sem]
   by_cases e:xs[k]=ys[k]
   · refine Zo (by simp only[go_sem,decide_eq_true e]) (zg (hn8 _ (hn7 _ ?_)))
     refine zk fun KY hKY=>?_
     simp only[go_sem,Oy,inc k (by omega)]
     refine hKY _ (hn4 (xs.length - (k+1)) _ (by omega) ?_)
     simp only[go_sem]
     exact⟨k+1,_,_,hlt,rfl,st.2 e,rfl⟩
   · refine Zs (by simp only[go_sem,decide_eq_false e]) ?_
     refine za fun KY hKY=>?_
     simp only[go_sem,Oz]
     apply hKY
     refine zi (hr8 _ (hr7 _ (hr4 _ (hr3 _ (hr2 _ ?_)))))
     simp only[go_sem]
     rw[decide_eq_false (fun e':xs=ys=>e (by subst e';rfl))]
 · have hkn:k=xs.length:=by have:=of_decide_eq_false h;omega
   refine za fun KY hKY=>?_
   simp only[go_sem,Ox]
   apply hKY
   refine zi ?_
   simp only[go_sem]
   rw[hkn,List.take_length,hl,List.take_length] at hpre
   rw[decide_eq_true hpre]
theorem zdF (xs ys:List Int)(hb:xs.length≤1000000000):zo Try.prog [] KJ [.imm 1 (zj xs),.imm 1 (zj ys)] [] fun r h'=>r= .sc (.bool (decide (xs=ys)))∧h'=[]:=by
 refine zlH rfl ?_
 unfold zj9 UV
 refine za fun KY hKY=>?_
 simp only[go_sem,zaz]
 apply hKY
 refine za fun KY hKY=>?_
 simp only[go_sem,zay]
 refine zA rfl (by simp only[go_sem]<;>rfl) ((zeW xs ys hb).mono ?_)
 rintro rr hh ⟨rfl,rfl⟩
 refine⟨rfl,rfl,rfl,?_⟩
 simp only[go_sem]
 apply hKY
 refine zi ?_
 simp only[go_sem]
theorem yZ (xs ys:List Nat)(hb:xs.length≤1000000000):zo Try.prog [] KJ [.imm 1 (zC xs),.imm 1 (zC ys)] [] fun r h'=>r= .sc (.bool (decide (xs=ys)))∧h'=[]:=by
 rw[Qd,Qd]
 refine(zdF _ _ (by simpa using hb)).mono fun r h' ⟨h1,h2⟩=>⟨?_,h2⟩
 rw[h1]
 congr 2
 rw[decide_eq_decide]
 refine⟨fun h=>?_,fun h=>by rw[h]⟩
 exact List.map_inj_right (fun a b hab=>by omega)|>.1 h
theorem zeV (xs ys:List (List Nat))(hb:xs.length≤1000000000)(hr:∀x∈xs,x.length≤1000000000):zo Try.prog [] ziU [.imm 1 (Zq xs),.imm 1 (Zq ys),.fn (.func KJ) [] []] [] fun r h'=>r= .sc (.bool (decide (xs=ys)))∧h'=[]:=by
 refine zlr rfl ?_
 unfold zjT JS
 refine za fun KY hKY=>?_
 simp only[go_sem,Oh]
 apply hKY
 refine zf fun X1 hn1 he1 hr1=>?_
 refine za fun KY hKY=>?_
 simp only[go_sem,Og,Nat.div_one,Jj]
 apply hKY
 simp only[go_sem]
 by_cases hl:xs.length=ys.length
 case neg=>
  have hl':decide (((xs.length:Nat):Int)≠((ys.length:Nat):Int))=true:=decide_eq_true (by omega)
  refine Zs (by simp only[go_sem,hl']) ?_
  refine za fun KY hKY=>?_
  simp only[go_sem,Oe]
  apply hKY
  refine zi (hr1 _ ?_)
  simp only[go_sem]
  rw[decide_eq_false (fun e:xs=ys=>hl (by rw[e]))]
 have hl':decide (((xs.length:Nat):Int)≠((ys.length:Nat):Int))=false:=decide_eq_false (by omega)
 refine Zo (by simp only[go_sem,hl']) (zg (hn1 _ ?_))
 refine zf fun X2 hn2 he2 hr2=>?_
 refine za fun KY hKY=>?_
 simp only[go_sem,Od]
 apply hKY
 refine zm fun X3 hn3 he3 hf3 hr3=>?_
 refine xK (fun m s=>∃(k:Nat) (A16 A29:zc),k≤xs.length∧m=xs.length - k∧xs.take k=ys.take k∧s={vs:=[(0,.imm 1 (Zq xs)),(1,.imm 1 (Zq ys)),(2,.fn (.func KJ) [] []),(6,.sc (.bool false)),(7,.sc (.int .i64 (k:Int))),(12,.sc (.bool (decide (((xs.length:Nat):Int)≠((ys.length:Nat):Int))))),(16,A16),(29,A29)],ts:=[],h:=[]}) xs.length ⟨0,.dead,.dead,Nat.zero_le _,rfl,rfl,?_⟩ ?_
 · rfl
 rintro m _ ⟨k,A16,A29,hk,rfl,hpre,rfl⟩ X4 hn4 he4 hr4
 refine YK [16,29] rfl ?_
 simp only[go_sem]
 refine zf fun X5 hn5 he5 hr5=>?_
 refine zf fun X6 hn6 he6 hr6=>?_
 refine zk fun KY hKY=>?_
 simp only[go_sem,Oc,Nat.div_one,Jj]
 refine hKY _ (hn6 _ ?_)
 simp only[go_sem]
 refine k8 (v:=decide ((k:Int)<(xs.length:Int))) rfl (fun h=>zg (hn5 _ ?_)) fun h=>zy (he5 _ _ (he4 _ _ (he3 _ (hn2 _ ?_))))
 · have hlt:k<xs.length:=by have:=of_decide_eq_true h;omega
   have hlt2:k<ys.length:=by omega
   have hx:xs[k]?=some xs[k]:=List.getElem?_eq_getElem hlt
   have hy:ys[k]?=some ys[k]:=List.getElem?_eq_getElem hlt2
   have st:=Uq hx hy hpre
   refine zf fun X7 hn7 he7 hr7=>?_
   refine zm fun X8 hn8 he8 hf8 hr8=>?_
   refine zw fun KY hKY=>?_
   simp only[go_sem,Ob,Jj,q9 hx,q9 hy,hlt,hlt2]
   refine zA rfl (by simp only[go_sem]<;>rfl) ((yZ xs[k] ys[k] (hr _ (List.getElem_mem hlt))).mono ?_)
   rintro rr hh ⟨rfl,rfl⟩
   refine⟨rfl,rfl,rfl,?_⟩
   simp only[go_sem]
   apply hKY
   simp only[go_sem]
   by_cases e:xs[k]=ys[k]
   · refine Zo (by simp only[go_sem,decide_eq_true e]) (zg (hn8 _ (hn7 _ ?_)))
     refine zk fun KY hKY=>?_
     simp only[go_sem,o9,inc k (by omega)]
     refine hKY _ (hn4 (xs.length - (k+1)) _ (by omega) ?_)
     simp only[go_sem]
     exact⟨k+1,_,_,hlt,rfl,st.2 e,rfl⟩
   · refine Zs (by simp only[go_sem,decide_eq_false e]) ?_
     refine za fun KY hKY=>?_
     simp only[go_sem,Oa]
     apply hKY
     refine zi (hr8 _ (hr7 _ (hr4 _ (hr3 _ (hr2 _ ?_)))))
     simp only[go_sem]
     rw[decide_eq_false (fun e':xs=ys=>e (by subst e';rfl))]
 · have hkn:k=xs.length:=by have:=of_decide_eq_false h;omega
   refine za fun KY hKY=>?_
   simp only[go_sem,o8]
   apply hKY
   refine zi ?_
   simp only[go_sem]
   rw[hkn,List.take_length,hl,List.take_length] at hpre
   rw[decide_eq_true hpre]
theorem zd0 (xs ys:List (List Nat))(hb:xs.length≤1000000000)(hr:∀x∈xs,x.length≤1000000000):zo Try.prog [] zi3 [.imm 1 (Zq xs),.imm 1 (Zq ys)] [] fun r h'=>r= .sc (.bool (decide (xs=ys)))∧h'=[]:=by
 refine zlD rfl ?_
 unfold zj5 UU
 refine za fun KY hKY=>?_
 simp only[go_sem,zai]
 apply hKY
 refine za fun KY hKY=>?_
 simp only[go_sem,zah]
 refine zA rfl (by simp only[go_sem]<;>rfl) ((zeV xs ys hb hr).mono ?_)
 rintro rr hh ⟨rfl,rfl⟩
 refine⟨rfl,rfl,rfl,?_⟩
 simp only[go_sem]
 apply hKY
 refine zi ?_
 simp only[go_sem]
end Go.Proofs.Ytkjppnofgmpeeaa

namespace Go.Ga.Gl
open Go Go.Ga
theorem zfZ {p :List Nat}{a:Nat}(h:a∈p.head?):a∈p:=by
 cases p with
 |nil=>cases h
 | cons b p => have:b=a:=by simpa using h
               subst this;exact List.mem_cons_self ..
structure LI (n:Nat)(es:Es)(O:Nat→Prop)(lab:List Int):Prop where
 len:lab.length=n
 out:∀v,v<n→(lab.getD v 0<0↔O v)
 low:∀v,v<n→¬O v→0≤lab.getD v 0∧lab.getD v 0≤v∧¬O (lab.getD v 0).toNat
 conn:∀f,zaX es O f→∀v,v<n→¬O v→f v=f (lab.getD v 0).toNat
def Jb (lab:List Int):Nat:=(lab.map Int.toNat).sum
theorem YV :∀(lab:List Int) (v:Nat) (k:Int),v<lab.length→Jb (lab.set v k)+(lab.getD v 0).toNat=Jb lab+k.toNat
 |[],v,k,h=>by simp at h
 |x::l,0,k,_=>by simp[Jb];omega
 | x::l,v+1,k,h=>by
   have:=YV l v k (by simpa using h)
   simp[Jb] at*;omega
theorem ZO (l:List Int)(v w:Nat)(k:Int)(h:v<l.length):(l.set v k).getD w 0=if w=v then k else l.getD w 0:=by
 simp only[List.getD_eq_getElem?_getD,List.getElem?_set]
 by_cases e:v=w
 · subst e;simp[h]
 · simp[e,Ne.symm e]
def KR (lab:List Int)(a b:Nat):List Int:=(lab.set a (min (lab.getD a 0) (lab.getD b 0))).set b (min (lab.getD a 0) (lab.getD b 0))
theorem XB {lab:List Int}{a b w:Nat}(ha:a<lab.length)(hb:b<lab.length):(KR lab a b).getD w 0=if w=a∨w=b then min (lab.getD a 0) (lab.getD b 0) else lab.getD w 0:=by
 unfold KR
 rw[ZO _ _ _ _ (by simpa using hb),ZO _ _ _ _ ha]
 by_cases h1:w=b
 · simp[h1]
 · by_cases h2:w=a
   · simp[h2]
   · simp[h1,h2]
theorem LI.step {n:Nat}{es:Es}{O:Nat→Prop}{lab:List Int}(w:LI n es O lab){a b:Nat}(hab:Zp es a b)(han:a<n)(hbn:b<n)(h1:¬lab.getD a 0<0)(h2:¬lab.getD b 0<0):LI n es O (KR lab a b):=by
 have oa:¬O a:=fun h=>h1 ((w.out a han).2 h)
 have ob:¬O b:=fun h=>h2 ((w.out b hbn).2 h)
 have la:=w.low a han oa
 have lb:=w.low b hbn ob
 have hal:a<lab.length:=by rw[w.len];exact han
 have hbl:b<lab.length:=by rw[w.len];exact hbn
 have hk:∃c,(c=a∨c=b)∧min (lab.getD a 0) (lab.getD b 0)=lab.getD c 0:=by
  rcases Int.le_total (lab.getD a 0) (lab.getD b 0) with h|h
  · exact⟨a,.inl rfl,Int.min_eq_left h⟩
  · exact⟨b,.inr rfl,Int.min_eq_right h⟩
 refine⟨by unfold KR;simp[w.len],fun v hv=>?_,fun v hv ho=>?_,fun f hf v hv ho=>?_⟩
 · rw[XB hal hbl]
   split
   · rename_i h
     rcases h with rfl|rfl
     · constructor
       · intro h;omega
       · intro h;exact absurd h oa
     · constructor
       · intro h;omega
       · intro h;exact absurd h ob
   · exact w.out v hv
 · rw[XB hal hbl]
   split
   · rename_i h
     obtain⟨c,hc,e⟩:=hk
     refine⟨by omega,by rcases h with rfl|rfl<;>omega,?_⟩
     rw[e]
     rcases hc with rfl|rfl
     · exact la.2.2
     · exact lb.2.2
   · exact w.low v hv ho
 · rw[XB hal hbl]
   split
   · rename_i h
     obtain⟨c,hc,e⟩:=hk
     rw[e]
     have e1:=hf a b hab oa ob
     have ea:=w.conn f hf a han oa
     have eb:=w.conn f hf b hbn ob
     rcases h with rfl|rfl<;>rcases hc with rfl|rfl
     · exact ea
     · rw[e1,eb]
     · rw[←e1,ea]
     · exact eb
   · exact w.conn f hf v hv ho
theorem zfL {lab:List Int}{a b:Nat}(ha:a<lab.length)(hb:b<lab.length)(hne:a≠b)(h1:¬lab.getD a 0<0)(h2:¬lab.getD b 0<0)(h3:lab.getD a 0≠lab.getD b 0):Jb (KR lab a b)<Jb lab:=by
 unfold KR
 generalize hk:min (lab.getD a 0) (lab.getD b 0)=k
 have e1:=YV lab a k ha
 have e2:=YV (lab.set a k) b k (by simpa using hb)
 rw[ZO _ _ _ _ ha,if_neg (Ne.symm hne)] at e2
 omega
theorem LI.start {n:Nat}{es:Es}{O:Nat→Prop}{lab:List Int}(hl:lab.length=n)(h:∀v,v<n→(O v→lab.getD v 0= -1)∧(¬O v→lab.getD v 0=(v:Int))):LI n es O lab:=by
 refine⟨hl,fun v hv=>?_,fun v hv ho=>?_,fun f _ v hv ho=>?_⟩
 · constructor
   · intro h1
     by_cases ho:O v
     · exact ho
     · have:=(h v hv).2 ho;omega
   · intro ho;have:=(h v hv).1 ho;omega
 · rw[(h v hv).2 ho];exact⟨by omega,by omega,by simpa using ho⟩
 · rw[(h v hv).2 ho];simp
def Z7 (n:Nat)(lab:List Int)(m:Nat):List (List Nat):=((List.range m).filter fun v:Nat=>decide (lab.getD v 0=(v:Int))).map fun v:Nat=>(List.range n).filter fun w=>decide (lab.getD w 0=(v:Int))
theorem Jm {n:Nat}{lab:List Int}{m:Nat}{p:List Nat}:p∈Z7 n lab m↔∃v:Nat,v<m∧lab.getD v 0=(v:Int)∧(List.range n).filter (fun w=>decide (lab.getD w 0=(v:Int)))=p:=by
 simp only[Z7,List.mem_map,List.mem_filter,List.mem_range,decide_eq_true_eq,and_assoc]
theorem LI.pieces {n:Nat}{es:Es}{O:Nat→Prop}{lab:List Int}(hes:∀a b,Zp es a b→a<n∧b<n)(W:LI n es O lab)(hfix:∀e∈es,lab.getD e.1 0<0∨lab.getD e.2 0<0∨lab.getD e.1 0=lab.getD e.2 0):ZX n es O (Z7 n lab n):=by
 have hflat:∀a b,Zp es a b→¬O a→¬O b→lab.getD a 0=lab.getD b 0:=by
  intro a b hab ha hb
  have hl:=hes a b hab
  have h1:=W.low a hl.1 ha
  have h2:=W.low b hl.2 hb
  rcases hab with h|h
  · rcases hfix _ h with h|h|h
    · exact absurd h (by simp only;omega)
    · exact absurd h (by simp only;omega)
    · exact h
  · rcases hfix _ h with h|h|h
    · exact absurd h (by simp only;omega)
    · exact absurd h (by simp only;omega)
    · exact h.symm
 have hfl:zaX es O (fun v=>(lab.getD v 0).toNat):=fun a b hab ha hb=>by
  show(lab.getD a 0).toNat=(lab.getD b 0).toNat
  rw[hflat a b hab ha hb]
 have hid:∀v,v<n→¬O v→lab.getD (lab.getD v 0).toNat 0=lab.getD v 0:=by
  intro v hv ho
  have h1:=W.low v hv ho
  have h2:=W.conn _ hfl v hv ho
  have h3:=W.low (lab.getD v 0).toNat (by omega) h1.2.2
  have h2:(lab.getD v 0).toNat=(lab.getD (lab.getD v 0).toNat 0).toNat:=h2
  omega
 have hm:∀(v w:Nat),w∈(List.range n).filter (fun w=>decide (lab.getD w 0=(v:Int)))↔w<n∧lab.getD w 0=(v:Int):=fun v w=>by
  simp only[List.mem_filter,List.mem_range,decide_eq_true_eq]
 have hno:∀(v w:Nat),w<n→lab.getD w 0=(v:Int)→¬O w:=fun v w hw h ho=>by
  have:=(W.out w hw).2 ho;omega
 have hle:∀(v w:Nat),w<n→lab.getD w 0=(v:Int)→v≤w:=fun v w hw h=>by
  have:=(W.low w hw (hno v w hw h)).2.1;omega
 have hfirst:∀v:Nat,v<n→lab.getD v 0=(v:Int)→∀a∈((List.range n).filter fun w=>decide (lab.getD w 0=(v:Int))).head?,a=v:=by
  intro v hv h a ha
  have h1:=(hm v a).1 (zfZ ha)
  have h2:=hle v a h1.1 h1.2
  have h3:a≤v:=by
   have hpw:((List.range n).filter fun w=>decide (lab.getD w 0=(v:Int))).Pairwise (· < ·):=List.pairwise_lt_range.filter _
   have hvm:=(hm v v).2 ⟨hv,h⟩
   generalize (List.range n).filter (fun w=>decide (lab.getD w 0=(v:Int)))=r at ha hpw hvm
   cases r with
   |nil=>cases ha
   | cons b r=>
     have:b=a:=by simpa using ha
     subst this
     rcases List.mem_cons.1 hvm with e|e
     · omega
     · have:=(List.pairwise_cons.1 hpw).1 v e;omega
  omega
 refine⟨fun v=>?_,?_,?_,?_,?_,?_,?_⟩
 · constructor
   · rintro⟨p,hp,hv⟩
     obtain⟨k,_,_,rfl⟩:=Jm.1 hp
     have:=(hm k v).1 hv
     exact⟨this.1,hno k v this.1 this.2⟩
   · rintro⟨hv,ho⟩
     have h1:=W.low v hv ho
     have h2:=hid v hv ho
     refine⟨_,Jm.2 ⟨(lab.getD v 0).toNat,by omega,by rw[h2];omega,rfl⟩,(hm _ v).2 ⟨hv,by omega⟩⟩
 · intro p hp
   obtain⟨k,hk,h,rfl⟩:=Jm.1 hp
   exact List.ne_nil_of_mem ((hm k k).2 ⟨hk,h⟩)
 · intro p hp
   obtain⟨k,_,_,rfl⟩:=Jm.1 hp
   exact List.pairwise_lt_range.filter _
 · unfold Z7
   refine List.pairwise_map.2 ((List.pairwise_lt_range.filter _).imp_of_mem fun{u v} hu hv h a ha b hb=>?_)
   simp only[List.mem_filter,List.mem_range,decide_eq_true_eq] at hu hv
   rw[hfirst u hu.1 hu.2 a ha,hfirst v hv.1 hv.2 b hb];exact h
 · unfold Z7
   refine List.pairwise_map.2 ((List.pairwise_lt_range.filter _).imp fun{u v} h w hw hw'=>?_)
   have h1:=((hm u w).1 hw).2
   have h2:=((hm v w).1 hw').2
   omega
 · intro p hp a ha b hab hb hob
   obtain⟨k,_,_,rfl⟩:=Jm.1 hp
   have h1:=(hm k a).1 ha
   exact(hm k b).2 ⟨hb,by rw[←hflat a b hab (hno k a h1.1 h1.2) hob];exact h1.2⟩
 · intro p hp f hf a ha b hb
   obtain⟨k,_,_,rfl⟩:=Jm.1 hp
   have h1:=(hm k a).1 ha
   have h2:=(hm k b).1 hb
   rw[W.conn f hf a h1.1 (hno k a h1.1 h1.2),W.conn f hf b h2.1 (hno k b h2.1 h2.2),h1.2,h2.2]
theorem kU (n:Nat)(lab:List Int)(m:Nat):Z7 n lab (m+1)=if lab.getD m 0=(m:Int) then Z7 n lab m++[(List.range n).filter fun w=>decide (lab.getD w 0=(m:Int))] else Z7 n lab m:=by
 unfold Z7
 rw[List.range_succ,List.filter_append,List.map_append]
 by_cases h:lab.getD m 0=(m:Int)
 · rw[if_pos h,List.filter_cons_of_pos (by simpa using h)];rfl
 · rw[if_neg h,List.filter_cons_of_neg (by simpa using h)];simp
theorem zaM (n:Nat)(lab:List Int)(m:Nat):(Z7 n lab m).length≤m:=by
 unfold Z7
 rw[List.length_map]
 exact Nat.le_trans (List.length_filter_le _ _) (by simp)
theorem wG (p:Nat→Bool)(m:Nat):(List.range (m+1)).filter p=if p m=true then(List.range m).filter p++[m] else(List.range m).filter p:=by
 rw[List.range_succ,List.filter_append]
 by_cases h:p m=true
 · rw[if_pos h,List.filter_cons_of_pos h];rfl
 · rw[if_neg h,List.filter_cons_of_neg h];simp
def UA (lab:List Int)(u w:Nat):List Nat:=(List.range w).filter fun w=>decide (lab.getD w 0=(u:Int))
theorem zc6 (lab:List Int)(u w:Nat):UA lab u (w+1)=if lab.getD w 0=(u:Int) then UA lab u w++[w] else UA lab u w:=by
 unfold UA
 rw[wG]
 simp only[decide_eq_true_eq]
theorem zew (lab:List Int)(u w:Nat):(UA lab u w).length≤w:=by
 unfold UA
 exact Nat.le_trans (List.length_filter_le _ _) (by simp)
theorem zb1 (n:Nat)(lab:List Int)(m:Nat):Z7 n lab (m+1)=if lab.getD m 0=(m:Int) then Z7 n lab m++[UA lab m n] else Z7 n lab m:=kU n lab m
def ow (m:List Int)(x y:Nat):Bool:=decide (m.getD x 0=(y:Int))
def JI (n:Nat)(l:Es):List Bool:=l.foldl (fun m e=>(m.set e.1 true).set e.2 true) (List.replicate n false)
theorem vG (l:List Bool)(v w:Nat)(h:v<l.length):(l.set v true).getD w false=(decide (v=w)||l.getD w false):=by
 simp only[List.getD_eq_getElem?_getD,List.getElem?_set]
 by_cases e:v=w
 · subst e;simp[h]
 · simp[e]
structure Mt (N:Nat)(es:Es)(m:List Int):Prop where
 len:m.length=N
 at_:∀v,v<N→m.getD v 0= -1∨∃w:Nat,m.getD v 0=(w:Int)∧w<N∧w≠v∧Zp es v w∧m.getD w 0=(v:Int)
theorem Mt.back {N:Nat}{es:Es}{m:List Int}(M:Mt N es m){v w:Nat}(hv:v<N)(h:m.getD v 0=(w:Int)):w<N∧w≠v∧Zp es v w∧m.getD w 0=(v:Int):=by
 rcases M.at_ v hv with h1|⟨u,h1,h2⟩
 · omega
 · obtain rfl:u=w:=by omega
   exact h2
theorem Mt.own {N:Nat}{es:Es}{m:List Int}(M:Mt N es m){v w:Nat}(hv:v<N)(hw:w<N):ow m v w=ow m w v:=by
 unfold ow
 by_cases h:m.getD v 0=(w:Int)
 · rw[decide_eq_true h,decide_eq_true (M.back hv h).2.2.2]
 · rw[decide_eq_false h,decide_eq_false]
   intro h2;exact h (M.back hw h2).2.2.2
structure FS where
 lab:Nat→Nat
 out:Nat→Bool
 pr:Nat→Nat
 rt:Nat→Int
 b0:Nat→Nat
 b1:Nat→Nat
 bs:Nat→Nat
abbrev YF :=List (Nat×Nat)
def xu (ps:YF):YF:=(ps.map Prod.swap).reverse
def jC (ps:YF):List Nat:=ps.flatMap fun p=>[p.1,p.2]
def zG (ps:YF)(to:Nat):List Nat:=jC ps++[to]
theorem vf (p:Nat×Nat)(ps:YF):xu (p::ps)=xu ps++[p.swap]:=by simp[xu]
theorem jm (p:Nat×Nat)(ps:YF):jC (p::ps)=p.1::p.2::jC ps:=rfl
theorem qe (ps qs:YF):jC (ps++qs)=jC ps++jC qs:=by simp[jC]
theorem vI (ps:YF):jC (xu ps)=(jC ps).reverse:=by
 induction ps with
 |nil=>rfl
 |cons p ps ih=>rw[vf,qe,ih,jm];simp[jC]
inductive xm (mt:Nat→Int)(S:FS):Nat→Nat→YF→Prop
 |here (v:Nat):xm mt S v v []
 |even {v to m:Nat} {ps:YF}:v≠to→S.lab v=1→mt v=(m:Int)→S.lab m=2→xm mt S (S.pr m) to ps→xm mt S v to ((v,m)::ps)
 |odd {v to m:Nat} {ps qs:YF}:v≠to→S.out v=true→S.lab v=2→mt v=(m:Int)→xm mt S (S.b0 v) m ps→xm mt S (S.b1 v) to qs→xm mt S v to ((v,m)::(xu ps++qs))
structure zg2 (S T:FS):Prop where
 lab:∀x,S.lab x≠0→T.lab x=S.lab x
 pr:∀x,S.lab x=2→T.pr x=S.pr x
 out:∀x,S.out x=true→T.out x=true
 b0:∀x,S.out x=true→T.b0 x=S.b0 x
 b1:∀x,S.out x=true→T.b1 x=S.b1 x
theorem xm.goes {mt:Nat→Int}{S T:FS}(h:zg2 S T){v to:Nat}{ps:YF}(w:xm mt S v to ps):xm mt T v to ps:=by
 induction w with
 |here v=>exact .here v
 |even h1 h2 h3 h4 _ ih=>exact .even h1 (by rw[h.lab _ (by omega)];exact h2) h3 (by rw[h.lab _ (by omega)];exact h4) (by rw[h.pr _ h4];exact ih)
 |odd h1 h2 h3 h4 _ _ ih1 ih2=>exact .odd h1 (h.out _ h2) (by rw[h.lab _ (by omega)];exact h3) h4 (by rw[h.b0 _ h2];exact ih1) (by rw[h.b1 _ h2];exact ih2)
theorem xm.app {mt:Nat→Int}{S:FS}{v x to:Nat}{ps qs:YF}(w:xm mt S v x ps)(u:xm mt S x to qs)(hn:to∉jC ps):xm mt S v to (ps++qs):=by
 induction w with
 |here v=>exact u
 | even h1 h2 h3 h4 _ ih=>
   simp only[jm,List.mem_cons,not_or] at hn
   exact .even (Ne.symm hn.1) h2 h3 h4 (ih u hn.2.2)
 | odd h1 h2 h3 h4 w1 w2 ih1 ih2=>
   simp only[jm,qe,List.mem_cons,List.mem_append,not_or] at hn
   rw[List.cons_append,List.append_assoc]
   exact .odd (Ne.symm hn.1) h2 h3 h4 w1 (ih2 u hn.2.2.2)
theorem xm.first {mt:Nat→Int}{S:FS}{v to:Nat}{ps:YF}(w:xm mt S v to ps):v∈zG ps to:=by
 cases w<;>simp[zG,jC]
inductive qZ (mt:Nat→Int)(E:Nat→Nat→Prop):Nat→YF→Nat→Prop
 |nil (v:Nat):qZ mt E v [] v
 |cons {a c w to:Nat} {ps:YF}:mt a=(c:Int)→E c w→qZ mt E w ps to→qZ mt E a ((a,c)::ps) to
theorem qZ.app {mt:Nat→Int}{E:Nat→Nat→Prop}{v x to:Nat}{ps qs:YF}(h:qZ mt E v ps x)(k:qZ mt E x qs to):qZ mt E v (ps++qs) to:=by
 induction h with
 |nil v=>exact k
 |cons h1 h2 _ ih=>exact .cons h1 h2 (ih k)
theorem qZ.rev {mt:Nat→Int}{E:Nat→Nat→Prop}(hm:∀a c:Nat,mt a=(c:Int)→mt c=(a:Int))(hE:∀a c,E a c→E c a){s m:Nat}{ps:YF}(h:qZ mt E s ps m):∀{v w to:Nat} {qs:YF},mt v=(m:Int)→E s w→qZ mt E w qs to→qZ mt E v ((v,m)::(xu ps++qs)) to:=by
 induction h with
 |nil m=>intro v w to qs h1 h2 h3;exact .cons h1 h2 h3
 | cons k1 k2 _ ih=>
   intro v w to qs h1 h2 h3
   rw[vf,List.append_assoc]
   exact ih h1 (hE _ _ k2) (.cons (hm _ _ k1) h2 h3)
inductive ZA (mt:Nat→Int)(S:FS):Nat→Nat→List Nat→Prop
 |here (b:Nat):ZA mt S b b []
 |up {x m to:Nat} {xs:List Nat}:x≠to→mt x=(m:Int)→ZA mt S (S.bs (S.pr m)) to xs→ZA mt S x to (x::xs)
structure qb (N:Nat)(E:Nat→Nat→Prop)(mt:Nat→Int)(S:FS):Prop where
 o1:∀v,S.out v=true→v<N∧S.lab v≠0
 e1:∀v,S.lab v=1→S.out v=true
 l2:∀v,S.lab v≤2
 fr:∀v,v<N→mt v= -1→S.lab v=1∧S.rt v=(v:Int)
 od:∀v,S.lab v=2→v<N∧∃x:Nat,mt v=(x:Int)∧S.lab x=1∧S.rt x=S.rt v∧S.out (S.pr v)=true∧E v (S.pr v)∧S.rt (S.pr v)=S.rt v
 ev:∀v,S.lab v=1→(mt v= -1∧S.rt v=(v:Int))∨∃m:Nat,mt v=(m:Int)∧S.lab m=2
 bo:∀v,S.out v=true→S.out (S.bs v)=true∧S.lab (S.bs v)=1∧S.bs (S.bs v)=S.bs v∧S.rt (S.bs v)=S.rt v
 bn:∀v,S.out v=false→S.bs v=v
 bm:∀b m:Nat,S.out b=true→S.bs b=b→mt b=(m:Int)→S.out m=false
 bx:∀m x:Nat,S.lab m=2→S.out m=false→mt m=(x:Int)→S.bs x=x
 dp:∃d:Nat→Nat,∀b m:Nat,S.out b=true→S.bs b=b→mt b=(m:Int)→d (S.bs (S.pr m))<d b
 wy:∀v,S.out v=true→∃ps,xm mt S v (S.bs v) ps∧qZ mt E v ps (S.bs v)∧(zG ps (S.bs v)).Nodup∧∀x∈zG ps (S.bs v),S.out x=true∧S.bs x=S.bs v
structure Mf (N:Nat)(E:Nat→Nat→Prop)(mt:Nat→Int):Prop where
 at_:∀v,v<N→mt v= -1∨∃w:Nat,mt v=(w:Int)∧w<N
 big:∀v,¬v<N→∀w:Nat,mt v≠(w:Int)
 sy:∀v w:Nat,mt v=(w:Int)→mt w=(v:Int)
 ne:∀v w:Nat,mt v=(w:Int)→w≠v∧E v w
 es:∀v w:Nat,E v w→E w v
 el:∀v w:Nat,E v w→v<N∧w<N∧v≠w
def On (mt:Nat→Int)(S:FS)(xs:List Nat)(to:Nat)(y:Nat):Prop:=(S.out y=true∧(S.bs y∈xs∨S.bs y=to))∨(S.out y=false∧∃x∈xs,mt x=(y:Int))
theorem Yb {N:Nat}{E:Nat→Nat→Prop}{mt:Nat→Int}{S:FS}(M:Mf N E mt)(I:qb N E mt S){d:Nat→Nat}(hd:∀b m:Nat,S.out b=true→S.bs b=b→mt b=(m:Int)→d (S.bs (S.pr m))<d b){c to:Nat}{xs:List Nat}(h:ZA mt S c to xs):
    (S.bs to=to)→∀v,S.out v=true→S.bs v=c→(∀x∈xs,d to<d x∧d x≤d c∧S.out x=true∧S.bs x=x)∧∃ps,xm mt S v to ps∧qZ mt E v ps to∧(zG ps to).Nodup∧∀y∈zG ps to,On mt S xs to y:=by
  induction h with
  | here b=>
    intro hb v hv hc
    obtain⟨ps,h1,h2,h3,h4⟩:=I.wy v hv
    rw[hc] at h1 h2 h3 h4
    exact⟨by simp,ps,h1,h2,h3,fun y hy=> .inl ⟨(h4 y hy).1,.inr (h4 y hy).2⟩⟩
  | @up x m to xs hne hm hch ih=>
    intro hb v hv hc
    obtain⟨b1,b2,b3,b4⟩:=I.bo v hv
    rw[hc] at b1 b2 b3 b4
    have hmo:=I.bm x m b1 b3 hm
    have hl:S.lab m=2:=by
      rcases I.ev x b2 with h|⟨m',h1,h2⟩
      · omega
      · obtain rfl:m'=m:=by omega
        exact h2
    obtain⟨_,x',k1,k2,k3,k4,k5,k6⟩:=I.od m hl
    obtain⟨i1,qs,q1,q2,q3,q4⟩:=ih hb (S.pr m) k4 rfl
    have hdx:=hd x m b1 b3 hm
    have hdto:d to≤d (S.bs (S.pr m)):=by
      cases hch with
      |here=>exact Nat.le_refl _
      |up=>exact Nat.le_of_lt (i1 _ (by simp)).1
    have i2:∀y∈xs,d y<d x:=fun y hy=>by have:=(i1 y hy).2.1;omega
    obtain⟨ps,p1,p2,p3,p4⟩:=I.wy v hv
    rw[hc] at p1 p2 p3 p4
    have hmx:=M.sy x m hm
    have hxin:x∉zG qs to:=fun h=>by
      rcases q4 x h with⟨_,h|h⟩|⟨h,_⟩
      · rw[b3] at h;have:=i2 x h;omega
      · rw[b3] at h;omega
      · rw[b1] at h;cases h
    have hmin:m∉zG qs to:=fun h=>by
      rcases q4 m h with⟨h,_⟩|⟨_,y,hy,h⟩
      · rw[hmo] at h;cases h
      · have:=M.sy y m h
        obtain rfl:y=x:=by omega
        have:=i2 y hy;omega
    have hpq:∀y∈zG ps x,y∉zG qs to:=fun y hy h=>by
      obtain⟨y1,y2⟩:=p4 y hy
      rcases q4 y h with⟨_,h|h⟩|⟨h,_⟩
      · rw[y2] at h;have:=i2 x h;omega
      · rw[y2] at h;omega
      · rw[y1] at h;cases h
    have hmp:m∉zG ps x:=fun h=>by have:=(p4 m h).1;rw[hmo] at this;cases this
    have hto:to∉jC ps:=fun h=>by
      have:=(p4 to (List.mem_append.2 (.inl h))).2
      exact hne (by omega)
    refine⟨fun y hy=>?_,ps++((x,m)::qs),p1.app (.even hne b2 hm hl q1) hto,p2.app (.cons hm k5 q2),?_,?_⟩
    · rcases List.mem_cons.1 hy with rfl|hy
      · exact⟨by omega,Nat.le_refl _,b1,b3⟩
      · have:=i1 y hy
        exact⟨this.1,by omega,this.2.2⟩
    · have e:zG (ps++((x,m)::qs)) to=zG ps x++(m::zG qs to):=by simp[zG,qe,jm]
      rw[e]
      refine List.nodup_append.2 ⟨p3,List.nodup_cons.2 ⟨hmin,q3⟩,?_⟩
      intro y hy z hz e
      subst e
      rcases List.mem_cons.1 hz with rfl|hz
      · exact hmp hy
      · exact hpq y hy hz
    · have e:zG (ps++((x,m)::qs)) to=zG ps x++(m::zG qs to):=by simp[zG,qe,jm]
      rw[e]
      intro y hy
      rcases List.mem_append.1 hy with hy|hy
      · exact .inl ⟨(p4 y hy).1,.inl (by rw[(p4 y hy).2];simp)⟩
      · rcases List.mem_cons.1 hy with rfl|hy
        · exact .inr ⟨hmo,x,by simp,hm⟩
        · rcases q4 y hy with⟨h1,h2|h2⟩|⟨h1,y',h2,h3⟩
          · exact .inl ⟨h1,.inl (List.mem_cons_of_mem _ h2)⟩
          · exact .inl ⟨h1,.inr h2⟩
          · exact .inr ⟨h1,y',List.mem_cons_of_mem _ h2,h3⟩
end Go.Ga.Gl
