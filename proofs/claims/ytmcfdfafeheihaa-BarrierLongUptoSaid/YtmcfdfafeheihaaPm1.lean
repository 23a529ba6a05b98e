/- Of graphs that are long, or have many edges: the set that is told shows what an engine tells. -/
import Derived.Test.YtmcfdfafeheihaaRows
import Derived.Test.YtmcfdfafeheihaaGbmhkjf5
set_option linter.all false

namespace Go.Proofs.Ytmcfdfafeheihaa
open Go Go.Ga
theorem mix :Try.prog.follows .mixedOrders=true:=by kernel_rfl
def zdS :List zm:=[oO 8]
def zdR :List zm:=[oM 17 0,oM 18 1,oM 19 2,oC3 20 22 17 18 19,(none,.alloc 9 [.int .i64 0,.slice none 0 0]),oW 9 20 2]
def KB :List zm:=[oM 21 3,oE 22 21,oB 23 .gtr 22 2]
def zdQ :List zm:=[oM 24 0,oM 25 3,(none,.call 26 (.f 8) [(.t 24,false),(.t 25,false),(.c (.int .i64 60),false),(.c (.int .i64 70),false)]),oW 9 26 2]
def KA :List zm:=[oT 28 9 2,oC 29 18 28,oM 27 29,oY 30 27 0,oY 31 27 1,oS 10 30,oS 11 31]
def Kz :List zm:=[oT 33 9 2,oC 34 23 33,oM 32 34,oY 35 32 0,oY 36 32 1,oY 37 32 2,(none,.alloc 13 [.int .i64 0,.int .i64 0]),oS 12 35,oW 13 36 2,oS 14 37]
def w6 :List zm:=[oT 39 9 2,oC 40 10 39,oM 38 40,oY 41 38 0,oY 42 38 1,oS 15 41,oS 16 42]
def w5 :List zm:=[(none,.call 43 (.f 13) []),oM 44 43,oK 44 true 45 11,KJ 44 true 46 .eql 45 0,oP 47 44 46,oM 48 47,oK 48 true 49 14,KJ 48 true 50 .eql 49 0,oP 51 48 50,oM 52 51,oK 52 true 53 16,KJ 52 true 54 .eql 53 0,oP 55 52 54,oM 56 55,oK 56 true 57 10,(some (56,true),
 .call 58 (.f 21) [(.t 57,false)]),oP 59 56 58,oM 60 59,(some (60,true),.r (.ld 61 (.t 9) 2 true)),oK 60 true 62 12,oK 60 true 63 10,(some (60,true),.call 64 (.f 24) [(.t 61,false),(.t 62,false),(.t 63,false)]),oP 65 60 64,oM 66 65,oK 66 true 67 15,oK 66 true 68 12,(some (66,true),.call 69 (.f 14) [(.t 68,
 false)]),WL 66 true 70 .eql 67 69,oP 71 66 70,oS 8 71]
def Yt :List Nat:=[0,1,2,3,8,9,10,11,12,14,15,16,23]
def znb :zC:=.seq (.reg Yt zdS Yt) (.seq (.reg [0,1,2,3,8,10,11,12,14,15,16,23] zdR Yt) (.seq (.seq (.reg [0,1,2,3,8,9,10,11,12,14,15,16] KB Yt) (.cond (.t 23) (.reg Yt zdQ Yt) .skip)) (.seq (.reg Yt KA Yt) (.seq (.reg Yt Kz Yt) (.seq (.reg Yt w6 Yt) (.seq (.reg Yt w5 Yt) .ret))))))
abbrev zmX :Nat:=7
theorem zm3 :jQ Try.prog Try.f7.ntmps 4 [8] Yt [(.tmp 8)] znb zmX:=jR mix Try.func7 (by kernel_rfl) rfl
def zdP :List zm:=[(none,.alloc 8 [.int .i64 0,.slice none 0 0])]
def zdO :List zm:=[oM 13 0,(none,.r (.conv 14 .u64 (.t 13))),oM 15 2,oB 16 .add 15 1,(none,.r (.conv 17 .u64 (.t 16))),oD 18 .rem 14 17,(none,.r (.conv 19 .i64 (.t 18))),oS 0 19]
def zdN :List zm:=[oM 20 0,(none,.bld 21 [((0,1),(.t 20,true))] [.int .i64 0,.slice none 0 0]),(none,.alloc 9 [.int .i64 0,.slice none 0 0]),oW 9 21 2]
def zdM :List zm:=[oI 10 0]
def Yo :List zm:=[oM 22 10,oB 23 .add 22 1,oM 24 1,oE 25 24,oD 26 .lss 23 25,oM 27 26,(some (27,true),.r (.fldA 28 (.t 9) 1)),QB 27 true 29 28 1,(some (27,true),.r (.len 30 (.t 29))),oK 27 true 31 3,WL 27 true 32 .lss 30 31,oP 33 27 32,oM 34 33,oK 34 true 35 0,KJ 34 true 36 .gtr 35 0,
 oP 37 34 36,oM 38 37,oK 38 true 39 10,KJ 38 true 40 .lss 39 400,oP 41 38 40]
def zdL :Zh:=.take [20,21,22,23,25,26] (oT 45 9 2) (.take [3,4,5,8,9,20,21,22,23,25,26] (oM 46 1) (.take [3,4,5,8,9,20,21,22,23,25,26] (oM 47 10) (.take [4,5,8,9,20,21,22,23,25,26] (oX 48 46 47 1) (.take [5,8,9,20,21,22,23,25,26] (oL 49 48 1) (.take [8,9,20,21,22,23,25,26] (none,
 .r (.conv 50 .u64 (.t 49))) (.take [7,8,9,20,21,22,23,25,26] (oM 51 0) (.take [8,9,20,21,22,23,25,26] (none,.r (.conv 52 .u64 (.t 51))) (.take [9,20,21,22,23,25,26] (oD 53 .rem 50 52) (.take [20,21,22,23,25,26] (none,.r (.conv 54 .i64 (.t 53))) (.take [13,14,15,18,19,20,21,22,23,25,26] (oM 55 1) (.take [12,
 13,14,15,18,19,20,21,22,23,25,26] (oM 56 10) (.take [13,14,15,18,19,20,21,22,23,25,26] (oB 57 .add 56 1) (.take [14,15,18,19,20,21,22,23,25,26] (oX 58 55 57 1) (.take [15,18,19,20,21,22,23,25,26] (oL 59 58 1) (.take [18,19,20,21,22,23,25,26] (none,.r (.conv 60 .u64 (.t 59))) (.take [17,18,19,20,21,22,
 23,25,26] (oM 61 0) (.take [18,19,20,21,22,23,25,26] (none,.r (.conv 62 .u64 (.t 61))) (.take [19,20,21,22,23,25,26] (oD 63 .rem 60 62) (.take [20,21,22,23,25,26] (none,.r (.conv 64 .i64 (.t 63))) (.two 20 (oC3 65 25 45 54 64) (.take [22,23,25,26] (oM 44 65) (.take [25,26] (oY 66 44 0) (.take [26] (oY 67 44 1) (.one 24 (none,
 .alloc 11 [.int .i64 0,.slice none 0 0]) (.one 25 (oW 11 66 2) (.one 26 (oS 12 67) .done)))))) 24 (none,.alloc 11 [.int .i64 0,.slice none 0 0]) (.one 20 (oC3 65 25 45 54 64) (.take [22,23,25,26] (oM 44 65) (.take [25,26] (oY 66 44 0) (.take [26] (oY 67 44 1) (.one 25 (oW 11 66 2) (.one 26 (oS 12 67) .done))))))))))))))))))))))))))
def wZ :List zm:=[oM 68 12,oB 69 .eql 68 0]
def Ky :List zm:=[oT 70 11 2,oW 9 70 2]
def wY :List zm:=[oM 42 10,oB 43 .add 42 2,oS 10 43]
def wX :List zm:=[oT 71 9 2,oW 8 71 2]
def yg :List Nat:=[0,1,2,3,8,9,10,11,12,41,69]
def zna :zC:=.seq (.reg [0,1,2,3,9,10,11,12,41,69] zdP yg) (.seq (.reg yg zdO yg) (.seq (.reg [0,1,2,3,8,10,11,12,41,69] zdN yg) (.seq (.seq (.reg yg zdM yg) (.blk 0 (.loop (.seq (.seq (.reg [0,
 1,2,3,8,9,10,11,12,69] Yo yg) (.cond (.t 41) .skip (.exit 0))) (.seq (.blk 1 (.seq (.draw [0,1,2,3,8,9,10,12,41,69] zdL yg) (.seq (.reg [0,1,2,3,8,9,10,11,12,41] wZ yg) (.cond (.t 69) (.reg yg Ky yg) .skip)))) (.reg yg wY yg)))))) (.seq (.reg yg wX yg) .ret))))
abbrev zmW :Nat:=8
theorem zm2 :jQ Try.prog Try.f8.ntmps 4 [] yg [(.cell 8 2 true)] zna zmW:=jR mix Try.func8 (by kernel_rfl) rfl
def zbI :List zm:=[(none,.box 1 (.t 0)),oI 2 0,oI 3 0]
def zbH :List zm:=[oT 8 1 2,oC 9 23 8,oM 7 9,oY 10 7 0,oY 11 7 1,oY 12 7 2,(none,.alloc 5 [.int .i64 0,.int .i64 0]),oS 4 10,oW 5 11 2,oS 6 12]
def UR :List zm:=[oM 13 4,oC 14 26 13,oM 15 6,oS 2 14,oS 3 15]
def Xd :List Nat:=[0,1,2,3,4,6]
def zk7 :zC:=.seq (.reg [0,2,3,4,6] zbI Xd) (.seq (.reg Xd zbH Xd) (.seq (.reg Xd UR Xd) .ret))
abbrev zj5 :Nat:=10
theorem zmz :jQ Try.prog Try.f10.ntmps 1 [2,3] Xd [(.tmp 2),(.tmp 3)] zk7 zj5:=jR mix Try.func10 (by kernel_rfl) rfl
def UQ :List zm:=[(none,.box 2 (.t 0)),oI 4 0,oI 5 0]
def UP :List zm:=[oT 11 2 2,oC 12 27 11,(none,.r (.notb 13 (.t 12)))]
def zbG :List zm:=[oI 4 0,oI 5 3]
def zbF :List zm:=[oM 14 1,oE 15 14,(none,.r (.mov 16 (.c (.int .i64 0))))]
def UO :List zm:=[oD 17 .lss 16 15]
def zbE :List zm:=[oX 18 14 16 1,oL 19 18 1,oS 7 19]
def Wr :List zm:=[oM 20 7,oB 21 .lss 20 0,oM 22 21,oK 22 false 23 7,(some (22,false),.r (.fldA 24 (.t 2) 0)),QB 22 false 25 24 1,WL 22 false 26 .geq 23 25,oQ 27 22 26]
def UN :List zm:=[oI 4 0,oI 5 4]
def zbD :List zm:=[oB 28 .add 16 1,oS 16 28]
def zbC :List zm:=[oF 29 2 0,oL 30 29 1,(none,.mk 31 (.t 30) (.t 30) 1 1 [.bool false]),oS 8 31]
def kR :List zm:=[oM 32 1,oE 33 32,(none,.r (.mov 34 (.c (.int .i64 0))))]
def xg :List zm:=[oD 35 .lss 34 33]
def kQ :List zm:=[oX 36 32 34 1,oL 37 36 1,oS 10 37]
def xf :List zm:=[oM 38 8,oM 39 10,oX 40 38 39 1,oL 41 40 1]
def kP :List zm:=[oI 4 0,oI 5 6]
def kO :List zm:=[oM 42 8,oM 43 10,oX 44 42 43 1,(none,.st (.t 44) (.c (.bool true)) 1)]
def kN :List zm:=[oB 45 .add 34 1,oS 34 45]
def kM :List zm:=[oF 46 2 0,oL 47 46 1,oF 48 2 1,oL 49 48 1,qx 50 29 47 49,oM 51 1,qx 52 28 50 51,oS 4 52,oI 5 0]
def ZU :List Nat:=[0,1,2,4,5,7,8,10,13,14,15,16,17,27,32,33,34,35,41]
def zhD :zC:=.seq (.reg [0,1,4,5,7,8,10,13,14,15,16,17,27,32,33,34,35,41] UQ ZU) (.seq (.seq (.reg [0,1,2,4,5,7,8,10,14,15,16,17,27,32,33,34,35,41] UP ZU) (.cond (.t 13) (.seq (.reg ZU zbG ZU) .ret) .skip)) (.seq (.seq (.reg [0,
 1,2,4,5,7,8,10,13,17,27,32,33,34,35,41] zbF ZU) (.blk 0 (.loop (.seq (.reg [0,1,2,4,5,7,8,10,13,14,15,16,27,32,33,34,35,41] UO ZU) (.seq (.cond (.t 17) .skip (.exit 0)) (.seq (.blk 1 (.seq (.reg ZU zbE ZU) (.seq (.reg [0,
 1,2,4,5,7,8,10,13,14,15,16,17,32,33,34,35,41] Wr ZU) (.cond (.t 27) (.seq (.reg ZU UN ZU) .ret) .skip)))) (.reg ZU zbD ZU))))))) (.seq (.reg ZU zbC ZU) (.seq (.seq (.reg [0,
 1,2,4,5,7,8,10,13,14,15,16,17,27,35,41] kR ZU) (.blk 2 (.loop (.seq (.reg [0,1,2,4,5,7,8,10,13,14,15,16,17,27,32,33,34,41] xg ZU) (.seq (.cond (.t 35) .skip (.exit 2)) (.seq (.blk 3 (.seq (.reg ZU kQ ZU) (.seq (.seq (.reg [0,
 1,2,4,5,7,8,10,13,14,15,16,17,27,32,33,34,35] xf ZU) (.cond (.t 41) (.seq (.reg ZU kP ZU) .ret) .skip)) (.reg ZU kO ZU)))) (.reg ZU kN ZU))))))) (.seq (.reg ZU kM ZU) .ret)))))
abbrev zj4 :Nat:=11
theorem zg4 :jQ Try.prog Try.f11.ntmps 2 [4,5] ZU [(.tmp 4),(.tmp 5)] zhD zj4:=jR mix Try.func11 (by kernel_rfl) rfl
def zbB :List zm:=[oO 0]
def zbA :List zm:=[(none,.bld 4 [((0,1),(.c (.int .i64 0),true)),((1,1),(.c (.int .i64 1),true))] [.int .i64 0,.int .i64 0]),(none,.bld 5 [((0,1),(.c (.int .i64 0),true)),((1,1),(.c (.int .i64 2),true))] [.int .i64 0,.int .i64 0]),(none,.bld 6 [((0,1),(.c (.int .i64 0),true)),((1,
 1),(.c (.int .i64 3),true))] [.int .i64 0,.int .i64 0]),(none,.blds 7 3 2 [((0,2),(.t 4,true)),((2,2),(.t 5,true)),((4,2),(.t 6,true))] [.int .i64 0,.int .i64 0]),(none,.bld 8 [((0,1),(.c (.int .i64 4),true)),((1,1),(.t 7,true))] [.int .i64 0,.slice none 0 0]),(none,.alloc 1 [.int .i64 0,.slice none 0 0]),
 oW 1 8 2]
def zbz :List zm:=[oT 10 1 2,(none,.blds 11 1 1 [((0,1),(.c (.int .i64 0),true))] [.int .i64 0]),qx 12 11 10 11,oM 9 12,oY 13 9 0,oY 14 9 1,oS 2 13,oS 3 14]
def zby :List zm:=[oM 15 3,oB 16 .eql 15 0,oM 17 16,oK 17 true 18 2,KJ 17 true 19 .eql 18 2,oP 20 17 19,oM 21 20,(some (21,true),.r (.ld 22 (.t 1) 2 true)),(some (21,true),.blds 23 4 1 [((0,1),(.c (.int .i64 1),true)),((1,1),(.c (.int .i64 0),true)),((2,1),(.c (.int .i64 (- (0+1))),
 true)),((3,1),(.c (.int .i64 (- (0+1))),true))] [.int .i64 0]),(some (21,true),.blds 24 1 1 [((0,1),(.c (.int .i64 0),true))] [.int .i64 0]),(some (21,true),.call 25 (.f 15) [(.t 22,false),(.t 23,false),(.t 24,false)]),oP 26 21 25,oS 0 26]
def wz :List Nat:=[0,1,2,3]
def zk6 :zC:=.seq (.reg wz zbB wz) (.seq (.reg [0,2,3] zbA wz) (.seq (.reg wz zbz wz) (.seq (.reg wz zby wz) .ret)))
abbrev zj3 :Nat:=13
theorem zmy :jQ Try.prog Try.f13.ntmps 0 [0] wz [(.tmp 0)] zk6 zj3:=jR mix Try.func13 (by kernel_rfl) rfl
def zbx :List zm:=[oI 2 0]
def zbw :List zm:=[oM 3 0,oC 4 30 3,oE 5 4,oS 2 5]
def vC :List Nat:=[0,2]
def zk5 :zC:=.seq (.reg vC zbx vC) (.seq (.reg vC zbw vC) .ret)
abbrev zj2 :Nat:=14
theorem zmx :jQ Try.prog Try.f14.ntmps 1 [2] vC [(.tmp 2)] zk5 zj2:=jR mix Try.func14 (by kernel_rfl) rfl
def zbv :List zm:=[(none,.box 3 (.t 0)),oO 6]
def zbu :List zm:=[oT 10 3 2,oM 11 2,qx 12 11 10 11,oM 9 12,oY 13 9 0,oY 14 9 1,oS 7 13,oS 8 14]
def Wq :Zh:=.take [1,2,3,4,5,6,7,8,9,10,11,12,13,14,15,16,17] (oM 15 8) (.take [2,3,4,5,6,7,8,9,10,11,12,13,14,15,16,17] (oB 16 .eql 15 0) (.take [3,4,5,6,7,8,9,10,11,12,13,14,15,16,17] (oM 17 16) (.take [5,6,7,8,9,10,11,12,13,14,15,16,17] (some (17,true),.r (.ld 18 (.t 3) 2 true)) (.take [5,
 6,7,8,9,10,11,12,13,14,15,16,17] (oK 17 true 19 1) (.one 5 (some (17,true),.call 20 (.f 31) [(.t 18,false),(.t 19,false)]) (.take [7,8,9,10,11,12,13,14,15,16,17] (oP 21 17 20) (.take [8,9,10,11,12,13,14,15,16,17] (oM 22 21) (.take [9,10,15,16,17] (oK 22 true 23 1) (.take [12,14,15,16,17] (some (22,true),
 .r (.fldA 26 (.t 3) 0)) (.take [14,15,16,17] (QB 22 true 27 26 1) (.take [14,15,16,17] (oK 22 true 28 7) (.take [15,16,17] (WL 22 true 29 .sub 27 28) (.one 9 (some (22,true),.call 24 (.f 26) [(.t 23,false)]) (.take [15,16,17] (some (22,true),.r (.bin 25 .mul 0 (.c (.int .i64 2)) (.t 24))) (.take [16,
 17] (WL 22 true 30 .eql 25 29) (.take [17] (oP 31 22 30) (.one 17 (oS 6 31) .done)))))))))))))))))
def Xc :List Nat:=[0,1,2,3,6,7,8]
def zk4 :zC:=.seq (.reg [0,1,2,6,7,8] zbv Xc) (.seq (.reg Xc zbu Xc) (.seq (.draw Xc Wq Xc) .ret))
abbrev zj1 :Nat:=15
theorem zmw :jQ Try.prog Try.f15.ntmps 3 [6] Xc [(.tmp 6)] zk4 zj1:=jR mix Try.func15 (by kernel_rfl) rfl
def zbt :List zm:=[(none,.box 1 (.t 0)),oZ 2,oI 3 0]
def zbs :List zm:=[oT 8 1 2,oC 9 32 8,oM 7 9,oY 10 7 0,oY 11 7 1,oY 12 7 2,oS 4 10,oS 5 11,oS 6 12]
def UM :List zm:=[oM 13 6,oB 14 .neq 13 0]
def zhC :List zm:=[oM 15 6,oZ 2,oS 3 15]
def UL :List zm:=[oM 16 4,(none,.call 17 (.f 33) [(.t 16,false),(.c (.int .i64 2),false)]),oS 2 17,oI 3 0]
def YE :List Nat:=[0,1,2,3,4,5,6,14]
def zk3 :zC:=.seq (.reg [0,2,3,4,5,6,14] zbt YE) (.seq (.reg YE zbs YE) (.seq (.seq (.reg [0,1,2,3,4,5,6] UM YE) (.cond (.t 14) (.seq (.reg YE zhC YE) .ret) .skip)) (.seq (.reg YE UL YE) .ret)))
abbrev zj0 :Nat:=18
theorem zmv :jQ Try.prog Try.f18.ntmps 1 [2,3] YE [(.tmp 2),(.tmp 3)] zk3 zj0:=jR mix Try.func18 (by kernel_rfl) rfl
def UK :List zm:=[(none,.box 2 (.t 0)),oI 4 0,oI 5 0]
def UJ :List zm:=[oT 8 2 2,oC 9 34 8,(none,.r (.notb 10 (.t 9)))]
def zbr :List zm:=[oI 4 0,oI 5 3]
def zbq :List zm:=[oI 6 0]
def UI :List zm:=[oM 11 6,oM 12 1,oE 13 12,oD 14 .lss 11 13]
def UH :Zh:=.take [5,6] (oT 17 2 2) (.take [3,4,5,6] (oM 18 1) (.take [3,4,5,6] (oM 19 6) (.take [4,5,6] (oX 20 18 19 1) (.take [5,6] (oL 21 20 1) (.one 5 (qx 22 35 17 21) (.take [] (none,.r (.notb 23 (.t 22))) .done))))))
def zbp :List zm:=[oI 4 0,oI 5 4]
def zbo :List zm:=[oM 15 6,oB 16 .add 15 1,oS 6 16]
def zbn :List zm:=[oI 7 0]
def UG :List zm:=[oM 24 7,oM 25 1,oE 26 25,oD 27 .lss 24 26]
def xe :Zh:=.take [2,7] (oM 30 1) (.take [2,7] (oM 31 7) (.take [5,6,7] (oM 33 1) (.take [5,6,7] (oM 34 7) (.take [6,7] (oX 35 33 34 1) (.take [7] (oL 36 35 1) (.one 2 (none,.slc 32 (.t 30) none (some (.t 31)) 1) (.one 7 (qx 37 36 32 36) .done)))))))
def kL :List zm:=[oI 4 0,oI 5 6]
def kK :List zm:=[oM 28 7,oB 29 .add 28 1,oS 7 29]
def kJ :List zm:=[oT 38 2 2,oM 39 1,qx 40 37 38 39,oM 41 1,oE 42 41,oD 43 .sub 40 42,oS 4 43,oI 5 0]
def jr :List Nat:=[0,1,2,4,5,6,7,10,14,23,27,37]
def zhB :zC:=.seq (.reg [0,1,4,5,6,7,10,14,23,27,37] UK jr) (.seq (.seq (.reg [0,1,2,4,5,6,7,14,23,27,37] UJ jr) (.cond (.t 10) (.seq (.reg jr zbr jr) .ret) .skip)) (.seq (.seq (.reg jr zbq jr) (.blk 0 (.loop (.seq (.seq (.reg [0,
 1,2,4,5,6,7,10,23,27,37] UI jr) (.cond (.t 14) .skip (.exit 0))) (.seq (.blk 1 (.seq (.draw [0,1,2,4,5,6,7,10,14,27,37] UH jr) (.cond (.t 23) (.seq (.reg jr zbp jr) .ret) .skip))) (.reg jr zbo jr)))))) (.seq (.seq (.reg jr zbn jr) (.blk 2 (.loop (.seq (.seq (.reg [0,
 1,2,4,5,6,7,10,14,23,37] UG jr) (.cond (.t 27) .skip (.exit 2))) (.seq (.blk 3 (.seq (.draw [0,1,2,4,5,6,7,10,14,23,27] xe jr) (.cond (.t 37) (.seq (.reg jr kL jr) .ret) .skip))) (.reg jr kK jr)))))) (.seq (.reg jr kJ jr) .ret))))
abbrev zjZ :Nat:=19
theorem zg3 :jQ Try.prog Try.f19.ntmps 2 [4,5] jr [(.tmp 4),(.tmp 5)] zhB zjZ:=jR mix Try.func19 (by kernel_rfl) rfl
def zbm :List zm:=[oO 2]
def zbl :List zm:=[oI 3 1]
def zbk :List zm:=[oM 4 3,oM 5 0,oE 6 5,oD 7 .lss 4 6]
def zbj :Zh:=.take [2,3,9] (oM 10 0) (.take [2,3,9] (oM 11 3) (.take [3,9] (oX 12 10 11 1) (.take [9] (oL 13 12 1) (.take [7,8,9] (oM 14 0) (.take [6,7,8,9] (oM 15 3) (.take [7,8,9] (oB 16 .sub 15 1) (.take [8,9] (oX 17 14 16 1) (.take [9] (oL 18 17 1) (.take [] (oD 19 .leq 13 18) .done)))))))))
def zhA :List zm:=[oO 2]
def zbi :List zm:=[oM 8 3,oB 9 .add 8 1,oS 3 9]
def zbh :List zm:=[(none,.asg 2 (.c (.bool true)) true)]
def qD :List Nat:=[0,2,3,7,19]
def zk2 :zC:=.seq (.reg qD zbm qD) (.seq (.seq (.reg qD zbl qD) (.blk 0 (.loop (.seq (.seq (.reg [0,2,3,19] zbk qD) (.cond (.t 7) .skip (.exit 0))) (.seq (.blk 1 (.seq (.draw [0,
 2,3,7] zbj qD) (.cond (.t 19) (.seq (.reg qD zhA qD) .ret) .skip))) (.reg qD zbi qD)))))) (.seq (.reg qD zbh qD) .ret))
abbrev zjY :Nat:=21
theorem zmu :jQ Try.prog Try.f21.ntmps 1 [2] qD [(.tmp 2)] zk2 zjY:=jR mix Try.func21 (by kernel_rfl) rfl
def zbg :List zm:=[(none,.alloc 6 [.int .i64 0,.slice none 0 0])]
def zbf :List zm:=[oM 14 0,(none,.r (.conv 15 .u64 (.t 14))),(none,.r (.bin 16 .rem 0 (.t 15) (.c (.int .u64 300)))),(none,.r (.conv 17 .i64 (.t 16))),(none,.r (.bin 18 .add 0 (.c (.int .i64 3)) (.t 17))),oS 0 18]
def zbe :List zm:=[oM 19 1,(none,.r (.conv 20 .u64 (.t 19))),oM 21 0,(none,.r (.conv 22 .u64 (.t 21))),oD 23 .rem 20 22,(none,.r (.conv 24 .i64 (.t 23))),(none,.r (.bin 25 .add 0 (.c (.int .i64 2)) (.t 24))),oS 1 25]
def zbd :List zm:=[oZ 7]
def zbc :List zm:=[oM 26 0,(none,.bld 27 [((0,1),(.t 26,true))] [.int .i64 0,.slice none 0 0]),(none,.alloc 8 [.int .i64 0,.slice none 0 0]),oW 8 27 2]
def zbb :List zm:=[oI 9 0]
def UF :List zm:=[oM 28 9,oM 29 0,oD 30 .lss 28 29]
def zba :List zm:=[oM 33 7,oM 34 9,oM 35 9,oB 36 .add 35 1,oM 37 0,oD 38 .rem 36 37,(none,.bld 39 [((0,1),(.t 34,true)),((1,1),(.t 38,true))] [.int .i64 0,.int .i64 0]),(none,.blds 40 1 2 [((0,2),(.t 39,true))] [.int .i64 0,.int .i64 0]),(none,.app 41 (.t 33) (.t 40) 2 16),oS 7 41]
def za9 :List zm:=[oM 31 9,oB 32 .add 31 1,oS 9 32]
def za8 :List zm:=[oI 10 0]
def xd :List zm:=[oM 42 10,oM 43 2,(none,.r (.conv 44 .u64 (.t 43))),(none,.r (.bin 45 .rem 0 (.t 44) (.c (.int .u64 60)))),(none,.r (.conv 46 .i64 (.t 45))),oD 47 .lss 42 46]
def kI :Zh:=.take [13,14] (oM 50 7) (.take [2,4,11,12,13,14] (oM 51 10) (.take [4,11,12,13,14] (oB 52 .mul 51 7) (.take [4,11,12,13,14] (oM 53 0) (.take [11,12,13,14] (oD 54 .rem 52 53) (.take [6,8,10,11,12,13,14] (oM 55 10) (.take [8,10,11,12,13,14] (oB 56 .mul 55 7) (.take [8,
 10,11,12,13,14] (oM 57 1) (.take [10,11,12,13,14] (oD 58 .add 56 57) (.take [10,11,12,13,14] (oM 59 0) (.take [11,12,13,14] (oD 60 .rem 58 59) (.one 11 (none,.bld 61 [((0,1),(.t 54,true)),((1,1),(.t 60,true))] [.int .i64 0,.int .i64 0]) (.one 12 (none,.blds 62 1 2 [((0,2),(.t 61,true))] [.int .i64 0,
 .int .i64 0]) (.one 13 (none,.app 63 (.t 50) (.t 62) 2 16) (.one 14 (oS 7 63) .done))))))))))))))
def kH :List zm:=[oM 48 10,oB 49 .add 48 1,oS 10 49]
def kG :List zm:=[oI 11 0]
def xc :List zm:=[oM 64 11,oM 65 7,oE 66 65,oD 67 .lss 64 66]
def kF :Zh:=.take [11,12,13,14,16,17] (oT 71 8 2) (.take [3,4,5,11,12,13,14,16,17] (oM 72 7) (.take [3,4,5,11,12,13,14,16,17] (oM 73 11) (.take [4,5,11,12,13,14,16,17] (oX 74 72 73 2) (.take [5,11,12,13,14,16,17] (oF 75 74 0) (.take [11,12,13,14,16,17] (oL 76 75 1) (.take [8,9,
 10,11,12,13,14,16,17] (oM 77 7) (.take [8,9,10,11,12,13,14,16,17] (oM 78 11) (.take [9,10,11,12,13,14,16,17] (oX 79 77 78 2) (.take [10,11,12,13,14,16,17] (oF 80 79 1) (.take [11,12,13,14,16,17] (oL 81 80 1) (.two 11 (oC3 82 25 71 76 81) (.take [13,14,16,17] (oM 70 82) (.take [16,17] (oY 83 70 0) (.take [17] (oY 84 70 1) (.one 15 (none,
 .alloc 12 [.int .i64 0,.slice none 0 0]) (.one 16 (oW 12 83 2) (.one 17 (oS 13 84) .done)))))) 15 (none,.alloc 12 [.int .i64 0,.slice none 0 0]) (.one 11 (oC3 82 25 71 76 81) (.take [13,14,16,17] (oM 70 82) (.take [16,17] (oY 83 70 0) (.take [17] (oY 84 70 1) (.one 16 (oW 12 83 2) (.one 17 (oS 13 84) .done)))))))))))))))))
def Qy :List zm:=[oM 85 13,oB 86 .eql 85 0]
def xb :List zm:=[oT 87 12 2,oW 8 87 2]
def Qx :List zm:=[oM 68 11,oB 69 .add 68 1,oS 11 69]
def kE :List zm:=[oT 88 8 2,oW 6 88 2]
def ZH :List Nat:=[0,1,2,6,7,8,9,10,11,12,13,30,47,67,86]
def zk1 :zC:=.seq (.reg [0,1,2,7,8,9,10,11,12,13,30,47,67,86] zbg ZH) (.seq (.reg ZH zbf ZH) (.seq (.reg ZH zbe ZH) (.seq (.reg ZH zbd ZH) (.seq (.reg [0,
 1,2,6,7,9,10,11,12,13,30,47,67,86] zbc ZH) (.seq (.seq (.reg ZH zbb ZH) (.blk 0 (.loop (.seq (.seq (.reg [0,1,2,6,7,8,9,10,11,12,13,47,67,86] UF ZH) (.cond (.t 30) .skip (.exit 0))) (.seq (.blk 1 (.reg ZH zba ZH)) (.reg ZH za9 ZH)))))) (.seq (.seq (.reg ZH za8 ZH) (.blk 2 (.loop (.seq (.seq (.reg [0,
 1,2,6,7,8,9,10,11,12,13,30,67,86] xd ZH) (.cond (.t 47) .skip (.exit 2))) (.seq (.blk 3 (.draw ZH kI ZH)) (.reg ZH kH ZH)))))) (.seq (.seq (.reg ZH kG ZH) (.blk 4 (.loop (.seq (.seq (.reg [0,
 1,2,6,7,8,9,10,11,12,13,30,47,86] xc ZH) (.cond (.t 67) .skip (.exit 4))) (.seq (.blk 5 (.seq (.draw [0,1,2,6,7,8,9,10,11,13,30,47,67,86] kF ZH) (.seq (.reg [0,1,2,6,7,8,9,10,11,12,13,30,47,67] Qy ZH) (.cond (.t 86) (.reg ZH xb ZH) .skip)))) (.reg ZH Qx ZH)))))) (.seq (.reg ZH kE ZH) .ret))))))))
abbrev zjX :Nat:=22
theorem zmt :jQ Try.prog Try.f22.ntmps 3 [] ZH [(.cell 6 2 true)] zk1 zjX:=jR mix Try.func22 (by kernel_rfl) rfl
def za7 :List zm:=[(none,.box 1 (.t 0)),oZ 2,(none,.alloc 3 [.int .i64 0,.int .i64 0]),oI 4 0]
def za6 :List zm:=[oT 8 1 2,oC 9 27 8,(none,.r (.notb 10 (.t 9)))]
def zhz :List zm:=[(none,.bld 11 [] [.int .i64 0,.int .i64 0]),oZ 2,oW 3 11 2,oI 4 3]
def za5 :List zm:=[oT 12 1 2,oC 13 39 12,oS 5 13]
def UE :List zm:=[oF 15 1 0,oL 16 15 1,oF 17 1 1,oL 18 17 1,qx 19 29 16 18,oM 20 5,qx 21 40 19 20,oM 14 21,oY 22 14 0,oY 23 14 1,(none,.alloc 7 [.int .i64 0,.int .i64 0]),oS 6 22,oW 7 23 2]
def UD :Zh:=.take [2,3,4] (oM 24 5) (.take [3,4] (oT 25 7 2) (.one 2 (oS 2 24) (.one 3 (oW 3 25 2) (.one 4 (oI 4 0) .done))))
def yi :List Nat:=[0,1,2,3,4,5,6,7,10]
def zk0 :zC:=.seq (.reg [0,2,4,5,6,7,10] za7 yi) (.seq (.seq (.reg [0,1,2,3,4,5,6,7] za6 yi) (.cond (.t 10) (.seq (.reg yi zhz yi) .ret) .skip)) (.seq (.reg yi za5 yi) (.seq (.reg [0,
 1,2,3,4,5,6,10] UE yi) (.seq (.draw yi UD yi) .ret))))
abbrev zjW :Nat:=23
theorem zms :jQ Try.prog Try.f23.ntmps 1 [2,4] yi [(.tmp 2),(.cell 3 2 true),(.tmp 4)] zk0 zjW:=jR mix Try.func23 (by kernel_rfl) rfl
def za4 :List zm:=[(none,.box 3 (.t 0)),oO 6]
def za3 :List zm:=[oT 10 3 2,oM 11 2,qx 12 19 10 11,oM 9 12,oY 13 9 0,oY 14 9 1,oS 7 13,oS 8 14]
def Wp :Zh:=.take [2,3,4,5,6,7,8,9,10,11,12,13,14,15,16,17] (oT 15 3 2) (.take [2,3,4,5,6,7,8,9,10,11,12,13,14,15,16,17] (oM 16 1) (.one 2 (qx 17 41 15 16) (.take [4,5,6,7,8,9,10,11,12,13,14,15,16,17] (oM 18 17) (.take [5,6,7,8,9,10,11,12,13,14,15,16,17] (oK 18 true 19 8) (.take [6,
 7,8,9,10,11,12,13,14,15,16,17] (KJ 18 true 20 .eql 19 0) (.take [7,8,9,10,11,12,13,14,15,16,17] (oP 21 18 20) (.take [8,9,10,11,12,13,14,15,16,17] (oM 22 21) (.take [9,10,15,16,17] (oK 22 true 23 1) (.take [12,14,15,16,17] (some (22,true),.r (.fldA 26 (.t 3) 0)) (.take [14,15,16,17] (QB 22 true 27 26 1) (.take [14,
 15,16,17] (oK 22 true 28 7) (.take [15,16,17] (WL 22 true 29 .sub 27 28) (.one 9 (some (22,true),.call 24 (.f 14) [(.t 23,false)]) (.take [15,16,17] (some (22,true),.r (.bin 25 .mul 0 (.c (.int .i64 2)) (.t 24))) (.take [16,17] (WL 22 true 30 .eql 25 29) (.take [17] (oP 31 22 30) (.one 17 (oS 6 31) .done)))))))))))))))))
def Xb :List Nat:=[0,1,2,3,6,7,8]
def zkZ :zC:=.seq (.reg [0,1,2,6,7,8] za4 Xb) (.seq (.reg Xb za3 Xb) (.seq (.draw Xb Wp Xb) .ret))
abbrev zdv :Nat:=24
theorem zmr :jQ Try.prog Try.f24.ntmps 3 [6] Xb [(.tmp 6)] zkZ zdv:=jR mix Try.func24 (by kernel_rfl) rfl
def za2 :List zm:=[(none,.box 3 (.t 0)),(none,.alloc 6 [.int .i64 0,.slice none 0 0]),oI 7 0]
def za1 :List zm:=[oT 9 3 2,oC 10 34 9,(none,.r (.notb 11 (.t 10))),oS 8 11]
def zhy :List zm:=[(none,.bld 12 [] [.int .i64 0,.slice none 0 0]),oW 6 12 2,oI 7 3]
def y4 :List zm:=[oT 14 3 2,oM 15 1,qx 16 35 14 15,(none,.r (.notb 17 (.t 16))),oM 18 17,(some (18,false),.r (.ld 19 (.t 3) 2 true)),oK 18 false 20 2,(some (18,false),.call 21 (.f 35) [(.t 19,false),(.t 20,false)]),(some (18,false),.r (.notb 22 (.t 21))),oQ 23 18 22,oS 13 23]
def yZ :List zm:=[(none,.bld 24 [] [.int .i64 0,.slice none 0 0]),oW 6 24 2,oI 7 4]
def UC :List zm:=[oM 26 1,oM 27 2,oD 28 .eql 26 27,oS 25 28]
def za0 :List zm:=[(none,.bld 29 [] [.int .i64 0,.slice none 0 0]),oW 6 29 2,oI 7 5]
def zaZ :List zm:=[oT 31 3 2,oM 32 1,oM 33 2,oC3 34 42 31 32 33,oS 30 34]
def zaY :List zm:=[(none,.bld 35 [] [.int .i64 0,.slice none 0 0]),oW 6 35 2,oI 7 6]
def UB :List zm:=[oF 37 3 1,oL 38 37 1,oE 39 38,oB 40 .geq 39 65536,oS 36 40]
def kD :List zm:=[(none,.bld 41 [] [.int .i64 0,.slice none 0 0]),oW 6 41 2,oI 7 8]
def kC :Zh:=.take [1,8,9,10] (oF 42 3 0) (.take [8,9,10] (oL 43 42 1) (.take [3,7,8,9,10] (oF 44 3 1) (.take [7,8,9,10] (oL 45 44 1) (.take [6,7,8,9,10] (oM 46 1) (.take [6,7,8,9,10] (oM 47 2) (.one 6 (qx 48 44 46 47) (.one 7 (qx 49 43 45 48) (.one 8 (none,.bld 50 [((0,1),(.t 43,
 true)),((1,1),(.t 49,true))] [.int .i64 0,.slice none 0 0]) (.one 9 (oW 6 50 2) (.one 10 (oI 7 0) .done))))))))))
def jq :List Nat:=[0,1,2,3,6,7,8,13,25,30,36]
def zkY :zC:=.seq (.reg [0,1,2,7,8,13,25,30,36] za2 jq) (.seq (.blk 0 (.seq (.reg jq za1 jq) (.cond (.t 8) (.seq (.reg jq zhy jq) .ret) (.seq (.reg jq y4 jq) (.cond (.t 13) (.seq (.reg jq yZ jq) .ret) (.seq (.reg jq UC jq) (.cond (.t 25) (.seq (.reg jq za0 jq) .ret) (.seq (.reg jq zaZ jq) (.cond (.t 30) (.seq (.reg jq zaY jq) .ret) (.seq (.reg jq UB jq) (.cond (.t 36) (.seq (.reg jq kD jq) .ret) .skip))))))))))) (.seq (.draw jq kC jq) .ret))
abbrev zjV :Nat:=25
theorem zmq :jQ Try.prog Try.f25.ntmps 3 [7] jq [(.cell 6 2 true),(.tmp 7)] zkY zjV:=jR mix Try.func25 (by kernel_rfl) rfl
def zaX :List zm:=[oI 2 0]
def zaW :List zm:=[oM 3 0,(none,.call 4 (.f 45) [(.t 3,false),(.f 46,false)]),oE 5 4,oB 6 .quo 5 2,oS 2 6]
def vB :List Nat:=[0,2]
def zkX :zC:=.seq (.reg vB zaX vB) (.seq (.reg vB zaW vB) .ret)
abbrev zjU :Nat:=26
theorem zmp :jQ Try.prog Try.f26.ntmps 1 [2] vB [(.tmp 2)] zkX zjU:=jR mix Try.func26 (by kernel_rfl) rfl
def zaV :List zm:=[(none,.box 1 (.t 0)),oO 2]
def yY :List zm:=[oF 6 1 0,oL 7 6 1,oB 8 .lss 7 0,oM 9 8,(some (9,false),.r (.fldA 10 (.t 1) 0)),QB 9 false 11 10 1,KJ 9 false 12 .gtr 11 4096,oQ 13 9 12,oM 14 13,(some (14,false),.r (.fldA 15 (.t 1) 1)),QB 14 false 16 15 1,(some (14,false),.r (.len 17 (.t 16))),KJ 14 false 18 .gtr 17 65536,
 oQ 19 14 18]
def Wo :List zm:=[oO 2]
def zaU :List zm:=[(none,.bld 20 [] []),(none,.mkfn 21 (.func 47) [(.t 20,false)] []),oS 3 21]
def zaT :List zm:=[oF 22 1 1,oL 23 22 1,oE 24 23,(none,.r (.mov 25 (.c (.int .i64 0))))]
def zaS :List zm:=[oD 26 .lss 25 24]
def zaR :List zm:=[oM 27 25,oX 28 23 25 2,oT 29 28 2,(none,.alloc 5 [.int .i64 0,.int .i64 0]),oS 4 27,oW 5 29 2]
def Qw :Zh:=.take [1,2,3,4,5,6,7,8,9,10,11,12,13,14,15,16,17,18,19,20,21,22,23,24,25,26,27,28,29,30,31,32] (oF 30 5 0) (.take [2,3,4,5,6,7,8,9,10,11,12,13,14,15,16,17,18,19,20,21,22,23,24,25,26,27,28,29,30,31,32] (oL 31 30 1) (.take [3,4,5,6,7,8,9,10,11,12,13,14,15,16,17,18,19,20,21,
 22,23,24,25,26,27,28,29,30,31,32] (oB 32 .lss 31 0) (.take [4,5,6,7,8,9,10,11,12,13,14,15,16,17,18,19,20,21,22,23,24,25,26,27,28,29,30,31,32] (oM 33 32) (.take [5,8,9,10,11,12,13,14,15,16,17,18,19,20,21,22,23,24,25,26,27,28,29,30,31,32] (some (33,false),.r (.fldA 34 (.t 5) 0)) (.take [8,9,10,11,12,13,
 14,15,16,17,18,19,20,21,22,23,24,25,26,27,28,29,30,31,32] (QB 33 false 35 34 1) (.take [7,8,9,10,11,12,13,14,15,16,17,18,19,20,21,22,23,24,25,26,27,28,29,30,31,32] (some (33,false),.r (.fldA 36 (.t 5) 1)) (.take [8,9,10,11,12,13,14,15,16,17,18,19,20,21,22,23,24,25,26,27,28,29,30,31,32] (QB 33 false 37 36 1) (.take [9,
 10,11,12,13,14,15,16,17,18,19,20,21,22,23,24,25,26,27,28,29,30,31,32] (WL 33 false 38 .geq 35 37) (.take [10,11,12,13,14,15,16,17,18,19,20,21,22,23,24,25,26,27,28,29,30,31,32] (oQ 39 33 38) (.take [11,12,13,14,15,16,17,18,19,20,21,22,23,24,25,26,27,28,29,30,31,32] (oM 40 39) (.take [12,15,16,17,18,19,
 20,21,22,23,24,25,26,27,28,29,30,31,32] (some (40,false),.r (.fldA 41 (.t 5) 1)) (.take [15,16,17,18,19,20,21,22,23,24,25,26,27,28,29,30,31,32] (QB 40 false 42 41 1) (.take [14,15,16,17,18,19,20,21,22,23,24,25,26,27,28,29,30,31,32] (some (40,false),.r (.fldA 43 (.t 1) 0)) (.take [15,16,17,18,19,20,21,
 22,23,24,25,26,27,28,29,30,31,32] (QB 40 false 44 43 1) (.take [16,17,18,19,20,21,22,23,24,25,26,27,28,29,30,31,32] (WL 40 false 45 .geq 42 44) (.take [17,18,19,20,21,22,23,24,25,26,27,28,29,30,31,32] (oQ 46 40 45) (.take [18,19,20,21,22,23,24,25,26,27,28,29,30,31,32] (oM 47 46) (.take [19,20,21,22,
 23,24,25,26,27,28,29,30,31,32] (oK 47 false 48 4) (.take [20,21,22,23,24,25,26,27,28,29,30,31,32] (KJ 47 false 49 .gtr 48 0) (.take [21,22,23,24,25,26,27,28,29,30,31,32] (oK 47 false 50 49) (.take [29,30,31,32] (oK 50 true 51 3) (.take [23,26,27,29,30,31,32] (some (50,true),.r (.fldA 52 (.t 1) 1)) (.take [26,
 27,29,30,31,32] (QB 50 true 53 52 1) (.take [25,26,27,29,30,31,32] (oK 50 true 54 4) (.take [26,27,29,30,31,32] (KJ 50 true 55 .sub 54 1) (.take [27,29,30,31,32] (some (50,true),.r (.idxA 56 (.t 53) (.t 55) 2)) (.take [29,30,31,32] (some (50,true),.r (.ld 57 (.t 56) 2 true)) (.take [29,30,31,32] (some (50,
 true),.r (.ld 58 (.t 5) 2 true)) (.one 29 (some (50,true),.call 59 (.t 51) [(.t 57,false),(.t 58,false)]) (.take [31,32] (KJ 50 true 60 .geq 59 0) (.take [32] (some (47,false),.r (.pick 61 (.t 50) (.t 60) (.c (.bool false)))) (.take [] (oQ 62 47 61) .done))))))))))))))))))))))))))))))))
def yX :List zm:=[oO 2]
def UA :List zm:=[oB 63 .add 25 1,oS 25 63]
def kB :List zm:=[(none,.asg 2 (.c (.bool true)) true)]
def JE :List Nat:=[0,1,2,3,4,5,19,23,24,25,26,62]
def zkW :zC:=.seq (.reg [0,2,3,4,5,19,23,24,25,26,62] zaV JE) (.seq (.seq (.reg [0,1,2,3,4,5,23,24,25,26,62] yY JE) (.cond (.t 19) (.seq (.reg JE Wo JE) .ret) .skip)) (.seq (.reg JE zaU JE) (.seq (.seq (.reg [0,
 1,2,3,4,5,19,26,62] zaT JE) (.blk 0 (.loop (.seq (.reg [0,1,2,3,4,5,19,23,24,25,62] zaS JE) (.seq (.cond (.t 26) .skip (.exit 0)) (.seq (.blk 1 (.seq (.reg [0,1,2,3,4,19,23,24,25,26,62] zaR JE) (.seq (.draw [0,1,2,3,4,5,19,23,24,
 25,26] Qw JE) (.cond (.t 62) (.seq (.reg JE yX JE) .ret) .skip)))) (.reg JE UA JE))))))) (.seq (.reg JE kB JE) .ret))))
abbrev zjT :Nat:=27
theorem zmo :jQ Try.prog Try.f27.ntmps 1 [2] JE [(.tmp 2)] zkW zjT:=jR mix Try.func27 (by kernel_rfl) rfl
def zaQ :List zm:=[oI 4 0]
def zaP :List zm:=[(none,.bld 9 [] [.int .i64 0]),(none,.box 10 (.t 9)),oS 5 10]
def zaO :List zm:=[oM 11 5,(none,.mkfn 12 (.func 48) [(.t 11,false)] []),oS 6 12]
def zaN :List zm:=[oM 13 0,oM 14 1,qx 15 49 13 14,oE 16 15,(none,.r (.mov 17 (.c (.int .i64 0))))]
def zaM :List zm:=[oD 18 .lss 17 16]
def zaL :List zm:=[oX 19 15 17 1,oL 20 19 1,oS 8 20]
def zaK :List zm:=[oM 21 6,oM 22 8,(none,.call 23 (.t 21) [(.t 22,false)])]
def zaJ :List zm:=[oB 24 .add 17 1,oS 17 24]
def zaI :List zm:=[oM 25 5,oN 26 25,oF 27 26 0,oL 28 27 1,oM 29 1,oE 30 29,oD 31 .sub 28 30,oS 4 31]
def JD :List Nat:=[0,1,4,5,6,8,15,16,17,18]
def zkV :zC:=.seq (.reg JD zaQ JD) (.seq (.reg JD zaP JD) (.seq (.reg JD zaO JD) (.seq (.seq (.reg [0,1,4,5,6,8,18] zaN JD) (.blk 0 (.loop (.seq (.reg [0,
 1,4,5,6,8,15,16,17] zaM JD) (.seq (.cond (.t 18) .skip (.exit 0)) (.seq (.blk 1 (.seq (.reg JD zaL JD) (.reg JD zaK JD))) (.reg JD zaJ JD))))))) (.seq (.reg JD zaI JD) .ret))))
abbrev zjS :Nat:=28
theorem zmn :jQ Try.prog Try.f28.ntmps 2 [4] JD [(.tmp 4)] zkV zjS:=jR mix Try.func28 (by kernel_rfl) rfl
def zaH :List zm:=[oZ 4]
def zaG :List zm:=[oM 10 0,(none,.mk 11 (.t 10) (.t 10) 1 24 [.slice none 0 0]),oS 5 11]
def zaF :List zm:=[oM 12 1,oE 13 12,(none,.r (.mov 14 (.c (.int .i64 0))))]
def zaE :List zm:=[oD 15 .lss 14 13]
def zaD :List zm:=[oX 16 12 14 2,oT 17 16 2,(none,.alloc 7 [.int .i64 0,.int .i64 0]),oW 7 17 2]
def zaC :Zh:=.take [12,13] (oM 18 5) (.take [2,12,13] (oF 19 7 1) (.take [12,13] (oL 20 19 1) (.take [6,7,11,12,13] (oM 21 5) (.take [5,6,7,11,12,13] (oF 22 7 1) (.take [6,7,11,12,13] (oL 23 22 1) (.take [7,11,12,13] (oX 24 21 23 1) (.take [11,12,13] (oL 25 24 1) (.take [9,10,11,12,13] (oF 26 7 0) (.take [10,
 11,12,13] (oL 27 26 1) (.one 10 (none,.blds 28 1 1 [((0,1),(.t 27,true))] [.int .i64 0]) (.one 11 (none,.app 29 (.t 25) (.t 28) 1 8) (.take [13] (oX 30 18 20 1) (.one 13 (oW 30 29 1) .done)))))))))))))
def zaB :List zm:=[oB 31 .add 14 1,oS 14 31]
def zaA :List zm:=[oM 32 1,oE 33 32,(none,.r (.mov 34 (.c (.int .i64 0))))]
def zaz :List zm:=[oD 35 .lss 34 33]
def zay :List zm:=[oX 36 32 34 2,oT 37 36 2,(none,.alloc 9 [.int .i64 0,.int .i64 0]),oW 9 37 2]
def kA :Zh:=.take [12,13] (oM 38 5) (.take [2,12,13] (oF 39 9 0) (.take [12,13] (oL 40 39 1) (.take [6,7,11,12,13] (oM 41 5) (.take [5,6,7,11,12,13] (oF 42 9 0) (.take [6,7,11,12,13] (oL 43 42 1) (.take [7,11,12,13] (oX 44 41 43 1) (.take [11,12,13] (oL 45 44 1) (.take [9,10,11,12,
 13] (oF 46 9 1) (.take [10,11,12,13] (oL 47 46 1) (.one 10 (none,.blds 48 1 1 [((0,1),(.t 47,true))] [.int .i64 0]) (.one 11 (none,.app 49 (.t 45) (.t 48) 1 8) (.take [13] (oX 50 38 40 1) (.one 13 (oW 50 49 1) .done)))))))))))))
def kz :List zm:=[oB 51 .add 34 1,oS 34 51]
def ky :List zm:=[oM 52 5,oS 4 52]
def jW :List Nat:=[0,1,4,5,7,9,12,13,14,15,32,33,34,35]
def zkU :zC:=.seq (.reg jW zaH jW) (.seq (.reg jW zaG jW) (.seq (.seq (.reg [0,1,4,5,7,9,15,32,33,34,35] zaF jW) (.blk 0 (.loop (.seq (.reg [0,1,4,5,7,9,12,13,14,32,33,34,35] zaE jW) (.seq (.cond (.t 15) .skip (.exit 0)) (.seq (.blk 1 (.seq (.reg [0,
 1,4,5,9,12,13,14,15,32,33,34,35] zaD jW) (.draw jW zaC jW))) (.reg jW zaB jW))))))) (.seq (.seq (.reg [0,1,4,5,7,9,12,13,14,15,35] zaA jW) (.blk 2 (.loop (.seq (.reg [0,1,4,5,7,9,12,13,
 14,15,32,33,34] zaz jW) (.seq (.cond (.t 35) .skip (.exit 2)) (.seq (.blk 3 (.seq (.reg [0,1,4,5,7,12,13,14,15,32,33,34,35] zay jW) (.draw jW kA jW))) (.reg jW kz jW))))))) (.seq (.reg jW ky jW) .ret))))
abbrev zjR :Nat:=29
theorem zmm :jQ Try.prog Try.f29.ntmps 2 [4] jW [(.tmp 4)] zkU zjR:=jR mix Try.func29 (by kernel_rfl) rfl
def zax :List zm:=[oZ 2]
def zaw :List zm:=[oZ 3]
def zav :List zm:=[oI 4 0]
def Uz :List zm:=[oM 6 4,oM 7 0,oE 8 7,oD 9 .lss 6 8]
def zau :List zm:=[oM 12 0,oM 13 4,oX 14 12 13 1,oL 15 14 1,oS 5 15]
def yW :List zm:=[oM 16 5,oM 17 4,oD 18 .gtr 16 17,oM 19 18,oK 19 true 20 5,oK 19 true 21 0,(some (19,true),.r (.len 22 (.t 21))),WL 19 true 23 .lss 20 22,oP 24 19 23,oM 25 24,oK 25 true 26 0,oK 25 true 27 5,(some (25,true),.r (.idxA 28 (.t 26) (.t 27) 1)),QB 25 true 29 28 1,
 oK 25 true 30 4,WL 25 true 31 .eql 29 30,oP 32 25 31]
def zat :List zm:=[oM 33 3,oM 34 4,oM 35 5,(none,.bld 36 [((0,1),(.t 34,true)),((1,1),(.t 35,true))] [.int .i64 0,.int .i64 0]),(none,.blds 37 1 2 [((0,2),(.t 36,true))] [.int .i64 0,.int .i64 0]),(none,.app 38 (.t 33) (.t 37) 2 16),oS 3 38]
def yV :List zm:=[oM 10 4,oB 11 .add 10 1,oS 4 11]
def zas :List zm:=[oM 39 3,oS 2 39]
def JC :List Nat:=[0,2,3,4,5,9,32]
def zkT :zC:=.seq (.reg JC zax JC) (.seq (.reg JC zaw JC) (.seq (.seq (.reg JC zav JC) (.blk 0 (.loop (.seq (.seq (.reg [0,
 2,3,4,5,32] Uz JC) (.cond (.t 9) .skip (.exit 0))) (.seq (.blk 1 (.seq (.reg JC zau JC) (.seq (.reg [0,2,3,4,5,9] yW JC) (.cond (.t 32) (.reg JC zat JC) .skip)))) (.reg JC yV JC)))))) (.seq (.reg JC zas JC) .ret)))
abbrev zjQ :Nat:=30
theorem zml :jQ Try.prog Try.f30.ntmps 1 [2] JC [(.tmp 2)] zkT zjQ:=jR mix Try.func30 (by kernel_rfl) rfl
def Uy :List zm:=[(none,.box 2 (.t 0)),oO 4]
def Wn :List zm:=[oT 10 2 2,oC 11 27 10,(none,.r (.notb 12 (.t 11))),oM 13 12,oK 13 false 14 1,(some (13,false),.r (.len 15 (.t 14))),(some (13,false),.r (.fldA 16 (.t 2) 0)),QB 13 false 17 16 1,WL 13 false 18 .neq 15 17,oQ 19 13 18]
def Ux :List zm:=[oO 4]
def zar :List zm:=[oF 20 2 0,oL 21 20 1,(none,.mk 22 (.t 21) (.t 21) 1 1 [.bool false]),oS 5 22]
def zaq :List zm:=[oF 23 2 1,oL 24 23 1,oE 25 24,(none,.r (.mov 26 (.c (.int .i64 0))))]
def Uw :List zm:=[oD 27 .lss 26 25]
def zap :List zm:=[oX 28 24 26 2,oT 29 28 2,(none,.alloc 7 [.int .i64 0,.int .i64 0]),oW 7 29 2]
def Wm :Zh:=.take [3,4,7,8,9,10,11,12,13,14,15,16,17] (oM 30 1) (.take [2,3,4,7,8,9,10,11,12,13,14,15,16,17] (oF 31 7 0) (.take [3,4,7,8,9,10,11,12,13,14,15,16,17] (oL 32 31 1) (.take [4,7,8,9,10,11,12,13,14,15,16,17] (oX 33 30 32 1) (.take [7,8,9,10,11,12,13,14,15,16,17] (oL 34 33 1) (.take [6,
 7,8,9,10,11,12,13,14,15,16,17] (oF 35 7 1) (.take [7,8,9,10,11,12,13,14,15,16,17] (oL 36 35 1) (.take [8,9,10,11,12,13,14,15,16,17] (oD 37 .eql 34 36) (.take [9,10,11,12,13,14,15,16,17] (oM 38 37) (.take [12,13,16,17] (oK 38 true 39 1) (.take [11,12,13,16,17] (some (38,true),.r (.fldA 40 (.t 7) 1)) (.take [12,
 13,16,17] (QB 38 true 41 40 1) (.take [13,16,17] (some (38,true),.r (.idxA 42 (.t 39) (.t 41) 1)) (.take [16,17] (QB 38 true 43 42 1) (.take [15,16,17] (some (38,true),.r (.fldA 44 (.t 7) 0)) (.take [16,17] (QB 38 true 45 44 1) (.take [17] (WL 38 true 46 .eql 43 45) (.take [] (oP 47 38 46) .done)))))))))))))))))
def zao :Zh:=.take [6,7,8,9] (oM 48 5) (.take [2,6,7,8,9] (oF 49 7 0) (.take [6,7,8,9] (oL 50 49 1) (.take [8,9] (oM 51 5) (.take [5,8,9] (oF 52 7 1) (.take [8,9] (oL 53 52 1) (.take [7,8,9] (oX 54 48 50 1) (.one 7 (none,.st (.t 54) (.c (.bool true)) 1) (.take [9] (oX 55 51 53 1) (.one 9 (none,
 .st (.t 55) (.c (.bool true)) 1) .done)))))))))
def Wl :List zm:=[oB 56 .add 26 1,oS 26 56]
def kx :List zm:=[oM 57 1,oE 58 57,(none,.r (.mov 59 (.c (.int .i64 0))))]
def xa :List zm:=[oD 60 .lss 59 58]
def kw :List zm:=[oM 61 59,oX 62 57 59 1,oL 63 62 1,oS 8 61,oS 9 63]
def Yr :List zm:=[oM 64 9,(none,.r (.bin 65 .neq 0 (.t 64) (.c (.int .i64 (- (0+1)))))),oM 66 65,oK 66 true 67 5,oK 66 true 68 8,(some (66,true),.r (.idxA 69 (.t 67) (.t 68) 1)),QB 66 true 70 69 1,(some (66,true),.r (.notb 71 (.t 70))),oP 72 66 71]
def ku :List zm:=[oO 4]
def W9 :List zm:=[oB 73 .add 59 1,oS 59 73]
def kr :List zm:=[(none,.asg 4 (.c (.bool true)) true)]
def jb :List Nat:=[0,1,2,4,5,7,8,9,19,24,25,26,27,47,57,58,59,60,72]
def zhx :zC:=.seq (.reg [0,1,4,5,7,8,9,19,24,25,26,27,47,57,58,59,60,72] Uy jb) (.seq (.seq (.reg [0,1,2,4,5,7,8,9,24,25,26,27,47,57,58,59,60,72] Wn jb) (.cond (.t 19) (.seq (.reg jb Ux jb) .ret) .skip)) (.seq (.reg jb zar jb) (.seq (.seq (.reg [0,
 1,2,4,5,7,8,9,19,27,47,57,58,59,60,72] zaq jb) (.blk 0 (.loop (.seq (.reg [0,1,2,4,5,7,8,9,19,24,25,26,47,57,58,59,60,72] Uw jb) (.seq (.cond (.t 27) .skip (.exit 0)) (.seq (.blk 1 (.seq (.reg [0,1,2,4,5,8,9,19,24,25,26,27,47,57,58,59,60,72] zap jb) (.seq (.draw [0,
 1,2,4,5,7,8,9,19,24,25,26,27,57,58,59,60,72] Wm jb) (.cond (.t 47) (.draw jb zao jb) .skip)))) (.reg jb Wl jb))))))) (.seq (.seq (.reg [0,1,2,4,5,7,8,9,19,24,25,26,27,47,60,72] kx jb) (.blk 2 (.loop (.seq (.reg [0,
 1,2,4,5,7,8,9,19,24,25,26,27,47,57,58,59,72] xa jb) (.seq (.cond (.t 60) .skip (.exit 2)) (.seq (.blk 3 (.seq (.reg jb kw jb) (.seq (.reg [0,1,2,4,5,7,8,9,19,24,25,26,27,47,57,58,59,60] Yr jb) (.cond (.t 72) (.seq (.reg jb ku jb) .ret) .skip)))) (.reg jb W9 jb))))))) (.seq (.reg jb kr jb) .ret)))))
abbrev zdu :Nat:=31
theorem zg2 :jQ Try.prog Try.f31.ntmps 2 [4] jb [(.tmp 4)] zhx zdu:=jR mix Try.func31 (by kernel_rfl) rfl
def zan :List zm:=[(none,.box 1 (.t 0)),oZ 2,oZ 3,oI 4 0]
def zam :List zm:=[oT 11 1 2,oC 12 23 11,oM 10 12,oY 13 10 0,oY 14 10 1,oY 15 10 2,(none,.alloc 6 [.int .i64 0,.int .i64 0]),oS 5 13,oW 6 14 2,oS 7 15]
def Uv :List zm:=[oM 16 7,oB 17 .neq 16 0]
def zhw :List zm:=[oM 18 7,oZ 2,oZ 3,oS 4 18]
def Uu :List zm:=[oT 20 1 2,oM 21 5,qx 22 50 20 21,oM 19 22,oY 23 19 0,oY 24 19 1,oY 25 19 2,oS 8 23,oS 9 24,oS 7 25]
def Ut :List zm:=[oM 26 9,oM 27 5,oM 28 7,oS 2 26,oS 3 27,oS 4 28]
def Q9 :List Nat:=[0,1,2,3,4,5,7,8,9,17]
def zkS :zC:=.seq (.reg [0,2,3,4,5,7,8,9,17] zan Q9) (.seq (.reg Q9 zam Q9) (.seq (.seq (.reg [0,1,2,3,4,5,7,8,9] Uv Q9) (.cond (.t 17) (.seq (.reg Q9 zhw Q9) .ret) .skip)) (.seq (.reg Q9 Uu Q9) (.seq (.reg Q9 Ut Q9) .ret))))
abbrev zjP :Nat:=32
theorem zmk :jQ Try.prog Try.f32.ntmps 1 [2,3,4] Q9 [(.tmp 2),(.tmp 3),(.tmp 4)] zkS zjP:=jR mix Try.func32 (by kernel_rfl) rfl
def zal :List zm:=[oZ 4]
def zak :List zm:=[oZ 5]
def zaj :List zm:=[oM 8 0,oE 9 8,(none,.r (.mov 10 (.c (.int .i64 0))))]
def Us :List zm:=[oD 11 .lss 10 9]
def zai :List zm:=[oM 12 10,oX 13 8 10 1,oL 14 13 1,oS 6 12,oS 7 14]
def Ur :List zm:=[oM 15 7,oM 16 1,oD 17 .eql 15 16]
def zah :List zm:=[oM 18 5,oM 19 6,(none,.blds 20 1 1 [((0,1),(.t 19,true))] [.int .i64 0]),(none,.app 21 (.t 18) (.t 20) 1 8),oS 5 21]
def Uq :List zm:=[oB 22 .add 10 1,oS 10 22]
def zag :List zm:=[oM 23 5,oS 4 23]
def JQ :List Nat:=[0,1,4,5,6,7,8,9,10,11,17]
def zkR :zC:=.seq (.reg JQ zal JQ) (.seq (.reg JQ zak JQ) (.seq (.seq (.reg [0,1,4,5,6,7,11,17] zaj JQ) (.blk 0 (.loop (.seq (.reg [0,1,4,5,6,7,8,9,10,17] Us JQ) (.seq (.cond (.t 11) .skip (.exit 0)) (.seq (.blk 1 (.seq (.reg JQ zai JQ) (.seq (.reg [0,
 1,4,5,6,7,8,9,10,11] Ur JQ) (.cond (.t 17) (.reg JQ zah JQ) .skip)))) (.reg JQ Uq JQ))))))) (.seq (.reg JQ zag JQ) .ret)))
abbrev zjO :Nat:=33
theorem zmj :jQ Try.prog Try.f33.ntmps 2 [4] JQ [(.tmp 4)] zkR zjO:=jR mix Try.func33 (by kernel_rfl) rfl
def zaf :List zm:=[(none,.box 1 (.t 0)),oO 2]
def yU :List zm:=[oF 5 1 0,oL 6 5 1,oB 7 .lss 6 0,oM 8 7,(some (8,false),.r (.fldA 9 (.t 1) 0)),QB 8 false 10 9 1,KJ 8 false 11 .gtr 10 4096,oQ 12 8 11,oM 13 12,(some (13,false),.r (.fldA 14 (.t 1) 1)),QB 13 false 15 14 1,(some (13,false),.r (.len 16 (.t 15))),KJ 13 false 17 .gtr 16 65536,
 oQ 18 13 17]
def Wj :List zm:=[oO 2]
def zae :List zm:=[oI 3 0]
def zad :List zm:=[oM 19 3,oF 20 1 1,oL 21 20 1,oE 22 21,oD 23 .lss 19 22]
def zac :List zm:=[oF 26 1 1,oL 27 26 1,oM 28 3,oX 29 27 28 2,oT 30 29 2,(none,.alloc 4 [.int .i64 0,.int .i64 0]),oW 4 30 2]
def yT :List zm:=[oF 31 4 0,oL 32 31 1,oB 33 .lss 32 0,oM 34 33,(some (34,false),.r (.fldA 35 (.t 4) 0)),QB 34 false 36 35 1,(some (34,false),.r (.fldA 37 (.t 4) 1)),QB 34 false 38 37 1,WL 34 false 39 .geq 36 38,oQ 40 34 39,oM 41 40,(some (41,false),.r (.fldA 42 (.t 4) 1)),
 QB 41 false 43 42 1,(some (41,false),.r (.fldA 44 (.t 1) 0)),QB 41 false 45 44 1,WL 41 false 46 .geq 43 45,oQ 47 41 46]
def Wi :List zm:=[oO 2]
def Up :Zh:=.take [1,2,3,4,5,6,7,8,9,10,11,12] (oM 48 3) (.take [2,3,4,5,6,7,8,9,10,11,12] (oB 49 .gtr 48 0) (.take [3,4,5,6,7,8,9,10,11,12] (oM 50 49) (.take [4,7,8,10,11,12] (some (50,true),.r (.fldA 51 (.t 1) 1)) (.take [7,8,10,11,12] (QB 50 true 52 51 1) (.take [6,7,8,10,
 11,12] (oK 50 true 53 3) (.take [7,8,10,11,12] (KJ 50 true 54 .sub 53 1) (.take [8,10,11,12] (some (50,true),.r (.idxA 55 (.t 52) (.t 54) 2)) (.take [10,11,12] (some (50,true),.r (.ld 56 (.t 55) 2 true)) (.take [10,11,12] (some (50,true),.r (.ld 57 (.t 4) 2 true)) (.one 10 (some (50,true),.call 58 (.f 51) [(.t 56,
 false),(.t 57,false)]) (.take [12] (some (50,true),.r (.notb 59 (.t 58))) (.take [] (oP 60 50 59) .done))))))))))))
def zab :List zm:=[oO 2]
def W8 :List zm:=[oM 24 3,oB 25 .add 24 1,oS 3 25]
def kq :List zm:=[(none,.asg 2 (.c (.bool true)) true)]
def Jh :List Nat:=[0,1,2,3,4,18,23,47,60]
def zkQ :zC:=.seq (.reg [0,2,3,4,18,23,47,60] zaf Jh) (.seq (.seq (.reg [0,1,2,3,4,23,47,60] yU Jh) (.cond (.t 18) (.seq (.reg Jh Wj Jh) .ret) .skip)) (.seq (.seq (.reg Jh zae Jh) (.blk 0 (.loop (.seq (.seq (.reg [0,
 1,2,3,4,18,47,60] zad Jh) (.cond (.t 23) .skip (.exit 0))) (.seq (.blk 1 (.seq (.reg [0,1,2,3,18,23,47,60] zac Jh) (.seq (.seq (.reg [0,1,2,3,4,18,23,60] yT Jh) (.cond (.t 47) (.seq (.reg Jh Wi Jh) .ret) .skip)) (.seq (.draw [0,
 1,2,3,4,18,23,47] Up Jh) (.cond (.t 60) (.seq (.reg Jh zab Jh) .ret) .skip))))) (.reg Jh W8 Jh)))))) (.seq (.reg Jh kq Jh) .ret)))
abbrev zjN :Nat:=34
theorem zmi :jQ Try.prog Try.f34.ntmps 1 [2] Jh [(.tmp 2)] zkQ zjN:=jR mix Try.func34 (by kernel_rfl) rfl
def zaa :List zm:=[(none,.box 2 (.t 0)),oO 4]
def Uo :List zm:=[oM 5 1,oB 6 .geq 5 0,oM 7 6,oK 7 true 8 1,(some (7,true),.r (.fldA 9 (.t 2) 0)),QB 7 true 10 9 1,WL 7 true 11 .lss 8 10,oP 12 7 11,oS 4 12]
def KQ :List Nat:=[0,1,2,4]
def zkP :zC:=.seq (.reg [0,1,4] zaa KQ) (.seq (.reg KQ Uo KQ) .ret)
abbrev zjM :Nat:=35
theorem zmh :jQ Try.prog Try.f35.ntmps 2 [4] KQ [(.tmp 4)] zkP zjM:=jR mix Try.func35 (by kernel_rfl) rfl
def O9 :List zm:=[oO 4]
def O8 :List zm:=[oI 5 0]
def O7 :List zm:=[oM 6 5,oM 7 0,oE 8 7,oD 9 .lss 6 8]
def O6 :List zm:=[oM 12 0,oM 13 5,oX 14 12 13 1,oL 15 14 1,oM 16 1,oD 17 .eql 15 16]
def O5 :List zm:=[(none,.asg 4 (.c (.bool true)) true)]
def O4 :List zm:=[oM 10 5,oB 11 .add 10 1,oS 5 11]
def O2 :List zm:=[oO 4]
def qC :List Nat:=[0,1,4,5,9,17]
def zkO :zC:=.seq (.reg qC O9 qC) (.seq (.seq (.reg qC O8 qC) (.blk 0 (.loop (.seq (.seq (.reg [0,1,4,5,17] O7 qC) (.cond (.t 9) .skip (.exit 0))) (.seq (.blk 1 (.seq (.reg [0,
 1,4,5,9] O6 qC) (.cond (.t 17) (.seq (.reg qC O5 qC) .ret) .skip))) (.reg qC O4 qC)))))) (.seq (.reg qC O2 qC) .ret))
abbrev zjL :Nat:=36
theorem zmg :jQ Try.prog Try.f36.ntmps 2 [4] qC [(.tmp 4)] zkO zjL:=jR mix Try.func36 (by kernel_rfl) rfl
def O1 :List zm:=[(none,.box 2 (.t 0)),oI 4 0]
def OZ :List zm:=[oI 5 0]
def OY :List zm:=[oT 8 2 2,oM 9 1,qx 10 52 8 9,oS 6 10]
def OX :List zm:=[oI 7 0]
def OW :List zm:=[oM 11 7,oM 12 6,oE 13 12,oD 14 .lss 11 13]
def OV :List zm:=[oM 17 5,oM 18 6,oM 19 7,oX 20 18 19 1,oL 21 20 1,oE 22 21,oB 23 .rem 22 2,oD 24 .add 17 23,oS 5 24]
def OU :List zm:=[oM 15 7,oB 16 .add 15 1,oS 7 16]
def OT :List zm:=[oM 25 5,oS 4 25]
def J4 :List Nat:=[0,1,2,4,5,6,7,14]
def zkN :zC:=.seq (.reg [0,1,4,5,6,7,14] O1 J4) (.seq (.reg J4 OZ J4) (.seq (.reg J4 OY J4) (.seq (.seq (.reg J4 OX J4) (.blk 0 (.loop (.seq (.seq (.reg [0,
 1,2,4,5,6,7] OW J4) (.cond (.t 14) .skip (.exit 0))) (.seq (.blk 1 (.reg J4 OV J4)) (.reg J4 OU J4)))))) (.seq (.reg J4 OT J4) .ret))))
abbrev zjK :Nat:=37
theorem zmf :jQ Try.prog Try.f37.ntmps 2 [4] J4 [(.tmp 4)] zkN zjK:=jR mix Try.func37 (by kernel_rfl) rfl
def OS :List zm:=[(none,.box 1 (.t 0)),oZ 2]
def OR :List zm:=[oT 8 1 2,oC 9 53 8,(none,.bld 10 [((0,1),(.t 9,true))] [.slice none 0 0]),(none,.alloc 3 [.slice none 0 0]),oW 3 10 1]
def Un :List zm:=[oF 11 3 0,oL 12 11 1,oE 13 12,oB 14 .eql 13 0]
def OQ :List zm:=[oZ 2]
def OP :List zm:=[oF 15 1 0,oL 16 15 1,oF 17 1 1,oL 18 17 1,qx 19 29 16 18,oS 4 19]
def OO :List zm:=[oF 20 3 0,oL 21 20 1,oE 22 21,(none,.r (.mov 23 (.c (.int .i64 0))))]
def Um :List zm:=[oD 24 .lss 23 22]
def ON :List zm:=[oM 25 23,oS 5 25]
def Ul :List zm:=[oT 26 3 1,oM 27 5,qx 28 54 26 27,(none,.r (.notb 29 (.t 28)))]
def OM :Zh:=.take [2,3,6,7] (oM 30 4) (.take [2,3,6,7] (oM 31 5) (.take [3,6,7] (oX 32 30 31 1) (.take [6,7] (oL 33 32 1) (.take [5,6,7] (oT 34 3 1) (.one 5 (none,.mkfn 35 (.func 54) [(.t 34,false)] []) (.one 6 (qx 36 55 33 35) (.one 7 (oS 6 36) .done)))))))
def W7 :List zm:=[oM 37 6,oB 38 .geq 37 0]
def kp :List zm:=[oM 39 4,oM 40 5,oX 41 39 40 1,oL 42 41 1,oM 43 6,oX 44 42 43 1,oL 45 44 1,oS 7 45]
def ko :Zh:=.take [1,8,9,10,11] (oF 46 3 0) (.take [8,9,10,11] (oL 47 46 1) (.take [8,9,10,11] (oM 48 5) (.take [4,10,11] (oF 49 3 0) (.take [10,11] (oL 50 49 1) (.take [10,11] (oM 51 7) (.take [8,9,10,11] (oM 52 7) (.take [10,11] (oM 53 5) (.take [9,10,11] (oX 54 47 48 1) (.one 9 (oW 54 52 1) (.take [11] (oX 55 50 51 1) (.one 11 (oW 55 53 1) .done)))))))))))
def Yq :List zm:=[oB 56 .add 23 1,oS 23 56]
def kn :List zm:=[oF 57 3 0,oL 58 57 1,oS 2 58]
def jp :List Nat:=[0,1,2,3,4,5,6,7,14,22,23,24,29,38]
def zkM :zC:=.seq (.reg [0,2,3,4,5,6,7,14,22,23,24,29,38] OS jp) (.seq (.reg [0,1,2,4,5,6,7,14,22,23,24,29,38] OR jp) (.seq (.seq (.reg [0,1,2,3,4,5,6,7,22,23,24,29,38] Un jp) (.cond (.t 14) (.seq (.reg jp OQ jp) .ret) .skip)) (.seq (.reg jp OP jp) (.seq (.seq (.reg [0,
 1,2,3,4,5,6,7,14,24,29,38] OO jp) (.blk 0 (.loop (.seq (.reg [0,1,2,3,4,5,6,7,14,22,23,29,38] Um jp) (.seq (.cond (.t 24) .skip (.exit 0)) (.seq (.blk 1 (.seq (.reg jp ON jp) (.seq (.seq (.reg [0,1,2,3,4,5,6,
 7,14,22,23,24,38] Ul jp) (.cond (.t 29) (.exit 1) .skip)) (.seq (.draw jp OM jp) (.seq (.reg [0,1,2,3,4,5,6,7,14,22,23,24,29] W7 jp) (.cond (.t 38) (.seq (.reg jp kp jp) (.draw jp ko jp)) .skip)))))) (.reg jp Yq jp))))))) (.seq (.reg jp kn jp) .ret)))))
abbrev zjJ :Nat:=39
theorem zme :jQ Try.prog Try.f39.ntmps 1 [2] jp [(.tmp 2)] zkM zjJ:=jR mix Try.func39 (by kernel_rfl) rfl
def Uk :List zm:=[oZ 4,(none,.alloc 5 [.int .i64 0,.int .i64 0])]
def Uj :List zm:=[(none,.alloc 6 [.int .i64 0,.int .i64 0])]
def Ui :List zm:=[oM 11 0,oM 12 1,qx 13 56 11 12,oM 10 13,oY 14 10 0,oY 15 10 1,oY 16 10 2,oS 7 14,oS 8 15,oS 9 16]
def Wh :List zm:=[oF 17 6 0,oL 18 17 1,oB 19 .add 18 1,oF 20 6 1,oL 21 20 1,oM 22 9,(none,.r (.mm 23 true (.t 21) (.t 22))),(none,.bld 24 [((0,1),(.t 19,true)),((1,1),(.t 23,true))] [.int .i64 0,.int .i64 0]),oW 6 24 2]
def Wg :List zm:=[oM 25 7,(none,.r (.bin 26 .eql 3 (.t 25) (.c (.slice none 0 0))))]
def Uh :Zh:=.take [2,3] (oM 27 8) (.take [3] (oT 28 6 2) (.one 2 (oS 4 27) (.one 3 (oW 5 28 2) .done)))
def OL :List zm:=[oM 29 1,oM 30 7,qx 31 57 29 30]
def qB :List Nat:=[0,1,4,5,6,7,8,9,26]
def zhv :zC:=.seq (.reg [0,1,4,6,7,8,9,26] Uk qB) (.seq (.reg [0,1,4,5,7,8,9,26] Uj qB) (.blk 0 (.loop (.blk 1 (.seq (.reg qB Ui qB) (.seq (.reg qB Wh qB) (.seq (.seq (.reg [0,
 1,4,5,6,7,8,9] Wg qB) (.cond (.t 26) (.seq (.draw qB Uh qB) .ret) .skip)) (.reg qB OL qB))))))))
abbrev zgx :Nat:=40
theorem zg1 :jQ Try.prog Try.f40.ntmps 2 [4] qB [(.tmp 4),(.cell 5 2 true)] zhv zgx:=jR mix Try.func40 (by kernel_rfl) rfl
def Ug :List zm:=[(none,.box 2 (.t 0)),oO 4]
def Wf :List zm:=[oT 7 2 2,oC 8 34 7,(none,.r (.notb 9 (.t 8))),oM 10 9,oK 10 false 11 1,(some (10,false),.r (.len 12 (.t 11))),(some (10,false),.r (.fldA 13 (.t 2) 0)),QB 10 false 14 13 1,WL 10 false 15 .neq 12 14,oQ 16 10 15]
def Ue :List zm:=[oO 4]
def OK :List zm:=[oI 5 0]
def Ud :List zm:=[oM 17 5,oF 18 2 0,oL 19 18 1,oD 20 .lss 17 19]
def OJ :List zm:=[oM 23 1,oM 24 5,oX 25 23 24 1,oL 26 25 1,oS 6 26]
def yS :List zm:=[oM 27 6,(none,.r (.bin 28 .neq 0 (.t 27) (.c (.int .i64 (- (0+1)))))),oM 29 28,(some (29,true),.r (.ld 30 (.t 2) 2 true)),oK 29 true 31 5,oK 29 true 32 6,(some (29,true),.call 33 (.f 42) [(.t 30,false),(.t 31,false),(.t 32,false)]),(some (29,true),.r (.notb 34 (.t 33))),
 oK 29 true 35 34,oK 35 false 36 1,oK 35 false 37 6,(some (35,false),.r (.idxA 38 (.t 36) (.t 37) 1)),QB 35 false 39 38 1,oK 35 false 40 5,WL 35 false 41 .neq 39 40,(some (29,true),.r (.pick 42 (.t 35) (.c (.bool true)) (.t 41))),oP 43 29 42]
def Uc :List zm:=[oO 4]
def Ub :List zm:=[oM 21 5,oB 22 .add 21 1,oS 5 22]
def OH :List zm:=[(none,.asg 4 (.c (.bool true)) true)]
def Js :List Nat:=[0,1,2,4,5,6,16,20,43]
def zhu :zC:=.seq (.reg [0,1,4,5,6,16,20,43] Ug Js) (.seq (.seq (.reg [0,1,2,4,5,6,20,43] Wf Js) (.cond (.t 16) (.seq (.reg Js Ue Js) .ret) .skip)) (.seq (.seq (.reg Js OK Js) (.blk 0 (.loop (.seq (.seq (.reg [0,
 1,2,4,5,6,16,43] Ud Js) (.cond (.t 20) .skip (.exit 0))) (.seq (.blk 1 (.seq (.reg Js OJ Js) (.seq (.reg [0,1,2,4,5,6,16,20] yS Js) (.cond (.t 43) (.seq (.reg Js Uc Js) .ret) .skip)))) (.reg Js Ub Js)))))) (.seq (.reg Js OH Js) .ret)))
abbrev zdt :Nat:=41
theorem zg0 :jQ Try.prog Try.f41.ntmps 2 [4] Js [(.tmp 4)] zhu zdt:=jR mix Try.func41 (by kernel_rfl) rfl
def OG :List zm:=[(none,.box 3 (.t 0)),oO 6]
def OF :List zm:=[oT 7 3 2,oM 8 1,oM 9 2,oC3 10 58 7 8 9,oB 11 .geq 10 0,oS 6 11]
def KP :List Nat:=[0,1,2,3,6]
def zkL :zC:=.seq (.reg [0,1,2,6] OG KP) (.seq (.reg KP OF KP) .ret)
abbrev zjI :Nat:=42
theorem zmd :jQ Try.prog Try.f42.ntmps 3 [6] KP [(.tmp 6)] zkL zjI:=jR mix Try.func42 (by kernel_rfl) rfl
def OE :List zm:=[(none,.box 3 (.t 1)),oZ 4]
def OD :List zm:=[oM 6 0,oE 7 6,oS 5 7]
def Ua :Zh:=.take [1,2,3,4,5,6,7,8,9,10] (oM 8 5) (.take [2,3,4,5,6,7,8,9,10] (oB 9 .gtr 8 0) (.take [3,4,5,6,7,8,9,10] (oM 10 9) (.take [9,10] (some (10,true),.r (.ld 11 (.t 3) 2 true)) (.take [7,8,9,10] (oK 10 true 12 0) (.take [6,7,8,9,10] (oK 10 true 13 5) (.take [7,8,9,10] (KJ 10 true 14 .sub 13 1) (.take [8,
 9,10] (some (10,true),.r (.idxA 15 (.t 12) (.t 14) 2)) (.take [9,10] (some (10,true),.r (.ld 16 (.t 15) 2 true)) (.one 9 (some (10,true),.call 17 (.f 51) [(.t 11,false),(.t 16,false)]) (.take [] (oP 18 10 17) .done))))))))))
def OC :List zm:=[oM 19 5,oB 20 .sub 19 1,oS 5 20]
def OB :Zh:=.take [2,3,6,10,11] (oM 21 0) (.take [2,3,6,10,11] (oM 22 5) (.take [5,6,10,11] (oT 25 3 2) (.take [9,10,11] (oM 28 0) (.take [9,10,11] (oM 29 5) (.three 2 (none,.slc 23 (.t 21) none (some (.t 22)) 2) (.three 3 (none,.app 24 (.c (.slice none 0 0)) (.t 23) 2 16) (.two 5 (none,
 .blds 26 1 2 [((0,2),(.t 25,true))] [.int .i64 0,.int .i64 0]) (.two 6 (none,.app 27 (.t 24) (.t 26) 2 16) (.one 9 (none,.slc 30 (.t 28) (some (.t 29)) none 2) (.one 10 (none,.app 31 (.t 27) (.t 30) 2 16) (.one 11 (oS 4 31) .done))) 9 (none,.slc 30 (.t 28) (some (.t 29)) none 2) (.one 6 (none,.app 27 (.t 24) (.t 26) 2 16) (.one 10 (none,
 .app 31 (.t 27) (.t 30) 2 16) (.one 11 (oS 4 31) .done)))) 9 (none,.slc 30 (.t 28) (some (.t 29)) none 2) (.one 5 (none,.blds 26 1 2 [((0,2),(.t 25,true))] [.int .i64 0,.int .i64 0]) (.one 6 (none,.app 27 (.t 24) (.t 26) 2 16) (.one 10 (none,.app 31 (.t 27) (.t 30) 2 16) (.one 11 (oS 4 31) .done))))) 5 (none,
 .blds 26 1 2 [((0,2),(.t 25,true))] [.int .i64 0,.int .i64 0]) (.two 3 (none,.app 24 (.c (.slice none 0 0)) (.t 23) 2 16) (.two 6 (none,.app 27 (.t 24) (.t 26) 2 16) (.one 9 (none,.slc 30 (.t 28) (some (.t 29)) none 2) (.one 10 (none,.app 31 (.t 27) (.t 30) 2 16) (.one 11 (oS 4 31) .done))) 9 (none,.slc 30 (.t 28) (some (.t 29)) none 2) (.one 6 (none,
 .app 27 (.t 24) (.t 26) 2 16) (.one 10 (none,.app 31 (.t 27) (.t 30) 2 16) (.one 11 (oS 4 31) .done)))) 9 (none,.slc 30 (.t 28) (some (.t 29)) none 2) (.one 3 (none,.app 24 (.c (.slice none 0 0)) (.t 23) 2 16) (.one 6 (none,.app 27 (.t 24) (.t 26) 2 16) (.one 10 (none,.app 31 (.t 27) (.t 30) 2 16) (.one 11 (oS 4 31) .done))))) 9 (none,
 .slc 30 (.t 28) (some (.t 29)) none 2) (.two 3 (none,.app 24 (.c (.slice none 0 0)) (.t 23) 2 16) (.one 5 (none,.blds 26 1 2 [((0,2),(.t 25,true))] [.int .i64 0,.int .i64 0]) (.one 6 (none,.app 27 (.t 24) (.t 26) 2 16) (.one 10 (none,.app 31 (.t 27) (.t 30) 2 16) (.one 11 (oS 4 31) .done)))) 5 (none,
 .blds 26 1 2 [((0,2),(.t 25,true))] [.int .i64 0,.int .i64 0]) (.one 3 (none,.app 24 (.c (.slice none 0 0)) (.t 23) 2 16) (.one 6 (none,.app 27 (.t 24) (.t 26) 2 16) (.one 10 (none,.app 31 (.t 27) (.t 30) 2 16) (.one 11 (oS 4 31) .done)))))) 5 (none,.blds 26 1 2 [((0,2),(.t 25,true))] [.int .i64 0,.int .i64 0]) (.two 2 (none,
 .slc 23 (.t 21) none (some (.t 22)) 2) (.two 3 (none,.app 24 (.c (.slice none 0 0)) (.t 23) 2 16) (.two 6 (none,.app 27 (.t 24) (.t 26) 2 16) (.one 9 (none,.slc 30 (.t 28) (some (.t 29)) none 2) (.one 10 (none,.app 31 (.t 27) (.t 30) 2 16) (.one 11 (oS 4 31) .done))) 9 (none,.slc 30 (.t 28) (some (.t 29)) none 2) (.one 6 (none,
 .app 27 (.t 24) (.t 26) 2 16) (.one 10 (none,.app 31 (.t 27) (.t 30) 2 16) (.one 11 (oS 4 31) .done)))) 9 (none,.slc 30 (.t 28) (some (.t 29)) none 2) (.one 3 (none,.app 24 (.c (.slice none 0 0)) (.t 23) 2 16) (.one 6 (none,.app 27 (.t 24) (.t 26) 2 16) (.one 10 (none,.app 31 (.t 27) (.t 30) 2 16) (.one 11 (oS 4 31) .done))))) 9 (none,
 .slc 30 (.t 28) (some (.t 29)) none 2) (.one 2 (none,.slc 23 (.t 21) none (some (.t 22)) 2) (.one 3 (none,.app 24 (.c (.slice none 0 0)) (.t 23) 2 16) (.one 6 (none,.app 27 (.t 24) (.t 26) 2 16) (.one 10 (none,.app 31 (.t 27) (.t 30) 2 16) (.one 11 (oS 4 31) .done)))))) 9 (none,.slc 30 (.t 28) (some (.t 29)) none 2) (.two 2 (none,
 .slc 23 (.t 21) none (some (.t 22)) 2) (.two 3 (none,.app 24 (.c (.slice none 0 0)) (.t 23) 2 16) (.one 5 (none,.blds 26 1 2 [((0,2),(.t 25,true))] [.int .i64 0,.int .i64 0]) (.one 6 (none,.app 27 (.t 24) (.t 26) 2 16) (.one 10 (none,.app 31 (.t 27) (.t 30) 2 16) (.one 11 (oS 4 31) .done)))) 5 (none,
 .blds 26 1 2 [((0,2),(.t 25,true))] [.int .i64 0,.int .i64 0]) (.one 3 (none,.app 24 (.c (.slice none 0 0)) (.t 23) 2 16) (.one 6 (none,.app 27 (.t 24) (.t 26) 2 16) (.one 10 (none,.app 31 (.t 27) (.t 30) 2 16) (.one 11 (oS 4 31) .done))))) 5 (none,.blds 26 1 2 [((0,2),(.t 25,true))] [.int .i64 0,.int .i64 0]) (.one 2 (none,
 .slc 23 (.t 21) none (some (.t 22)) 2) (.one 3 (none,.app 24 (.c (.slice none 0 0)) (.t 23) 2 16) (.one 6 (none,.app 27 (.t 24) (.t 26) 2 16) (.one 10 (none,.app 31 (.t 27) (.t 30) 2 16) (.one 11 (oS 4 31) .done)))))))))))
def YD :List Nat:=[0,1,3,4,5,18]
def zkK :zC:=.seq (.reg [0,1,4,5,18] OE YD) (.seq (.reg YD OD YD) (.seq (.blk 0 (.loop (.seq (.seq (.draw [0,1,3,4,5] Ua YD) (.cond (.t 18) .skip (.exit 0))) (.blk 1 (.reg YD OC YD))))) (.seq (.draw YD OB YD) .ret)))
abbrev zgw :Nat:=43
theorem zmc :jQ Try.prog Try.f43.ntmps 2 [4] YD [(.tmp 4)] zkK zgw:=jR mix Try.func43 (by kernel_rfl) rfl
def OA :List zm:=[(none,.alloc 4 [.int .i64 0,.int .i64 0])]
def Oz :List zm:=[oM 5 0,oM 6 1,oD 7 .gtr 5 6]
def Oy :List zm:=[oM 8 1,oM 9 0,(none,.bld 10 [((0,1),(.t 8,true)),((1,1),(.t 9,true))] [.int .i64 0,.int .i64 0]),oW 4 10 2]
def Ox :List zm:=[oM 11 0,oM 12 1,(none,.bld 13 [((0,1),(.t 11,true)),((1,1),(.t 12,true))] [.int .i64 0,.int .i64 0]),oW 4 13 2]
def xr :List Nat:=[0,1,4,7]
def zkJ :zC:=.seq (.reg [0,1,7] OA xr) (.seq (.seq (.reg [0,1,4] Oz xr) (.cond (.t 7) (.seq (.reg xr Oy xr) .ret) .skip)) (.seq (.reg xr Ox xr) .ret))
abbrev zjH :Nat:=44
theorem zmb :jQ Try.prog Try.f44.ntmps 2 [] xr [(.cell 4 2 true)] zkJ zjH:=jR mix Try.func44 (by kernel_rfl) rfl
def Ow :List zm:=[oZ 4]
def Ov :List zm:=[oZ 5]
def Ou :List zm:=[oM 7 0,oE 8 7,(none,.r (.mov 9 (.c (.int .i64 0))))]
def Ot :List zm:=[oD 10 .lss 9 8]
def Oq :List zm:=[oM 11 9,oS 6 11]
def Oo :List zm:=[oM 12 1,oM 13 0,oM 14 6,(none,.call 15 (.t 12) [(.t 13,false),(.t 14,false)])]
def Om :List zm:=[oM 16 5,oM 17 6,(none,.blds 18 1 1 [((0,1),(.t 17,true))] [.int .i64 0]),(none,.app 19 (.t 16) (.t 18) 1 8),oS 5 19]
def u9 :List zm:=[oB 20 .add 9 1,oS 9 20]
def Ol :List zm:=[oM 21 5,oS 4 21]
def JP :List Nat:=[0,1,4,5,6,8,9,10,15]
def zkI :zC:=.seq (.reg JP Ow JP) (.seq (.reg JP Ov JP) (.seq (.seq (.reg [0,1,4,5,6,10,15] Ou JP) (.blk 0 (.loop (.seq (.reg [0,1,4,5,6,8,9,15] Ot JP) (.seq (.cond (.t 10) .skip (.exit 0)) (.seq (.blk 1 (.seq (.reg JP Oq JP) (.seq (.reg [0,
 1,4,5,6,8,9,10] Oo JP) (.cond (.t 15) (.reg JP Om JP) .skip)))) (.reg JP u9 JP))))))) (.seq (.reg JP Ol JP) .ret)))
abbrev zjG :Nat:=45
theorem zma :jQ Try.prog Try.f45.ntmps 2 [4] JP [(.tmp 4)] zkI zjG:=jR mix Try.func45 (by kernel_rfl) rfl
def Ok :List zm:=[oO 4]
def Oj :List zm:=[oM 6 0,oM 7 1,oX 8 6 7 1,oL 9 8 1,oS 5 9]
def yR :List zm:=[oM 10 5,oB 11 .geq 10 0,oM 12 11,oK 12 true 13 5,oK 12 true 14 0,(some (12,true),.r (.len 15 (.t 14))),WL 12 true 16 .lss 13 15,oP 17 12 16,oM 18 17,oK 18 true 19 5,oK 18 true 20 1,WL 18 true 21 .neq 19 20,oP 22 18 21,oM 23 22,oK 23 true 24 0,oK 23 true 25 5,
 (some (23,true),.r (.idxA 26 (.t 24) (.t 25) 1)),QB 23 true 27 26 1,oK 23 true 28 1,WL 23 true 29 .eql 27 28,oP 30 23 29,oS 4 30]
def xq :List Nat:=[0,1,4,5]
def zkH :zC:=.seq (.reg xq Ok xq) (.seq (.reg xq Oj xq) (.seq (.reg xq yR xq) .ret))
abbrev zgv :Nat:=46
theorem zl9 :jQ Try.prog Try.f46.ntmps 2 [4] xq [(.tmp 4)] zkH zgv:=jR mix Try.func46 (by kernel_rfl) rfl
def Oh :List zm:=[(none,.box 3 (.t 0)),(none,.box 4 (.t 1)),(none,.box 5 (.t 2)),oI 6 0]
def Og :Zh:=.take [1,4,9,10,11,12] (oF 7 4 0) (.take [4,9,10,11,12] (oL 8 7 1) (.take [3,4,9,10,11,12] (oF 9 5 0) (.take [4,9,10,11,12] (oL 10 9 1) (.take [6,9,10,11,12] (oF 12 4 1) (.take [9,10,11,12] (oL 13 12 1) (.take [8,9,10,11,12] (oF 14 5 1) (.take [9,10,11,12] (oL 15 14 1) (.one 4 (qx 11 60 8 10) (.one 9 (qx 16 60 13 15) (.one 10 (none,
 .blds 17 2 1 [((0,1),(.t 11,true)),((1,1),(.t 16,true))] [.int .i64 0]) (.one 11 (oC 18 59 17) (.one 12 (oS 6 18) .done))))))))))))
def KO :List Nat:=[0,1,2,4,5,6]
def zkG :zC:=.seq (.reg [0,1,2,6] Oh KO) (.seq (.draw KO Og KO) .ret)
abbrev zjF :Nat:=47
theorem zl8 :jQ Try.prog Try.f47.ntmps 3 [6] KO [(.tmp 6)] zkG zjF:=jR mix Try.func47 (by kernel_rfl) rfl
def Oe :List zm:=[oM 4 0,oN 5 4,oF 6 5 0,oL 7 6 1,oM 8 1,oE 9 8,oB 10 .rem 9 2,oD 11 .add 7 10,oN 12 4,oF 13 12 0,oW 13 11 1]
def zc8 :List Nat:=[0,1]
def zkF :zC:=.reg zc8 Oe zc8
abbrev zjE :Nat:=48
theorem zl7 :jQ Try.prog Try.f48.ntmps 2 [] zc8 [] zkF zjE:=jR mix Try.func48 (by kernel_rfl) rfl
def Od :List zm:=[oZ 4]
def Oc :List zm:=[oM 10 0,oM 11 0,oE 12 11,(none,.mk 13 (.t 12) (.t 12) 1 1 [.bool false]),(none,.bld 14 [((0,1),(.t 10,true)),((1,1),(.t 13,true))] [.slice none 0 0,.slice none 0 0,.slice none 0 0,.slice none 0 0]),(none,.box 15 (.t 14)),oS 5 15]
def Ob :List zm:=[oM 16 1,oE 17 16,(none,.r (.mov 18 (.c (.int .i64 0))))]
def Oa :List zm:=[oD 19 .lss 18 17]
def o9 :List zm:=[oX 20 16 18 1,oL 21 20 1,oS 7 21]
def We :List zm:=[oM 22 7,oB 23 .geq 22 0,oM 24 23,oK 24 true 25 7,oK 24 true 26 0,(some (24,true),.r (.len 27 (.t 26))),WL 24 true 28 .lss 25 27,oP 29 24 28]
def o8 :List zm:=[oM 30 5,oN 31 30,oF 32 31 1,oL 33 32 1,oM 34 7,oX 35 33 34 1,(none,.st (.t 35) (.c (.bool true)) 1)]
def Wd :List zm:=[oB 36 .add 18 1,oS 18 36]
def o7 :List zm:=[oZ 8]
def o0 :List zm:=[oM 37 0,oE 38 37,(none,.r (.mov 39 (.c (.int .i64 0))))]
def km :List zm:=[oD 40 .lss 39 38]
def kj :List zm:=[oM 41 39,oS 9 41]
def ki :List zm:=[oM 42 5,oN 43 42,oF 44 43 1,oL 45 44 1,oM 46 9,oX 47 45 46 1,oL 48 47 1,(none,.r (.notb 49 (.t 48)))]
def kh :List zm:=[oM 50 8,oM 51 5,oM 52 9,qx 53 61 51 52,(none,.blds 54 1 1 [((0,1),(.t 53,true))] [.slice none 0 0]),(none,.app 55 (.t 50) (.t 54) 1 24),oS 8 55]
def W6 :List zm:=[oB 56 .add 39 1,oS 39 56]
def kg :List zm:=[oM 57 8,oS 4 57]
def ja :List Nat:=[0,1,4,5,7,8,9,16,17,18,19,29,38,39,40,49]
def zkE :zC:=.seq (.reg ja Od ja) (.seq (.reg ja Oc ja) (.seq (.seq (.reg [0,1,4,5,7,8,9,19,29,38,39,40,49] Ob ja) (.blk 0 (.loop (.seq (.reg [0,1,4,5,7,8,9,16,17,18,29,38,39,40,49] Oa ja) (.seq (.cond (.t 19) .skip (.exit 0)) (.seq (.blk 1 (.seq (.reg ja o9 ja) (.seq (.reg [0,
 1,4,5,7,8,9,16,17,18,19,38,39,40,49] We ja) (.cond (.t 29) (.reg ja o8 ja) .skip)))) (.reg ja Wd ja))))))) (.seq (.reg ja o7 ja) (.seq (.seq (.reg [0,1,4,5,7,8,9,16,17,18,19,29,40,49] o0 ja) (.blk 2 (.loop (.seq (.reg [0,
 1,4,5,7,8,9,16,17,18,19,29,38,39,49] km ja) (.seq (.cond (.t 40) .skip (.exit 2)) (.seq (.blk 3 (.seq (.reg ja kj ja) (.seq (.reg [0,1,4,5,7,8,9,16,17,18,19,29,38,39,40] ki ja) (.cond (.t 49) (.reg ja kh ja) .skip)))) (.reg ja W6 ja))))))) (.seq (.reg ja kg ja) .ret)))))
abbrev zgu :Nat:=49
theorem zl6 :jQ Try.prog Try.f49.ntmps 2 [4] ja [(.tmp 4)] zkE zgu:=jR mix Try.func49 (by kernel_rfl) rfl
def oV :List zm:=[(none,.box 2 (.t 0)),oZ 4,oZ 5,oI 6 0]
def oU :List zm:=[oT 11 2 2,oC 12 27 11,(none,.r (.notb 13 (.t 12))),oS 10 13]
def zht :List zm:=[oZ 4,oZ 5,oI 6 3]
def oR :List zm:=[oT 15 2 2,oM 16 1,qx 17 31 15 16,(none,.r (.notb 18 (.t 17))),oS 14 18]
def zhs :List zm:=[oZ 4,oZ 5,oI 6 9]
def oJ :List zm:=[oF 20 2 0,oL 21 20 1,oF 22 2 1,oL 23 22 1,qx 24 29 21 23,oM 25 1,qx 26 56 24 25,oM 19 26,oY 27 19 0,oY 28 19 1,oY 29 19 2,oS 7 27,oS 8 28,oS 9 29]
def oH :List zm:=[oM 30 7,oM 31 8,oS 4 30,oS 5 31,oI 6 0]
def qk :List Nat:=[0,1,2,4,5,6,7,8,9,10,14]
def zkD :zC:=.seq (.reg [0,1,4,5,6,7,8,9,10,14] oV qk) (.seq (.blk 0 (.seq (.reg qk oU qk) (.cond (.t 10) (.seq (.reg qk zht qk) .ret) (.seq (.reg qk oR qk) (.cond (.t 14) (.seq (.reg qk zhs qk) .ret) .skip))))) (.seq (.reg qk oJ qk) (.seq (.reg qk oH qk) .ret)))
abbrev zjD :Nat:=50
theorem zl5 :jQ Try.prog Try.f50.ntmps 2 [4,5,6] qk [(.tmp 4),(.tmp 5),(.tmp 6)] zkD zjD:=jR mix Try.func50 (by kernel_rfl) rfl
def oG :List zm:=[(none,.box 2 (.t 0)),(none,.box 3 (.t 1)),oO 4]
def Wb :List zm:=[oF 5 2 0,oL 6 5 1,oF 7 3 0,oL 8 7 1,oD 9 .lss 6 8,oM 10 9,(some (10,false),.r (.fldA 11 (.t 2) 0)),QB 10 false 12 11 1,(some (10,false),.r (.fldA 13 (.t 3) 0)),QB 10 false 14 13 1,WL 10 false 15 .eql 12 14,oK 10 false 16 15,(some (16,true),.r (.fldA 17 (.t 2) 1)),
 QB 16 true 18 17 1,(some (16,true),.r (.fldA 19 (.t 3) 1)),QB 16 true 20 19 1,WL 16 true 21 .lss 18 20,(some (10,false),.r (.pick 22 (.t 16) (.t 21) (.c (.bool false)))),oQ 23 10 22,oS 4 23]
def KN :List Nat:=[0,1,2,3,4]
def zkC :zC:=.seq (.reg [0,1,4] oG KN) (.seq (.reg KN Wb KN) .ret)
abbrev zjC :Nat:=51
theorem zl4 :jQ Try.prog Try.f51.ntmps 2 [4] KN [(.tmp 4)] zkC zjC:=jR mix Try.func51 (by kernel_rfl) rfl
def u7 :List zm:=[(none,.box 2 (.t 0)),oZ 4]
def u6 :List zm:=[oT 16 2 2,oC 17 34 16,(none,.r (.notb 18 (.t 17)))]
def oA :List zm:=[oZ 4]
def oz :List zm:=[oF 19 2 0,oL 20 19 1,(none,.mk 21 (.t 20) (.t 20) 1 8 [.int .i64 0]),oS 5 21]
def ou :List zm:=[oI 6 0]
def ot :List zm:=[oM 22 6,oF 23 2 0,oL 24 23 1,oD 25 .lss 22 24]
def oq :List zm:=[oM 28 5,oM 29 6,oM 30 6,oX 31 28 29 1,oW 31 30 1]
def oo :List zm:=[oM 32 1,oM 33 6,qx 34 36 32 33]
def om :List zm:=[oM 35 5,oM 36 6,oX 37 35 36 1,(none,.st (.t 37) (.c (.int .i64 (- (0+1)))) 1)]
def u5 :List zm:=[oM 26 6,oB 27 .add 26 1,oS 6 27]
def kf :List zm:=[(none,.asg 7 (.c (.bool true)) true)]
def ke :List zm:=[oM 38 7]
def kb :List zm:=[oO 7]
def ka :List zm:=[oI 8 0]
def V9 :List zm:=[oM 39 8,oF 40 2 1,oL 41 40 1,oE 42 41,oD 43 .lss 39 42]
def V8 :Zh:=.take [1,3,4,5,12,13] (oF 46 2 1) (.take [3,4,5,12,13] (oL 47 46 1) (.take [3,4,5,12,13] (oM 48 8) (.take [4,5,12,13] (oX 49 47 48 2) (.take [5,12,13] (oF 50 49 0) (.take [12,13] (oL 51 50 1) (.take [7,9,10,11,13] (oF 52 2 1) (.take [9,10,11,13] (oL 53 52 1) (.take [9,
 10,11,13] (oM 54 8) (.take [10,11,13] (oX 55 53 54 2) (.take [11,13] (oF 56 55 1) (.take [13] (oL 57 56 1) (.one 12 (oS 9 51) (.one 13 (oS 10 57) .done)))))))))))))
def Qv :Zh:=.take [2,3,4,5,6,7,8,9,10,11,12,13,14,15,16,17,18,19,20,21,22] (oM 58 5) (.take [2,3,4,5,6,7,8,9,10,11,12,13,14,15,16,17,18,19,20,21,22] (oM 59 9) (.take [3,4,5,6,7,8,9,10,11,12,13,14,15,16,17,18,19,20,21,22] (oX 60 58 59 1) (.take [4,5,6,7,8,9,10,11,12,13,14,15,
 16,17,18,19,20,21,22] (oL 61 60 1) (.take [5,6,7,8,9,10,11,12,13,14,15,16,17,18,19,20,21,22] (oB 62 .lss 61 0) (.take [6,7,8,9,10,11,12,13,14,15,16,17,18,19,20,21,22] (oM 63 62) (.take [8,9,10,11,12,13,14,15,16,17,18,19,20,21,22] (oK 63 false 64 5) (.take [8,9,10,11,12,13,14,15,16,17,18,19,20,21,22] (oK 63 false 65 10) (.take [9,
 10,11,12,13,14,15,16,17,18,19,20,21,22] (some (63,false),.r (.idxA 66 (.t 64) (.t 65) 1)) (.take [10,11,12,13,14,15,16,17,18,19,20,21,22] (QB 63 false 67 66 1) (.take [11,12,13,14,15,16,17,18,19,20,21,22] (KJ 63 false 68 .lss 67 0) (.take [12,13,14,15,16,17,18,19,20,21,22] (oQ 69 63 68) (.take [13,
 14,15,16,17,18,19,20,21,22] (oM 70 69) (.take [15,16,21,22] (oK 70 false 71 5) (.take [15,16,21,22] (oK 70 false 72 9) (.take [16,21,22] (some (70,false),.r (.idxA 73 (.t 71) (.t 72) 1)) (.take [21,22] (QB 70 false 74 73 1) (.take [19,20,21,22] (oK 70 false 75 5) (.take [19,20,21,22] (oK 70 false 76 10) (.take [20,
 21,22] (some (70,false),.r (.idxA 77 (.t 75) (.t 76) 1)) (.take [21,22] (QB 70 false 78 77 1) (.take [22] (WL 70 false 79 .eql 74 78) (.take [] (oQ 80 70 79) .done))))))))))))))))))))))
def V7 :Zh:=.take [2,3,8,9] (oM 81 5) (.take [2,3,8,9] (oM 82 9) (.take [3,8,9] (oX 83 81 82 1) (.take [8,9] (oL 84 83 1) (.take [6,7,8,9] (oM 85 5) (.take [6,7,8,9] (oM 86 10) (.take [7,8,9] (oX 87 85 86 1) (.take [8,9] (oL 88 87 1) (.take [9] (none,.r (.mm 89 false (.t 84) (.t 88))) (.one 9 (oS 11 89) .done)))))))))
def V6 :List zm:=[oM 90 5,oM 91 9,oM 92 5,oM 93 10,oM 94 11,oM 95 11,oX 96 90 91 1,oW 96 94 1,oX 97 92 93 1,oW 97 95 1]
def V5 :List zm:=[(none,.asg 7 (.c (.bool true)) true)]
def Qu :List zm:=[oM 44 8,oB 45 .add 44 1,oS 8 45]
def V4 :List zm:=[oZ 12]
def V3 :List zm:=[oI 13 0]
def V0 :List zm:=[oM 98 13,oF 99 2 0,oL 100 99 1,oD 101 .lss 98 100]
def VZ :List zm:=[oM 104 5,oM 105 13,oX 106 104 105 1,oL 107 106 1,oM 108 13,oD 109 .neq 107 108]
def VY :List zm:=[oZ 14]
def VX :List zm:=[oI 15 0]
def VW :List zm:=[oM 110 15,oF 111 2 0,oL 112 111 1,oD 113 .lss 110 112]
def VV :List zm:=[oM 116 5,oM 117 15,oX 118 116 117 1,oL 119 118 1,oM 120 13,oD 121 .eql 119 120]
def VU :List zm:=[oM 122 14,oM 123 15,(none,.blds 124 1 1 [((0,1),(.t 123,true))] [.int .i64 0]),(none,.app 125 (.t 122) (.t 124) 1 8),oS 14 125]
def W5 :List zm:=[oM 114 15,oB 115 .add 114 1,oS 15 115]
def VT :List zm:=[oM 126 12,oM 127 14,(none,.blds 128 1 1 [((0,1),(.t 127,true))] [.slice none 0 0]),(none,.app 129 (.t 126) (.t 128) 1 24),oS 12 129]
def W4 :List zm:=[oM 102 13,oB 103 .add 102 1,oS 13 103]
def VS :List zm:=[oM 130 12,oS 4 130]
def zZ :List Nat:=[0,1,2,4,5,6,7,8,9,10,11,12,13,14,15,18,25,34,38,43,80,101,109,113,121]
def zhr :zC:=.seq (.reg [0,1,4,5,6,7,8,9,10,11,12,13,14,15,18,25,34,38,43,80,101,109,113,121] u7 zZ) (.seq (.seq (.reg [0,1,2,4,5,6,7,8,9,10,11,12,13,14,15,25,34,38,43,80,101,109,113,121] u6 zZ) (.cond (.t 18) (.seq (.reg zZ oA zZ) .ret) .skip)) (.seq (.reg zZ oz zZ) (.seq (.seq (.reg zZ ou zZ) (.blk 0 (.loop (.seq (.seq (.reg [0,
 1,2,4,5,6,7,8,9,10,11,12,13,14,15,18,34,38,43,80,101,109,113,121] ot zZ) (.cond (.t 25) .skip (.exit 0))) (.seq (.blk 1 (.seq (.reg zZ oq zZ) (.seq (.reg [0,1,2,4,5,6,7,8,9,10,11,12,13,14,15,18,25,
 38,43,80,101,109,113,121] oo zZ) (.cond (.t 34) (.reg zZ om zZ) .skip)))) (.reg zZ u5 zZ)))))) (.seq (.seq (.reg zZ kf zZ) (.blk 2 (.loop (.seq (.seq (.reg [0,
 1,2,4,5,6,7,8,9,10,11,12,13,14,15,18,25,34,43,80,101,109,113,121] ke zZ) (.cond (.t 38) .skip (.exit 2))) (.blk 3 (.seq (.reg zZ kb zZ) (.seq (.reg zZ ka zZ) (.blk 4 (.loop (.seq (.seq (.reg [0,
 1,2,4,5,6,7,8,9,10,11,12,13,14,15,18,25,34,38,80,101,109,113,121] V9 zZ) (.cond (.t 43) .skip (.exit 4))) (.seq (.blk 5 (.seq (.draw zZ V8 zZ) (.seq (.seq (.draw [0,1,2,4,5,6,7,8,9,10,11,12,13,
 14,15,18,25,34,38,43,101,109,113,121] Qv zZ) (.cond (.t 80) (.exit 5) .skip)) (.seq (.draw zZ V7 zZ) (.seq (.reg zZ V6 zZ) (.reg zZ V5 zZ)))))) (.reg zZ Qu zZ)))))))))))) (.seq (.reg zZ V4 zZ) (.seq (.seq (.reg zZ V3 zZ) (.blk 6 (.loop (.seq (.seq (.reg [0,
 1,2,4,5,6,7,8,9,10,11,12,13,14,15,18,25,34,38,43,80,109,113,121] V0 zZ) (.cond (.t 101) .skip (.exit 6))) (.seq (.blk 7 (.seq (.seq (.reg [0,1,2,4,5,6,7,8,9,10,11,12,13,14,15,18,25,34,38,43,80,101,113,121] VZ zZ) (.cond (.t 109) (.exit 7) .skip)) (.seq (.reg zZ VY zZ) (.seq (.seq (.reg zZ VX zZ) (.blk 8 (.loop (.seq (.seq (.reg [0,
 1,2,4,5,6,7,8,9,10,11,12,13,14,15,18,25,34,38,43,80,101,109,121] VW zZ) (.cond (.t 113) .skip (.exit 8))) (.seq (.blk 9 (.seq (.reg [0,1,2,4,5,6,7,8,9,10,11,12,13,14,15,18,25,34,38,43,80,101,109,113] VV zZ) (.cond (.t 121) (.reg zZ VU zZ) .skip))) (.reg zZ W5 zZ)))))) (.reg zZ VT zZ))))) (.reg zZ W4 zZ)))))) (.seq (.reg zZ VS zZ) .ret)))))))
abbrev zds :Nat:=52
theorem zgZ :jQ Try.prog Try.f52.ntmps 2 [4] zZ [(.tmp 4)] zhr zds:=jR mix Try.func52 (by kernel_rfl) rfl
def oh :List zm:=[(none,.box 1 (.t 0)),oZ 2]
def og :List zm:=[oT 3 1 2,oC 4 27 3,(none,.r (.notb 5 (.t 4)))]
def zhq :List zm:=[oZ 2]
def oe :List zm:=[(none,.blds 6 1 1 [((0,1),(.c (.int .i64 (- (0+1))),true))] [.int .i64 0]),oF 7 1 0,oL 8 7 1,qx 9 62 6 8,oS 2 9]
def xp :List Nat:=[0,1,2,5]
def zkB :zC:=.seq (.reg [0,2,5] oh xp) (.seq (.seq (.reg [0,1,2] og xp) (.cond (.t 5) (.seq (.reg xp zhq xp) .ret) .skip)) (.seq (.reg xp oe xp) .ret))
abbrev zjB :Nat:=53
theorem zl3 :jQ Try.prog Try.f53.ntmps 1 [2] xp [(.tmp 2)] zkB zjB:=jR mix Try.func53 (by kernel_rfl) rfl
def P9 :List zm:=[(none,.box 2 (.t 0)),oO 4]
def P8 :List zm:=[oF 5 2 0,oL 6 5 1,oM 7 1,oX 8 6 7 1,oL 9 8 1,oB 10 .lss 9 0,oS 4 10]
def KM :List Nat:=[0,1,2,4]
def zkA :zC:=.seq (.reg [0,1,4] P9 KM) (.seq (.reg KM P8 KM) .ret)
abbrev zgt :Nat:=54
theorem zl2 :jQ Try.prog Try.f54.ntmps 2 [4] KM [(.tmp 4)] zkA zgt:=jR mix Try.func54 (by kernel_rfl) rfl
def P7 :List zm:=[oI 4 0]
def P6 :List zm:=[oM 6 0,oE 7 6,(none,.r (.mov 8 (.c (.int .i64 0))))]
def u4 :List zm:=[oD 9 .lss 8 7]
def P5 :List zm:=[oM 10 8,oS 5 10]
def PZ :List zm:=[oM 11 1,oM 12 0,oM 13 5,oX 14 12 13 1,oL 15 14 1,(none,.call 16 (.t 11) [(.t 15,false)])]
def PW :List zm:=[oM 17 5,oS 4 17]
def PV :List zm:=[oB 18 .add 8 1,oS 8 18]
def PU :List zm:=[(none,.asg 4 (.c (.int .i64 (- (0+1)))) true)]
def qj :List Nat:=[0,1,4,5,7,8,9,16]
def zkz :zC:=.seq (.reg qj P7 qj) (.seq (.seq (.reg [0,1,4,5,9,16] P6 qj) (.blk 0 (.loop (.seq (.reg [0,1,4,5,7,8,16] u4 qj) (.seq (.cond (.t 9) .skip (.exit 0)) (.seq (.blk 1 (.seq (.reg qj P5 qj) (.seq (.reg [0,
 1,4,5,7,8,9] PZ qj) (.cond (.t 16) (.seq (.reg qj PW qj) .ret) .skip)))) (.reg qj PV qj))))))) (.seq (.reg qj PU qj) .ret))
abbrev zjA :Nat:=55
theorem zl1 :jQ Try.prog Try.f55.ntmps 2 [4] qj [(.tmp 4)] zkz zjA:=jR mix Try.func55 (by kernel_rfl) rfl
def PS :List zm:=[oZ 4,oZ 5,oI 6 0]
def PR :List zm:=[oM 14 0,oM 15 1,qx 16 63 14 15,oS 7 16]
def PQ :List zm:=[oM 17 7,(none,.mkfn 18 (.func 64) [(.t 17,false)] []),oS 8 18]
def PP :List zm:=[oM 20 7,oC 21 65 20,oM 19 21,oY 22 19 0,oY 23 19 1,oS 9 22,oS 10 23]
def PO :List zm:=[oM 24 10]
def PN :List zm:=[oM 30 0,oM 31 9,oX 32 30 31 1,oL 33 32 1,oE 34 33,(none,.r (.mov 35 (.c (.int .i64 0))))]
def Qr :List zm:=[oD 36 .lss 35 34]
def yQ :List zm:=[oX 37 33 35 1,oL 38 37 1,oS 12 38]
def yP :List zm:=[oM 39 7,oM 40 9,oM 41 12,oC3 42 66 39 40 41]
def yO :List zm:=[oB 44 .eql 42 1,oS 43 44]
def VR :List zm:=[oM 45 7,oM 46 9,oM 47 12,oC3 48 67 45 46 47]
def Yp :List zm:=[oB 50 .eql 42 2,oS 49 50]
def VQ :List zm:=[oM 51 8,oM 52 9,(none,.call 53 (.t 51) [(.t 52,false)]),oM 54 8,oM 55 12,(none,.call 56 (.t 54) [(.t 55,false)]),oD 57 .eql 53 56]
def W0 :List zm:=[oM 58 7,oM 59 9,oM 60 12,oC3 61 68 58 59 60,oS 13 61]
def WZ :List zm:=[oM 62 13,(none,.r (.bin 63 .neq 3 (.t 62) (.c (.slice none 0 0))))]
def VP :Zh:=.take [5,6,7] (oM 64 13) (.take [2,3,4,7] (oM 65 7) (.take [3,4,7] (oN 66 65) (.take [4,7] (oF 67 66 15) (.take [7] (oL 68 67 1) (.one 5 (oS 4 64) (.one 6 (oZ 5) (.one 7 (oS 6 68) .done)))))))
def Qs :List zm:=[oB 69 .add 35 1,oS 35 69]
def VO :List zm:=[oM 26 7,oC 27 65 26,oM 25 27,oY 28 25 0,oY 29 25 1,oS 9 28,oS 10 29]
def VN :Zh:=.take [1,6,7,8] (oM 70 7) (.take [3,4,5,8] (oM 72 7) (.take [4,5,8] (oN 73 72) (.take [5,8] (oF 74 73 15) (.take [8] (oL 75 74 1) (.one 1 (oC 71 69 70) (.one 6 (oZ 4) (.one 7 (oS 5 71) (.one 8 (oS 6 75) .done))))))))
def ZN :List Nat:=[0,1,4,5,6,7,8,9,10,12,13,24,33,34,35,36,42,43,49,57,63]
def zky :zC:=.seq (.reg ZN PS ZN) (.seq (.reg ZN PR ZN) (.seq (.reg ZN PQ ZN) (.seq (.seq (.reg ZN PP ZN) (.blk 0 (.loop (.seq (.seq (.reg [0,
 1,4,5,6,7,8,9,10,12,13,33,34,35,36,42,43,49,57,63] PO ZN) (.cond (.t 24) .skip (.exit 0))) (.seq (.blk 1 (.seq (.reg [0,1,4,5,6,7,8,9,10,12,13,24,36,42,43,49,57,63] PN ZN) (.blk 2 (.loop (.seq (.reg [0,1,4,5,6,7,8,9,10,12,13,24,33,34,35,42,43,
 49,57,63] Qr ZN) (.seq (.cond (.t 36) .skip (.exit 2)) (.seq (.blk 3 (.seq (.reg ZN yQ ZN) (.seq (.reg [0,1,4,5,6,7,8,9,10,12,13,24,33,34,35,36,43,49,57,63] yP ZN) (.blk 4 (.seq (.reg ZN yO ZN) (.cond (.t 43) (.reg ZN VR ZN) (.seq (.reg ZN Yp ZN) (.cond (.t 49) (.seq (.seq (.reg [0,
 1,4,5,6,7,8,9,10,12,13,24,33,34,35,36,42,43,49,63] VQ ZN) (.cond (.t 57) (.exit 3) .skip)) (.seq (.reg ZN W0 ZN) (.seq (.reg [0,1,4,5,6,7,8,9,10,12,13,24,33,34,35,36,42,43,49,57] WZ ZN) (.cond (.t 63) (.seq (.draw ZN VP ZN) .ret) .skip)))) .skip)))))))) (.reg ZN Qs ZN)))))))) (.reg ZN VO ZN)))))) (.seq (.draw ZN VN ZN) .ret))))
abbrev zgs :Nat:=56
theorem zl0 :jQ Try.prog Try.f56.ntmps 2 [4,5,6] ZN [(.tmp 4),(.tmp 5),(.tmp 6)] zky zgs:=jR mix Try.func56 (by kernel_rfl) rfl
def PM :List zm:=[oI 4 1]
def u0 :List zm:=[oM 5 4,oM 6 1,oE 7 6,oD 8 .lss 5 7]
def PL :Zh:=.take [20,21,22,23] (oM 11 0) (.take [4,5,20,21,22,23] (oM 12 1) (.take [3,4,5,20,21,22,23] (oM 13 4) (.take [4,5,20,21,22,23] (oB 14 .sub 13 1) (.take [5,20,21,22,23] (oX 15 12 14 1) (.take [20,21,22,23] (oL 16 15 1) (.take [22,23] (oM 17 0) (.take [9,10,20,21,22,23] (oM 18 1) (.take [9,
 10,20,21,22,23] (oM 19 4) (.take [10,20,21,22,23] (oX 20 18 19 1) (.take [20,21,22,23] (oL 21 20 1) (.take [13,14,20,21,22,23] (oM 22 1) (.take [13,14,20,21,22,23] (oM 23 4) (.take [14,20,21,22,23] (oX 24 22 23 1) (.take [20,21,22,23] (oL 25 24 1) (.take [18,19,20,21,22,23] (oM 26 1) (.take [17,18,19,
 20,21,22,23] (oM 27 4) (.take [18,19,20,21,22,23] (oB 28 .sub 27 1) (.take [19,20,21,22,23] (oX 29 26 28 1) (.take [20,21,22,23] (oL 30 29 1) (.take [21,22,23] (oX 31 11 16 1) (.one 21 (oW 31 25 1) (.take [23] (oX 32 17 21 1) (.one 23 (oW 32 30 1) .done)))))))))))))))))))))))
def PK :List zm:=[oM 9 4,oB 10 .add 9 2,oS 4 10]
def wx :List Nat:=[0,1,4,8]
def zkx :zC:=.seq (.reg wx PM wx) (.blk 0 (.loop (.seq (.seq (.reg [0,1,4] u0 wx) (.cond (.t 8) .skip (.exit 0))) (.seq (.blk 1 (.draw wx PL wx)) (.reg wx PK wx)))))
abbrev zjz :Nat:=57
theorem zlZ :jQ Try.prog Try.f57.ntmps 2 [] wx [] zkx zjz:=jR mix Try.func57 (by kernel_rfl) rfl
def PJ :List zm:=[(none,.box 3 (.t 0)),oI 6 0]
def PI :List zm:=[oT 9 3 2,oC 10 34 9,(none,.r (.notb 11 (.t 10)))]
def PH :List zm:=[(none,.asg 6 (.c (.int .i64 (- (0+1)))) true)]
def PG :List zm:=[oM 12 1,oM 13 2,qx 14 44 12 13,(none,.alloc 7 [.int .i64 0,.int .i64 0]),oW 7 14 2]
def PF :List zm:=[oI 8 0]
def PE :List zm:=[oM 15 8,oF 16 3 1,oL 17 16 1,oE 18 17,oD 19 .lss 15 18]
def PD :Zh:=.take [1,3,4,6] (oF 22 3 1) (.take [3,4,6] (oL 23 22 1) (.take [3,4,6] (oM 24 8) (.take [4,6] (oX 25 23 24 2) (.take [6] (oT 26 25 2) (.take [6] (oT 27 7 2) (.take [] (none,.r (.bin 28 .eql 8 (.t 26) (.t 27))) .done))))))
def PC :List zm:=[oM 29 8,oS 6 29]
def PB :List zm:=[oM 20 8,oB 21 .add 20 1,oS 8 21]
def PA :List zm:=[(none,.asg 6 (.c (.int .i64 (- (0+1)))) true)]
def JO :List Nat:=[0,1,2,3,6,7,8,11,19,28]
def zkw :zC:=.seq (.reg [0,1,2,6,7,8,11,19,28] PJ JO) (.seq (.seq (.reg [0,1,2,3,6,7,8,19,28] PI JO) (.cond (.t 11) (.seq (.reg JO PH JO) .ret) .skip)) (.seq (.reg [0,
 1,2,3,6,8,11,19,28] PG JO) (.seq (.seq (.reg JO PF JO) (.blk 0 (.loop (.seq (.seq (.reg [0,1,2,3,6,7,8,11,28] PE JO) (.cond (.t 19) .skip (.exit 0))) (.seq (.blk 1 (.seq (.draw [0,
 1,2,3,6,7,8,11,19] PD JO) (.cond (.t 28) (.seq (.reg JO PC JO) .ret) .skip))) (.reg JO PB JO)))))) (.seq (.reg JO PA JO) .ret))))
abbrev zjy :Nat:=58
theorem zlY :jQ Try.prog Try.f58.ntmps 3 [6] JO [(.tmp 6)] zkw zjy:=jR mix Try.func58 (by kernel_rfl) rfl
def Py :List zm:=[oI 2 0]
def Px :List zm:=[oI 3 0]
def Pv :List zm:=[oM 6 0,oE 7 6,(none,.r (.mov 8 (.c (.int .i64 0))))]
def Pu :List zm:=[oD 9 .lss 8 7]
def Ps :List zm:=[oX 10 6 8 1,oL 11 10 1,oS 5 11]
def Pr :List zm:=[oM 12 5,oM 13 3,oD 14 .neq 12 13]
def Pq :List zm:=[oM 15 5,oS 2 15]
def Pp :List zm:=[oB 16 .add 8 1,oS 8 16]
def Pn :List zm:=[oM 17 3,oS 2 17]
def JN :List Nat:=[0,2,3,5,6,7,8,9,14]
def zkv :zC:=.seq (.reg JN Py JN) (.seq (.reg JN Px JN) (.seq (.seq (.reg [0,2,3,5,9,14] Pv JN) (.blk 0 (.loop (.seq (.reg [0,2,3,5,6,7,8,14] Pu JN) (.seq (.cond (.t 9) .skip (.exit 0)) (.seq (.blk 1 (.seq (.reg JN Ps JN) (.seq (.reg [0,
 2,3,5,6,7,8,9] Pr JN) (.cond (.t 14) (.seq (.reg JN Pq JN) .ret) .skip)))) (.reg JN Pp JN))))))) (.seq (.reg JN Pn JN) .ret)))
abbrev zjx :Nat:=59
theorem zlX :jQ Try.prog Try.f59.ntmps 1 [2] JN [(.tmp 2)] zkv zjx:=jR mix Try.func59 (by kernel_rfl) rfl
def Pm :List zm:=[oI 4 0]
def Pl :List zm:=[oM 7 0,oC 8 70 7,oS 5 8]
def Pk :List zm:=[oM 9 1,oC 10 70 9,oS 6 10]
def Pj :List zm:=[oM 11 5]
def zhp :List zm:=[oM 12 6]
def zho :List zm:=[oI 4 0]
def zhn :List zm:=[(none,.asg 4 (.c (.int .i64 (- (0+1)))) true)]
def Pi :List zm:=[oM 13 6]
def zhm :List zm:=[oI 4 1]
def Ph :List zm:=[oM 14 0,oM 15 1,oD 16 .lss 14 15]
def VM :List zm:=[(none,.asg 4 (.c (.int .i64 (- (0+1)))) true)]
def VL :List zm:=[oM 17 0,oM 18 1,oD 19 .gtr 17 18]
def VK :List zm:=[oI 4 1]
def VJ :List zm:=[oI 4 0]
def jo :List Nat:=[0,1,4,5,6,11,12,13,16,19]
def zku :zC:=.seq (.reg jo Pm jo) (.seq (.reg jo Pl jo) (.seq (.reg jo Pk jo) (.seq (.seq (.reg [0,1,4,5,6,12,13,16,19] Pj jo) (.cond (.t 11) (.seq (.seq (.reg [0,
 1,4,5,6,11,13,16,19] zhp jo) (.cond (.t 12) (.seq (.reg jo zho jo) .ret) .skip)) (.seq (.reg jo zhn jo) .ret)) .skip)) (.seq (.seq (.reg [0,1,4,5,6,11,12,16,19] Pi jo) (.cond (.t 13) (.seq (.reg jo zhm jo) .ret) .skip)) (.seq (.seq (.reg [0,
 1,4,5,6,11,12,13,19] Ph jo) (.cond (.t 16) (.seq (.reg jo VM jo) .ret) .skip)) (.seq (.seq (.reg [0,1,4,5,6,11,12,13,16] VL jo) (.cond (.t 19) (.seq (.reg jo VK jo) .ret) .skip)) (.seq (.reg jo VJ jo) .ret)))))))
abbrev zjw :Nat:=60
theorem zlW :jQ Try.prog Try.f60.ntmps 2 [4] jo [(.tmp 4)] zku zjw:=jR mix Try.func60 (by kernel_rfl) rfl
def Pg :List zm:=[oZ 4]
def Pf :List zm:=[oM 9 0,(none,.mkfn 10 (.func 71) [(.t 9,false)] []),oS 5 10]
def Pe :List zm:=[oM 11 0,oN 12 11,oF 13 12 2,(none,.st (.t 13) (.c (.slice none 0 0)) 1)]
def Pd :List zm:=[oM 14 5,oM 15 1,(none,.call 16 (.t 14) [(.t 15,false)])]
def uZ :List zm:=[oM 17 0,oN 18 17,oF 19 18 3,oL 20 19 1,oE 21 20,oB 22 .gtr 21 0]
def Pc :Zh:=.take [1,2,3,10,11,12] (oM 23 0) (.take [2,3,10,11,12] (oN 24 23) (.take [3,10,11,12] (oF 25 24 3) (.take [10,11,12] (oL 26 25 1) (.take [5,6,7,8,9,10,11,12] (oM 27 0) (.take [6,7,8,9,10,11,12] (oN 28 27) (.take [7,8,9,10,11,12] (oF 29 28 3) (.take [8,9,10,11,12] (oL 30 29 1) (.take [9,
 10,11,12] (oE 31 30) (.take [10,11,12] (oB 32 .sub 31 1) (.take [11,12] (oX 33 26 32 1) (.take [12] (oL 34 33 1) (.one 12 (oS 6 34) .done))))))))))))
def Pb :Zh:=.take [12,13,14] (oM 35 0) (.take [2,3,4,11,12,13,14] (oM 36 0) (.take [3,4,11,12,13,14] (oN 37 36) (.take [4,11,12,13,14] (oF 38 37 3) (.take [11,12,13,14] (oL 39 38 1) (.take [6,7,8,9,10,11,12,13,14] (oM 40 0) (.take [7,8,9,10,11,12,13,14] (oN 41 40) (.take [8,9,
 10,11,12,13,14] (oF 42 41 3) (.take [9,10,11,12,13,14] (oL 43 42 1) (.take [10,11,12,13,14] (oE 44 43) (.take [11,12,13,14] (oB 45 .sub 44 1) (.one 11 (none,.slc 46 (.t 39) none (some (.t 45)) 1) (.take [13,14] (oN 47 35) (.take [14] (oF 48 47 3) (.one 14 (oW 48 46 1) .done))))))))))))))
def Pa :List zm:=[oM 49 0,oN 50 49,oF 51 50 0,oL 52 51 1,oM 53 6,oX 54 52 53 1,oL 55 54 1,oE 56 55,(none,.r (.mov 57 (.c (.int .i64 0))))]
def p9 :List zm:=[oD 58 .lss 57 56]
def p8 :List zm:=[oX 59 55 57 1,oL 60 59 1,oS 8 60]
def VI :List zm:=[oM 61 5,oM 62 8,(none,.call 63 (.t 61) [(.t 62,false)])]
def VH :List zm:=[oB 64 .add 57 1,oS 57 64]
def VG :List zm:=[oM 65 0,oN 66 65,oF 67 66 2,oL 68 67 1,oC 69 72 68]
def VF :List zm:=[oM 70 0,oN 71 70,oF 72 71 2,oL 73 72 1,oS 4 73]
def jd :List Nat:=[0,1,4,5,6,8,22,55,56,57,58]
def zkt :zC:=.seq (.reg jd Pg jd) (.seq (.reg jd Pf jd) (.seq (.reg jd Pe jd) (.seq (.reg jd Pd jd) (.seq (.blk 0 (.loop (.seq (.seq (.reg [0,
 1,4,5,6,8,55,56,57,58] uZ jd) (.cond (.t 22) .skip (.exit 0))) (.blk 1 (.seq (.draw jd Pc jd) (.seq (.draw jd Pb jd) (.seq (.reg [0,1,4,5,6,8,22,58] Pa jd) (.blk 2 (.loop (.seq (.reg [0,
 1,4,5,6,8,22,55,56,57] p9 jd) (.seq (.cond (.t 58) .skip (.exit 2)) (.seq (.blk 3 (.seq (.reg jd p8 jd) (.reg jd VI jd))) (.reg jd VH jd))))))))))))) (.seq (.reg jd VG jd) (.seq (.reg jd VF jd) .ret))))))
abbrev zjv :Nat:=61
theorem zlV :jQ Try.prog Try.f61.ntmps 2 [4] jd [(.tmp 4)] zkt zjv:=jR mix Try.func61 (by kernel_rfl) rfl
def p7 :List zm:=[oZ 4]
def p6 :List zm:=[oM 9 1,oB 10 .lss 9 0]
def zhl :List zm:=[(none,.bad (some 11)),(none,.bad none)]
def p5 :List zm:=[oM 13 0,oE 14 13,(none,.r (.conv 15 .u64 (.t 14))),oM 16 1,(none,.r (.conv 17 .u64 (.t 16))),qx 18 73 15 17,oM 12 18,oY 19 12 0,oY 20 12 1,oS 5 19,oS 6 20]
def pZ :List zm:=[oM 21 5,(none,.r (.bin 22 .gtr 0 (.t 21) (.c (.int .u64 0)))),oM 23 22,oK 23 false 24 6,(some (23,false),.r (.bin 25 .gtr 0 (.t 24) (.c (.int .u64 9223372036854775807)))),oQ 26 23 25]
def zhk :List zm:=[(none,.bad (some 27)),(none,.bad none)]
def pY :List zm:=[oM 28 6,(none,.r (.conv 29 .i64 (.t 28))),(none,.mk 30 (.t 29) (.t 29) 1 8 [.int .i64 0]),oS 7 30]
def uY :List zm:=[oM 31 7,oM 32 0,(none,.cpy 33 (.t 31) (.t 32) 1),oS 8 33]
def Wa :List zm:=[oM 34 8,oM 35 7,oE 36 35,oD 37 .lss 34 36]
def pX :Zh:=.take [8,9] (oM 38 8) (.take [3,7,8,9] (oM 39 7) (.take [3,7,8,9] (oM 40 8) (.take [6,7,8,9] (oM 42 7) (.take [6,7,8,9] (oM 43 8) (.two 3 (none,.slc 41 (.t 39) (some (.t 40)) none 1) (.one 6 (none,.slc 44 (.t 42) none (some (.t 43)) 1) (.one 7 (none,.cpy 45 (.t 41) (.t 44) 1) (.take [9] (oD 46 .add 38 45) (.one 9 (oS 8 46) .done)))) 6 (none,
 .slc 44 (.t 42) none (some (.t 43)) 1) (.one 3 (none,.slc 41 (.t 39) (some (.t 40)) none 1) (.one 7 (none,.cpy 45 (.t 41) (.t 44) 1) (.take [9] (oD 46 .add 38 45) (.one 9 (oS 8 46) .done)))))))))
def WY :List zm:=[oM 47 7,oS 4 47]
def j7 :List Nat:=[0,1,4,5,6,7,8,10,26,37]
def zks :zC:=.seq (.reg j7 p7 j7) (.seq (.seq (.reg [0,1,4,5,6,7,8,26,37] p6 j7) (.cond (.t 10) (.reg j7 zhl j7) .skip)) (.seq (.reg j7 p5 j7) (.seq (.seq (.reg [0,
 1,4,5,6,7,8,10,37] pZ j7) (.cond (.t 26) (.reg j7 zhk j7) .skip)) (.seq (.reg j7 pY j7) (.seq (.reg j7 uY j7) (.seq (.blk 0 (.loop (.seq (.seq (.reg [0,
 1,4,5,6,7,8,10,26] Wa j7) (.cond (.t 37) .skip (.exit 0))) (.blk 1 (.draw j7 pX j7))))) (.seq (.reg j7 WY j7) .ret)))))))
abbrev zju :Nat:=62
theorem zlU :jQ Try.prog Try.f62.ntmps 2 [4] j7 [(.tmp 4)] zks zju:=jR mix Try.func62 (by kernel_rfl) rfl
def pW :List zm:=[(none,.asg 4 (.c (.pointer none)) true)]
def pV :List zm:=[oM 8 0,oE 9 8,oS 5 9]
def pU :Zh:=.take [24,25,26] (oM 10 0) (.take [24,25,26] (oM 11 1) (.take [3,24,25,26] (oM 12 5) (.take [5,24,25,26] (oM 14 5) (.take [7,24,25,26] (oM 16 5) (.take [9,24,25,26] (oM 18 5) (.take [11,24,25,26] (oM 20 5) (.take [13,24,25,26] (oM 22 5) (.take [15,24,25,26] (oM 24 5) (.take [17,
 24,25,26] (oM 26 5) (.take [19,24,25,26] (oM 28 5) (.take [21,24,25,26] (oM 30 5) (.take [23,24,25,26] (oM 32 5) (.many [(3,(none,.mk 13 (.t 12) (.t 12) 1 8 [.int .i64 0])),(5,(none,.mk 15 (.t 14) (.t 14) 1 1 [.bool false])),(7,(none,.mk 17 (.t 16) (.t 16) 1 8 [.int .i64 0])),(9,(none,.mk 19 (.t 18) (.t 18) 1 8 [.int .i64 0])),
 (11,(none,.mk 21 (.t 20) (.t 20) 1 8 [.int .i64 0])),(13,(none,.mk 23 (.t 22) (.t 22) 1 8 [.int .i64 0])),(15,(none,.mk 25 (.t 24) (.t 24) 2 16 [.int .i64 0,.int .i64 0])),(17,(none,.mk 27 (.t 26) (.t 26) 1 1 [.bool false])),(19,(none,.mk 29 (.t 28) (.t 28) 1 8 [.int .i64 0])),(21,(none,.mk 31 (.t 30) (.t 30) 1 8 [.int .i64 0])),
 (23,(none,.mk 33 (.t 32) (.t 32) 1 8 [.int .i64 0]))] (.one 24 (none,.bld 34 [((0,1),(.t 10,true)),((1,1),(.t 11,true)),((2,1),(.t 13,true)),((3,1),(.t 15,true)),((4,1),(.t 17,true)),((5,1),(.t 19,true)),((6,1),(.t 21,true)),((7,1),(.t 23,true)),((8,1),(.t 25,true)),((9,1),(.t 27,true)),((10,1),(.t 29,
 true)),((11,1),(.t 31,true)),((12,1),(.t 33,true))] [.slice none 0 0,.slice none 0 0,.slice none 0 0,.slice none 0 0,.slice none 0 0,.slice none 0 0,.slice none 0 0,.slice none 0 0,.slice none 0 0,.slice none 0 0,.slice none 0 0,.slice none 0 0,.slice none 0 0,.int .i64 0,.slice none 0 0,.int .i64 0]) (.one 25 (none,
 .box 35 (.t 34)) (.one 26 (oS 6 35) .done))))))))))))))))
def pT :List zm:=[oM 36 5,(none,.r (.mov 37 (.c (.int .i64 0))))]
def uX :List zm:=[oD 38 .lss 37 36]
def pS :List zm:=[oM 39 37,oS 7 39]
def pR :Zh:=.take [1,2,3,17,18,19,20,21,22] (oM 40 6) (.take [2,3,17,18,19,20,21,22] (oN 41 40) (.take [3,17,18,19,20,21,22] (oF 42 41 10) (.take [17,18,19,20,21,22] (oL 43 42 1) (.take [17,18,19,20,21,22] (oM 44 7) (.take [6,7,8,17,18,19,20,21,22] (oM 45 6) (.take [7,8,17,18,19,20,21,
 22] (oN 46 45) (.take [8,17,18,19,20,21,22] (oF 47 46 11) (.take [17,18,19,20,21,22] (oL 48 47 1) (.take [19,20,21,22] (oM 49 7) (.take [11,12,13,17,18,19,20,21,22] (oM 50 6) (.take [12,13,17,18,19,20,21,22] (oN 51 50) (.take [13,17,18,19,20,21,22] (oF 52 51 7) (.take [17,18,19,20,21,22] (oL 53 52 1) (.take [21,
 22] (oM 54 7) (.take [17,18,19,20,21,22] (oM 55 7) (.take [19,20,21,22] (oM 56 7) (.take [18,19,20,21,22] (oX 57 43 44 1) (.one 18 (oW 57 55 1) (.take [20,21,22] (oX 58 48 49 1) (.one 20 (oW 58 56 1) (.take [22] (oX 59 53 54 1) (.one 22 (none,.st (.t 59) (.c (.int .i64 (- (0+1)))) 1) .done))))))))))))))))))))))
def uW :List zm:=[oM 60 1,oM 61 7,oX 62 60 61 1,oL 63 62 1,(none,.r (.bin 64 .eql 0 (.t 63) (.c (.int .i64 (- (0+1))))))]
def pQ :List zm:=[oM 65 6,oN 66 65,oF 67 66 7,oL 68 67 1,oM 69 7,oM 70 7,oX 71 68 69 1,oW 71 70 1]
def pP :List zm:=[oM 72 6,oM 73 7,(none,.call 74 (.f 74) [(.t 72,false),(.t 73,false),(.c (.int .i64 0),false),(.c (.int .i64 1),false)])]
def WX :List zm:=[oB 75 .add 37 1,oS 37 75]
def VE :List zm:=[oM 76 6,oS 4 76]
def jH :List Nat:=[0,1,4,5,6,7,36,37,38,64]
def zkr :zC:=.seq (.reg jH pW jH) (.seq (.reg jH pV jH) (.seq (.draw jH pU jH) (.seq (.seq (.reg [0,1,4,5,6,7,38,64] pT jH) (.blk 0 (.loop (.seq (.reg [0,1,4,5,6,7,36,
 37,64] uX jH) (.seq (.cond (.t 38) .skip (.exit 0)) (.seq (.blk 1 (.seq (.reg jH pS jH) (.seq (.draw jH pR jH) (.seq (.reg [0,1,4,5,6,7,36,37,38] uW jH) (.cond (.t 64) (.seq (.reg jH pQ jH) (.reg jH pP jH)) .skip))))) (.reg jH WX jH))))))) (.seq (.reg jH VE jH) .ret))))
abbrev zjt :Nat:=63
theorem zlT :jQ Try.prog Try.f63.ntmps 2 [4] jH [(.tmp 4)] zkr zjt:=jR mix Try.func63 (by kernel_rfl) rfl
def pO :List zm:=[oI 4 0]
def pN :Zh:=.take [1,2,3,7,8,9] (oM 5 0) (.take [2,3,7,8,9] (oN 6 5) (.take [3,7,8,9] (oF 7 6 11) (.take [7,8,9] (oL 8 7 1) (.take [6,7,8,9] (oM 9 0) (.take [6,7,8,9] (oM 10 1) (.one 6 (qx 11 75 9 10) (.take [8,9] (oX 12 8 11 1) (.take [9] (oL 13 12 1) (.one 9 (oS 4 13) .done)))))))))
def vA :List Nat:=[0,1,4]
def zkq :zC:=.seq (.reg vA pO vA) (.seq (.draw vA pN vA) .ret)
abbrev gB :Nat:=64
theorem zlS :jQ Try.prog Try.f64.ntmps 2 [4] vA [(.tmp 4)] zkq gB:=jR mix Try.func64 (by kernel_rfl) rfl
def uV :List zm:=[oI 2 0,oO 3]
def uU :List zm:=[oM 5 0,oN 6 5,oF 7 6 14,oL 8 7 1,oE 9 8,oB 10 .eql 9 0]
def pM :List zm:=[oI 2 0,oO 3]
def pL :List zm:=[oM 11 0,oN 12 11,oF 13 12 14,oL 14 13 1,(none,.r (.idxA 15 (.t 14) (.c (.int .i64 0)) 1)),oL 16 15 1,oS 4 16]
def pK :List zm:=[oM 17 0,oM 18 0,oN 19 18,oF 20 19 14,oL 21 20 1,(none,.slc 22 (.t 21) (some (.c (.int .i64 1))) none 1),oN 23 17,oF 24 23 14,oW 24 22 1]
def pJ :List zm:=[oM 25 4,oS 2 25,(none,.asg 3 (.c (.bool true)) true)]
def qA :List Nat:=[0,2,3,4,10]
def zhj :zC:=.seq (.reg qA uV qA) (.seq (.seq (.reg [0,2,3,4] uU qA) (.cond (.t 10) (.seq (.reg qA pM qA) .ret) .skip)) (.seq (.reg qA pL qA) (.seq (.reg qA pK qA) (.seq (.reg qA pJ qA) .ret))))
abbrev zdr :Nat:=65
theorem zgY :jQ Try.prog Try.f65.ntmps 1 [2,3] qA [(.tmp 2),(.tmp 3)] zhj zdr:=jR mix Try.func65 (by kernel_rfl) rfl
def pI :List zm:=[oI 6 0]
def pH :List zm:=[oM 7 0,oN 8 7,oF 9 8 15,oL 10 9 1,oB 11 .add 10 1,oN 12 7,oF 13 12 15,oW 13 11 1]
def uT :List zm:=[oM 15 2,oM 16 0,oN 17 16,oF 18 17 1,oL 19 18 1,oM 20 1,oX 21 19 20 1,oL 22 21 1,oD 23 .eql 15 22,oM 24 23,oK 24 false 25 0,oK 24 false 26 1,(some (24,false),.call 27 (.f 76) [(.t 25,false),(.t 26,false)]),oQ 28 24 27,oM 29 28,oK 29 false 30 0,oK 29 false 31 2,
 (some (29,false),.call 32 (.f 76) [(.t 30,false),(.t 31,false)]),oQ 33 29 32,oS 14 33]
def pG :List zm:=[oI 6 0]
def uS :List zm:=[oM 35 0,oN 36 35,oF 37 36 2,oL 38 37 1,oM 39 2,oX 40 38 39 1,oL 41 40 1,oB 42 .eql 41 0,oS 34 42]
def pF :List zm:=[oI 6 1]
def w9 :List zm:=[oM 44 0,oN 45 44,oF 46 45 3,oL 47 46 1,oM 48 2,oX 49 47 48 1,oL 50 49 1,oM 51 50,oK 51 true 52 0,oK 51 true 53 1,(some (51,true),.call 54 (.f 64) [(.t 52,false),(.t 53,false)]),oK 51 true 55 0,oK 51 true 56 2,(some (51,true),.call 57 (.f 64) [(.t 55,false),(.t 56,
 false)]),WL 51 true 58 .neq 54 57,oP 59 51 58,oS 43 59]
def pE :List zm:=[oI 6 2]
def uR :List zm:=[oI 6 0]
def Jg :List Nat:=[0,1,2,6,14,34,43]
def zkp :zC:=.seq (.reg Jg pI Jg) (.seq (.reg Jg pH Jg) (.seq (.blk 0 (.seq (.reg Jg uT Jg) (.cond (.t 14) (.seq (.reg Jg pG Jg) .ret) (.seq (.reg Jg uS Jg) (.cond (.t 34) (.seq (.reg Jg pF Jg) .ret) (.seq (.reg Jg w9 Jg) (.cond (.t 43) (.seq (.reg Jg pE Jg) .ret) .skip))))))) (.seq (.reg Jg uR Jg) .ret)))
abbrev zjs :Nat:=66
theorem zlR :jQ Try.prog Try.f66.ntmps 3 [6] Jg [(.tmp 6)] zkp zjs:=jR mix Try.func66 (by kernel_rfl) rfl
def pD :Zh:=.take [1,2,3,36,37,38,39,40,41,42,43] (oM 7 0) (.take [2,3,36,37,38,39,40,41,42,43] (oN 8 7) (.take [3,36,37,38,39,40,41,42,43] (oF 9 8 2) (.take [36,37,38,39,40,41,42,43] (oL 10 9 1) (.take [36,37,38,39,40,41,42,43] (oM 11 2) (.take [6,7,8,36,37,38,39,40,41,42,43] (oM 12 0) (.take [7,
 8,36,37,38,39,40,41,42,43] (oN 13 12) (.take [8,36,37,38,39,40,41,42,43] (oF 14 13 6) (.take [36,37,38,39,40,41,42,43] (oL 15 14 1) (.take [38,39,40,41,42,43] (oM 16 2) (.take [11,12,13,36,37,38,39,40,41,42,43] (oM 17 0) (.take [12,13,36,37,38,39,40,41,42,43] (oN 18 17) (.take [13,36,37,38,39,40,41,42,
 43] (oF 19 18 7) (.take [36,37,38,39,40,41,42,43] (oL 20 19 1) (.take [40,41,42,43] (oM 21 2) (.take [16,17,18,36,37,38,39,40,41,42,43] (oM 22 0) (.take [17,18,36,37,38,39,40,41,42,43] (oN 23 22) (.take [18,36,37,38,39,40,41,42,43] (oF 24 23 5) (.take [36,37,38,39,40,41,42,43] (oL 25 24 1) (.take [42,
 43] (oM 26 2) (.take [38,39,40,41,42,43] (oM 27 1) (.take [22,23,24,26,27,36,37,38,39,40,41,42,43] (oM 28 0) (.take [23,24,26,27,36,37,38,39,40,41,42,43] (oN 29 28) (.take [24,26,27,36,37,38,39,40,41,42,43] (oF 30 29 7) (.take [26,27,36,37,38,39,40,41,42,43] (oL 31 30 1) (.take [26,27,36,37,38,39,40,
 41,42,43] (oM 32 1) (.take [27,36,37,38,39,40,41,42,43] (oX 33 31 32 1) (.take [36,37,38,39,40,41,42,43] (oL 34 33 1) (.take [29,30,31,33,34,35,36,37,38,39,40,41,42,43] (oM 35 0) (.take [30,31,33,34,35,36,37,38,39,40,41,42,43] (oN 36 35) (.take [31,33,34,35,36,37,38,39,40,41,42,43] (oF 37 36 4) (.take [33,
 34,35,36,37,38,39,40,41,42,43] (oL 38 37 1) (.take [33,34,35,36,37,38,39,40,41,42,43] (oM 39 1) (.take [34,35,36,37,38,39,40,41,42,43] (oX 40 38 39 1) (.take [35,36,37,38,39,40,41,42,43] (oL 41 40 1) (.take [42,43] (oB 42 .add 41 1) (.take [37,38,39,40,41,42,43] (oX 43 10 11 1) (.one 37 (none,.st (.t 43) (.c (.int .i64 2)) 1) (.take [39,
 40,41,42,43] (oX 44 15 16 1) (.one 39 (oW 44 27 1) (.take [41,42,43] (oX 45 20 21 1) (.one 41 (oW 45 34 1) (.take [43] (oX 46 25 26 1) (.one 43 (oW 46 42 1) .done)))))))))))))))))))))))))))))))))))))))))))
def pC :List zm:=[oM 47 0,oN 48 47,oF 49 48 1,oL 50 49 1,oM 51 2,oX 52 50 51 1,oL 53 52 1,oS 6 53]
def pB :Zh:=.take [1,2,3,12,13] (oM 54 0) (.take [2,3,12,13] (oN 55 54) (.take [3,12,13] (oF 56 55 7) (.take [12,13] (oL 57 56 1) (.take [12,13] (oM 58 6) (.take [6,7,8,10,11,12,13] (oM 59 0) (.take [7,8,10,11,12,13] (oN 60 59) (.take [8,10,11,12,13] (oF 61 60 7) (.take [10,11,
 12,13] (oL 62 61 1) (.take [10,11,12,13] (oM 63 1) (.take [11,12,13] (oX 64 62 63 1) (.take [12,13] (oL 65 64 1) (.take [13] (oX 66 57 58 1) (.one 13 (oW 66 65 1) .done)))))))))))))
def pA :List zm:=[oM 67 0,oM 68 6,oM 69 0,oN 70 69,oF 71 70 4,oL 72 71 1,oM 73 1,oX 74 72 73 1,oL 75 74 1,oB 76 .add 75 2,(none,.call 77 (.f 74) [(.t 67,false),(.t 68,false),(.t 76,false),(.c (.int .i64 1),false)])]
def YC :List Nat:=[0,1,2,6]
def zko :zC:=.seq (.draw YC pD YC) (.seq (.reg YC pC YC) (.seq (.draw YC pB YC) (.reg YC pA YC)))
abbrev zjr :Nat:=67
theorem zlQ :jQ Try.prog Try.f67.ntmps 3 [] YC [] zko zjr:=jR mix Try.func67 (by kernel_rfl) rfl
def uQ :List zm:=[oZ 6]
def uP :Zh:=.take [1,2,3,5,6,14] (oM 9 0) (.take [2,3,5,6,14] (oN 10 9) (.take [3,5,6,14] (oF 11 10 7) (.take [5,6,14] (oL 12 11 1) (.take [5,6,14] (oM 13 1) (.take [6,14] (oX 14 12 13 1) (.take [14] (oL 15 14 1) (.take [8,9,10,12,13,14] (oM 16 0) (.take [9,10,12,13,14] (oN 17 16) (.take [10,
 12,13,14] (oF 18 17 7) (.take [12,13,14] (oL 19 18 1) (.take [12,13,14] (oM 20 2) (.take [13,14] (oX 21 19 20 1) (.take [14] (oL 22 21 1) (.take [] (oD 23 .neq 15 22) .done))))))))))))))
def pz :List zm:=[oM 24 0,oM 25 1,oM 26 0,oN 27 26,oF 28 27 7,oL 29 28 1,oM 30 1,oX 31 29 30 1,oL 32 31 1,oC3 33 78 24 25 32,oC 34 77 33,oS 7 34]
def py :List zm:=[oM 35 7,oM 36 0,oM 37 2,oM 38 0,oN 39 38,oF 40 39 7,oL 41 40 1,oM 42 2,oX 43 41 42 1,oL 44 43 1,oC3 45 78 36 37 44,(none,.app 46 (.t 35) (.t 45) 1 8),oS 7 46]
def px :Zh:=.take [1,2,3,22,23,24,25] (oM 47 0) (.take [2,3,22,23,24,25] (oN 48 47) (.take [3,22,23,24,25] (oF 49 48 9) (.take [22,23,24,25] (oL 50 49 1) (.take [5,6,7,9,10,22,23,24,25] (oM 51 0) (.take [6,7,9,10,22,23,24,25] (oN 52 51) (.take [7,9,10,22,23,24,25] (oF 53 52 7) (.take [9,
 10,22,23,24,25] (oL 54 53 1) (.take [9,10,22,23,24,25] (oM 55 1) (.take [10,22,23,24,25] (oX 56 54 55 1) (.take [22,23,24,25] (oL 57 56 1) (.take [12,13,14,22,23,24,25] (oM 58 0) (.take [13,14,22,23,24,25] (oN 59 58) (.take [14,22,23,24,25] (oF 60 59 9) (.take [22,23,24,25] (oL 61 60 1) (.take [16,17,
 18,20,21,22,23,24,25] (oM 62 0) (.take [17,18,20,21,22,23,24,25] (oN 63 62) (.take [18,20,21,22,23,24,25] (oF 64 63 7) (.take [20,21,22,23,24,25] (oL 65 64 1) (.take [20,21,22,23,24,25] (oM 66 2) (.take [21,22,23,24,25] (oX 67 65 66 1) (.take [22,23,24,25] (oL 68 67 1) (.take [23,24,25] (oX 69 50 57 1) (.one 23 (none,
 .st (.t 69) (.c (.bool true)) 1) (.take [25] (oX 70 61 68 1) (.one 25 (none,.st (.t 70) (.c (.bool true)) 1) .done)))))))))))))))))))))))))
def pw :List zm:=[oM 71 7,oS 6 71]
def pv :List zm:=[oM 72 0,oM 73 0,oM 74 1,qx 75 64 73 74,oM 76 0,oM 77 2,qx 78 64 76 77,oC3 79 79 72 75 78,oS 8 79]
def pu :List zm:=[oM 80 0,oM 81 1,oM 82 2,oM 83 8,(none,.call 84 (.f 80) [(.t 80,false),(.t 81,false),(.t 82,false),(.t 83,false)])]
def pq :List zm:=[oM 85 0,oM 86 2,oM 87 1,oM 88 8,(none,.call 89 (.f 80) [(.t 85,false),(.t 86,false),(.t 87,false),(.t 88,false)])]
def pp :List zm:=[oZ 6]
def jV :List Nat:=[0,1,2,6,7,8,23]
def zhi :zC:=.seq (.reg jV uQ jV) (.seq (.seq (.draw [0,1,2,6,7,8] uP jV) (.cond (.t 23) (.seq (.reg jV pz jV) (.seq (.reg jV py jV) (.seq (.draw jV px jV) (.seq (.reg jV pw jV) .ret)))) .skip)) (.seq (.reg jV pv jV) (.seq (.reg jV pu jV) (.seq (.reg jV pq jV) (.seq (.reg jV pp jV) .ret)))))
abbrev zgr :Nat:=68
theorem zgX :jQ Try.prog Try.f68.ntmps 3 [6] jV [(.tmp 6)] zhi zgr:=jR mix Try.func68 (by kernel_rfl) rfl
def pn :List zm:=[oZ 2]
def pm :List zm:=[oM 5 0,oN 6 5,oF 7 6 2,oL 8 7 1,oE 9 8,(none,.mk 10 (.t 9) (.t 9) 1 8 [.int .i64 0]),oS 3 10]
def pj :List zm:=[oM 11 3,oE 12 11,(none,.r (.mov 13 (.c (.int .i64 0))))]
def uO :List zm:=[oD 14 .lss 13 12]
def pi :List zm:=[oM 15 13,oS 4 15]
def ph :List zm:=[oM 16 3,oM 17 4,oM 18 0,oN 19 18,oF 20 19 2,oL 21 20 1,oM 22 4,oX 23 21 22 1,oL 24 23 1,oX 25 16 17 1,oW 25 24 1]
def uN :List zm:=[oM 26 0,oN 27 26,oF 28 27 3,oL 29 28 1,oM 30 4,oX 31 29 30 1,oL 32 31 1]
def pg :List zm:=[oM 33 3,oM 34 4,oX 35 33 34 1,(none,.st (.t 35) (.c (.int .i64 1)) 1)]
def uM :List zm:=[oB 36 .add 13 1,oS 13 36]
def pf :List zm:=[oM 37 3,oS 2 37]
def Jr :List Nat:=[0,2,3,4,12,13,14,32]
def zkn :zC:=.seq (.reg Jr pn Jr) (.seq (.reg Jr pm Jr) (.seq (.seq (.reg [0,2,3,4,14,32] pj Jr) (.blk 0 (.loop (.seq (.reg [0,
 2,3,4,12,13,32] uO Jr) (.seq (.cond (.t 14) .skip (.exit 0)) (.seq (.blk 1 (.seq (.reg Jr pi Jr) (.seq (.reg Jr ph Jr) (.seq (.reg [0,
 2,3,4,12,13,14] uN Jr) (.cond (.t 32) (.reg Jr pg Jr) .skip))))) (.reg Jr uM Jr))))))) (.seq (.reg Jr pf Jr) .ret)))
abbrev zjq :Nat:=69
theorem zlP :jQ Try.prog Try.f69.ntmps 1 [2] Jr [(.tmp 2)] zkn zjq:=jR mix Try.func69 (by kernel_rfl) rfl
def pe :List zm:=[oO 2]
def pd :List zm:=[oM 3 0,oM 4 0,oD 5 .neq 3 4,oS 2 5]
def vz :List Nat:=[0,2]
def zkm :zC:=.seq (.reg vz pe vz) (.seq (.reg vz pd vz) .ret)
abbrev zjp :Nat:=70
theorem zlO :jQ Try.prog Try.f70.ntmps 1 [2] vz [(.tmp 2)] zkm zjp:=jR mix Try.func70 (by kernel_rfl) rfl
def pc :List zm:=[oM 4 0,oN 5 4,oF 6 5 1,oL 7 6 1,oM 8 1,oX 9 7 8 1,oL 10 9 1,(none,.r (.notb 11 (.t 10)))]
def G9 :List zm:=[oM 12 0,oN 13 12,oF 14 13 1,oL 15 14 1,oM 16 1,oX 17 15 16 1,(none,.st (.t 17) (.c (.bool true)) 1)]
def G8 :List zm:=[oM 18 0,oM 19 0,oN 20 19,oF 21 20 2,oL 22 21 1,oM 23 1,(none,.blds 24 1 1 [((0,1),(.t 23,true))] [.int .i64 0]),(none,.app 25 (.t 22) (.t 24) 1 8),oN 26 18,oF 27 26 2,oW 27 25 1]
def G7 :List zm:=[oM 28 0,oM 29 0,oN 30 29,oF 31 30 3,oL 32 31 1,oM 33 1,(none,.blds 34 1 1 [((0,1),(.t 33,true))] [.int .i64 0]),(none,.app 35 (.t 32) (.t 34) 1 8),oN 36 28,oF 37 36 3,oW 37 35 1]
def ww :List Nat:=[0,1,11]
def zkl :zC:=.seq (.reg [0,1] pc ww) (.cond (.t 11) (.seq (.reg ww G9 ww) (.seq (.reg ww G8 ww) (.reg ww G7 ww))) .skip)
abbrev zjo :Nat:=71
theorem zlN :jQ Try.prog Try.f71.ntmps 2 [] ww [] zkl zjo:=jR mix Try.func71 (by kernel_rfl) rfl
abbrev zjn :Nat:=72
def G6 :List zm:=[(none,.asg 4 (.c (.int .u64 0)) true),(none,.asg 5 (.c (.int .u64 0)) true)]
def zhh :List zm:=[oM 11 0,(none,.r (.conv 12 .u32 (.t 11))),oM 13 1,(none,.r (.conv 14 .u32 (.t 13))),qx 15 83 12 14,oM 10 15,oY 16 10 0,oY 17 10 1,oS 6 16,oS 7 17]
def zhg :List zm:=[oM 18 6,(none,.r (.conv 19 .u64 (.t 18))),oM 20 7,(none,.r (.conv 21 .u64 (.t 20))),oS 4 19,oS 5 21]
def G5 :List zm:=[oM 23 0,oM 24 1,qx 25 84 23 24,oM 22 25,oY 26 22 0,oY 27 22 1,oS 8 26,oS 9 27]
def G4 :List zm:=[oM 28 8,oM 29 9,oS 4 28,oS 5 29]
def Q8 :List Nat:=[0,1,4,5,6,7,8,9]
def zkk :zC:=.seq (.reg Q8 G6 Q8) (.seq (.cond (.c (.bool false)) (.seq (.reg Q8 zhh Q8) (.seq (.reg Q8 zhg Q8) .ret)) .skip) (.seq (.reg Q8 G5 Q8) (.seq (.reg Q8 G4 Q8) .ret)))
abbrev zjm :Nat:=73
theorem zlM :jQ Try.prog Try.f73.ntmps 2 [4,5] Q8 [(.tmp 4),(.tmp 5)] zkk zjm:=jR mix Try.func73 (by kernel_rfl) rfl
def G3 :Zh:=.take [1,2,3,11,12,13,14] (oM 8 0) (.take [2,3,11,12,13,14] (oN 9 8) (.take [3,11,12,13,14] (oF 10 9 3) (.take [11,12,13,14] (oL 11 10 1) (.take [11,12,13,14] (oM 12 1) (.take [6,7,8,11,12,13,14] (oM 13 0) (.take [7,8,11,12,13,14] (oN 14 13) (.take [8,11,12,13,14] (oF 15 14 4) (.take [11,
 12,13,14] (oL 16 15 1) (.take [13,14] (oM 17 1) (.take [13,14] (oM 18 2) (.take [12,13,14] (oX 19 11 12 1) (.one 12 (none,.st (.t 19) (.c (.bool true)) 1) (.take [14] (oX 20 16 17 1) (.one 14 (oW 20 18 1) .done))))))))))))))
def uL :List zm:=[oM 21 0,oN 22 21,oF 23 22 2,oL 24 23 1,oM 25 1,oX 26 24 25 1,oL 27 26 1,oB 28 .eql 27 0]
def G0 :List zm:=[oM 29 0,oN 30 29,oF 31 30 2,oL 32 31 1,oM 33 1,oM 34 3,oX 35 32 33 1,oW 35 34 1]
def uK :List zm:=[oM 36 0,oM 37 0,oN 38 37,oF 39 38 14,oL 40 39 1,oM 41 1,(none,.blds 42 1 1 [((0,1),(.t 41,true))] [.int .i64 0]),(none,.app 43 (.t 40) (.t 42) 1 8),oN 44 36,oF 45 44 14,oW 45 43 1]
def wv :List Nat:=[0,1,2,3,28]
def zkj :zC:=.seq (.draw wv G3 wv) (.seq (.seq (.reg [0,1,2,3] uL wv) (.cond (.t 28) (.reg wv G0 wv) .skip)) (.reg wv uK wv))
abbrev zgq :Nat:=74
theorem zlL :jQ Try.prog Try.f74.ntmps 4 [] wv [] zkj zgq:=jR mix Try.func74 (by kernel_rfl) rfl
def GZ :List zm:=[oI 4 0]
def uJ :List zm:=[oM 5 0,oN 6 5,oF 7 6 10,oL 8 7 1,oM 9 1,oX 10 8 9 1,oL 11 10 1,oM 12 1,oD 13 .neq 11 12]
def GY :Zh:=.take [1,2,3,18,19] (oM 14 0) (.take [2,3,18,19] (oN 15 14) (.take [3,18,19] (oF 16 15 10) (.take [18,19] (oL 17 16 1) (.take [18,19] (oM 18 1) (.take [6,7,8,16,17,18,19] (oM 19 0) (.take [7,8,16,17,18,19] (oN 20 19) (.take [8,16,17,18,19] (oF 21 20 10) (.take [16,
 17,18,19] (oL 22 21 1) (.take [10,11,12,14,15,16,17,18,19] (oM 23 0) (.take [11,12,14,15,16,17,18,19] (oN 24 23) (.take [12,14,15,16,17,18,19] (oF 25 24 10) (.take [14,15,16,17,18,19] (oL 26 25 1) (.take [14,15,16,17,18,19] (oM 27 1) (.take [15,16,17,18,19] (oX 28 26 27 1) (.take [16,17,18,19] (oL 29 28 1) (.take [17,
 18,19] (oX 30 22 29 1) (.take [18,19] (oL 31 30 1) (.take [19] (oX 32 17 18 1) (.one 19 (oW 32 31 1) .done)))))))))))))))))))
def GX :List zm:=[oM 33 0,oN 34 33,oF 35 34 10,oL 36 35 1,oM 37 1,oX 38 36 37 1,oL 39 38 1,oS 1 39]
def GW :List zm:=[oM 40 1,oS 4 40]
def yh :List Nat:=[0,1,4,13]
def zki :zC:=.seq (.reg yh GZ yh) (.seq (.blk 0 (.loop (.seq (.seq (.reg [0,1,4] uJ yh) (.cond (.t 13) .skip (.exit 0))) (.blk 1 (.seq (.draw yh GY yh) (.reg yh GX yh)))))) (.seq (.reg yh GW yh) .ret))
abbrev zjl :Nat:=75
theorem zlK :jQ Try.prog Try.f75.ntmps 2 [4] yh [(.tmp 4)] zki zjl:=jR mix Try.func75 (by kernel_rfl) rfl
def GV :List zm:=[oO 4]
def uI :Zh:=.take [1,2,3,5,6,7,8,9,10,11,12,13,14,15,16,17,18,19,20,21,22,23] (oM 5 0) (.take [2,3,5,6,7,8,9,10,11,12,13,14,15,16,17,18,19,20,21,22,23] (oN 6 5) (.take [3,5,6,7,8,9,10,11,12,13,14,15,16,17,18,19,20,21,22,23] (oF 7 6 7) (.take [5,6,7,8,9,10,11,12,13,14,15,16,17,
 18,19,20,21,22,23] (oL 8 7 1) (.take [5,6,7,8,9,10,11,12,13,14,15,16,17,18,19,20,21,22,23] (oM 9 1) (.take [6,7,8,9,10,11,12,13,14,15,16,17,18,19,20,21,22,23] (oX 10 8 9 1) (.take [7,8,9,10,11,12,13,14,15,16,17,18,19,20,21,22,23] (oL 11 10 1) (.take [8,9,10,11,12,13,14,15,16,17,18,19,20,21,22,23] (none,
 .r (.bin 12 .neq 0 (.t 11) (.c (.int .i64 (- (0+1)))))) (.take [9,10,11,12,13,14,15,16,17,18,19,20,21,22,23] (oM 13 12) (.take [10,11,12,20,21,22,23] (oK 13 true 14 0) (.take [11,12,20,21,22,23] (some (13,true),.r (.nilck 15 (.t 14))) (.take [12,20,21,22,23] (some (13,true),.r (.fldA 16 (.t 15) 9)) (.take [20,
 21,22,23] (QB 13 true 17 16 1) (.take [14,15,16,18,19,20,21,22,23] (oK 13 true 18 0) (.take [15,16,18,19,20,21,22,23] (some (13,true),.r (.nilck 19 (.t 18))) (.take [16,18,19,20,21,22,23] (some (13,true),.r (.fldA 20 (.t 19) 7)) (.take [18,19,20,21,22,23] (QB 13 true 21 20 1) (.take [18,19,20,21,22,
 23] (oK 13 true 22 1) (.take [19,20,21,22,23] (some (13,true),.r (.idxA 23 (.t 21) (.t 22) 1)) (.take [20,21,22,23] (QB 13 true 24 23 1) (.take [21,22,23] (some (13,true),.r (.idxA 25 (.t 17) (.t 24) 1)) (.take [22,23] (QB 13 true 26 25 1) (.take [23] (oP 27 13 26) (.one 23 (oS 4 27) .done)))))))))))))))))))))))
def vy :List Nat:=[0,1,4]
def zkh :zC:=.seq (.reg vy GV vy) (.seq (.draw vy uI vy) .ret)
abbrev zjk :Nat:=76
theorem zlJ :jQ Try.prog Try.f76.ntmps 2 [4] vy [(.tmp 4)] zkh zjk:=jR mix Try.func76 (by kernel_rfl) rfl
def GU :List zm:=[oZ 2]
def GT :List zm:=[oM 5 0,oE 6 5,oB 7 .sub 6 1,oI 3 0,oS 4 7]
def uH :List zm:=[oM 8 3,oM 9 4,oD 10 .lss 8 9]
def GS :Zh:=.take [12,13,14,15] (oM 15 0) (.take [12,13,14,15] (oM 16 3) (.take [14,15] (oM 17 0) (.take [14,15] (oM 18 4) (.take [6,7,12,13,14,15] (oM 19 0) (.take [6,7,12,13,14,15] (oM 20 4) (.take [7,12,13,14,15] (oX 21 19 20 1) (.take [12,13,14,15] (oL 22 21 1) (.take [10,11,12,
 13,14,15] (oM 23 0) (.take [10,11,12,13,14,15] (oM 24 3) (.take [11,12,13,14,15] (oX 25 23 24 1) (.take [12,13,14,15] (oL 26 25 1) (.take [13,14,15] (oX 27 15 16 1) (.one 13 (oW 27 22 1) (.take [15] (oX 28 17 18 1) (.one 15 (oW 28 26 1) .done)))))))))))))))
def GQ :List zm:=[oM 11 3,oB 12 .add 11 1,oM 13 4,oB 14 .sub 13 1,oS 3 12,oS 4 14]
def GP :List zm:=[oM 29 0,oS 2 29]
def q8 :List Nat:=[0,2,3,4,10]
def zkg :zC:=.seq (.reg q8 GU q8) (.seq (.seq (.reg q8 GT q8) (.blk 0 (.loop (.seq (.seq (.reg [0,2,3,4] uH q8) (.cond (.t 10) .skip (.exit 0))) (.seq (.blk 1 (.draw q8 GS q8)) (.reg q8 GQ q8)))))) (.seq (.reg q8 GP q8) .ret))
abbrev zjj :Nat:=77
theorem zlI :jQ Try.prog Try.f77.ntmps 1 [2] q8 [(.tmp 2)] zkg zjj:=jR mix Try.func77 (by kernel_rfl) rfl
def GO :List zm:=[oZ 6]
def GN :List zm:=[oZ 7]
def GM :List zm:=[oM 9 7,oM 10 1,(none,.blds 11 1 1 [((0,1),(.t 10,true))] [.int .i64 0]),(none,.app 12 (.t 9) (.t 11) 1 8),oS 7 12]
def w8 :List zm:=[oM 37 1,oM 38 2,oD 39 .eql 37 38,oS 36 39]
def GL :List zm:=[oM 40 7,oS 6 40]
def uG :List zm:=[oM 42 0,oN 43 42,oF 44 43 2,oL 45 44 1,oM 46 1,oX 47 45 46 1,oL 48 47 1,oB 49 .eql 48 1,oS 41 49]
def GK :List zm:=[oM 50 7,oM 51 0,oN 52 51,oF 53 52 1,oL 54 53 1,oM 55 1,oX 56 54 55 1,oL 57 56 1,(none,.blds 58 1 1 [((0,1),(.t 57,true))] [.int .i64 0]),(none,.app 59 (.t 50) (.t 58) 1 8),oS 7 59]
def GJ :Zh:=.take [1,2,3,11,12,13] (oM 60 0) (.take [2,3,11,12,13] (oN 61 60) (.take [3,11,12,13] (oF 62 61 6) (.take [11,12,13] (oL 63 62 1) (.take [5,6,7,9,10,11,12,13] (oM 64 0) (.take [6,7,9,10,11,12,13] (oN 65 64) (.take [7,9,10,11,12,13] (oF 66 65 1) (.take [9,10,11,12,13] (oL 67 66 1) (.take [9,
 10,11,12,13] (oM 68 1) (.take [10,11,12,13] (oX 69 67 68 1) (.take [11,12,13] (oL 70 69 1) (.take [12,13] (oX 71 63 70 1) (.take [13] (oL 72 71 1) (.one 13 (oS 1 72) .done)))))))))))))
def GI :List zm:=[oM 13 0,oN 14 13,oF 15 14 8,oL 16 15 1,oM 17 1,oX 18 16 17 2,oT 19 18 2,(none,.alloc 8 [.int .i64 0,.int .i64 0]),oW 8 19 2]
def GH :Zh:=.take [13,14] (oM 20 7) (.take [11,12,13,14] (oM 21 0) (.take [3,11,12,13,14] (none,.r (.idxP 22 (.t 8) (.c (.int .i64 0)) 2 1)) (.take [11,12,13,14] (oL 23 22 1) (.take [5,6,7,9,10,11,12,13,14] (oM 24 0) (.take [6,7,9,10,11,12,13,14] (oN 25 24) (.take [7,9,10,11,12,
 13,14] (oF 26 25 1) (.take [9,10,11,12,13,14] (oL 27 26 1) (.take [9,10,11,12,13,14] (oM 28 1) (.take [10,11,12,13,14] (oX 29 27 28 1) (.take [11,12,13,14] (oL 30 29 1) (.one 11 (oC3 31 78 21 23 30) (.one 12 (oC 32 77 31) (.one 13 (none,.app 33 (.t 20) (.t 32) 1 8) (.one 14 (oS 7 33) .done))))))))))))))
def VD :List zm:=[(none,.r (.idxP 34 (.t 8) (.c (.int .i64 1)) 2 1)),oL 35 34 1,oS 1 35]
def jG :List Nat:=[0,1,2,6,7,8,36,41]
def zkf :zC:=.seq (.reg jG GO jG) (.seq (.reg jG GN jG) (.blk 0 (.loop (.blk 1 (.seq (.reg jG GM jG) (.blk 2 (.seq (.reg jG w8 jG) (.cond (.t 36) (.seq (.reg jG GL jG) .ret) (.seq (.reg jG uG jG) (.cond (.t 41) (.seq (.reg jG GK jG) (.draw jG GJ jG)) (.seq (.reg [0,
 1,2,6,7,36,41] GI jG) (.seq (.draw jG GH jG) (.reg jG VD jG)))))))))))))
abbrev zji :Nat:=78
theorem zlH :jQ Try.prog Try.f78.ntmps 3 [6] jG [(.tmp 6)] zkf zji:=jR mix Try.func78 (by kernel_rfl) rfl
def GG :List zm:=[oI 6 0]
def GF :List zm:=[oM 7 0,oN 8 7,oF 9 8 13,oL 10 9 1,oB 11 .add 10 1,oN 12 7,oF 13 12 13,oW 13 11 1]
def uF :List zm:=[oM 14 1,(none,.r (.bin 15 .neq 0 (.t 14) (.c (.int .i64 (- (0+1))))))]
def uE :Zh:=.take [1,2,3,5,6,11] (oM 16 0) (.take [2,3,5,6,11] (oN 17 16) (.take [3,5,6,11] (oF 18 17 12) (.take [5,6,11] (oL 19 18 1) (.take [5,6,11] (oM 20 1) (.take [6,11] (oX 21 19 20 1) (.take [11] (oL 22 21 1) (.take [8,9,10,11] (oM 23 0) (.take [9,10,11] (oN 24 23) (.take [10,
 11] (oF 25 24 13) (.take [11] (oL 26 25 1) (.take [] (oD 27 .eql 22 26) .done)))))))))))
def GE :List zm:=[oM 28 1,oS 6 28]
def GD :Zh:=.take [1,2,3,9,10] (oM 29 0) (.take [2,3,9,10] (oN 30 29) (.take [3,9,10] (oF 31 30 12) (.take [9,10] (oL 32 31 1) (.take [9,10] (oM 33 1) (.take [6,7,8,9,10] (oM 34 0) (.take [7,8,9,10] (oN 35 34) (.take [8,9,10] (oF 36 35 13) (.take [9,10] (oL 37 36 1) (.take [10] (oX 38 32 33 1) (.one 10 (oW 38 37 1) .done))))))))))
def uD :List zm:=[oM 39 0,oM 40 1,qx 41 85 39 40,oS 1 41]
def w7 :List zm:=[oM 42 2,oM 43 1,oS 1 42,oS 2 43]
def J3 :List Nat:=[0,1,2,6,15,27]
def zke :zC:=.seq (.reg J3 GG J3) (.seq (.reg J3 GF J3) (.blk 0 (.loop (.blk 1 (.seq (.seq (.reg [0,1,2,6,27] uF J3) (.cond (.t 15) (.seq (.seq (.draw [0,
 1,2,6,15] uE J3) (.cond (.t 27) (.seq (.reg J3 GE J3) .ret) .skip)) (.seq (.draw J3 GD J3) (.reg J3 uD J3))) .skip)) (.reg J3 w7 J3))))))
abbrev zjh :Nat:=79
theorem zlG :jQ Try.prog Try.f79.ntmps 3 [6] J3 [(.tmp 6)] zke zjh:=jR mix Try.func79 (by kernel_rfl) rfl
def GC :Zh:=.take [1,2,3,5,6,14,15,16] (oM 12 0) (.take [2,3,5,6,14,15,16] (oN 13 12) (.take [3,5,6,14,15,16] (oF 14 13 4) (.take [5,6,14,15,16] (oL 15 14 1) (.take [5,6,14,15,16] (oM 16 1) (.take [6,14,15,16] (oX 17 15 16 1) (.take [14,15,16] (oL 18 17 1) (.take [8,9,10,12,
 13,14,15,16] (oM 19 0) (.take [9,10,12,13,14,15,16] (oN 20 19) (.take [10,12,13,14,15,16] (oF 21 20 4) (.take [12,13,14,15,16] (oL 22 21 1) (.take [12,13,14,15,16] (oM 23 2) (.take [13,14,15,16] (oX 24 22 23 1) (.take [14,15,16] (oL 25 24 1) (.take [15,16] (oD 26 .add 18 25) (.take [16] (oB 27 .add 26 1) (.one 16 (oS 8 27) .done))))))))))))))))
def GB :List zm:=[oM 28 0,oM 29 1,qx 30 64 28 29,oS 9 30]
def uC :List zm:=[oM 31 9,oM 32 3,oD 33 .neq 31 32]
def GA :List zm:=[oM 34 0,oN 35 34,oF 36 35 1,oL 37 36 1,oM 38 9,oX 39 37 38 1,oL 40 39 1,oS 10 40]
def Gz :List zm:=[oM 41 0,oN 42 41,oF 43 42 3,oL 44 43 1,oM 45 10,oX 46 44 45 1,oL 47 46 1,(none,.r (.notb 48 (.t 47)))]
def Gy :List zm:=[oM 49 0,oN 50 49,oF 51 50 8,oL 52 51 1,oM 53 10,oM 54 1,oM 55 2,(none,.bld 56 [((0,1),(.t 54,true)),((1,1),(.t 55,true))] [.int .i64 0,.int .i64 0]),oX 57 52 53 2,oW 57 56 2]
def Gx :List zm:=[oM 58 0,oM 59 10,oM 60 8,oM 61 0,oN 62 61,oF 63 62 5,oL 64 63 1,oM 65 10,oX 66 64 65 1,oL 67 66 1,oD 68 .sub 60 67,(none,.call 69 (.f 74) [(.t 58,false),(.t 59,false),(.t 68,false),(.c (.int .i64 2),false)])]
def Gw :List zm:=[oM 70 0,oM 71 0,oN 72 71,oF 73 72 6,oL 74 73 1,oM 75 10,oX 76 74 75 1,oL 77 76 1,qx 78 64 70 77,oS 11 78]
def Gv :List zm:=[oM 79 0,oM 80 9,oM 81 10,oM 82 3,(none,.call 83 (.f 86) [(.t 79,false),(.t 80,false),(.t 81,false),(.t 82,false)])]
def Gu :List zm:=[oM 84 0,oM 85 10,oM 86 0,oN 87 86,oF 88 87 6,oL 89 88 1,oM 90 10,oX 91 89 90 1,oL 92 91 1,oM 93 3,(none,.call 94 (.f 86) [(.t 84,false),(.t 85,false),(.t 92,false),(.t 93,false)])]
def VC :List zm:=[oM 95 11,oS 9 95]
def jU :List Nat:=[0,1,2,3,8,9,10,11,33,48]
def zkd :zC:=.seq (.draw jU GC jU) (.seq (.reg jU GB jU) (.blk 0 (.loop (.seq (.seq (.reg [0,1,2,3,8,9,10,11,48] uC jU) (.cond (.t 33) .skip (.exit 0))) (.blk 1 (.seq (.reg jU GA jU) (.seq (.seq (.reg [0,
 1,2,3,8,9,10,11,33] Gz jU) (.cond (.t 48) (.seq (.reg jU Gy jU) (.reg jU Gx jU)) .skip)) (.seq (.reg jU Gw jU) (.seq (.reg jU Gv jU) (.seq (.reg jU Gu jU) (.reg jU VC jU)))))))))))
abbrev zjg :Nat:=80
theorem zlF :jQ Try.prog Try.f80.ntmps 4 [] jU [] zkd zjg:=jR mix Try.func80 (by kernel_rfl) rfl
def Gt :List zm:=[(none,.asg 4 (.c (.int .u64 0)) true),(none,.asg 5 (.c (.int .u64 0)) true)]
def Gs :List zm:=[oM 14 0,(none,.r (.bin 15 .and 0 (.t 14) (.c (.int .u64 4294967295)))),oS 6 15]
def Gr :List zm:=[oM 16 0,(none,.r (.bin 17 .shr 0 (.t 16) (.c (.int .u64 32)))),oS 7 17]
def Gq :List zm:=[oM 18 1,(none,.r (.bin 19 .and 0 (.t 18) (.c (.int .u64 4294967295)))),oS 8 19]
def Gp :List zm:=[oM 20 1,(none,.r (.bin 21 .shr 0 (.t 20) (.c (.int .u64 32)))),oS 9 21]
def Gn :List zm:=[oM 22 6,oM 23 8,oD 24 .mul 22 23,oS 10 24]
def Gm :List zm:=[oM 25 7,oM 26 8,oD 27 .mul 25 26,oM 28 10,(none,.r (.bin 29 .shr 0 (.t 28) (.c (.int .u64 32)))),oD 30 .add 27 29,oS 11 30]
def Gk :List zm:=[oM 31 11,(none,.r (.bin 32 .and 0 (.t 31) (.c (.int .u64 4294967295)))),oS 12 32]
def Gj :List zm:=[oM 33 11,(none,.r (.bin 34 .shr 0 (.t 33) (.c (.int .u64 32)))),oS 13 34]
def Gi :List zm:=[oM 35 12,oM 36 6,oM 37 9,oD 38 .mul 36 37,oD 39 .add 35 38,oS 12 39]
def VB :List zm:=[oM 40 7,oM 41 9,oD 42 .mul 40 41,oM 43 13,oD 44 .add 42 43,oM 45 12,(none,.r (.bin 46 .shr 0 (.t 45) (.c (.int .u64 32)))),oD 47 .add 44 46,oS 4 47]
def VA :List zm:=[oM 48 0,oM 49 1,oD 50 .mul 48 49,oS 5 50]
def jk :List Nat:=[0,1,4,5,6,7,8,9,10,11,12,13]
def zkc :zC:=.seq (.reg jk Gt jk) (.seq (.reg jk Gs jk) (.seq (.reg jk Gr jk) (.seq (.reg jk Gq jk) (.seq (.reg jk Gp jk) (.seq (.reg jk Gn jk) (.seq (.reg jk Gm jk) (.seq (.reg jk Gk jk) (.seq (.reg jk Gj jk) (.seq (.reg jk Gi jk) (.seq (.reg jk VB jk) (.seq (.reg jk VA jk) .ret)))))))))))
abbrev zjf :Nat:=84
theorem zlE :jQ Try.prog Try.f84.ntmps 2 [4,5] jk [(.tmp 4),(.tmp 5)] zkc zjf:=jR mix Try.func84 (by kernel_rfl) rfl
def uB :List zm:=[oI 4 0]
def uA :List zm:=[oM 5 0,oN 6 5,oF 7 6 1,oL 8 7 1,oM 9 1,oX 10 8 9 1,oL 11 10 1,(none,.r (.bin 12 .eql 0 (.t 11) (.c (.int .i64 (- (0+1))))))]
def Gh :List zm:=[(none,.asg 4 (.c (.int .i64 (- (0+1)))) true)]
def Gg :Zh:=.take [14,15] (oM 13 0) (.take [2,3,4,12,13,14,15] (oM 14 0) (.take [3,4,12,13,14,15] (oN 15 14) (.take [4,12,13,14,15] (oF 16 15 6) (.take [12,13,14,15] (oL 17 16 1) (.take [6,7,8,10,11,12,13,14,15] (oM 18 0) (.take [7,8,10,11,12,13,14,15] (oN 19 18) (.take [8,10,
 11,12,13,14,15] (oF 20 19 1) (.take [10,11,12,13,14,15] (oL 21 20 1) (.take [10,11,12,13,14,15] (oM 22 1) (.take [11,12,13,14,15] (oX 23 21 22 1) (.take [12,13,14,15] (oL 24 23 1) (.take [13,14,15] (oX 25 17 24 1) (.take [14,15] (oL 26 25 1) (.one 14 (qx 27 64 13 26) (.one 15 (oS 4 27) .done)))))))))))))))
def YB :List Nat:=[0,1,4,12]
def zhf :zC:=.seq (.reg YB uB YB) (.seq (.seq (.reg [0,1,4] uA YB) (.cond (.t 12) (.seq (.reg YB Gh YB) .ret) .skip)) (.seq (.draw YB Gg YB) .ret))
abbrev zgp :Nat:=85
theorem zgW :jQ Try.prog Try.f85.ntmps 2 [4] YB [(.tmp 4)] zhf zgp:=jR mix Try.func85 (by kernel_rfl) rfl
def Gf :List zm:=[oM 10 0,oM 11 1,qx 12 75 10 11,oM 13 0,oM 14 2,qx 15 75 13 14,oS 8 12,oS 9 15]
def Ge :List zm:=[oM 16 0,oN 17 16,oF 18 17 10,oL 19 18 1,oM 20 8,oM 21 9,oX 22 19 20 1,oW 22 21 1]
def Gd :List zm:=[oM 23 0,oN 24 23,oF 25 24 11,oL 26 25 1,oM 27 9,oM 28 3,oX 29 26 27 1,oW 29 28 1]
def xn :List Nat:=[0,1,2,3,8,9]
def zkb :zC:=.seq (.reg xn Gf xn) (.seq (.reg xn Ge xn) (.reg xn Gd xn))
abbrev zgo :Nat:=86
theorem zlD :jQ Try.prog Try.f86.ntmps 4 [] xn [] zkb zgo:=jR mix Try.func86 (by kernel_rfl) rfl
end Go.Proofs.Ytmcfdfafeheihaa

namespace Go.Ga.Gl
open Go Go.Ga
abbrev Es :=List (Nat×Nat)
def ZX (a b:Nat×Nat):Prop:=a.1<b.1∨a.1=b.1∧a.2<b.2
instance (a b:Nat×Nat):Decidable (ZX a b):=inferInstanceAs (Decidable (a.1<b.1∨a.1=b.1∧a.2<b.2))
structure GR (n:Nat)(es:Es):Prop where
 hn:n≤4096
 hm:es.length≤65536
 ok:∀e∈es,e.1<e.2∧e.2<n
 up:es.Pairwise ZX
def zB (l:Es):List (Int×Int):=l.map fun e=>((e.1:Int),(e.2:Int))
theorem zA (l:Es):(zB l).length=l.length:=by simp[zB]
theorem Qq {l:Es}{k:Nat}{a b:Nat}(h:l[k]?=some (a,b)):(zB l)[k]?=some ((a:Int),(b:Int)):=by simp[zB,h]
theorem zcS (l:Es)(k:Nat):(zB l).drop k=zB (l.drop k):=by simp[zB]
theorem castE_append (l m:Es):zB (l++m)=zB l++zB m:=by simp[zB]
def J0 (n:Int)(es:List (Int×Int))(i:Nat):Bool:=
 let e:=es.getD i (0,0)
 let p:=es.getD (i - 1) (0,0)
 decide (0≤e.1)&&decide (e.1<e.2)&&decide (e.2<n)&&(decide (i=0)||(decide (p.1<e.1)||decide (p.1=e.1)&&decide (p.2<e.2)))
def zV (n:Int)(es:List (Int×Int)):Bool:=
 decide (0≤n)&&decide (n≤4096)&&decide (es.length≤65536)&&(List.range es.length).all (J0 n es)
theorem Z4 {n:Int}{es:List (Int×Int)}{i:Nat}(hi:i<es.length)(h:J0 n es i=false):zV n es=false:=by
 have:(List.range es.length).all (J0 n es)=false:=by
  rw[Bool.eq_false_iff]
  intro h1
  rw[List.all_eq_true] at h1
  have:=h1 i (List.mem_range.2 hi)
  rw[h] at this;cases this
 simp[zV,this]
theorem yy {n:Int}{es:List (Int×Int)}(h0:0≤n)(h1:n≤4096)(h2:es.length≤65536)(h:∀i,i<es.length→J0 n es i=true):zV n es=true:=by
 simp only[zV,Bool.and_eq_true,decide_eq_true_eq,List.all_eq_true,List.mem_range]
 exact⟨⟨⟨h0,h1⟩,h2⟩,h⟩
theorem Qf {α:Type}{R:α→α→Prop}(ht:∀a b c,R a b→R b c→R a c):∀{l:List α},(∀i a b,l[i]?=some a→l[i+1]?=some b→R a b)→l.Pairwise R
 |[],_=> .nil
 |[a],_=>by simp
 | a::b::l,h=>by
   have ih:(b::l).Pairwise R:=Qf ht fun i x y hx hy=>h (i+1) x y hx hy
   have hab:R a b:=h 0 a b rfl rfl
   refine List.Pairwise.cons ?_ ih
   intro c hc
   cases hc with
   |head=>exact hab
   |tail _ hc=>exact ht a b c hab (List.rel_of_pairwise_cons ih hc)
theorem qN (a b c:Nat×Nat)(h1:ZX a b)(h2:ZX b c):ZX a c:=by
 unfold ZX at*;omega
theorem QY (a:Nat×Nat):¬ZX a a:=by unfold ZX;omega
theorem zcK (es:Es)(i:Nat):(zB es).getD i (0,0)=(((es.getD i (0,0)).1:Int),((es.getD i (0,0)).2:Int)):=by
 simp only[zB,List.getD_eq_getElem?_getD,List.getElem?_map]
 cases es[i]?<;>rfl
theorem vZ (n:Nat)(es:Es)(i:Nat):J0 (n:Int) (zB es) i=true↔
    (es.getD i (0,0)).1<(es.getD i (0,0)).2∧(es.getD i (0,0)).2<n∧(i=0∨ZX (es.getD (i - 1) (0,0)) (es.getD i (0,0))):=by
  simp only[J0,zcK,ZX,Bool.and_eq_true,Bool.or_eq_true,decide_eq_true_eq]
  omega
theorem jf {n:Nat}{es:Es}(g:GR n es):zV n (zB es)=true:=by
 refine yy (by omega) (by have:=g.hn;omega) (by rw[zA];exact g.hm) fun i hi=>?_
 rw[zA] at hi
 rw[vZ]
 have hmem:es.getD i (0,0)∈es:=by
  rw[List.getD_eq_getElem?_getD,List.getElem?_eq_getElem hi];exact List.getElem_mem hi
 have h1:=g.ok _ hmem
 refine⟨h1.1,h1.2,?_⟩
 cases i with
 |zero=>exact .inl rfl
 | succ i=>
   right
   have:=List.pairwise_iff_getElem.1 g.up i (i+1) (by omega) hi (by omega)
   simpa[List.getD_eq_getElem?_getD,List.getElem?_eq_getElem hi,List.getElem?_eq_getElem (show i<es.length by omega)] using this
theorem zfl {n:Nat}{es:Es}(h:zV n (zB es)=true):GR n es:=by
 simp only[zV,Bool.and_eq_true,decide_eq_true_eq,List.all_eq_true,List.mem_range,zA] at h
 obtain⟨⟨⟨_,h1⟩,h2⟩,h3⟩:=h
 have h4:∀i,i<es.length→(es.getD i (0,0)).1<(es.getD i (0,0)).2∧(es.getD i (0,0)).2<n∧(i=0∨ZX (es.getD (i - 1) (0,0)) (es.getD i (0,0))):=
  fun i hi=>(vZ n es i).1 (h3 i hi)
 refine⟨by omega,h2,?_,?_⟩
 · intro e he
   obtain⟨i,hi,rfl⟩:=List.mem_iff_getElem.1 he
   have:=h4 i hi
   rw[List.getD_eq_getElem?_getD,List.getElem?_eq_getElem hi] at this
   exact⟨this.1,this.2.1⟩
 · refine Qf qN fun i a b ha hb=>?_
   have hi:i+1<es.length:=(List.getElem?_eq_some_iff.1 hb).1
   have:=(h4 (i+1) hi).2.2
   rw[List.getD_eq_getElem?_getD,List.getD_eq_getElem?_getD,hb,Nat.add_sub_cancel,ha] at this
   exact this.resolve_left (by omega)
theorem Qe {n:Int}{es:List (Int×Int)}(h:zV n es=true):∃(N:Nat) (es':Es),n=N∧es=zB es'∧GR N es':=by
 have h':=h
 simp only[zV,Bool.and_eq_true,decide_eq_true_eq,List.all_eq_true,List.mem_range] at h
 obtain⟨⟨⟨h0,h1⟩,h2⟩,h3⟩:=h
 have e:es=zB (es.map fun e=>(e.1.toNat,e.2.toNat)):=by
  apply List.ext_getElem (by simp[zB])
  intro i hi hi'
  have:=h3 i hi
  simp only[J0,Bool.and_eq_true,decide_eq_true_eq,List.getD_eq_getElem?_getD,List.getElem?_eq_getElem hi,Option.getD_some] at this
  obtain⟨⟨⟨a,b⟩,c⟩,_⟩:=this
  simp only[zB,List.getElem_map]
  apply Prod.ext
  · show _=((es[i].1.toNat:Nat):Int);omega
  · show _=((es[i].2.toNat:Nat):Int);omega
 refine⟨n.toNat,_,by omega,e,?_⟩
 apply zfl
 rw[←e,show((n.toNat:Nat):Int)=n by omega]
 exact h'
theorem GR.nodup {n:Nat}{es:Es}(g:GR n es):es.Nodup:=g.up.imp fun{a b} h e=>by subst e;exact QY _ h
def Y0 (l:Es)(e:Nat×Nat):Es:=(l.filter fun x=>decide (ZX x e))++e::(l.filter fun x=> !decide (ZX x e))
theorem zf7 {l:Es}{e x:Nat×Nat}:x∈Y0 l e↔x=e∨x∈l:=by
 simp only[Y0,List.mem_append,List.mem_filter,List.mem_cons]
 by_cases h:ZX x e<;>simp[h]
 constructor
 · rintro(h|h)
   · exact .inr h
   · exact .inl h
 · rintro(rfl|h)
   · exact absurd h (QY _)
   · exact .inl h
theorem Xw (l:Es)(e:Nat×Nat):(Y0 l e).length=l.length+1:=by
 have:∀(p:Nat×Nat→Bool),(l.filter p).length+(l.filter fun x=> !p x).length=l.length:=by
  intro p
  induction l with
  |nil=>rfl
  | cons a l ih=>
    cases h:p a<;>simp[h]<;>omega
 simp only[Y0,List.length_append,List.length_cons]
 have:=this fun x=>decide (ZX x e)
 omega
theorem GR.put {n:Nat}{es:Es}(g:GR n es){e:Nat×Nat}(h1:e.1<e.2)(h2:e.2<n)(h3:e∉es)(h4:es.length<65536):GR n (Y0 es e):=by
 refine⟨g.hn,by rw[Xw];omega,?_,?_⟩
 · intro x hx
   rcases zf7.1 hx with rfl|hx
   · exact⟨h1,h2⟩
   · exact g.ok x hx
 · refine List.pairwise_append.2 ⟨g.up.filter _,List.pairwise_cons.2 ⟨?_,g.up.filter _⟩,?_⟩
   · intro x hx
     simp only[List.mem_filter,Bool.not_eq_true',decide_eq_false_iff_not] at hx
     have:x≠e:=fun h=>h3 (h▸hx.1)
     have h5:¬(x.1=e.1∧x.2=e.2):=fun h=>this (Prod.ext h.1 h.2)
     have h6:=hx.2
     unfold ZX at*
     omega
   · intro x hx y hy
     simp only[List.mem_filter,decide_eq_true_eq] at hx
     have hxe:ZX x e:=hx.2
     simp only[List.mem_cons,List.mem_filter,Bool.not_eq_true',decide_eq_false_iff_not] at hy
     rcases hy with rfl|hy
     · exact hxe
     · refine qN _ e _ hxe ?_
       have:y≠e:=fun h=>h3 (h▸hy.1)
       have h5:¬(y.1=e.1∧y.2=e.2):=fun h=>this (Prod.ext h.1 h.2)
       have h6:=hy.2
       unfold ZX at*
       omega
theorem zcr {l:Es}{e:Nat×Nat}{k:Nat}(hk:k≤l.length)(h1:∀x∈l.take k,ZX x e)(h2:∀x∈l.drop k,¬ZX x e):l.take k++e::l.drop k=Y0 l e:=by
 unfold Y0
 have e1:(l.filter fun x=>decide (ZX x e))=l.take k:=by
  conv=>lhs;rw[←List.take_append_drop k l]
  rw[List.filter_append,List.filter_eq_self.2 fun x hx=>decide_eq_true (h1 x hx),List.filter_eq_nil_iff.2 fun x hx=>by simpa using h2 x hx,List.append_nil]
 have e2:(l.filter fun x=> !decide (ZX x e))=l.drop k:=by
  conv=>lhs;rw[←List.take_append_drop k l]
  rw[List.filter_append,List.filter_eq_nil_iff.2 fun x hx=>by simpa using h1 x hx,List.filter_eq_self.2 fun x hx=>by simpa using h2 x hx,List.nil_append]
 rw[e1,e2]
def ZW (es:Es)(v:Nat):List Nat:=(es.filter fun e=>decide (e.2=v)).map (·.1)
def Z9 (es:Es)(v:Nat):List Nat:=(es.filter fun e=>decide (e.1=v)).map (·.2)
def Za (es:Es)(v:Nat):List Nat:=ZW es v++Z9 es v
def JU (n:Nat)(es:Es):List (List Nat):=(List.range n).map (Za es)
def Z7 (es:Es)(a b:Nat):Prop:=(a,b)∈es∨(b,a)∈es
theorem y7 {es:Es}{a b:Nat}(h:Z7 es a b):Z7 es b a:=h.symm
theorem JJ {es:Es}{v w:Nat}:w∈Za es v↔Z7 es v w:=by
 simp only[Za,ZW,Z9,List.mem_append,List.mem_map,List.mem_filter,decide_eq_true_eq,Z7]
 constructor
 · rintro(⟨⟨a,b⟩,⟨h,h1⟩,h2⟩|⟨⟨a,b⟩,⟨h,h1⟩,h2⟩)
   · right;simp at h1 h2;subst h1 h2;exact h
   · left;simp at h1 h2;subst h1 h2;exact h
 · rintro(h|h)
   · exact .inr ⟨(v,w),⟨h,rfl⟩,rfl⟩
   · exact .inl ⟨(w,v),⟨h,rfl⟩,rfl⟩
theorem jO (n:Nat)(es:Es):(JU n es).length=n:=by simp[JU]
theorem XI {n:Nat}{es:Es}{v:Nat}(h:v<n):(JU n es)[v]?=some (Za es v):=by simp[JU,h]
def KH (es:Es)(O:Nat→Prop)(f:Nat→Nat):Prop:=∀a b,Z7 es a b→¬O a→¬O b→f a=f b
structure Zg (n:Nat)(es:Es)(O:Nat→Prop)(ps:List (List Nat)):Prop where
 mem:∀v,(∃p∈ps,v∈p)↔v<n∧¬O v
 ne:∀p∈ps,p≠ []
 inc:∀p∈ps,p.Pairwise (· < ·)
 heads:ps.Pairwise fun p q=>∀a∈p.head?,∀b∈q.head?,a<b
 disj:ps.Pairwise fun p q=>∀v∈p,v∉q
 edge:∀p∈ps,∀a∈p,∀b,Z7 es a b→b<n→¬O b→b∈p
 conn:∀p∈ps,∀f,KH es O f→∀a∈p,∀b∈p,f a=f b
theorem zdA :∀{p q:List Nat},p.Pairwise (· < ·)→q.Pairwise (· < ·)→(∀x,x∈p↔x∈q)→p=q
 |[],[],_,_,_=>rfl
 |[],b::q,_,_,h=>by have:=(h b).2 (List.mem_cons_self ..);cases this
 |a::p,[],_,_,h=>by have:=(h a).1 (List.mem_cons_self ..);cases this
 | a ::p,b::q,hp,hq,h=>by
   have hp':=List.pairwise_cons.1 hp
   have hq':=List.pairwise_cons.1 hq
   have hab:a=b:=by
    rcases List.mem_cons.1 ((h a).1 (List.mem_cons_self ..)) with e|e
    · exact e
    · rcases List.mem_cons.1 ((h b).2 (List.mem_cons_self ..)) with e'|e'
      · exact e'.symm
      · have:=hq'.1 a e;have:=hp'.1 b e';omega
   subst hab
   rw[zdA hp'.2 hq'.2 fun x=>?_]
   constructor
   · intro hx
     rcases List.mem_cons.1 ((h x).1 (List.mem_cons_of_mem _ hx)) with e|e
     · subst e;exact absurd (hp'.1 x hx) (by omega)
     · exact e
   · intro hx
     rcases List.mem_cons.1 ((h x).2 (List.mem_cons_of_mem _ hx)) with e|e
     · subst e;exact absurd (hq'.1 x hx) (by omega)
     · exact e
theorem Vo :∀{ps qs:List (List Nat)},(∀p∈ps,p≠ [])→(∀q∈qs,q≠ [])→
    (ps.Pairwise fun p q=>∀a∈p.head?,∀b∈q.head?,a<b)→(qs.Pairwise fun p q=>∀a∈p.head?,∀b∈q.head?,a<b)→(∀p,p∈ps↔p∈qs)→ps=qs
  |[],[],_,_,_,_,_=>rfl
  |[],b::q,_,_,_,_,h=>by have:=(h b).2 (List.mem_cons_self ..);cases this
  |a::p,[],_,_,_,_,h=>by have:=(h a).1 (List.mem_cons_self ..);cases this
  | a ::p,b::q,n1,n2,hp,hq,h=>by
    have hp':=List.pairwise_cons.1 hp
    have hq':=List.pairwise_cons.1 hq
    have key:∀(x y:List Nat),x≠ []→y≠ []→(∀a∈x.head?,∀b∈y.head?,a<b)→(∀a∈y.head?,∀b∈x.head?,a<b)→False:=by
      intro x y hx hy h1 h2
      cases x with
      |nil=>exact hx rfl
      | cons u x=>cases y with
        |nil=>exact hy rfl
        |cons w y=>have:=h1 u rfl w rfl;have:=h2 w rfl u rfl;omega
    have hab:a=b:=by
      rcases List.mem_cons.1 ((h a).1 (List.mem_cons_self ..)) with e|e
      · exact e
      · rcases List.mem_cons.1 ((h b).2 (List.mem_cons_self ..)) with e'|e'
        · exact e'.symm
        · exact(key a b (n1 a (List.mem_cons_self ..)) (n2 b (List.mem_cons_self ..)) (hp'.1 b e') (hq'.1 a e)).elim
    subst hab
    have self:∀x,x≠ []→¬(∀u∈x.head?,∀w∈x.head?,u<w):=fun x hx h1=>key x x hx hx h1 h1
    rw[Vo (fun p hp=>n1 p (List.mem_cons_of_mem _ hp)) (fun p hp=>n2 p (List.mem_cons_of_mem _ hp)) hp'.2 hq'.2 fun x=>?_]
    constructor
    · intro hx
      rcases List.mem_cons.1 ((h x).1 (List.mem_cons_of_mem _ hx)) with e|e
      · subst e;exact(self x (n1 x (List.mem_cons_self ..)) (hp'.1 x hx)).elim
      · exact e
    · intro hx
      rcases List.mem_cons.1 ((h x).2 (List.mem_cons_of_mem _ hx)) with e|e
      · subst e;exact(self x (n1 x (List.mem_cons_self ..)) (hq'.1 x hx)).elim
      · exact e
open Classical in
theorem XA {n:Nat}{es:Es}{O:Nat→Prop}{ps qs:List (List Nat)}(hes:∀a b,Z7 es a b→a<n∧b<n)(P:Zg n es O ps)(Q:Zg n es O qs){p:List Nat}(hp:p∈ps){q:List Nat}(hq:q∈qs){v:Nat}(h1:v∈p)(h2:v∈q):∀x∈p,x∈q:=by
 intro x hx
 have hfl:KH es O (fun x=>if x∈q then 1 else 0):=by
  intro a b hab ha hb
  have hl:=hes a b hab
  by_cases h:a∈q
  · simp[h,Q.edge q hq a h b hab hl.2 hb]
  · have:b∉q:=fun h'=>h (Q.edge q hq b h' a (y7 hab) hl.1 ha)
    simp[h,this]
 have:=P.conn p hp _ hfl v h1 x hx
 simp only[h2,if_true] at this
 by_cases h:x∈q
 · exact h
 · simp[h] at this
theorem Zg.unique {n:Nat}{es:Es}{O:Nat→Prop}{ps qs:List (List Nat)}(hes:∀a b,Z7 es a b→a<n∧b<n)(P:Zg n es O ps)(Q:Zg n es O qs):ps=qs:=by
 have half:∀{ps qs:List (List Nat)},Zg n es O ps→Zg n es O qs→∀p∈ps,p∈qs:=by
  intro ps qs P Q p hp
  obtain⟨v,hv⟩:=List.exists_mem_of_ne_nil p (P.ne p hp)
  obtain⟨q,hq,hvq⟩:=(Q.mem v).2 ((P.mem v).1 ⟨p,hp,hv⟩)
  rw[zdA (P.inc p hp) (Q.inc q hq) fun x=>⟨XA hes P Q hp hq hv hvq x,XA hes Q P hq hp hvq hv x⟩]
  exact hq
 exact Vo P.ne Q.ne P.heads Q.heads fun p=>⟨half P Q p,half Q P p⟩
theorem GR.adj_lt {n:Nat}{es:Es}(g:GR n es):∀a b,Z7 es a b→a<n∧b<n:=by
 intro a b h
 rcases h with h|h
 · obtain⟨h1,h2⟩:=g.ok _ h;simp only at h1 h2;exact⟨by omega,h2⟩
 · obtain⟨h1,h2⟩:=g.ok _ h;simp only at h1 h2;exact⟨h2,by omega⟩
theorem vW {n:Nat}{es:Es}{O:Nat→Prop}{ps:List (List Nat)}(P:Zg n es O ps){p:List Nat}(hp:p∈ps):p.length≤n:=by
 have:=(List.pairwise_iff_getElem.1 (P.inc p hp))
 have key:∀(m:Nat) (q:List Nat),q.Pairwise (· < ·)→(∀x∈q,m≤x∧x<n)→q.length≤n - m:=by
  intro m q
  induction q generalizing m with
  |nil=>intro _ _;exact Nat.zero_le _
  | cons a q ih=>
    intro h1 h2
    have h1':=List.pairwise_cons.1 h1
    have ha:=h2 a (List.mem_cons_self ..)
    have:=ih (a+1) h1'.2 fun x hx=>⟨h1'.1 x hx,(h2 x (List.mem_cons_of_mem _ hx)).2⟩
    simp only[List.length_cons];omega
 have:=key 0 p (P.inc p hp) fun x hx=>⟨Nat.zero_le _,((P.mem x).1 ⟨p,hp,hx⟩).1⟩
 omega
theorem XB {n:Nat}{es:Es}{O:Nat→Prop}{ps:List (List Nat)}(P:Zg n es O ps):ps.length≤n:=by
 have h:(ps.map fun p=>p.headD 0).Pairwise (· < ·):=by
  refine List.pairwise_map.2 (P.heads.imp_of_mem fun{p q} hp hq h=>?_)
  have h1:=P.ne p hp;have h2:=P.ne q hq
  cases p with
  |nil=>exact absurd rfl h1
  | cons a p=>cases q with
    |nil=>exact absurd rfl h2
    |cons b q=>exact h a rfl b rfl
 have h2:∀x∈ps.map fun p=>p.headD 0,x<n:=by
  intro x hx
  obtain⟨p,hp,rfl⟩:=List.mem_map.1 hx
  cases p with
  |nil=>exact absurd rfl (P.ne _ hp)
  |cons a p=>exact((P.mem a).1 ⟨_,hp,List.mem_cons_self ..⟩).1
 have key:∀(m:Nat) (q:List Nat),q.Pairwise (· < ·)→(∀x∈q,m≤x∧x<n)→q.length≤n - m:=by
  intro m q
  induction q generalizing m with
  |nil=>intro _ _;exact Nat.zero_le _
  | cons a q ih=>
    intro h1 h2
    have h1':=List.pairwise_cons.1 h1
    have ha:=h2 a (List.mem_cons_self ..)
    have:=ih (a+1) h1'.2 fun x hx=>⟨h1'.1 x hx,(h2 x (List.mem_cons_of_mem _ hx)).2⟩
    simp only[List.length_cons];omega
 have:=key 0 _ h fun x hx=>⟨Nat.zero_le _,h2 x hx⟩
 simpa using this
def Zf (ps:List (List Nat)):Nat:=(ps.map fun p=>p.length%2).sum
abbrev DS :=List Bool×List Nat×List Nat
def come (s:DS)(v:Nat):DS:=if s.1.getD v false=true then s else(s.1.set v true,s.2.1++[v],s.2.2++[v])
def Jx (s:DS)(l:List Nat):DS:=l.foldl come s
theorem uy (s:DS)(l:List Nat)(k:Nat)(x:Nat)(h:l[k]?=some x):Jx s (l.take (k+1))=come (Jx s (l.take k)) x:=by
 rw[List.take_add_one,h]
 simp[Jx]
def JH (d:List Bool):Nat:=(d.filter fun b=> !b).length
theorem wC (d:List Bool)(v x:Nat):(d.set v true).getD x false=true↔d.getD x false=true∨(x=v∧v<d.length):=by
 simp only[List.getD_eq_getElem?_getD,List.getElem?_set]
 by_cases h:v=x
 · subst h
   by_cases h2:v<d.length
   · simp[h2]
   · simp[h2]
 · simp[h,Ne.symm h]
theorem Xf :∀(d:List Bool) (v:Nat),v<d.length→d.getD v false=false→JH (d.set v true)+1=JH d
 |[],v,h,_=>by simp at h
 | b::d,0,_,h=>by
   simp at h;subst h;simp[JH]
 | b::d,v+1,h,h2=>by
   have:=Xf d v (by simpa using h) (by simpa using h2)
   cases b<;>simp[JH] at*<;>omega
structure WI (n:Nat)(es:Es)(D:List Bool)(v:Nat)(s:DS):Prop where
 len:s.1.length=n
 done:∀x,s.1.getD x false=true↔D.getD x false=true∨x∈s.2.1
 nd:s.2.1.Nodup
 now:∀x∈s.2.1,x<n∧D.getD x false=false
 rest:∀x∈s.2.2,x∈s.2.1
 rl:s.2.2.length≤s.2.1.length
 conn:∀f,KH es (fun x=>D.getD x false=true) f→∀x∈s.2.1,f x=f v
theorem Zz :∀{l m:List Nat},l.Nodup→(∀x∈l,x∈m)→l.length≤m.length
 |[],m,_,_=>Nat.zero_le _
 | a::l,m,h,hm=>by
   have h':=List.pairwise_cons.1 h
   have ha:=hm a (List.mem_cons_self ..)
   have:=Zz (l:=l) (m:=m.erase a) h'.2 fun x hx=>(List.mem_erase_of_ne fun e=>h'.1 x hx e.symm).2 (hm x (List.mem_cons_of_mem _ hx))
   rw[List.length_erase_of_mem ha] at this
   have:=List.length_pos_of_mem ha
   simp;omega
theorem WI.size {n:Nat}{es:Es}{D:List Bool}{v:Nat}{s:DS}(w:WI n es D v s):s.2.1.length≤n:=by
 have:=Zz w.nd (m:=List.range n) fun x hx=>List.mem_range.2 (w.now x hx).1
 simpa using this
theorem WI.start {n:Nat}{es:Es}{D:List Bool}{v:Nat}(hD:D.length=n):WI n es D v (D,[],[]):=
 ⟨hD,fun x=>by simp,List.nodup_nil,fun x h=>by simp at h,fun x h=>by simp at h,Nat.le_refl _,fun f _ x h=>by simp at h⟩
theorem WI.come {n:Nat}{es:Es}{D:List Bool}{v:Nat}{s:DS}(w:WI n es D v s){x:Nat}(hx:x<n)(hc:x=v∨∃u∈s.2.1,Z7 es u x):WI n es D v (come s x):=by
 unfold Gl.come
 split
 · exact w
 · rename_i h
   have hD:D.getD x false=false:=by
    cases e:D.getD x false with
    |false=>rfl
    |true=>exact absurd ((w.done x).2 (.inl e)) h
   have hn:x∉s.2.1:=fun e=>h ((w.done x).2 (.inr e))
   refine⟨by simpa using w.len,fun y=>?_,?_,?_,?_,by simp;exact w.rl,?_⟩
   · show(s.1.set x true).getD y false=true↔_
     rw[wC,w.done,w.len,List.mem_append,List.mem_singleton]
     constructor
     · rintro(h|h)
       · exact h.imp id .inl
       · exact .inr (.inr h.1)
     · rintro(h|h|h)
       · exact .inl (.inl h)
       · exact .inl (.inr h)
       · exact .inr ⟨h,hx⟩
   · exact List.nodup_append.2 ⟨w.nd,by simp,fun a ha b hb e=>by simp at hb;subst hb;subst e;exact hn ha⟩
   · intro y hy
     rcases List.mem_append.1 hy with hy|hy
     · exact w.now y hy
     · simp at hy;subst hy;exact⟨hx,hD⟩
   · intro y hy
     rcases List.mem_append.1 hy with hy|hy
     · exact List.mem_append_left _ (w.rest y hy)
     · exact List.mem_append_right _ hy
   · intro f hf y hy
     rcases List.mem_append.1 hy with hy|hy
     · exact w.conn f hf y hy
     · simp at hy;subst hy
       rcases hc with rfl|⟨u,hu,ha⟩
       · rfl
       · rw[←w.conn f hf u hu]
         have h1:=(w.now u hu).2
         exact(hf u y ha (by show¬(D.getD u false=true);rw[h1];simp) (by show¬(D.getD y false=true);rw[hD];simp)).symm
theorem Vz {s:DS}{x y:Nat}(h:s.1.getD y false=true):(come s x).1.getD y false=true:=by
 unfold come
 split
 · exact h
 · exact(wC _ _ _).2 (.inl h)
theorem zfa {s:DS}{x:Nat}(h:x<s.1.length):(come s x).1.getD x false=true:=by
 unfold come
 split
 · assumption
 · exact(wC _ _ _).2 (.inr ⟨rfl,h⟩)
theorem g0 {s:DS}{x y:Nat}(h:y∈s.2.1):y∈(come s x).2.1:=by
 unfold come
 split
 · exact h
 · exact List.mem_append_left _ h
theorem Vy {s:DS}{x y:Nat}(h:y∈(come s x).2.1):y∈s.2.1∨y∈(come s x).2.2:=by
 unfold come at*
 split at h
 · rename_i h1;rw[if_pos h1];exact .inl h
 · rename_i h1;rw[if_neg h1]
   rcases List.mem_append.1 h with h|h
   · exact .inl h
   · exact .inr (List.mem_append_right _ h)
theorem ze9 {s:DS}{x y:Nat}(h:y∈s.2.2):y∈(come s x).2.2:=by
 unfold come
 split
 · exact h
 · exact List.mem_append_left _ h
theorem Kx {s:DS}{x:Nat}(h:x<s.1.length):2*JH (come s x).1+(come s x).2.2.length≤2*JH s.1+s.2.2.length:=by
 unfold come
 split
 · exact Nat.le_refl _
 · rename_i h1
   have:=Xf s.1 x h (by simpa using h1)
   simp only[List.length_append,List.length_singleton]
   omega
def zhY (es:Es)(U:Nat→Prop)(s:DS):Prop:=∀x∈s.2.1,x∉s.2.2→¬U x→∀y,Z7 es x y→s.1.getD y false=true
structure WJ (n:Nat)(es:Es)(D:List Bool)(v:Nat)(s:DS):Prop extends WI n es D v s where
 gone:zhY es (fun _=>False) s
 self:v∈s.2.1
theorem gZ {n:Nat}{es:Es}(hes:∀a b,Z7 es a b→a<n∧b<n){D:List Bool}{v u:Nat}{s:DS}(w:WI n es D v s)(hu:u∈s.2.1)(hg:zhY es (fun x=>x=u) s):
    ∀k,k≤(Za es u).length→
    WI n es D v (Jx s ((Za es u).take k))∧u∈(Jx s ((Za es u).take k)).2.1∧zhY es (fun x=>x=u) (Jx s ((Za es u).take k))∧
    (∀y∈(Za es u).take k,(Jx s ((Za es u).take k)).1.getD y false=true)∧
    2*JH (Jx s ((Za es u).take k)).1+(Jx s ((Za es u).take k)).2.2.length≤2*JH s.1+s.2.2.length∧(∀x∈s.2.1,x∈(Jx s ((Za es u).take k)).2.1):=by
  intro k
  induction k with
  |zero=>intro _;simp only[List.take_zero,Jx,List.foldl_nil];exact⟨w,hu,hg,fun y hy=>by simp at hy,Nat.le_refl _,fun x h=>h⟩
  | succ k ih=>
    intro hk
    obtain⟨h1,h2,h3,h4,h5,h6⟩:=ih (by omega)
    have hx:(Za es u)[k]?=some ((Za es u)[k]'(by omega)):=List.getElem?_eq_getElem _
    generalize (Za es u)[k]'(by omega)=x at hx
    have hax:Z7 es u x:=JJ.1 (List.mem_iff_getElem?.2 ⟨k,hx⟩)
    have hxn:=(hes u x hax).2
    rw[uy _ _ _ _ hx]
    refine⟨h1.come hxn (.inr ⟨u,h2,hax⟩),g0 h2,?_,?_,Nat.le_trans (Kx (by rw[h1.len];exact hxn)) h5,fun x h=>g0 (h6 x h)⟩
    · intro y hy hr hne z hz
      rcases Vy hy with hy|hy
      · exact Vz (h3 y hy (fun e=>hr (ze9 e)) hne z hz)
      · exact absurd hy hr
    · intro y hy
      rw[List.take_add_one,hx] at hy
      rcases List.mem_append.1 hy with hy|hy
      · exact Vz (h4 y hy)
      · simp at hy;subst hy;exact zfa (by rw[h1.len];exact hxn)
theorem WJ.step {n:Nat}{es:Es}(hes:∀a b,Z7 es a b→a<n∧b<n){D:List Bool}{v u:Nat}{d:List Bool}{nw r:List Nat}(w:WJ n es D v (d,nw,r++[u])):
    WJ n es D v (Jx (d,nw,r) (Za es u))∧2*JH (Jx (d,nw,r) (Za es u)).1+(Jx (d,nw,r) (Za es u)).2.2.length<2*JH d+(r++[u]).length:=by
  have w1:WI n es D v (d,nw,r):=⟨w.len,w.done,w.nd,w.now,fun x h=>w.rest x (List.mem_append_left _ h),by have:=w.rl;simp at this⊢;omega,w.conn⟩
  have hu:u∈nw:=w.rest u (List.mem_append_right _ (List.mem_singleton.2 rfl))
  have hg:zhY es (fun x=>x=u) (d,nw,r):=fun x hx hr hne y hy=>w.gone x hx (fun e=>by
    rcases List.mem_append.1 e with e|e
    · exact hr e
    · simp at e;exact hne e) (fun e=>e) y hy
  obtain⟨h1,h2,h3,h4,h5,h6⟩:=gZ hes w1 hu hg (Za es u).length (Nat.le_refl _)
  rw[List.take_length] at*
  refine⟨⟨h1,fun x hx hr _ y hy=>?_,h6 v w.self⟩,by simp at h5⊢;omega⟩
  by_cases e:x=u
  · subst e;exact h4 y (JJ.2 hy)
  · exact h3 x hx hr e y hy
theorem WJ.start {n:Nat}{es:Es}{D:List Bool}{v:Nat}(hD:D.length=n)(hv:v<n)(h0:D.getD v false=false):WJ n es D v (come (D,[],[]) v):=by
 refine⟨(WI.start hD).come hv (.inl rfl),?_,?_⟩
 · intro x hx hr _ y _
   rcases Vy hx with h|h
   · simp at h
   · exact absurd h hr
 · have:¬D.getD v false=true:=by rw[h0];simp
   unfold come;rw[if_neg this];simp
structure KF (n:Nat)(es:Es)(D:List Bool)(v:Nat)(D':List Bool)(p:List Nat):Prop where
 len:D'.length=n
 done:∀x,D'.getD x false=true↔D.getD x false=true∨x∈p
 inc:p.Pairwise (· < ·)
 mem:∀x∈p,x<n∧D.getD x false=false
 self:v∈p
 closed:∀x∈p,∀y,Z7 es x y→D'.getD y false=true
 conn:∀f,KH es (fun x=>D.getD x false=true) f→∀x∈p,f x=f v
theorem WJ.piece {n:Nat}{es:Es}{D:List Bool}{v:Nat}{d:List Bool}{nw p:List Nat}(w:WJ n es D v (d,nw,[]))(hp:p.Perm nw)(hs:p.Pairwise (· ≤ ·)):KF n es D v d p where
 len:=w.len
 done x:=by rw[w.done,hp.mem_iff]
 inc:=by
  have nd:p.Nodup:=hp.nodup_iff.2 w.nd
  refine(hs.and nd).imp fun{a b} h=>?_
  have:=h.1;have:=h.2;omega
 mem x hx:=w.now x (hp.mem_iff.1 hx)
 self:=hp.mem_iff.2 w.self
 closed x hx y hy:=w.gone x (hp.mem_iff.1 hx) (by simp) (fun e=>e) y hy
 conn f hf x hx:=w.conn f hf x (hp.mem_iff.1 hx)
structure OI (n:Nat)(es:Es)(O:Nat→Prop)(v:Nat)(D:List Bool)(ps:List (List Nat)):Prop where
 len:D.length=n
 done:∀x,x<n→(D.getD x false=true↔O x∨∃p∈ps,x∈p)
 out:∀p∈ps,∀x∈p,x<n∧¬O x
 before:∀x,x<v→x<n→D.getD x false=true
 ne:∀p∈ps,p≠ []
 inc:∀p∈ps,p.Pairwise (· < ·)
 low:∀p∈ps,∀a∈p.head?,a<v
 heads:ps.Pairwise fun p q=>∀a∈p.head?,∀b∈q.head?,a<b
 disj:ps.Pairwise fun p q=>∀v∈p,v∉q
 edge:∀p∈ps,∀a∈p,∀b,Z7 es a b→b<n→¬O b→b∈p
 conn:∀p∈ps,∀f,KH es O f→∀a∈p,∀b∈p,f a=f b
theorem OI.start {n:Nat}{es:Es}{O:Nat→Prop}{D:List Bool}(hD:D.length=n)(h:∀x,x<n→(D.getD x false=true↔O x)):OI n es O 0 D []:=
 ⟨hD,fun x hx=>by rw[h x hx];simp,fun p hp=>by simp at hp,fun x hx=>by omega,fun p hp=>by simp at hp,fun p hp=>by simp at hp,fun p hp=>by simp at hp,.nil,.nil,fun p hp=>by simp at hp,fun p hp=>by simp at hp⟩
theorem OI.skip {n:Nat}{es:Es}{O:Nat→Prop}{v:Nat}{D:List Bool}{ps:List (List Nat)}(w:OI n es O v D ps)(h:D.getD v false=true):OI n es O (v+1) D ps:=
 { w with
  before:=fun x hx hn=>by
   rcases Nat.lt_or_ge x v with h1|h1
   · exact w.before x h1 hn
   · have:x=v:=by omega
     subst this;exact h
  low:=fun p hp a ha=>Nat.lt_succ_of_lt (w.low p hp a ha)}
theorem OI.take {n:Nat}{es:Es}(hes:∀a b,Z7 es a b→a<n∧b<n){O:Nat→Prop}{v:Nat}{D D':List Bool}{ps:List (List Nat)}{p:List Nat}(w:OI n es O v D ps)(hp:KF n es D v D' p):OI n es O (v+1) D' (ps++[p]):=by
 have hO:∀x∈p,¬O x:=fun x hx ho=>by
  have h1:=hp.mem x hx
  have:=(w.done x h1.1).2 (.inl ho)
  rw[h1.2] at this;cases this
 have hsep:∀q∈ps,∀x∈q,x∉p:=fun q hq x hx hxp=>by
  have h1:=hp.mem x hxp
  have:=(w.done x h1.1).2 (.inr ⟨q,hq,hx⟩)
  rw[h1.2] at this;cases this
 have hmin:∀x∈p,v≤x:=fun x hx=>by
  rcases Nat.lt_or_ge x v with h|h
  · have h1:=hp.mem x hx
    have:=w.before x h h1.1
    rw[h1.2] at this;cases this
  · exact h
 have hhead:∀a∈p.head?,a=v:=by
  intro a ha
  cases p with
  |nil=>cases ha
  | cons b p=>
    have e0:b=a:=by simpa using ha
    subst e0
    have h1:=hmin b (List.mem_cons_self ..)
    rcases List.mem_cons.1 hp.self with e|e
    · exact e.symm
    · have:=(List.pairwise_cons.1 hp.inc).1 v e;omega
 refine⟨hp.len,fun x hx=>?_,?_,fun x hx hn=>?_,?_,?_,?_,?_,?_,?_,?_⟩
 · rw[hp.done,w.done x hx]
   simp only[List.mem_append,List.mem_singleton]
   constructor
   · rintro((h|⟨q,h1,h2⟩)|h)
     · exact .inl h
     · exact .inr ⟨q,.inl h1,h2⟩
     · exact .inr ⟨p,.inr rfl,h⟩
   · rintro(h|⟨q,h1|h1,h2⟩)
     · exact .inl (.inl h)
     · exact .inl (.inr ⟨q,h1,h2⟩)
     · subst h1;exact .inr h2
 · intro q hq x hx
   rcases List.mem_append.1 hq with hq|hq
   · exact w.out q hq x hx
   · simp at hq;subst hq;exact⟨(hp.mem x hx).1,hO x hx⟩
 · rw[hp.done]
   rcases Nat.lt_or_ge x v with h1|h1
   · exact .inl (w.before x h1 hn)
   · have:x=v:=by omega
     subst this;exact .inr hp.self
 · intro q hq
   rcases List.mem_append.1 hq with hq|hq
   · exact w.ne q hq
   · simp at hq;subst hq;intro e;rw[e] at hp;exact absurd hp.self (by simp)
 · intro q hq
   rcases List.mem_append.1 hq with hq|hq
   · exact w.inc q hq
   · simp at hq;subst hq;exact hp.inc
 · intro q hq a ha
   rcases List.mem_append.1 hq with hq|hq
   · exact Nat.lt_succ_of_lt (w.low q hq a ha)
   · simp at hq;subst hq;rw[hhead a ha];omega
 · refine List.pairwise_append.2 ⟨w.heads,by simp,fun q hq r hr a ha b hb=>?_⟩
   simp at hr;subst hr
   rw[hhead b hb];exact w.low q hq a ha
 · refine List.pairwise_append.2 ⟨w.disj,by simp,fun q hq r hr x hx=>?_⟩
   simp at hr;subst hr
   exact hsep q hq x hx
 · intro q hq a ha b hab hb hob
   rcases List.mem_append.1 hq with hq|hq
   · exact w.edge q hq a ha b hab hb hob
   · simp at hq;subst hq
     rcases(hp.done b).1 (hp.closed a ha b hab) with h|h
     · rcases(w.done b hb).1 h with h|⟨q,hq,hbq⟩
       · exact absurd h hob
       · exact absurd ha (hsep q hq a (w.edge q hq b hbq a (y7 hab) (hp.mem a ha).1 (hO a ha)))
     · exact h
 · intro q hq f hf a ha b hb
   rcases List.mem_append.1 hq with hq|hq
   · exact w.conn q hq f hf a ha b hb
   · simp at hq;subst hq
     have hf':KH es (fun x=>D.getD x false=true) f:=by
      intro x y hxy hx hy
      have hl:=hes x y hxy
      exact hf x y hxy (fun ho=>hx ((w.done x hl.1).2 (.inl ho))) fun ho=>hy ((w.done y hl.2).2 (.inl ho))
     rw[hp.conn f hf' a ha,hp.conn f hf' b hb]
theorem OI.pieces {n:Nat}{es:Es}{O:Nat→Prop}{D:List Bool}{ps:List (List Nat)}(w:OI n es O n D ps):Zg n es O ps where
 mem v:=by
  constructor
  · rintro⟨p,hp,hv⟩;exact w.out p hp v hv
  · rintro⟨h1,h2⟩
    rcases(w.done v h1).1 (w.before v h1 h1) with h|h
    · exact absurd h h2
    · exact h
 ne:=w.ne
 inc:=w.inc
 heads:=w.heads
 disj:=w.disj
 edge:=w.edge
 conn:=w.conn
end Go.Ga.Gl
set_option maxRecDepth 100000
set_option maxHeartbeats 4000000
namespace Go.Proofs.Ytmcfdfafeheihaa
open Go Go.Ga Go.Ga.Gl
theorem gM (a:Int):zo Try.prog [] zjp [.sc (.int .i64 a)] [] fun r h'=>r= .sc (.bool false)∧h'=[]:=by
 refine zlO rfl ?_
 unfold zkm vz
 refine za fun KY hKY=>?_
 simp only[go_sem,pe]
 apply hKY
 refine za fun KY hKY=>?_
 simp only[go_sem,pd,ne_eq,not_true_eq_false]
 apply hKY
 refine zi ?_
 simp only[go_sem]
def vp (a b:Int):Int:=if a<b then -1 else if b<a then 1 else 0
theorem ux (a b:Int):zo Try.prog [] zjw [.sc (.int .i64 a),.sc (.int .i64 b)] [] fun r h'=>r= .sc (.int .i64 (vp a b))∧h'=[]:=by
 refine zlW rfl ?_
 unfold zku jo
 refine za fun KY hKY=>?_
 simp only[go_sem,Pm]
 apply hKY
 refine za fun KY hKY=>?_
 simp only[go_sem,Pl]
 refine zk rfl (by simp only[go_sem]<;>rfl) ((gM _).mono ?_)
 rintro rr hh ⟨rfl,rfl⟩
 refine⟨rfl,rfl,rfl,?_⟩
 simp only[go_sem]
 apply hKY
 refine za fun KY hKY=>?_
 simp only[go_sem,Pk]
 refine zk rfl (by simp only[go_sem]<;>rfl) ((gM _).mono ?_)
 rintro rr hh ⟨rfl,rfl⟩
 refine⟨rfl,rfl,rfl,?_⟩
 simp only[go_sem]
 apply hKY
 refine zf fun X1 hn1 he1 hr1=>?_
 refine za fun KY hKY=>?_
 simp only[go_sem,Pj]
 apply hKY
 refine Zr ?_
 refine zh ?_
 repeat (first|refine hn1 _ ?_|refine he1 _ _ ?_)
 refine zf fun X2 hn2 he2 hr2=>?_
 refine za fun KY hKY=>?_
 simp only[go_sem,Pi]
 apply hKY
 refine Zr ?_
 refine zh ?_
 repeat (first|refine hn2 _ ?_|refine he2 _ _ ?_|refine hn1 _ ?_|refine he1 _ _ ?_)
 unfold vp
 refine zf fun X3 hn3 he3 hr3=>?_
 refine za fun KY hKY=>?_
 simp only[go_sem,Ph]
 apply hKY
 by_cases h:a<b
 · refine ZM (by first|rfl|(simp only[go_sem,h];try simp(disch:=omega) only[decide_eq_true,decide_eq_false])) ?_
   refine za fun KY hKY=>?_
   simp only[go_sem,VM]
   apply hKY
   refine zi ?_
   repeat (first|refine hr3 _ ?_|refine hr2 _ ?_|refine hr1 _ ?_)
   simp only[go_sem,h]
 · refine ZA (by first|rfl|(simp only[go_sem,h];try simp(disch:=omega) only[decide_eq_true,decide_eq_false])) ?_
   refine zh ?_
   repeat (first|refine hn3 _ ?_|refine he3 _ _ ?_|refine hn2 _ ?_|refine he2 _ _ ?_|refine hn1 _ ?_|refine he1 _ _ ?_)
   refine zf fun X4 hn4 he4 hr4=>?_
   refine za fun KY hKY=>?_
   simp only[go_sem,VL]
   apply hKY
   by_cases h2:b<a
   · refine ZM (by first|rfl|(simp only[go_sem,h2];try simp(disch:=omega) only[decide_eq_true,decide_eq_false])) ?_
     refine za fun KY hKY=>?_
     simp only[go_sem,VK]
     apply hKY
     refine zi ?_
     repeat (first|refine hr4 _ ?_|refine hr3 _ ?_|refine hr2 _ ?_|refine hr1 _ ?_)
     simp only[go_sem,h,h2]
   · refine ZA (by first|rfl|(simp only[go_sem,h2];try simp(disch:=omega) only[decide_eq_true,decide_eq_false])) ?_
     refine zh ?_
     repeat (first|refine hn4 _ ?_|refine he4 _ _ ?_|refine hn3 _ ?_|refine he3 _ _ ?_|refine hn2 _ ?_|refine he2 _ _ ?_|refine hn1 _ ?_|refine he1 _ _ ?_)
     refine za fun KY hKY=>?_
     simp only[go_sem,VJ]
     apply hKY
     refine zi ?_
     repeat (first|refine hr4 _ ?_|refine hr3 _ ?_|refine hr2 _ ?_|refine hr1 _ ?_)
     simp only[go_sem,h,h2]
theorem ur :∀{l:List Int} {k:Nat},k<l.length→l.getD k 0≠0→(∀j,j<k→l.getD j 0=0)→l.find? (· ≠0)=some (l.getD k 0)
 |[],k,h,_,_=>by simp at h
 | a::l,0,_,h,_=>by
   have:a≠0:=by simpa using h
   simp[List.find?,this]
 | a::l,k+1,h,h2,hz=>by
   have h0:a=0:=by simpa using hz 0 (by omega)
   subst h0
   have ih:=ur (l:=l) (k:=k) (by simpa using h) (by simpa using h2) fun j hj=>by simpa using hz (j+1) (by omega)
   simp only[List.find?,ne_eq,not_true_eq_false,decide_false]
   simpa using ih
theorem Vu :∀{l:List Int},(∀j,j<l.length→l.getD j 0=0)→l.find? (· ≠0)=none
 |[],_=>rfl
 | a::l,hz=>by
   have h0:a=0:=by simpa using hz 0 (by simp)
   subst h0
   have ih:=Vu (l:=l) fun j hj=>by simpa using hz (j+1) (by simp;omega)
   simp only[List.find?,ne_eq,not_true_eq_false,decide_false]
   simpa using ih
theorem zmU (l:List Int)(hl:l.length≤1000):zo Try.prog [] zjx [.imm 1 (zl l)] [] fun r h'=>r= .sc (.int .i64 ((l.find? (· ≠0)).getD 0))∧h'=[]:=by
 refine zlX rfl ?_
 unfold zkv JN
 refine za fun KY hKY=>?_
 simp only[go_sem,Py]
 apply hKY
 refine za fun KY hKY=>?_
 simp only[go_sem,Px]
 apply hKY
 refine zf fun X1 hn1 he1 hr1=>?_
 refine za fun KY hKY=>?_
 simp only[go_sem,Pv]
 apply hKY
 refine zp fun X2 hn2 he2 hf2 hr2=>?_
 try simp only[go_sem]
 refine zP (α:=Nat) [5,9,14] (fun k=>[(8,.sc (.int .i64 (k:Int)))]) (fun k=>[]) (fun k q=>k≤l.length∧q=l.length - k∧∀j,j<k→l.getD j 0=0) (0) (l.length) rfl (by first|(simp only[go_sem,zd,ze];done)|with_reducible rfl|rfl) (⟨by omega,rfl,fun j h=>by omega⟩) ?_
 rintro k q ⟨hk,rfl,hz⟩ X3 hn3 he3 hr3
 simp only[go_sem,zd,ze]
 refine za fun KY hKY=>?_
 simp only[go_sem,Pu]
 apply hKY
 refine zf fun X4 hn4 he4 hr4=>?_
 by_cases h:k<l.length
 · refine Zw ?_
   refine zh ?_
   repeat (first|refine hn4 _ ?_|refine he4 _ _ ?_|refine he3 _ _ ?_|refine hn2 _ ?_|refine he2 _ ?_|refine hf2 _ _ (by decide) ?_|refine hn1 _ ?_|refine he1 _ _ ?_)
   refine zf fun X5 hn5 he5 hr5=>?_
   refine zp fun X6 hn6 he6 hf6 hr6=>?_
   refine za fun KY hKY=>?_
   simp only[go_sem,Ps]
   repeat (simp(disch:=omega) only[if_pos,if_neg,decide_eq_true,decide_eq_false,zH,zx,zg];try simp only[go_sem])
   apply hKY
   refine za fun KY hKY=>?_
   simp only[go_sem,Pr]
   apply hKY
   by_cases h2:l.getD k 0=0
   · refine ZA (by first|rfl|(simp only[go_sem,h2,ne_eq,not_true_eq_false];try simp(disch:=omega) only[decide_eq_true,decide_eq_false])) ?_
     refine zh ?_
     repeat (first|refine hn6 _ ?_|refine he6 _ ?_|refine hf6 _ _ (by decide) ?_|refine hn5 _ ?_|refine he5 _ _ ?_|refine hn4 _ ?_|refine he4 _ _ ?_|refine he3 _ _ ?_|refine hn2 _ ?_|refine he2 _ ?_|refine hf2 _ _ (by decide) ?_|refine hn1 _ ?_|refine he1 _ _ ?_)
     refine zn fun KY hKY=>?_
     simp only[go_sem,Pp]
     repeat (simp(disch:=omega) only[if_pos,if_neg,decide_eq_true,decide_eq_false,zH,zx,zg];try simp only[go_sem])
     apply hKY
     repeat (first|refine hn6 _ ?_|refine he6 _ ?_|refine hf6 _ _ (by decide) ?_|refine hn5 _ ?_|refine he5 _ _ ?_|refine hn4 _ ?_|refine he4 _ _ ?_)
     refine hn3 _ (k+1) (l.length - (k+1)) (by omega) (by first|(simp only[go_sem,zd,ze];done)|with_reducible rfl|rfl) ?_
     refine⟨h,rfl,fun j hj=>?_⟩
     rcases Nat.lt_or_ge j k with h3|h3
     · exact hz j h3
     · have:j=k:=by omega
       subst this;exact h2
   · refine ZM (by first|rfl|(simp only[go_sem,h2,ne_eq,not_false_eq_true];try simp(disch:=omega) only[decide_eq_true,decide_eq_false])) ?_
     refine za fun KY hKY=>?_
     simp only[go_sem,Pq]
     apply hKY
     refine zi ?_
     repeat (first|refine hr6 _ ?_|refine hr5 _ ?_|refine hr4 _ ?_|refine hr3 _ ?_|refine hr2 _ ?_|refine hr1 _ ?_)
     simp only[go_sem]
     rw[ur h h2 hz]
     rfl
 · refine Zr ?_
   refine zy ?_
   repeat (first|refine hn4 _ ?_|refine he4 _ _ ?_|refine he3 _ _ ?_|refine hn2 _ ?_|refine he2 _ ?_|refine hf2 _ _ (by decide) ?_|refine hn1 _ ?_|refine he1 _ _ ?_)
   refine za fun KY hKY=>?_
   simp only[go_sem,Pn]
   apply hKY
   refine zi ?_
   repeat (first|refine hr4 _ ?_|refine hr3 _ ?_|refine hr2 _ ?_|refine hr1 _ ?_)
   simp only[go_sem]
   have:k=l.length:=by omega
   subst this
   rw[Vu hz]
   rfl
end Go.Proofs.Ytmcfdfafeheihaa

namespace Go.Ga.Gl
open Go Go.Ga
theorem zgS {p :List Nat}{a:Nat}(h:a∈p.head?):a∈p:=by
 cases p with
 |nil=>cases h
 | cons b p => have:b=a:=by simpa using h
               subst this;exact List.mem_cons_self ..
structure LI (n:Nat)(es:Es)(O:Nat→Prop)(lab:List Int):Prop where
 len:lab.length=n
 out:∀v,v<n→(lab.getD v 0<0↔O v)
 low:∀v,v<n→¬O v→0≤lab.getD v 0∧lab.getD v 0≤v∧¬O (lab.getD v 0).toNat
 conn:∀f,KH es O f→∀v,v<n→¬O v→f v=f (lab.getD v 0).toNat
def Jc (lab:List Int):Nat:=(lab.map Int.toNat).sum
theorem Y8 :∀(lab:List Int) (v:Nat) (k:Int),v<lab.length→Jc (lab.set v k)+(lab.getD v 0).toNat=Jc lab+k.toNat
 |[],v,k,h=>by simp at h
 |x::l,0,k,_=>by simp[Jc];omega
 | x::l,v+1,k,h=>by
   have:=Y8 l v k (by simpa using h)
   simp[Jc] at*;omega
theorem ZQ (l:List Int)(v w:Nat)(k:Int)(h:v<l.length):(l.set v k).getD w 0=if w=v then k else l.getD w 0:=by
 simp only[List.getD_eq_getElem?_getD,List.getElem?_set]
 by_cases e:v=w
 · subst e;simp[h]
 · simp[e,Ne.symm e]
def gJ (lab:List Int)(a b:Nat):List Int:=(lab.set a (min (lab.getD a 0) (lab.getD b 0))).set b (min (lab.getD a 0) (lab.getD b 0))
theorem XX {lab:List Int}{a b w:Nat}(ha:a<lab.length)(hb:b<lab.length):(gJ lab a b).getD w 0=if w=a∨w=b then min (lab.getD a 0) (lab.getD b 0) else lab.getD w 0:=by
 unfold gJ
 rw[ZQ _ _ _ _ (by simpa using hb),ZQ _ _ _ _ ha]
 by_cases h1:w=b
 · simp[h1]
 · by_cases h2:w=a
   · simp[h2]
   · simp[h1,h2]
theorem LI.step {n:Nat}{es:Es}{O:Nat→Prop}{lab:List Int}(w:LI n es O lab){a b:Nat}(hab:Z7 es a b)(han:a<n)(hbn:b<n)(h1:¬lab.getD a 0<0)(h2:¬lab.getD b 0<0):LI n es O (gJ lab a b):=by
 have oa:¬O a:=fun h=>h1 ((w.out a han).2 h)
 have ob:¬O b:=fun h=>h2 ((w.out b hbn).2 h)
 have la:=w.low a han oa
 have lb:=w.low b hbn ob
 have hal:a<lab.length:=by rw[w.len];exact han
 have hbl:b<lab.length:=by rw[w.len];exact hbn
 have hk:∃c,(c=a∨c=b)∧min (lab.getD a 0) (lab.getD b 0)=lab.getD c 0:=by
  rcases Int.le_total (lab.getD a 0) (lab.getD b 0) with h|h
  · exact⟨a,.inl rfl,Int.min_eq_left h⟩
  · exact⟨b,.inr rfl,Int.min_eq_right h⟩
 refine⟨by unfold gJ;simp[w.len],fun v hv=>?_,fun v hv ho=>?_,fun f hf v hv ho=>?_⟩
 · rw[XX hal hbl]
   split
   · rename_i h
     rcases h with rfl|rfl
     · constructor
       · intro h;omega
       · intro h;exact absurd h oa
     · constructor
       · intro h;omega
       · intro h;exact absurd h ob
   · exact w.out v hv
 · rw[XX hal hbl]
   split
   · rename_i h
     obtain⟨c,hc,e⟩:=hk
     refine⟨by omega,by rcases h with rfl|rfl<;>omega,?_⟩
     rw[e]
     rcases hc with rfl|rfl
     · exact la.2.2
     · exact lb.2.2
   · exact w.low v hv ho
 · rw[XX hal hbl]
   split
   · rename_i h
     obtain⟨c,hc,e⟩:=hk
     rw[e]
     have e1:=hf a b hab oa ob
     have ea:=w.conn f hf a han oa
     have eb:=w.conn f hf b hbn ob
     rcases h with rfl|rfl<;>rcases hc with rfl|rfl
     · exact ea
     · rw[e1,eb]
     · rw[←e1,ea]
     · exact eb
   · exact w.conn f hf v hv ho
theorem zgE {lab:List Int}{a b:Nat}(ha:a<lab.length)(hb:b<lab.length)(hne:a≠b)(h1:¬lab.getD a 0<0)(h2:¬lab.getD b 0<0)(h3:lab.getD a 0≠lab.getD b 0):Jc (gJ lab a b)<Jc lab:=by
 unfold gJ
 generalize hk:min (lab.getD a 0) (lab.getD b 0)=k
 have e1:=Y8 lab a k ha
 have e2:=Y8 (lab.set a k) b k (by simpa using hb)
 rw[ZQ _ _ _ _ ha,if_neg (Ne.symm hne)] at e2
 omega
theorem LI.start {n:Nat}{es:Es}{O:Nat→Prop}{lab:List Int}(hl:lab.length=n)(h:∀v,v<n→(O v→lab.getD v 0= -1)∧(¬O v→lab.getD v 0=(v:Int))):LI n es O lab:=by
 refine⟨hl,fun v hv=>?_,fun v hv ho=>?_,fun f _ v hv ho=>?_⟩
 · constructor
   · intro h1
     by_cases ho:O v
     · exact ho
     · have:=(h v hv).2 ho;omega
   · intro ho;have:=(h v hv).1 ho;omega
 · rw[(h v hv).2 ho];exact⟨by omega,by omega,by simpa using ho⟩
 · rw[(h v hv).2 ho];simp
def Z6 (n:Nat)(lab:List Int)(m:Nat):List (List Nat):=((List.range m).filter fun v:Nat=>decide (lab.getD v 0=(v:Int))).map fun v:Nat=>(List.range n).filter fun w=>decide (lab.getD w 0=(v:Int))
theorem Jl {n:Nat}{lab:List Int}{m:Nat}{p:List Nat}:p∈Z6 n lab m↔∃v:Nat,v<m∧lab.getD v 0=(v:Int)∧(List.range n).filter (fun w=>decide (lab.getD w 0=(v:Int)))=p:=by
 simp only[Z6,List.mem_map,List.mem_filter,List.mem_range,decide_eq_true_eq,and_assoc]
theorem LI.pieces {n:Nat}{es:Es}{O:Nat→Prop}{lab:List Int}(hes:∀a b,Z7 es a b→a<n∧b<n)(W:LI n es O lab)(hfix:∀e∈es,lab.getD e.1 0<0∨lab.getD e.2 0<0∨lab.getD e.1 0=lab.getD e.2 0):Zg n es O (Z6 n lab n):=by
 have hflat:∀a b,Z7 es a b→¬O a→¬O b→lab.getD a 0=lab.getD b 0:=by
  intro a b hab ha hb
  have hl:=hes a b hab
  have h1:=W.low a hl.1 ha
  have h2:=W.low b hl.2 hb
  rcases hab with h|h
  · rcases hfix _ h with h|h|h
    · exact absurd h (by simp only;omega)
    · exact absurd h (by simp only;omega)
    · exact h
  · rcases hfix _ h with h|h|h
    · exact absurd h (by simp only;omega)
    · exact absurd h (by simp only;omega)
    · exact h.symm
 have hfl:KH es O (fun v=>(lab.getD v 0).toNat):=fun a b hab ha hb=>by
  show(lab.getD a 0).toNat=(lab.getD b 0).toNat
  rw[hflat a b hab ha hb]
 have hid:∀v,v<n→¬O v→lab.getD (lab.getD v 0).toNat 0=lab.getD v 0:=by
  intro v hv ho
  have h1:=W.low v hv ho
  have h2:=W.conn _ hfl v hv ho
  have h3:=W.low (lab.getD v 0).toNat (by omega) h1.2.2
  have h2:(lab.getD v 0).toNat=(lab.getD (lab.getD v 0).toNat 0).toNat:=h2
  omega
 have hm:∀(v w:Nat),w∈(List.range n).filter (fun w=>decide (lab.getD w 0=(v:Int)))↔w<n∧lab.getD w 0=(v:Int):=fun v w=>by
  simp only[List.mem_filter,List.mem_range,decide_eq_true_eq]
 have hno:∀(v w:Nat),w<n→lab.getD w 0=(v:Int)→¬O w:=fun v w hw h ho=>by
  have:=(W.out w hw).2 ho;omega
 have hle:∀(v w:Nat),w<n→lab.getD w 0=(v:Int)→v≤w:=fun v w hw h=>by
  have:=(W.low w hw (hno v w hw h)).2.1;omega
 have hfirst:∀v:Nat,v<n→lab.getD v 0=(v:Int)→∀a∈((List.range n).filter fun w=>decide (lab.getD w 0=(v:Int))).head?,a=v:=by
  intro v hv h a ha
  have h1:=(hm v a).1 (zgS ha)
  have h2:=hle v a h1.1 h1.2
  have h3:a≤v:=by
   have hpw:((List.range n).filter fun w=>decide (lab.getD w 0=(v:Int))).Pairwise (· < ·):=List.pairwise_lt_range.filter _
   have hvm:=(hm v v).2 ⟨hv,h⟩
   generalize (List.range n).filter (fun w=>decide (lab.getD w 0=(v:Int)))=r at ha hpw hvm
   cases r with
   |nil=>cases ha
   | cons b r=>
     have:b=a:=by simpa using ha
     subst this
     rcases List.mem_cons.1 hvm with e|e
     · omega
     · have:=(List.pairwise_cons.1 hpw).1 v e;omega
  omega
 refine⟨fun v=>?_,?_,?_,?_,?_,?_,?_⟩
 · constructor
   · rintro⟨p,hp,hv⟩
     obtain⟨k,_,_,rfl⟩:=Jl.1 hp
     have:=(hm k v).1 hv
     exact⟨this.1,hno k v this.1 this.2⟩
   · rintro⟨hv,ho⟩
     have h1:=W.low v hv ho
     have h2:=hid v hv ho
     refine⟨_,Jl.2 ⟨(lab.getD v 0).toNat,by omega,by rw[h2];omega,rfl⟩,(hm _ v).2 ⟨hv,by omega⟩⟩
 · intro p hp
   obtain⟨k,hk,h,rfl⟩:=Jl.1 hp
   exact List.ne_nil_of_mem ((hm k k).2 ⟨hk,h⟩)
 · intro p hp
   obtain⟨k,_,_,rfl⟩:=Jl.1 hp
   exact List.pairwise_lt_range.filter _
 · unfold Z6
   refine List.pairwise_map.2 ((List.pairwise_lt_range.filter _).imp_of_mem fun{u v} hu hv h a ha b hb=>?_)
   simp only[List.mem_filter,List.mem_range,decide_eq_true_eq] at hu hv
   rw[hfirst u hu.1 hu.2 a ha,hfirst v hv.1 hv.2 b hb];exact h
 · unfold Z6
   refine List.pairwise_map.2 ((List.pairwise_lt_range.filter _).imp fun{u v} h w hw hw'=>?_)
   have h1:=((hm u w).1 hw).2
   have h2:=((hm v w).1 hw').2
   omega
 · intro p hp a ha b hab hb hob
   obtain⟨k,_,_,rfl⟩:=Jl.1 hp
   have h1:=(hm k a).1 ha
   exact(hm k b).2 ⟨hb,by rw[←hflat a b hab (hno k a h1.1 h1.2) hob];exact h1.2⟩
 · intro p hp f hf a ha b hb
   obtain⟨k,_,_,rfl⟩:=Jl.1 hp
   have h1:=(hm k a).1 ha
   have h2:=(hm k b).1 hb
   rw[W.conn f hf a h1.1 (hno k a h1.1 h1.2),W.conn f hf b h2.1 (hno k b h2.1 h2.2),h1.2,h2.2]
theorem KC (n:Nat)(lab:List Int)(m:Nat):Z6 n lab (m+1)=if lab.getD m 0=(m:Int) then Z6 n lab m++[(List.range n).filter fun w=>decide (lab.getD w 0=(m:Int))] else Z6 n lab m:=by
 unfold Z6
 rw[List.range_succ,List.filter_append,List.map_append]
 by_cases h:lab.getD m 0=(m:Int)
 · rw[if_pos h,List.filter_cons_of_pos (by simpa using h)];rfl
 · rw[if_neg h,List.filter_cons_of_neg (by simpa using h)];simp
theorem zbJ (n:Nat)(lab:List Int)(m:Nat):(Z6 n lab m).length≤m:=by
 unfold Z6
 rw[List.length_map]
 exact Nat.le_trans (List.length_filter_le _ _) (by simp)
theorem wT (p:Nat→Bool)(m:Nat):(List.range (m+1)).filter p=if p m=true then(List.range m).filter p++[m] else(List.range m).filter p:=by
 rw[List.range_succ,List.filter_append]
 by_cases h:p m=true
 · rw[if_pos h,List.filter_cons_of_pos h];rfl
 · rw[if_neg h,List.filter_cons_of_neg h];simp
def vg (lab:List Int)(u w:Nat):List Nat:=(List.range w).filter fun w=>decide (lab.getD w 0=(u:Int))
theorem zdX (lab:List Int)(u w:Nat):vg lab u (w+1)=if lab.getD w 0=(u:Int) then vg lab u w++[w] else vg lab u w:=by
 unfold vg
 rw[wT]
 simp only[decide_eq_true_eq]
theorem zfs (lab:List Int)(u w:Nat):(vg lab u w).length≤w:=by
 unfold vg
 exact Nat.le_trans (List.length_filter_le _ _) (by simp)
theorem zcT (n:Nat)(lab:List Int)(m:Nat):Z6 n lab (m+1)=if lab.getD m 0=(m:Int) then Z6 n lab m++[vg lab m n] else Z6 n lab m:=KC n lab m
def ow (m:List Int)(x y:Nat):Bool:=decide (m.getD x 0=(y:Int))
def JG (n:Nat)(l:Es):List Bool:=l.foldl (fun m e=>(m.set e.1 true).set e.2 true) (List.replicate n false)
theorem Vq (l:List Bool)(v w:Nat)(h:v<l.length):(l.set v true).getD w false=(decide (v=w)||l.getD w false):=by
 simp only[List.getD_eq_getElem?_getD,List.getElem?_set]
 by_cases e:v=w
 · subst e;simp[h]
 · simp[e]
structure Mt (N:Nat)(es:Es)(m:List Int):Prop where
 len:m.length=N
 at_:∀v,v<N→m.getD v 0= -1∨∃w:Nat,m.getD v 0=(w:Int)∧w<N∧w≠v∧Z7 es v w∧m.getD w 0=(v:Int)
theorem Mt.back {N:Nat}{es:Es}{m:List Int}(M:Mt N es m){v w:Nat}(hv:v<N)(h:m.getD v 0=(w:Int)):w<N∧w≠v∧Z7 es v w∧m.getD w 0=(v:Int):=by
 rcases M.at_ v hv with h1|⟨u,h1,h2⟩
 · omega
 · obtain rfl:u=w:=by omega
   exact h2
theorem Mt.own {N:Nat}{es:Es}{m:List Int}(M:Mt N es m){v w:Nat}(hv:v<N)(hw:w<N):ow m v w=ow m w v:=by
 unfold ow
 by_cases h:m.getD v 0=(w:Int)
 · rw[decide_eq_true h,decide_eq_true (M.back hv h).2.2.2]
 · rw[decide_eq_false h,decide_eq_false]
   intro h2;exact h (M.back hw h2).2.2.2
structure FS where
 lab:Nat→Nat
 out:Nat→Bool
 pr:Nat→Nat
 rt:Nat→Int
 b0:Nat→Nat
 b1:Nat→Nat
 bs:Nat→Nat
abbrev Yz :=List (Nat×Nat)
def xN (ps:Yz):Yz:=(ps.map Prod.swap).reverse
def jw (ps:Yz):List Nat:=ps.flatMap fun p=>[p.1,p.2]
def zE (ps:Yz)(to:Nat):List Nat:=jw ps++[to]
theorem vR (p:Nat×Nat)(ps:Yz):xN (p::ps)=xN ps++[p.swap]:=by simp[xN]
theorem ZC (p:Nat×Nat)(ps:Yz):jw (p::ps)=p.1::p.2::jw ps:=rfl
theorem qh (ps qs:Yz):jw (ps++qs)=jw ps++jw qs:=by simp[jw]
theorem Vs (ps:Yz):jw (xN ps)=(jw ps).reverse:=by
 induction ps with
 |nil=>rfl
 |cons p ps ih=>rw[vR,qh,ih,ZC];simp[jw]
inductive xI (mt:Nat→Int)(S:FS):Nat→Nat→Yz→Prop
 |here (v:Nat):xI mt S v v []
 |even {v to m:Nat} {ps:Yz}:v≠to→S.lab v=1→mt v=(m:Int)→S.lab m=2→xI mt S (S.pr m) to ps→xI mt S v to ((v,m)::ps)
 |odd {v to m:Nat} {ps qs:Yz}:v≠to→S.out v=true→S.lab v=2→mt v=(m:Int)→xI mt S (S.b0 v) m ps→xI mt S (S.b1 v) to qs→xI mt S v to ((v,m)::(xN ps++qs))
structure zhZ (S T:FS):Prop where
 lab:∀x,S.lab x≠0→T.lab x=S.lab x
 pr:∀x,S.lab x=2→T.pr x=S.pr x
 out:∀x,S.out x=true→T.out x=true
 b0:∀x,S.out x=true→T.b0 x=S.b0 x
 b1:∀x,S.out x=true→T.b1 x=S.b1 x
theorem xI.goes {mt:Nat→Int}{S T:FS}(h:zhZ S T){v to:Nat}{ps:Yz}(w:xI mt S v to ps):xI mt T v to ps:=by
 induction w with
 |here v=>exact .here v
 |even h1 h2 h3 h4 _ ih=>exact .even h1 (by rw[h.lab _ (by omega)];exact h2) h3 (by rw[h.lab _ (by omega)];exact h4) (by rw[h.pr _ h4];exact ih)
 |odd h1 h2 h3 h4 _ _ ih1 ih2=>exact .odd h1 (h.out _ h2) (by rw[h.lab _ (by omega)];exact h3) h4 (by rw[h.b0 _ h2];exact ih1) (by rw[h.b1 _ h2];exact ih2)
theorem xI.app {mt:Nat→Int}{S:FS}{v x to:Nat}{ps qs:Yz}(w:xI mt S v x ps)(u:xI mt S x to qs)(hn:to∉jw ps):xI mt S v to (ps++qs):=by
 induction w with
 |here v=>exact u
 | even h1 h2 h3 h4 _ ih=>
   simp only[ZC,List.mem_cons,not_or] at hn
   exact .even (Ne.symm hn.1) h2 h3 h4 (ih u hn.2.2)
 | odd h1 h2 h3 h4 w1 w2 ih1 ih2=>
   simp only[ZC,qh,List.mem_cons,List.mem_append,not_or] at hn
   rw[List.cons_append,List.append_assoc]
   exact .odd (Ne.symm hn.1) h2 h3 h4 w1 (ih2 u hn.2.2.2)
theorem xI.first {mt:Nat→Int}{S:FS}{v to:Nat}{ps:Yz}(w:xI mt S v to ps):v∈zE ps to:=by
 cases w<;>simp[zE,jw]
inductive qz (mt:Nat→Int)(E:Nat→Nat→Prop):Nat→Yz→Nat→Prop
 |nil (v:Nat):qz mt E v [] v
 |cons {a c w to:Nat} {ps:Yz}:mt a=(c:Int)→E c w→qz mt E w ps to→qz mt E a ((a,c)::ps) to
theorem qz.app {mt:Nat→Int}{E:Nat→Nat→Prop}{v x to:Nat}{ps qs:Yz}(h:qz mt E v ps x)(k:qz mt E x qs to):qz mt E v (ps++qs) to:=by
 induction h with
 |nil v=>exact k
 |cons h1 h2 _ ih=>exact .cons h1 h2 (ih k)
theorem qz.rev {mt:Nat→Int}{E:Nat→Nat→Prop}(hm:∀a c:Nat,mt a=(c:Int)→mt c=(a:Int))(hE:∀a c,E a c→E c a){s m:Nat}{ps:Yz}(h:qz mt E s ps m):∀{v w to:Nat} {qs:Yz},mt v=(m:Int)→E s w→qz mt E w qs to→qz mt E v ((v,m)::(xN ps++qs)) to:=by
 induction h with
 |nil m=>intro v w to qs h1 h2 h3;exact .cons h1 h2 h3
 | cons k1 k2 _ ih=>
   intro v w to qs h1 h2 h3
   rw[vR,List.append_assoc]
   exact ih h1 (hE _ _ k2) (.cons (hm _ _ k1) h2 h3)
inductive Zx (mt:Nat→Int)(S:FS):Nat→Nat→List Nat→Prop
 |here (b:Nat):Zx mt S b b []
 |up {x m to:Nat} {xs:List Nat}:x≠to→mt x=(m:Int)→Zx mt S (S.bs (S.pr m)) to xs→Zx mt S x to (x::xs)
structure J2 (N:Nat)(E:Nat→Nat→Prop)(mt:Nat→Int)(S:FS):Prop where
 o1:∀v,S.out v=true→v<N∧S.lab v≠0
 e1:∀v,S.lab v=1→S.out v=true
 l2:∀v,S.lab v≤2
 fr:∀v,v<N→mt v= -1→S.lab v=1∧S.rt v=(v:Int)
 od:∀v,S.lab v=2→v<N∧∃x:Nat,mt v=(x:Int)∧S.lab x=1∧S.rt x=S.rt v∧S.out (S.pr v)=true∧E v (S.pr v)∧S.rt (S.pr v)=S.rt v
 ev:∀v,S.lab v=1→(mt v= -1∧S.rt v=(v:Int))∨∃m:Nat,mt v=(m:Int)∧S.lab m=2
 bo:∀v,S.out v=true→S.out (S.bs v)=true∧S.lab (S.bs v)=1∧S.bs (S.bs v)=S.bs v∧S.rt (S.bs v)=S.rt v
 bn:∀v,S.out v=false→S.bs v=v
 bm:∀b m:Nat,S.out b=true→S.bs b=b→mt b=(m:Int)→S.out m=false
 bx:∀m x:Nat,S.lab m=2→S.out m=false→mt m=(x:Int)→S.bs x=x
 dp:∃d:Nat→Nat,∀b m:Nat,S.out b=true→S.bs b=b→mt b=(m:Int)→d (S.bs (S.pr m))<d b
 wy:∀v,S.out v=true→∃ps,xI mt S v (S.bs v) ps∧qz mt E v ps (S.bs v)∧(zE ps (S.bs v)).Nodup∧∀x∈zE ps (S.bs v),S.out x=true∧S.bs x=S.bs v
structure Mf (N:Nat)(E:Nat→Nat→Prop)(mt:Nat→Int):Prop where
 at_:∀v,v<N→mt v= -1∨∃w:Nat,mt v=(w:Int)∧w<N
 big:∀v,¬v<N→∀w:Nat,mt v≠(w:Int)
 sy:∀v w:Nat,mt v=(w:Int)→mt w=(v:Int)
 ne:∀v w:Nat,mt v=(w:Int)→w≠v∧E v w
 es:∀v w:Nat,E v w→E w v
 el:∀v w:Nat,E v w→v<N∧w<N∧v≠w
def On (mt:Nat→Int)(S:FS)(xs:List Nat)(to:Nat)(y:Nat):Prop:=(S.out y=true∧(S.bs y∈xs∨S.bs y=to))∨(S.out y=false∧∃x∈xs,mt x=(y:Int))
theorem Ym {N:Nat}{E:Nat→Nat→Prop}{mt:Nat→Int}{S:FS}(M:Mf N E mt)(I:J2 N E mt S){d:Nat→Nat}(hd:∀b m:Nat,S.out b=true→S.bs b=b→mt b=(m:Int)→d (S.bs (S.pr m))<d b){c to:Nat}{xs:List Nat}(h:Zx mt S c to xs):
    (S.bs to=to)→∀v,S.out v=true→S.bs v=c→(∀x∈xs,d to<d x∧d x≤d c∧S.out x=true∧S.bs x=x)∧∃ps,xI mt S v to ps∧qz mt E v ps to∧(zE ps to).Nodup∧∀y∈zE ps to,On mt S xs to y:=by
  induction h with
  | here b=>
    intro hb v hv hc
    obtain⟨ps,h1,h2,h3,h4⟩:=I.wy v hv
    rw[hc] at h1 h2 h3 h4
    exact⟨by simp,ps,h1,h2,h3,fun y hy=> .inl ⟨(h4 y hy).1,.inr (h4 y hy).2⟩⟩
  | @up x m to xs hne hm hch ih=>
    intro hb v hv hc
    obtain⟨b1,b2,b3,b4⟩:=I.bo v hv
    rw[hc] at b1 b2 b3 b4
    have hmo:=I.bm x m b1 b3 hm
    have hl:S.lab m=2:=by
      rcases I.ev x b2 with h|⟨m',h1,h2⟩
      · omega
      · obtain rfl:m'=m:=by omega
        exact h2
    obtain⟨_,x',k1,k2,k3,k4,k5,k6⟩:=I.od m hl
    obtain⟨i1,qs,q1,q2,q3,q4⟩:=ih hb (S.pr m) k4 rfl
    have hdx:=hd x m b1 b3 hm
    have hdto:d to≤d (S.bs (S.pr m)):=by
      cases hch with
      |here=>exact Nat.le_refl _
      |up=>exact Nat.le_of_lt (i1 _ (by simp)).1
    have i2:∀y∈xs,d y<d x:=fun y hy=>by have:=(i1 y hy).2.1;omega
    obtain⟨ps,p1,p2,p3,p4⟩:=I.wy v hv
    rw[hc] at p1 p2 p3 p4
    have hmx:=M.sy x m hm
    have hxin:x∉zE qs to:=fun h=>by
      rcases q4 x h with⟨_,h|h⟩|⟨h,_⟩
      · rw[b3] at h;have:=i2 x h;omega
      · rw[b3] at h;omega
      · rw[b1] at h;cases h
    have hmin:m∉zE qs to:=fun h=>by
      rcases q4 m h with⟨h,_⟩|⟨_,y,hy,h⟩
      · rw[hmo] at h;cases h
      · have:=M.sy y m h
        obtain rfl:y=x:=by omega
        have:=i2 y hy;omega
    have hpq:∀y∈zE ps x,y∉zE qs to:=fun y hy h=>by
      obtain⟨y1,y2⟩:=p4 y hy
      rcases q4 y h with⟨_,h|h⟩|⟨h,_⟩
      · rw[y2] at h;have:=i2 x h;omega
      · rw[y2] at h;omega
      · rw[y1] at h;cases h
    have hmp:m∉zE ps x:=fun h=>by have:=(p4 m h).1;rw[hmo] at this;cases this
    have hto:to∉jw ps:=fun h=>by
      have:=(p4 to (List.mem_append.2 (.inl h))).2
      exact hne (by omega)
    refine⟨fun y hy=>?_,ps++((x,m)::qs),p1.app (.even hne b2 hm hl q1) hto,p2.app (.cons hm k5 q2),?_,?_⟩
    · rcases List.mem_cons.1 hy with rfl|hy
      · exact⟨by omega,Nat.le_refl _,b1,b3⟩
      · have:=i1 y hy
        exact⟨this.1,by omega,this.2.2⟩
    · have e:zE (ps++((x,m)::qs)) to=zE ps x++(m::zE qs to):=by simp[zE,qh,ZC]
      rw[e]
      refine List.nodup_append.2 ⟨p3,List.nodup_cons.2 ⟨hmin,q3⟩,?_⟩
      intro y hy z hz e
      subst e
      rcases List.mem_cons.1 hz with rfl|hz
      · exact hmp hy
      · exact hpq y hy hz
    · have e:zE (ps++((x,m)::qs)) to=zE ps x++(m::zE qs to):=by simp[zE,qh,ZC]
      rw[e]
      intro y hy
      rcases List.mem_append.1 hy with hy|hy
      · exact .inl ⟨(p4 y hy).1,.inl (by rw[(p4 y hy).2];simp)⟩
      · rcases List.mem_cons.1 hy with rfl|hy
        · exact .inr ⟨hmo,x,by simp,hm⟩
        · rcases q4 y hy with⟨h1,h2|h2⟩|⟨h1,y',h2,h3⟩
          · exact .inl ⟨h1,.inl (List.mem_cons_of_mem _ h2)⟩
          · exact .inl ⟨h1,.inr h2⟩
          · exact .inr ⟨h1,y',List.mem_cons_of_mem _ h2,h3⟩
theorem J2.base {N:Nat}{E:Nat→Nat→Prop}{mt:Nat→Int}{S:FS}(M:Mf N E mt)(I:J2 N E mt S){b:Nat}(ho:S.out b=true)(hb:S.bs b=b):(mt b= -1∧S.rt b=(b:Int))∨∃m:Nat,mt b=(m:Int)∧S.lab m=2∧S.out m=false∧S.out (S.pr m)=true∧E m (S.pr m)∧S.rt (S.pr m)=S.rt b∧S.rt m=S.rt b:=by
 have h1:=(I.bo b ho).2.1
 rw[hb] at h1
 rcases I.ev b h1 with h|⟨m,h2,h3⟩
 · exact .inl h
 · obtain⟨_,x,k1,k2,k3,k4,k5,k6⟩:=I.od m h3
   have:=M.sy b m h2
   obtain rfl:x=b:=by omega
   exact .inr ⟨m,h2,h3,I.bm x m ho hb h2,k4,k5,k6.trans k3.symm,k3.symm⟩
theorem Zt {N:Nat}{E:Nat→Nat→Prop}{mt:Nat→Int}{S:FS}(M:Mf N E mt)(I:J2 N E mt S){d:Nat→Nat}(hd:∀b m:Nat,S.out b=true→S.bs b=b→mt b=(m:Int)→d (S.bs (S.pr m))<d b){c to:Nat}{xs:List Nat}(h:Zx mt S c to xs):
    S.out c=true→S.bs c=c→(S.out to=true∧S.bs to=to∧S.rt to=S.rt c)∧∀x∈xs,d to<d x∧d x≤d c∧S.out x=true∧S.bs x=x∧S.rt x=S.rt c:=by
  induction h with
  |here b=>intro h1 h2;exact⟨⟨h1,h2,rfl⟩,by simp⟩
  | @up x m to xs hne hm hch ih=>
    intro h1 h2
    rcases I.base M h1 h2 with⟨h3,_⟩|⟨m',h3,h4,h5,h6,h7,h8,h9⟩
    · omega
    · obtain rfl:m'=m:=by omega
      obtain⟨k1,k2,k3,k4⟩:=I.bo _ h6
      obtain⟨⟨j1,j2,j3⟩,j4⟩:=ih k1 k3
      have hdx:=hd x m' h1 h2 hm
      have hrt:S.rt (S.bs (S.pr m'))=S.rt x:=k4.trans h8
      have hdto:d to≤d (S.bs (S.pr m')):=by
        cases hch with
        |here=>exact Nat.le_refl _
        |up=>exact Nat.le_of_lt (j4 _ (by simp)).1
      refine⟨⟨j1,j2,j3.trans hrt⟩,fun y hy=>?_⟩
      rcases List.mem_cons.1 hy with rfl|hy
      · exact⟨by omega,Nat.le_refl _,h1,h2,rfl⟩
      · obtain⟨i1,i2,i3,i4,i5⟩:=j4 y hy
        exact⟨i1,by omega,i3,i4,i5.trans hrt⟩
theorem qT {N:Nat}{E:Nat→Nat→Prop}{mt:Nat→Int}{S:FS}(M:Mf N E mt)(I:J2 N E mt S){d:Nat→Nat}(hd:∀b m:Nat,S.out b=true→S.bs b=b→mt b=(m:Int)→d (S.bs (S.pr m))<d b){c to:Nat}{xs:List Nat}(h:Zx mt S c to xs):
    S.out c=true→S.bs c=c→∀x∈xs,∃x1 x2,xs=x1++x::x2∧Zx mt S c x x1∧Zx mt S x to (x::x2):=by
  induction h with
  |here b=>intro _ _ x hx;simp at hx
  | @up x0 m to xs hne hm hch ih=>
    intro h1 h2 x hx
    by_cases e:x=x0
    · subst e
      exact⟨[],xs,rfl,.here x,.up hne hm hch⟩
    · have hx:=(List.mem_cons.1 hx).resolve_left e
      rcases I.base M h1 h2 with⟨h3,_⟩|⟨m',h3,h4,h5,h6,h7,h8,h9⟩
      · omega
      · obtain rfl:m'=m:=by omega
        obtain⟨k1,k2,k3,k4⟩:=I.bo _ h6
        obtain⟨x1,x2,rfl,j1,j2⟩:=ih k1 k3 x hx
        exact⟨x0::x1,x2,rfl,.up (Ne.symm e) hm j1,j2⟩
def j0 (mt:Nat→Int)(xs:List Nat)(u:Nat):Bool:=xs.any fun x=>decide (mt x=(u:Int))
theorem Z0 {mt:Nat→Int}{xs:List Nat}{u:Nat}:j0 mt xs u=true↔∃x∈xs,mt x=(u:Int):=by
 unfold j0;simp only[List.any_eq_true,decide_eq_true_eq]
def shr (mt:Nat→Int)(S:FS)(v w b:Nat)(xs:List Nat):FS:=
 {S with
  out:=fun u=>S.out u||j0 mt xs u
  b0:=fun u=>if j0 mt xs u=true then v else S.b0 u
  b1:=fun u=>if j0 mt xs u=true then w else S.b1 u
  bs:=fun u=>if(decide (S.bs u∈xs)||j0 mt xs u)=true then b else S.bs u}
def Kr (mt:Nat→Int)(S:FS)(xs ys:List Nat)(u:Nat):Prop:=S.bs u∈xs∨S.bs u∈ys∨(∃x∈xs,mt x=(u:Int))∨∃x∈ys,mt x=(u:Int)
theorem Xl {N:Nat}{E:Nat→Nat→Prop}{mt:Nat→Int}{S:FS}(M:Mf N E mt)(I:J2 N E mt S){v w b:Nat}{xs ys:List Nat}(hv:S.out v=true)(hw:S.out w=true)(hvw:E v w)(hb:S.bs b=b)(hX:Zx mt S (S.bs v) b xs)(hY:Zx mt S (S.bs w) b ys)(hdj:∀x∈xs,x∉ys):
    let T:=shr mt (shr mt S v w b xs) w v b ys
    J2 N E mt T∧zhZ S T∧(∀u,T.out u=true↔S.out u=true∨(∃x∈xs,mt x=(u:Int))∨∃x∈ys,mt x=(u:Int))∧(∀u,(Kr mt S xs ys u→T.bs u=b)∧(¬Kr mt S xs ys u→T.bs u=S.bs u))∧T.bs v=b∧T.bs w=b:=by
  intro T
  obtain⟨d,hd⟩:=I.dp
  obtain⟨v1,v2,v3,v4⟩:=I.bo v hv
  obtain⟨w1,w2,w3,w4⟩:=I.bo w hw
  obtain⟨⟨bo,_,brv⟩,fX⟩:=Zt M I hd hX v1 v3
  obtain⟨⟨_,_,brw⟩,fY⟩:=Zt M I hd hY w1 w3
  have hbX:b∉xs:=fun h=>by have:=(fX b h).1;omega
  have hbY:b∉ys:=fun h=>by have:=(fY b h).1;omega
  have mate:∀(zs:List Nat),(∀x∈zs,S.out x=true∧S.bs x=x)→∀u x:Nat,x∈zs→mt x=(u:Int)→S.out u=false∧S.lab u=2∧S.rt u=S.rt x∧S.bs u=u:=by
    intro zs hz u x hx hm
    rcases I.base M (hz x hx).1 (hz x hx).2 with⟨h3,_⟩|⟨m',h3,h4,h5,h6,h7,h8,h9⟩
    · omega
    · obtain rfl:m'=u:=by omega
      exact⟨h5,h4,h9,I.bn _ h5⟩
  have mX:=mate xs fun x hx=>⟨(fX x hx).2.2.1,(fX x hx).2.2.2.1⟩
  have mY:=mate ys fun x hx=>⟨(fY x hx).2.2.1,(fY x hx).2.2.2.1⟩
  have xo:∀u,S.bs u∈xs→S.out u=true:=fun u h=>by
    cases ho:S.out u with
    |true=>rfl
    |false=>rw[I.bn u ho] at h;rw[(fX u h).2.2.1] at ho;cases ho
  have yo:∀u,S.bs u∈ys→S.out u=true:=fun u h=>by
    cases ho:S.out u with
    |true=>rfl
    |false=>rw[I.bn u ho] at h;rw[(fY u h).2.2.1] at ho;cases ho
  have nmX:∀u,S.out u=true→j0 mt xs u=false:=fun u hu=>by
    rw[Bool.eq_false_iff];intro h
    obtain⟨x,hx,hm⟩:=Z0.1 h
    have:=(mX u x hx hm).1
    rw[hu] at this;cases this
  have nmY:∀u,S.out u=true→j0 mt ys u=false:=fun u hu=>by
    rw[Bool.eq_false_iff];intro h
    obtain⟨x,hx,hm⟩:=Z0.1 h
    have:=(mY u x hx hm).1
    rw[hu] at this;cases this
  have Tout:∀u,T.out u=true↔S.out u=true∨(∃x∈xs,mt x=(u:Int))∨∃x∈ys,mt x=(u:Int):=fun u=>by
    show((S.out u||j0 mt xs u)||j0 mt ys u)=true↔_
    rw[Bool.or_eq_true,Bool.or_eq_true,Z0,Z0,or_assoc]
  have Tbs1:∀u,Kr mt S xs ys u→T.bs u=b:=fun u h=>by
    show(if(decide ((if(decide (S.bs u∈xs)||j0 mt xs u)=true then b else S.bs u)∈ys)||j0 mt ys u)=true then b else if(decide (S.bs u∈xs)||j0 mt xs u)=true then b else S.bs u)=b
    by_cases h2:(decide (S.bs u∈xs)||j0 mt xs u)=true
    · rw[if_pos h2];split<;>rfl
    · rw[if_neg h2]
      rw[Bool.or_eq_true,decide_eq_true_iff,not_or] at h2
      rw[if_pos]
      rw[Bool.or_eq_true,decide_eq_true_iff,Z0]
      rcases h with h|h|h|h
      · exact absurd h h2.1
      · exact .inl h
      · exact absurd (Z0.2 h) h2.2
      · exact .inr h
  have Tbs2:∀u,¬Kr mt S xs ys u→T.bs u=S.bs u:=fun u h=>by
    have h2:¬(decide (S.bs u∈xs)||j0 mt xs u)=true:=by
      rw[Bool.or_eq_true,decide_eq_true_iff,Z0]
      rintro(h1|h1)
      · exact h (.inl h1)
      · exact h (.inr (.inr (.inl h1)))
    show(if(decide ((if(decide (S.bs u∈xs)||j0 mt xs u)=true then b else S.bs u)∈ys)||j0 mt ys u)=true then b else if(decide (S.bs u∈xs)||j0 mt xs u)=true then b else S.bs u)=S.bs u
    rw[if_neg h2,if_neg]
    rw[Bool.or_eq_true,decide_eq_true_iff,Z0]
    rintro(h1|h1)
    · exact h (.inr (.inl h1))
    · exact h (.inr (.inr (.inr h1)))
  have nJ:∀u,S.out u=true→S.bs u∉xs→S.bs u∉ys→¬Kr mt S xs ys u:=fun u hu h1 h2 h=>by
    rcases h with h|h|h|h
    · exact h1 h
    · exact h2 h
    · have:=nmX u hu;rw[Z0.2 h] at this;cases this
    · have:=nmY u hu;rw[Z0.2 h] at this;cases this
  have bJ:¬Kr mt S xs ys b:=nJ b bo (by rw[hb];exact hbX) (by rw[hb];exact hbY)
  have Tb:T.bs b=b:=(Tbs2 b bJ).trans hb
  have G:zhZ S T:={
    lab:=fun _ _=>rfl
    pr:=fun _ _=>rfl
    out:=fun x h=>(Tout x).2 (.inl h)
    b0:=fun x h=>by
      show(if j0 mt ys x=true then w else if j0 mt xs x=true then v else S.b0 x)=S.b0 x
      rw[nmX x h,nmY x h];rfl
    b1:=fun x h=>by
      show(if j0 mt ys x=true then v else if j0 mt xs x=true then w else S.b1 x)=S.b1 x
      rw[nmX x h,nmY x h];rfl}
  have Jrt:∀u,Kr mt S xs ys u→S.rt u=S.rt b:=fun u h=>by
    rcases h with h|h|⟨x,hx,hm⟩|⟨x,hx,hm⟩
    · rw[brv,←(fX _ h).2.2.2.2];exact(I.bo u (xo u h)).2.2.2.symm
    · rw[brw,←(fY _ h).2.2.2.2];exact(I.bo u (yo u h)).2.2.2.symm
    · rw[brv,←(fX x hx).2.2.2.2];exact(mX u x hx hm).2.2.1
    · rw[brw,←(fY x hx).2.2.2.2];exact(mY u x hx hm).2.2.1
  have nO:∀u,T.out u=true→¬Kr mt S xs ys u→S.out u=true:=fun u h hj=>by
    rcases(Tout u).1 h with h|h|h
    · exact h
    · exact absurd (.inr (.inr (.inl h))) hj
    · exact absurd (.inr (.inr (.inr h))) hj
  have onT:∀zs,(∀z∈zs,z∈xs∨z∈ys)→∀y,On mt S zs b y→T.out y=true∧T.bs y=b:=by
    intro zs hz y hy
    rcases hy with⟨h1,h2|h2⟩|⟨h1,x,h2,h3⟩
    · refine⟨(Tout y).2 (.inl h1),Tbs1 y ?_⟩
      rcases hz _ h2 with h|h
      · exact .inl h
      · exact .inr (.inl h)
    · refine⟨(Tout y).2 (.inl h1),?_⟩
      rw[Tbs2 y (nJ y h1 (by rw[h2];exact hbX) (by rw[h2];exact hbY))];exact h2
    · rcases hz _ h2 with h|h
      · exact⟨(Tout y).2 (.inr (.inl ⟨x,h,h3⟩)),Tbs1 y (.inr (.inr (.inl ⟨x,h,h3⟩)))⟩
      · exact⟨(Tout y).2 (.inr (.inr ⟨x,h,h3⟩)),Tbs1 y (.inr (.inr (.inr ⟨x,h,h3⟩)))⟩
  have wayM:∀(p q:Nat) (zs ts:List Nat),S.out p=true→S.out q=true→E p q→Zx mt S (S.bs p) b zs→Zx mt S (S.bs q) b ts→(∀x∈zs,x∉ts)→(∀z∈zs,z∈xs∨z∈ys)→(∀z∈ts,z∈xs∨z∈ys)→∀u x:Nat,x∈zs→mt x=(u:Int)→T.b0 u=p→T.b1 u=q→
      ∃ps,xI mt T u b ps∧qz mt E u ps b∧(zE ps b).Nodup∧∀y∈zE ps b,T.out y=true∧T.bs y=b:=by
    intro p q zs ts hp hq hpq cz ct hdz hz ht u x hx hm h0 h1
    obtain⟨p1,p2,p3,p4⟩:=I.bo p hp
    obtain⟨q1,q2,q3,q4⟩:=I.bo q hq
    obtain⟨_,fZ⟩:=Zt M I hd cz p1 p3
    obtain⟨_,fT⟩:=Zt M I hd ct q1 q3
    obtain⟨x1,x2,e,c1,c2⟩:=qT M I hd cz p1 p3 x hx
    obtain⟨fo,fb⟩:S.out x=true∧S.bs x=x:=⟨(fZ x hx).2.2.1,(fZ x hx).2.2.2.1⟩
    obtain⟨e1,ps,a1,a2,a3,a4⟩:=Ym M I hd c1 fb p hp rfl
    obtain⟨_,qs,g1,g2,g3,g4⟩:=Ym M I hd ct hb q hq rfl
    obtain⟨mo,ml,mr,mb⟩:=mate zs (fun x hx=>⟨(fZ x hx).2.2.1,(fZ x hx).2.2.2.1⟩) u x hx hm
    have hux:=M.sy x u hm
    have hub:u≠b:=fun h=>by rw[h,bo] at mo;cases mo
    have hx1:∀z∈x1,z∈zs∧z≠x:=fun z hz=>⟨by rw[e];simp[hz],fun h=>by have:=(e1 z hz).1;subst h;omega⟩
    have hup:u∉zE ps x:=fun h=>by
      rcases a4 u h with⟨h,_⟩|⟨_,z,hz,h⟩
      · rw[mo] at h;cases h
      · have:=M.sy z u h
        exact(hx1 z hz).2 (by omega)
    have huq:u∉zE qs b:=fun h=>by
      rcases g4 u h with⟨h,_⟩|⟨_,z,hz,h⟩
      · rw[mo] at h;cases h
      · have:=M.sy z u h
        obtain rfl:z=x:=by omega
        exact hdz z hx hz
    have hpq':∀y∈zE ps x,y∉zE qs b:=fun y hy h=>by
      have hin:(S.out y=true∧S.bs y∈zs)∨(S.out y=false∧∃z∈zs,mt z=(y:Int)):=by
        rcases a4 y hy with⟨k1,k2|k2⟩|⟨k1,z,k2,k3⟩
        · exact .inl ⟨k1,(hx1 _ k2).1⟩
        · exact .inl ⟨k1,by rw[k2];exact hx⟩
        · exact .inr ⟨k1,z,(hx1 _ k2).1,k3⟩
      rcases hin with⟨k1,k2⟩|⟨k1,z,k2,k3⟩<;>rcases g4 y h with⟨j1,j2|j2⟩|⟨j1,z',j2,j3⟩
      · exact hdz _ k2 j2
      · have:=(fZ _ k2).1;rw[j2] at this;omega
      · rw[k1] at j1;cases j1
      · rw[k1] at j1;cases j1
      · rw[k1] at j1;cases j1
      · have s1:=M.sy z y k3
        have s2:=M.sy z' y j3
        obtain rfl:z=z':=by omega
        exact hdz z k2 j2
    have ev:zE ((u,x)::(xN ps++qs)) b=u::(zE ps x).reverse++zE qs b:=by
      simp[zE,ZC,qh,Vs]
    refine⟨(u,x)::(xN ps++qs),.odd hub ((Tout u).2 ?_) ml hux (by rw[h0];exact a1.goes G) (by rw[h1];exact g1.goes G),qz.rev M.sy M.es a2 hux hpq g2,?_,?_⟩
    · rcases hz x hx with h|h
      · exact .inr (.inl ⟨x,h,hm⟩)
      · exact .inr (.inr ⟨x,h,hm⟩)
    · rw[ev]
      refine List.nodup_append.2 ⟨List.nodup_cons.2 ⟨by rw[List.mem_reverse];exact hup,?_⟩,g3,?_⟩
      · exact(List.reverse_perm _).nodup_iff.2 a3
      · intro y hy z hz' e
        subst e
        rcases List.mem_cons.1 hy with rfl|hy
        · exact huq hz'
        · exact hpq' y (List.mem_reverse.1 hy) hz'
    · rw[ev]
      intro y hy
      rcases List.mem_append.1 hy with hy|hy
      · rcases List.mem_cons.1 hy with rfl|hy
        · exact onT zs hz y (.inr ⟨mo,x,hx,hm⟩)
        · refine onT zs hz y ?_
          rcases a4 y (List.mem_reverse.1 hy) with⟨k1,k2|k2⟩|⟨k1,z,k2,k3⟩
          · exact .inl ⟨k1,.inl (hx1 _ k2).1⟩
          · exact .inl ⟨k1,.inl (by rw[k2];exact hx)⟩
          · exact .inr ⟨k1,z,(hx1 _ k2).1,k3⟩
      · exact onT ts ht y (g4 y hy)
  have Tv:∀p zs,S.out p=true→Zx mt S (S.bs p) b zs→(∀z∈zs,z∈xs∨z∈ys)→T.bs p=b:=by
    intro p zs hp hc hz
    generalize hbp:S.bs p=c at hc
    cases hc with
    |here=>rw[Tbs2 p (nJ p hp (by rw[hbp];exact hbX) (by rw[hbp];exact hbY))];exact hbp
    | up=>
      refine Tbs1 p ?_
      rcases hz c (by simp) with h|h
      · exact .inl (by rw[hbp];exact h)
      · exact .inr (.inl (by rw[hbp];exact h))
  refine⟨?_,G,Tout,fun u=>⟨Tbs1 u,Tbs2 u⟩,Tv v xs hv hX fun z h=> .inl h,Tv w ys hw hY fun z h=> .inr h⟩
  refine⟨fun u hu=>?_,fun u hu=>(Tout u).2 (.inl (I.e1 u hu)),I.l2,I.fr,fun u hu=>?_,I.ev,fun u hu=>?_,fun u hu=>?_,fun c m hc hcb hm=>?_,fun m x hl ho hm=>?_,⟨d,fun c m hc hcb hm=>?_⟩,fun u hu=>?_⟩
  · rcases(Tout u).1 hu with h|⟨x,hx,h⟩|⟨x,hx,h⟩
    · exact I.o1 u h
    · have:=(mX u x hx h).2.1
      exact⟨(I.od u this).1,by show S.lab u≠0;omega⟩
    · have:=(mY u x hx h).2.1
      exact⟨(I.od u this).1,by show S.lab u≠0;omega⟩
  · obtain⟨h1,x,k1,k2,k3,k4,k5,k6⟩:=I.od u hu
    exact⟨h1,x,k1,k2,k3,(Tout _).2 (.inl k4),k5,k6⟩
  · by_cases hj:Kr mt S xs ys u
    · have hbl:S.lab b=1:=by have:=(I.bo b bo).2.1;rwa [hb] at this
      rw[Tbs1 u hj]
      exact⟨(Tout b).2 (.inl bo),hbl,Tb,(Jrt u hj).symm⟩
    · have ho:=nO u hu hj
      obtain⟨k1,k2,k3,k4⟩:=I.bo u ho
      rw[Tbs2 u hj]
      have hj2:¬Kr mt S xs ys (S.bs u):=nJ _ k1 (by rw[k3];exact fun h=>hj (.inl h)) (by rw[k3];exact fun h=>hj (.inr (.inl h)))
      exact⟨(Tout _).2 (.inl k1),k2,(Tbs2 _ hj2).trans k3,k4⟩
  · have ho:S.out u=false:=by
      cases h:S.out u with
      |false=>rfl
      |true=>rw[(Tout u).2 (.inl h)] at hu;cases hu
    have hj:¬Kr mt S xs ys u:=fun h=>by
      rcases h with h|h|h|h
      · rw[xo u h] at ho;cases ho
      · rw[yo u h] at ho;cases ho
      · rw[(Tout u).2 (.inr (.inl h))] at hu;cases hu
      · rw[(Tout u).2 (.inr (.inr h))] at hu;cases hu
    exact(Tbs2 u hj).trans (I.bn u ho)
  · have hj:¬Kr mt S xs ys c:=fun h=>by
      have:=Tbs1 c h
      rw[hcb] at this
      exact bJ (this▸h)
    have ho:=nO c hc hj
    have hcb':=(Tbs2 c hj).symm.trans hcb
    have hmo:=I.bm c m ho hcb' hm
    cases hT:T.out m with
    |false=>rfl
    | true=>
      rcases(Tout m).1 hT with h|⟨x,hx,h⟩|⟨x,hx,h⟩
      · rw[hmo] at h;cases h
      · have s1:=M.sy c m hm
        have s2:=M.sy x m h
        obtain rfl:x=c:=by omega
        exact absurd (.inl (by rw[hcb'];exact hx)) hj
      · have s1:=M.sy c m hm
        have s2:=M.sy x m h
        obtain rfl:x=c:=by omega
        exact absurd (.inr (.inl (by rw[hcb'];exact hx))) hj
  · have ho':S.out m=false:=by
      cases h:S.out m with
      |false=>rfl
      |true=>rw[(Tout m).2 (.inl h)] at ho;cases ho
    have hbx:=I.bx m x hl ho' hm
    have hmx:=M.sy m x hm
    obtain⟨_,x',k1,k2,_⟩:=I.od m hl
    obtain rfl:x'=x:=by omega
    have hxo:=I.e1 x' k2
    refine(Tbs2 x' (nJ x' hxo (fun h=>?_) fun h=>?_)).trans hbx
    · rw[hbx] at h;rw[(Tout m).2 (.inr (.inl ⟨x',h,hmx⟩))] at ho;cases ho
    · rw[hbx] at h;rw[(Tout m).2 (.inr (.inr ⟨x',h,hmx⟩))] at ho;cases ho
  · have hj:¬Kr mt S xs ys c:=fun h=>by
      have:=Tbs1 c h
      rw[hcb] at this
      exact bJ (this▸h)
    have ho:=nO c hc hj
    have hcb':=(Tbs2 c hj).symm.trans hcb
    have h1:=hd c m ho hcb' hm
    show d (T.bs (S.pr m))<d c
    by_cases hp:Kr mt S xs ys (S.pr m)
    · rw[Tbs1 _ hp]
      rcases hp with h|h|⟨x,hx,h⟩|⟨x,hx,h⟩
      · have:=(fX _ h).1;omega
      · have:=(fY _ h).1;omega
      · have:=(mX _ x hx h).1
        rcases I.base M ho hcb' with⟨h3,_⟩|⟨m',h3,h4,h5,h6,_⟩
        · omega
        · obtain rfl:m'=m:=by omega
          rw[this] at h6;cases h6
      · have:=(mY _ x hx h).1
        rcases I.base M ho hcb' with⟨h3,_⟩|⟨m',h3,h4,h5,h6,_⟩
        · omega
        · obtain rfl:m'=m:=by omega
          rw[this] at h6;cases h6
    · rw[Tbs2 _ hp];exact h1
  · by_cases hj:Kr mt S xs ys u
    · rw[Tbs1 u hj]
      have chainW:∀zs c,(∀z∈zs,z∈xs∨z∈ys)→S.out c=true→S.bs c=c→Zx mt S c b zs→S.bs u∈zs→S.out u=true→∃ps,xI mt T u b ps∧qz mt E u ps b∧(zE ps b).Nodup∧∀y∈zE ps b,T.out y=true∧T.bs y=b:=by
        intro zs c hz hc1 hc2 cz hu2 hu3
        obtain⟨x1,x2,e,c1,c2⟩:=qT M I hd cz hc1 hc2 _ hu2
        obtain⟨_,ps,a1,a2,a3,a4⟩:=Ym M I hd c2 hb u hu3 rfl
        exact⟨ps,a1.goes G,a2,a3,fun y hy=>onT _ (fun z h=>hz z (by rw[e];exact List.mem_append.2 (.inr h))) y (a4 y hy)⟩
      rcases hj with h|h|⟨x,hx,h⟩|⟨x,hx,h⟩
      · exact chainW xs _ (fun z h=> .inl h) v1 v3 hX h (xo u h)
      · exact chainW ys _ (fun z h=> .inr h) w1 w3 hY h (yo u h)
      · have hny:j0 mt ys u=false:=by
          rw[Bool.eq_false_iff];intro h'
          obtain⟨x',hx',h'⟩:=Z0.1 h'
          have s1:=M.sy x u h
          have s2:=M.sy x' u h'
          obtain rfl:x=x':=by omega
          exact hdj x hx hx'
        have hyx:=Z0.2 ⟨x,hx,h⟩
        exact wayM v w xs ys hv hw hvw hX hY hdj (fun z h=> .inl h) (fun z h=> .inr h) u x hx h
          (by show(if j0 mt ys u=true then w else if j0 mt xs u=true then v else S.b0 u)=v;rw[hny,hyx];rfl)
          (by show(if j0 mt ys u=true then v else if j0 mt xs u=true then w else S.b1 u)=w;rw[hny,hyx];rfl)
      · have hyx:=Z0.2 ⟨x,hx,h⟩
        exact wayM w v ys xs hw hv (M.es _ _ hvw) hY hX (fun y hy h=>hdj y h hy) (fun z h=> .inr h) (fun z h=> .inl h) u x hx h
          (by show(if j0 mt ys u=true then w else if j0 mt xs u=true then v else S.b0 u)=w;rw[hyx];rfl)
          (by show(if j0 mt ys u=true then v else if j0 mt xs u=true then w else S.b1 u)=v;rw[hyx];rfl)
    · have ho:=nO u hu hj
      obtain⟨ps,p1,p2,p3,p4⟩:=I.wy u ho
      rw[Tbs2 u hj]
      refine⟨ps,p1.goes G,p2,p3,fun y hy=>?_⟩
      obtain⟨y1,y2⟩:=p4 y hy
      refine⟨(Tout y).2 (.inl y1),?_⟩
      rw[Tbs2 y (nJ y y1 (by rw[y2];exact fun h=>hj (.inl h)) (by rw[y2];exact fun h=>hj (.inr (.inl h))))];exact y2
end Go.Ga.Gl
