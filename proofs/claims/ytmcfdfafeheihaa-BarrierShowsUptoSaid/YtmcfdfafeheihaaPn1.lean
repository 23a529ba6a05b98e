/- Of any small graph: how many edges a largest matching has, and a set that shows it. -/
import Derived.Test.YtmcfdfafeheihaaRows
import Derived.Test.YtmcfdfafeheihaaGmhdbpc5
set_option linter.all false

namespace Go.Proofs.Ytmcfdfafeheihaa
open Go Go.Ga
theorem mix :Try.prog.follows .mixedOrders=true:=by kernel_rfl
def zdh :List zl:=[oO 4]
def zdg :List zl:=[oM 12 0,oM 13 1,(none,.call 14 (.f 8) [(.t 12,false),(.t 13,false),(.c (.int .i64 11),false),(.c (.int .i64 40),false)]),(none,.alloc 5 [.int .i64 0,.slice none 0 0]),oW 5 14 2]
def zdf :List zl:=[oT 16 5 2,oC 17 10 16,oM 15 17,oY 18 15 0,oY 19 15 1,oS 6 18,oS 7 19]
def zde :List zl:=[oT 21 5 2,oC 22 18 21,oM 20 22,oY 23 20 0,oY 24 20 1,oS 8 23,oS 9 24]
def zdd :List zl:=[oT 26 5 2,oM 27 8,qJ 28 19 26 27,oM 25 28,oY 29 25 0,oY 30 25 1,oS 10 29,oS 11 30]
def zdc :List zl:=[(none,.call 31 (.f 13) []),oM 32 31,oK 32 true 33 7,kQ 32 true 34 .eql 33 0,oP 35 32 34,oM 36 35,oK 36 true 37 6,(some (36,true),.r (.ld 38 (.t 5) 2 true)),(some (36,true),.call 39 (.f 20) [(.t 38,false)]),xG 36 true 40 .eql 37 39,oP 41 36 40,oM 42 41,
 oK 42 true 43 9,kQ 42 true 44 .eql 43 0,oP 45 42 44,oM 46 45,oK 46 true 47 8,(some (46,true),.call 48 (.f 21) [(.t 47,false)]),oP 49 46 48,oM 50 49,oK 50 true 51 11,kQ 50 true 52 .eql 51 0,oP 53 50 52,oM 54 53,oK 54 true 55 6,(some (54,true),.r (.bin 56 .mul 0 (.c (.int .i64 2)) (.t 55))),(some (54,
 true),.r (.fldA 57 (.t 5) 0)),QZ 54 true 58 57 1,oK 54 true 59 10,xG 54 true 60 .sub 58 59,xG 54 true 61 .eql 56 60,oP 62 54 61,oS 4 62]
def w8 :List Nat:=[0,1,4,5,6,7,8,9,10,11]
def zmW :zC:=.seq (.reg w8 zdh w8) (.seq (.reg [0,1,4,6,7,8,9,10,11] zdg w8) (.seq (.reg w8 zdf w8) (.seq (.reg w8 zde w8) (.seq (.reg w8 zdd w8) (.seq (.reg w8 zdc w8) .ret)))))
abbrev zmH :Nat:=6
theorem zmN :jU Try.prog Try.f6.ntmps 2 [4] w8 [(.tmp 4)] zmW zmH:=jY mix Try.func6 (by kernel_rfl) rfl
def zdb :List zl:=[(none,.alloc 8 [.int .i64 0,.slice none 0 0])]
def zda :List zl:=[oM 13 0,(none,.r (.conv 14 .u64 (.t 13))),oM 15 2,oB 16 .add 15 1,(none,.r (.conv 17 .u64 (.t 16))),oD 18 .rem 14 17,(none,.r (.conv 19 .i64 (.t 18))),oS 0 19]
def zc9 :List zl:=[oM 20 0,(none,.bld 21 [((0,1),(.t 20,true))] [.int .i64 0,.slice none 0 0]),(none,.alloc 9 [.int .i64 0,.slice none 0 0]),oW 9 21 2]
def zc8 :List zl:=[oI 10 0]
def Yd :List zl:=[oM 22 10,oB 23 .add 22 1,oM 24 1,oE 25 24,oD 26 .lss 23 25,oM 27 26,(some (27,true),.r (.fldA 28 (.t 9) 1)),QZ 27 true 29 28 1,(some (27,true),.r (.len 30 (.t 29))),oK 27 true 31 3,xG 27 true 32 .lss 30 31,oP 33 27 32,oM 34 33,oK 34 true 35 0,kQ 34 true 36 .gtr 35 0,
 oP 37 34 36,oM 38 37,oK 38 true 39 10,kQ 38 true 40 .lss 39 400,oP 41 38 40]
def zc7 :Zj:=.take [20,21,22,23,25,26] (oT 45 9 2) (.take [3,4,5,8,9,20,21,22,23,25,26] (oM 46 1) (.take [3,4,5,8,9,20,21,22,23,25,26] (oM 47 10) (.take [4,5,8,9,20,21,22,23,25,26] (oX 48 46 47 1) (.take [5,8,9,20,21,22,23,25,26] (oL 49 48 1) (.take [8,9,20,21,22,23,25,26] (none,
 .r (.conv 50 .u64 (.t 49))) (.take [7,8,9,20,21,22,23,25,26] (oM 51 0) (.take [8,9,20,21,22,23,25,26] (none,.r (.conv 52 .u64 (.t 51))) (.take [9,20,21,22,23,25,26] (oD 53 .rem 50 52) (.take [20,21,22,23,25,26] (none,.r (.conv 54 .i64 (.t 53))) (.take [13,14,15,18,19,20,21,22,23,25,26] (oM 55 1) (.take [12,
 13,14,15,18,19,20,21,22,23,25,26] (oM 56 10) (.take [13,14,15,18,19,20,21,22,23,25,26] (oB 57 .add 56 1) (.take [14,15,18,19,20,21,22,23,25,26] (oX 58 55 57 1) (.take [15,18,19,20,21,22,23,25,26] (oL 59 58 1) (.take [18,19,20,21,22,23,25,26] (none,.r (.conv 60 .u64 (.t 59))) (.take [17,18,19,20,21,22,
 23,25,26] (oM 61 0) (.take [18,19,20,21,22,23,25,26] (none,.r (.conv 62 .u64 (.t 61))) (.take [19,20,21,22,23,25,26] (oD 63 .rem 60 62) (.take [20,21,22,23,25,26] (none,.r (.conv 64 .i64 (.t 63))) (.two 20 (oC3 65 25 45 54 64) (.take [22,23,25,26] (oM 44 65) (.take [25,26] (oY 66 44 0) (.take [26] (oY 67 44 1) (.one 24 (none,
 .alloc 11 [.int .i64 0,.slice none 0 0]) (.one 25 (oW 11 66 2) (.one 26 (oS 12 67) .done)))))) 24 (none,.alloc 11 [.int .i64 0,.slice none 0 0]) (.one 20 (oC3 65 25 45 54 64) (.take [22,23,25,26] (oM 44 65) (.take [25,26] (oY 66 44 0) (.take [26] (oY 67 44 1) (.one 25 (oW 11 66 2) (.one 26 (oS 12 67) .done))))))))))))))))))))))))))
def wG :List zl:=[oM 68 12,oB 69 .eql 68 0]
def Kc :List zl:=[oT 70 11 2,oW 9 70 2]
def wF :List zl:=[oM 42 10,oB 43 .add 42 2,oS 10 43]
def wE :List zl:=[oT 71 9 2,oW 8 71 2]
def Q8 :List Nat:=[0,1,2,3,8,9,10,11,12,41,69]
def zmV :zC:=.seq (.reg [0,1,2,3,9,10,11,12,41,69] zdb Q8) (.seq (.reg Q8 zda Q8) (.seq (.reg [0,1,2,3,8,10,11,12,41,69] zc9 Q8) (.seq (.seq (.reg Q8 zc8 Q8) (.blk 0 (.loop (.seq (.seq (.reg [0,
 1,2,3,8,9,10,11,12,69] Yd Q8) (.cond (.t 41) .skip (.exit 0))) (.seq (.blk 1 (.seq (.draw [0,1,2,3,8,9,10,12,41,69] zc7 Q8) (.seq (.reg [0,1,2,3,8,9,10,11,12,41] wG Q8) (.cond (.t 69) (.reg Q8 Kc Q8) .skip)))) (.reg Q8 wF Q8)))))) (.seq (.reg Q8 wE Q8) .ret))))
abbrev zmG :Nat:=8
theorem zmM :jU Try.prog Try.f8.ntmps 4 [] Q8 [(.cell 8 2 true)] zmV zmG:=jY mix Try.func8 (by kernel_rfl) rfl
def za6 :List zl:=[(none,.box 1 (.t 0)),oI 2 0,oI 3 0]
def za5 :List zl:=[oT 8 1 2,oC 9 23 8,oM 7 9,oY 10 7 0,oY 11 7 1,oY 12 7 2,(none,.alloc 5 [.int .i64 0,.int .i64 0]),oS 4 10,oW 5 11 2,oS 6 12]
def Us :List zl:=[oM 13 4,oC 14 26 13,oM 15 6,oS 2 14,oS 3 15]
def xP :List Nat:=[0,1,2,3,4,6]
def zkL :zC:=.seq (.reg [0,2,3,4,6] za6 xP) (.seq (.reg xP za5 xP) (.seq (.reg xP Us xP) .ret))
abbrev zjL :Nat:=10
theorem zme :jU Try.prog Try.f10.ntmps 1 [2,3] xP [(.tmp 2),(.tmp 3)] zkL zjL:=jY mix Try.func10 (by kernel_rfl) rfl
def Ur :List zl:=[(none,.box 2 (.t 0)),oI 4 0,oI 5 0]
def Uq :List zl:=[oT 11 2 2,oC 12 27 11,(none,.r (.notb 13 (.t 12)))]
def za4 :List zl:=[oI 4 0,oI 5 3]
def za3 :List zl:=[oM 14 1,oE 15 14,(none,.r (.mov 16 (.c (.int .i64 0))))]
def Up :List zl:=[oD 17 .lss 16 15]
def za2 :List zl:=[oX 18 14 16 1,oL 19 18 1,oS 7 19]
def wX :List zl:=[oM 20 7,oB 21 .lss 20 0,oM 22 21,oK 22 false 23 7,(some (22,false),.r (.fldA 24 (.t 2) 0)),QZ 22 false 25 24 1,xG 22 false 26 .geq 23 25,oQ 27 22 26]
def Uo :List zl:=[oI 4 0,oI 5 4]
def za1 :List zl:=[oB 28 .add 16 1,oS 16 28]
def za0 :List zl:=[oF 29 2 0,oL 30 29 1,(none,.mk 31 (.t 30) (.t 30) 1 1 [.bool false]),oS 8 31]
def ko :List zl:=[oM 32 1,oE 33 32,(none,.r (.mov 34 (.c (.int .i64 0))))]
def WS :List zl:=[oD 35 .lss 34 33]
def kn :List zl:=[oX 36 32 34 1,oL 37 36 1,oS 10 37]
def WR :List zl:=[oM 38 8,oM 39 10,oX 40 38 39 1,oL 41 40 1]
def km :List zl:=[oI 4 0,oI 5 6]
def kj :List zl:=[oM 42 8,oM 43 10,oX 44 42 43 1,(none,.st (.t 44) (.c (.bool true)) 1)]
def ki :List zl:=[oB 45 .add 34 1,oS 34 45]
def kh :List zl:=[oF 46 2 0,oL 47 46 1,oF 48 2 1,oL 49 48 1,qJ 50 29 47 49,oM 51 1,qJ 52 28 50 51,oS 4 52,oI 5 0]
def ZS :List Nat:=[0,1,2,4,5,7,8,10,13,14,15,16,17,27,32,33,34,35,41]
def zhb :zC:=.seq (.reg [0,1,4,5,7,8,10,13,14,15,16,17,27,32,33,34,35,41] Ur ZS) (.seq (.seq (.reg [0,1,2,4,5,7,8,10,14,15,16,17,27,32,33,34,35,41] Uq ZS) (.cond (.t 13) (.seq (.reg ZS za4 ZS) .ret) .skip)) (.seq (.seq (.reg [0,
 1,2,4,5,7,8,10,13,17,27,32,33,34,35,41] za3 ZS) (.blk 0 (.loop (.seq (.reg [0,1,2,4,5,7,8,10,13,14,15,16,27,32,33,34,35,41] Up ZS) (.seq (.cond (.t 17) .skip (.exit 0)) (.seq (.blk 1 (.seq (.reg ZS za2 ZS) (.seq (.reg [0,
 1,2,4,5,7,8,10,13,14,15,16,17,32,33,34,35,41] wX ZS) (.cond (.t 27) (.seq (.reg ZS Uo ZS) .ret) .skip)))) (.reg ZS za1 ZS))))))) (.seq (.reg ZS za0 ZS) (.seq (.seq (.reg [0,
 1,2,4,5,7,8,10,13,14,15,16,17,27,35,41] ko ZS) (.blk 2 (.loop (.seq (.reg [0,1,2,4,5,7,8,10,13,14,15,16,17,27,32,33,34,41] WS ZS) (.seq (.cond (.t 35) .skip (.exit 2)) (.seq (.blk 3 (.seq (.reg ZS kn ZS) (.seq (.seq (.reg [0,
 1,2,4,5,7,8,10,13,14,15,16,17,27,32,33,34,35] WR ZS) (.cond (.t 41) (.seq (.reg ZS km ZS) .ret) .skip)) (.reg ZS kj ZS)))) (.reg ZS ki ZS))))))) (.seq (.reg ZS kh ZS) .ret)))))
abbrev zjK :Nat:=11
theorem zgC :jU Try.prog Try.f11.ntmps 2 [4,5] ZS [(.tmp 4),(.tmp 5)] zhb zjK:=jY mix Try.func11 (by kernel_rfl) rfl
def zaZ :List zl:=[oO 0]
def zaY :List zl:=[(none,.bld 4 [((0,1),(.c (.int .i64 0),true)),((1,1),(.c (.int .i64 1),true))] [.int .i64 0,.int .i64 0]),(none,.bld 5 [((0,1),(.c (.int .i64 0),true)),((1,1),(.c (.int .i64 2),true))] [.int .i64 0,.int .i64 0]),(none,.bld 6 [((0,1),(.c (.int .i64 0),true)),((1,
 1),(.c (.int .i64 3),true))] [.int .i64 0,.int .i64 0]),(none,.blds 7 3 2 [((0,2),(.t 4,true)),((2,2),(.t 5,true)),((4,2),(.t 6,true))] [.int .i64 0,.int .i64 0]),(none,.bld 8 [((0,1),(.c (.int .i64 4),true)),((1,1),(.t 7,true))] [.int .i64 0,.slice none 0 0]),(none,.alloc 1 [.int .i64 0,.slice none 0 0]),
 oW 1 8 2]
def zaX :List zl:=[oT 10 1 2,(none,.blds 11 1 1 [((0,1),(.c (.int .i64 0),true))] [.int .i64 0]),qJ 12 11 10 11,oM 9 12,oY 13 9 0,oY 14 9 1,oS 2 13,oS 3 14]
def zaW :List zl:=[oM 15 3,oB 16 .eql 15 0,oM 17 16,oK 17 true 18 2,kQ 17 true 19 .eql 18 2,oP 20 17 19,oM 21 20,(some (21,true),.r (.ld 22 (.t 1) 2 true)),(some (21,true),.blds 23 4 1 [((0,1),(.c (.int .i64 1),true)),((1,1),(.c (.int .i64 0),true)),((2,1),(.c (.int .i64 (- (0+1))),
 true)),((3,1),(.c (.int .i64 (- (0+1))),true))] [.int .i64 0]),(some (21,true),.blds 24 1 1 [((0,1),(.c (.int .i64 0),true))] [.int .i64 0]),(some (21,true),.call 25 (.f 15) [(.t 22,false),(.t 23,false),(.t 24,false)]),oP 26 21 25,oS 0 26]
def Y8 :List Nat:=[0,1,2,3]
def zkK :zC:=.seq (.reg Y8 zaZ Y8) (.seq (.reg [0,2,3] zaY Y8) (.seq (.reg Y8 zaX Y8) (.seq (.reg Y8 zaW Y8) .ret)))
abbrev zjJ :Nat:=13
theorem zmd :jU Try.prog Try.f13.ntmps 0 [0] Y8 [(.tmp 0)] zkK zjJ:=jY mix Try.func13 (by kernel_rfl) rfl
def zaV :List zl:=[(none,.box 3 (.t 0)),oO 6]
def zaU :List zl:=[oT 10 3 2,oM 11 2,qJ 12 11 10 11,oM 9 12,oY 13 9 0,oY 14 9 1,oS 7 13,oS 8 14]
def wW :Zj:=.take [1,2,3,4,5,6,7,8,9,10,11,12,13,14,15,16,17] (oM 15 8) (.take [2,3,4,5,6,7,8,9,10,11,12,13,14,15,16,17] (oB 16 .eql 15 0) (.take [3,4,5,6,7,8,9,10,11,12,13,14,15,16,17] (oM 17 16) (.take [5,6,7,8,9,10,11,12,13,14,15,16,17] (some (17,true),.r (.ld 18 (.t 3) 2 true)) (.take [5,
 6,7,8,9,10,11,12,13,14,15,16,17] (oK 17 true 19 1) (.one 5 (some (17,true),.call 20 (.f 31) [(.t 18,false),(.t 19,false)]) (.take [7,8,9,10,11,12,13,14,15,16,17] (oP 21 17 20) (.take [8,9,10,11,12,13,14,15,16,17] (oM 22 21) (.take [9,10,15,16,17] (oK 22 true 23 1) (.take [12,14,15,16,17] (some (22,true),
 .r (.fldA 26 (.t 3) 0)) (.take [14,15,16,17] (QZ 22 true 27 26 1) (.take [14,15,16,17] (oK 22 true 28 7) (.take [15,16,17] (xG 22 true 29 .sub 27 28) (.one 9 (some (22,true),.call 24 (.f 26) [(.t 23,false)]) (.take [15,16,17] (some (22,true),.r (.bin 25 .mul 0 (.c (.int .i64 2)) (.t 24))) (.take [16,
 17] (xG 22 true 30 .eql 25 29) (.take [17] (oP 31 22 30) (.one 17 (oS 6 31) .done)))))))))))))))))
def xO :List Nat:=[0,1,2,3,6,7,8]
def zkJ :zC:=.seq (.reg [0,1,2,6,7,8] zaV xO) (.seq (.reg xO zaU xO) (.seq (.draw xO wW xO) .ret))
abbrev zjI :Nat:=15
theorem zmc :jU Try.prog Try.f15.ntmps 3 [6] xO [(.tmp 6)] zkJ zjI:=jY mix Try.func15 (by kernel_rfl) rfl
def zaT :List zl:=[(none,.box 1 (.t 0)),oZ 2,oI 3 0]
def zaS :List zl:=[oT 8 1 2,oC 9 32 8,oM 7 9,oY 10 7 0,oY 11 7 1,oY 12 7 2,oS 4 10,oS 5 11,oS 6 12]
def Un :List zl:=[oM 13 6,oB 14 .neq 13 0]
def zha :List zl:=[oM 15 6,oZ 2,oS 3 15]
def Um :List zl:=[oM 16 4,(none,.call 17 (.f 33) [(.t 16,false),(.c (.int .i64 2),false)]),oS 2 17,oI 3 0]
def Yu :List Nat:=[0,1,2,3,4,5,6,14]
def zkI :zC:=.seq (.reg [0,2,3,4,5,6,14] zaT Yu) (.seq (.reg Yu zaS Yu) (.seq (.seq (.reg [0,1,2,3,4,5,6] Un Yu) (.cond (.t 14) (.seq (.reg Yu zha Yu) .ret) .skip)) (.seq (.reg Yu Um Yu) .ret)))
abbrev zjH :Nat:=18
theorem zmb :jU Try.prog Try.f18.ntmps 1 [2,3] Yu [(.tmp 2),(.tmp 3)] zkI zjH:=jY mix Try.func18 (by kernel_rfl) rfl
def Ul :List zl:=[(none,.box 2 (.t 0)),oI 4 0,oI 5 0]
def Uk :List zl:=[oT 8 2 2,oC 9 34 8,(none,.r (.notb 10 (.t 9)))]
def zaR :List zl:=[oI 4 0,oI 5 3]
def zaQ :List zl:=[oI 6 0]
def Uj :List zl:=[oM 11 6,oM 12 1,oE 13 12,oD 14 .lss 11 13]
def Ui :Zj:=.take [5,6] (oT 17 2 2) (.take [3,4,5,6] (oM 18 1) (.take [3,4,5,6] (oM 19 6) (.take [4,5,6] (oX 20 18 19 1) (.take [5,6] (oL 21 20 1) (.one 5 (qJ 22 35 17 21) (.take [] (none,.r (.notb 23 (.t 22))) .done))))))
def zaP :List zl:=[oI 4 0,oI 5 4]
def zaO :List zl:=[oM 15 6,oB 16 .add 15 1,oS 6 16]
def zaN :List zl:=[oI 7 0]
def Uh :List zl:=[oM 24 7,oM 25 1,oE 26 25,oD 27 .lss 24 26]
def WQ :Zj:=.take [2,7] (oM 30 1) (.take [2,7] (oM 31 7) (.take [5,6,7] (oM 33 1) (.take [5,6,7] (oM 34 7) (.take [6,7] (oX 35 33 34 1) (.take [7] (oL 36 35 1) (.one 2 (none,.slc 32 (.t 30) none (some (.t 31)) 1) (.one 7 (qJ 37 36 32 36) .done)))))))
def kg :List zl:=[oI 4 0,oI 5 6]
def kf :List zl:=[oM 28 7,oB 29 .add 28 1,oS 7 29]
def ke :List zl:=[oT 38 2 2,oM 39 1,qJ 40 37 38 39,oM 41 1,oE 42 41,oD 43 .sub 40 42,oS 4 43,oI 5 0]
def jr :List Nat:=[0,1,2,4,5,6,7,10,14,23,27,37]
def zg9 :zC:=.seq (.reg [0,1,4,5,6,7,10,14,23,27,37] Ul jr) (.seq (.seq (.reg [0,1,2,4,5,6,7,14,23,27,37] Uk jr) (.cond (.t 10) (.seq (.reg jr zaR jr) .ret) .skip)) (.seq (.seq (.reg jr zaQ jr) (.blk 0 (.loop (.seq (.seq (.reg [0,
 1,2,4,5,6,7,10,23,27,37] Uj jr) (.cond (.t 14) .skip (.exit 0))) (.seq (.blk 1 (.seq (.draw [0,1,2,4,5,6,7,10,14,27,37] Ui jr) (.cond (.t 23) (.seq (.reg jr zaP jr) .ret) .skip))) (.reg jr zaO jr)))))) (.seq (.seq (.reg jr zaN jr) (.blk 2 (.loop (.seq (.seq (.reg [0,
 1,2,4,5,6,7,10,14,23,37] Uh jr) (.cond (.t 27) .skip (.exit 2))) (.seq (.blk 3 (.seq (.draw [0,1,2,4,5,6,7,10,14,23,27] WQ jr) (.cond (.t 37) (.seq (.reg jr kg jr) .ret) .skip))) (.reg jr kf jr)))))) (.seq (.reg jr ke jr) .ret))))
abbrev zjG :Nat:=19
theorem zgB :jU Try.prog Try.f19.ntmps 2 [4,5] jr [(.tmp 4),(.tmp 5)] zg9 zjG:=jY mix Try.func19 (by kernel_rfl) rfl
def zaM :List zl:=[(none,.box 1 (.t 0)),oI 2 0]
def zaL :List zl:=[oT 4 1 2,oC 5 38 4,oS 3 5]
def zaK :List zl:=[oM 6 3,oM 7 3,oE 8 7,oB 9 .sub 8 1,oX 10 6 9 1,oL 11 10 1,oS 2 11]
def xN :List Nat:=[0,1,2,3]
def zkH :zC:=.seq (.reg [0,2,3] zaM xN) (.seq (.reg xN zaL xN) (.seq (.reg xN zaK xN) .ret))
abbrev zjF :Nat:=20
theorem zma :jU Try.prog Try.f20.ntmps 1 [2] xN [(.tmp 2)] zkH zjF:=jY mix Try.func20 (by kernel_rfl) rfl
def zaJ :List zl:=[oO 2]
def zaI :List zl:=[oI 3 1]
def zaH :List zl:=[oM 4 3,oM 5 0,oE 6 5,oD 7 .lss 4 6]
def zaG :Zj:=.take [2,3,9] (oM 10 0) (.take [2,3,9] (oM 11 3) (.take [3,9] (oX 12 10 11 1) (.take [9] (oL 13 12 1) (.take [7,8,9] (oM 14 0) (.take [6,7,8,9] (oM 15 3) (.take [7,8,9] (oB 16 .sub 15 1) (.take [8,9] (oX 17 14 16 1) (.take [9] (oL 18 17 1) (.take [] (oD 19 .leq 13 18) .done)))))))))
def zg8 :List zl:=[oO 2]
def zaF :List zl:=[oM 8 3,oB 9 .add 8 1,oS 3 9]
def zaE :List zl:=[(none,.asg 2 (.c (.bool true)) true)]
def qB :List Nat:=[0,2,3,7,19]
def zkG :zC:=.seq (.reg qB zaJ qB) (.seq (.seq (.reg qB zaI qB) (.blk 0 (.loop (.seq (.seq (.reg [0,2,3,19] zaH qB) (.cond (.t 7) .skip (.exit 0))) (.seq (.blk 1 (.seq (.draw [0,
 2,3,7] zaG qB) (.cond (.t 19) (.seq (.reg qB zg8 qB) .ret) .skip))) (.reg qB zaF qB)))))) (.seq (.reg qB zaE qB) .ret))
abbrev zjE :Nat:=21
theorem zl9 :jU Try.prog Try.f21.ntmps 1 [2] qB [(.tmp 2)] zkG zjE:=jY mix Try.func21 (by kernel_rfl) rfl
def zaD :List zl:=[(none,.box 1 (.t 0)),oZ 2,(none,.alloc 3 [.int .i64 0,.int .i64 0]),oI 4 0]
def zaC :List zl:=[oT 8 1 2,oC 9 27 8,(none,.r (.notb 10 (.t 9)))]
def zg7 :List zl:=[(none,.bld 11 [] [.int .i64 0,.int .i64 0]),oZ 2,oW 3 11 2,oI 4 3]
def zaB :List zl:=[oT 12 1 2,oC 13 39 12,oS 5 13]
def Ug :List zl:=[oF 15 1 0,oL 16 15 1,oF 17 1 1,oL 18 17 1,qJ 19 29 16 18,oM 20 5,qJ 21 40 19 20,oM 14 21,oY 22 14 0,oY 23 14 1,(none,.alloc 7 [.int .i64 0,.int .i64 0]),oS 6 22,oW 7 23 2]
def Ue :Zj:=.take [2,3,4] (oM 24 5) (.take [3,4] (oT 25 7 2) (.one 2 (oS 2 24) (.one 3 (oW 3 25 2) (.one 4 (oI 4 0) .done))))
def ya :List Nat:=[0,1,2,3,4,5,6,7,10]
def zkF :zC:=.seq (.reg [0,2,4,5,6,7,10] zaD ya) (.seq (.seq (.reg [0,1,2,3,4,5,6,7] zaC ya) (.cond (.t 10) (.seq (.reg ya zg7 ya) .ret) .skip)) (.seq (.reg ya zaB ya) (.seq (.reg [0,
 1,2,3,4,5,6,10] Ug ya) (.seq (.draw ya Ue ya) .ret))))
abbrev zjD :Nat:=23
theorem zl8 :jU Try.prog Try.f23.ntmps 1 [2,4] ya [(.tmp 2),(.cell 3 2 true),(.tmp 4)] zkF zjD:=jY mix Try.func23 (by kernel_rfl) rfl
def zaA :List zl:=[(none,.box 3 (.t 0)),(none,.alloc 6 [.int .i64 0,.slice none 0 0]),oI 7 0]
def zaz :List zl:=[oT 9 3 2,oC 10 34 9,(none,.r (.notb 11 (.t 10))),oS 8 11]
def zg6 :List zl:=[(none,.bld 12 [] [.int .i64 0,.slice none 0 0]),oW 6 12 2,oI 7 3]
def yQ :List zl:=[oT 14 3 2,oM 15 1,qJ 16 35 14 15,(none,.r (.notb 17 (.t 16))),oM 18 17,(some (18,false),.r (.ld 19 (.t 3) 2 true)),oK 18 false 20 2,(some (18,false),.call 21 (.f 35) [(.t 19,false),(.t 20,false)]),(some (18,false),.r (.notb 22 (.t 21))),oQ 23 18 22,oS 13 23]
def yP :List zl:=[(none,.bld 24 [] [.int .i64 0,.slice none 0 0]),oW 6 24 2,oI 7 4]
def Ud :List zl:=[oM 26 1,oM 27 2,oD 28 .eql 26 27,oS 25 28]
def zay :List zl:=[(none,.bld 29 [] [.int .i64 0,.slice none 0 0]),oW 6 29 2,oI 7 5]
def zax :List zl:=[oT 31 3 2,oM 32 1,oM 33 2,oC3 34 42 31 32 33,oS 30 34]
def zaw :List zl:=[(none,.bld 35 [] [.int .i64 0,.slice none 0 0]),oW 6 35 2,oI 7 6]
def Uc :List zl:=[oF 37 3 1,oL 38 37 1,oE 39 38,oB 40 .geq 39 65536,oS 36 40]
def kb :List zl:=[(none,.bld 41 [] [.int .i64 0,.slice none 0 0]),oW 6 41 2,oI 7 8]
def ka :Zj:=.take [1,8,9,10] (oF 42 3 0) (.take [8,9,10] (oL 43 42 1) (.take [3,7,8,9,10] (oF 44 3 1) (.take [7,8,9,10] (oL 45 44 1) (.take [6,7,8,9,10] (oM 46 1) (.take [6,7,8,9,10] (oM 47 2) (.one 6 (qJ 48 44 46 47) (.one 7 (qJ 49 43 45 48) (.one 8 (none,.bld 50 [((0,1),(.t 43,
 true)),((1,1),(.t 49,true))] [.int .i64 0,.slice none 0 0]) (.one 9 (oW 6 50 2) (.one 10 (oI 7 0) .done))))))))))
def jq :List Nat:=[0,1,2,3,6,7,8,13,25,30,36]
def zkE :zC:=.seq (.reg [0,1,2,7,8,13,25,30,36] zaA jq) (.seq (.blk 0 (.seq (.reg jq zaz jq) (.cond (.t 8) (.seq (.reg jq zg6 jq) .ret) (.seq (.reg jq yQ jq) (.cond (.t 13) (.seq (.reg jq yP jq) .ret) (.seq (.reg jq Ud jq) (.cond (.t 25) (.seq (.reg jq zay jq) .ret) (.seq (.reg jq zax jq) (.cond (.t 30) (.seq (.reg jq zaw jq) .ret) (.seq (.reg jq Uc jq) (.cond (.t 36) (.seq (.reg jq kb jq) .ret) .skip))))))))))) (.seq (.draw jq ka jq) .ret))
abbrev zjC :Nat:=25
theorem zl7 :jU Try.prog Try.f25.ntmps 3 [7] jq [(.cell 6 2 true),(.tmp 7)] zkE zjC:=jY mix Try.func25 (by kernel_rfl) rfl
def zav :List zl:=[oI 2 0]
def zau :List zl:=[oM 3 0,(none,.call 4 (.f 45) [(.t 3,false),(.f 46,false)]),oE 5 4,oB 6 .quo 5 2,oS 2 6]
def U7 :List Nat:=[0,2]
def zkD :zC:=.seq (.reg U7 zav U7) (.seq (.reg U7 zau U7) .ret)
abbrev zjB :Nat:=26
theorem zl6 :jU Try.prog Try.f26.ntmps 1 [2] U7 [(.tmp 2)] zkD zjB:=jY mix Try.func26 (by kernel_rfl) rfl
def zat :List zl:=[(none,.box 1 (.t 0)),oO 2]
def yO :List zl:=[oF 6 1 0,oL 7 6 1,oB 8 .lss 7 0,oM 9 8,(some (9,false),.r (.fldA 10 (.t 1) 0)),QZ 9 false 11 10 1,kQ 9 false 12 .gtr 11 4096,oQ 13 9 12,oM 14 13,(some (14,false),.r (.fldA 15 (.t 1) 1)),QZ 14 false 16 15 1,(some (14,false),.r (.len 17 (.t 16))),kQ 14 false 18 .gtr 17 65536,
 oQ 19 14 18]
def wV :List zl:=[oO 2]
def zas :List zl:=[(none,.bld 20 [] []),(none,.mkfn 21 (.func 47) [(.t 20,false)] []),oS 3 21]
def zar :List zl:=[oF 22 1 1,oL 23 22 1,oE 24 23,(none,.r (.mov 25 (.c (.int .i64 0))))]
def zaq :List zl:=[oD 26 .lss 25 24]
def zap :List zl:=[oM 27 25,oX 28 23 25 2,oT 29 28 2,(none,.alloc 5 [.int .i64 0,.int .i64 0]),oS 4 27,oW 5 29 2]
def Qs :Zj:=.take [1,2,3,4,5,6,7,8,9,10,11,12,13,14,15,16,17,18,19,20,21,22,23,24,25,26,27,28,29,30,31,32] (oF 30 5 0) (.take [2,3,4,5,6,7,8,9,10,11,12,13,14,15,16,17,18,19,20,21,22,23,24,25,26,27,28,29,30,31,32] (oL 31 30 1) (.take [3,4,5,6,7,8,9,10,11,12,13,14,15,16,17,18,19,20,21,
 22,23,24,25,26,27,28,29,30,31,32] (oB 32 .lss 31 0) (.take [4,5,6,7,8,9,10,11,12,13,14,15,16,17,18,19,20,21,22,23,24,25,26,27,28,29,30,31,32] (oM 33 32) (.take [5,8,9,10,11,12,13,14,15,16,17,18,19,20,21,22,23,24,25,26,27,28,29,30,31,32] (some (33,false),.r (.fldA 34 (.t 5) 0)) (.take [8,9,10,11,12,13,
 14,15,16,17,18,19,20,21,22,23,24,25,26,27,28,29,30,31,32] (QZ 33 false 35 34 1) (.take [7,8,9,10,11,12,13,14,15,16,17,18,19,20,21,22,23,24,25,26,27,28,29,30,31,32] (some (33,false),.r (.fldA 36 (.t 5) 1)) (.take [8,9,10,11,12,13,14,15,16,17,18,19,20,21,22,23,24,25,26,27,28,29,30,31,32] (QZ 33 false 37 36 1) (.take [9,
 10,11,12,13,14,15,16,17,18,19,20,21,22,23,24,25,26,27,28,29,30,31,32] (xG 33 false 38 .geq 35 37) (.take [10,11,12,13,14,15,16,17,18,19,20,21,22,23,24,25,26,27,28,29,30,31,32] (oQ 39 33 38) (.take [11,12,13,14,15,16,17,18,19,20,21,22,23,24,25,26,27,28,29,30,31,32] (oM 40 39) (.take [12,15,16,17,18,19,
 20,21,22,23,24,25,26,27,28,29,30,31,32] (some (40,false),.r (.fldA 41 (.t 5) 1)) (.take [15,16,17,18,19,20,21,22,23,24,25,26,27,28,29,30,31,32] (QZ 40 false 42 41 1) (.take [14,15,16,17,18,19,20,21,22,23,24,25,26,27,28,29,30,31,32] (some (40,false),.r (.fldA 43 (.t 1) 0)) (.take [15,16,17,18,19,20,21,
 22,23,24,25,26,27,28,29,30,31,32] (QZ 40 false 44 43 1) (.take [16,17,18,19,20,21,22,23,24,25,26,27,28,29,30,31,32] (xG 40 false 45 .geq 42 44) (.take [17,18,19,20,21,22,23,24,25,26,27,28,29,30,31,32] (oQ 46 40 45) (.take [18,19,20,21,22,23,24,25,26,27,28,29,30,31,32] (oM 47 46) (.take [19,20,21,22,
 23,24,25,26,27,28,29,30,31,32] (oK 47 false 48 4) (.take [20,21,22,23,24,25,26,27,28,29,30,31,32] (kQ 47 false 49 .gtr 48 0) (.take [21,22,23,24,25,26,27,28,29,30,31,32] (oK 47 false 50 49) (.take [29,30,31,32] (oK 50 true 51 3) (.take [23,26,27,29,30,31,32] (some (50,true),.r (.fldA 52 (.t 1) 1)) (.take [26,
 27,29,30,31,32] (QZ 50 true 53 52 1) (.take [25,26,27,29,30,31,32] (oK 50 true 54 4) (.take [26,27,29,30,31,32] (kQ 50 true 55 .sub 54 1) (.take [27,29,30,31,32] (some (50,true),.r (.idxA 56 (.t 53) (.t 55) 2)) (.take [29,30,31,32] (some (50,true),.r (.ld 57 (.t 56) 2 true)) (.take [29,30,31,32] (some (50,
 true),.r (.ld 58 (.t 5) 2 true)) (.one 29 (some (50,true),.call 59 (.t 51) [(.t 57,false),(.t 58,false)]) (.take [31,32] (kQ 50 true 60 .geq 59 0) (.take [32] (some (47,false),.r (.pick 61 (.t 50) (.t 60) (.c (.bool false)))) (.take [] (oQ 62 47 61) .done))))))))))))))))))))))))))))))))
def yN :List zl:=[oO 2]
def Ub :List zl:=[oB 63 .add 25 1,oS 25 63]
def V9 :List zl:=[(none,.asg 2 (.c (.bool true)) true)]
def JC :List Nat:=[0,1,2,3,4,5,19,23,24,25,26,62]
def zkC :zC:=.seq (.reg [0,2,3,4,5,19,23,24,25,26,62] zat JC) (.seq (.seq (.reg [0,1,2,3,4,5,23,24,25,26,62] yO JC) (.cond (.t 19) (.seq (.reg JC wV JC) .ret) .skip)) (.seq (.reg JC zas JC) (.seq (.seq (.reg [0,
 1,2,3,4,5,19,26,62] zar JC) (.blk 0 (.loop (.seq (.reg [0,1,2,3,4,5,19,23,24,25,62] zaq JC) (.seq (.cond (.t 26) .skip (.exit 0)) (.seq (.blk 1 (.seq (.reg [0,1,2,3,4,19,23,24,25,26,62] zap JC) (.seq (.draw [0,1,2,3,4,5,19,23,24,
 25,26] Qs JC) (.cond (.t 62) (.seq (.reg JC yN JC) .ret) .skip)))) (.reg JC Ub JC))))))) (.seq (.reg JC V9 JC) .ret))))
abbrev zjA :Nat:=27
theorem zl5 :jU Try.prog Try.f27.ntmps 1 [2] JC [(.tmp 2)] zkC zjA:=jY mix Try.func27 (by kernel_rfl) rfl
def zao :List zl:=[oI 4 0]
def zan :List zl:=[(none,.bld 9 [] [.int .i64 0]),(none,.box 10 (.t 9)),oS 5 10]
def zam :List zl:=[oM 11 5,(none,.mkfn 12 (.func 48) [(.t 11,false)] []),oS 6 12]
def zal :List zl:=[oM 13 0,oM 14 1,qJ 15 49 13 14,oE 16 15,(none,.r (.mov 17 (.c (.int .i64 0))))]
def zak :List zl:=[oD 18 .lss 17 16]
def zaj :List zl:=[oX 19 15 17 1,oL 20 19 1,oS 8 20]
def zai :List zl:=[oM 21 6,oM 22 8,(none,.call 23 (.t 21) [(.t 22,false)])]
def zah :List zl:=[oB 24 .add 17 1,oS 17 24]
def zag :List zl:=[oM 25 5,oN 26 25,oF 27 26 0,oL 28 27 1,oM 29 1,oE 30 29,oD 31 .sub 28 30,oS 4 31]
def JB :List Nat:=[0,1,4,5,6,8,15,16,17,18]
def zkB :zC:=.seq (.reg JB zao JB) (.seq (.reg JB zan JB) (.seq (.reg JB zam JB) (.seq (.seq (.reg [0,1,4,5,6,8,18] zal JB) (.blk 0 (.loop (.seq (.reg [0,
 1,4,5,6,8,15,16,17] zak JB) (.seq (.cond (.t 18) .skip (.exit 0)) (.seq (.blk 1 (.seq (.reg JB zaj JB) (.reg JB zai JB))) (.reg JB zah JB))))))) (.seq (.reg JB zag JB) .ret))))
abbrev zjz :Nat:=28
theorem zl4 :jU Try.prog Try.f28.ntmps 2 [4] JB [(.tmp 4)] zkB zjz:=jY mix Try.func28 (by kernel_rfl) rfl
def zaf :List zl:=[oZ 4]
def zae :List zl:=[oM 10 0,(none,.mk 11 (.t 10) (.t 10) 1 24 [.slice none 0 0]),oS 5 11]
def zad :List zl:=[oM 12 1,oE 13 12,(none,.r (.mov 14 (.c (.int .i64 0))))]
def zac :List zl:=[oD 15 .lss 14 13]
def zab :List zl:=[oX 16 12 14 2,oT 17 16 2,(none,.alloc 7 [.int .i64 0,.int .i64 0]),oW 7 17 2]
def zaa :Zj:=.take [12,13] (oM 18 5) (.take [2,12,13] (oF 19 7 1) (.take [12,13] (oL 20 19 1) (.take [6,7,11,12,13] (oM 21 5) (.take [5,6,7,11,12,13] (oF 22 7 1) (.take [6,7,11,12,13] (oL 23 22 1) (.take [7,11,12,13] (oX 24 21 23 1) (.take [11,12,13] (oL 25 24 1) (.take [9,10,11,12,13] (oF 26 7 0) (.take [10,
 11,12,13] (oL 27 26 1) (.one 10 (none,.blds 28 1 1 [((0,1),(.t 27,true))] [.int .i64 0]) (.one 11 (none,.app 29 (.t 25) (.t 28) 1 8) (.take [13] (oX 30 18 20 1) (.one 13 (oW 30 29 1) .done)))))))))))))
def O9 :List zl:=[oB 31 .add 14 1,oS 14 31]
def O8 :List zl:=[oM 32 1,oE 33 32,(none,.r (.mov 34 (.c (.int .i64 0))))]
def O7 :List zl:=[oD 35 .lss 34 33]
def O6 :List zl:=[oX 36 32 34 2,oT 37 36 2,(none,.alloc 9 [.int .i64 0,.int .i64 0]),oW 9 37 2]
def V8 :Zj:=.take [12,13] (oM 38 5) (.take [2,12,13] (oF 39 9 0) (.take [12,13] (oL 40 39 1) (.take [6,7,11,12,13] (oM 41 5) (.take [5,6,7,11,12,13] (oF 42 9 0) (.take [6,7,11,12,13] (oL 43 42 1) (.take [7,11,12,13] (oX 44 41 43 1) (.take [11,12,13] (oL 45 44 1) (.take [9,10,11,12,
 13] (oF 46 9 1) (.take [10,11,12,13] (oL 47 46 1) (.one 10 (none,.blds 48 1 1 [((0,1),(.t 47,true))] [.int .i64 0]) (.one 11 (none,.app 49 (.t 45) (.t 48) 1 8) (.take [13] (oX 50 38 40 1) (.one 13 (oW 50 49 1) .done)))))))))))))
def V7 :List zl:=[oB 51 .add 34 1,oS 34 51]
def V6 :List zl:=[oM 52 5,oS 4 52]
def jS :List Nat:=[0,1,4,5,7,9,12,13,14,15,32,33,34,35]
def zkA :zC:=.seq (.reg jS zaf jS) (.seq (.reg jS zae jS) (.seq (.seq (.reg [0,1,4,5,7,9,15,32,33,34,35] zad jS) (.blk 0 (.loop (.seq (.reg [0,1,4,5,7,9,12,13,14,32,33,34,35] zac jS) (.seq (.cond (.t 15) .skip (.exit 0)) (.seq (.blk 1 (.seq (.reg [0,
 1,4,5,9,12,13,14,15,32,33,34,35] zab jS) (.draw jS zaa jS))) (.reg jS O9 jS))))))) (.seq (.seq (.reg [0,1,4,5,7,9,12,13,14,15,35] O8 jS) (.blk 2 (.loop (.seq (.reg [0,1,4,5,7,9,12,13,
 14,15,32,33,34] O7 jS) (.seq (.cond (.t 35) .skip (.exit 2)) (.seq (.blk 3 (.seq (.reg [0,1,4,5,7,12,13,14,15,32,33,34,35] O6 jS) (.draw jS V8 jS))) (.reg jS V7 jS))))))) (.seq (.reg jS V6 jS) .ret))))
abbrev zjy :Nat:=29
theorem zl3 :jU Try.prog Try.f29.ntmps 2 [4] jS [(.tmp 4)] zkA zjy:=jY mix Try.func29 (by kernel_rfl) rfl
def Ua :List zl:=[(none,.box 2 (.t 0)),oO 4]
def wU :List zl:=[oT 10 2 2,oC 11 27 10,(none,.r (.notb 12 (.t 11))),oM 13 12,oK 13 false 14 1,(some (13,false),.r (.len 15 (.t 14))),(some (13,false),.r (.fldA 16 (.t 2) 0)),QZ 13 false 17 16 1,xG 13 false 18 .neq 15 17,oQ 19 13 18]
def u9 :List zl:=[oO 4]
def O5 :List zl:=[oF 20 2 0,oL 21 20 1,(none,.mk 22 (.t 21) (.t 21) 1 1 [.bool false]),oS 5 22]
def O4 :List zl:=[oF 23 2 1,oL 24 23 1,oE 25 24,(none,.r (.mov 26 (.c (.int .i64 0))))]
def u7 :List zl:=[oD 27 .lss 26 25]
def O2 :List zl:=[oX 28 24 26 2,oT 29 28 2,(none,.alloc 7 [.int .i64 0,.int .i64 0]),oW 7 29 2]
def wT :Zj:=.take [3,4,7,8,9,10,11,12,13,14,15,16,17] (oM 30 1) (.take [2,3,4,7,8,9,10,11,12,13,14,15,16,17] (oF 31 7 0) (.take [3,4,7,8,9,10,11,12,13,14,15,16,17] (oL 32 31 1) (.take [4,7,8,9,10,11,12,13,14,15,16,17] (oX 33 30 32 1) (.take [7,8,9,10,11,12,13,14,15,16,17] (oL 34 33 1) (.take [6,
 7,8,9,10,11,12,13,14,15,16,17] (oF 35 7 1) (.take [7,8,9,10,11,12,13,14,15,16,17] (oL 36 35 1) (.take [8,9,10,11,12,13,14,15,16,17] (oD 37 .eql 34 36) (.take [9,10,11,12,13,14,15,16,17] (oM 38 37) (.take [12,13,16,17] (oK 38 true 39 1) (.take [11,12,13,16,17] (some (38,true),.r (.fldA 40 (.t 7) 1)) (.take [12,
 13,16,17] (QZ 38 true 41 40 1) (.take [13,16,17] (some (38,true),.r (.idxA 42 (.t 39) (.t 41) 1)) (.take [16,17] (QZ 38 true 43 42 1) (.take [15,16,17] (some (38,true),.r (.fldA 44 (.t 7) 0)) (.take [16,17] (QZ 38 true 45 44 1) (.take [17] (xG 38 true 46 .eql 43 45) (.take [] (oP 47 38 46) .done)))))))))))))))))
def O1 :Zj:=.take [6,7,8,9] (oM 48 5) (.take [2,6,7,8,9] (oF 49 7 0) (.take [6,7,8,9] (oL 50 49 1) (.take [8,9] (oM 51 5) (.take [5,8,9] (oF 52 7 1) (.take [8,9] (oL 53 52 1) (.take [7,8,9] (oX 54 48 50 1) (.one 7 (none,.st (.t 54) (.c (.bool true)) 1) (.take [9] (oX 55 51 53 1) (.one 9 (none,
 .st (.t 55) (.c (.bool true)) 1) .done)))))))))
def wS :List zl:=[oB 56 .add 26 1,oS 26 56]
def V5 :List zl:=[oM 57 1,oE 58 57,(none,.r (.mov 59 (.c (.int .i64 0))))]
def WP :List zl:=[oD 60 .lss 59 58]
def V4 :List zl:=[oM 61 59,oX 62 57 59 1,oL 63 62 1,oS 8 61,oS 9 63]
def Yi :List zl:=[oM 64 9,(none,.r (.bin 65 .neq 0 (.t 64) (.c (.int .i64 (- (0+1)))))),oM 66 65,oK 66 true 67 5,oK 66 true 68 8,(some (66,true),.r (.idxA 69 (.t 67) (.t 68) 1)),QZ 66 true 70 69 1,(some (66,true),.r (.notb 71 (.t 70))),oP 72 66 71]
def V3 :List zl:=[oO 4]
def WO :List zl:=[oB 73 .add 59 1,oS 59 73]
def V0 :List zl:=[(none,.asg 4 (.c (.bool true)) true)]
def Z9 :List Nat:=[0,1,2,4,5,7,8,9,19,24,25,26,27,47,57,58,59,60,72]
def zg5 :zC:=.seq (.reg [0,1,4,5,7,8,9,19,24,25,26,27,47,57,58,59,60,72] Ua Z9) (.seq (.seq (.reg [0,1,2,4,5,7,8,9,24,25,26,27,47,57,58,59,60,72] wU Z9) (.cond (.t 19) (.seq (.reg Z9 u9 Z9) .ret) .skip)) (.seq (.reg Z9 O5 Z9) (.seq (.seq (.reg [0,
 1,2,4,5,7,8,9,19,27,47,57,58,59,60,72] O4 Z9) (.blk 0 (.loop (.seq (.reg [0,1,2,4,5,7,8,9,19,24,25,26,47,57,58,59,60,72] u7 Z9) (.seq (.cond (.t 27) .skip (.exit 0)) (.seq (.blk 1 (.seq (.reg [0,1,2,4,5,8,9,19,24,25,26,27,47,57,58,59,60,72] O2 Z9) (.seq (.draw [0,
 1,2,4,5,7,8,9,19,24,25,26,27,57,58,59,60,72] wT Z9) (.cond (.t 47) (.draw Z9 O1 Z9) .skip)))) (.reg Z9 wS Z9))))))) (.seq (.seq (.reg [0,1,2,4,5,7,8,9,19,24,25,26,27,47,60,72] V5 Z9) (.blk 2 (.loop (.seq (.reg [0,
 1,2,4,5,7,8,9,19,24,25,26,27,47,57,58,59,72] WP Z9) (.seq (.cond (.t 60) .skip (.exit 2)) (.seq (.blk 3 (.seq (.reg Z9 V4 Z9) (.seq (.reg [0,1,2,4,5,7,8,9,19,24,25,26,27,47,57,58,59,60] Yi Z9) (.cond (.t 72) (.seq (.reg Z9 V3 Z9) .ret) .skip)))) (.reg Z9 WO Z9))))))) (.seq (.reg Z9 V0 Z9) .ret)))))
abbrev zcM :Nat:=31
theorem zgA :jU Try.prog Try.f31.ntmps 2 [4] Z9 [(.tmp 4)] zg5 zcM:=jY mix Try.func31 (by kernel_rfl) rfl
def OZ :List zl:=[(none,.box 1 (.t 0)),oZ 2,oZ 3,oI 4 0]
def OY :List zl:=[oT 11 1 2,oC 12 23 11,oM 10 12,oY 13 10 0,oY 14 10 1,oY 15 10 2,(none,.alloc 6 [.int .i64 0,.int .i64 0]),oS 5 13,oW 6 14 2,oS 7 15]
def u6 :List zl:=[oM 16 7,oB 17 .neq 16 0]
def zg4 :List zl:=[oM 18 7,oZ 2,oZ 3,oS 4 18]
def u5 :List zl:=[oT 20 1 2,oM 21 5,qJ 22 50 20 21,oM 19 22,oY 23 19 0,oY 24 19 1,oY 25 19 2,oS 8 23,oS 9 24,oS 7 25]
def u4 :List zl:=[oM 26 9,oM 27 5,oM 28 7,oS 2 26,oS 3 27,oS 4 28]
def QY :List Nat:=[0,1,2,3,4,5,7,8,9,17]
def zkz :zC:=.seq (.reg [0,2,3,4,5,7,8,9,17] OZ QY) (.seq (.reg QY OY QY) (.seq (.seq (.reg [0,1,2,3,4,5,7,8,9] u6 QY) (.cond (.t 17) (.seq (.reg QY zg4 QY) .ret) .skip)) (.seq (.reg QY u5 QY) (.seq (.reg QY u4 QY) .ret))))
abbrev zjx :Nat:=32
theorem zl2 :jU Try.prog Try.f32.ntmps 1 [2,3,4] QY [(.tmp 2),(.tmp 3),(.tmp 4)] zkz zjx:=jY mix Try.func32 (by kernel_rfl) rfl
def OX :List zl:=[oZ 4]
def OW :List zl:=[oZ 5]
def OV :List zl:=[oM 8 0,oE 9 8,(none,.r (.mov 10 (.c (.int .i64 0))))]
def u0 :List zl:=[oD 11 .lss 10 9]
def OU :List zl:=[oM 12 10,oX 13 8 10 1,oL 14 13 1,oS 6 12,oS 7 14]
def uZ :List zl:=[oM 15 7,oM 16 1,oD 17 .eql 15 16]
def OT :List zl:=[oM 18 5,oM 19 6,(none,.blds 20 1 1 [((0,1),(.t 19,true))] [.int .i64 0]),(none,.app 21 (.t 18) (.t 20) 1 8),oS 5 21]
def uY :List zl:=[oB 22 .add 10 1,oS 10 22]
def OS :List zl:=[oM 23 5,oS 4 23]
def JO :List Nat:=[0,1,4,5,6,7,8,9,10,11,17]
def zky :zC:=.seq (.reg JO OX JO) (.seq (.reg JO OW JO) (.seq (.seq (.reg [0,1,4,5,6,7,11,17] OV JO) (.blk 0 (.loop (.seq (.reg [0,1,4,5,6,7,8,9,10,17] u0 JO) (.seq (.cond (.t 11) .skip (.exit 0)) (.seq (.blk 1 (.seq (.reg JO OU JO) (.seq (.reg [0,
 1,4,5,6,7,8,9,10,11] uZ JO) (.cond (.t 17) (.reg JO OT JO) .skip)))) (.reg JO uY JO))))))) (.seq (.reg JO OS JO) .ret)))
abbrev zjw :Nat:=33
theorem zl1 :jU Try.prog Try.f33.ntmps 2 [4] JO [(.tmp 4)] zky zjw:=jY mix Try.func33 (by kernel_rfl) rfl
def OR :List zl:=[(none,.box 1 (.t 0)),oO 2]
def yM :List zl:=[oF 5 1 0,oL 6 5 1,oB 7 .lss 6 0,oM 8 7,(some (8,false),.r (.fldA 9 (.t 1) 0)),QZ 8 false 10 9 1,kQ 8 false 11 .gtr 10 4096,oQ 12 8 11,oM 13 12,(some (13,false),.r (.fldA 14 (.t 1) 1)),QZ 13 false 15 14 1,(some (13,false),.r (.len 16 (.t 15))),kQ 13 false 17 .gtr 16 65536,
 oQ 18 13 17]
def wR :List zl:=[oO 2]
def OQ :List zl:=[oI 3 0]
def OP :List zl:=[oM 19 3,oF 20 1 1,oL 21 20 1,oE 22 21,oD 23 .lss 19 22]
def OO :List zl:=[oF 26 1 1,oL 27 26 1,oM 28 3,oX 29 27 28 2,oT 30 29 2,(none,.alloc 4 [.int .i64 0,.int .i64 0]),oW 4 30 2]
def yL :List zl:=[oF 31 4 0,oL 32 31 1,oB 33 .lss 32 0,oM 34 33,(some (34,false),.r (.fldA 35 (.t 4) 0)),QZ 34 false 36 35 1,(some (34,false),.r (.fldA 37 (.t 4) 1)),QZ 34 false 38 37 1,xG 34 false 39 .geq 36 38,oQ 40 34 39,oM 41 40,(some (41,false),.r (.fldA 42 (.t 4) 1)),
 QZ 41 false 43 42 1,(some (41,false),.r (.fldA 44 (.t 1) 0)),QZ 41 false 45 44 1,xG 41 false 46 .geq 43 45,oQ 47 41 46]
def wQ :List zl:=[oO 2]
def uX :Zj:=.take [1,2,3,4,5,6,7,8,9,10,11,12] (oM 48 3) (.take [2,3,4,5,6,7,8,9,10,11,12] (oB 49 .gtr 48 0) (.take [3,4,5,6,7,8,9,10,11,12] (oM 50 49) (.take [4,7,8,10,11,12] (some (50,true),.r (.fldA 51 (.t 1) 1)) (.take [7,8,10,11,12] (QZ 50 true 52 51 1) (.take [6,7,8,10,
 11,12] (oK 50 true 53 3) (.take [7,8,10,11,12] (kQ 50 true 54 .sub 53 1) (.take [8,10,11,12] (some (50,true),.r (.idxA 55 (.t 52) (.t 54) 2)) (.take [10,11,12] (some (50,true),.r (.ld 56 (.t 55) 2 true)) (.take [10,11,12] (some (50,true),.r (.ld 57 (.t 4) 2 true)) (.one 10 (some (50,true),.call 58 (.f 51) [(.t 56,
 false),(.t 57,false)]) (.take [12] (some (50,true),.r (.notb 59 (.t 58))) (.take [] (oP 60 50 59) .done))))))))))))
def ON :List zl:=[oO 2]
def WN :List zl:=[oM 24 3,oB 25 .add 24 1,oS 3 25]
def VZ :List zl:=[(none,.asg 2 (.c (.bool true)) true)]
def Je :List Nat:=[0,1,2,3,4,18,23,47,60]
def zkx :zC:=.seq (.reg [0,2,3,4,18,23,47,60] OR Je) (.seq (.seq (.reg [0,1,2,3,4,23,47,60] yM Je) (.cond (.t 18) (.seq (.reg Je wR Je) .ret) .skip)) (.seq (.seq (.reg Je OQ Je) (.blk 0 (.loop (.seq (.seq (.reg [0,
 1,2,3,4,18,47,60] OP Je) (.cond (.t 23) .skip (.exit 0))) (.seq (.blk 1 (.seq (.reg [0,1,2,3,18,23,47,60] OO Je) (.seq (.seq (.reg [0,1,2,3,4,18,23,60] yL Je) (.cond (.t 47) (.seq (.reg Je wQ Je) .ret) .skip)) (.seq (.draw [0,
 1,2,3,4,18,23,47] uX Je) (.cond (.t 60) (.seq (.reg Je ON Je) .ret) .skip))))) (.reg Je WN Je)))))) (.seq (.reg Je VZ Je) .ret)))
abbrev zjv :Nat:=34
theorem zl0 :jU Try.prog Try.f34.ntmps 1 [2] Je [(.tmp 2)] zkx zjv:=jY mix Try.func34 (by kernel_rfl) rfl
def OM :List zl:=[(none,.box 2 (.t 0)),oO 4]
def uW :List zl:=[oM 5 1,oB 6 .geq 5 0,oM 7 6,oK 7 true 8 1,(some (7,true),.r (.fldA 9 (.t 2) 0)),QZ 7 true 10 9 1,xG 7 true 11 .lss 8 10,oP 12 7 11,oS 4 12]
def Kr :List Nat:=[0,1,2,4]
def zkw :zC:=.seq (.reg [0,1,4] OM Kr) (.seq (.reg Kr uW Kr) .ret)
abbrev zju :Nat:=35
theorem zlZ :jU Try.prog Try.f35.ntmps 2 [4] Kr [(.tmp 4)] zkw zju:=jY mix Try.func35 (by kernel_rfl) rfl
def OL :List zl:=[oO 4]
def OK :List zl:=[oI 5 0]
def OJ :List zl:=[oM 6 5,oM 7 0,oE 8 7,oD 9 .lss 6 8]
def OH :List zl:=[oM 12 0,oM 13 5,oX 14 12 13 1,oL 15 14 1,oM 16 1,oD 17 .eql 15 16]
def OG :List zl:=[(none,.asg 4 (.c (.bool true)) true)]
def OF :List zl:=[oM 10 5,oB 11 .add 10 1,oS 5 11]
def OE :List zl:=[oO 4]
def qA :List Nat:=[0,1,4,5,9,17]
def zkv :zC:=.seq (.reg qA OL qA) (.seq (.seq (.reg qA OK qA) (.blk 0 (.loop (.seq (.seq (.reg [0,1,4,5,17] OJ qA) (.cond (.t 9) .skip (.exit 0))) (.seq (.blk 1 (.seq (.reg [0,
 1,4,5,9] OH qA) (.cond (.t 17) (.seq (.reg qA OG qA) .ret) .skip))) (.reg qA OF qA)))))) (.seq (.reg qA OE qA) .ret))
abbrev zjt :Nat:=36
theorem zlY :jU Try.prog Try.f36.ntmps 2 [4] qA [(.tmp 4)] zkv zjt:=jY mix Try.func36 (by kernel_rfl) rfl
def OD :List zl:=[(none,.box 2 (.t 0)),oI 4 0]
def OC :List zl:=[oI 5 0]
def OB :List zl:=[oT 8 2 2,oM 9 1,qJ 10 52 8 9,oS 6 10]
def OA :List zl:=[oI 7 0]
def Oz :List zl:=[oM 11 7,oM 12 6,oE 13 12,oD 14 .lss 11 13]
def Oy :List zl:=[oM 17 5,oM 18 6,oM 19 7,oX 20 18 19 1,oL 21 20 1,oE 22 21,oB 23 .rem 22 2,oD 24 .add 17 23,oS 5 24]
def Ox :List zl:=[oM 15 7,oB 16 .add 15 1,oS 7 16]
def Ow :List zl:=[oM 25 5,oS 4 25]
def J2 :List Nat:=[0,1,2,4,5,6,7,14]
def zku :zC:=.seq (.reg [0,1,4,5,6,7,14] OD J2) (.seq (.reg J2 OC J2) (.seq (.reg J2 OB J2) (.seq (.seq (.reg J2 OA J2) (.blk 0 (.loop (.seq (.seq (.reg [0,
 1,2,4,5,6,7] Oz J2) (.cond (.t 14) .skip (.exit 0))) (.seq (.blk 1 (.reg J2 Oy J2)) (.reg J2 Ox J2)))))) (.seq (.reg J2 Ow J2) .ret))))
abbrev zjs :Nat:=37
theorem zlX :jU Try.prog Try.f37.ntmps 2 [4] J2 [(.tmp 4)] zku zjs:=jY mix Try.func37 (by kernel_rfl) rfl
def Ov :List zl:=[(none,.box 1 (.t 0)),oZ 2]
def Ou :List zl:=[oF 12 1 0,oL 13 12 1,(none,.mk 14 (.t 13) (.t 13) 1 8 [.int .i64 0]),oS 3 14]
def Ot :List zl:=[oI 4 0]
def uV :List zl:=[oM 15 4,oF 16 1 1,oL 17 16 1,oE 18 17,oD 19 .lss 15 18]
def Oq :Zj:=.take [1,3,4,5,12,13] (oF 22 1 1) (.take [3,4,5,12,13] (oL 23 22 1) (.take [3,4,5,12,13] (oM 24 4) (.take [4,5,12,13] (oX 25 23 24 2) (.take [5,12,13] (oF 26 25 0) (.take [12,13] (oL 27 26 1) (.take [7,9,10,11,13] (oF 28 1 1) (.take [9,10,11,13] (oL 29 28 1) (.take [9,
 10,11,13] (oM 30 4) (.take [10,11,13] (oX 31 29 30 2) (.take [11,13] (oF 32 31 1) (.take [13] (oL 33 32 1) (.one 12 (oS 5 27) (.one 13 (oS 6 33) .done)))))))))))))
def Oo :List zl:=[oM 34 3,oM 35 5,oM 36 3,oM 37 5,oX 38 36 37 1,oL 39 38 1,oM 40 6,(none,.r (.conv 41 .u64 (.t 40))),(none,.r (.bin 42 .shl 0 (.c (.int .i64 1)) (.t 41))),oD 43 .or 39 42,oX 44 34 35 1,oW 44 43 1]
def Om :List zl:=[oM 45 3,oM 46 6,oM 47 3,oM 48 6,oX 49 47 48 1,oL 50 49 1,oM 51 5,(none,.r (.conv 52 .u64 (.t 51))),(none,.r (.bin 53 .shl 0 (.c (.int .i64 1)) (.t 52))),oD 54 .or 50 53,oX 55 45 46 1,oW 55 54 1]
def Ol :List zl:=[oM 20 4,oB 21 .add 20 1,oS 4 21]
def Ok :List zl:=[oF 56 1 0,oL 57 56 1,(none,.r (.conv 58 .u64 (.t 57))),(none,.r (.bin 59 .shl 0 (.c (.int .i64 1)) (.t 58))),(none,.mk 60 (.t 59) (.t 59) 1 8 [.int .i64 0]),oS 7 60]
def Oj :List zl:=[oI 8 1]
def WM :List zl:=[oM 61 8,oM 62 7,oE 63 62,oD 64 .lss 61 63]
def VY :List zl:=[oI 9 0]
def WL :List zl:=[oM 67 8,oM 68 9,(none,.r (.conv 69 .u64 (.t 68))),oD 70 .shr 67 69,oB 71 .and 70 1,oB 72 .eql 71 0]
def VX :List zl:=[oM 73 9,oB 74 .add 73 1,oS 9 74]
def VW :List zl:=[oM 75 8,oM 76 8,oB 77 .sub 76 1,oD 78 .and 75 77,oS 10 78]
def VV :List zl:=[oM 79 7,oM 80 8,oM 81 7,oM 82 10,oX 83 81 82 1,oL 84 83 1,oX 85 79 80 1,oW 85 84 1]
def VU :List zl:=[oM 86 9,oB 87 .add 86 1,oS 11 87]
def WK :List zl:=[oM 88 11,oF 89 1 0,oL 90 89 1,oD 91 .lss 88 90]
def Yh :List zl:=[oM 94 10,oM 95 11,(none,.r (.conv 96 .u64 (.t 95))),oD 97 .shr 94 96,oB 98 .and 97 1,oB 99 .eql 98 1,oM 100 99,oK 100 true 101 3,oK 100 true 102 9,(some (100,true),.r (.idxA 103 (.t 101) (.t 102) 1)),QZ 100 true 104 103 1,oK 100 true 105 11,(some (100,true),
 .r (.conv 106 .u64 (.t 105))),xG 100 true 107 .shr 104 106,kQ 100 true 108 .and 107 1,kQ 100 true 109 .eql 108 1,oP 110 100 109]
def VT :Zj:=.take [16,17] (oM 111 7) (.take [16,17] (oM 112 8) (.take [4,5,15,16,17] (oM 113 7) (.take [4,5,15,16,17] (oM 114 8) (.take [5,15,16,17] (oX 115 113 114 1) (.take [15,16,17] (oL 116 115 1) (.take [12,13,14,15,16,17] (oM 117 7) (.take [11,12,13,14,15,16,17] (oM 118 10) (.take [9,
 10,11,12,13,14,15,16,17] (oM 119 11) (.take [10,11,12,13,14,15,16,17] (none,.r (.conv 120 .u64 (.t 119))) (.take [11,12,13,14,15,16,17] (none,.r (.bin 121 .shl 0 (.c (.int .i64 1)) (.t 120))) (.take [12,13,14,15,16,17] (oD 122 .andNot 118 121) (.take [13,14,15,16,17] (oX 123 117 122 1) (.take [14,15,
 16,17] (oL 124 123 1) (.take [15,16,17] (none,.r (.bin 125 .add 0 (.c (.int .i64 1)) (.t 124))) (.take [16,17] (none,.r (.mm 126 true (.t 116) (.t 125))) (.take [17] (oX 127 111 112 1) (.one 17 (oW 127 126 1) .done)))))))))))))))))
def Yg :List zl:=[oM 92 11,oB 93 .add 92 1,oS 11 93]
def VS :List zl:=[oM 65 8,oB 66 .add 65 1,oS 8 66]
def VR :List zl:=[oM 128 7,oS 2 128]
def Zr :List Nat:=[0,1,2,3,4,5,6,7,8,9,10,11,19,64,72,91,110]
def zkt :zC:=.seq (.reg [0,2,3,4,5,6,7,8,9,10,11,19,64,72,91,110] Ov Zr) (.seq (.reg Zr Ou Zr) (.seq (.seq (.reg Zr Ot Zr) (.blk 0 (.loop (.seq (.seq (.reg [0,
 1,2,3,4,5,6,7,8,9,10,11,64,72,91,110] uV Zr) (.cond (.t 19) .skip (.exit 0))) (.seq (.blk 1 (.seq (.draw Zr Oq Zr) (.seq (.reg Zr Oo Zr) (.reg Zr Om Zr)))) (.reg Zr Ol Zr)))))) (.seq (.reg Zr Ok Zr) (.seq (.seq (.reg Zr Oj Zr) (.blk 2 (.loop (.seq (.seq (.reg [0,
 1,2,3,4,5,6,7,8,9,10,11,19,72,91,110] WM Zr) (.cond (.t 64) .skip (.exit 2))) (.seq (.blk 3 (.seq (.reg Zr VY Zr) (.seq (.blk 4 (.loop (.seq (.seq (.reg [0,1,2,3,4,5,6,7,8,9,10,11,19,64,91,110] WL Zr) (.cond (.t 72) .skip (.exit 4))) (.blk 5 (.reg Zr VX Zr))))) (.seq (.reg Zr VW Zr) (.seq (.reg Zr VV Zr) (.seq (.reg Zr VU Zr) (.blk 6 (.loop (.seq (.seq (.reg [0,
 1,2,3,4,5,6,7,8,9,10,11,19,64,72,110] WK Zr) (.cond (.t 91) .skip (.exit 6))) (.seq (.blk 7 (.seq (.reg [0,1,2,3,4,5,6,7,8,9,10,11,19,64,72,91] Yh Zr) (.cond (.t 110) (.draw Zr VT Zr) .skip))) (.reg Zr Yg Zr))))))))))) (.reg Zr VS Zr)))))) (.seq (.reg Zr VR Zr) .ret)))))
abbrev zjr :Nat:=38
theorem zlW :jU Try.prog Try.f38.ntmps 1 [2] Zr [(.tmp 2)] zkt zjr:=jY mix Try.func38 (by kernel_rfl) rfl
def Oh :List zl:=[(none,.box 1 (.t 0)),oZ 2]
def Og :List zl:=[oT 8 1 2,oC 9 53 8,(none,.bld 10 [((0,1),(.t 9,true))] [.slice none 0 0]),(none,.alloc 3 [.slice none 0 0]),oW 3 10 1]
def uU :List zl:=[oF 11 3 0,oL 12 11 1,oE 13 12,oB 14 .eql 13 0]
def Oe :List zl:=[oZ 2]
def Od :List zl:=[oF 15 1 0,oL 16 15 1,oF 17 1 1,oL 18 17 1,qJ 19 29 16 18,oS 4 19]
def Oc :List zl:=[oF 20 3 0,oL 21 20 1,oE 22 21,(none,.r (.mov 23 (.c (.int .i64 0))))]
def uT :List zl:=[oD 24 .lss 23 22]
def Ob :List zl:=[oM 25 23,oS 5 25]
def uS :List zl:=[oT 26 3 1,oM 27 5,qJ 28 54 26 27,(none,.r (.notb 29 (.t 28)))]
def Oa :Zj:=.take [2,3,6,7] (oM 30 4) (.take [2,3,6,7] (oM 31 5) (.take [3,6,7] (oX 32 30 31 1) (.take [6,7] (oL 33 32 1) (.take [5,6,7] (oT 34 3 1) (.one 5 (none,.mkfn 35 (.func 54) [(.t 34,false)] []) (.one 6 (qJ 36 55 33 35) (.one 7 (oS 6 36) .done)))))))
def WH :List zl:=[oM 37 6,oB 38 .geq 37 0]
def VQ :List zl:=[oM 39 4,oM 40 5,oX 41 39 40 1,oL 42 41 1,oM 43 6,oX 44 42 43 1,oL 45 44 1,oS 7 45]
def VP :Zj:=.take [1,8,9,10,11] (oF 46 3 0) (.take [8,9,10,11] (oL 47 46 1) (.take [8,9,10,11] (oM 48 5) (.take [4,10,11] (oF 49 3 0) (.take [10,11] (oL 50 49 1) (.take [10,11] (oM 51 7) (.take [8,9,10,11] (oM 52 7) (.take [10,11] (oM 53 5) (.take [9,10,11] (oX 54 47 48 1) (.one 9 (oW 54 52 1) (.take [11] (oX 55 50 51 1) (.one 11 (oW 55 53 1) .done)))))))))))
def Yf :List zl:=[oB 56 .add 23 1,oS 23 56]
def VO :List zl:=[oF 57 3 0,oL 58 57 1,oS 2 58]
def jp :List Nat:=[0,1,2,3,4,5,6,7,14,22,23,24,29,38]
def zks :zC:=.seq (.reg [0,2,3,4,5,6,7,14,22,23,24,29,38] Oh jp) (.seq (.reg [0,1,2,4,5,6,7,14,22,23,24,29,38] Og jp) (.seq (.seq (.reg [0,1,2,3,4,5,6,7,22,23,24,29,38] uU jp) (.cond (.t 14) (.seq (.reg jp Oe jp) .ret) .skip)) (.seq (.reg jp Od jp) (.seq (.seq (.reg [0,
 1,2,3,4,5,6,7,14,24,29,38] Oc jp) (.blk 0 (.loop (.seq (.reg [0,1,2,3,4,5,6,7,14,22,23,29,38] uT jp) (.seq (.cond (.t 24) .skip (.exit 0)) (.seq (.blk 1 (.seq (.reg jp Ob jp) (.seq (.seq (.reg [0,1,2,3,4,5,6,
 7,14,22,23,24,38] uS jp) (.cond (.t 29) (.exit 1) .skip)) (.seq (.draw jp Oa jp) (.seq (.reg [0,1,2,3,4,5,6,7,14,22,23,24,29] WH jp) (.cond (.t 38) (.seq (.reg jp VQ jp) (.draw jp VP jp)) .skip)))))) (.reg jp Yf jp))))))) (.seq (.reg jp VO jp) .ret)))))
abbrev zjq :Nat:=39
theorem zlV :jU Try.prog Try.f39.ntmps 1 [2] jp [(.tmp 2)] zks zjq:=jY mix Try.func39 (by kernel_rfl) rfl
def uR :List zl:=[oZ 4,(none,.alloc 5 [.int .i64 0,.int .i64 0])]
def uQ :List zl:=[(none,.alloc 6 [.int .i64 0,.int .i64 0])]
def uP :List zl:=[oM 11 0,oM 12 1,qJ 13 56 11 12,oM 10 13,oY 14 10 0,oY 15 10 1,oY 16 10 2,oS 7 14,oS 8 15,oS 9 16]
def wP :List zl:=[oF 17 6 0,oL 18 17 1,oB 19 .add 18 1,oF 20 6 1,oL 21 20 1,oM 22 9,(none,.r (.mm 23 true (.t 21) (.t 22))),(none,.bld 24 [((0,1),(.t 19,true)),((1,1),(.t 23,true))] [.int .i64 0,.int .i64 0]),oW 6 24 2]
def wO :List zl:=[oM 25 7,(none,.r (.bin 26 .eql 3 (.t 25) (.c (.slice none 0 0))))]
def uO :Zj:=.take [2,3] (oM 27 8) (.take [3] (oT 28 6 2) (.one 2 (oS 4 27) (.one 3 (oW 5 28 2) .done)))
def o9 :List zl:=[oM 29 1,oM 30 7,qJ 31 57 29 30]
def qz :List Nat:=[0,1,4,5,6,7,8,9,26]
def zg3 :zC:=.seq (.reg [0,1,4,6,7,8,9,26] uR qz) (.seq (.reg [0,1,4,5,7,8,9,26] uQ qz) (.blk 0 (.loop (.blk 1 (.seq (.reg qz uP qz) (.seq (.reg qz wP qz) (.seq (.seq (.reg [0,
 1,4,5,6,7,8,9] wO qz) (.cond (.t 26) (.seq (.draw qz uO qz) .ret) .skip)) (.reg qz o9 qz))))))))
abbrev zf7 :Nat:=40
theorem zgz :jU Try.prog Try.f40.ntmps 2 [4] qz [(.tmp 4),(.cell 5 2 true)] zg3 zf7:=jY mix Try.func40 (by kernel_rfl) rfl
def o8 :List zl:=[(none,.box 3 (.t 0)),oO 6]
def o7 :List zl:=[oT 7 3 2,oM 8 1,oM 9 2,oC3 10 58 7 8 9,oB 11 .geq 10 0,oS 6 11]
def Kq :List Nat:=[0,1,2,3,6]
def zkr :zC:=.seq (.reg [0,1,2,6] o8 Kq) (.seq (.reg Kq o7 Kq) .ret)
abbrev zjp :Nat:=42
theorem zlU :jU Try.prog Try.f42.ntmps 3 [6] Kq [(.tmp 6)] zkr zjp:=jY mix Try.func42 (by kernel_rfl) rfl
def o0 :List zl:=[(none,.box 3 (.t 1)),oZ 4]
def oV :List zl:=[oM 6 0,oE 7 6,oS 5 7]
def uM :Zj:=.take [1,2,3,4,5,6,7,8,9,10] (oM 8 5) (.take [2,3,4,5,6,7,8,9,10] (oB 9 .gtr 8 0) (.take [3,4,5,6,7,8,9,10] (oM 10 9) (.take [9,10] (some (10,true),.r (.ld 11 (.t 3) 2 true)) (.take [7,8,9,10] (oK 10 true 12 0) (.take [6,7,8,9,10] (oK 10 true 13 5) (.take [7,8,9,10] (kQ 10 true 14 .sub 13 1) (.take [8,
 9,10] (some (10,true),.r (.idxA 15 (.t 12) (.t 14) 2)) (.take [9,10] (some (10,true),.r (.ld 16 (.t 15) 2 true)) (.one 9 (some (10,true),.call 17 (.f 51) [(.t 11,false),(.t 16,false)]) (.take [] (oP 18 10 17) .done))))))))))
def oU :List zl:=[oM 19 5,oB 20 .sub 19 1,oS 5 20]
def oR :Zj:=.take [2,3,6,10,11] (oM 21 0) (.take [2,3,6,10,11] (oM 22 5) (.take [5,6,10,11] (oT 25 3 2) (.take [9,10,11] (oM 28 0) (.take [9,10,11] (oM 29 5) (.three 2 (none,.slc 23 (.t 21) none (some (.t 22)) 2) (.three 3 (none,.app 24 (.c (.slice none 0 0)) (.t 23) 2 16) (.two 5 (none,
 .blds 26 1 2 [((0,2),(.t 25,true))] [.int .i64 0,.int .i64 0]) (.two 6 (none,.app 27 (.t 24) (.t 26) 2 16) (.one 9 (none,.slc 30 (.t 28) (some (.t 29)) none 2) (.one 10 (none,.app 31 (.t 27) (.t 30) 2 16) (.one 11 (oS 4 31) .done))) 9 (none,.slc 30 (.t 28) (some (.t 29)) none 2) (.one 6 (none,.app 27 (.t 24) (.t 26) 2 16) (.one 10 (none,
 .app 31 (.t 27) (.t 30) 2 16) (.one 11 (oS 4 31) .done)))) 9 (none,.slc 30 (.t 28) (some (.t 29)) none 2) (.one 5 (none,.blds 26 1 2 [((0,2),(.t 25,true))] [.int .i64 0,.int .i64 0]) (.one 6 (none,.app 27 (.t 24) (.t 26) 2 16) (.one 10 (none,.app 31 (.t 27) (.t 30) 2 16) (.one 11 (oS 4 31) .done))))) 5 (none,
 .blds 26 1 2 [((0,2),(.t 25,true))] [.int .i64 0,.int .i64 0]) (.two 3 (none,.app 24 (.c (.slice none 0 0)) (.t 23) 2 16) (.two 6 (none,.app 27 (.t 24) (.t 26) 2 16) (.one 9 (none,.slc 30 (.t 28) (some (.t 29)) none 2) (.one 10 (none,.app 31 (.t 27) (.t 30) 2 16) (.one 11 (oS 4 31) .done))) 9 (none,.slc 30 (.t 28) (some (.t 29)) none 2) (.one 6 (none,
 .app 27 (.t 24) (.t 26) 2 16) (.one 10 (none,.app 31 (.t 27) (.t 30) 2 16) (.one 11 (oS 4 31) .done)))) 9 (none,.slc 30 (.t 28) (some (.t 29)) none 2) (.one 3 (none,.app 24 (.c (.slice none 0 0)) (.t 23) 2 16) (.one 6 (none,.app 27 (.t 24) (.t 26) 2 16) (.one 10 (none,.app 31 (.t 27) (.t 30) 2 16) (.one 11 (oS 4 31) .done))))) 9 (none,
 .slc 30 (.t 28) (some (.t 29)) none 2) (.two 3 (none,.app 24 (.c (.slice none 0 0)) (.t 23) 2 16) (.one 5 (none,.blds 26 1 2 [((0,2),(.t 25,true))] [.int .i64 0,.int .i64 0]) (.one 6 (none,.app 27 (.t 24) (.t 26) 2 16) (.one 10 (none,.app 31 (.t 27) (.t 30) 2 16) (.one 11 (oS 4 31) .done)))) 5 (none,
 .blds 26 1 2 [((0,2),(.t 25,true))] [.int .i64 0,.int .i64 0]) (.one 3 (none,.app 24 (.c (.slice none 0 0)) (.t 23) 2 16) (.one 6 (none,.app 27 (.t 24) (.t 26) 2 16) (.one 10 (none,.app 31 (.t 27) (.t 30) 2 16) (.one 11 (oS 4 31) .done)))))) 5 (none,.blds 26 1 2 [((0,2),(.t 25,true))] [.int .i64 0,.int .i64 0]) (.two 2 (none,
 .slc 23 (.t 21) none (some (.t 22)) 2) (.two 3 (none,.app 24 (.c (.slice none 0 0)) (.t 23) 2 16) (.two 6 (none,.app 27 (.t 24) (.t 26) 2 16) (.one 9 (none,.slc 30 (.t 28) (some (.t 29)) none 2) (.one 10 (none,.app 31 (.t 27) (.t 30) 2 16) (.one 11 (oS 4 31) .done))) 9 (none,.slc 30 (.t 28) (some (.t 29)) none 2) (.one 6 (none,
 .app 27 (.t 24) (.t 26) 2 16) (.one 10 (none,.app 31 (.t 27) (.t 30) 2 16) (.one 11 (oS 4 31) .done)))) 9 (none,.slc 30 (.t 28) (some (.t 29)) none 2) (.one 3 (none,.app 24 (.c (.slice none 0 0)) (.t 23) 2 16) (.one 6 (none,.app 27 (.t 24) (.t 26) 2 16) (.one 10 (none,.app 31 (.t 27) (.t 30) 2 16) (.one 11 (oS 4 31) .done))))) 9 (none,
 .slc 30 (.t 28) (some (.t 29)) none 2) (.one 2 (none,.slc 23 (.t 21) none (some (.t 22)) 2) (.one 3 (none,.app 24 (.c (.slice none 0 0)) (.t 23) 2 16) (.one 6 (none,.app 27 (.t 24) (.t 26) 2 16) (.one 10 (none,.app 31 (.t 27) (.t 30) 2 16) (.one 11 (oS 4 31) .done)))))) 9 (none,.slc 30 (.t 28) (some (.t 29)) none 2) (.two 2 (none,
 .slc 23 (.t 21) none (some (.t 22)) 2) (.two 3 (none,.app 24 (.c (.slice none 0 0)) (.t 23) 2 16) (.one 5 (none,.blds 26 1 2 [((0,2),(.t 25,true))] [.int .i64 0,.int .i64 0]) (.one 6 (none,.app 27 (.t 24) (.t 26) 2 16) (.one 10 (none,.app 31 (.t 27) (.t 30) 2 16) (.one 11 (oS 4 31) .done)))) 5 (none,
 .blds 26 1 2 [((0,2),(.t 25,true))] [.int .i64 0,.int .i64 0]) (.one 3 (none,.app 24 (.c (.slice none 0 0)) (.t 23) 2 16) (.one 6 (none,.app 27 (.t 24) (.t 26) 2 16) (.one 10 (none,.app 31 (.t 27) (.t 30) 2 16) (.one 11 (oS 4 31) .done))))) 5 (none,.blds 26 1 2 [((0,2),(.t 25,true))] [.int .i64 0,.int .i64 0]) (.one 2 (none,
 .slc 23 (.t 21) none (some (.t 22)) 2) (.one 3 (none,.app 24 (.c (.slice none 0 0)) (.t 23) 2 16) (.one 6 (none,.app 27 (.t 24) (.t 26) 2 16) (.one 10 (none,.app 31 (.t 27) (.t 30) 2 16) (.one 11 (oS 4 31) .done)))))))))))
def Yt :List Nat:=[0,1,3,4,5,18]
def zkq :zC:=.seq (.reg [0,1,4,5,18] o0 Yt) (.seq (.reg Yt oV Yt) (.seq (.blk 0 (.loop (.seq (.seq (.draw [0,1,3,4,5] uM Yt) (.cond (.t 18) .skip (.exit 0))) (.blk 1 (.reg Yt oU Yt))))) (.seq (.draw Yt oR Yt) .ret)))
abbrev zf6 :Nat:=43
theorem zlT :jU Try.prog Try.f43.ntmps 2 [4] Yt [(.tmp 4)] zkq zf6:=jY mix Try.func43 (by kernel_rfl) rfl
def oJ :List zl:=[(none,.alloc 4 [.int .i64 0,.int .i64 0])]
def oH :List zl:=[oM 5 0,oM 6 1,oD 7 .gtr 5 6]
def oG :List zl:=[oM 8 1,oM 9 0,(none,.bld 10 [((0,1),(.t 8,true)),((1,1),(.t 9,true))] [.int .i64 0,.int .i64 0]),oW 4 10 2]
def oA :List zl:=[oM 11 0,oM 12 1,(none,.bld 13 [((0,1),(.t 11,true)),((1,1),(.t 12,true))] [.int .i64 0,.int .i64 0]),oW 4 13 2]
def W7 :List Nat:=[0,1,4,7]
def zkp :zC:=.seq (.reg [0,1,7] oJ W7) (.seq (.seq (.reg [0,1,4] oH W7) (.cond (.t 7) (.seq (.reg W7 oG W7) .ret) .skip)) (.seq (.reg W7 oA W7) .ret))
abbrev zjo :Nat:=44
theorem zlS :jU Try.prog Try.f44.ntmps 2 [] W7 [(.cell 4 2 true)] zkp zjo:=jY mix Try.func44 (by kernel_rfl) rfl
def oz :List zl:=[oZ 4]
def ou :List zl:=[oZ 5]
def ot :List zl:=[oM 7 0,oE 8 7,(none,.r (.mov 9 (.c (.int .i64 0))))]
def oq :List zl:=[oD 10 .lss 9 8]
def oo :List zl:=[oM 11 9,oS 6 11]
def om :List zl:=[oM 12 1,oM 13 0,oM 14 6,(none,.call 15 (.t 12) [(.t 13,false),(.t 14,false)])]
def oh :List zl:=[oM 16 5,oM 17 6,(none,.blds 18 1 1 [((0,1),(.t 17,true))] [.int .i64 0]),(none,.app 19 (.t 16) (.t 18) 1 8),oS 5 19]
def uL :List zl:=[oB 20 .add 9 1,oS 9 20]
def og :List zl:=[oM 21 5,oS 4 21]
def JN :List Nat:=[0,1,4,5,6,8,9,10,15]
def zko :zC:=.seq (.reg JN oz JN) (.seq (.reg JN ou JN) (.seq (.seq (.reg [0,1,4,5,6,10,15] ot JN) (.blk 0 (.loop (.seq (.reg [0,1,4,5,6,8,9,15] oq JN) (.seq (.cond (.t 10) .skip (.exit 0)) (.seq (.blk 1 (.seq (.reg JN oo JN) (.seq (.reg [0,
 1,4,5,6,8,9,10] om JN) (.cond (.t 15) (.reg JN oh JN) .skip)))) (.reg JN uL JN))))))) (.seq (.reg JN og JN) .ret)))
abbrev zjn :Nat:=45
theorem zlR :jU Try.prog Try.f45.ntmps 2 [4] JN [(.tmp 4)] zko zjn:=jY mix Try.func45 (by kernel_rfl) rfl
def oe :List zl:=[oO 4]
def P9 :List zl:=[oM 6 0,oM 7 1,oX 8 6 7 1,oL 9 8 1,oS 5 9]
def yK :List zl:=[oM 10 5,oB 11 .geq 10 0,oM 12 11,oK 12 true 13 5,oK 12 true 14 0,(some (12,true),.r (.len 15 (.t 14))),xG 12 true 16 .lss 13 15,oP 17 12 16,oM 18 17,oK 18 true 19 5,oK 18 true 20 1,xG 18 true 21 .neq 19 20,oP 22 18 21,oM 23 22,oK 23 true 24 0,oK 23 true 25 5,
 (some (23,true),.r (.idxA 26 (.t 24) (.t 25) 1)),QZ 23 true 27 26 1,oK 23 true 28 1,xG 23 true 29 .eql 27 28,oP 30 23 29,oS 4 30]
def W6 :List Nat:=[0,1,4,5]
def zkn :zC:=.seq (.reg W6 oe W6) (.seq (.reg W6 P9 W6) (.seq (.reg W6 yK W6) .ret))
abbrev zf5 :Nat:=46
theorem zlQ :jU Try.prog Try.f46.ntmps 2 [4] W6 [(.tmp 4)] zkn zf5:=jY mix Try.func46 (by kernel_rfl) rfl
def P8 :List zl:=[(none,.box 3 (.t 0)),(none,.box 4 (.t 1)),(none,.box 5 (.t 2)),oI 6 0]
def P7 :Zj:=.take [1,4,9,10,11,12] (oF 7 4 0) (.take [4,9,10,11,12] (oL 8 7 1) (.take [3,4,9,10,11,12] (oF 9 5 0) (.take [4,9,10,11,12] (oL 10 9 1) (.take [6,9,10,11,12] (oF 12 4 1) (.take [9,10,11,12] (oL 13 12 1) (.take [8,9,10,11,12] (oF 14 5 1) (.take [9,10,11,12] (oL 15 14 1) (.one 4 (qJ 11 60 8 10) (.one 9 (qJ 16 60 13 15) (.one 10 (none,
 .blds 17 2 1 [((0,1),(.t 11,true)),((1,1),(.t 16,true))] [.int .i64 0]) (.one 11 (oC 18 59 17) (.one 12 (oS 6 18) .done))))))))))))
def Kp :List Nat:=[0,1,2,4,5,6]
def zkm :zC:=.seq (.reg [0,1,2,6] P8 Kp) (.seq (.draw Kp P7 Kp) .ret)
abbrev zjm :Nat:=47
theorem zlP :jU Try.prog Try.f47.ntmps 3 [6] Kp [(.tmp 6)] zkm zjm:=jY mix Try.func47 (by kernel_rfl) rfl
def P6 :List zl:=[oM 4 0,oN 5 4,oF 6 5 0,oL 7 6 1,oM 8 1,oE 9 8,oB 10 .rem 9 2,oD 11 .add 7 10,oN 12 4,oF 13 12 0,oW 13 11 1]
def zct :List Nat:=[0,1]
def zkl :zC:=.reg zct P6 zct
abbrev zjl :Nat:=48
theorem zlO :jU Try.prog Try.f48.ntmps 2 [] zct [] zkl zjl:=jY mix Try.func48 (by kernel_rfl) rfl
def P5 :List zl:=[oZ 4]
def PZ :List zl:=[oM 10 0,oM 11 0,oE 12 11,(none,.mk 13 (.t 12) (.t 12) 1 1 [.bool false]),(none,.bld 14 [((0,1),(.t 10,true)),((1,1),(.t 13,true))] [.slice none 0 0,.slice none 0 0,.slice none 0 0,.slice none 0 0]),(none,.box 15 (.t 14)),oS 5 15]
def PW :List zl:=[oM 16 1,oE 17 16,(none,.r (.mov 18 (.c (.int .i64 0))))]
def PV :List zl:=[oD 19 .lss 18 17]
def PU :List zl:=[oX 20 16 18 1,oL 21 20 1,oS 7 21]
def wN :List zl:=[oM 22 7,oB 23 .geq 22 0,oM 24 23,oK 24 true 25 7,oK 24 true 26 0,(some (24,true),.r (.len 27 (.t 26))),xG 24 true 28 .lss 25 27,oP 29 24 28]
def PS :List zl:=[oM 30 5,oN 31 30,oF 32 31 1,oL 33 32 1,oM 34 7,oX 35 33 34 1,(none,.st (.t 35) (.c (.bool true)) 1)]
def wM :List zl:=[oB 36 .add 18 1,oS 18 36]
def PR :List zl:=[oZ 8]
def PQ :List zl:=[oM 37 0,oE 38 37,(none,.r (.mov 39 (.c (.int .i64 0))))]
def VN :List zl:=[oD 40 .lss 39 38]
def VM :List zl:=[oM 41 39,oS 9 41]
def VL :List zl:=[oM 42 5,oN 43 42,oF 44 43 1,oL 45 44 1,oM 46 9,oX 47 45 46 1,oL 48 47 1,(none,.r (.notb 49 (.t 48)))]
def VK :List zl:=[oM 50 8,oM 51 5,oM 52 9,qJ 53 61 51 52,(none,.blds 54 1 1 [((0,1),(.t 53,true))] [.slice none 0 0]),(none,.app 55 (.t 50) (.t 54) 1 24),oS 8 55]
def WG :List zl:=[oB 56 .add 39 1,oS 39 56]
def VJ :List zl:=[oM 57 8,oS 4 57]
def Z8 :List Nat:=[0,1,4,5,7,8,9,16,17,18,19,29,38,39,40,49]
def zkk :zC:=.seq (.reg Z8 P5 Z8) (.seq (.reg Z8 PZ Z8) (.seq (.seq (.reg [0,1,4,5,7,8,9,19,29,38,39,40,49] PW Z8) (.blk 0 (.loop (.seq (.reg [0,1,4,5,7,8,9,16,17,18,29,38,39,40,49] PV Z8) (.seq (.cond (.t 19) .skip (.exit 0)) (.seq (.blk 1 (.seq (.reg Z8 PU Z8) (.seq (.reg [0,
 1,4,5,7,8,9,16,17,18,19,38,39,40,49] wN Z8) (.cond (.t 29) (.reg Z8 PS Z8) .skip)))) (.reg Z8 wM Z8))))))) (.seq (.reg Z8 PR Z8) (.seq (.seq (.reg [0,1,4,5,7,8,9,16,17,18,19,29,40,49] PQ Z8) (.blk 2 (.loop (.seq (.reg [0,
 1,4,5,7,8,9,16,17,18,19,29,38,39,49] VN Z8) (.seq (.cond (.t 40) .skip (.exit 2)) (.seq (.blk 3 (.seq (.reg Z8 VM Z8) (.seq (.reg [0,1,4,5,7,8,9,16,17,18,19,29,38,39,40] VL Z8) (.cond (.t 49) (.reg Z8 VK Z8) .skip)))) (.reg Z8 WG Z8))))))) (.seq (.reg Z8 VJ Z8) .ret)))))
abbrev zf4 :Nat:=49
theorem zlN :jU Try.prog Try.f49.ntmps 2 [4] Z8 [(.tmp 4)] zkk zf4:=jY mix Try.func49 (by kernel_rfl) rfl
def PP :List zl:=[(none,.box 2 (.t 0)),oZ 4,oZ 5,oI 6 0]
def PO :List zl:=[oT 11 2 2,oC 12 27 11,(none,.r (.notb 13 (.t 12))),oS 10 13]
def zg2 :List zl:=[oZ 4,oZ 5,oI 6 3]
def PN :List zl:=[oT 15 2 2,oM 16 1,qJ 17 31 15 16,(none,.r (.notb 18 (.t 17))),oS 14 18]
def zg1 :List zl:=[oZ 4,oZ 5,oI 6 9]
def PM :List zl:=[oF 20 2 0,oL 21 20 1,oF 22 2 1,oL 23 22 1,qJ 24 29 21 23,oM 25 1,qJ 26 56 24 25,oM 19 26,oY 27 19 0,oY 28 19 1,oY 29 19 2,oS 7 27,oS 8 28,oS 9 29]
def PL :List zl:=[oM 30 7,oM 31 8,oS 4 30,oS 5 31,oI 6 0]
def qj :List Nat:=[0,1,2,4,5,6,7,8,9,10,14]
def zkj :zC:=.seq (.reg [0,1,4,5,6,7,8,9,10,14] PP qj) (.seq (.blk 0 (.seq (.reg qj PO qj) (.cond (.t 10) (.seq (.reg qj zg2 qj) .ret) (.seq (.reg qj PN qj) (.cond (.t 14) (.seq (.reg qj zg1 qj) .ret) .skip))))) (.seq (.reg qj PM qj) (.seq (.reg qj PL qj) .ret)))
abbrev zjk :Nat:=50
theorem zlM :jU Try.prog Try.f50.ntmps 2 [4,5,6] qj [(.tmp 4),(.tmp 5),(.tmp 6)] zkj zjk:=jY mix Try.func50 (by kernel_rfl) rfl
def PK :List zl:=[(none,.box 2 (.t 0)),(none,.box 3 (.t 1)),oO 4]
def wL :List zl:=[oF 5 2 0,oL 6 5 1,oF 7 3 0,oL 8 7 1,oD 9 .lss 6 8,oM 10 9,(some (10,false),.r (.fldA 11 (.t 2) 0)),QZ 10 false 12 11 1,(some (10,false),.r (.fldA 13 (.t 3) 0)),QZ 10 false 14 13 1,xG 10 false 15 .eql 12 14,oK 10 false 16 15,(some (16,true),.r (.fldA 17 (.t 2) 1)),
 QZ 16 true 18 17 1,(some (16,true),.r (.fldA 19 (.t 3) 1)),QZ 16 true 20 19 1,xG 16 true 21 .lss 18 20,(some (10,false),.r (.pick 22 (.t 16) (.t 21) (.c (.bool false)))),oQ 23 10 22,oS 4 23]
def Ko :List Nat:=[0,1,2,3,4]
def zki :zC:=.seq (.reg [0,1,4] PK Ko) (.seq (.reg Ko wL Ko) .ret)
abbrev zjj :Nat:=51
theorem zlL :jU Try.prog Try.f51.ntmps 2 [4] Ko [(.tmp 4)] zki zjj:=jY mix Try.func51 (by kernel_rfl) rfl
def uK :List zl:=[(none,.box 2 (.t 0)),oZ 4]
def uJ :List zl:=[oT 16 2 2,oC 17 34 16,(none,.r (.notb 18 (.t 17)))]
def PJ :List zl:=[oZ 4]
def PI :List zl:=[oF 19 2 0,oL 20 19 1,(none,.mk 21 (.t 20) (.t 20) 1 8 [.int .i64 0]),oS 5 21]
def PH :List zl:=[oI 6 0]
def PG :List zl:=[oM 22 6,oF 23 2 0,oL 24 23 1,oD 25 .lss 22 24]
def PF :List zl:=[oM 28 5,oM 29 6,oM 30 6,oX 31 28 29 1,oW 31 30 1]
def PE :List zl:=[oM 32 1,oM 33 6,qJ 34 36 32 33]
def PD :List zl:=[oM 35 5,oM 36 6,oX 37 35 36 1,(none,.st (.t 37) (.c (.int .i64 (- (0+1)))) 1)]
def uI :List zl:=[oM 26 6,oB 27 .add 26 1,oS 6 27]
def VI :List zl:=[(none,.asg 7 (.c (.bool true)) true)]
def VH :List zl:=[oM 38 7]
def VG :List zl:=[oO 7]
def VF :List zl:=[oI 8 0]
def VE :List zl:=[oM 39 8,oF 40 2 1,oL 41 40 1,oE 42 41,oD 43 .lss 39 42]
def VD :Zj:=.take [1,3,4,5,12,13] (oF 46 2 1) (.take [3,4,5,12,13] (oL 47 46 1) (.take [3,4,5,12,13] (oM 48 8) (.take [4,5,12,13] (oX 49 47 48 2) (.take [5,12,13] (oF 50 49 0) (.take [12,13] (oL 51 50 1) (.take [7,9,10,11,13] (oF 52 2 1) (.take [9,10,11,13] (oL 53 52 1) (.take [9,
 10,11,13] (oM 54 8) (.take [10,11,13] (oX 55 53 54 2) (.take [11,13] (oF 56 55 1) (.take [13] (oL 57 56 1) (.one 12 (oS 9 51) (.one 13 (oS 10 57) .done)))))))))))))
def Qr :Zj:=.take [2,3,4,5,6,7,8,9,10,11,12,13,14,15,16,17,18,19,20,21,22] (oM 58 5) (.take [2,3,4,5,6,7,8,9,10,11,12,13,14,15,16,17,18,19,20,21,22] (oM 59 9) (.take [3,4,5,6,7,8,9,10,11,12,13,14,15,16,17,18,19,20,21,22] (oX 60 58 59 1) (.take [4,5,6,7,8,9,10,11,12,13,14,15,
 16,17,18,19,20,21,22] (oL 61 60 1) (.take [5,6,7,8,9,10,11,12,13,14,15,16,17,18,19,20,21,22] (oB 62 .lss 61 0) (.take [6,7,8,9,10,11,12,13,14,15,16,17,18,19,20,21,22] (oM 63 62) (.take [8,9,10,11,12,13,14,15,16,17,18,19,20,21,22] (oK 63 false 64 5) (.take [8,9,10,11,12,13,14,15,16,17,18,19,20,21,22] (oK 63 false 65 10) (.take [9,
 10,11,12,13,14,15,16,17,18,19,20,21,22] (some (63,false),.r (.idxA 66 (.t 64) (.t 65) 1)) (.take [10,11,12,13,14,15,16,17,18,19,20,21,22] (QZ 63 false 67 66 1) (.take [11,12,13,14,15,16,17,18,19,20,21,22] (kQ 63 false 68 .lss 67 0) (.take [12,13,14,15,16,17,18,19,20,21,22] (oQ 69 63 68) (.take [13,
 14,15,16,17,18,19,20,21,22] (oM 70 69) (.take [15,16,21,22] (oK 70 false 71 5) (.take [15,16,21,22] (oK 70 false 72 9) (.take [16,21,22] (some (70,false),.r (.idxA 73 (.t 71) (.t 72) 1)) (.take [21,22] (QZ 70 false 74 73 1) (.take [19,20,21,22] (oK 70 false 75 5) (.take [19,20,21,22] (oK 70 false 76 10) (.take [20,
 21,22] (some (70,false),.r (.idxA 77 (.t 75) (.t 76) 1)) (.take [21,22] (QZ 70 false 78 77 1) (.take [22] (xG 70 false 79 .eql 74 78) (.take [] (oQ 80 70 79) .done))))))))))))))))))))))
def VC :Zj:=.take [2,3,8,9] (oM 81 5) (.take [2,3,8,9] (oM 82 9) (.take [3,8,9] (oX 83 81 82 1) (.take [8,9] (oL 84 83 1) (.take [6,7,8,9] (oM 85 5) (.take [6,7,8,9] (oM 86 10) (.take [7,8,9] (oX 87 85 86 1) (.take [8,9] (oL 88 87 1) (.take [9] (none,.r (.mm 89 false (.t 84) (.t 88))) (.one 9 (oS 11 89) .done)))))))))
def VB :List zl:=[oM 90 5,oM 91 9,oM 92 5,oM 93 10,oM 94 11,oM 95 11,oX 96 90 91 1,oW 96 94 1,oX 97 92 93 1,oW 97 95 1]
def VA :List zl:=[(none,.asg 7 (.c (.bool true)) true)]
def Qq :List zl:=[oM 44 8,oB 45 .add 44 1,oS 8 45]
def Vz :List zl:=[oZ 12]
def Vy :List zl:=[oI 13 0]
def Vx :List zl:=[oM 98 13,oF 99 2 0,oL 100 99 1,oD 101 .lss 98 100]
def Vw :List zl:=[oM 104 5,oM 105 13,oX 106 104 105 1,oL 107 106 1,oM 108 13,oD 109 .neq 107 108]
def Vv :List zl:=[oZ 14]
def Vu :List zl:=[oI 15 0]
def Vs :List zl:=[oM 110 15,oF 111 2 0,oL 112 111 1,oD 113 .lss 110 112]
def Vr :List zl:=[oM 116 5,oM 117 15,oX 118 116 117 1,oL 119 118 1,oM 120 13,oD 121 .eql 119 120]
def Vq :List zl:=[oM 122 14,oM 123 15,(none,.blds 124 1 1 [((0,1),(.t 123,true))] [.int .i64 0]),(none,.app 125 (.t 122) (.t 124) 1 8),oS 14 125]
def WF :List zl:=[oM 114 15,oB 115 .add 114 1,oS 15 115]
def Vp :List zl:=[oM 126 12,oM 127 14,(none,.blds 128 1 1 [((0,1),(.t 127,true))] [.slice none 0 0]),(none,.app 129 (.t 126) (.t 128) 1 24),oS 12 129]
def WE :List zl:=[oM 102 13,oB 103 .add 102 1,oS 13 103]
def Vo :List zl:=[oM 130 12,oS 4 130]
def zY :List Nat:=[0,1,2,4,5,6,7,8,9,10,11,12,13,14,15,18,25,34,38,43,80,101,109,113,121]
def zg0 :zC:=.seq (.reg [0,1,4,5,6,7,8,9,10,11,12,13,14,15,18,25,34,38,43,80,101,109,113,121] uK zY) (.seq (.seq (.reg [0,1,2,4,5,6,7,8,9,10,11,12,13,14,15,25,34,38,43,80,101,109,113,121] uJ zY) (.cond (.t 18) (.seq (.reg zY PJ zY) .ret) .skip)) (.seq (.reg zY PI zY) (.seq (.seq (.reg zY PH zY) (.blk 0 (.loop (.seq (.seq (.reg [0,
 1,2,4,5,6,7,8,9,10,11,12,13,14,15,18,34,38,43,80,101,109,113,121] PG zY) (.cond (.t 25) .skip (.exit 0))) (.seq (.blk 1 (.seq (.reg zY PF zY) (.seq (.reg [0,1,2,4,5,6,7,8,9,10,11,12,13,14,15,18,25,
 38,43,80,101,109,113,121] PE zY) (.cond (.t 34) (.reg zY PD zY) .skip)))) (.reg zY uI zY)))))) (.seq (.seq (.reg zY VI zY) (.blk 2 (.loop (.seq (.seq (.reg [0,
 1,2,4,5,6,7,8,9,10,11,12,13,14,15,18,25,34,43,80,101,109,113,121] VH zY) (.cond (.t 38) .skip (.exit 2))) (.blk 3 (.seq (.reg zY VG zY) (.seq (.reg zY VF zY) (.blk 4 (.loop (.seq (.seq (.reg [0,
 1,2,4,5,6,7,8,9,10,11,12,13,14,15,18,25,34,38,80,101,109,113,121] VE zY) (.cond (.t 43) .skip (.exit 4))) (.seq (.blk 5 (.seq (.draw zY VD zY) (.seq (.seq (.draw [0,1,2,4,5,6,7,8,9,10,11,12,13,
 14,15,18,25,34,38,43,101,109,113,121] Qr zY) (.cond (.t 80) (.exit 5) .skip)) (.seq (.draw zY VC zY) (.seq (.reg zY VB zY) (.reg zY VA zY)))))) (.reg zY Qq zY)))))))))))) (.seq (.reg zY Vz zY) (.seq (.seq (.reg zY Vy zY) (.blk 6 (.loop (.seq (.seq (.reg [0,
 1,2,4,5,6,7,8,9,10,11,12,13,14,15,18,25,34,38,43,80,109,113,121] Vx zY) (.cond (.t 101) .skip (.exit 6))) (.seq (.blk 7 (.seq (.seq (.reg [0,1,2,4,5,6,7,8,9,10,11,12,13,14,15,18,25,34,38,43,80,101,113,121] Vw zY) (.cond (.t 109) (.exit 7) .skip)) (.seq (.reg zY Vv zY) (.seq (.seq (.reg zY Vu zY) (.blk 8 (.loop (.seq (.seq (.reg [0,
 1,2,4,5,6,7,8,9,10,11,12,13,14,15,18,25,34,38,43,80,101,109,121] Vs zY) (.cond (.t 113) .skip (.exit 8))) (.seq (.blk 9 (.seq (.reg [0,1,2,4,5,6,7,8,9,10,11,12,13,14,15,18,25,34,38,43,80,101,109,113] Vr zY) (.cond (.t 121) (.reg zY Vq zY) .skip))) (.reg zY WF zY)))))) (.reg zY Vp zY))))) (.reg zY WE zY)))))) (.seq (.reg zY Vo zY) .ret)))))))
abbrev zcL :Nat:=52
theorem zgy :jU Try.prog Try.f52.ntmps 2 [4] zY [(.tmp 4)] zg0 zcL:=jY mix Try.func52 (by kernel_rfl) rfl
def PC :List zl:=[(none,.box 1 (.t 0)),oZ 2]
def PB :List zl:=[oT 3 1 2,oC 4 27 3,(none,.r (.notb 5 (.t 4)))]
def zgZ :List zl:=[oZ 2]
def PA :List zl:=[(none,.blds 6 1 1 [((0,1),(.c (.int .i64 (- (0+1))),true))] [.int .i64 0]),oF 7 1 0,oL 8 7 1,qJ 9 62 6 8,oS 2 9]
def W5 :List Nat:=[0,1,2,5]
def zkh :zC:=.seq (.reg [0,2,5] PC W5) (.seq (.seq (.reg [0,1,2] PB W5) (.cond (.t 5) (.seq (.reg W5 zgZ W5) .ret) .skip)) (.seq (.reg W5 PA W5) .ret))
abbrev zji :Nat:=53
theorem zlK :jU Try.prog Try.f53.ntmps 1 [2] W5 [(.tmp 2)] zkh zji:=jY mix Try.func53 (by kernel_rfl) rfl
def Py :List zl:=[(none,.box 2 (.t 0)),oO 4]
def Px :List zl:=[oF 5 2 0,oL 6 5 1,oM 7 1,oX 8 6 7 1,oL 9 8 1,oB 10 .lss 9 0,oS 4 10]
def Kn :List Nat:=[0,1,2,4]
def zkg :zC:=.seq (.reg [0,1,4] Py Kn) (.seq (.reg Kn Px Kn) .ret)
abbrev zf3 :Nat:=54
theorem zlJ :jU Try.prog Try.f54.ntmps 2 [4] Kn [(.tmp 4)] zkg zf3:=jY mix Try.func54 (by kernel_rfl) rfl
def Pv :List zl:=[oI 4 0]
def Pu :List zl:=[oM 6 0,oE 7 6,(none,.r (.mov 8 (.c (.int .i64 0))))]
def uH :List zl:=[oD 9 .lss 8 7]
def Ps :List zl:=[oM 10 8,oS 5 10]
def Pr :List zl:=[oM 11 1,oM 12 0,oM 13 5,oX 14 12 13 1,oL 15 14 1,(none,.call 16 (.t 11) [(.t 15,false)])]
def Pq :List zl:=[oM 17 5,oS 4 17]
def Pp :List zl:=[oB 18 .add 8 1,oS 8 18]
def Pn :List zl:=[(none,.asg 4 (.c (.int .i64 (- (0+1)))) true)]
def qi :List Nat:=[0,1,4,5,7,8,9,16]
def zkf :zC:=.seq (.reg qi Pv qi) (.seq (.seq (.reg [0,1,4,5,9,16] Pu qi) (.blk 0 (.loop (.seq (.reg [0,1,4,5,7,8,16] uH qi) (.seq (.cond (.t 9) .skip (.exit 0)) (.seq (.blk 1 (.seq (.reg qi Ps qi) (.seq (.reg [0,
 1,4,5,7,8,9] Pr qi) (.cond (.t 16) (.seq (.reg qi Pq qi) .ret) .skip)))) (.reg qi Pp qi))))))) (.seq (.reg qi Pn qi) .ret))
abbrev zjh :Nat:=55
theorem zlI :jU Try.prog Try.f55.ntmps 2 [4] qi [(.tmp 4)] zkf zjh:=jY mix Try.func55 (by kernel_rfl) rfl
def Pm :List zl:=[oZ 4,oZ 5,oI 6 0]
def Pl :List zl:=[oM 14 0,oM 15 1,qJ 16 63 14 15,oS 7 16]
def Pk :List zl:=[oM 17 7,(none,.mkfn 18 (.func 64) [(.t 17,false)] []),oS 8 18]
def Pj :List zl:=[oM 20 7,oC 21 65 20,oM 19 21,oY 22 19 0,oY 23 19 1,oS 9 22,oS 10 23]
def Pi :List zl:=[oM 24 10]
def Ph :List zl:=[oM 30 0,oM 31 9,oX 32 30 31 1,oL 33 32 1,oE 34 33,(none,.r (.mov 35 (.c (.int .i64 0))))]
def Qo :List zl:=[oD 36 .lss 35 34]
def yJ :List zl:=[oX 37 33 35 1,oL 38 37 1,oS 12 38]
def yI :List zl:=[oM 39 7,oM 40 9,oM 41 12,oC3 42 66 39 40 41]
def yH :List zl:=[oB 44 .eql 42 1,oS 43 44]
def Vn :List zl:=[oM 45 7,oM 46 9,oM 47 12,oC3 48 67 45 46 47]
def Ye :List zl:=[oB 50 .eql 42 2,oS 49 50]
def Vm :List zl:=[oM 51 8,oM 52 9,(none,.call 53 (.t 51) [(.t 52,false)]),oM 54 8,oM 55 12,(none,.call 56 (.t 54) [(.t 55,false)]),oD 57 .eql 53 56]
def WD :List zl:=[oM 58 7,oM 59 9,oM 60 12,oC3 61 68 58 59 60,oS 13 61]
def WC :List zl:=[oM 62 13,(none,.r (.bin 63 .neq 3 (.t 62) (.c (.slice none 0 0))))]
def Vl :Zj:=.take [5,6,7] (oM 64 13) (.take [2,3,4,7] (oM 65 7) (.take [3,4,7] (oN 66 65) (.take [4,7] (oF 67 66 15) (.take [7] (oL 68 67 1) (.one 5 (oS 4 64) (.one 6 (oZ 5) (.one 7 (oS 6 68) .done)))))))
def Qp :List zl:=[oB 69 .add 35 1,oS 35 69]
def Vk :List zl:=[oM 26 7,oC 27 65 26,oM 25 27,oY 28 25 0,oY 29 25 1,oS 9 28,oS 10 29]
def Vj :Zj:=.take [1,6,7,8] (oM 70 7) (.take [3,4,5,8] (oM 72 7) (.take [4,5,8] (oN 73 72) (.take [5,8] (oF 74 73 15) (.take [8] (oL 75 74 1) (.one 1 (oC 71 69 70) (.one 6 (oZ 4) (.one 7 (oS 5 71) (.one 8 (oS 6 75) .done))))))))
def ZM :List Nat:=[0,1,4,5,6,7,8,9,10,12,13,24,33,34,35,36,42,43,49,57,63]
def zke :zC:=.seq (.reg ZM Pm ZM) (.seq (.reg ZM Pl ZM) (.seq (.reg ZM Pk ZM) (.seq (.seq (.reg ZM Pj ZM) (.blk 0 (.loop (.seq (.seq (.reg [0,
 1,4,5,6,7,8,9,10,12,13,33,34,35,36,42,43,49,57,63] Pi ZM) (.cond (.t 24) .skip (.exit 0))) (.seq (.blk 1 (.seq (.reg [0,1,4,5,6,7,8,9,10,12,13,24,36,42,43,49,57,63] Ph ZM) (.blk 2 (.loop (.seq (.reg [0,1,4,5,6,7,8,9,10,12,13,24,33,34,35,42,43,
 49,57,63] Qo ZM) (.seq (.cond (.t 36) .skip (.exit 2)) (.seq (.blk 3 (.seq (.reg ZM yJ ZM) (.seq (.reg [0,1,4,5,6,7,8,9,10,12,13,24,33,34,35,36,43,49,57,63] yI ZM) (.blk 4 (.seq (.reg ZM yH ZM) (.cond (.t 43) (.reg ZM Vn ZM) (.seq (.reg ZM Ye ZM) (.cond (.t 49) (.seq (.seq (.reg [0,
 1,4,5,6,7,8,9,10,12,13,24,33,34,35,36,42,43,49,63] Vm ZM) (.cond (.t 57) (.exit 3) .skip)) (.seq (.reg ZM WD ZM) (.seq (.reg [0,1,4,5,6,7,8,9,10,12,13,24,33,34,35,36,42,43,49,57] WC ZM) (.cond (.t 63) (.seq (.draw ZM Vl ZM) .ret) .skip)))) .skip)))))))) (.reg ZM Qp ZM)))))))) (.reg ZM Vk ZM)))))) (.seq (.draw ZM Vj ZM) .ret))))
abbrev zf2 :Nat:=56
theorem zlH :jU Try.prog Try.f56.ntmps 2 [4,5,6] ZM [(.tmp 4),(.tmp 5),(.tmp 6)] zke zf2:=jY mix Try.func56 (by kernel_rfl) rfl
def Pg :List zl:=[oI 4 1]
def uG :List zl:=[oM 5 4,oM 6 1,oE 7 6,oD 8 .lss 5 7]
def Pf :Zj:=.take [20,21,22,23] (oM 11 0) (.take [4,5,20,21,22,23] (oM 12 1) (.take [3,4,5,20,21,22,23] (oM 13 4) (.take [4,5,20,21,22,23] (oB 14 .sub 13 1) (.take [5,20,21,22,23] (oX 15 12 14 1) (.take [20,21,22,23] (oL 16 15 1) (.take [22,23] (oM 17 0) (.take [9,10,20,21,22,23] (oM 18 1) (.take [9,
 10,20,21,22,23] (oM 19 4) (.take [10,20,21,22,23] (oX 20 18 19 1) (.take [20,21,22,23] (oL 21 20 1) (.take [13,14,20,21,22,23] (oM 22 1) (.take [13,14,20,21,22,23] (oM 23 4) (.take [14,20,21,22,23] (oX 24 22 23 1) (.take [20,21,22,23] (oL 25 24 1) (.take [18,19,20,21,22,23] (oM 26 1) (.take [17,18,19,
 20,21,22,23] (oM 27 4) (.take [18,19,20,21,22,23] (oB 28 .sub 27 1) (.take [19,20,21,22,23] (oX 29 26 28 1) (.take [20,21,22,23] (oL 30 29 1) (.take [21,22,23] (oX 31 11 16 1) (.one 21 (oW 31 25 1) (.take [23] (oX 32 17 21 1) (.one 23 (oW 32 30 1) .done)))))))))))))))))))))))
def Pe :List zl:=[oM 9 4,oB 10 .add 9 2,oS 4 10]
def Y7 :List Nat:=[0,1,4,8]
def zkd :zC:=.seq (.reg Y7 Pg Y7) (.blk 0 (.loop (.seq (.seq (.reg [0,1,4] uG Y7) (.cond (.t 8) .skip (.exit 0))) (.seq (.blk 1 (.draw Y7 Pf Y7)) (.reg Y7 Pe Y7)))))
abbrev zjg :Nat:=57
theorem zlG :jU Try.prog Try.f57.ntmps 2 [] Y7 [] zkd zjg:=jY mix Try.func57 (by kernel_rfl) rfl
def Pd :List zl:=[(none,.box 3 (.t 0)),oI 6 0]
def Pc :List zl:=[oT 9 3 2,oC 10 34 9,(none,.r (.notb 11 (.t 10)))]
def Pb :List zl:=[(none,.asg 6 (.c (.int .i64 (- (0+1)))) true)]
def Pa :List zl:=[oM 12 1,oM 13 2,qJ 14 44 12 13,(none,.alloc 7 [.int .i64 0,.int .i64 0]),oW 7 14 2]
def p9 :List zl:=[oI 8 0]
def p8 :List zl:=[oM 15 8,oF 16 3 1,oL 17 16 1,oE 18 17,oD 19 .lss 15 18]
def p7 :Zj:=.take [1,3,4,6] (oF 22 3 1) (.take [3,4,6] (oL 23 22 1) (.take [3,4,6] (oM 24 8) (.take [4,6] (oX 25 23 24 2) (.take [6] (oT 26 25 2) (.take [6] (oT 27 7 2) (.take [] (none,.r (.bin 28 .eql 8 (.t 26) (.t 27))) .done))))))
def p6 :List zl:=[oM 29 8,oS 6 29]
def p5 :List zl:=[oM 20 8,oB 21 .add 20 1,oS 8 21]
def pZ :List zl:=[(none,.asg 6 (.c (.int .i64 (- (0+1)))) true)]
def JM :List Nat:=[0,1,2,3,6,7,8,11,19,28]
def zkc :zC:=.seq (.reg [0,1,2,6,7,8,11,19,28] Pd JM) (.seq (.seq (.reg [0,1,2,3,6,7,8,19,28] Pc JM) (.cond (.t 11) (.seq (.reg JM Pb JM) .ret) .skip)) (.seq (.reg [0,
 1,2,3,6,8,11,19,28] Pa JM) (.seq (.seq (.reg JM p9 JM) (.blk 0 (.loop (.seq (.seq (.reg [0,1,2,3,6,7,8,11,28] p8 JM) (.cond (.t 19) .skip (.exit 0))) (.seq (.blk 1 (.seq (.draw [0,
 1,2,3,6,7,8,11,19] p7 JM) (.cond (.t 28) (.seq (.reg JM p6 JM) .ret) .skip))) (.reg JM p5 JM)))))) (.seq (.reg JM pZ JM) .ret))))
abbrev zjf :Nat:=58
theorem zlF :jU Try.prog Try.f58.ntmps 3 [6] JM [(.tmp 6)] zkc zjf:=jY mix Try.func58 (by kernel_rfl) rfl
def pY :List zl:=[oI 2 0]
def pX :List zl:=[oI 3 0]
def pW :List zl:=[oM 6 0,oE 7 6,(none,.r (.mov 8 (.c (.int .i64 0))))]
def pV :List zl:=[oD 9 .lss 8 7]
def pU :List zl:=[oX 10 6 8 1,oL 11 10 1,oS 5 11]
def pT :List zl:=[oM 12 5,oM 13 3,oD 14 .neq 12 13]
def pS :List zl:=[oM 15 5,oS 2 15]
def pR :List zl:=[oB 16 .add 8 1,oS 8 16]
def pQ :List zl:=[oM 17 3,oS 2 17]
def JL :List Nat:=[0,2,3,5,6,7,8,9,14]
def zkb :zC:=.seq (.reg JL pY JL) (.seq (.reg JL pX JL) (.seq (.seq (.reg [0,2,3,5,9,14] pW JL) (.blk 0 (.loop (.seq (.reg [0,2,3,5,6,7,8,14] pV JL) (.seq (.cond (.t 9) .skip (.exit 0)) (.seq (.blk 1 (.seq (.reg JL pU JL) (.seq (.reg [0,
 2,3,5,6,7,8,9] pT JL) (.cond (.t 14) (.seq (.reg JL pS JL) .ret) .skip)))) (.reg JL pR JL))))))) (.seq (.reg JL pQ JL) .ret)))
abbrev zje :Nat:=59
theorem zlE :jU Try.prog Try.f59.ntmps 1 [2] JL [(.tmp 2)] zkb zje:=jY mix Try.func59 (by kernel_rfl) rfl
def pP :List zl:=[oI 4 0]
def pO :List zl:=[oM 7 0,oC 8 70 7,oS 5 8]
def pN :List zl:=[oM 9 1,oC 10 70 9,oS 6 10]
def pM :List zl:=[oM 11 5]
def zgY :List zl:=[oM 12 6]
def zgX :List zl:=[oI 4 0]
def zgW :List zl:=[(none,.asg 4 (.c (.int .i64 (- (0+1)))) true)]
def pL :List zl:=[oM 13 6]
def zgV :List zl:=[oI 4 1]
def pK :List zl:=[oM 14 0,oM 15 1,oD 16 .lss 14 15]
def Vi :List zl:=[(none,.asg 4 (.c (.int .i64 (- (0+1)))) true)]
def Vh :List zl:=[oM 17 0,oM 18 1,oD 19 .gtr 17 18]
def Vg :List zl:=[oI 4 1]
def Vf :List zl:=[oI 4 0]
def jo :List Nat:=[0,1,4,5,6,11,12,13,16,19]
def zka :zC:=.seq (.reg jo pP jo) (.seq (.reg jo pO jo) (.seq (.reg jo pN jo) (.seq (.seq (.reg [0,1,4,5,6,12,13,16,19] pM jo) (.cond (.t 11) (.seq (.seq (.reg [0,
 1,4,5,6,11,13,16,19] zgY jo) (.cond (.t 12) (.seq (.reg jo zgX jo) .ret) .skip)) (.seq (.reg jo zgW jo) .ret)) .skip)) (.seq (.seq (.reg [0,1,4,5,6,11,12,16,19] pL jo) (.cond (.t 13) (.seq (.reg jo zgV jo) .ret) .skip)) (.seq (.seq (.reg [0,
 1,4,5,6,11,12,13,19] pK jo) (.cond (.t 16) (.seq (.reg jo Vi jo) .ret) .skip)) (.seq (.seq (.reg [0,1,4,5,6,11,12,13,16] Vh jo) (.cond (.t 19) (.seq (.reg jo Vg jo) .ret) .skip)) (.seq (.reg jo Vf jo) .ret)))))))
abbrev zjd :Nat:=60
theorem zlD :jU Try.prog Try.f60.ntmps 2 [4] jo [(.tmp 4)] zka zjd:=jY mix Try.func60 (by kernel_rfl) rfl
def pJ :List zl:=[oZ 4]
def pI :List zl:=[oM 9 0,(none,.mkfn 10 (.func 71) [(.t 9,false)] []),oS 5 10]
def pH :List zl:=[oM 11 0,oN 12 11,oF 13 12 2,(none,.st (.t 13) (.c (.slice none 0 0)) 1)]
def pG :List zl:=[oM 14 5,oM 15 1,(none,.call 16 (.t 14) [(.t 15,false)])]
def uF :List zl:=[oM 17 0,oN 18 17,oF 19 18 3,oL 20 19 1,oE 21 20,oB 22 .gtr 21 0]
def pF :Zj:=.take [1,2,3,10,11,12] (oM 23 0) (.take [2,3,10,11,12] (oN 24 23) (.take [3,10,11,12] (oF 25 24 3) (.take [10,11,12] (oL 26 25 1) (.take [5,6,7,8,9,10,11,12] (oM 27 0) (.take [6,7,8,9,10,11,12] (oN 28 27) (.take [7,8,9,10,11,12] (oF 29 28 3) (.take [8,9,10,11,12] (oL 30 29 1) (.take [9,
 10,11,12] (oE 31 30) (.take [10,11,12] (oB 32 .sub 31 1) (.take [11,12] (oX 33 26 32 1) (.take [12] (oL 34 33 1) (.one 12 (oS 6 34) .done))))))))))))
def pE :Zj:=.take [12,13,14] (oM 35 0) (.take [2,3,4,11,12,13,14] (oM 36 0) (.take [3,4,11,12,13,14] (oN 37 36) (.take [4,11,12,13,14] (oF 38 37 3) (.take [11,12,13,14] (oL 39 38 1) (.take [6,7,8,9,10,11,12,13,14] (oM 40 0) (.take [7,8,9,10,11,12,13,14] (oN 41 40) (.take [8,9,
 10,11,12,13,14] (oF 42 41 3) (.take [9,10,11,12,13,14] (oL 43 42 1) (.take [10,11,12,13,14] (oE 44 43) (.take [11,12,13,14] (oB 45 .sub 44 1) (.one 11 (none,.slc 46 (.t 39) none (some (.t 45)) 1) (.take [13,14] (oN 47 35) (.take [14] (oF 48 47 3) (.one 14 (oW 48 46 1) .done))))))))))))))
def pD :List zl:=[oM 49 0,oN 50 49,oF 51 50 0,oL 52 51 1,oM 53 6,oX 54 52 53 1,oL 55 54 1,oE 56 55,(none,.r (.mov 57 (.c (.int .i64 0))))]
def pC :List zl:=[oD 58 .lss 57 56]
def pB :List zl:=[oX 59 55 57 1,oL 60 59 1,oS 8 60]
def Ve :List zl:=[oM 61 5,oM 62 8,(none,.call 63 (.t 61) [(.t 62,false)])]
def Vd :List zl:=[oB 64 .add 57 1,oS 57 64]
def Vc :List zl:=[oM 65 0,oN 66 65,oF 67 66 2,oL 68 67 1,oC 69 72 68]
def Vb :List zl:=[oM 70 0,oN 71 70,oF 72 71 2,oL 73 72 1,oS 4 73]
def jb :List Nat:=[0,1,4,5,6,8,22,55,56,57,58]
def zj9 :zC:=.seq (.reg jb pJ jb) (.seq (.reg jb pI jb) (.seq (.reg jb pH jb) (.seq (.reg jb pG jb) (.seq (.blk 0 (.loop (.seq (.seq (.reg [0,
 1,4,5,6,8,55,56,57,58] uF jb) (.cond (.t 22) .skip (.exit 0))) (.blk 1 (.seq (.draw jb pF jb) (.seq (.draw jb pE jb) (.seq (.reg [0,1,4,5,6,8,22,58] pD jb) (.blk 2 (.loop (.seq (.reg [0,
 1,4,5,6,8,22,55,56,57] pC jb) (.seq (.cond (.t 58) .skip (.exit 2)) (.seq (.blk 3 (.seq (.reg jb pB jb) (.reg jb Ve jb))) (.reg jb Vd jb))))))))))))) (.seq (.reg jb Vc jb) (.seq (.reg jb Vb jb) .ret))))))
abbrev zjc :Nat:=61
theorem zlC :jU Try.prog Try.f61.ntmps 2 [4] jb [(.tmp 4)] zj9 zjc:=jY mix Try.func61 (by kernel_rfl) rfl
def pA :List zl:=[oZ 4]
def pz :List zl:=[oM 9 1,oB 10 .lss 9 0]
def zgU :List zl:=[(none,.bad (some 11)),(none,.bad none)]
def py :List zl:=[oM 13 0,oE 14 13,(none,.r (.conv 15 .u64 (.t 14))),oM 16 1,(none,.r (.conv 17 .u64 (.t 16))),qJ 18 73 15 17,oM 12 18,oY 19 12 0,oY 20 12 1,oS 5 19,oS 6 20]
def px :List zl:=[oM 21 5,(none,.r (.bin 22 .gtr 0 (.t 21) (.c (.int .u64 0)))),oM 23 22,oK 23 false 24 6,(some (23,false),.r (.bin 25 .gtr 0 (.t 24) (.c (.int .u64 9223372036854775807)))),oQ 26 23 25]
def zgT :List zl:=[(none,.bad (some 27)),(none,.bad none)]
def pw :List zl:=[oM 28 6,(none,.r (.conv 29 .i64 (.t 28))),(none,.mk 30 (.t 29) (.t 29) 1 8 [.int .i64 0]),oS 7 30]
def uE :List zl:=[oM 31 7,oM 32 0,(none,.cpy 33 (.t 31) (.t 32) 1),oS 8 33]
def wK :List zl:=[oM 34 8,oM 35 7,oE 36 35,oD 37 .lss 34 36]
def pv :Zj:=.take [8,9] (oM 38 8) (.take [3,7,8,9] (oM 39 7) (.take [3,7,8,9] (oM 40 8) (.take [6,7,8,9] (oM 42 7) (.take [6,7,8,9] (oM 43 8) (.two 3 (none,.slc 41 (.t 39) (some (.t 40)) none 1) (.one 6 (none,.slc 44 (.t 42) none (some (.t 43)) 1) (.one 7 (none,.cpy 45 (.t 41) (.t 44) 1) (.take [9] (oD 46 .add 38 45) (.one 9 (oS 8 46) .done)))) 6 (none,
 .slc 44 (.t 42) none (some (.t 43)) 1) (.one 3 (none,.slc 41 (.t 39) (some (.t 40)) none 1) (.one 7 (none,.cpy 45 (.t 41) (.t 44) 1) (.take [9] (oD 46 .add 38 45) (.one 9 (oS 8 46) .done)))))))))
def WB :List zl:=[oM 47 7,oS 4 47]
def j0 :List Nat:=[0,1,4,5,6,7,8,10,26,37]
def zj8 :zC:=.seq (.reg j0 pA j0) (.seq (.seq (.reg [0,1,4,5,6,7,8,26,37] pz j0) (.cond (.t 10) (.reg j0 zgU j0) .skip)) (.seq (.reg j0 py j0) (.seq (.seq (.reg [0,
 1,4,5,6,7,8,10,37] px j0) (.cond (.t 26) (.reg j0 zgT j0) .skip)) (.seq (.reg j0 pw j0) (.seq (.reg j0 uE j0) (.seq (.blk 0 (.loop (.seq (.seq (.reg [0,
 1,4,5,6,7,8,10,26] wK j0) (.cond (.t 37) .skip (.exit 0))) (.blk 1 (.draw j0 pv j0))))) (.seq (.reg j0 WB j0) .ret)))))))
abbrev zjb :Nat:=62
theorem zlB :jU Try.prog Try.f62.ntmps 2 [4] j0 [(.tmp 4)] zj8 zjb:=jY mix Try.func62 (by kernel_rfl) rfl
def pu :List zl:=[(none,.asg 4 (.c (.pointer none)) true)]
def pq :List zl:=[oM 8 0,oE 9 8,oS 5 9]
def pp :Zj:=.take [24,25,26] (oM 10 0) (.take [24,25,26] (oM 11 1) (.take [3,24,25,26] (oM 12 5) (.take [5,24,25,26] (oM 14 5) (.take [7,24,25,26] (oM 16 5) (.take [9,24,25,26] (oM 18 5) (.take [11,24,25,26] (oM 20 5) (.take [13,24,25,26] (oM 22 5) (.take [15,24,25,26] (oM 24 5) (.take [17,
 24,25,26] (oM 26 5) (.take [19,24,25,26] (oM 28 5) (.take [21,24,25,26] (oM 30 5) (.take [23,24,25,26] (oM 32 5) (.many [(3,(none,.mk 13 (.t 12) (.t 12) 1 8 [.int .i64 0])),(5,(none,.mk 15 (.t 14) (.t 14) 1 1 [.bool false])),(7,(none,.mk 17 (.t 16) (.t 16) 1 8 [.int .i64 0])),(9,(none,.mk 19 (.t 18) (.t 18) 1 8 [.int .i64 0])),
 (11,(none,.mk 21 (.t 20) (.t 20) 1 8 [.int .i64 0])),(13,(none,.mk 23 (.t 22) (.t 22) 1 8 [.int .i64 0])),(15,(none,.mk 25 (.t 24) (.t 24) 2 16 [.int .i64 0,.int .i64 0])),(17,(none,.mk 27 (.t 26) (.t 26) 1 1 [.bool false])),(19,(none,.mk 29 (.t 28) (.t 28) 1 8 [.int .i64 0])),(21,(none,.mk 31 (.t 30) (.t 30) 1 8 [.int .i64 0])),
 (23,(none,.mk 33 (.t 32) (.t 32) 1 8 [.int .i64 0]))] (.one 24 (none,.bld 34 [((0,1),(.t 10,true)),((1,1),(.t 11,true)),((2,1),(.t 13,true)),((3,1),(.t 15,true)),((4,1),(.t 17,true)),((5,1),(.t 19,true)),((6,1),(.t 21,true)),((7,1),(.t 23,true)),((8,1),(.t 25,true)),((9,1),(.t 27,true)),((10,1),(.t 29,
 true)),((11,1),(.t 31,true)),((12,1),(.t 33,true))] [.slice none 0 0,.slice none 0 0,.slice none 0 0,.slice none 0 0,.slice none 0 0,.slice none 0 0,.slice none 0 0,.slice none 0 0,.slice none 0 0,.slice none 0 0,.slice none 0 0,.slice none 0 0,.slice none 0 0,.int .i64 0,.slice none 0 0,.int .i64 0]) (.one 25 (none,
 .box 35 (.t 34)) (.one 26 (oS 6 35) .done))))))))))))))))
def pn :List zl:=[oM 36 5,(none,.r (.mov 37 (.c (.int .i64 0))))]
def uD :List zl:=[oD 38 .lss 37 36]
def pm :List zl:=[oM 39 37,oS 7 39]
def pj :Zj:=.take [1,2,3,17,18,19,20,21,22] (oM 40 6) (.take [2,3,17,18,19,20,21,22] (oN 41 40) (.take [3,17,18,19,20,21,22] (oF 42 41 10) (.take [17,18,19,20,21,22] (oL 43 42 1) (.take [17,18,19,20,21,22] (oM 44 7) (.take [6,7,8,17,18,19,20,21,22] (oM 45 6) (.take [7,8,17,18,19,20,21,
 22] (oN 46 45) (.take [8,17,18,19,20,21,22] (oF 47 46 11) (.take [17,18,19,20,21,22] (oL 48 47 1) (.take [19,20,21,22] (oM 49 7) (.take [11,12,13,17,18,19,20,21,22] (oM 50 6) (.take [12,13,17,18,19,20,21,22] (oN 51 50) (.take [13,17,18,19,20,21,22] (oF 52 51 7) (.take [17,18,19,20,21,22] (oL 53 52 1) (.take [21,
 22] (oM 54 7) (.take [17,18,19,20,21,22] (oM 55 7) (.take [19,20,21,22] (oM 56 7) (.take [18,19,20,21,22] (oX 57 43 44 1) (.one 18 (oW 57 55 1) (.take [20,21,22] (oX 58 48 49 1) (.one 20 (oW 58 56 1) (.take [22] (oX 59 53 54 1) (.one 22 (none,.st (.t 59) (.c (.int .i64 (- (0+1)))) 1) .done))))))))))))))))))))))
def uC :List zl:=[oM 60 1,oM 61 7,oX 62 60 61 1,oL 63 62 1,(none,.r (.bin 64 .eql 0 (.t 63) (.c (.int .i64 (- (0+1))))))]
def pi :List zl:=[oM 65 6,oN 66 65,oF 67 66 7,oL 68 67 1,oM 69 7,oM 70 7,oX 71 68 69 1,oW 71 70 1]
def ph :List zl:=[oM 72 6,oM 73 7,(none,.call 74 (.f 74) [(.t 72,false),(.t 73,false),(.c (.int .i64 0),false),(.c (.int .i64 1),false)])]
def WA :List zl:=[oB 75 .add 37 1,oS 37 75]
def Va :List zl:=[oM 76 6,oS 4 76]
def jG :List Nat:=[0,1,4,5,6,7,36,37,38,64]
def zj7 :zC:=.seq (.reg jG pu jG) (.seq (.reg jG pq jG) (.seq (.draw jG pp jG) (.seq (.seq (.reg [0,1,4,5,6,7,38,64] pn jG) (.blk 0 (.loop (.seq (.reg [0,1,4,5,6,7,36,
 37,64] uD jG) (.seq (.cond (.t 38) .skip (.exit 0)) (.seq (.blk 1 (.seq (.reg jG pm jG) (.seq (.draw jG pj jG) (.seq (.reg [0,1,4,5,6,7,36,37,38] uC jG) (.cond (.t 64) (.seq (.reg jG pi jG) (.reg jG ph jG)) .skip))))) (.reg jG WA jG))))))) (.seq (.reg jG Va jG) .ret))))
abbrev zja :Nat:=63
theorem zlA :jU Try.prog Try.f63.ntmps 2 [4] jG [(.tmp 4)] zj7 zja:=jY mix Try.func63 (by kernel_rfl) rfl
def pg :List zl:=[oI 4 0]
def pf :Zj:=.take [1,2,3,7,8,9] (oM 5 0) (.take [2,3,7,8,9] (oN 6 5) (.take [3,7,8,9] (oF 7 6 11) (.take [7,8,9] (oL 8 7 1) (.take [6,7,8,9] (oM 9 0) (.take [6,7,8,9] (oM 10 1) (.one 6 (qJ 11 75 9 10) (.take [8,9] (oX 12 8 11 1) (.take [9] (oL 13 12 1) (.one 9 (oS 4 13) .done)))))))))
def U6 :List Nat:=[0,1,4]
def zj6 :zC:=.seq (.reg U6 pg U6) (.seq (.draw U6 pf U6) .ret)
abbrev K4 :Nat:=64
theorem zlz :jU Try.prog Try.f64.ntmps 2 [4] U6 [(.tmp 4)] zj6 K4:=jY mix Try.func64 (by kernel_rfl) rfl
def uB :List zl:=[oI 2 0,oO 3]
def uA :List zl:=[oM 5 0,oN 6 5,oF 7 6 14,oL 8 7 1,oE 9 8,oB 10 .eql 9 0]
def pe :List zl:=[oI 2 0,oO 3]
def pd :List zl:=[oM 11 0,oN 12 11,oF 13 12 14,oL 14 13 1,(none,.r (.idxA 15 (.t 14) (.c (.int .i64 0)) 1)),oL 16 15 1,oS 4 16]
def pc :List zl:=[oM 17 0,oM 18 0,oN 19 18,oF 20 19 14,oL 21 20 1,(none,.slc 22 (.t 21) (some (.c (.int .i64 1))) none 1),oN 23 17,oF 24 23 14,oW 24 22 1]
def G9 :List zl:=[oM 25 4,oS 2 25,(none,.asg 3 (.c (.bool true)) true)]
def qy :List Nat:=[0,2,3,4,10]
def zgS :zC:=.seq (.reg qy uB qy) (.seq (.seq (.reg [0,2,3,4] uA qy) (.cond (.t 10) (.seq (.reg qy pe qy) .ret) .skip)) (.seq (.reg qy pd qy) (.seq (.reg qy pc qy) (.seq (.reg qy G9 qy) .ret))))
abbrev zcK :Nat:=65
theorem zgx :jU Try.prog Try.f65.ntmps 1 [2,3] qy [(.tmp 2),(.tmp 3)] zgS zcK:=jY mix Try.func65 (by kernel_rfl) rfl
def G8 :List zl:=[oI 6 0]
def G7 :List zl:=[oM 7 0,oN 8 7,oF 9 8 15,oL 10 9 1,oB 11 .add 10 1,oN 12 7,oF 13 12 15,oW 13 11 1]
def uz :List zl:=[oM 15 2,oM 16 0,oN 17 16,oF 18 17 1,oL 19 18 1,oM 20 1,oX 21 19 20 1,oL 22 21 1,oD 23 .eql 15 22,oM 24 23,oK 24 false 25 0,oK 24 false 26 1,(some (24,false),.call 27 (.f 76) [(.t 25,false),(.t 26,false)]),oQ 28 24 27,oM 29 28,oK 29 false 30 0,oK 29 false 31 2,
 (some (29,false),.call 32 (.f 76) [(.t 30,false),(.t 31,false)]),oQ 33 29 32,oS 14 33]
def G6 :List zl:=[oI 6 0]
def uy :List zl:=[oM 35 0,oN 36 35,oF 37 36 2,oL 38 37 1,oM 39 2,oX 40 38 39 1,oL 41 40 1,oB 42 .eql 41 0,oS 34 42]
def G5 :List zl:=[oI 6 1]
def wJ :List zl:=[oM 44 0,oN 45 44,oF 46 45 3,oL 47 46 1,oM 48 2,oX 49 47 48 1,oL 50 49 1,oM 51 50,oK 51 true 52 0,oK 51 true 53 1,(some (51,true),.call 54 (.f 64) [(.t 52,false),(.t 53,false)]),oK 51 true 55 0,oK 51 true 56 2,(some (51,true),.call 57 (.f 64) [(.t 55,false),(.t 56,
 false)]),xG 51 true 58 .neq 54 57,oP 59 51 58,oS 43 59]
def G4 :List zl:=[oI 6 2]
def ux :List zl:=[oI 6 0]
def Jd :List Nat:=[0,1,2,6,14,34,43]
def zj5 :zC:=.seq (.reg Jd G8 Jd) (.seq (.reg Jd G7 Jd) (.seq (.blk 0 (.seq (.reg Jd uz Jd) (.cond (.t 14) (.seq (.reg Jd G6 Jd) .ret) (.seq (.reg Jd uy Jd) (.cond (.t 34) (.seq (.reg Jd G5 Jd) .ret) (.seq (.reg Jd wJ Jd) (.cond (.t 43) (.seq (.reg Jd G4 Jd) .ret) .skip))))))) (.seq (.reg Jd ux Jd) .ret)))
abbrev zi9 :Nat:=66
theorem zly :jU Try.prog Try.f66.ntmps 3 [6] Jd [(.tmp 6)] zj5 zi9:=jY mix Try.func66 (by kernel_rfl) rfl
def G3 :Zj:=.take [1,2,3,36,37,38,39,40,41,42,43] (oM 7 0) (.take [2,3,36,37,38,39,40,41,42,43] (oN 8 7) (.take [3,36,37,38,39,40,41,42,43] (oF 9 8 2) (.take [36,37,38,39,40,41,42,43] (oL 10 9 1) (.take [36,37,38,39,40,41,42,43] (oM 11 2) (.take [6,7,8,36,37,38,39,40,41,42,43] (oM 12 0) (.take [7,
 8,36,37,38,39,40,41,42,43] (oN 13 12) (.take [8,36,37,38,39,40,41,42,43] (oF 14 13 6) (.take [36,37,38,39,40,41,42,43] (oL 15 14 1) (.take [38,39,40,41,42,43] (oM 16 2) (.take [11,12,13,36,37,38,39,40,41,42,43] (oM 17 0) (.take [12,13,36,37,38,39,40,41,42,43] (oN 18 17) (.take [13,36,37,38,39,40,41,42,
 43] (oF 19 18 7) (.take [36,37,38,39,40,41,42,43] (oL 20 19 1) (.take [40,41,42,43] (oM 21 2) (.take [16,17,18,36,37,38,39,40,41,42,43] (oM 22 0) (.take [17,18,36,37,38,39,40,41,42,43] (oN 23 22) (.take [18,36,37,38,39,40,41,42,43] (oF 24 23 5) (.take [36,37,38,39,40,41,42,43] (oL 25 24 1) (.take [42,
 43] (oM 26 2) (.take [38,39,40,41,42,43] (oM 27 1) (.take [22,23,24,26,27,36,37,38,39,40,41,42,43] (oM 28 0) (.take [23,24,26,27,36,37,38,39,40,41,42,43] (oN 29 28) (.take [24,26,27,36,37,38,39,40,41,42,43] (oF 30 29 7) (.take [26,27,36,37,38,39,40,41,42,43] (oL 31 30 1) (.take [26,27,36,37,38,39,40,
 41,42,43] (oM 32 1) (.take [27,36,37,38,39,40,41,42,43] (oX 33 31 32 1) (.take [36,37,38,39,40,41,42,43] (oL 34 33 1) (.take [29,30,31,33,34,35,36,37,38,39,40,41,42,43] (oM 35 0) (.take [30,31,33,34,35,36,37,38,39,40,41,42,43] (oN 36 35) (.take [31,33,34,35,36,37,38,39,40,41,42,43] (oF 37 36 4) (.take [33,
 34,35,36,37,38,39,40,41,42,43] (oL 38 37 1) (.take [33,34,35,36,37,38,39,40,41,42,43] (oM 39 1) (.take [34,35,36,37,38,39,40,41,42,43] (oX 40 38 39 1) (.take [35,36,37,38,39,40,41,42,43] (oL 41 40 1) (.take [42,43] (oB 42 .add 41 1) (.take [37,38,39,40,41,42,43] (oX 43 10 11 1) (.one 37 (none,.st (.t 43) (.c (.int .i64 2)) 1) (.take [39,
 40,41,42,43] (oX 44 15 16 1) (.one 39 (oW 44 27 1) (.take [41,42,43] (oX 45 20 21 1) (.one 41 (oW 45 34 1) (.take [43] (oX 46 25 26 1) (.one 43 (oW 46 42 1) .done)))))))))))))))))))))))))))))))))))))))))))
def G0 :List zl:=[oM 47 0,oN 48 47,oF 49 48 1,oL 50 49 1,oM 51 2,oX 52 50 51 1,oL 53 52 1,oS 6 53]
def GZ :Zj:=.take [1,2,3,12,13] (oM 54 0) (.take [2,3,12,13] (oN 55 54) (.take [3,12,13] (oF 56 55 7) (.take [12,13] (oL 57 56 1) (.take [12,13] (oM 58 6) (.take [6,7,8,10,11,12,13] (oM 59 0) (.take [7,8,10,11,12,13] (oN 60 59) (.take [8,10,11,12,13] (oF 61 60 7) (.take [10,11,
 12,13] (oL 62 61 1) (.take [10,11,12,13] (oM 63 1) (.take [11,12,13] (oX 64 62 63 1) (.take [12,13] (oL 65 64 1) (.take [13] (oX 66 57 58 1) (.one 13 (oW 66 65 1) .done)))))))))))))
def GY :List zl:=[oM 67 0,oM 68 6,oM 69 0,oN 70 69,oF 71 70 4,oL 72 71 1,oM 73 1,oX 74 72 73 1,oL 75 74 1,oB 76 .add 75 2,(none,.call 77 (.f 74) [(.t 67,false),(.t 68,false),(.t 76,false),(.c (.int .i64 1),false)])]
def Ys :List Nat:=[0,1,2,6]
def zj4 :zC:=.seq (.draw Ys G3 Ys) (.seq (.reg Ys G0 Ys) (.seq (.draw Ys GZ Ys) (.reg Ys GY Ys)))
abbrev zi8 :Nat:=67
theorem zlx :jU Try.prog Try.f67.ntmps 3 [] Ys [] zj4 zi8:=jY mix Try.func67 (by kernel_rfl) rfl
def uw :List zl:=[oZ 6]
def uv :Zj:=.take [1,2,3,5,6,14] (oM 9 0) (.take [2,3,5,6,14] (oN 10 9) (.take [3,5,6,14] (oF 11 10 7) (.take [5,6,14] (oL 12 11 1) (.take [5,6,14] (oM 13 1) (.take [6,14] (oX 14 12 13 1) (.take [14] (oL 15 14 1) (.take [8,9,10,12,13,14] (oM 16 0) (.take [9,10,12,13,14] (oN 17 16) (.take [10,
 12,13,14] (oF 18 17 7) (.take [12,13,14] (oL 19 18 1) (.take [12,13,14] (oM 20 2) (.take [13,14] (oX 21 19 20 1) (.take [14] (oL 22 21 1) (.take [] (oD 23 .neq 15 22) .done))))))))))))))
def GX :List zl:=[oM 24 0,oM 25 1,oM 26 0,oN 27 26,oF 28 27 7,oL 29 28 1,oM 30 1,oX 31 29 30 1,oL 32 31 1,oC3 33 78 24 25 32,oC 34 77 33,oS 7 34]
def GW :List zl:=[oM 35 7,oM 36 0,oM 37 2,oM 38 0,oN 39 38,oF 40 39 7,oL 41 40 1,oM 42 2,oX 43 41 42 1,oL 44 43 1,oC3 45 78 36 37 44,(none,.app 46 (.t 35) (.t 45) 1 8),oS 7 46]
def GV :Zj:=.take [1,2,3,22,23,24,25] (oM 47 0) (.take [2,3,22,23,24,25] (oN 48 47) (.take [3,22,23,24,25] (oF 49 48 9) (.take [22,23,24,25] (oL 50 49 1) (.take [5,6,7,9,10,22,23,24,25] (oM 51 0) (.take [6,7,9,10,22,23,24,25] (oN 52 51) (.take [7,9,10,22,23,24,25] (oF 53 52 7) (.take [9,
 10,22,23,24,25] (oL 54 53 1) (.take [9,10,22,23,24,25] (oM 55 1) (.take [10,22,23,24,25] (oX 56 54 55 1) (.take [22,23,24,25] (oL 57 56 1) (.take [12,13,14,22,23,24,25] (oM 58 0) (.take [13,14,22,23,24,25] (oN 59 58) (.take [14,22,23,24,25] (oF 60 59 9) (.take [22,23,24,25] (oL 61 60 1) (.take [16,17,
 18,20,21,22,23,24,25] (oM 62 0) (.take [17,18,20,21,22,23,24,25] (oN 63 62) (.take [18,20,21,22,23,24,25] (oF 64 63 7) (.take [20,21,22,23,24,25] (oL 65 64 1) (.take [20,21,22,23,24,25] (oM 66 2) (.take [21,22,23,24,25] (oX 67 65 66 1) (.take [22,23,24,25] (oL 68 67 1) (.take [23,24,25] (oX 69 50 57 1) (.one 23 (none,
 .st (.t 69) (.c (.bool true)) 1) (.take [25] (oX 70 61 68 1) (.one 25 (none,.st (.t 70) (.c (.bool true)) 1) .done)))))))))))))))))))))))))
def GU :List zl:=[oM 71 7,oS 6 71]
def GT :List zl:=[oM 72 0,oM 73 0,oM 74 1,qJ 75 64 73 74,oM 76 0,oM 77 2,qJ 78 64 76 77,oC3 79 79 72 75 78,oS 8 79]
def GS :List zl:=[oM 80 0,oM 81 1,oM 82 2,oM 83 8,(none,.call 84 (.f 80) [(.t 80,false),(.t 81,false),(.t 82,false),(.t 83,false)])]
def GQ :List zl:=[oM 85 0,oM 86 2,oM 87 1,oM 88 8,(none,.call 89 (.f 80) [(.t 85,false),(.t 86,false),(.t 87,false),(.t 88,false)])]
def GP :List zl:=[oZ 6]
def jR :List Nat:=[0,1,2,6,7,8,23]
def zgR :zC:=.seq (.reg jR uw jR) (.seq (.seq (.draw [0,1,2,6,7,8] uv jR) (.cond (.t 23) (.seq (.reg jR GX jR) (.seq (.reg jR GW jR) (.seq (.draw jR GV jR) (.seq (.reg jR GU jR) .ret)))) .skip)) (.seq (.reg jR GT jR) (.seq (.reg jR GS jR) (.seq (.reg jR GQ jR) (.seq (.reg jR GP jR) .ret)))))
abbrev zf1 :Nat:=68
theorem zgw :jU Try.prog Try.f68.ntmps 3 [6] jR [(.tmp 6)] zgR zf1:=jY mix Try.func68 (by kernel_rfl) rfl
def GO :List zl:=[oZ 2]
def GN :List zl:=[oM 5 0,oN 6 5,oF 7 6 2,oL 8 7 1,oE 9 8,(none,.mk 10 (.t 9) (.t 9) 1 8 [.int .i64 0]),oS 3 10]
def GM :List zl:=[oM 11 3,oE 12 11,(none,.r (.mov 13 (.c (.int .i64 0))))]
def uu :List zl:=[oD 14 .lss 13 12]
def GL :List zl:=[oM 15 13,oS 4 15]
def GK :List zl:=[oM 16 3,oM 17 4,oM 18 0,oN 19 18,oF 20 19 2,oL 21 20 1,oM 22 4,oX 23 21 22 1,oL 24 23 1,oX 25 16 17 1,oW 25 24 1]
def ut :List zl:=[oM 26 0,oN 27 26,oF 28 27 3,oL 29 28 1,oM 30 4,oX 31 29 30 1,oL 32 31 1]
def GJ :List zl:=[oM 33 3,oM 34 4,oX 35 33 34 1,(none,.st (.t 35) (.c (.int .i64 1)) 1)]
def ur :List zl:=[oB 36 .add 13 1,oS 13 36]
def GI :List zl:=[oM 37 3,oS 2 37]
def Jp :List Nat:=[0,2,3,4,12,13,14,32]
def zj3 :zC:=.seq (.reg Jp GO Jp) (.seq (.reg Jp GN Jp) (.seq (.seq (.reg [0,2,3,4,14,32] GM Jp) (.blk 0 (.loop (.seq (.reg [0,
 2,3,4,12,13,32] uu Jp) (.seq (.cond (.t 14) .skip (.exit 0)) (.seq (.blk 1 (.seq (.reg Jp GL Jp) (.seq (.reg Jp GK Jp) (.seq (.reg [0,
 2,3,4,12,13,14] ut Jp) (.cond (.t 32) (.reg Jp GJ Jp) .skip))))) (.reg Jp ur Jp))))))) (.seq (.reg Jp GI Jp) .ret)))
abbrev zi7 :Nat:=69
theorem zlw :jU Try.prog Try.f69.ntmps 1 [2] Jp [(.tmp 2)] zj3 zi7:=jY mix Try.func69 (by kernel_rfl) rfl
def GH :List zl:=[oO 2]
def GG :List zl:=[oM 3 0,oM 4 0,oD 5 .neq 3 4,oS 2 5]
def U5 :List Nat:=[0,2]
def zj2 :zC:=.seq (.reg U5 GH U5) (.seq (.reg U5 GG U5) .ret)
abbrev zi6 :Nat:=70
theorem zlv :jU Try.prog Try.f70.ntmps 1 [2] U5 [(.tmp 2)] zj2 zi6:=jY mix Try.func70 (by kernel_rfl) rfl
def GF :List zl:=[oM 4 0,oN 5 4,oF 6 5 1,oL 7 6 1,oM 8 1,oX 9 7 8 1,oL 10 9 1,(none,.r (.notb 11 (.t 10)))]
def GE :List zl:=[oM 12 0,oN 13 12,oF 14 13 1,oL 15 14 1,oM 16 1,oX 17 15 16 1,(none,.st (.t 17) (.c (.bool true)) 1)]
def GD :List zl:=[oM 18 0,oM 19 0,oN 20 19,oF 21 20 2,oL 22 21 1,oM 23 1,(none,.blds 24 1 1 [((0,1),(.t 23,true))] [.int .i64 0]),(none,.app 25 (.t 22) (.t 24) 1 8),oN 26 18,oF 27 26 2,oW 27 25 1]
def GC :List zl:=[oM 28 0,oM 29 0,oN 30 29,oF 31 30 3,oL 32 31 1,oM 33 1,(none,.blds 34 1 1 [((0,1),(.t 33,true))] [.int .i64 0]),(none,.app 35 (.t 32) (.t 34) 1 8),oN 36 28,oF 37 36 3,oW 37 35 1]
def Y6 :List Nat:=[0,1,11]
def zj1 :zC:=.seq (.reg [0,1] GF Y6) (.cond (.t 11) (.seq (.reg Y6 GE Y6) (.seq (.reg Y6 GD Y6) (.reg Y6 GC Y6))) .skip)
abbrev zi5 :Nat:=71
theorem zlu :jU Try.prog Try.f71.ntmps 2 [] Y6 [] zj1 zi5:=jY mix Try.func71 (by kernel_rfl) rfl
abbrev zi4 :Nat:=72
def GB :List zl:=[(none,.asg 4 (.c (.int .u64 0)) true),(none,.asg 5 (.c (.int .u64 0)) true)]
def zgQ :List zl:=[oM 11 0,(none,.r (.conv 12 .u32 (.t 11))),oM 13 1,(none,.r (.conv 14 .u32 (.t 13))),qJ 15 83 12 14,oM 10 15,oY 16 10 0,oY 17 10 1,oS 6 16,oS 7 17]
def zgP :List zl:=[oM 18 6,(none,.r (.conv 19 .u64 (.t 18))),oM 20 7,(none,.r (.conv 21 .u64 (.t 20))),oS 4 19,oS 5 21]
def GA :List zl:=[oM 23 0,oM 24 1,qJ 25 84 23 24,oM 22 25,oY 26 22 0,oY 27 22 1,oS 8 26,oS 9 27]
def Gz :List zl:=[oM 28 8,oM 29 9,oS 4 28,oS 5 29]
def QX :List Nat:=[0,1,4,5,6,7,8,9]
def zj0 :zC:=.seq (.reg QX GB QX) (.seq (.cond (.c (.bool false)) (.seq (.reg QX zgQ QX) (.seq (.reg QX zgP QX) .ret)) .skip) (.seq (.reg QX GA QX) (.seq (.reg QX Gz QX) .ret)))
abbrev zi3 :Nat:=73
theorem zlt :jU Try.prog Try.f73.ntmps 2 [4,5] QX [(.tmp 4),(.tmp 5)] zj0 zi3:=jY mix Try.func73 (by kernel_rfl) rfl
def Gy :Zj:=.take [1,2,3,11,12,13,14] (oM 8 0) (.take [2,3,11,12,13,14] (oN 9 8) (.take [3,11,12,13,14] (oF 10 9 3) (.take [11,12,13,14] (oL 11 10 1) (.take [11,12,13,14] (oM 12 1) (.take [6,7,8,11,12,13,14] (oM 13 0) (.take [7,8,11,12,13,14] (oN 14 13) (.take [8,11,12,13,14] (oF 15 14 4) (.take [11,
 12,13,14] (oL 16 15 1) (.take [13,14] (oM 17 1) (.take [13,14] (oM 18 2) (.take [12,13,14] (oX 19 11 12 1) (.one 12 (none,.st (.t 19) (.c (.bool true)) 1) (.take [14] (oX 20 16 17 1) (.one 14 (oW 20 18 1) .done))))))))))))))
def uq :List zl:=[oM 21 0,oN 22 21,oF 23 22 2,oL 24 23 1,oM 25 1,oX 26 24 25 1,oL 27 26 1,oB 28 .eql 27 0]
def Gx :List zl:=[oM 29 0,oN 30 29,oF 31 30 2,oL 32 31 1,oM 33 1,oM 34 3,oX 35 32 33 1,oW 35 34 1]
def uo :List zl:=[oM 36 0,oM 37 0,oN 38 37,oF 39 38 14,oL 40 39 1,oM 41 1,(none,.blds 42 1 1 [((0,1),(.t 41,true))] [.int .i64 0]),(none,.app 43 (.t 40) (.t 42) 1 8),oN 44 36,oF 45 44 14,oW 45 43 1]
def Y5 :List Nat:=[0,1,2,3,28]
def zjZ :zC:=.seq (.draw Y5 Gy Y5) (.seq (.seq (.reg [0,1,2,3] uq Y5) (.cond (.t 28) (.reg Y5 Gx Y5) .skip)) (.reg Y5 uo Y5))
abbrev zf0 :Nat:=74
theorem zls :jU Try.prog Try.f74.ntmps 4 [] Y5 [] zjZ zf0:=jY mix Try.func74 (by kernel_rfl) rfl
def Gw :List zl:=[oI 4 0]
def un :List zl:=[oM 5 0,oN 6 5,oF 7 6 10,oL 8 7 1,oM 9 1,oX 10 8 9 1,oL 11 10 1,oM 12 1,oD 13 .neq 11 12]
def Gv :Zj:=.take [1,2,3,18,19] (oM 14 0) (.take [2,3,18,19] (oN 15 14) (.take [3,18,19] (oF 16 15 10) (.take [18,19] (oL 17 16 1) (.take [18,19] (oM 18 1) (.take [6,7,8,16,17,18,19] (oM 19 0) (.take [7,8,16,17,18,19] (oN 20 19) (.take [8,16,17,18,19] (oF 21 20 10) (.take [16,
 17,18,19] (oL 22 21 1) (.take [10,11,12,14,15,16,17,18,19] (oM 23 0) (.take [11,12,14,15,16,17,18,19] (oN 24 23) (.take [12,14,15,16,17,18,19] (oF 25 24 10) (.take [14,15,16,17,18,19] (oL 26 25 1) (.take [14,15,16,17,18,19] (oM 27 1) (.take [15,16,17,18,19] (oX 28 26 27 1) (.take [16,17,18,19] (oL 29 28 1) (.take [17,
 18,19] (oX 30 22 29 1) (.take [18,19] (oL 31 30 1) (.take [19] (oX 32 17 18 1) (.one 19 (oW 32 31 1) .done)))))))))))))))))))
def Gu :List zl:=[oM 33 0,oN 34 33,oF 35 34 10,oL 36 35 1,oM 37 1,oX 38 36 37 1,oL 39 38 1,oS 1 39]
def Gt :List zl:=[oM 40 1,oS 4 40]
def Q9 :List Nat:=[0,1,4,13]
def zjY :zC:=.seq (.reg Q9 Gw Q9) (.seq (.blk 0 (.loop (.seq (.seq (.reg [0,1,4] un Q9) (.cond (.t 13) .skip (.exit 0))) (.blk 1 (.seq (.draw Q9 Gv Q9) (.reg Q9 Gu Q9)))))) (.seq (.reg Q9 Gt Q9) .ret))
abbrev zi2 :Nat:=75
theorem zlr :jU Try.prog Try.f75.ntmps 2 [4] Q9 [(.tmp 4)] zjY zi2:=jY mix Try.func75 (by kernel_rfl) rfl
def Gs :List zl:=[oO 4]
def um :Zj:=.take [1,2,3,5,6,7,8,9,10,11,12,13,14,15,16,17,18,19,20,21,22,23] (oM 5 0) (.take [2,3,5,6,7,8,9,10,11,12,13,14,15,16,17,18,19,20,21,22,23] (oN 6 5) (.take [3,5,6,7,8,9,10,11,12,13,14,15,16,17,18,19,20,21,22,23] (oF 7 6 7) (.take [5,6,7,8,9,10,11,12,13,14,15,16,17,
 18,19,20,21,22,23] (oL 8 7 1) (.take [5,6,7,8,9,10,11,12,13,14,15,16,17,18,19,20,21,22,23] (oM 9 1) (.take [6,7,8,9,10,11,12,13,14,15,16,17,18,19,20,21,22,23] (oX 10 8 9 1) (.take [7,8,9,10,11,12,13,14,15,16,17,18,19,20,21,22,23] (oL 11 10 1) (.take [8,9,10,11,12,13,14,15,16,17,18,19,20,21,22,23] (none,
 .r (.bin 12 .neq 0 (.t 11) (.c (.int .i64 (- (0+1)))))) (.take [9,10,11,12,13,14,15,16,17,18,19,20,21,22,23] (oM 13 12) (.take [10,11,12,20,21,22,23] (oK 13 true 14 0) (.take [11,12,20,21,22,23] (some (13,true),.r (.nilck 15 (.t 14))) (.take [12,20,21,22,23] (some (13,true),.r (.fldA 16 (.t 15) 9)) (.take [20,
 21,22,23] (QZ 13 true 17 16 1) (.take [14,15,16,18,19,20,21,22,23] (oK 13 true 18 0) (.take [15,16,18,19,20,21,22,23] (some (13,true),.r (.nilck 19 (.t 18))) (.take [16,18,19,20,21,22,23] (some (13,true),.r (.fldA 20 (.t 19) 7)) (.take [18,19,20,21,22,23] (QZ 13 true 21 20 1) (.take [18,19,20,21,22,
 23] (oK 13 true 22 1) (.take [19,20,21,22,23] (some (13,true),.r (.idxA 23 (.t 21) (.t 22) 1)) (.take [20,21,22,23] (QZ 13 true 24 23 1) (.take [21,22,23] (some (13,true),.r (.idxA 25 (.t 17) (.t 24) 1)) (.take [22,23] (QZ 13 true 26 25 1) (.take [23] (oP 27 13 26) (.one 23 (oS 4 27) .done)))))))))))))))))))))))
def UZ :List Nat:=[0,1,4]
def zjX :zC:=.seq (.reg UZ Gs UZ) (.seq (.draw UZ um UZ) .ret)
abbrev zi1 :Nat:=76
theorem zlq :jU Try.prog Try.f76.ntmps 2 [4] UZ [(.tmp 4)] zjX zi1:=jY mix Try.func76 (by kernel_rfl) rfl
def Gr :List zl:=[oZ 2]
def Gq :List zl:=[oM 5 0,oE 6 5,oB 7 .sub 6 1,oI 3 0,oS 4 7]
def ul :List zl:=[oM 8 3,oM 9 4,oD 10 .lss 8 9]
def Gp :Zj:=.take [12,13,14,15] (oM 15 0) (.take [12,13,14,15] (oM 16 3) (.take [14,15] (oM 17 0) (.take [14,15] (oM 18 4) (.take [6,7,12,13,14,15] (oM 19 0) (.take [6,7,12,13,14,15] (oM 20 4) (.take [7,12,13,14,15] (oX 21 19 20 1) (.take [12,13,14,15] (oL 22 21 1) (.take [10,11,12,
 13,14,15] (oM 23 0) (.take [10,11,12,13,14,15] (oM 24 3) (.take [11,12,13,14,15] (oX 25 23 24 1) (.take [12,13,14,15] (oL 26 25 1) (.take [13,14,15] (oX 27 15 16 1) (.one 13 (oW 27 22 1) (.take [15] (oX 28 17 18 1) (.one 15 (oW 28 26 1) .done)))))))))))))))
def Gn :List zl:=[oM 11 3,oB 12 .add 11 1,oM 13 4,oB 14 .sub 13 1,oS 3 12,oS 4 14]
def Gm :List zl:=[oM 29 0,oS 2 29]
def q7 :List Nat:=[0,2,3,4,10]
def zjW :zC:=.seq (.reg q7 Gr q7) (.seq (.seq (.reg q7 Gq q7) (.blk 0 (.loop (.seq (.seq (.reg [0,2,3,4] ul q7) (.cond (.t 10) .skip (.exit 0))) (.seq (.blk 1 (.draw q7 Gp q7)) (.reg q7 Gn q7)))))) (.seq (.reg q7 Gm q7) .ret))
abbrev zi0 :Nat:=77
theorem zlp :jU Try.prog Try.f77.ntmps 1 [2] q7 [(.tmp 2)] zjW zi0:=jY mix Try.func77 (by kernel_rfl) rfl
def Gk :List zl:=[oZ 6]
def Gj :List zl:=[oZ 7]
def Gi :List zl:=[oM 9 7,oM 10 1,(none,.blds 11 1 1 [((0,1),(.t 10,true))] [.int .i64 0]),(none,.app 12 (.t 9) (.t 11) 1 8),oS 7 12]
def wI :List zl:=[oM 37 1,oM 38 2,oD 39 .eql 37 38,oS 36 39]
def Gh :List zl:=[oM 40 7,oS 6 40]
def uk :List zl:=[oM 42 0,oN 43 42,oF 44 43 2,oL 45 44 1,oM 46 1,oX 47 45 46 1,oL 48 47 1,oB 49 .eql 48 1,oS 41 49]
def Gg :List zl:=[oM 50 7,oM 51 0,oN 52 51,oF 53 52 1,oL 54 53 1,oM 55 1,oX 56 54 55 1,oL 57 56 1,(none,.blds 58 1 1 [((0,1),(.t 57,true))] [.int .i64 0]),(none,.app 59 (.t 50) (.t 58) 1 8),oS 7 59]
def Gf :Zj:=.take [1,2,3,11,12,13] (oM 60 0) (.take [2,3,11,12,13] (oN 61 60) (.take [3,11,12,13] (oF 62 61 6) (.take [11,12,13] (oL 63 62 1) (.take [5,6,7,9,10,11,12,13] (oM 64 0) (.take [6,7,9,10,11,12,13] (oN 65 64) (.take [7,9,10,11,12,13] (oF 66 65 1) (.take [9,10,11,12,13] (oL 67 66 1) (.take [9,
 10,11,12,13] (oM 68 1) (.take [10,11,12,13] (oX 69 67 68 1) (.take [11,12,13] (oL 70 69 1) (.take [12,13] (oX 71 63 70 1) (.take [13] (oL 72 71 1) (.one 13 (oS 1 72) .done)))))))))))))
def Ge :List zl:=[oM 13 0,oN 14 13,oF 15 14 8,oL 16 15 1,oM 17 1,oX 18 16 17 2,oT 19 18 2,(none,.alloc 8 [.int .i64 0,.int .i64 0]),oW 8 19 2]
def Gd :Zj:=.take [13,14] (oM 20 7) (.take [11,12,13,14] (oM 21 0) (.take [3,11,12,13,14] (none,.r (.idxP 22 (.t 8) (.c (.int .i64 0)) 2 1)) (.take [11,12,13,14] (oL 23 22 1) (.take [5,6,7,9,10,11,12,13,14] (oM 24 0) (.take [6,7,9,10,11,12,13,14] (oN 25 24) (.take [7,9,10,11,12,
 13,14] (oF 26 25 1) (.take [9,10,11,12,13,14] (oL 27 26 1) (.take [9,10,11,12,13,14] (oM 28 1) (.take [10,11,12,13,14] (oX 29 27 28 1) (.take [11,12,13,14] (oL 30 29 1) (.one 11 (oC3 31 78 21 23 30) (.one 12 (oC 32 77 31) (.one 13 (none,.app 33 (.t 20) (.t 32) 1 8) (.one 14 (oS 7 33) .done))))))))))))))
def v8 :List zl:=[(none,.r (.idxP 34 (.t 8) (.c (.int .i64 1)) 2 1)),oL 35 34 1,oS 1 35]
def jF :List Nat:=[0,1,2,6,7,8,36,41]
def zjV :zC:=.seq (.reg jF Gk jF) (.seq (.reg jF Gj jF) (.blk 0 (.loop (.blk 1 (.seq (.reg jF Gi jF) (.blk 2 (.seq (.reg jF wI jF) (.cond (.t 36) (.seq (.reg jF Gh jF) .ret) (.seq (.reg jF uk jF) (.cond (.t 41) (.seq (.reg jF Gg jF) (.draw jF Gf jF)) (.seq (.reg [0,
 1,2,6,7,36,41] Ge jF) (.seq (.draw jF Gd jF) (.reg jF v8 jF)))))))))))))
abbrev ziZ :Nat:=78
theorem zlo :jU Try.prog Try.f78.ntmps 3 [6] jF [(.tmp 6)] zjV ziZ:=jY mix Try.func78 (by kernel_rfl) rfl
def Gc :List zl:=[oI 6 0]
def Gb :List zl:=[oM 7 0,oN 8 7,oF 9 8 13,oL 10 9 1,oB 11 .add 10 1,oN 12 7,oF 13 12 13,oW 13 11 1]
def uj :List zl:=[oM 14 1,(none,.r (.bin 15 .neq 0 (.t 14) (.c (.int .i64 (- (0+1))))))]
def ui :Zj:=.take [1,2,3,5,6,11] (oM 16 0) (.take [2,3,5,6,11] (oN 17 16) (.take [3,5,6,11] (oF 18 17 12) (.take [5,6,11] (oL 19 18 1) (.take [5,6,11] (oM 20 1) (.take [6,11] (oX 21 19 20 1) (.take [11] (oL 22 21 1) (.take [8,9,10,11] (oM 23 0) (.take [9,10,11] (oN 24 23) (.take [10,
 11] (oF 25 24 13) (.take [11] (oL 26 25 1) (.take [] (oD 27 .eql 22 26) .done)))))))))))
def g0 :List zl:=[oM 28 1,oS 6 28]
def gZ :Zj:=.take [1,2,3,9,10] (oM 29 0) (.take [2,3,9,10] (oN 30 29) (.take [3,9,10] (oF 31 30 12) (.take [9,10] (oL 32 31 1) (.take [9,10] (oM 33 1) (.take [6,7,8,9,10] (oM 34 0) (.take [7,8,9,10] (oN 35 34) (.take [8,9,10] (oF 36 35 13) (.take [9,10] (oL 37 36 1) (.take [10] (oX 38 32 33 1) (.one 10 (oW 38 37 1) .done))))))))))
def uh :List zl:=[oM 39 0,oM 40 1,qJ 41 85 39 40,oS 1 41]
def wH :List zl:=[oM 42 2,oM 43 1,oS 1 42,oS 2 43]
def J1 :List Nat:=[0,1,2,6,15,27]
def zjU :zC:=.seq (.reg J1 Gc J1) (.seq (.reg J1 Gb J1) (.blk 0 (.loop (.blk 1 (.seq (.seq (.reg [0,1,2,6,27] uj J1) (.cond (.t 15) (.seq (.seq (.draw [0,
 1,2,6,15] ui J1) (.cond (.t 27) (.seq (.reg J1 g0 J1) .ret) .skip)) (.seq (.draw J1 gZ J1) (.reg J1 uh J1))) .skip)) (.reg J1 wH J1))))))
abbrev ziY :Nat:=79
theorem zln :jU Try.prog Try.f79.ntmps 3 [6] J1 [(.tmp 6)] zjU ziY:=jY mix Try.func79 (by kernel_rfl) rfl
def gY :Zj:=.take [1,2,3,5,6,14,15,16] (oM 12 0) (.take [2,3,5,6,14,15,16] (oN 13 12) (.take [3,5,6,14,15,16] (oF 14 13 4) (.take [5,6,14,15,16] (oL 15 14 1) (.take [5,6,14,15,16] (oM 16 1) (.take [6,14,15,16] (oX 17 15 16 1) (.take [14,15,16] (oL 18 17 1) (.take [8,9,10,12,
 13,14,15,16] (oM 19 0) (.take [9,10,12,13,14,15,16] (oN 20 19) (.take [10,12,13,14,15,16] (oF 21 20 4) (.take [12,13,14,15,16] (oL 22 21 1) (.take [12,13,14,15,16] (oM 23 2) (.take [13,14,15,16] (oX 24 22 23 1) (.take [14,15,16] (oL 25 24 1) (.take [15,16] (oD 26 .add 18 25) (.take [16] (oB 27 .add 26 1) (.one 16 (oS 8 27) .done))))))))))))))))
def gX :List zl:=[oM 28 0,oM 29 1,qJ 30 64 28 29,oS 9 30]
def ug :List zl:=[oM 31 9,oM 32 3,oD 33 .neq 31 32]
def gW :List zl:=[oM 34 0,oN 35 34,oF 36 35 1,oL 37 36 1,oM 38 9,oX 39 37 38 1,oL 40 39 1,oS 10 40]
def gV :List zl:=[oM 41 0,oN 42 41,oF 43 42 3,oL 44 43 1,oM 45 10,oX 46 44 45 1,oL 47 46 1,(none,.r (.notb 48 (.t 47)))]
def gU :List zl:=[oM 49 0,oN 50 49,oF 51 50 8,oL 52 51 1,oM 53 10,oM 54 1,oM 55 2,(none,.bld 56 [((0,1),(.t 54,true)),((1,1),(.t 55,true))] [.int .i64 0,.int .i64 0]),oX 57 52 53 2,oW 57 56 2]
def gT :List zl:=[oM 58 0,oM 59 10,oM 60 8,oM 61 0,oN 62 61,oF 63 62 5,oL 64 63 1,oM 65 10,oX 66 64 65 1,oL 67 66 1,oD 68 .sub 60 67,(none,.call 69 (.f 74) [(.t 58,false),(.t 59,false),(.t 68,false),(.c (.int .i64 2),false)])]
def gS :List zl:=[oM 70 0,oM 71 0,oN 72 71,oF 73 72 6,oL 74 73 1,oM 75 10,oX 76 74 75 1,oL 77 76 1,qJ 78 64 70 77,oS 11 78]
def gR :List zl:=[oM 79 0,oM 80 9,oM 81 10,oM 82 3,(none,.call 83 (.f 86) [(.t 79,false),(.t 80,false),(.t 81,false),(.t 82,false)])]
def gQ :List zl:=[oM 84 0,oM 85 10,oM 86 0,oN 87 86,oF 88 87 6,oL 89 88 1,oM 90 10,oX 91 89 90 1,oL 92 91 1,oM 93 3,(none,.call 94 (.f 86) [(.t 84,false),(.t 85,false),(.t 92,false),(.t 93,false)])]
def v7 :List zl:=[oM 95 11,oS 9 95]
def jQ :List Nat:=[0,1,2,3,8,9,10,11,33,48]
def zjT :zC:=.seq (.draw jQ gY jQ) (.seq (.reg jQ gX jQ) (.blk 0 (.loop (.seq (.seq (.reg [0,1,2,3,8,9,10,11,48] ug jQ) (.cond (.t 33) .skip (.exit 0))) (.blk 1 (.seq (.reg jQ gW jQ) (.seq (.seq (.reg [0,
 1,2,3,8,9,10,11,33] gV jQ) (.cond (.t 48) (.seq (.reg jQ gU jQ) (.reg jQ gT jQ)) .skip)) (.seq (.reg jQ gS jQ) (.seq (.reg jQ gR jQ) (.seq (.reg jQ gQ jQ) (.reg jQ v7 jQ)))))))))))
abbrev ziX :Nat:=80
theorem zlm :jU Try.prog Try.f80.ntmps 4 [] jQ [] zjT ziX:=jY mix Try.func80 (by kernel_rfl) rfl
def gP :List zl:=[(none,.asg 4 (.c (.int .u64 0)) true),(none,.asg 5 (.c (.int .u64 0)) true)]
def gO :List zl:=[oM 14 0,(none,.r (.bin 15 .and 0 (.t 14) (.c (.int .u64 4294967295)))),oS 6 15]
def gN :List zl:=[oM 16 0,(none,.r (.bin 17 .shr 0 (.t 16) (.c (.int .u64 32)))),oS 7 17]
def gM :List zl:=[oM 18 1,(none,.r (.bin 19 .and 0 (.t 18) (.c (.int .u64 4294967295)))),oS 8 19]
def gL :List zl:=[oM 20 1,(none,.r (.bin 21 .shr 0 (.t 20) (.c (.int .u64 32)))),oS 9 21]
def gK :List zl:=[oM 22 6,oM 23 8,oD 24 .mul 22 23,oS 10 24]
def gJ :List zl:=[oM 25 7,oM 26 8,oD 27 .mul 25 26,oM 28 10,(none,.r (.bin 29 .shr 0 (.t 28) (.c (.int .u64 32)))),oD 30 .add 27 29,oS 11 30]
def gI :List zl:=[oM 31 11,(none,.r (.bin 32 .and 0 (.t 31) (.c (.int .u64 4294967295)))),oS 12 32]
def gH :List zl:=[oM 33 11,(none,.r (.bin 34 .shr 0 (.t 33) (.c (.int .u64 32)))),oS 13 34]
def gG :List zl:=[oM 35 12,oM 36 6,oM 37 9,oD 38 .mul 36 37,oD 39 .add 35 38,oS 12 39]
def v6 :List zl:=[oM 40 7,oM 41 9,oD 42 .mul 40 41,oM 43 13,oD 44 .add 42 43,oM 45 12,(none,.r (.bin 46 .shr 0 (.t 45) (.c (.int .u64 32)))),oD 47 .add 44 46,oS 4 47]
def vZ :List zl:=[oM 48 0,oM 49 1,oD 50 .mul 48 49,oS 5 50]
def jj :List Nat:=[0,1,4,5,6,7,8,9,10,11,12,13]
def zjS :zC:=.seq (.reg jj gP jj) (.seq (.reg jj gO jj) (.seq (.reg jj gN jj) (.seq (.reg jj gM jj) (.seq (.reg jj gL jj) (.seq (.reg jj gK jj) (.seq (.reg jj gJ jj) (.seq (.reg jj gI jj) (.seq (.reg jj gH jj) (.seq (.reg jj gG jj) (.seq (.reg jj v6 jj) (.seq (.reg jj vZ jj) .ret)))))))))))
abbrev ziW :Nat:=84
theorem zll :jU Try.prog Try.f84.ntmps 2 [4,5] jj [(.tmp 4),(.tmp 5)] zjS ziW:=jY mix Try.func84 (by kernel_rfl) rfl
def ue :List zl:=[oI 4 0]
def ud :List zl:=[oM 5 0,oN 6 5,oF 7 6 1,oL 8 7 1,oM 9 1,oX 10 8 9 1,oL 11 10 1,(none,.r (.bin 12 .eql 0 (.t 11) (.c (.int .i64 (- (0+1))))))]
def gF :List zl:=[(none,.asg 4 (.c (.int .i64 (- (0+1)))) true)]
def gE :Zj:=.take [14,15] (oM 13 0) (.take [2,3,4,12,13,14,15] (oM 14 0) (.take [3,4,12,13,14,15] (oN 15 14) (.take [4,12,13,14,15] (oF 16 15 6) (.take [12,13,14,15] (oL 17 16 1) (.take [6,7,8,10,11,12,13,14,15] (oM 18 0) (.take [7,8,10,11,12,13,14,15] (oN 19 18) (.take [8,10,
 11,12,13,14,15] (oF 20 19 1) (.take [10,11,12,13,14,15] (oL 21 20 1) (.take [10,11,12,13,14,15] (oM 22 1) (.take [11,12,13,14,15] (oX 23 21 22 1) (.take [12,13,14,15] (oL 24 23 1) (.take [13,14,15] (oX 25 17 24 1) (.take [14,15] (oL 26 25 1) (.one 14 (qJ 27 64 13 26) (.one 15 (oS 4 27) .done)))))))))))))))
def Yr :List Nat:=[0,1,4,12]
def zgO :zC:=.seq (.reg Yr ue Yr) (.seq (.seq (.reg [0,1,4] ud Yr) (.cond (.t 12) (.seq (.reg Yr gF Yr) .ret) .skip)) (.seq (.draw Yr gE Yr) .ret))
abbrev zfZ :Nat:=85
theorem zgv :jU Try.prog Try.f85.ntmps 2 [4] Yr [(.tmp 4)] zgO zfZ:=jY mix Try.func85 (by kernel_rfl) rfl
def gD :List zl:=[oM 10 0,oM 11 1,qJ 12 75 10 11,oM 13 0,oM 14 2,qJ 15 75 13 14,oS 8 12,oS 9 15]
def gC :List zl:=[oM 16 0,oN 17 16,oF 18 17 10,oL 19 18 1,oM 20 8,oM 21 9,oX 22 19 20 1,oW 22 21 1]
def gB :List zl:=[oM 23 0,oN 24 23,oF 25 24 11,oL 26 25 1,oM 27 9,oM 28 3,oX 29 26 27 1,oW 29 28 1]
def W4 :List Nat:=[0,1,2,3,8,9]
def zjR :zC:=.seq (.reg W4 gD W4) (.seq (.reg W4 gC W4) (.reg W4 gB W4))
abbrev zfY :Nat:=86
theorem zlk :jU Try.prog Try.f86.ntmps 4 [] W4 [] zjR zfY:=jY mix Try.func86 (by kernel_rfl) rfl
end Go.Proofs.Ytmcfdfafeheihaa

namespace Go.Ga.Gl
open Go Go.Ga
abbrev Es :=List (Nat×Nat)
def ZV (a b:Nat×Nat):Prop:=a.1<b.1∨a.1=b.1∧a.2<b.2
instance (a b:Nat×Nat):Decidable (ZV a b):=inferInstanceAs (Decidable (a.1<b.1∨a.1=b.1∧a.2<b.2))
structure GR (n:Nat)(es:Es):Prop where
 hn:n≤4096
 hm:es.length≤65536
 ok:∀e∈es,e.1<e.2∧e.2<n
 up:es.Pairwise ZV
def zD (l:Es):List (Int×Int):=l.map fun e=>((e.1:Int),(e.2:Int))
theorem zz (l:Es):(zD l).length=l.length:=by simp[zD]
theorem Qn {l:Es}{k:Nat}{a b:Nat}(h:l[k]?=some (a,b)):(zD l)[k]?=some ((a:Int),(b:Int)):=by simp[zD,h]
theorem zcf (l:Es)(k:Nat):(zD l).drop k=zD (l.drop k):=by simp[zD]
theorem castE_append (l m:Es):zD (l++m)=zD l++zD m:=by simp[zD]
def JY (n:Int)(es:List (Int×Int))(i:Nat):Bool:=
 let e:=es.getD i (0,0)
 let p:=es.getD (i - 1) (0,0)
 decide (0≤e.1)&&decide (e.1<e.2)&&decide (e.2<n)&&(decide (i=0)||(decide (p.1<e.1)||decide (p.1=e.1)&&decide (p.2<e.2)))
def Zc (n:Int)(es:List (Int×Int)):Bool:=
 decide (0≤n)&&decide (n≤4096)&&decide (es.length≤65536)&&(List.range es.length).all (JY n es)
theorem Z3 {n:Int}{es:List (Int×Int)}{i:Nat}(hi:i<es.length)(h:JY n es i=false):Zc n es=false:=by
 have:(List.range es.length).all (JY n es)=false:=by
  rw[Bool.eq_false_iff]
  intro h1
  rw[List.all_eq_true] at h1
  have:=h1 i (List.mem_range.2 hi)
  rw[h] at this;cases this
 simp[Zc,this]
theorem yl {n:Int}{es:List (Int×Int)}(h0:0≤n)(h1:n≤4096)(h2:es.length≤65536)(h:∀i,i<es.length→JY n es i=true):Zc n es=true:=by
 simp only[Zc,Bool.and_eq_true,decide_eq_true_eq,List.all_eq_true,List.mem_range]
 exact⟨⟨⟨h0,h1⟩,h2⟩,h⟩
theorem Qd {α:Type}{R:α→α→Prop}(ht:∀a b c,R a b→R b c→R a c):∀{l:List α},(∀i a b,l[i]?=some a→l[i+1]?=some b→R a b)→l.Pairwise R
 |[],_=> .nil
 |[a],_=>by simp
 | a::b::l,h=>by
   have ih:(b::l).Pairwise R:=Qd ht fun i x y hx hy=>h (i+1) x y hx hy
   have hab:R a b:=h 0 a b rfl rfl
   refine List.Pairwise.cons ?_ ih
   intro c hc
   cases hc with
   |head=>exact hab
   |tail _ hc=>exact ht a b c hab (List.rel_of_pairwise_cons ih hc)
theorem qM (a b c:Nat×Nat)(h1:ZV a b)(h2:ZV b c):ZV a c:=by
 unfold ZV at*;omega
theorem QS (a:Nat×Nat):¬ZV a a:=by unfold ZV;omega
theorem zb7 (es:Es)(i:Nat):(zD es).getD i (0,0)=(((es.getD i (0,0)).1:Int),((es.getD i (0,0)).2:Int)):=by
 simp only[zD,List.getD_eq_getElem?_getD,List.getElem?_map]
 cases es[i]?<;>rfl
theorem vz (n:Nat)(es:Es)(i:Nat):JY (n:Int) (zD es) i=true↔
    (es.getD i (0,0)).1<(es.getD i (0,0)).2∧(es.getD i (0,0)).2<n∧(i=0∨ZV (es.getD (i - 1) (0,0)) (es.getD i (0,0))):=by
  simp only[JY,zb7,ZV,Bool.and_eq_true,Bool.or_eq_true,decide_eq_true_eq]
  omega
theorem je {n:Nat}{es:Es}(g:GR n es):Zc n (zD es)=true:=by
 refine yl (by omega) (by have:=g.hn;omega) (by rw[zz];exact g.hm) fun i hi=>?_
 rw[zz] at hi
 rw[vz]
 have hmem:es.getD i (0,0)∈es:=by
  rw[List.getD_eq_getElem?_getD,List.getElem?_eq_getElem hi];exact List.getElem_mem hi
 have h1:=g.ok _ hmem
 refine⟨h1.1,h1.2,?_⟩
 cases i with
 |zero=>exact .inl rfl
 | succ i=>
   right
   have:=List.pairwise_iff_getElem.1 g.up i (i+1) (by omega) hi (by omega)
   simpa[List.getD_eq_getElem?_getD,List.getElem?_eq_getElem hi,List.getElem?_eq_getElem (show i<es.length by omega)] using this
theorem zeQ {n:Nat}{es:Es}(h:Zc n (zD es)=true):GR n es:=by
 simp only[Zc,Bool.and_eq_true,decide_eq_true_eq,List.all_eq_true,List.mem_range,zz] at h
 obtain⟨⟨⟨_,h1⟩,h2⟩,h3⟩:=h
 have h4:∀i,i<es.length→(es.getD i (0,0)).1<(es.getD i (0,0)).2∧(es.getD i (0,0)).2<n∧(i=0∨ZV (es.getD (i - 1) (0,0)) (es.getD i (0,0))):=
  fun i hi=>(vz n es i).1 (h3 i hi)
 refine⟨by omega,h2,?_,?_⟩
 · intro e he
   obtain⟨i,hi,rfl⟩:=List.mem_iff_getElem.1 he
   have:=h4 i hi
   rw[List.getD_eq_getElem?_getD,List.getElem?_eq_getElem hi] at this
   exact⟨this.1,this.2.1⟩
 · refine Qd qM fun i a b ha hb=>?_
   have hi:i+1<es.length:=(List.getElem?_eq_some_iff.1 hb).1
   have:=(h4 (i+1) hi).2.2
   rw[List.getD_eq_getElem?_getD,List.getD_eq_getElem?_getD,hb,Nat.add_sub_cancel,ha] at this
   exact this.resolve_left (by omega)
theorem y4 {n:Int}{es:List (Int×Int)}(h:Zc n es=true):∃(N:Nat) (es':Es),n=N∧es=zD es'∧GR N es':=by
 have h':=h
 simp only[Zc,Bool.and_eq_true,decide_eq_true_eq,List.all_eq_true,List.mem_range] at h
 obtain⟨⟨⟨h0,h1⟩,h2⟩,h3⟩:=h
 have e:es=zD (es.map fun e=>(e.1.toNat,e.2.toNat)):=by
  apply List.ext_getElem (by simp[zD])
  intro i hi hi'
  have:=h3 i hi
  simp only[JY,Bool.and_eq_true,decide_eq_true_eq,List.getD_eq_getElem?_getD,List.getElem?_eq_getElem hi,Option.getD_some] at this
  obtain⟨⟨⟨a,b⟩,c⟩,_⟩:=this
  simp only[zD,List.getElem_map]
  apply Prod.ext
  · show _=((es[i].1.toNat:Nat):Int);omega
  · show _=((es[i].2.toNat:Nat):Int);omega
 refine⟨n.toNat,_,by omega,e,?_⟩
 apply zeQ
 rw[←e,show((n.toNat:Nat):Int)=n by omega]
 exact h'
theorem GR.nodup {n:Nat}{es:Es}(g:GR n es):es.Nodup:=g.up.imp fun{a b} h e=>by subst e;exact QS _ h
def Wg (l:Es)(e:Nat×Nat):Es:=(l.filter fun x=>decide (ZV x e))++e::(l.filter fun x=> !decide (ZV x e))
theorem zfH {l:Es}{e x:Nat×Nat}:x∈Wg l e↔x=e∨x∈l:=by
 simp only[Wg,List.mem_append,List.mem_filter,List.mem_cons]
 by_cases h:ZV x e<;>simp[h]
 constructor
 · rintro(h|h)
   · exact .inr h
   · exact .inl h
 · rintro(rfl|h)
   · exact absurd h (QS _)
   · exact .inl h
theorem Xf (l:Es)(e:Nat×Nat):(Wg l e).length=l.length+1:=by
 have:∀(p:Nat×Nat→Bool),(l.filter p).length+(l.filter fun x=> !p x).length=l.length:=by
  intro p
  induction l with
  |nil=>rfl
  | cons a l ih=>
    cases h:p a<;>simp[h]<;>omega
 simp only[Wg,List.length_append,List.length_cons]
 have:=this fun x=>decide (ZV x e)
 omega
theorem GR.put {n:Nat}{es:Es}(g:GR n es){e:Nat×Nat}(h1:e.1<e.2)(h2:e.2<n)(h3:e∉es)(h4:es.length<65536):GR n (Wg es e):=by
 refine⟨g.hn,by rw[Xf];omega,?_,?_⟩
 · intro x hx
   rcases zfH.1 hx with rfl|hx
   · exact⟨h1,h2⟩
   · exact g.ok x hx
 · refine List.pairwise_append.2 ⟨g.up.filter _,List.pairwise_cons.2 ⟨?_,g.up.filter _⟩,?_⟩
   · intro x hx
     simp only[List.mem_filter,Bool.not_eq_true',decide_eq_false_iff_not] at hx
     have:x≠e:=fun h=>h3 (h▸hx.1)
     have h5:¬(x.1=e.1∧x.2=e.2):=fun h=>this (Prod.ext h.1 h.2)
     have h6:=hx.2
     unfold ZV at*
     omega
   · intro x hx y hy
     simp only[List.mem_filter,decide_eq_true_eq] at hx
     have hxe:ZV x e:=hx.2
     simp only[List.mem_cons,List.mem_filter,Bool.not_eq_true',decide_eq_false_iff_not] at hy
     rcases hy with rfl|hy
     · exact hxe
     · refine qM _ e _ hxe ?_
       have:y≠e:=fun h=>h3 (h▸hy.1)
       have h5:¬(y.1=e.1∧y.2=e.2):=fun h=>this (Prod.ext h.1 h.2)
       have h6:=hy.2
       unfold ZV at*
       omega
theorem zbN {l:Es}{e:Nat×Nat}{k:Nat}(hk:k≤l.length)(h1:∀x∈l.take k,ZV x e)(h2:∀x∈l.drop k,¬ZV x e):l.take k++e::l.drop k=Wg l e:=by
 unfold Wg
 have e1:(l.filter fun x=>decide (ZV x e))=l.take k:=by
  conv=>lhs;rw[←List.take_append_drop k l]
  rw[List.filter_append,List.filter_eq_self.2 fun x hx=>decide_eq_true (h1 x hx),List.filter_eq_nil_iff.2 fun x hx=>by simpa using h2 x hx,List.append_nil]
 have e2:(l.filter fun x=> !decide (ZV x e))=l.drop k:=by
  conv=>lhs;rw[←List.take_append_drop k l]
  rw[List.filter_append,List.filter_eq_nil_iff.2 fun x hx=>by simpa using h1 x hx,List.filter_eq_self.2 fun x hx=>by simpa using h2 x hx,List.nil_append]
 rw[e1,e2]
def ZU (es:Es)(v:Nat):List Nat:=(es.filter fun e=>decide (e.2=v)).map (·.1)
def Z7 (es:Es)(v:Nat):List Nat:=(es.filter fun e=>decide (e.1=v)).map (·.2)
def zZ (es:Es)(v:Nat):List Nat:=ZU es v++Z7 es v
def JT (n:Nat)(es:Es):List (List Nat):=(List.range n).map (zZ es)
def ZY (es:Es)(a b:Nat):Prop:=(a,b)∈es∨(b,a)∈es
theorem yT {es:Es}{a b:Nat}(h:ZY es a b):ZY es b a:=h.symm
theorem JH {es:Es}{v w:Nat}:w∈zZ es v↔ZY es v w:=by
 simp only[zZ,ZU,Z7,List.mem_append,List.mem_map,List.mem_filter,decide_eq_true_eq,ZY]
 constructor
 · rintro(⟨⟨a,b⟩,⟨h,h1⟩,h2⟩|⟨⟨a,b⟩,⟨h,h1⟩,h2⟩)
   · right;simp at h1 h2;subst h1 h2;exact h
   · left;simp at h1 h2;subst h1 h2;exact h
 · rintro(h|h)
   · exact .inr ⟨(v,w),⟨h,rfl⟩,rfl⟩
   · exact .inl ⟨(w,v),⟨h,rfl⟩,rfl⟩
theorem jM (n:Nat)(es:Es):(JT n es).length=n:=by simp[JT]
theorem Xr {n:Nat}{es:Es}{v:Nat}(h:v<n):(JT n es)[v]?=some (zZ es v):=by simp[JT,h]
def Kj (es:Es)(O:Nat→Prop)(f:Nat→Nat):Prop:=∀a b,ZY es a b→¬O a→¬O b→f a=f b
structure Zd (n:Nat)(es:Es)(O:Nat→Prop)(ps:List (List Nat)):Prop where
 mem:∀v,(∃p∈ps,v∈p)↔v<n∧¬O v
 ne:∀p∈ps,p≠ []
 inc:∀p∈ps,p.Pairwise (· < ·)
 heads:ps.Pairwise fun p q=>∀a∈p.head?,∀b∈q.head?,a<b
 disj:ps.Pairwise fun p q=>∀v∈p,v∉q
 edge:∀p∈ps,∀a∈p,∀b,ZY es a b→b<n→¬O b→b∈p
 conn:∀p∈ps,∀f,Kj es O f→∀a∈p,∀b∈p,f a=f b
theorem zcS :∀{p q:List Nat},p.Pairwise (· < ·)→q.Pairwise (· < ·)→(∀x,x∈p↔x∈q)→p=q
 |[],[],_,_,_=>rfl
 |[],b::q,_,_,h=>by have:=(h b).2 (List.mem_cons_self ..);cases this
 |a::p,[],_,_,h=>by have:=(h a).1 (List.mem_cons_self ..);cases this
 | a ::p,b::q,hp,hq,h=>by
   have hp':=List.pairwise_cons.1 hp
   have hq':=List.pairwise_cons.1 hq
   have hab:a=b:=by
    rcases List.mem_cons.1 ((h a).1 (List.mem_cons_self ..)) with e|e
    · exact e
    · rcases List.mem_cons.1 ((h b).2 (List.mem_cons_self ..)) with e'|e'
      · exact e'.symm
      · have:=hq'.1 a e;have:=hp'.1 b e';omega
   subst hab
   rw[zcS hp'.2 hq'.2 fun x=>?_]
   constructor
   · intro hx
     rcases List.mem_cons.1 ((h x).1 (List.mem_cons_of_mem _ hx)) with e|e
     · subst e;exact absurd (hp'.1 x hx) (by omega)
     · exact e
   · intro hx
     rcases List.mem_cons.1 ((h x).2 (List.mem_cons_of_mem _ hx)) with e|e
     · subst e;exact absurd (hq'.1 x hx) (by omega)
     · exact e
theorem vO :∀{ps qs:List (List Nat)},(∀p∈ps,p≠ [])→(∀q∈qs,q≠ [])→
    (ps.Pairwise fun p q=>∀a∈p.head?,∀b∈q.head?,a<b)→(qs.Pairwise fun p q=>∀a∈p.head?,∀b∈q.head?,a<b)→(∀p,p∈ps↔p∈qs)→ps=qs
  |[],[],_,_,_,_,_=>rfl
  |[],b::q,_,_,_,_,h=>by have:=(h b).2 (List.mem_cons_self ..);cases this
  |a::p,[],_,_,_,_,h=>by have:=(h a).1 (List.mem_cons_self ..);cases this
  | a ::p,b::q,n1,n2,hp,hq,h=>by
    have hp':=List.pairwise_cons.1 hp
    have hq':=List.pairwise_cons.1 hq
    have key:∀(x y:List Nat),x≠ []→y≠ []→(∀a∈x.head?,∀b∈y.head?,a<b)→(∀a∈y.head?,∀b∈x.head?,a<b)→False:=by
      intro x y hx hy h1 h2
      cases x with
      |nil=>exact hx rfl
      | cons u x=>cases y with
        |nil=>exact hy rfl
        |cons w y=>have:=h1 u rfl w rfl;have:=h2 w rfl u rfl;omega
    have hab:a=b:=by
      rcases List.mem_cons.1 ((h a).1 (List.mem_cons_self ..)) with e|e
      · exact e
      · rcases List.mem_cons.1 ((h b).2 (List.mem_cons_self ..)) with e'|e'
        · exact e'.symm
        · exact(key a b (n1 a (List.mem_cons_self ..)) (n2 b (List.mem_cons_self ..)) (hp'.1 b e') (hq'.1 a e)).elim
    subst hab
    have self:∀x,x≠ []→¬(∀u∈x.head?,∀w∈x.head?,u<w):=fun x hx h1=>key x x hx hx h1 h1
    rw[vO (fun p hp=>n1 p (List.mem_cons_of_mem _ hp)) (fun p hp=>n2 p (List.mem_cons_of_mem _ hp)) hp'.2 hq'.2 fun x=>?_]
    constructor
    · intro hx
      rcases List.mem_cons.1 ((h x).1 (List.mem_cons_of_mem _ hx)) with e|e
      · subst e;exact(self x (n1 x (List.mem_cons_self ..)) (hp'.1 x hx)).elim
      · exact e
    · intro hx
      rcases List.mem_cons.1 ((h x).2 (List.mem_cons_of_mem _ hx)) with e|e
      · subst e;exact(self x (n1 x (List.mem_cons_self ..)) (hq'.1 x hx)).elim
      · exact e
open Classical in
theorem Xj {n:Nat}{es:Es}{O:Nat→Prop}{ps qs:List (List Nat)}(hes:∀a b,ZY es a b→a<n∧b<n)(P:Zd n es O ps)(Q:Zd n es O qs){p:List Nat}(hp:p∈ps){q:List Nat}(hq:q∈qs){v:Nat}(h1:v∈p)(h2:v∈q):∀x∈p,x∈q:=by
 intro x hx
 have hfl:Kj es O (fun x=>if x∈q then 1 else 0):=by
  intro a b hab ha hb
  have hl:=hes a b hab
  by_cases h:a∈q
  · simp[h,Q.edge q hq a h b hab hl.2 hb]
  · have:b∉q:=fun h'=>h (Q.edge q hq b h' a (yT hab) hl.1 ha)
    simp[h,this]
 have:=P.conn p hp _ hfl v h1 x hx
 simp only[h2,if_true] at this
 by_cases h:x∈q
 · exact h
 · simp[h] at this
theorem Zd.unique {n:Nat}{es:Es}{O:Nat→Prop}{ps qs:List (List Nat)}(hes:∀a b,ZY es a b→a<n∧b<n)(P:Zd n es O ps)(Q:Zd n es O qs):ps=qs:=by
 have half:∀{ps qs:List (List Nat)},Zd n es O ps→Zd n es O qs→∀p∈ps,p∈qs:=by
  intro ps qs P Q p hp
  obtain⟨v,hv⟩:=List.exists_mem_of_ne_nil p (P.ne p hp)
  obtain⟨q,hq,hvq⟩:=(Q.mem v).2 ((P.mem v).1 ⟨p,hp,hv⟩)
  rw[zcS (P.inc p hp) (Q.inc q hq) fun x=>⟨Xj hes P Q hp hq hv hvq x,Xj hes Q P hq hp hvq hv x⟩]
  exact hq
 exact vO P.ne Q.ne P.heads Q.heads fun p=>⟨half P Q p,half Q P p⟩
theorem GR.adj_lt {n:Nat}{es:Es}(g:GR n es):∀a b,ZY es a b→a<n∧b<n:=by
 intro a b h
 rcases h with h|h
 · obtain⟨h1,h2⟩:=g.ok _ h;simp only at h1 h2;exact⟨by omega,h2⟩
 · obtain⟨h1,h2⟩:=g.ok _ h;simp only at h1 h2;exact⟨h2,by omega⟩
theorem vu {n:Nat}{es:Es}{O:Nat→Prop}{ps:List (List Nat)}(P:Zd n es O ps){p:List Nat}(hp:p∈ps):p.length≤n:=by
 have:=(List.pairwise_iff_getElem.1 (P.inc p hp))
 have key:∀(m:Nat) (q:List Nat),q.Pairwise (· < ·)→(∀x∈q,m≤x∧x<n)→q.length≤n - m:=by
  intro m q
  induction q generalizing m with
  |nil=>intro _ _;exact Nat.zero_le _
  | cons a q ih=>
    intro h1 h2
    have h1':=List.pairwise_cons.1 h1
    have ha:=h2 a (List.mem_cons_self ..)
    have:=ih (a+1) h1'.2 fun x hx=>⟨h1'.1 x hx,(h2 x (List.mem_cons_of_mem _ hx)).2⟩
    simp only[List.length_cons];omega
 have:=key 0 p (P.inc p hp) fun x hx=>⟨Nat.zero_le _,((P.mem x).1 ⟨p,hp,hx⟩).1⟩
 omega
theorem Xk {n:Nat}{es:Es}{O:Nat→Prop}{ps:List (List Nat)}(P:Zd n es O ps):ps.length≤n:=by
 have h:(ps.map fun p=>p.headD 0).Pairwise (· < ·):=by
  refine List.pairwise_map.2 (P.heads.imp_of_mem fun{p q} hp hq h=>?_)
  have h1:=P.ne p hp;have h2:=P.ne q hq
  cases p with
  |nil=>exact absurd rfl h1
  | cons a p=>cases q with
    |nil=>exact absurd rfl h2
    |cons b q=>exact h a rfl b rfl
 have h2:∀x∈ps.map fun p=>p.headD 0,x<n:=by
  intro x hx
  obtain⟨p,hp,rfl⟩:=List.mem_map.1 hx
  cases p with
  |nil=>exact absurd rfl (P.ne _ hp)
  |cons a p=>exact((P.mem a).1 ⟨_,hp,List.mem_cons_self ..⟩).1
 have key:∀(m:Nat) (q:List Nat),q.Pairwise (· < ·)→(∀x∈q,m≤x∧x<n)→q.length≤n - m:=by
  intro m q
  induction q generalizing m with
  |nil=>intro _ _;exact Nat.zero_le _
  | cons a q ih=>
    intro h1 h2
    have h1':=List.pairwise_cons.1 h1
    have ha:=h2 a (List.mem_cons_self ..)
    have:=ih (a+1) h1'.2 fun x hx=>⟨h1'.1 x hx,(h2 x (List.mem_cons_of_mem _ hx)).2⟩
    simp only[List.length_cons];omega
 have:=key 0 _ h fun x hx=>⟨Nat.zero_le _,h2 x hx⟩
 simpa using this
def Zg (ps:List (List Nat)):Nat:=(ps.map fun p=>p.length%2).sum
abbrev DS :=List Bool×List Nat×List Nat
def come (s:DS)(v:Nat):DS:=if s.1.getD v false=true then s else(s.1.set v true,s.2.1++[v],s.2.2++[v])
def Jv (s:DS)(l:List Nat):DS:=l.foldl come s
theorem ua (s:DS)(l:List Nat)(k:Nat)(x:Nat)(h:l[k]?=some x):Jv s (l.take (k+1))=come (Jv s (l.take k)) x:=by
 rw[List.take_add_one,h]
 simp[Jv]
def JF (d:List Bool):Nat:=(d.filter fun b=> !b).length
theorem wa (d:List Bool)(v x:Nat):(d.set v true).getD x false=true↔d.getD x false=true∨(x=v∧v<d.length):=by
 simp only[List.getD_eq_getElem?_getD,List.getElem?_set]
 by_cases h:v=x
 · subst h
   by_cases h2:v<d.length
   · simp[h2]
   · simp[h2]
 · simp[h,Ne.symm h]
theorem xR :∀(d:List Bool) (v:Nat),v<d.length→d.getD v false=false→JF (d.set v true)+1=JF d
 |[],v,h,_=>by simp at h
 | b::d,0,_,h=>by
   simp at h;subst h;simp[JF]
 | b::d,v+1,h,h2=>by
   have:=xR d v (by simpa using h) (by simpa using h2)
   cases b<;>simp[JF] at*<;>omega
structure WI (n:Nat)(es:Es)(D:List Bool)(v:Nat)(s:DS):Prop where
 len:s.1.length=n
 done:∀x,s.1.getD x false=true↔D.getD x false=true∨x∈s.2.1
 nd:s.2.1.Nodup
 now:∀x∈s.2.1,x<n∧D.getD x false=false
 rest:∀x∈s.2.2,x∈s.2.1
 rl:s.2.2.length≤s.2.1.length
 conn:∀f,Kj es (fun x=>D.getD x false=true) f→∀x∈s.2.1,f x=f v
theorem Zx :∀{l m:List Nat},l.Nodup→(∀x∈l,x∈m)→l.length≤m.length
 |[],m,_,_=>Nat.zero_le _
 | a::l,m,h,hm=>by
   have h':=List.pairwise_cons.1 h
   have ha:=hm a (List.mem_cons_self ..)
   have:=Zx (l:=l) (m:=m.erase a) h'.2 fun x hx=>(List.mem_erase_of_ne fun e=>h'.1 x hx e.symm).2 (hm x (List.mem_cons_of_mem _ hx))
   rw[List.length_erase_of_mem ha] at this
   have:=List.length_pos_of_mem ha
   simp;omega
theorem WI.size {n:Nat}{es:Es}{D:List Bool}{v:Nat}{s:DS}(w:WI n es D v s):s.2.1.length≤n:=by
 have:=Zx w.nd (m:=List.range n) fun x hx=>List.mem_range.2 (w.now x hx).1
 simpa using this
theorem WI.start {n:Nat}{es:Es}{D:List Bool}{v:Nat}(hD:D.length=n):WI n es D v (D,[],[]):=
 ⟨hD,fun x=>by simp,List.nodup_nil,fun x h=>by simp at h,fun x h=>by simp at h,Nat.le_refl _,fun f _ x h=>by simp at h⟩
theorem WI.come {n:Nat}{es:Es}{D:List Bool}{v:Nat}{s:DS}(w:WI n es D v s){x:Nat}(hx:x<n)(hc:x=v∨∃u∈s.2.1,ZY es u x):WI n es D v (come s x):=by
 unfold Gl.come
 split
 · exact w
 · rename_i h
   have hD:D.getD x false=false:=by
    cases e:D.getD x false with
    |false=>rfl
    |true=>exact absurd ((w.done x).2 (.inl e)) h
   have hn:x∉s.2.1:=fun e=>h ((w.done x).2 (.inr e))
   refine⟨by simpa using w.len,fun y=>?_,?_,?_,?_,by simp;exact w.rl,?_⟩
   · show(s.1.set x true).getD y false=true↔_
     rw[wa,w.done,w.len,List.mem_append,List.mem_singleton]
     constructor
     · rintro(h|h)
       · exact h.imp id .inl
       · exact .inr (.inr h.1)
     · rintro(h|h|h)
       · exact .inl (.inl h)
       · exact .inl (.inr h)
       · exact .inr ⟨h,hx⟩
   · exact List.nodup_append.2 ⟨w.nd,by simp,fun a ha b hb e=>by simp at hb;subst hb;subst e;exact hn ha⟩
   · intro y hy
     rcases List.mem_append.1 hy with hy|hy
     · exact w.now y hy
     · simp at hy;subst hy;exact⟨hx,hD⟩
   · intro y hy
     rcases List.mem_append.1 hy with hy|hy
     · exact List.mem_append_left _ (w.rest y hy)
     · exact List.mem_append_right _ hy
   · intro f hf y hy
     rcases List.mem_append.1 hy with hy|hy
     · exact w.conn f hf y hy
     · simp at hy;subst hy
       rcases hc with rfl|⟨u,hu,ha⟩
       · rfl
       · rw[←w.conn f hf u hu]
         have h1:=(w.now u hu).2
         exact(hf u y ha (by show¬(D.getD u false=true);rw[h1];simp) (by show¬(D.getD y false=true);rw[hD];simp)).symm
theorem vY {s:DS}{x y:Nat}(h:s.1.getD y false=true):(come s x).1.getD y false=true:=by
 unfold come
 split
 · exact h
 · exact(wa _ _ _).2 (.inl h)
theorem zeD {s:DS}{x:Nat}(h:x<s.1.length):(come s x).1.getD x false=true:=by
 unfold come
 split
 · assumption
 · exact(wa _ _ _).2 (.inr ⟨rfl,h⟩)
theorem gy {s:DS}{x y:Nat}(h:y∈s.2.1):y∈(come s x).2.1:=by
 unfold come
 split
 · exact h
 · exact List.mem_append_left _ h
theorem vX {s:DS}{x y:Nat}(h:y∈(come s x).2.1):y∈s.2.1∨y∈(come s x).2.2:=by
 unfold come at*
 split at h
 · rename_i h1;rw[if_pos h1];exact .inl h
 · rename_i h1;rw[if_neg h1]
   rcases List.mem_append.1 h with h|h
   · exact .inl h
   · exact .inr (List.mem_append_right _ h)
theorem zeC {s:DS}{x y:Nat}(h:y∈s.2.2):y∈(come s x).2.2:=by
 unfold come
 split
 · exact h
 · exact List.mem_append_left _ h
theorem Kb {s:DS}{x:Nat}(h:x<s.1.length):2*JF (come s x).1+(come s x).2.2.length≤2*JF s.1+s.2.2.length:=by
 unfold come
 split
 · exact Nat.le_refl _
 · rename_i h1
   have:=xR s.1 x h (by simpa using h1)
   simp only[List.length_append,List.length_singleton]
   omega
def zhx (es:Es)(U:Nat→Prop)(s:DS):Prop:=∀x∈s.2.1,x∉s.2.2→¬U x→∀y,ZY es x y→s.1.getD y false=true
structure WJ (n:Nat)(es:Es)(D:List Bool)(v:Nat)(s:DS):Prop extends WI n es D v s where
 gone:zhx es (fun _=>False) s
 self:v∈s.2.1
theorem gx {n:Nat}{es:Es}(hes:∀a b,ZY es a b→a<n∧b<n){D:List Bool}{v u:Nat}{s:DS}(w:WI n es D v s)(hu:u∈s.2.1)(hg:zhx es (fun x=>x=u) s):
    ∀k,k≤(zZ es u).length→
    WI n es D v (Jv s ((zZ es u).take k))∧u∈(Jv s ((zZ es u).take k)).2.1∧zhx es (fun x=>x=u) (Jv s ((zZ es u).take k))∧
    (∀y∈(zZ es u).take k,(Jv s ((zZ es u).take k)).1.getD y false=true)∧
    2*JF (Jv s ((zZ es u).take k)).1+(Jv s ((zZ es u).take k)).2.2.length≤2*JF s.1+s.2.2.length∧(∀x∈s.2.1,x∈(Jv s ((zZ es u).take k)).2.1):=by
  intro k
  induction k with
  |zero=>intro _;simp only[List.take_zero,Jv,List.foldl_nil];exact⟨w,hu,hg,fun y hy=>by simp at hy,Nat.le_refl _,fun x h=>h⟩
  | succ k ih=>
    intro hk
    obtain⟨h1,h2,h3,h4,h5,h6⟩:=ih (by omega)
    have hx:(zZ es u)[k]?=some ((zZ es u)[k]'(by omega)):=List.getElem?_eq_getElem _
    generalize (zZ es u)[k]'(by omega)=x at hx
    have hax:ZY es u x:=JH.1 (List.mem_iff_getElem?.2 ⟨k,hx⟩)
    have hxn:=(hes u x hax).2
    rw[ua _ _ _ _ hx]
    refine⟨h1.come hxn (.inr ⟨u,h2,hax⟩),gy h2,?_,?_,Nat.le_trans (Kb (by rw[h1.len];exact hxn)) h5,fun x h=>gy (h6 x h)⟩
    · intro y hy hr hne z hz
      rcases vX hy with hy|hy
      · exact vY (h3 y hy (fun e=>hr (zeC e)) hne z hz)
      · exact absurd hy hr
    · intro y hy
      rw[List.take_add_one,hx] at hy
      rcases List.mem_append.1 hy with hy|hy
      · exact vY (h4 y hy)
      · simp at hy;subst hy;exact zeD (by rw[h1.len];exact hxn)
theorem WJ.step {n:Nat}{es:Es}(hes:∀a b,ZY es a b→a<n∧b<n){D:List Bool}{v u:Nat}{d:List Bool}{nw r:List Nat}(w:WJ n es D v (d,nw,r++[u])):
    WJ n es D v (Jv (d,nw,r) (zZ es u))∧2*JF (Jv (d,nw,r) (zZ es u)).1+(Jv (d,nw,r) (zZ es u)).2.2.length<2*JF d+(r++[u]).length:=by
  have w1:WI n es D v (d,nw,r):=⟨w.len,w.done,w.nd,w.now,fun x h=>w.rest x (List.mem_append_left _ h),by have:=w.rl;simp at this⊢;omega,w.conn⟩
  have hu:u∈nw:=w.rest u (List.mem_append_right _ (List.mem_singleton.2 rfl))
  have hg:zhx es (fun x=>x=u) (d,nw,r):=fun x hx hr hne y hy=>w.gone x hx (fun e=>by
    rcases List.mem_append.1 e with e|e
    · exact hr e
    · simp at e;exact hne e) (fun e=>e) y hy
  obtain⟨h1,h2,h3,h4,h5,h6⟩:=gx hes w1 hu hg (zZ es u).length (Nat.le_refl _)
  rw[List.take_length] at*
  refine⟨⟨h1,fun x hx hr _ y hy=>?_,h6 v w.self⟩,by simp at h5⊢;omega⟩
  by_cases e:x=u
  · subst e;exact h4 y (JH.2 hy)
  · exact h3 x hx hr e y hy
theorem WJ.start {n:Nat}{es:Es}{D:List Bool}{v:Nat}(hD:D.length=n)(hv:v<n)(h0:D.getD v false=false):WJ n es D v (come (D,[],[]) v):=by
 refine⟨(WI.start hD).come hv (.inl rfl),?_,?_⟩
 · intro x hx hr _ y _
   rcases vX hx with h|h
   · simp at h
   · exact absurd h hr
 · have:¬D.getD v false=true:=by rw[h0];simp
   unfold come;rw[if_neg this];simp
structure Kh (n:Nat)(es:Es)(D:List Bool)(v:Nat)(D':List Bool)(p:List Nat):Prop where
 len:D'.length=n
 done:∀x,D'.getD x false=true↔D.getD x false=true∨x∈p
 inc:p.Pairwise (· < ·)
 mem:∀x∈p,x<n∧D.getD x false=false
 self:v∈p
 closed:∀x∈p,∀y,ZY es x y→D'.getD y false=true
 conn:∀f,Kj es (fun x=>D.getD x false=true) f→∀x∈p,f x=f v
theorem WJ.piece {n:Nat}{es:Es}{D:List Bool}{v:Nat}{d:List Bool}{nw p:List Nat}(w:WJ n es D v (d,nw,[]))(hp:p.Perm nw)(hs:p.Pairwise (· ≤ ·)):Kh n es D v d p where
 len:=w.len
 done x:=by rw[w.done,hp.mem_iff]
 inc:=by
  have nd:p.Nodup:=hp.nodup_iff.2 w.nd
  refine(hs.and nd).imp fun{a b} h=>?_
  have:=h.1;have:=h.2;omega
 mem x hx:=w.now x (hp.mem_iff.1 hx)
 self:=hp.mem_iff.2 w.self
 closed x hx y hy:=w.gone x (hp.mem_iff.1 hx) (by simp) (fun e=>e) y hy
 conn f hf x hx:=w.conn f hf x (hp.mem_iff.1 hx)
structure OI (n:Nat)(es:Es)(O:Nat→Prop)(v:Nat)(D:List Bool)(ps:List (List Nat)):Prop where
 len:D.length=n
 done:∀x,x<n→(D.getD x false=true↔O x∨∃p∈ps,x∈p)
 out:∀p∈ps,∀x∈p,x<n∧¬O x
 before:∀x,x<v→x<n→D.getD x false=true
 ne:∀p∈ps,p≠ []
 inc:∀p∈ps,p.Pairwise (· < ·)
 low:∀p∈ps,∀a∈p.head?,a<v
 heads:ps.Pairwise fun p q=>∀a∈p.head?,∀b∈q.head?,a<b
 disj:ps.Pairwise fun p q=>∀v∈p,v∉q
 edge:∀p∈ps,∀a∈p,∀b,ZY es a b→b<n→¬O b→b∈p
 conn:∀p∈ps,∀f,Kj es O f→∀a∈p,∀b∈p,f a=f b
theorem OI.start {n:Nat}{es:Es}{O:Nat→Prop}{D:List Bool}(hD:D.length=n)(h:∀x,x<n→(D.getD x false=true↔O x)):OI n es O 0 D []:=
 ⟨hD,fun x hx=>by rw[h x hx];simp,fun p hp=>by simp at hp,fun x hx=>by omega,fun p hp=>by simp at hp,fun p hp=>by simp at hp,fun p hp=>by simp at hp,.nil,.nil,fun p hp=>by simp at hp,fun p hp=>by simp at hp⟩
theorem OI.skip {n:Nat}{es:Es}{O:Nat→Prop}{v:Nat}{D:List Bool}{ps:List (List Nat)}(w:OI n es O v D ps)(h:D.getD v false=true):OI n es O (v+1) D ps:=
 { w with
  before:=fun x hx hn=>by
   rcases Nat.lt_or_ge x v with h1|h1
   · exact w.before x h1 hn
   · have:x=v:=by omega
     subst this;exact h
  low:=fun p hp a ha=>Nat.lt_succ_of_lt (w.low p hp a ha)}
theorem OI.take {n:Nat}{es:Es}(hes:∀a b,ZY es a b→a<n∧b<n){O:Nat→Prop}{v:Nat}{D D':List Bool}{ps:List (List Nat)}{p:List Nat}(w:OI n es O v D ps)(hp:Kh n es D v D' p):OI n es O (v+1) D' (ps++[p]):=by
 have hO:∀x∈p,¬O x:=fun x hx ho=>by
  have h1:=hp.mem x hx
  have:=(w.done x h1.1).2 (.inl ho)
  rw[h1.2] at this;cases this
 have hsep:∀q∈ps,∀x∈q,x∉p:=fun q hq x hx hxp=>by
  have h1:=hp.mem x hxp
  have:=(w.done x h1.1).2 (.inr ⟨q,hq,hx⟩)
  rw[h1.2] at this;cases this
 have hmin:∀x∈p,v≤x:=fun x hx=>by
  rcases Nat.lt_or_ge x v with h|h
  · have h1:=hp.mem x hx
    have:=w.before x h h1.1
    rw[h1.2] at this;cases this
  · exact h
 have hhead:∀a∈p.head?,a=v:=by
  intro a ha
  cases p with
  |nil=>cases ha
  | cons b p=>
    have e0:b=a:=by simpa using ha
    subst e0
    have h1:=hmin b (List.mem_cons_self ..)
    rcases List.mem_cons.1 hp.self with e|e
    · exact e.symm
    · have:=(List.pairwise_cons.1 hp.inc).1 v e;omega
 refine⟨hp.len,fun x hx=>?_,?_,fun x hx hn=>?_,?_,?_,?_,?_,?_,?_,?_⟩
 · rw[hp.done,w.done x hx]
   simp only[List.mem_append,List.mem_singleton]
   constructor
   · rintro((h|⟨q,h1,h2⟩)|h)
     · exact .inl h
     · exact .inr ⟨q,.inl h1,h2⟩
     · exact .inr ⟨p,.inr rfl,h⟩
   · rintro(h|⟨q,h1|h1,h2⟩)
     · exact .inl (.inl h)
     · exact .inl (.inr ⟨q,h1,h2⟩)
     · subst h1;exact .inr h2
 · intro q hq x hx
   rcases List.mem_append.1 hq with hq|hq
   · exact w.out q hq x hx
   · simp at hq;subst hq;exact⟨(hp.mem x hx).1,hO x hx⟩
 · rw[hp.done]
   rcases Nat.lt_or_ge x v with h1|h1
   · exact .inl (w.before x h1 hn)
   · have:x=v:=by omega
     subst this;exact .inr hp.self
 · intro q hq
   rcases List.mem_append.1 hq with hq|hq
   · exact w.ne q hq
   · simp at hq;subst hq;intro e;rw[e] at hp;exact absurd hp.self (by simp)
 · intro q hq
   rcases List.mem_append.1 hq with hq|hq
   · exact w.inc q hq
   · simp at hq;subst hq;exact hp.inc
 · intro q hq a ha
   rcases List.mem_append.1 hq with hq|hq
   · exact Nat.lt_succ_of_lt (w.low q hq a ha)
   · simp at hq;subst hq;rw[hhead a ha];omega
 · refine List.pairwise_append.2 ⟨w.heads,by simp,fun q hq r hr a ha b hb=>?_⟩
   simp at hr;subst hr
   rw[hhead b hb];exact w.low q hq a ha
 · refine List.pairwise_append.2 ⟨w.disj,by simp,fun q hq r hr x hx=>?_⟩
   simp at hr;subst hr
   exact hsep q hq x hx
 · intro q hq a ha b hab hb hob
   rcases List.mem_append.1 hq with hq|hq
   · exact w.edge q hq a ha b hab hb hob
   · simp at hq;subst hq
     rcases(hp.done b).1 (hp.closed a ha b hab) with h|h
     · rcases(w.done b hb).1 h with h|⟨q,hq,hbq⟩
       · exact absurd h hob
       · exact absurd ha (hsep q hq a (w.edge q hq b hbq a (yT hab) (hp.mem a ha).1 (hO a ha)))
     · exact h
 · intro q hq f hf a ha b hb
   rcases List.mem_append.1 hq with hq|hq
   · exact w.conn q hq f hf a ha b hb
   · simp at hq;subst hq
     have hf':Kj es (fun x=>D.getD x false=true) f:=by
      intro x y hxy hx hy
      have hl:=hes x y hxy
      exact hf x y hxy (fun ho=>hx ((w.done x hl.1).2 (.inl ho))) fun ho=>hy ((w.done y hl.2).2 (.inl ho))
     rw[hp.conn f hf' a ha,hp.conn f hf' b hb]
theorem OI.pieces {n:Nat}{es:Es}{O:Nat→Prop}{D:List Bool}{ps:List (List Nat)}(w:OI n es O n D ps):Zd n es O ps where
 mem v:=by
  constructor
  · rintro⟨p,hp,hv⟩;exact w.out p hp v hv
  · rintro⟨h1,h2⟩
    rcases(w.done v h1).1 (w.before v h1 h1) with h|h
    · exact absurd h h2
    · exact h
 ne:=w.ne
 inc:=w.inc
 heads:=w.heads
 disj:=w.disj
 edge:=w.edge
 conn:=w.conn
end Go.Ga.Gl
set_option maxRecDepth 100000
set_option maxHeartbeats 4000000
namespace Go.Proofs.Ytmcfdfafeheihaa
open Go Go.Ga Go.Ga.Gl
theorem gh (a:Int):zn Try.prog [] zi6 [.sc (.int .i64 a)] [] fun r h'=>r= .sc (.bool false)∧h'=[]:=by
 refine zlv rfl ?_
 unfold zj2 U5
 refine za fun KY hKY=>?_
 simp only[go_sem,GH]
 apply hKY
 refine za fun KY hKY=>?_
 simp only[go_sem,GG,ne_eq,not_true_eq_false]
 apply hKY
 refine zi ?_
 simp only[go_sem]
def UT (a b:Int):Int:=if a<b then -1 else if b<a then 1 else 0
theorem X0 (a b:Int):zn Try.prog [] zjd [.sc (.int .i64 a),.sc (.int .i64 b)] [] fun r h'=>r= .sc (.int .i64 (UT a b))∧h'=[]:=by
 refine zlD rfl ?_
 unfold zka jo
 refine za fun KY hKY=>?_
 simp only[go_sem,pP]
 apply hKY
 refine za fun KY hKY=>?_
 simp only[go_sem,pO]
 refine zx rfl (by simp only[go_sem]<;>rfl) ((gh _).mono ?_)
 rintro rr hh ⟨rfl,rfl⟩
 refine⟨rfl,rfl,rfl,?_⟩
 simp only[go_sem]
 apply hKY
 refine za fun KY hKY=>?_
 simp only[go_sem,pN]
 refine zx rfl (by simp only[go_sem]<;>rfl) ((gh _).mono ?_)
 rintro rr hh ⟨rfl,rfl⟩
 refine⟨rfl,rfl,rfl,?_⟩
 simp only[go_sem]
 apply hKY
 refine zf fun X1 hn1 he1 hr1=>?_
 refine za fun KY hKY=>?_
 simp only[go_sem,pM]
 apply hKY
 refine Zw ?_
 refine zh ?_
 repeat (first|refine hn1 _ ?_|refine he1 _ _ ?_)
 refine zf fun X2 hn2 he2 hr2=>?_
 refine za fun KY hKY=>?_
 simp only[go_sem,pL]
 apply hKY
 refine Zw ?_
 refine zh ?_
 repeat (first|refine hn2 _ ?_|refine he2 _ _ ?_|refine hn1 _ ?_|refine he1 _ _ ?_)
 unfold UT
 refine zf fun X3 hn3 he3 hr3=>?_
 refine za fun KY hKY=>?_
 simp only[go_sem,pK]
 apply hKY
 by_cases h:a<b
 · refine ZL (by first|rfl|(simp only[go_sem,h];try simp(disch:=omega) only[decide_eq_true,decide_eq_false])) ?_
   refine za fun KY hKY=>?_
   simp only[go_sem,Vi]
   apply hKY
   refine zi ?_
   repeat (first|refine hr3 _ ?_|refine hr2 _ ?_|refine hr1 _ ?_)
   simp only[go_sem,h]
 · refine ZB (by first|rfl|(simp only[go_sem,h];try simp(disch:=omega) only[decide_eq_true,decide_eq_false])) ?_
   refine zh ?_
   repeat (first|refine hn3 _ ?_|refine he3 _ _ ?_|refine hn2 _ ?_|refine he2 _ _ ?_|refine hn1 _ ?_|refine he1 _ _ ?_)
   refine zf fun X4 hn4 he4 hr4=>?_
   refine za fun KY hKY=>?_
   simp only[go_sem,Vh]
   apply hKY
   by_cases h2:b<a
   · refine ZL (by first|rfl|(simp only[go_sem,h2];try simp(disch:=omega) only[decide_eq_true,decide_eq_false])) ?_
     refine za fun KY hKY=>?_
     simp only[go_sem,Vg]
     apply hKY
     refine zi ?_
     repeat (first|refine hr4 _ ?_|refine hr3 _ ?_|refine hr2 _ ?_|refine hr1 _ ?_)
     simp only[go_sem,h,h2]
   · refine ZB (by first|rfl|(simp only[go_sem,h2];try simp(disch:=omega) only[decide_eq_true,decide_eq_false])) ?_
     refine zh ?_
     repeat (first|refine hn4 _ ?_|refine he4 _ _ ?_|refine hn3 _ ?_|refine he3 _ _ ?_|refine hn2 _ ?_|refine he2 _ _ ?_|refine hn1 _ ?_|refine he1 _ _ ?_)
     refine za fun KY hKY=>?_
     simp only[go_sem,Vf]
     apply hKY
     refine zi ?_
     repeat (first|refine hr4 _ ?_|refine hr3 _ ?_|refine hr2 _ ?_|refine hr1 _ ?_)
     simp only[go_sem,h,h2]
theorem XV :∀{l:List Int} {k:Nat},k<l.length→l.getD k 0≠0→(∀j,j<k→l.getD j 0=0)→l.find? (· ≠0)=some (l.getD k 0)
 |[],k,h,_,_=>by simp at h
 | a::l,0,_,h,_=>by
   have:a≠0:=by simpa using h
   simp[List.find?,this]
 | a::l,k+1,h,h2,hz=>by
   have h0:a=0:=by simpa using hz 0 (by omega)
   subst h0
   have ih:=XV (l:=l) (k:=k) (by simpa using h) (by simpa using h2) fun j hj=>by simpa using hz (j+1) (by omega)
   simp only[List.find?,ne_eq,not_true_eq_false,decide_false]
   simpa using ih
theorem vT :∀{l:List Int},(∀j,j<l.length→l.getD j 0=0)→l.find? (· ≠0)=none
 |[],_=>rfl
 | a::l,hz=>by
   have h0:a=0:=by simpa using hz 0 (by simp)
   subst h0
   have ih:=vT (l:=l) fun j hj=>by simpa using hz (j+1) (by simp;omega)
   simp only[List.find?,ne_eq,not_true_eq_false,decide_false]
   simpa using ih
theorem zmE (l:List Int)(hl:l.length≤1000):zn Try.prog [] zje [.imm 1 (zk l)] [] fun r h'=>r= .sc (.int .i64 ((l.find? (· ≠0)).getD 0))∧h'=[]:=by
 refine zlE rfl ?_
 unfold zkb JL
 refine za fun KY hKY=>?_
 simp only[go_sem,pY]
 apply hKY
 refine za fun KY hKY=>?_
 simp only[go_sem,pX]
 apply hKY
 refine zf fun X1 hn1 he1 hr1=>?_
 refine za fun KY hKY=>?_
 simp only[go_sem,pW]
 apply hKY
 refine zm fun X2 hn2 he2 hf2 hr2=>?_
 try simp only[go_sem]
 refine zQ (α:=Nat) [5,9,14] (fun k=>[(8,.sc (.int .i64 (k:Int)))]) (fun k=>[]) (fun k q=>k≤l.length∧q=l.length - k∧∀j,j<k→l.getD j 0=0) (0) (l.length) rfl (by first|(simp only[go_sem,zd,ze];done)|with_reducible rfl|rfl) (⟨by omega,rfl,fun j h=>by omega⟩) ?_
 rintro k q ⟨hk,rfl,hz⟩ X3 hn3 he3 hr3
 simp only[go_sem,zd,ze]
 refine za fun KY hKY=>?_
 simp only[go_sem,pV]
 apply hKY
 refine zf fun X4 hn4 he4 hr4=>?_
 by_cases h:k<l.length
 · refine ZC ?_
   refine zh ?_
   repeat (first|refine hn4 _ ?_|refine he4 _ _ ?_|refine he3 _ _ ?_|refine hn2 _ ?_|refine he2 _ ?_|refine hf2 _ _ (by decide) ?_|refine hn1 _ ?_|refine he1 _ _ ?_)
   refine zf fun X5 hn5 he5 hr5=>?_
   refine zm fun X6 hn6 he6 hf6 hr6=>?_
   refine za fun KY hKY=>?_
   simp only[go_sem,pU]
   repeat (simp(disch:=omega) only[if_pos,if_neg,decide_eq_true,decide_eq_false,zL,zv,zg];try simp only[go_sem])
   apply hKY
   refine za fun KY hKY=>?_
   simp only[go_sem,pT]
   apply hKY
   by_cases h2:l.getD k 0=0
   · refine ZB (by first|rfl|(simp only[go_sem,h2,ne_eq,not_true_eq_false];try simp(disch:=omega) only[decide_eq_true,decide_eq_false])) ?_
     refine zh ?_
     repeat (first|refine hn6 _ ?_|refine he6 _ ?_|refine hf6 _ _ (by decide) ?_|refine hn5 _ ?_|refine he5 _ _ ?_|refine hn4 _ ?_|refine he4 _ _ ?_|refine he3 _ _ ?_|refine hn2 _ ?_|refine he2 _ ?_|refine hf2 _ _ (by decide) ?_|refine hn1 _ ?_|refine he1 _ _ ?_)
     refine zo fun KY hKY=>?_
     simp only[go_sem,pR]
     repeat (simp(disch:=omega) only[if_pos,if_neg,decide_eq_true,decide_eq_false,zL,zv,zg];try simp only[go_sem])
     apply hKY
     repeat (first|refine hn6 _ ?_|refine he6 _ ?_|refine hf6 _ _ (by decide) ?_|refine hn5 _ ?_|refine he5 _ _ ?_|refine hn4 _ ?_|refine he4 _ _ ?_)
     refine hn3 _ (k+1) (l.length - (k+1)) (by omega) (by first|(simp only[go_sem,zd,ze];done)|with_reducible rfl|rfl) ?_
     refine⟨h,rfl,fun j hj=>?_⟩
     rcases Nat.lt_or_ge j k with h3|h3
     · exact hz j h3
     · have:j=k:=by omega
       subst this;exact h2
   · refine ZL (by first|rfl|(simp only[go_sem,h2,ne_eq,not_false_eq_true];try simp(disch:=omega) only[decide_eq_true,decide_eq_false])) ?_
     refine za fun KY hKY=>?_
     simp only[go_sem,pS]
     apply hKY
     refine zi ?_
     repeat (first|refine hr6 _ ?_|refine hr5 _ ?_|refine hr4 _ ?_|refine hr3 _ ?_|refine hr2 _ ?_|refine hr1 _ ?_)
     simp only[go_sem]
     rw[XV h h2 hz]
     rfl
 · refine Zw ?_
   refine zy ?_
   repeat (first|refine hn4 _ ?_|refine he4 _ _ ?_|refine he3 _ _ ?_|refine hn2 _ ?_|refine he2 _ ?_|refine hf2 _ _ (by decide) ?_|refine hn1 _ ?_|refine he1 _ _ ?_)
   refine za fun KY hKY=>?_
   simp only[go_sem,pQ]
   apply hKY
   refine zi ?_
   repeat (first|refine hr4 _ ?_|refine hr3 _ ?_|refine hr2 _ ?_|refine hr1 _ ?_)
   simp only[go_sem]
   have:k=l.length:=by omega
   subst this
   rw[vT hz]
   rfl
end Go.Proofs.Ytmcfdfafeheihaa

namespace Go.Ga.Gl
open Go Go.Ga
theorem zgr {p :List Nat}{a:Nat}(h:a∈p.head?):a∈p:=by
 cases p with
 |nil=>cases h
 | cons b p => have:b=a:=by simpa using h
               subst this;exact List.mem_cons_self ..
structure LI (n:Nat)(es:Es)(O:Nat→Prop)(lab:List Int):Prop where
 len:lab.length=n
 out:∀v,v<n→(lab.getD v 0<0↔O v)
 low:∀v,v<n→¬O v→0≤lab.getD v 0∧lab.getD v 0≤v∧¬O (lab.getD v 0).toNat
 conn:∀f,Kj es O f→∀v,v<n→¬O v→f v=f (lab.getD v 0).toNat
def Ja (lab:List Int):Nat:=(lab.map Int.toNat).sum
theorem YS :∀(lab:List Int) (v:Nat) (k:Int),v<lab.length→Ja (lab.set v k)+(lab.getD v 0).toNat=Ja lab+k.toNat
 |[],v,k,h=>by simp at h
 |x::l,0,k,_=>by simp[Ja];omega
 | x::l,v+1,k,h=>by
   have:=YS l v k (by simpa using h)
   simp[Ja] at*;omega
theorem ZO (l:List Int)(v w:Nat)(k:Int)(h:v<l.length):(l.set v k).getD w 0=if w=v then k else l.getD w 0:=by
 simp only[List.getD_eq_getElem?_getD,List.getElem?_set]
 by_cases e:v=w
 · subst e;simp[h]
 · simp[e,Ne.symm e]
def ge (lab:List Int)(a b:Nat):List Int:=(lab.set a (min (lab.getD a 0) (lab.getD b 0))).set b (min (lab.getD a 0) (lab.getD b 0))
theorem XF {lab:List Int}{a b w:Nat}(ha:a<lab.length)(hb:b<lab.length):(ge lab a b).getD w 0=if w=a∨w=b then min (lab.getD a 0) (lab.getD b 0) else lab.getD w 0:=by
 unfold ge
 rw[ZO _ _ _ _ (by simpa using hb),ZO _ _ _ _ ha]
 by_cases h1:w=b
 · simp[h1]
 · by_cases h2:w=a
   · simp[h2]
   · simp[h1,h2]
theorem LI.step {n:Nat}{es:Es}{O:Nat→Prop}{lab:List Int}(w:LI n es O lab){a b:Nat}(hab:ZY es a b)(han:a<n)(hbn:b<n)(h1:¬lab.getD a 0<0)(h2:¬lab.getD b 0<0):LI n es O (ge lab a b):=by
 have oa:¬O a:=fun h=>h1 ((w.out a han).2 h)
 have ob:¬O b:=fun h=>h2 ((w.out b hbn).2 h)
 have la:=w.low a han oa
 have lb:=w.low b hbn ob
 have hal:a<lab.length:=by rw[w.len];exact han
 have hbl:b<lab.length:=by rw[w.len];exact hbn
 have hk:∃c,(c=a∨c=b)∧min (lab.getD a 0) (lab.getD b 0)=lab.getD c 0:=by
  rcases Int.le_total (lab.getD a 0) (lab.getD b 0) with h|h
  · exact⟨a,.inl rfl,Int.min_eq_left h⟩
  · exact⟨b,.inr rfl,Int.min_eq_right h⟩
 refine⟨by unfold ge;simp[w.len],fun v hv=>?_,fun v hv ho=>?_,fun f hf v hv ho=>?_⟩
 · rw[XF hal hbl]
   split
   · rename_i h
     rcases h with rfl|rfl
     · constructor
       · intro h;omega
       · intro h;exact absurd h oa
     · constructor
       · intro h;omega
       · intro h;exact absurd h ob
   · exact w.out v hv
 · rw[XF hal hbl]
   split
   · rename_i h
     obtain⟨c,hc,e⟩:=hk
     refine⟨by omega,by rcases h with rfl|rfl<;>omega,?_⟩
     rw[e]
     rcases hc with rfl|rfl
     · exact la.2.2
     · exact lb.2.2
   · exact w.low v hv ho
 · rw[XF hal hbl]
   split
   · rename_i h
     obtain⟨c,hc,e⟩:=hk
     rw[e]
     have e1:=hf a b hab oa ob
     have ea:=w.conn f hf a han oa
     have eb:=w.conn f hf b hbn ob
     rcases h with rfl|rfl<;>rcases hc with rfl|rfl
     · exact ea
     · rw[e1,eb]
     · rw[←e1,ea]
     · exact eb
   · exact w.conn f hf v hv ho
theorem zgd {lab:List Int}{a b:Nat}(ha:a<lab.length)(hb:b<lab.length)(hne:a≠b)(h1:¬lab.getD a 0<0)(h2:¬lab.getD b 0<0)(h3:lab.getD a 0≠lab.getD b 0):Ja (ge lab a b)<Ja lab:=by
 unfold ge
 generalize hk:min (lab.getD a 0) (lab.getD b 0)=k
 have e1:=YS lab a k ha
 have e2:=YS (lab.set a k) b k (by simpa using hb)
 rw[ZO _ _ _ _ ha,if_neg (Ne.symm hne)] at e2
 omega
theorem LI.start {n:Nat}{es:Es}{O:Nat→Prop}{lab:List Int}(hl:lab.length=n)(h:∀v,v<n→(O v→lab.getD v 0= -1)∧(¬O v→lab.getD v 0=(v:Int))):LI n es O lab:=by
 refine⟨hl,fun v hv=>?_,fun v hv ho=>?_,fun f _ v hv ho=>?_⟩
 · constructor
   · intro h1
     by_cases ho:O v
     · exact ho
     · have:=(h v hv).2 ho;omega
   · intro ho;have:=(h v hv).1 ho;omega
 · rw[(h v hv).2 ho];exact⟨by omega,by omega,by simpa using ho⟩
 · rw[(h v hv).2 ho];simp
def Z5 (n:Nat)(lab:List Int)(m:Nat):List (List Nat):=((List.range m).filter fun v:Nat=>decide (lab.getD v 0=(v:Int))).map fun v:Nat=>(List.range n).filter fun w=>decide (lab.getD w 0=(v:Int))
theorem Jj {n:Nat}{lab:List Int}{m:Nat}{p:List Nat}:p∈Z5 n lab m↔∃v:Nat,v<m∧lab.getD v 0=(v:Int)∧(List.range n).filter (fun w=>decide (lab.getD w 0=(v:Int)))=p:=by
 simp only[Z5,List.mem_map,List.mem_filter,List.mem_range,decide_eq_true_eq,and_assoc]
theorem LI.pieces {n:Nat}{es:Es}{O:Nat→Prop}{lab:List Int}(hes:∀a b,ZY es a b→a<n∧b<n)(W:LI n es O lab)(hfix:∀e∈es,lab.getD e.1 0<0∨lab.getD e.2 0<0∨lab.getD e.1 0=lab.getD e.2 0):Zd n es O (Z5 n lab n):=by
 have hflat:∀a b,ZY es a b→¬O a→¬O b→lab.getD a 0=lab.getD b 0:=by
  intro a b hab ha hb
  have hl:=hes a b hab
  have h1:=W.low a hl.1 ha
  have h2:=W.low b hl.2 hb
  rcases hab with h|h
  · rcases hfix _ h with h|h|h
    · exact absurd h (by simp only;omega)
    · exact absurd h (by simp only;omega)
    · exact h
  · rcases hfix _ h with h|h|h
    · exact absurd h (by simp only;omega)
    · exact absurd h (by simp only;omega)
    · exact h.symm
 have hfl:Kj es O (fun v=>(lab.getD v 0).toNat):=fun a b hab ha hb=>by
  show(lab.getD a 0).toNat=(lab.getD b 0).toNat
  rw[hflat a b hab ha hb]
 have hid:∀v,v<n→¬O v→lab.getD (lab.getD v 0).toNat 0=lab.getD v 0:=by
  intro v hv ho
  have h1:=W.low v hv ho
  have h2:=W.conn _ hfl v hv ho
  have h3:=W.low (lab.getD v 0).toNat (by omega) h1.2.2
  have h2:(lab.getD v 0).toNat=(lab.getD (lab.getD v 0).toNat 0).toNat:=h2
  omega
 have hm:∀(v w:Nat),w∈(List.range n).filter (fun w=>decide (lab.getD w 0=(v:Int)))↔w<n∧lab.getD w 0=(v:Int):=fun v w=>by
  simp only[List.mem_filter,List.mem_range,decide_eq_true_eq]
 have hno:∀(v w:Nat),w<n→lab.getD w 0=(v:Int)→¬O w:=fun v w hw h ho=>by
  have:=(W.out w hw).2 ho;omega
 have hle:∀(v w:Nat),w<n→lab.getD w 0=(v:Int)→v≤w:=fun v w hw h=>by
  have:=(W.low w hw (hno v w hw h)).2.1;omega
 have hfirst:∀v:Nat,v<n→lab.getD v 0=(v:Int)→∀a∈((List.range n).filter fun w=>decide (lab.getD w 0=(v:Int))).head?,a=v:=by
  intro v hv h a ha
  have h1:=(hm v a).1 (zgr ha)
  have h2:=hle v a h1.1 h1.2
  have h3:a≤v:=by
   have hpw:((List.range n).filter fun w=>decide (lab.getD w 0=(v:Int))).Pairwise (· < ·):=List.pairwise_lt_range.filter _
   have hvm:=(hm v v).2 ⟨hv,h⟩
   generalize (List.range n).filter (fun w=>decide (lab.getD w 0=(v:Int)))=r at ha hpw hvm
   cases r with
   |nil=>cases ha
   | cons b r=>
     have:b=a:=by simpa using ha
     subst this
     rcases List.mem_cons.1 hvm with e|e
     · omega
     · have:=(List.pairwise_cons.1 hpw).1 v e;omega
  omega
 refine⟨fun v=>?_,?_,?_,?_,?_,?_,?_⟩
 · constructor
   · rintro⟨p,hp,hv⟩
     obtain⟨k,_,_,rfl⟩:=Jj.1 hp
     have:=(hm k v).1 hv
     exact⟨this.1,hno k v this.1 this.2⟩
   · rintro⟨hv,ho⟩
     have h1:=W.low v hv ho
     have h2:=hid v hv ho
     refine⟨_,Jj.2 ⟨(lab.getD v 0).toNat,by omega,by rw[h2];omega,rfl⟩,(hm _ v).2 ⟨hv,by omega⟩⟩
 · intro p hp
   obtain⟨k,hk,h,rfl⟩:=Jj.1 hp
   exact List.ne_nil_of_mem ((hm k k).2 ⟨hk,h⟩)
 · intro p hp
   obtain⟨k,_,_,rfl⟩:=Jj.1 hp
   exact List.pairwise_lt_range.filter _
 · unfold Z5
   refine List.pairwise_map.2 ((List.pairwise_lt_range.filter _).imp_of_mem fun{u v} hu hv h a ha b hb=>?_)
   simp only[List.mem_filter,List.mem_range,decide_eq_true_eq] at hu hv
   rw[hfirst u hu.1 hu.2 a ha,hfirst v hv.1 hv.2 b hb];exact h
 · unfold Z5
   refine List.pairwise_map.2 ((List.pairwise_lt_range.filter _).imp fun{u v} h w hw hw'=>?_)
   have h1:=((hm u w).1 hw).2
   have h2:=((hm v w).1 hw').2
   omega
 · intro p hp a ha b hab hb hob
   obtain⟨k,_,_,rfl⟩:=Jj.1 hp
   have h1:=(hm k a).1 ha
   exact(hm k b).2 ⟨hb,by rw[←hflat a b hab (hno k a h1.1 h1.2) hob];exact h1.2⟩
 · intro p hp f hf a ha b hb
   obtain⟨k,_,_,rfl⟩:=Jj.1 hp
   have h1:=(hm k a).1 ha
   have h2:=(hm k b).1 hb
   rw[W.conn f hf a h1.1 (hno k a h1.1 h1.2),W.conn f hf b h2.1 (hno k b h2.1 h2.2),h1.2,h2.2]
theorem Kd (n:Nat)(lab:List Int)(m:Nat):Z5 n lab (m+1)=if lab.getD m 0=(m:Int) then Z5 n lab m++[(List.range n).filter fun w=>decide (lab.getD w 0=(m:Int))] else Z5 n lab m:=by
 unfold Z5
 rw[List.range_succ,List.filter_append,List.map_append]
 by_cases h:lab.getD m 0=(m:Int)
 · rw[if_pos h,List.filter_cons_of_pos (by simpa using h)];rfl
 · rw[if_neg h,List.filter_cons_of_neg (by simpa using h)];simp
theorem za7 (n:Nat)(lab:List Int)(m:Nat):(Z5 n lab m).length≤m:=by
 unfold Z5
 rw[List.length_map]
 exact Nat.le_trans (List.length_filter_le _ _) (by simp)
theorem wA (p:Nat→Bool)(m:Nat):(List.range (m+1)).filter p=if p m=true then(List.range m).filter p++[m] else(List.range m).filter p:=by
 rw[List.range_succ,List.filter_append]
 by_cases h:p m=true
 · rw[if_pos h,List.filter_cons_of_pos h];rfl
 · rw[if_neg h,List.filter_cons_of_neg h];simp
def UL (lab:List Int)(u w:Nat):List Nat:=(List.range w).filter fun w=>decide (lab.getD w 0=(u:Int))
theorem zdn (lab:List Int)(u w:Nat):UL lab u (w+1)=if lab.getD w 0=(u:Int) then UL lab u w++[w] else UL lab u w:=by
 unfold UL
 rw[wA]
 simp only[decide_eq_true_eq]
theorem zeZ (lab:List Int)(u w:Nat):(UL lab u w).length≤w:=by
 unfold UL
 exact Nat.le_trans (List.length_filter_le _ _) (by simp)
theorem zcg (n:Nat)(lab:List Int)(m:Nat):Z5 n lab (m+1)=if lab.getD m 0=(m:Int) then Z5 n lab m++[UL lab m n] else Z5 n lab m:=Kd n lab m
def ow (m:List Int)(x y:Nat):Bool:=decide (m.getD x 0=(y:Int))
def JE (n:Nat)(l:Es):List Bool:=l.foldl (fun m e=>(m.set e.1 true).set e.2 true) (List.replicate n false)
theorem vQ (l:List Bool)(v w:Nat)(h:v<l.length):(l.set v true).getD w false=(decide (v=w)||l.getD w false):=by
 simp only[List.getD_eq_getElem?_getD,List.getElem?_set]
 by_cases e:v=w
 · subst e;simp[h]
 · simp[e]
structure Mt (N:Nat)(es:Es)(m:List Int):Prop where
 len:m.length=N
 at_:∀v,v<N→m.getD v 0= -1∨∃w:Nat,m.getD v 0=(w:Int)∧w<N∧w≠v∧ZY es v w∧m.getD w 0=(v:Int)
theorem Mt.back {N:Nat}{es:Es}{m:List Int}(M:Mt N es m){v w:Nat}(hv:v<N)(h:m.getD v 0=(w:Int)):w<N∧w≠v∧ZY es v w∧m.getD w 0=(v:Int):=by
 rcases M.at_ v hv with h1|⟨u,h1,h2⟩
 · omega
 · obtain rfl:u=w:=by omega
   exact h2
theorem Mt.own {N:Nat}{es:Es}{m:List Int}(M:Mt N es m){v w:Nat}(hv:v<N)(hw:w<N):ow m v w=ow m w v:=by
 unfold ow
 by_cases h:m.getD v 0=(w:Int)
 · rw[decide_eq_true h,decide_eq_true (M.back hv h).2.2.2]
 · rw[decide_eq_false h,decide_eq_false]
   intro h2;exact h (M.back hw h2).2.2.2
structure FS where
 lab:Nat→Nat
 out:Nat→Bool
 pr:Nat→Nat
 rt:Nat→Int
 b0:Nat→Nat
 b1:Nat→Nat
 bs:Nat→Nat
abbrev Yp :=List (Nat×Nat)
def xr (ps:Yp):Yp:=(ps.map Prod.swap).reverse
def jw (ps:Yp):List Nat:=ps.flatMap fun p=>[p.1,p.2]
def zE (ps:Yp)(to:Nat):List Nat:=jw ps++[to]
theorem vn (p:Nat×Nat)(ps:Yp):xr (p::ps)=xr ps++[p.swap]:=by simp[xr]
theorem ZD (p:Nat×Nat)(ps:Yp):jw (p::ps)=p.1::p.2::jw ps:=rfl
theorem qg (ps qs:Yp):jw (ps++qs)=jw ps++jw qs:=by simp[jw]
theorem vS (ps:Yp):jw (xr ps)=(jw ps).reverse:=by
 induction ps with
 |nil=>rfl
 |cons p ps ih=>rw[vn,qg,ih,ZD];simp[jw]
inductive xl (mt:Nat→Int)(S:FS):Nat→Nat→Yp→Prop
 |here (v:Nat):xl mt S v v []
 |even {v to m:Nat} {ps:Yp}:v≠to→S.lab v=1→mt v=(m:Int)→S.lab m=2→xl mt S (S.pr m) to ps→xl mt S v to ((v,m)::ps)
 |odd {v to m:Nat} {ps qs:Yp}:v≠to→S.out v=true→S.lab v=2→mt v=(m:Int)→xl mt S (S.b0 v) m ps→xl mt S (S.b1 v) to qs→xl mt S v to ((v,m)::(xr ps++qs))
structure zhy (S T:FS):Prop where
 lab:∀x,S.lab x≠0→T.lab x=S.lab x
 pr:∀x,S.lab x=2→T.pr x=S.pr x
 out:∀x,S.out x=true→T.out x=true
 b0:∀x,S.out x=true→T.b0 x=S.b0 x
 b1:∀x,S.out x=true→T.b1 x=S.b1 x
theorem xl.goes {mt:Nat→Int}{S T:FS}(h:zhy S T){v to:Nat}{ps:Yp}(w:xl mt S v to ps):xl mt T v to ps:=by
 induction w with
 |here v=>exact .here v
 |even h1 h2 h3 h4 _ ih=>exact .even h1 (by rw[h.lab _ (by omega)];exact h2) h3 (by rw[h.lab _ (by omega)];exact h4) (by rw[h.pr _ h4];exact ih)
 |odd h1 h2 h3 h4 _ _ ih1 ih2=>exact .odd h1 (h.out _ h2) (by rw[h.lab _ (by omega)];exact h3) h4 (by rw[h.b0 _ h2];exact ih1) (by rw[h.b1 _ h2];exact ih2)
theorem xl.app {mt:Nat→Int}{S:FS}{v x to:Nat}{ps qs:Yp}(w:xl mt S v x ps)(u:xl mt S x to qs)(hn:to∉jw ps):xl mt S v to (ps++qs):=by
 induction w with
 |here v=>exact u
 | even h1 h2 h3 h4 _ ih=>
   simp only[ZD,List.mem_cons,not_or] at hn
   exact .even (Ne.symm hn.1) h2 h3 h4 (ih u hn.2.2)
 | odd h1 h2 h3 h4 w1 w2 ih1 ih2=>
   simp only[ZD,qg,List.mem_cons,List.mem_append,not_or] at hn
   rw[List.cons_append,List.append_assoc]
   exact .odd (Ne.symm hn.1) h2 h3 h4 w1 (ih2 u hn.2.2.2)
theorem xl.first {mt:Nat→Int}{S:FS}{v to:Nat}{ps:Yp}(w:xl mt S v to ps):v∈zE ps to:=by
 cases w<;>simp[zE,jw]
inductive qx (mt:Nat→Int)(E:Nat→Nat→Prop):Nat→Yp→Nat→Prop
 |nil (v:Nat):qx mt E v [] v
 |cons {a c w to:Nat} {ps:Yp}:mt a=(c:Int)→E c w→qx mt E w ps to→qx mt E a ((a,c)::ps) to
theorem qx.app {mt:Nat→Int}{E:Nat→Nat→Prop}{v x to:Nat}{ps qs:Yp}(h:qx mt E v ps x)(k:qx mt E x qs to):qx mt E v (ps++qs) to:=by
 induction h with
 |nil v=>exact k
 |cons h1 h2 _ ih=>exact .cons h1 h2 (ih k)
theorem qx.rev {mt:Nat→Int}{E:Nat→Nat→Prop}(hm:∀a c:Nat,mt a=(c:Int)→mt c=(a:Int))(hE:∀a c,E a c→E c a){s m:Nat}{ps:Yp}(h:qx mt E s ps m):∀{v w to:Nat} {qs:Yp},mt v=(m:Int)→E s w→qx mt E w qs to→qx mt E v ((v,m)::(xr ps++qs)) to:=by
 induction h with
 |nil m=>intro v w to qs h1 h2 h3;exact .cons h1 h2 h3
 | cons k1 k2 _ ih=>
   intro v w to qs h1 h2 h3
   rw[vn,List.append_assoc]
   exact ih h1 (hE _ _ k2) (.cons (hm _ _ k1) h2 h3)
inductive Zy (mt:Nat→Int)(S:FS):Nat→Nat→List Nat→Prop
 |here (b:Nat):Zy mt S b b []
 |up {x m to:Nat} {xs:List Nat}:x≠to→mt x=(m:Int)→Zy mt S (S.bs (S.pr m)) to xs→Zy mt S x to (x::xs)
structure J0 (N:Nat)(E:Nat→Nat→Prop)(mt:Nat→Int)(S:FS):Prop where
 o1:∀v,S.out v=true→v<N∧S.lab v≠0
 e1:∀v,S.lab v=1→S.out v=true
 l2:∀v,S.lab v≤2
 fr:∀v,v<N→mt v= -1→S.lab v=1∧S.rt v=(v:Int)
 od:∀v,S.lab v=2→v<N∧∃x:Nat,mt v=(x:Int)∧S.lab x=1∧S.rt x=S.rt v∧S.out (S.pr v)=true∧E v (S.pr v)∧S.rt (S.pr v)=S.rt v
 ev:∀v,S.lab v=1→(mt v= -1∧S.rt v=(v:Int))∨∃m:Nat,mt v=(m:Int)∧S.lab m=2
 bo:∀v,S.out v=true→S.out (S.bs v)=true∧S.lab (S.bs v)=1∧S.bs (S.bs v)=S.bs v∧S.rt (S.bs v)=S.rt v
 bn:∀v,S.out v=false→S.bs v=v
 bm:∀b m:Nat,S.out b=true→S.bs b=b→mt b=(m:Int)→S.out m=false
 bx:∀m x:Nat,S.lab m=2→S.out m=false→mt m=(x:Int)→S.bs x=x
 dp:∃d:Nat→Nat,∀b m:Nat,S.out b=true→S.bs b=b→mt b=(m:Int)→d (S.bs (S.pr m))<d b
 wy:∀v,S.out v=true→∃ps,xl mt S v (S.bs v) ps∧qx mt E v ps (S.bs v)∧(zE ps (S.bs v)).Nodup∧∀x∈zE ps (S.bs v),S.out x=true∧S.bs x=S.bs v
structure Mf (N:Nat)(E:Nat→Nat→Prop)(mt:Nat→Int):Prop where
 at_:∀v,v<N→mt v= -1∨∃w:Nat,mt v=(w:Int)∧w<N
 big:∀v,¬v<N→∀w:Nat,mt v≠(w:Int)
 sy:∀v w:Nat,mt v=(w:Int)→mt w=(v:Int)
 ne:∀v w:Nat,mt v=(w:Int)→w≠v∧E v w
 es:∀v w:Nat,E v w→E w v
 el:∀v w:Nat,E v w→v<N∧w<N∧v≠w
def On (mt:Nat→Int)(S:FS)(xs:List Nat)(to:Nat)(y:Nat):Prop:=(S.out y=true∧(S.bs y∈xs∨S.bs y=to))∨(S.out y=false∧∃x∈xs,mt x=(y:Int))
theorem Yb {N:Nat}{E:Nat→Nat→Prop}{mt:Nat→Int}{S:FS}(M:Mf N E mt)(I:J0 N E mt S){d:Nat→Nat}(hd:∀b m:Nat,S.out b=true→S.bs b=b→mt b=(m:Int)→d (S.bs (S.pr m))<d b){c to:Nat}{xs:List Nat}(h:Zy mt S c to xs):
    (S.bs to=to)→∀v,S.out v=true→S.bs v=c→(∀x∈xs,d to<d x∧d x≤d c∧S.out x=true∧S.bs x=x)∧∃ps,xl mt S v to ps∧qx mt E v ps to∧(zE ps to).Nodup∧∀y∈zE ps to,On mt S xs to y:=by
  induction h with
  | here b=>
    intro hb v hv hc
    obtain⟨ps,h1,h2,h3,h4⟩:=I.wy v hv
    rw[hc] at h1 h2 h3 h4
    exact⟨by simp,ps,h1,h2,h3,fun y hy=> .inl ⟨(h4 y hy).1,.inr (h4 y hy).2⟩⟩
  | @up x m to xs hne hm hch ih=>
    intro hb v hv hc
    obtain⟨b1,b2,b3,b4⟩:=I.bo v hv
    rw[hc] at b1 b2 b3 b4
    have hmo:=I.bm x m b1 b3 hm
    have hl:S.lab m=2:=by
      rcases I.ev x b2 with h|⟨m',h1,h2⟩
      · omega
      · obtain rfl:m'=m:=by omega
        exact h2
    obtain⟨_,x',k1,k2,k3,k4,k5,k6⟩:=I.od m hl
    obtain⟨i1,qs,q1,q2,q3,q4⟩:=ih hb (S.pr m) k4 rfl
    have hdx:=hd x m b1 b3 hm
    have hdto:d to≤d (S.bs (S.pr m)):=by
      cases hch with
      |here=>exact Nat.le_refl _
      |up=>exact Nat.le_of_lt (i1 _ (by simp)).1
    have i2:∀y∈xs,d y<d x:=fun y hy=>by have:=(i1 y hy).2.1;omega
    obtain⟨ps,p1,p2,p3,p4⟩:=I.wy v hv
    rw[hc] at p1 p2 p3 p4
    have hmx:=M.sy x m hm
    have hxin:x∉zE qs to:=fun h=>by
      rcases q4 x h with⟨_,h|h⟩|⟨h,_⟩
      · rw[b3] at h;have:=i2 x h;omega
      · rw[b3] at h;omega
      · rw[b1] at h;cases h
    have hmin:m∉zE qs to:=fun h=>by
      rcases q4 m h with⟨h,_⟩|⟨_,y,hy,h⟩
      · rw[hmo] at h;cases h
      · have:=M.sy y m h
        obtain rfl:y=x:=by omega
        have:=i2 y hy;omega
    have hpq:∀y∈zE ps x,y∉zE qs to:=fun y hy h=>by
      obtain⟨y1,y2⟩:=p4 y hy
      rcases q4 y h with⟨_,h|h⟩|⟨h,_⟩
      · rw[y2] at h;have:=i2 x h;omega
      · rw[y2] at h;omega
      · rw[y1] at h;cases h
    have hmp:m∉zE ps x:=fun h=>by have:=(p4 m h).1;rw[hmo] at this;cases this
    have hto:to∉jw ps:=fun h=>by
      have:=(p4 to (List.mem_append.2 (.inl h))).2
      exact hne (by omega)
    refine⟨fun y hy=>?_,ps++((x,m)::qs),p1.app (.even hne b2 hm hl q1) hto,p2.app (.cons hm k5 q2),?_,?_⟩
    · rcases List.mem_cons.1 hy with rfl|hy
      · exact⟨by omega,Nat.le_refl _,b1,b3⟩
      · have:=i1 y hy
        exact⟨this.1,by omega,this.2.2⟩
    · have e:zE (ps++((x,m)::qs)) to=zE ps x++(m::zE qs to):=by simp[zE,qg,ZD]
      rw[e]
      refine List.nodup_append.2 ⟨p3,List.nodup_cons.2 ⟨hmin,q3⟩,?_⟩
      intro y hy z hz e
      subst e
      rcases List.mem_cons.1 hz with rfl|hz
      · exact hmp hy
      · exact hpq y hy hz
    · have e:zE (ps++((x,m)::qs)) to=zE ps x++(m::zE qs to):=by simp[zE,qg,ZD]
      rw[e]
      intro y hy
      rcases List.mem_append.1 hy with hy|hy
      · exact .inl ⟨(p4 y hy).1,.inl (by rw[(p4 y hy).2];simp)⟩
      · rcases List.mem_cons.1 hy with rfl|hy
        · exact .inr ⟨hmo,x,by simp,hm⟩
        · rcases q4 y hy with⟨h1,h2|h2⟩|⟨h1,y',h2,h3⟩
          · exact .inl ⟨h1,.inl (List.mem_cons_of_mem _ h2)⟩
          · exact .inl ⟨h1,.inr h2⟩
          · exact .inr ⟨h1,y',List.mem_cons_of_mem _ h2,h3⟩
theorem J0.base {N:Nat}{E:Nat→Nat→Prop}{mt:Nat→Int}{S:FS}(M:Mf N E mt)(I:J0 N E mt S){b:Nat}(ho:S.out b=true)(hb:S.bs b=b):(mt b= -1∧S.rt b=(b:Int))∨∃m:Nat,mt b=(m:Int)∧S.lab m=2∧S.out m=false∧S.out (S.pr m)=true∧E m (S.pr m)∧S.rt (S.pr m)=S.rt b∧S.rt m=S.rt b:=by
 have h1:=(I.bo b ho).2.1
 rw[hb] at h1
 rcases I.ev b h1 with h|⟨m,h2,h3⟩
 · exact .inl h
 · obtain⟨_,x,k1,k2,k3,k4,k5,k6⟩:=I.od m h3
   have:=M.sy b m h2
   obtain rfl:x=b:=by omega
   exact .inr ⟨m,h2,h3,I.bm x m ho hb h2,k4,k5,k6.trans k3.symm,k3.symm⟩
theorem Zt {N:Nat}{E:Nat→Nat→Prop}{mt:Nat→Int}{S:FS}(M:Mf N E mt)(I:J0 N E mt S){d:Nat→Nat}(hd:∀b m:Nat,S.out b=true→S.bs b=b→mt b=(m:Int)→d (S.bs (S.pr m))<d b){c to:Nat}{xs:List Nat}(h:Zy mt S c to xs):
    S.out c=true→S.bs c=c→(S.out to=true∧S.bs to=to∧S.rt to=S.rt c)∧∀x∈xs,d to<d x∧d x≤d c∧S.out x=true∧S.bs x=x∧S.rt x=S.rt c:=by
  induction h with
  |here b=>intro h1 h2;exact⟨⟨h1,h2,rfl⟩,by simp⟩
  | @up x m to xs hne hm hch ih=>
    intro h1 h2
    rcases I.base M h1 h2 with⟨h3,_⟩|⟨m',h3,h4,h5,h6,h7,h8,h9⟩
    · omega
    · obtain rfl:m'=m:=by omega
      obtain⟨k1,k2,k3,k4⟩:=I.bo _ h6
      obtain⟨⟨j1,j2,j3⟩,j4⟩:=ih k1 k3
      have hdx:=hd x m' h1 h2 hm
      have hrt:S.rt (S.bs (S.pr m'))=S.rt x:=k4.trans h8
      have hdto:d to≤d (S.bs (S.pr m')):=by
        cases hch with
        |here=>exact Nat.le_refl _
        |up=>exact Nat.le_of_lt (j4 _ (by simp)).1
      refine⟨⟨j1,j2,j3.trans hrt⟩,fun y hy=>?_⟩
      rcases List.mem_cons.1 hy with rfl|hy
      · exact⟨by omega,Nat.le_refl _,h1,h2,rfl⟩
      · obtain⟨i1,i2,i3,i4,i5⟩:=j4 y hy
        exact⟨i1,by omega,i3,i4,i5.trans hrt⟩
theorem qS {N:Nat}{E:Nat→Nat→Prop}{mt:Nat→Int}{S:FS}(M:Mf N E mt)(I:J0 N E mt S){d:Nat→Nat}(hd:∀b m:Nat,S.out b=true→S.bs b=b→mt b=(m:Int)→d (S.bs (S.pr m))<d b){c to:Nat}{xs:List Nat}(h:Zy mt S c to xs):
    S.out c=true→S.bs c=c→∀x∈xs,∃x1 x2,xs=x1++x::x2∧Zy mt S c x x1∧Zy mt S x to (x::x2):=by
  induction h with
  |here b=>intro _ _ x hx;simp at hx
  | @up x0 m to xs hne hm hch ih=>
    intro h1 h2 x hx
    by_cases e:x=x0
    · subst e
      exact⟨[],xs,rfl,.here x,.up hne hm hch⟩
    · have hx:=(List.mem_cons.1 hx).resolve_left e
      rcases I.base M h1 h2 with⟨h3,_⟩|⟨m',h3,h4,h5,h6,h7,h8,h9⟩
      · omega
      · obtain rfl:m'=m:=by omega
        obtain⟨k1,k2,k3,k4⟩:=I.bo _ h6
        obtain⟨x1,x2,rfl,j1,j2⟩:=ih k1 k3 x hx
        exact⟨x0::x1,x2,rfl,.up (Ne.symm e) hm j1,j2⟩
def jX (mt:Nat→Int)(xs:List Nat)(u:Nat):Bool:=xs.any fun x=>decide (mt x=(u:Int))
theorem ZZ {mt:Nat→Int}{xs:List Nat}{u:Nat}:jX mt xs u=true↔∃x∈xs,mt x=(u:Int):=by
 unfold jX;simp only[List.any_eq_true,decide_eq_true_eq]
def shr (mt:Nat→Int)(S:FS)(v w b:Nat)(xs:List Nat):FS:=
 {S with
  out:=fun u=>S.out u||jX mt xs u
  b0:=fun u=>if jX mt xs u=true then v else S.b0 u
  b1:=fun u=>if jX mt xs u=true then w else S.b1 u
  bs:=fun u=>if(decide (S.bs u∈xs)||jX mt xs u)=true then b else S.bs u}
def kZ (mt:Nat→Int)(S:FS)(xs ys:List Nat)(u:Nat):Prop:=S.bs u∈xs∨S.bs u∈ys∨(∃x∈xs,mt x=(u:Int))∨∃x∈ys,mt x=(u:Int)
theorem xX {N:Nat}{E:Nat→Nat→Prop}{mt:Nat→Int}{S:FS}(M:Mf N E mt)(I:J0 N E mt S){v w b:Nat}{xs ys:List Nat}(hv:S.out v=true)(hw:S.out w=true)(hvw:E v w)(hb:S.bs b=b)(hX:Zy mt S (S.bs v) b xs)(hY:Zy mt S (S.bs w) b ys)(hdj:∀x∈xs,x∉ys):
    let T:=shr mt (shr mt S v w b xs) w v b ys
    J0 N E mt T∧zhy S T∧(∀u,T.out u=true↔S.out u=true∨(∃x∈xs,mt x=(u:Int))∨∃x∈ys,mt x=(u:Int))∧(∀u,(kZ mt S xs ys u→T.bs u=b)∧(¬kZ mt S xs ys u→T.bs u=S.bs u))∧T.bs v=b∧T.bs w=b:=by
  intro T
  obtain⟨d,hd⟩:=I.dp
  obtain⟨v1,v2,v3,v4⟩:=I.bo v hv
  obtain⟨w1,w2,w3,w4⟩:=I.bo w hw
  obtain⟨⟨bo,_,brv⟩,fX⟩:=Zt M I hd hX v1 v3
  obtain⟨⟨_,_,brw⟩,fY⟩:=Zt M I hd hY w1 w3
  have hbX:b∉xs:=fun h=>by have:=(fX b h).1;omega
  have hbY:b∉ys:=fun h=>by have:=(fY b h).1;omega
  have mate:∀(zs:List Nat),(∀x∈zs,S.out x=true∧S.bs x=x)→∀u x:Nat,x∈zs→mt x=(u:Int)→S.out u=false∧S.lab u=2∧S.rt u=S.rt x∧S.bs u=u:=by
    intro zs hz u x hx hm
    rcases I.base M (hz x hx).1 (hz x hx).2 with⟨h3,_⟩|⟨m',h3,h4,h5,h6,h7,h8,h9⟩
    · omega
    · obtain rfl:m'=u:=by omega
      exact⟨h5,h4,h9,I.bn _ h5⟩
  have mX:=mate xs fun x hx=>⟨(fX x hx).2.2.1,(fX x hx).2.2.2.1⟩
  have mY:=mate ys fun x hx=>⟨(fY x hx).2.2.1,(fY x hx).2.2.2.1⟩
  have xo:∀u,S.bs u∈xs→S.out u=true:=fun u h=>by
    cases ho:S.out u with
    |true=>rfl
    |false=>rw[I.bn u ho] at h;rw[(fX u h).2.2.1] at ho;cases ho
  have yo:∀u,S.bs u∈ys→S.out u=true:=fun u h=>by
    cases ho:S.out u with
    |true=>rfl
    |false=>rw[I.bn u ho] at h;rw[(fY u h).2.2.1] at ho;cases ho
  have nmX:∀u,S.out u=true→jX mt xs u=false:=fun u hu=>by
    rw[Bool.eq_false_iff];intro h
    obtain⟨x,hx,hm⟩:=ZZ.1 h
    have:=(mX u x hx hm).1
    rw[hu] at this;cases this
  have nmY:∀u,S.out u=true→jX mt ys u=false:=fun u hu=>by
    rw[Bool.eq_false_iff];intro h
    obtain⟨x,hx,hm⟩:=ZZ.1 h
    have:=(mY u x hx hm).1
    rw[hu] at this;cases this
  have Tout:∀u,T.out u=true↔S.out u=true∨(∃x∈xs,mt x=(u:Int))∨∃x∈ys,mt x=(u:Int):=fun u=>by
    show((S.out u||jX mt xs u)||jX mt ys u)=true↔_
    rw[Bool.or_eq_true,Bool.or_eq_true,ZZ,ZZ,or_assoc]
  have Tbs1:∀u,kZ mt S xs ys u→T.bs u=b:=fun u h=>by
    show(if(decide ((if(decide (S.bs u∈xs)||jX mt xs u)=true then b else S.bs u)∈ys)||jX mt ys u)=true then b else if(decide (S.bs u∈xs)||jX mt xs u)=true then b else S.bs u)=b
    by_cases h2:(decide (S.bs u∈xs)||jX mt xs u)=true
    · rw[if_pos h2];split<;>rfl
    · rw[if_neg h2]
      rw[Bool.or_eq_true,decide_eq_true_iff,not_or] at h2
      rw[if_pos]
      rw[Bool.or_eq_true,decide_eq_true_iff,ZZ]
      rcases h with h|h|h|h
      · exact absurd h h2.1
      · exact .inl h
      · exact absurd (ZZ.2 h) h2.2
      · exact .inr h
  have Tbs2:∀u,¬kZ mt S xs ys u→T.bs u=S.bs u:=fun u h=>by
    have h2:¬(decide (S.bs u∈xs)||jX mt xs u)=true:=by
      rw[Bool.or_eq_true,decide_eq_true_iff,ZZ]
      rintro(h1|h1)
      · exact h (.inl h1)
      · exact h (.inr (.inr (.inl h1)))
    show(if(decide ((if(decide (S.bs u∈xs)||jX mt xs u)=true then b else S.bs u)∈ys)||jX mt ys u)=true then b else if(decide (S.bs u∈xs)||jX mt xs u)=true then b else S.bs u)=S.bs u
    rw[if_neg h2,if_neg]
    rw[Bool.or_eq_true,decide_eq_true_iff,ZZ]
    rintro(h1|h1)
    · exact h (.inr (.inl h1))
    · exact h (.inr (.inr (.inr h1)))
  have nJ:∀u,S.out u=true→S.bs u∉xs→S.bs u∉ys→¬kZ mt S xs ys u:=fun u hu h1 h2 h=>by
    rcases h with h|h|h|h
    · exact h1 h
    · exact h2 h
    · have:=nmX u hu;rw[ZZ.2 h] at this;cases this
    · have:=nmY u hu;rw[ZZ.2 h] at this;cases this
  have bJ:¬kZ mt S xs ys b:=nJ b bo (by rw[hb];exact hbX) (by rw[hb];exact hbY)
  have Tb:T.bs b=b:=(Tbs2 b bJ).trans hb
  have G:zhy S T:={
    lab:=fun _ _=>rfl
    pr:=fun _ _=>rfl
    out:=fun x h=>(Tout x).2 (.inl h)
    b0:=fun x h=>by
      show(if jX mt ys x=true then w else if jX mt xs x=true then v else S.b0 x)=S.b0 x
      rw[nmX x h,nmY x h];rfl
    b1:=fun x h=>by
      show(if jX mt ys x=true then v else if jX mt xs x=true then w else S.b1 x)=S.b1 x
      rw[nmX x h,nmY x h];rfl}
  have Jrt:∀u,kZ mt S xs ys u→S.rt u=S.rt b:=fun u h=>by
    rcases h with h|h|⟨x,hx,hm⟩|⟨x,hx,hm⟩
    · rw[brv,←(fX _ h).2.2.2.2];exact(I.bo u (xo u h)).2.2.2.symm
    · rw[brw,←(fY _ h).2.2.2.2];exact(I.bo u (yo u h)).2.2.2.symm
    · rw[brv,←(fX x hx).2.2.2.2];exact(mX u x hx hm).2.2.1
    · rw[brw,←(fY x hx).2.2.2.2];exact(mY u x hx hm).2.2.1
  have nO:∀u,T.out u=true→¬kZ mt S xs ys u→S.out u=true:=fun u h hj=>by
    rcases(Tout u).1 h with h|h|h
    · exact h
    · exact absurd (.inr (.inr (.inl h))) hj
    · exact absurd (.inr (.inr (.inr h))) hj
  have onT:∀zs,(∀z∈zs,z∈xs∨z∈ys)→∀y,On mt S zs b y→T.out y=true∧T.bs y=b:=by
    intro zs hz y hy
    rcases hy with⟨h1,h2|h2⟩|⟨h1,x,h2,h3⟩
    · refine⟨(Tout y).2 (.inl h1),Tbs1 y ?_⟩
      rcases hz _ h2 with h|h
      · exact .inl h
      · exact .inr (.inl h)
    · refine⟨(Tout y).2 (.inl h1),?_⟩
      rw[Tbs2 y (nJ y h1 (by rw[h2];exact hbX) (by rw[h2];exact hbY))];exact h2
    · rcases hz _ h2 with h|h
      · exact⟨(Tout y).2 (.inr (.inl ⟨x,h,h3⟩)),Tbs1 y (.inr (.inr (.inl ⟨x,h,h3⟩)))⟩
      · exact⟨(Tout y).2 (.inr (.inr ⟨x,h,h3⟩)),Tbs1 y (.inr (.inr (.inr ⟨x,h,h3⟩)))⟩
  have wayM:∀(p q:Nat) (zs ts:List Nat),S.out p=true→S.out q=true→E p q→Zy mt S (S.bs p) b zs→Zy mt S (S.bs q) b ts→(∀x∈zs,x∉ts)→(∀z∈zs,z∈xs∨z∈ys)→(∀z∈ts,z∈xs∨z∈ys)→∀u x:Nat,x∈zs→mt x=(u:Int)→T.b0 u=p→T.b1 u=q→
      ∃ps,xl mt T u b ps∧qx mt E u ps b∧(zE ps b).Nodup∧∀y∈zE ps b,T.out y=true∧T.bs y=b:=by
    intro p q zs ts hp hq hpq cz ct hdz hz ht u x hx hm h0 h1
    obtain⟨p1,p2,p3,p4⟩:=I.bo p hp
    obtain⟨q1,q2,q3,q4⟩:=I.bo q hq
    obtain⟨_,fZ⟩:=Zt M I hd cz p1 p3
    obtain⟨_,fT⟩:=Zt M I hd ct q1 q3
    obtain⟨x1,x2,e,c1,c2⟩:=qS M I hd cz p1 p3 x hx
    obtain⟨fo,fb⟩:S.out x=true∧S.bs x=x:=⟨(fZ x hx).2.2.1,(fZ x hx).2.2.2.1⟩
    obtain⟨e1,ps,a1,a2,a3,a4⟩:=Yb M I hd c1 fb p hp rfl
    obtain⟨_,qs,g1,g2,g3,g4⟩:=Yb M I hd ct hb q hq rfl
    obtain⟨mo,ml,mr,mb⟩:=mate zs (fun x hx=>⟨(fZ x hx).2.2.1,(fZ x hx).2.2.2.1⟩) u x hx hm
    have hux:=M.sy x u hm
    have hub:u≠b:=fun h=>by rw[h,bo] at mo;cases mo
    have hx1:∀z∈x1,z∈zs∧z≠x:=fun z hz=>⟨by rw[e];simp[hz],fun h=>by have:=(e1 z hz).1;subst h;omega⟩
    have hup:u∉zE ps x:=fun h=>by
      rcases a4 u h with⟨h,_⟩|⟨_,z,hz,h⟩
      · rw[mo] at h;cases h
      · have:=M.sy z u h
        exact(hx1 z hz).2 (by omega)
    have huq:u∉zE qs b:=fun h=>by
      rcases g4 u h with⟨h,_⟩|⟨_,z,hz,h⟩
      · rw[mo] at h;cases h
      · have:=M.sy z u h
        obtain rfl:z=x:=by omega
        exact hdz z hx hz
    have hpq':∀y∈zE ps x,y∉zE qs b:=fun y hy h=>by
      have hin:(S.out y=true∧S.bs y∈zs)∨(S.out y=false∧∃z∈zs,mt z=(y:Int)):=by
        rcases a4 y hy with⟨k1,k2|k2⟩|⟨k1,z,k2,k3⟩
        · exact .inl ⟨k1,(hx1 _ k2).1⟩
        · exact .inl ⟨k1,by rw[k2];exact hx⟩
        · exact .inr ⟨k1,z,(hx1 _ k2).1,k3⟩
      rcases hin with⟨k1,k2⟩|⟨k1,z,k2,k3⟩<;>rcases g4 y h with⟨j1,j2|j2⟩|⟨j1,z',j2,j3⟩
      · exact hdz _ k2 j2
      · have:=(fZ _ k2).1;rw[j2] at this;omega
      · rw[k1] at j1;cases j1
      · rw[k1] at j1;cases j1
      · rw[k1] at j1;cases j1
      · have s1:=M.sy z y k3
        have s2:=M.sy z' y j3
        obtain rfl:z=z':=by omega
        exact hdz z k2 j2
    have ev:zE ((u,x)::(xr ps++qs)) b=u::(zE ps x).reverse++zE qs b:=by
      simp[zE,ZD,qg,vS]
    refine⟨(u,x)::(xr ps++qs),.odd hub ((Tout u).2 ?_) ml hux (by rw[h0];exact a1.goes G) (by rw[h1];exact g1.goes G),qx.rev M.sy M.es a2 hux hpq g2,?_,?_⟩
    · rcases hz x hx with h|h
      · exact .inr (.inl ⟨x,h,hm⟩)
      · exact .inr (.inr ⟨x,h,hm⟩)
    · rw[ev]
      refine List.nodup_append.2 ⟨List.nodup_cons.2 ⟨by rw[List.mem_reverse];exact hup,?_⟩,g3,?_⟩
      · exact(List.reverse_perm _).nodup_iff.2 a3
      · intro y hy z hz' e
        subst e
        rcases List.mem_cons.1 hy with rfl|hy
        · exact huq hz'
        · exact hpq' y (List.mem_reverse.1 hy) hz'
    · rw[ev]
      intro y hy
      rcases List.mem_append.1 hy with hy|hy
      · rcases List.mem_cons.1 hy with rfl|hy
        · exact onT zs hz y (.inr ⟨mo,x,hx,hm⟩)
        · refine onT zs hz y ?_
          rcases a4 y (List.mem_reverse.1 hy) with⟨k1,k2|k2⟩|⟨k1,z,k2,k3⟩
          · exact .inl ⟨k1,.inl (hx1 _ k2).1⟩
          · exact .inl ⟨k1,.inl (by rw[k2];exact hx)⟩
          · exact .inr ⟨k1,z,(hx1 _ k2).1,k3⟩
      · exact onT ts ht y (g4 y hy)
  have Tv:∀p zs,S.out p=true→Zy mt S (S.bs p) b zs→(∀z∈zs,z∈xs∨z∈ys)→T.bs p=b:=by
    intro p zs hp hc hz
    generalize hbp:S.bs p=c at hc
    cases hc with
    |here=>rw[Tbs2 p (nJ p hp (by rw[hbp];exact hbX) (by rw[hbp];exact hbY))];exact hbp
    | up=>
      refine Tbs1 p ?_
      rcases hz c (by simp) with h|h
      · exact .inl (by rw[hbp];exact h)
      · exact .inr (.inl (by rw[hbp];exact h))
  refine⟨?_,G,Tout,fun u=>⟨Tbs1 u,Tbs2 u⟩,Tv v xs hv hX fun z h=> .inl h,Tv w ys hw hY fun z h=> .inr h⟩
  refine⟨fun u hu=>?_,fun u hu=>(Tout u).2 (.inl (I.e1 u hu)),I.l2,I.fr,fun u hu=>?_,I.ev,fun u hu=>?_,fun u hu=>?_,fun c m hc hcb hm=>?_,fun m x hl ho hm=>?_,⟨d,fun c m hc hcb hm=>?_⟩,fun u hu=>?_⟩
  · rcases(Tout u).1 hu with h|⟨x,hx,h⟩|⟨x,hx,h⟩
    · exact I.o1 u h
    · have:=(mX u x hx h).2.1
      exact⟨(I.od u this).1,by show S.lab u≠0;omega⟩
    · have:=(mY u x hx h).2.1
      exact⟨(I.od u this).1,by show S.lab u≠0;omega⟩
  · obtain⟨h1,x,k1,k2,k3,k4,k5,k6⟩:=I.od u hu
    exact⟨h1,x,k1,k2,k3,(Tout _).2 (.inl k4),k5,k6⟩
  · by_cases hj:kZ mt S xs ys u
    · have hbl:S.lab b=1:=by have:=(I.bo b bo).2.1;rwa [hb] at this
      rw[Tbs1 u hj]
      exact⟨(Tout b).2 (.inl bo),hbl,Tb,(Jrt u hj).symm⟩
    · have ho:=nO u hu hj
      obtain⟨k1,k2,k3,k4⟩:=I.bo u ho
      rw[Tbs2 u hj]
      have hj2:¬kZ mt S xs ys (S.bs u):=nJ _ k1 (by rw[k3];exact fun h=>hj (.inl h)) (by rw[k3];exact fun h=>hj (.inr (.inl h)))
      exact⟨(Tout _).2 (.inl k1),k2,(Tbs2 _ hj2).trans k3,k4⟩
  · have ho:S.out u=false:=by
      cases h:S.out u with
      |false=>rfl
      |true=>rw[(Tout u).2 (.inl h)] at hu;cases hu
    have hj:¬kZ mt S xs ys u:=fun h=>by
      rcases h with h|h|h|h
      · rw[xo u h] at ho;cases ho
      · rw[yo u h] at ho;cases ho
      · rw[(Tout u).2 (.inr (.inl h))] at hu;cases hu
      · rw[(Tout u).2 (.inr (.inr h))] at hu;cases hu
    exact(Tbs2 u hj).trans (I.bn u ho)
  · have hj:¬kZ mt S xs ys c:=fun h=>by
      have:=Tbs1 c h
      rw[hcb] at this
      exact bJ (this▸h)
    have ho:=nO c hc hj
    have hcb':=(Tbs2 c hj).symm.trans hcb
    have hmo:=I.bm c m ho hcb' hm
    cases hT:T.out m with
    |false=>rfl
    | true=>
      rcases(Tout m).1 hT with h|⟨x,hx,h⟩|⟨x,hx,h⟩
      · rw[hmo] at h;cases h
      · have s1:=M.sy c m hm
        have s2:=M.sy x m h
        obtain rfl:x=c:=by omega
        exact absurd (.inl (by rw[hcb'];exact hx)) hj
      · have s1:=M.sy c m hm
        have s2:=M.sy x m h
        obtain rfl:x=c:=by omega
        exact absurd (.inr (.inl (by rw[hcb'];exact hx))) hj
  · have ho':S.out m=false:=by
      cases h:S.out m with
      |false=>rfl
      |true=>rw[(Tout m).2 (.inl h)] at ho;cases ho
    have hbx:=I.bx m x hl ho' hm
    have hmx:=M.sy m x hm
    obtain⟨_,x',k1,k2,_⟩:=I.od m hl
    obtain rfl:x'=x:=by omega
    have hxo:=I.e1 x' k2
    refine(Tbs2 x' (nJ x' hxo (fun h=>?_) fun h=>?_)).trans hbx
    · rw[hbx] at h;rw[(Tout m).2 (.inr (.inl ⟨x',h,hmx⟩))] at ho;cases ho
    · rw[hbx] at h;rw[(Tout m).2 (.inr (.inr ⟨x',h,hmx⟩))] at ho;cases ho
  · have hj:¬kZ mt S xs ys c:=fun h=>by
      have:=Tbs1 c h
      rw[hcb] at this
      exact bJ (this▸h)
    have ho:=nO c hc hj
    have hcb':=(Tbs2 c hj).symm.trans hcb
    have h1:=hd c m ho hcb' hm
    show d (T.bs (S.pr m))<d c
    by_cases hp:kZ mt S xs ys (S.pr m)
    · rw[Tbs1 _ hp]
      rcases hp with h|h|⟨x,hx,h⟩|⟨x,hx,h⟩
      · have:=(fX _ h).1;omega
      · have:=(fY _ h).1;omega
      · have:=(mX _ x hx h).1
        rcases I.base M ho hcb' with⟨h3,_⟩|⟨m',h3,h4,h5,h6,_⟩
        · omega
        · obtain rfl:m'=m:=by omega
          rw[this] at h6;cases h6
      · have:=(mY _ x hx h).1
        rcases I.base M ho hcb' with⟨h3,_⟩|⟨m',h3,h4,h5,h6,_⟩
        · omega
        · obtain rfl:m'=m:=by omega
          rw[this] at h6;cases h6
    · rw[Tbs2 _ hp];exact h1
  · by_cases hj:kZ mt S xs ys u
    · rw[Tbs1 u hj]
      have chainW:∀zs c,(∀z∈zs,z∈xs∨z∈ys)→S.out c=true→S.bs c=c→Zy mt S c b zs→S.bs u∈zs→S.out u=true→∃ps,xl mt T u b ps∧qx mt E u ps b∧(zE ps b).Nodup∧∀y∈zE ps b,T.out y=true∧T.bs y=b:=by
        intro zs c hz hc1 hc2 cz hu2 hu3
        obtain⟨x1,x2,e,c1,c2⟩:=qS M I hd cz hc1 hc2 _ hu2
        obtain⟨_,ps,a1,a2,a3,a4⟩:=Yb M I hd c2 hb u hu3 rfl
        exact⟨ps,a1.goes G,a2,a3,fun y hy=>onT _ (fun z h=>hz z (by rw[e];exact List.mem_append.2 (.inr h))) y (a4 y hy)⟩
      rcases hj with h|h|⟨x,hx,h⟩|⟨x,hx,h⟩
      · exact chainW xs _ (fun z h=> .inl h) v1 v3 hX h (xo u h)
      · exact chainW ys _ (fun z h=> .inr h) w1 w3 hY h (yo u h)
      · have hny:jX mt ys u=false:=by
          rw[Bool.eq_false_iff];intro h'
          obtain⟨x',hx',h'⟩:=ZZ.1 h'
          have s1:=M.sy x u h
          have s2:=M.sy x' u h'
          obtain rfl:x=x':=by omega
          exact hdj x hx hx'
        have hyx:=ZZ.2 ⟨x,hx,h⟩
        exact wayM v w xs ys hv hw hvw hX hY hdj (fun z h=> .inl h) (fun z h=> .inr h) u x hx h
          (by show(if jX mt ys u=true then w else if jX mt xs u=true then v else S.b0 u)=v;rw[hny,hyx];rfl)
          (by show(if jX mt ys u=true then v else if jX mt xs u=true then w else S.b1 u)=w;rw[hny,hyx];rfl)
      · have hyx:=ZZ.2 ⟨x,hx,h⟩
        exact wayM w v ys xs hw hv (M.es _ _ hvw) hY hX (fun y hy h=>hdj y h hy) (fun z h=> .inr h) (fun z h=> .inl h) u x hx h
          (by show(if jX mt ys u=true then w else if jX mt xs u=true then v else S.b0 u)=w;rw[hyx];rfl)
          (by show(if jX mt ys u=true then v else if jX mt xs u=true then w else S.b1 u)=v;rw[hyx];rfl)
    · have ho:=nO u hu hj
      obtain⟨ps,p1,p2,p3,p4⟩:=I.wy u ho
      rw[Tbs2 u hj]
      refine⟨ps,p1.goes G,p2,p3,fun y hy=>?_⟩
      obtain⟨y1,y2⟩:=p4 y hy
      refine⟨(Tout y).2 (.inl y1),?_⟩
      rw[Tbs2 y (nJ y y1 (by rw[y2];exact fun h=>hj (.inl h)) (by rw[y2];exact fun h=>hj (.inr (.inl h))))];exact y2
end Go.Ga.Gl
