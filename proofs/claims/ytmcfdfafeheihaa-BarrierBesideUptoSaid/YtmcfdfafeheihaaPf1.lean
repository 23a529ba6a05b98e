/- Side by side numbers are added, and what both sets lack is, together, what they lack. -/
import Derived.Test.YtmcfdfafeheihaaRows
import Derived.Test.YtmcfdfafeheihaaGlkpaph5
set_option linter.all false

namespace Go.Proofs.Ytmcfdfafeheihaa
open Go Go.Ga
theorem mix : Try.prog.follows .mixedOrders = true := by kernel_rfl
def c_f5_r0 : List GOp :=[oO 12]
def c_f5_r1 : List GOp :=[oM 30 0,oM 31 2,(none,.call 32 (.f 8) [(.t 30,false),(.t 31,false),(.c (.int .i64 24),false),(.c (.int .i64 40),false)]),oM 33 1,oM 34 3,(none,.call 35 (.f 8) [(.t 33,false),(.t 34,false),(.c (.int .i64 24),false),(.c (.int .i64 40),false)]),(none,.alloc 13 [.int .i64 0,
 .slice none 0 0]),(none,.alloc 14 [.int .i64 0,.slice none 0 0]),oW 13 32 2,oW 14 35 2]
def c_f5_r2 : List GOp :=[oT 36 13 2,oT 37 14 2,oC2 38 16 36 37,(none,.alloc 15 [.int .i64 0,.slice none 0 0]),oW 15 38 2]
def c_f5_r3 : Tree :=.take [2,5,6,7] (oT 39 13 2) (.take [2,5,6,7] (oM 40 4) (.take [5,6,7] (oT 42 14 2) (.take [5,6,7] (oM 43 5) (.one 2 (oC2 41 9 39 40) (.one 5 (oC2 44 9 42 43) (.one 6 (oS 16 41) (.one 7 (oS 17 44) .done)))))))
def c_f5_r4 : List GOp :=[oT 46 13 2,oC 47 10 46,oM 45 47,oY 48 45 0,oY 49 45 1,oS 18 48,oS 19 49]
def c_f5_r5 : List GOp :=[oT 51 14 2,oC 52 10 51,oM 50 52,oY 53 50 0,oY 54 50 1,oS 20 53,oS 21 54]
def c_f5_r6 : List GOp :=[oT 56 15 2,oC 57 10 56,oM 55 57,oY 58 55 0,oY 59 55 1,oS 22 58,oS 23 59]
def c_f5_r7 : List GOp :=[oT 61 13 2,oM 62 16,oC2 63 11 61 62,oM 60 63,oY 64 60 0,oY 65 60 1,oS 24 64,oS 25 65]
def c_f5_r8 : List GOp :=[oT 67 14 2,oM 68 17,oC2 69 11 67 68,oM 66 69,oY 70 66 0,oY 71 66 1,oS 26 70,oS 27 71]
def c_f5_r9 : Tree :=.take [8,9,10,11,12,13] (oT 73 15 2) (.take [2,6,7,8,9,10,11,12,13] (oM 74 16) (.take [6,7,8,9,10,11,12,13] (oM 76 17) (.take [5,6,7,8,9,10,11,12,13] (oF 77 13 0) (.take [6,7,8,9,10,11,12,13] (oL 78 77 1) (.one 2 (none,.app 75 (.c (.slice none 0 0)) (.t 74) 1 8) (.one 6 (oC2 79 17 76 78) (.one 7 (none,
 .app 80 (.t 75) (.t 79) 1 8) (.one 8 (oC2 81 11 73 80) (.take [10,11,12,13] (oM 72 81) (.take [12,13] (oY 82 72 0) (.take [13] (oY 83 72 1) (.one 12 (oS 28 82) (.one 13 (oS 29 83) .done)))))))))))))
def c_f5_r10 : List GOp :=[(none,.call 84 (.f 13) []),oM 85 84,oK 85 true 86 19,oKB 85 true 87 .eql 86 0,oP 88 85 87,oM 89 88,oK 89 true 90 21,oKB 89 true 91 .eql 90 0,oP 92 89 91,oM 93 92,oK 93 true 94 23,oKB 93 true 95 .eql 94 0,oP 96 93 95,oM 97 96,oK 97 true 98 25,oKB 97 true 99 .eql 98 0,
 oP 100 97 99,oM 101 100,oK 101 true 102 27,oKB 101 true 103 .eql 102 0,oP 104 101 103,oM 105 104,oK 105 true 106 29,oKB 105 true 107 .eql 106 0,oP 108 105 107,oM 109 108,oK 109 true 110 18,oK 109 true 111 20,oKD 109 true 112 .add 110 111,oK 109 true 113 22,oKD 109 true 114 .eql 112 113,oP 115 109 114,
 oM 116 115,oK 116 true 117 24,oK 116 true 118 26,oKD 116 true 119 .add 117 118,oK 116 true 120 28,oKD 116 true 121 .eql 119 120,oP 122 116 121,oS 12 122]
def v_f5 : List Nat := [0, 1, 2, 3, 4, 5, 12, 13, 14, 15, 16, 17, 18, 19, 20, 21, 22, 23, 24, 25, 26, 27, 28, 29]
def c_f5 : ACode :=.seq (.reg v_f5 c_f5_r0 v_f5) (.seq (.reg [0,1,2,3,4,5,12,15,16,17,18,19,20,21,22,23,24,25,26,27,28,29] c_f5_r1 v_f5) (.seq (.reg [0,1,2,3,
 4,5,12,13,14,16,17,18,19,20,21,22,23,24,25,26,27,28,29] c_f5_r2 v_f5) (.seq (.draw v_f5 c_f5_r3 v_f5) (.seq (.reg v_f5 c_f5_r4 v_f5) (.seq (.reg v_f5 c_f5_r5 v_f5) (.seq (.reg v_f5 c_f5_r6 v_f5) (.seq (.reg v_f5 c_f5_r7 v_f5) (.seq (.reg v_f5 c_f5_r8 v_f5) (.seq (.draw v_f5 c_f5_r9 v_f5) (.seq (.reg v_f5 c_f5_r10 v_f5) .ret))))))))))
abbrev n_f5 : Nat := 5
theorem go_f5 : Gof Try.prog Try.f5.ntmps 6 [12] v_f5 [(.tmp 12)] c_f5 n_f5 := gof mix Try.func5 (by kernel_rfl) rfl
def c_f8_r0 : List GOp :=[(none,.alloc 8 [.int .i64 0,.slice none 0 0])]
def c_f8_r1 : List GOp :=[oM 13 0,(none,.r (.conv 14 .u64 (.t 13))),oM 15 2,oB 16 .add 15 1,(none,.r (.conv 17 .u64 (.t 16))),oD 18 .rem 14 17,(none,.r (.conv 19 .i64 (.t 18))),oS 0 19]
def c_f8_r2 : List GOp :=[oM 20 0,(none,.bld 21 [((0,1),(.t 20,true))] [.int .i64 0,.slice none 0 0]),(none,.alloc 9 [.int .i64 0,.slice none 0 0]),oW 9 21 2]
def c_f8_r3 : List GOp :=[oI 10 0]
def c_f8_r4 : List GOp :=[oM 22 10,oB 23 .add 22 1,oM 24 1,oE 25 24,oD 26 .lss 23 25,oM 27 26,(some (27,true),.r (.fldA 28 (.t 9) 1)),oKL 27 true 29 28 1,(some (27,true),.r (.len 30 (.t 29))),oK 27 true 31 3,oKD 27 true 32 .lss 30 31,oP 33 27 32,oM 34 33,oK 34 true 35 0,oKB 34 true 36 .gtr 35 0,
 oP 37 34 36,oM 38 37,oK 38 true 39 10,oKB 38 true 40 .lss 39 400,oP 41 38 40]
def c_f8_r5 : Tree :=.take [20,21,22,23,25,26] (oT 45 9 2) (.take [3,4,5,8,9,20,21,22,23,25,26] (oM 46 1) (.take [3,4,5,8,9,20,21,22,23,25,26] (oM 47 10) (.take [4,5,8,9,20,21,22,23,25,26] (oX 48 46 47 1) (.take [5,8,9,20,21,22,23,25,26] (oL 49 48 1) (.take [8,9,20,21,22,23,25,26] (none,
 .r (.conv 50 .u64 (.t 49))) (.take [7,8,9,20,21,22,23,25,26] (oM 51 0) (.take [8,9,20,21,22,23,25,26] (none,.r (.conv 52 .u64 (.t 51))) (.take [9,20,21,22,23,25,26] (oD 53 .rem 50 52) (.take [20,21,22,23,25,26] (none,.r (.conv 54 .i64 (.t 53))) (.take [13,14,15,18,19,20,21,22,23,25,26] (oM 55 1) (.take [12,
 13,14,15,18,19,20,21,22,23,25,26] (oM 56 10) (.take [13,14,15,18,19,20,21,22,23,25,26] (oB 57 .add 56 1) (.take [14,15,18,19,20,21,22,23,25,26] (oX 58 55 57 1) (.take [15,18,19,20,21,22,23,25,26] (oL 59 58 1) (.take [18,19,20,21,22,23,25,26] (none,.r (.conv 60 .u64 (.t 59))) (.take [17,18,19,20,21,22,
 23,25,26] (oM 61 0) (.take [18,19,20,21,22,23,25,26] (none,.r (.conv 62 .u64 (.t 61))) (.take [19,20,21,22,23,25,26] (oD 63 .rem 60 62) (.take [20,21,22,23,25,26] (none,.r (.conv 64 .i64 (.t 63))) (.two 20 (oC3 65 25 45 54 64) (.take [22,23,25,26] (oM 44 65) (.take [25,26] (oY 66 44 0) (.take [26] (oY 67 44 1) (.one 24 (none,
 .alloc 11 [.int .i64 0,.slice none 0 0]) (.one 25 (oW 11 66 2) (.one 26 (oS 12 67) .done)))))) 24 (none,.alloc 11 [.int .i64 0,.slice none 0 0]) (.one 20 (oC3 65 25 45 54 64) (.take [22,23,25,26] (oM 44 65) (.take [25,26] (oY 66 44 0) (.take [26] (oY 67 44 1) (.one 25 (oW 11 66 2) (.one 26 (oS 12 67) .done))))))))))))))))))))))))))
def c_f8_r6 : List GOp :=[oM 68 12,oB 69 .eql 68 0]
def c_f8_r7 : List GOp :=[oT 70 11 2,oW 9 70 2]
def c_f8_r8 : List GOp :=[oM 42 10,oB 43 .add 42 2,oS 10 43]
def c_f8_r9 : List GOp :=[oT 71 9 2,oW 8 71 2]
def v_f8 : List Nat := [0, 1, 2, 3, 8, 9, 10, 11, 12, 41, 69]
def c_f8 : ACode :=.seq (.reg [0,1,2,3,9,10,11,12,41,69] c_f8_r0 v_f8) (.seq (.reg v_f8 c_f8_r1 v_f8) (.seq (.reg [0,1,2,3,8,10,11,12,41,69] c_f8_r2 v_f8) (.seq (.seq (.reg v_f8 c_f8_r3 v_f8) (.blk 0 (.loop (.seq (.seq (.reg [0,
 1,2,3,8,9,10,11,12,69] c_f8_r4 v_f8) (.cond (.t 41) .skip (.exit 0))) (.seq (.blk 1 (.seq (.draw [0,1,2,3,8,9,10,12,41,69] c_f8_r5 v_f8) (.seq (.reg [0,1,2,3,8,9,10,11,12,41] c_f8_r6 v_f8) (.cond (.t 69) (.reg v_f8 c_f8_r7 v_f8) .skip)))) (.reg v_f8 c_f8_r8 v_f8)))))) (.seq (.reg v_f8 c_f8_r9 v_f8) .ret))))
abbrev n_f8 : Nat := 8
theorem go_f8 : Gof Try.prog Try.f8.ntmps 4 [] v_f8 [(.cell 8 2 true)] c_f8 n_f8 := gof mix Try.func8 (by kernel_rfl) rfl
def c_f9_r0 : List GOp :=[(none,.box 2 (.t 0)),oZ 4]
def c_f9_r1 : List GOp :=[oZ 5]
def c_f9_r2 : List GOp :=[oI 6 0]
def c_f9_r3 : List GOp :=[oM 7 6,oF 8 2 0,oL 9 8 1,oD 10 .lss 7 9,oM 11 10,oK 11 true 12 6,oKB 11 true 13 .lss 12 64,oP 14 11 13]
def c_f9_r4 : List GOp :=[oM 17 1,oM 18 6,(none,.r (.conv 19 .u64 (.t 18))),oD 20 .shr 17 19,(none,.r (.bin 21 .and 0 (.t 20) (.c (.int .u64 1)))),(none,.r (.bin 22 .eql 0 (.t 21) (.c (.int .u64 1))))]
def c_f9_r5 : List GOp :=[oM 23 5,oM 24 6,(none,.blds 25 1 1 [((0,1),(.t 24,true))] [.int .i64 0]),(none,.app 26 (.t 23) (.t 25) 1 8),oS 5 26]
def c_f9_r6 : List GOp :=[oM 15 6,oB 16 .add 15 1,oS 6 16]
def c_f9_r7 : List GOp :=[oM 27 5,oS 4 27]
def v_f9 : List Nat := [0, 1, 2, 4, 5, 6, 14, 22]
def c_f9 : ACode :=.seq (.reg [0,1,4,5,6,14,22] c_f9_r0 v_f9) (.seq (.reg v_f9 c_f9_r1 v_f9) (.seq (.seq (.reg v_f9 c_f9_r2 v_f9) (.blk 0 (.loop (.seq (.seq (.reg [0,1,2,4,5,6,
 22] c_f9_r3 v_f9) (.cond (.t 14) .skip (.exit 0))) (.seq (.blk 1 (.seq (.reg [0,1,2,4,5,6,14] c_f9_r4 v_f9) (.cond (.t 22) (.reg v_f9 c_f9_r5 v_f9) .skip))) (.reg v_f9 c_f9_r6 v_f9)))))) (.seq (.reg v_f9 c_f9_r7 v_f9) .ret)))
abbrev n_f9 : Nat := 9
theorem go_f9 : Gof Try.prog Try.f9.ntmps 2 [4] v_f9 [(.tmp 4)] c_f9 n_f9 := gof mix Try.func9 (by kernel_rfl) rfl
def c_f10_r0 : List GOp :=[(none,.box 1 (.t 0)),oI 2 0,oI 3 0]
def c_f10_r1 : List GOp :=[oT 8 1 2,oC 9 23 8,oM 7 9,oY 10 7 0,oY 11 7 1,oY 12 7 2,(none,.alloc 5 [.int .i64 0,.int .i64 0]),oS 4 10,oW 5 11 2,oS 6 12]
def c_f10_r2 : List GOp :=[oM 13 4,oC 14 26 13,oM 15 6,oS 2 14,oS 3 15]
def v_f10 : List Nat := [0, 1, 2, 3, 4, 6]
def c_f10 : ACode :=.seq (.reg [0,2,3,4,6] c_f10_r0 v_f10) (.seq (.reg v_f10 c_f10_r1 v_f10) (.seq (.reg v_f10 c_f10_r2 v_f10) .ret))
abbrev n_f10 : Nat := 10
theorem go_f10 : Gof Try.prog Try.f10.ntmps 1 [2, 3] v_f10 [(.tmp 2), (.tmp 3)] c_f10 n_f10 := gof mix Try.func10 (by kernel_rfl) rfl
def c_f11_r0 : List GOp :=[(none,.box 2 (.t 0)),oI 4 0,oI 5 0]
def c_f11_r1 : List GOp :=[oT 11 2 2,oC 12 27 11,(none,.r (.notb 13 (.t 12)))]
def c_f11_r2 : List GOp :=[oI 4 0,oI 5 3]
def c_f11_r3 : List GOp :=[oM 14 1,oE 15 14,(none,.r (.mov 16 (.c (.int .i64 0))))]
def c_f11_r4 : List GOp :=[oD 17 .lss 16 15]
def c_f11_r5 : List GOp :=[oX 18 14 16 1,oL 19 18 1,oS 7 19]
def c_f11_r6 : List GOp :=[oM 20 7,oB 21 .lss 20 0,oM 22 21,oK 22 false 23 7,(some (22,false),.r (.fldA 24 (.t 2) 0)),oKL 22 false 25 24 1,oKD 22 false 26 .geq 23 25,oQ 27 22 26]
def c_f11_r7 : List GOp :=[oI 4 0,oI 5 4]
def c_f11_r8 : List GOp :=[oB 28 .add 16 1,oS 16 28]
def c_f11_r9 : List GOp :=[oF 29 2 0,oL 30 29 1,(none,.mk 31 (.t 30) (.t 30) 1 1 [.bool false]),oS 8 31]
def c_f11_r10 : List GOp :=[oM 32 1,oE 33 32,(none,.r (.mov 34 (.c (.int .i64 0))))]
def c_f11_r11 : List GOp :=[oD 35 .lss 34 33]
def c_f11_r12 : List GOp :=[oX 36 32 34 1,oL 37 36 1,oS 10 37]
def c_f11_r13 : List GOp :=[oM 38 8,oM 39 10,oX 40 38 39 1,oL 41 40 1]
def c_f11_r14 : List GOp :=[oI 4 0,oI 5 6]
def c_f11_r15 : List GOp :=[oM 42 8,oM 43 10,oX 44 42 43 1,(none,.st (.t 44) (.c (.bool true)) 1)]
def c_f11_r16 : List GOp :=[oB 45 .add 34 1,oS 34 45]
def c_f11_r17 : List GOp :=[oF 46 2 0,oL 47 46 1,oF 48 2 1,oL 49 48 1,oC2 50 29 47 49,oM 51 1,oC2 52 28 50 51,oS 4 52,oI 5 0]
def v_f11 : List Nat := [0, 1, 2, 4, 5, 7, 8, 10, 13, 14, 15, 16, 17, 27, 32, 33, 34, 35, 41]
def c_f11 : ACode :=.seq (.reg [0,1,4,5,7,8,10,13,14,15,16,17,27,32,33,34,35,41] c_f11_r0 v_f11) (.seq (.seq (.reg [0,1,2,4,5,7,8,10,14,15,16,17,27,32,33,34,35,41] c_f11_r1 v_f11) (.cond (.t 13) (.seq (.reg v_f11 c_f11_r2 v_f11) .ret) .skip)) (.seq (.seq (.reg [0,
 1,2,4,5,7,8,10,13,17,27,32,33,34,35,41] c_f11_r3 v_f11) (.blk 0 (.loop (.seq (.reg [0,1,2,4,5,7,8,10,13,14,15,16,27,32,33,34,35,41] c_f11_r4 v_f11) (.seq (.cond (.t 17) .skip (.exit 0)) (.seq (.blk 1 (.seq (.reg v_f11 c_f11_r5 v_f11) (.seq (.reg [0,
 1,2,4,5,7,8,10,13,14,15,16,17,32,33,34,35,41] c_f11_r6 v_f11) (.cond (.t 27) (.seq (.reg v_f11 c_f11_r7 v_f11) .ret) .skip)))) (.reg v_f11 c_f11_r8 v_f11))))))) (.seq (.reg v_f11 c_f11_r9 v_f11) (.seq (.seq (.reg [0,
 1,2,4,5,7,8,10,13,14,15,16,17,27,35,41] c_f11_r10 v_f11) (.blk 2 (.loop (.seq (.reg [0,1,2,4,5,7,8,10,13,14,15,16,17,27,32,33,34,41] c_f11_r11 v_f11) (.seq (.cond (.t 35) .skip (.exit 2)) (.seq (.blk 3 (.seq (.reg v_f11 c_f11_r12 v_f11) (.seq (.seq (.reg [0,
 1,2,4,5,7,8,10,13,14,15,16,17,27,32,33,34,35] c_f11_r13 v_f11) (.cond (.t 41) (.seq (.reg v_f11 c_f11_r14 v_f11) .ret) .skip)) (.reg v_f11 c_f11_r15 v_f11)))) (.reg v_f11 c_f11_r16 v_f11))))))) (.seq (.reg v_f11 c_f11_r17 v_f11) .ret)))))
abbrev n_f11 : Nat := 11
theorem go_f11 : Gof Try.prog Try.f11.ntmps 2 [4, 5] v_f11 [(.tmp 4), (.tmp 5)] c_f11 n_f11 := gof mix Try.func11 (by kernel_rfl) rfl
def c_f13_r0 : List GOp :=[oO 0]
def c_f13_r1 : List GOp :=[(none,.bld 4 [((0,1),(.c (.int .i64 0),true)),((1,1),(.c (.int .i64 1),true))] [.int .i64 0,.int .i64 0]),(none,.bld 5 [((0,1),(.c (.int .i64 0),true)),((1,1),(.c (.int .i64 2),true))] [.int .i64 0,.int .i64 0]),(none,.bld 6 [((0,1),(.c (.int .i64 0),true)),((1,
 1),(.c (.int .i64 3),true))] [.int .i64 0,.int .i64 0]),(none,.blds 7 3 2 [((0,2),(.t 4,true)),((2,2),(.t 5,true)),((4,2),(.t 6,true))] [.int .i64 0,.int .i64 0]),(none,.bld 8 [((0,1),(.c (.int .i64 4),true)),((1,1),(.t 7,true))] [.int .i64 0,.slice none 0 0]),(none,.alloc 1 [.int .i64 0,.slice none 0 0]),
 oW 1 8 2]
def c_f13_r2 : List GOp :=[oT 10 1 2,(none,.blds 11 1 1 [((0,1),(.c (.int .i64 0),true))] [.int .i64 0]),oC2 12 11 10 11,oM 9 12,oY 13 9 0,oY 14 9 1,oS 2 13,oS 3 14]
def c_f13_r3 : List GOp :=[oM 15 3,oB 16 .eql 15 0,oM 17 16,oK 17 true 18 2,oKB 17 true 19 .eql 18 2,oP 20 17 19,oM 21 20,(some (21,true),.r (.ld 22 (.t 1) 2 true)),(some (21,true),.blds 23 4 1 [((0,1),(.c (.int .i64 1),true)),((1,1),(.c (.int .i64 0),true)),((2,1),(.c (.int .i64 (- (0 + 1))),
 true)),((3,1),(.c (.int .i64 (- (0 + 1))),true))] [.int .i64 0]),(some (21,true),.blds 24 1 1 [((0,1),(.c (.int .i64 0),true))] [.int .i64 0]),(some (21,true),.call 25 (.f 15) [(.t 22,false),(.t 23,false),(.t 24,false)]),oP 26 21 25,oS 0 26]
def v_f13 : List Nat := [0, 1, 2, 3]
def c_f13 : ACode :=.seq (.reg v_f13 c_f13_r0 v_f13) (.seq (.reg [0,2,3] c_f13_r1 v_f13) (.seq (.reg v_f13 c_f13_r2 v_f13) (.seq (.reg v_f13 c_f13_r3 v_f13) .ret)))
abbrev n_f13 : Nat := 13
theorem go_f13 : Gof Try.prog Try.f13.ntmps 0 [0] v_f13 [(.tmp 0)] c_f13 n_f13 := gof mix Try.func13 (by kernel_rfl) rfl
def c_f15_r0 : List GOp :=[(none,.box 3 (.t 0)),oO 6]
def c_f15_r1 : List GOp :=[oT 10 3 2,oM 11 2,oC2 12 11 10 11,oM 9 12,oY 13 9 0,oY 14 9 1,oS 7 13,oS 8 14]
def c_f15_r2 : Tree :=.take [1,2,3,4,5,6,7,8,9,10,11,12,13,14,15,16,17] (oM 15 8) (.take [2,3,4,5,6,7,8,9,10,11,12,13,14,15,16,17] (oB 16 .eql 15 0) (.take [3,4,5,6,7,8,9,10,11,12,13,14,15,16,17] (oM 17 16) (.take [5,6,7,8,9,10,11,12,13,14,15,16,17] (some (17,true),.r (.ld 18 (.t 3) 2 true)) (.take [5,
 6,7,8,9,10,11,12,13,14,15,16,17] (oK 17 true 19 1) (.one 5 (some (17,true),.call 20 (.f 31) [(.t 18,false),(.t 19,false)]) (.take [7,8,9,10,11,12,13,14,15,16,17] (oP 21 17 20) (.take [8,9,10,11,12,13,14,15,16,17] (oM 22 21) (.take [9,10,15,16,17] (oK 22 true 23 1) (.take [12,14,15,16,17] (some (22,true),
 .r (.fldA 26 (.t 3) 0)) (.take [14,15,16,17] (oKL 22 true 27 26 1) (.take [14,15,16,17] (oK 22 true 28 7) (.take [15,16,17] (oKD 22 true 29 .sub 27 28) (.one 9 (some (22,true),.call 24 (.f 26) [(.t 23,false)]) (.take [15,16,17] (some (22,true),.r (.bin 25 .mul 0 (.c (.int .i64 2)) (.t 24))) (.take [16,
 17] (oKD 22 true 30 .eql 25 29) (.take [17] (oP 31 22 30) (.one 17 (oS 6 31) .done)))))))))))))))))
def v_f15 : List Nat := [0, 1, 2, 3, 6, 7, 8]
def c_f15 : ACode :=.seq (.reg [0,1,2,6,7,8] c_f15_r0 v_f15) (.seq (.reg v_f15 c_f15_r1 v_f15) (.seq (.draw v_f15 c_f15_r2 v_f15) .ret))
abbrev n_f15 : Nat := 15
theorem go_f15 : Gof Try.prog Try.f15.ntmps 3 [6] v_f15 [(.tmp 6)] c_f15 n_f15 := gof mix Try.func15 (by kernel_rfl) rfl
def c_f16_r0 : List GOp :=[(none,.box 2 (.t 0)),(none,.box 3 (.t 1)),(none,.alloc 4 [.int .i64 0,.slice none 0 0])]
def c_f16_r1 : Tree :=.take [1,4,8,10] (oF 7 2 0) (.take [4,8,10] (oL 8 7 1) (.take [3,4,8,10] (oF 9 3 0) (.take [4,8,10] (oL 10 9 1) (.take [8,10] (oD 11 .add 8 10) (.take [6,7,8,10] (oF 12 2 1) (.take [7,8,10] (oL 13 12 1) (.two 7 (none,.app 14 (.c (.slice none 0 0)) (.t 13) 2 16) (.two 8 (none,
 .bld 15 [((0,1),(.t 11,true)),((1,1),(.t 14,true))] [.int .i64 0,.slice none 0 0]) (.one 9 (none,.alloc 5 [.int .i64 0,.slice none 0 0]) (.one 10 (oW 5 15 2) .done)) 9 (none,.alloc 5 [.int .i64 0,.slice none 0 0]) (.one 8 (none,.bld 15 [((0,1),(.t 11,true)),((1,1),(.t 14,true))] [.int .i64 0,.slice none 0 0]) (.one 10 (oW 5 15 2) .done))) 9 (none,
 .alloc 5 [.int .i64 0,.slice none 0 0]) (.one 7 (none,.app 14 (.c (.slice none 0 0)) (.t 13) 2 16) (.one 8 (none,.bld 15 [((0,1),(.t 11,true)),((1,1),(.t 14,true))] [.int .i64 0,.slice none 0 0]) (.one 10 (oW 5 15 2) .done))))))))))
def c_f16_r2 : List GOp :=[oI 6 0]
def c_f16_r3 : List GOp :=[oM 16 6,oF 17 3 1,oL 18 17 1,oE 19 18,oD 20 .lss 16 19]
def c_f16_r4 : Tree :=.take [1,22,23,24] (oF 23 5 1) (.take [22,23,24] (oL 24 23 1) (.take [3,5,6,7,10,20,21,22,23,24] (oF 25 3 1) (.take [5,6,7,10,20,21,22,23,24] (oL 26 25 1) (.take [5,6,7,10,20,21,22,23,24] (oM 27 6) (.take [6,7,10,20,21,22,23,24] (oX 28 26 27 2) (.take [7,10,20,21,
 22,23,24] (oF 29 28 0) (.take [10,20,21,22,23,24] (oL 30 29 1) (.take [9,10,20,21,22,23,24] (oF 31 2 0) (.take [10,20,21,22,23,24] (oL 32 31 1) (.take [20,21,22,23,24] (oD 33 .add 30 32) (.take [12,14,15,16,19,20,21,22,23,24] (oF 34 3 1) (.take [14,15,16,19,20,21,22,23,24] (oL 35 34 1) (.take [14,15,
 16,19,20,21,22,23,24] (oM 36 6) (.take [15,16,19,20,21,22,23,24] (oX 37 35 36 2) (.take [16,19,20,21,22,23,24] (oF 38 37 1) (.take [19,20,21,22,23,24] (oL 39 38 1) (.take [18,19,20,21,22,23,24] (oF 40 2 0) (.take [19,20,21,22,23,24] (oL 41 40 1) (.take [20,21,22,23,24] (oD 42 .add 39 41) (.one 20 (none,
 .bld 43 [((0,1),(.t 33,true)),((1,1),(.t 42,true))] [.int .i64 0,.int .i64 0]) (.one 21 (none,.blds 44 1 2 [((0,2),(.t 43,true))] [.int .i64 0,.int .i64 0]) (.one 22 (none,.app 45 (.t 24) (.t 44) 2 16) (.take [24] (oF 46 5 1) (.one 24 (oW 46 45 1) .done))))))))))))))))))))))))
def c_f16_r5 : List GOp :=[oM 21 6,oB 22 .add 21 1,oS 6 22]
def c_f16_r6 : List GOp :=[oT 47 5 2,oW 4 47 2]
def v_f16 : List Nat := [0, 1, 2, 3, 4, 5, 6, 20]
def c_f16 : ACode :=.seq (.reg [0,1,5,6,20] c_f16_r0 v_f16) (.seq (.draw [0,1,2,3,4,6,20] c_f16_r1 v_f16) (.seq (.seq (.reg v_f16 c_f16_r2 v_f16) (.blk 0 (.loop (.seq (.seq (.reg [0,
 1,2,3,4,5,6] c_f16_r3 v_f16) (.cond (.t 20) .skip (.exit 0))) (.seq (.blk 1 (.draw v_f16 c_f16_r4 v_f16)) (.reg v_f16 c_f16_r5 v_f16)))))) (.seq (.reg v_f16 c_f16_r6 v_f16) .ret)))
abbrev n_f16 : Nat := 16
theorem go_f16 : Gof Try.prog Try.f16.ntmps 2 [] v_f16 [(.cell 4 2 true)] c_f16 n_f16 := gof mix Try.func16 (by kernel_rfl) rfl
def c_f17_r0 : List GOp :=[oZ 4]
def c_f17_r1 : List GOp :=[oZ 5]
def c_f17_r2 : List GOp :=[oI 6 0]
def c_f17_r3 : List GOp :=[oM 7 6,oM 8 0,oE 9 8,oD 10 .lss 7 9]
def c_f17_r4 : List GOp :=[oM 13 5,oM 14 0,oM 15 6,oX 16 14 15 1,oL 17 16 1,oM 18 1,oD 19 .add 17 18,(none,.blds 20 1 1 [((0,1),(.t 19,true))] [.int .i64 0]),(none,.app 21 (.t 13) (.t 20) 1 8),oS 5 21]
def c_f17_r5 : List GOp :=[oM 11 6,oB 12 .add 11 1,oS 6 12]
def c_f17_r6 : List GOp :=[oM 22 5,oS 4 22]
def v_f17 : List Nat := [0, 1, 4, 5, 6, 10]
def c_f17 : ACode :=.seq (.reg v_f17 c_f17_r0 v_f17) (.seq (.reg v_f17 c_f17_r1 v_f17) (.seq (.seq (.reg v_f17 c_f17_r2 v_f17) (.blk 0 (.loop (.seq (.seq (.reg [0,
 1,4,5,6] c_f17_r3 v_f17) (.cond (.t 10) .skip (.exit 0))) (.seq (.blk 1 (.reg v_f17 c_f17_r4 v_f17)) (.reg v_f17 c_f17_r5 v_f17)))))) (.seq (.reg v_f17 c_f17_r6 v_f17) .ret)))
abbrev n_f17 : Nat := 17
theorem go_f17 : Gof Try.prog Try.f17.ntmps 2 [4] v_f17 [(.tmp 4)] c_f17 n_f17 := gof mix Try.func17 (by kernel_rfl) rfl
def c_f23_r0 : List GOp :=[(none,.box 1 (.t 0)),oZ 2,(none,.alloc 3 [.int .i64 0,.int .i64 0]),oI 4 0]
def c_f23_r1 : List GOp :=[oT 8 1 2,oC 9 27 8,(none,.r (.notb 10 (.t 9)))]
def c_f23_r2 : List GOp :=[(none,.bld 11 [] [.int .i64 0,.int .i64 0]),oZ 2,oW 3 11 2,oI 4 3]
def c_f23_r3 : List GOp :=[oT 12 1 2,oC 13 39 12,oS 5 13]
def c_f23_r4 : List GOp :=[oF 15 1 0,oL 16 15 1,oF 17 1 1,oL 18 17 1,oC2 19 29 16 18,oM 20 5,oC2 21 40 19 20,oM 14 21,oY 22 14 0,oY 23 14 1,(none,.alloc 7 [.int .i64 0,.int .i64 0]),oS 6 22,oW 7 23 2]
def c_f23_r5 : Tree :=.take [2,3,4] (oM 24 5) (.take [3,4] (oT 25 7 2) (.one 2 (oS 2 24) (.one 3 (oW 3 25 2) (.one 4 (oI 4 0) .done))))
def v_f23 : List Nat := [0, 1, 2, 3, 4, 5, 6, 7, 10]
def c_f23 : ACode :=.seq (.reg [0,2,4,5,6,7,10] c_f23_r0 v_f23) (.seq (.seq (.reg [0,1,2,3,4,5,6,7] c_f23_r1 v_f23) (.cond (.t 10) (.seq (.reg v_f23 c_f23_r2 v_f23) .ret) .skip)) (.seq (.reg v_f23 c_f23_r3 v_f23) (.seq (.reg [0,
 1,2,3,4,5,6,10] c_f23_r4 v_f23) (.seq (.draw v_f23 c_f23_r5 v_f23) .ret))))
abbrev n_f23 : Nat := 23
theorem go_f23 : Gof Try.prog Try.f23.ntmps 1 [2, 4] v_f23 [(.tmp 2), (.cell 3 2 true), (.tmp 4)] c_f23 n_f23 := gof mix Try.func23 (by kernel_rfl) rfl
def c_f25_r0 : List GOp :=[(none,.box 3 (.t 0)),(none,.alloc 6 [.int .i64 0,.slice none 0 0]),oI 7 0]
def c_f25_r1 : List GOp :=[oT 9 3 2,oC 10 34 9,(none,.r (.notb 11 (.t 10))),oS 8 11]
def c_f25_r2 : List GOp :=[(none,.bld 12 [] [.int .i64 0,.slice none 0 0]),oW 6 12 2,oI 7 3]
def c_f25_r3 : List GOp :=[oT 14 3 2,oM 15 1,oC2 16 35 14 15,(none,.r (.notb 17 (.t 16))),oM 18 17,(some (18,false),.r (.ld 19 (.t 3) 2 true)),oK 18 false 20 2,(some (18,false),.call 21 (.f 35) [(.t 19,false),(.t 20,false)]),(some (18,false),.r (.notb 22 (.t 21))),oQ 23 18 22,oS 13 23]
def c_f25_r4 : List GOp :=[(none,.bld 24 [] [.int .i64 0,.slice none 0 0]),oW 6 24 2,oI 7 4]
def c_f25_r5 : List GOp :=[oM 26 1,oM 27 2,oD 28 .eql 26 27,oS 25 28]
def c_f25_r6 : List GOp :=[(none,.bld 29 [] [.int .i64 0,.slice none 0 0]),oW 6 29 2,oI 7 5]
def c_f25_r7 : List GOp :=[oT 31 3 2,oM 32 1,oM 33 2,oC3 34 42 31 32 33,oS 30 34]
def c_f25_r8 : List GOp :=[(none,.bld 35 [] [.int .i64 0,.slice none 0 0]),oW 6 35 2,oI 7 6]
def c_f25_r9 : List GOp :=[oF 37 3 1,oL 38 37 1,oE 39 38,oB 40 .geq 39 65536,oS 36 40]
def c_f25_r10 : List GOp :=[(none,.bld 41 [] [.int .i64 0,.slice none 0 0]),oW 6 41 2,oI 7 8]
def c_f25_r11 : Tree :=.take [1,8,9,10] (oF 42 3 0) (.take [8,9,10] (oL 43 42 1) (.take [3,7,8,9,10] (oF 44 3 1) (.take [7,8,9,10] (oL 45 44 1) (.take [6,7,8,9,10] (oM 46 1) (.take [6,7,8,9,10] (oM 47 2) (.one 6 (oC2 48 44 46 47) (.one 7 (oC2 49 43 45 48) (.one 8 (none,.bld 50 [((0,1),(.t 43,
 true)),((1,1),(.t 49,true))] [.int .i64 0,.slice none 0 0]) (.one 9 (oW 6 50 2) (.one 10 (oI 7 0) .done))))))))))
def v_f25 : List Nat := [0, 1, 2, 3, 6, 7, 8, 13, 25, 30, 36]
def c_f25 : ACode :=.seq (.reg [0,1,2,7,8,13,25,30,36] c_f25_r0 v_f25) (.seq (.blk 0 (.seq (.reg v_f25 c_f25_r1 v_f25) (.cond (.t 8) (.seq (.reg v_f25 c_f25_r2 v_f25) .ret) (.seq (.reg v_f25 c_f25_r3 v_f25) (.cond (.t 13) (.seq (.reg v_f25 c_f25_r4 v_f25) .ret) (.seq (.reg v_f25 c_f25_r5 v_f25) (.cond (.t 25) (.seq (.reg v_f25 c_f25_r6 v_f25) .ret) (.seq (.reg v_f25 c_f25_r7 v_f25) (.cond (.t 30) (.seq (.reg v_f25 c_f25_r8 v_f25) .ret) (.seq (.reg v_f25 c_f25_r9 v_f25) (.cond (.t 36) (.seq (.reg v_f25 c_f25_r10 v_f25) .ret) .skip))))))))))) (.seq (.draw v_f25 c_f25_r11 v_f25) .ret))
abbrev n_f25 : Nat := 25
theorem go_f25 : Gof Try.prog Try.f25.ntmps 3 [7] v_f25 [(.cell 6 2 true), (.tmp 7)] c_f25 n_f25 := gof mix Try.func25 (by kernel_rfl) rfl
def c_f26_r0 : List GOp :=[oI 2 0]
def c_f26_r1 : List GOp :=[oM 3 0,(none,.call 4 (.f 45) [(.t 3,false),(.f 46,false)]),oE 5 4,oB 6 .quo 5 2,oS 2 6]
def v_f26 : List Nat := [0, 2]
def c_f26 : ACode :=.seq (.reg v_f26 c_f26_r0 v_f26) (.seq (.reg v_f26 c_f26_r1 v_f26) .ret)
abbrev n_f26 : Nat := 26
theorem go_f26 : Gof Try.prog Try.f26.ntmps 1 [2] v_f26 [(.tmp 2)] c_f26 n_f26 := gof mix Try.func26 (by kernel_rfl) rfl
def c_f27_r0 : List GOp :=[(none,.box 1 (.t 0)),oO 2]
def c_f27_r1 : List GOp :=[oF 6 1 0,oL 7 6 1,oB 8 .lss 7 0,oM 9 8,(some (9,false),.r (.fldA 10 (.t 1) 0)),oKL 9 false 11 10 1,oKB 9 false 12 .gtr 11 4096,oQ 13 9 12,oM 14 13,(some (14,false),.r (.fldA 15 (.t 1) 1)),oKL 14 false 16 15 1,(some (14,false),.r (.len 17 (.t 16))),oKB 14 false 18 .gtr 17 65536,
 oQ 19 14 18]
def c_f27_r2 : List GOp :=[oO 2]
def c_f27_r3 : List GOp :=[(none,.bld 20 [] []),(none,.mkfn 21 (.func 47) [(.t 20,false)] []),oS 3 21]
def c_f27_r4 : List GOp :=[oF 22 1 1,oL 23 22 1,oE 24 23,(none,.r (.mov 25 (.c (.int .i64 0))))]
def c_f27_r5 : List GOp :=[oD 26 .lss 25 24]
def c_f27_r6 : List GOp :=[oM 27 25,oX 28 23 25 2,oT 29 28 2,(none,.alloc 5 [.int .i64 0,.int .i64 0]),oS 4 27,oW 5 29 2]
def c_f27_r7 : Tree :=.take [1,2,3,4,5,6,7,8,9,10,11,12,13,14,15,16,17,18,19,20,21,22,23,24,25,26,27,28,29,30,31,32] (oF 30 5 0) (.take [2,3,4,5,6,7,8,9,10,11,12,13,14,15,16,17,18,19,20,21,22,23,24,25,26,27,28,29,30,31,32] (oL 31 30 1) (.take [3,4,5,6,7,8,9,10,11,12,13,14,15,16,17,18,19,20,21,
 22,23,24,25,26,27,28,29,30,31,32] (oB 32 .lss 31 0) (.take [4,5,6,7,8,9,10,11,12,13,14,15,16,17,18,19,20,21,22,23,24,25,26,27,28,29,30,31,32] (oM 33 32) (.take [5,8,9,10,11,12,13,14,15,16,17,18,19,20,21,22,23,24,25,26,27,28,29,30,31,32] (some (33,false),.r (.fldA 34 (.t 5) 0)) (.take [8,9,10,11,12,13,
 14,15,16,17,18,19,20,21,22,23,24,25,26,27,28,29,30,31,32] (oKL 33 false 35 34 1) (.take [7,8,9,10,11,12,13,14,15,16,17,18,19,20,21,22,23,24,25,26,27,28,29,30,31,32] (some (33,false),.r (.fldA 36 (.t 5) 1)) (.take [8,9,10,11,12,13,14,15,16,17,18,19,20,21,22,23,24,25,26,27,28,29,30,31,32] (oKL 33 false 37 36 1) (.take [9,
 10,11,12,13,14,15,16,17,18,19,20,21,22,23,24,25,26,27,28,29,30,31,32] (oKD 33 false 38 .geq 35 37) (.take [10,11,12,13,14,15,16,17,18,19,20,21,22,23,24,25,26,27,28,29,30,31,32] (oQ 39 33 38) (.take [11,12,13,14,15,16,17,18,19,20,21,22,23,24,25,26,27,28,29,30,31,32] (oM 40 39) (.take [12,15,16,17,18,19,
 20,21,22,23,24,25,26,27,28,29,30,31,32] (some (40,false),.r (.fldA 41 (.t 5) 1)) (.take [15,16,17,18,19,20,21,22,23,24,25,26,27,28,29,30,31,32] (oKL 40 false 42 41 1) (.take [14,15,16,17,18,19,20,21,22,23,24,25,26,27,28,29,30,31,32] (some (40,false),.r (.fldA 43 (.t 1) 0)) (.take [15,16,17,18,19,20,21,
 22,23,24,25,26,27,28,29,30,31,32] (oKL 40 false 44 43 1) (.take [16,17,18,19,20,21,22,23,24,25,26,27,28,29,30,31,32] (oKD 40 false 45 .geq 42 44) (.take [17,18,19,20,21,22,23,24,25,26,27,28,29,30,31,32] (oQ 46 40 45) (.take [18,19,20,21,22,23,24,25,26,27,28,29,30,31,32] (oM 47 46) (.take [19,20,21,22,
 23,24,25,26,27,28,29,30,31,32] (oK 47 false 48 4) (.take [20,21,22,23,24,25,26,27,28,29,30,31,32] (oKB 47 false 49 .gtr 48 0) (.take [21,22,23,24,25,26,27,28,29,30,31,32] (oK 47 false 50 49) (.take [29,30,31,32] (oK 50 true 51 3) (.take [23,26,27,29,30,31,32] (some (50,true),.r (.fldA 52 (.t 1) 1)) (.take [26,
 27,29,30,31,32] (oKL 50 true 53 52 1) (.take [25,26,27,29,30,31,32] (oK 50 true 54 4) (.take [26,27,29,30,31,32] (oKB 50 true 55 .sub 54 1) (.take [27,29,30,31,32] (some (50,true),.r (.idxA 56 (.t 53) (.t 55) 2)) (.take [29,30,31,32] (some (50,true),.r (.ld 57 (.t 56) 2 true)) (.take [29,30,31,32] (some (50,
 true),.r (.ld 58 (.t 5) 2 true)) (.one 29 (some (50,true),.call 59 (.t 51) [(.t 57,false),(.t 58,false)]) (.take [31,32] (oKB 50 true 60 .geq 59 0) (.take [32] (some (47,false),.r (.pick 61 (.t 50) (.t 60) (.c (.bool false)))) (.take [] (oQ 62 47 61) .done))))))))))))))))))))))))))))))))
def c_f27_r8 : List GOp :=[oO 2]
def c_f27_r9 : List GOp :=[oB 63 .add 25 1,oS 25 63]
def c_f27_r10 : List GOp :=[(none,.asg 2 (.c (.bool true)) true)]
def v_f27 : List Nat := [0, 1, 2, 3, 4, 5, 19, 23, 24, 25, 26, 62]
def c_f27 : ACode :=.seq (.reg [0,2,3,4,5,19,23,24,25,26,62] c_f27_r0 v_f27) (.seq (.seq (.reg [0,1,2,3,4,5,23,24,25,26,62] c_f27_r1 v_f27) (.cond (.t 19) (.seq (.reg v_f27 c_f27_r2 v_f27) .ret) .skip)) (.seq (.reg v_f27 c_f27_r3 v_f27) (.seq (.seq (.reg [0,
 1,2,3,4,5,19,26,62] c_f27_r4 v_f27) (.blk 0 (.loop (.seq (.reg [0,1,2,3,4,5,19,23,24,25,62] c_f27_r5 v_f27) (.seq (.cond (.t 26) .skip (.exit 0)) (.seq (.blk 1 (.seq (.reg [0,1,2,3,4,19,23,24,25,26,62] c_f27_r6 v_f27) (.seq (.draw [0,1,2,3,4,5,19,23,24,
 25,26] c_f27_r7 v_f27) (.cond (.t 62) (.seq (.reg v_f27 c_f27_r8 v_f27) .ret) .skip)))) (.reg v_f27 c_f27_r9 v_f27))))))) (.seq (.reg v_f27 c_f27_r10 v_f27) .ret))))
abbrev n_f27 : Nat := 27
theorem go_f27 : Gof Try.prog Try.f27.ntmps 1 [2] v_f27 [(.tmp 2)] c_f27 n_f27 := gof mix Try.func27 (by kernel_rfl) rfl
def c_f28_r0 : List GOp :=[oI 4 0]
def c_f28_r1 : List GOp :=[(none,.bld 9 [] [.int .i64 0]),(none,.box 10 (.t 9)),oS 5 10]
def c_f28_r2 : List GOp :=[oM 11 5,(none,.mkfn 12 (.func 48) [(.t 11,false)] []),oS 6 12]
def c_f28_r3 : List GOp :=[oM 13 0,oM 14 1,oC2 15 49 13 14,oE 16 15,(none,.r (.mov 17 (.c (.int .i64 0))))]
def c_f28_r4 : List GOp :=[oD 18 .lss 17 16]
def c_f28_r5 : List GOp :=[oX 19 15 17 1,oL 20 19 1,oS 8 20]
def c_f28_r6 : List GOp :=[oM 21 6,oM 22 8,(none,.call 23 (.t 21) [(.t 22,false)])]
def c_f28_r7 : List GOp :=[oB 24 .add 17 1,oS 17 24]
def c_f28_r8 : List GOp :=[oM 25 5,oN 26 25,oF 27 26 0,oL 28 27 1,oM 29 1,oE 30 29,oD 31 .sub 28 30,oS 4 31]
def v_f28 : List Nat := [0, 1, 4, 5, 6, 8, 15, 16, 17, 18]
def c_f28 : ACode :=.seq (.reg v_f28 c_f28_r0 v_f28) (.seq (.reg v_f28 c_f28_r1 v_f28) (.seq (.reg v_f28 c_f28_r2 v_f28) (.seq (.seq (.reg [0,1,4,5,6,8,18] c_f28_r3 v_f28) (.blk 0 (.loop (.seq (.reg [0,
 1,4,5,6,8,15,16,17] c_f28_r4 v_f28) (.seq (.cond (.t 18) .skip (.exit 0)) (.seq (.blk 1 (.seq (.reg v_f28 c_f28_r5 v_f28) (.reg v_f28 c_f28_r6 v_f28))) (.reg v_f28 c_f28_r7 v_f28))))))) (.seq (.reg v_f28 c_f28_r8 v_f28) .ret))))
abbrev n_f28 : Nat := 28
theorem go_f28 : Gof Try.prog Try.f28.ntmps 2 [4] v_f28 [(.tmp 4)] c_f28 n_f28 := gof mix Try.func28 (by kernel_rfl) rfl
def c_f29_r0 : List GOp :=[oZ 4]
def c_f29_r1 : List GOp :=[oM 10 0,(none,.mk 11 (.t 10) (.t 10) 1 24 [.slice none 0 0]),oS 5 11]
def c_f29_r2 : List GOp :=[oM 12 1,oE 13 12,(none,.r (.mov 14 (.c (.int .i64 0))))]
def c_f29_r3 : List GOp :=[oD 15 .lss 14 13]
def c_f29_r4 : List GOp :=[oX 16 12 14 2,oT 17 16 2,(none,.alloc 7 [.int .i64 0,.int .i64 0]),oW 7 17 2]
def c_f29_r5 : Tree :=.take [12,13] (oM 18 5) (.take [2,12,13] (oF 19 7 1) (.take [12,13] (oL 20 19 1) (.take [6,7,11,12,13] (oM 21 5) (.take [5,6,7,11,12,13] (oF 22 7 1) (.take [6,7,11,12,13] (oL 23 22 1) (.take [7,11,12,13] (oX 24 21 23 1) (.take [11,12,13] (oL 25 24 1) (.take [9,10,11,12,13] (oF 26 7 0) (.take [10,
 11,12,13] (oL 27 26 1) (.one 10 (none,.blds 28 1 1 [((0,1),(.t 27,true))] [.int .i64 0]) (.one 11 (none,.app 29 (.t 25) (.t 28) 1 8) (.take [13] (oX 30 18 20 1) (.one 13 (oW 30 29 1) .done)))))))))))))
def c_f29_r6 : List GOp :=[oB 31 .add 14 1,oS 14 31]
def c_f29_r7 : List GOp :=[oM 32 1,oE 33 32,(none,.r (.mov 34 (.c (.int .i64 0))))]
def c_f29_r8 : List GOp :=[oD 35 .lss 34 33]
def c_f29_r9 : List GOp :=[oX 36 32 34 2,oT 37 36 2,(none,.alloc 9 [.int .i64 0,.int .i64 0]),oW 9 37 2]
def c_f29_r10 : Tree :=.take [12,13] (oM 38 5) (.take [2,12,13] (oF 39 9 0) (.take [12,13] (oL 40 39 1) (.take [6,7,11,12,13] (oM 41 5) (.take [5,6,7,11,12,13] (oF 42 9 0) (.take [6,7,11,12,13] (oL 43 42 1) (.take [7,11,12,13] (oX 44 41 43 1) (.take [11,12,13] (oL 45 44 1) (.take [9,10,11,12,
 13] (oF 46 9 1) (.take [10,11,12,13] (oL 47 46 1) (.one 10 (none,.blds 48 1 1 [((0,1),(.t 47,true))] [.int .i64 0]) (.one 11 (none,.app 49 (.t 45) (.t 48) 1 8) (.take [13] (oX 50 38 40 1) (.one 13 (oW 50 49 1) .done)))))))))))))
def c_f29_r11 : List GOp :=[oB 51 .add 34 1,oS 34 51]
def c_f29_r12 : List GOp :=[oM 52 5,oS 4 52]
def v_f29 : List Nat := [0, 1, 4, 5, 7, 9, 12, 13, 14, 15, 32, 33, 34, 35]
def c_f29 : ACode :=.seq (.reg v_f29 c_f29_r0 v_f29) (.seq (.reg v_f29 c_f29_r1 v_f29) (.seq (.seq (.reg [0,1,4,5,7,9,15,32,33,34,35] c_f29_r2 v_f29) (.blk 0 (.loop (.seq (.reg [0,1,4,5,7,9,12,13,14,32,33,34,35] c_f29_r3 v_f29) (.seq (.cond (.t 15) .skip (.exit 0)) (.seq (.blk 1 (.seq (.reg [0,
 1,4,5,9,12,13,14,15,32,33,34,35] c_f29_r4 v_f29) (.draw v_f29 c_f29_r5 v_f29))) (.reg v_f29 c_f29_r6 v_f29))))))) (.seq (.seq (.reg [0,1,4,5,7,9,12,13,14,15,35] c_f29_r7 v_f29) (.blk 2 (.loop (.seq (.reg [0,1,4,5,7,9,12,13,
 14,15,32,33,34] c_f29_r8 v_f29) (.seq (.cond (.t 35) .skip (.exit 2)) (.seq (.blk 3 (.seq (.reg [0,1,4,5,7,12,13,14,15,32,33,34,35] c_f29_r9 v_f29) (.draw v_f29 c_f29_r10 v_f29))) (.reg v_f29 c_f29_r11 v_f29))))))) (.seq (.reg v_f29 c_f29_r12 v_f29) .ret))))
abbrev n_f29 : Nat := 29
theorem go_f29 : Gof Try.prog Try.f29.ntmps 2 [4] v_f29 [(.tmp 4)] c_f29 n_f29 := gof mix Try.func29 (by kernel_rfl) rfl
def c_f31_r0 : List GOp :=[(none,.box 2 (.t 0)),oO 4]
def c_f31_r1 : List GOp :=[oT 10 2 2,oC 11 27 10,(none,.r (.notb 12 (.t 11))),oM 13 12,oK 13 false 14 1,(some (13,false),.r (.len 15 (.t 14))),(some (13,false),.r (.fldA 16 (.t 2) 0)),oKL 13 false 17 16 1,oKD 13 false 18 .neq 15 17,oQ 19 13 18]
def c_f31_r2 : List GOp :=[oO 4]
def c_f31_r3 : List GOp :=[oF 20 2 0,oL 21 20 1,(none,.mk 22 (.t 21) (.t 21) 1 1 [.bool false]),oS 5 22]
def c_f31_r4 : List GOp :=[oF 23 2 1,oL 24 23 1,oE 25 24,(none,.r (.mov 26 (.c (.int .i64 0))))]
def c_f31_r5 : List GOp :=[oD 27 .lss 26 25]
def c_f31_r6 : List GOp :=[oX 28 24 26 2,oT 29 28 2,(none,.alloc 7 [.int .i64 0,.int .i64 0]),oW 7 29 2]
def c_f31_r7 : Tree :=.take [3,4,7,8,9,10,11,12,13,14,15,16,17] (oM 30 1) (.take [2,3,4,7,8,9,10,11,12,13,14,15,16,17] (oF 31 7 0) (.take [3,4,7,8,9,10,11,12,13,14,15,16,17] (oL 32 31 1) (.take [4,7,8,9,10,11,12,13,14,15,16,17] (oX 33 30 32 1) (.take [7,8,9,10,11,12,13,14,15,16,17] (oL 34 33 1) (.take [6,
 7,8,9,10,11,12,13,14,15,16,17] (oF 35 7 1) (.take [7,8,9,10,11,12,13,14,15,16,17] (oL 36 35 1) (.take [8,9,10,11,12,13,14,15,16,17] (oD 37 .eql 34 36) (.take [9,10,11,12,13,14,15,16,17] (oM 38 37) (.take [12,13,16,17] (oK 38 true 39 1) (.take [11,12,13,16,17] (some (38,true),.r (.fldA 40 (.t 7) 1)) (.take [12,
 13,16,17] (oKL 38 true 41 40 1) (.take [13,16,17] (some (38,true),.r (.idxA 42 (.t 39) (.t 41) 1)) (.take [16,17] (oKL 38 true 43 42 1) (.take [15,16,17] (some (38,true),.r (.fldA 44 (.t 7) 0)) (.take [16,17] (oKL 38 true 45 44 1) (.take [17] (oKD 38 true 46 .eql 43 45) (.take [] (oP 47 38 46) .done)))))))))))))))))
def c_f31_r8 : Tree :=.take [6,7,8,9] (oM 48 5) (.take [2,6,7,8,9] (oF 49 7 0) (.take [6,7,8,9] (oL 50 49 1) (.take [8,9] (oM 51 5) (.take [5,8,9] (oF 52 7 1) (.take [8,9] (oL 53 52 1) (.take [7,8,9] (oX 54 48 50 1) (.one 7 (none,.st (.t 54) (.c (.bool true)) 1) (.take [9] (oX 55 51 53 1) (.one 9 (none,
 .st (.t 55) (.c (.bool true)) 1) .done)))))))))
def c_f31_r9 : List GOp :=[oB 56 .add 26 1,oS 26 56]
def c_f31_r10 : List GOp :=[oM 57 1,oE 58 57,(none,.r (.mov 59 (.c (.int .i64 0))))]
def c_f31_r11 : List GOp :=[oD 60 .lss 59 58]
def c_f31_r12 : List GOp :=[oM 61 59,oX 62 57 59 1,oL 63 62 1,oS 8 61,oS 9 63]
def c_f31_r13 : List GOp :=[oM 64 9,(none,.r (.bin 65 .neq 0 (.t 64) (.c (.int .i64 (- (0 + 1)))))),oM 66 65,oK 66 true 67 5,oK 66 true 68 8,(some (66,true),.r (.idxA 69 (.t 67) (.t 68) 1)),oKL 66 true 70 69 1,(some (66,true),.r (.notb 71 (.t 70))),oP 72 66 71]
def c_f31_r14 : List GOp :=[oO 4]
def c_f31_r15 : List GOp :=[oB 73 .add 59 1,oS 59 73]
def c_f31_r16 : List GOp :=[(none,.asg 4 (.c (.bool true)) true)]
def v_f31 : List Nat := [0, 1, 2, 4, 5, 7, 8, 9, 19, 24, 25, 26, 27, 47, 57, 58, 59, 60, 72]
def c_f31 : ACode :=.seq (.reg [0,1,4,5,7,8,9,19,24,25,26,27,47,57,58,59,60,72] c_f31_r0 v_f31) (.seq (.seq (.reg [0,1,2,4,5,7,8,9,24,25,26,27,47,57,58,59,60,72] c_f31_r1 v_f31) (.cond (.t 19) (.seq (.reg v_f31 c_f31_r2 v_f31) .ret) .skip)) (.seq (.reg v_f31 c_f31_r3 v_f31) (.seq (.seq (.reg [0,
 1,2,4,5,7,8,9,19,27,47,57,58,59,60,72] c_f31_r4 v_f31) (.blk 0 (.loop (.seq (.reg [0,1,2,4,5,7,8,9,19,24,25,26,47,57,58,59,60,72] c_f31_r5 v_f31) (.seq (.cond (.t 27) .skip (.exit 0)) (.seq (.blk 1 (.seq (.reg [0,1,2,4,5,8,9,19,24,25,26,27,47,57,58,59,60,72] c_f31_r6 v_f31) (.seq (.draw [0,
 1,2,4,5,7,8,9,19,24,25,26,27,57,58,59,60,72] c_f31_r7 v_f31) (.cond (.t 47) (.draw v_f31 c_f31_r8 v_f31) .skip)))) (.reg v_f31 c_f31_r9 v_f31))))))) (.seq (.seq (.reg [0,1,2,4,5,7,8,9,19,24,25,26,27,47,60,72] c_f31_r10 v_f31) (.blk 2 (.loop (.seq (.reg [0,
 1,2,4,5,7,8,9,19,24,25,26,27,47,57,58,59,72] c_f31_r11 v_f31) (.seq (.cond (.t 60) .skip (.exit 2)) (.seq (.blk 3 (.seq (.reg v_f31 c_f31_r12 v_f31) (.seq (.reg [0,1,2,4,5,7,8,9,19,24,25,26,27,47,57,58,59,60] c_f31_r13 v_f31) (.cond (.t 72) (.seq (.reg v_f31 c_f31_r14 v_f31) .ret) .skip)))) (.reg v_f31 c_f31_r15 v_f31))))))) (.seq (.reg v_f31 c_f31_r16 v_f31) .ret)))))
abbrev n_f31 : Nat := 31
theorem go_f31 : Gof Try.prog Try.f31.ntmps 2 [4] v_f31 [(.tmp 4)] c_f31 n_f31 := gof mix Try.func31 (by kernel_rfl) rfl
def c_f34_r0 : List GOp :=[(none,.box 1 (.t 0)),oO 2]
def c_f34_r1 : List GOp :=[oF 5 1 0,oL 6 5 1,oB 7 .lss 6 0,oM 8 7,(some (8,false),.r (.fldA 9 (.t 1) 0)),oKL 8 false 10 9 1,oKB 8 false 11 .gtr 10 4096,oQ 12 8 11,oM 13 12,(some (13,false),.r (.fldA 14 (.t 1) 1)),oKL 13 false 15 14 1,(some (13,false),.r (.len 16 (.t 15))),oKB 13 false 17 .gtr 16 65536,
 oQ 18 13 17]
def c_f34_r2 : List GOp :=[oO 2]
def c_f34_r3 : List GOp :=[oI 3 0]
def c_f34_r4 : List GOp :=[oM 19 3,oF 20 1 1,oL 21 20 1,oE 22 21,oD 23 .lss 19 22]
def c_f34_r5 : List GOp :=[oF 26 1 1,oL 27 26 1,oM 28 3,oX 29 27 28 2,oT 30 29 2,(none,.alloc 4 [.int .i64 0,.int .i64 0]),oW 4 30 2]
def c_f34_r6 : List GOp :=[oF 31 4 0,oL 32 31 1,oB 33 .lss 32 0,oM 34 33,(some (34,false),.r (.fldA 35 (.t 4) 0)),oKL 34 false 36 35 1,(some (34,false),.r (.fldA 37 (.t 4) 1)),oKL 34 false 38 37 1,oKD 34 false 39 .geq 36 38,oQ 40 34 39,oM 41 40,(some (41,false),.r (.fldA 42 (.t 4) 1)),
 oKL 41 false 43 42 1,(some (41,false),.r (.fldA 44 (.t 1) 0)),oKL 41 false 45 44 1,oKD 41 false 46 .geq 43 45,oQ 47 41 46]
def c_f34_r7 : List GOp :=[oO 2]
def c_f34_r8 : Tree :=.take [1,2,3,4,5,6,7,8,9,10,11,12] (oM 48 3) (.take [2,3,4,5,6,7,8,9,10,11,12] (oB 49 .gtr 48 0) (.take [3,4,5,6,7,8,9,10,11,12] (oM 50 49) (.take [4,7,8,10,11,12] (some (50,true),.r (.fldA 51 (.t 1) 1)) (.take [7,8,10,11,12] (oKL 50 true 52 51 1) (.take [6,7,8,10,
 11,12] (oK 50 true 53 3) (.take [7,8,10,11,12] (oKB 50 true 54 .sub 53 1) (.take [8,10,11,12] (some (50,true),.r (.idxA 55 (.t 52) (.t 54) 2)) (.take [10,11,12] (some (50,true),.r (.ld 56 (.t 55) 2 true)) (.take [10,11,12] (some (50,true),.r (.ld 57 (.t 4) 2 true)) (.one 10 (some (50,true),.call 58 (.f 51) [(.t 56,
 false),(.t 57,false)]) (.take [12] (some (50,true),.r (.notb 59 (.t 58))) (.take [] (oP 60 50 59) .done))))))))))))
def c_f34_r9 : List GOp :=[oO 2]
def c_f34_r10 : List GOp :=[oM 24 3,oB 25 .add 24 1,oS 3 25]
def c_f34_r11 : List GOp :=[(none,.asg 2 (.c (.bool true)) true)]
def v_f34 : List Nat := [0, 1, 2, 3, 4, 18, 23, 47, 60]
def c_f34 : ACode :=.seq (.reg [0,2,3,4,18,23,47,60] c_f34_r0 v_f34) (.seq (.seq (.reg [0,1,2,3,4,23,47,60] c_f34_r1 v_f34) (.cond (.t 18) (.seq (.reg v_f34 c_f34_r2 v_f34) .ret) .skip)) (.seq (.seq (.reg v_f34 c_f34_r3 v_f34) (.blk 0 (.loop (.seq (.seq (.reg [0,
 1,2,3,4,18,47,60] c_f34_r4 v_f34) (.cond (.t 23) .skip (.exit 0))) (.seq (.blk 1 (.seq (.reg [0,1,2,3,18,23,47,60] c_f34_r5 v_f34) (.seq (.seq (.reg [0,1,2,3,4,18,23,60] c_f34_r6 v_f34) (.cond (.t 47) (.seq (.reg v_f34 c_f34_r7 v_f34) .ret) .skip)) (.seq (.draw [0,
 1,2,3,4,18,23,47] c_f34_r8 v_f34) (.cond (.t 60) (.seq (.reg v_f34 c_f34_r9 v_f34) .ret) .skip))))) (.reg v_f34 c_f34_r10 v_f34)))))) (.seq (.reg v_f34 c_f34_r11 v_f34) .ret)))
abbrev n_f34 : Nat := 34
theorem go_f34 : Gof Try.prog Try.f34.ntmps 1 [2] v_f34 [(.tmp 2)] c_f34 n_f34 := gof mix Try.func34 (by kernel_rfl) rfl
def c_f35_r0 : List GOp :=[(none,.box 2 (.t 0)),oO 4]
def c_f35_r1 : List GOp :=[oM 5 1,oB 6 .geq 5 0,oM 7 6,oK 7 true 8 1,(some (7,true),.r (.fldA 9 (.t 2) 0)),oKL 7 true 10 9 1,oKD 7 true 11 .lss 8 10,oP 12 7 11,oS 4 12]
def v_f35 : List Nat := [0, 1, 2, 4]
def c_f35 : ACode :=.seq (.reg [0,1,4] c_f35_r0 v_f35) (.seq (.reg v_f35 c_f35_r1 v_f35) .ret)
abbrev n_f35 : Nat := 35
theorem go_f35 : Gof Try.prog Try.f35.ntmps 2 [4] v_f35 [(.tmp 4)] c_f35 n_f35 := gof mix Try.func35 (by kernel_rfl) rfl
def c_f39_r0 : List GOp :=[(none,.box 1 (.t 0)),oZ 2]
def c_f39_r1 : List GOp :=[oT 8 1 2,oC 9 53 8,(none,.bld 10 [((0,1),(.t 9,true))] [.slice none 0 0]),(none,.alloc 3 [.slice none 0 0]),oW 3 10 1]
def c_f39_r2 : List GOp :=[oF 11 3 0,oL 12 11 1,oE 13 12,oB 14 .eql 13 0]
def c_f39_r3 : List GOp :=[oZ 2]
def c_f39_r4 : List GOp :=[oF 15 1 0,oL 16 15 1,oF 17 1 1,oL 18 17 1,oC2 19 29 16 18,oS 4 19]
def c_f39_r5 : List GOp :=[oF 20 3 0,oL 21 20 1,oE 22 21,(none,.r (.mov 23 (.c (.int .i64 0))))]
def c_f39_r6 : List GOp :=[oD 24 .lss 23 22]
def c_f39_r7 : List GOp :=[oM 25 23,oS 5 25]
def c_f39_r8 : List GOp :=[oT 26 3 1,oM 27 5,oC2 28 54 26 27,(none,.r (.notb 29 (.t 28)))]
def c_f39_r9 : Tree :=.take [2,3,6,7] (oM 30 4) (.take [2,3,6,7] (oM 31 5) (.take [3,6,7] (oX 32 30 31 1) (.take [6,7] (oL 33 32 1) (.take [5,6,7] (oT 34 3 1) (.one 5 (none,.mkfn 35 (.func 54) [(.t 34,false)] []) (.one 6 (oC2 36 55 33 35) (.one 7 (oS 6 36) .done)))))))
def c_f39_r10 : List GOp :=[oM 37 6,oB 38 .geq 37 0]
def c_f39_r11 : List GOp :=[oM 39 4,oM 40 5,oX 41 39 40 1,oL 42 41 1,oM 43 6,oX 44 42 43 1,oL 45 44 1,oS 7 45]
def c_f39_r12 : Tree :=.take [1,8,9,10,11] (oF 46 3 0) (.take [8,9,10,11] (oL 47 46 1) (.take [8,9,10,11] (oM 48 5) (.take [4,10,11] (oF 49 3 0) (.take [10,11] (oL 50 49 1) (.take [10,11] (oM 51 7) (.take [8,9,10,11] (oM 52 7) (.take [10,11] (oM 53 5) (.take [9,10,11] (oX 54 47 48 1) (.one 9 (oW 54 52 1) (.take [11] (oX 55 50 51 1) (.one 11 (oW 55 53 1) .done)))))))))))
def c_f39_r13 : List GOp :=[oB 56 .add 23 1,oS 23 56]
def c_f39_r14 : List GOp :=[oF 57 3 0,oL 58 57 1,oS 2 58]
def v_f39 : List Nat := [0, 1, 2, 3, 4, 5, 6, 7, 14, 22, 23, 24, 29, 38]
def c_f39 : ACode :=.seq (.reg [0,2,3,4,5,6,7,14,22,23,24,29,38] c_f39_r0 v_f39) (.seq (.reg [0,1,2,4,5,6,7,14,22,23,24,29,38] c_f39_r1 v_f39) (.seq (.seq (.reg [0,1,2,3,4,5,6,7,22,23,24,29,38] c_f39_r2 v_f39) (.cond (.t 14) (.seq (.reg v_f39 c_f39_r3 v_f39) .ret) .skip)) (.seq (.reg v_f39 c_f39_r4 v_f39) (.seq (.seq (.reg [0,
 1,2,3,4,5,6,7,14,24,29,38] c_f39_r5 v_f39) (.blk 0 (.loop (.seq (.reg [0,1,2,3,4,5,6,7,14,22,23,29,38] c_f39_r6 v_f39) (.seq (.cond (.t 24) .skip (.exit 0)) (.seq (.blk 1 (.seq (.reg v_f39 c_f39_r7 v_f39) (.seq (.seq (.reg [0,1,2,3,4,5,6,
 7,14,22,23,24,38] c_f39_r8 v_f39) (.cond (.t 29) (.exit 1) .skip)) (.seq (.draw v_f39 c_f39_r9 v_f39) (.seq (.reg [0,1,2,3,4,5,6,7,14,22,23,24,29] c_f39_r10 v_f39) (.cond (.t 38) (.seq (.reg v_f39 c_f39_r11 v_f39) (.draw v_f39 c_f39_r12 v_f39)) .skip)))))) (.reg v_f39 c_f39_r13 v_f39))))))) (.seq (.reg v_f39 c_f39_r14 v_f39) .ret)))))
abbrev n_f39 : Nat := 39
theorem go_f39 : Gof Try.prog Try.f39.ntmps 1 [2] v_f39 [(.tmp 2)] c_f39 n_f39 := gof mix Try.func39 (by kernel_rfl) rfl
def c_f40_r0 : List GOp :=[oZ 4,(none,.alloc 5 [.int .i64 0,.int .i64 0])]
def c_f40_r1 : List GOp :=[(none,.alloc 6 [.int .i64 0,.int .i64 0])]
def c_f40_r2 : List GOp :=[oM 11 0,oM 12 1,oC2 13 56 11 12,oM 10 13,oY 14 10 0,oY 15 10 1,oY 16 10 2,oS 7 14,oS 8 15,oS 9 16]
def c_f40_r3 : List GOp :=[oF 17 6 0,oL 18 17 1,oB 19 .add 18 1,oF 20 6 1,oL 21 20 1,oM 22 9,(none,.r (.mm 23 true (.t 21) (.t 22))),(none,.bld 24 [((0,1),(.t 19,true)),((1,1),(.t 23,true))] [.int .i64 0,.int .i64 0]),oW 6 24 2]
def c_f40_r4 : List GOp :=[oM 25 7,(none,.r (.bin 26 .eql 3 (.t 25) (.c (.slice none 0 0))))]
def c_f40_r5 : Tree :=.take [2,3] (oM 27 8) (.take [3] (oT 28 6 2) (.one 2 (oS 4 27) (.one 3 (oW 5 28 2) .done)))
def c_f40_r6 : List GOp :=[oM 29 1,oM 30 7,oC2 31 57 29 30]
def v_f40 : List Nat := [0, 1, 4, 5, 6, 7, 8, 9, 26]
def c_f40 : ACode :=.seq (.reg [0,1,4,6,7,8,9,26] c_f40_r0 v_f40) (.seq (.reg [0,1,4,5,7,8,9,26] c_f40_r1 v_f40) (.blk 0 (.loop (.blk 1 (.seq (.reg v_f40 c_f40_r2 v_f40) (.seq (.reg v_f40 c_f40_r3 v_f40) (.seq (.seq (.reg [0,
 1,4,5,6,7,8,9] c_f40_r4 v_f40) (.cond (.t 26) (.seq (.draw v_f40 c_f40_r5 v_f40) .ret) .skip)) (.reg v_f40 c_f40_r6 v_f40))))))))
abbrev n_f40 : Nat := 40
theorem go_f40 : Gof Try.prog Try.f40.ntmps 2 [4] v_f40 [(.tmp 4), (.cell 5 2 true)] c_f40 n_f40 := gof mix Try.func40 (by kernel_rfl) rfl
def c_f42_r0 : List GOp :=[(none,.box 3 (.t 0)),oO 6]
def c_f42_r1 : List GOp :=[oT 7 3 2,oM 8 1,oM 9 2,oC3 10 58 7 8 9,oB 11 .geq 10 0,oS 6 11]
def v_f42 : List Nat := [0, 1, 2, 3, 6]
def c_f42 : ACode :=.seq (.reg [0,1,2,6] c_f42_r0 v_f42) (.seq (.reg v_f42 c_f42_r1 v_f42) .ret)
abbrev n_f42 : Nat := 42
theorem go_f42 : Gof Try.prog Try.f42.ntmps 3 [6] v_f42 [(.tmp 6)] c_f42 n_f42 := gof mix Try.func42 (by kernel_rfl) rfl
def c_f43_r0 : List GOp :=[(none,.box 3 (.t 1)),oZ 4]
def c_f43_r1 : List GOp :=[oM 6 0,oE 7 6,oS 5 7]
def c_f43_r2 : Tree :=.take [1,2,3,4,5,6,7,8,9,10] (oM 8 5) (.take [2,3,4,5,6,7,8,9,10] (oB 9 .gtr 8 0) (.take [3,4,5,6,7,8,9,10] (oM 10 9) (.take [9,10] (some (10,true),.r (.ld 11 (.t 3) 2 true)) (.take [7,8,9,10] (oK 10 true 12 0) (.take [6,7,8,9,10] (oK 10 true 13 5) (.take [7,8,9,10] (oKB 10 true 14 .sub 13 1) (.take [8,
 9,10] (some (10,true),.r (.idxA 15 (.t 12) (.t 14) 2)) (.take [9,10] (some (10,true),.r (.ld 16 (.t 15) 2 true)) (.one 9 (some (10,true),.call 17 (.f 51) [(.t 11,false),(.t 16,false)]) (.take [] (oP 18 10 17) .done))))))))))
def c_f43_r3 : List GOp :=[oM 19 5,oB 20 .sub 19 1,oS 5 20]
def c_f43_r4 : Tree :=.take [2,3,6,10,11] (oM 21 0) (.take [2,3,6,10,11] (oM 22 5) (.take [5,6,10,11] (oT 25 3 2) (.take [9,10,11] (oM 28 0) (.take [9,10,11] (oM 29 5) (.three 2 (none,.slc 23 (.t 21) none (some (.t 22)) 2) (.three 3 (none,.app 24 (.c (.slice none 0 0)) (.t 23) 2 16) (.two 5 (none,
 .blds 26 1 2 [((0,2),(.t 25,true))] [.int .i64 0,.int .i64 0]) (.two 6 (none,.app 27 (.t 24) (.t 26) 2 16) (.one 9 (none,.slc 30 (.t 28) (some (.t 29)) none 2) (.one 10 (none,.app 31 (.t 27) (.t 30) 2 16) (.one 11 (oS 4 31) .done))) 9 (none,.slc 30 (.t 28) (some (.t 29)) none 2) (.one 6 (none,.app 27 (.t 24) (.t 26) 2 16) (.one 10 (none,
 .app 31 (.t 27) (.t 30) 2 16) (.one 11 (oS 4 31) .done)))) 9 (none,.slc 30 (.t 28) (some (.t 29)) none 2) (.one 5 (none,.blds 26 1 2 [((0,2),(.t 25,true))] [.int .i64 0,.int .i64 0]) (.one 6 (none,.app 27 (.t 24) (.t 26) 2 16) (.one 10 (none,.app 31 (.t 27) (.t 30) 2 16) (.one 11 (oS 4 31) .done))))) 5 (none,
 .blds 26 1 2 [((0,2),(.t 25,true))] [.int .i64 0,.int .i64 0]) (.two 3 (none,.app 24 (.c (.slice none 0 0)) (.t 23) 2 16) (.two 6 (none,.app 27 (.t 24) (.t 26) 2 16) (.one 9 (none,.slc 30 (.t 28) (some (.t 29)) none 2) (.one 10 (none,.app 31 (.t 27) (.t 30) 2 16) (.one 11 (oS 4 31) .done))) 9 (none,.slc 30 (.t 28) (some (.t 29)) none 2) (.one 6 (none,
 .app 27 (.t 24) (.t 26) 2 16) (.one 10 (none,.app 31 (.t 27) (.t 30) 2 16) (.one 11 (oS 4 31) .done)))) 9 (none,.slc 30 (.t 28) (some (.t 29)) none 2) (.one 3 (none,.app 24 (.c (.slice none 0 0)) (.t 23) 2 16) (.one 6 (none,.app 27 (.t 24) (.t 26) 2 16) (.one 10 (none,.app 31 (.t 27) (.t 30) 2 16) (.one 11 (oS 4 31) .done))))) 9 (none,
 .slc 30 (.t 28) (some (.t 29)) none 2) (.two 3 (none,.app 24 (.c (.slice none 0 0)) (.t 23) 2 16) (.one 5 (none,.blds 26 1 2 [((0,2),(.t 25,true))] [.int .i64 0,.int .i64 0]) (.one 6 (none,.app 27 (.t 24) (.t 26) 2 16) (.one 10 (none,.app 31 (.t 27) (.t 30) 2 16) (.one 11 (oS 4 31) .done)))) 5 (none,
 .blds 26 1 2 [((0,2),(.t 25,true))] [.int .i64 0,.int .i64 0]) (.one 3 (none,.app 24 (.c (.slice none 0 0)) (.t 23) 2 16) (.one 6 (none,.app 27 (.t 24) (.t 26) 2 16) (.one 10 (none,.app 31 (.t 27) (.t 30) 2 16) (.one 11 (oS 4 31) .done)))))) 5 (none,.blds 26 1 2 [((0,2),(.t 25,true))] [.int .i64 0,.int .i64 0]) (.two 2 (none,
 .slc 23 (.t 21) none (some (.t 22)) 2) (.two 3 (none,.app 24 (.c (.slice none 0 0)) (.t 23) 2 16) (.two 6 (none,.app 27 (.t 24) (.t 26) 2 16) (.one 9 (none,.slc 30 (.t 28) (some (.t 29)) none 2) (.one 10 (none,.app 31 (.t 27) (.t 30) 2 16) (.one 11 (oS 4 31) .done))) 9 (none,.slc 30 (.t 28) (some (.t 29)) none 2) (.one 6 (none,
 .app 27 (.t 24) (.t 26) 2 16) (.one 10 (none,.app 31 (.t 27) (.t 30) 2 16) (.one 11 (oS 4 31) .done)))) 9 (none,.slc 30 (.t 28) (some (.t 29)) none 2) (.one 3 (none,.app 24 (.c (.slice none 0 0)) (.t 23) 2 16) (.one 6 (none,.app 27 (.t 24) (.t 26) 2 16) (.one 10 (none,.app 31 (.t 27) (.t 30) 2 16) (.one 11 (oS 4 31) .done))))) 9 (none,
 .slc 30 (.t 28) (some (.t 29)) none 2) (.one 2 (none,.slc 23 (.t 21) none (some (.t 22)) 2) (.one 3 (none,.app 24 (.c (.slice none 0 0)) (.t 23) 2 16) (.one 6 (none,.app 27 (.t 24) (.t 26) 2 16) (.one 10 (none,.app 31 (.t 27) (.t 30) 2 16) (.one 11 (oS 4 31) .done)))))) 9 (none,.slc 30 (.t 28) (some (.t 29)) none 2) (.two 2 (none,
 .slc 23 (.t 21) none (some (.t 22)) 2) (.two 3 (none,.app 24 (.c (.slice none 0 0)) (.t 23) 2 16) (.one 5 (none,.blds 26 1 2 [((0,2),(.t 25,true))] [.int .i64 0,.int .i64 0]) (.one 6 (none,.app 27 (.t 24) (.t 26) 2 16) (.one 10 (none,.app 31 (.t 27) (.t 30) 2 16) (.one 11 (oS 4 31) .done)))) 5 (none,
 .blds 26 1 2 [((0,2),(.t 25,true))] [.int .i64 0,.int .i64 0]) (.one 3 (none,.app 24 (.c (.slice none 0 0)) (.t 23) 2 16) (.one 6 (none,.app 27 (.t 24) (.t 26) 2 16) (.one 10 (none,.app 31 (.t 27) (.t 30) 2 16) (.one 11 (oS 4 31) .done))))) 5 (none,.blds 26 1 2 [((0,2),(.t 25,true))] [.int .i64 0,.int .i64 0]) (.one 2 (none,
 .slc 23 (.t 21) none (some (.t 22)) 2) (.one 3 (none,.app 24 (.c (.slice none 0 0)) (.t 23) 2 16) (.one 6 (none,.app 27 (.t 24) (.t 26) 2 16) (.one 10 (none,.app 31 (.t 27) (.t 30) 2 16) (.one 11 (oS 4 31) .done)))))))))))
def v_f43 : List Nat := [0, 1, 3, 4, 5, 18]
def c_f43 : ACode :=.seq (.reg [0,1,4,5,18] c_f43_r0 v_f43) (.seq (.reg v_f43 c_f43_r1 v_f43) (.seq (.blk 0 (.loop (.seq (.seq (.draw [0,1,3,4,5] c_f43_r2 v_f43) (.cond (.t 18) .skip (.exit 0))) (.blk 1 (.reg v_f43 c_f43_r3 v_f43))))) (.seq (.draw v_f43 c_f43_r4 v_f43) .ret)))
abbrev n_f43 : Nat := 43
theorem go_f43 : Gof Try.prog Try.f43.ntmps 2 [4] v_f43 [(.tmp 4)] c_f43 n_f43 := gof mix Try.func43 (by kernel_rfl) rfl
def c_f44_r0 : List GOp :=[(none,.alloc 4 [.int .i64 0,.int .i64 0])]
def c_f44_r1 : List GOp :=[oM 5 0,oM 6 1,oD 7 .gtr 5 6]
def c_f44_r2 : List GOp :=[oM 8 1,oM 9 0,(none,.bld 10 [((0,1),(.t 8,true)),((1,1),(.t 9,true))] [.int .i64 0,.int .i64 0]),oW 4 10 2]
def c_f44_r3 : List GOp :=[oM 11 0,oM 12 1,(none,.bld 13 [((0,1),(.t 11,true)),((1,1),(.t 12,true))] [.int .i64 0,.int .i64 0]),oW 4 13 2]
def v_f44 : List Nat := [0, 1, 4, 7]
def c_f44 : ACode :=.seq (.reg [0,1,7] c_f44_r0 v_f44) (.seq (.seq (.reg [0,1,4] c_f44_r1 v_f44) (.cond (.t 7) (.seq (.reg v_f44 c_f44_r2 v_f44) .ret) .skip)) (.seq (.reg v_f44 c_f44_r3 v_f44) .ret))
abbrev n_f44 : Nat := 44
theorem go_f44 : Gof Try.prog Try.f44.ntmps 2 [] v_f44 [(.cell 4 2 true)] c_f44 n_f44 := gof mix Try.func44 (by kernel_rfl) rfl
def c_f45_r0 : List GOp :=[oZ 4]
def c_f45_r1 : List GOp :=[oZ 5]
def c_f45_r2 : List GOp :=[oM 7 0,oE 8 7,(none,.r (.mov 9 (.c (.int .i64 0))))]
def c_f45_r3 : List GOp :=[oD 10 .lss 9 8]
def c_f45_r4 : List GOp :=[oM 11 9,oS 6 11]
def c_f45_r5 : List GOp :=[oM 12 1,oM 13 0,oM 14 6,(none,.call 15 (.t 12) [(.t 13,false),(.t 14,false)])]
def c_f45_r6 : List GOp :=[oM 16 5,oM 17 6,(none,.blds 18 1 1 [((0,1),(.t 17,true))] [.int .i64 0]),(none,.app 19 (.t 16) (.t 18) 1 8),oS 5 19]
def c_f45_r7 : List GOp :=[oB 20 .add 9 1,oS 9 20]
def c_f45_r8 : List GOp :=[oM 21 5,oS 4 21]
def v_f45 : List Nat := [0, 1, 4, 5, 6, 8, 9, 10, 15]
def c_f45 : ACode :=.seq (.reg v_f45 c_f45_r0 v_f45) (.seq (.reg v_f45 c_f45_r1 v_f45) (.seq (.seq (.reg [0,1,4,5,6,10,15] c_f45_r2 v_f45) (.blk 0 (.loop (.seq (.reg [0,1,4,5,6,8,9,15] c_f45_r3 v_f45) (.seq (.cond (.t 10) .skip (.exit 0)) (.seq (.blk 1 (.seq (.reg v_f45 c_f45_r4 v_f45) (.seq (.reg [0,
 1,4,5,6,8,9,10] c_f45_r5 v_f45) (.cond (.t 15) (.reg v_f45 c_f45_r6 v_f45) .skip)))) (.reg v_f45 c_f45_r7 v_f45))))))) (.seq (.reg v_f45 c_f45_r8 v_f45) .ret)))
abbrev n_f45 : Nat := 45
theorem go_f45 : Gof Try.prog Try.f45.ntmps 2 [4] v_f45 [(.tmp 4)] c_f45 n_f45 := gof mix Try.func45 (by kernel_rfl) rfl
def c_f46_r0 : List GOp :=[oO 4]
def c_f46_r1 : List GOp :=[oM 6 0,oM 7 1,oX 8 6 7 1,oL 9 8 1,oS 5 9]
def c_f46_r2 : List GOp :=[oM 10 5,oB 11 .geq 10 0,oM 12 11,oK 12 true 13 5,oK 12 true 14 0,(some (12,true),.r (.len 15 (.t 14))),oKD 12 true 16 .lss 13 15,oP 17 12 16,oM 18 17,oK 18 true 19 5,oK 18 true 20 1,oKD 18 true 21 .neq 19 20,oP 22 18 21,oM 23 22,oK 23 true 24 0,oK 23 true 25 5,
 (some (23,true),.r (.idxA 26 (.t 24) (.t 25) 1)),oKL 23 true 27 26 1,oK 23 true 28 1,oKD 23 true 29 .eql 27 28,oP 30 23 29,oS 4 30]
def v_f46 : List Nat := [0, 1, 4, 5]
def c_f46 : ACode :=.seq (.reg v_f46 c_f46_r0 v_f46) (.seq (.reg v_f46 c_f46_r1 v_f46) (.seq (.reg v_f46 c_f46_r2 v_f46) .ret))
abbrev n_f46 : Nat := 46
theorem go_f46 : Gof Try.prog Try.f46.ntmps 2 [4] v_f46 [(.tmp 4)] c_f46 n_f46 := gof mix Try.func46 (by kernel_rfl) rfl
def c_f47_r0 : List GOp :=[(none,.box 3 (.t 0)),(none,.box 4 (.t 1)),(none,.box 5 (.t 2)),oI 6 0]
def c_f47_r1 : Tree :=.take [1,4,9,10,11,12] (oF 7 4 0) (.take [4,9,10,11,12] (oL 8 7 1) (.take [3,4,9,10,11,12] (oF 9 5 0) (.take [4,9,10,11,12] (oL 10 9 1) (.take [6,9,10,11,12] (oF 12 4 1) (.take [9,10,11,12] (oL 13 12 1) (.take [8,9,10,11,12] (oF 14 5 1) (.take [9,10,11,12] (oL 15 14 1) (.one 4 (oC2 11 60 8 10) (.one 9 (oC2 16 60 13 15) (.one 10 (none,
 .blds 17 2 1 [((0,1),(.t 11,true)),((1,1),(.t 16,true))] [.int .i64 0]) (.one 11 (oC 18 59 17) (.one 12 (oS 6 18) .done))))))))))))
def v_f47 : List Nat := [0, 1, 2, 4, 5, 6]
def c_f47 : ACode :=.seq (.reg [0,1,2,6] c_f47_r0 v_f47) (.seq (.draw v_f47 c_f47_r1 v_f47) .ret)
abbrev n_f47 : Nat := 47
theorem go_f47 : Gof Try.prog Try.f47.ntmps 3 [6] v_f47 [(.tmp 6)] c_f47 n_f47 := gof mix Try.func47 (by kernel_rfl) rfl
def c_f48_r0 : List GOp :=[oM 4 0,oN 5 4,oF 6 5 0,oL 7 6 1,oM 8 1,oE 9 8,oB 10 .rem 9 2,oD 11 .add 7 10,oN 12 4,oF 13 12 0,oW 13 11 1]
def v_f48 : List Nat := [0, 1]
def c_f48 : ACode :=.reg v_f48 c_f48_r0 v_f48
abbrev n_f48 : Nat := 48
theorem go_f48 : Gof Try.prog Try.f48.ntmps 2 [] v_f48 [] c_f48 n_f48 := gof mix Try.func48 (by kernel_rfl) rfl
def c_f49_r0 : List GOp :=[oZ 4]
def c_f49_r1 : List GOp :=[oM 10 0,oM 11 0,oE 12 11,(none,.mk 13 (.t 12) (.t 12) 1 1 [.bool false]),(none,.bld 14 [((0,1),(.t 10,true)),((1,1),(.t 13,true))] [.slice none 0 0,.slice none 0 0,.slice none 0 0,.slice none 0 0]),(none,.box 15 (.t 14)),oS 5 15]
def c_f49_r2 : List GOp :=[oM 16 1,oE 17 16,(none,.r (.mov 18 (.c (.int .i64 0))))]
def c_f49_r3 : List GOp :=[oD 19 .lss 18 17]
def c_f49_r4 : List GOp :=[oX 20 16 18 1,oL 21 20 1,oS 7 21]
def c_f49_r5 : List GOp :=[oM 22 7,oB 23 .geq 22 0,oM 24 23,oK 24 true 25 7,oK 24 true 26 0,(some (24,true),.r (.len 27 (.t 26))),oKD 24 true 28 .lss 25 27,oP 29 24 28]
def c_f49_r6 : List GOp :=[oM 30 5,oN 31 30,oF 32 31 1,oL 33 32 1,oM 34 7,oX 35 33 34 1,(none,.st (.t 35) (.c (.bool true)) 1)]
def c_f49_r7 : List GOp :=[oB 36 .add 18 1,oS 18 36]
def c_f49_r8 : List GOp :=[oZ 8]
def c_f49_r9 : List GOp :=[oM 37 0,oE 38 37,(none,.r (.mov 39 (.c (.int .i64 0))))]
def c_f49_r10 : List GOp :=[oD 40 .lss 39 38]
def c_f49_r11 : List GOp :=[oM 41 39,oS 9 41]
def c_f49_r12 : List GOp :=[oM 42 5,oN 43 42,oF 44 43 1,oL 45 44 1,oM 46 9,oX 47 45 46 1,oL 48 47 1,(none,.r (.notb 49 (.t 48)))]
def c_f49_r13 : List GOp :=[oM 50 8,oM 51 5,oM 52 9,oC2 53 61 51 52,(none,.blds 54 1 1 [((0,1),(.t 53,true))] [.slice none 0 0]),(none,.app 55 (.t 50) (.t 54) 1 24),oS 8 55]
def c_f49_r14 : List GOp :=[oB 56 .add 39 1,oS 39 56]
def c_f49_r15 : List GOp :=[oM 57 8,oS 4 57]
def v_f49 : List Nat := [0, 1, 4, 5, 7, 8, 9, 16, 17, 18, 19, 29, 38, 39, 40, 49]
def c_f49 : ACode :=.seq (.reg v_f49 c_f49_r0 v_f49) (.seq (.reg v_f49 c_f49_r1 v_f49) (.seq (.seq (.reg [0,1,4,5,7,8,9,19,29,38,39,40,49] c_f49_r2 v_f49) (.blk 0 (.loop (.seq (.reg [0,1,4,5,7,8,9,16,17,18,29,38,39,40,49] c_f49_r3 v_f49) (.seq (.cond (.t 19) .skip (.exit 0)) (.seq (.blk 1 (.seq (.reg v_f49 c_f49_r4 v_f49) (.seq (.reg [0,
 1,4,5,7,8,9,16,17,18,19,38,39,40,49] c_f49_r5 v_f49) (.cond (.t 29) (.reg v_f49 c_f49_r6 v_f49) .skip)))) (.reg v_f49 c_f49_r7 v_f49))))))) (.seq (.reg v_f49 c_f49_r8 v_f49) (.seq (.seq (.reg [0,1,4,5,7,8,9,16,17,18,19,29,40,49] c_f49_r9 v_f49) (.blk 2 (.loop (.seq (.reg [0,
 1,4,5,7,8,9,16,17,18,19,29,38,39,49] c_f49_r10 v_f49) (.seq (.cond (.t 40) .skip (.exit 2)) (.seq (.blk 3 (.seq (.reg v_f49 c_f49_r11 v_f49) (.seq (.reg [0,1,4,5,7,8,9,16,17,18,19,29,38,39,40] c_f49_r12 v_f49) (.cond (.t 49) (.reg v_f49 c_f49_r13 v_f49) .skip)))) (.reg v_f49 c_f49_r14 v_f49))))))) (.seq (.reg v_f49 c_f49_r15 v_f49) .ret)))))
abbrev n_f49 : Nat := 49
theorem go_f49 : Gof Try.prog Try.f49.ntmps 2 [4] v_f49 [(.tmp 4)] c_f49 n_f49 := gof mix Try.func49 (by kernel_rfl) rfl
def c_f51_r0 : List GOp :=[(none,.box 2 (.t 0)),(none,.box 3 (.t 1)),oO 4]
def c_f51_r1 : List GOp :=[oF 5 2 0,oL 6 5 1,oF 7 3 0,oL 8 7 1,oD 9 .lss 6 8,oM 10 9,(some (10,false),.r (.fldA 11 (.t 2) 0)),oKL 10 false 12 11 1,(some (10,false),.r (.fldA 13 (.t 3) 0)),oKL 10 false 14 13 1,oKD 10 false 15 .eql 12 14,oK 10 false 16 15,(some (16,true),.r (.fldA 17 (.t 2) 1)),
 oKL 16 true 18 17 1,(some (16,true),.r (.fldA 19 (.t 3) 1)),oKL 16 true 20 19 1,oKD 16 true 21 .lss 18 20,(some (10,false),.r (.pick 22 (.t 16) (.t 21) (.c (.bool false)))),oQ 23 10 22,oS 4 23]
def v_f51 : List Nat := [0, 1, 2, 3, 4]
def c_f51 : ACode :=.seq (.reg [0,1,4] c_f51_r0 v_f51) (.seq (.reg v_f51 c_f51_r1 v_f51) .ret)
abbrev n_f51 : Nat := 51
theorem go_f51 : Gof Try.prog Try.f51.ntmps 2 [4] v_f51 [(.tmp 4)] c_f51 n_f51 := gof mix Try.func51 (by kernel_rfl) rfl
def c_f53_r0 : List GOp :=[(none,.box 1 (.t 0)),oZ 2]
def c_f53_r1 : List GOp :=[oT 3 1 2,oC 4 27 3,(none,.r (.notb 5 (.t 4)))]
def c_f53_r2 : List GOp :=[oZ 2]
def c_f53_r3 : List GOp :=[(none,.blds 6 1 1 [((0,1),(.c (.int .i64 (- (0 + 1))),true))] [.int .i64 0]),oF 7 1 0,oL 8 7 1,oC2 9 62 6 8,oS 2 9]
def v_f53 : List Nat := [0, 1, 2, 5]
def c_f53 : ACode :=.seq (.reg [0,2,5] c_f53_r0 v_f53) (.seq (.seq (.reg [0,1,2] c_f53_r1 v_f53) (.cond (.t 5) (.seq (.reg v_f53 c_f53_r2 v_f53) .ret) .skip)) (.seq (.reg v_f53 c_f53_r3 v_f53) .ret))
abbrev n_f53 : Nat := 53
theorem go_f53 : Gof Try.prog Try.f53.ntmps 1 [2] v_f53 [(.tmp 2)] c_f53 n_f53 := gof mix Try.func53 (by kernel_rfl) rfl
def c_f54_r0 : List GOp :=[(none,.box 2 (.t 0)),oO 4]
def c_f54_r1 : List GOp :=[oF 5 2 0,oL 6 5 1,oM 7 1,oX 8 6 7 1,oL 9 8 1,oB 10 .lss 9 0,oS 4 10]
def v_f54 : List Nat := [0, 1, 2, 4]
def c_f54 : ACode :=.seq (.reg [0,1,4] c_f54_r0 v_f54) (.seq (.reg v_f54 c_f54_r1 v_f54) .ret)
abbrev n_f54 : Nat := 54
theorem go_f54 : Gof Try.prog Try.f54.ntmps 2 [4] v_f54 [(.tmp 4)] c_f54 n_f54 := gof mix Try.func54 (by kernel_rfl) rfl
def c_f55_r0 : List GOp :=[oI 4 0]
def c_f55_r1 : List GOp :=[oM 6 0,oE 7 6,(none,.r (.mov 8 (.c (.int .i64 0))))]
def c_f55_r2 : List GOp :=[oD 9 .lss 8 7]
def c_f55_r3 : List GOp :=[oM 10 8,oS 5 10]
def c_f55_r4 : List GOp :=[oM 11 1,oM 12 0,oM 13 5,oX 14 12 13 1,oL 15 14 1,(none,.call 16 (.t 11) [(.t 15,false)])]
def c_f55_r5 : List GOp :=[oM 17 5,oS 4 17]
def c_f55_r6 : List GOp :=[oB 18 .add 8 1,oS 8 18]
def c_f55_r7 : List GOp :=[(none,.asg 4 (.c (.int .i64 (- (0 + 1)))) true)]
def v_f55 : List Nat := [0, 1, 4, 5, 7, 8, 9, 16]
def c_f55 : ACode :=.seq (.reg v_f55 c_f55_r0 v_f55) (.seq (.seq (.reg [0,1,4,5,9,16] c_f55_r1 v_f55) (.blk 0 (.loop (.seq (.reg [0,1,4,5,7,8,16] c_f55_r2 v_f55) (.seq (.cond (.t 9) .skip (.exit 0)) (.seq (.blk 1 (.seq (.reg v_f55 c_f55_r3 v_f55) (.seq (.reg [0,
 1,4,5,7,8,9] c_f55_r4 v_f55) (.cond (.t 16) (.seq (.reg v_f55 c_f55_r5 v_f55) .ret) .skip)))) (.reg v_f55 c_f55_r6 v_f55))))))) (.seq (.reg v_f55 c_f55_r7 v_f55) .ret))
abbrev n_f55 : Nat := 55
theorem go_f55 : Gof Try.prog Try.f55.ntmps 2 [4] v_f55 [(.tmp 4)] c_f55 n_f55 := gof mix Try.func55 (by kernel_rfl) rfl
def c_f56_r0 : List GOp :=[oZ 4,oZ 5,oI 6 0]
def c_f56_r1 : List GOp :=[oM 14 0,oM 15 1,oC2 16 63 14 15,oS 7 16]
def c_f56_r2 : List GOp :=[oM 17 7,(none,.mkfn 18 (.func 64) [(.t 17,false)] []),oS 8 18]
def c_f56_r3 : List GOp :=[oM 20 7,oC 21 65 20,oM 19 21,oY 22 19 0,oY 23 19 1,oS 9 22,oS 10 23]
def c_f56_r4 : List GOp :=[oM 24 10]
def c_f56_r5 : List GOp :=[oM 30 0,oM 31 9,oX 32 30 31 1,oL 33 32 1,oE 34 33,(none,.r (.mov 35 (.c (.int .i64 0))))]
def c_f56_r6 : List GOp :=[oD 36 .lss 35 34]
def c_f56_r7 : List GOp :=[oX 37 33 35 1,oL 38 37 1,oS 12 38]
def c_f56_r8 : List GOp :=[oM 39 7,oM 40 9,oM 41 12,oC3 42 66 39 40 41]
def c_f56_r9 : List GOp :=[oB 44 .eql 42 1,oS 43 44]
def c_f56_r10 : List GOp :=[oM 45 7,oM 46 9,oM 47 12,oC3 48 67 45 46 47]
def c_f56_r11 : List GOp :=[oB 50 .eql 42 2,oS 49 50]
def c_f56_r12 : List GOp :=[oM 51 8,oM 52 9,(none,.call 53 (.t 51) [(.t 52,false)]),oM 54 8,oM 55 12,(none,.call 56 (.t 54) [(.t 55,false)]),oD 57 .eql 53 56]
def c_f56_r13 : List GOp :=[oM 58 7,oM 59 9,oM 60 12,oC3 61 68 58 59 60,oS 13 61]
def c_f56_r14 : List GOp :=[oM 62 13,(none,.r (.bin 63 .neq 3 (.t 62) (.c (.slice none 0 0))))]
def c_f56_r15 : Tree :=.take [5,6,7] (oM 64 13) (.take [2,3,4,7] (oM 65 7) (.take [3,4,7] (oN 66 65) (.take [4,7] (oF 67 66 15) (.take [7] (oL 68 67 1) (.one 5 (oS 4 64) (.one 6 (oZ 5) (.one 7 (oS 6 68) .done)))))))
def c_f56_r16 : List GOp :=[oB 69 .add 35 1,oS 35 69]
def c_f56_r17 : List GOp :=[oM 26 7,oC 27 65 26,oM 25 27,oY 28 25 0,oY 29 25 1,oS 9 28,oS 10 29]
def c_f56_r18 : Tree :=.take [1,6,7,8] (oM 70 7) (.take [3,4,5,8] (oM 72 7) (.take [4,5,8] (oN 73 72) (.take [5,8] (oF 74 73 15) (.take [8] (oL 75 74 1) (.one 1 (oC 71 69 70) (.one 6 (oZ 4) (.one 7 (oS 5 71) (.one 8 (oS 6 75) .done))))))))
def v_f56 : List Nat := [0, 1, 4, 5, 6, 7, 8, 9, 10, 12, 13, 24, 33, 34, 35, 36, 42, 43, 49, 57, 63]
def c_f56 : ACode :=.seq (.reg v_f56 c_f56_r0 v_f56) (.seq (.reg v_f56 c_f56_r1 v_f56) (.seq (.reg v_f56 c_f56_r2 v_f56) (.seq (.seq (.reg v_f56 c_f56_r3 v_f56) (.blk 0 (.loop (.seq (.seq (.reg [0,
 1,4,5,6,7,8,9,10,12,13,33,34,35,36,42,43,49,57,63] c_f56_r4 v_f56) (.cond (.t 24) .skip (.exit 0))) (.seq (.blk 1 (.seq (.reg [0,1,4,5,6,7,8,9,10,12,13,24,36,42,43,49,57,63] c_f56_r5 v_f56) (.blk 2 (.loop (.seq (.reg [0,1,4,5,6,7,8,9,10,12,13,24,33,34,35,42,43,
 49,57,63] c_f56_r6 v_f56) (.seq (.cond (.t 36) .skip (.exit 2)) (.seq (.blk 3 (.seq (.reg v_f56 c_f56_r7 v_f56) (.seq (.reg [0,1,4,5,6,7,8,9,10,12,13,24,33,34,35,36,43,49,57,63] c_f56_r8 v_f56) (.blk 4 (.seq (.reg v_f56 c_f56_r9 v_f56) (.cond (.t 43) (.reg v_f56 c_f56_r10 v_f56) (.seq (.reg v_f56 c_f56_r11 v_f56) (.cond (.t 49) (.seq (.seq (.reg [0,
 1,4,5,6,7,8,9,10,12,13,24,33,34,35,36,42,43,49,63] c_f56_r12 v_f56) (.cond (.t 57) (.exit 3) .skip)) (.seq (.reg v_f56 c_f56_r13 v_f56) (.seq (.reg [0,1,4,5,6,7,8,9,10,12,13,24,33,34,35,36,42,43,49,57] c_f56_r14 v_f56) (.cond (.t 63) (.seq (.draw v_f56 c_f56_r15 v_f56) .ret) .skip)))) .skip)))))))) (.reg v_f56 c_f56_r16 v_f56)))))))) (.reg v_f56 c_f56_r17 v_f56)))))) (.seq (.draw v_f56 c_f56_r18 v_f56) .ret))))
abbrev n_f56 : Nat := 56
theorem go_f56 : Gof Try.prog Try.f56.ntmps 2 [4, 5, 6] v_f56 [(.tmp 4), (.tmp 5), (.tmp 6)] c_f56 n_f56 := gof mix Try.func56 (by kernel_rfl) rfl
def c_f57_r0 : List GOp :=[oI 4 1]
def c_f57_r1 : List GOp :=[oM 5 4,oM 6 1,oE 7 6,oD 8 .lss 5 7]
def c_f57_r2 : Tree :=.take [20,21,22,23] (oM 11 0) (.take [4,5,20,21,22,23] (oM 12 1) (.take [3,4,5,20,21,22,23] (oM 13 4) (.take [4,5,20,21,22,23] (oB 14 .sub 13 1) (.take [5,20,21,22,23] (oX 15 12 14 1) (.take [20,21,22,23] (oL 16 15 1) (.take [22,23] (oM 17 0) (.take [9,10,20,21,22,23] (oM 18 1) (.take [9,
 10,20,21,22,23] (oM 19 4) (.take [10,20,21,22,23] (oX 20 18 19 1) (.take [20,21,22,23] (oL 21 20 1) (.take [13,14,20,21,22,23] (oM 22 1) (.take [13,14,20,21,22,23] (oM 23 4) (.take [14,20,21,22,23] (oX 24 22 23 1) (.take [20,21,22,23] (oL 25 24 1) (.take [18,19,20,21,22,23] (oM 26 1) (.take [17,18,19,
 20,21,22,23] (oM 27 4) (.take [18,19,20,21,22,23] (oB 28 .sub 27 1) (.take [19,20,21,22,23] (oX 29 26 28 1) (.take [20,21,22,23] (oL 30 29 1) (.take [21,22,23] (oX 31 11 16 1) (.one 21 (oW 31 25 1) (.take [23] (oX 32 17 21 1) (.one 23 (oW 32 30 1) .done)))))))))))))))))))))))
def c_f57_r3 : List GOp :=[oM 9 4,oB 10 .add 9 2,oS 4 10]
def v_f57 : List Nat := [0, 1, 4, 8]
def c_f57 : ACode :=.seq (.reg v_f57 c_f57_r0 v_f57) (.blk 0 (.loop (.seq (.seq (.reg [0,1,4] c_f57_r1 v_f57) (.cond (.t 8) .skip (.exit 0))) (.seq (.blk 1 (.draw v_f57 c_f57_r2 v_f57)) (.reg v_f57 c_f57_r3 v_f57)))))
abbrev n_f57 : Nat := 57
theorem go_f57 : Gof Try.prog Try.f57.ntmps 2 [] v_f57 [] c_f57 n_f57 := gof mix Try.func57 (by kernel_rfl) rfl
def c_f58_r0 : List GOp :=[(none,.box 3 (.t 0)),oI 6 0]
def c_f58_r1 : List GOp :=[oT 9 3 2,oC 10 34 9,(none,.r (.notb 11 (.t 10)))]
def c_f58_r2 : List GOp :=[(none,.asg 6 (.c (.int .i64 (- (0 + 1)))) true)]
def c_f58_r3 : List GOp :=[oM 12 1,oM 13 2,oC2 14 44 12 13,(none,.alloc 7 [.int .i64 0,.int .i64 0]),oW 7 14 2]
def c_f58_r4 : List GOp :=[oI 8 0]
def c_f58_r5 : List GOp :=[oM 15 8,oF 16 3 1,oL 17 16 1,oE 18 17,oD 19 .lss 15 18]
def c_f58_r6 : Tree :=.take [1,3,4,6] (oF 22 3 1) (.take [3,4,6] (oL 23 22 1) (.take [3,4,6] (oM 24 8) (.take [4,6] (oX 25 23 24 2) (.take [6] (oT 26 25 2) (.take [6] (oT 27 7 2) (.take [] (none,.r (.bin 28 .eql 8 (.t 26) (.t 27))) .done))))))
def c_f58_r7 : List GOp :=[oM 29 8,oS 6 29]
def c_f58_r8 : List GOp :=[oM 20 8,oB 21 .add 20 1,oS 8 21]
def c_f58_r9 : List GOp :=[(none,.asg 6 (.c (.int .i64 (- (0 + 1)))) true)]
def v_f58 : List Nat := [0, 1, 2, 3, 6, 7, 8, 11, 19, 28]
def c_f58 : ACode :=.seq (.reg [0,1,2,6,7,8,11,19,28] c_f58_r0 v_f58) (.seq (.seq (.reg [0,1,2,3,6,7,8,19,28] c_f58_r1 v_f58) (.cond (.t 11) (.seq (.reg v_f58 c_f58_r2 v_f58) .ret) .skip)) (.seq (.reg [0,
 1,2,3,6,8,11,19,28] c_f58_r3 v_f58) (.seq (.seq (.reg v_f58 c_f58_r4 v_f58) (.blk 0 (.loop (.seq (.seq (.reg [0,1,2,3,6,7,8,11,28] c_f58_r5 v_f58) (.cond (.t 19) .skip (.exit 0))) (.seq (.blk 1 (.seq (.draw [0,
 1,2,3,6,7,8,11,19] c_f58_r6 v_f58) (.cond (.t 28) (.seq (.reg v_f58 c_f58_r7 v_f58) .ret) .skip))) (.reg v_f58 c_f58_r8 v_f58)))))) (.seq (.reg v_f58 c_f58_r9 v_f58) .ret))))
abbrev n_f58 : Nat := 58
theorem go_f58 : Gof Try.prog Try.f58.ntmps 3 [6] v_f58 [(.tmp 6)] c_f58 n_f58 := gof mix Try.func58 (by kernel_rfl) rfl
def c_f59_r0 : List GOp :=[oI 2 0]
def c_f59_r1 : List GOp :=[oI 3 0]
def c_f59_r2 : List GOp :=[oM 6 0,oE 7 6,(none,.r (.mov 8 (.c (.int .i64 0))))]
def c_f59_r3 : List GOp :=[oD 9 .lss 8 7]
def c_f59_r4 : List GOp :=[oX 10 6 8 1,oL 11 10 1,oS 5 11]
def c_f59_r5 : List GOp :=[oM 12 5,oM 13 3,oD 14 .neq 12 13]
def c_f59_r6 : List GOp :=[oM 15 5,oS 2 15]
def c_f59_r7 : List GOp :=[oB 16 .add 8 1,oS 8 16]
def c_f59_r8 : List GOp :=[oM 17 3,oS 2 17]
def v_f59 : List Nat := [0, 2, 3, 5, 6, 7, 8, 9, 14]
def c_f59 : ACode :=.seq (.reg v_f59 c_f59_r0 v_f59) (.seq (.reg v_f59 c_f59_r1 v_f59) (.seq (.seq (.reg [0,2,3,5,9,14] c_f59_r2 v_f59) (.blk 0 (.loop (.seq (.reg [0,2,3,5,6,7,8,14] c_f59_r3 v_f59) (.seq (.cond (.t 9) .skip (.exit 0)) (.seq (.blk 1 (.seq (.reg v_f59 c_f59_r4 v_f59) (.seq (.reg [0,
 2,3,5,6,7,8,9] c_f59_r5 v_f59) (.cond (.t 14) (.seq (.reg v_f59 c_f59_r6 v_f59) .ret) .skip)))) (.reg v_f59 c_f59_r7 v_f59))))))) (.seq (.reg v_f59 c_f59_r8 v_f59) .ret)))
abbrev n_f59 : Nat := 59
theorem go_f59 : Gof Try.prog Try.f59.ntmps 1 [2] v_f59 [(.tmp 2)] c_f59 n_f59 := gof mix Try.func59 (by kernel_rfl) rfl
def c_f60_r0 : List GOp :=[oI 4 0]
def c_f60_r1 : List GOp :=[oM 7 0,oC 8 70 7,oS 5 8]
def c_f60_r2 : List GOp :=[oM 9 1,oC 10 70 9,oS 6 10]
def c_f60_r3 : List GOp :=[oM 11 5]
def c_f60_r4 : List GOp :=[oM 12 6]
def c_f60_r5 : List GOp :=[oI 4 0]
def c_f60_r6 : List GOp :=[(none,.asg 4 (.c (.int .i64 (- (0 + 1)))) true)]
def c_f60_r7 : List GOp :=[oM 13 6]
def c_f60_r8 : List GOp :=[oI 4 1]
def c_f60_r9 : List GOp :=[oM 14 0,oM 15 1,oD 16 .lss 14 15]
def c_f60_r10 : List GOp :=[(none,.asg 4 (.c (.int .i64 (- (0 + 1)))) true)]
def c_f60_r11 : List GOp :=[oM 17 0,oM 18 1,oD 19 .gtr 17 18]
def c_f60_r12 : List GOp :=[oI 4 1]
def c_f60_r13 : List GOp :=[oI 4 0]
def v_f60 : List Nat := [0, 1, 4, 5, 6, 11, 12, 13, 16, 19]
def c_f60 : ACode :=.seq (.reg v_f60 c_f60_r0 v_f60) (.seq (.reg v_f60 c_f60_r1 v_f60) (.seq (.reg v_f60 c_f60_r2 v_f60) (.seq (.seq (.reg [0,1,4,5,6,12,13,16,19] c_f60_r3 v_f60) (.cond (.t 11) (.seq (.seq (.reg [0,
 1,4,5,6,11,13,16,19] c_f60_r4 v_f60) (.cond (.t 12) (.seq (.reg v_f60 c_f60_r5 v_f60) .ret) .skip)) (.seq (.reg v_f60 c_f60_r6 v_f60) .ret)) .skip)) (.seq (.seq (.reg [0,1,4,5,6,11,12,16,19] c_f60_r7 v_f60) (.cond (.t 13) (.seq (.reg v_f60 c_f60_r8 v_f60) .ret) .skip)) (.seq (.seq (.reg [0,
 1,4,5,6,11,12,13,19] c_f60_r9 v_f60) (.cond (.t 16) (.seq (.reg v_f60 c_f60_r10 v_f60) .ret) .skip)) (.seq (.seq (.reg [0,1,4,5,6,11,12,13,16] c_f60_r11 v_f60) (.cond (.t 19) (.seq (.reg v_f60 c_f60_r12 v_f60) .ret) .skip)) (.seq (.reg v_f60 c_f60_r13 v_f60) .ret)))))))
abbrev n_f60 : Nat := 60
theorem go_f60 : Gof Try.prog Try.f60.ntmps 2 [4] v_f60 [(.tmp 4)] c_f60 n_f60 := gof mix Try.func60 (by kernel_rfl) rfl
def c_f61_r0 : List GOp :=[oZ 4]
def c_f61_r1 : List GOp :=[oM 9 0,(none,.mkfn 10 (.func 71) [(.t 9,false)] []),oS 5 10]
def c_f61_r2 : List GOp :=[oM 11 0,oN 12 11,oF 13 12 2,(none,.st (.t 13) (.c (.slice none 0 0)) 1)]
def c_f61_r3 : List GOp :=[oM 14 5,oM 15 1,(none,.call 16 (.t 14) [(.t 15,false)])]
def c_f61_r4 : List GOp :=[oM 17 0,oN 18 17,oF 19 18 3,oL 20 19 1,oE 21 20,oB 22 .gtr 21 0]
def c_f61_r5 : Tree :=.take [1,2,3,10,11,12] (oM 23 0) (.take [2,3,10,11,12] (oN 24 23) (.take [3,10,11,12] (oF 25 24 3) (.take [10,11,12] (oL 26 25 1) (.take [5,6,7,8,9,10,11,12] (oM 27 0) (.take [6,7,8,9,10,11,12] (oN 28 27) (.take [7,8,9,10,11,12] (oF 29 28 3) (.take [8,9,10,11,12] (oL 30 29 1) (.take [9,
 10,11,12] (oE 31 30) (.take [10,11,12] (oB 32 .sub 31 1) (.take [11,12] (oX 33 26 32 1) (.take [12] (oL 34 33 1) (.one 12 (oS 6 34) .done))))))))))))
def c_f61_r6 : Tree :=.take [12,13,14] (oM 35 0) (.take [2,3,4,11,12,13,14] (oM 36 0) (.take [3,4,11,12,13,14] (oN 37 36) (.take [4,11,12,13,14] (oF 38 37 3) (.take [11,12,13,14] (oL 39 38 1) (.take [6,7,8,9,10,11,12,13,14] (oM 40 0) (.take [7,8,9,10,11,12,13,14] (oN 41 40) (.take [8,9,
 10,11,12,13,14] (oF 42 41 3) (.take [9,10,11,12,13,14] (oL 43 42 1) (.take [10,11,12,13,14] (oE 44 43) (.take [11,12,13,14] (oB 45 .sub 44 1) (.one 11 (none,.slc 46 (.t 39) none (some (.t 45)) 1) (.take [13,14] (oN 47 35) (.take [14] (oF 48 47 3) (.one 14 (oW 48 46 1) .done))))))))))))))
def c_f61_r7 : List GOp :=[oM 49 0,oN 50 49,oF 51 50 0,oL 52 51 1,oM 53 6,oX 54 52 53 1,oL 55 54 1,oE 56 55,(none,.r (.mov 57 (.c (.int .i64 0))))]
def c_f61_r8 : List GOp :=[oD 58 .lss 57 56]
def c_f61_r9 : List GOp :=[oX 59 55 57 1,oL 60 59 1,oS 8 60]
def c_f61_r10 : List GOp :=[oM 61 5,oM 62 8,(none,.call 63 (.t 61) [(.t 62,false)])]
def c_f61_r11 : List GOp :=[oB 64 .add 57 1,oS 57 64]
def c_f61_r12 : List GOp :=[oM 65 0,oN 66 65,oF 67 66 2,oL 68 67 1,oC 69 72 68]
def c_f61_r13 : List GOp :=[oM 70 0,oN 71 70,oF 72 71 2,oL 73 72 1,oS 4 73]
def v_f61 : List Nat := [0, 1, 4, 5, 6, 8, 22, 55, 56, 57, 58]
def c_f61 : ACode :=.seq (.reg v_f61 c_f61_r0 v_f61) (.seq (.reg v_f61 c_f61_r1 v_f61) (.seq (.reg v_f61 c_f61_r2 v_f61) (.seq (.reg v_f61 c_f61_r3 v_f61) (.seq (.blk 0 (.loop (.seq (.seq (.reg [0,
 1,4,5,6,8,55,56,57,58] c_f61_r4 v_f61) (.cond (.t 22) .skip (.exit 0))) (.blk 1 (.seq (.draw v_f61 c_f61_r5 v_f61) (.seq (.draw v_f61 c_f61_r6 v_f61) (.seq (.reg [0,1,4,5,6,8,22,58] c_f61_r7 v_f61) (.blk 2 (.loop (.seq (.reg [0,
 1,4,5,6,8,22,55,56,57] c_f61_r8 v_f61) (.seq (.cond (.t 58) .skip (.exit 2)) (.seq (.blk 3 (.seq (.reg v_f61 c_f61_r9 v_f61) (.reg v_f61 c_f61_r10 v_f61))) (.reg v_f61 c_f61_r11 v_f61))))))))))))) (.seq (.reg v_f61 c_f61_r12 v_f61) (.seq (.reg v_f61 c_f61_r13 v_f61) .ret))))))
abbrev n_f61 : Nat := 61
theorem go_f61 : Gof Try.prog Try.f61.ntmps 2 [4] v_f61 [(.tmp 4)] c_f61 n_f61 := gof mix Try.func61 (by kernel_rfl) rfl
def c_f62_r0 : List GOp :=[oZ 4]
def c_f62_r1 : List GOp :=[oM 9 1,oB 10 .lss 9 0]
def c_f62_r2 : List GOp :=[(none,.bad (some 11)),(none,.bad none)]
def c_f62_r3 : List GOp :=[oM 13 0,oE 14 13,(none,.r (.conv 15 .u64 (.t 14))),oM 16 1,(none,.r (.conv 17 .u64 (.t 16))),oC2 18 73 15 17,oM 12 18,oY 19 12 0,oY 20 12 1,oS 5 19,oS 6 20]
def c_f62_r4 : List GOp :=[oM 21 5,(none,.r (.bin 22 .gtr 0 (.t 21) (.c (.int .u64 0)))),oM 23 22,oK 23 false 24 6,(some (23,false),.r (.bin 25 .gtr 0 (.t 24) (.c (.int .u64 9223372036854775807)))),oQ 26 23 25]
def c_f62_r5 : List GOp :=[(none,.bad (some 27)),(none,.bad none)]
def c_f62_r6 : List GOp :=[oM 28 6,(none,.r (.conv 29 .i64 (.t 28))),(none,.mk 30 (.t 29) (.t 29) 1 8 [.int .i64 0]),oS 7 30]
def c_f62_r7 : List GOp :=[oM 31 7,oM 32 0,(none,.cpy 33 (.t 31) (.t 32) 1),oS 8 33]
def c_f62_r8 : List GOp :=[oM 34 8,oM 35 7,oE 36 35,oD 37 .lss 34 36]
def c_f62_r9 : Tree :=.take [8,9] (oM 38 8) (.take [3,7,8,9] (oM 39 7) (.take [3,7,8,9] (oM 40 8) (.take [6,7,8,9] (oM 42 7) (.take [6,7,8,9] (oM 43 8) (.two 3 (none,.slc 41 (.t 39) (some (.t 40)) none 1) (.one 6 (none,.slc 44 (.t 42) none (some (.t 43)) 1) (.one 7 (none,.cpy 45 (.t 41) (.t 44) 1) (.take [9] (oD 46 .add 38 45) (.one 9 (oS 8 46) .done)))) 6 (none,
 .slc 44 (.t 42) none (some (.t 43)) 1) (.one 3 (none,.slc 41 (.t 39) (some (.t 40)) none 1) (.one 7 (none,.cpy 45 (.t 41) (.t 44) 1) (.take [9] (oD 46 .add 38 45) (.one 9 (oS 8 46) .done)))))))))
def c_f62_r10 : List GOp :=[oM 47 7,oS 4 47]
def v_f62 : List Nat := [0, 1, 4, 5, 6, 7, 8, 10, 26, 37]
def c_f62 : ACode :=.seq (.reg v_f62 c_f62_r0 v_f62) (.seq (.seq (.reg [0,1,4,5,6,7,8,26,37] c_f62_r1 v_f62) (.cond (.t 10) (.reg v_f62 c_f62_r2 v_f62) .skip)) (.seq (.reg v_f62 c_f62_r3 v_f62) (.seq (.seq (.reg [0,
 1,4,5,6,7,8,10,37] c_f62_r4 v_f62) (.cond (.t 26) (.reg v_f62 c_f62_r5 v_f62) .skip)) (.seq (.reg v_f62 c_f62_r6 v_f62) (.seq (.reg v_f62 c_f62_r7 v_f62) (.seq (.blk 0 (.loop (.seq (.seq (.reg [0,
 1,4,5,6,7,8,10,26] c_f62_r8 v_f62) (.cond (.t 37) .skip (.exit 0))) (.blk 1 (.draw v_f62 c_f62_r9 v_f62))))) (.seq (.reg v_f62 c_f62_r10 v_f62) .ret)))))))
abbrev n_f62 : Nat := 62
theorem go_f62 : Gof Try.prog Try.f62.ntmps 2 [4] v_f62 [(.tmp 4)] c_f62 n_f62 := gof mix Try.func62 (by kernel_rfl) rfl
def c_f63_r0 : List GOp :=[(none,.asg 4 (.c (.pointer none)) true)]
def c_f63_r1 : List GOp :=[oM 8 0,oE 9 8,oS 5 9]
def c_f63_r2 : Tree :=.take [24,25,26] (oM 10 0) (.take [24,25,26] (oM 11 1) (.take [3,24,25,26] (oM 12 5) (.take [5,24,25,26] (oM 14 5) (.take [7,24,25,26] (oM 16 5) (.take [9,24,25,26] (oM 18 5) (.take [11,24,25,26] (oM 20 5) (.take [13,24,25,26] (oM 22 5) (.take [15,24,25,26] (oM 24 5) (.take [17,
 24,25,26] (oM 26 5) (.take [19,24,25,26] (oM 28 5) (.take [21,24,25,26] (oM 30 5) (.take [23,24,25,26] (oM 32 5) (.many [(3,(none,.mk 13 (.t 12) (.t 12) 1 8 [.int .i64 0])),(5,(none,.mk 15 (.t 14) (.t 14) 1 1 [.bool false])),(7,(none,.mk 17 (.t 16) (.t 16) 1 8 [.int .i64 0])),(9,(none,.mk 19 (.t 18) (.t 18) 1 8 [.int .i64 0])),
 (11,(none,.mk 21 (.t 20) (.t 20) 1 8 [.int .i64 0])),(13,(none,.mk 23 (.t 22) (.t 22) 1 8 [.int .i64 0])),(15,(none,.mk 25 (.t 24) (.t 24) 2 16 [.int .i64 0,.int .i64 0])),(17,(none,.mk 27 (.t 26) (.t 26) 1 1 [.bool false])),(19,(none,.mk 29 (.t 28) (.t 28) 1 8 [.int .i64 0])),(21,(none,.mk 31 (.t 30) (.t 30) 1 8 [.int .i64 0])),
 (23,(none,.mk 33 (.t 32) (.t 32) 1 8 [.int .i64 0]))] (.one 24 (none,.bld 34 [((0,1),(.t 10,true)),((1,1),(.t 11,true)),((2,1),(.t 13,true)),((3,1),(.t 15,true)),((4,1),(.t 17,true)),((5,1),(.t 19,true)),((6,1),(.t 21,true)),((7,1),(.t 23,true)),((8,1),(.t 25,true)),((9,1),(.t 27,true)),((10,1),(.t 29,
 true)),((11,1),(.t 31,true)),((12,1),(.t 33,true))] [.slice none 0 0,.slice none 0 0,.slice none 0 0,.slice none 0 0,.slice none 0 0,.slice none 0 0,.slice none 0 0,.slice none 0 0,.slice none 0 0,.slice none 0 0,.slice none 0 0,.slice none 0 0,.slice none 0 0,.int .i64 0,.slice none 0 0,.int .i64 0]) (.one 25 (none,
 .box 35 (.t 34)) (.one 26 (oS 6 35) .done))))))))))))))))
def c_f63_r3 : List GOp :=[oM 36 5,(none,.r (.mov 37 (.c (.int .i64 0))))]
def c_f63_r4 : List GOp :=[oD 38 .lss 37 36]
def c_f63_r5 : List GOp :=[oM 39 37,oS 7 39]
def c_f63_r6 : Tree :=.take [1,2,3,17,18,19,20,21,22] (oM 40 6) (.take [2,3,17,18,19,20,21,22] (oN 41 40) (.take [3,17,18,19,20,21,22] (oF 42 41 10) (.take [17,18,19,20,21,22] (oL 43 42 1) (.take [17,18,19,20,21,22] (oM 44 7) (.take [6,7,8,17,18,19,20,21,22] (oM 45 6) (.take [7,8,17,18,19,20,21,
 22] (oN 46 45) (.take [8,17,18,19,20,21,22] (oF 47 46 11) (.take [17,18,19,20,21,22] (oL 48 47 1) (.take [19,20,21,22] (oM 49 7) (.take [11,12,13,17,18,19,20,21,22] (oM 50 6) (.take [12,13,17,18,19,20,21,22] (oN 51 50) (.take [13,17,18,19,20,21,22] (oF 52 51 7) (.take [17,18,19,20,21,22] (oL 53 52 1) (.take [21,
 22] (oM 54 7) (.take [17,18,19,20,21,22] (oM 55 7) (.take [19,20,21,22] (oM 56 7) (.take [18,19,20,21,22] (oX 57 43 44 1) (.one 18 (oW 57 55 1) (.take [20,21,22] (oX 58 48 49 1) (.one 20 (oW 58 56 1) (.take [22] (oX 59 53 54 1) (.one 22 (none,.st (.t 59) (.c (.int .i64 (- (0 + 1)))) 1) .done))))))))))))))))))))))
def c_f63_r7 : List GOp :=[oM 60 1,oM 61 7,oX 62 60 61 1,oL 63 62 1,(none,.r (.bin 64 .eql 0 (.t 63) (.c (.int .i64 (- (0 + 1))))))]
def c_f63_r8 : List GOp :=[oM 65 6,oN 66 65,oF 67 66 7,oL 68 67 1,oM 69 7,oM 70 7,oX 71 68 69 1,oW 71 70 1]
def c_f63_r9 : List GOp :=[oM 72 6,oM 73 7,(none,.call 74 (.f 74) [(.t 72,false),(.t 73,false),(.c (.int .i64 0),false),(.c (.int .i64 1),false)])]
def c_f63_r10 : List GOp :=[oB 75 .add 37 1,oS 37 75]
def c_f63_r11 : List GOp :=[oM 76 6,oS 4 76]
def v_f63 : List Nat := [0, 1, 4, 5, 6, 7, 36, 37, 38, 64]
def c_f63 : ACode :=.seq (.reg v_f63 c_f63_r0 v_f63) (.seq (.reg v_f63 c_f63_r1 v_f63) (.seq (.draw v_f63 c_f63_r2 v_f63) (.seq (.seq (.reg [0,1,4,5,6,7,38,64] c_f63_r3 v_f63) (.blk 0 (.loop (.seq (.reg [0,1,4,5,6,7,36,
 37,64] c_f63_r4 v_f63) (.seq (.cond (.t 38) .skip (.exit 0)) (.seq (.blk 1 (.seq (.reg v_f63 c_f63_r5 v_f63) (.seq (.draw v_f63 c_f63_r6 v_f63) (.seq (.reg [0,1,4,5,6,7,36,37,38] c_f63_r7 v_f63) (.cond (.t 64) (.seq (.reg v_f63 c_f63_r8 v_f63) (.reg v_f63 c_f63_r9 v_f63)) .skip))))) (.reg v_f63 c_f63_r10 v_f63))))))) (.seq (.reg v_f63 c_f63_r11 v_f63) .ret))))
abbrev n_f63 : Nat := 63
theorem go_f63 : Gof Try.prog Try.f63.ntmps 2 [4] v_f63 [(.tmp 4)] c_f63 n_f63 := gof mix Try.func63 (by kernel_rfl) rfl
def c_f64_r0 : List GOp :=[oI 4 0]
def c_f64_r1 : Tree :=.take [1,2,3,7,8,9] (oM 5 0) (.take [2,3,7,8,9] (oN 6 5) (.take [3,7,8,9] (oF 7 6 11) (.take [7,8,9] (oL 8 7 1) (.take [6,7,8,9] (oM 9 0) (.take [6,7,8,9] (oM 10 1) (.one 6 (oC2 11 75 9 10) (.take [8,9] (oX 12 8 11 1) (.take [9] (oL 13 12 1) (.one 9 (oS 4 13) .done)))))))))
def v_f64 : List Nat := [0, 1, 4]
def c_f64 : ACode :=.seq (.reg v_f64 c_f64_r0 v_f64) (.seq (.draw v_f64 c_f64_r1 v_f64) .ret)
abbrev n_f64 : Nat := 64
theorem go_f64 : Gof Try.prog Try.f64.ntmps 2 [4] v_f64 [(.tmp 4)] c_f64 n_f64 := gof mix Try.func64 (by kernel_rfl) rfl
def c_f65_r0 : List GOp :=[oI 2 0,oO 3]
def c_f65_r1 : List GOp :=[oM 5 0,oN 6 5,oF 7 6 14,oL 8 7 1,oE 9 8,oB 10 .eql 9 0]
def c_f65_r2 : List GOp :=[oI 2 0,oO 3]
def c_f65_r3 : List GOp :=[oM 11 0,oN 12 11,oF 13 12 14,oL 14 13 1,(none,.r (.idxA 15 (.t 14) (.c (.int .i64 0)) 1)),oL 16 15 1,oS 4 16]
def c_f65_r4 : List GOp :=[oM 17 0,oM 18 0,oN 19 18,oF 20 19 14,oL 21 20 1,(none,.slc 22 (.t 21) (some (.c (.int .i64 1))) none 1),oN 23 17,oF 24 23 14,oW 24 22 1]
def c_f65_r5 : List GOp :=[oM 25 4,oS 2 25,(none,.asg 3 (.c (.bool true)) true)]
def v_f65 : List Nat := [0, 2, 3, 4, 10]
def c_f65 : ACode :=.seq (.reg v_f65 c_f65_r0 v_f65) (.seq (.seq (.reg [0,2,3,4] c_f65_r1 v_f65) (.cond (.t 10) (.seq (.reg v_f65 c_f65_r2 v_f65) .ret) .skip)) (.seq (.reg v_f65 c_f65_r3 v_f65) (.seq (.reg v_f65 c_f65_r4 v_f65) (.seq (.reg v_f65 c_f65_r5 v_f65) .ret))))
abbrev n_f65 : Nat := 65
theorem go_f65 : Gof Try.prog Try.f65.ntmps 1 [2, 3] v_f65 [(.tmp 2), (.tmp 3)] c_f65 n_f65 := gof mix Try.func65 (by kernel_rfl) rfl
def c_f66_r0 : List GOp :=[oI 6 0]
def c_f66_r1 : List GOp :=[oM 7 0,oN 8 7,oF 9 8 15,oL 10 9 1,oB 11 .add 10 1,oN 12 7,oF 13 12 15,oW 13 11 1]
def c_f66_r2 : List GOp :=[oM 15 2,oM 16 0,oN 17 16,oF 18 17 1,oL 19 18 1,oM 20 1,oX 21 19 20 1,oL 22 21 1,oD 23 .eql 15 22,oM 24 23,oK 24 false 25 0,oK 24 false 26 1,(some (24,false),.call 27 (.f 76) [(.t 25,false),(.t 26,false)]),oQ 28 24 27,oM 29 28,oK 29 false 30 0,oK 29 false 31 2,
 (some (29,false),.call 32 (.f 76) [(.t 30,false),(.t 31,false)]),oQ 33 29 32,oS 14 33]
def c_f66_r3 : List GOp :=[oI 6 0]
def c_f66_r4 : List GOp :=[oM 35 0,oN 36 35,oF 37 36 2,oL 38 37 1,oM 39 2,oX 40 38 39 1,oL 41 40 1,oB 42 .eql 41 0,oS 34 42]
def c_f66_r5 : List GOp :=[oI 6 1]
def c_f66_r6 : List GOp :=[oM 44 0,oN 45 44,oF 46 45 3,oL 47 46 1,oM 48 2,oX 49 47 48 1,oL 50 49 1,oM 51 50,oK 51 true 52 0,oK 51 true 53 1,(some (51,true),.call 54 (.f 64) [(.t 52,false),(.t 53,false)]),oK 51 true 55 0,oK 51 true 56 2,(some (51,true),.call 57 (.f 64) [(.t 55,false),(.t 56,
 false)]),oKD 51 true 58 .neq 54 57,oP 59 51 58,oS 43 59]
def c_f66_r7 : List GOp :=[oI 6 2]
def c_f66_r8 : List GOp :=[oI 6 0]
def v_f66 : List Nat := [0, 1, 2, 6, 14, 34, 43]
def c_f66 : ACode :=.seq (.reg v_f66 c_f66_r0 v_f66) (.seq (.reg v_f66 c_f66_r1 v_f66) (.seq (.blk 0 (.seq (.reg v_f66 c_f66_r2 v_f66) (.cond (.t 14) (.seq (.reg v_f66 c_f66_r3 v_f66) .ret) (.seq (.reg v_f66 c_f66_r4 v_f66) (.cond (.t 34) (.seq (.reg v_f66 c_f66_r5 v_f66) .ret) (.seq (.reg v_f66 c_f66_r6 v_f66) (.cond (.t 43) (.seq (.reg v_f66 c_f66_r7 v_f66) .ret) .skip))))))) (.seq (.reg v_f66 c_f66_r8 v_f66) .ret)))
abbrev n_f66 : Nat := 66
theorem go_f66 : Gof Try.prog Try.f66.ntmps 3 [6] v_f66 [(.tmp 6)] c_f66 n_f66 := gof mix Try.func66 (by kernel_rfl) rfl
def c_f67_r0 : Tree :=.take [1,2,3,36,37,38,39,40,41,42,43] (oM 7 0) (.take [2,3,36,37,38,39,40,41,42,43] (oN 8 7) (.take [3,36,37,38,39,40,41,42,43] (oF 9 8 2) (.take [36,37,38,39,40,41,42,43] (oL 10 9 1) (.take [36,37,38,39,40,41,42,43] (oM 11 2) (.take [6,7,8,36,37,38,39,40,41,42,43] (oM 12 0) (.take [7,
 8,36,37,38,39,40,41,42,43] (oN 13 12) (.take [8,36,37,38,39,40,41,42,43] (oF 14 13 6) (.take [36,37,38,39,40,41,42,43] (oL 15 14 1) (.take [38,39,40,41,42,43] (oM 16 2) (.take [11,12,13,36,37,38,39,40,41,42,43] (oM 17 0) (.take [12,13,36,37,38,39,40,41,42,43] (oN 18 17) (.take [13,36,37,38,39,40,41,42,
 43] (oF 19 18 7) (.take [36,37,38,39,40,41,42,43] (oL 20 19 1) (.take [40,41,42,43] (oM 21 2) (.take [16,17,18,36,37,38,39,40,41,42,43] (oM 22 0) (.take [17,18,36,37,38,39,40,41,42,43] (oN 23 22) (.take [18,36,37,38,39,40,41,42,43] (oF 24 23 5) (.take [36,37,38,39,40,41,42,43] (oL 25 24 1) (.take [42,
 43] (oM 26 2) (.take [38,39,40,41,42,43] (oM 27 1) (.take [22,23,24,26,27,36,37,38,39,40,41,42,43] (oM 28 0) (.take [23,24,26,27,36,37,38,39,40,41,42,43] (oN 29 28) (.take [24,26,27,36,37,38,39,40,41,42,43] (oF 30 29 7) (.take [26,27,36,37,38,39,40,41,42,43] (oL 31 30 1) (.take [26,27,36,37,38,39,40,
 41,42,43] (oM 32 1) (.take [27,36,37,38,39,40,41,42,43] (oX 33 31 32 1) (.take [36,37,38,39,40,41,42,43] (oL 34 33 1) (.take [29,30,31,33,34,35,36,37,38,39,40,41,42,43] (oM 35 0) (.take [30,31,33,34,35,36,37,38,39,40,41,42,43] (oN 36 35) (.take [31,33,34,35,36,37,38,39,40,41,42,43] (oF 37 36 4) (.take [33,
 34,35,36,37,38,39,40,41,42,43] (oL 38 37 1) (.take [33,34,35,36,37,38,39,40,41,42,43] (oM 39 1) (.take [34,35,36,37,38,39,40,41,42,43] (oX 40 38 39 1) (.take [35,36,37,38,39,40,41,42,43] (oL 41 40 1) (.take [42,43] (oB 42 .add 41 1) (.take [37,38,39,40,41,42,43] (oX 43 10 11 1) (.one 37 (none,.st (.t 43) (.c (.int .i64 2)) 1) (.take [39,
 40,41,42,43] (oX 44 15 16 1) (.one 39 (oW 44 27 1) (.take [41,42,43] (oX 45 20 21 1) (.one 41 (oW 45 34 1) (.take [43] (oX 46 25 26 1) (.one 43 (oW 46 42 1) .done)))))))))))))))))))))))))))))))))))))))))))
def c_f67_r1 : List GOp :=[oM 47 0,oN 48 47,oF 49 48 1,oL 50 49 1,oM 51 2,oX 52 50 51 1,oL 53 52 1,oS 6 53]
def c_f67_r2 : Tree :=.take [1,2,3,12,13] (oM 54 0) (.take [2,3,12,13] (oN 55 54) (.take [3,12,13] (oF 56 55 7) (.take [12,13] (oL 57 56 1) (.take [12,13] (oM 58 6) (.take [6,7,8,10,11,12,13] (oM 59 0) (.take [7,8,10,11,12,13] (oN 60 59) (.take [8,10,11,12,13] (oF 61 60 7) (.take [10,11,
 12,13] (oL 62 61 1) (.take [10,11,12,13] (oM 63 1) (.take [11,12,13] (oX 64 62 63 1) (.take [12,13] (oL 65 64 1) (.take [13] (oX 66 57 58 1) (.one 13 (oW 66 65 1) .done)))))))))))))
def c_f67_r3 : List GOp :=[oM 67 0,oM 68 6,oM 69 0,oN 70 69,oF 71 70 4,oL 72 71 1,oM 73 1,oX 74 72 73 1,oL 75 74 1,oB 76 .add 75 2,(none,.call 77 (.f 74) [(.t 67,false),(.t 68,false),(.t 76,false),(.c (.int .i64 1),false)])]
def v_f67 : List Nat := [0, 1, 2, 6]
def c_f67 : ACode :=.seq (.draw v_f67 c_f67_r0 v_f67) (.seq (.reg v_f67 c_f67_r1 v_f67) (.seq (.draw v_f67 c_f67_r2 v_f67) (.reg v_f67 c_f67_r3 v_f67)))
abbrev n_f67 : Nat := 67
theorem go_f67 : Gof Try.prog Try.f67.ntmps 3 [] v_f67 [] c_f67 n_f67 := gof mix Try.func67 (by kernel_rfl) rfl
def c_f68_r0 : List GOp :=[oZ 6]
def c_f68_r1 : Tree :=.take [1,2,3,5,6,14] (oM 9 0) (.take [2,3,5,6,14] (oN 10 9) (.take [3,5,6,14] (oF 11 10 7) (.take [5,6,14] (oL 12 11 1) (.take [5,6,14] (oM 13 1) (.take [6,14] (oX 14 12 13 1) (.take [14] (oL 15 14 1) (.take [8,9,10,12,13,14] (oM 16 0) (.take [9,10,12,13,14] (oN 17 16) (.take [10,
 12,13,14] (oF 18 17 7) (.take [12,13,14] (oL 19 18 1) (.take [12,13,14] (oM 20 2) (.take [13,14] (oX 21 19 20 1) (.take [14] (oL 22 21 1) (.take [] (oD 23 .neq 15 22) .done))))))))))))))
def c_f68_r2 : List GOp :=[oM 24 0,oM 25 1,oM 26 0,oN 27 26,oF 28 27 7,oL 29 28 1,oM 30 1,oX 31 29 30 1,oL 32 31 1,oC3 33 78 24 25 32,oC 34 77 33,oS 7 34]
def c_f68_r3 : List GOp :=[oM 35 7,oM 36 0,oM 37 2,oM 38 0,oN 39 38,oF 40 39 7,oL 41 40 1,oM 42 2,oX 43 41 42 1,oL 44 43 1,oC3 45 78 36 37 44,(none,.app 46 (.t 35) (.t 45) 1 8),oS 7 46]
def c_f68_r4 : Tree :=.take [1,2,3,22,23,24,25] (oM 47 0) (.take [2,3,22,23,24,25] (oN 48 47) (.take [3,22,23,24,25] (oF 49 48 9) (.take [22,23,24,25] (oL 50 49 1) (.take [5,6,7,9,10,22,23,24,25] (oM 51 0) (.take [6,7,9,10,22,23,24,25] (oN 52 51) (.take [7,9,10,22,23,24,25] (oF 53 52 7) (.take [9,
 10,22,23,24,25] (oL 54 53 1) (.take [9,10,22,23,24,25] (oM 55 1) (.take [10,22,23,24,25] (oX 56 54 55 1) (.take [22,23,24,25] (oL 57 56 1) (.take [12,13,14,22,23,24,25] (oM 58 0) (.take [13,14,22,23,24,25] (oN 59 58) (.take [14,22,23,24,25] (oF 60 59 9) (.take [22,23,24,25] (oL 61 60 1) (.take [16,17,
 18,20,21,22,23,24,25] (oM 62 0) (.take [17,18,20,21,22,23,24,25] (oN 63 62) (.take [18,20,21,22,23,24,25] (oF 64 63 7) (.take [20,21,22,23,24,25] (oL 65 64 1) (.take [20,21,22,23,24,25] (oM 66 2) (.take [21,22,23,24,25] (oX 67 65 66 1) (.take [22,23,24,25] (oL 68 67 1) (.take [23,24,25] (oX 69 50 57 1) (.one 23 (none,
 .st (.t 69) (.c (.bool true)) 1) (.take [25] (oX 70 61 68 1) (.one 25 (none,.st (.t 70) (.c (.bool true)) 1) .done)))))))))))))))))))))))))
def c_f68_r5 : List GOp :=[oM 71 7,oS 6 71]
def c_f68_r6 : List GOp :=[oM 72 0,oM 73 0,oM 74 1,oC2 75 64 73 74,oM 76 0,oM 77 2,oC2 78 64 76 77,oC3 79 79 72 75 78,oS 8 79]
def c_f68_r7 : List GOp :=[oM 80 0,oM 81 1,oM 82 2,oM 83 8,(none,.call 84 (.f 80) [(.t 80,false),(.t 81,false),(.t 82,false),(.t 83,false)])]
def c_f68_r8 : List GOp :=[oM 85 0,oM 86 2,oM 87 1,oM 88 8,(none,.call 89 (.f 80) [(.t 85,false),(.t 86,false),(.t 87,false),(.t 88,false)])]
def c_f68_r9 : List GOp :=[oZ 6]
def v_f68 : List Nat := [0, 1, 2, 6, 7, 8, 23]
def c_f68 : ACode :=.seq (.reg v_f68 c_f68_r0 v_f68) (.seq (.seq (.draw [0,1,2,6,7,8] c_f68_r1 v_f68) (.cond (.t 23) (.seq (.reg v_f68 c_f68_r2 v_f68) (.seq (.reg v_f68 c_f68_r3 v_f68) (.seq (.draw v_f68 c_f68_r4 v_f68) (.seq (.reg v_f68 c_f68_r5 v_f68) .ret)))) .skip)) (.seq (.reg v_f68 c_f68_r6 v_f68) (.seq (.reg v_f68 c_f68_r7 v_f68) (.seq (.reg v_f68 c_f68_r8 v_f68) (.seq (.reg v_f68 c_f68_r9 v_f68) .ret)))))
abbrev n_f68 : Nat := 68
theorem go_f68 : Gof Try.prog Try.f68.ntmps 3 [6] v_f68 [(.tmp 6)] c_f68 n_f68 := gof mix Try.func68 (by kernel_rfl) rfl
def c_f69_r0 : List GOp :=[oZ 2]
def c_f69_r1 : List GOp :=[oM 5 0,oN 6 5,oF 7 6 2,oL 8 7 1,oE 9 8,(none,.mk 10 (.t 9) (.t 9) 1 8 [.int .i64 0]),oS 3 10]
def c_f69_r2 : List GOp :=[oM 11 3,oE 12 11,(none,.r (.mov 13 (.c (.int .i64 0))))]
def c_f69_r3 : List GOp :=[oD 14 .lss 13 12]
def c_f69_r4 : List GOp :=[oM 15 13,oS 4 15]
def c_f69_r5 : List GOp :=[oM 16 3,oM 17 4,oM 18 0,oN 19 18,oF 20 19 2,oL 21 20 1,oM 22 4,oX 23 21 22 1,oL 24 23 1,oX 25 16 17 1,oW 25 24 1]
def c_f69_r6 : List GOp :=[oM 26 0,oN 27 26,oF 28 27 3,oL 29 28 1,oM 30 4,oX 31 29 30 1,oL 32 31 1]
def c_f69_r7 : List GOp :=[oM 33 3,oM 34 4,oX 35 33 34 1,(none,.st (.t 35) (.c (.int .i64 1)) 1)]
def c_f69_r8 : List GOp :=[oB 36 .add 13 1,oS 13 36]
def c_f69_r9 : List GOp :=[oM 37 3,oS 2 37]
def v_f69 : List Nat := [0, 2, 3, 4, 12, 13, 14, 32]
def c_f69 : ACode :=.seq (.reg v_f69 c_f69_r0 v_f69) (.seq (.reg v_f69 c_f69_r1 v_f69) (.seq (.seq (.reg [0,2,3,4,14,32] c_f69_r2 v_f69) (.blk 0 (.loop (.seq (.reg [0,
 2,3,4,12,13,32] c_f69_r3 v_f69) (.seq (.cond (.t 14) .skip (.exit 0)) (.seq (.blk 1 (.seq (.reg v_f69 c_f69_r4 v_f69) (.seq (.reg v_f69 c_f69_r5 v_f69) (.seq (.reg [0,
 2,3,4,12,13,14] c_f69_r6 v_f69) (.cond (.t 32) (.reg v_f69 c_f69_r7 v_f69) .skip))))) (.reg v_f69 c_f69_r8 v_f69))))))) (.seq (.reg v_f69 c_f69_r9 v_f69) .ret)))
abbrev n_f69 : Nat := 69
theorem go_f69 : Gof Try.prog Try.f69.ntmps 1 [2] v_f69 [(.tmp 2)] c_f69 n_f69 := gof mix Try.func69 (by kernel_rfl) rfl
def c_f70_r0 : List GOp :=[oO 2]
def c_f70_r1 : List GOp :=[oM 3 0,oM 4 0,oD 5 .neq 3 4,oS 2 5]
def v_f70 : List Nat := [0, 2]
def c_f70 : ACode :=.seq (.reg v_f70 c_f70_r0 v_f70) (.seq (.reg v_f70 c_f70_r1 v_f70) .ret)
abbrev n_f70 : Nat := 70
theorem go_f70 : Gof Try.prog Try.f70.ntmps 1 [2] v_f70 [(.tmp 2)] c_f70 n_f70 := gof mix Try.func70 (by kernel_rfl) rfl
def c_f71_r0 : List GOp :=[oM 4 0,oN 5 4,oF 6 5 1,oL 7 6 1,oM 8 1,oX 9 7 8 1,oL 10 9 1,(none,.r (.notb 11 (.t 10)))]
def c_f71_r1 : List GOp :=[oM 12 0,oN 13 12,oF 14 13 1,oL 15 14 1,oM 16 1,oX 17 15 16 1,(none,.st (.t 17) (.c (.bool true)) 1)]
def c_f71_r2 : List GOp :=[oM 18 0,oM 19 0,oN 20 19,oF 21 20 2,oL 22 21 1,oM 23 1,(none,.blds 24 1 1 [((0,1),(.t 23,true))] [.int .i64 0]),(none,.app 25 (.t 22) (.t 24) 1 8),oN 26 18,oF 27 26 2,oW 27 25 1]
def c_f71_r3 : List GOp :=[oM 28 0,oM 29 0,oN 30 29,oF 31 30 3,oL 32 31 1,oM 33 1,(none,.blds 34 1 1 [((0,1),(.t 33,true))] [.int .i64 0]),(none,.app 35 (.t 32) (.t 34) 1 8),oN 36 28,oF 37 36 3,oW 37 35 1]
def v_f71 : List Nat := [0, 1, 11]
def c_f71 : ACode :=.seq (.reg [0,1] c_f71_r0 v_f71) (.cond (.t 11) (.seq (.reg v_f71 c_f71_r1 v_f71) (.seq (.reg v_f71 c_f71_r2 v_f71) (.reg v_f71 c_f71_r3 v_f71))) .skip)
abbrev n_f71 : Nat := 71
theorem go_f71 : Gof Try.prog Try.f71.ntmps 2 [] v_f71 [] c_f71 n_f71 := gof mix Try.func71 (by kernel_rfl) rfl
abbrev n_f72 : Nat := 72
def c_f73_r0 : List GOp :=[(none,.asg 4 (.c (.int .u64 0)) true),(none,.asg 5 (.c (.int .u64 0)) true)]
def c_f73_r1 : List GOp :=[oM 11 0,(none,.r (.conv 12 .u32 (.t 11))),oM 13 1,(none,.r (.conv 14 .u32 (.t 13))),oC2 15 83 12 14,oM 10 15,oY 16 10 0,oY 17 10 1,oS 6 16,oS 7 17]
def c_f73_r2 : List GOp :=[oM 18 6,(none,.r (.conv 19 .u64 (.t 18))),oM 20 7,(none,.r (.conv 21 .u64 (.t 20))),oS 4 19,oS 5 21]
def c_f73_r3 : List GOp :=[oM 23 0,oM 24 1,oC2 25 84 23 24,oM 22 25,oY 26 22 0,oY 27 22 1,oS 8 26,oS 9 27]
def c_f73_r4 : List GOp :=[oM 28 8,oM 29 9,oS 4 28,oS 5 29]
def v_f73 : List Nat := [0, 1, 4, 5, 6, 7, 8, 9]
def c_f73 : ACode :=.seq (.reg v_f73 c_f73_r0 v_f73) (.seq (.cond (.c (.bool false)) (.seq (.reg v_f73 c_f73_r1 v_f73) (.seq (.reg v_f73 c_f73_r2 v_f73) .ret)) .skip) (.seq (.reg v_f73 c_f73_r3 v_f73) (.seq (.reg v_f73 c_f73_r4 v_f73) .ret)))
abbrev n_f73 : Nat := 73
theorem go_f73 : Gof Try.prog Try.f73.ntmps 2 [4, 5] v_f73 [(.tmp 4), (.tmp 5)] c_f73 n_f73 := gof mix Try.func73 (by kernel_rfl) rfl
def c_f74_r0 : Tree :=.take [1,2,3,11,12,13,14] (oM 8 0) (.take [2,3,11,12,13,14] (oN 9 8) (.take [3,11,12,13,14] (oF 10 9 3) (.take [11,12,13,14] (oL 11 10 1) (.take [11,12,13,14] (oM 12 1) (.take [6,7,8,11,12,13,14] (oM 13 0) (.take [7,8,11,12,13,14] (oN 14 13) (.take [8,11,12,13,14] (oF 15 14 4) (.take [11,
 12,13,14] (oL 16 15 1) (.take [13,14] (oM 17 1) (.take [13,14] (oM 18 2) (.take [12,13,14] (oX 19 11 12 1) (.one 12 (none,.st (.t 19) (.c (.bool true)) 1) (.take [14] (oX 20 16 17 1) (.one 14 (oW 20 18 1) .done))))))))))))))
def c_f74_r1 : List GOp :=[oM 21 0,oN 22 21,oF 23 22 2,oL 24 23 1,oM 25 1,oX 26 24 25 1,oL 27 26 1,oB 28 .eql 27 0]
def c_f74_r2 : List GOp :=[oM 29 0,oN 30 29,oF 31 30 2,oL 32 31 1,oM 33 1,oM 34 3,oX 35 32 33 1,oW 35 34 1]
def c_f74_r3 : List GOp :=[oM 36 0,oM 37 0,oN 38 37,oF 39 38 14,oL 40 39 1,oM 41 1,(none,.blds 42 1 1 [((0,1),(.t 41,true))] [.int .i64 0]),(none,.app 43 (.t 40) (.t 42) 1 8),oN 44 36,oF 45 44 14,oW 45 43 1]
def v_f74 : List Nat := [0, 1, 2, 3, 28]
def c_f74 : ACode :=.seq (.draw v_f74 c_f74_r0 v_f74) (.seq (.seq (.reg [0,1,2,3] c_f74_r1 v_f74) (.cond (.t 28) (.reg v_f74 c_f74_r2 v_f74) .skip)) (.reg v_f74 c_f74_r3 v_f74))
abbrev n_f74 : Nat := 74
theorem go_f74 : Gof Try.prog Try.f74.ntmps 4 [] v_f74 [] c_f74 n_f74 := gof mix Try.func74 (by kernel_rfl) rfl
def c_f75_r0 : List GOp :=[oI 4 0]
def c_f75_r1 : List GOp :=[oM 5 0,oN 6 5,oF 7 6 10,oL 8 7 1,oM 9 1,oX 10 8 9 1,oL 11 10 1,oM 12 1,oD 13 .neq 11 12]
def c_f75_r2 : Tree :=.take [1,2,3,18,19] (oM 14 0) (.take [2,3,18,19] (oN 15 14) (.take [3,18,19] (oF 16 15 10) (.take [18,19] (oL 17 16 1) (.take [18,19] (oM 18 1) (.take [6,7,8,16,17,18,19] (oM 19 0) (.take [7,8,16,17,18,19] (oN 20 19) (.take [8,16,17,18,19] (oF 21 20 10) (.take [16,
 17,18,19] (oL 22 21 1) (.take [10,11,12,14,15,16,17,18,19] (oM 23 0) (.take [11,12,14,15,16,17,18,19] (oN 24 23) (.take [12,14,15,16,17,18,19] (oF 25 24 10) (.take [14,15,16,17,18,19] (oL 26 25 1) (.take [14,15,16,17,18,19] (oM 27 1) (.take [15,16,17,18,19] (oX 28 26 27 1) (.take [16,17,18,19] (oL 29 28 1) (.take [17,
 18,19] (oX 30 22 29 1) (.take [18,19] (oL 31 30 1) (.take [19] (oX 32 17 18 1) (.one 19 (oW 32 31 1) .done)))))))))))))))))))
def c_f75_r3 : List GOp :=[oM 33 0,oN 34 33,oF 35 34 10,oL 36 35 1,oM 37 1,oX 38 36 37 1,oL 39 38 1,oS 1 39]
def c_f75_r4 : List GOp :=[oM 40 1,oS 4 40]
def v_f75 : List Nat := [0, 1, 4, 13]
def c_f75 : ACode :=.seq (.reg v_f75 c_f75_r0 v_f75) (.seq (.blk 0 (.loop (.seq (.seq (.reg [0,1,4] c_f75_r1 v_f75) (.cond (.t 13) .skip (.exit 0))) (.blk 1 (.seq (.draw v_f75 c_f75_r2 v_f75) (.reg v_f75 c_f75_r3 v_f75)))))) (.seq (.reg v_f75 c_f75_r4 v_f75) .ret))
abbrev n_f75 : Nat := 75
theorem go_f75 : Gof Try.prog Try.f75.ntmps 2 [4] v_f75 [(.tmp 4)] c_f75 n_f75 := gof mix Try.func75 (by kernel_rfl) rfl
def c_f76_r0 : List GOp :=[oO 4]
def c_f76_r1 : Tree :=.take [1,2,3,5,6,7,8,9,10,11,12,13,14,15,16,17,18,19,20,21,22,23] (oM 5 0) (.take [2,3,5,6,7,8,9,10,11,12,13,14,15,16,17,18,19,20,21,22,23] (oN 6 5) (.take [3,5,6,7,8,9,10,11,12,13,14,15,16,17,18,19,20,21,22,23] (oF 7 6 7) (.take [5,6,7,8,9,10,11,12,13,14,15,16,17,
 18,19,20,21,22,23] (oL 8 7 1) (.take [5,6,7,8,9,10,11,12,13,14,15,16,17,18,19,20,21,22,23] (oM 9 1) (.take [6,7,8,9,10,11,12,13,14,15,16,17,18,19,20,21,22,23] (oX 10 8 9 1) (.take [7,8,9,10,11,12,13,14,15,16,17,18,19,20,21,22,23] (oL 11 10 1) (.take [8,9,10,11,12,13,14,15,16,17,18,19,20,21,22,23] (none,
 .r (.bin 12 .neq 0 (.t 11) (.c (.int .i64 (- (0 + 1)))))) (.take [9,10,11,12,13,14,15,16,17,18,19,20,21,22,23] (oM 13 12) (.take [10,11,12,20,21,22,23] (oK 13 true 14 0) (.take [11,12,20,21,22,23] (some (13,true),.r (.nilck 15 (.t 14))) (.take [12,20,21,22,23] (some (13,true),.r (.fldA 16 (.t 15) 9)) (.take [20,
 21,22,23] (oKL 13 true 17 16 1) (.take [14,15,16,18,19,20,21,22,23] (oK 13 true 18 0) (.take [15,16,18,19,20,21,22,23] (some (13,true),.r (.nilck 19 (.t 18))) (.take [16,18,19,20,21,22,23] (some (13,true),.r (.fldA 20 (.t 19) 7)) (.take [18,19,20,21,22,23] (oKL 13 true 21 20 1) (.take [18,19,20,21,22,
 23] (oK 13 true 22 1) (.take [19,20,21,22,23] (some (13,true),.r (.idxA 23 (.t 21) (.t 22) 1)) (.take [20,21,22,23] (oKL 13 true 24 23 1) (.take [21,22,23] (some (13,true),.r (.idxA 25 (.t 17) (.t 24) 1)) (.take [22,23] (oKL 13 true 26 25 1) (.take [23] (oP 27 13 26) (.one 23 (oS 4 27) .done)))))))))))))))))))))))
def v_f76 : List Nat := [0, 1, 4]
def c_f76 : ACode :=.seq (.reg v_f76 c_f76_r0 v_f76) (.seq (.draw v_f76 c_f76_r1 v_f76) .ret)
abbrev n_f76 : Nat := 76
theorem go_f76 : Gof Try.prog Try.f76.ntmps 2 [4] v_f76 [(.tmp 4)] c_f76 n_f76 := gof mix Try.func76 (by kernel_rfl) rfl
def c_f77_r0 : List GOp :=[oZ 2]
def c_f77_r1 : List GOp :=[oM 5 0,oE 6 5,oB 7 .sub 6 1,oI 3 0,oS 4 7]
def c_f77_r2 : List GOp :=[oM 8 3,oM 9 4,oD 10 .lss 8 9]
def c_f77_r3 : Tree :=.take [12,13,14,15] (oM 15 0) (.take [12,13,14,15] (oM 16 3) (.take [14,15] (oM 17 0) (.take [14,15] (oM 18 4) (.take [6,7,12,13,14,15] (oM 19 0) (.take [6,7,12,13,14,15] (oM 20 4) (.take [7,12,13,14,15] (oX 21 19 20 1) (.take [12,13,14,15] (oL 22 21 1) (.take [10,11,12,
 13,14,15] (oM 23 0) (.take [10,11,12,13,14,15] (oM 24 3) (.take [11,12,13,14,15] (oX 25 23 24 1) (.take [12,13,14,15] (oL 26 25 1) (.take [13,14,15] (oX 27 15 16 1) (.one 13 (oW 27 22 1) (.take [15] (oX 28 17 18 1) (.one 15 (oW 28 26 1) .done)))))))))))))))
def c_f77_r4 : List GOp :=[oM 11 3,oB 12 .add 11 1,oM 13 4,oB 14 .sub 13 1,oS 3 12,oS 4 14]
def c_f77_r5 : List GOp :=[oM 29 0,oS 2 29]
def v_f77 : List Nat := [0, 2, 3, 4, 10]
def c_f77 : ACode :=.seq (.reg v_f77 c_f77_r0 v_f77) (.seq (.seq (.reg v_f77 c_f77_r1 v_f77) (.blk 0 (.loop (.seq (.seq (.reg [0,2,3,4] c_f77_r2 v_f77) (.cond (.t 10) .skip (.exit 0))) (.seq (.blk 1 (.draw v_f77 c_f77_r3 v_f77)) (.reg v_f77 c_f77_r4 v_f77)))))) (.seq (.reg v_f77 c_f77_r5 v_f77) .ret))
abbrev n_f77 : Nat := 77
theorem go_f77 : Gof Try.prog Try.f77.ntmps 1 [2] v_f77 [(.tmp 2)] c_f77 n_f77 := gof mix Try.func77 (by kernel_rfl) rfl
def c_f78_r0 : List GOp :=[oZ 6]
def c_f78_r1 : List GOp :=[oZ 7]
def c_f78_r2 : List GOp :=[oM 9 7,oM 10 1,(none,.blds 11 1 1 [((0,1),(.t 10,true))] [.int .i64 0]),(none,.app 12 (.t 9) (.t 11) 1 8),oS 7 12]
def c_f78_r3 : List GOp :=[oM 37 1,oM 38 2,oD 39 .eql 37 38,oS 36 39]
def c_f78_r4 : List GOp :=[oM 40 7,oS 6 40]
def c_f78_r5 : List GOp :=[oM 42 0,oN 43 42,oF 44 43 2,oL 45 44 1,oM 46 1,oX 47 45 46 1,oL 48 47 1,oB 49 .eql 48 1,oS 41 49]
def c_f78_r6 : List GOp :=[oM 50 7,oM 51 0,oN 52 51,oF 53 52 1,oL 54 53 1,oM 55 1,oX 56 54 55 1,oL 57 56 1,(none,.blds 58 1 1 [((0,1),(.t 57,true))] [.int .i64 0]),(none,.app 59 (.t 50) (.t 58) 1 8),oS 7 59]
def c_f78_r7 : Tree :=.take [1,2,3,11,12,13] (oM 60 0) (.take [2,3,11,12,13] (oN 61 60) (.take [3,11,12,13] (oF 62 61 6) (.take [11,12,13] (oL 63 62 1) (.take [5,6,7,9,10,11,12,13] (oM 64 0) (.take [6,7,9,10,11,12,13] (oN 65 64) (.take [7,9,10,11,12,13] (oF 66 65 1) (.take [9,10,11,12,13] (oL 67 66 1) (.take [9,
 10,11,12,13] (oM 68 1) (.take [10,11,12,13] (oX 69 67 68 1) (.take [11,12,13] (oL 70 69 1) (.take [12,13] (oX 71 63 70 1) (.take [13] (oL 72 71 1) (.one 13 (oS 1 72) .done)))))))))))))
def c_f78_r8 : List GOp :=[oM 13 0,oN 14 13,oF 15 14 8,oL 16 15 1,oM 17 1,oX 18 16 17 2,oT 19 18 2,(none,.alloc 8 [.int .i64 0,.int .i64 0]),oW 8 19 2]
def c_f78_r9 : Tree :=.take [13,14] (oM 20 7) (.take [11,12,13,14] (oM 21 0) (.take [3,11,12,13,14] (none,.r (.idxP 22 (.t 8) (.c (.int .i64 0)) 2 1)) (.take [11,12,13,14] (oL 23 22 1) (.take [5,6,7,9,10,11,12,13,14] (oM 24 0) (.take [6,7,9,10,11,12,13,14] (oN 25 24) (.take [7,9,10,11,12,
 13,14] (oF 26 25 1) (.take [9,10,11,12,13,14] (oL 27 26 1) (.take [9,10,11,12,13,14] (oM 28 1) (.take [10,11,12,13,14] (oX 29 27 28 1) (.take [11,12,13,14] (oL 30 29 1) (.one 11 (oC3 31 78 21 23 30) (.one 12 (oC 32 77 31) (.one 13 (none,.app 33 (.t 20) (.t 32) 1 8) (.one 14 (oS 7 33) .done))))))))))))))
def c_f78_r10 : List GOp :=[(none,.r (.idxP 34 (.t 8) (.c (.int .i64 1)) 2 1)),oL 35 34 1,oS 1 35]
def v_f78 : List Nat := [0, 1, 2, 6, 7, 8, 36, 41]
def c_f78 : ACode :=.seq (.reg v_f78 c_f78_r0 v_f78) (.seq (.reg v_f78 c_f78_r1 v_f78) (.blk 0 (.loop (.blk 1 (.seq (.reg v_f78 c_f78_r2 v_f78) (.blk 2 (.seq (.reg v_f78 c_f78_r3 v_f78) (.cond (.t 36) (.seq (.reg v_f78 c_f78_r4 v_f78) .ret) (.seq (.reg v_f78 c_f78_r5 v_f78) (.cond (.t 41) (.seq (.reg v_f78 c_f78_r6 v_f78) (.draw v_f78 c_f78_r7 v_f78)) (.seq (.reg [0,
 1,2,6,7,36,41] c_f78_r8 v_f78) (.seq (.draw v_f78 c_f78_r9 v_f78) (.reg v_f78 c_f78_r10 v_f78)))))))))))))
abbrev n_f78 : Nat := 78
theorem go_f78 : Gof Try.prog Try.f78.ntmps 3 [6] v_f78 [(.tmp 6)] c_f78 n_f78 := gof mix Try.func78 (by kernel_rfl) rfl
def c_f79_r0 : List GOp :=[oI 6 0]
def c_f79_r1 : List GOp :=[oM 7 0,oN 8 7,oF 9 8 13,oL 10 9 1,oB 11 .add 10 1,oN 12 7,oF 13 12 13,oW 13 11 1]
def c_f79_r2 : List GOp :=[oM 14 1,(none,.r (.bin 15 .neq 0 (.t 14) (.c (.int .i64 (- (0 + 1))))))]
def c_f79_r3 : Tree :=.take [1,2,3,5,6,11] (oM 16 0) (.take [2,3,5,6,11] (oN 17 16) (.take [3,5,6,11] (oF 18 17 12) (.take [5,6,11] (oL 19 18 1) (.take [5,6,11] (oM 20 1) (.take [6,11] (oX 21 19 20 1) (.take [11] (oL 22 21 1) (.take [8,9,10,11] (oM 23 0) (.take [9,10,11] (oN 24 23) (.take [10,
 11] (oF 25 24 13) (.take [11] (oL 26 25 1) (.take [] (oD 27 .eql 22 26) .done)))))))))))
def c_f79_r4 : List GOp :=[oM 28 1,oS 6 28]
def c_f79_r5 : Tree :=.take [1,2,3,9,10] (oM 29 0) (.take [2,3,9,10] (oN 30 29) (.take [3,9,10] (oF 31 30 12) (.take [9,10] (oL 32 31 1) (.take [9,10] (oM 33 1) (.take [6,7,8,9,10] (oM 34 0) (.take [7,8,9,10] (oN 35 34) (.take [8,9,10] (oF 36 35 13) (.take [9,10] (oL 37 36 1) (.take [10] (oX 38 32 33 1) (.one 10 (oW 38 37 1) .done))))))))))
def c_f79_r6 : List GOp :=[oM 39 0,oM 40 1,oC2 41 85 39 40,oS 1 41]
def c_f79_r7 : List GOp :=[oM 42 2,oM 43 1,oS 1 42,oS 2 43]
def v_f79 : List Nat := [0, 1, 2, 6, 15, 27]
def c_f79 : ACode :=.seq (.reg v_f79 c_f79_r0 v_f79) (.seq (.reg v_f79 c_f79_r1 v_f79) (.blk 0 (.loop (.blk 1 (.seq (.seq (.reg [0,1,2,6,27] c_f79_r2 v_f79) (.cond (.t 15) (.seq (.seq (.draw [0,
 1,2,6,15] c_f79_r3 v_f79) (.cond (.t 27) (.seq (.reg v_f79 c_f79_r4 v_f79) .ret) .skip)) (.seq (.draw v_f79 c_f79_r5 v_f79) (.reg v_f79 c_f79_r6 v_f79))) .skip)) (.reg v_f79 c_f79_r7 v_f79))))))
abbrev n_f79 : Nat := 79
theorem go_f79 : Gof Try.prog Try.f79.ntmps 3 [6] v_f79 [(.tmp 6)] c_f79 n_f79 := gof mix Try.func79 (by kernel_rfl) rfl
def c_f80_r0 : Tree :=.take [1,2,3,5,6,14,15,16] (oM 12 0) (.take [2,3,5,6,14,15,16] (oN 13 12) (.take [3,5,6,14,15,16] (oF 14 13 4) (.take [5,6,14,15,16] (oL 15 14 1) (.take [5,6,14,15,16] (oM 16 1) (.take [6,14,15,16] (oX 17 15 16 1) (.take [14,15,16] (oL 18 17 1) (.take [8,9,10,12,
 13,14,15,16] (oM 19 0) (.take [9,10,12,13,14,15,16] (oN 20 19) (.take [10,12,13,14,15,16] (oF 21 20 4) (.take [12,13,14,15,16] (oL 22 21 1) (.take [12,13,14,15,16] (oM 23 2) (.take [13,14,15,16] (oX 24 22 23 1) (.take [14,15,16] (oL 25 24 1) (.take [15,16] (oD 26 .add 18 25) (.take [16] (oB 27 .add 26 1) (.one 16 (oS 8 27) .done))))))))))))))))
def c_f80_r1 : List GOp :=[oM 28 0,oM 29 1,oC2 30 64 28 29,oS 9 30]
def c_f80_r2 : List GOp :=[oM 31 9,oM 32 3,oD 33 .neq 31 32]
def c_f80_r3 : List GOp :=[oM 34 0,oN 35 34,oF 36 35 1,oL 37 36 1,oM 38 9,oX 39 37 38 1,oL 40 39 1,oS 10 40]
def c_f80_r4 : List GOp :=[oM 41 0,oN 42 41,oF 43 42 3,oL 44 43 1,oM 45 10,oX 46 44 45 1,oL 47 46 1,(none,.r (.notb 48 (.t 47)))]
def c_f80_r5 : List GOp :=[oM 49 0,oN 50 49,oF 51 50 8,oL 52 51 1,oM 53 10,oM 54 1,oM 55 2,(none,.bld 56 [((0,1),(.t 54,true)),((1,1),(.t 55,true))] [.int .i64 0,.int .i64 0]),oX 57 52 53 2,oW 57 56 2]
def c_f80_r6 : List GOp :=[oM 58 0,oM 59 10,oM 60 8,oM 61 0,oN 62 61,oF 63 62 5,oL 64 63 1,oM 65 10,oX 66 64 65 1,oL 67 66 1,oD 68 .sub 60 67,(none,.call 69 (.f 74) [(.t 58,false),(.t 59,false),(.t 68,false),(.c (.int .i64 2),false)])]
def c_f80_r7 : List GOp :=[oM 70 0,oM 71 0,oN 72 71,oF 73 72 6,oL 74 73 1,oM 75 10,oX 76 74 75 1,oL 77 76 1,oC2 78 64 70 77,oS 11 78]
def c_f80_r8 : List GOp :=[oM 79 0,oM 80 9,oM 81 10,oM 82 3,(none,.call 83 (.f 86) [(.t 79,false),(.t 80,false),(.t 81,false),(.t 82,false)])]
def c_f80_r9 : List GOp :=[oM 84 0,oM 85 10,oM 86 0,oN 87 86,oF 88 87 6,oL 89 88 1,oM 90 10,oX 91 89 90 1,oL 92 91 1,oM 93 3,(none,.call 94 (.f 86) [(.t 84,false),(.t 85,false),(.t 92,false),(.t 93,false)])]
def c_f80_r10 : List GOp :=[oM 95 11,oS 9 95]
def v_f80 : List Nat := [0, 1, 2, 3, 8, 9, 10, 11, 33, 48]
def c_f80 : ACode :=.seq (.draw v_f80 c_f80_r0 v_f80) (.seq (.reg v_f80 c_f80_r1 v_f80) (.blk 0 (.loop (.seq (.seq (.reg [0,1,2,3,8,9,10,11,48] c_f80_r2 v_f80) (.cond (.t 33) .skip (.exit 0))) (.blk 1 (.seq (.reg v_f80 c_f80_r3 v_f80) (.seq (.seq (.reg [0,
 1,2,3,8,9,10,11,33] c_f80_r4 v_f80) (.cond (.t 48) (.seq (.reg v_f80 c_f80_r5 v_f80) (.reg v_f80 c_f80_r6 v_f80)) .skip)) (.seq (.reg v_f80 c_f80_r7 v_f80) (.seq (.reg v_f80 c_f80_r8 v_f80) (.seq (.reg v_f80 c_f80_r9 v_f80) (.reg v_f80 c_f80_r10 v_f80)))))))))))
abbrev n_f80 : Nat := 80
theorem go_f80 : Gof Try.prog Try.f80.ntmps 4 [] v_f80 [] c_f80 n_f80 := gof mix Try.func80 (by kernel_rfl) rfl
def c_f84_r0 : List GOp :=[(none,.asg 4 (.c (.int .u64 0)) true),(none,.asg 5 (.c (.int .u64 0)) true)]
def c_f84_r1 : List GOp :=[oM 14 0,(none,.r (.bin 15 .and 0 (.t 14) (.c (.int .u64 4294967295)))),oS 6 15]
def c_f84_r2 : List GOp :=[oM 16 0,(none,.r (.bin 17 .shr 0 (.t 16) (.c (.int .u64 32)))),oS 7 17]
def c_f84_r3 : List GOp :=[oM 18 1,(none,.r (.bin 19 .and 0 (.t 18) (.c (.int .u64 4294967295)))),oS 8 19]
def c_f84_r4 : List GOp :=[oM 20 1,(none,.r (.bin 21 .shr 0 (.t 20) (.c (.int .u64 32)))),oS 9 21]
def c_f84_r5 : List GOp :=[oM 22 6,oM 23 8,oD 24 .mul 22 23,oS 10 24]
def c_f84_r6 : List GOp :=[oM 25 7,oM 26 8,oD 27 .mul 25 26,oM 28 10,(none,.r (.bin 29 .shr 0 (.t 28) (.c (.int .u64 32)))),oD 30 .add 27 29,oS 11 30]
def c_f84_r7 : List GOp :=[oM 31 11,(none,.r (.bin 32 .and 0 (.t 31) (.c (.int .u64 4294967295)))),oS 12 32]
def c_f84_r8 : List GOp :=[oM 33 11,(none,.r (.bin 34 .shr 0 (.t 33) (.c (.int .u64 32)))),oS 13 34]
def c_f84_r9 : List GOp :=[oM 35 12,oM 36 6,oM 37 9,oD 38 .mul 36 37,oD 39 .add 35 38,oS 12 39]
def c_f84_r10 : List GOp :=[oM 40 7,oM 41 9,oD 42 .mul 40 41,oM 43 13,oD 44 .add 42 43,oM 45 12,(none,.r (.bin 46 .shr 0 (.t 45) (.c (.int .u64 32)))),oD 47 .add 44 46,oS 4 47]
def c_f84_r11 : List GOp :=[oM 48 0,oM 49 1,oD 50 .mul 48 49,oS 5 50]
def v_f84 : List Nat := [0, 1, 4, 5, 6, 7, 8, 9, 10, 11, 12, 13]
def c_f84 : ACode :=.seq (.reg v_f84 c_f84_r0 v_f84) (.seq (.reg v_f84 c_f84_r1 v_f84) (.seq (.reg v_f84 c_f84_r2 v_f84) (.seq (.reg v_f84 c_f84_r3 v_f84) (.seq (.reg v_f84 c_f84_r4 v_f84) (.seq (.reg v_f84 c_f84_r5 v_f84) (.seq (.reg v_f84 c_f84_r6 v_f84) (.seq (.reg v_f84 c_f84_r7 v_f84) (.seq (.reg v_f84 c_f84_r8 v_f84) (.seq (.reg v_f84 c_f84_r9 v_f84) (.seq (.reg v_f84 c_f84_r10 v_f84) (.seq (.reg v_f84 c_f84_r11 v_f84) .ret)))))))))))
abbrev n_f84 : Nat := 84
theorem go_f84 : Gof Try.prog Try.f84.ntmps 2 [4, 5] v_f84 [(.tmp 4), (.tmp 5)] c_f84 n_f84 := gof mix Try.func84 (by kernel_rfl) rfl
def c_f85_r0 : List GOp :=[oI 4 0]
def c_f85_r1 : List GOp :=[oM 5 0,oN 6 5,oF 7 6 1,oL 8 7 1,oM 9 1,oX 10 8 9 1,oL 11 10 1,(none,.r (.bin 12 .eql 0 (.t 11) (.c (.int .i64 (- (0 + 1))))))]
def c_f85_r2 : List GOp :=[(none,.asg 4 (.c (.int .i64 (- (0 + 1)))) true)]
def c_f85_r3 : Tree :=.take [14,15] (oM 13 0) (.take [2,3,4,12,13,14,15] (oM 14 0) (.take [3,4,12,13,14,15] (oN 15 14) (.take [4,12,13,14,15] (oF 16 15 6) (.take [12,13,14,15] (oL 17 16 1) (.take [6,7,8,10,11,12,13,14,15] (oM 18 0) (.take [7,8,10,11,12,13,14,15] (oN 19 18) (.take [8,10,
 11,12,13,14,15] (oF 20 19 1) (.take [10,11,12,13,14,15] (oL 21 20 1) (.take [10,11,12,13,14,15] (oM 22 1) (.take [11,12,13,14,15] (oX 23 21 22 1) (.take [12,13,14,15] (oL 24 23 1) (.take [13,14,15] (oX 25 17 24 1) (.take [14,15] (oL 26 25 1) (.one 14 (oC2 27 64 13 26) (.one 15 (oS 4 27) .done)))))))))))))))
def v_f85 : List Nat := [0, 1, 4, 12]
def c_f85 : ACode :=.seq (.reg v_f85 c_f85_r0 v_f85) (.seq (.seq (.reg [0,1,4] c_f85_r1 v_f85) (.cond (.t 12) (.seq (.reg v_f85 c_f85_r2 v_f85) .ret) .skip)) (.seq (.draw v_f85 c_f85_r3 v_f85) .ret))
abbrev n_f85 : Nat := 85
theorem go_f85 : Gof Try.prog Try.f85.ntmps 2 [4] v_f85 [(.tmp 4)] c_f85 n_f85 := gof mix Try.func85 (by kernel_rfl) rfl
def c_f86_r0 : List GOp :=[oM 10 0,oM 11 1,oC2 12 75 10 11,oM 13 0,oM 14 2,oC2 15 75 13 14,oS 8 12,oS 9 15]
def c_f86_r1 : List GOp :=[oM 16 0,oN 17 16,oF 18 17 10,oL 19 18 1,oM 20 8,oM 21 9,oX 22 19 20 1,oW 22 21 1]
def c_f86_r2 : List GOp :=[oM 23 0,oN 24 23,oF 25 24 11,oL 26 25 1,oM 27 9,oM 28 3,oX 29 26 27 1,oW 29 28 1]
def v_f86 : List Nat := [0, 1, 2, 3, 8, 9]
def c_f86 : ACode :=.seq (.reg v_f86 c_f86_r0 v_f86) (.seq (.reg v_f86 c_f86_r1 v_f86) (.reg v_f86 c_f86_r2 v_f86))
abbrev n_f86 : Nat := 86
theorem go_f86 : Gof Try.prog Try.f86.ntmps 4 [] v_f86 [] c_f86 n_f86 := gof mix Try.func86 (by kernel_rfl) rfl
end Go.Proofs.Ytmcfdfafeheihaa

namespace Go.Ga.Gl
open Go Go.Ga
abbrev Es := List (Nat × Nat)
def lexlt (a b : Nat × Nat) : Prop := a.1 < b.1 ∨ a.1 = b.1 ∧ a.2 < b.2
instance (a b : Nat × Nat) : Decidable (lexlt a b) := inferInstanceAs (Decidable (a.1 < b.1 ∨ a.1 = b.1 ∧ a.2 < b.2))
structure GR (n : Nat) (es : Es) : Prop where
 hn : n ≤ 4096
 hm : es.length ≤ 65536
 ok : ∀ e ∈ es, e.1 < e.2 ∧ e.2 < n
 up : es.Pairwise lexlt
def castE (l : Es) : List (Int × Int) := l.map fun e => ((e.1 : Int), (e.2 : Int))
theorem castE_len (l : Es) : (castE l).length = l.length := by simp [castE]
theorem castE_get {l : Es} {k : Nat} {a b : Nat} (h : l[k]? = some (a, b)) : (castE l)[k]? = some ((a : Int), (b : Int)) := by simp [castE, h]
theorem castE_drop (l : Es) (k : Nat) : (castE l).drop k = castE (l.drop k) := by simp [castE]
theorem castE_append (l m : Es) : castE (l ++ m) = castE l ++ castE m := by simp [castE]
def okAt (n : Int) (es : List (Int × Int)) (i : Nat) : Bool :=
 let e := es.getD i (0, 0)
 let p := es.getD (i - 1) (0, 0)
 decide (0 ≤ e.1) && decide (e.1 < e.2) && decide (e.2 < n) && (decide (i = 0) || (decide (p.1 < e.1) || decide (p.1 = e.1) && decide (p.2 < e.2)))
def rightB (n : Int) (es : List (Int × Int)) : Bool :=
 decide (0 ≤ n) && decide (n ≤ 4096) && decide (es.length ≤ 65536) && (List.range es.length).all (okAt n es)
theorem rightB_false {n : Int} {es : List (Int × Int)} {i : Nat} (hi : i < es.length) (h : okAt n es i = false) : rightB n es = false := by
 have : (List.range es.length).all (okAt n es) = false := by
  rw [Bool.eq_false_iff]
  intro h1
  rw [List.all_eq_true] at h1
  have := h1 i (List.mem_range.2 hi)
  rw [h] at this; cases this
 simp [rightB, this]
theorem rightB_true {n : Int} {es : List (Int × Int)} (h0 : 0 ≤ n) (h1 : n ≤ 4096) (h2 : es.length ≤ 65536) (h : ∀ i, i < es.length → okAt n es i = true) : rightB n es = true := by
 simp only [rightB, Bool.and_eq_true, decide_eq_true_eq, List.all_eq_true, List.mem_range]
 exact ⟨⟨⟨h0, h1⟩, h2⟩, h⟩
theorem pairwise_of_next {α : Type} {R : α → α → Prop} (ht : ∀ a b c, R a b → R b c → R a c) : ∀ {l : List α}, (∀ i a b, l[i]? = some a → l[i + 1]? = some b → R a b) → l.Pairwise R
 | [], _ => .nil
 | [a], _ => by simp
 | a :: b :: l, h => by
   have ih : (b :: l).Pairwise R := pairwise_of_next ht fun i x y hx hy => h (i + 1) x y hx hy
   have hab : R a b := h 0 a b rfl rfl
   refine List.Pairwise.cons ?_ ih
   intro c hc
   cases hc with
   | head => exact hab
   | tail _ hc => exact ht a b c hab (List.rel_of_pairwise_cons ih hc)
theorem lexlt_trans (a b c : Nat × Nat) (h1 : lexlt a b) (h2 : lexlt b c) : lexlt a c := by
 unfold lexlt at *; omega
theorem lexlt_irrefl (a : Nat × Nat) : ¬ lexlt a a := by unfold lexlt; omega
theorem getD_castE (es : Es) (i : Nat) : (castE es).getD i (0, 0) = (((es.getD i (0, 0)).1 : Int), ((es.getD i (0, 0)).2 : Int)) := by
 simp only [castE, List.getD_eq_getElem?_getD, List.getElem?_map]
 cases es[i]? <;> rfl
theorem okAt_cast (n : Nat) (es : Es) (i : Nat) : okAt (n : Int) (castE es) i = true ↔
    (es.getD i (0, 0)).1 < (es.getD i (0, 0)).2 ∧ (es.getD i (0, 0)).2 < n ∧ (i = 0 ∨ lexlt (es.getD (i - 1) (0, 0)) (es.getD i (0, 0))) := by
  simp only [okAt, getD_castE, lexlt, Bool.and_eq_true, Bool.or_eq_true, decide_eq_true_eq]
  omega
theorem rightB_GR {n : Nat} {es : Es} (g : GR n es) : rightB n (castE es) = true := by
 refine rightB_true (by omega) (by have := g.hn; omega) (by rw [castE_len]; exact g.hm) fun i hi => ?_
 rw [castE_len] at hi
 rw [okAt_cast]
 have hmem : es.getD i (0, 0) ∈ es := by
  rw [List.getD_eq_getElem?_getD, List.getElem?_eq_getElem hi]; exact List.getElem_mem hi
 have h1 := g.ok _ hmem
 refine ⟨h1.1, h1.2, ?_⟩
 cases i with
 | zero => exact .inl rfl
 | succ i =>
   right
   have := List.pairwise_iff_getElem.1 g.up i (i + 1) (by omega) hi (by omega)
   simpa [List.getD_eq_getElem?_getD, List.getElem?_eq_getElem hi, List.getElem?_eq_getElem (show i < es.length by omega)] using this
theorem GR_rightB {n : Nat} {es : Es} (h : rightB n (castE es) = true) : GR n es := by
 simp only [rightB, Bool.and_eq_true, decide_eq_true_eq, List.all_eq_true, List.mem_range, castE_len] at h
 obtain ⟨⟨⟨_, h1⟩, h2⟩, h3⟩ := h
 have h4 : ∀ i, i < es.length → (es.getD i (0, 0)).1 < (es.getD i (0, 0)).2 ∧ (es.getD i (0, 0)).2 < n ∧ (i = 0 ∨ lexlt (es.getD (i - 1) (0, 0)) (es.getD i (0, 0))) :=
  fun i hi => (okAt_cast n es i).1 (h3 i hi)
 refine ⟨by omega, h2, ?_, ?_⟩
 · intro e he
   obtain ⟨i, hi, rfl⟩ := List.mem_iff_getElem.1 he
   have := h4 i hi
   rw [List.getD_eq_getElem?_getD, List.getElem?_eq_getElem hi] at this
   exact ⟨this.1, this.2.1⟩
 · refine pairwise_of_next lexlt_trans fun i a b ha hb => ?_
   have hi : i + 1 < es.length := (List.getElem?_eq_some_iff.1 hb).1
   have := (h4 (i + 1) hi).2.2
   rw [List.getD_eq_getElem?_getD, List.getD_eq_getElem?_getD, hb, Nat.add_sub_cancel, ha] at this
   exact this.resolve_left (by omega)
theorem right_nat {n : Int} {es : List (Int × Int)} (h : rightB n es = true) : ∃ (N : Nat) (es' : Es), n = N ∧ es = castE es' ∧ GR N es' := by
 have h' := h
 simp only [rightB, Bool.and_eq_true, decide_eq_true_eq, List.all_eq_true, List.mem_range] at h
 obtain ⟨⟨⟨h0, h1⟩, h2⟩, h3⟩ := h
 have e : es = castE (es.map fun e => (e.1.toNat, e.2.toNat)) := by
  apply List.ext_getElem (by simp [castE])
  intro i hi hi'
  have := h3 i hi
  simp only [okAt, Bool.and_eq_true, decide_eq_true_eq, List.getD_eq_getElem?_getD, List.getElem?_eq_getElem hi, Option.getD_some] at this
  obtain ⟨⟨⟨a, b⟩, c⟩, _⟩ := this
  simp only [castE, List.getElem_map]
  apply Prod.ext
  · show _ = ((es[i].1.toNat : Nat) : Int); omega
  · show _ = ((es[i].2.toNat : Nat) : Int); omega
 refine ⟨n.toNat, _, by omega, e, ?_⟩
 apply GR_rightB
 rw [← e, show ((n.toNat : Nat) : Int) = n by omega]
 exact h'
theorem GR.nodup {n : Nat} {es : Es} (g : GR n es) : es.Nodup := g.up.imp fun {a b} h e => by subst e; exact lexlt_irrefl _ h
def putE (l : Es) (e : Nat × Nat) : Es := (l.filter fun x => decide (lexlt x e)) ++ e :: (l.filter fun x => !decide (lexlt x e))
theorem putE_mem {l : Es} {e x : Nat × Nat} : x ∈ putE l e ↔ x = e ∨ x ∈ l := by
 simp only [putE, List.mem_append, List.mem_filter, List.mem_cons]
 by_cases h : lexlt x e <;> simp [h]
 constructor
 · rintro (h | h)
   · exact .inr h
   · exact .inl h
 · rintro (rfl | h)
   · exact absurd h (lexlt_irrefl _)
   · exact .inl h
theorem putE_len (l : Es) (e : Nat × Nat) : (putE l e).length = l.length + 1 := by
 have : ∀ (p : Nat × Nat → Bool), (l.filter p).length + (l.filter fun x => !p x).length = l.length := by
  intro p
  induction l with
  | nil => rfl
  | cons a l ih =>
    cases h : p a <;> simp [h] <;> omega
 simp only [putE, List.length_append, List.length_cons]
 have := this fun x => decide (lexlt x e)
 omega
theorem GR.put {n : Nat} {es : Es} (g : GR n es) {e : Nat × Nat} (h1 : e.1 < e.2) (h2 : e.2 < n) (h3 : e ∉ es) (h4 : es.length < 65536) : GR n (putE es e) := by
 refine ⟨g.hn, by rw [putE_len]; omega, ?_, ?_⟩
 · intro x hx
   rcases putE_mem.1 hx with rfl | hx
   · exact ⟨h1, h2⟩
   · exact g.ok x hx
 · refine List.pairwise_append.2 ⟨g.up.filter _, List.pairwise_cons.2 ⟨?_, g.up.filter _⟩, ?_⟩
   · intro x hx
     simp only [List.mem_filter, Bool.not_eq_true', decide_eq_false_iff_not] at hx
     have : x ≠ e := fun h => h3 (h ▸ hx.1)
     have h5 : ¬ (x.1 = e.1 ∧ x.2 = e.2) := fun h => this (Prod.ext h.1 h.2)
     have h6 := hx.2
     unfold lexlt at *
     omega
   · intro x hx y hy
     simp only [List.mem_filter, decide_eq_true_eq] at hx
     have hxe : lexlt x e := hx.2
     simp only [List.mem_cons, List.mem_filter, Bool.not_eq_true', decide_eq_false_iff_not] at hy
     rcases hy with rfl | hy
     · exact hxe
     · refine lexlt_trans _ e _ hxe ?_
       have : y ≠ e := fun h => h3 (h ▸ hy.1)
       have h5 : ¬ (y.1 = e.1 ∧ y.2 = e.2) := fun h => this (Prod.ext h.1 h.2)
       have h6 := hy.2
       unfold lexlt at *
       omega
theorem putE_split {l : Es} {e : Nat × Nat} {k : Nat} (hk : k ≤ l.length) (h1 : ∀ x ∈ l.take k, lexlt x e) (h2 : ∀ x ∈ l.drop k, ¬ lexlt x e) : l.take k ++ e :: l.drop k = putE l e := by
 unfold putE
 have e1 : (l.filter fun x => decide (lexlt x e)) = l.take k := by
  conv => lhs; rw [← List.take_append_drop k l]
  rw [List.filter_append, List.filter_eq_self.2 fun x hx => decide_eq_true (h1 x hx), List.filter_eq_nil_iff.2 fun x hx => by simpa using h2 x hx, List.append_nil]
 have e2 : (l.filter fun x => !decide (lexlt x e)) = l.drop k := by
  conv => lhs; rw [← List.take_append_drop k l]
  rw [List.filter_append, List.filter_eq_nil_iff.2 fun x hx => by simpa using h1 x hx, List.filter_eq_self.2 fun x hx => by simpa using h2 x hx, List.nil_append]
 rw [e1, e2]
def lowOf (es : Es) (v : Nat) : List Nat := (es.filter fun e => decide (e.2 = v)).map (·.1)
def highOf (es : Es) (v : Nat) : List Nat := (es.filter fun e => decide (e.1 = v)).map (·.2)
def nearOf (es : Es) (v : Nat) : List Nat := lowOf es v ++ highOf es v
def near (n : Nat) (es : Es) : List (List Nat) := (List.range n).map (nearOf es)
def adj (es : Es) (a b : Nat) : Prop := (a, b) ∈ es ∨ (b, a) ∈ es
theorem adj_symm {es : Es} {a b : Nat} (h : adj es a b) : adj es b a := h.symm
theorem nearOf_mem {es : Es} {v w : Nat} : w ∈ nearOf es v ↔ adj es v w := by
 simp only [nearOf, lowOf, highOf, List.mem_append, List.mem_map, List.mem_filter, decide_eq_true_eq, adj]
 constructor
 · rintro (⟨⟨a, b⟩, ⟨h, h1⟩, h2⟩ | ⟨⟨a, b⟩, ⟨h, h1⟩, h2⟩)
   · right; simp at h1 h2; subst h1 h2; exact h
   · left; simp at h1 h2; subst h1 h2; exact h
 · rintro (h | h)
   · exact .inr ⟨(v, w), ⟨h, rfl⟩, rfl⟩
   · exact .inl ⟨(w, v), ⟨h, rfl⟩, rfl⟩
theorem near_len (n : Nat) (es : Es) : (near n es).length = n := by simp [near]
theorem near_get {n : Nat} {es : Es} {v : Nat} (h : v < n) : (near n es)[v]? = some (nearOf es v) := by simp [near, h]
def Flat (es : Es) (O : Nat → Prop) (f : Nat → Nat) : Prop := ∀ a b, adj es a b → ¬ O a → ¬ O b → f a = f b
structure IsPieces (n : Nat) (es : Es) (O : Nat → Prop) (ps : List (List Nat)) : Prop where
 mem : ∀ v, (∃ p ∈ ps, v ∈ p) ↔ v < n ∧ ¬ O v
 ne : ∀ p ∈ ps, p ≠ []
 inc : ∀ p ∈ ps, p.Pairwise (· < ·)
 heads : ps.Pairwise fun p q => ∀ a ∈ p.head?, ∀ b ∈ q.head?, a < b
 disj : ps.Pairwise fun p q => ∀ v ∈ p, v ∉ q
 edge : ∀ p ∈ ps, ∀ a ∈ p, ∀ b, adj es a b → b < n → ¬ O b → b ∈ p
 conn : ∀ p ∈ ps, ∀ f, Flat es O f → ∀ a ∈ p, ∀ b ∈ p, f a = f b
theorem inc_ext : ∀ {p q : List Nat}, p.Pairwise (· < ·) → q.Pairwise (· < ·) → (∀ x, x ∈ p ↔ x ∈ q) → p = q
 | [], [], _, _, _ => rfl
 | [], b :: q, _, _, h => by have := (h b).2 (List.mem_cons_self ..); cases this
 | a :: p, [], _, _, h => by have := (h a).1 (List.mem_cons_self ..); cases this
 | a :: p, b :: q, hp, hq, h => by
   have hp' := List.pairwise_cons.1 hp
   have hq' := List.pairwise_cons.1 hq
   have hab : a = b := by
    rcases List.mem_cons.1 ((h a).1 (List.mem_cons_self ..)) with e | e
    · exact e
    · rcases List.mem_cons.1 ((h b).2 (List.mem_cons_self ..)) with e' | e'
      · exact e'.symm
      · have := hq'.1 a e; have := hp'.1 b e'; omega
   subst hab
   rw [inc_ext hp'.2 hq'.2 fun x => ?_]
   constructor
   · intro hx
     rcases List.mem_cons.1 ((h x).1 (List.mem_cons_of_mem _ hx)) with e | e
     · subst e; exact absurd (hp'.1 x hx) (by omega)
     · exact e
   · intro hx
     rcases List.mem_cons.1 ((h x).2 (List.mem_cons_of_mem _ hx)) with e | e
     · subst e; exact absurd (hq'.1 x hx) (by omega)
     · exact e
theorem heads_ext : ∀ {ps qs : List (List Nat)}, (∀ p ∈ ps, p ≠ []) → (∀ q ∈ qs, q ≠ []) →
    (ps.Pairwise fun p q => ∀ a ∈ p.head?, ∀ b ∈ q.head?, a < b) → (qs.Pairwise fun p q => ∀ a ∈ p.head?, ∀ b ∈ q.head?, a < b) → (∀ p, p ∈ ps ↔ p ∈ qs) → ps = qs
  | [], [], _, _, _, _, _ => rfl
  | [], b :: q, _, _, _, _, h => by have := (h b).2 (List.mem_cons_self ..); cases this
  | a :: p, [], _, _, _, _, h => by have := (h a).1 (List.mem_cons_self ..); cases this
  | a :: p, b :: q, n1, n2, hp, hq, h => by
    have hp' := List.pairwise_cons.1 hp
    have hq' := List.pairwise_cons.1 hq
    have key : ∀ (x y : List Nat), x ≠ [] → y ≠ [] → (∀ a ∈ x.head?, ∀ b ∈ y.head?, a < b) → (∀ a ∈ y.head?, ∀ b ∈ x.head?, a < b) → False := by
      intro x y hx hy h1 h2
      cases x with
      | nil => exact hx rfl
      | cons u x => cases y with
        | nil => exact hy rfl
        | cons w y => have := h1 u rfl w rfl; have := h2 w rfl u rfl; omega
    have hab : a = b := by
      rcases List.mem_cons.1 ((h a).1 (List.mem_cons_self ..)) with e | e
      · exact e
      · rcases List.mem_cons.1 ((h b).2 (List.mem_cons_self ..)) with e' | e'
        · exact e'.symm
        · exact (key a b (n1 a (List.mem_cons_self ..)) (n2 b (List.mem_cons_self ..)) (hp'.1 b e') (hq'.1 a e)).elim
    subst hab
    have self : ∀ x, x ≠ [] → ¬ (∀ u ∈ x.head?, ∀ w ∈ x.head?, u < w) := fun x hx h1 => key x x hx hx h1 h1
    rw [heads_ext (fun p hp => n1 p (List.mem_cons_of_mem _ hp)) (fun p hp => n2 p (List.mem_cons_of_mem _ hp)) hp'.2 hq'.2 fun x => ?_]
    constructor
    · intro hx
      rcases List.mem_cons.1 ((h x).1 (List.mem_cons_of_mem _ hx)) with e | e
      · subst e; exact (self x (n1 x (List.mem_cons_self ..)) (hp'.1 x hx)).elim
      · exact e
    · intro hx
      rcases List.mem_cons.1 ((h x).2 (List.mem_cons_of_mem _ hx)) with e | e
      · subst e; exact (self x (n1 x (List.mem_cons_self ..)) (hq'.1 x hx)).elim
      · exact e
open Classical in
theorem pieces_sub {n : Nat} {es : Es} {O : Nat → Prop} {ps qs : List (List Nat)} (hes : ∀ a b, adj es a b → a < n ∧ b < n) (P : IsPieces n es O ps) (Q : IsPieces n es O qs) {p : List Nat} (hp : p ∈ ps) {q : List Nat} (hq : q ∈ qs) {v : Nat} (h1 : v ∈ p) (h2 : v ∈ q) : ∀ x ∈ p, x ∈ q := by
 intro x hx
 have hfl : Flat es O (fun x => if x ∈ q then 1 else 0) := by
  intro a b hab ha hb
  have hl := hes a b hab
  by_cases h : a ∈ q
  · simp [h, Q.edge q hq a h b hab hl.2 hb]
  · have : b ∉ q := fun h' => h (Q.edge q hq b h' a (adj_symm hab) hl.1 ha)
    simp [h, this]
 have := P.conn p hp _ hfl v h1 x hx
 simp only [h2, if_true] at this
 by_cases h : x ∈ q
 · exact h
 · simp [h] at this
theorem IsPieces.unique {n : Nat} {es : Es} {O : Nat → Prop} {ps qs : List (List Nat)} (hes : ∀ a b, adj es a b → a < n ∧ b < n) (P : IsPieces n es O ps) (Q : IsPieces n es O qs) : ps = qs := by
 have half : ∀ {ps qs : List (List Nat)}, IsPieces n es O ps → IsPieces n es O qs → ∀ p ∈ ps, p ∈ qs := by
  intro ps qs P Q p hp
  obtain ⟨v, hv⟩ := List.exists_mem_of_ne_nil p (P.ne p hp)
  obtain ⟨q, hq, hvq⟩ := (Q.mem v).2 ((P.mem v).1 ⟨p, hp, hv⟩)
  rw [inc_ext (P.inc p hp) (Q.inc q hq) fun x => ⟨pieces_sub hes P Q hp hq hv hvq x, pieces_sub hes Q P hq hp hvq hv x⟩]
  exact hq
 exact heads_ext P.ne Q.ne P.heads Q.heads fun p => ⟨half P Q p, half Q P p⟩
theorem GR.adj_lt {n : Nat} {es : Es} (g : GR n es) : ∀ a b, adj es a b → a < n ∧ b < n := by
 intro a b h
 rcases h with h | h
 · obtain ⟨h1, h2⟩ := g.ok _ h; simp only at h1 h2; exact ⟨by omega, h2⟩
 · obtain ⟨h1, h2⟩ := g.ok _ h; simp only at h1 h2; exact ⟨h2, by omega⟩
theorem piece_len {n : Nat} {es : Es} {O : Nat → Prop} {ps : List (List Nat)} (P : IsPieces n es O ps) {p : List Nat} (hp : p ∈ ps) : p.length ≤ n := by
 have := (List.pairwise_iff_getElem.1 (P.inc p hp))
 have key : ∀ (m : Nat) (q : List Nat), q.Pairwise (· < ·) → (∀ x ∈ q, m ≤ x ∧ x < n) → q.length ≤ n - m := by
  intro m q
  induction q generalizing m with
  | nil => intro _ _; exact Nat.zero_le _
  | cons a q ih =>
    intro h1 h2
    have h1' := List.pairwise_cons.1 h1
    have ha := h2 a (List.mem_cons_self ..)
    have := ih (a + 1) h1'.2 fun x hx => ⟨h1'.1 x hx, (h2 x (List.mem_cons_of_mem _ hx)).2⟩
    simp only [List.length_cons]; omega
 have := key 0 p (P.inc p hp) fun x hx => ⟨Nat.zero_le _, ((P.mem x).1 ⟨p, hp, hx⟩).1⟩
 omega
theorem pieces_len {n : Nat} {es : Es} {O : Nat → Prop} {ps : List (List Nat)} (P : IsPieces n es O ps) : ps.length ≤ n := by
 have h : (ps.map fun p => p.headD 0).Pairwise (· < ·) := by
  refine List.pairwise_map.2 (P.heads.imp_of_mem fun {p q} hp hq h => ?_)
  have h1 := P.ne p hp; have h2 := P.ne q hq
  cases p with
  | nil => exact absurd rfl h1
  | cons a p => cases q with
    | nil => exact absurd rfl h2
    | cons b q => exact h a rfl b rfl
 have h2 : ∀ x ∈ ps.map fun p => p.headD 0, x < n := by
  intro x hx
  obtain ⟨p, hp, rfl⟩ := List.mem_map.1 hx
  cases p with
  | nil => exact absurd rfl (P.ne _ hp)
  | cons a p => exact ((P.mem a).1 ⟨_, hp, List.mem_cons_self ..⟩).1
 have key : ∀ (m : Nat) (q : List Nat), q.Pairwise (· < ·) → (∀ x ∈ q, m ≤ x ∧ x < n) → q.length ≤ n - m := by
  intro m q
  induction q generalizing m with
  | nil => intro _ _; exact Nat.zero_le _
  | cons a q ih =>
    intro h1 h2
    have h1' := List.pairwise_cons.1 h1
    have ha := h2 a (List.mem_cons_self ..)
    have := ih (a + 1) h1'.2 fun x hx => ⟨h1'.1 x hx, (h2 x (List.mem_cons_of_mem _ hx)).2⟩
    simp only [List.length_cons]; omega
 have := key 0 _ h fun x hx => ⟨Nat.zero_le _, h2 x hx⟩
 simpa using this
def oddCount (ps : List (List Nat)) : Nat := (ps.map fun p => p.length % 2).sum
abbrev DS := List Bool × List Nat × List Nat
def come (s : DS) (v : Nat) : DS := if s.1.getD v false = true then s else (s.1.set v true, s.2.1 ++ [v], s.2.2 ++ [v])
def comes (s : DS) (l : List Nat) : DS := l.foldl come s
theorem comes_snoc (s : DS) (l : List Nat) (k : Nat) (x : Nat) (h : l[k]? = some x) : comes s (l.take (k + 1)) = come (comes s (l.take k)) x := by
 rw [List.take_add_one, h]
 simp [comes]
def undone (d : List Bool) : Nat := (d.filter fun b => !b).length
theorem set_bool (d : List Bool) (v x : Nat) : (d.set v true).getD x false = true ↔ d.getD x false = true ∨ (x = v ∧ v < d.length) := by
 simp only [List.getD_eq_getElem?_getD, List.getElem?_set]
 by_cases h : v = x
 · subst h
   by_cases h2 : v < d.length
   · simp [h2]
   · simp [h2]
 · simp [h, Ne.symm h]
theorem undone_set : ∀ (d : List Bool) (v : Nat), v < d.length → d.getD v false = false → undone (d.set v true) + 1 = undone d
 | [], v, h, _ => by simp at h
 | b :: d, 0, _, h => by
   simp at h; subst h; simp [undone]
 | b :: d, v + 1, h, h2 => by
   have := undone_set d v (by simpa using h) (by simpa using h2)
   cases b <;> simp [undone] at * <;> omega
structure WI (n : Nat) (es : Es) (D : List Bool) (v : Nat) (s : DS) : Prop where
 len : s.1.length = n
 done : ∀ x, s.1.getD x false = true ↔ D.getD x false = true ∨ x ∈ s.2.1
 nd : s.2.1.Nodup
 now : ∀ x ∈ s.2.1, x < n ∧ D.getD x false = false
 rest : ∀ x ∈ s.2.2, x ∈ s.2.1
 rl : s.2.2.length ≤ s.2.1.length
 conn : ∀ f, Flat es (fun x => D.getD x false = true) f → ∀ x ∈ s.2.1, f x = f v
theorem nodup_le : ∀ {l m : List Nat}, l.Nodup → (∀ x ∈ l, x ∈ m) → l.length ≤ m.length
 | [], m, _, _ => Nat.zero_le _
 | a :: l, m, h, hm => by
   have h' := List.pairwise_cons.1 h
   have ha := hm a (List.mem_cons_self ..)
   have := nodup_le (l := l) (m := m.erase a) h'.2 fun x hx => (List.mem_erase_of_ne fun e => h'.1 x hx e.symm).2 (hm x (List.mem_cons_of_mem _ hx))
   rw [List.length_erase_of_mem ha] at this
   have := List.length_pos_of_mem ha
   simp; omega
theorem WI.size {n : Nat} {es : Es} {D : List Bool} {v : Nat} {s : DS} (w : WI n es D v s) : s.2.1.length ≤ n := by
 have := nodup_le w.nd (m := List.range n) fun x hx => List.mem_range.2 (w.now x hx).1
 simpa using this
theorem WI.start {n : Nat} {es : Es} {D : List Bool} {v : Nat} (hD : D.length = n) : WI n es D v (D, [], []) :=
 ⟨hD, fun x => by simp, List.nodup_nil, fun x h => by simp at h, fun x h => by simp at h, Nat.le_refl _, fun f _ x h => by simp at h⟩
theorem WI.come {n : Nat} {es : Es} {D : List Bool} {v : Nat} {s : DS} (w : WI n es D v s) {x : Nat} (hx : x < n) (hc : x = v ∨ ∃ u ∈ s.2.1, adj es u x) : WI n es D v (come s x) := by
 unfold Gl.come
 split
 · exact w
 · rename_i h
   have hD : D.getD x false = false := by
    cases e : D.getD x false with
    | false => rfl
    | true => exact absurd ((w.done x).2 (.inl e)) h
   have hn : x ∉ s.2.1 := fun e => h ((w.done x).2 (.inr e))
   refine ⟨by simpa using w.len, fun y => ?_, ?_, ?_, ?_, by simp; exact w.rl, ?_⟩
   · show (s.1.set x true).getD y false = true ↔ _
     rw [set_bool, w.done, w.len, List.mem_append, List.mem_singleton]
     constructor
     · rintro (h | h)
       · exact h.imp id .inl
       · exact .inr (.inr h.1)
     · rintro (h | h | h)
       · exact .inl (.inl h)
       · exact .inl (.inr h)
       · exact .inr ⟨h, hx⟩
   · exact List.nodup_append.2 ⟨w.nd, by simp, fun a ha b hb e => by simp at hb; subst hb; subst e; exact hn ha⟩
   · intro y hy
     rcases List.mem_append.1 hy with hy | hy
     · exact w.now y hy
     · simp at hy; subst hy; exact ⟨hx, hD⟩
   · intro y hy
     rcases List.mem_append.1 hy with hy | hy
     · exact List.mem_append_left _ (w.rest y hy)
     · exact List.mem_append_right _ hy
   · intro f hf y hy
     rcases List.mem_append.1 hy with hy | hy
     · exact w.conn f hf y hy
     · simp at hy; subst hy
       rcases hc with rfl | ⟨u, hu, ha⟩
       · rfl
       · rw [← w.conn f hf u hu]
         have h1 := (w.now u hu).2
         exact (hf u y ha (by show ¬ (D.getD u false = true); rw [h1]; simp) (by show ¬ (D.getD y false = true); rw [hD]; simp)).symm
theorem come_mono {s : DS} {x y : Nat} (h : s.1.getD y false = true) : (come s x).1.getD y false = true := by
 unfold come
 split
 · exact h
 · exact (set_bool _ _ _).2 (.inl h)
theorem come_done {s : DS} {x : Nat} (h : x < s.1.length) : (come s x).1.getD x false = true := by
 unfold come
 split
 · assumption
 · exact (set_bool _ _ _).2 (.inr ⟨rfl, h⟩)
theorem come_now {s : DS} {x y : Nat} (h : y ∈ s.2.1) : y ∈ (come s x).2.1 := by
 unfold come
 split
 · exact h
 · exact List.mem_append_left _ h
theorem come_rest {s : DS} {x y : Nat} (h : y ∈ (come s x).2.1) : y ∈ s.2.1 ∨ y ∈ (come s x).2.2 := by
 unfold come at *
 split at h
 · rename_i h1; rw [if_pos h1]; exact .inl h
 · rename_i h1; rw [if_neg h1]
   rcases List.mem_append.1 h with h | h
   · exact .inl h
   · exact .inr (List.mem_append_right _ h)
theorem come_keep {s : DS} {x y : Nat} (h : y ∈ s.2.2) : y ∈ (come s x).2.2 := by
 unfold come
 split
 · exact h
 · exact List.mem_append_left _ h
theorem come_measure {s : DS} {x : Nat} (h : x < s.1.length) : 2 * undone (come s x).1 + (come s x).2.2.length ≤ 2 * undone s.1 + s.2.2.length := by
 unfold come
 split
 · exact Nat.le_refl _
 · rename_i h1
   have := undone_set s.1 x h (by simpa using h1)
   simp only [List.length_append, List.length_singleton]
   omega
def Gone (es : Es) (U : Nat → Prop) (s : DS) : Prop := ∀ x ∈ s.2.1, x ∉ s.2.2 → ¬ U x → ∀ y, adj es x y → s.1.getD y false = true
structure WJ (n : Nat) (es : Es) (D : List Bool) (v : Nat) (s : DS) : Prop extends WI n es D v s where
 gone : Gone es (fun _ => False) s
 self : v ∈ s.2.1
theorem comes_ok {n : Nat} {es : Es} (hes : ∀ a b, adj es a b → a < n ∧ b < n) {D : List Bool} {v u : Nat} {s : DS} (w : WI n es D v s) (hu : u ∈ s.2.1) (hg : Gone es (fun x => x = u) s) :
    ∀ k, k ≤ (nearOf es u).length →
    WI n es D v (comes s ((nearOf es u).take k)) ∧ u ∈ (comes s ((nearOf es u).take k)).2.1 ∧ Gone es (fun x => x = u) (comes s ((nearOf es u).take k)) ∧
    (∀ y ∈ (nearOf es u).take k, (comes s ((nearOf es u).take k)).1.getD y false = true) ∧
    2 * undone (comes s ((nearOf es u).take k)).1 + (comes s ((nearOf es u).take k)).2.2.length ≤ 2 * undone s.1 + s.2.2.length ∧ (∀ x ∈ s.2.1, x ∈ (comes s ((nearOf es u).take k)).2.1) := by
  intro k
  induction k with
  | zero => intro _; simp only [List.take_zero, comes, List.foldl_nil]; exact ⟨w, hu, hg, fun y hy => by simp at hy, Nat.le_refl _, fun x h => h⟩
  | succ k ih =>
    intro hk
    obtain ⟨h1, h2, h3, h4, h5, h6⟩ := ih (by omega)
    have hx : (nearOf es u)[k]? = some ((nearOf es u)[k]'(by omega)) := List.getElem?_eq_getElem _
    generalize (nearOf es u)[k]'(by omega) = x at hx
    have hax : adj es u x := nearOf_mem.1 (List.mem_iff_getElem?.2 ⟨k, hx⟩)
    have hxn := (hes u x hax).2
    rw [comes_snoc _ _ _ _ hx]
    refine ⟨h1.come hxn (.inr ⟨u, h2, hax⟩), come_now h2, ?_, ?_, Nat.le_trans (come_measure (by rw [h1.len]; exact hxn)) h5, fun x h => come_now (h6 x h)⟩
    · intro y hy hr hne z hz
      rcases come_rest hy with hy | hy
      · exact come_mono (h3 y hy (fun e => hr (come_keep e)) hne z hz)
      · exact absurd hy hr
    · intro y hy
      rw [List.take_add_one, hx] at hy
      rcases List.mem_append.1 hy with hy | hy
      · exact come_mono (h4 y hy)
      · simp at hy; subst hy; exact come_done (by rw [h1.len]; exact hxn)
theorem WJ.step {n : Nat} {es : Es} (hes : ∀ a b, adj es a b → a < n ∧ b < n) {D : List Bool} {v u : Nat} {d : List Bool} {nw r : List Nat} (w : WJ n es D v (d, nw, r ++ [u])) :
    WJ n es D v (comes (d, nw, r) (nearOf es u)) ∧ 2 * undone (comes (d, nw, r) (nearOf es u)).1 + (comes (d, nw, r) (nearOf es u)).2.2.length < 2 * undone d + (r ++ [u]).length := by
  have w1 : WI n es D v (d, nw, r) := ⟨w.len, w.done, w.nd, w.now, fun x h => w.rest x (List.mem_append_left _ h), by have := w.rl; simp at this ⊢; omega, w.conn⟩
  have hu : u ∈ nw := w.rest u (List.mem_append_right _ (List.mem_singleton.2 rfl))
  have hg : Gone es (fun x => x = u) (d, nw, r) := fun x hx hr hne y hy => w.gone x hx (fun e => by
    rcases List.mem_append.1 e with e | e
    · exact hr e
    · simp at e; exact hne e) (fun e => e) y hy
  obtain ⟨h1, h2, h3, h4, h5, h6⟩ := comes_ok hes w1 hu hg (nearOf es u).length (Nat.le_refl _)
  rw [List.take_length] at *
  refine ⟨⟨h1, fun x hx hr _ y hy => ?_, h6 v w.self⟩, by simp at h5 ⊢; omega⟩
  by_cases e : x = u
  · subst e; exact h4 y (nearOf_mem.2 hy)
  · exact h3 x hx hr e y hy
theorem WJ.start {n : Nat} {es : Es} {D : List Bool} {v : Nat} (hD : D.length = n) (hv : v < n) (h0 : D.getD v false = false) : WJ n es D v (come (D, [], []) v) := by
 refine ⟨(WI.start hD).come hv (.inl rfl), ?_, ?_⟩
 · intro x hx hr _ y _
   rcases come_rest hx with h | h
   · simp at h
   · exact absurd h hr
 · have : ¬ D.getD v false = true := by rw [h0]; simp
   unfold come; rw [if_neg this]; simp
structure PieceOf (n : Nat) (es : Es) (D : List Bool) (v : Nat) (D' : List Bool) (p : List Nat) : Prop where
 len : D'.length = n
 done : ∀ x, D'.getD x false = true ↔ D.getD x false = true ∨ x ∈ p
 inc : p.Pairwise (· < ·)
 mem : ∀ x ∈ p, x < n ∧ D.getD x false = false
 self : v ∈ p
 closed : ∀ x ∈ p, ∀ y, adj es x y → D'.getD y false = true
 conn : ∀ f, Flat es (fun x => D.getD x false = true) f → ∀ x ∈ p, f x = f v
theorem WJ.piece {n : Nat} {es : Es} {D : List Bool} {v : Nat} {d : List Bool} {nw p : List Nat} (w : WJ n es D v (d, nw, [])) (hp : p.Perm nw) (hs : p.Pairwise (· ≤ ·)) : PieceOf n es D v d p where
 len := w.len
 done x := by rw [w.done, hp.mem_iff]
 inc := by
  have nd : p.Nodup := hp.nodup_iff.2 w.nd
  refine (hs.and nd).imp fun {a b} h => ?_
  have := h.1; have := h.2; omega
 mem x hx := w.now x (hp.mem_iff.1 hx)
 self := hp.mem_iff.2 w.self
 closed x hx y hy := w.gone x (hp.mem_iff.1 hx) (by simp) (fun e => e) y hy
 conn f hf x hx := w.conn f hf x (hp.mem_iff.1 hx)
structure OI (n : Nat) (es : Es) (O : Nat → Prop) (v : Nat) (D : List Bool) (ps : List (List Nat)) : Prop where
 len : D.length = n
 done : ∀ x, x < n → (D.getD x false = true ↔ O x ∨ ∃ p ∈ ps, x ∈ p)
 out : ∀ p ∈ ps, ∀ x ∈ p, x < n ∧ ¬ O x
 before : ∀ x, x < v → x < n → D.getD x false = true
 ne : ∀ p ∈ ps, p ≠ []
 inc : ∀ p ∈ ps, p.Pairwise (· < ·)
 low : ∀ p ∈ ps, ∀ a ∈ p.head?, a < v
 heads : ps.Pairwise fun p q => ∀ a ∈ p.head?, ∀ b ∈ q.head?, a < b
 disj : ps.Pairwise fun p q => ∀ v ∈ p, v ∉ q
 edge : ∀ p ∈ ps, ∀ a ∈ p, ∀ b, adj es a b → b < n → ¬ O b → b ∈ p
 conn : ∀ p ∈ ps, ∀ f, Flat es O f → ∀ a ∈ p, ∀ b ∈ p, f a = f b
theorem OI.start {n : Nat} {es : Es} {O : Nat → Prop} {D : List Bool} (hD : D.length = n) (h : ∀ x, x < n → (D.getD x false = true ↔ O x)) : OI n es O 0 D [] :=
 ⟨hD, fun x hx => by rw [h x hx]; simp, fun p hp => by simp at hp, fun x hx => by omega, fun p hp => by simp at hp, fun p hp => by simp at hp, fun p hp => by simp at hp, .nil, .nil, fun p hp => by simp at hp, fun p hp => by simp at hp⟩
theorem OI.skip {n : Nat} {es : Es} {O : Nat → Prop} {v : Nat} {D : List Bool} {ps : List (List Nat)} (w : OI n es O v D ps) (h : D.getD v false = true) : OI n es O (v + 1) D ps :=
 { w with
  before := fun x hx hn => by
   rcases Nat.lt_or_ge x v with h1 | h1
   · exact w.before x h1 hn
   · have : x = v := by omega
     subst this; exact h
  low := fun p hp a ha => Nat.lt_succ_of_lt (w.low p hp a ha) }
theorem OI.take {n : Nat} {es : Es} (hes : ∀ a b, adj es a b → a < n ∧ b < n) {O : Nat → Prop} {v : Nat} {D D' : List Bool} {ps : List (List Nat)} {p : List Nat} (w : OI n es O v D ps) (hp : PieceOf n es D v D' p) : OI n es O (v + 1) D' (ps ++ [p]) := by
 have hO : ∀ x ∈ p, ¬ O x := fun x hx ho => by
  have h1 := hp.mem x hx
  have := (w.done x h1.1).2 (.inl ho)
  rw [h1.2] at this; cases this
 have hsep : ∀ q ∈ ps, ∀ x ∈ q, x ∉ p := fun q hq x hx hxp => by
  have h1 := hp.mem x hxp
  have := (w.done x h1.1).2 (.inr ⟨q, hq, hx⟩)
  rw [h1.2] at this; cases this
 have hmin : ∀ x ∈ p, v ≤ x := fun x hx => by
  rcases Nat.lt_or_ge x v with h | h
  · have h1 := hp.mem x hx
    have := w.before x h h1.1
    rw [h1.2] at this; cases this
  · exact h
 have hhead : ∀ a ∈ p.head?, a = v := by
  intro a ha
  cases p with
  | nil => cases ha
  | cons b p =>
    have e0 : b = a := by simpa using ha
    subst e0
    have h1 := hmin b (List.mem_cons_self ..)
    rcases List.mem_cons.1 hp.self with e | e
    · exact e.symm
    · have := (List.pairwise_cons.1 hp.inc).1 v e; omega
 refine ⟨hp.len, fun x hx => ?_, ?_, fun x hx hn => ?_, ?_, ?_, ?_, ?_, ?_, ?_, ?_⟩
 · rw [hp.done, w.done x hx]
   simp only [List.mem_append, List.mem_singleton]
   constructor
   · rintro ((h | ⟨q, h1, h2⟩) | h)
     · exact .inl h
     · exact .inr ⟨q, .inl h1, h2⟩
     · exact .inr ⟨p, .inr rfl, h⟩
   · rintro (h | ⟨q, h1 | h1, h2⟩)
     · exact .inl (.inl h)
     · exact .inl (.inr ⟨q, h1, h2⟩)
     · subst h1; exact .inr h2
 · intro q hq x hx
   rcases List.mem_append.1 hq with hq | hq
   · exact w.out q hq x hx
   · simp at hq; subst hq; exact ⟨(hp.mem x hx).1, hO x hx⟩
 · rw [hp.done]
   rcases Nat.lt_or_ge x v with h1 | h1
   · exact .inl (w.before x h1 hn)
   · have : x = v := by omega
     subst this; exact .inr hp.self
 · intro q hq
   rcases List.mem_append.1 hq with hq | hq
   · exact w.ne q hq
   · simp at hq; subst hq; intro e; rw [e] at hp; exact absurd hp.self (by simp)
 · intro q hq
   rcases List.mem_append.1 hq with hq | hq
   · exact w.inc q hq
   · simp at hq; subst hq; exact hp.inc
 · intro q hq a ha
   rcases List.mem_append.1 hq with hq | hq
   · exact Nat.lt_succ_of_lt (w.low q hq a ha)
   · simp at hq; subst hq; rw [hhead a ha]; omega
 · refine List.pairwise_append.2 ⟨w.heads, by simp, fun q hq r hr a ha b hb => ?_⟩
   simp at hr; subst hr
   rw [hhead b hb]; exact w.low q hq a ha
 · refine List.pairwise_append.2 ⟨w.disj, by simp, fun q hq r hr x hx => ?_⟩
   simp at hr; subst hr
   exact hsep q hq x hx
 · intro q hq a ha b hab hb hob
   rcases List.mem_append.1 hq with hq | hq
   · exact w.edge q hq a ha b hab hb hob
   · simp at hq; subst hq
     rcases (hp.done b).1 (hp.closed a ha b hab) with h | h
     · rcases (w.done b hb).1 h with h | ⟨q, hq, hbq⟩
       · exact absurd h hob
       · exact absurd ha (hsep q hq a (w.edge q hq b hbq a (adj_symm hab) (hp.mem a ha).1 (hO a ha)))
     · exact h
 · intro q hq f hf a ha b hb
   rcases List.mem_append.1 hq with hq | hq
   · exact w.conn q hq f hf a ha b hb
   · simp at hq; subst hq
     have hf' : Flat es (fun x => D.getD x false = true) f := by
      intro x y hxy hx hy
      have hl := hes x y hxy
      exact hf x y hxy (fun ho => hx ((w.done x hl.1).2 (.inl ho))) fun ho => hy ((w.done y hl.2).2 (.inl ho))
     rw [hp.conn f hf' a ha, hp.conn f hf' b hb]
theorem OI.pieces {n : Nat} {es : Es} {O : Nat → Prop} {D : List Bool} {ps : List (List Nat)} (w : OI n es O n D ps) : IsPieces n es O ps where
 mem v := by
  constructor
  · rintro ⟨p, hp, hv⟩; exact w.out p hp v hv
  · rintro ⟨h1, h2⟩
    rcases (w.done v h1).1 (w.before v h1 h1) with h | h
    · exact absurd h h2
    · exact h
 ne := w.ne
 inc := w.inc
 heads := w.heads
 disj := w.disj
 edge := w.edge
 conn := w.conn
end Go.Ga.Gl
set_option maxRecDepth 100000
set_option maxHeartbeats 4000000
namespace Go.Proofs.Ytmcfdfafeheihaa
open Go Go.Ga Go.Ga.Gl
theorem isNaN_ok (a : Int) : ACalls Try.prog [] n_f70 [.sc (.int .i64 a)] [] fun r h' => r = .sc (.bool false) ∧ h' = [] := by
 refine go_f70 rfl ?_
 unfold c_f70 v_f70
 refine wlk_sreg fun KY hKY => ?_
 simp only [go_sem, c_f70_r0]
 apply hKY
 refine wlk_sreg fun KY hKY => ?_
 simp only [go_sem, c_f70_r1, ne_eq, not_true_eq_false]
 apply hKY
 refine wlk_ret ?_
 simp only [go_sem]
def cmpI (a b : Int) : Int := if a < b then -1 else if b < a then 1 else 0
theorem compare_ok (a b : Int) : ACalls Try.prog [] n_f60 [.sc (.int .i64 a), .sc (.int .i64 b)] [] fun r h' => r = .sc (.int .i64 (cmpI a b)) ∧ h' = [] := by
 refine go_f60 rfl ?_
 unfold c_f60 v_f60
 refine wlk_sreg fun KY hKY => ?_
 simp only [go_sem, c_f60_r0]
 apply hKY
 refine wlk_sreg fun KY hKY => ?_
 simp only [go_sem, c_f60_r1]
 refine call_view rfl (by simp only [go_sem] <;> rfl) ((isNaN_ok _).mono ?_)
 rintro rr hh ⟨rfl, rfl⟩
 refine ⟨rfl, rfl, rfl, ?_⟩
 simp only [go_sem]
 apply hKY
 refine wlk_sreg fun KY hKY => ?_
 simp only [go_sem, c_f60_r2]
 refine call_view rfl (by simp only [go_sem] <;> rfl) ((isNaN_ok _).mono ?_)
 rintro rr hh ⟨rfl, rfl⟩
 refine ⟨rfl, rfl, rfl, ?_⟩
 simp only [go_sem]
 apply hKY
 refine wlk_seq fun X1 hn1 he1 hr1 => ?_
 refine wlk_sreg fun KY hKY => ?_
 simp only [go_sem, c_f60_r3]
 apply hKY
 refine wc0 ?_
 refine wlk_skip ?_
 repeat (first | refine hn1 _ ?_ | refine he1 _ _ ?_)
 refine wlk_seq fun X2 hn2 he2 hr2 => ?_
 refine wlk_sreg fun KY hKY => ?_
 simp only [go_sem, c_f60_r7]
 apply hKY
 refine wc0 ?_
 refine wlk_skip ?_
 repeat (first | refine hn2 _ ?_ | refine he2 _ _ ?_ | refine hn1 _ ?_ | refine he1 _ _ ?_)
 unfold cmpI
 refine wlk_seq fun X3 hn3 he3 hr3 => ?_
 refine wlk_sreg fun KY hKY => ?_
 simp only [go_sem, c_f60_r9]
 apply hKY
 by_cases h : a < b
 · refine wlk_cond1 (by first | rfl | (simp only [go_sem, h]; try simp (disch := omega) only [decide_eq_true, decide_eq_false])) ?_
   refine wlk_sreg fun KY hKY => ?_
   simp only [go_sem, c_f60_r10]
   apply hKY
   refine wlk_ret ?_
   repeat (first | refine hr3 _ ?_ | refine hr2 _ ?_ | refine hr1 _ ?_)
   simp only [go_sem, h]
 · refine wlk_cond0 (by first | rfl | (simp only [go_sem, h]; try simp (disch := omega) only [decide_eq_true, decide_eq_false])) ?_
   refine wlk_skip ?_
   repeat (first | refine hn3 _ ?_ | refine he3 _ _ ?_ | refine hn2 _ ?_ | refine he2 _ _ ?_ | refine hn1 _ ?_ | refine he1 _ _ ?_)
   refine wlk_seq fun X4 hn4 he4 hr4 => ?_
   refine wlk_sreg fun KY hKY => ?_
   simp only [go_sem, c_f60_r11]
   apply hKY
   by_cases h2 : b < a
   · refine wlk_cond1 (by first | rfl | (simp only [go_sem, h2]; try simp (disch := omega) only [decide_eq_true, decide_eq_false])) ?_
     refine wlk_sreg fun KY hKY => ?_
     simp only [go_sem, c_f60_r12]
     apply hKY
     refine wlk_ret ?_
     repeat (first | refine hr4 _ ?_ | refine hr3 _ ?_ | refine hr2 _ ?_ | refine hr1 _ ?_)
     simp only [go_sem, h, h2]
   · refine wlk_cond0 (by first | rfl | (simp only [go_sem, h2]; try simp (disch := omega) only [decide_eq_true, decide_eq_false])) ?_
     refine wlk_skip ?_
     repeat (first | refine hn4 _ ?_ | refine he4 _ _ ?_ | refine hn3 _ ?_ | refine he3 _ _ ?_ | refine hn2 _ ?_ | refine he2 _ _ ?_ | refine hn1 _ ?_ | refine he1 _ _ ?_)
     refine wlk_sreg fun KY hKY => ?_
     simp only [go_sem, c_f60_r13]
     apply hKY
     refine wlk_ret ?_
     repeat (first | refine hr4 _ ?_ | refine hr3 _ ?_ | refine hr2 _ ?_ | refine hr1 _ ?_)
     simp only [go_sem, h, h2]
theorem find_first : ∀ {l : List Int} {k : Nat}, k < l.length → l.getD k 0 ≠ 0 → (∀ j, j < k → l.getD j 0 = 0) → l.find? (· ≠ 0) = some (l.getD k 0)
 | [], k, h, _, _ => by simp at h
 | a :: l, 0, _, h, _ => by
   have : a ≠ 0 := by simpa using h
   simp [List.find?, this]
 | a :: l, k + 1, h, h2, hz => by
   have h0 : a = 0 := by simpa using hz 0 (by omega)
   subst h0
   have ih := find_first (l := l) (k := k) (by simpa using h) (by simpa using h2) fun j hj => by simpa using hz (j + 1) (by omega)
   simp only [List.find?, ne_eq, not_true_eq_false, decide_false]
   simpa using ih
theorem find_none : ∀ {l : List Int}, (∀ j, j < l.length → l.getD j 0 = 0) → l.find? (· ≠ 0) = none
 | [], _ => rfl
 | a :: l, hz => by
   have h0 : a = 0 := by simpa using hz 0 (by simp)
   subst h0
   have ih := find_none (l := l) fun j hj => by simpa using hz (j + 1) (by simp; omega)
   simp only [List.find?, ne_eq, not_true_eq_false, decide_false]
   simpa using ih
theorem or_ok (l : List Int) (hl : l.length ≤ 1000) : ACalls Try.prog [] n_f59 [.imm 1 (ints l)] [] fun r h' => r = .sc (.int .i64 ((l.find? (· ≠ 0)).getD 0)) ∧ h' = [] := by
 refine go_f59 rfl ?_
 unfold c_f59 v_f59
 refine wlk_sreg fun KY hKY => ?_
 simp only [go_sem, c_f59_r0]
 apply hKY
 refine wlk_sreg fun KY hKY => ?_
 simp only [go_sem, c_f59_r1]
 apply hKY
 refine wlk_seq fun X1 hn1 he1 hr1 => ?_
 refine wlk_sreg fun KY hKY => ?_
 simp only [go_sem, c_f59_r2]
 apply hKY
 refine wlk_blk fun X2 hn2 he2 hf2 hr2 => ?_
 try simp only [go_sem]
 refine wlk_lp (α := Nat) [5, 9, 14] (fun k => [(8, .sc (.int .i64 (k : Int)))]) (fun k => []) (fun k q => k ≤ l.length ∧ q = l.length - k ∧ ∀ j, j < k → l.getD j 0 = 0) (0) (l.length) rfl (by first | (simp only [go_sem, updAll_cons, updAll_nil]; done) | with_reducible rfl | rfl) (⟨by omega, rfl, fun j h => by omega⟩) ?_
 rintro k q ⟨hk, rfl, hz⟩ X3 hn3 he3 hr3
 simp only [go_sem, updAll_cons, updAll_nil]
 refine wlk_sreg fun KY hKY => ?_
 simp only [go_sem, c_f59_r3]
 apply hKY
 refine wlk_seq fun X4 hn4 he4 hr4 => ?_
 by_cases h : k < l.length
 · refine wc1 ?_
   refine wlk_skip ?_
   repeat (first | refine hn4 _ ?_ | refine he4 _ _ ?_ | refine he3 _ _ ?_ | refine hn2 _ ?_ | refine he2 _ ?_ | refine hf2 _ _ (by decide) ?_ | refine hn1 _ ?_ | refine he1 _ _ ?_)
   refine wlk_seq fun X5 hn5 he5 hr5 => ?_
   refine wlk_blk fun X6 hn6 he6 hf6 hr6 => ?_
   refine wlk_sreg fun KY hKY => ?_
   simp only [go_sem, c_f59_r4]
   repeat (simp (disch := omega) only [if_pos, if_neg, decide_eq_true, decide_eq_false, incS, nats_get, ints_get]; try simp only [go_sem])
   apply hKY
   refine wlk_sreg fun KY hKY => ?_
   simp only [go_sem, c_f59_r5]
   apply hKY
   by_cases h2 : l.getD k 0 = 0
   · refine wlk_cond0 (by first | rfl | (simp only [go_sem, h2, ne_eq, not_true_eq_false]; try simp (disch := omega) only [decide_eq_true, decide_eq_false])) ?_
     refine wlk_skip ?_
     repeat (first | refine hn6 _ ?_ | refine he6 _ ?_ | refine hf6 _ _ (by decide) ?_ | refine hn5 _ ?_ | refine he5 _ _ ?_ | refine hn4 _ ?_ | refine he4 _ _ ?_ | refine he3 _ _ ?_ | refine hn2 _ ?_ | refine he2 _ ?_ | refine hf2 _ _ (by decide) ?_ | refine hn1 _ ?_ | refine he1 _ _ ?_)
     refine wlk_reg fun KY hKY => ?_
     simp only [go_sem, c_f59_r7]
     repeat (simp (disch := omega) only [if_pos, if_neg, decide_eq_true, decide_eq_false, incS, nats_get, ints_get]; try simp only [go_sem])
     apply hKY
     repeat (first | refine hn6 _ ?_ | refine he6 _ ?_ | refine hf6 _ _ (by decide) ?_ | refine hn5 _ ?_ | refine he5 _ _ ?_ | refine hn4 _ ?_ | refine he4 _ _ ?_)
     refine hn3 _ (k + 1) (l.length - (k + 1)) (by omega) (by first | (simp only [go_sem, updAll_cons, updAll_nil]; done) | with_reducible rfl | rfl) ?_
     refine ⟨h, rfl, fun j hj => ?_⟩
     rcases Nat.lt_or_ge j k with h3 | h3
     · exact hz j h3
     · have : j = k := by omega
       subst this; exact h2
   · refine wlk_cond1 (by first | rfl | (simp only [go_sem, h2, ne_eq, not_false_eq_true]; try simp (disch := omega) only [decide_eq_true, decide_eq_false])) ?_
     refine wlk_sreg fun KY hKY => ?_
     simp only [go_sem, c_f59_r6]
     apply hKY
     refine wlk_ret ?_
     repeat (first | refine hr6 _ ?_ | refine hr5 _ ?_ | refine hr4 _ ?_ | refine hr3 _ ?_ | refine hr2 _ ?_ | refine hr1 _ ?_)
     simp only [go_sem]
     rw [find_first h h2 hz]
     rfl
 · refine wc0 ?_
   refine wlk_exit ?_
   repeat (first | refine hn4 _ ?_ | refine he4 _ _ ?_ | refine he3 _ _ ?_ | refine hn2 _ ?_ | refine he2 _ ?_ | refine hf2 _ _ (by decide) ?_ | refine hn1 _ ?_ | refine he1 _ _ ?_)
   refine wlk_sreg fun KY hKY => ?_
   simp only [go_sem, c_f59_r8]
   apply hKY
   refine wlk_ret ?_
   repeat (first | refine hr4 _ ?_ | refine hr3 _ ?_ | refine hr2 _ ?_ | refine hr1 _ ?_)
   simp only [go_sem]
   have : k = l.length := by omega
   subst this
   rw [find_none hz]
   rfl
end Go.Proofs.Ytmcfdfafeheihaa

namespace Go.Ga.Gl
open Go Go.Ga
def shiftE (N : Nat) (hs : Es) : Es := hs.map fun e => (e.1 + N, e.2 + N)
def besideE (N : Nat) (es hs : Es) : Es := es ++ shiftE N hs
theorem GR.beside {N M : Nat} {es hs : Es} (g : GR N es) (h : GR M hs) (h1 : N + M ≤ 4096) (h2 : es.length + hs.length ≤ 65536) : GR (N + M) (besideE N es hs) := by
 refine ⟨h1, by simp [besideE, shiftE]; exact h2, ?_, ?_⟩
 · intro e he
   rcases List.mem_append.1 he with he | he
   · have := g.ok e he; exact ⟨this.1, by omega⟩
   · obtain ⟨x, hx, rfl⟩ := List.mem_map.1 he
     have := h.ok x hx
     exact ⟨by simp; exact this.1, by simp; omega⟩
 · refine List.pairwise_append.2 ⟨g.up, List.pairwise_map.2 (h.up.imp fun {a b} h => ?_), fun a ha b hb => ?_⟩
   · unfold lexlt at *; simp only; omega
   · obtain ⟨x, hx, rfl⟩ := List.mem_map.1 hb
     have := g.ok a ha
     unfold lexlt; simp only; omega
theorem adj_shift {N : Nat} {hs : Es} {a b : Nat} : adj (shiftE N hs) a b ↔ ∃ c d, a = c + N ∧ b = d + N ∧ adj hs c d := by
 unfold adj shiftE
 simp only [List.mem_map, Prod.mk.injEq, Prod.exists]
 constructor
 · rintro (⟨c, d, h, h1, h2⟩ | ⟨c, d, h, h1, h2⟩)
   · exact ⟨c, d, h1.symm, h2.symm, .inl h⟩
   · exact ⟨d, c, h2.symm, h1.symm, .inr h⟩
 · rintro ⟨c, d, h1, h2, h | h⟩
   · exact .inl ⟨c, d, h, h1.symm, h2.symm⟩
   · exact .inr ⟨d, c, h, h2.symm, h1.symm⟩
theorem adj_beside {N : Nat} {es hs : Es} {a b : Nat} : adj (besideE N es hs) a b ↔ adj es a b ∨ adj (shiftE N hs) a b := by
 unfold adj besideE
 simp only [List.mem_append]
 constructor
 · rintro ((h | h) | (h | h))
   · exact .inl (.inl h)
   · exact .inr (.inl h)
   · exact .inl (.inr h)
   · exact .inr (.inr h)
 · rintro ((h | h) | (h | h))
   · exact .inl (.inl h)
   · exact .inr (.inl h)
   · exact .inl (.inr h)
   · exact .inr (.inr h)
theorem head_mem {p : List Nat} {a : Nat} (h : a ∈ p.head?) : a ∈ p := by
 cases p with
 | nil => cases h
 | cons b p => have : b = a := by simpa using h
               subst this; exact List.mem_cons_self ..
theorem IsPieces.beside {N M : Nat} {es hs : Es} (g : GR N es) {O : Nat → Prop} (hO : ∀ v, ¬ O v) {ps qs : List (List Nat)} (P : IsPieces N es O ps) (Q : IsPieces M hs O qs) :
    IsPieces (N + M) (besideE N es hs) O (ps ++ qs.map fun q => q.map (· + N)) := by
  have hq : ∀ r, r ∈ (qs.map fun q => q.map (· + N)) ↔ ∃ q ∈ qs, q.map (· + N) = r := fun r => List.mem_map
  have lo : ∀ p ∈ ps, ∀ v ∈ p, v < N := fun p hp v hv => ((P.mem v).1 ⟨p, hp, hv⟩).1
  refine ⟨fun v => ?_, ?_, ?_, ?_, ?_, ?_, ?_⟩
  · constructor
    · rintro ⟨r, hr, hv⟩
      rcases List.mem_append.1 hr with hr | hr
      · exact ⟨by have := lo r hr v hv; omega, hO v⟩
      · obtain ⟨q, h1, rfl⟩ := (hq r).1 hr
        obtain ⟨w, hw, rfl⟩ := List.mem_map.1 hv
        have := ((Q.mem w).1 ⟨q, h1, hw⟩).1
        exact ⟨by omega, hO _⟩
    · rintro ⟨hv, _⟩
      by_cases h : v < N
      · obtain ⟨p, hp, hvp⟩ := (P.mem v).2 ⟨h, hO v⟩
        exact ⟨p, List.mem_append_left _ hp, hvp⟩
      · obtain ⟨q, h1, h2⟩ := (Q.mem (v - N)).2 ⟨by omega, hO _⟩
        exact ⟨q.map (· + N), List.mem_append_right _ ((hq _).2 ⟨q, h1, rfl⟩), List.mem_map.2 ⟨v - N, h2, by omega⟩⟩
  · intro r hr
    rcases List.mem_append.1 hr with hr | hr
    · exact P.ne r hr
    · obtain ⟨q, h1, rfl⟩ := (hq r).1 hr
      have := Q.ne q h1
      simpa using this
  · intro r hr
    rcases List.mem_append.1 hr with hr | hr
    · exact P.inc r hr
    · obtain ⟨q, h1, rfl⟩ := (hq r).1 hr
      exact List.pairwise_map.2 ((Q.inc q h1).imp fun h => by omega)
  · refine List.pairwise_append.2 ⟨P.heads, List.pairwise_map.2 (Q.heads.imp fun {p q} h a ha b hb => ?_), fun p hp r hr a ha b hb => ?_⟩
    · rw [List.head?_map] at ha hb
      obtain ⟨x, hx, rfl⟩ := Option.map_eq_some_iff.1 ha
      obtain ⟨y, hy, rfl⟩ := Option.map_eq_some_iff.1 hb
      have := h x hx y hy; omega
    · obtain ⟨q, h1, rfl⟩ := (hq r).1 hr
      have h2 := lo p hp a (head_mem ha)
      obtain ⟨y, hy, rfl⟩ := List.mem_map.1 (head_mem hb)
      omega
  · refine List.pairwise_append.2 ⟨P.disj, List.pairwise_map.2 (Q.disj.imp fun {p q} h v hv hv' => ?_), fun p hp r hr v hv hv' => ?_⟩
    · obtain ⟨x, hx, rfl⟩ := List.mem_map.1 hv
      obtain ⟨y, hy, e⟩ := List.mem_map.1 hv'
      have : y = x := by omega
      subst this; exact h y hx hy
    · obtain ⟨q, h1, rfl⟩ := (hq r).1 hr
      have h2 := lo p hp v hv
      obtain ⟨y, hy, rfl⟩ := List.mem_map.1 hv'
      omega
  · intro r hr a ha b hab hb hob
    rcases List.mem_append.1 hr with hr | hr
    · rcases adj_beside.1 hab with h | h
      · exact P.edge r hr a ha b h (g.adj_lt a b h).2 hob
      · obtain ⟨c, d, rfl, rfl, _⟩ := adj_shift.1 h
        have := lo r hr _ ha; omega
    · obtain ⟨q, h1, rfl⟩ := (hq r).1 hr
      obtain ⟨x, hx, rfl⟩ := List.mem_map.1 ha
      rcases adj_beside.1 hab with h | h
      · have := (g.adj_lt _ _ h).1; omega
      · obtain ⟨c, d, e1, rfl, h⟩ := adj_shift.1 h
        have : x = c := by omega
        subst this
        exact List.mem_map.2 ⟨d, Q.edge q h1 x hx d h (by omega) (hO d), rfl⟩
  · intro r hr f hf a ha b hb
    rcases List.mem_append.1 hr with hr | hr
    · exact P.conn r hr f (fun x y h hx hy => hf x y (adj_beside.2 (.inl h)) hx hy) a ha b hb
    · obtain ⟨q, h1, rfl⟩ := (hq r).1 hr
      obtain ⟨x, hx, rfl⟩ := List.mem_map.1 ha
      obtain ⟨y, hy, rfl⟩ := List.mem_map.1 hb
      exact Q.conn q h1 (fun v => f (v + N)) (fun x y h _ _ => hf _ _ (adj_beside.2 (.inr (adj_shift.2 ⟨x, y, rfl, rfl, h⟩))) (hO _) (hO _)) x hx y hy
structure LI (n : Nat) (es : Es) (O : Nat → Prop) (lab : List Int) : Prop where
 len : lab.length = n
 out : ∀ v, v < n → (lab.getD v 0 < 0 ↔ O v)
 low : ∀ v, v < n → ¬ O v → 0 ≤ lab.getD v 0 ∧ lab.getD v 0 ≤ v ∧ ¬ O (lab.getD v 0).toNat
 conn : ∀ f, Flat es O f → ∀ v, v < n → ¬ O v → f v = f (lab.getD v 0).toNat
theorem getD_set (l : List Int) (v w : Nat) (k : Int) (h : v < l.length) : (l.set v k).getD w 0 = if w = v then k else l.getD w 0 := by
 simp only [List.getD_eq_getElem?_getD, List.getElem?_set]
 by_cases e : v = w
 · subst e; simp [h]
 · simp [e, Ne.symm e]
def lab2 (lab : List Int) (a b : Nat) : List Int := (lab.set a (min (lab.getD a 0) (lab.getD b 0))).set b (min (lab.getD a 0) (lab.getD b 0))
theorem lab2_get {lab : List Int} {a b w : Nat} (ha : a < lab.length) (hb : b < lab.length) : (lab2 lab a b).getD w 0 = if w = a ∨ w = b then min (lab.getD a 0) (lab.getD b 0) else lab.getD w 0 := by
 unfold lab2
 rw [getD_set _ _ _ _ (by simpa using hb), getD_set _ _ _ _ ha]
 by_cases h1 : w = b
 · simp [h1]
 · by_cases h2 : w = a
   · simp [h2]
   · simp [h1, h2]
theorem LI.step {n : Nat} {es : Es} {O : Nat → Prop} {lab : List Int} (w : LI n es O lab) {a b : Nat} (hab : adj es a b) (han : a < n) (hbn : b < n) (h1 : ¬ lab.getD a 0 < 0) (h2 : ¬ lab.getD b 0 < 0) : LI n es O (lab2 lab a b) := by
 have oa : ¬ O a := fun h => h1 ((w.out a han).2 h)
 have ob : ¬ O b := fun h => h2 ((w.out b hbn).2 h)
 have la := w.low a han oa
 have lb := w.low b hbn ob
 have hal : a < lab.length := by rw [w.len]; exact han
 have hbl : b < lab.length := by rw [w.len]; exact hbn
 have hk : ∃ c, (c = a ∨ c = b) ∧ min (lab.getD a 0) (lab.getD b 0) = lab.getD c 0 := by
  rcases Int.le_total (lab.getD a 0) (lab.getD b 0) with h | h
  · exact ⟨a, .inl rfl, Int.min_eq_left h⟩
  · exact ⟨b, .inr rfl, Int.min_eq_right h⟩
 refine ⟨by unfold lab2; simp [w.len], fun v hv => ?_, fun v hv ho => ?_, fun f hf v hv ho => ?_⟩
 · rw [lab2_get hal hbl]
   split
   · rename_i h
     rcases h with rfl | rfl
     · constructor
       · intro h; omega
       · intro h; exact absurd h oa
     · constructor
       · intro h; omega
       · intro h; exact absurd h ob
   · exact w.out v hv
 · rw [lab2_get hal hbl]
   split
   · rename_i h
     obtain ⟨c, hc, e⟩ := hk
     refine ⟨by omega, by rcases h with rfl | rfl <;> omega, ?_⟩
     rw [e]
     rcases hc with rfl | rfl
     · exact la.2.2
     · exact lb.2.2
   · exact w.low v hv ho
 · rw [lab2_get hal hbl]
   split
   · rename_i h
     obtain ⟨c, hc, e⟩ := hk
     rw [e]
     have e1 := hf a b hab oa ob
     have ea := w.conn f hf a han oa
     have eb := w.conn f hf b hbn ob
     rcases h with rfl | rfl <;> rcases hc with rfl | rfl
     · exact ea
     · rw [e1, eb]
     · rw [← e1, ea]
     · exact eb
   · exact w.conn f hf v hv ho
theorem LI.start {n : Nat} {es : Es} {O : Nat → Prop} {lab : List Int} (hl : lab.length = n) (h : ∀ v, v < n → (O v → lab.getD v 0 = -1) ∧ (¬ O v → lab.getD v 0 = (v : Int))) : LI n es O lab := by
 refine ⟨hl, fun v hv => ?_, fun v hv ho => ?_, fun f _ v hv ho => ?_⟩
 · constructor
   · intro h1
     by_cases ho : O v
     · exact ho
     · have := (h v hv).2 ho; omega
   · intro ho; have := (h v hv).1 ho; omega
 · rw [(h v hv).2 ho]; exact ⟨by omega, by omega, by simpa using ho⟩
 · rw [(h v hv).2 ho]; simp
def byLabel (n : Nat) (lab : List Int) (m : Nat) : List (List Nat) := ((List.range m).filter fun v : Nat => decide (lab.getD v 0 = (v : Int))).map fun v : Nat => (List.range n).filter fun w => decide (lab.getD w 0 = (v : Int))
theorem mem_byLabel {n : Nat} {lab : List Int} {m : Nat} {p : List Nat} : p ∈ byLabel n lab m ↔ ∃ v : Nat, v < m ∧ lab.getD v 0 = (v : Int) ∧ (List.range n).filter (fun w => decide (lab.getD w 0 = (v : Int))) = p := by
 simp only [byLabel, List.mem_map, List.mem_filter, List.mem_range, decide_eq_true_eq, and_assoc]
theorem LI.pieces {n : Nat} {es : Es} {O : Nat → Prop} {lab : List Int} (hes : ∀ a b, adj es a b → a < n ∧ b < n) (W : LI n es O lab) (hfix : ∀ e ∈ es, lab.getD e.1 0 < 0 ∨ lab.getD e.2 0 < 0 ∨ lab.getD e.1 0 = lab.getD e.2 0) : IsPieces n es O (byLabel n lab n) := by
 have hflat : ∀ a b, adj es a b → ¬ O a → ¬ O b → lab.getD a 0 = lab.getD b 0 := by
  intro a b hab ha hb
  have hl := hes a b hab
  have h1 := W.low a hl.1 ha
  have h2 := W.low b hl.2 hb
  rcases hab with h | h
  · rcases hfix _ h with h | h | h
    · exact absurd h (by simp only; omega)
    · exact absurd h (by simp only; omega)
    · exact h
  · rcases hfix _ h with h | h | h
    · exact absurd h (by simp only; omega)
    · exact absurd h (by simp only; omega)
    · exact h.symm
 have hfl : Flat es O (fun v => (lab.getD v 0).toNat) := fun a b hab ha hb => by
  show (lab.getD a 0).toNat = (lab.getD b 0).toNat
  rw [hflat a b hab ha hb]
 have hid : ∀ v, v < n → ¬ O v → lab.getD (lab.getD v 0).toNat 0 = lab.getD v 0 := by
  intro v hv ho
  have h1 := W.low v hv ho
  have h2 := W.conn _ hfl v hv ho
  have h3 := W.low (lab.getD v 0).toNat (by omega) h1.2.2
  have h2 : (lab.getD v 0).toNat = (lab.getD (lab.getD v 0).toNat 0).toNat := h2
  omega
 have hm : ∀ (v w : Nat), w ∈ (List.range n).filter (fun w => decide (lab.getD w 0 = (v : Int))) ↔ w < n ∧ lab.getD w 0 = (v : Int) := fun v w => by
  simp only [List.mem_filter, List.mem_range, decide_eq_true_eq]
 have hno : ∀ (v w : Nat), w < n → lab.getD w 0 = (v : Int) → ¬ O w := fun v w hw h ho => by
  have := (W.out w hw).2 ho; omega
 have hle : ∀ (v w : Nat), w < n → lab.getD w 0 = (v : Int) → v ≤ w := fun v w hw h => by
  have := (W.low w hw (hno v w hw h)).2.1; omega
 have hfirst : ∀ v : Nat, v < n → lab.getD v 0 = (v : Int) → ∀ a ∈ ((List.range n).filter fun w => decide (lab.getD w 0 = (v : Int))).head?, a = v := by
  intro v hv h a ha
  have h1 := (hm v a).1 (head_mem ha)
  have h2 := hle v a h1.1 h1.2
  have h3 : a ≤ v := by
   have hpw : ((List.range n).filter fun w => decide (lab.getD w 0 = (v : Int))).Pairwise (· < ·) := List.pairwise_lt_range.filter _
   have hvm := (hm v v).2 ⟨hv, h⟩
   generalize (List.range n).filter (fun w => decide (lab.getD w 0 = (v : Int))) = r at ha hpw hvm
   cases r with
   | nil => cases ha
   | cons b r =>
     have : b = a := by simpa using ha
     subst this
     rcases List.mem_cons.1 hvm with e | e
     · omega
     · have := (List.pairwise_cons.1 hpw).1 v e; omega
  omega
 refine ⟨fun v => ?_, ?_, ?_, ?_, ?_, ?_, ?_⟩
 · constructor
   · rintro ⟨p, hp, hv⟩
     obtain ⟨k, _, _, rfl⟩ := mem_byLabel.1 hp
     have := (hm k v).1 hv
     exact ⟨this.1, hno k v this.1 this.2⟩
   · rintro ⟨hv, ho⟩
     have h1 := W.low v hv ho
     have h2 := hid v hv ho
     refine ⟨_, mem_byLabel.2 ⟨(lab.getD v 0).toNat, by omega, by rw [h2]; omega, rfl⟩, (hm _ v).2 ⟨hv, by omega⟩⟩
 · intro p hp
   obtain ⟨k, hk, h, rfl⟩ := mem_byLabel.1 hp
   exact List.ne_nil_of_mem ((hm k k).2 ⟨hk, h⟩)
 · intro p hp
   obtain ⟨k, _, _, rfl⟩ := mem_byLabel.1 hp
   exact List.pairwise_lt_range.filter _
 · unfold byLabel
   refine List.pairwise_map.2 ((List.pairwise_lt_range.filter _).imp_of_mem fun {u v} hu hv h a ha b hb => ?_)
   simp only [List.mem_filter, List.mem_range, decide_eq_true_eq] at hu hv
   rw [hfirst u hu.1 hu.2 a ha, hfirst v hv.1 hv.2 b hb]; exact h
 · unfold byLabel
   refine List.pairwise_map.2 ((List.pairwise_lt_range.filter _).imp fun {u v} h w hw hw' => ?_)
   have h1 := ((hm u w).1 hw).2
   have h2 := ((hm v w).1 hw').2
   omega
 · intro p hp a ha b hab hb hob
   obtain ⟨k, _, _, rfl⟩ := mem_byLabel.1 hp
   have h1 := (hm k a).1 ha
   exact (hm k b).2 ⟨hb, by rw [← hflat a b hab (hno k a h1.1 h1.2) hob]; exact h1.2⟩
 · intro p hp f hf a ha b hb
   obtain ⟨k, _, _, rfl⟩ := mem_byLabel.1 hp
   have h1 := (hm k a).1 ha
   have h2 := (hm k b).1 hb
   rw [W.conn f hf a h1.1 (hno k a h1.1 h1.2), W.conn f hf b h2.1 (hno k b h2.1 h2.2), h1.2, h2.2]
def ow (m : List Int) (x y : Nat) : Bool := decide (m.getD x 0 = (y : Int))
def marks (n : Nat) (l : Es) : List Bool := l.foldl (fun m e => (m.set e.1 true).set e.2 true) (List.replicate n false)
theorem getD_setB (l : List Bool) (v w : Nat) (h : v < l.length) : (l.set v true).getD w false = (decide (v = w) || l.getD w false) := by
 simp only [List.getD_eq_getElem?_getD, List.getElem?_set]
 by_cases e : v = w
 · subst e; simp [h]
 · simp [e]
structure Mt (N : Nat) (es : Es) (m : List Int) : Prop where
 len : m.length = N
 at_ : ∀ v, v < N → m.getD v 0 = -1 ∨ ∃ w : Nat, m.getD v 0 = (w : Int) ∧ w < N ∧ w ≠ v ∧ adj es v w ∧ m.getD w 0 = (v : Int)
theorem Mt.back {N : Nat} {es : Es} {m : List Int} (M : Mt N es m) {v w : Nat} (hv : v < N) (h : m.getD v 0 = (w : Int)) : w < N ∧ w ≠ v ∧ adj es v w ∧ m.getD w 0 = (v : Int) := by
 rcases M.at_ v hv with h1 | ⟨u, h1, h2⟩
 · omega
 · obtain rfl : u = w := by omega
   exact h2
theorem Mt.own {N : Nat} {es : Es} {m : List Int} (M : Mt N es m) {v w : Nat} (hv : v < N) (hw : w < N) : ow m v w = ow m w v := by
 unfold ow
 by_cases h : m.getD v 0 = (w : Int)
 · rw [decide_eq_true h, decide_eq_true (M.back hv h).2.2.2]
 · rw [decide_eq_false h, decide_eq_false]
   intro h2; exact h (M.back hw h2).2.2.2
structure FS where
 lab : Nat → Nat
 out : Nat → Bool
 pr : Nat → Nat
 rt : Nat → Int
 b0 : Nat → Nat
 b1 : Nat → Nat
 bs : Nat → Nat
abbrev Prs := List (Nat × Nat)
def revP (ps : Prs) : Prs := (ps.map Prod.swap).reverse
def flatP (ps : Prs) : List Nat := ps.flatMap fun p => [p.1, p.2]
def verts (ps : Prs) (to : Nat) : List Nat := flatP ps ++ [to]
theorem revP_cons (p : Nat × Nat) (ps : Prs) : revP (p :: ps) = revP ps ++ [p.swap] := by simp [revP]
theorem flatP_cons (p : Nat × Nat) (ps : Prs) : flatP (p :: ps) = p.1 :: p.2 :: flatP ps := rfl
theorem flatP_app (ps qs : Prs) : flatP (ps ++ qs) = flatP ps ++ flatP qs := by simp [flatP]
theorem flatP_rev (ps : Prs) : flatP (revP ps) = (flatP ps).reverse := by
 induction ps with
 | nil => rfl
 | cons p ps ih => rw [revP_cons, flatP_app, ih, flatP_cons]; simp [flatP]
inductive Way (mt : Nat → Int) (S : FS) : Nat → Nat → Prs → Prop
 | here (v : Nat) : Way mt S v v []
 | even {v to m : Nat} {ps : Prs} : v ≠ to → S.lab v = 1 → mt v = (m : Int) → S.lab m = 2 → Way mt S (S.pr m) to ps → Way mt S v to ((v, m) :: ps)
 | odd {v to m : Nat} {ps qs : Prs} : v ≠ to → S.out v = true → S.lab v = 2 → mt v = (m : Int) → Way mt S (S.b0 v) m ps → Way mt S (S.b1 v) to qs → Way mt S v to ((v, m) :: (revP ps ++ qs))
structure Goes (S T : FS) : Prop where
 lab : ∀ x, S.lab x ≠ 0 → T.lab x = S.lab x
 pr : ∀ x, S.lab x = 2 → T.pr x = S.pr x
 out : ∀ x, S.out x = true → T.out x = true
 b0 : ∀ x, S.out x = true → T.b0 x = S.b0 x
 b1 : ∀ x, S.out x = true → T.b1 x = S.b1 x
theorem Way.goes {mt : Nat → Int} {S T : FS} (h : Goes S T) {v to : Nat} {ps : Prs} (w : Way mt S v to ps) : Way mt T v to ps := by
 induction w with
 | here v => exact .here v
 | even h1 h2 h3 h4 _ ih => exact .even h1 (by rw [h.lab _ (by omega)]; exact h2) h3 (by rw [h.lab _ (by omega)]; exact h4) (by rw [h.pr _ h4]; exact ih)
 | odd h1 h2 h3 h4 _ _ ih1 ih2 => exact .odd h1 (h.out _ h2) (by rw [h.lab _ (by omega)]; exact h3) h4 (by rw [h.b0 _ h2]; exact ih1) (by rw [h.b1 _ h2]; exact ih2)
theorem Way.app {mt : Nat → Int} {S : FS} {v x to : Nat} {ps qs : Prs} (w : Way mt S v x ps) (u : Way mt S x to qs) (hn : to ∉ flatP ps) : Way mt S v to (ps ++ qs) := by
 induction w with
 | here v => exact u
 | even h1 h2 h3 h4 _ ih =>
   simp only [flatP_cons, List.mem_cons, not_or] at hn
   exact .even (Ne.symm hn.1) h2 h3 h4 (ih u hn.2.2)
 | odd h1 h2 h3 h4 w1 w2 ih1 ih2 =>
   simp only [flatP_cons, flatP_app, List.mem_cons, List.mem_append, not_or] at hn
   rw [List.cons_append, List.append_assoc]
   exact .odd (Ne.symm hn.1) h2 h3 h4 w1 (ih2 u hn.2.2.2)
theorem Way.first {mt : Nat → Int} {S : FS} {v to : Nat} {ps : Prs} (w : Way mt S v to ps) : v ∈ verts ps to := by
 cases w <;> simp [verts, flatP]
inductive Good (mt : Nat → Int) (E : Nat → Nat → Prop) : Nat → Prs → Nat → Prop
 | nil (v : Nat) : Good mt E v [] v
 | cons {a c w to : Nat} {ps : Prs} : mt a = (c : Int) → E c w → Good mt E w ps to → Good mt E a ((a, c) :: ps) to
theorem Good.app {mt : Nat → Int} {E : Nat → Nat → Prop} {v x to : Nat} {ps qs : Prs} (h : Good mt E v ps x) (k : Good mt E x qs to) : Good mt E v (ps ++ qs) to := by
 induction h with
 | nil v => exact k
 | cons h1 h2 _ ih => exact .cons h1 h2 (ih k)
theorem Good.rev {mt : Nat → Int} {E : Nat → Nat → Prop} (hm : ∀ a c : Nat, mt a = (c : Int) → mt c = (a : Int)) (hE : ∀ a c, E a c → E c a) {s m : Nat} {ps : Prs} (h : Good mt E s ps m) : ∀ {v w to : Nat} {qs : Prs}, mt v = (m : Int) → E s w → Good mt E w qs to → Good mt E v ((v, m) :: (revP ps ++ qs)) to := by
 induction h with
 | nil m => intro v w to qs h1 h2 h3; exact .cons h1 h2 h3
 | cons k1 k2 _ ih =>
   intro v w to qs h1 h2 h3
   rw [revP_cons, List.append_assoc]
   exact ih h1 (hE _ _ k2) (.cons (hm _ _ k1) h2 h3)
inductive Chain (mt : Nat → Int) (S : FS) : Nat → Nat → List Nat → Prop
 | here (b : Nat) : Chain mt S b b []
 | up {x m to : Nat} {xs : List Nat} : x ≠ to → mt x = (m : Int) → Chain mt S (S.bs (S.pr m)) to xs → Chain mt S x to (x :: xs)
structure Inv (N : Nat) (E : Nat → Nat → Prop) (mt : Nat → Int) (S : FS) : Prop where
 o1 : ∀ v, S.out v = true → v < N ∧ S.lab v ≠ 0
 e1 : ∀ v, S.lab v = 1 → S.out v = true
 l2 : ∀ v, S.lab v ≤ 2
 fr : ∀ v, v < N → mt v = -1 → S.lab v = 1 ∧ S.rt v = (v : Int)
 od : ∀ v, S.lab v = 2 → v < N ∧ ∃ x : Nat, mt v = (x : Int) ∧ S.lab x = 1 ∧ S.rt x = S.rt v ∧ S.out (S.pr v) = true ∧ E v (S.pr v) ∧ S.rt (S.pr v) = S.rt v
 ev : ∀ v, S.lab v = 1 → (mt v = -1 ∧ S.rt v = (v : Int)) ∨ ∃ m : Nat, mt v = (m : Int) ∧ S.lab m = 2
 bo : ∀ v, S.out v = true → S.out (S.bs v) = true ∧ S.lab (S.bs v) = 1 ∧ S.bs (S.bs v) = S.bs v ∧ S.rt (S.bs v) = S.rt v
 bn : ∀ v, S.out v = false → S.bs v = v
 bm : ∀ b m : Nat, S.out b = true → S.bs b = b → mt b = (m : Int) → S.out m = false
 bx : ∀ m x : Nat, S.lab m = 2 → S.out m = false → mt m = (x : Int) → S.bs x = x
 dp : ∃ d : Nat → Nat, ∀ b m : Nat, S.out b = true → S.bs b = b → mt b = (m : Int) → d (S.bs (S.pr m)) < d b
 wy : ∀ v, S.out v = true → ∃ ps, Way mt S v (S.bs v) ps ∧ Good mt E v ps (S.bs v) ∧ (verts ps (S.bs v)).Nodup ∧ ∀ x ∈ verts ps (S.bs v), S.out x = true ∧ S.bs x = S.bs v
structure Mf (N : Nat) (E : Nat → Nat → Prop) (mt : Nat → Int) : Prop where
 at_ : ∀ v, v < N → mt v = -1 ∨ ∃ w : Nat, mt v = (w : Int) ∧ w < N
 big : ∀ v, ¬ v < N → ∀ w : Nat, mt v ≠ (w : Int)
 sy : ∀ v w : Nat, mt v = (w : Int) → mt w = (v : Int)
 ne : ∀ v w : Nat, mt v = (w : Int) → w ≠ v ∧ E v w
 es : ∀ v w : Nat, E v w → E w v
 el : ∀ v w : Nat, E v w → v < N ∧ w < N ∧ v ≠ w
def On (mt : Nat → Int) (S : FS) (xs : List Nat) (to : Nat) (y : Nat) : Prop := (S.out y = true ∧ (S.bs y ∈ xs ∨ S.bs y = to)) ∨ (S.out y = false ∧ ∃ x ∈ xs, mt x = (y : Int))
theorem chain_way {N : Nat} {E : Nat → Nat → Prop} {mt : Nat → Int} {S : FS} (M : Mf N E mt) (I : Inv N E mt S) {d : Nat → Nat} (hd : ∀ b m : Nat, S.out b = true → S.bs b = b → mt b = (m : Int) → d (S.bs (S.pr m)) < d b) {c to : Nat} {xs : List Nat} (h : Chain mt S c to xs) :
    (S.bs to = to) → ∀ v, S.out v = true → S.bs v = c → (∀ x ∈ xs, d to < d x ∧ d x ≤ d c ∧ S.out x = true ∧ S.bs x = x) ∧ ∃ ps, Way mt S v to ps ∧ Good mt E v ps to ∧ (verts ps to).Nodup ∧ ∀ y ∈ verts ps to, On mt S xs to y := by
  induction h with
  | here b =>
    intro hb v hv hc
    obtain ⟨ps, h1, h2, h3, h4⟩ := I.wy v hv
    rw [hc] at h1 h2 h3 h4
    exact ⟨by simp, ps, h1, h2, h3, fun y hy => .inl ⟨(h4 y hy).1, .inr (h4 y hy).2⟩⟩
  | @up x m to xs hne hm hch ih =>
    intro hb v hv hc
    obtain ⟨b1, b2, b3, b4⟩ := I.bo v hv
    rw [hc] at b1 b2 b3 b4
    have hmo := I.bm x m b1 b3 hm
    have hl : S.lab m = 2 := by
      rcases I.ev x b2 with h | ⟨m', h1, h2⟩
      · omega
      · obtain rfl : m' = m := by omega
        exact h2
    obtain ⟨_, x', k1, k2, k3, k4, k5, k6⟩ := I.od m hl
    obtain ⟨i1, qs, q1, q2, q3, q4⟩ := ih hb (S.pr m) k4 rfl
    have hdx := hd x m b1 b3 hm
    have hdto : d to ≤ d (S.bs (S.pr m)) := by
      cases hch with
      | here => exact Nat.le_refl _
      | up => exact Nat.le_of_lt (i1 _ (by simp)).1
    have i2 : ∀ y ∈ xs, d y < d x := fun y hy => by have := (i1 y hy).2.1; omega
    obtain ⟨ps, p1, p2, p3, p4⟩ := I.wy v hv
    rw [hc] at p1 p2 p3 p4
    have hmx := M.sy x m hm
    have hxin : x ∉ verts qs to := fun h => by
      rcases q4 x h with ⟨_, h | h⟩ | ⟨h, _⟩
      · rw [b3] at h; have := i2 x h; omega
      · rw [b3] at h; omega
      · rw [b1] at h; cases h
    have hmin : m ∉ verts qs to := fun h => by
      rcases q4 m h with ⟨h, _⟩ | ⟨_, y, hy, h⟩
      · rw [hmo] at h; cases h
      · have := M.sy y m h
        obtain rfl : y = x := by omega
        have := i2 y hy; omega
    have hpq : ∀ y ∈ verts ps x, y ∉ verts qs to := fun y hy h => by
      obtain ⟨y1, y2⟩ := p4 y hy
      rcases q4 y h with ⟨_, h | h⟩ | ⟨h, _⟩
      · rw [y2] at h; have := i2 x h; omega
      · rw [y2] at h; omega
      · rw [y1] at h; cases h
    have hmp : m ∉ verts ps x := fun h => by have := (p4 m h).1; rw [hmo] at this; cases this
    have hto : to ∉ flatP ps := fun h => by
      have := (p4 to (List.mem_append.2 (.inl h))).2
      exact hne (by omega)
    refine ⟨fun y hy => ?_, ps ++ ((x, m) :: qs), p1.app (.even hne b2 hm hl q1) hto, p2.app (.cons hm k5 q2), ?_, ?_⟩
    · rcases List.mem_cons.1 hy with rfl | hy
      · exact ⟨by omega, Nat.le_refl _, b1, b3⟩
      · have := i1 y hy
        exact ⟨this.1, by omega, this.2.2⟩
    · have e : verts (ps ++ ((x, m) :: qs)) to = verts ps x ++ (m :: verts qs to) := by simp [verts, flatP_app, flatP_cons]
      rw [e]
      refine List.nodup_append.2 ⟨p3, List.nodup_cons.2 ⟨hmin, q3⟩, ?_⟩
      intro y hy z hz e
      subst e
      rcases List.mem_cons.1 hz with rfl | hz
      · exact hmp hy
      · exact hpq y hy hz
    · have e : verts (ps ++ ((x, m) :: qs)) to = verts ps x ++ (m :: verts qs to) := by simp [verts, flatP_app, flatP_cons]
      rw [e]
      intro y hy
      rcases List.mem_append.1 hy with hy | hy
      · exact .inl ⟨(p4 y hy).1, .inl (by rw [(p4 y hy).2]; simp)⟩
      · rcases List.mem_cons.1 hy with rfl | hy
        · exact .inr ⟨hmo, x, by simp, hm⟩
        · rcases q4 y hy with ⟨h1, h2 | h2⟩ | ⟨h1, y', h2, h3⟩
          · exact .inl ⟨h1, .inl (List.mem_cons_of_mem _ h2)⟩
          · exact .inl ⟨h1, .inr h2⟩
          · exact .inr ⟨h1, y', List.mem_cons_of_mem _ h2, h3⟩
theorem Inv.base {N : Nat} {E : Nat → Nat → Prop} {mt : Nat → Int} {S : FS} (M : Mf N E mt) (I : Inv N E mt S) {b : Nat} (ho : S.out b = true) (hb : S.bs b = b) : (mt b = -1 ∧ S.rt b = (b : Int)) ∨ ∃ m : Nat, mt b = (m : Int) ∧ S.lab m = 2 ∧ S.out m = false ∧ S.out (S.pr m) = true ∧ E m (S.pr m) ∧ S.rt (S.pr m) = S.rt b ∧ S.rt m = S.rt b := by
 have h1 := (I.bo b ho).2.1
 rw [hb] at h1
 rcases I.ev b h1 with h | ⟨m, h2, h3⟩
 · exact .inl h
 · obtain ⟨_, x, k1, k2, k3, k4, k5, k6⟩ := I.od m h3
   have := M.sy b m h2
   obtain rfl : x = b := by omega
   exact .inr ⟨m, h2, h3, I.bm x m ho hb h2, k4, k5, k6.trans k3.symm, k3.symm⟩
theorem chain_facts {N : Nat} {E : Nat → Nat → Prop} {mt : Nat → Int} {S : FS} (M : Mf N E mt) (I : Inv N E mt S) {d : Nat → Nat} (hd : ∀ b m : Nat, S.out b = true → S.bs b = b → mt b = (m : Int) → d (S.bs (S.pr m)) < d b) {c to : Nat} {xs : List Nat} (h : Chain mt S c to xs) :
    S.out c = true → S.bs c = c → (S.out to = true ∧ S.bs to = to ∧ S.rt to = S.rt c) ∧ ∀ x ∈ xs, d to < d x ∧ d x ≤ d c ∧ S.out x = true ∧ S.bs x = x ∧ S.rt x = S.rt c := by
  induction h with
  | here b => intro h1 h2; exact ⟨⟨h1, h2, rfl⟩, by simp⟩
  | @up x m to xs hne hm hch ih =>
    intro h1 h2
    rcases I.base M h1 h2 with ⟨h3, _⟩ | ⟨m', h3, h4, h5, h6, h7, h8, h9⟩
    · omega
    · obtain rfl : m' = m := by omega
      obtain ⟨k1, k2, k3, k4⟩ := I.bo _ h6
      obtain ⟨⟨j1, j2, j3⟩, j4⟩ := ih k1 k3
      have hdx := hd x m' h1 h2 hm
      have hrt : S.rt (S.bs (S.pr m')) = S.rt x := k4.trans h8
      have hdto : d to ≤ d (S.bs (S.pr m')) := by
        cases hch with
        | here => exact Nat.le_refl _
        | up => exact Nat.le_of_lt (j4 _ (by simp)).1
      refine ⟨⟨j1, j2, j3.trans hrt⟩, fun y hy => ?_⟩
      rcases List.mem_cons.1 hy with rfl | hy
      · exact ⟨by omega, Nat.le_refl _, h1, h2, rfl⟩
      · obtain ⟨i1, i2, i3, i4, i5⟩ := j4 y hy
        exact ⟨i1, by omega, i3, i4, i5.trans hrt⟩
theorem chain_split {N : Nat} {E : Nat → Nat → Prop} {mt : Nat → Int} {S : FS} (M : Mf N E mt) (I : Inv N E mt S) {d : Nat → Nat} (hd : ∀ b m : Nat, S.out b = true → S.bs b = b → mt b = (m : Int) → d (S.bs (S.pr m)) < d b) {c to : Nat} {xs : List Nat} (h : Chain mt S c to xs) :
    S.out c = true → S.bs c = c → ∀ x ∈ xs, ∃ x1 x2, xs = x1 ++ x :: x2 ∧ Chain mt S c x x1 ∧ Chain mt S x to (x :: x2) := by
  induction h with
  | here b => intro _ _ x hx; simp at hx
  | @up x0 m to xs hne hm hch ih =>
    intro h1 h2 x hx
    by_cases e : x = x0
    · subst e
      exact ⟨[], xs, rfl, .here x, .up hne hm hch⟩
    · have hx := (List.mem_cons.1 hx).resolve_left e
      rcases I.base M h1 h2 with ⟨h3, _⟩ | ⟨m', h3, h4, h5, h6, h7, h8, h9⟩
      · omega
      · obtain rfl : m' = m := by omega
        obtain ⟨k1, k2, k3, k4⟩ := I.bo _ h6
        obtain ⟨x1, x2, rfl, j1, j2⟩ := ih k1 k3 x hx
        exact ⟨x0 :: x1, x2, rfl, .up (Ne.symm e) hm j1, j2⟩
def isM (mt : Nat → Int) (xs : List Nat) (u : Nat) : Bool := xs.any fun x => decide (mt x = (u : Int))
theorem isM_iff {mt : Nat → Int} {xs : List Nat} {u : Nat} : isM mt xs u = true ↔ ∃ x ∈ xs, mt x = (u : Int) := by
 unfold isM; simp only [List.any_eq_true, decide_eq_true_eq]
def shr (mt : Nat → Int) (S : FS) (v w b : Nat) (xs : List Nat) : FS :=
 { S with
  out := fun u => S.out u || isM mt xs u
  b0 := fun u => if isM mt xs u = true then v else S.b0 u
  b1 := fun u => if isM mt xs u = true then w else S.b1 u
  bs := fun u => if (decide (S.bs u ∈ xs) || isM mt xs u) = true then b else S.bs u }
def inJ (mt : Nat → Int) (S : FS) (xs ys : List Nat) (u : Nat) : Prop := S.bs u ∈ xs ∨ S.bs u ∈ ys ∨ (∃ x ∈ xs, mt x = (u : Int)) ∨ ∃ x ∈ ys, mt x = (u : Int)
theorem shrink_inv {N : Nat} {E : Nat → Nat → Prop} {mt : Nat → Int} {S : FS} (M : Mf N E mt) (I : Inv N E mt S) {v w b : Nat} {xs ys : List Nat} (hv : S.out v = true) (hw : S.out w = true) (hvw : E v w) (hb : S.bs b = b) (hX : Chain mt S (S.bs v) b xs) (hY : Chain mt S (S.bs w) b ys) (hdj : ∀ x ∈ xs, x ∉ ys) :
    let T := shr mt (shr mt S v w b xs) w v b ys
    Inv N E mt T ∧ Goes S T ∧ (∀ u, T.out u = true ↔ S.out u = true ∨ (∃ x ∈ xs, mt x = (u : Int)) ∨ ∃ x ∈ ys, mt x = (u : Int)) ∧ (∀ u, (inJ mt S xs ys u → T.bs u = b) ∧ (¬ inJ mt S xs ys u → T.bs u = S.bs u)) ∧ T.bs v = b ∧ T.bs w = b := by
  intro T
  obtain ⟨d, hd⟩ := I.dp
  obtain ⟨v1, v2, v3, v4⟩ := I.bo v hv
  obtain ⟨w1, w2, w3, w4⟩ := I.bo w hw
  obtain ⟨⟨bo, _, brv⟩, fX⟩ := chain_facts M I hd hX v1 v3
  obtain ⟨⟨_, _, brw⟩, fY⟩ := chain_facts M I hd hY w1 w3
  have hbX : b ∉ xs := fun h => by have := (fX b h).1; omega
  have hbY : b ∉ ys := fun h => by have := (fY b h).1; omega
  have mate : ∀ (zs : List Nat), (∀ x ∈ zs, S.out x = true ∧ S.bs x = x) → ∀ u x : Nat, x ∈ zs → mt x = (u : Int) → S.out u = false ∧ S.lab u = 2 ∧ S.rt u = S.rt x ∧ S.bs u = u := by
    intro zs hz u x hx hm
    rcases I.base M (hz x hx).1 (hz x hx).2 with ⟨h3, _⟩ | ⟨m', h3, h4, h5, h6, h7, h8, h9⟩
    · omega
    · obtain rfl : m' = u := by omega
      exact ⟨h5, h4, h9, I.bn _ h5⟩
  have mX := mate xs fun x hx => ⟨(fX x hx).2.2.1, (fX x hx).2.2.2.1⟩
  have mY := mate ys fun x hx => ⟨(fY x hx).2.2.1, (fY x hx).2.2.2.1⟩
  have xo : ∀ u, S.bs u ∈ xs → S.out u = true := fun u h => by
    cases ho : S.out u with
    | true => rfl
    | false => rw [I.bn u ho] at h; rw [(fX u h).2.2.1] at ho; cases ho
  have yo : ∀ u, S.bs u ∈ ys → S.out u = true := fun u h => by
    cases ho : S.out u with
    | true => rfl
    | false => rw [I.bn u ho] at h; rw [(fY u h).2.2.1] at ho; cases ho
  have nmX : ∀ u, S.out u = true → isM mt xs u = false := fun u hu => by
    rw [Bool.eq_false_iff]; intro h
    obtain ⟨x, hx, hm⟩ := isM_iff.1 h
    have := (mX u x hx hm).1
    rw [hu] at this; cases this
  have nmY : ∀ u, S.out u = true → isM mt ys u = false := fun u hu => by
    rw [Bool.eq_false_iff]; intro h
    obtain ⟨x, hx, hm⟩ := isM_iff.1 h
    have := (mY u x hx hm).1
    rw [hu] at this; cases this
  have Tout : ∀ u, T.out u = true ↔ S.out u = true ∨ (∃ x ∈ xs, mt x = (u : Int)) ∨ ∃ x ∈ ys, mt x = (u : Int) := fun u => by
    show ((S.out u || isM mt xs u) || isM mt ys u) = true ↔ _
    rw [Bool.or_eq_true, Bool.or_eq_true, isM_iff, isM_iff, or_assoc]
  have Tbs1 : ∀ u, inJ mt S xs ys u → T.bs u = b := fun u h => by
    show (if (decide ((if (decide (S.bs u ∈ xs) || isM mt xs u) = true then b else S.bs u) ∈ ys) || isM mt ys u) = true then b else if (decide (S.bs u ∈ xs) || isM mt xs u) = true then b else S.bs u) = b
    by_cases h2 : (decide (S.bs u ∈ xs) || isM mt xs u) = true
    · rw [if_pos h2]; split <;> rfl
    · rw [if_neg h2]
      rw [Bool.or_eq_true, decide_eq_true_iff, not_or] at h2
      rw [if_pos]
      rw [Bool.or_eq_true, decide_eq_true_iff, isM_iff]
      rcases h with h | h | h | h
      · exact absurd h h2.1
      · exact .inl h
      · exact absurd (isM_iff.2 h) h2.2
      · exact .inr h
  have Tbs2 : ∀ u, ¬ inJ mt S xs ys u → T.bs u = S.bs u := fun u h => by
    have h2 : ¬ (decide (S.bs u ∈ xs) || isM mt xs u) = true := by
      rw [Bool.or_eq_true, decide_eq_true_iff, isM_iff]
      rintro (h1 | h1)
      · exact h (.inl h1)
      · exact h (.inr (.inr (.inl h1)))
    show (if (decide ((if (decide (S.bs u ∈ xs) || isM mt xs u) = true then b else S.bs u) ∈ ys) || isM mt ys u) = true then b else if (decide (S.bs u ∈ xs) || isM mt xs u) = true then b else S.bs u) = S.bs u
    rw [if_neg h2, if_neg]
    rw [Bool.or_eq_true, decide_eq_true_iff, isM_iff]
    rintro (h1 | h1)
    · exact h (.inr (.inl h1))
    · exact h (.inr (.inr (.inr h1)))
  have nJ : ∀ u, S.out u = true → S.bs u ∉ xs → S.bs u ∉ ys → ¬ inJ mt S xs ys u := fun u hu h1 h2 h => by
    rcases h with h | h | h | h
    · exact h1 h
    · exact h2 h
    · have := nmX u hu; rw [isM_iff.2 h] at this; cases this
    · have := nmY u hu; rw [isM_iff.2 h] at this; cases this
  have bJ : ¬ inJ mt S xs ys b := nJ b bo (by rw [hb]; exact hbX) (by rw [hb]; exact hbY)
  have Tb : T.bs b = b := (Tbs2 b bJ).trans hb
  have G : Goes S T := {
    lab := fun _ _ => rfl
    pr := fun _ _ => rfl
    out := fun x h => (Tout x).2 (.inl h)
    b0 := fun x h => by
      show (if isM mt ys x = true then w else if isM mt xs x = true then v else S.b0 x) = S.b0 x
      rw [nmX x h, nmY x h]; rfl
    b1 := fun x h => by
      show (if isM mt ys x = true then v else if isM mt xs x = true then w else S.b1 x) = S.b1 x
      rw [nmX x h, nmY x h]; rfl }
  have Jrt : ∀ u, inJ mt S xs ys u → S.rt u = S.rt b := fun u h => by
    rcases h with h | h | ⟨x, hx, hm⟩ | ⟨x, hx, hm⟩
    · rw [brv, ← (fX _ h).2.2.2.2]; exact (I.bo u (xo u h)).2.2.2.symm
    · rw [brw, ← (fY _ h).2.2.2.2]; exact (I.bo u (yo u h)).2.2.2.symm
    · rw [brv, ← (fX x hx).2.2.2.2]; exact (mX u x hx hm).2.2.1
    · rw [brw, ← (fY x hx).2.2.2.2]; exact (mY u x hx hm).2.2.1
  have nO : ∀ u, T.out u = true → ¬ inJ mt S xs ys u → S.out u = true := fun u h hj => by
    rcases (Tout u).1 h with h | h | h
    · exact h
    · exact absurd (.inr (.inr (.inl h))) hj
    · exact absurd (.inr (.inr (.inr h))) hj
  have onT : ∀ zs, (∀ z ∈ zs, z ∈ xs ∨ z ∈ ys) → ∀ y, On mt S zs b y → T.out y = true ∧ T.bs y = b := by
    intro zs hz y hy
    rcases hy with ⟨h1, h2 | h2⟩ | ⟨h1, x, h2, h3⟩
    · refine ⟨(Tout y).2 (.inl h1), Tbs1 y ?_⟩
      rcases hz _ h2 with h | h
      · exact .inl h
      · exact .inr (.inl h)
    · refine ⟨(Tout y).2 (.inl h1), ?_⟩
      rw [Tbs2 y (nJ y h1 (by rw [h2]; exact hbX) (by rw [h2]; exact hbY))]; exact h2
    · rcases hz _ h2 with h | h
      · exact ⟨(Tout y).2 (.inr (.inl ⟨x, h, h3⟩)), Tbs1 y (.inr (.inr (.inl ⟨x, h, h3⟩)))⟩
      · exact ⟨(Tout y).2 (.inr (.inr ⟨x, h, h3⟩)), Tbs1 y (.inr (.inr (.inr ⟨x, h, h3⟩)))⟩
  have wayM : ∀ (p q : Nat) (zs ts : List Nat), S.out p = true → S.out q = true → E p q → Chain mt S (S.bs p) b zs → Chain mt S (S.bs q) b ts → (∀ x ∈ zs, x ∉ ts) → (∀ z ∈ zs, z ∈ xs ∨ z ∈ ys) → (∀ z ∈ ts, z ∈ xs ∨ z ∈ ys) → ∀ u x : Nat, x ∈ zs → mt x = (u : Int) → T.b0 u = p → T.b1 u = q →
      ∃ ps, Way mt T u b ps ∧ Good mt E u ps b ∧ (verts ps b).Nodup ∧ ∀ y ∈ verts ps b, T.out y = true ∧ T.bs y = b := by
    intro p q zs ts hp hq hpq cz ct hdz hz ht u x hx hm h0 h1
    obtain ⟨p1, p2, p3, p4⟩ := I.bo p hp
    obtain ⟨q1, q2, q3, q4⟩ := I.bo q hq
    obtain ⟨_, fZ⟩ := chain_facts M I hd cz p1 p3
    obtain ⟨_, fT⟩ := chain_facts M I hd ct q1 q3
    obtain ⟨x1, x2, e, c1, c2⟩ := chain_split M I hd cz p1 p3 x hx
    obtain ⟨fo, fb⟩ : S.out x = true ∧ S.bs x = x := ⟨(fZ x hx).2.2.1, (fZ x hx).2.2.2.1⟩
    obtain ⟨e1, ps, a1, a2, a3, a4⟩ := chain_way M I hd c1 fb p hp rfl
    obtain ⟨_, qs, g1, g2, g3, g4⟩ := chain_way M I hd ct hb q hq rfl
    obtain ⟨mo, ml, mr, mb⟩ := mate zs (fun x hx => ⟨(fZ x hx).2.2.1, (fZ x hx).2.2.2.1⟩) u x hx hm
    have hux := M.sy x u hm
    have hub : u ≠ b := fun h => by rw [h, bo] at mo; cases mo
    have hx1 : ∀ z ∈ x1, z ∈ zs ∧ z ≠ x := fun z hz => ⟨by rw [e]; simp [hz], fun h => by have := (e1 z hz).1; subst h; omega⟩
    have hup : u ∉ verts ps x := fun h => by
      rcases a4 u h with ⟨h, _⟩ | ⟨_, z, hz, h⟩
      · rw [mo] at h; cases h
      · have := M.sy z u h
        exact (hx1 z hz).2 (by omega)
    have huq : u ∉ verts qs b := fun h => by
      rcases g4 u h with ⟨h, _⟩ | ⟨_, z, hz, h⟩
      · rw [mo] at h; cases h
      · have := M.sy z u h
        obtain rfl : z = x := by omega
        exact hdz z hx hz
    have hpq' : ∀ y ∈ verts ps x, y ∉ verts qs b := fun y hy h => by
      have hin : (S.out y = true ∧ S.bs y ∈ zs) ∨ (S.out y = false ∧ ∃ z ∈ zs, mt z = (y : Int)) := by
        rcases a4 y hy with ⟨k1, k2 | k2⟩ | ⟨k1, z, k2, k3⟩
        · exact .inl ⟨k1, (hx1 _ k2).1⟩
        · exact .inl ⟨k1, by rw [k2]; exact hx⟩
        · exact .inr ⟨k1, z, (hx1 _ k2).1, k3⟩
      rcases hin with ⟨k1, k2⟩ | ⟨k1, z, k2, k3⟩ <;> rcases g4 y h with ⟨j1, j2 | j2⟩ | ⟨j1, z', j2, j3⟩
      · exact hdz _ k2 j2
      · have := (fZ _ k2).1; rw [j2] at this; omega
      · rw [k1] at j1; cases j1
      · rw [k1] at j1; cases j1
      · rw [k1] at j1; cases j1
      · have s1 := M.sy z y k3
        have s2 := M.sy z' y j3
        obtain rfl : z = z' := by omega
        exact hdz z k2 j2
    have ev : verts ((u, x) :: (revP ps ++ qs)) b = u :: (verts ps x).reverse ++ verts qs b := by
      simp [verts, flatP_cons, flatP_app, flatP_rev]
    refine ⟨(u, x) :: (revP ps ++ qs), .odd hub ((Tout u).2 ?_) ml hux (by rw [h0]; exact a1.goes G) (by rw [h1]; exact g1.goes G), Good.rev M.sy M.es a2 hux hpq g2, ?_, ?_⟩
    · rcases hz x hx with h | h
      · exact .inr (.inl ⟨x, h, hm⟩)
      · exact .inr (.inr ⟨x, h, hm⟩)
    · rw [ev]
      refine List.nodup_append.2 ⟨List.nodup_cons.2 ⟨by rw [List.mem_reverse]; exact hup, ?_⟩, g3, ?_⟩
      · exact (List.reverse_perm _).nodup_iff.2 a3
      · intro y hy z hz' e
        subst e
        rcases List.mem_cons.1 hy with rfl | hy
        · exact huq hz'
        · exact hpq' y (List.mem_reverse.1 hy) hz'
    · rw [ev]
      intro y hy
      rcases List.mem_append.1 hy with hy | hy
      · rcases List.mem_cons.1 hy with rfl | hy
        · exact onT zs hz y (.inr ⟨mo, x, hx, hm⟩)
        · refine onT zs hz y ?_
          rcases a4 y (List.mem_reverse.1 hy) with ⟨k1, k2 | k2⟩ | ⟨k1, z, k2, k3⟩
          · exact .inl ⟨k1, .inl (hx1 _ k2).1⟩
          · exact .inl ⟨k1, .inl (by rw [k2]; exact hx)⟩
          · exact .inr ⟨k1, z, (hx1 _ k2).1, k3⟩
      · exact onT ts ht y (g4 y hy)
  have Tv : ∀ p zs, S.out p = true → Chain mt S (S.bs p) b zs → (∀ z ∈ zs, z ∈ xs ∨ z ∈ ys) → T.bs p = b := by
    intro p zs hp hc hz
    generalize hbp : S.bs p = c at hc
    cases hc with
    | here => rw [Tbs2 p (nJ p hp (by rw [hbp]; exact hbX) (by rw [hbp]; exact hbY))]; exact hbp
    | up =>
      refine Tbs1 p ?_
      rcases hz c (by simp) with h | h
      · exact .inl (by rw [hbp]; exact h)
      · exact .inr (.inl (by rw [hbp]; exact h))
  refine ⟨?_, G, Tout, fun u => ⟨Tbs1 u, Tbs2 u⟩, Tv v xs hv hX fun z h => .inl h, Tv w ys hw hY fun z h => .inr h⟩
  refine ⟨fun u hu => ?_, fun u hu => (Tout u).2 (.inl (I.e1 u hu)), I.l2, I.fr, fun u hu => ?_, I.ev, fun u hu => ?_, fun u hu => ?_, fun c m hc hcb hm => ?_, fun m x hl ho hm => ?_, ⟨d, fun c m hc hcb hm => ?_⟩, fun u hu => ?_⟩
  · rcases (Tout u).1 hu with h | ⟨x, hx, h⟩ | ⟨x, hx, h⟩
    · exact I.o1 u h
    · have := (mX u x hx h).2.1
      exact ⟨(I.od u this).1, by show S.lab u ≠ 0; omega⟩
    · have := (mY u x hx h).2.1
      exact ⟨(I.od u this).1, by show S.lab u ≠ 0; omega⟩
  · obtain ⟨h1, x, k1, k2, k3, k4, k5, k6⟩ := I.od u hu
    exact ⟨h1, x, k1, k2, k3, (Tout _).2 (.inl k4), k5, k6⟩
  · by_cases hj : inJ mt S xs ys u
    · have hbl : S.lab b = 1 := by have := (I.bo b bo).2.1; rwa [hb] at this
      rw [Tbs1 u hj]
      exact ⟨(Tout b).2 (.inl bo), hbl, Tb, (Jrt u hj).symm⟩
    · have ho := nO u hu hj
      obtain ⟨k1, k2, k3, k4⟩ := I.bo u ho
      rw [Tbs2 u hj]
      have hj2 : ¬ inJ mt S xs ys (S.bs u) := nJ _ k1 (by rw [k3]; exact fun h => hj (.inl h)) (by rw [k3]; exact fun h => hj (.inr (.inl h)))
      exact ⟨(Tout _).2 (.inl k1), k2, (Tbs2 _ hj2).trans k3, k4⟩
  · have ho : S.out u = false := by
      cases h : S.out u with
      | false => rfl
      | true => rw [(Tout u).2 (.inl h)] at hu; cases hu
    have hj : ¬ inJ mt S xs ys u := fun h => by
      rcases h with h | h | h | h
      · rw [xo u h] at ho; cases ho
      · rw [yo u h] at ho; cases ho
      · rw [(Tout u).2 (.inr (.inl h))] at hu; cases hu
      · rw [(Tout u).2 (.inr (.inr h))] at hu; cases hu
    exact (Tbs2 u hj).trans (I.bn u ho)
  · have hj : ¬ inJ mt S xs ys c := fun h => by
      have := Tbs1 c h
      rw [hcb] at this
      exact bJ (this ▸ h)
    have ho := nO c hc hj
    have hcb' := (Tbs2 c hj).symm.trans hcb
    have hmo := I.bm c m ho hcb' hm
    cases hT : T.out m with
    | false => rfl
    | true =>
      rcases (Tout m).1 hT with h | ⟨x, hx, h⟩ | ⟨x, hx, h⟩
      · rw [hmo] at h; cases h
      · have s1 := M.sy c m hm
        have s2 := M.sy x m h
        obtain rfl : x = c := by omega
        exact absurd (.inl (by rw [hcb']; exact hx)) hj
      · have s1 := M.sy c m hm
        have s2 := M.sy x m h
        obtain rfl : x = c := by omega
        exact absurd (.inr (.inl (by rw [hcb']; exact hx))) hj
  · have ho' : S.out m = false := by
      cases h : S.out m with
      | false => rfl
      | true => rw [(Tout m).2 (.inl h)] at ho; cases ho
    have hbx := I.bx m x hl ho' hm
    have hmx := M.sy m x hm
    obtain ⟨_, x', k1, k2, _⟩ := I.od m hl
    obtain rfl : x' = x := by omega
    have hxo := I.e1 x' k2
    refine (Tbs2 x' (nJ x' hxo (fun h => ?_) fun h => ?_)).trans hbx
    · rw [hbx] at h; rw [(Tout m).2 (.inr (.inl ⟨x', h, hmx⟩))] at ho; cases ho
    · rw [hbx] at h; rw [(Tout m).2 (.inr (.inr ⟨x', h, hmx⟩))] at ho; cases ho
  · have hj : ¬ inJ mt S xs ys c := fun h => by
      have := Tbs1 c h
      rw [hcb] at this
      exact bJ (this ▸ h)
    have ho := nO c hc hj
    have hcb' := (Tbs2 c hj).symm.trans hcb
    have h1 := hd c m ho hcb' hm
    show d (T.bs (S.pr m)) < d c
    by_cases hp : inJ mt S xs ys (S.pr m)
    · rw [Tbs1 _ hp]
      rcases hp with h | h | ⟨x, hx, h⟩ | ⟨x, hx, h⟩
      · have := (fX _ h).1; omega
      · have := (fY _ h).1; omega
      · have := (mX _ x hx h).1
        rcases I.base M ho hcb' with ⟨h3, _⟩ | ⟨m', h3, h4, h5, h6, _⟩
        · omega
        · obtain rfl : m' = m := by omega
          rw [this] at h6; cases h6
      · have := (mY _ x hx h).1
        rcases I.base M ho hcb' with ⟨h3, _⟩ | ⟨m', h3, h4, h5, h6, _⟩
        · omega
        · obtain rfl : m' = m := by omega
          rw [this] at h6; cases h6
    · rw [Tbs2 _ hp]; exact h1
  · by_cases hj : inJ mt S xs ys u
    · rw [Tbs1 u hj]
      have chainW : ∀ zs c, (∀ z ∈ zs, z ∈ xs ∨ z ∈ ys) → S.out c = true → S.bs c = c → Chain mt S c b zs → S.bs u ∈ zs → S.out u = true → ∃ ps, Way mt T u b ps ∧ Good mt E u ps b ∧ (verts ps b).Nodup ∧ ∀ y ∈ verts ps b, T.out y = true ∧ T.bs y = b := by
        intro zs c hz hc1 hc2 cz hu2 hu3
        obtain ⟨x1, x2, e, c1, c2⟩ := chain_split M I hd cz hc1 hc2 _ hu2
        obtain ⟨_, ps, a1, a2, a3, a4⟩ := chain_way M I hd c2 hb u hu3 rfl
        exact ⟨ps, a1.goes G, a2, a3, fun y hy => onT _ (fun z h => hz z (by rw [e]; exact List.mem_append.2 (.inr h))) y (a4 y hy)⟩
      rcases hj with h | h | ⟨x, hx, h⟩ | ⟨x, hx, h⟩
      · exact chainW xs _ (fun z h => .inl h) v1 v3 hX h (xo u h)
      · exact chainW ys _ (fun z h => .inr h) w1 w3 hY h (yo u h)
      · have hny : isM mt ys u = false := by
          rw [Bool.eq_false_iff]; intro h'
          obtain ⟨x', hx', h'⟩ := isM_iff.1 h'
          have s1 := M.sy x u h
          have s2 := M.sy x' u h'
          obtain rfl : x = x' := by omega
          exact hdj x hx hx'
        have hyx := isM_iff.2 ⟨x, hx, h⟩
        exact wayM v w xs ys hv hw hvw hX hY hdj (fun z h => .inl h) (fun z h => .inr h) u x hx h
          (by show (if isM mt ys u = true then w else if isM mt xs u = true then v else S.b0 u) = v; rw [hny, hyx]; rfl)
          (by show (if isM mt ys u = true then v else if isM mt xs u = true then w else S.b1 u) = w; rw [hny, hyx]; rfl)
      · have hyx := isM_iff.2 ⟨x, hx, h⟩
        exact wayM w v ys xs hw hv (M.es _ _ hvw) hY hX (fun y hy h => hdj y h hy) (fun z h => .inr h) (fun z h => .inl h) u x hx h
          (by show (if isM mt ys u = true then w else if isM mt xs u = true then v else S.b0 u) = w; rw [hyx]; rfl)
          (by show (if isM mt ys u = true then v else if isM mt xs u = true then w else S.b1 u) = v; rw [hyx]; rfl)
    · have ho := nO u hu hj
      obtain ⟨ps, p1, p2, p3, p4⟩ := I.wy u ho
      rw [Tbs2 u hj]
      refine ⟨ps, p1.goes G, p2, p3, fun y hy => ?_⟩
      obtain ⟨y1, y2⟩ := p4 y hy
      refine ⟨(Tout y).2 (.inl y1), ?_⟩
      rw [Tbs2 y (nJ y y1 (by rw [y2]; exact fun h => hj (.inl h)) (by rw [y2]; exact fun h => hj (.inr (.inl h))))]; exact y2
def fs0 (N : Nat) (mt : Nat → Int) : FS where
 lab := fun v => if v < N ∧ mt v = -1 then 1 else 0
 out := fun v => decide (v < N ∧ mt v = -1)
 pr := fun _ => 0
 rt := fun v => if v < N ∧ mt v = -1 then (v : Int) else -1
 b0 := fun _ => 0
 b1 := fun _ => 0
 bs := fun v => v
theorem fs0_inv (N : Nat) (E : Nat → Nat → Prop) (mt : Nat → Int) : Inv N E mt (fs0 N mt) := by
 have ho : ∀ v, (fs0 N mt).out v = true ↔ v < N ∧ mt v = -1 := fun v => decide_eq_true_iff
 have hl : ∀ v, (v < N ∧ mt v = -1 → (fs0 N mt).lab v = 1 ∧ (fs0 N mt).rt v = (v : Int)) ∧ (¬ (v < N ∧ mt v = -1) → (fs0 N mt).lab v = 0) := fun v => by
  refine ⟨fun h => ⟨if_pos h, if_pos h⟩, fun h => if_neg h⟩
 have h1 : ∀ v, (fs0 N mt).lab v = 1 → v < N ∧ mt v = -1 := fun v h => by
  by_cases c : v < N ∧ mt v = -1
  · exact c
  · rw [(hl v).2 c] at h; omega
 have h2 : ∀ v, (fs0 N mt).lab v ≠ 2 := fun v h => by
  by_cases c : v < N ∧ mt v = -1
  · rw [((hl v).1 c).1] at h; omega
  · rw [(hl v).2 c] at h; omega
 refine ⟨fun v h => ?_, fun v h => (ho v).2 (h1 v h), fun v => ?_, fun v a b => (hl v).1 ⟨a, b⟩, fun v h => absurd h (h2 v), fun v h => .inl ⟨(h1 v h).2, ((hl v).1 (h1 v h)).2⟩, fun v h => ?_, fun v _ => rfl, fun b m h _ hm => ?_, fun m x h _ _ => absurd h (h2 m), ⟨fun _ => 0, fun b m h _ hm => ?_⟩, fun v h => ?_⟩
 · have := (ho v).1 h
   exact ⟨this.1, by rw [((hl v).1 this).1]; omega⟩
 · by_cases c : v < N ∧ mt v = -1
   · rw [((hl v).1 c).1]; omega
   · rw [(hl v).2 c]; omega
 · exact ⟨h, ((hl v).1 ((ho v).1 h)).1, rfl, rfl⟩
 · have := ((ho b).1 h).2; omega
 · have := ((ho b).1 h).2; omega
 · refine ⟨[], .here v, .nil v, by simp [verts, flatP], fun x hx => ?_⟩
   have hx' : x ∈ verts [] v := hx
   have : x = v := by simpa [verts, flatP] using hx'
   subst this
   exact ⟨h, rfl⟩
def grown (S : FS) (v w x : Nat) : FS :=
 { S with
  lab := fun u => if u = x then 1 else if u = w then 2 else S.lab u
  out := fun u => decide (u = x) || S.out u
  pr := fun u => if u = w then v else S.pr u
  rt := fun u => if u = x then S.rt v else if u = w then S.rt v else S.rt u }
theorem fresh {N : Nat} {E : Nat → Nat → Prop} {mt : Nat → Int} {S : FS} (M : Mf N E mt) (I : Inv N E mt S) {w : Nat} (hw : w < N) (hl : S.lab w = 0) : ∃ x : Nat, mt w = (x : Int) ∧ x < N ∧ S.lab x = 0 ∧ x ≠ w ∧ S.out x = false ∧ S.out w = false := by
 rcases M.at_ w hw with h | ⟨x, h, hx⟩
 · have := (I.fr w hw h).1; omega
 · have hs := M.sy w x h
   have hlx : S.lab x = 0 := by
    have h2 := I.l2 x
    rcases (show S.lab x = 0 ∨ S.lab x = 1 ∨ S.lab x = 2 by omega) with e | e | e
    · exact e
    · rcases I.ev x e with ⟨k, _⟩ | ⟨m, k1, k2⟩
      · omega
      · obtain rfl : m = w := by omega
        omega
    · obtain ⟨_, y, k1, k2, _⟩ := I.od x e
      obtain rfl : y = w := by omega
      omega
   refine ⟨x, h, hx, hlx, (M.ne w x h).1, ?_, ?_⟩
   · cases e : S.out x with
     | false => rfl
     | true => have := (I.o1 x e).2; omega
   · cases e : S.out w with
     | false => rfl
     | true => have := (I.o1 w e).2; omega
theorem grow_inv {N : Nat} {E : Nat → Nat → Prop} {mt : Nat → Int} {S : FS} (M : Mf N E mt) (I : Inv N E mt S) {v w x : Nat} (hv : S.out v = true) (hvw : E v w) (hl : S.lab w = 0) (hx : mt w = (x : Int)) : Inv N E mt (grown S v w x) ∧ Goes S (grown S v w x) := by
 have hwN := (M.el v w hvw).2.1
 obtain ⟨x', k1, hxN, hlx, hxw, hxo, hwo⟩ := fresh M I hwN hl
 obtain rfl : x' = x := by omega
 have hs := M.sy w x' hx
 have vw : v ≠ w := fun h => by rw [h, hwo] at hv; cases hv
 have vx : v ≠ x' := fun h => by rw [h, hxo] at hv; cases hv
 have Lx : (grown S v w x').lab x' = 1 := if_pos rfl
 have Lw : (grown S v w x').lab w = 2 := by show (if w = x' then 1 else if w = w then 2 else S.lab w) = 2; rw [if_neg (Ne.symm hxw), if_pos rfl]
 have Lo : ∀ u, u ≠ x' → u ≠ w → (grown S v w x').lab u = S.lab u := fun u h1 h2 => by show (if u = x' then 1 else if u = w then 2 else S.lab u) = _; rw [if_neg h1, if_neg h2]
 have L0 : ∀ u, S.lab u ≠ 0 → u ≠ x' ∧ u ≠ w := fun u h => ⟨fun e => h (e ▸ hlx), fun e => h (e ▸ hl)⟩
 have Rx : (grown S v w x').rt x' = S.rt v := if_pos rfl
 have Rw : (grown S v w x').rt w = S.rt v := by show (if w = x' then S.rt v else if w = w then S.rt v else S.rt w) = _; rw [if_pos rfl]; split <;> rfl
 have Ro : ∀ u, u ≠ x' → u ≠ w → (grown S v w x').rt u = S.rt u := fun u h1 h2 => by show (if u = x' then S.rt v else if u = w then S.rt v else S.rt u) = _; rw [if_neg h1, if_neg h2]
 have Oi : ∀ u, (grown S v w x').out u = true ↔ u = x' ∨ S.out u = true := fun u => by
  show (decide (u = x') || S.out u) = true ↔ _
  rw [Bool.or_eq_true, decide_eq_true_iff]
 have O0 : ∀ u, S.out u = true → u ≠ x' ∧ u ≠ w := fun u h => L0 u (I.o1 u h).2
 have Of : ∀ u, (grown S v w x').out u = false → u ≠ x' ∧ S.out u = false := fun u h => by
  constructor
  · intro e; have := (Oi u).2 (.inl e); rw [h] at this; cases this
  · cases e : S.out u with
    | false => rfl
    | true => have := (Oi u).2 (.inr e); rw [h] at this; cases this
 have Pw : (grown S v w x').pr w = v := if_pos rfl
 have Po : ∀ u, u ≠ w → (grown S v w x').pr u = S.pr u := fun u h => if_neg h
 have G : Goes S (grown S v w x') := {
  lab := fun u h => Lo u (L0 u h).1 (L0 u h).2
  pr := fun u h => Po u (L0 u (by omega)).2
  out := fun u h => (Oi u).2 (.inr h)
  b0 := fun _ _ => rfl
  b1 := fun _ _ => rfl }
 obtain ⟨d, hd⟩ := I.dp
 refine ⟨⟨fun u h => ?_, fun u h => ?_, fun u => ?_, fun u hu hm => ?_, fun u h => ?_, fun u h => ?_, fun u h => ?_, fun u h => I.bn u (Of u h).2, fun b m h hb hm => ?_, fun m y h ho hm => ?_, ⟨fun u => if u = x' then d (S.bs v) + 1 else d u, fun b m h hb hm => ?_⟩, fun u h => ?_⟩, G⟩
 · rcases (Oi u).1 h with rfl | h
   · exact ⟨hxN, by rw [Lx]; omega⟩
   · exact ⟨(I.o1 u h).1, by rw [Lo u (O0 u h).1 (O0 u h).2]; exact (I.o1 u h).2⟩
 · by_cases e : u = x'
   · exact (Oi u).2 (.inl e)
   · by_cases e2 : u = w
     · subst e2; rw [Lw] at h; omega
     · rw [Lo u e e2] at h; exact (Oi u).2 (.inr (I.e1 u h))
 · by_cases e : u = x'
   · subst e; rw [Lx]; omega
   · by_cases e2 : u = w
     · subst e2; rw [Lw]; omega
     · rw [Lo u e e2]; exact I.l2 u
 · have h1 : u ≠ x' := fun e => by rw [e] at hm; omega
   have h2 : u ≠ w := fun e => by rw [e] at hm; omega
   rw [Lo u h1 h2, Ro u h1 h2]
   exact I.fr u hu hm
 · by_cases e : u = x'
   · subst e; rw [Lx] at h; omega
   · by_cases e2 : u = w
     · subst e2
       refine ⟨hwN, x', hx, Lx, by rw [Rx, Rw], by rw [Pw]; exact (Oi v).2 (.inr hv), by rw [Pw]; exact M.es _ _ hvw, by rw [Pw, Rw, Ro v vx vw]⟩
     · rw [Lo u e e2] at h
       obtain ⟨h1, y, k1, k2, k3, k4, k5, k6⟩ := I.od u h
       have hy := L0 y (by omega)
       have hp := O0 _ k4
       refine ⟨h1, y, k1, by rw [Lo y hy.1 hy.2]; exact k2, by rw [Ro y hy.1 hy.2, Ro u e e2]; exact k3, by rw [Po u e2]; exact (Oi _).2 (.inr k4), by rw [Po u e2]; exact k5, by rw [Po u e2, Ro _ hp.1 hp.2, Ro u e e2]; exact k6⟩
 · by_cases e : u = x'
   · subst e; exact .inr ⟨w, hs, Lw⟩
   · by_cases e2 : u = w
     · subst e2; rw [Lw] at h; omega
     · rw [Lo u e e2] at h
       rcases I.ev u h with ⟨h1, h2⟩ | ⟨m, h1, h2⟩
       · exact .inl ⟨h1, by rw [Ro u e e2]; exact h2⟩
       · have := L0 m (by omega)
         exact .inr ⟨m, h1, by rw [Lo m this.1 this.2]; exact h2⟩
 · rcases (Oi u).1 h with rfl | h
   · have hbx : S.bs u = u := I.bn u hxo
     show (grown S v w u).out (S.bs u) = true ∧ (grown S v w u).lab (S.bs u) = 1 ∧ S.bs (S.bs u) = S.bs u ∧ (grown S v w u).rt (S.bs u) = _
     rw [hbx, hbx]
     exact ⟨(Oi u).2 (.inl rfl), Lx, rfl, rfl⟩
   · obtain ⟨h1, h2, h3, h4⟩ := I.bo u h
     have hb := O0 _ h1
     have hu := O0 u h
     exact ⟨(Oi _).2 (.inr h1), (Lo _ hb.1 hb.2).trans h2, h3, (Ro _ hb.1 hb.2).trans (h4.trans (Ro u hu.1 hu.2).symm)⟩
 · rcases (Oi b).1 h with rfl | h
   · obtain rfl : m = w := by omega
     cases e : (grown S v m b).out m with
     | false => rfl
     | true => rcases (Oi m).1 e with e | e
               · exact absurd e.symm hxw
               · rw [hwo] at e; cases e
   · have hmo := I.bm b m h hb hm
     have hO := O0 b h
     cases e : (grown S v w x').out m with
     | false => rfl
     | true => rcases (Oi m).1 e with e | e
               · have := M.sy b m hm
                 rw [e] at this
                 exact absurd (show b = w by omega) hO.2
               · rw [hmo] at e; cases e
 · obtain ⟨h1, h2⟩ := Of m ho
   by_cases e2 : m = w
   · subst e2
     obtain rfl : y = x' := by omega
     exact I.bn y hxo
   · rw [Lo m h1 e2] at h
     exact I.bx m y h h2 hm
 · show (if S.bs ((grown S v w x').pr m) = x' then d (S.bs v) + 1 else d (S.bs ((grown S v w x').pr m))) < (if b = x' then d (S.bs v) + 1 else d b)
   rcases (Oi b).1 h with rfl | h
   · obtain rfl : m = w := by omega
     rw [Pw, if_neg (O0 _ (I.bo v hv).1).1, if_pos rfl]; omega
   · rcases I.base M h hb with ⟨h3, _⟩ | ⟨m', h3, h4, h5, h6, _⟩
     · omega
     · obtain rfl : m' = m := by omega
       have hm' := L0 m' (by omega)
       rw [Po m' hm'.2, if_neg (O0 _ (I.bo _ h6).1).1, if_neg (O0 b h).1]
       exact hd b m' h hb hm
 · rcases (Oi u).1 h with rfl | h
   · have hbx : S.bs u = u := I.bn u hxo
     show ∃ ps, Way mt (grown S v w u) u (S.bs u) ps ∧ Good mt E u ps (S.bs u) ∧ (verts ps (S.bs u)).Nodup ∧ ∀ y ∈ verts ps (S.bs u), (grown S v w u).out y = true ∧ S.bs y = S.bs u
     rw [hbx]
     refine ⟨[], .here u, .nil u, by simp [verts, flatP], fun y hy => ?_⟩
     have : y = u := by simpa [verts, flatP] using hy
     subst this
     exact ⟨(Oi y).2 (.inl rfl), hbx⟩
   · obtain ⟨ps, p1, p2, p3, p4⟩ := I.wy u h
     exact ⟨ps, p1.goes G, p2, p3, fun y hy => ⟨(Oi y).2 (.inr (p4 y hy).1), (p4 y hy).2⟩⟩
theorem root_chain {N : Nat} {E : Nat → Nat → Prop} {mt : Nat → Int} {S : FS} (M : Mf N E mt) (I : Inv N E mt S) {d : Nat → Nat} (hd : ∀ b m : Nat, S.out b = true → S.bs b = b → mt b = (m : Int) → d (S.bs (S.pr m)) < d b) :
    ∀ (n c : Nat), d c ≤ n → S.out c = true → S.bs c = c → ∃ r xs, Chain mt S c r xs ∧ S.out r = true ∧ S.bs r = r ∧ mt r = -1 ∧ S.rt c = (r : Int) := by
  intro n
  induction n with
  | zero =>
    intro c h h1 h2
    rcases I.base M h1 h2 with ⟨h3, h4⟩ | ⟨m, h3, _⟩
    · exact ⟨c, [], .here c, h1, h2, h3, h4⟩
    · have := hd c m h1 h2 h3; omega
  | succ n ih =>
    intro c h h1 h2
    rcases I.base M h1 h2 with ⟨h3, h4⟩ | ⟨m, h3, h4, h5, h6, h7, h8, h9⟩
    · exact ⟨c, [], .here c, h1, h2, h3, h4⟩
    · have hlt := hd c m h1 h2 h3
      obtain ⟨k1, k2, k3, k4⟩ := I.bo _ h6
      obtain ⟨r, xs, j1, j2, j3, j4, j5⟩ := ih (S.bs (S.pr m)) (by omega) k1 k3
      refine ⟨r, c :: xs, .up (fun e => by subst e; omega) h3 j1, j2, j3, j4, ?_⟩
      rw [← j5, k4, h8]
theorem tree_way {N : Nat} {E : Nat → Nat → Prop} {mt : Nat → Int} {S : FS} (M : Mf N E mt) (I : Inv N E mt S) {v : Nat} (hv : S.out v = true) : ∃ (r : Nat) (ps : Prs), S.rt v = (r : Int) ∧ mt r = -1 ∧ r < N ∧ Way mt S v r ps ∧ Good mt E v ps r ∧ (verts ps r).Nodup ∧ ∀ y ∈ verts ps r, S.rt y = S.rt v ∧ y < N := by
 obtain ⟨d, hd⟩ := I.dp
 obtain ⟨v1, v2, v3, v4⟩ := I.bo v hv
 obtain ⟨r, xs, h1, h2, h3, h4, h5⟩ := root_chain M I hd _ (S.bs v) (Nat.le_refl _) v1 v3
 obtain ⟨_, ps, p1, p2, p3, p4⟩ := chain_way M I hd h1 h3 v hv rfl
 obtain ⟨⟨_, _, f1⟩, f2⟩ := chain_facts M I hd h1 v1 v3
 refine ⟨r, ps, v4.symm.trans h5, h4, (I.o1 r h2).1, p1, p2, p3, fun y hy => ?_⟩
 rcases p4 y hy with ⟨k1, k2 | k2⟩ | ⟨k1, x, k2, k3⟩
 · exact ⟨by rw [← (I.bo y k1).2.2.2, (f2 _ k2).2.2.2.2, v4], (I.o1 y k1).1⟩
 · exact ⟨by rw [← (I.bo y k1).2.2.2, k2, f1, v4], (I.o1 y k1).1⟩
 · obtain ⟨e1, e2, e3, e4, e5⟩ := f2 x k2
   rcases I.base M e3 e4 with ⟨g3, _⟩ | ⟨m, g3, g4, g5, g6, g7, g8, g9⟩
   · omega
   · obtain rfl : m = y := by omega
     exact ⟨by rw [g9, e5, v4], (I.od m g4).1⟩
def EP (E : Nat → Nat → Prop) : List Nat → Prop
 | a :: b :: l => E a b ∧ EP E l
 | [_] => False
 | [] => True
theorem EP_good {mt : Nat → Int} {E : Nat → Nat → Prop} {w to : Nat} {ps : Prs} (h : Good mt E w ps to) : ∀ x, E x w → EP E (x :: verts ps to) := by
 induction h with
 | nil v => intro x hx; exact ⟨hx, trivial⟩
 | cons h1 h2 _ ih => intro x hx; exact ⟨hx, ih _ h2⟩
theorem EP_back {mt : Nat → Int} {E : Nat → Nat → Prop} (hE : ∀ a c, E a c → E c a) {v r : Nat} {ps : Prs} (h : Good mt E v ps r) : ∀ L, EP E (v :: L) → EP E ((verts ps r).reverse ++ L) := by
 induction h with
 | nil v => intro L hL; simpa [verts, flatP] using hL
 | cons h1 h2 _ ih =>
   intro L hL
   have e : ∀ (a c : Nat) (ps : Prs) (to : Nat), (verts ((a, c) :: ps) to).reverse ++ L = (verts ps to).reverse ++ (c :: a :: L) := fun a c ps to => by simp [verts, flatP_cons]
   rw [e]
   exact ih _ ⟨hE _ _ h2, hL⟩
theorem good_closed {mt : Nat → Int} {E : Nat → Nat → Prop} (hs : ∀ v w : Nat, mt v = (w : Int) → mt w = (v : Int)) {v r : Nat} {ps : Prs} (h : Good mt E v ps r) (hr : mt r = -1) : ∀ y ∈ verts ps r, ∀ z : Nat, mt y = (z : Int) → z ∈ verts ps r := by
 induction h with
 | nil v =>
   intro y hy z hz
   have : y = v := by simpa [verts, flatP] using hy
   subst this; omega
 | @cons a c w to ps h1 h2 _ ih =>
   intro y hy z hz
   have e : verts ((a, c) :: ps) to = a :: c :: verts ps to := rfl
   rw [e] at hy ⊢
   rcases List.mem_cons.1 hy with rfl | hy
   · obtain rfl : z = c := by omega
     simp
   · rcases List.mem_cons.1 hy with rfl | hy
     · have := hs a y h1
       obtain rfl : z = a := by omega
       simp
     · exact List.mem_cons_of_mem _ (List.mem_cons_of_mem _ (ih hr y hy z hz))
structure Aug (N : Nat) (E : Nat → Nat → Prop) (mt : Nat → Int) (l : List Nat) : Prop where
 ep : EP E l
 nd : l.Nodup
 lt : ∀ y ∈ l, y < N
 cl : ∀ y ∈ l, ∀ z : Nat, mt y = (z : Int) → z ∈ l
 fr : ∃ r ∈ l, mt r = -1
theorem join_aug {N : Nat} {E : Nat → Nat → Prop} {mt : Nat → Int} {S : FS} (M : Mf N E mt) (I : Inv N E mt S) {v w : Nat} (hv : S.out v = true) (hw : S.out w = true) (hvw : E v w) (hrt : S.rt v ≠ S.rt w) :
    ∃ (r q : Nat) (ps qs : Prs), S.rt v = (r : Int) ∧ S.rt w = (q : Int) ∧ r < N ∧ q < N ∧ Way mt S v r ps ∧ Way mt S w q qs ∧ (flatP ps).length ≤ N ∧ (flatP qs).length ≤ N ∧ Aug N E mt ((verts ps r).reverse ++ verts qs q) := by
  obtain ⟨r, ps, a1, a2, a3, a4, a5, a6, a7⟩ := tree_way M I hv
  obtain ⟨q, qs, b1, b2, b3, b4, b5, b6, b7⟩ := tree_way M I hw
  have hlen : ∀ l : List Nat, l.Nodup → (∀ y ∈ l, y < N) → l.length ≤ N := fun l h1 h2 => by
    have := nodup_le (m := List.range N) h1 fun y hy => List.mem_range.2 (h2 y hy)
    simpa using this
  have l1 := hlen _ a6 fun y hy => (a7 y hy).2
  have l2 := hlen _ b6 fun y hy => (b7 y hy).2
  refine ⟨r, q, ps, qs, a1, b1, a3, b3, a4, b4, by simp [verts] at l1; omega, by simp [verts] at l2; omega, ⟨?_, ?_, ?_, ?_, r, by simp [verts], a2⟩⟩
  · exact EP_back M.es a5 _ (EP_good b5 v hvw)
  · refine List.nodup_append.2 ⟨(List.reverse_perm _).nodup_iff.2 a6, b6, ?_⟩
    intro y hy z hz e
    subst e
    exact hrt ((a7 y (List.mem_reverse.1 hy)).1.symm.trans (b7 y hz).1)
  · intro y hy
    rcases List.mem_append.1 hy with hy | hy
    · exact (a7 y (List.mem_reverse.1 hy)).2
    · exact (b7 y hy).2
  · intro y hy z hz
    rcases List.mem_append.1 hy with hy | hy
    · exact List.mem_append.2 (.inl (List.mem_reverse.2 (good_closed M.sy a5 a2 y (List.mem_reverse.1 hy) z hz)))
    · exact List.mem_append.2 (.inr (good_closed M.sy b5 b2 y hy z hz))
def par : List Nat → Nat → Nat
 | a :: b :: l, u => if u = a then b else if u = b then a else par l u
 | _, u => u
theorem par_spec {E : Nat → Nat → Prop} (hE : ∀ a c, E a c → E c a) : ∀ (l : List Nat), EP E l → l.Nodup → ∀ u ∈ l, par l u ∈ l ∧ E u (par l u) ∧ par l (par l u) = u
 | [], _, _, u, hu => by simp at hu
 | [_], h, _, _, _ => h.elim
 | a :: b :: l, h, hn, u, hu => by
   simp only [List.nodup_cons, List.mem_cons, not_or] at hn
   obtain ⟨⟨hab, hal⟩, hbl, hnl⟩ := hn
   show (if u = a then b else if u = b then a else par l u) ∈ _ ∧ _
   by_cases e1 : u = a
   · subst e1
     have : par (u :: b :: l) u = b := if_pos rfl
     rw [this, if_pos rfl]
     refine ⟨by simp, h.1, ?_⟩
     show (if b = u then b else if b = b then u else par l b) = u
     rw [if_neg (Ne.symm hab), if_pos rfl]
   · by_cases e2 : u = b
     · subst e2
       have : par (a :: u :: l) u = a := by show (if u = a then u else if u = u then a else par l u) = a; rw [if_neg e1, if_pos rfl]
       rw [this, if_neg e1, if_pos rfl]
       refine ⟨by simp, hE _ _ h.1, ?_⟩
       show (if a = a then u else if a = u then a else par l a) = u
       rw [if_pos rfl]
     · have hul : u ∈ l := by simpa [e1, e2] using hu
       have this : par (a :: b :: l) u = par l u := by show (if u = a then b else if u = b then a else par l u) = _; rw [if_neg e1, if_neg e2]
       rw [this, if_neg e1, if_neg e2]
       obtain ⟨h1, h2, h3⟩ := par_spec hE l h.2 hnl u hul
       refine ⟨by simp [h1], h2, ?_⟩
       show (if par l u = a then b else if par l u = b then a else par l (par l u)) = u
       have n1 : par l u ≠ a := fun e => hal (e ▸ h1)
       have n2 : par l u ≠ b := fun e => hbl (e ▸ h1)
       rw [if_neg n1, if_neg n2]
       exact h3
theorem turn_mf {N : Nat} {E : Nat → Nat → Prop} {mt mt' : Nat → Int} (M : Mf N E mt) {l : List Nat} (A : Aug N E mt l) (h1 : ∀ u ∈ l, mt' u = (par l u : Nat)) (h2 : ∀ u, u ∉ l → mt' u = mt u) : Mf N E mt' ∧ (∀ u, mt' u = -1 → mt u = -1) ∧ ∃ r, r < N ∧ mt r = -1 ∧ mt' r ≠ -1 := by
 have sp := par_spec M.es l A.ep A.nd
 refine ⟨⟨fun v hv => ?_, fun v hv w h => ?_, fun v w h => ?_, fun v w h => ?_, M.es, M.el⟩, fun u h => ?_, ?_⟩
 · by_cases hl : v ∈ l
   · exact .inr ⟨_, h1 v hl, A.lt _ (sp v hl).1⟩
   · rw [h2 v hl]; exact M.at_ v hv
 · by_cases hl : v ∈ l
   · exact hv (A.lt v hl)
   · rw [h2 v hl] at h; exact M.big v hv w h
 · by_cases hl : v ∈ l
   · rw [h1 v hl] at h
     obtain rfl : par l v = w := by omega
     rw [h1 _ (sp v hl).1, (sp v hl).2.2]
   · rw [h2 v hl] at h
     have hs := M.sy v w h
     have hwl : w ∉ l := fun hw => hl (A.cl w hw v hs)
     rw [h2 w hwl]; exact hs
 · by_cases hl : v ∈ l
   · rw [h1 v hl] at h
     obtain rfl : par l v = w := by omega
     exact ⟨(M.el _ _ (sp v hl).2.1).2.2.symm, (sp v hl).2.1⟩
   · rw [h2 v hl] at h; exact M.ne v w h
 · by_cases hl : u ∈ l
   · rw [h1 u hl] at h; omega
   · rw [h2 u hl] at h; exact h
 · obtain ⟨r, hr, hm⟩ := A.fr
   exact ⟨r, A.lt r hr, hm, by rw [h1 r hr]; omega⟩
end Go.Ga.Gl
