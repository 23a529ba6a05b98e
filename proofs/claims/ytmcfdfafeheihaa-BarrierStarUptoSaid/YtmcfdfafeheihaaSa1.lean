/- The middle of a star lacks all but one of its leaves; without it nothing is lacked but a parity; one edge is all that matches; what is twice, or no vertex, is refused. -/
import Derived.Test.YtmcfdfafeheihaaRows
import Derived.Test.YtmcfdfafeheihaaGlhbfno5
set_option linter.all false

namespace Go.Proofs.Ytmcfdfafeheihaa
open Go Go.Ga
theorem mix : Try.prog.follows .mixedOrders = true := by kernel_rfl
def c_f4_r0 : List GOp :=[(none,.asg 2 (.c (.bool false)) true)]
def c_f4_r1 : List GOp :=[(none,.r (.mov 15 (.t 0))),(none,.r (.conv 16 .u64 (.t 15))),(none,.r (.bin 17 .rem 0 (.t 16) (.c (.int .u64 60)))),(none,.r (.conv 18 .i64 (.t 17))),(none,.r (.bin 19 .add 0 (.c (.int .i64 1)) (.t 18))),(none,.asg 0 (.t 19) true)]
def c_f4_r2 : List GOp :=[(none,.r (.mov 20 (.t 0))),(none,.r (.bin 21 .add 0 (.t 20) (.c (.int .i64 1)))),(none,.bld 22 [((0,1),(.t 21,true))] [.int .i64 0,.slice none 0 0]),(none,.alloc 3 [.int .i64 0,.slice none 0 0]),(none,.st (.t 3) (.t 22) 2)]
def c_f4_r3 : List GOp :=[(none,.asg 4 (.c (.int .i64 1)) true)]
def c_f4_r4 : List GOp :=[(none,.r (.mov 23 (.t 4))),(none,.r (.mov 24 (.t 0))),(none,.r (.bin 25 .leq 0 (.t 23) (.t 24)))]
def c_f4_r5 : List GOp :=[(none,.r (.fldA 28 (.t 3) 1)),(none,.r (.ld 29 (.t 28) 1 false)),(none,.r (.mov 30 (.t 4))),(none,.bld 31 [((0,1),(.c (.int .i64 0),true)),((1,1),(.t 30,true))] [.int .i64 0,.int .i64 0]),(none,.blds 32 1 2 [((0,2),(.t 31,true))] [.int .i64 0,.int .i64 0]),
 (none,.app 33 (.t 29) (.t 32) 2 16),(none,.r (.fldA 34 (.t 3) 1)),(none,.st (.t 34) (.t 33) 1)]
def c_f4_r6 : List GOp :=[(none,.r (.mov 26 (.t 4))),(none,.r (.bin 27 .add 0 (.t 26) (.c (.int .i64 1)))),(none,.asg 4 (.t 27) true)]
def c_f4_r7 : List GOp :=[(none,.r (.ld 36 (.t 3) 2 true)),(none,.blds 37 1 1 [((0,1),(.c (.int .i64 0),true))] [.int .i64 0]),(none,.call 38 (.f 11) [(.t 36,false),(.t 37,false)]),(none,.r (.mov 35 (.t 38))),(none,.r (.ext 39 (.t 35) 0)),(none,.r (.ext 40 (.t 35) 1)),(none,.asg 5 (.t 39) true),
 (none,.asg 6 (.t 40) true)]
def c_f4_r8 : List GOp :=[(none,.r (.ld 42 (.t 3) 2 true)),(none,.call 43 (.f 11) [(.t 42,false),(.c (.slice none 0 0),false)]),(none,.r (.mov 41 (.t 43))),(none,.r (.ext 44 (.t 41) 0)),(none,.r (.ext 45 (.t 41) 1)),(none,.asg 7 (.t 44) true),(none,.asg 8 (.t 45) true)]
def c_f4_r9 : List GOp :=[(none,.r (.ld 47 (.t 3) 2 true)),(none,.call 48 (.f 10) [(.t 47,false)]),(none,.r (.mov 46 (.t 48))),(none,.r (.ext 49 (.t 46) 0)),(none,.r (.ext 50 (.t 46) 1)),(none,.asg 9 (.t 49) true),(none,.asg 10 (.t 50) true)]
def c_f4_r10 : List GOp :=[(none,.r (.ld 52 (.t 3) 2 true)),(none,.blds 53 2 1 [((0,1),(.c (.int .i64 0),true)),((1,1),(.c (.int .i64 0),true))] [.int .i64 0]),(none,.call 54 (.f 11) [(.t 52,false),(.t 53,false)]),(none,.r (.mov 51 (.t 54))),(none,.r (.ext 55 (.t 51) 0)),(none,.r (.ext 56 (.t 51) 1)),
 (none,.asg 11 (.t 55) true),(none,.asg 12 (.t 56) true)]
def c_f4_r11 : List GOp :=[(none,.r (.ld 58 (.t 3) 2 true)),(none,.r (.mov 59 (.t 0))),(none,.r (.bin 60 .add 0 (.t 59) (.c (.int .i64 1)))),(none,.blds 61 1 1 [((0,1),(.t 60,true))] [.int .i64 0]),(none,.call 62 (.f 11) [(.t 58,false),(.t 61,false)]),(none,.r (.mov 57 (.t 62))),
 (none,.r (.ext 63 (.t 57) 0)),(none,.r (.ext 64 (.t 57) 1)),(none,.asg 13 (.t 63) true),(none,.asg 14 (.t 64) true)]
def c_f4_r12 : List GOp :=[(none,.call 65 (.f 13) []),(none,.r (.mov 66 (.t 65))),(some (66,true),.r (.mov 67 (.t 6))),(some (66,true),.r (.bin 68 .eql 0 (.t 67) (.c (.int .i64 0)))),(none,.r (.pick 69 (.t 66) (.t 68) (.c (.bool false)))),(none,.r (.mov 70 (.t 69))),(some (70,true),
 .r (.mov 71 (.t 5))),(some (70,true),.r (.mov 72 (.t 0))),(some (70,true),.r (.bin 73 .sub 0 (.t 72) (.c (.int .i64 1)))),(some (70,true),.r (.bin 74 .eql 0 (.t 71) (.t 73))),(none,.r (.pick 75 (.t 70) (.t 74) (.c (.bool false)))),(none,.r (.mov 76 (.t 75))),(some (76,true),.r (.mov 77 (.t 8))),(some (76,
 true),.r (.bin 78 .eql 0 (.t 77) (.c (.int .i64 0)))),(none,.r (.pick 79 (.t 76) (.t 78) (.c (.bool false)))),(none,.r (.mov 80 (.t 79))),(some (80,true),.r (.mov 81 (.t 7))),(some (80,true),.r (.mov 82 (.t 0))),(some (80,true),.r (.bin 83 .add 0 (.t 82) (.c (.int .i64 1)))),(some (80,true),.r (.bin 84 .rem 0 (.t 83) (.c (.int .i64 2)))),
 (some (80,true),.r (.bin 85 .eql 0 (.t 81) (.t 84))),(none,.r (.pick 86 (.t 80) (.t 85) (.c (.bool false)))),(none,.r (.mov 87 (.t 86))),(some (87,true),.r (.mov 88 (.t 10))),(some (87,true),.r (.bin 89 .eql 0 (.t 88) (.c (.int .i64 0)))),(none,.r (.pick 90 (.t 87) (.t 89) (.c (.bool false)))),(none,
 .r (.mov 91 (.t 90))),(some (91,true),.r (.mov 92 (.t 9))),(some (91,true),.r (.bin 93 .eql 0 (.t 92) (.c (.int .i64 1)))),(none,.r (.pick 94 (.t 91) (.t 93) (.c (.bool false)))),(none,.r (.mov 95 (.t 94))),(some (95,true),.r (.mov 96 (.t 12))),(some (95,true),.r (.bin 97 .eql 0 (.t 96) (.c (.int .i64 6)))),
 (none,.r (.pick 98 (.t 95) (.t 97) (.c (.bool false)))),(none,.r (.mov 99 (.t 98))),(some (99,true),.r (.mov 100 (.t 14))),(some (99,true),.r (.bin 101 .eql 0 (.t 100) (.c (.int .i64 4)))),(none,.r (.pick 102 (.t 99) (.t 101) (.c (.bool false)))),(none,.asg 2 (.t 102) true)]
def v_f4 : List Nat := [0, 2, 3, 4, 5, 6, 7, 8, 9, 10, 11, 12, 13, 14, 25]
def c_f4 : ACode :=.seq (.reg [0,2,3,4,5,6,7,8,9,10,11,12,13,14,25] c_f4_r0 v_f4) (.seq (.reg [0,2,3,4,5,6,7,8,9,10,11,12,13,14,25] c_f4_r1 v_f4) (.seq (.reg [0,2,4,5,6,7,8,9,10,11,12,13,14,25] c_f4_r2 v_f4) (.seq (.seq (.reg [0,
 2,3,4,5,6,7,8,9,10,11,12,13,14,25] c_f4_r3 v_f4) (.blk 0 (.loop (.seq (.seq (.reg [0,2,3,4,5,6,7,8,9,10,11,12,13,14] c_f4_r4 v_f4) (.cond (.t 25) .skip (.exit 0))) (.seq (.blk 1 (.reg [0,2,3,4,5,6,7,8,9,10,11,12,13,
 14,25] c_f4_r5 v_f4)) (.reg [0,2,3,4,5,6,7,8,9,10,11,12,13,14,25] c_f4_r6 v_f4)))))) (.seq (.reg [0,2,3,4,5,6,7,8,9,10,11,12,13,14,25] c_f4_r7 v_f4) (.seq (.reg [0,2,3,4,
 5,6,7,8,9,10,11,12,13,14,25] c_f4_r8 v_f4) (.seq (.reg [0,2,3,4,5,6,7,8,9,10,11,12,13,14,25] c_f4_r9 v_f4) (.seq (.reg [0,2,3,4,5,6,7,8,9,10,11,12,13,14,25] c_f4_r10 v_f4) (.seq (.reg [0,
 2,3,4,5,6,7,8,9,10,11,12,13,14,25] c_f4_r11 v_f4) (.seq (.reg [0,2,3,4,5,6,7,8,9,10,11,12,13,14,25] c_f4_r12 v_f4) .ret)))))))))
abbrev n_f4 : Nat := 4
theorem s_f4 : stripF Try.prog [2] v_f4 Try.f4 = some (c_f4, [(.tmp 2)]) := by kernel_rfl
theorem go_f4 {L : List (List Nat)} {args : List AVal} {h : Heap} {Q : AVal → Heap → Prop} (hl : args.length = 1) (H : Wlk Try.prog [2] Try.f4.ntmps v_f4 L c_f4 (ends L [(.tmp 2)] Q) (entry v_f4 args h)) : ACalls Try.prog L n_f4 args h Q :=
 acalls_of_strip mix Try.func4 s_f4 (by rw [hl]; exact Nat.le_of_ble_eq_true rfl) H
def c_f10_r0 : List GOp :=[(none,.box 1 (.t 0)),(none,.asg 2 (.c (.int .i64 0)) true),(none,.asg 3 (.c (.int .i64 0)) true)]
def c_f10_r1 : List GOp :=[(none,.r (.ld 8 (.t 1) 2 true)),(none,.call 9 (.f 23) [(.t 8,false)]),(none,.r (.mov 7 (.t 9))),(none,.r (.ext 10 (.t 7) 0)),(none,.r (.ext 11 (.t 7) 1)),(none,.r (.ext 12 (.t 7) 2)),(none,.alloc 5 [.int .i64 0,.int .i64 0]),(none,.asg 4 (.t 10) true),(none,.st (.t 5) (.t 11) 2),
 (none,.asg 6 (.t 12) true)]
def c_f10_r2 : List GOp :=[(none,.r (.mov 13 (.t 4))),(none,.call 14 (.f 26) [(.t 13,false)]),(none,.r (.mov 15 (.t 6))),(none,.asg 2 (.t 14) true),(none,.asg 3 (.t 15) true)]
def v_f10 : List Nat := [0, 1, 2, 3, 4, 6]
def c_f10 : ACode :=.seq (.reg [0,2,3,4,6] c_f10_r0 v_f10) (.seq (.reg [0,1,2,3,4,6] c_f10_r1 v_f10) (.seq (.reg [0,1,2,3,4,6] c_f10_r2 v_f10) .ret))
abbrev n_f10 : Nat := 10
theorem s_f10 : stripF Try.prog [2, 3] v_f10 Try.f10 = some (c_f10, [(.tmp 2), (.tmp 3)]) := by kernel_rfl
theorem go_f10 {L : List (List Nat)} {args : List AVal} {h : Heap} {Q : AVal → Heap → Prop} (hl : args.length = 1) (H : Wlk Try.prog [2, 3] Try.f10.ntmps v_f10 L c_f10 (ends L [(.tmp 2), (.tmp 3)] Q) (entry v_f10 args h)) : ACalls Try.prog L n_f10 args h Q :=
 acalls_of_strip mix Try.func10 s_f10 (by rw [hl]; exact Nat.le_of_ble_eq_true rfl) H
def c_f11_r0 : List GOp :=[(none,.box 2 (.t 0)),(none,.asg 4 (.c (.int .i64 0)) true),(none,.asg 5 (.c (.int .i64 0)) true)]
def c_f11_r1 : List GOp :=[(none,.r (.ld 11 (.t 2) 2 true)),(none,.call 12 (.f 27) [(.t 11,false)]),(none,.r (.notb 13 (.t 12)))]
def c_f11_r2 : List GOp :=[(none,.asg 4 (.c (.int .i64 0)) true),(none,.asg 5 (.c (.int .i64 3)) true)]
def c_f11_r3 : List GOp :=[(none,.r (.mov 14 (.t 1))),(none,.r (.len 15 (.t 14))),(none,.r (.mov 16 (.c (.int .i64 0))))]
def c_f11_r4 : List GOp :=[(none,.r (.bin 17 .lss 0 (.t 16) (.t 15)))]
def c_f11_r5 : List GOp :=[(none,.r (.idxA 18 (.t 14) (.t 16) 1)),(none,.r (.ld 19 (.t 18) 1 false)),(none,.asg 7 (.t 19) true)]
def c_f11_r6 : List GOp :=[(none,.r (.mov 20 (.t 7))),(none,.r (.bin 21 .lss 0 (.t 20) (.c (.int .i64 0)))),(none,.r (.mov 22 (.t 21))),(some (22,false),.r (.mov 23 (.t 7))),(some (22,false),.r (.fldA 24 (.t 2) 0)),(some (22,false),.r (.ld 25 (.t 24) 1 false)),(some (22,false),.r (.bin 26 .geq 0 (.t 23) (.t 25))),
 (none,.r (.pick 27 (.t 22) (.c (.bool true)) (.t 26)))]
def c_f11_r7 : List GOp :=[(none,.asg 4 (.c (.int .i64 0)) true),(none,.asg 5 (.c (.int .i64 4)) true)]
def c_f11_r8 : List GOp :=[(none,.r (.bin 28 .add 0 (.t 16) (.c (.int .i64 1)))),(none,.asg 16 (.t 28) true)]
def c_f11_r9 : List GOp :=[(none,.r (.fldA 29 (.t 2) 0)),(none,.r (.ld 30 (.t 29) 1 false)),(none,.mk 31 (.t 30) (.t 30) 1 1 [.bool false]),(none,.asg 8 (.t 31) true)]
def c_f11_r10 : List GOp :=[(none,.r (.mov 32 (.t 1))),(none,.r (.len 33 (.t 32))),(none,.r (.mov 34 (.c (.int .i64 0))))]
def c_f11_r11 : List GOp :=[(none,.r (.bin 35 .lss 0 (.t 34) (.t 33)))]
def c_f11_r12 : List GOp :=[(none,.r (.idxA 36 (.t 32) (.t 34) 1)),(none,.r (.ld 37 (.t 36) 1 false)),(none,.asg 10 (.t 37) true)]
def c_f11_r13 : List GOp :=[(none,.r (.mov 38 (.t 8))),(none,.r (.mov 39 (.t 10))),(none,.r (.idxA 40 (.t 38) (.t 39) 1)),(none,.r (.ld 41 (.t 40) 1 false))]
def c_f11_r14 : List GOp :=[(none,.asg 4 (.c (.int .i64 0)) true),(none,.asg 5 (.c (.int .i64 6)) true)]
def c_f11_r15 : List GOp :=[(none,.r (.mov 42 (.t 8))),(none,.r (.mov 43 (.t 10))),(none,.r (.idxA 44 (.t 42) (.t 43) 1)),(none,.st (.t 44) (.c (.bool true)) 1)]
def c_f11_r16 : List GOp :=[(none,.r (.bin 45 .add 0 (.t 34) (.c (.int .i64 1)))),(none,.asg 34 (.t 45) true)]
def c_f11_r17 : List GOp :=[(none,.r (.fldA 46 (.t 2) 0)),(none,.r (.ld 47 (.t 46) 1 false)),(none,.r (.fldA 48 (.t 2) 1)),(none,.r (.ld 49 (.t 48) 1 false)),(none,.call 50 (.f 29) [(.t 47,false),(.t 49,false)]),(none,.r (.mov 51 (.t 1))),(none,.call 52 (.f 28) [(.t 50,false),(.t 51,false)]),
 (none,.asg 4 (.t 52) true),(none,.asg 5 (.c (.int .i64 0)) true)]
def v_f11 : List Nat := [0, 1, 2, 4, 5, 7, 8, 10, 13, 14, 15, 16, 17, 27, 32, 33, 34, 35, 41]
def c_f11 : ACode :=.seq (.reg [0,1,4,5,7,8,10,13,14,15,16,17,27,32,33,34,35,41] c_f11_r0 v_f11) (.seq (.seq (.reg [0,1,2,4,5,7,8,10,14,15,16,17,27,32,33,34,35,41] c_f11_r1 v_f11) (.cond (.t 13) (.seq (.reg [0,1,2,4,5,7,8,10,13,14,15,16,17,27,32,33,34,35,41] c_f11_r2 v_f11) .ret) .skip)) (.seq (.seq (.reg [0,
 1,2,4,5,7,8,10,13,17,27,32,33,34,35,41] c_f11_r3 v_f11) (.blk 0 (.loop (.seq (.reg [0,1,2,4,5,7,8,10,13,14,15,16,27,32,33,34,35,41] c_f11_r4 v_f11) (.seq (.cond (.t 17) .skip (.exit 0)) (.seq (.blk 1 (.seq (.reg [0,1,2,4,5,7,8,10,13,14,15,16,17,27,32,33,34,35,41] c_f11_r5 v_f11) (.seq (.reg [0,
 1,2,4,5,7,8,10,13,14,15,16,17,32,33,34,35,41] c_f11_r6 v_f11) (.cond (.t 27) (.seq (.reg [0,1,2,4,5,7,8,10,13,14,15,16,17,27,32,33,34,35,41] c_f11_r7 v_f11) .ret) .skip)))) (.reg [0,1,2,4,5,7,8,10,13,14,15,16,17,27,32,33,34,35,41] c_f11_r8 v_f11))))))) (.seq (.reg [0,
 1,2,4,5,7,8,10,13,14,15,16,17,27,32,33,34,35,41] c_f11_r9 v_f11) (.seq (.seq (.reg [0,1,2,4,5,7,8,10,13,14,15,16,17,27,35,41] c_f11_r10 v_f11) (.blk 2 (.loop (.seq (.reg [0,1,2,4,5,7,8,10,13,14,15,16,17,27,32,33,34,41] c_f11_r11 v_f11) (.seq (.cond (.t 35) .skip (.exit 2)) (.seq (.blk 3 (.seq (.reg [0,
 1,2,4,5,7,8,10,13,14,15,16,17,27,32,33,34,35,41] c_f11_r12 v_f11) (.seq (.seq (.reg [0,1,2,4,5,7,8,10,13,14,15,16,17,27,32,33,34,35] c_f11_r13 v_f11) (.cond (.t 41) (.seq (.reg [0,1,2,4,5,7,8,10,13,14,15,16,17,27,32,33,34,35,41] c_f11_r14 v_f11) .ret) .skip)) (.reg [0,
 1,2,4,5,7,8,10,13,14,15,16,17,27,32,33,34,35,41] c_f11_r15 v_f11)))) (.reg [0,1,2,4,5,7,8,10,13,14,15,16,17,27,32,33,34,35,41] c_f11_r16 v_f11))))))) (.seq (.reg [0,1,2,4,5,7,8,10,13,14,15,16,17,27,32,33,34,35,41] c_f11_r17 v_f11) .ret)))))
abbrev n_f11 : Nat := 11
theorem s_f11 : stripF Try.prog [4, 5] v_f11 Try.f11 = some (c_f11, [(.tmp 4), (.tmp 5)]) := by kernel_rfl
theorem go_f11 {L : List (List Nat)} {args : List AVal} {h : Heap} {Q : AVal → Heap → Prop} (hl : args.length = 2) (H : Wlk Try.prog [4, 5] Try.f11.ntmps v_f11 L c_f11 (ends L [(.tmp 4), (.tmp 5)] Q) (entry v_f11 args h)) : ACalls Try.prog L n_f11 args h Q :=
 acalls_of_strip mix Try.func11 s_f11 (by rw [hl]; exact Nat.le_of_ble_eq_true rfl) H
def c_f13_r0 : List GOp :=[(none,.asg 0 (.c (.bool false)) true)]
def c_f13_r1 : List GOp :=[(none,.bld 4 [((0,1),(.c (.int .i64 0),true)),((1,1),(.c (.int .i64 1),true))] [.int .i64 0,.int .i64 0]),(none,.bld 5 [((0,1),(.c (.int .i64 0),true)),((1,1),(.c (.int .i64 2),true))] [.int .i64 0,.int .i64 0]),(none,.bld 6 [((0,1),(.c (.int .i64 0),true)),((1,
 1),(.c (.int .i64 3),true))] [.int .i64 0,.int .i64 0]),(none,.blds 7 3 2 [((0,2),(.t 4,true)),((2,2),(.t 5,true)),((4,2),(.t 6,true))] [.int .i64 0,.int .i64 0]),(none,.bld 8 [((0,1),(.c (.int .i64 4),true)),((1,1),(.t 7,true))] [.int .i64 0,.slice none 0 0]),(none,.alloc 1 [.int .i64 0,.slice none 0 0]),
 (none,.st (.t 1) (.t 8) 2)]
def c_f13_r2 : List GOp :=[(none,.r (.ld 10 (.t 1) 2 true)),(none,.blds 11 1 1 [((0,1),(.c (.int .i64 0),true))] [.int .i64 0]),(none,.call 12 (.f 11) [(.t 10,false),(.t 11,false)]),(none,.r (.mov 9 (.t 12))),(none,.r (.ext 13 (.t 9) 0)),(none,.r (.ext 14 (.t 9) 1)),(none,.asg 2 (.t 13) true),
 (none,.asg 3 (.t 14) true)]
def c_f13_r3 : List GOp :=[(none,.r (.mov 15 (.t 3))),(none,.r (.bin 16 .eql 0 (.t 15) (.c (.int .i64 0)))),(none,.r (.mov 17 (.t 16))),(some (17,true),.r (.mov 18 (.t 2))),(some (17,true),.r (.bin 19 .eql 0 (.t 18) (.c (.int .i64 2)))),(none,.r (.pick 20 (.t 17) (.t 19) (.c (.bool false)))),
 (none,.r (.mov 21 (.t 20))),(some (21,true),.r (.ld 22 (.t 1) 2 true)),(some (21,true),.blds 23 4 1 [((0,1),(.c (.int .i64 1),true)),((1,1),(.c (.int .i64 0),true)),((2,1),(.c (.int .i64 (- (0 + 1))),true)),((3,1),(.c (.int .i64 (- (0 + 1))),true))] [.int .i64 0]),(some (21,true),.blds 24 1 1 [((0,1),
 (.c (.int .i64 0),true))] [.int .i64 0]),(some (21,true),.call 25 (.f 15) [(.t 22,false),(.t 23,false),(.t 24,false)]),(none,.r (.pick 26 (.t 21) (.t 25) (.c (.bool false)))),(none,.asg 0 (.t 26) true)]
def v_f13 : List Nat := [0, 1, 2, 3]
def c_f13 : ACode :=.seq (.reg [0,1,2,3] c_f13_r0 v_f13) (.seq (.reg [0,2,3] c_f13_r1 v_f13) (.seq (.reg [0,1,2,3] c_f13_r2 v_f13) (.seq (.reg [0,1,2,3] c_f13_r3 v_f13) .ret)))
abbrev n_f13 : Nat := 13
theorem s_f13 : stripF Try.prog [0] v_f13 Try.f13 = some (c_f13, [(.tmp 0)]) := by kernel_rfl
theorem go_f13 {L : List (List Nat)} {args : List AVal} {h : Heap} {Q : AVal → Heap → Prop} (hl : args.length = 0) (H : Wlk Try.prog [0] Try.f13.ntmps v_f13 L c_f13 (ends L [(.tmp 0)] Q) (entry v_f13 args h)) : ACalls Try.prog L n_f13 args h Q :=
 acalls_of_strip mix Try.func13 s_f13 (by rw [hl]; exact Nat.le_of_ble_eq_true rfl) H
def c_f15_r0 : List GOp :=[(none,.box 3 (.t 0)),(none,.asg 6 (.c (.bool false)) true)]
def c_f15_r1 : List GOp :=[(none,.r (.ld 10 (.t 3) 2 true)),(none,.r (.mov 11 (.t 2))),(none,.call 12 (.f 11) [(.t 10,false),(.t 11,false)]),(none,.r (.mov 9 (.t 12))),(none,.r (.ext 13 (.t 9) 0)),(none,.r (.ext 14 (.t 9) 1)),(none,.asg 7 (.t 13) true),(none,.asg 8 (.t 14) true)]
def c_f15_r2 : Tree :=.take [1,2,3,4,5,6,7,8,9,10,11,12,13,14,15,16,17] (none,.r (.mov 15 (.t 8))) (.take [2,3,4,5,6,7,8,9,10,11,12,13,14,15,16,17] (none,.r (.bin 16 .eql 0 (.t 15) (.c (.int .i64 0)))) (.take [3,4,5,6,7,8,9,10,11,12,13,14,15,16,17] (none,.r (.mov 17 (.t 16))) (.take [5,6,7,
 8,9,10,11,12,13,14,15,16,17] (some (17,true),.r (.ld 18 (.t 3) 2 true)) (.take [5,6,7,8,9,10,11,12,13,14,15,16,17] (some (17,true),.r (.mov 19 (.t 1))) (.one 5 (some (17,true),.call 20 (.f 31) [(.t 18,false),(.t 19,false)]) (.take [7,8,9,10,11,12,13,14,15,16,17] (none,.r (.pick 21 (.t 17) (.t 20) (.c (.bool false)))) (.take [8,
 9,10,11,12,13,14,15,16,17] (none,.r (.mov 22 (.t 21))) (.take [9,10,15,16,17] (some (22,true),.r (.mov 23 (.t 1))) (.take [12,14,15,16,17] (some (22,true),.r (.fldA 26 (.t 3) 0)) (.take [14,15,16,17] (some (22,true),.r (.ld 27 (.t 26) 1 false)) (.take [14,15,16,17] (some (22,true),.r (.mov 28 (.t 7))) (.take [15,
 16,17] (some (22,true),.r (.bin 29 .sub 0 (.t 27) (.t 28))) (.one 9 (some (22,true),.call 24 (.f 26) [(.t 23,false)]) (.take [15,16,17] (some (22,true),.r (.bin 25 .mul 0 (.c (.int .i64 2)) (.t 24))) (.take [16,17] (some (22,true),.r (.bin 30 .eql 0 (.t 25) (.t 29))) (.take [17] (none,.r (.pick 31 (.t 22) (.t 30) (.c (.bool false)))) (.one 17 (none,
 .asg 6 (.t 31) true) .done)))))))))))))))))
def v_f15 : List Nat := [0, 1, 2, 3, 6, 7, 8]
def c_f15 : ACode :=.seq (.reg [0,1,2,6,7,8] c_f15_r0 v_f15) (.seq (.reg [0,1,2,3,6,7,8] c_f15_r1 v_f15) (.seq (.draw [0,1,2,3,6,7,8] c_f15_r2 v_f15) .ret))
abbrev n_f15 : Nat := 15
theorem s_f15 : stripF Try.prog [6] v_f15 Try.f15 = some (c_f15, [(.tmp 6)]) := by kernel_rfl
theorem go_f15 {L : List (List Nat)} {args : List AVal} {h : Heap} {Q : AVal → Heap → Prop} (hl : args.length = 3) (H : Wlk Try.prog [6] Try.f15.ntmps v_f15 L c_f15 (ends L [(.tmp 6)] Q) (entry v_f15 args h)) : ACalls Try.prog L n_f15 args h Q :=
 acalls_of_strip mix Try.func15 s_f15 (by rw [hl]; exact Nat.le_of_ble_eq_true rfl) H
def c_f23_r0 : List GOp :=[(none,.box 1 (.t 0)),(none,.asg 2 (.c (.slice none 0 0)) true),(none,.alloc 3 [.int .i64 0,.int .i64 0]),(none,.asg 4 (.c (.int .i64 0)) true)]
def c_f23_r1 : List GOp :=[(none,.r (.ld 8 (.t 1) 2 true)),(none,.call 9 (.f 27) [(.t 8,false)]),(none,.r (.notb 10 (.t 9)))]
def c_f23_r2 : List GOp :=[(none,.bld 11 [] [.int .i64 0,.int .i64 0]),(none,.asg 2 (.c (.slice none 0 0)) true),(none,.st (.t 3) (.t 11) 2),(none,.asg 4 (.c (.int .i64 3)) true)]
def c_f23_r3 : List GOp :=[(none,.r (.ld 12 (.t 1) 2 true)),(none,.call 13 (.f 39) [(.t 12,false)]),(none,.asg 5 (.t 13) true)]
def c_f23_r4 : List GOp :=[(none,.r (.fldA 15 (.t 1) 0)),(none,.r (.ld 16 (.t 15) 1 false)),(none,.r (.fldA 17 (.t 1) 1)),(none,.r (.ld 18 (.t 17) 1 false)),(none,.call 19 (.f 29) [(.t 16,false),(.t 18,false)]),(none,.r (.mov 20 (.t 5))),(none,.call 21 (.f 40) [(.t 19,false),(.t 20,false)]),
 (none,.r (.mov 14 (.t 21))),(none,.r (.ext 22 (.t 14) 0)),(none,.r (.ext 23 (.t 14) 1)),(none,.alloc 7 [.int .i64 0,.int .i64 0]),(none,.asg 6 (.t 22) true),(none,.st (.t 7) (.t 23) 2)]
def c_f23_r5 : Tree :=.take [2,3,4] (none,.r (.mov 24 (.t 5))) (.take [3,4] (none,.r (.ld 25 (.t 7) 2 true)) (.one 2 (none,.asg 2 (.t 24) true) (.one 3 (none,.st (.t 3) (.t 25) 2) (.one 4 (none,.asg 4 (.c (.int .i64 0)) true) .done))))
def v_f23 : List Nat := [0, 1, 2, 3, 4, 5, 6, 7, 10]
def c_f23 : ACode :=.seq (.reg [0,2,4,5,6,7,10] c_f23_r0 v_f23) (.seq (.seq (.reg [0,1,2,3,4,5,6,7] c_f23_r1 v_f23) (.cond (.t 10) (.seq (.reg [0,1,2,3,4,5,6,7,10] c_f23_r2 v_f23) .ret) .skip)) (.seq (.reg [0,1,2,3,4,5,6,7,10] c_f23_r3 v_f23) (.seq (.reg [0,
 1,2,3,4,5,6,10] c_f23_r4 v_f23) (.seq (.draw [0,1,2,3,4,5,6,7,10] c_f23_r5 v_f23) .ret))))
abbrev n_f23 : Nat := 23
theorem s_f23 : stripF Try.prog [2, 4] v_f23 Try.f23 = some (c_f23, [(.tmp 2), (.cell 3 2 true), (.tmp 4)]) := by kernel_rfl
theorem go_f23 {L : List (List Nat)} {args : List AVal} {h : Heap} {Q : AVal → Heap → Prop} (hl : args.length = 1) (H : Wlk Try.prog [2, 4] Try.f23.ntmps v_f23 L c_f23 (ends L [(.tmp 2), (.cell 3 2 true), (.tmp 4)] Q) (entry v_f23 args h)) : ACalls Try.prog L n_f23 args h Q :=
 acalls_of_strip mix Try.func23 s_f23 (by rw [hl]; exact Nat.le_of_ble_eq_true rfl) H
def c_f26_r0 : List GOp :=[(none,.asg 2 (.c (.int .i64 0)) true)]
def c_f26_r1 : List GOp :=[(none,.r (.mov 3 (.t 0))),(none,.call 4 (.f 45) [(.t 3,false),(.f 46,false)]),(none,.r (.len 5 (.t 4))),(none,.r (.bin 6 .quo 0 (.t 5) (.c (.int .i64 2)))),(none,.asg 2 (.t 6) true)]
def v_f26 : List Nat := [0, 2]
def c_f26 : ACode :=.seq (.reg [0,2] c_f26_r0 v_f26) (.seq (.reg [0,2] c_f26_r1 v_f26) .ret)
abbrev n_f26 : Nat := 26
theorem s_f26 : stripF Try.prog [2] v_f26 Try.f26 = some (c_f26, [(.tmp 2)]) := by kernel_rfl
theorem go_f26 {L : List (List Nat)} {args : List AVal} {h : Heap} {Q : AVal → Heap → Prop} (hl : args.length = 1) (H : Wlk Try.prog [2] Try.f26.ntmps v_f26 L c_f26 (ends L [(.tmp 2)] Q) (entry v_f26 args h)) : ACalls Try.prog L n_f26 args h Q :=
 acalls_of_strip mix Try.func26 s_f26 (by rw [hl]; exact Nat.le_of_ble_eq_true rfl) H
def c_f27_r0 : List GOp :=[(none,.box 1 (.t 0)),(none,.asg 2 (.c (.bool false)) true)]
def c_f27_r1 : List GOp :=[(none,.r (.fldA 6 (.t 1) 0)),(none,.r (.ld 7 (.t 6) 1 false)),(none,.r (.bin 8 .lss 0 (.t 7) (.c (.int .i64 0)))),(none,.r (.mov 9 (.t 8))),(some (9,false),.r (.fldA 10 (.t 1) 0)),(some (9,false),.r (.ld 11 (.t 10) 1 false)),(some (9,false),.r (.bin 12 .gtr 0 (.t 11) (.c (.int .i64 4096)))),
 (none,.r (.pick 13 (.t 9) (.c (.bool true)) (.t 12))),(none,.r (.mov 14 (.t 13))),(some (14,false),.r (.fldA 15 (.t 1) 1)),(some (14,false),.r (.ld 16 (.t 15) 1 false)),(some (14,false),.r (.len 17 (.t 16))),(some (14,false),.r (.bin 18 .gtr 0 (.t 17) (.c (.int .i64 65536)))),(none,.r (.pick 19 (.t 14) (.c (.bool true)) (.t 18)))]
def c_f27_r2 : List GOp :=[(none,.asg 2 (.c (.bool false)) true)]
def c_f27_r3 : List GOp :=[(none,.bld 20 [] []),(none,.mkfn 21 (.func 47) [(.t 20,false)] []),(none,.asg 3 (.t 21) true)]
def c_f27_r4 : List GOp :=[(none,.r (.fldA 22 (.t 1) 1)),(none,.r (.ld 23 (.t 22) 1 false)),(none,.r (.len 24 (.t 23))),(none,.r (.mov 25 (.c (.int .i64 0))))]
def c_f27_r5 : List GOp :=[(none,.r (.bin 26 .lss 0 (.t 25) (.t 24)))]
def c_f27_r6 : List GOp :=[(none,.r (.mov 27 (.t 25))),(none,.r (.idxA 28 (.t 23) (.t 25) 2)),(none,.r (.ld 29 (.t 28) 2 true)),(none,.alloc 5 [.int .i64 0,.int .i64 0]),(none,.asg 4 (.t 27) true),(none,.st (.t 5) (.t 29) 2)]
def c_f27_r7 : Tree :=.take [1,2,3,4,5,6,7,8,9,10,11,12,13,14,15,16,17,18,19,20,21,22,23,24,25,26,27,28,29,30,31,32] (none,.r (.fldA 30 (.t 5) 0)) (.take [2,3,4,5,6,7,8,9,10,11,12,13,14,15,16,17,18,19,20,21,22,23,24,25,26,27,28,29,30,31,32] (none,.r (.ld 31 (.t 30) 1 false)) (.take [3,4,5,6,7,
 8,9,10,11,12,13,14,15,16,17,18,19,20,21,22,23,24,25,26,27,28,29,30,31,32] (none,.r (.bin 32 .lss 0 (.t 31) (.c (.int .i64 0)))) (.take [4,5,6,7,8,9,10,11,12,13,14,15,16,17,18,19,20,21,22,23,24,25,26,27,28,29,30,31,32] (none,.r (.mov 33 (.t 32))) (.take [5,8,9,10,11,12,13,14,15,16,17,18,19,20,21,22,23,
 24,25,26,27,28,29,30,31,32] (some (33,false),.r (.fldA 34 (.t 5) 0)) (.take [8,9,10,11,12,13,14,15,16,17,18,19,20,21,22,23,24,25,26,27,28,29,30,31,32] (some (33,false),.r (.ld 35 (.t 34) 1 false)) (.take [7,8,9,10,11,12,13,14,15,16,17,18,19,20,21,22,23,24,25,26,27,28,29,30,31,32] (some (33,false),.r (.fldA 36 (.t 5) 1)) (.take [8,
 9,10,11,12,13,14,15,16,17,18,19,20,21,22,23,24,25,26,27,28,29,30,31,32] (some (33,false),.r (.ld 37 (.t 36) 1 false)) (.take [9,10,11,12,13,14,15,16,17,18,19,20,21,22,23,24,25,26,27,28,29,30,31,32] (some (33,false),.r (.bin 38 .geq 0 (.t 35) (.t 37))) (.take [10,11,12,13,14,15,16,17,18,19,20,21,22,23,
 24,25,26,27,28,29,30,31,32] (none,.r (.pick 39 (.t 33) (.c (.bool true)) (.t 38))) (.take [11,12,13,14,15,16,17,18,19,20,21,22,23,24,25,26,27,28,29,30,31,32] (none,.r (.mov 40 (.t 39))) (.take [12,15,16,17,18,19,20,21,22,23,24,25,26,27,28,29,30,31,32] (some (40,false),.r (.fldA 41 (.t 5) 1)) (.take [15,
 16,17,18,19,20,21,22,23,24,25,26,27,28,29,30,31,32] (some (40,false),.r (.ld 42 (.t 41) 1 false)) (.take [14,15,16,17,18,19,20,21,22,23,24,25,26,27,28,29,30,31,32] (some (40,false),.r (.fldA 43 (.t 1) 0)) (.take [15,16,17,18,19,20,21,22,23,24,25,26,27,28,29,30,31,32] (some (40,false),.r (.ld 44 (.t 43) 1 false)) (.take [16,
 17,18,19,20,21,22,23,24,25,26,27,28,29,30,31,32] (some (40,false),.r (.bin 45 .geq 0 (.t 42) (.t 44))) (.take [17,18,19,20,21,22,23,24,25,26,27,28,29,30,31,32] (none,.r (.pick 46 (.t 40) (.c (.bool true)) (.t 45))) (.take [18,19,20,21,22,23,24,25,26,27,28,29,30,31,32] (none,.r (.mov 47 (.t 46))) (.take [19,
 20,21,22,23,24,25,26,27,28,29,30,31,32] (some (47,false),.r (.mov 48 (.t 4))) (.take [20,21,22,23,24,25,26,27,28,29,30,31,32] (some (47,false),.r (.bin 49 .gtr 0 (.t 48) (.c (.int .i64 0)))) (.take [21,22,23,24,25,26,27,28,29,30,31,32] (some (47,false),.r (.mov 50 (.t 49))) (.take [29,30,31,32] (some (50,
 true),.r (.mov 51 (.t 3))) (.take [23,26,27,29,30,31,32] (some (50,true),.r (.fldA 52 (.t 1) 1)) (.take [26,27,29,30,31,32] (some (50,true),.r (.ld 53 (.t 52) 1 false)) (.take [25,26,27,29,30,31,32] (some (50,true),.r (.mov 54 (.t 4))) (.take [26,27,29,30,31,32] (some (50,true),.r (.bin 55 .sub 0 (.t 54) (.c (.int .i64 1)))) (.take [27,
 29,30,31,32] (some (50,true),.r (.idxA 56 (.t 53) (.t 55) 2)) (.take [29,30,31,32] (some (50,true),.r (.ld 57 (.t 56) 2 true)) (.take [29,30,31,32] (some (50,true),.r (.ld 58 (.t 5) 2 true)) (.one 29 (some (50,true),.call 59 (.t 51) [(.t 57,false),(.t 58,false)]) (.take [31,32] (some (50,true),.r (.bin 60 .geq 0 (.t 59) (.c (.int .i64 0)))) (.take [32] (some (47,
 false),.r (.pick 61 (.t 50) (.t 60) (.c (.bool false)))) (.take [] (none,.r (.pick 62 (.t 47) (.c (.bool true)) (.t 61))) .done))))))))))))))))))))))))))))))))
def c_f27_r8 : List GOp :=[(none,.asg 2 (.c (.bool false)) true)]
def c_f27_r9 : List GOp :=[(none,.r (.bin 63 .add 0 (.t 25) (.c (.int .i64 1)))),(none,.asg 25 (.t 63) true)]
def c_f27_r10 : List GOp :=[(none,.asg 2 (.c (.bool true)) true)]
def v_f27 : List Nat := [0, 1, 2, 3, 4, 5, 19, 23, 24, 25, 26, 62]
def c_f27 : ACode :=.seq (.reg [0,2,3,4,5,19,23,24,25,26,62] c_f27_r0 v_f27) (.seq (.seq (.reg [0,1,2,3,4,5,23,24,25,26,62] c_f27_r1 v_f27) (.cond (.t 19) (.seq (.reg [0,1,2,3,4,5,19,23,24,25,26,62] c_f27_r2 v_f27) .ret) .skip)) (.seq (.reg [0,1,
 2,3,4,5,19,23,24,25,26,62] c_f27_r3 v_f27) (.seq (.seq (.reg [0,1,2,3,4,5,19,26,62] c_f27_r4 v_f27) (.blk 0 (.loop (.seq (.reg [0,1,2,3,4,5,19,23,24,25,62] c_f27_r5 v_f27) (.seq (.cond (.t 26) .skip (.exit 0)) (.seq (.blk 1 (.seq (.reg [0,1,2,3,4,19,23,
 24,25,26,62] c_f27_r6 v_f27) (.seq (.draw [0,1,2,3,4,5,19,23,24,25,26] c_f27_r7 v_f27) (.cond (.t 62) (.seq (.reg [0,1,2,3,4,5,19,23,24,25,26,62] c_f27_r8 v_f27) .ret) .skip)))) (.reg [0,1,2,3,4,5,19,23,24,25,26,62] c_f27_r9 v_f27))))))) (.seq (.reg [0,
 1,2,3,4,5,19,23,24,25,26,62] c_f27_r10 v_f27) .ret))))
abbrev n_f27 : Nat := 27
theorem s_f27 : stripF Try.prog [2] v_f27 Try.f27 = some (c_f27, [(.tmp 2)]) := by kernel_rfl
theorem go_f27 {L : List (List Nat)} {args : List AVal} {h : Heap} {Q : AVal → Heap → Prop} (hl : args.length = 1) (H : Wlk Try.prog [2] Try.f27.ntmps v_f27 L c_f27 (ends L [(.tmp 2)] Q) (entry v_f27 args h)) : ACalls Try.prog L n_f27 args h Q :=
 acalls_of_strip mix Try.func27 s_f27 (by rw [hl]; exact Nat.le_of_ble_eq_true rfl) H
def c_f28_r0 : List GOp :=[(none,.asg 4 (.c (.int .i64 0)) true)]
def c_f28_r1 : List GOp :=[(none,.bld 9 [] [.int .i64 0]),(none,.box 10 (.t 9)),(none,.asg 5 (.t 10) true)]
def c_f28_r2 : List GOp :=[(none,.r (.mov 11 (.t 5))),(none,.mkfn 12 (.func 48) [(.t 11,false)] []),(none,.asg 6 (.t 12) true)]
def c_f28_r3 : List GOp :=[(none,.r (.mov 13 (.t 0))),(none,.r (.mov 14 (.t 1))),(none,.call 15 (.f 49) [(.t 13,false),(.t 14,false)]),(none,.r (.len 16 (.t 15))),(none,.r (.mov 17 (.c (.int .i64 0))))]
def c_f28_r4 : List GOp :=[(none,.r (.bin 18 .lss 0 (.t 17) (.t 16)))]
def c_f28_r5 : List GOp :=[(none,.r (.idxA 19 (.t 15) (.t 17) 1)),(none,.r (.ld 20 (.t 19) 1 false)),(none,.asg 8 (.t 20) true)]
def c_f28_r6 : List GOp :=[(none,.r (.mov 21 (.t 6))),(none,.r (.mov 22 (.t 8))),(none,.call 23 (.t 21) [(.t 22,false)])]
def c_f28_r7 : List GOp :=[(none,.r (.bin 24 .add 0 (.t 17) (.c (.int .i64 1)))),(none,.asg 17 (.t 24) true)]
def c_f28_r8 : List GOp :=[(none,.r (.mov 25 (.t 5))),(none,.r (.nilck 26 (.t 25))),(none,.r (.fldA 27 (.t 26) 0)),(none,.r (.ld 28 (.t 27) 1 false)),(none,.r (.mov 29 (.t 1))),(none,.r (.len 30 (.t 29))),(none,.r (.bin 31 .sub 0 (.t 28) (.t 30))),(none,.asg 4 (.t 31) true)]
def v_f28 : List Nat := [0, 1, 4, 5, 6, 8, 15, 16, 17, 18]
def c_f28 : ACode :=.seq (.reg [0,1,4,5,6,8,15,16,17,18] c_f28_r0 v_f28) (.seq (.reg [0,1,4,5,6,8,15,16,17,18] c_f28_r1 v_f28) (.seq (.reg [0,1,4,5,6,8,15,16,17,18] c_f28_r2 v_f28) (.seq (.seq (.reg [0,1,4,5,6,8,18] c_f28_r3 v_f28) (.blk 0 (.loop (.seq (.reg [0,
 1,4,5,6,8,15,16,17] c_f28_r4 v_f28) (.seq (.cond (.t 18) .skip (.exit 0)) (.seq (.blk 1 (.seq (.reg [0,1,4,5,6,8,15,16,17,18] c_f28_r5 v_f28) (.reg [0,1,4,5,6,8,15,16,17,18] c_f28_r6 v_f28))) (.reg [0,1,4,5,6,8,15,16,17,18] c_f28_r7 v_f28))))))) (.seq (.reg [0,
 1,4,5,6,8,15,16,17,18] c_f28_r8 v_f28) .ret))))
abbrev n_f28 : Nat := 28
theorem s_f28 : stripF Try.prog [4] v_f28 Try.f28 = some (c_f28, [(.tmp 4)]) := by kernel_rfl
theorem go_f28 {L : List (List Nat)} {args : List AVal} {h : Heap} {Q : AVal → Heap → Prop} (hl : args.length = 2) (H : Wlk Try.prog [4] Try.f28.ntmps v_f28 L c_f28 (ends L [(.tmp 4)] Q) (entry v_f28 args h)) : ACalls Try.prog L n_f28 args h Q :=
 acalls_of_strip mix Try.func28 s_f28 (by rw [hl]; exact Nat.le_of_ble_eq_true rfl) H
def c_f29_r0 : List GOp :=[(none,.asg 4 (.c (.slice none 0 0)) true)]
def c_f29_r1 : List GOp :=[(none,.r (.mov 10 (.t 0))),(none,.mk 11 (.t 10) (.t 10) 1 24 [.slice none 0 0]),(none,.asg 5 (.t 11) true)]
def c_f29_r2 : List GOp :=[(none,.r (.mov 12 (.t 1))),(none,.r (.len 13 (.t 12))),(none,.r (.mov 14 (.c (.int .i64 0))))]
def c_f29_r3 : List GOp :=[(none,.r (.bin 15 .lss 0 (.t 14) (.t 13)))]
def c_f29_r4 : List GOp :=[(none,.r (.idxA 16 (.t 12) (.t 14) 2)),(none,.r (.ld 17 (.t 16) 2 true)),(none,.alloc 7 [.int .i64 0,.int .i64 0]),(none,.st (.t 7) (.t 17) 2)]
def c_f29_r5 : Tree :=.take [12,13] (none,.r (.mov 18 (.t 5))) (.take [2,12,13] (none,.r (.fldA 19 (.t 7) 1)) (.take [12,13] (none,.r (.ld 20 (.t 19) 1 false)) (.take [6,7,11,12,13] (none,.r (.mov 21 (.t 5))) (.take [5,6,7,11,12,13] (none,.r (.fldA 22 (.t 7) 1)) (.take [6,7,11,12,13] (none,.r (.ld 23 (.t 22) 1 false)) (.take [7,
 11,12,13] (none,.r (.idxA 24 (.t 21) (.t 23) 1)) (.take [11,12,13] (none,.r (.ld 25 (.t 24) 1 false)) (.take [9,10,11,12,13] (none,.r (.fldA 26 (.t 7) 0)) (.take [10,11,12,13] (none,.r (.ld 27 (.t 26) 1 false)) (.one 10 (none,.blds 28 1 1 [((0,1),(.t 27,true))] [.int .i64 0]) (.one 11 (none,.app 29 (.t 25) (.t 28) 1 8) (.take [13] (none,
 .r (.idxA 30 (.t 18) (.t 20) 1)) (.one 13 (none,.st (.t 30) (.t 29) 1) .done)))))))))))))
def c_f29_r6 : List GOp :=[(none,.r (.bin 31 .add 0 (.t 14) (.c (.int .i64 1)))),(none,.asg 14 (.t 31) true)]
def c_f29_r7 : List GOp :=[(none,.r (.mov 32 (.t 1))),(none,.r (.len 33 (.t 32))),(none,.r (.mov 34 (.c (.int .i64 0))))]
def c_f29_r8 : List GOp :=[(none,.r (.bin 35 .lss 0 (.t 34) (.t 33)))]
def c_f29_r9 : List GOp :=[(none,.r (.idxA 36 (.t 32) (.t 34) 2)),(none,.r (.ld 37 (.t 36) 2 true)),(none,.alloc 9 [.int .i64 0,.int .i64 0]),(none,.st (.t 9) (.t 37) 2)]
def c_f29_r10 : Tree :=.take [12,13] (none,.r (.mov 38 (.t 5))) (.take [2,12,13] (none,.r (.fldA 39 (.t 9) 0)) (.take [12,13] (none,.r (.ld 40 (.t 39) 1 false)) (.take [6,7,11,12,13] (none,.r (.mov 41 (.t 5))) (.take [5,6,7,11,12,13] (none,.r (.fldA 42 (.t 9) 0)) (.take [6,7,11,12,13] (none,.r (.ld 43 (.t 42) 1 false)) (.take [7,
 11,12,13] (none,.r (.idxA 44 (.t 41) (.t 43) 1)) (.take [11,12,13] (none,.r (.ld 45 (.t 44) 1 false)) (.take [9,10,11,12,13] (none,.r (.fldA 46 (.t 9) 1)) (.take [10,11,12,13] (none,.r (.ld 47 (.t 46) 1 false)) (.one 10 (none,.blds 48 1 1 [((0,1),(.t 47,true))] [.int .i64 0]) (.one 11 (none,.app 49 (.t 45) (.t 48) 1 8) (.take [13] (none,
 .r (.idxA 50 (.t 38) (.t 40) 1)) (.one 13 (none,.st (.t 50) (.t 49) 1) .done)))))))))))))
def c_f29_r11 : List GOp :=[(none,.r (.bin 51 .add 0 (.t 34) (.c (.int .i64 1)))),(none,.asg 34 (.t 51) true)]
def c_f29_r12 : List GOp :=[(none,.r (.mov 52 (.t 5))),(none,.asg 4 (.t 52) true)]
def v_f29 : List Nat := [0, 1, 4, 5, 7, 9, 12, 13, 14, 15, 32, 33, 34, 35]
def c_f29 : ACode :=.seq (.reg [0,1,4,5,7,9,12,13,14,15,32,33,34,35] c_f29_r0 v_f29) (.seq (.reg [0,1,4,5,7,9,12,13,14,15,32,33,34,35] c_f29_r1 v_f29) (.seq (.seq (.reg [0,1,4,5,7,9,15,32,33,34,35] c_f29_r2 v_f29) (.blk 0 (.loop (.seq (.reg [0,1,
 4,5,7,9,12,13,14,32,33,34,35] c_f29_r3 v_f29) (.seq (.cond (.t 15) .skip (.exit 0)) (.seq (.blk 1 (.seq (.reg [0,1,4,5,9,12,13,14,15,32,33,34,35] c_f29_r4 v_f29) (.draw [0,1,4,5,7,9,12,13,14,15,32,33,34,35] c_f29_r5 v_f29))) (.reg [0,1,4,5,7,9,12,13,14,
 15,32,33,34,35] c_f29_r6 v_f29))))))) (.seq (.seq (.reg [0,1,4,5,7,9,12,13,14,15,35] c_f29_r7 v_f29) (.blk 2 (.loop (.seq (.reg [0,1,4,5,7,9,12,13,14,15,32,33,34] c_f29_r8 v_f29) (.seq (.cond (.t 35) .skip (.exit 2)) (.seq (.blk 3 (.seq (.reg [0,1,4,5,7,
 12,13,14,15,32,33,34,35] c_f29_r9 v_f29) (.draw [0,1,4,5,7,9,12,13,14,15,32,33,34,35] c_f29_r10 v_f29))) (.reg [0,1,4,5,7,9,12,13,14,15,32,33,34,35] c_f29_r11 v_f29))))))) (.seq (.reg [0,1,4,5,7,9,12,13,14,15,32,33,34,35] c_f29_r12 v_f29) .ret))))
abbrev n_f29 : Nat := 29
theorem s_f29 : stripF Try.prog [4] v_f29 Try.f29 = some (c_f29, [(.tmp 4)]) := by kernel_rfl
theorem go_f29 {L : List (List Nat)} {args : List AVal} {h : Heap} {Q : AVal → Heap → Prop} (hl : args.length = 2) (H : Wlk Try.prog [4] Try.f29.ntmps v_f29 L c_f29 (ends L [(.tmp 4)] Q) (entry v_f29 args h)) : ACalls Try.prog L n_f29 args h Q :=
 acalls_of_strip mix Try.func29 s_f29 (by rw [hl]; exact Nat.le_of_ble_eq_true rfl) H
def c_f31_r0 : List GOp :=[(none,.box 2 (.t 0)),(none,.asg 4 (.c (.bool false)) true)]
def c_f31_r1 : List GOp :=[(none,.r (.ld 10 (.t 2) 2 true)),(none,.call 11 (.f 27) [(.t 10,false)]),(none,.r (.notb 12 (.t 11))),(none,.r (.mov 13 (.t 12))),(some (13,false),.r (.mov 14 (.t 1))),(some (13,false),.r (.len 15 (.t 14))),(some (13,false),.r (.fldA 16 (.t 2) 0)),(some (13,false),.r (.ld 17 (.t 16) 1 false)),
 (some (13,false),.r (.bin 18 .neq 0 (.t 15) (.t 17))),(none,.r (.pick 19 (.t 13) (.c (.bool true)) (.t 18)))]
def c_f31_r2 : List GOp :=[(none,.asg 4 (.c (.bool false)) true)]
def c_f31_r3 : List GOp :=[(none,.r (.fldA 20 (.t 2) 0)),(none,.r (.ld 21 (.t 20) 1 false)),(none,.mk 22 (.t 21) (.t 21) 1 1 [.bool false]),(none,.asg 5 (.t 22) true)]
def c_f31_r4 : List GOp :=[(none,.r (.fldA 23 (.t 2) 1)),(none,.r (.ld 24 (.t 23) 1 false)),(none,.r (.len 25 (.t 24))),(none,.r (.mov 26 (.c (.int .i64 0))))]
def c_f31_r5 : List GOp :=[(none,.r (.bin 27 .lss 0 (.t 26) (.t 25)))]
def c_f31_r6 : List GOp :=[(none,.r (.idxA 28 (.t 24) (.t 26) 2)),(none,.r (.ld 29 (.t 28) 2 true)),(none,.alloc 7 [.int .i64 0,.int .i64 0]),(none,.st (.t 7) (.t 29) 2)]
def c_f31_r7 : Tree :=.take [3,4,7,8,9,10,11,12,13,14,15,16,17] (none,.r (.mov 30 (.t 1))) (.take [2,3,4,7,8,9,10,11,12,13,14,15,16,17] (none,.r (.fldA 31 (.t 7) 0)) (.take [3,4,7,8,9,10,11,12,13,14,15,16,17] (none,.r (.ld 32 (.t 31) 1 false)) (.take [4,7,8,9,10,11,12,13,14,15,16,17] (none,.r (.idxA 33 (.t 30) (.t 32) 1)) (.take [7,
 8,9,10,11,12,13,14,15,16,17] (none,.r (.ld 34 (.t 33) 1 false)) (.take [6,7,8,9,10,11,12,13,14,15,16,17] (none,.r (.fldA 35 (.t 7) 1)) (.take [7,8,9,10,11,12,13,14,15,16,17] (none,.r (.ld 36 (.t 35) 1 false)) (.take [8,9,10,11,12,13,14,15,16,17] (none,.r (.bin 37 .eql 0 (.t 34) (.t 36))) (.take [9,10,
 11,12,13,14,15,16,17] (none,.r (.mov 38 (.t 37))) (.take [12,13,16,17] (some (38,true),.r (.mov 39 (.t 1))) (.take [11,12,13,16,17] (some (38,true),.r (.fldA 40 (.t 7) 1)) (.take [12,13,16,17] (some (38,true),.r (.ld 41 (.t 40) 1 false)) (.take [13,16,17] (some (38,true),.r (.idxA 42 (.t 39) (.t 41) 1)) (.take [16,
 17] (some (38,true),.r (.ld 43 (.t 42) 1 false)) (.take [15,16,17] (some (38,true),.r (.fldA 44 (.t 7) 0)) (.take [16,17] (some (38,true),.r (.ld 45 (.t 44) 1 false)) (.take [17] (some (38,true),.r (.bin 46 .eql 0 (.t 43) (.t 45))) (.take [] (none,.r (.pick 47 (.t 38) (.t 46) (.c (.bool false)))) .done)))))))))))))))))
def c_f31_r8 : Tree :=.take [6,7,8,9] (none,.r (.mov 48 (.t 5))) (.take [2,6,7,8,9] (none,.r (.fldA 49 (.t 7) 0)) (.take [6,7,8,9] (none,.r (.ld 50 (.t 49) 1 false)) (.take [8,9] (none,.r (.mov 51 (.t 5))) (.take [5,8,9] (none,.r (.fldA 52 (.t 7) 1)) (.take [8,9] (none,.r (.ld 53 (.t 52) 1 false)) (.take [7,
 8,9] (none,.r (.idxA 54 (.t 48) (.t 50) 1)) (.one 7 (none,.st (.t 54) (.c (.bool true)) 1) (.take [9] (none,.r (.idxA 55 (.t 51) (.t 53) 1)) (.one 9 (none,.st (.t 55) (.c (.bool true)) 1) .done)))))))))
def c_f31_r9 : List GOp :=[(none,.r (.bin 56 .add 0 (.t 26) (.c (.int .i64 1)))),(none,.asg 26 (.t 56) true)]
def c_f31_r10 : List GOp :=[(none,.r (.mov 57 (.t 1))),(none,.r (.len 58 (.t 57))),(none,.r (.mov 59 (.c (.int .i64 0))))]
def c_f31_r11 : List GOp :=[(none,.r (.bin 60 .lss 0 (.t 59) (.t 58)))]
def c_f31_r12 : List GOp :=[(none,.r (.mov 61 (.t 59))),(none,.r (.idxA 62 (.t 57) (.t 59) 1)),(none,.r (.ld 63 (.t 62) 1 false)),(none,.asg 8 (.t 61) true),(none,.asg 9 (.t 63) true)]
def c_f31_r13 : List GOp :=[(none,.r (.mov 64 (.t 9))),(none,.r (.bin 65 .neq 0 (.t 64) (.c (.int .i64 (- (0 + 1)))))),(none,.r (.mov 66 (.t 65))),(some (66,true),.r (.mov 67 (.t 5))),(some (66,true),.r (.mov 68 (.t 8))),(some (66,true),.r (.idxA 69 (.t 67) (.t 68) 1)),(some (66,true),.r (.ld 70 (.t 69) 1 false)),
 (some (66,true),.r (.notb 71 (.t 70))),(none,.r (.pick 72 (.t 66) (.t 71) (.c (.bool false))))]
def c_f31_r14 : List GOp :=[(none,.asg 4 (.c (.bool false)) true)]
def c_f31_r15 : List GOp :=[(none,.r (.bin 73 .add 0 (.t 59) (.c (.int .i64 1)))),(none,.asg 59 (.t 73) true)]
def c_f31_r16 : List GOp :=[(none,.asg 4 (.c (.bool true)) true)]
def v_f31 : List Nat := [0, 1, 2, 4, 5, 7, 8, 9, 19, 24, 25, 26, 27, 47, 57, 58, 59, 60, 72]
def c_f31 : ACode :=.seq (.reg [0,1,4,5,7,8,9,19,24,25,26,27,47,57,58,59,60,72] c_f31_r0 v_f31) (.seq (.seq (.reg [0,1,2,4,5,7,8,9,24,25,26,27,47,57,58,59,60,72] c_f31_r1 v_f31) (.cond (.t 19) (.seq (.reg [0,1,2,4,5,7,8,9,19,24,25,26,27,47,57,58,59,60,72] c_f31_r2 v_f31) .ret) .skip)) (.seq (.reg [0,
 1,2,4,5,7,8,9,19,24,25,26,27,47,57,58,59,60,72] c_f31_r3 v_f31) (.seq (.seq (.reg [0,1,2,4,5,7,8,9,19,27,47,57,58,59,60,72] c_f31_r4 v_f31) (.blk 0 (.loop (.seq (.reg [0,1,2,4,5,7,8,9,19,24,25,26,47,57,58,59,60,72] c_f31_r5 v_f31) (.seq (.cond (.t 27) .skip (.exit 0)) (.seq (.blk 1 (.seq (.reg [0,
 1,2,4,5,8,9,19,24,25,26,27,47,57,58,59,60,72] c_f31_r6 v_f31) (.seq (.draw [0,1,2,4,5,7,8,9,19,24,25,26,27,57,58,59,60,72] c_f31_r7 v_f31) (.cond (.t 47) (.draw [0,1,2,4,5,7,8,9,19,24,25,26,27,47,57,58,59,60,72] c_f31_r8 v_f31) .skip)))) (.reg [0,1,2,4,
 5,7,8,9,19,24,25,26,27,47,57,58,59,60,72] c_f31_r9 v_f31))))))) (.seq (.seq (.reg [0,1,2,4,5,7,8,9,19,24,25,26,27,47,60,72] c_f31_r10 v_f31) (.blk 2 (.loop (.seq (.reg [0,1,2,4,5,7,8,9,19,24,25,26,27,47,57,58,59,72] c_f31_r11 v_f31) (.seq (.cond (.t 60) .skip (.exit 2)) (.seq (.blk 3 (.seq (.reg [0,
 1,2,4,5,7,8,9,19,24,25,26,27,47,57,58,59,60,72] c_f31_r12 v_f31) (.seq (.reg [0,1,2,4,5,7,8,9,19,24,25,26,27,47,57,58,59,60] c_f31_r13 v_f31) (.cond (.t 72) (.seq (.reg [0,1,2,4,5,7,8,9,19,24,25,26,27,47,57,58,59,60,72] c_f31_r14 v_f31) .ret) .skip)))) (.reg [0,
 1,2,4,5,7,8,9,19,24,25,26,27,47,57,58,59,60,72] c_f31_r15 v_f31))))))) (.seq (.reg [0,1,2,4,5,7,8,9,19,24,25,26,27,47,57,58,59,60,72] c_f31_r16 v_f31) .ret)))))
abbrev n_f31 : Nat := 31
theorem s_f31 : stripF Try.prog [4] v_f31 Try.f31 = some (c_f31, [(.tmp 4)]) := by kernel_rfl
theorem go_f31 {L : List (List Nat)} {args : List AVal} {h : Heap} {Q : AVal → Heap → Prop} (hl : args.length = 2) (H : Wlk Try.prog [4] Try.f31.ntmps v_f31 L c_f31 (ends L [(.tmp 4)] Q) (entry v_f31 args h)) : ACalls Try.prog L n_f31 args h Q :=
 acalls_of_strip mix Try.func31 s_f31 (by rw [hl]; exact Nat.le_of_ble_eq_true rfl) H
def c_f39_r0 : List GOp :=[(none,.box 1 (.t 0)),(none,.asg 2 (.c (.slice none 0 0)) true)]
def c_f39_r1 : List GOp :=[(none,.r (.ld 8 (.t 1) 2 true)),(none,.call 9 (.f 53) [(.t 8,false)]),(none,.bld 10 [((0,1),(.t 9,true))] [.slice none 0 0]),(none,.alloc 3 [.slice none 0 0]),(none,.st (.t 3) (.t 10) 1)]
def c_f39_r2 : List GOp :=[(none,.r (.fldA 11 (.t 3) 0)),(none,.r (.ld 12 (.t 11) 1 false)),(none,.r (.len 13 (.t 12))),(none,.r (.bin 14 .eql 0 (.t 13) (.c (.int .i64 0))))]
def c_f39_r3 : List GOp :=[(none,.asg 2 (.c (.slice none 0 0)) true)]
def c_f39_r4 : List GOp :=[(none,.r (.fldA 15 (.t 1) 0)),(none,.r (.ld 16 (.t 15) 1 false)),(none,.r (.fldA 17 (.t 1) 1)),(none,.r (.ld 18 (.t 17) 1 false)),(none,.call 19 (.f 29) [(.t 16,false),(.t 18,false)]),(none,.asg 4 (.t 19) true)]
def c_f39_r5 : List GOp :=[(none,.r (.fldA 20 (.t 3) 0)),(none,.r (.ld 21 (.t 20) 1 false)),(none,.r (.len 22 (.t 21))),(none,.r (.mov 23 (.c (.int .i64 0))))]
def c_f39_r6 : List GOp :=[(none,.r (.bin 24 .lss 0 (.t 23) (.t 22)))]
def c_f39_r7 : List GOp :=[(none,.r (.mov 25 (.t 23))),(none,.asg 5 (.t 25) true)]
def c_f39_r8 : List GOp :=[(none,.r (.ld 26 (.t 3) 1 true)),(none,.r (.mov 27 (.t 5))),(none,.call 28 (.f 54) [(.t 26,false),(.t 27,false)]),(none,.r (.notb 29 (.t 28)))]
def c_f39_r9 : Tree :=.take [2,3,6,7] (none,.r (.mov 30 (.t 4))) (.take [2,3,6,7] (none,.r (.mov 31 (.t 5))) (.take [3,6,7] (none,.r (.idxA 32 (.t 30) (.t 31) 1)) (.take [6,7] (none,.r (.ld 33 (.t 32) 1 false)) (.take [5,6,7] (none,.r (.ld 34 (.t 3) 1 true)) (.one 5 (none,.mkfn 35 (.func 54) [(.t 34,
 false)] []) (.one 6 (none,.call 36 (.f 55) [(.t 33,false),(.t 35,false)]) (.one 7 (none,.asg 6 (.t 36) true) .done)))))))
def c_f39_r10 : List GOp :=[(none,.r (.mov 37 (.t 6))),(none,.r (.bin 38 .geq 0 (.t 37) (.c (.int .i64 0))))]
def c_f39_r11 : List GOp :=[(none,.r (.mov 39 (.t 4))),(none,.r (.mov 40 (.t 5))),(none,.r (.idxA 41 (.t 39) (.t 40) 1)),(none,.r (.ld 42 (.t 41) 1 false)),(none,.r (.mov 43 (.t 6))),(none,.r (.idxA 44 (.t 42) (.t 43) 1)),(none,.r (.ld 45 (.t 44) 1 false)),(none,.asg 7 (.t 45) true)]
def c_f39_r12 : Tree :=.take [1,8,9,10,11] (none,.r (.fldA 46 (.t 3) 0)) (.take [8,9,10,11] (none,.r (.ld 47 (.t 46) 1 false)) (.take [8,9,10,11] (none,.r (.mov 48 (.t 5))) (.take [4,10,11] (none,.r (.fldA 49 (.t 3) 0)) (.take [10,11] (none,.r (.ld 50 (.t 49) 1 false)) (.take [10,11] (none,.r (.mov 51 (.t 7))) (.take [8,
 9,10,11] (none,.r (.mov 52 (.t 7))) (.take [10,11] (none,.r (.mov 53 (.t 5))) (.take [9,10,11] (none,.r (.idxA 54 (.t 47) (.t 48) 1)) (.one 9 (none,.st (.t 54) (.t 52) 1) (.take [11] (none,.r (.idxA 55 (.t 50) (.t 51) 1)) (.one 11 (none,.st (.t 55) (.t 53) 1) .done)))))))))))
def c_f39_r13 : List GOp :=[(none,.r (.bin 56 .add 0 (.t 23) (.c (.int .i64 1)))),(none,.asg 23 (.t 56) true)]
def c_f39_r14 : List GOp :=[(none,.r (.fldA 57 (.t 3) 0)),(none,.r (.ld 58 (.t 57) 1 false)),(none,.asg 2 (.t 58) true)]
def v_f39 : List Nat := [0, 1, 2, 3, 4, 5, 6, 7, 14, 22, 23, 24, 29, 38]
def c_f39 : ACode :=.seq (.reg [0,2,3,4,5,6,7,14,22,23,24,29,38] c_f39_r0 v_f39) (.seq (.reg [0,1,2,4,5,6,7,14,22,23,24,29,38] c_f39_r1 v_f39) (.seq (.seq (.reg [0,1,2,3,4,5,6,7,22,23,24,29,38] c_f39_r2 v_f39) (.cond (.t 14) (.seq (.reg [0,
 1,2,3,4,5,6,7,14,22,23,24,29,38] c_f39_r3 v_f39) .ret) .skip)) (.seq (.reg [0,1,2,3,4,5,6,7,14,22,23,24,29,38] c_f39_r4 v_f39) (.seq (.seq (.reg [0,1,2,3,4,5,6,7,14,24,29,38] c_f39_r5 v_f39) (.blk 0 (.loop (.seq (.reg [0,1,2,3,4,5,6,7,14,22,23,29,
 38] c_f39_r6 v_f39) (.seq (.cond (.t 24) .skip (.exit 0)) (.seq (.blk 1 (.seq (.reg [0,1,2,3,4,5,6,7,14,22,23,24,29,38] c_f39_r7 v_f39) (.seq (.seq (.reg [0,1,2,3,4,5,6,7,14,22,23,24,38] c_f39_r8 v_f39) (.cond (.t 29) (.exit 1) .skip)) (.seq (.draw [0,
 1,2,3,4,5,6,7,14,22,23,24,29,38] c_f39_r9 v_f39) (.seq (.reg [0,1,2,3,4,5,6,7,14,22,23,24,29] c_f39_r10 v_f39) (.cond (.t 38) (.seq (.reg [0,1,2,3,4,5,6,7,14,22,23,24,29,38] c_f39_r11 v_f39) (.draw [0,1,2,3,4,5,6,7,14,22,23,24,29,38] c_f39_r12 v_f39)) .skip)))))) (.reg [0,
 1,2,3,4,5,6,7,14,22,23,24,29,38] c_f39_r13 v_f39))))))) (.seq (.reg [0,1,2,3,4,5,6,7,14,22,23,24,29,38] c_f39_r14 v_f39) .ret)))))
abbrev n_f39 : Nat := 39
theorem s_f39 : stripF Try.prog [2] v_f39 Try.f39 = some (c_f39, [(.tmp 2)]) := by kernel_rfl
theorem go_f39 {L : List (List Nat)} {args : List AVal} {h : Heap} {Q : AVal → Heap → Prop} (hl : args.length = 1) (H : Wlk Try.prog [2] Try.f39.ntmps v_f39 L c_f39 (ends L [(.tmp 2)] Q) (entry v_f39 args h)) : ACalls Try.prog L n_f39 args h Q :=
 acalls_of_strip mix Try.func39 s_f39 (by rw [hl]; exact Nat.le_of_ble_eq_true rfl) H
def c_f40_r0 : List GOp :=[(none,.asg 4 (.c (.slice none 0 0)) true),(none,.alloc 5 [.int .i64 0,.int .i64 0])]
def c_f40_r1 : List GOp :=[(none,.alloc 6 [.int .i64 0,.int .i64 0])]
def c_f40_r2 : List GOp :=[(none,.r (.mov 11 (.t 0))),(none,.r (.mov 12 (.t 1))),(none,.call 13 (.f 56) [(.t 11,false),(.t 12,false)]),(none,.r (.mov 10 (.t 13))),(none,.r (.ext 14 (.t 10) 0)),(none,.r (.ext 15 (.t 10) 1)),(none,.r (.ext 16 (.t 10) 2)),(none,.asg 7 (.t 14) true),(none,.asg 8 (.t 15) true),
 (none,.asg 9 (.t 16) true)]
def c_f40_r3 : List GOp :=[(none,.r (.fldA 17 (.t 6) 0)),(none,.r (.ld 18 (.t 17) 1 false)),(none,.r (.bin 19 .add 0 (.t 18) (.c (.int .i64 1)))),(none,.r (.fldA 20 (.t 6) 1)),(none,.r (.ld 21 (.t 20) 1 false)),(none,.r (.mov 22 (.t 9))),(none,.r (.mm 23 true (.t 21) (.t 22))),(none,.bld 24 [((0,
 1),(.t 19,true)),((1,1),(.t 23,true))] [.int .i64 0,.int .i64 0]),(none,.st (.t 6) (.t 24) 2)]
def c_f40_r4 : List GOp :=[(none,.r (.mov 25 (.t 7))),(none,.r (.bin 26 .eql 3 (.t 25) (.c (.slice none 0 0))))]
def c_f40_r5 : Tree :=.take [2,3] (none,.r (.mov 27 (.t 8))) (.take [3] (none,.r (.ld 28 (.t 6) 2 true)) (.one 2 (none,.asg 4 (.t 27) true) (.one 3 (none,.st (.t 5) (.t 28) 2) .done)))
def c_f40_r6 : List GOp :=[(none,.r (.mov 29 (.t 1))),(none,.r (.mov 30 (.t 7))),(none,.call 31 (.f 57) [(.t 29,false),(.t 30,false)])]
def v_f40 : List Nat := [0, 1, 4, 5, 6, 7, 8, 9, 26]
def c_f40 : ACode :=.seq (.reg [0,1,4,6,7,8,9,26] c_f40_r0 v_f40) (.seq (.reg [0,1,4,5,7,8,9,26] c_f40_r1 v_f40) (.blk 0 (.loop (.blk 1 (.seq (.reg [0,1,4,5,6,7,8,9,26] c_f40_r2 v_f40) (.seq (.reg [0,1,4,5,6,7,8,9,26] c_f40_r3 v_f40) (.seq (.seq (.reg [0,
 1,4,5,6,7,8,9] c_f40_r4 v_f40) (.cond (.t 26) (.seq (.draw [0,1,4,5,6,7,8,9,26] c_f40_r5 v_f40) .ret) .skip)) (.reg [0,1,4,5,6,7,8,9,26] c_f40_r6 v_f40))))))))
abbrev n_f40 : Nat := 40
theorem s_f40 : stripF Try.prog [4] v_f40 Try.f40 = some (c_f40, [(.tmp 4), (.cell 5 2 true)]) := by kernel_rfl
theorem go_f40 {L : List (List Nat)} {args : List AVal} {h : Heap} {Q : AVal → Heap → Prop} (hl : args.length = 2) (H : Wlk Try.prog [4] Try.f40.ntmps v_f40 L c_f40 (ends L [(.tmp 4), (.cell 5 2 true)] Q) (entry v_f40 args h)) : ACalls Try.prog L n_f40 args h Q :=
 acalls_of_strip mix Try.func40 s_f40 (by rw [hl]; exact Nat.le_of_ble_eq_true rfl) H
def c_f45_r0 : List GOp :=[(none,.asg 4 (.c (.slice none 0 0)) true)]
def c_f45_r1 : List GOp :=[(none,.asg 5 (.c (.slice none 0 0)) true)]
def c_f45_r2 : List GOp :=[(none,.r (.mov 7 (.t 0))),(none,.r (.len 8 (.t 7))),(none,.r (.mov 9 (.c (.int .i64 0))))]
def c_f45_r3 : List GOp :=[(none,.r (.bin 10 .lss 0 (.t 9) (.t 8)))]
def c_f45_r4 : List GOp :=[(none,.r (.mov 11 (.t 9))),(none,.asg 6 (.t 11) true)]
def c_f45_r5 : List GOp :=[(none,.r (.mov 12 (.t 1))),(none,.r (.mov 13 (.t 0))),(none,.r (.mov 14 (.t 6))),(none,.call 15 (.t 12) [(.t 13,false),(.t 14,false)])]
def c_f45_r6 : List GOp :=[(none,.r (.mov 16 (.t 5))),(none,.r (.mov 17 (.t 6))),(none,.blds 18 1 1 [((0,1),(.t 17,true))] [.int .i64 0]),(none,.app 19 (.t 16) (.t 18) 1 8),(none,.asg 5 (.t 19) true)]
def c_f45_r7 : List GOp :=[(none,.r (.bin 20 .add 0 (.t 9) (.c (.int .i64 1)))),(none,.asg 9 (.t 20) true)]
def c_f45_r8 : List GOp :=[(none,.r (.mov 21 (.t 5))),(none,.asg 4 (.t 21) true)]
def v_f45 : List Nat := [0, 1, 4, 5, 6, 8, 9, 10, 15]
def c_f45 : ACode :=.seq (.reg [0,1,4,5,6,8,9,10,15] c_f45_r0 v_f45) (.seq (.reg [0,1,4,5,6,8,9,10,15] c_f45_r1 v_f45) (.seq (.seq (.reg [0,1,4,5,6,10,15] c_f45_r2 v_f45) (.blk 0 (.loop (.seq (.reg [0,1,4,5,6,8,9,15] c_f45_r3 v_f45) (.seq (.cond (.t 10) .skip (.exit 0)) (.seq (.blk 1 (.seq (.reg [0,
 1,4,5,6,8,9,10,15] c_f45_r4 v_f45) (.seq (.reg [0,1,4,5,6,8,9,10] c_f45_r5 v_f45) (.cond (.t 15) (.reg [0,1,4,5,6,8,9,10,15] c_f45_r6 v_f45) .skip)))) (.reg [0,1,4,5,6,8,9,10,15] c_f45_r7 v_f45))))))) (.seq (.reg [0,
 1,4,5,6,8,9,10,15] c_f45_r8 v_f45) .ret)))
abbrev n_f45 : Nat := 45
theorem s_f45 : stripF Try.prog [4] v_f45 Try.f45 = some (c_f45, [(.tmp 4)]) := by kernel_rfl
theorem go_f45 {L : List (List Nat)} {args : List AVal} {h : Heap} {Q : AVal → Heap → Prop} (hl : args.length = 2) (H : Wlk Try.prog [4] Try.f45.ntmps v_f45 L c_f45 (ends L [(.tmp 4)] Q) (entry v_f45 args h)) : ACalls Try.prog L n_f45 args h Q :=
 acalls_of_strip mix Try.func45 s_f45 (by rw [hl]; exact Nat.le_of_ble_eq_true rfl) H
def c_f46_r0 : List GOp :=[(none,.asg 4 (.c (.bool false)) true)]
def c_f46_r1 : List GOp :=[(none,.r (.mov 6 (.t 0))),(none,.r (.mov 7 (.t 1))),(none,.r (.idxA 8 (.t 6) (.t 7) 1)),(none,.r (.ld 9 (.t 8) 1 false)),(none,.asg 5 (.t 9) true)]
def c_f46_r2 : List GOp :=[(none,.r (.mov 10 (.t 5))),(none,.r (.bin 11 .geq 0 (.t 10) (.c (.int .i64 0)))),(none,.r (.mov 12 (.t 11))),(some (12,true),.r (.mov 13 (.t 5))),(some (12,true),.r (.mov 14 (.t 0))),(some (12,true),.r (.len 15 (.t 14))),(some (12,true),.r (.bin 16 .lss 0 (.t 13) (.t 15))),
 (none,.r (.pick 17 (.t 12) (.t 16) (.c (.bool false)))),(none,.r (.mov 18 (.t 17))),(some (18,true),.r (.mov 19 (.t 5))),(some (18,true),.r (.mov 20 (.t 1))),(some (18,true),.r (.bin 21 .neq 0 (.t 19) (.t 20))),(none,.r (.pick 22 (.t 18) (.t 21) (.c (.bool false)))),(none,.r (.mov 23 (.t 22))),(some (23,
 true),.r (.mov 24 (.t 0))),(some (23,true),.r (.mov 25 (.t 5))),(some (23,true),.r (.idxA 26 (.t 24) (.t 25) 1)),(some (23,true),.r (.ld 27 (.t 26) 1 false)),(some (23,true),.r (.mov 28 (.t 1))),(some (23,true),.r (.bin 29 .eql 0 (.t 27) (.t 28))),(none,.r (.pick 30 (.t 23) (.t 29) (.c (.bool false)))),
 (none,.asg 4 (.t 30) true)]
def v_f46 : List Nat := [0, 1, 4, 5]
def c_f46 : ACode :=.seq (.reg [0,1,4,5] c_f46_r0 v_f46) (.seq (.reg [0,1,4,5] c_f46_r1 v_f46) (.seq (.reg [0,1,4,5] c_f46_r2 v_f46) .ret))
abbrev n_f46 : Nat := 46
theorem s_f46 : stripF Try.prog [4] v_f46 Try.f46 = some (c_f46, [(.tmp 4)]) := by kernel_rfl
theorem go_f46 {L : List (List Nat)} {args : List AVal} {h : Heap} {Q : AVal → Heap → Prop} (hl : args.length = 2) (H : Wlk Try.prog [4] Try.f46.ntmps v_f46 L c_f46 (ends L [(.tmp 4)] Q) (entry v_f46 args h)) : ACalls Try.prog L n_f46 args h Q :=
 acalls_of_strip mix Try.func46 s_f46 (by rw [hl]; exact Nat.le_of_ble_eq_true rfl) H
def c_f47_r0 : List GOp :=[(none,.box 3 (.t 0)),(none,.box 4 (.t 1)),(none,.box 5 (.t 2)),(none,.asg 6 (.c (.int .i64 0)) true)]
def c_f47_r1 : Tree :=.take [1,4,9,10,11,12] (none,.r (.fldA 7 (.t 4) 0)) (.take [4,9,10,11,12] (none,.r (.ld 8 (.t 7) 1 false)) (.take [3,4,9,10,11,12] (none,.r (.fldA 9 (.t 5) 0)) (.take [4,9,10,11,12] (none,.r (.ld 10 (.t 9) 1 false)) (.take [6,9,10,11,12] (none,.r (.fldA 12 (.t 4) 1)) (.take [9,
 10,11,12] (none,.r (.ld 13 (.t 12) 1 false)) (.take [8,9,10,11,12] (none,.r (.fldA 14 (.t 5) 1)) (.take [9,10,11,12] (none,.r (.ld 15 (.t 14) 1 false)) (.one 4 (none,.call 11 (.f 60) [(.t 8,false),(.t 10,false)]) (.one 9 (none,.call 16 (.f 60) [(.t 13,false),(.t 15,false)]) (.one 10 (none,.blds 17 2 1 [((0,
 1),(.t 11,true)),((1,1),(.t 16,true))] [.int .i64 0]) (.one 11 (none,.call 18 (.f 59) [(.t 17,false)]) (.one 12 (none,.asg 6 (.t 18) true) .done))))))))))))
def v_f47 : List Nat := [0, 1, 2, 4, 5, 6]
def c_f47 : ACode :=.seq (.reg [0,1,2,6] c_f47_r0 v_f47) (.seq (.draw [0,1,2,4,5,6] c_f47_r1 v_f47) .ret)
abbrev n_f47 : Nat := 47
theorem s_f47 : stripF Try.prog [6] v_f47 Try.f47 = some (c_f47, [(.tmp 6)]) := by kernel_rfl
theorem go_f47 {L : List (List Nat)} {args : List AVal} {h : Heap} {Q : AVal → Heap → Prop} (hl : args.length = 3) (H : Wlk Try.prog [6] Try.f47.ntmps v_f47 L c_f47 (ends L [(.tmp 6)] Q) (entry v_f47 args h)) : ACalls Try.prog L n_f47 args h Q :=
 acalls_of_strip mix Try.func47 s_f47 (by rw [hl]; exact Nat.le_of_ble_eq_true rfl) H
def c_f48_r0 : List GOp :=[(none,.r (.mov 4 (.t 0))),(none,.r (.nilck 5 (.t 4))),(none,.r (.fldA 6 (.t 5) 0)),(none,.r (.ld 7 (.t 6) 1 false)),(none,.r (.mov 8 (.t 1))),(none,.r (.len 9 (.t 8))),(none,.r (.bin 10 .rem 0 (.t 9) (.c (.int .i64 2)))),(none,.r (.bin 11 .add 0 (.t 7) (.t 10))),
 (none,.r (.nilck 12 (.t 4))),(none,.r (.fldA 13 (.t 12) 0)),(none,.st (.t 13) (.t 11) 1)]
def v_f48 : List Nat := [0, 1]
def c_f48 : ACode :=.reg [0,1] c_f48_r0 v_f48
abbrev n_f48 : Nat := 48
theorem s_f48 : stripF Try.prog [] v_f48 Try.f48 = some (c_f48, []) := by kernel_rfl
theorem go_f48 {L : List (List Nat)} {args : List AVal} {h : Heap} {Q : AVal → Heap → Prop} (hl : args.length = 2) (H : Wlk Try.prog [] Try.f48.ntmps v_f48 L c_f48 (ends L [] Q) (entry v_f48 args h)) : ACalls Try.prog L n_f48 args h Q :=
 acalls_of_strip mix Try.func48 s_f48 (by rw [hl]; exact Nat.le_of_ble_eq_true rfl) H
def c_f49_r0 : List GOp :=[(none,.asg 4 (.c (.slice none 0 0)) true)]
def c_f49_r1 : List GOp :=[(none,.r (.mov 10 (.t 0))),(none,.r (.mov 11 (.t 0))),(none,.r (.len 12 (.t 11))),(none,.mk 13 (.t 12) (.t 12) 1 1 [.bool false]),(none,.bld 14 [((0,1),(.t 10,true)),((1,1),(.t 13,true))] [.slice none 0 0,.slice none 0 0,.slice none 0 0,.slice none 0 0]),(none,.box 15 (.t 14)),
 (none,.asg 5 (.t 15) true)]
def c_f49_r2 : List GOp :=[(none,.r (.mov 16 (.t 1))),(none,.r (.len 17 (.t 16))),(none,.r (.mov 18 (.c (.int .i64 0))))]
def c_f49_r3 : List GOp :=[(none,.r (.bin 19 .lss 0 (.t 18) (.t 17)))]
def c_f49_r4 : List GOp :=[(none,.r (.idxA 20 (.t 16) (.t 18) 1)),(none,.r (.ld 21 (.t 20) 1 false)),(none,.asg 7 (.t 21) true)]
def c_f49_r5 : List GOp :=[(none,.r (.mov 22 (.t 7))),(none,.r (.bin 23 .geq 0 (.t 22) (.c (.int .i64 0)))),(none,.r (.mov 24 (.t 23))),(some (24,true),.r (.mov 25 (.t 7))),(some (24,true),.r (.mov 26 (.t 0))),(some (24,true),.r (.len 27 (.t 26))),(some (24,true),.r (.bin 28 .lss 0 (.t 25) (.t 27))),
 (none,.r (.pick 29 (.t 24) (.t 28) (.c (.bool false))))]
def c_f49_r6 : List GOp :=[(none,.r (.mov 30 (.t 5))),(none,.r (.nilck 31 (.t 30))),(none,.r (.fldA 32 (.t 31) 1)),(none,.r (.ld 33 (.t 32) 1 false)),(none,.r (.mov 34 (.t 7))),(none,.r (.idxA 35 (.t 33) (.t 34) 1)),(none,.st (.t 35) (.c (.bool true)) 1)]
def c_f49_r7 : List GOp :=[(none,.r (.bin 36 .add 0 (.t 18) (.c (.int .i64 1)))),(none,.asg 18 (.t 36) true)]
def c_f49_r8 : List GOp :=[(none,.asg 8 (.c (.slice none 0 0)) true)]
def c_f49_r9 : List GOp :=[(none,.r (.mov 37 (.t 0))),(none,.r (.len 38 (.t 37))),(none,.r (.mov 39 (.c (.int .i64 0))))]
def c_f49_r10 : List GOp :=[(none,.r (.bin 40 .lss 0 (.t 39) (.t 38)))]
def c_f49_r11 : List GOp :=[(none,.r (.mov 41 (.t 39))),(none,.asg 9 (.t 41) true)]
def c_f49_r12 : List GOp :=[(none,.r (.mov 42 (.t 5))),(none,.r (.nilck 43 (.t 42))),(none,.r (.fldA 44 (.t 43) 1)),(none,.r (.ld 45 (.t 44) 1 false)),(none,.r (.mov 46 (.t 9))),(none,.r (.idxA 47 (.t 45) (.t 46) 1)),(none,.r (.ld 48 (.t 47) 1 false)),(none,.r (.notb 49 (.t 48)))]
def c_f49_r13 : List GOp :=[(none,.r (.mov 50 (.t 8))),(none,.r (.mov 51 (.t 5))),(none,.r (.mov 52 (.t 9))),(none,.call 53 (.f 61) [(.t 51,false),(.t 52,false)]),(none,.blds 54 1 1 [((0,1),(.t 53,true))] [.slice none 0 0]),(none,.app 55 (.t 50) (.t 54) 1 24),(none,.asg 8 (.t 55) true)]
def c_f49_r14 : List GOp :=[(none,.r (.bin 56 .add 0 (.t 39) (.c (.int .i64 1)))),(none,.asg 39 (.t 56) true)]
def c_f49_r15 : List GOp :=[(none,.r (.mov 57 (.t 8))),(none,.asg 4 (.t 57) true)]
def v_f49 : List Nat := [0, 1, 4, 5, 7, 8, 9, 16, 17, 18, 19, 29, 38, 39, 40, 49]
def c_f49 : ACode :=.seq (.reg [0,1,4,5,7,8,9,16,17,18,19,29,38,39,40,49] c_f49_r0 v_f49) (.seq (.reg [0,1,4,5,7,8,9,16,17,18,19,29,38,39,40,49] c_f49_r1 v_f49) (.seq (.seq (.reg [0,1,4,5,7,8,9,19,29,38,39,40,49] c_f49_r2 v_f49) (.blk 0 (.loop (.seq (.reg [0,
 1,4,5,7,8,9,16,17,18,29,38,39,40,49] c_f49_r3 v_f49) (.seq (.cond (.t 19) .skip (.exit 0)) (.seq (.blk 1 (.seq (.reg [0,1,4,5,7,8,9,16,17,18,19,29,38,39,40,49] c_f49_r4 v_f49) (.seq (.reg [0,1,4,5,7,8,9,16,17,18,19,38,39,40,49] c_f49_r5 v_f49) (.cond (.t 29) (.reg [0,
 1,4,5,7,8,9,16,17,18,19,29,38,39,40,49] c_f49_r6 v_f49) .skip)))) (.reg [0,1,4,5,7,8,9,16,17,18,19,29,38,39,40,49] c_f49_r7 v_f49))))))) (.seq (.reg [0,1,4,5,7,8,9,16,17,18,19,29,38,39,40,49] c_f49_r8 v_f49) (.seq (.seq (.reg [0,1,4,5,7,8,9,16,17,18,19,29,40,49] c_f49_r9 v_f49) (.blk 2 (.loop (.seq (.reg [0,
 1,4,5,7,8,9,16,17,18,19,29,38,39,49] c_f49_r10 v_f49) (.seq (.cond (.t 40) .skip (.exit 2)) (.seq (.blk 3 (.seq (.reg [0,1,4,5,7,8,9,16,17,18,19,29,38,39,40,49] c_f49_r11 v_f49) (.seq (.reg [0,1,4,5,7,8,9,16,17,18,19,29,38,39,40] c_f49_r12 v_f49) (.cond (.t 49) (.reg [0,
 1,4,5,7,8,9,16,17,18,19,29,38,39,40,49] c_f49_r13 v_f49) .skip)))) (.reg [0,1,4,5,7,8,9,16,17,18,19,29,38,39,40,49] c_f49_r14 v_f49))))))) (.seq (.reg [0,1,4,5,7,8,9,16,17,18,19,29,38,39,40,49] c_f49_r15 v_f49) .ret)))))
abbrev n_f49 : Nat := 49
theorem s_f49 : stripF Try.prog [4] v_f49 Try.f49 = some (c_f49, [(.tmp 4)]) := by kernel_rfl
theorem go_f49 {L : List (List Nat)} {args : List AVal} {h : Heap} {Q : AVal → Heap → Prop} (hl : args.length = 2) (H : Wlk Try.prog [4] Try.f49.ntmps v_f49 L c_f49 (ends L [(.tmp 4)] Q) (entry v_f49 args h)) : ACalls Try.prog L n_f49 args h Q :=
 acalls_of_strip mix Try.func49 s_f49 (by rw [hl]; exact Nat.le_of_ble_eq_true rfl) H
def c_f53_r0 : List GOp :=[(none,.box 1 (.t 0)),(none,.asg 2 (.c (.slice none 0 0)) true)]
def c_f53_r1 : List GOp :=[(none,.r (.ld 3 (.t 1) 2 true)),(none,.call 4 (.f 27) [(.t 3,false)]),(none,.r (.notb 5 (.t 4)))]
def c_f53_r2 : List GOp :=[(none,.asg 2 (.c (.slice none 0 0)) true)]
def c_f53_r3 : List GOp :=[(none,.blds 6 1 1 [((0,1),(.c (.int .i64 (- (0 + 1))),true))] [.int .i64 0]),(none,.r (.fldA 7 (.t 1) 0)),(none,.r (.ld 8 (.t 7) 1 false)),(none,.call 9 (.f 62) [(.t 6,false),(.t 8,false)]),(none,.asg 2 (.t 9) true)]
def v_f53 : List Nat := [0, 1, 2, 5]
def c_f53 : ACode :=.seq (.reg [0,2,5] c_f53_r0 v_f53) (.seq (.seq (.reg [0,1,2] c_f53_r1 v_f53) (.cond (.t 5) (.seq (.reg [0,1,2,5] c_f53_r2 v_f53) .ret) .skip)) (.seq (.reg [0,1,2,5] c_f53_r3 v_f53) .ret))
abbrev n_f53 : Nat := 53
theorem s_f53 : stripF Try.prog [2] v_f53 Try.f53 = some (c_f53, [(.tmp 2)]) := by kernel_rfl
theorem go_f53 {L : List (List Nat)} {args : List AVal} {h : Heap} {Q : AVal → Heap → Prop} (hl : args.length = 1) (H : Wlk Try.prog [2] Try.f53.ntmps v_f53 L c_f53 (ends L [(.tmp 2)] Q) (entry v_f53 args h)) : ACalls Try.prog L n_f53 args h Q :=
 acalls_of_strip mix Try.func53 s_f53 (by rw [hl]; exact Nat.le_of_ble_eq_true rfl) H
def c_f54_r0 : List GOp :=[(none,.box 2 (.t 0)),(none,.asg 4 (.c (.bool false)) true)]
def c_f54_r1 : List GOp :=[(none,.r (.fldA 5 (.t 2) 0)),(none,.r (.ld 6 (.t 5) 1 false)),(none,.r (.mov 7 (.t 1))),(none,.r (.idxA 8 (.t 6) (.t 7) 1)),(none,.r (.ld 9 (.t 8) 1 false)),(none,.r (.bin 10 .lss 0 (.t 9) (.c (.int .i64 0)))),(none,.asg 4 (.t 10) true)]
def v_f54 : List Nat := [0, 1, 2, 4]
def c_f54 : ACode :=.seq (.reg [0,1,4] c_f54_r0 v_f54) (.seq (.reg [0,1,2,4] c_f54_r1 v_f54) .ret)
abbrev n_f54 : Nat := 54
theorem s_f54 : stripF Try.prog [4] v_f54 Try.f54 = some (c_f54, [(.tmp 4)]) := by kernel_rfl
theorem go_f54 {L : List (List Nat)} {args : List AVal} {h : Heap} {Q : AVal → Heap → Prop} (hl : args.length = 2) (H : Wlk Try.prog [4] Try.f54.ntmps v_f54 L c_f54 (ends L [(.tmp 4)] Q) (entry v_f54 args h)) : ACalls Try.prog L n_f54 args h Q :=
 acalls_of_strip mix Try.func54 s_f54 (by rw [hl]; exact Nat.le_of_ble_eq_true rfl) H
def c_f55_r0 : List GOp :=[(none,.asg 4 (.c (.int .i64 0)) true)]
def c_f55_r1 : List GOp :=[(none,.r (.mov 6 (.t 0))),(none,.r (.len 7 (.t 6))),(none,.r (.mov 8 (.c (.int .i64 0))))]
def c_f55_r2 : List GOp :=[(none,.r (.bin 9 .lss 0 (.t 8) (.t 7)))]
def c_f55_r3 : List GOp :=[(none,.r (.mov 10 (.t 8))),(none,.asg 5 (.t 10) true)]
def c_f55_r4 : List GOp :=[(none,.r (.mov 11 (.t 1))),(none,.r (.mov 12 (.t 0))),(none,.r (.mov 13 (.t 5))),(none,.r (.idxA 14 (.t 12) (.t 13) 1)),(none,.r (.ld 15 (.t 14) 1 false)),(none,.call 16 (.t 11) [(.t 15,false)])]
def c_f55_r5 : List GOp :=[(none,.r (.mov 17 (.t 5))),(none,.asg 4 (.t 17) true)]
def c_f55_r6 : List GOp :=[(none,.r (.bin 18 .add 0 (.t 8) (.c (.int .i64 1)))),(none,.asg 8 (.t 18) true)]
def c_f55_r7 : List GOp :=[(none,.asg 4 (.c (.int .i64 (- (0 + 1)))) true)]
def v_f55 : List Nat := [0, 1, 4, 5, 7, 8, 9, 16]
def c_f55 : ACode :=.seq (.reg [0,1,4,5,7,8,9,16] c_f55_r0 v_f55) (.seq (.seq (.reg [0,1,4,5,9,16] c_f55_r1 v_f55) (.blk 0 (.loop (.seq (.reg [0,1,4,5,7,8,16] c_f55_r2 v_f55) (.seq (.cond (.t 9) .skip (.exit 0)) (.seq (.blk 1 (.seq (.reg [0,
 1,4,5,7,8,9,16] c_f55_r3 v_f55) (.seq (.reg [0,1,4,5,7,8,9] c_f55_r4 v_f55) (.cond (.t 16) (.seq (.reg [0,1,4,5,7,8,9,16] c_f55_r5 v_f55) .ret) .skip)))) (.reg [0,
 1,4,5,7,8,9,16] c_f55_r6 v_f55))))))) (.seq (.reg [0,1,4,5,7,8,9,16] c_f55_r7 v_f55) .ret))
abbrev n_f55 : Nat := 55
theorem s_f55 : stripF Try.prog [4] v_f55 Try.f55 = some (c_f55, [(.tmp 4)]) := by kernel_rfl
theorem go_f55 {L : List (List Nat)} {args : List AVal} {h : Heap} {Q : AVal → Heap → Prop} (hl : args.length = 2) (H : Wlk Try.prog [4] Try.f55.ntmps v_f55 L c_f55 (ends L [(.tmp 4)] Q) (entry v_f55 args h)) : ACalls Try.prog L n_f55 args h Q :=
 acalls_of_strip mix Try.func55 s_f55 (by rw [hl]; exact Nat.le_of_ble_eq_true rfl) H
def c_f56_r0 : List GOp :=[(none,.asg 4 (.c (.slice none 0 0)) true),(none,.asg 5 (.c (.slice none 0 0)) true),(none,.asg 6 (.c (.int .i64 0)) true)]
def c_f56_r1 : List GOp :=[(none,.r (.mov 14 (.t 0))),(none,.r (.mov 15 (.t 1))),(none,.call 16 (.f 63) [(.t 14,false),(.t 15,false)]),(none,.asg 7 (.t 16) true)]
def c_f56_r2 : List GOp :=[(none,.r (.mov 17 (.t 7))),(none,.mkfn 18 (.func 64) [(.t 17,false)] []),(none,.asg 8 (.t 18) true)]
def c_f56_r3 : List GOp :=[(none,.r (.mov 20 (.t 7))),(none,.call 21 (.f 65) [(.t 20,false)]),(none,.r (.mov 19 (.t 21))),(none,.r (.ext 22 (.t 19) 0)),(none,.r (.ext 23 (.t 19) 1)),(none,.asg 9 (.t 22) true),(none,.asg 10 (.t 23) true)]
def c_f56_r4 : List GOp :=[(none,.r (.mov 24 (.t 10)))]
def c_f56_r5 : List GOp :=[(none,.r (.mov 30 (.t 0))),(none,.r (.mov 31 (.t 9))),(none,.r (.idxA 32 (.t 30) (.t 31) 1)),(none,.r (.ld 33 (.t 32) 1 false)),(none,.r (.len 34 (.t 33))),(none,.r (.mov 35 (.c (.int .i64 0))))]
def c_f56_r6 : List GOp :=[(none,.r (.bin 36 .lss 0 (.t 35) (.t 34)))]
def c_f56_r7 : List GOp :=[(none,.r (.idxA 37 (.t 33) (.t 35) 1)),(none,.r (.ld 38 (.t 37) 1 false)),(none,.asg 12 (.t 38) true)]
def c_f56_r8 : List GOp :=[(none,.r (.mov 39 (.t 7))),(none,.r (.mov 40 (.t 9))),(none,.r (.mov 41 (.t 12))),(none,.call 42 (.f 66) [(.t 39,false),(.t 40,false),(.t 41,false)])]
def c_f56_r9 : List GOp :=[(none,.r (.bin 44 .eql 0 (.t 42) (.c (.int .i64 1)))),(none,.asg 43 (.t 44) true)]
def c_f56_r10 : List GOp :=[(none,.r (.mov 45 (.t 7))),(none,.r (.mov 46 (.t 9))),(none,.r (.mov 47 (.t 12))),(none,.call 48 (.f 67) [(.t 45,false),(.t 46,false),(.t 47,false)])]
def c_f56_r11 : List GOp :=[(none,.r (.bin 50 .eql 0 (.t 42) (.c (.int .i64 2)))),(none,.asg 49 (.t 50) true)]
def c_f56_r12 : List GOp :=[(none,.r (.mov 51 (.t 8))),(none,.r (.mov 52 (.t 9))),(none,.call 53 (.t 51) [(.t 52,false)]),(none,.r (.mov 54 (.t 8))),(none,.r (.mov 55 (.t 12))),(none,.call 56 (.t 54) [(.t 55,false)]),(none,.r (.bin 57 .eql 0 (.t 53) (.t 56)))]
def c_f56_r13 : List GOp :=[(none,.r (.mov 58 (.t 7))),(none,.r (.mov 59 (.t 9))),(none,.r (.mov 60 (.t 12))),(none,.call 61 (.f 68) [(.t 58,false),(.t 59,false),(.t 60,false)]),(none,.asg 13 (.t 61) true)]
def c_f56_r14 : List GOp :=[(none,.r (.mov 62 (.t 13))),(none,.r (.bin 63 .neq 3 (.t 62) (.c (.slice none 0 0))))]
def c_f56_r15 : Tree :=.take [5,6,7] (none,.r (.mov 64 (.t 13))) (.take [2,3,4,7] (none,.r (.mov 65 (.t 7))) (.take [3,4,7] (none,.r (.nilck 66 (.t 65))) (.take [4,7] (none,.r (.fldA 67 (.t 66) 15)) (.take [7] (none,.r (.ld 68 (.t 67) 1 false)) (.one 5 (none,.asg 4 (.t 64) true) (.one 6 (none,
 .asg 5 (.c (.slice none 0 0)) true) (.one 7 (none,.asg 6 (.t 68) true) .done)))))))
def c_f56_r16 : List GOp :=[(none,.r (.bin 69 .add 0 (.t 35) (.c (.int .i64 1)))),(none,.asg 35 (.t 69) true)]
def c_f56_r17 : List GOp :=[(none,.r (.mov 26 (.t 7))),(none,.call 27 (.f 65) [(.t 26,false)]),(none,.r (.mov 25 (.t 27))),(none,.r (.ext 28 (.t 25) 0)),(none,.r (.ext 29 (.t 25) 1)),(none,.asg 9 (.t 28) true),(none,.asg 10 (.t 29) true)]
def c_f56_r18 : Tree :=.take [1,6,7,8] (none,.r (.mov 70 (.t 7))) (.take [3,4,5,8] (none,.r (.mov 72 (.t 7))) (.take [4,5,8] (none,.r (.nilck 73 (.t 72))) (.take [5,8] (none,.r (.fldA 74 (.t 73) 15)) (.take [8] (none,.r (.ld 75 (.t 74) 1 false)) (.one 1 (none,.call 71 (.f 69) [(.t 70,false)]) (.one 6 (none,
 .asg 4 (.c (.slice none 0 0)) true) (.one 7 (none,.asg 5 (.t 71) true) (.one 8 (none,.asg 6 (.t 75) true) .done))))))))
def v_f56 : List Nat := [0, 1, 4, 5, 6, 7, 8, 9, 10, 12, 13, 24, 33, 34, 35, 36, 42, 43, 49, 57, 63]
def c_f56 : ACode :=.seq (.reg [0,1,4,5,6,7,8,9,10,12,13,24,33,34,35,36,42,43,49,57,63] c_f56_r0 v_f56) (.seq (.reg [0,1,4,5,6,7,8,9,10,12,13,24,33,34,35,36,42,43,49,57,63] c_f56_r1 v_f56) (.seq (.reg [0,1,4,5,6,7,8,9,10,12,13,24,33,34,35,36,42,43,49,
 57,63] c_f56_r2 v_f56) (.seq (.seq (.reg [0,1,4,5,6,7,8,9,10,12,13,24,33,34,35,36,42,43,49,57,63] c_f56_r3 v_f56) (.blk 0 (.loop (.seq (.seq (.reg [0,1,4,5,6,7,8,9,10,12,13,33,34,35,36,42,43,49,57,63] c_f56_r4 v_f56) (.cond (.t 24) .skip (.exit 0))) (.seq (.blk 1 (.seq (.reg [0,
 1,4,5,6,7,8,9,10,12,13,24,36,42,43,49,57,63] c_f56_r5 v_f56) (.blk 2 (.loop (.seq (.reg [0,1,4,5,6,7,8,9,10,12,13,24,33,34,35,42,43,49,57,63] c_f56_r6 v_f56) (.seq (.cond (.t 36) .skip (.exit 2)) (.seq (.blk 3 (.seq (.reg [0,1,4,5,6,7,8,9,10,12,13,24,33,34,35,36,
 42,43,49,57,63] c_f56_r7 v_f56) (.seq (.reg [0,1,4,5,6,7,8,9,10,12,13,24,33,34,35,36,43,49,57,63] c_f56_r8 v_f56) (.blk 4 (.seq (.reg [0,1,4,5,6,7,8,9,10,12,13,24,33,34,35,36,42,43,49,57,63] c_f56_r9 v_f56) (.cond (.t 43) (.reg [0,1,4,5,6,7,
 8,9,10,12,13,24,33,34,35,36,42,43,49,57,63] c_f56_r10 v_f56) (.seq (.reg [0,1,4,5,6,7,8,9,10,12,13,24,33,34,35,36,42,43,49,57,63] c_f56_r11 v_f56) (.cond (.t 49) (.seq (.seq (.reg [0,1,4,5,6,7,8,9,10,12,13,24,33,34,35,36,42,43,49,63] c_f56_r12 v_f56) (.cond (.t 57) (.exit 3) .skip)) (.seq (.reg [0,
 1,4,5,6,7,8,9,10,12,13,24,33,34,35,36,42,43,49,57,63] c_f56_r13 v_f56) (.seq (.reg [0,1,4,5,6,7,8,9,10,12,13,24,33,34,35,36,42,43,49,57] c_f56_r14 v_f56) (.cond (.t 63) (.seq (.draw [0,1,4,5,6,7,8,9,10,12,13,24,33,34,35,36,42,43,49,57,63] c_f56_r15 v_f56) .ret) .skip)))) .skip)))))))) (.reg [0,
 1,4,5,6,7,8,9,10,12,13,24,33,34,35,36,42,43,49,57,63] c_f56_r16 v_f56)))))))) (.reg [0,1,4,5,6,7,8,9,10,12,13,24,33,34,35,36,42,43,49,57,63] c_f56_r17 v_f56)))))) (.seq (.draw [0,1,4,5,6,7,8,9,10,12,13,24,33,34,35,36,42,43,49,57,63] c_f56_r18 v_f56) .ret))))
abbrev n_f56 : Nat := 56
theorem s_f56 : stripF Try.prog [4, 5, 6] v_f56 Try.f56 = some (c_f56, [(.tmp 4), (.tmp 5), (.tmp 6)]) := by kernel_rfl
theorem go_f56 {L : List (List Nat)} {args : List AVal} {h : Heap} {Q : AVal → Heap → Prop} (hl : args.length = 2) (H : Wlk Try.prog [4, 5, 6] Try.f56.ntmps v_f56 L c_f56 (ends L [(.tmp 4), (.tmp 5), (.tmp 6)] Q) (entry v_f56 args h)) : ACalls Try.prog L n_f56 args h Q :=
 acalls_of_strip mix Try.func56 s_f56 (by rw [hl]; exact Nat.le_of_ble_eq_true rfl) H
def c_f57_r0 : List GOp :=[(none,.asg 4 (.c (.int .i64 1)) true)]
def c_f57_r1 : List GOp :=[(none,.r (.mov 5 (.t 4))),(none,.r (.mov 6 (.t 1))),(none,.r (.len 7 (.t 6))),(none,.r (.bin 8 .lss 0 (.t 5) (.t 7)))]
def c_f57_r2 : Tree :=.take [20,21,22,23] (none,.r (.mov 11 (.t 0))) (.take [4,5,20,21,22,23] (none,.r (.mov 12 (.t 1))) (.take [3,4,5,20,21,22,23] (none,.r (.mov 13 (.t 4))) (.take [4,5,20,21,22,23] (none,.r (.bin 14 .sub 0 (.t 13) (.c (.int .i64 1)))) (.take [5,20,21,22,23] (none,.r (.idxA 15 (.t 12) (.t 14) 1)) (.take [20,
 21,22,23] (none,.r (.ld 16 (.t 15) 1 false)) (.take [22,23] (none,.r (.mov 17 (.t 0))) (.take [9,10,20,21,22,23] (none,.r (.mov 18 (.t 1))) (.take [9,10,20,21,22,23] (none,.r (.mov 19 (.t 4))) (.take [10,20,21,22,23] (none,.r (.idxA 20 (.t 18) (.t 19) 1)) (.take [20,21,22,23] (none,.r (.ld 21 (.t 20) 1 false)) (.take [13,
 14,20,21,22,23] (none,.r (.mov 22 (.t 1))) (.take [13,14,20,21,22,23] (none,.r (.mov 23 (.t 4))) (.take [14,20,21,22,23] (none,.r (.idxA 24 (.t 22) (.t 23) 1)) (.take [20,21,22,23] (none,.r (.ld 25 (.t 24) 1 false)) (.take [18,19,20,21,22,23] (none,.r (.mov 26 (.t 1))) (.take [17,18,19,20,21,22,23] (none,
 .r (.mov 27 (.t 4))) (.take [18,19,20,21,22,23] (none,.r (.bin 28 .sub 0 (.t 27) (.c (.int .i64 1)))) (.take [19,20,21,22,23] (none,.r (.idxA 29 (.t 26) (.t 28) 1)) (.take [20,21,22,23] (none,.r (.ld 30 (.t 29) 1 false)) (.take [21,22,23] (none,.r (.idxA 31 (.t 11) (.t 16) 1)) (.one 21 (none,.st (.t 31) (.t 25) 1) (.take [23] (none,
 .r (.idxA 32 (.t 17) (.t 21) 1)) (.one 23 (none,.st (.t 32) (.t 30) 1) .done)))))))))))))))))))))))
def c_f57_r3 : List GOp :=[(none,.r (.mov 9 (.t 4))),(none,.r (.bin 10 .add 0 (.t 9) (.c (.int .i64 2)))),(none,.asg 4 (.t 10) true)]
def v_f57 : List Nat := [0, 1, 4, 8]
def c_f57 : ACode :=.seq (.reg [0,1,4,8] c_f57_r0 v_f57) (.blk 0 (.loop (.seq (.seq (.reg [0,1,4] c_f57_r1 v_f57) (.cond (.t 8) .skip (.exit 0))) (.seq (.blk 1 (.draw [0,1,4,8] c_f57_r2 v_f57)) (.reg [0,1,4,8] c_f57_r3 v_f57)))))
abbrev n_f57 : Nat := 57
theorem s_f57 : stripF Try.prog [] v_f57 Try.f57 = some (c_f57, []) := by kernel_rfl
theorem go_f57 {L : List (List Nat)} {args : List AVal} {h : Heap} {Q : AVal → Heap → Prop} (hl : args.length = 2) (H : Wlk Try.prog [] Try.f57.ntmps v_f57 L c_f57 (ends L [] Q) (entry v_f57 args h)) : ACalls Try.prog L n_f57 args h Q :=
 acalls_of_strip mix Try.func57 s_f57 (by rw [hl]; exact Nat.le_of_ble_eq_true rfl) H
def c_f59_r0 : List GOp :=[(none,.asg 2 (.c (.int .i64 0)) true)]
def c_f59_r1 : List GOp :=[(none,.asg 3 (.c (.int .i64 0)) true)]
def c_f59_r2 : List GOp :=[(none,.r (.mov 6 (.t 0))),(none,.r (.len 7 (.t 6))),(none,.r (.mov 8 (.c (.int .i64 0))))]
def c_f59_r3 : List GOp :=[(none,.r (.bin 9 .lss 0 (.t 8) (.t 7)))]
def c_f59_r4 : List GOp :=[(none,.r (.idxA 10 (.t 6) (.t 8) 1)),(none,.r (.ld 11 (.t 10) 1 false)),(none,.asg 5 (.t 11) true)]
def c_f59_r5 : List GOp :=[(none,.r (.mov 12 (.t 5))),(none,.r (.mov 13 (.t 3))),(none,.r (.bin 14 .neq 0 (.t 12) (.t 13)))]
def c_f59_r6 : List GOp :=[(none,.r (.mov 15 (.t 5))),(none,.asg 2 (.t 15) true)]
def c_f59_r7 : List GOp :=[(none,.r (.bin 16 .add 0 (.t 8) (.c (.int .i64 1)))),(none,.asg 8 (.t 16) true)]
def c_f59_r8 : List GOp :=[(none,.r (.mov 17 (.t 3))),(none,.asg 2 (.t 17) true)]
def v_f59 : List Nat := [0, 2, 3, 5, 6, 7, 8, 9, 14]
def c_f59 : ACode :=.seq (.reg [0,2,3,5,6,7,8,9,14] c_f59_r0 v_f59) (.seq (.reg [0,2,3,5,6,7,8,9,14] c_f59_r1 v_f59) (.seq (.seq (.reg [0,2,3,5,9,14] c_f59_r2 v_f59) (.blk 0 (.loop (.seq (.reg [0,2,3,5,6,7,8,14] c_f59_r3 v_f59) (.seq (.cond (.t 9) .skip (.exit 0)) (.seq (.blk 1 (.seq (.reg [0,
 2,3,5,6,7,8,9,14] c_f59_r4 v_f59) (.seq (.reg [0,2,3,5,6,7,8,9] c_f59_r5 v_f59) (.cond (.t 14) (.seq (.reg [0,2,3,5,6,7,8,9,14] c_f59_r6 v_f59) .ret) .skip)))) (.reg [0,2,3,5,6,7,8,9,14] c_f59_r7 v_f59))))))) (.seq (.reg [0,2,3,5,6,7,8,9,
 14] c_f59_r8 v_f59) .ret)))
abbrev n_f59 : Nat := 59
theorem s_f59 : stripF Try.prog [2] v_f59 Try.f59 = some (c_f59, [(.tmp 2)]) := by kernel_rfl
theorem go_f59 {L : List (List Nat)} {args : List AVal} {h : Heap} {Q : AVal → Heap → Prop} (hl : args.length = 1) (H : Wlk Try.prog [2] Try.f59.ntmps v_f59 L c_f59 (ends L [(.tmp 2)] Q) (entry v_f59 args h)) : ACalls Try.prog L n_f59 args h Q :=
 acalls_of_strip mix Try.func59 s_f59 (by rw [hl]; exact Nat.le_of_ble_eq_true rfl) H
def c_f60_r0 : List GOp :=[(none,.asg 4 (.c (.int .i64 0)) true)]
def c_f60_r1 : List GOp :=[(none,.r (.mov 7 (.t 0))),(none,.call 8 (.f 70) [(.t 7,false)]),(none,.asg 5 (.t 8) true)]
def c_f60_r2 : List GOp :=[(none,.r (.mov 9 (.t 1))),(none,.call 10 (.f 70) [(.t 9,false)]),(none,.asg 6 (.t 10) true)]
def c_f60_r3 : List GOp :=[(none,.r (.mov 11 (.t 5)))]
def c_f60_r4 : List GOp :=[(none,.r (.mov 12 (.t 6)))]
def c_f60_r5 : List GOp :=[(none,.asg 4 (.c (.int .i64 0)) true)]
def c_f60_r6 : List GOp :=[(none,.asg 4 (.c (.int .i64 (- (0 + 1)))) true)]
def c_f60_r7 : List GOp :=[(none,.r (.mov 13 (.t 6)))]
def c_f60_r8 : List GOp :=[(none,.asg 4 (.c (.int .i64 1)) true)]
def c_f60_r9 : List GOp :=[(none,.r (.mov 14 (.t 0))),(none,.r (.mov 15 (.t 1))),(none,.r (.bin 16 .lss 0 (.t 14) (.t 15)))]
def c_f60_r10 : List GOp :=[(none,.asg 4 (.c (.int .i64 (- (0 + 1)))) true)]
def c_f60_r11 : List GOp :=[(none,.r (.mov 17 (.t 0))),(none,.r (.mov 18 (.t 1))),(none,.r (.bin 19 .gtr 0 (.t 17) (.t 18)))]
def c_f60_r12 : List GOp :=[(none,.asg 4 (.c (.int .i64 1)) true)]
def c_f60_r13 : List GOp :=[(none,.asg 4 (.c (.int .i64 0)) true)]
def v_f60 : List Nat := [0, 1, 4, 5, 6, 11, 12, 13, 16, 19]
def c_f60 : ACode :=.seq (.reg [0,1,4,5,6,11,12,13,16,19] c_f60_r0 v_f60) (.seq (.reg [0,1,4,5,6,11,12,13,16,19] c_f60_r1 v_f60) (.seq (.reg [0,1,4,5,6,11,12,13,16,19] c_f60_r2 v_f60) (.seq (.seq (.reg [0,1,4,5,
 6,12,13,16,19] c_f60_r3 v_f60) (.cond (.t 11) (.seq (.seq (.reg [0,1,4,5,6,11,13,16,19] c_f60_r4 v_f60) (.cond (.t 12) (.seq (.reg [0,1,4,5,6,11,12,13,16,19] c_f60_r5 v_f60) .ret) .skip)) (.seq (.reg [0,1,4,5,6,11,12,13,16,
 19] c_f60_r6 v_f60) .ret)) .skip)) (.seq (.seq (.reg [0,1,4,5,6,11,12,16,19] c_f60_r7 v_f60) (.cond (.t 13) (.seq (.reg [0,1,4,5,6,11,12,13,16,19] c_f60_r8 v_f60) .ret) .skip)) (.seq (.seq (.reg [0,1,4,5,6,11,12,13,19] c_f60_r9 v_f60) (.cond (.t 16) (.seq (.reg [0,
 1,4,5,6,11,12,13,16,19] c_f60_r10 v_f60) .ret) .skip)) (.seq (.seq (.reg [0,1,4,5,6,11,12,13,16] c_f60_r11 v_f60) (.cond (.t 19) (.seq (.reg [0,1,4,5,6,11,12,13,16,19] c_f60_r12 v_f60) .ret) .skip)) (.seq (.reg [0,1,4,5,6,11,
 12,13,16,19] c_f60_r13 v_f60) .ret)))))))
abbrev n_f60 : Nat := 60
theorem s_f60 : stripF Try.prog [4] v_f60 Try.f60 = some (c_f60, [(.tmp 4)]) := by kernel_rfl
theorem go_f60 {L : List (List Nat)} {args : List AVal} {h : Heap} {Q : AVal → Heap → Prop} (hl : args.length = 2) (H : Wlk Try.prog [4] Try.f60.ntmps v_f60 L c_f60 (ends L [(.tmp 4)] Q) (entry v_f60 args h)) : ACalls Try.prog L n_f60 args h Q :=
 acalls_of_strip mix Try.func60 s_f60 (by rw [hl]; exact Nat.le_of_ble_eq_true rfl) H
def c_f61_r0 : List GOp :=[(none,.asg 4 (.c (.slice none 0 0)) true)]
def c_f61_r1 : List GOp :=[(none,.r (.mov 9 (.t 0))),(none,.mkfn 10 (.func 71) [(.t 9,false)] []),(none,.asg 5 (.t 10) true)]
def c_f61_r2 : List GOp :=[(none,.r (.mov 11 (.t 0))),(none,.r (.nilck 12 (.t 11))),(none,.r (.fldA 13 (.t 12) 2)),(none,.st (.t 13) (.c (.slice none 0 0)) 1)]
def c_f61_r3 : List GOp :=[(none,.r (.mov 14 (.t 5))),(none,.r (.mov 15 (.t 1))),(none,.call 16 (.t 14) [(.t 15,false)])]
def c_f61_r4 : List GOp :=[(none,.r (.mov 17 (.t 0))),(none,.r (.nilck 18 (.t 17))),(none,.r (.fldA 19 (.t 18) 3)),(none,.r (.ld 20 (.t 19) 1 false)),(none,.r (.len 21 (.t 20))),(none,.r (.bin 22 .gtr 0 (.t 21) (.c (.int .i64 0))))]
def c_f61_r5 : Tree :=.take [1,2,3,10,11,12] (none,.r (.mov 23 (.t 0))) (.take [2,3,10,11,12] (none,.r (.nilck 24 (.t 23))) (.take [3,10,11,12] (none,.r (.fldA 25 (.t 24) 3)) (.take [10,11,12] (none,.r (.ld 26 (.t 25) 1 false)) (.take [5,6,7,8,9,10,11,12] (none,.r (.mov 27 (.t 0))) (.take [6,
 7,8,9,10,11,12] (none,.r (.nilck 28 (.t 27))) (.take [7,8,9,10,11,12] (none,.r (.fldA 29 (.t 28) 3)) (.take [8,9,10,11,12] (none,.r (.ld 30 (.t 29) 1 false)) (.take [9,10,11,12] (none,.r (.len 31 (.t 30))) (.take [10,11,12] (none,.r (.bin 32 .sub 0 (.t 31) (.c (.int .i64 1)))) (.take [11,12] (none,.r (.idxA 33 (.t 26) (.t 32) 1)) (.take [12] (none,
 .r (.ld 34 (.t 33) 1 false)) (.one 12 (none,.asg 6 (.t 34) true) .done))))))))))))
def c_f61_r6 : Tree :=.take [12,13,14] (none,.r (.mov 35 (.t 0))) (.take [2,3,4,11,12,13,14] (none,.r (.mov 36 (.t 0))) (.take [3,4,11,12,13,14] (none,.r (.nilck 37 (.t 36))) (.take [4,11,12,13,14] (none,.r (.fldA 38 (.t 37) 3)) (.take [11,12,13,14] (none,.r (.ld 39 (.t 38) 1 false)) (.take [6,
 7,8,9,10,11,12,13,14] (none,.r (.mov 40 (.t 0))) (.take [7,8,9,10,11,12,13,14] (none,.r (.nilck 41 (.t 40))) (.take [8,9,10,11,12,13,14] (none,.r (.fldA 42 (.t 41) 3)) (.take [9,10,11,12,13,14] (none,.r (.ld 43 (.t 42) 1 false)) (.take [10,11,12,13,14] (none,.r (.len 44 (.t 43))) (.take [11,12,13,14] (none,
 .r (.bin 45 .sub 0 (.t 44) (.c (.int .i64 1)))) (.one 11 (none,.slc 46 (.t 39) none (some (.t 45)) 1) (.take [13,14] (none,.r (.nilck 47 (.t 35))) (.take [14] (none,.r (.fldA 48 (.t 47) 3)) (.one 14 (none,.st (.t 48) (.t 46) 1) .done))))))))))))))
def c_f61_r7 : List GOp :=[(none,.r (.mov 49 (.t 0))),(none,.r (.nilck 50 (.t 49))),(none,.r (.fldA 51 (.t 50) 0)),(none,.r (.ld 52 (.t 51) 1 false)),(none,.r (.mov 53 (.t 6))),(none,.r (.idxA 54 (.t 52) (.t 53) 1)),(none,.r (.ld 55 (.t 54) 1 false)),(none,.r (.len 56 (.t 55))),(none,.r (.mov 57 (.c (.int .i64 0))))]
def c_f61_r8 : List GOp :=[(none,.r (.bin 58 .lss 0 (.t 57) (.t 56)))]
def c_f61_r9 : List GOp :=[(none,.r (.idxA 59 (.t 55) (.t 57) 1)),(none,.r (.ld 60 (.t 59) 1 false)),(none,.asg 8 (.t 60) true)]
def c_f61_r10 : List GOp :=[(none,.r (.mov 61 (.t 5))),(none,.r (.mov 62 (.t 8))),(none,.call 63 (.t 61) [(.t 62,false)])]
def c_f61_r11 : List GOp :=[(none,.r (.bin 64 .add 0 (.t 57) (.c (.int .i64 1)))),(none,.asg 57 (.t 64) true)]
def c_f61_r12 : List GOp :=[(none,.r (.mov 65 (.t 0))),(none,.r (.nilck 66 (.t 65))),(none,.r (.fldA 67 (.t 66) 2)),(none,.r (.ld 68 (.t 67) 1 false)),(none,.call 69 (.f 72) [(.t 68,false)])]
def c_f61_r13 : List GOp :=[(none,.r (.mov 70 (.t 0))),(none,.r (.nilck 71 (.t 70))),(none,.r (.fldA 72 (.t 71) 2)),(none,.r (.ld 73 (.t 72) 1 false)),(none,.asg 4 (.t 73) true)]
def v_f61 : List Nat := [0, 1, 4, 5, 6, 8, 22, 55, 56, 57, 58]
def c_f61 : ACode :=.seq (.reg [0,1,4,5,6,8,22,55,56,57,58] c_f61_r0 v_f61) (.seq (.reg [0,1,4,5,6,8,22,55,56,57,58] c_f61_r1 v_f61) (.seq (.reg [0,1,4,5,6,8,22,55,56,57,58] c_f61_r2 v_f61) (.seq (.reg [0,
 1,4,5,6,8,22,55,56,57,58] c_f61_r3 v_f61) (.seq (.blk 0 (.loop (.seq (.seq (.reg [0,1,4,5,6,8,55,56,57,58] c_f61_r4 v_f61) (.cond (.t 22) .skip (.exit 0))) (.blk 1 (.seq (.draw [0,1,4,5,6,8,22,55,56,57,58] c_f61_r5 v_f61) (.seq (.draw [0,
 1,4,5,6,8,22,55,56,57,58] c_f61_r6 v_f61) (.seq (.reg [0,1,4,5,6,8,22,58] c_f61_r7 v_f61) (.blk 2 (.loop (.seq (.reg [0,1,4,5,6,8,22,55,56,57] c_f61_r8 v_f61) (.seq (.cond (.t 58) .skip (.exit 2)) (.seq (.blk 3 (.seq (.reg [0,
 1,4,5,6,8,22,55,56,57,58] c_f61_r9 v_f61) (.reg [0,1,4,5,6,8,22,55,56,57,58] c_f61_r10 v_f61))) (.reg [0,1,4,5,6,8,22,55,56,57,58] c_f61_r11 v_f61))))))))))))) (.seq (.reg [0,1,4,5,6,8,22,55,56,57,58] c_f61_r12 v_f61) (.seq (.reg [0,
 1,4,5,6,8,22,55,56,57,58] c_f61_r13 v_f61) .ret))))))
abbrev n_f61 : Nat := 61
theorem s_f61 : stripF Try.prog [4] v_f61 Try.f61 = some (c_f61, [(.tmp 4)]) := by kernel_rfl
theorem go_f61 {L : List (List Nat)} {args : List AVal} {h : Heap} {Q : AVal → Heap → Prop} (hl : args.length = 2) (H : Wlk Try.prog [4] Try.f61.ntmps v_f61 L c_f61 (ends L [(.tmp 4)] Q) (entry v_f61 args h)) : ACalls Try.prog L n_f61 args h Q :=
 acalls_of_strip mix Try.func61 s_f61 (by rw [hl]; exact Nat.le_of_ble_eq_true rfl) H
def c_f62_r0 : List GOp :=[(none,.asg 4 (.c (.slice none 0 0)) true)]
def c_f62_r1 : List GOp :=[(none,.r (.mov 9 (.t 1))),(none,.r (.bin 10 .lss 0 (.t 9) (.c (.int .i64 0))))]
def c_f62_r2 : List GOp :=[(none,.bad (some 11)),(none,.bad none)]
def c_f62_r3 : List GOp :=[(none,.r (.mov 13 (.t 0))),(none,.r (.len 14 (.t 13))),(none,.r (.conv 15 .u64 (.t 14))),(none,.r (.mov 16 (.t 1))),(none,.r (.conv 17 .u64 (.t 16))),(none,.call 18 (.f 73) [(.t 15,false),(.t 17,false)]),(none,.r (.mov 12 (.t 18))),(none,.r (.ext 19 (.t 12) 0)),
 (none,.r (.ext 20 (.t 12) 1)),(none,.asg 5 (.t 19) true),(none,.asg 6 (.t 20) true)]
def c_f62_r4 : List GOp :=[(none,.r (.mov 21 (.t 5))),(none,.r (.bin 22 .gtr 0 (.t 21) (.c (.int .u64 0)))),(none,.r (.mov 23 (.t 22))),(some (23,false),.r (.mov 24 (.t 6))),(some (23,false),.r (.bin 25 .gtr 0 (.t 24) (.c (.int .u64 9223372036854775807)))),(none,.r (.pick 26 (.t 23) (.c (.bool true)) (.t 25)))]
def c_f62_r5 : List GOp :=[(none,.bad (some 27)),(none,.bad none)]
def c_f62_r6 : List GOp :=[(none,.r (.mov 28 (.t 6))),(none,.r (.conv 29 .i64 (.t 28))),(none,.mk 30 (.t 29) (.t 29) 1 8 [.int .i64 0]),(none,.asg 7 (.t 30) true)]
def c_f62_r7 : List GOp :=[(none,.r (.mov 31 (.t 7))),(none,.r (.mov 32 (.t 0))),(none,.cpy 33 (.t 31) (.t 32) 1),(none,.asg 8 (.t 33) true)]
def c_f62_r8 : List GOp :=[(none,.r (.mov 34 (.t 8))),(none,.r (.mov 35 (.t 7))),(none,.r (.len 36 (.t 35))),(none,.r (.bin 37 .lss 0 (.t 34) (.t 36)))]
def c_f62_r9 : Tree :=.take [8,9] (none,.r (.mov 38 (.t 8))) (.take [3,7,8,9] (none,.r (.mov 39 (.t 7))) (.take [3,7,8,9] (none,.r (.mov 40 (.t 8))) (.take [6,7,8,9] (none,.r (.mov 42 (.t 7))) (.take [6,7,8,9] (none,.r (.mov 43 (.t 8))) (.two 3 (none,.slc 41 (.t 39) (some (.t 40)) none 1) (.one 6 (none,
 .slc 44 (.t 42) none (some (.t 43)) 1) (.one 7 (none,.cpy 45 (.t 41) (.t 44) 1) (.take [9] (none,.r (.bin 46 .add 0 (.t 38) (.t 45))) (.one 9 (none,.asg 8 (.t 46) true) .done)))) 6 (none,.slc 44 (.t 42) none (some (.t 43)) 1) (.one 3 (none,.slc 41 (.t 39) (some (.t 40)) none 1) (.one 7 (none,.cpy 45 (.t 41) (.t 44) 1) (.take [9] (none,
 .r (.bin 46 .add 0 (.t 38) (.t 45))) (.one 9 (none,.asg 8 (.t 46) true) .done)))))))))
def c_f62_r10 : List GOp :=[(none,.r (.mov 47 (.t 7))),(none,.asg 4 (.t 47) true)]
def v_f62 : List Nat := [0, 1, 4, 5, 6, 7, 8, 10, 26, 37]
def c_f62 : ACode :=.seq (.reg [0,1,4,5,6,7,8,10,26,37] c_f62_r0 v_f62) (.seq (.seq (.reg [0,1,4,5,6,7,8,26,37] c_f62_r1 v_f62) (.cond (.t 10) (.reg [0,1,4,5,6,7,8,10,26,37] c_f62_r2 v_f62) .skip)) (.seq (.reg [0,
 1,4,5,6,7,8,10,26,37] c_f62_r3 v_f62) (.seq (.seq (.reg [0,1,4,5,6,7,8,10,37] c_f62_r4 v_f62) (.cond (.t 26) (.reg [0,1,4,5,6,7,8,10,26,37] c_f62_r5 v_f62) .skip)) (.seq (.reg [0,
 1,4,5,6,7,8,10,26,37] c_f62_r6 v_f62) (.seq (.reg [0,1,4,5,6,7,8,10,26,37] c_f62_r7 v_f62) (.seq (.blk 0 (.loop (.seq (.seq (.reg [0,1,4,5,6,7,8,10,26] c_f62_r8 v_f62) (.cond (.t 37) .skip (.exit 0))) (.blk 1 (.draw [0,
 1,4,5,6,7,8,10,26,37] c_f62_r9 v_f62))))) (.seq (.reg [0,1,4,5,6,7,8,10,26,37] c_f62_r10 v_f62) .ret)))))))
abbrev n_f62 : Nat := 62
theorem s_f62 : stripF Try.prog [4] v_f62 Try.f62 = some (c_f62, [(.tmp 4)]) := by kernel_rfl
theorem go_f62 {L : List (List Nat)} {args : List AVal} {h : Heap} {Q : AVal → Heap → Prop} (hl : args.length = 2) (H : Wlk Try.prog [4] Try.f62.ntmps v_f62 L c_f62 (ends L [(.tmp 4)] Q) (entry v_f62 args h)) : ACalls Try.prog L n_f62 args h Q :=
 acalls_of_strip mix Try.func62 s_f62 (by rw [hl]; exact Nat.le_of_ble_eq_true rfl) H
def c_f63_r0 : List GOp :=[(none,.asg 4 (.c (.pointer none)) true)]
def c_f63_r1 : List GOp :=[(none,.r (.mov 8 (.t 0))),(none,.r (.len 9 (.t 8))),(none,.asg 5 (.t 9) true)]
def c_f63_r2 : Tree :=.take [24,25,26] (none,.r (.mov 10 (.t 0))) (.take [24,25,26] (none,.r (.mov 11 (.t 1))) (.take [3,24,25,26] (none,.r (.mov 12 (.t 5))) (.take [5,24,25,26] (none,.r (.mov 14 (.t 5))) (.take [7,24,25,26] (none,.r (.mov 16 (.t 5))) (.take [9,24,25,26] (none,.r (.mov 18 (.t 5))) (.take [11,
 24,25,26] (none,.r (.mov 20 (.t 5))) (.take [13,24,25,26] (none,.r (.mov 22 (.t 5))) (.take [15,24,25,26] (none,.r (.mov 24 (.t 5))) (.take [17,24,25,26] (none,.r (.mov 26 (.t 5))) (.take [19,24,25,26] (none,.r (.mov 28 (.t 5))) (.take [21,24,25,26] (none,.r (.mov 30 (.t 5))) (.take [23,24,25,26] (none,
 .r (.mov 32 (.t 5))) (.many [(3,(none,.mk 13 (.t 12) (.t 12) 1 8 [.int .i64 0])),(5,(none,.mk 15 (.t 14) (.t 14) 1 1 [.bool false])),(7,(none,.mk 17 (.t 16) (.t 16) 1 8 [.int .i64 0])),(9,(none,.mk 19 (.t 18) (.t 18) 1 8 [.int .i64 0])),(11,(none,.mk 21 (.t 20) (.t 20) 1 8 [.int .i64 0])),(13,(none,.mk 23 (.t 22) (.t 22) 1 8 [.int .i64 0])),
 (15,(none,.mk 25 (.t 24) (.t 24) 2 16 [.int .i64 0,.int .i64 0])),(17,(none,.mk 27 (.t 26) (.t 26) 1 1 [.bool false])),(19,(none,.mk 29 (.t 28) (.t 28) 1 8 [.int .i64 0])),(21,(none,.mk 31 (.t 30) (.t 30) 1 8 [.int .i64 0])),(23,(none,.mk 33 (.t 32) (.t 32) 1 8 [.int .i64 0]))] (.one 24 (none,.bld 34 [((0,
 1),(.t 10,true)),((1,1),(.t 11,true)),((2,1),(.t 13,true)),((3,1),(.t 15,true)),((4,1),(.t 17,true)),((5,1),(.t 19,true)),((6,1),(.t 21,true)),((7,1),(.t 23,true)),((8,1),(.t 25,true)),((9,1),(.t 27,true)),((10,1),(.t 29,true)),((11,1),(.t 31,true)),((12,1),(.t 33,true))] [.slice none 0 0,.slice none 0 0,
 .slice none 0 0,.slice none 0 0,.slice none 0 0,.slice none 0 0,.slice none 0 0,.slice none 0 0,.slice none 0 0,.slice none 0 0,.slice none 0 0,.slice none 0 0,.slice none 0 0,.int .i64 0,.slice none 0 0,.int .i64 0]) (.one 25 (none,.box 35 (.t 34)) (.one 26 (none,.asg 6 (.t 35) true) .done))))))))))))))))
def c_f63_r3 : List GOp :=[(none,.r (.mov 36 (.t 5))),(none,.r (.mov 37 (.c (.int .i64 0))))]
def c_f63_r4 : List GOp :=[(none,.r (.bin 38 .lss 0 (.t 37) (.t 36)))]
def c_f63_r5 : List GOp :=[(none,.r (.mov 39 (.t 37))),(none,.asg 7 (.t 39) true)]
def c_f63_r6 : Tree :=.take [1,2,3,17,18,19,20,21,22] (none,.r (.mov 40 (.t 6))) (.take [2,3,17,18,19,20,21,22] (none,.r (.nilck 41 (.t 40))) (.take [3,17,18,19,20,21,22] (none,.r (.fldA 42 (.t 41) 10)) (.take [17,18,19,20,21,22] (none,.r (.ld 43 (.t 42) 1 false)) (.take [17,18,19,20,21,22] (none,
 .r (.mov 44 (.t 7))) (.take [6,7,8,17,18,19,20,21,22] (none,.r (.mov 45 (.t 6))) (.take [7,8,17,18,19,20,21,22] (none,.r (.nilck 46 (.t 45))) (.take [8,17,18,19,20,21,22] (none,.r (.fldA 47 (.t 46) 11)) (.take [17,18,19,20,21,22] (none,.r (.ld 48 (.t 47) 1 false)) (.take [19,20,21,22] (none,.r (.mov 49 (.t 7))) (.take [11,
 12,13,17,18,19,20,21,22] (none,.r (.mov 50 (.t 6))) (.take [12,13,17,18,19,20,21,22] (none,.r (.nilck 51 (.t 50))) (.take [13,17,18,19,20,21,22] (none,.r (.fldA 52 (.t 51) 7)) (.take [17,18,19,20,21,22] (none,.r (.ld 53 (.t 52) 1 false)) (.take [21,22] (none,.r (.mov 54 (.t 7))) (.take [17,18,19,20,21,
 22] (none,.r (.mov 55 (.t 7))) (.take [19,20,21,22] (none,.r (.mov 56 (.t 7))) (.take [18,19,20,21,22] (none,.r (.idxA 57 (.t 43) (.t 44) 1)) (.one 18 (none,.st (.t 57) (.t 55) 1) (.take [20,21,22] (none,.r (.idxA 58 (.t 48) (.t 49) 1)) (.one 20 (none,.st (.t 58) (.t 56) 1) (.take [22] (none,.r (.idxA 59 (.t 53) (.t 54) 1)) (.one 22 (none,
 .st (.t 59) (.c (.int .i64 (- (0 + 1)))) 1) .done))))))))))))))))))))))
def c_f63_r7 : List GOp :=[(none,.r (.mov 60 (.t 1))),(none,.r (.mov 61 (.t 7))),(none,.r (.idxA 62 (.t 60) (.t 61) 1)),(none,.r (.ld 63 (.t 62) 1 false)),(none,.r (.bin 64 .eql 0 (.t 63) (.c (.int .i64 (- (0 + 1))))))]
def c_f63_r8 : List GOp :=[(none,.r (.mov 65 (.t 6))),(none,.r (.nilck 66 (.t 65))),(none,.r (.fldA 67 (.t 66) 7)),(none,.r (.ld 68 (.t 67) 1 false)),(none,.r (.mov 69 (.t 7))),(none,.r (.mov 70 (.t 7))),(none,.r (.idxA 71 (.t 68) (.t 69) 1)),(none,.st (.t 71) (.t 70) 1)]
def c_f63_r9 : List GOp :=[(none,.r (.mov 72 (.t 6))),(none,.r (.mov 73 (.t 7))),(none,.call 74 (.f 74) [(.t 72,false),(.t 73,false),(.c (.int .i64 0),false),(.c (.int .i64 1),false)])]
def c_f63_r10 : List GOp :=[(none,.r (.bin 75 .add 0 (.t 37) (.c (.int .i64 1)))),(none,.asg 37 (.t 75) true)]
def c_f63_r11 : List GOp :=[(none,.r (.mov 76 (.t 6))),(none,.asg 4 (.t 76) true)]
def v_f63 : List Nat := [0, 1, 4, 5, 6, 7, 36, 37, 38, 64]
def c_f63 : ACode :=.seq (.reg [0,1,4,5,6,7,36,37,38,64] c_f63_r0 v_f63) (.seq (.reg [0,1,4,5,6,7,36,37,38,64] c_f63_r1 v_f63) (.seq (.draw [0,1,4,5,6,7,36,37,38,64] c_f63_r2 v_f63) (.seq (.seq (.reg [0,1,4,5,6,7,38,64] c_f63_r3 v_f63) (.blk 0 (.loop (.seq (.reg [0,
 1,4,5,6,7,36,37,64] c_f63_r4 v_f63) (.seq (.cond (.t 38) .skip (.exit 0)) (.seq (.blk 1 (.seq (.reg [0,1,4,5,6,7,36,37,38,64] c_f63_r5 v_f63) (.seq (.draw [0,1,4,5,6,7,36,37,38,64] c_f63_r6 v_f63) (.seq (.reg [0,1,4,5,6,7,36,37,38] c_f63_r7 v_f63) (.cond (.t 64) (.seq (.reg [0,
 1,4,5,6,7,36,37,38,64] c_f63_r8 v_f63) (.reg [0,1,4,5,6,7,36,37,38,64] c_f63_r9 v_f63)) .skip))))) (.reg [0,1,4,5,6,7,36,37,38,64] c_f63_r10 v_f63))))))) (.seq (.reg [0,1,4,5,6,7,36,37,38,64] c_f63_r11 v_f63) .ret))))
abbrev n_f63 : Nat := 63
theorem s_f63 : stripF Try.prog [4] v_f63 Try.f63 = some (c_f63, [(.tmp 4)]) := by kernel_rfl
theorem go_f63 {L : List (List Nat)} {args : List AVal} {h : Heap} {Q : AVal → Heap → Prop} (hl : args.length = 2) (H : Wlk Try.prog [4] Try.f63.ntmps v_f63 L c_f63 (ends L [(.tmp 4)] Q) (entry v_f63 args h)) : ACalls Try.prog L n_f63 args h Q :=
 acalls_of_strip mix Try.func63 s_f63 (by rw [hl]; exact Nat.le_of_ble_eq_true rfl) H
def c_f64_r0 : List GOp :=[(none,.asg 4 (.c (.int .i64 0)) true)]
def c_f64_r1 : Tree :=.take [1,2,3,7,8,9] (none,.r (.mov 5 (.t 0))) (.take [2,3,7,8,9] (none,.r (.nilck 6 (.t 5))) (.take [3,7,8,9] (none,.r (.fldA 7 (.t 6) 11)) (.take [7,8,9] (none,.r (.ld 8 (.t 7) 1 false)) (.take [6,7,8,9] (none,.r (.mov 9 (.t 0))) (.take [6,7,8,9] (none,.r (.mov 10 (.t 1))) (.one 6 (none,
 .call 11 (.f 75) [(.t 9,false),(.t 10,false)]) (.take [8,9] (none,.r (.idxA 12 (.t 8) (.t 11) 1)) (.take [9] (none,.r (.ld 13 (.t 12) 1 false)) (.one 9 (none,.asg 4 (.t 13) true) .done)))))))))
def v_f64 : List Nat := [0, 1, 4]
def c_f64 : ACode :=.seq (.reg [0,1,4] c_f64_r0 v_f64) (.seq (.draw [0,1,4] c_f64_r1 v_f64) .ret)
abbrev n_f64 : Nat := 64
theorem s_f64 : stripF Try.prog [4] v_f64 Try.f64 = some (c_f64, [(.tmp 4)]) := by kernel_rfl
theorem go_f64 {L : List (List Nat)} {args : List AVal} {h : Heap} {Q : AVal → Heap → Prop} (hl : args.length = 2) (H : Wlk Try.prog [4] Try.f64.ntmps v_f64 L c_f64 (ends L [(.tmp 4)] Q) (entry v_f64 args h)) : ACalls Try.prog L n_f64 args h Q :=
 acalls_of_strip mix Try.func64 s_f64 (by rw [hl]; exact Nat.le_of_ble_eq_true rfl) H
def c_f65_r0 : List GOp :=[(none,.asg 2 (.c (.int .i64 0)) true),(none,.asg 3 (.c (.bool false)) true)]
def c_f65_r1 : List GOp :=[(none,.r (.mov 5 (.t 0))),(none,.r (.nilck 6 (.t 5))),(none,.r (.fldA 7 (.t 6) 14)),(none,.r (.ld 8 (.t 7) 1 false)),(none,.r (.len 9 (.t 8))),(none,.r (.bin 10 .eql 0 (.t 9) (.c (.int .i64 0))))]
def c_f65_r2 : List GOp :=[(none,.asg 2 (.c (.int .i64 0)) true),(none,.asg 3 (.c (.bool false)) true)]
def c_f65_r3 : List GOp :=[(none,.r (.mov 11 (.t 0))),(none,.r (.nilck 12 (.t 11))),(none,.r (.fldA 13 (.t 12) 14)),(none,.r (.ld 14 (.t 13) 1 false)),(none,.r (.idxA 15 (.t 14) (.c (.int .i64 0)) 1)),(none,.r (.ld 16 (.t 15) 1 false)),(none,.asg 4 (.t 16) true)]
def c_f65_r4 : List GOp :=[(none,.r (.mov 17 (.t 0))),(none,.r (.mov 18 (.t 0))),(none,.r (.nilck 19 (.t 18))),(none,.r (.fldA 20 (.t 19) 14)),(none,.r (.ld 21 (.t 20) 1 false)),(none,.slc 22 (.t 21) (some (.c (.int .i64 1))) none 1),(none,.r (.nilck 23 (.t 17))),(none,.r (.fldA 24 (.t 23) 14)),
 (none,.st (.t 24) (.t 22) 1)]
def c_f65_r5 : List GOp :=[(none,.r (.mov 25 (.t 4))),(none,.asg 2 (.t 25) true),(none,.asg 3 (.c (.bool true)) true)]
def v_f65 : List Nat := [0, 2, 3, 4, 10]
def c_f65 : ACode :=.seq (.reg [0,2,3,4,10] c_f65_r0 v_f65) (.seq (.seq (.reg [0,2,3,4] c_f65_r1 v_f65) (.cond (.t 10) (.seq (.reg [0,2,3,4,10] c_f65_r2 v_f65) .ret) .skip)) (.seq (.reg [0,2,3,4,10] c_f65_r3 v_f65) (.seq (.reg [0,
 2,3,4,10] c_f65_r4 v_f65) (.seq (.reg [0,2,3,4,10] c_f65_r5 v_f65) .ret))))
abbrev n_f65 : Nat := 65
theorem s_f65 : stripF Try.prog [2, 3] v_f65 Try.f65 = some (c_f65, [(.tmp 2), (.tmp 3)]) := by kernel_rfl
theorem go_f65 {L : List (List Nat)} {args : List AVal} {h : Heap} {Q : AVal → Heap → Prop} (hl : args.length = 1) (H : Wlk Try.prog [2, 3] Try.f65.ntmps v_f65 L c_f65 (ends L [(.tmp 2), (.tmp 3)] Q) (entry v_f65 args h)) : ACalls Try.prog L n_f65 args h Q :=
 acalls_of_strip mix Try.func65 s_f65 (by rw [hl]; exact Nat.le_of_ble_eq_true rfl) H
def c_f66_r0 : List GOp :=[(none,.asg 6 (.c (.int .i64 0)) true)]
def c_f66_r1 : List GOp :=[(none,.r (.mov 7 (.t 0))),(none,.r (.nilck 8 (.t 7))),(none,.r (.fldA 9 (.t 8) 15)),(none,.r (.ld 10 (.t 9) 1 false)),(none,.r (.bin 11 .add 0 (.t 10) (.c (.int .i64 1)))),(none,.r (.nilck 12 (.t 7))),(none,.r (.fldA 13 (.t 12) 15)),(none,.st (.t 13) (.t 11) 1)]
def c_f66_r2 : List GOp :=[(none,.r (.mov 15 (.t 2))),(none,.r (.mov 16 (.t 0))),(none,.r (.nilck 17 (.t 16))),(none,.r (.fldA 18 (.t 17) 1)),(none,.r (.ld 19 (.t 18) 1 false)),(none,.r (.mov 20 (.t 1))),(none,.r (.idxA 21 (.t 19) (.t 20) 1)),(none,.r (.ld 22 (.t 21) 1 false)),(none,.r (.bin 23 .eql 0 (.t 15) (.t 22))),
 (none,.r (.mov 24 (.t 23))),(some (24,false),.r (.mov 25 (.t 0))),(some (24,false),.r (.mov 26 (.t 1))),(some (24,false),.call 27 (.f 76) [(.t 25,false),(.t 26,false)]),(none,.r (.pick 28 (.t 24) (.c (.bool true)) (.t 27))),(none,.r (.mov 29 (.t 28))),(some (29,false),.r (.mov 30 (.t 0))),(some (29,false),
 .r (.mov 31 (.t 2))),(some (29,false),.call 32 (.f 76) [(.t 30,false),(.t 31,false)]),(none,.r (.pick 33 (.t 29) (.c (.bool true)) (.t 32))),(none,.asg 14 (.t 33) true)]
def c_f66_r3 : List GOp :=[(none,.asg 6 (.c (.int .i64 0)) true)]
def c_f66_r4 : List GOp :=[(none,.r (.mov 35 (.t 0))),(none,.r (.nilck 36 (.t 35))),(none,.r (.fldA 37 (.t 36) 2)),(none,.r (.ld 38 (.t 37) 1 false)),(none,.r (.mov 39 (.t 2))),(none,.r (.idxA 40 (.t 38) (.t 39) 1)),(none,.r (.ld 41 (.t 40) 1 false)),(none,.r (.bin 42 .eql 0 (.t 41) (.c (.int .i64 0)))),
 (none,.asg 34 (.t 42) true)]
def c_f66_r5 : List GOp :=[(none,.asg 6 (.c (.int .i64 1)) true)]
def c_f66_r6 : List GOp :=[(none,.r (.mov 44 (.t 0))),(none,.r (.nilck 45 (.t 44))),(none,.r (.fldA 46 (.t 45) 3)),(none,.r (.ld 47 (.t 46) 1 false)),(none,.r (.mov 48 (.t 2))),(none,.r (.idxA 49 (.t 47) (.t 48) 1)),(none,.r (.ld 50 (.t 49) 1 false)),(none,.r (.mov 51 (.t 50))),(some (51,
 true),.r (.mov 52 (.t 0))),(some (51,true),.r (.mov 53 (.t 1))),(some (51,true),.call 54 (.f 64) [(.t 52,false),(.t 53,false)]),(some (51,true),.r (.mov 55 (.t 0))),(some (51,true),.r (.mov 56 (.t 2))),(some (51,true),.call 57 (.f 64) [(.t 55,false),(.t 56,false)]),(some (51,true),.r (.bin 58 .neq 0 (.t 54) (.t 57))),
 (none,.r (.pick 59 (.t 51) (.t 58) (.c (.bool false)))),(none,.asg 43 (.t 59) true)]
def c_f66_r7 : List GOp :=[(none,.asg 6 (.c (.int .i64 2)) true)]
def c_f66_r8 : List GOp :=[(none,.asg 6 (.c (.int .i64 0)) true)]
def v_f66 : List Nat := [0, 1, 2, 6, 14, 34, 43]
def c_f66 : ACode :=.seq (.reg [0,1,2,6,14,34,43] c_f66_r0 v_f66) (.seq (.reg [0,1,2,6,14,34,43] c_f66_r1 v_f66) (.seq (.blk 0 (.seq (.reg [0,1,2,6,14,34,43] c_f66_r2 v_f66) (.cond (.t 14) (.seq (.reg [0,
 1,2,6,14,34,43] c_f66_r3 v_f66) .ret) (.seq (.reg [0,1,2,6,14,34,43] c_f66_r4 v_f66) (.cond (.t 34) (.seq (.reg [0,1,2,6,14,34,43] c_f66_r5 v_f66) .ret) (.seq (.reg [0,1,2,6,14,34,43] c_f66_r6 v_f66) (.cond (.t 43) (.seq (.reg [0,
 1,2,6,14,34,43] c_f66_r7 v_f66) .ret) .skip))))))) (.seq (.reg [0,1,2,6,14,34,43] c_f66_r8 v_f66) .ret)))
abbrev n_f66 : Nat := 66
theorem s_f66 : stripF Try.prog [6] v_f66 Try.f66 = some (c_f66, [(.tmp 6)]) := by kernel_rfl
theorem go_f66 {L : List (List Nat)} {args : List AVal} {h : Heap} {Q : AVal → Heap → Prop} (hl : args.length = 3) (H : Wlk Try.prog [6] Try.f66.ntmps v_f66 L c_f66 (ends L [(.tmp 6)] Q) (entry v_f66 args h)) : ACalls Try.prog L n_f66 args h Q :=
 acalls_of_strip mix Try.func66 s_f66 (by rw [hl]; exact Nat.le_of_ble_eq_true rfl) H
def c_f67_r0 : Tree :=.take [1,2,3,36,37,38,39,40,41,42,43] (none,.r (.mov 7 (.t 0))) (.take [2,3,36,37,38,39,40,41,42,43] (none,.r (.nilck 8 (.t 7))) (.take [3,36,37,38,39,40,41,42,43] (none,.r (.fldA 9 (.t 8) 2)) (.take [36,37,38,39,40,41,42,43] (none,.r (.ld 10 (.t 9) 1 false)) (.take [36,
 37,38,39,40,41,42,43] (none,.r (.mov 11 (.t 2))) (.take [6,7,8,36,37,38,39,40,41,42,43] (none,.r (.mov 12 (.t 0))) (.take [7,8,36,37,38,39,40,41,42,43] (none,.r (.nilck 13 (.t 12))) (.take [8,36,37,38,39,40,41,42,43] (none,.r (.fldA 14 (.t 13) 6)) (.take [36,37,38,39,40,41,42,43] (none,.r (.ld 15 (.t 14) 1 false)) (.take [38,
 39,40,41,42,43] (none,.r (.mov 16 (.t 2))) (.take [11,12,13,36,37,38,39,40,41,42,43] (none,.r (.mov 17 (.t 0))) (.take [12,13,36,37,38,39,40,41,42,43] (none,.r (.nilck 18 (.t 17))) (.take [13,36,37,38,39,40,41,42,43] (none,.r (.fldA 19 (.t 18) 7)) (.take [36,37,38,39,40,41,42,43] (none,.r (.ld 20 (.t 19) 1 false)) (.take [40,
 41,42,43] (none,.r (.mov 21 (.t 2))) (.take [16,17,18,36,37,38,39,40,41,42,43] (none,.r (.mov 22 (.t 0))) (.take [17,18,36,37,38,39,40,41,42,43] (none,.r (.nilck 23 (.t 22))) (.take [18,36,37,38,39,40,41,42,43] (none,.r (.fldA 24 (.t 23) 5)) (.take [36,37,38,39,40,41,42,43] (none,.r (.ld 25 (.t 24) 1 false)) (.take [42,
 43] (none,.r (.mov 26 (.t 2))) (.take [38,39,40,41,42,43] (none,.r (.mov 27 (.t 1))) (.take [22,23,24,26,27,36,37,38,39,40,41,42,43] (none,.r (.mov 28 (.t 0))) (.take [23,24,26,27,36,37,38,39,40,41,42,43] (none,.r (.nilck 29 (.t 28))) (.take [24,26,27,36,37,38,39,40,41,42,43] (none,.r (.fldA 30 (.t 29) 7)) (.take [26,
 27,36,37,38,39,40,41,42,43] (none,.r (.ld 31 (.t 30) 1 false)) (.take [26,27,36,37,38,39,40,41,42,43] (none,.r (.mov 32 (.t 1))) (.take [27,36,37,38,39,40,41,42,43] (none,.r (.idxA 33 (.t 31) (.t 32) 1)) (.take [36,37,38,39,40,41,42,43] (none,.r (.ld 34 (.t 33) 1 false)) (.take [29,30,31,33,34,35,36,
 37,38,39,40,41,42,43] (none,.r (.mov 35 (.t 0))) (.take [30,31,33,34,35,36,37,38,39,40,41,42,43] (none,.r (.nilck 36 (.t 35))) (.take [31,33,34,35,36,37,38,39,40,41,42,43] (none,.r (.fldA 37 (.t 36) 4)) (.take [33,34,35,36,37,38,39,40,41,42,43] (none,.r (.ld 38 (.t 37) 1 false)) (.take [33,34,35,36,37,
 38,39,40,41,42,43] (none,.r (.mov 39 (.t 1))) (.take [34,35,36,37,38,39,40,41,42,43] (none,.r (.idxA 40 (.t 38) (.t 39) 1)) (.take [35,36,37,38,39,40,41,42,43] (none,.r (.ld 41 (.t 40) 1 false)) (.take [42,43] (none,.r (.bin 42 .add 0 (.t 41) (.c (.int .i64 1)))) (.take [37,38,39,40,41,42,43] (none,.r (.idxA 43 (.t 10) (.t 11) 1)) (.one 37 (none,
 .st (.t 43) (.c (.int .i64 2)) 1) (.take [39,40,41,42,43] (none,.r (.idxA 44 (.t 15) (.t 16) 1)) (.one 39 (none,.st (.t 44) (.t 27) 1) (.take [41,42,43] (none,.r (.idxA 45 (.t 20) (.t 21) 1)) (.one 41 (none,.st (.t 45) (.t 34) 1) (.take [43] (none,.r (.idxA 46 (.t 25) (.t 26) 1)) (.one 43 (none,.st (.t 46) (.t 42) 1) .done)))))))))))))))))))))))))))))))))))))))))))
def c_f67_r1 : List GOp :=[(none,.r (.mov 47 (.t 0))),(none,.r (.nilck 48 (.t 47))),(none,.r (.fldA 49 (.t 48) 1)),(none,.r (.ld 50 (.t 49) 1 false)),(none,.r (.mov 51 (.t 2))),(none,.r (.idxA 52 (.t 50) (.t 51) 1)),(none,.r (.ld 53 (.t 52) 1 false)),(none,.asg 6 (.t 53) true)]
def c_f67_r2 : Tree :=.take [1,2,3,12,13] (none,.r (.mov 54 (.t 0))) (.take [2,3,12,13] (none,.r (.nilck 55 (.t 54))) (.take [3,12,13] (none,.r (.fldA 56 (.t 55) 7)) (.take [12,13] (none,.r (.ld 57 (.t 56) 1 false)) (.take [12,13] (none,.r (.mov 58 (.t 6))) (.take [6,7,8,10,11,12,13] (none,
 .r (.mov 59 (.t 0))) (.take [7,8,10,11,12,13] (none,.r (.nilck 60 (.t 59))) (.take [8,10,11,12,13] (none,.r (.fldA 61 (.t 60) 7)) (.take [10,11,12,13] (none,.r (.ld 62 (.t 61) 1 false)) (.take [10,11,12,13] (none,.r (.mov 63 (.t 1))) (.take [11,12,13] (none,.r (.idxA 64 (.t 62) (.t 63) 1)) (.take [12,
 13] (none,.r (.ld 65 (.t 64) 1 false)) (.take [13] (none,.r (.idxA 66 (.t 57) (.t 58) 1)) (.one 13 (none,.st (.t 66) (.t 65) 1) .done)))))))))))))
def c_f67_r3 : List GOp :=[(none,.r (.mov 67 (.t 0))),(none,.r (.mov 68 (.t 6))),(none,.r (.mov 69 (.t 0))),(none,.r (.nilck 70 (.t 69))),(none,.r (.fldA 71 (.t 70) 4)),(none,.r (.ld 72 (.t 71) 1 false)),(none,.r (.mov 73 (.t 1))),(none,.r (.idxA 74 (.t 72) (.t 73) 1)),(none,.r (.ld 75 (.t 74) 1 false)),
 (none,.r (.bin 76 .add 0 (.t 75) (.c (.int .i64 2)))),(none,.call 77 (.f 74) [(.t 67,false),(.t 68,false),(.t 76,false),(.c (.int .i64 1),false)])]
def v_f67 : List Nat := [0, 1, 2, 6]
def c_f67 : ACode :=.seq (.draw [0,1,2,6] c_f67_r0 v_f67) (.seq (.reg [0,1,2,6] c_f67_r1 v_f67) (.seq (.draw [0,1,2,6] c_f67_r2 v_f67) (.reg [0,1,2,6] c_f67_r3 v_f67)))
abbrev n_f67 : Nat := 67
theorem s_f67 : stripF Try.prog [] v_f67 Try.f67 = some (c_f67, []) := by kernel_rfl
theorem go_f67 {L : List (List Nat)} {args : List AVal} {h : Heap} {Q : AVal → Heap → Prop} (hl : args.length = 3) (H : Wlk Try.prog [] Try.f67.ntmps v_f67 L c_f67 (ends L [] Q) (entry v_f67 args h)) : ACalls Try.prog L n_f67 args h Q :=
 acalls_of_strip mix Try.func67 s_f67 (by rw [hl]; exact Nat.le_of_ble_eq_true rfl) H
def c_f68_r0 : List GOp :=[(none,.asg 6 (.c (.slice none 0 0)) true)]
def c_f68_r1 : Tree :=.take [1,2,3,5,6,14] (none,.r (.mov 9 (.t 0))) (.take [2,3,5,6,14] (none,.r (.nilck 10 (.t 9))) (.take [3,5,6,14] (none,.r (.fldA 11 (.t 10) 7)) (.take [5,6,14] (none,.r (.ld 12 (.t 11) 1 false)) (.take [5,6,14] (none,.r (.mov 13 (.t 1))) (.take [6,14] (none,.r (.idxA 14 (.t 12) (.t 13) 1)) (.take [14] (none,
 .r (.ld 15 (.t 14) 1 false)) (.take [8,9,10,12,13,14] (none,.r (.mov 16 (.t 0))) (.take [9,10,12,13,14] (none,.r (.nilck 17 (.t 16))) (.take [10,12,13,14] (none,.r (.fldA 18 (.t 17) 7)) (.take [12,13,14] (none,.r (.ld 19 (.t 18) 1 false)) (.take [12,13,14] (none,.r (.mov 20 (.t 2))) (.take [13,14] (none,
 .r (.idxA 21 (.t 19) (.t 20) 1)) (.take [14] (none,.r (.ld 22 (.t 21) 1 false)) (.take [] (none,.r (.bin 23 .neq 0 (.t 15) (.t 22))) .done))))))))))))))
def c_f68_r2 : List GOp :=[(none,.r (.mov 24 (.t 0))),(none,.r (.mov 25 (.t 1))),(none,.r (.mov 26 (.t 0))),(none,.r (.nilck 27 (.t 26))),(none,.r (.fldA 28 (.t 27) 7)),(none,.r (.ld 29 (.t 28) 1 false)),(none,.r (.mov 30 (.t 1))),(none,.r (.idxA 31 (.t 29) (.t 30) 1)),(none,.r (.ld 32 (.t 31) 1 false)),
 (none,.call 33 (.f 78) [(.t 24,false),(.t 25,false),(.t 32,false)]),(none,.call 34 (.f 77) [(.t 33,false)]),(none,.asg 7 (.t 34) true)]
def c_f68_r3 : List GOp :=[(none,.r (.mov 35 (.t 7))),(none,.r (.mov 36 (.t 0))),(none,.r (.mov 37 (.t 2))),(none,.r (.mov 38 (.t 0))),(none,.r (.nilck 39 (.t 38))),(none,.r (.fldA 40 (.t 39) 7)),(none,.r (.ld 41 (.t 40) 1 false)),(none,.r (.mov 42 (.t 2))),(none,.r (.idxA 43 (.t 41) (.t 42) 1)),
 (none,.r (.ld 44 (.t 43) 1 false)),(none,.call 45 (.f 78) [(.t 36,false),(.t 37,false),(.t 44,false)]),(none,.app 46 (.t 35) (.t 45) 1 8),(none,.asg 7 (.t 46) true)]
def c_f68_r4 : Tree :=.take [1,2,3,22,23,24,25] (none,.r (.mov 47 (.t 0))) (.take [2,3,22,23,24,25] (none,.r (.nilck 48 (.t 47))) (.take [3,22,23,24,25] (none,.r (.fldA 49 (.t 48) 9)) (.take [22,23,24,25] (none,.r (.ld 50 (.t 49) 1 false)) (.take [5,6,7,9,10,22,23,24,25] (none,.r (.mov 51 (.t 0))) (.take [6,
 7,9,10,22,23,24,25] (none,.r (.nilck 52 (.t 51))) (.take [7,9,10,22,23,24,25] (none,.r (.fldA 53 (.t 52) 7)) (.take [9,10,22,23,24,25] (none,.r (.ld 54 (.t 53) 1 false)) (.take [9,10,22,23,24,25] (none,.r (.mov 55 (.t 1))) (.take [10,22,23,24,25] (none,.r (.idxA 56 (.t 54) (.t 55) 1)) (.take [22,23,24,
 25] (none,.r (.ld 57 (.t 56) 1 false)) (.take [12,13,14,22,23,24,25] (none,.r (.mov 58 (.t 0))) (.take [13,14,22,23,24,25] (none,.r (.nilck 59 (.t 58))) (.take [14,22,23,24,25] (none,.r (.fldA 60 (.t 59) 9)) (.take [22,23,24,25] (none,.r (.ld 61 (.t 60) 1 false)) (.take [16,17,18,20,21,22,23,24,25] (none,
 .r (.mov 62 (.t 0))) (.take [17,18,20,21,22,23,24,25] (none,.r (.nilck 63 (.t 62))) (.take [18,20,21,22,23,24,25] (none,.r (.fldA 64 (.t 63) 7)) (.take [20,21,22,23,24,25] (none,.r (.ld 65 (.t 64) 1 false)) (.take [20,21,22,23,24,25] (none,.r (.mov 66 (.t 2))) (.take [21,22,23,24,25] (none,.r (.idxA 67 (.t 65) (.t 66) 1)) (.take [22,
 23,24,25] (none,.r (.ld 68 (.t 67) 1 false)) (.take [23,24,25] (none,.r (.idxA 69 (.t 50) (.t 57) 1)) (.one 23 (none,.st (.t 69) (.c (.bool true)) 1) (.take [25] (none,.r (.idxA 70 (.t 61) (.t 68) 1)) (.one 25 (none,.st (.t 70) (.c (.bool true)) 1) .done)))))))))))))))))))))))))
def c_f68_r5 : List GOp :=[(none,.r (.mov 71 (.t 7))),(none,.asg 6 (.t 71) true)]
def c_f68_r6 : List GOp :=[(none,.r (.mov 72 (.t 0))),(none,.r (.mov 73 (.t 0))),(none,.r (.mov 74 (.t 1))),(none,.call 75 (.f 64) [(.t 73,false),(.t 74,false)]),(none,.r (.mov 76 (.t 0))),(none,.r (.mov 77 (.t 2))),(none,.call 78 (.f 64) [(.t 76,false),(.t 77,false)]),(none,.call 79 (.f 79) [(.t 72,
 false),(.t 75,false),(.t 78,false)]),(none,.asg 8 (.t 79) true)]
def c_f68_r7 : List GOp :=[(none,.r (.mov 80 (.t 0))),(none,.r (.mov 81 (.t 1))),(none,.r (.mov 82 (.t 2))),(none,.r (.mov 83 (.t 8))),(none,.call 84 (.f 80) [(.t 80,false),(.t 81,false),(.t 82,false),(.t 83,false)])]
def c_f68_r8 : List GOp :=[(none,.r (.mov 85 (.t 0))),(none,.r (.mov 86 (.t 2))),(none,.r (.mov 87 (.t 1))),(none,.r (.mov 88 (.t 8))),(none,.call 89 (.f 80) [(.t 85,false),(.t 86,false),(.t 87,false),(.t 88,false)])]
def c_f68_r9 : List GOp :=[(none,.asg 6 (.c (.slice none 0 0)) true)]
def v_f68 : List Nat := [0, 1, 2, 6, 7, 8, 23]
def c_f68 : ACode :=.seq (.reg [0,1,2,6,7,8,23] c_f68_r0 v_f68) (.seq (.seq (.draw [0,1,2,6,7,8] c_f68_r1 v_f68) (.cond (.t 23) (.seq (.reg [0,1,2,6,7,8,23] c_f68_r2 v_f68) (.seq (.reg [0,1,2,6,7,
 8,23] c_f68_r3 v_f68) (.seq (.draw [0,1,2,6,7,8,23] c_f68_r4 v_f68) (.seq (.reg [0,1,2,6,7,8,23] c_f68_r5 v_f68) .ret)))) .skip)) (.seq (.reg [0,1,2,6,7,8,23] c_f68_r6 v_f68) (.seq (.reg [0,
 1,2,6,7,8,23] c_f68_r7 v_f68) (.seq (.reg [0,1,2,6,7,8,23] c_f68_r8 v_f68) (.seq (.reg [0,1,2,6,7,8,23] c_f68_r9 v_f68) .ret)))))
abbrev n_f68 : Nat := 68
theorem s_f68 : stripF Try.prog [6] v_f68 Try.f68 = some (c_f68, [(.tmp 6)]) := by kernel_rfl
theorem go_f68 {L : List (List Nat)} {args : List AVal} {h : Heap} {Q : AVal → Heap → Prop} (hl : args.length = 3) (H : Wlk Try.prog [6] Try.f68.ntmps v_f68 L c_f68 (ends L [(.tmp 6)] Q) (entry v_f68 args h)) : ACalls Try.prog L n_f68 args h Q :=
 acalls_of_strip mix Try.func68 s_f68 (by rw [hl]; exact Nat.le_of_ble_eq_true rfl) H
def c_f69_r0 : List GOp :=[(none,.asg 2 (.c (.slice none 0 0)) true)]
def c_f69_r1 : List GOp :=[(none,.r (.mov 5 (.t 0))),(none,.r (.nilck 6 (.t 5))),(none,.r (.fldA 7 (.t 6) 2)),(none,.r (.ld 8 (.t 7) 1 false)),(none,.r (.len 9 (.t 8))),(none,.mk 10 (.t 9) (.t 9) 1 8 [.int .i64 0]),(none,.asg 3 (.t 10) true)]
def c_f69_r2 : List GOp :=[(none,.r (.mov 11 (.t 3))),(none,.r (.len 12 (.t 11))),(none,.r (.mov 13 (.c (.int .i64 0))))]
def c_f69_r3 : List GOp :=[(none,.r (.bin 14 .lss 0 (.t 13) (.t 12)))]
def c_f69_r4 : List GOp :=[(none,.r (.mov 15 (.t 13))),(none,.asg 4 (.t 15) true)]
def c_f69_r5 : List GOp :=[(none,.r (.mov 16 (.t 3))),(none,.r (.mov 17 (.t 4))),(none,.r (.mov 18 (.t 0))),(none,.r (.nilck 19 (.t 18))),(none,.r (.fldA 20 (.t 19) 2)),(none,.r (.ld 21 (.t 20) 1 false)),(none,.r (.mov 22 (.t 4))),(none,.r (.idxA 23 (.t 21) (.t 22) 1)),(none,.r (.ld 24 (.t 23) 1 false)),
 (none,.r (.idxA 25 (.t 16) (.t 17) 1)),(none,.st (.t 25) (.t 24) 1)]
def c_f69_r6 : List GOp :=[(none,.r (.mov 26 (.t 0))),(none,.r (.nilck 27 (.t 26))),(none,.r (.fldA 28 (.t 27) 3)),(none,.r (.ld 29 (.t 28) 1 false)),(none,.r (.mov 30 (.t 4))),(none,.r (.idxA 31 (.t 29) (.t 30) 1)),(none,.r (.ld 32 (.t 31) 1 false))]
def c_f69_r7 : List GOp :=[(none,.r (.mov 33 (.t 3))),(none,.r (.mov 34 (.t 4))),(none,.r (.idxA 35 (.t 33) (.t 34) 1)),(none,.st (.t 35) (.c (.int .i64 1)) 1)]
def c_f69_r8 : List GOp :=[(none,.r (.bin 36 .add 0 (.t 13) (.c (.int .i64 1)))),(none,.asg 13 (.t 36) true)]
def c_f69_r9 : List GOp :=[(none,.r (.mov 37 (.t 3))),(none,.asg 2 (.t 37) true)]
def v_f69 : List Nat := [0, 2, 3, 4, 12, 13, 14, 32]
def c_f69 : ACode :=.seq (.reg [0,2,3,4,12,13,14,32] c_f69_r0 v_f69) (.seq (.reg [0,2,3,4,12,13,14,32] c_f69_r1 v_f69) (.seq (.seq (.reg [0,2,3,4,14,32] c_f69_r2 v_f69) (.blk 0 (.loop (.seq (.reg [0,
 2,3,4,12,13,32] c_f69_r3 v_f69) (.seq (.cond (.t 14) .skip (.exit 0)) (.seq (.blk 1 (.seq (.reg [0,2,3,4,12,13,14,32] c_f69_r4 v_f69) (.seq (.reg [0,2,3,4,12,13,14,32] c_f69_r5 v_f69) (.seq (.reg [0,
 2,3,4,12,13,14] c_f69_r6 v_f69) (.cond (.t 32) (.reg [0,2,3,4,12,13,14,32] c_f69_r7 v_f69) .skip))))) (.reg [0,2,3,4,12,13,14,32] c_f69_r8 v_f69))))))) (.seq (.reg [0,2,3,4,12,13,14,32] c_f69_r9 v_f69) .ret)))
abbrev n_f69 : Nat := 69
theorem s_f69 : stripF Try.prog [2] v_f69 Try.f69 = some (c_f69, [(.tmp 2)]) := by kernel_rfl
theorem go_f69 {L : List (List Nat)} {args : List AVal} {h : Heap} {Q : AVal → Heap → Prop} (hl : args.length = 1) (H : Wlk Try.prog [2] Try.f69.ntmps v_f69 L c_f69 (ends L [(.tmp 2)] Q) (entry v_f69 args h)) : ACalls Try.prog L n_f69 args h Q :=
 acalls_of_strip mix Try.func69 s_f69 (by rw [hl]; exact Nat.le_of_ble_eq_true rfl) H
def c_f70_r0 : List GOp :=[(none,.asg 2 (.c (.bool false)) true)]
def c_f70_r1 : List GOp :=[(none,.r (.mov 3 (.t 0))),(none,.r (.mov 4 (.t 0))),(none,.r (.bin 5 .neq 0 (.t 3) (.t 4))),(none,.asg 2 (.t 5) true)]
def v_f70 : List Nat := [0, 2]
def c_f70 : ACode :=.seq (.reg [0,2] c_f70_r0 v_f70) (.seq (.reg [0,2] c_f70_r1 v_f70) .ret)
abbrev n_f70 : Nat := 70
theorem s_f70 : stripF Try.prog [2] v_f70 Try.f70 = some (c_f70, [(.tmp 2)]) := by kernel_rfl
theorem go_f70 {L : List (List Nat)} {args : List AVal} {h : Heap} {Q : AVal → Heap → Prop} (hl : args.length = 1) (H : Wlk Try.prog [2] Try.f70.ntmps v_f70 L c_f70 (ends L [(.tmp 2)] Q) (entry v_f70 args h)) : ACalls Try.prog L n_f70 args h Q :=
 acalls_of_strip mix Try.func70 s_f70 (by rw [hl]; exact Nat.le_of_ble_eq_true rfl) H
def c_f71_r0 : List GOp :=[(none,.r (.mov 4 (.t 0))),(none,.r (.nilck 5 (.t 4))),(none,.r (.fldA 6 (.t 5) 1)),(none,.r (.ld 7 (.t 6) 1 false)),(none,.r (.mov 8 (.t 1))),(none,.r (.idxA 9 (.t 7) (.t 8) 1)),(none,.r (.ld 10 (.t 9) 1 false)),(none,.r (.notb 11 (.t 10)))]
def c_f71_r1 : List GOp :=[(none,.r (.mov 12 (.t 0))),(none,.r (.nilck 13 (.t 12))),(none,.r (.fldA 14 (.t 13) 1)),(none,.r (.ld 15 (.t 14) 1 false)),(none,.r (.mov 16 (.t 1))),(none,.r (.idxA 17 (.t 15) (.t 16) 1)),(none,.st (.t 17) (.c (.bool true)) 1)]
def c_f71_r2 : List GOp :=[(none,.r (.mov 18 (.t 0))),(none,.r (.mov 19 (.t 0))),(none,.r (.nilck 20 (.t 19))),(none,.r (.fldA 21 (.t 20) 2)),(none,.r (.ld 22 (.t 21) 1 false)),(none,.r (.mov 23 (.t 1))),(none,.blds 24 1 1 [((0,1),(.t 23,true))] [.int .i64 0]),(none,.app 25 (.t 22) (.t 24) 1 8),
 (none,.r (.nilck 26 (.t 18))),(none,.r (.fldA 27 (.t 26) 2)),(none,.st (.t 27) (.t 25) 1)]
def c_f71_r3 : List GOp :=[(none,.r (.mov 28 (.t 0))),(none,.r (.mov 29 (.t 0))),(none,.r (.nilck 30 (.t 29))),(none,.r (.fldA 31 (.t 30) 3)),(none,.r (.ld 32 (.t 31) 1 false)),(none,.r (.mov 33 (.t 1))),(none,.blds 34 1 1 [((0,1),(.t 33,true))] [.int .i64 0]),(none,.app 35 (.t 32) (.t 34) 1 8),
 (none,.r (.nilck 36 (.t 28))),(none,.r (.fldA 37 (.t 36) 3)),(none,.st (.t 37) (.t 35) 1)]
def v_f71 : List Nat := [0, 1, 11]
def c_f71 : ACode :=.seq (.reg [0,1] c_f71_r0 v_f71) (.cond (.t 11) (.seq (.reg [0,1,11] c_f71_r1 v_f71) (.seq (.reg [0,1,11] c_f71_r2 v_f71) (.reg [0,1,11] c_f71_r3 v_f71))) .skip)
abbrev n_f71 : Nat := 71
theorem s_f71 : stripF Try.prog [] v_f71 Try.f71 = some (c_f71, []) := by kernel_rfl
theorem go_f71 {L : List (List Nat)} {args : List AVal} {h : Heap} {Q : AVal → Heap → Prop} (hl : args.length = 2) (H : Wlk Try.prog [] Try.f71.ntmps v_f71 L c_f71 (ends L [] Q) (entry v_f71 args h)) : ACalls Try.prog L n_f71 args h Q :=
 acalls_of_strip mix Try.func71 s_f71 (by rw [hl]; exact Nat.le_of_ble_eq_true rfl) H
abbrev n_f72 : Nat := 72
def c_f73_r0 : List GOp :=[(none,.asg 4 (.c (.int .u64 0)) true),(none,.asg 5 (.c (.int .u64 0)) true)]
def c_f73_r1 : List GOp :=[(none,.r (.mov 11 (.t 0))),(none,.r (.conv 12 .u32 (.t 11))),(none,.r (.mov 13 (.t 1))),(none,.r (.conv 14 .u32 (.t 13))),(none,.call 15 (.f 83) [(.t 12,false),(.t 14,false)]),(none,.r (.mov 10 (.t 15))),(none,.r (.ext 16 (.t 10) 0)),(none,.r (.ext 17 (.t 10) 1)),
 (none,.asg 6 (.t 16) true),(none,.asg 7 (.t 17) true)]
def c_f73_r2 : List GOp :=[(none,.r (.mov 18 (.t 6))),(none,.r (.conv 19 .u64 (.t 18))),(none,.r (.mov 20 (.t 7))),(none,.r (.conv 21 .u64 (.t 20))),(none,.asg 4 (.t 19) true),(none,.asg 5 (.t 21) true)]
def c_f73_r3 : List GOp :=[(none,.r (.mov 23 (.t 0))),(none,.r (.mov 24 (.t 1))),(none,.call 25 (.f 84) [(.t 23,false),(.t 24,false)]),(none,.r (.mov 22 (.t 25))),(none,.r (.ext 26 (.t 22) 0)),(none,.r (.ext 27 (.t 22) 1)),(none,.asg 8 (.t 26) true),(none,.asg 9 (.t 27) true)]
def c_f73_r4 : List GOp :=[(none,.r (.mov 28 (.t 8))),(none,.r (.mov 29 (.t 9))),(none,.asg 4 (.t 28) true),(none,.asg 5 (.t 29) true)]
def v_f73 : List Nat := [0, 1, 4, 5, 6, 7, 8, 9]
def c_f73 : ACode :=.seq (.reg [0,1,4,5,6,7,8,9] c_f73_r0 v_f73) (.seq (.cond (.c (.bool false)) (.seq (.reg [0,1,4,5,6,7,8,9] c_f73_r1 v_f73) (.seq (.reg [0,1,4,5,6,7,8,9] c_f73_r2 v_f73) .ret)) .skip) (.seq (.reg [0,1,4,5,6,7,8,9] c_f73_r3 v_f73) (.seq (.reg [0,
 1,4,5,6,7,8,9] c_f73_r4 v_f73) .ret)))
abbrev n_f73 : Nat := 73
theorem s_f73 : stripF Try.prog [4, 5] v_f73 Try.f73 = some (c_f73, [(.tmp 4), (.tmp 5)]) := by kernel_rfl
theorem go_f73 {L : List (List Nat)} {args : List AVal} {h : Heap} {Q : AVal → Heap → Prop} (hl : args.length = 2) (H : Wlk Try.prog [4, 5] Try.f73.ntmps v_f73 L c_f73 (ends L [(.tmp 4), (.tmp 5)] Q) (entry v_f73 args h)) : ACalls Try.prog L n_f73 args h Q :=
 acalls_of_strip mix Try.func73 s_f73 (by rw [hl]; exact Nat.le_of_ble_eq_true rfl) H
def c_f74_r0 : Tree :=.take [1,2,3,11,12,13,14] (none,.r (.mov 8 (.t 0))) (.take [2,3,11,12,13,14] (none,.r (.nilck 9 (.t 8))) (.take [3,11,12,13,14] (none,.r (.fldA 10 (.t 9) 3)) (.take [11,12,13,14] (none,.r (.ld 11 (.t 10) 1 false)) (.take [11,12,13,14] (none,.r (.mov 12 (.t 1))) (.take [6,
 7,8,11,12,13,14] (none,.r (.mov 13 (.t 0))) (.take [7,8,11,12,13,14] (none,.r (.nilck 14 (.t 13))) (.take [8,11,12,13,14] (none,.r (.fldA 15 (.t 14) 4)) (.take [11,12,13,14] (none,.r (.ld 16 (.t 15) 1 false)) (.take [13,14] (none,.r (.mov 17 (.t 1))) (.take [13,14] (none,.r (.mov 18 (.t 2))) (.take [12,
 13,14] (none,.r (.idxA 19 (.t 11) (.t 12) 1)) (.one 12 (none,.st (.t 19) (.c (.bool true)) 1) (.take [14] (none,.r (.idxA 20 (.t 16) (.t 17) 1)) (.one 14 (none,.st (.t 20) (.t 18) 1) .done))))))))))))))
def c_f74_r1 : List GOp :=[(none,.r (.mov 21 (.t 0))),(none,.r (.nilck 22 (.t 21))),(none,.r (.fldA 23 (.t 22) 2)),(none,.r (.ld 24 (.t 23) 1 false)),(none,.r (.mov 25 (.t 1))),(none,.r (.idxA 26 (.t 24) (.t 25) 1)),(none,.r (.ld 27 (.t 26) 1 false)),(none,.r (.bin 28 .eql 0 (.t 27) (.c (.int .i64 0))))]
def c_f74_r2 : List GOp :=[(none,.r (.mov 29 (.t 0))),(none,.r (.nilck 30 (.t 29))),(none,.r (.fldA 31 (.t 30) 2)),(none,.r (.ld 32 (.t 31) 1 false)),(none,.r (.mov 33 (.t 1))),(none,.r (.mov 34 (.t 3))),(none,.r (.idxA 35 (.t 32) (.t 33) 1)),(none,.st (.t 35) (.t 34) 1)]
def c_f74_r3 : List GOp :=[(none,.r (.mov 36 (.t 0))),(none,.r (.mov 37 (.t 0))),(none,.r (.nilck 38 (.t 37))),(none,.r (.fldA 39 (.t 38) 14)),(none,.r (.ld 40 (.t 39) 1 false)),(none,.r (.mov 41 (.t 1))),(none,.blds 42 1 1 [((0,1),(.t 41,true))] [.int .i64 0]),(none,.app 43 (.t 40) (.t 42) 1 8),
 (none,.r (.nilck 44 (.t 36))),(none,.r (.fldA 45 (.t 44) 14)),(none,.st (.t 45) (.t 43) 1)]
def v_f74 : List Nat := [0, 1, 2, 3, 28]
def c_f74 : ACode :=.seq (.draw [0,1,2,3,28] c_f74_r0 v_f74) (.seq (.seq (.reg [0,1,2,3] c_f74_r1 v_f74) (.cond (.t 28) (.reg [0,1,2,3,28] c_f74_r2 v_f74) .skip)) (.reg [0,1,2,3,28] c_f74_r3 v_f74))
abbrev n_f74 : Nat := 74
theorem s_f74 : stripF Try.prog [] v_f74 Try.f74 = some (c_f74, []) := by kernel_rfl
theorem go_f74 {L : List (List Nat)} {args : List AVal} {h : Heap} {Q : AVal → Heap → Prop} (hl : args.length = 4) (H : Wlk Try.prog [] Try.f74.ntmps v_f74 L c_f74 (ends L [] Q) (entry v_f74 args h)) : ACalls Try.prog L n_f74 args h Q :=
 acalls_of_strip mix Try.func74 s_f74 (by rw [hl]; exact Nat.le_of_ble_eq_true rfl) H
def c_f75_r0 : List GOp :=[(none,.asg 4 (.c (.int .i64 0)) true)]
def c_f75_r1 : List GOp :=[(none,.r (.mov 5 (.t 0))),(none,.r (.nilck 6 (.t 5))),(none,.r (.fldA 7 (.t 6) 10)),(none,.r (.ld 8 (.t 7) 1 false)),(none,.r (.mov 9 (.t 1))),(none,.r (.idxA 10 (.t 8) (.t 9) 1)),(none,.r (.ld 11 (.t 10) 1 false)),(none,.r (.mov 12 (.t 1))),(none,.r (.bin 13 .neq 0 (.t 11) (.t 12)))]
def c_f75_r2 : Tree :=.take [1,2,3,18,19] (none,.r (.mov 14 (.t 0))) (.take [2,3,18,19] (none,.r (.nilck 15 (.t 14))) (.take [3,18,19] (none,.r (.fldA 16 (.t 15) 10)) (.take [18,19] (none,.r (.ld 17 (.t 16) 1 false)) (.take [18,19] (none,.r (.mov 18 (.t 1))) (.take [6,7,8,16,17,18,19] (none,
 .r (.mov 19 (.t 0))) (.take [7,8,16,17,18,19] (none,.r (.nilck 20 (.t 19))) (.take [8,16,17,18,19] (none,.r (.fldA 21 (.t 20) 10)) (.take [16,17,18,19] (none,.r (.ld 22 (.t 21) 1 false)) (.take [10,11,12,14,15,16,17,18,19] (none,.r (.mov 23 (.t 0))) (.take [11,12,14,15,16,17,18,19] (none,.r (.nilck 24 (.t 23))) (.take [12,
 14,15,16,17,18,19] (none,.r (.fldA 25 (.t 24) 10)) (.take [14,15,16,17,18,19] (none,.r (.ld 26 (.t 25) 1 false)) (.take [14,15,16,17,18,19] (none,.r (.mov 27 (.t 1))) (.take [15,16,17,18,19] (none,.r (.idxA 28 (.t 26) (.t 27) 1)) (.take [16,17,18,19] (none,.r (.ld 29 (.t 28) 1 false)) (.take [17,18,19] (none,
 .r (.idxA 30 (.t 22) (.t 29) 1)) (.take [18,19] (none,.r (.ld 31 (.t 30) 1 false)) (.take [19] (none,.r (.idxA 32 (.t 17) (.t 18) 1)) (.one 19 (none,.st (.t 32) (.t 31) 1) .done)))))))))))))))))))
def c_f75_r3 : List GOp :=[(none,.r (.mov 33 (.t 0))),(none,.r (.nilck 34 (.t 33))),(none,.r (.fldA 35 (.t 34) 10)),(none,.r (.ld 36 (.t 35) 1 false)),(none,.r (.mov 37 (.t 1))),(none,.r (.idxA 38 (.t 36) (.t 37) 1)),(none,.r (.ld 39 (.t 38) 1 false)),(none,.asg 1 (.t 39) true)]
def c_f75_r4 : List GOp :=[(none,.r (.mov 40 (.t 1))),(none,.asg 4 (.t 40) true)]
def v_f75 : List Nat := [0, 1, 4, 13]
def c_f75 : ACode :=.seq (.reg [0,1,4,13] c_f75_r0 v_f75) (.seq (.blk 0 (.loop (.seq (.seq (.reg [0,1,4] c_f75_r1 v_f75) (.cond (.t 13) .skip (.exit 0))) (.blk 1 (.seq (.draw [0,1,4,13] c_f75_r2 v_f75) (.reg [0,
 1,4,13] c_f75_r3 v_f75)))))) (.seq (.reg [0,1,4,13] c_f75_r4 v_f75) .ret))
abbrev n_f75 : Nat := 75
theorem s_f75 : stripF Try.prog [4] v_f75 Try.f75 = some (c_f75, [(.tmp 4)]) := by kernel_rfl
theorem go_f75 {L : List (List Nat)} {args : List AVal} {h : Heap} {Q : AVal → Heap → Prop} (hl : args.length = 2) (H : Wlk Try.prog [4] Try.f75.ntmps v_f75 L c_f75 (ends L [(.tmp 4)] Q) (entry v_f75 args h)) : ACalls Try.prog L n_f75 args h Q :=
 acalls_of_strip mix Try.func75 s_f75 (by rw [hl]; exact Nat.le_of_ble_eq_true rfl) H
def c_f76_r0 : List GOp :=[(none,.asg 4 (.c (.bool false)) true)]
def c_f76_r1 : Tree :=.take [1,2,3,5,6,7,8,9,10,11,12,13,14,15,16,17,18,19,20,21,22,23] (none,.r (.mov 5 (.t 0))) (.take [2,3,5,6,7,8,9,10,11,12,13,14,15,16,17,18,19,20,21,22,23] (none,.r (.nilck 6 (.t 5))) (.take [3,5,6,7,8,9,10,11,12,13,14,15,16,17,18,19,20,21,22,23] (none,.r (.fldA 7 (.t 6) 7)) (.take [5,
 6,7,8,9,10,11,12,13,14,15,16,17,18,19,20,21,22,23] (none,.r (.ld 8 (.t 7) 1 false)) (.take [5,6,7,8,9,10,11,12,13,14,15,16,17,18,19,20,21,22,23] (none,.r (.mov 9 (.t 1))) (.take [6,7,8,9,10,11,12,13,14,15,16,17,18,19,20,21,22,23] (none,.r (.idxA 10 (.t 8) (.t 9) 1)) (.take [7,8,9,10,11,12,13,14,15,16,
 17,18,19,20,21,22,23] (none,.r (.ld 11 (.t 10) 1 false)) (.take [8,9,10,11,12,13,14,15,16,17,18,19,20,21,22,23] (none,.r (.bin 12 .neq 0 (.t 11) (.c (.int .i64 (- (0 + 1)))))) (.take [9,10,11,12,13,14,15,16,17,18,19,20,21,22,23] (none,.r (.mov 13 (.t 12))) (.take [10,11,12,20,21,22,23] (some (13,true),
 .r (.mov 14 (.t 0))) (.take [11,12,20,21,22,23] (some (13,true),.r (.nilck 15 (.t 14))) (.take [12,20,21,22,23] (some (13,true),.r (.fldA 16 (.t 15) 9)) (.take [20,21,22,23] (some (13,true),.r (.ld 17 (.t 16) 1 false)) (.take [14,15,16,18,19,20,21,22,23] (some (13,true),.r (.mov 18 (.t 0))) (.take [15,
 16,18,19,20,21,22,23] (some (13,true),.r (.nilck 19 (.t 18))) (.take [16,18,19,20,21,22,23] (some (13,true),.r (.fldA 20 (.t 19) 7)) (.take [18,19,20,21,22,23] (some (13,true),.r (.ld 21 (.t 20) 1 false)) (.take [18,19,20,21,22,23] (some (13,true),.r (.mov 22 (.t 1))) (.take [19,20,21,22,23] (some (13,
 true),.r (.idxA 23 (.t 21) (.t 22) 1)) (.take [20,21,22,23] (some (13,true),.r (.ld 24 (.t 23) 1 false)) (.take [21,22,23] (some (13,true),.r (.idxA 25 (.t 17) (.t 24) 1)) (.take [22,23] (some (13,true),.r (.ld 26 (.t 25) 1 false)) (.take [23] (none,.r (.pick 27 (.t 13) (.t 26) (.c (.bool false)))) (.one 23 (none,
 .asg 4 (.t 27) true) .done)))))))))))))))))))))))
def v_f76 : List Nat := [0, 1, 4]
def c_f76 : ACode :=.seq (.reg [0,1,4] c_f76_r0 v_f76) (.seq (.draw [0,1,4] c_f76_r1 v_f76) .ret)
abbrev n_f76 : Nat := 76
theorem s_f76 : stripF Try.prog [4] v_f76 Try.f76 = some (c_f76, [(.tmp 4)]) := by kernel_rfl
theorem go_f76 {L : List (List Nat)} {args : List AVal} {h : Heap} {Q : AVal → Heap → Prop} (hl : args.length = 2) (H : Wlk Try.prog [4] Try.f76.ntmps v_f76 L c_f76 (ends L [(.tmp 4)] Q) (entry v_f76 args h)) : ACalls Try.prog L n_f76 args h Q :=
 acalls_of_strip mix Try.func76 s_f76 (by rw [hl]; exact Nat.le_of_ble_eq_true rfl) H
def c_f77_r0 : List GOp :=[(none,.asg 2 (.c (.slice none 0 0)) true)]
def c_f77_r1 : List GOp :=[(none,.r (.mov 5 (.t 0))),(none,.r (.len 6 (.t 5))),(none,.r (.bin 7 .sub 0 (.t 6) (.c (.int .i64 1)))),(none,.asg 3 (.c (.int .i64 0)) true),(none,.asg 4 (.t 7) true)]
def c_f77_r2 : List GOp :=[(none,.r (.mov 8 (.t 3))),(none,.r (.mov 9 (.t 4))),(none,.r (.bin 10 .lss 0 (.t 8) (.t 9)))]
def c_f77_r3 : Tree :=.take [12,13,14,15] (none,.r (.mov 15 (.t 0))) (.take [12,13,14,15] (none,.r (.mov 16 (.t 3))) (.take [14,15] (none,.r (.mov 17 (.t 0))) (.take [14,15] (none,.r (.mov 18 (.t 4))) (.take [6,7,12,13,14,15] (none,.r (.mov 19 (.t 0))) (.take [6,7,12,13,14,15] (none,.r (.mov 20 (.t 4))) (.take [7,
 12,13,14,15] (none,.r (.idxA 21 (.t 19) (.t 20) 1)) (.take [12,13,14,15] (none,.r (.ld 22 (.t 21) 1 false)) (.take [10,11,12,13,14,15] (none,.r (.mov 23 (.t 0))) (.take [10,11,12,13,14,15] (none,.r (.mov 24 (.t 3))) (.take [11,12,13,14,15] (none,.r (.idxA 25 (.t 23) (.t 24) 1)) (.take [12,13,14,15] (none,
 .r (.ld 26 (.t 25) 1 false)) (.take [13,14,15] (none,.r (.idxA 27 (.t 15) (.t 16) 1)) (.one 13 (none,.st (.t 27) (.t 22) 1) (.take [15] (none,.r (.idxA 28 (.t 17) (.t 18) 1)) (.one 15 (none,.st (.t 28) (.t 26) 1) .done)))))))))))))))
def c_f77_r4 : List GOp :=[(none,.r (.mov 11 (.t 3))),(none,.r (.bin 12 .add 0 (.t 11) (.c (.int .i64 1)))),(none,.r (.mov 13 (.t 4))),(none,.r (.bin 14 .sub 0 (.t 13) (.c (.int .i64 1)))),(none,.asg 3 (.t 12) true),(none,.asg 4 (.t 14) true)]
def c_f77_r5 : List GOp :=[(none,.r (.mov 29 (.t 0))),(none,.asg 2 (.t 29) true)]
def v_f77 : List Nat := [0, 2, 3, 4, 10]
def c_f77 : ACode :=.seq (.reg [0,2,3,4,10] c_f77_r0 v_f77) (.seq (.seq (.reg [0,2,3,4,10] c_f77_r1 v_f77) (.blk 0 (.loop (.seq (.seq (.reg [0,2,3,4] c_f77_r2 v_f77) (.cond (.t 10) .skip (.exit 0))) (.seq (.blk 1 (.draw [0,2,3,4,10] c_f77_r3 v_f77)) (.reg [0,
 2,3,4,10] c_f77_r4 v_f77)))))) (.seq (.reg [0,2,3,4,10] c_f77_r5 v_f77) .ret))
abbrev n_f77 : Nat := 77
theorem s_f77 : stripF Try.prog [2] v_f77 Try.f77 = some (c_f77, [(.tmp 2)]) := by kernel_rfl
theorem go_f77 {L : List (List Nat)} {args : List AVal} {h : Heap} {Q : AVal → Heap → Prop} (hl : args.length = 1) (H : Wlk Try.prog [2] Try.f77.ntmps v_f77 L c_f77 (ends L [(.tmp 2)] Q) (entry v_f77 args h)) : ACalls Try.prog L n_f77 args h Q :=
 acalls_of_strip mix Try.func77 s_f77 (by rw [hl]; exact Nat.le_of_ble_eq_true rfl) H
def c_f78_r0 : List GOp :=[(none,.asg 6 (.c (.slice none 0 0)) true)]
def c_f78_r1 : List GOp :=[(none,.asg 7 (.c (.slice none 0 0)) true)]
def c_f78_r2 : List GOp :=[(none,.r (.mov 9 (.t 7))),(none,.r (.mov 10 (.t 1))),(none,.blds 11 1 1 [((0,1),(.t 10,true))] [.int .i64 0]),(none,.app 12 (.t 9) (.t 11) 1 8),(none,.asg 7 (.t 12) true)]
def c_f78_r3 : List GOp :=[(none,.r (.mov 37 (.t 1))),(none,.r (.mov 38 (.t 2))),(none,.r (.bin 39 .eql 0 (.t 37) (.t 38))),(none,.asg 36 (.t 39) true)]
def c_f78_r4 : List GOp :=[(none,.r (.mov 40 (.t 7))),(none,.asg 6 (.t 40) true)]
def c_f78_r5 : List GOp :=[(none,.r (.mov 42 (.t 0))),(none,.r (.nilck 43 (.t 42))),(none,.r (.fldA 44 (.t 43) 2)),(none,.r (.ld 45 (.t 44) 1 false)),(none,.r (.mov 46 (.t 1))),(none,.r (.idxA 47 (.t 45) (.t 46) 1)),(none,.r (.ld 48 (.t 47) 1 false)),(none,.r (.bin 49 .eql 0 (.t 48) (.c (.int .i64 1)))),
 (none,.asg 41 (.t 49) true)]
def c_f78_r6 : List GOp :=[(none,.r (.mov 50 (.t 7))),(none,.r (.mov 51 (.t 0))),(none,.r (.nilck 52 (.t 51))),(none,.r (.fldA 53 (.t 52) 1)),(none,.r (.ld 54 (.t 53) 1 false)),(none,.r (.mov 55 (.t 1))),(none,.r (.idxA 56 (.t 54) (.t 55) 1)),(none,.r (.ld 57 (.t 56) 1 false)),(none,.blds 58 1 1 [((0,
 1),(.t 57,true))] [.int .i64 0]),(none,.app 59 (.t 50) (.t 58) 1 8),(none,.asg 7 (.t 59) true)]
def c_f78_r7 : Tree :=.take [1,2,3,11,12,13] (none,.r (.mov 60 (.t 0))) (.take [2,3,11,12,13] (none,.r (.nilck 61 (.t 60))) (.take [3,11,12,13] (none,.r (.fldA 62 (.t 61) 6)) (.take [11,12,13] (none,.r (.ld 63 (.t 62) 1 false)) (.take [5,6,7,9,10,11,12,13] (none,.r (.mov 64 (.t 0))) (.take [6,
 7,9,10,11,12,13] (none,.r (.nilck 65 (.t 64))) (.take [7,9,10,11,12,13] (none,.r (.fldA 66 (.t 65) 1)) (.take [9,10,11,12,13] (none,.r (.ld 67 (.t 66) 1 false)) (.take [9,10,11,12,13] (none,.r (.mov 68 (.t 1))) (.take [10,11,12,13] (none,.r (.idxA 69 (.t 67) (.t 68) 1)) (.take [11,12,13] (none,.r (.ld 70 (.t 69) 1 false)) (.take [12,
 13] (none,.r (.idxA 71 (.t 63) (.t 70) 1)) (.take [13] (none,.r (.ld 72 (.t 71) 1 false)) (.one 13 (none,.asg 1 (.t 72) true) .done)))))))))))))
def c_f78_r8 : List GOp :=[(none,.r (.mov 13 (.t 0))),(none,.r (.nilck 14 (.t 13))),(none,.r (.fldA 15 (.t 14) 8)),(none,.r (.ld 16 (.t 15) 1 false)),(none,.r (.mov 17 (.t 1))),(none,.r (.idxA 18 (.t 16) (.t 17) 2)),(none,.r (.ld 19 (.t 18) 2 true)),(none,.alloc 8 [.int .i64 0,.int .i64 0]),
 (none,.st (.t 8) (.t 19) 2)]
def c_f78_r9 : Tree :=.take [13,14] (none,.r (.mov 20 (.t 7))) (.take [11,12,13,14] (none,.r (.mov 21 (.t 0))) (.take [3,11,12,13,14] (none,.r (.idxP 22 (.t 8) (.c (.int .i64 0)) 2 1)) (.take [11,12,13,14] (none,.r (.ld 23 (.t 22) 1 false)) (.take [5,6,7,9,10,11,12,13,14] (none,.r (.mov 24 (.t 0))) (.take [6,
 7,9,10,11,12,13,14] (none,.r (.nilck 25 (.t 24))) (.take [7,9,10,11,12,13,14] (none,.r (.fldA 26 (.t 25) 1)) (.take [9,10,11,12,13,14] (none,.r (.ld 27 (.t 26) 1 false)) (.take [9,10,11,12,13,14] (none,.r (.mov 28 (.t 1))) (.take [10,11,12,13,14] (none,.r (.idxA 29 (.t 27) (.t 28) 1)) (.take [11,12,13,
 14] (none,.r (.ld 30 (.t 29) 1 false)) (.one 11 (none,.call 31 (.f 78) [(.t 21,false),(.t 23,false),(.t 30,false)]) (.one 12 (none,.call 32 (.f 77) [(.t 31,false)]) (.one 13 (none,.app 33 (.t 20) (.t 32) 1 8) (.one 14 (none,.asg 7 (.t 33) true) .done))))))))))))))
def c_f78_r10 : List GOp :=[(none,.r (.idxP 34 (.t 8) (.c (.int .i64 1)) 2 1)),(none,.r (.ld 35 (.t 34) 1 false)),(none,.asg 1 (.t 35) true)]
def v_f78 : List Nat := [0, 1, 2, 6, 7, 8, 36, 41]
def c_f78 : ACode :=.seq (.reg [0,1,2,6,7,8,36,41] c_f78_r0 v_f78) (.seq (.reg [0,1,2,6,7,8,36,41] c_f78_r1 v_f78) (.blk 0 (.loop (.blk 1 (.seq (.reg [0,1,2,6,7,8,36,41] c_f78_r2 v_f78) (.blk 2 (.seq (.reg [0,
 1,2,6,7,8,36,41] c_f78_r3 v_f78) (.cond (.t 36) (.seq (.reg [0,1,2,6,7,8,36,41] c_f78_r4 v_f78) .ret) (.seq (.reg [0,1,2,6,7,8,36,41] c_f78_r5 v_f78) (.cond (.t 41) (.seq (.reg [0,1,2,6,7,8,36,41] c_f78_r6 v_f78) (.draw [0,
 1,2,6,7,8,36,41] c_f78_r7 v_f78)) (.seq (.reg [0,1,2,6,7,36,41] c_f78_r8 v_f78) (.seq (.draw [0,1,2,6,7,8,36,41] c_f78_r9 v_f78) (.reg [0,1,2,6,7,8,36,41] c_f78_r10 v_f78)))))))))))))
abbrev n_f78 : Nat := 78
theorem s_f78 : stripF Try.prog [6] v_f78 Try.f78 = some (c_f78, [(.tmp 6)]) := by kernel_rfl
theorem go_f78 {L : List (List Nat)} {args : List AVal} {h : Heap} {Q : AVal → Heap → Prop} (hl : args.length = 3) (H : Wlk Try.prog [6] Try.f78.ntmps v_f78 L c_f78 (ends L [(.tmp 6)] Q) (entry v_f78 args h)) : ACalls Try.prog L n_f78 args h Q :=
 acalls_of_strip mix Try.func78 s_f78 (by rw [hl]; exact Nat.le_of_ble_eq_true rfl) H
def c_f79_r0 : List GOp :=[(none,.asg 6 (.c (.int .i64 0)) true)]
def c_f79_r1 : List GOp :=[(none,.r (.mov 7 (.t 0))),(none,.r (.nilck 8 (.t 7))),(none,.r (.fldA 9 (.t 8) 13)),(none,.r (.ld 10 (.t 9) 1 false)),(none,.r (.bin 11 .add 0 (.t 10) (.c (.int .i64 1)))),(none,.r (.nilck 12 (.t 7))),(none,.r (.fldA 13 (.t 12) 13)),(none,.st (.t 13) (.t 11) 1)]
def c_f79_r2 : List GOp :=[(none,.r (.mov 14 (.t 1))),(none,.r (.bin 15 .neq 0 (.t 14) (.c (.int .i64 (- (0 + 1))))))]
def c_f79_r3 : Tree :=.take [1,2,3,5,6,11] (none,.r (.mov 16 (.t 0))) (.take [2,3,5,6,11] (none,.r (.nilck 17 (.t 16))) (.take [3,5,6,11] (none,.r (.fldA 18 (.t 17) 12)) (.take [5,6,11] (none,.r (.ld 19 (.t 18) 1 false)) (.take [5,6,11] (none,.r (.mov 20 (.t 1))) (.take [6,11] (none,.r (.idxA 21 (.t 19) (.t 20) 1)) (.take [11] (none,
 .r (.ld 22 (.t 21) 1 false)) (.take [8,9,10,11] (none,.r (.mov 23 (.t 0))) (.take [9,10,11] (none,.r (.nilck 24 (.t 23))) (.take [10,11] (none,.r (.fldA 25 (.t 24) 13)) (.take [11] (none,.r (.ld 26 (.t 25) 1 false)) (.take [] (none,.r (.bin 27 .eql 0 (.t 22) (.t 26))) .done)))))))))))
def c_f79_r4 : List GOp :=[(none,.r (.mov 28 (.t 1))),(none,.asg 6 (.t 28) true)]
def c_f79_r5 : Tree :=.take [1,2,3,9,10] (none,.r (.mov 29 (.t 0))) (.take [2,3,9,10] (none,.r (.nilck 30 (.t 29))) (.take [3,9,10] (none,.r (.fldA 31 (.t 30) 12)) (.take [9,10] (none,.r (.ld 32 (.t 31) 1 false)) (.take [9,10] (none,.r (.mov 33 (.t 1))) (.take [6,7,8,9,10] (none,.r (.mov 34 (.t 0))) (.take [7,
 8,9,10] (none,.r (.nilck 35 (.t 34))) (.take [8,9,10] (none,.r (.fldA 36 (.t 35) 13)) (.take [9,10] (none,.r (.ld 37 (.t 36) 1 false)) (.take [10] (none,.r (.idxA 38 (.t 32) (.t 33) 1)) (.one 10 (none,.st (.t 38) (.t 37) 1) .done))))))))))
def c_f79_r6 : List GOp :=[(none,.r (.mov 39 (.t 0))),(none,.r (.mov 40 (.t 1))),(none,.call 41 (.f 85) [(.t 39,false),(.t 40,false)]),(none,.asg 1 (.t 41) true)]
def c_f79_r7 : List GOp :=[(none,.r (.mov 42 (.t 2))),(none,.r (.mov 43 (.t 1))),(none,.asg 1 (.t 42) true),(none,.asg 2 (.t 43) true)]
def v_f79 : List Nat := [0, 1, 2, 6, 15, 27]
def c_f79 : ACode :=.seq (.reg [0,1,2,6,15,27] c_f79_r0 v_f79) (.seq (.reg [0,1,2,6,15,27] c_f79_r1 v_f79) (.blk 0 (.loop (.blk 1 (.seq (.seq (.reg [0,1,2,6,27] c_f79_r2 v_f79) (.cond (.t 15) (.seq (.seq (.draw [0,
 1,2,6,15] c_f79_r3 v_f79) (.cond (.t 27) (.seq (.reg [0,1,2,6,15,27] c_f79_r4 v_f79) .ret) .skip)) (.seq (.draw [0,1,2,6,15,27] c_f79_r5 v_f79) (.reg [0,1,2,6,15,27] c_f79_r6 v_f79))) .skip)) (.reg [0,
 1,2,6,15,27] c_f79_r7 v_f79))))))
abbrev n_f79 : Nat := 79
theorem s_f79 : stripF Try.prog [6] v_f79 Try.f79 = some (c_f79, [(.tmp 6)]) := by kernel_rfl
theorem go_f79 {L : List (List Nat)} {args : List AVal} {h : Heap} {Q : AVal → Heap → Prop} (hl : args.length = 3) (H : Wlk Try.prog [6] Try.f79.ntmps v_f79 L c_f79 (ends L [(.tmp 6)] Q) (entry v_f79 args h)) : ACalls Try.prog L n_f79 args h Q :=
 acalls_of_strip mix Try.func79 s_f79 (by rw [hl]; exact Nat.le_of_ble_eq_true rfl) H
def c_f80_r0 : Tree :=.take [1,2,3,5,6,14,15,16] (none,.r (.mov 12 (.t 0))) (.take [2,3,5,6,14,15,16] (none,.r (.nilck 13 (.t 12))) (.take [3,5,6,14,15,16] (none,.r (.fldA 14 (.t 13) 4)) (.take [5,6,14,15,16] (none,.r (.ld 15 (.t 14) 1 false)) (.take [5,6,14,15,16] (none,.r (.mov 16 (.t 1))) (.take [6,
 14,15,16] (none,.r (.idxA 17 (.t 15) (.t 16) 1)) (.take [14,15,16] (none,.r (.ld 18 (.t 17) 1 false)) (.take [8,9,10,12,13,14,15,16] (none,.r (.mov 19 (.t 0))) (.take [9,10,12,13,14,15,16] (none,.r (.nilck 20 (.t 19))) (.take [10,12,13,14,15,16] (none,.r (.fldA 21 (.t 20) 4)) (.take [12,13,14,15,16] (none,
 .r (.ld 22 (.t 21) 1 false)) (.take [12,13,14,15,16] (none,.r (.mov 23 (.t 2))) (.take [13,14,15,16] (none,.r (.idxA 24 (.t 22) (.t 23) 1)) (.take [14,15,16] (none,.r (.ld 25 (.t 24) 1 false)) (.take [15,16] (none,.r (.bin 26 .add 0 (.t 18) (.t 25))) (.take [16] (none,.r (.bin 27 .add 0 (.t 26) (.c (.int .i64 1)))) (.one 16 (none,
 .asg 8 (.t 27) true) .done))))))))))))))))
def c_f80_r1 : List GOp :=[(none,.r (.mov 28 (.t 0))),(none,.r (.mov 29 (.t 1))),(none,.call 30 (.f 64) [(.t 28,false),(.t 29,false)]),(none,.asg 9 (.t 30) true)]
def c_f80_r2 : List GOp :=[(none,.r (.mov 31 (.t 9))),(none,.r (.mov 32 (.t 3))),(none,.r (.bin 33 .neq 0 (.t 31) (.t 32)))]
def c_f80_r3 : List GOp :=[(none,.r (.mov 34 (.t 0))),(none,.r (.nilck 35 (.t 34))),(none,.r (.fldA 36 (.t 35) 1)),(none,.r (.ld 37 (.t 36) 1 false)),(none,.r (.mov 38 (.t 9))),(none,.r (.idxA 39 (.t 37) (.t 38) 1)),(none,.r (.ld 40 (.t 39) 1 false)),(none,.asg 10 (.t 40) true)]
def c_f80_r4 : List GOp :=[(none,.r (.mov 41 (.t 0))),(none,.r (.nilck 42 (.t 41))),(none,.r (.fldA 43 (.t 42) 3)),(none,.r (.ld 44 (.t 43) 1 false)),(none,.r (.mov 45 (.t 10))),(none,.r (.idxA 46 (.t 44) (.t 45) 1)),(none,.r (.ld 47 (.t 46) 1 false)),(none,.r (.notb 48 (.t 47)))]
def c_f80_r5 : List GOp :=[(none,.r (.mov 49 (.t 0))),(none,.r (.nilck 50 (.t 49))),(none,.r (.fldA 51 (.t 50) 8)),(none,.r (.ld 52 (.t 51) 1 false)),(none,.r (.mov 53 (.t 10))),(none,.r (.mov 54 (.t 1))),(none,.r (.mov 55 (.t 2))),(none,.bld 56 [((0,1),(.t 54,true)),((1,1),(.t 55,true))] [.int .i64 0,
 .int .i64 0]),(none,.r (.idxA 57 (.t 52) (.t 53) 2)),(none,.st (.t 57) (.t 56) 2)]
def c_f80_r6 : List GOp :=[(none,.r (.mov 58 (.t 0))),(none,.r (.mov 59 (.t 10))),(none,.r (.mov 60 (.t 8))),(none,.r (.mov 61 (.t 0))),(none,.r (.nilck 62 (.t 61))),(none,.r (.fldA 63 (.t 62) 5)),(none,.r (.ld 64 (.t 63) 1 false)),(none,.r (.mov 65 (.t 10))),(none,.r (.idxA 66 (.t 64) (.t 65) 1)),
 (none,.r (.ld 67 (.t 66) 1 false)),(none,.r (.bin 68 .sub 0 (.t 60) (.t 67))),(none,.call 69 (.f 74) [(.t 58,false),(.t 59,false),(.t 68,false),(.c (.int .i64 2),false)])]
def c_f80_r7 : List GOp :=[(none,.r (.mov 70 (.t 0))),(none,.r (.mov 71 (.t 0))),(none,.r (.nilck 72 (.t 71))),(none,.r (.fldA 73 (.t 72) 6)),(none,.r (.ld 74 (.t 73) 1 false)),(none,.r (.mov 75 (.t 10))),(none,.r (.idxA 76 (.t 74) (.t 75) 1)),(none,.r (.ld 77 (.t 76) 1 false)),(none,
 .call 78 (.f 64) [(.t 70,false),(.t 77,false)]),(none,.asg 11 (.t 78) true)]
def c_f80_r8 : List GOp :=[(none,.r (.mov 79 (.t 0))),(none,.r (.mov 80 (.t 9))),(none,.r (.mov 81 (.t 10))),(none,.r (.mov 82 (.t 3))),(none,.call 83 (.f 86) [(.t 79,false),(.t 80,false),(.t 81,false),(.t 82,false)])]
def c_f80_r9 : List GOp :=[(none,.r (.mov 84 (.t 0))),(none,.r (.mov 85 (.t 10))),(none,.r (.mov 86 (.t 0))),(none,.r (.nilck 87 (.t 86))),(none,.r (.fldA 88 (.t 87) 6)),(none,.r (.ld 89 (.t 88) 1 false)),(none,.r (.mov 90 (.t 10))),(none,.r (.idxA 91 (.t 89) (.t 90) 1)),(none,.r (.ld 92 (.t 91) 1 false)),
 (none,.r (.mov 93 (.t 3))),(none,.call 94 (.f 86) [(.t 84,false),(.t 85,false),(.t 92,false),(.t 93,false)])]
def c_f80_r10 : List GOp :=[(none,.r (.mov 95 (.t 11))),(none,.asg 9 (.t 95) true)]
def v_f80 : List Nat := [0, 1, 2, 3, 8, 9, 10, 11, 33, 48]
def c_f80 : ACode :=.seq (.draw [0,1,2,3,8,9,10,11,33,48] c_f80_r0 v_f80) (.seq (.reg [0,1,2,3,8,9,10,11,33,48] c_f80_r1 v_f80) (.blk 0 (.loop (.seq (.seq (.reg [0,1,2,3,8,9,10,11,48] c_f80_r2 v_f80) (.cond (.t 33) .skip (.exit 0))) (.blk 1 (.seq (.reg [0,
 1,2,3,8,9,10,11,33,48] c_f80_r3 v_f80) (.seq (.seq (.reg [0,1,2,3,8,9,10,11,33] c_f80_r4 v_f80) (.cond (.t 48) (.seq (.reg [0,1,2,3,8,9,10,11,33,48] c_f80_r5 v_f80) (.reg [0,1,2,3,8,9,10,11,33,48] c_f80_r6 v_f80)) .skip)) (.seq (.reg [0,
 1,2,3,8,9,10,11,33,48] c_f80_r7 v_f80) (.seq (.reg [0,1,2,3,8,9,10,11,33,48] c_f80_r8 v_f80) (.seq (.reg [0,1,2,3,8,9,10,11,33,48] c_f80_r9 v_f80) (.reg [0,1,2,3,8,9,10,11,33,48] c_f80_r10 v_f80)))))))))))
abbrev n_f80 : Nat := 80
theorem s_f80 : stripF Try.prog [] v_f80 Try.f80 = some (c_f80, []) := by kernel_rfl
theorem go_f80 {L : List (List Nat)} {args : List AVal} {h : Heap} {Q : AVal → Heap → Prop} (hl : args.length = 4) (H : Wlk Try.prog [] Try.f80.ntmps v_f80 L c_f80 (ends L [] Q) (entry v_f80 args h)) : ACalls Try.prog L n_f80 args h Q :=
 acalls_of_strip mix Try.func80 s_f80 (by rw [hl]; exact Nat.le_of_ble_eq_true rfl) H
def c_f84_r0 : List GOp :=[(none,.asg 4 (.c (.int .u64 0)) true),(none,.asg 5 (.c (.int .u64 0)) true)]
def c_f84_r1 : List GOp :=[(none,.r (.mov 14 (.t 0))),(none,.r (.bin 15 .and 0 (.t 14) (.c (.int .u64 4294967295)))),(none,.asg 6 (.t 15) true)]
def c_f84_r2 : List GOp :=[(none,.r (.mov 16 (.t 0))),(none,.r (.bin 17 .shr 0 (.t 16) (.c (.int .u64 32)))),(none,.asg 7 (.t 17) true)]
def c_f84_r3 : List GOp :=[(none,.r (.mov 18 (.t 1))),(none,.r (.bin 19 .and 0 (.t 18) (.c (.int .u64 4294967295)))),(none,.asg 8 (.t 19) true)]
def c_f84_r4 : List GOp :=[(none,.r (.mov 20 (.t 1))),(none,.r (.bin 21 .shr 0 (.t 20) (.c (.int .u64 32)))),(none,.asg 9 (.t 21) true)]
def c_f84_r5 : List GOp :=[(none,.r (.mov 22 (.t 6))),(none,.r (.mov 23 (.t 8))),(none,.r (.bin 24 .mul 0 (.t 22) (.t 23))),(none,.asg 10 (.t 24) true)]
def c_f84_r6 : List GOp :=[(none,.r (.mov 25 (.t 7))),(none,.r (.mov 26 (.t 8))),(none,.r (.bin 27 .mul 0 (.t 25) (.t 26))),(none,.r (.mov 28 (.t 10))),(none,.r (.bin 29 .shr 0 (.t 28) (.c (.int .u64 32)))),(none,.r (.bin 30 .add 0 (.t 27) (.t 29))),(none,.asg 11 (.t 30) true)]
def c_f84_r7 : List GOp :=[(none,.r (.mov 31 (.t 11))),(none,.r (.bin 32 .and 0 (.t 31) (.c (.int .u64 4294967295)))),(none,.asg 12 (.t 32) true)]
def c_f84_r8 : List GOp :=[(none,.r (.mov 33 (.t 11))),(none,.r (.bin 34 .shr 0 (.t 33) (.c (.int .u64 32)))),(none,.asg 13 (.t 34) true)]
def c_f84_r9 : List GOp :=[(none,.r (.mov 35 (.t 12))),(none,.r (.mov 36 (.t 6))),(none,.r (.mov 37 (.t 9))),(none,.r (.bin 38 .mul 0 (.t 36) (.t 37))),(none,.r (.bin 39 .add 0 (.t 35) (.t 38))),(none,.asg 12 (.t 39) true)]
def c_f84_r10 : List GOp :=[(none,.r (.mov 40 (.t 7))),(none,.r (.mov 41 (.t 9))),(none,.r (.bin 42 .mul 0 (.t 40) (.t 41))),(none,.r (.mov 43 (.t 13))),(none,.r (.bin 44 .add 0 (.t 42) (.t 43))),(none,.r (.mov 45 (.t 12))),(none,.r (.bin 46 .shr 0 (.t 45) (.c (.int .u64 32)))),(none,.r (.bin 47 .add 0 (.t 44) (.t 46))),
 (none,.asg 4 (.t 47) true)]
def c_f84_r11 : List GOp :=[(none,.r (.mov 48 (.t 0))),(none,.r (.mov 49 (.t 1))),(none,.r (.bin 50 .mul 0 (.t 48) (.t 49))),(none,.asg 5 (.t 50) true)]
def v_f84 : List Nat := [0, 1, 4, 5, 6, 7, 8, 9, 10, 11, 12, 13]
def c_f84 : ACode :=.seq (.reg [0,1,4,5,6,7,8,9,10,11,12,13] c_f84_r0 v_f84) (.seq (.reg [0,1,4,5,6,7,8,9,10,11,12,13] c_f84_r1 v_f84) (.seq (.reg [0,1,4,5,6,7,8,9,10,11,12,13] c_f84_r2 v_f84) (.seq (.reg [0,1,4,5,6,7,
 8,9,10,11,12,13] c_f84_r3 v_f84) (.seq (.reg [0,1,4,5,6,7,8,9,10,11,12,13] c_f84_r4 v_f84) (.seq (.reg [0,1,4,5,6,7,8,9,10,11,12,13] c_f84_r5 v_f84) (.seq (.reg [0,1,4,5,6,7,8,9,10,11,12,13] c_f84_r6 v_f84) (.seq (.reg [0,
 1,4,5,6,7,8,9,10,11,12,13] c_f84_r7 v_f84) (.seq (.reg [0,1,4,5,6,7,8,9,10,11,12,13] c_f84_r8 v_f84) (.seq (.reg [0,1,4,5,6,7,8,9,10,11,12,13] c_f84_r9 v_f84) (.seq (.reg [0,1,4,5,6,7,8,9,10,11,12,13] c_f84_r10 v_f84) (.seq (.reg [0,
 1,4,5,6,7,8,9,10,11,12,13] c_f84_r11 v_f84) .ret)))))))))))
abbrev n_f84 : Nat := 84
theorem s_f84 : stripF Try.prog [4, 5] v_f84 Try.f84 = some (c_f84, [(.tmp 4), (.tmp 5)]) := by kernel_rfl
theorem go_f84 {L : List (List Nat)} {args : List AVal} {h : Heap} {Q : AVal → Heap → Prop} (hl : args.length = 2) (H : Wlk Try.prog [4, 5] Try.f84.ntmps v_f84 L c_f84 (ends L [(.tmp 4), (.tmp 5)] Q) (entry v_f84 args h)) : ACalls Try.prog L n_f84 args h Q :=
 acalls_of_strip mix Try.func84 s_f84 (by rw [hl]; exact Nat.le_of_ble_eq_true rfl) H
def c_f85_r0 : List GOp :=[(none,.asg 4 (.c (.int .i64 0)) true)]
def c_f85_r1 : List GOp :=[(none,.r (.mov 5 (.t 0))),(none,.r (.nilck 6 (.t 5))),(none,.r (.fldA 7 (.t 6) 1)),(none,.r (.ld 8 (.t 7) 1 false)),(none,.r (.mov 9 (.t 1))),(none,.r (.idxA 10 (.t 8) (.t 9) 1)),(none,.r (.ld 11 (.t 10) 1 false)),(none,.r (.bin 12 .eql 0 (.t 11) (.c (.int .i64 (- (0 + 1))))))]
def c_f85_r2 : List GOp :=[(none,.asg 4 (.c (.int .i64 (- (0 + 1)))) true)]
def c_f85_r3 : Tree :=.take [14,15] (none,.r (.mov 13 (.t 0))) (.take [2,3,4,12,13,14,15] (none,.r (.mov 14 (.t 0))) (.take [3,4,12,13,14,15] (none,.r (.nilck 15 (.t 14))) (.take [4,12,13,14,15] (none,.r (.fldA 16 (.t 15) 6)) (.take [12,13,14,15] (none,.r (.ld 17 (.t 16) 1 false)) (.take [6,
 7,8,10,11,12,13,14,15] (none,.r (.mov 18 (.t 0))) (.take [7,8,10,11,12,13,14,15] (none,.r (.nilck 19 (.t 18))) (.take [8,10,11,12,13,14,15] (none,.r (.fldA 20 (.t 19) 1)) (.take [10,11,12,13,14,15] (none,.r (.ld 21 (.t 20) 1 false)) (.take [10,11,12,13,14,15] (none,.r (.mov 22 (.t 1))) (.take [11,12,
 13,14,15] (none,.r (.idxA 23 (.t 21) (.t 22) 1)) (.take [12,13,14,15] (none,.r (.ld 24 (.t 23) 1 false)) (.take [13,14,15] (none,.r (.idxA 25 (.t 17) (.t 24) 1)) (.take [14,15] (none,.r (.ld 26 (.t 25) 1 false)) (.one 14 (none,.call 27 (.f 64) [(.t 13,false),(.t 26,false)]) (.one 15 (none,.asg 4 (.t 27) true) .done)))))))))))))))
def v_f85 : List Nat := [0, 1, 4, 12]
def c_f85 : ACode :=.seq (.reg [0,1,4,12] c_f85_r0 v_f85) (.seq (.seq (.reg [0,1,4] c_f85_r1 v_f85) (.cond (.t 12) (.seq (.reg [0,1,4,12] c_f85_r2 v_f85) .ret) .skip)) (.seq (.draw [0,1,4,12] c_f85_r3 v_f85) .ret))
abbrev n_f85 : Nat := 85
theorem s_f85 : stripF Try.prog [4] v_f85 Try.f85 = some (c_f85, [(.tmp 4)]) := by kernel_rfl
theorem go_f85 {L : List (List Nat)} {args : List AVal} {h : Heap} {Q : AVal → Heap → Prop} (hl : args.length = 2) (H : Wlk Try.prog [4] Try.f85.ntmps v_f85 L c_f85 (ends L [(.tmp 4)] Q) (entry v_f85 args h)) : ACalls Try.prog L n_f85 args h Q :=
 acalls_of_strip mix Try.func85 s_f85 (by rw [hl]; exact Nat.le_of_ble_eq_true rfl) H
def c_f86_r0 : List GOp :=[(none,.r (.mov 10 (.t 0))),(none,.r (.mov 11 (.t 1))),(none,.call 12 (.f 75) [(.t 10,false),(.t 11,false)]),(none,.r (.mov 13 (.t 0))),(none,.r (.mov 14 (.t 2))),(none,.call 15 (.f 75) [(.t 13,false),(.t 14,false)]),(none,.asg 8 (.t 12) true),(none,.asg 9 (.t 15) true)]
def c_f86_r1 : List GOp :=[(none,.r (.mov 16 (.t 0))),(none,.r (.nilck 17 (.t 16))),(none,.r (.fldA 18 (.t 17) 10)),(none,.r (.ld 19 (.t 18) 1 false)),(none,.r (.mov 20 (.t 8))),(none,.r (.mov 21 (.t 9))),(none,.r (.idxA 22 (.t 19) (.t 20) 1)),(none,.st (.t 22) (.t 21) 1)]
def c_f86_r2 : List GOp :=[(none,.r (.mov 23 (.t 0))),(none,.r (.nilck 24 (.t 23))),(none,.r (.fldA 25 (.t 24) 11)),(none,.r (.ld 26 (.t 25) 1 false)),(none,.r (.mov 27 (.t 9))),(none,.r (.mov 28 (.t 3))),(none,.r (.idxA 29 (.t 26) (.t 27) 1)),(none,.st (.t 29) (.t 28) 1)]
def v_f86 : List Nat := [0, 1, 2, 3, 8, 9]
def c_f86 : ACode :=.seq (.reg [0,1,2,3,8,9] c_f86_r0 v_f86) (.seq (.reg [0,1,2,3,8,9] c_f86_r1 v_f86) (.reg [0,1,2,3,8,9] c_f86_r2 v_f86))
abbrev n_f86 : Nat := 86
theorem s_f86 : stripF Try.prog [] v_f86 Try.f86 = some (c_f86, []) := by kernel_rfl
theorem go_f86 {L : List (List Nat)} {args : List AVal} {h : Heap} {Q : AVal → Heap → Prop} (hl : args.length = 4) (H : Wlk Try.prog [] Try.f86.ntmps v_f86 L c_f86 (ends L [] Q) (entry v_f86 args h)) : ACalls Try.prog L n_f86 args h Q :=
 acalls_of_strip mix Try.func86 s_f86 (by rw [hl]; exact Nat.le_of_ble_eq_true rfl) H
end Go.Proofs.Ytmcfdfafeheihaa

namespace Go.Ga.Gl
open Go Go.Ga
abbrev Es := List (Nat × Nat)
def lexlt (a b : Nat × Nat) : Prop := a.1 < b.1 ∨ a.1 = b.1 ∧ a.2 < b.2
instance (a b : Nat × Nat) : Decidable (lexlt a b) := inferInstanceAs (Decidable (a.1 < b.1 ∨ a.1 = b.1 ∧ a.2 < b.2))
structure GR (n : Nat) (es : Es) : Prop where
 hn : n ≤ 4096
 hm : es.length ≤ 65536
 ok : ∀ e ∈ es, e.1 < e.2 ∧ e.2 < n
 up : es.Pairwise lexlt
def castE (l : Es) : List (Int × Int) := l.map fun e => ((e.1 : Int), (e.2 : Int))
theorem castE_len (l : Es) : (castE l).length = l.length := by simp [castE]
theorem castE_get {l : Es} {k : Nat} {a b : Nat} (h : l[k]? = some (a, b)) : (castE l)[k]? = some ((a : Int), (b : Int)) := by simp [castE, h]
def okAt (n : Int) (es : List (Int × Int)) (i : Nat) : Bool :=
 let e := es.getD i (0, 0)
 let p := es.getD (i - 1) (0, 0)
 decide (0 ≤ e.1) && decide (e.1 < e.2) && decide (e.2 < n) && (decide (i = 0) || (decide (p.1 < e.1) || decide (p.1 = e.1) && decide (p.2 < e.2)))
def rightB (n : Int) (es : List (Int × Int)) : Bool :=
 decide (0 ≤ n) && decide (n ≤ 4096) && decide (es.length ≤ 65536) && (List.range es.length).all (okAt n es)
theorem rightB_false {n : Int} {es : List (Int × Int)} {i : Nat} (hi : i < es.length) (h : okAt n es i = false) : rightB n es = false := by
 have : (List.range es.length).all (okAt n es) = false := by
  rw [Bool.eq_false_iff]
  intro h1
  rw [List.all_eq_true] at h1
  have := h1 i (List.mem_range.2 hi)
  rw [h] at this; cases this
 simp [rightB, this]
theorem rightB_true {n : Int} {es : List (Int × Int)} (h0 : 0 ≤ n) (h1 : n ≤ 4096) (h2 : es.length ≤ 65536) (h : ∀ i, i < es.length → okAt n es i = true) : rightB n es = true := by
 simp only [rightB, Bool.and_eq_true, decide_eq_true_eq, List.all_eq_true, List.mem_range]
 exact ⟨⟨⟨h0, h1⟩, h2⟩, h⟩
theorem pairwise_of_next {α : Type} {R : α → α → Prop} (ht : ∀ a b c, R a b → R b c → R a c) : ∀ {l : List α}, (∀ i a b, l[i]? = some a → l[i + 1]? = some b → R a b) → l.Pairwise R
 | [], _ => .nil
 | [a], _ => by simp
 | a :: b :: l, h => by
   have ih : (b :: l).Pairwise R := pairwise_of_next ht fun i x y hx hy => h (i + 1) x y hx hy
   have hab : R a b := h 0 a b rfl rfl
   refine List.Pairwise.cons ?_ ih
   intro c hc
   cases hc with
   | head => exact hab
   | tail _ hc => exact ht a b c hab (List.rel_of_pairwise_cons ih hc)
theorem lexlt_trans (a b c : Nat × Nat) (h1 : lexlt a b) (h2 : lexlt b c) : lexlt a c := by
 unfold lexlt at *; omega
theorem lexlt_irrefl (a : Nat × Nat) : ¬ lexlt a a := by unfold lexlt; omega
theorem getD_castE (es : Es) (i : Nat) : (castE es).getD i (0, 0) = (((es.getD i (0, 0)).1 : Int), ((es.getD i (0, 0)).2 : Int)) := by
 simp only [castE, List.getD_eq_getElem?_getD, List.getElem?_map]
 cases es[i]? <;> rfl
theorem okAt_cast (n : Nat) (es : Es) (i : Nat) : okAt (n : Int) (castE es) i = true ↔
    (es.getD i (0, 0)).1 < (es.getD i (0, 0)).2 ∧ (es.getD i (0, 0)).2 < n ∧ (i = 0 ∨ lexlt (es.getD (i - 1) (0, 0)) (es.getD i (0, 0))) := by
  simp only [okAt, getD_castE, lexlt, Bool.and_eq_true, Bool.or_eq_true, decide_eq_true_eq]
  omega
theorem rightB_GR {n : Nat} {es : Es} (g : GR n es) : rightB n (castE es) = true := by
 refine rightB_true (by omega) (by have := g.hn; omega) (by rw [castE_len]; exact g.hm) fun i hi => ?_
 rw [castE_len] at hi
 rw [okAt_cast]
 have hmem : es.getD i (0, 0) ∈ es := by
  rw [List.getD_eq_getElem?_getD, List.getElem?_eq_getElem hi]; exact List.getElem_mem hi
 have h1 := g.ok _ hmem
 refine ⟨h1.1, h1.2, ?_⟩
 cases i with
 | zero => exact .inl rfl
 | succ i =>
   right
   have := List.pairwise_iff_getElem.1 g.up i (i + 1) (by omega) hi (by omega)
   simpa [List.getD_eq_getElem?_getD, List.getElem?_eq_getElem hi, List.getElem?_eq_getElem (show i < es.length by omega)] using this
theorem GR_rightB {n : Nat} {es : Es} (h : rightB n (castE es) = true) : GR n es := by
 simp only [rightB, Bool.and_eq_true, decide_eq_true_eq, List.all_eq_true, List.mem_range, castE_len] at h
 obtain ⟨⟨⟨_, h1⟩, h2⟩, h3⟩ := h
 have h4 : ∀ i, i < es.length → (es.getD i (0, 0)).1 < (es.getD i (0, 0)).2 ∧ (es.getD i (0, 0)).2 < n ∧ (i = 0 ∨ lexlt (es.getD (i - 1) (0, 0)) (es.getD i (0, 0))) :=
  fun i hi => (okAt_cast n es i).1 (h3 i hi)
 refine ⟨by omega, h2, ?_, ?_⟩
 · intro e he
   obtain ⟨i, hi, rfl⟩ := List.mem_iff_getElem.1 he
   have := h4 i hi
   rw [List.getD_eq_getElem?_getD, List.getElem?_eq_getElem hi] at this
   exact ⟨this.1, this.2.1⟩
 · refine pairwise_of_next lexlt_trans fun i a b ha hb => ?_
   have hi : i + 1 < es.length := (List.getElem?_eq_some_iff.1 hb).1
   have := (h4 (i + 1) hi).2.2
   rw [List.getD_eq_getElem?_getD, List.getD_eq_getElem?_getD, hb, Nat.add_sub_cancel, ha] at this
   exact this.resolve_left (by omega)
theorem right_nat {n : Int} {es : List (Int × Int)} (h : rightB n es = true) : ∃ (N : Nat) (es' : Es), n = N ∧ es = castE es' ∧ GR N es' := by
 have h' := h
 simp only [rightB, Bool.and_eq_true, decide_eq_true_eq, List.all_eq_true, List.mem_range] at h
 obtain ⟨⟨⟨h0, h1⟩, h2⟩, h3⟩ := h
 have e : es = castE (es.map fun e => (e.1.toNat, e.2.toNat)) := by
  apply List.ext_getElem (by simp [castE])
  intro i hi hi'
  have := h3 i hi
  simp only [okAt, Bool.and_eq_true, decide_eq_true_eq, List.getD_eq_getElem?_getD, List.getElem?_eq_getElem hi, Option.getD_some] at this
  obtain ⟨⟨⟨a, b⟩, c⟩, _⟩ := this
  simp only [castE, List.getElem_map]
  apply Prod.ext
  · show _ = ((es[i].1.toNat : Nat) : Int); omega
  · show _ = ((es[i].2.toNat : Nat) : Int); omega
 refine ⟨n.toNat, _, by omega, e, ?_⟩
 apply GR_rightB
 rw [← e, show ((n.toNat : Nat) : Int) = n by omega]
 exact h'
theorem GR.nodup {n : Nat} {es : Es} (g : GR n es) : es.Nodup := g.up.imp fun {a b} h e => by subst e; exact lexlt_irrefl _ h
def putE (l : Es) (e : Nat × Nat) : Es := (l.filter fun x => decide (lexlt x e)) ++ e :: (l.filter fun x => !decide (lexlt x e))
theorem putE_mem {l : Es} {e x : Nat × Nat} : x ∈ putE l e ↔ x = e ∨ x ∈ l := by
 simp only [putE, List.mem_append, List.mem_filter, List.mem_cons]
 by_cases h : lexlt x e <;> simp [h]
 constructor
 · rintro (h | h)
   · exact .inr h
   · exact .inl h
 · rintro (rfl | h)
   · exact absurd h (lexlt_irrefl _)
   · exact .inl h
theorem putE_len (l : Es) (e : Nat × Nat) : (putE l e).length = l.length + 1 := by
 have : ∀ (p : Nat × Nat → Bool), (l.filter p).length + (l.filter fun x => !p x).length = l.length := by
  intro p
  induction l with
  | nil => rfl
  | cons a l ih =>
    cases h : p a <;> simp [h] <;> omega
 simp only [putE, List.length_append, List.length_cons]
 have := this fun x => decide (lexlt x e)
 omega
theorem GR.put {n : Nat} {es : Es} (g : GR n es) {e : Nat × Nat} (h1 : e.1 < e.2) (h2 : e.2 < n) (h3 : e ∉ es) (h4 : es.length < 65536) : GR n (putE es e) := by
 refine ⟨g.hn, by rw [putE_len]; omega, ?_, ?_⟩
 · intro x hx
   rcases putE_mem.1 hx with rfl | hx
   · exact ⟨h1, h2⟩
   · exact g.ok x hx
 · refine List.pairwise_append.2 ⟨g.up.filter _, List.pairwise_cons.2 ⟨?_, g.up.filter _⟩, ?_⟩
   · intro x hx
     simp only [List.mem_filter, Bool.not_eq_true', decide_eq_false_iff_not] at hx
     have : x ≠ e := fun h => h3 (h ▸ hx.1)
     have h5 : ¬ (x.1 = e.1 ∧ x.2 = e.2) := fun h => this (Prod.ext h.1 h.2)
     have h6 := hx.2
     unfold lexlt at *
     omega
   · intro x hx y hy
     simp only [List.mem_filter, decide_eq_true_eq] at hx
     have hxe : lexlt x e := hx.2
     simp only [List.mem_cons, List.mem_filter, Bool.not_eq_true', decide_eq_false_iff_not] at hy
     rcases hy with rfl | hy
     · exact hxe
     · refine lexlt_trans _ e _ hxe ?_
       have : y ≠ e := fun h => h3 (h ▸ hy.1)
       have h5 : ¬ (y.1 = e.1 ∧ y.2 = e.2) := fun h => this (Prod.ext h.1 h.2)
       have h6 := hy.2
       unfold lexlt at *
       omega
def lowOf (es : Es) (v : Nat) : List Nat := (es.filter fun e => decide (e.2 = v)).map (·.1)
def highOf (es : Es) (v : Nat) : List Nat := (es.filter fun e => decide (e.1 = v)).map (·.2)
def nearOf (es : Es) (v : Nat) : List Nat := lowOf es v ++ highOf es v
def near (n : Nat) (es : Es) : List (List Nat) := (List.range n).map (nearOf es)
def adj (es : Es) (a b : Nat) : Prop := (a, b) ∈ es ∨ (b, a) ∈ es
theorem adj_symm {es : Es} {a b : Nat} (h : adj es a b) : adj es b a := h.symm
theorem nearOf_mem {es : Es} {v w : Nat} : w ∈ nearOf es v ↔ adj es v w := by
 simp only [nearOf, lowOf, highOf, List.mem_append, List.mem_map, List.mem_filter, decide_eq_true_eq, adj]
 constructor
 · rintro (⟨⟨a, b⟩, ⟨h, h1⟩, h2⟩ | ⟨⟨a, b⟩, ⟨h, h1⟩, h2⟩)
   · right; simp at h1 h2; subst h1 h2; exact h
   · left; simp at h1 h2; subst h1 h2; exact h
 · rintro (h | h)
   · exact .inr ⟨(v, w), ⟨h, rfl⟩, rfl⟩
   · exact .inl ⟨(w, v), ⟨h, rfl⟩, rfl⟩
theorem near_len (n : Nat) (es : Es) : (near n es).length = n := by simp [near]
theorem near_get {n : Nat} {es : Es} {v : Nat} (h : v < n) : (near n es)[v]? = some (nearOf es v) := by simp [near, h]
end Go.Ga.Gl

namespace Go.Ga.Gl
open Go Go.Ga
def Flat (es : Es) (O : Nat → Prop) (f : Nat → Nat) : Prop := ∀ a b, adj es a b → ¬ O a → ¬ O b → f a = f b
structure IsPieces (n : Nat) (es : Es) (O : Nat → Prop) (ps : List (List Nat)) : Prop where
 mem : ∀ v, (∃ p ∈ ps, v ∈ p) ↔ v < n ∧ ¬ O v
 ne : ∀ p ∈ ps, p ≠ []
 inc : ∀ p ∈ ps, p.Pairwise (· < ·)
 heads : ps.Pairwise fun p q => ∀ a ∈ p.head?, ∀ b ∈ q.head?, a < b
 disj : ps.Pairwise fun p q => ∀ v ∈ p, v ∉ q
 edge : ∀ p ∈ ps, ∀ a ∈ p, ∀ b, adj es a b → b < n → ¬ O b → b ∈ p
 conn : ∀ p ∈ ps, ∀ f, Flat es O f → ∀ a ∈ p, ∀ b ∈ p, f a = f b
theorem inc_ext : ∀ {p q : List Nat}, p.Pairwise (· < ·) → q.Pairwise (· < ·) → (∀ x, x ∈ p ↔ x ∈ q) → p = q
 | [], [], _, _, _ => rfl
 | [], b :: q, _, _, h => by have := (h b).2 (List.mem_cons_self ..); cases this
 | a :: p, [], _, _, h => by have := (h a).1 (List.mem_cons_self ..); cases this
 | a :: p, b :: q, hp, hq, h => by
   have hp' := List.pairwise_cons.1 hp
   have hq' := List.pairwise_cons.1 hq
   have hab : a = b := by
    rcases List.mem_cons.1 ((h a).1 (List.mem_cons_self ..)) with e | e
    · exact e
    · rcases List.mem_cons.1 ((h b).2 (List.mem_cons_self ..)) with e' | e'
      · exact e'.symm
      · have := hq'.1 a e; have := hp'.1 b e'; omega
   subst hab
   rw [inc_ext hp'.2 hq'.2 fun x => ?_]
   constructor
   · intro hx
     rcases List.mem_cons.1 ((h x).1 (List.mem_cons_of_mem _ hx)) with e | e
     · subst e; exact absurd (hp'.1 x hx) (by omega)
     · exact e
   · intro hx
     rcases List.mem_cons.1 ((h x).2 (List.mem_cons_of_mem _ hx)) with e | e
     · subst e; exact absurd (hq'.1 x hx) (by omega)
     · exact e
theorem heads_ext : ∀ {ps qs : List (List Nat)}, (∀ p ∈ ps, p ≠ []) → (∀ q ∈ qs, q ≠ []) →
    (ps.Pairwise fun p q => ∀ a ∈ p.head?, ∀ b ∈ q.head?, a < b) → (qs.Pairwise fun p q => ∀ a ∈ p.head?, ∀ b ∈ q.head?, a < b) → (∀ p, p ∈ ps ↔ p ∈ qs) → ps = qs
  | [], [], _, _, _, _, _ => rfl
  | [], b :: q, _, _, _, _, h => by have := (h b).2 (List.mem_cons_self ..); cases this
  | a :: p, [], _, _, _, _, h => by have := (h a).1 (List.mem_cons_self ..); cases this
  | a :: p, b :: q, n1, n2, hp, hq, h => by
    have hp' := List.pairwise_cons.1 hp
    have hq' := List.pairwise_cons.1 hq
    have key : ∀ (x y : List Nat), x ≠ [] → y ≠ [] → (∀ a ∈ x.head?, ∀ b ∈ y.head?, a < b) → (∀ a ∈ y.head?, ∀ b ∈ x.head?, a < b) → False := by
      intro x y hx hy h1 h2
      cases x with
      | nil => exact hx rfl
      | cons u x => cases y with
        | nil => exact hy rfl
        | cons w y => have := h1 u rfl w rfl; have := h2 w rfl u rfl; omega
    have hab : a = b := by
      rcases List.mem_cons.1 ((h a).1 (List.mem_cons_self ..)) with e | e
      · exact e
      · rcases List.mem_cons.1 ((h b).2 (List.mem_cons_self ..)) with e' | e'
        · exact e'.symm
        · exact (key a b (n1 a (List.mem_cons_self ..)) (n2 b (List.mem_cons_self ..)) (hp'.1 b e') (hq'.1 a e)).elim
    subst hab
    have self : ∀ x, x ≠ [] → ¬ (∀ u ∈ x.head?, ∀ w ∈ x.head?, u < w) := fun x hx h1 => key x x hx hx h1 h1
    rw [heads_ext (fun p hp => n1 p (List.mem_cons_of_mem _ hp)) (fun p hp => n2 p (List.mem_cons_of_mem _ hp)) hp'.2 hq'.2 fun x => ?_]
    constructor
    · intro hx
      rcases List.mem_cons.1 ((h x).1 (List.mem_cons_of_mem _ hx)) with e | e
      · subst e; exact (self x (n1 x (List.mem_cons_self ..)) (hp'.1 x hx)).elim
      · exact e
    · intro hx
      rcases List.mem_cons.1 ((h x).2 (List.mem_cons_of_mem _ hx)) with e | e
      · subst e; exact (self x (n1 x (List.mem_cons_self ..)) (hq'.1 x hx)).elim
      · exact e
open Classical in
theorem pieces_sub {n : Nat} {es : Es} {O : Nat → Prop} {ps qs : List (List Nat)} (hes : ∀ a b, adj es a b → a < n ∧ b < n) (P : IsPieces n es O ps) (Q : IsPieces n es O qs) {p : List Nat} (hp : p ∈ ps) {q : List Nat} (hq : q ∈ qs) {v : Nat} (h1 : v ∈ p) (h2 : v ∈ q) : ∀ x ∈ p, x ∈ q := by
 intro x hx
 have hfl : Flat es O (fun x => if x ∈ q then 1 else 0) := by
  intro a b hab ha hb
  have hl := hes a b hab
  by_cases h : a ∈ q
  · simp [h, Q.edge q hq a h b hab hl.2 hb]
  · have : b ∉ q := fun h' => h (Q.edge q hq b h' a (adj_symm hab) hl.1 ha)
    simp [h, this]
 have := P.conn p hp _ hfl v h1 x hx
 simp only [h2, if_true] at this
 by_cases h : x ∈ q
 · exact h
 · simp [h] at this
theorem IsPieces.unique {n : Nat} {es : Es} {O : Nat → Prop} {ps qs : List (List Nat)} (hes : ∀ a b, adj es a b → a < n ∧ b < n) (P : IsPieces n es O ps) (Q : IsPieces n es O qs) : ps = qs := by
 have half : ∀ {ps qs : List (List Nat)}, IsPieces n es O ps → IsPieces n es O qs → ∀ p ∈ ps, p ∈ qs := by
  intro ps qs P Q p hp
  obtain ⟨v, hv⟩ := List.exists_mem_of_ne_nil p (P.ne p hp)
  obtain ⟨q, hq, hvq⟩ := (Q.mem v).2 ((P.mem v).1 ⟨p, hp, hv⟩)
  rw [inc_ext (P.inc p hp) (Q.inc q hq) fun x => ⟨pieces_sub hes P Q hp hq hv hvq x, pieces_sub hes Q P hq hp hvq hv x⟩]
  exact hq
 exact heads_ext P.ne Q.ne P.heads Q.heads fun p => ⟨half P Q p, half Q P p⟩
theorem GR.adj_lt {n : Nat} {es : Es} (g : GR n es) : ∀ a b, adj es a b → a < n ∧ b < n := by
 intro a b h
 rcases h with h | h
 · obtain ⟨h1, h2⟩ := g.ok _ h; simp only at h1 h2; exact ⟨by omega, h2⟩
 · obtain ⟨h1, h2⟩ := g.ok _ h; simp only at h1 h2; exact ⟨h2, by omega⟩
theorem piece_len {n : Nat} {es : Es} {O : Nat → Prop} {ps : List (List Nat)} (P : IsPieces n es O ps) {p : List Nat} (hp : p ∈ ps) : p.length ≤ n := by
 have := (List.pairwise_iff_getElem.1 (P.inc p hp))
 have key : ∀ (m : Nat) (q : List Nat), q.Pairwise (· < ·) → (∀ x ∈ q, m ≤ x ∧ x < n) → q.length ≤ n - m := by
  intro m q
  induction q generalizing m with
  | nil => intro _ _; exact Nat.zero_le _
  | cons a q ih =>
    intro h1 h2
    have h1' := List.pairwise_cons.1 h1
    have ha := h2 a (List.mem_cons_self ..)
    have := ih (a + 1) h1'.2 fun x hx => ⟨h1'.1 x hx, (h2 x (List.mem_cons_of_mem _ hx)).2⟩
    simp only [List.length_cons]; omega
 have := key 0 p (P.inc p hp) fun x hx => ⟨Nat.zero_le _, ((P.mem x).1 ⟨p, hp, hx⟩).1⟩
 omega
theorem pieces_len {n : Nat} {es : Es} {O : Nat → Prop} {ps : List (List Nat)} (P : IsPieces n es O ps) : ps.length ≤ n := by
 have h : (ps.map fun p => p.headD 0).Pairwise (· < ·) := by
  refine List.pairwise_map.2 (P.heads.imp_of_mem fun {p q} hp hq h => ?_)
  have h1 := P.ne p hp; have h2 := P.ne q hq
  cases p with
  | nil => exact absurd rfl h1
  | cons a p => cases q with
    | nil => exact absurd rfl h2
    | cons b q => exact h a rfl b rfl
 have h2 : ∀ x ∈ ps.map fun p => p.headD 0, x < n := by
  intro x hx
  obtain ⟨p, hp, rfl⟩ := List.mem_map.1 hx
  cases p with
  | nil => exact absurd rfl (P.ne _ hp)
  | cons a p => exact ((P.mem a).1 ⟨_, hp, List.mem_cons_self ..⟩).1
 have key : ∀ (m : Nat) (q : List Nat), q.Pairwise (· < ·) → (∀ x ∈ q, m ≤ x ∧ x < n) → q.length ≤ n - m := by
  intro m q
  induction q generalizing m with
  | nil => intro _ _; exact Nat.zero_le _
  | cons a q ih =>
    intro h1 h2
    have h1' := List.pairwise_cons.1 h1
    have ha := h2 a (List.mem_cons_self ..)
    have := ih (a + 1) h1'.2 fun x hx => ⟨h1'.1 x hx, (h2 x (List.mem_cons_of_mem _ hx)).2⟩
    simp only [List.length_cons]; omega
 have := key 0 _ h fun x hx => ⟨Nat.zero_le _, h2 x hx⟩
 simpa using this
def oddCount (ps : List (List Nat)) : Nat := (ps.map fun p => p.length % 2).sum
end Go.Ga.Gl

namespace Go.Ga.Gl
open Go Go.Ga
abbrev DS := List Bool × List Nat × List Nat
def come (s : DS) (v : Nat) : DS := if s.1.getD v false = true then s else (s.1.set v true, s.2.1 ++ [v], s.2.2 ++ [v])
def comes (s : DS) (l : List Nat) : DS := l.foldl come s
theorem comes_snoc (s : DS) (l : List Nat) (k : Nat) (x : Nat) (h : l[k]? = some x) : comes s (l.take (k + 1)) = come (comes s (l.take k)) x := by
 rw [List.take_add_one, h]
 simp [comes]
def undone (d : List Bool) : Nat := (d.filter fun b => !b).length
theorem set_bool (d : List Bool) (v x : Nat) : (d.set v true).getD x false = true ↔ d.getD x false = true ∨ (x = v ∧ v < d.length) := by
 simp only [List.getD_eq_getElem?_getD, List.getElem?_set]
 by_cases h : v = x
 · subst h
   by_cases h2 : v < d.length
   · simp [h2]
   · simp [h2]
 · simp [h, Ne.symm h]
theorem undone_set : ∀ (d : List Bool) (v : Nat), v < d.length → d.getD v false = false → undone (d.set v true) + 1 = undone d
 | [], v, h, _ => by simp at h
 | b :: d, 0, _, h => by
   simp at h; subst h; simp [undone]
 | b :: d, v + 1, h, h2 => by
   have := undone_set d v (by simpa using h) (by simpa using h2)
   cases b <;> simp [undone] at * <;> omega
structure WI (n : Nat) (es : Es) (D : List Bool) (v : Nat) (s : DS) : Prop where
 len : s.1.length = n
 done : ∀ x, s.1.getD x false = true ↔ D.getD x false = true ∨ x ∈ s.2.1
 nd : s.2.1.Nodup
 now : ∀ x ∈ s.2.1, x < n ∧ D.getD x false = false
 rest : ∀ x ∈ s.2.2, x ∈ s.2.1
 rl : s.2.2.length ≤ s.2.1.length
 conn : ∀ f, Flat es (fun x => D.getD x false = true) f → ∀ x ∈ s.2.1, f x = f v
theorem nodup_le : ∀ {l m : List Nat}, l.Nodup → (∀ x ∈ l, x ∈ m) → l.length ≤ m.length
 | [], m, _, _ => Nat.zero_le _
 | a :: l, m, h, hm => by
   have h' := List.pairwise_cons.1 h
   have ha := hm a (List.mem_cons_self ..)
   have := nodup_le (l := l) (m := m.erase a) h'.2 fun x hx => (List.mem_erase_of_ne fun e => h'.1 x hx e.symm).2 (hm x (List.mem_cons_of_mem _ hx))
   rw [List.length_erase_of_mem ha] at this
   have := List.length_pos_of_mem ha
   simp; omega
theorem WI.size {n : Nat} {es : Es} {D : List Bool} {v : Nat} {s : DS} (w : WI n es D v s) : s.2.1.length ≤ n := by
 have := nodup_le w.nd (m := List.range n) fun x hx => List.mem_range.2 (w.now x hx).1
 simpa using this
theorem WI.start {n : Nat} {es : Es} {D : List Bool} {v : Nat} (hD : D.length = n) : WI n es D v (D, [], []) :=
 ⟨hD, fun x => by simp, List.nodup_nil, fun x h => by simp at h, fun x h => by simp at h, Nat.le_refl _, fun f _ x h => by simp at h⟩
theorem WI.come {n : Nat} {es : Es} {D : List Bool} {v : Nat} {s : DS} (w : WI n es D v s) {x : Nat} (hx : x < n) (hc : x = v ∨ ∃ u ∈ s.2.1, adj es u x) : WI n es D v (come s x) := by
 unfold Gl.come
 split
 · exact w
 · rename_i h
   have hD : D.getD x false = false := by
    cases e : D.getD x false with
    | false => rfl
    | true => exact absurd ((w.done x).2 (.inl e)) h
   have hn : x ∉ s.2.1 := fun e => h ((w.done x).2 (.inr e))
   refine ⟨by simpa using w.len, fun y => ?_, ?_, ?_, ?_, by simp; exact w.rl, ?_⟩
   · show (s.1.set x true).getD y false = true ↔ _
     rw [set_bool, w.done, w.len, List.mem_append, List.mem_singleton]
     constructor
     · rintro (h | h)
       · exact h.imp id .inl
       · exact .inr (.inr h.1)
     · rintro (h | h | h)
       · exact .inl (.inl h)
       · exact .inl (.inr h)
       · exact .inr ⟨h, hx⟩
   · exact List.nodup_append.2 ⟨w.nd, by simp, fun a ha b hb e => by simp at hb; subst hb; subst e; exact hn ha⟩
   · intro y hy
     rcases List.mem_append.1 hy with hy | hy
     · exact w.now y hy
     · simp at hy; subst hy; exact ⟨hx, hD⟩
   · intro y hy
     rcases List.mem_append.1 hy with hy | hy
     · exact List.mem_append_left _ (w.rest y hy)
     · exact List.mem_append_right _ hy
   · intro f hf y hy
     rcases List.mem_append.1 hy with hy | hy
     · exact w.conn f hf y hy
     · simp at hy; subst hy
       rcases hc with rfl | ⟨u, hu, ha⟩
       · rfl
       · rw [← w.conn f hf u hu]
         have h1 := (w.now u hu).2
         exact (hf u y ha (by show ¬ (D.getD u false = true); rw [h1]; simp) (by show ¬ (D.getD y false = true); rw [hD]; simp)).symm
theorem come_mono {s : DS} {x y : Nat} (h : s.1.getD y false = true) : (come s x).1.getD y false = true := by
 unfold come
 split
 · exact h
 · exact (set_bool _ _ _).2 (.inl h)
theorem come_done {s : DS} {x : Nat} (h : x < s.1.length) : (come s x).1.getD x false = true := by
 unfold come
 split
 · assumption
 · exact (set_bool _ _ _).2 (.inr ⟨rfl, h⟩)
theorem come_now {s : DS} {x y : Nat} (h : y ∈ s.2.1) : y ∈ (come s x).2.1 := by
 unfold come
 split
 · exact h
 · exact List.mem_append_left _ h
theorem come_rest {s : DS} {x y : Nat} (h : y ∈ (come s x).2.1) : y ∈ s.2.1 ∨ y ∈ (come s x).2.2 := by
 unfold come at *
 split at h
 · rename_i h1; rw [if_pos h1]; exact .inl h
 · rename_i h1; rw [if_neg h1]
   rcases List.mem_append.1 h with h | h
   · exact .inl h
   · exact .inr (List.mem_append_right _ h)
theorem come_keep {s : DS} {x y : Nat} (h : y ∈ s.2.2) : y ∈ (come s x).2.2 := by
 unfold come
 split
 · exact h
 · exact List.mem_append_left _ h
theorem come_measure {s : DS} {x : Nat} (h : x < s.1.length) : 2 * undone (come s x).1 + (come s x).2.2.length ≤ 2 * undone s.1 + s.2.2.length := by
 unfold come
 split
 · exact Nat.le_refl _
 · rename_i h1
   have := undone_set s.1 x h (by simpa using h1)
   simp only [List.length_append, List.length_singleton]
   omega
def Gone (es : Es) (U : Nat → Prop) (s : DS) : Prop := ∀ x ∈ s.2.1, x ∉ s.2.2 → ¬ U x → ∀ y, adj es x y → s.1.getD y false = true
structure WJ (n : Nat) (es : Es) (D : List Bool) (v : Nat) (s : DS) : Prop extends WI n es D v s where
 gone : Gone es (fun _ => False) s
 self : v ∈ s.2.1
theorem comes_ok {n : Nat} {es : Es} (hes : ∀ a b, adj es a b → a < n ∧ b < n) {D : List Bool} {v u : Nat} {s : DS} (w : WI n es D v s) (hu : u ∈ s.2.1) (hg : Gone es (fun x => x = u) s) :
    ∀ k, k ≤ (nearOf es u).length →
    WI n es D v (comes s ((nearOf es u).take k)) ∧ u ∈ (comes s ((nearOf es u).take k)).2.1 ∧ Gone es (fun x => x = u) (comes s ((nearOf es u).take k)) ∧
    (∀ y ∈ (nearOf es u).take k, (comes s ((nearOf es u).take k)).1.getD y false = true) ∧
    2 * undone (comes s ((nearOf es u).take k)).1 + (comes s ((nearOf es u).take k)).2.2.length ≤ 2 * undone s.1 + s.2.2.length ∧ (∀ x ∈ s.2.1, x ∈ (comes s ((nearOf es u).take k)).2.1) := by
  intro k
  induction k with
  | zero => intro _; simp only [List.take_zero, comes, List.foldl_nil]; exact ⟨w, hu, hg, fun y hy => by simp at hy, Nat.le_refl _, fun x h => h⟩
  | succ k ih =>
    intro hk
    obtain ⟨h1, h2, h3, h4, h5, h6⟩ := ih (by omega)
    have hx : (nearOf es u)[k]? = some ((nearOf es u)[k]'(by omega)) := List.getElem?_eq_getElem _
    generalize (nearOf es u)[k]'(by omega) = x at hx
    have hax : adj es u x := nearOf_mem.1 (List.mem_iff_getElem?.2 ⟨k, hx⟩)
    have hxn := (hes u x hax).2
    rw [comes_snoc _ _ _ _ hx]
    refine ⟨h1.come hxn (.inr ⟨u, h2, hax⟩), come_now h2, ?_, ?_, Nat.le_trans (come_measure (by rw [h1.len]; exact hxn)) h5, fun x h => come_now (h6 x h)⟩
    · intro y hy hr hne z hz
      rcases come_rest hy with hy | hy
      · exact come_mono (h3 y hy (fun e => hr (come_keep e)) hne z hz)
      · exact absurd hy hr
    · intro y hy
      rw [List.take_add_one, hx] at hy
      rcases List.mem_append.1 hy with hy | hy
      · exact come_mono (h4 y hy)
      · simp at hy; subst hy; exact come_done (by rw [h1.len]; exact hxn)
theorem WJ.step {n : Nat} {es : Es} (hes : ∀ a b, adj es a b → a < n ∧ b < n) {D : List Bool} {v u : Nat} {d : List Bool} {nw r : List Nat} (w : WJ n es D v (d, nw, r ++ [u])) :
    WJ n es D v (comes (d, nw, r) (nearOf es u)) ∧ 2 * undone (comes (d, nw, r) (nearOf es u)).1 + (comes (d, nw, r) (nearOf es u)).2.2.length < 2 * undone d + (r ++ [u]).length := by
  have w1 : WI n es D v (d, nw, r) := ⟨w.len, w.done, w.nd, w.now, fun x h => w.rest x (List.mem_append_left _ h), by have := w.rl; simp at this ⊢; omega, w.conn⟩
  have hu : u ∈ nw := w.rest u (List.mem_append_right _ (List.mem_singleton.2 rfl))
  have hg : Gone es (fun x => x = u) (d, nw, r) := fun x hx hr hne y hy => w.gone x hx (fun e => by
    rcases List.mem_append.1 e with e | e
    · exact hr e
    · simp at e; exact hne e) (fun e => e) y hy
  obtain ⟨h1, h2, h3, h4, h5, h6⟩ := comes_ok hes w1 hu hg (nearOf es u).length (Nat.le_refl _)
  rw [List.take_length] at *
  refine ⟨⟨h1, fun x hx hr _ y hy => ?_, h6 v w.self⟩, by simp at h5 ⊢; omega⟩
  by_cases e : x = u
  · subst e; exact h4 y (nearOf_mem.2 hy)
  · exact h3 x hx hr e y hy
theorem WJ.start {n : Nat} {es : Es} {D : List Bool} {v : Nat} (hD : D.length = n) (hv : v < n) (h0 : D.getD v false = false) : WJ n es D v (come (D, [], []) v) := by
 refine ⟨(WI.start hD).come hv (.inl rfl), ?_, ?_⟩
 · intro x hx hr _ y _
   rcases come_rest hx with h | h
   · simp at h
   · exact absurd h hr
 · have : ¬ D.getD v false = true := by rw [h0]; simp
   unfold come; rw [if_neg this]; simp
structure PieceOf (n : Nat) (es : Es) (D : List Bool) (v : Nat) (D' : List Bool) (p : List Nat) : Prop where
 len : D'.length = n
 done : ∀ x, D'.getD x false = true ↔ D.getD x false = true ∨ x ∈ p
 inc : p.Pairwise (· < ·)
 mem : ∀ x ∈ p, x < n ∧ D.getD x false = false
 self : v ∈ p
 closed : ∀ x ∈ p, ∀ y, adj es x y → D'.getD y false = true
 conn : ∀ f, Flat es (fun x => D.getD x false = true) f → ∀ x ∈ p, f x = f v
theorem WJ.piece {n : Nat} {es : Es} {D : List Bool} {v : Nat} {d : List Bool} {nw p : List Nat} (w : WJ n es D v (d, nw, [])) (hp : p.Perm nw) (hs : p.Pairwise (· ≤ ·)) : PieceOf n es D v d p where
 len := w.len
 done x := by rw [w.done, hp.mem_iff]
 inc := by
  have nd : p.Nodup := hp.nodup_iff.2 w.nd
  refine (hs.and nd).imp fun {a b} h => ?_
  have := h.1; have := h.2; omega
 mem x hx := w.now x (hp.mem_iff.1 hx)
 self := hp.mem_iff.2 w.self
 closed x hx y hy := w.gone x (hp.mem_iff.1 hx) (by simp) (fun e => e) y hy
 conn f hf x hx := w.conn f hf x (hp.mem_iff.1 hx)
structure OI (n : Nat) (es : Es) (O : Nat → Prop) (v : Nat) (D : List Bool) (ps : List (List Nat)) : Prop where
 len : D.length = n
 done : ∀ x, x < n → (D.getD x false = true ↔ O x ∨ ∃ p ∈ ps, x ∈ p)
 out : ∀ p ∈ ps, ∀ x ∈ p, x < n ∧ ¬ O x
 before : ∀ x, x < v → x < n → D.getD x false = true
 ne : ∀ p ∈ ps, p ≠ []
 inc : ∀ p ∈ ps, p.Pairwise (· < ·)
 low : ∀ p ∈ ps, ∀ a ∈ p.head?, a < v
 heads : ps.Pairwise fun p q => ∀ a ∈ p.head?, ∀ b ∈ q.head?, a < b
 disj : ps.Pairwise fun p q => ∀ v ∈ p, v ∉ q
 edge : ∀ p ∈ ps, ∀ a ∈ p, ∀ b, adj es a b → b < n → ¬ O b → b ∈ p
 conn : ∀ p ∈ ps, ∀ f, Flat es O f → ∀ a ∈ p, ∀ b ∈ p, f a = f b
theorem OI.start {n : Nat} {es : Es} {O : Nat → Prop} {D : List Bool} (hD : D.length = n) (h : ∀ x, x < n → (D.getD x false = true ↔ O x)) : OI n es O 0 D [] :=
 ⟨hD, fun x hx => by rw [h x hx]; simp, fun p hp => by simp at hp, fun x hx => by omega, fun p hp => by simp at hp, fun p hp => by simp at hp, fun p hp => by simp at hp, .nil, .nil, fun p hp => by simp at hp, fun p hp => by simp at hp⟩
theorem OI.skip {n : Nat} {es : Es} {O : Nat → Prop} {v : Nat} {D : List Bool} {ps : List (List Nat)} (w : OI n es O v D ps) (h : D.getD v false = true) : OI n es O (v + 1) D ps :=
 { w with
  before := fun x hx hn => by
   rcases Nat.lt_or_ge x v with h1 | h1
   · exact w.before x h1 hn
   · have : x = v := by omega
     subst this; exact h
  low := fun p hp a ha => Nat.lt_succ_of_lt (w.low p hp a ha) }
theorem OI.take {n : Nat} {es : Es} (hes : ∀ a b, adj es a b → a < n ∧ b < n) {O : Nat → Prop} {v : Nat} {D D' : List Bool} {ps : List (List Nat)} {p : List Nat} (w : OI n es O v D ps) (hp : PieceOf n es D v D' p) : OI n es O (v + 1) D' (ps ++ [p]) := by
 have hO : ∀ x ∈ p, ¬ O x := fun x hx ho => by
  have h1 := hp.mem x hx
  have := (w.done x h1.1).2 (.inl ho)
  rw [h1.2] at this; cases this
 have hsep : ∀ q ∈ ps, ∀ x ∈ q, x ∉ p := fun q hq x hx hxp => by
  have h1 := hp.mem x hxp
  have := (w.done x h1.1).2 (.inr ⟨q, hq, hx⟩)
  rw [h1.2] at this; cases this
 have hmin : ∀ x ∈ p, v ≤ x := fun x hx => by
  rcases Nat.lt_or_ge x v with h | h
  · have h1 := hp.mem x hx
    have := w.before x h h1.1
    rw [h1.2] at this; cases this
  · exact h
 have hhead : ∀ a ∈ p.head?, a = v := by
  intro a ha
  cases p with
  | nil => cases ha
  | cons b p =>
    have e0 : b = a := by simpa using ha
    subst e0
    have h1 := hmin b (List.mem_cons_self ..)
    rcases List.mem_cons.1 hp.self with e | e
    · exact e.symm
    · have := (List.pairwise_cons.1 hp.inc).1 v e; omega
 refine ⟨hp.len, fun x hx => ?_, ?_, fun x hx hn => ?_, ?_, ?_, ?_, ?_, ?_, ?_, ?_⟩
 · rw [hp.done, w.done x hx]
   simp only [List.mem_append, List.mem_singleton]
   constructor
   · rintro ((h | ⟨q, h1, h2⟩) | h)
     · exact .inl h
     · exact .inr ⟨q, .inl h1, h2⟩
     · exact .inr ⟨p, .inr rfl, h⟩
   · rintro (h | ⟨q, h1 | h1, h2⟩)
     · exact .inl (.inl h)
     · exact .inl (.inr ⟨q, h1, h2⟩)
     · subst h1; exact .inr h2
 · intro q hq x hx
   rcases List.mem_append.1 hq with hq | hq
   · exact w.out q hq x hx
   · simp at hq; subst hq; exact ⟨(hp.mem x hx).1, hO x hx⟩
 · rw [hp.done]
   rcases Nat.lt_or_ge x v with h1 | h1
   · exact .inl (w.before x h1 hn)
   · have : x = v := by omega
     subst this; exact .inr hp.self
 · intro q hq
   rcases List.mem_append.1 hq with hq | hq
   · exact w.ne q hq
   · simp at hq; subst hq; intro e; rw [e] at hp; exact absurd hp.self (by simp)
 · intro q hq
   rcases List.mem_append.1 hq with hq | hq
   · exact w.inc q hq
   · simp at hq; subst hq; exact hp.inc
 · intro q hq a ha
   rcases List.mem_append.1 hq with hq | hq
   · exact Nat.lt_succ_of_lt (w.low q hq a ha)
   · simp at hq; subst hq; rw [hhead a ha]; omega
 · refine List.pairwise_append.2 ⟨w.heads, by simp, fun q hq r hr a ha b hb => ?_⟩
   simp at hr; subst hr
   rw [hhead b hb]; exact w.low q hq a ha
 · refine List.pairwise_append.2 ⟨w.disj, by simp, fun q hq r hr x hx => ?_⟩
   simp at hr; subst hr
   exact hsep q hq x hx
 · intro q hq a ha b hab hb hob
   rcases List.mem_append.1 hq with hq | hq
   · exact w.edge q hq a ha b hab hb hob
   · simp at hq; subst hq
     rcases (hp.done b).1 (hp.closed a ha b hab) with h | h
     · rcases (w.done b hb).1 h with h | ⟨q, hq, hbq⟩
       · exact absurd h hob
       · exact absurd ha (hsep q hq a (w.edge q hq b hbq a (adj_symm hab) (hp.mem a ha).1 (hO a ha)))
     · exact h
 · intro q hq f hf a ha b hb
   rcases List.mem_append.1 hq with hq | hq
   · exact w.conn q hq f hf a ha b hb
   · simp at hq; subst hq
     have hf' : Flat es (fun x => D.getD x false = true) f := by
      intro x y hxy hx hy
      have hl := hes x y hxy
      exact hf x y hxy (fun ho => hx ((w.done x hl.1).2 (.inl ho))) fun ho => hy ((w.done y hl.2).2 (.inl ho))
     rw [hp.conn f hf' a ha, hp.conn f hf' b hb]
theorem OI.pieces {n : Nat} {es : Es} {O : Nat → Prop} {D : List Bool} {ps : List (List Nat)} (w : OI n es O n D ps) : IsPieces n es O ps where
 mem v := by
  constructor
  · rintro ⟨p, hp, hv⟩; exact w.out p hp v hv
  · rintro ⟨h1, h2⟩
    rcases (w.done v h1).1 (w.before v h1 h1) with h | h
    · exact absurd h h2
    · exact h
 ne := w.ne
 inc := w.inc
 heads := w.heads
 disj := w.disj
 edge := w.edge
 conn := w.conn
end Go.Ga.Gl
set_option maxRecDepth 100000
set_option maxHeartbeats 4000000
namespace Go.Proofs.Ytmcfdfafeheihaa
open Go Go.Ga Go.Ga.Gl
theorem isNaN_ok (a : Int) : ACalls Try.prog [] n_f70 [.sc (.int .i64 a)] [] fun r h' => r = .sc (.bool false) ∧ h' = [] := by
 refine go_f70 rfl ?_
 unfold c_f70 v_f70
 refine wlk_sreg fun KY hKY => ?_
 simp only [go_sem, c_f70_r0]
 refine hKY _ ?_
 refine wlk_sreg fun KY hKY => ?_
 simp only [go_sem, c_f70_r1, ne_eq, not_true_eq_false]
 refine hKY _ ?_
 refine wlk_ret ?_
 simp only [go_sem]
def cmpI (a b : Int) : Int := if a < b then -1 else if b < a then 1 else 0
theorem compare_ok (a b : Int) : ACalls Try.prog [] n_f60 [.sc (.int .i64 a), .sc (.int .i64 b)] [] fun r h' => r = .sc (.int .i64 (cmpI a b)) ∧ h' = [] := by
 refine go_f60 rfl ?_
 unfold c_f60 v_f60
 refine wlk_sreg fun KY hKY => ?_
 simp only [go_sem, c_f60_r0]
 refine hKY _ ?_
 refine wlk_sreg fun KY hKY => ?_
 simp only [go_sem, c_f60_r1]
 refine call_view rfl (by simp only [go_sem] <;> rfl) ((isNaN_ok _).mono ?_)
 rintro rr hh ⟨rfl, rfl⟩
 refine ⟨rfl, rfl, rfl, ?_⟩
 simp only [go_sem]
 refine hKY _ ?_
 refine wlk_sreg fun KY hKY => ?_
 simp only [go_sem, c_f60_r2]
 refine call_view rfl (by simp only [go_sem] <;> rfl) ((isNaN_ok _).mono ?_)
 rintro rr hh ⟨rfl, rfl⟩
 refine ⟨rfl, rfl, rfl, ?_⟩
 simp only [go_sem]
 refine hKY _ ?_
 refine wlk_seq fun X1 hn1 he1 hr1 => ?_
 refine wlk_sreg fun KY hKY => ?_
 simp only [go_sem, c_f60_r3]
 refine hKY _ ?_
 refine wlk_cond0 (by first | rfl | (simp only [go_sem]; try simp (disch := omega) only [decide_eq_true, decide_eq_false])) ?_
 refine wlk_skip ?_
 repeat (first | refine hn1 _ ?_ | refine he1 _ _ ?_)
 refine wlk_seq fun X2 hn2 he2 hr2 => ?_
 refine wlk_sreg fun KY hKY => ?_
 simp only [go_sem, c_f60_r7]
 refine hKY _ ?_
 refine wlk_cond0 (by first | rfl | (simp only [go_sem]; try simp (disch := omega) only [decide_eq_true, decide_eq_false])) ?_
 refine wlk_skip ?_
 repeat (first | refine hn2 _ ?_ | refine he2 _ _ ?_ | refine hn1 _ ?_ | refine he1 _ _ ?_)
 unfold cmpI
 refine wlk_seq fun X3 hn3 he3 hr3 => ?_
 refine wlk_sreg fun KY hKY => ?_
 simp only [go_sem, c_f60_r9]
 refine hKY _ ?_
 by_cases h : a < b
 · refine wlk_cond1 (by first | rfl | (simp only [go_sem, h]; try simp (disch := omega) only [decide_eq_true, decide_eq_false])) ?_
   refine wlk_sreg fun KY hKY => ?_
   simp only [go_sem, c_f60_r10]
   refine hKY _ ?_
   refine wlk_ret ?_
   repeat (first | refine hr3 _ ?_ | refine hr2 _ ?_ | refine hr1 _ ?_)
   simp only [go_sem, h]
 · refine wlk_cond0 (by first | rfl | (simp only [go_sem, h]; try simp (disch := omega) only [decide_eq_true, decide_eq_false])) ?_
   refine wlk_skip ?_
   repeat (first | refine hn3 _ ?_ | refine he3 _ _ ?_ | refine hn2 _ ?_ | refine he2 _ _ ?_ | refine hn1 _ ?_ | refine he1 _ _ ?_)
   refine wlk_seq fun X4 hn4 he4 hr4 => ?_
   refine wlk_sreg fun KY hKY => ?_
   simp only [go_sem, c_f60_r11]
   refine hKY _ ?_
   by_cases h2 : b < a
   · refine wlk_cond1 (by first | rfl | (simp only [go_sem, h2]; try simp (disch := omega) only [decide_eq_true, decide_eq_false])) ?_
     refine wlk_sreg fun KY hKY => ?_
     simp only [go_sem, c_f60_r12]
     refine hKY _ ?_
     refine wlk_ret ?_
     repeat (first | refine hr4 _ ?_ | refine hr3 _ ?_ | refine hr2 _ ?_ | refine hr1 _ ?_)
     simp only [go_sem, h, h2]
   · refine wlk_cond0 (by first | rfl | (simp only [go_sem, h2]; try simp (disch := omega) only [decide_eq_true, decide_eq_false])) ?_
     refine wlk_skip ?_
     repeat (first | refine hn4 _ ?_ | refine he4 _ _ ?_ | refine hn3 _ ?_ | refine he3 _ _ ?_ | refine hn2 _ ?_ | refine he2 _ _ ?_ | refine hn1 _ ?_ | refine he1 _ _ ?_)
     refine wlk_sreg fun KY hKY => ?_
     simp only [go_sem, c_f60_r13]
     refine hKY _ ?_
     refine wlk_ret ?_
     repeat (first | refine hr4 _ ?_ | refine hr3 _ ?_ | refine hr2 _ ?_ | refine hr1 _ ?_)
     simp only [go_sem, h, h2]
theorem find_first : ∀ {l : List Int} {k : Nat}, k < l.length → l.getD k 0 ≠ 0 → (∀ j, j < k → l.getD j 0 = 0) → l.find? (· ≠ 0) = some (l.getD k 0)
 | [], k, h, _, _ => by simp at h
 | a :: l, 0, _, h, _ => by
   have : a ≠ 0 := by simpa using h
   simp [List.find?, this]
 | a :: l, k + 1, h, h2, hz => by
   have h0 : a = 0 := by simpa using hz 0 (by omega)
   subst h0
   have ih := find_first (l := l) (k := k) (by simpa using h) (by simpa using h2) fun j hj => by simpa using hz (j + 1) (by omega)
   simp only [List.find?, ne_eq, not_true_eq_false, decide_false]
   simpa using ih
theorem find_none : ∀ {l : List Int}, (∀ j, j < l.length → l.getD j 0 = 0) → l.find? (· ≠ 0) = none
 | [], _ => rfl
 | a :: l, hz => by
   have h0 : a = 0 := by simpa using hz 0 (by simp)
   subst h0
   have ih := find_none (l := l) fun j hj => by simpa using hz (j + 1) (by simp; omega)
   simp only [List.find?, ne_eq, not_true_eq_false, decide_false]
   simpa using ih
theorem or_ok (l : List Int) (hl : l.length ≤ 1000) : ACalls Try.prog [] n_f59 [.imm 1 (ints l)] [] fun r h' => r = .sc (.int .i64 ((l.find? (· ≠ 0)).getD 0)) ∧ h' = [] := by
 refine go_f59 rfl ?_
 unfold c_f59 v_f59
 refine wlk_sreg fun KY hKY => ?_
 simp only [go_sem, c_f59_r0]
 refine hKY _ ?_
 refine wlk_sreg fun KY hKY => ?_
 simp only [go_sem, c_f59_r1]
 refine hKY _ ?_
 refine wlk_seq fun X1 hn1 he1 hr1 => ?_
 refine wlk_sreg fun KY hKY => ?_
 simp only [go_sem, c_f59_r2]
 refine hKY _ ?_
 refine wlk_blk fun X2 hn2 he2 hf2 hr2 => ?_
 try simp only [go_sem]
 refine wlk_lp (α := Nat) [5, 9, 14] (fun k => [(8, .sc (.int .i64 (k : Int)))]) (fun k => []) (fun k q => k ≤ l.length ∧ q = l.length - k ∧ ∀ j, j < k → l.getD j 0 = 0) (0) (l.length) rfl (by first | (simp only [go_sem, updAll_cons, updAll_nil]; done) | with_reducible rfl | rfl) (⟨by omega, rfl, fun j h => by omega⟩) ?_
 rintro k q ⟨hk, rfl, hz⟩ X3 hn3 he3 hr3
 simp only [go_sem, updAll_cons, updAll_nil]
 refine wlk_sreg fun KY hKY => ?_
 simp only [go_sem, c_f59_r3]
 refine hKY _ ?_
 refine wlk_seq fun X4 hn4 he4 hr4 => ?_
 by_cases h : k < l.length
 · refine wlk_cond1 (by first | rfl | (simp only [go_sem]; try simp (disch := omega) only [decide_eq_true, decide_eq_false])) ?_
   refine wlk_skip ?_
   repeat (first | refine hn4 _ ?_ | refine he4 _ _ ?_ | refine he3 _ _ ?_ | refine hn2 _ ?_ | refine he2 _ ?_ | refine hf2 _ _ (by decide) ?_ | refine hn1 _ ?_ | refine he1 _ _ ?_)
   refine wlk_seq fun X5 hn5 he5 hr5 => ?_
   refine wlk_blk fun X6 hn6 he6 hf6 hr6 => ?_
   refine wlk_sreg fun KY hKY => ?_
   simp only [go_sem, c_f59_r4]
   repeat (simp (disch := omega) only [if_pos, if_neg, decide_eq_true, decide_eq_false, incS, nats_get, ints_get]; try simp only [go_sem])
   refine hKY _ ?_
   refine wlk_sreg fun KY hKY => ?_
   simp only [go_sem, c_f59_r5]
   refine hKY _ ?_
   by_cases h2 : l.getD k 0 = 0
   · refine wlk_cond0 (by first | rfl | (simp only [go_sem, h2, ne_eq, not_true_eq_false]; try simp (disch := omega) only [decide_eq_true, decide_eq_false])) ?_
     refine wlk_skip ?_
     repeat (first | refine hn6 _ ?_ | refine he6 _ ?_ | refine hf6 _ _ (by decide) ?_ | refine hn5 _ ?_ | refine he5 _ _ ?_ | refine hn4 _ ?_ | refine he4 _ _ ?_ | refine he3 _ _ ?_ | refine hn2 _ ?_ | refine he2 _ ?_ | refine hf2 _ _ (by decide) ?_ | refine hn1 _ ?_ | refine he1 _ _ ?_)
     refine wlk_reg fun KY hKY => ?_
     simp only [go_sem, c_f59_r7]
     repeat (simp (disch := omega) only [if_pos, if_neg, decide_eq_true, decide_eq_false, incS, nats_get, ints_get]; try simp only [go_sem])
     refine hKY _ ?_
     repeat (first | refine hn6 _ ?_ | refine he6 _ ?_ | refine hf6 _ _ (by decide) ?_ | refine hn5 _ ?_ | refine he5 _ _ ?_ | refine hn4 _ ?_ | refine he4 _ _ ?_)
     refine hn3 _ (k + 1) (l.length - (k + 1)) (by omega) (by first | (simp only [go_sem, updAll_cons, updAll_nil]; done) | with_reducible rfl | rfl) ?_
     refine ⟨h, rfl, fun j hj => ?_⟩
     rcases Nat.lt_or_ge j k with h3 | h3
     · exact hz j h3
     · have : j = k := by omega
       subst this; exact h2
   · refine wlk_cond1 (by first | rfl | (simp only [go_sem, h2, ne_eq, not_false_eq_true]; try simp (disch := omega) only [decide_eq_true, decide_eq_false])) ?_
     refine wlk_sreg fun KY hKY => ?_
     simp only [go_sem, c_f59_r6]
     refine hKY _ ?_
     refine wlk_ret ?_
     repeat (first | refine hr6 _ ?_ | refine hr5 _ ?_ | refine hr4 _ ?_ | refine hr3 _ ?_ | refine hr2 _ ?_ | refine hr1 _ ?_)
     simp only [go_sem]
     rw [find_first h h2 hz]
     rfl
 · refine wlk_cond0 (by first | rfl | (simp only [go_sem]; try simp (disch := omega) only [decide_eq_true, decide_eq_false])) ?_
   refine wlk_exit ?_
   repeat (first | refine hn4 _ ?_ | refine he4 _ _ ?_ | refine he3 _ _ ?_ | refine hn2 _ ?_ | refine he2 _ ?_ | refine hf2 _ _ (by decide) ?_ | refine hn1 _ ?_ | refine he1 _ _ ?_)
   refine wlk_sreg fun KY hKY => ?_
   simp only [go_sem, c_f59_r8]
   refine hKY _ ?_
   refine wlk_ret ?_
   repeat (first | refine hr4 _ ?_ | refine hr3 _ ?_ | refine hr2 _ ?_ | refine hr1 _ ?_)
   simp only [go_sem]
   have : k = l.length := by omega
   subst this
   rw [find_none hz]
   rfl
end Go.Proofs.Ytmcfdfafeheihaa

namespace Go.Ga.Gl
open Go Go.Ga
end Go.Ga.Gl

namespace Go.Ga.Gl
open Go Go.Ga
theorem head_mem {p : List Nat} {a : Nat} (h : a ∈ p.head?) : a ∈ p := by
 cases p with
 | nil => cases h
 | cons b p => have : b = a := by simpa using h
               subst this; exact List.mem_cons_self ..
end Go.Ga.Gl

namespace Go.Ga.Gl
open Go Go.Ga
structure LI (n : Nat) (es : Es) (O : Nat → Prop) (lab : List Int) : Prop where
 len : lab.length = n
 out : ∀ v, v < n → (lab.getD v 0 < 0 ↔ O v)
 low : ∀ v, v < n → ¬ O v → 0 ≤ lab.getD v 0 ∧ lab.getD v 0 ≤ v ∧ ¬ O (lab.getD v 0).toNat
 conn : ∀ f, Flat es O f → ∀ v, v < n → ¬ O v → f v = f (lab.getD v 0).toNat
theorem getD_set (l : List Int) (v w : Nat) (k : Int) (h : v < l.length) : (l.set v k).getD w 0 = if w = v then k else l.getD w 0 := by
 simp only [List.getD_eq_getElem?_getD, List.getElem?_set]
 by_cases e : v = w
 · subst e; simp [h]
 · simp [e, Ne.symm e]
def lab2 (lab : List Int) (a b : Nat) : List Int := (lab.set a (min (lab.getD a 0) (lab.getD b 0))).set b (min (lab.getD a 0) (lab.getD b 0))
theorem lab2_get {lab : List Int} {a b w : Nat} (ha : a < lab.length) (hb : b < lab.length) : (lab2 lab a b).getD w 0 = if w = a ∨ w = b then min (lab.getD a 0) (lab.getD b 0) else lab.getD w 0 := by
 unfold lab2
 rw [getD_set _ _ _ _ (by simpa using hb), getD_set _ _ _ _ ha]
 by_cases h1 : w = b
 · simp [h1]
 · by_cases h2 : w = a
   · simp [h2]
   · simp [h1, h2]
theorem LI.step {n : Nat} {es : Es} {O : Nat → Prop} {lab : List Int} (w : LI n es O lab) {a b : Nat} (hab : adj es a b) (han : a < n) (hbn : b < n) (h1 : ¬ lab.getD a 0 < 0) (h2 : ¬ lab.getD b 0 < 0) : LI n es O (lab2 lab a b) := by
 have oa : ¬ O a := fun h => h1 ((w.out a han).2 h)
 have ob : ¬ O b := fun h => h2 ((w.out b hbn).2 h)
 have la := w.low a han oa
 have lb := w.low b hbn ob
 have hal : a < lab.length := by rw [w.len]; exact han
 have hbl : b < lab.length := by rw [w.len]; exact hbn
 have hk : ∃ c, (c = a ∨ c = b) ∧ min (lab.getD a 0) (lab.getD b 0) = lab.getD c 0 := by
  rcases Int.le_total (lab.getD a 0) (lab.getD b 0) with h | h
  · exact ⟨a, .inl rfl, Int.min_eq_left h⟩
  · exact ⟨b, .inr rfl, Int.min_eq_right h⟩
 refine ⟨by unfold lab2; simp [w.len], fun v hv => ?_, fun v hv ho => ?_, fun f hf v hv ho => ?_⟩
 · rw [lab2_get hal hbl]
   split
   · rename_i h
     rcases h with rfl | rfl
     · constructor
       · intro h; omega
       · intro h; exact absurd h oa
     · constructor
       · intro h; omega
       · intro h; exact absurd h ob
   · exact w.out v hv
 · rw [lab2_get hal hbl]
   split
   · rename_i h
     obtain ⟨c, hc, e⟩ := hk
     refine ⟨by omega, by rcases h with rfl | rfl <;> omega, ?_⟩
     rw [e]
     rcases hc with rfl | rfl
     · exact la.2.2
     · exact lb.2.2
   · exact w.low v hv ho
 · rw [lab2_get hal hbl]
   split
   · rename_i h
     obtain ⟨c, hc, e⟩ := hk
     rw [e]
     have e1 := hf a b hab oa ob
     have ea := w.conn f hf a han oa
     have eb := w.conn f hf b hbn ob
     rcases h with rfl | rfl <;> rcases hc with rfl | rfl
     · exact ea
     · rw [e1, eb]
     · rw [← e1, ea]
     · exact eb
   · exact w.conn f hf v hv ho
theorem LI.start {n : Nat} {es : Es} {O : Nat → Prop} {lab : List Int} (hl : lab.length = n) (h : ∀ v, v < n → (O v → lab.getD v 0 = -1) ∧ (¬ O v → lab.getD v 0 = (v : Int))) : LI n es O lab := by
 refine ⟨hl, fun v hv => ?_, fun v hv ho => ?_, fun f _ v hv ho => ?_⟩
 · constructor
   · intro h1
     by_cases ho : O v
     · exact ho
     · have := (h v hv).2 ho; omega
   · intro ho; have := (h v hv).1 ho; omega
 · rw [(h v hv).2 ho]; exact ⟨by omega, by omega, by simpa using ho⟩
 · rw [(h v hv).2 ho]; simp
def byLabel (n : Nat) (lab : List Int) (m : Nat) : List (List Nat) := ((List.range m).filter fun v : Nat => decide (lab.getD v 0 = (v : Int))).map fun v : Nat => (List.range n).filter fun w => decide (lab.getD w 0 = (v : Int))
theorem mem_byLabel {n : Nat} {lab : List Int} {m : Nat} {p : List Nat} : p ∈ byLabel n lab m ↔ ∃ v : Nat, v < m ∧ lab.getD v 0 = (v : Int) ∧ (List.range n).filter (fun w => decide (lab.getD w 0 = (v : Int))) = p := by
 simp only [byLabel, List.mem_map, List.mem_filter, List.mem_range, decide_eq_true_eq, and_assoc]
theorem LI.pieces {n : Nat} {es : Es} {O : Nat → Prop} {lab : List Int} (hes : ∀ a b, adj es a b → a < n ∧ b < n) (W : LI n es O lab) (hfix : ∀ e ∈ es, lab.getD e.1 0 < 0 ∨ lab.getD e.2 0 < 0 ∨ lab.getD e.1 0 = lab.getD e.2 0) : IsPieces n es O (byLabel n lab n) := by
 have hflat : ∀ a b, adj es a b → ¬ O a → ¬ O b → lab.getD a 0 = lab.getD b 0 := by
  intro a b hab ha hb
  have hl := hes a b hab
  have h1 := W.low a hl.1 ha
  have h2 := W.low b hl.2 hb
  rcases hab with h | h
  · rcases hfix _ h with h | h | h
    · exact absurd h (by simp only; omega)
    · exact absurd h (by simp only; omega)
    · exact h
  · rcases hfix _ h with h | h | h
    · exact absurd h (by simp only; omega)
    · exact absurd h (by simp only; omega)
    · exact h.symm
 have hfl : Flat es O (fun v => (lab.getD v 0).toNat) := fun a b hab ha hb => by
  show (lab.getD a 0).toNat = (lab.getD b 0).toNat
  rw [hflat a b hab ha hb]
 have hid : ∀ v, v < n → ¬ O v → lab.getD (lab.getD v 0).toNat 0 = lab.getD v 0 := by
  intro v hv ho
  have h1 := W.low v hv ho
  have h2 := W.conn _ hfl v hv ho
  have h3 := W.low (lab.getD v 0).toNat (by omega) h1.2.2
  have h2 : (lab.getD v 0).toNat = (lab.getD (lab.getD v 0).toNat 0).toNat := h2
  omega
 have hm : ∀ (v w : Nat), w ∈ (List.range n).filter (fun w => decide (lab.getD w 0 = (v : Int))) ↔ w < n ∧ lab.getD w 0 = (v : Int) := fun v w => by
  simp only [List.mem_filter, List.mem_range, decide_eq_true_eq]
 have hno : ∀ (v w : Nat), w < n → lab.getD w 0 = (v : Int) → ¬ O w := fun v w hw h ho => by
  have := (W.out w hw).2 ho; omega
 have hle : ∀ (v w : Nat), w < n → lab.getD w 0 = (v : Int) → v ≤ w := fun v w hw h => by
  have := (W.low w hw (hno v w hw h)).2.1; omega
 have hfirst : ∀ v : Nat, v < n → lab.getD v 0 = (v : Int) → ∀ a ∈ ((List.range n).filter fun w => decide (lab.getD w 0 = (v : Int))).head?, a = v := by
  intro v hv h a ha
  have h1 := (hm v a).1 (head_mem ha)
  have h2 := hle v a h1.1 h1.2
  have h3 : a ≤ v := by
   have hpw : ((List.range n).filter fun w => decide (lab.getD w 0 = (v : Int))).Pairwise (· < ·) := List.pairwise_lt_range.filter _
   have hvm := (hm v v).2 ⟨hv, h⟩
   generalize (List.range n).filter (fun w => decide (lab.getD w 0 = (v : Int))) = r at ha hpw hvm
   cases r with
   | nil => cases ha
   | cons b r =>
     have : b = a := by simpa using ha
     subst this
     rcases List.mem_cons.1 hvm with e | e
     · omega
     · have := (List.pairwise_cons.1 hpw).1 v e; omega
  omega
 refine ⟨fun v => ?_, ?_, ?_, ?_, ?_, ?_, ?_⟩
 · constructor
   · rintro ⟨p, hp, hv⟩
     obtain ⟨k, _, _, rfl⟩ := mem_byLabel.1 hp
     have := (hm k v).1 hv
     exact ⟨this.1, hno k v this.1 this.2⟩
   · rintro ⟨hv, ho⟩
     have h1 := W.low v hv ho
     have h2 := hid v hv ho
     refine ⟨_, mem_byLabel.2 ⟨(lab.getD v 0).toNat, by omega, by rw [h2]; omega, rfl⟩, (hm _ v).2 ⟨hv, by omega⟩⟩
 · intro p hp
   obtain ⟨k, hk, h, rfl⟩ := mem_byLabel.1 hp
   exact List.ne_nil_of_mem ((hm k k).2 ⟨hk, h⟩)
 · intro p hp
   obtain ⟨k, _, _, rfl⟩ := mem_byLabel.1 hp
   exact List.pairwise_lt_range.filter _
 · unfold byLabel
   refine List.pairwise_map.2 ((List.pairwise_lt_range.filter _).imp_of_mem fun {u v} hu hv h a ha b hb => ?_)
   simp only [List.mem_filter, List.mem_range, decide_eq_true_eq] at hu hv
   rw [hfirst u hu.1 hu.2 a ha, hfirst v hv.1 hv.2 b hb]; exact h
 · unfold byLabel
   refine List.pairwise_map.2 ((List.pairwise_lt_range.filter _).imp fun {u v} h w hw hw' => ?_)
   have h1 := ((hm u w).1 hw).2
   have h2 := ((hm v w).1 hw').2
   omega
 · intro p hp a ha b hab hb hob
   obtain ⟨k, _, _, rfl⟩ := mem_byLabel.1 hp
   have h1 := (hm k a).1 ha
   exact (hm k b).2 ⟨hb, by rw [← hflat a b hab (hno k a h1.1 h1.2) hob]; exact h1.2⟩
 · intro p hp f hf a ha b hb
   obtain ⟨k, _, _, rfl⟩ := mem_byLabel.1 hp
   have h1 := (hm k a).1 ha
   have h2 := (hm k b).1 hb
   rw [W.conn f hf a h1.1 (hno k a h1.1 h1.2), W.conn f hf b h2.1 (hno k b h2.1 h2.2), h1.2, h2.2]
end Go.Ga.Gl

namespace Go.Ga.Gl
open Go Go.Ga
def ow (m : List Int) (x y : Nat) : Bool := decide (m.getD x 0 = (y : Int))
def marks (n : Nat) (l : Es) : List Bool := l.foldl (fun m e => (m.set e.1 true).set e.2 true) (List.replicate n false)
theorem getD_setB (l : List Bool) (v w : Nat) (h : v < l.length) : (l.set v true).getD w false = (decide (v = w) || l.getD w false) := by
 simp only [List.getD_eq_getElem?_getD, List.getElem?_set]
 by_cases e : v = w
 · subst e; simp [h]
 · simp [e]
structure Mt (N : Nat) (es : Es) (m : List Int) : Prop where
 len : m.length = N
 at_ : ∀ v, v < N → m.getD v 0 = -1 ∨ ∃ w : Nat, m.getD v 0 = (w : Int) ∧ w < N ∧ w ≠ v ∧ adj es v w ∧ m.getD w 0 = (v : Int)
theorem Mt.back {N : Nat} {es : Es} {m : List Int} (M : Mt N es m) {v w : Nat} (hv : v < N) (h : m.getD v 0 = (w : Int)) : w < N ∧ w ≠ v ∧ adj es v w ∧ m.getD w 0 = (v : Int) := by
 rcases M.at_ v hv with h1 | ⟨u, h1, h2⟩
 · omega
 · obtain rfl : u = w := by omega
   exact h2
theorem Mt.own {N : Nat} {es : Es} {m : List Int} (M : Mt N es m) {v w : Nat} (hv : v < N) (hw : w < N) : ow m v w = ow m w v := by
 unfold ow
 by_cases h : m.getD v 0 = (w : Int)
 · rw [decide_eq_true h, decide_eq_true (M.back hv h).2.2.2]
 · rw [decide_eq_false h, decide_eq_false]
   intro h2; exact h (M.back hw h2).2.2.2
end Go.Ga.Gl

namespace Go.Ga.Gl
open Go Go.Ga
structure FS where
 lab : Nat → Nat
 out : Nat → Bool
 pr : Nat → Nat
 rt : Nat → Int
 b0 : Nat → Nat
 b1 : Nat → Nat
 bs : Nat → Nat
abbrev Prs := List (Nat × Nat)
def revP (ps : Prs) : Prs := (ps.map Prod.swap).reverse
def flatP (ps : Prs) : List Nat := ps.flatMap fun p => [p.1, p.2]
def verts (ps : Prs) (to : Nat) : List Nat := flatP ps ++ [to]
theorem revP_cons (p : Nat × Nat) (ps : Prs) : revP (p :: ps) = revP ps ++ [p.swap] := by simp [revP]
theorem flatP_cons (p : Nat × Nat) (ps : Prs) : flatP (p :: ps) = p.1 :: p.2 :: flatP ps := rfl
theorem flatP_app (ps qs : Prs) : flatP (ps ++ qs) = flatP ps ++ flatP qs := by simp [flatP]
theorem flatP_rev (ps : Prs) : flatP (revP ps) = (flatP ps).reverse := by
 induction ps with
 | nil => rfl
 | cons p ps ih => rw [revP_cons, flatP_app, ih, flatP_cons]; simp [flatP]
inductive Way (mt : Nat → Int) (S : FS) : Nat → Nat → Prs → Prop
 | here (v : Nat) : Way mt S v v []
 | even {v to m : Nat} {ps : Prs} : v ≠ to → S.lab v = 1 → mt v = (m : Int) → S.lab m = 2 → Way mt S (S.pr m) to ps → Way mt S v to ((v, m) :: ps)
 | odd {v to m : Nat} {ps qs : Prs} : v ≠ to → S.out v = true → S.lab v = 2 → mt v = (m : Int) → Way mt S (S.b0 v) m ps → Way mt S (S.b1 v) to qs → Way mt S v to ((v, m) :: (revP ps ++ qs))
structure Goes (S T : FS) : Prop where
 lab : ∀ x, S.lab x ≠ 0 → T.lab x = S.lab x
 pr : ∀ x, S.lab x = 2 → T.pr x = S.pr x
 out : ∀ x, S.out x = true → T.out x = true
 b0 : ∀ x, S.out x = true → T.b0 x = S.b0 x
 b1 : ∀ x, S.out x = true → T.b1 x = S.b1 x
theorem Way.goes {mt : Nat → Int} {S T : FS} (h : Goes S T) {v to : Nat} {ps : Prs} (w : Way mt S v to ps) : Way mt T v to ps := by
 induction w with
 | here v => exact .here v
 | even h1 h2 h3 h4 _ ih => exact .even h1 (by rw [h.lab _ (by omega)]; exact h2) h3 (by rw [h.lab _ (by omega)]; exact h4) (by rw [h.pr _ h4]; exact ih)
 | odd h1 h2 h3 h4 _ _ ih1 ih2 => exact .odd h1 (h.out _ h2) (by rw [h.lab _ (by omega)]; exact h3) h4 (by rw [h.b0 _ h2]; exact ih1) (by rw [h.b1 _ h2]; exact ih2)
theorem Way.app {mt : Nat → Int} {S : FS} {v x to : Nat} {ps qs : Prs} (w : Way mt S v x ps) (u : Way mt S x to qs) (hn : to ∉ flatP ps) : Way mt S v to (ps ++ qs) := by
 induction w with
 | here v => exact u
 | even h1 h2 h3 h4 _ ih =>
   simp only [flatP_cons, List.mem_cons, not_or] at hn
   exact .even (Ne.symm hn.1) h2 h3 h4 (ih u hn.2.2)
 | odd h1 h2 h3 h4 w1 w2 ih1 ih2 =>
   simp only [flatP_cons, flatP_app, List.mem_cons, List.mem_append, not_or] at hn
   rw [List.cons_append, List.append_assoc]
   exact .odd (Ne.symm hn.1) h2 h3 h4 w1 (ih2 u hn.2.2.2)
theorem Way.first {mt : Nat → Int} {S : FS} {v to : Nat} {ps : Prs} (w : Way mt S v to ps) : v ∈ verts ps to := by
 cases w <;> simp [verts, flatP]
inductive Good (mt : Nat → Int) (E : Nat → Nat → Prop) : Nat → Prs → Nat → Prop
 | nil (v : Nat) : Good mt E v [] v
 | cons {a c w to : Nat} {ps : Prs} : mt a = (c : Int) → E c w → Good mt E w ps to → Good mt E a ((a, c) :: ps) to
theorem Good.app {mt : Nat → Int} {E : Nat → Nat → Prop} {v x to : Nat} {ps qs : Prs} (h : Good mt E v ps x) (k : Good mt E x qs to) : Good mt E v (ps ++ qs) to := by
 induction h with
 | nil v => exact k
 | cons h1 h2 _ ih => exact .cons h1 h2 (ih k)
theorem Good.rev {mt : Nat → Int} {E : Nat → Nat → Prop} (hm : ∀ a c : Nat, mt a = (c : Int) → mt c = (a : Int)) (hE : ∀ a c, E a c → E c a) {s m : Nat} {ps : Prs} (h : Good mt E s ps m) : ∀ {v w to : Nat} {qs : Prs}, mt v = (m : Int) → E s w → Good mt E w qs to → Good mt E v ((v, m) :: (revP ps ++ qs)) to := by
 induction h with
 | nil m => intro v w to qs h1 h2 h3; exact .cons h1 h2 h3
 | cons k1 k2 _ ih =>
   intro v w to qs h1 h2 h3
   rw [revP_cons, List.append_assoc]
   exact ih h1 (hE _ _ k2) (.cons (hm _ _ k1) h2 h3)
inductive Chain (mt : Nat → Int) (S : FS) : Nat → Nat → List Nat → Prop
 | here (b : Nat) : Chain mt S b b []
 | up {x m to : Nat} {xs : List Nat} : x ≠ to → mt x = (m : Int) → Chain mt S (S.bs (S.pr m)) to xs → Chain mt S x to (x :: xs)
structure Inv (N : Nat) (E : Nat → Nat → Prop) (mt : Nat → Int) (S : FS) : Prop where
 o1 : ∀ v, S.out v = true → v < N ∧ S.lab v ≠ 0
 e1 : ∀ v, S.lab v = 1 → S.out v = true
 l2 : ∀ v, S.lab v ≤ 2
 fr : ∀ v, v < N → mt v = -1 → S.lab v = 1 ∧ S.rt v = (v : Int)
 od : ∀ v, S.lab v = 2 → v < N ∧ ∃ x : Nat, mt v = (x : Int) ∧ S.lab x = 1 ∧ S.rt x = S.rt v ∧ S.out (S.pr v) = true ∧ E v (S.pr v) ∧ S.rt (S.pr v) = S.rt v
 ev : ∀ v, S.lab v = 1 → (mt v = -1 ∧ S.rt v = (v : Int)) ∨ ∃ m : Nat, mt v = (m : Int) ∧ S.lab m = 2
 bo : ∀ v, S.out v = true → S.out (S.bs v) = true ∧ S.lab (S.bs v) = 1 ∧ S.bs (S.bs v) = S.bs v ∧ S.rt (S.bs v) = S.rt v
 bn : ∀ v, S.out v = false → S.bs v = v
 bm : ∀ b m : Nat, S.out b = true → S.bs b = b → mt b = (m : Int) → S.out m = false
 bx : ∀ m x : Nat, S.lab m = 2 → S.out m = false → mt m = (x : Int) → S.bs x = x
 dp : ∃ d : Nat → Nat, ∀ b m : Nat, S.out b = true → S.bs b = b → mt b = (m : Int) → d (S.bs (S.pr m)) < d b
 wy : ∀ v, S.out v = true → ∃ ps, Way mt S v (S.bs v) ps ∧ Good mt E v ps (S.bs v) ∧ (verts ps (S.bs v)).Nodup ∧ ∀ x ∈ verts ps (S.bs v), S.out x = true ∧ S.bs x = S.bs v
structure Mf (N : Nat) (E : Nat → Nat → Prop) (mt : Nat → Int) : Prop where
 at_ : ∀ v, v < N → mt v = -1 ∨ ∃ w : Nat, mt v = (w : Int) ∧ w < N
 big : ∀ v, ¬ v < N → ∀ w : Nat, mt v ≠ (w : Int)
 sy : ∀ v w : Nat, mt v = (w : Int) → mt w = (v : Int)
 ne : ∀ v w : Nat, mt v = (w : Int) → w ≠ v ∧ E v w
 es : ∀ v w : Nat, E v w → E w v
 el : ∀ v w : Nat, E v w → v < N ∧ w < N ∧ v ≠ w
def On (mt : Nat → Int) (S : FS) (xs : List Nat) (to : Nat) (y : Nat) : Prop := (S.out y = true ∧ (S.bs y ∈ xs ∨ S.bs y = to)) ∨ (S.out y = false ∧ ∃ x ∈ xs, mt x = (y : Int))
theorem chain_way {N : Nat} {E : Nat → Nat → Prop} {mt : Nat → Int} {S : FS} (M : Mf N E mt) (I : Inv N E mt S) {d : Nat → Nat} (hd : ∀ b m : Nat, S.out b = true → S.bs b = b → mt b = (m : Int) → d (S.bs (S.pr m)) < d b) {c to : Nat} {xs : List Nat} (h : Chain mt S c to xs) :
    (S.bs to = to) → ∀ v, S.out v = true → S.bs v = c → (∀ x ∈ xs, d to < d x ∧ d x ≤ d c ∧ S.out x = true ∧ S.bs x = x) ∧ ∃ ps, Way mt S v to ps ∧ Good mt E v ps to ∧ (verts ps to).Nodup ∧ ∀ y ∈ verts ps to, On mt S xs to y := by
  induction h with
  | here b =>
    intro hb v hv hc
    obtain ⟨ps, h1, h2, h3, h4⟩ := I.wy v hv
    rw [hc] at h1 h2 h3 h4
    exact ⟨by simp, ps, h1, h2, h3, fun y hy => .inl ⟨(h4 y hy).1, .inr (h4 y hy).2⟩⟩
  | @up x m to xs hne hm hch ih =>
    intro hb v hv hc
    obtain ⟨b1, b2, b3, b4⟩ := I.bo v hv
    rw [hc] at b1 b2 b3 b4
    have hmo := I.bm x m b1 b3 hm
    have hl : S.lab m = 2 := by
      rcases I.ev x b2 with h | ⟨m', h1, h2⟩
      · omega
      · obtain rfl : m' = m := by omega
        exact h2
    obtain ⟨_, x', k1, k2, k3, k4, k5, k6⟩ := I.od m hl
    obtain ⟨i1, qs, q1, q2, q3, q4⟩ := ih hb (S.pr m) k4 rfl
    have hdx := hd x m b1 b3 hm
    have hdto : d to ≤ d (S.bs (S.pr m)) := by
      cases hch with
      | here => exact Nat.le_refl _
      | up => exact Nat.le_of_lt (i1 _ (by simp)).1
    have i2 : ∀ y ∈ xs, d y < d x := fun y hy => by have := (i1 y hy).2.1; omega
    obtain ⟨ps, p1, p2, p3, p4⟩ := I.wy v hv
    rw [hc] at p1 p2 p3 p4
    have hmx := M.sy x m hm
    have hxin : x ∉ verts qs to := fun h => by
      rcases q4 x h with ⟨_, h | h⟩ | ⟨h, _⟩
      · rw [b3] at h; have := i2 x h; omega
      · rw [b3] at h; omega
      · rw [b1] at h; cases h
    have hmin : m ∉ verts qs to := fun h => by
      rcases q4 m h with ⟨h, _⟩ | ⟨_, y, hy, h⟩
      · rw [hmo] at h; cases h
      · have := M.sy y m h
        obtain rfl : y = x := by omega
        have := i2 y hy; omega
    have hpq : ∀ y ∈ verts ps x, y ∉ verts qs to := fun y hy h => by
      obtain ⟨y1, y2⟩ := p4 y hy
      rcases q4 y h with ⟨_, h | h⟩ | ⟨h, _⟩
      · rw [y2] at h; have := i2 x h; omega
      · rw [y2] at h; omega
      · rw [y1] at h; cases h
    have hmp : m ∉ verts ps x := fun h => by have := (p4 m h).1; rw [hmo] at this; cases this
    have hto : to ∉ flatP ps := fun h => by
      have := (p4 to (List.mem_append.2 (.inl h))).2
      exact hne (by omega)
    refine ⟨fun y hy => ?_, ps ++ ((x, m) :: qs), p1.app (.even hne b2 hm hl q1) hto, p2.app (.cons hm k5 q2), ?_, ?_⟩
    · rcases List.mem_cons.1 hy with rfl | hy
      · exact ⟨by omega, Nat.le_refl _, b1, b3⟩
      · have := i1 y hy
        exact ⟨this.1, by omega, this.2.2⟩
    · have e : verts (ps ++ ((x, m) :: qs)) to = verts ps x ++ (m :: verts qs to) := by simp [verts, flatP_app, flatP_cons]
      rw [e]
      refine List.nodup_append.2 ⟨p3, List.nodup_cons.2 ⟨hmin, q3⟩, ?_⟩
      intro y hy z hz e
      subst e
      rcases List.mem_cons.1 hz with rfl | hz
      · exact hmp hy
      · exact hpq y hy hz
    · have e : verts (ps ++ ((x, m) :: qs)) to = verts ps x ++ (m :: verts qs to) := by simp [verts, flatP_app, flatP_cons]
      rw [e]
      intro y hy
      rcases List.mem_append.1 hy with hy | hy
      · exact .inl ⟨(p4 y hy).1, .inl (by rw [(p4 y hy).2]; simp)⟩
      · rcases List.mem_cons.1 hy with rfl | hy
        · exact .inr ⟨hmo, x, by simp, hm⟩
        · rcases q4 y hy with ⟨h1, h2 | h2⟩ | ⟨h1, y', h2, h3⟩
          · exact .inl ⟨h1, .inl (List.mem_cons_of_mem _ h2)⟩
          · exact .inl ⟨h1, .inr h2⟩
          · exact .inr ⟨h1, y', List.mem_cons_of_mem _ h2, h3⟩
end Go.Ga.Gl
