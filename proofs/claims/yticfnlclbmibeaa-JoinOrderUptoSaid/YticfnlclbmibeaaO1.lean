/- Sets hang not on the order in which pairs are united. No condition. -/
import Derived.Test.YticfnlclbmibeaaRows
import Derived.Test.YticfnlclbmibeaaGa5
set_option linter.all false
/- The functions' code, as it is gone through. -/
namespace Go.Proofs.Yticfnlclbmibeaa
open Go Go.Ga

theorem mix : Try.prog.follows .mixedOrders = true := by kernel_rfl

def c_garlandlaw06_JoinPlays_r0 : List GOp := [(none, (.asg 8 (.c (.bool false)) true))]

def c_garlandlaw06_JoinPlays_r1 : List GOp := [(none, (.r (.mov 14 (.t 0)))),
  (none, (.r (.conv 15 .u64 (.t 14)))),
  (none, (.r (.bin 16 .rem 0 (.t 15) (.c (.int .u64 60))))),
  (none, (.r (.conv 17 .i64 (.t 16)))),
  (none, (.asg 0 (.t 17) true))]

def c_garlandlaw06_JoinPlays_r2 : List GOp := [(none, (.r (.mov 18 (.t 0)))),
  (none, (.call 19 (.f 7) [((.t 18), false)])),
  (none, (.r (.mov 20 (.t 0)))),
  (none, (.call 21 (.f 8) [((.t 20), false)])),
  (none, (.asg 9 (.t 19) true)),
  (none, (.asg 10 (.t 21) true))]

def c_garlandlaw06_JoinPlays_r3 : List GOp := [(none, (.call 22 (.f 9) [])),
  (none, (.r (.notb 23 (.t 22)))),
  (none, (.r (.mov 24 (.t 23)))), ((some (24, false)), (.r (.mov 25 (.t 9)))), ((some (24, false)), (.r (.bin 26 .eql 2 (.t 25) (.c (.pointer none))))),
  (none, (.r (.pick 27 (.t 24) (.c (.bool true)) (.t 26))))]

def c_garlandlaw06_JoinPlays_r4 : List GOp := [(none, (.asg 8 (.c (.bool false)) true))]

def c_garlandlaw06_JoinPlays_r5 : List GOp := [(none, (.asg 11 (.c (.int .i64 0)) true))]

def c_garlandlaw06_JoinPlays_r6 : List GOp := [(none, (.r (.mov 28 (.t 11)))),
  (none, (.r (.mov 29 (.t 1)))),
  (none, (.r (.len 30 (.t 29)))),
  (none, (.r (.bin 31 .lss 0 (.t 28) (.t 30)))),
  (none, (.r (.mov 32 (.t 31)))), ((some (32, true)), (.r (.mov 33 (.t 11)))), ((some (32, true)), (.r (.bin 34 .lss 0 (.t 33) (.c (.int .i64 60))))),
  (none, (.r (.pick 35 (.t 32) (.t 34) (.c (.bool false)))))]

def c_garlandlaw06_JoinPlays_r7 : List GOp := [(none, (.r (.mov 38 (.t 1)))),
  (none, (.r (.mov 39 (.t 11)))),
  (none, (.r (.idxA 40 (.t 38) (.t 39) 3))),
  (none, (.r (.ld 41 (.t 40) 3 true))),
  (none, (.alloc 12 [(.int .i64 0), (.int .i64 0), (.int .i64 0)])),
  (none, (.st (.t 12) (.t 41) 3))]

def c_garlandlaw06_JoinPlays_r8 : Tree := 
  (.take [7, 15, 16, 17, 18, 19, 20, 21, 22, 23, 24] (none, (.r (.mov 42 (.t 9)))) 
  (.take [2, 7, 15, 16, 17, 18, 19, 20, 21, 22, 23, 24] (none, (.r (.fldA 43 (.t 12) 0))) 
  (.take [7, 15, 16, 17, 18, 19, 20, 21, 22, 23, 24] (none, (.r (.ld 44 (.t 43) 1 false))) 
  (.take [4, 7, 15, 16, 17, 18, 19, 20, 21, 22, 23, 24] (none, (.r (.fldA 45 (.t 12) 1))) 
  (.take [7, 15, 16, 17, 18, 19, 20, 21, 22, 23, 24] (none, (.r (.ld 46 (.t 45) 1 false))) 
  (.take [6, 7, 15, 16, 17, 18, 19, 20, 21, 22, 23, 24] (none, (.r (.fldA 47 (.t 12) 2))) 
  (.take [7, 15, 16, 17, 18, 19, 20, 21, 22, 23, 24] (none, (.r (.ld 48 (.t 47) 1 false))) 
  (.take [15, 16, 17, 18, 19, 20, 21, 22, 23, 24] (none, (.r (.mov 50 (.t 10)))) 
  (.take [10, 15, 16, 17, 18, 19, 20, 21, 22, 23, 24] (none, (.r (.fldA 51 (.t 12) 0))) 
  (.take [15, 16, 17, 18, 19, 20, 21, 22, 23, 24] (none, (.r (.ld 52 (.t 51) 1 false))) 
  (.take [12, 15, 16, 17, 18, 19, 20, 21, 22, 23, 24] (none, (.r (.fldA 53 (.t 12) 1))) 
  (.take [15, 16, 17, 18, 19, 20, 21, 22, 23, 24] (none, (.r (.ld 54 (.t 53) 1 false))) 
  (.take [14, 15, 16, 17, 18, 19, 20, 21, 22, 23, 24] (none, (.r (.fldA 55 (.t 12) 2))) 
  (.take [15, 16, 17, 18, 19, 20, 21, 22, 23, 24] (none, (.r (.ld 56 (.t 55) 1 false))) 
  (.one 7 (none, (.call 49 (.f 10) [((.t 42), false), ((.t 44), false), ((.t 46), false), ((.t 48), false)])) 
  (.one 15 (none, (.call 57 (.f 11) [((.t 50), false), ((.t 52), false), ((.t 54), false), ((.t 56), false)])) 
  (.take [17, 18, 19, 20, 21, 22, 23, 24] (none, (.r (.bin 58 .neq 1 (.t 49) (.t 57)))) 
  (.take [18, 19, 20, 21, 22, 23, 24] (none, (.r (.mov 59 (.t 58)))) 
  (.take [19, 21, 22, 23, 24] ((some (59, false)), (.r (.mov 60 (.t 9)))) 
  (.take [21, 22, 23, 24] ((some (59, false)), (.r (.mov 62 (.t 10)))) 
  (.one 19 ((some (59, false)), (.call 61 (.f 12) [((.t 60), false)])) 
  (.one 21 ((some (59, false)), (.call 63 (.f 13) [((.t 62), false)])) 
  (.take [23, 24] ((some (59, false)), (.r (.len 64 (.t 63)))) 
  (.take [24] ((some (59, false)), (.r (.bin 65 .neq 0 (.t 61) (.t 64)))) 
  (.take [] (none, (.r (.pick 66 (.t 59) (.c (.bool true)) (.t 65)))) .done)))))))))))))))))))))))))

def c_garlandlaw06_JoinPlays_r9 : List GOp := [(none, (.asg 8 (.c (.bool false)) true))]

def c_garlandlaw06_JoinPlays_r10 : List GOp := [(none, (.r (.mov 36 (.t 11)))),
  (none, (.r (.bin 37 .add 0 (.t 36) (.c (.int .i64 1))))),
  (none, (.asg 11 (.t 37) true))]

def c_garlandlaw06_JoinPlays_r11 : List GOp := [(none, (.asg 13 (.c (.int .i64 (-(0 + 1)))) true))]

def c_garlandlaw06_JoinPlays_r12 : List GOp := [(none, (.r (.mov 67 (.t 13)))),
  (none, (.r (.mov 68 (.t 0)))),
  (none, (.r (.bin 69 .leq 0 (.t 67) (.t 68))))]

def c_garlandlaw06_JoinPlays_r13 : List GOp := [(none, (.r (.mov 72 (.t 9)))),
  (none, (.r (.mov 73 (.t 13)))),
  (none, (.call 74 (.f 14) [((.t 72), false), ((.t 73), false)])),
  (none, (.r (.mov 75 (.t 10)))),
  (none, (.r (.mov 76 (.t 13)))),
  (none, (.call 77 (.f 15) [((.t 75), false), ((.t 76), false)])),
  (none, (.r (.bin 78 .neq 0 (.t 74) (.t 77)))),
  (none, (.r (.mov 79 (.t 78)))), ((some (79, false)), (.r (.mov 80 (.t 9)))), ((some (79, false)), (.r (.mov 81 (.t 13)))), ((some (79, false)), (.call 82 (.f 16) [((.t 80), false), ((.t 81), false)])), ((some (79, false)), (.r (.mov 83 (.t 10)))), ((some (79, false)), (.r (.mov 84 (.t 13)))), ((some (79, false)), (.call 85 (.f 17) [((.t 83), false), ((.t 84), false)])), ((some (79, false)), (.r (.bin 86 .neq 0 (.t 82) (.t 85)))),
  (none, (.r (.pick 87 (.t 79) (.c (.bool true)) (.t 86))))]

def c_garlandlaw06_JoinPlays_r14 : List GOp := [(none, (.asg 8 (.c (.bool false)) true))]

def c_garlandlaw06_JoinPlays_r15 : List GOp := [(none, (.r (.mov 70 (.t 13)))),
  (none, (.r (.bin 71 .add 0 (.t 70) (.c (.int .i64 1))))),
  (none, (.asg 13 (.t 71) true))]

def c_garlandlaw06_JoinPlays_r16 : List GOp := [(none, (.r (.mov 88 (.t 9)))),
  (none, (.call 89 (.f 19) [((.t 88), false)])),
  (none, (.r (.mov 90 (.t 10)))),
  (none, (.call 91 (.f 13) [((.t 90), false)])),
  (none, (.call 92 (.f 18) [((.t 89), false), ((.t 91), false)])),
  (none, (.r (.mov 93 (.t 92)))), ((some (93, true)), (.r (.mov 94 (.t 9)))), ((some (93, true)), (.r (.mov 95 (.t 2)))), ((some (93, true)), (.r (.mov 96 (.t 3)))), ((some (93, true)), (.call 97 (.f 20) [((.t 94), false), ((.t 95), false), ((.t 96), false)])), ((some (93, true)), (.r (.mov 98 (.t 10)))), ((some (93, true)), (.r (.mov 99 (.t 2)))), ((some (93, true)), (.r (.mov 100 (.t 3)))), ((some (93, true)), (.call 101 (.f 21) [((.t 98), false), ((.t 99), false), ((.t 100), false)])), ((some (93, true)), (.r (.bin 102 .eql 1 (.t 97) (.t 101)))),
  (none, (.r (.pick 103 (.t 93) (.t 102) (.c (.bool false))))),
  (none, (.r (.mov 104 (.t 103)))), ((some (104, true)), (.r (.mov 105 (.t 9)))), ((some (104, true)), (.r (.mov 106 (.t 2)))), ((some (104, true)), (.call 107 (.f 14) [((.t 105), false), ((.t 106), false)])), ((some (104, true)), (.r (.mov 108 (.t 10)))), ((some (104, true)), (.r (.mov 109 (.t 2)))), ((some (104, true)), (.call 110 (.f 15) [((.t 108), false), ((.t 109), false)])), ((some (104, true)), (.r (.bin 111 .eql 0 (.t 107) (.t 110)))),
  (none, (.r (.pick 112 (.t 104) (.t 111) (.c (.bool false))))),
  (none, (.asg 8 (.t 112) true))]

def c_garlandlaw06_JoinPlays : ACode :=
  (.seq
  (.reg [0, 1, 2, 3, 8, 9, 10, 11, 12, 13, 27, 35, 66, 69, 87] c_garlandlaw06_JoinPlays_r0 [0, 1, 2, 3, 8, 9, 10, 11, 12, 13, 27, 35, 66, 69, 87])
  (.seq
  (.reg [0, 1, 2, 3, 8, 9, 10, 11, 12, 13, 27, 35, 66, 69, 87] c_garlandlaw06_JoinPlays_r1 [0, 1, 2, 3, 8, 9, 10, 11, 12, 13, 27, 35, 66, 69, 87])
  (.seq
  (.reg [0, 1, 2, 3, 8, 9, 10, 11, 12, 13, 27, 35, 66, 69, 87] c_garlandlaw06_JoinPlays_r2 [0, 1, 2, 3, 8, 9, 10, 11, 12, 13, 27, 35, 66, 69, 87])
  (.seq
  (.seq
  (.reg [0, 1, 2, 3, 8, 9, 10, 11, 12, 13, 35, 66, 69, 87] c_garlandlaw06_JoinPlays_r3 [0, 1, 2, 3, 8, 9, 10, 11, 12, 13, 27, 35, 66, 69, 87])
  (.cond (.t 27) (.seq
  (.reg [0, 1, 2, 3, 8, 9, 10, 11, 12, 13, 27, 35, 66, 69, 87] c_garlandlaw06_JoinPlays_r4 [0, 1, 2, 3, 8, 9, 10, 11, 12, 13, 27, 35, 66, 69, 87])
  .ret) .skip))
  (.seq
  (.seq
  (.reg [0, 1, 2, 3, 8, 9, 10, 11, 12, 13, 27, 35, 66, 69, 87] c_garlandlaw06_JoinPlays_r5 [0, 1, 2, 3, 8, 9, 10, 11, 12, 13, 27, 35, 66, 69, 87])
  (.blk 0 (.loop (.seq
  (.seq
  (.reg [0, 1, 2, 3, 8, 9, 10, 11, 12, 13, 27, 66, 69, 87] c_garlandlaw06_JoinPlays_r6 [0, 1, 2, 3, 8, 9, 10, 11, 12, 13, 27, 35, 66, 69, 87])
  (.cond (.t 35) .skip (.exit 0)))
  (.seq
  (.blk 1 (.seq
  (.reg [0, 1, 2, 3, 8, 9, 10, 11, 13, 27, 35, 66, 69, 87] c_garlandlaw06_JoinPlays_r7 [0, 1, 2, 3, 8, 9, 10, 11, 12, 13, 27, 35, 66, 69, 87])
  (.seq
  (.draw [0, 1, 2, 3, 8, 9, 10, 11, 12, 13, 27, 35, 69, 87] c_garlandlaw06_JoinPlays_r8 [0, 1, 2, 3, 8, 9, 10, 11, 12, 13, 27, 35, 66, 69, 87])
  (.cond (.t 66) (.seq
  (.reg [0, 1, 2, 3, 8, 9, 10, 11, 12, 13, 27, 35, 66, 69, 87] c_garlandlaw06_JoinPlays_r9 [0, 1, 2, 3, 8, 9, 10, 11, 12, 13, 27, 35, 66, 69, 87])
  .ret) .skip))))
  (.reg [0, 1, 2, 3, 8, 9, 10, 11, 12, 13, 27, 35, 66, 69, 87] c_garlandlaw06_JoinPlays_r10 [0, 1, 2, 3, 8, 9, 10, 11, 12, 13, 27, 35, 66, 69, 87]))))))
  (.seq
  (.seq
  (.reg [0, 1, 2, 3, 8, 9, 10, 11, 12, 13, 27, 35, 66, 69, 87] c_garlandlaw06_JoinPlays_r11 [0, 1, 2, 3, 8, 9, 10, 11, 12, 13, 27, 35, 66, 69, 87])
  (.blk 2 (.loop (.seq
  (.seq
  (.reg [0, 1, 2, 3, 8, 9, 10, 11, 12, 13, 27, 35, 66, 87] c_garlandlaw06_JoinPlays_r12 [0, 1, 2, 3, 8, 9, 10, 11, 12, 13, 27, 35, 66, 69, 87])
  (.cond (.t 69) .skip (.exit 2)))
  (.seq
  (.blk 3 (.seq
  (.reg [0, 1, 2, 3, 8, 9, 10, 11, 12, 13, 27, 35, 66, 69] c_garlandlaw06_JoinPlays_r13 [0, 1, 2, 3, 8, 9, 10, 11, 12, 13, 27, 35, 66, 69, 87])
  (.cond (.t 87) (.seq
  (.reg [0, 1, 2, 3, 8, 9, 10, 11, 12, 13, 27, 35, 66, 69, 87] c_garlandlaw06_JoinPlays_r14 [0, 1, 2, 3, 8, 9, 10, 11, 12, 13, 27, 35, 66, 69, 87])
  .ret) .skip)))
  (.reg [0, 1, 2, 3, 8, 9, 10, 11, 12, 13, 27, 35, 66, 69, 87] c_garlandlaw06_JoinPlays_r15 [0, 1, 2, 3, 8, 9, 10, 11, 12, 13, 27, 35, 66, 69, 87]))))))
  (.seq
  (.reg [0, 1, 2, 3, 8, 9, 10, 11, 12, 13, 27, 35, 66, 69, 87] c_garlandlaw06_JoinPlays_r16 [0, 1, 2, 3, 8, 9, 10, 11, 12, 13, 27, 35, 66, 69, 87])
  .ret)))))))
def v_garlandlaw06_JoinPlays : List Nat := [0, 1, 2, 3, 8, 9, 10, 11, 12, 13, 27, 35, 66, 69, 87]
abbrev n_garlandlaw06_JoinPlays : Nat := 3
theorem s_garlandlaw06_JoinPlays : stripF Try.prog [8] v_garlandlaw06_JoinPlays Try.f3 = some (c_garlandlaw06_JoinPlays, [(.tmp 8)]) := by kernel_rfl
theorem go_garlandlaw06_JoinPlays {L : List (List Nat)} {args : List AVal} {h : Heap} {Q : AVal → Heap → Prop} (hl : args.length = 4) (H : Wlk Try.prog [8] Try.f3.ntmps v_garlandlaw06_JoinPlays L c_garlandlaw06_JoinPlays (ends L [(.tmp 8)] Q) (entry v_garlandlaw06_JoinPlays args h)) : ACalls Try.prog L n_garlandlaw06_JoinPlays args h Q :=
  acalls_of_strip mix Try.func3 s_garlandlaw06_JoinPlays (by rw [hl]; exact Nat.le_of_ble_eq_true rfl) H


def c_garlandlaw06_JoinAll_r0 : List GOp := [(none, (.asg 6 (.c (.bool false)) true))]

def c_garlandlaw06_JoinAll_r1 : List GOp := [(none, (.r (.mov 13 (.t 0)))),
  (none, (.r (.conv 14 .u64 (.t 13)))),
  (none, (.r (.bin 15 .rem 0 (.t 14) (.c (.int .u64 40))))),
  (none, (.r (.conv 16 .i64 (.t 15)))),
  (none, (.r (.bin 17 .add 0 (.c (.int .i64 2)) (.t 16)))),
  (none, (.asg 0 (.t 17) true))]

def c_garlandlaw06_JoinAll_r2 : List GOp := [(none, (.r (.mov 18 (.t 2)))),
  (none, (.r (.conv 19 .u64 (.t 18)))),
  (none, (.r (.mov 20 (.t 0)))),
  (none, (.r (.bin 21 .sub 0 (.t 20) (.c (.int .i64 1))))),
  (none, (.r (.conv 22 .u64 (.t 21)))),
  (none, (.r (.bin 23 .rem 0 (.t 19) (.t 22)))),
  (none, (.r (.conv 24 .i64 (.t 23)))),
  (none, (.asg 2 (.t 24) true))]

def c_garlandlaw06_JoinAll_r3 : List GOp := [(none, (.asg 7 (.c (.slice none 0 0)) true))]

def c_garlandlaw06_JoinAll_r4 : List GOp := [(none, (.asg 8 (.c (.int .i64 0)) true))]

def c_garlandlaw06_JoinAll_r5 : List GOp := [(none, (.r (.mov 25 (.t 8)))),
  (none, (.r (.mov 26 (.t 0)))),
  (none, (.r (.bin 27 .sub 0 (.t 26) (.c (.int .i64 1))))),
  (none, (.r (.bin 28 .lss 0 (.t 25) (.t 27))))]

def c_garlandlaw06_JoinAll_r6 : List GOp := [(none, (.r (.mov 31 (.t 7)))),
  (none, (.r (.mov 32 (.t 8)))),
  (none, (.blds 33 1 1 [((0, 1), ((.t 32), true))] [(.int .i64 0)])),
  (none, (.app 34 (.t 31) (.t 33) 1 8)),
  (none, (.asg 7 (.t 34) true))]

def c_garlandlaw06_JoinAll_r7 : List GOp := [(none, (.r (.mov 29 (.t 8)))),
  (none, (.r (.bin 30 .add 0 (.t 29) (.c (.int .i64 1))))),
  (none, (.asg 8 (.t 30) true))]

def c_garlandlaw06_JoinAll_r8 : List GOp := [(none, (.asg 9 (.c (.int .i64 0)) true))]

def c_garlandlaw06_JoinAll_r9 : List GOp := [(none, (.r (.mov 35 (.t 9)))),
  (none, (.r (.mov 36 (.t 1)))),
  (none, (.r (.len 37 (.t 36)))),
  (none, (.r (.bin 38 .lss 0 (.t 35) (.t 37)))),
  (none, (.r (.mov 39 (.t 38)))), ((some (39, true)), (.r (.mov 40 (.t 9)))), ((some (39, true)), (.r (.bin 41 .lss 0 (.t 40) (.c (.int .i64 60))))),
  (none, (.r (.pick 42 (.t 39) (.t 41) (.c (.bool false)))))]

def c_garlandlaw06_JoinAll_r10 : List GOp := [(none, (.r (.mov 45 (.t 1)))),
  (none, (.r (.mov 46 (.t 9)))),
  (none, (.r (.idxA 47 (.t 45) (.t 46) 1))),
  (none, (.r (.ld 48 (.t 47) 1 false))),
  (none, (.r (.conv 49 .u64 (.t 48)))),
  (none, (.r (.mov 50 (.t 7)))),
  (none, (.r (.len 51 (.t 50)))),
  (none, (.r (.conv 52 .u64 (.t 51)))),
  (none, (.r (.bin 53 .rem 0 (.t 49) (.t 52)))),
  (none, (.r (.conv 54 .i64 (.t 53)))),
  (none, (.asg 10 (.t 54) true))]

def c_garlandlaw06_JoinAll_r11 : Tree := 
  (.take [18, 19, 20, 21] (none, (.r (.mov 55 (.t 7)))) 
  (.take [4, 18, 19, 20, 21] (none, (.r (.mov 56 (.t 9)))) 
  (.take [3, 4, 18, 19, 20, 21] (none, (.r (.mov 57 (.t 7)))) 
  (.take [4, 18, 19, 20, 21] (none, (.r (.len 58 (.t 57)))) 
  (.take [18, 19, 20, 21] (none, (.r (.bin 59 .rem 0 (.t 56) (.t 58)))) 
  (.take [20, 21] (none, (.r (.mov 60 (.t 7)))) 
  (.take [20, 21] (none, (.r (.mov 61 (.t 10)))) 
  (.take [9, 10, 18, 19, 20, 21] (none, (.r (.mov 62 (.t 7)))) 
  (.take [9, 10, 18, 19, 20, 21] (none, (.r (.mov 63 (.t 10)))) 
  (.take [10, 18, 19, 20, 21] (none, (.r (.idxA 64 (.t 62) (.t 63) 1))) 
  (.take [18, 19, 20, 21] (none, (.r (.ld 65 (.t 64) 1 false))) 
  (.take [16, 17, 18, 19, 20, 21] (none, (.r (.mov 66 (.t 7)))) 
  (.take [15, 16, 17, 18, 19, 20, 21] (none, (.r (.mov 67 (.t 9)))) 
  (.take [14, 15, 16, 17, 18, 19, 20, 21] (none, (.r (.mov 68 (.t 7)))) 
  (.take [15, 16, 17, 18, 19, 20, 21] (none, (.r (.len 69 (.t 68)))) 
  (.take [16, 17, 18, 19, 20, 21] (none, (.r (.bin 70 .rem 0 (.t 67) (.t 69)))) 
  (.take [17, 18, 19, 20, 21] (none, (.r (.idxA 71 (.t 66) (.t 70) 1))) 
  (.take [18, 19, 20, 21] (none, (.r (.ld 72 (.t 71) 1 false))) 
  (.take [19, 20, 21] (none, (.r (.idxA 73 (.t 55) (.t 59) 1))) 
  (.one 19 (none, (.st (.t 73) (.t 65) 1)) 
  (.take [21] (none, (.r (.idxA 74 (.t 60) (.t 61) 1))) 
  (.one 21 (none, (.st (.t 74) (.t 72) 1)) .done))))))))))))))))))))))

def c_garlandlaw06_JoinAll_r12 : List GOp := [(none, (.r (.mov 43 (.t 9)))),
  (none, (.r (.bin 44 .add 0 (.t 43) (.c (.int .i64 1))))),
  (none, (.asg 9 (.t 44) true))]

def c_garlandlaw06_JoinAll_r13 : List GOp := [(none, (.r (.mov 75 (.t 0)))),
  (none, (.call 76 (.f 7) [((.t 75), false)])),
  (none, (.asg 11 (.t 76) true))]

def c_garlandlaw06_JoinAll_r14 : List GOp := [(none, (.asg 12 (.c (.int .i64 0)) true))]

def c_garlandlaw06_JoinAll_r15 : List GOp := [(none, (.r (.mov 77 (.t 12)))),
  (none, (.r (.mov 78 (.t 7)))),
  (none, (.r (.len 79 (.t 78)))),
  (none, (.r (.bin 80 .lss 0 (.t 77) (.t 79))))]

def c_garlandlaw06_JoinAll_r16 : Tree := 
  (.take [2, 3, 5, 6, 7, 8, 9, 10, 11, 12, 13, 14, 15, 16, 17, 18, 19, 20, 21, 22, 23] (none, (.r (.mov 83 (.t 7)))) 
  (.take [2, 3, 5, 6, 7, 8, 9, 10, 11, 12, 13, 14, 15, 16, 17, 18, 19, 20, 21, 22, 23] (none, (.r (.mov 84 (.t 12)))) 
  (.take [3, 5, 6, 7, 8, 9, 10, 11, 12, 13, 14, 15, 16, 17, 18, 19, 20, 21, 22, 23] (none, (.r (.idxA 85 (.t 83) (.t 84) 1))) 
  (.take [5, 6, 7, 8, 9, 10, 11, 12, 13, 14, 15, 16, 17, 18, 19, 20, 21, 22, 23] (none, (.r (.ld 86 (.t 85) 1 false))) 
  (.take [5, 6, 7, 8, 9, 10, 11, 12, 13, 14, 15, 16, 17, 18, 19, 20, 21, 22, 23] (none, (.r (.mov 87 (.t 2)))) 
  (.take [6, 7, 8, 9, 10, 11, 12, 13, 14, 15, 16, 17, 18, 19, 20, 21, 22, 23] (none, (.r (.bin 88 .neq 0 (.t 86) (.t 87)))) 
  (.take [7, 8, 9, 10, 11, 12, 13, 14, 15, 16, 17, 18, 19, 20, 21, 22, 23] (none, (.r (.mov 89 (.t 88)))) 
  (.take [21, 22, 23] ((some (89, true)), (.r (.mov 90 (.t 11)))) 
  (.take [10, 11, 12, 21, 22, 23] ((some (89, true)), (.r (.mov 91 (.t 7)))) 
  (.take [10, 11, 12, 21, 22, 23] ((some (89, true)), (.r (.mov 92 (.t 12)))) 
  (.take [11, 12, 21, 22, 23] ((some (89, true)), (.r (.idxA 93 (.t 91) (.t 92) 1))) 
  (.take [12, 21, 22, 23] ((some (89, true)), (.r (.ld 94 (.t 93) 1 false))) 
  (.take [21, 22, 23] ((some (89, true)), (.r (.bin 95 .add 0 (.t 94) (.c (.int .i64 1))))) 
  (.take [15, 16, 21, 22, 23] ((some (89, true)), (.r (.mov 96 (.t 7)))) 
  (.take [15, 16, 21, 22, 23] ((some (89, true)), (.r (.mov 97 (.t 12)))) 
  (.take [16, 21, 22, 23] ((some (89, true)), (.r (.idxA 98 (.t 96) (.t 97) 1))) 
  (.take [21, 22, 23] ((some (89, true)), (.r (.ld 99 (.t 98) 1 false))) 
  (.take [19, 20, 21, 22, 23] ((some (89, true)), (.r (.mov 100 (.t 7)))) 
  (.take [19, 20, 21, 22, 23] ((some (89, true)), (.r (.mov 101 (.t 12)))) 
  (.take [20, 21, 22, 23] ((some (89, true)), (.r (.idxA 102 (.t 100) (.t 101) 1))) 
  (.take [21, 22, 23] ((some (89, true)), (.r (.ld 103 (.t 102) 1 false))) 
  (.one 21 ((some (89, true)), (.call 104 (.f 10) [((.t 90), false), ((.t 95), false), ((.t 99), false), ((.t 103), false)])) 
  (.take [23] ((some (89, true)), (.r (.notb 105 (.t 104)))) 
  (.take [] (none, (.r (.pick 106 (.t 89) (.t 105) (.c (.bool false))))) .done))))))))))))))))))))))))

def c_garlandlaw06_JoinAll_r17 : List GOp := [(none, (.asg 6 (.c (.bool false)) true))]

def c_garlandlaw06_JoinAll_r18 : List GOp := [(none, (.r (.mov 81 (.t 12)))),
  (none, (.r (.bin 82 .add 0 (.t 81) (.c (.int .i64 1))))),
  (none, (.asg 12 (.t 82) true))]

def c_garlandlaw06_JoinAll_r19 : List GOp := [(none, (.call 107 (.f 9) [])),
  (none, (.r (.notb 108 (.t 107)))),
  (none, (.r (.mov 109 (.t 108)))), ((some (109, false)), (.r (.mov 110 (.t 11)))), ((some (109, false)), (.r (.bin 111 .eql 2 (.t 110) (.c (.pointer none))))),
  (none, (.r (.pick 112 (.t 109) (.c (.bool true)) (.t 111)))),
  (none, (.r (.mov 113 (.t 112)))), ((some (113, false)), (.r (.mov 114 (.t 11)))), ((some (113, false)), (.call 115 (.f 12) [((.t 114), false)])), ((some (113, false)), (.r (.bin 116 .neq 0 (.t 115) (.c (.int .i64 2))))),
  (none, (.r (.pick 117 (.t 113) (.c (.bool true)) (.t 116)))),
  (none, (.r (.mov 118 (.t 117)))), ((some (118, false)), (.r (.mov 119 (.t 11)))), ((some (118, false)), (.r (.mov 120 (.t 2)))), ((some (118, false)), (.r (.mov 121 (.t 2)))), ((some (118, false)), (.r (.bin 122 .add 0 (.t 121) (.c (.int .i64 1))))), ((some (118, false)), (.call 123 (.f 20) [((.t 119), false), ((.t 120), false), ((.t 122), false)])),
  (none, (.r (.pick 124 (.t 118) (.c (.bool true)) (.t 123)))),
  (none, (.r (.mov 125 (.t 124)))), ((some (125, false)), (.r (.mov 126 (.t 11)))), ((some (125, false)), (.r (.mov 127 (.t 0)))), ((some (125, false)), (.r (.bin 128 .sub 0 (.t 127) (.c (.int .i64 1))))), ((some (125, false)), (.call 129 (.f 14) [((.t 126), false), ((.t 128), false)])), ((some (125, false)), (.r (.mov 130 (.t 2)))), ((some (125, false)), (.r (.bin 131 .add 0 (.t 130) (.c (.int .i64 1))))), ((some (125, false)), (.r (.bin 132 .neq 0 (.t 129) (.t 131)))),
  (none, (.r (.pick 133 (.t 125) (.c (.bool true)) (.t 132)))),
  (none, (.r (.mov 134 (.t 133)))), ((some (134, false)), (.r (.mov 135 (.t 11)))), ((some (134, false)), (.call 136 (.f 14) [((.t 135), false), ((.c (.int .i64 0)), false)])), ((some (134, false)), (.r (.bin 137 .neq 0 (.t 136) (.c (.int .i64 0))))),
  (none, (.r (.pick 138 (.t 134) (.c (.bool true)) (.t 137))))]

def c_garlandlaw06_JoinAll_r20 : List GOp := [(none, (.asg 6 (.c (.bool false)) true))]

def c_garlandlaw06_JoinAll_r21 : List GOp := [(none, (.r (.mov 139 (.t 11)))),
  (none, (.r (.mov 140 (.t 0)))),
  (none, (.r (.bin 141 .sub 0 (.t 140) (.c (.int .i64 1))))),
  (none, (.r (.mov 142 (.t 0)))),
  (none, (.r (.bin 143 .sub 0 (.t 142) (.c (.int .i64 1))))),
  (none, (.call 144 (.f 10) [((.t 139), false), ((.c (.int .i64 0)), false), ((.t 141), false), ((.t 143), false)])),
  (none, (.r (.mov 145 (.t 144)))), ((some (145, true)), (.r (.mov 146 (.t 11)))), ((some (145, true)), (.call 147 (.f 12) [((.t 146), false)])), ((some (145, true)), (.r (.bin 148 .eql 0 (.t 147) (.c (.int .i64 1))))),
  (none, (.r (.pick 149 (.t 145) (.t 148) (.c (.bool false))))),
  (none, (.r (.mov 150 (.t 149)))), ((some (150, true)), (.r (.mov 151 (.t 11)))), ((some (150, true)), (.call 152 (.f 16) [((.t 151), false), ((.c (.int .i64 0)), false)])), ((some (150, true)), (.r (.mov 153 (.t 0)))), ((some (150, true)), (.r (.bin 154 .sub 0 (.t 153) (.c (.int .i64 1))))), ((some (150, true)), (.r (.bin 155 .eql 0 (.t 152) (.t 154)))),
  (none, (.r (.pick 156 (.t 150) (.t 155) (.c (.bool false))))),
  (none, (.r (.mov 157 (.t 156)))), ((some (157, true)), (.r (.mov 158 (.t 11)))), ((some (157, true)), (.r (.mov 159 (.t 0)))), ((some (157, true)), (.r (.bin 160 .sub 0 (.t 159) (.c (.int .i64 1))))), ((some (157, true)), (.call 161 (.f 10) [((.t 158), false), ((.c (.int .i64 0)), false), ((.t 160), false), ((.c (.int .i64 0)), false)])), ((some (157, true)), (.r (.notb 162 (.t 161)))),
  (none, (.r (.pick 163 (.t 157) (.t 162) (.c (.bool false))))),
  (none, (.r (.mov 164 (.t 163)))), ((some (164, true)), (.r (.mov 165 (.t 11)))), ((some (164, true)), (.call 166 (.f 19) [((.t 165), false)])), ((some (164, true)), (.r (.len 167 (.t 166)))), ((some (164, true)), (.r (.bin 168 .eql 0 (.t 167) (.c (.int .i64 1))))),
  (none, (.r (.pick 169 (.t 164) (.t 168) (.c (.bool false))))),
  (none, (.asg 6 (.t 169) true))]

def c_garlandlaw06_JoinAll : ACode :=
  (.seq
  (.reg [0, 1, 2, 6, 7, 8, 9, 10, 11, 12, 28, 42, 80, 106, 138] c_garlandlaw06_JoinAll_r0 [0, 1, 2, 6, 7, 8, 9, 10, 11, 12, 28, 42, 80, 106, 138])
  (.seq
  (.reg [0, 1, 2, 6, 7, 8, 9, 10, 11, 12, 28, 42, 80, 106, 138] c_garlandlaw06_JoinAll_r1 [0, 1, 2, 6, 7, 8, 9, 10, 11, 12, 28, 42, 80, 106, 138])
  (.seq
  (.reg [0, 1, 2, 6, 7, 8, 9, 10, 11, 12, 28, 42, 80, 106, 138] c_garlandlaw06_JoinAll_r2 [0, 1, 2, 6, 7, 8, 9, 10, 11, 12, 28, 42, 80, 106, 138])
  (.seq
  (.reg [0, 1, 2, 6, 7, 8, 9, 10, 11, 12, 28, 42, 80, 106, 138] c_garlandlaw06_JoinAll_r3 [0, 1, 2, 6, 7, 8, 9, 10, 11, 12, 28, 42, 80, 106, 138])
  (.seq
  (.seq
  (.reg [0, 1, 2, 6, 7, 8, 9, 10, 11, 12, 28, 42, 80, 106, 138] c_garlandlaw06_JoinAll_r4 [0, 1, 2, 6, 7, 8, 9, 10, 11, 12, 28, 42, 80, 106, 138])
  (.blk 0 (.loop (.seq
  (.seq
  (.reg [0, 1, 2, 6, 7, 8, 9, 10, 11, 12, 42, 80, 106, 138] c_garlandlaw06_JoinAll_r5 [0, 1, 2, 6, 7, 8, 9, 10, 11, 12, 28, 42, 80, 106, 138])
  (.cond (.t 28) .skip (.exit 0)))
  (.seq
  (.blk 1 (.reg [0, 1, 2, 6, 7, 8, 9, 10, 11, 12, 28, 42, 80, 106, 138] c_garlandlaw06_JoinAll_r6 [0, 1, 2, 6, 7, 8, 9, 10, 11, 12, 28, 42, 80, 106, 138]))
  (.reg [0, 1, 2, 6, 7, 8, 9, 10, 11, 12, 28, 42, 80, 106, 138] c_garlandlaw06_JoinAll_r7 [0, 1, 2, 6, 7, 8, 9, 10, 11, 12, 28, 42, 80, 106, 138]))))))
  (.seq
  (.seq
  (.reg [0, 1, 2, 6, 7, 8, 9, 10, 11, 12, 28, 42, 80, 106, 138] c_garlandlaw06_JoinAll_r8 [0, 1, 2, 6, 7, 8, 9, 10, 11, 12, 28, 42, 80, 106, 138])
  (.blk 2 (.loop (.seq
  (.seq
  (.reg [0, 1, 2, 6, 7, 8, 9, 10, 11, 12, 28, 80, 106, 138] c_garlandlaw06_JoinAll_r9 [0, 1, 2, 6, 7, 8, 9, 10, 11, 12, 28, 42, 80, 106, 138])
  (.cond (.t 42) .skip (.exit 2)))
  (.seq
  (.blk 3 (.seq
  (.reg [0, 1, 2, 6, 7, 8, 9, 10, 11, 12, 28, 42, 80, 106, 138] c_garlandlaw06_JoinAll_r10 [0, 1, 2, 6, 7, 8, 9, 10, 11, 12, 28, 42, 80, 106, 138])
  (.draw [0, 1, 2, 6, 7, 8, 9, 10, 11, 12, 28, 42, 80, 106, 138] c_garlandlaw06_JoinAll_r11 [0, 1, 2, 6, 7, 8, 9, 10, 11, 12, 28, 42, 80, 106, 138])))
  (.reg [0, 1, 2, 6, 7, 8, 9, 10, 11, 12, 28, 42, 80, 106, 138] c_garlandlaw06_JoinAll_r12 [0, 1, 2, 6, 7, 8, 9, 10, 11, 12, 28, 42, 80, 106, 138]))))))
  (.seq
  (.reg [0, 1, 2, 6, 7, 8, 9, 10, 11, 12, 28, 42, 80, 106, 138] c_garlandlaw06_JoinAll_r13 [0, 1, 2, 6, 7, 8, 9, 10, 11, 12, 28, 42, 80, 106, 138])
  (.seq
  (.seq
  (.reg [0, 1, 2, 6, 7, 8, 9, 10, 11, 12, 28, 42, 80, 106, 138] c_garlandlaw06_JoinAll_r14 [0, 1, 2, 6, 7, 8, 9, 10, 11, 12, 28, 42, 80, 106, 138])
  (.blk 4 (.loop (.seq
  (.seq
  (.reg [0, 1, 2, 6, 7, 8, 9, 10, 11, 12, 28, 42, 106, 138] c_garlandlaw06_JoinAll_r15 [0, 1, 2, 6, 7, 8, 9, 10, 11, 12, 28, 42, 80, 106, 138])
  (.cond (.t 80) .skip (.exit 4)))
  (.seq
  (.blk 5 (.seq
  (.draw [0, 1, 2, 6, 7, 8, 9, 10, 11, 12, 28, 42, 80, 138] c_garlandlaw06_JoinAll_r16 [0, 1, 2, 6, 7, 8, 9, 10, 11, 12, 28, 42, 80, 106, 138])
  (.cond (.t 106) (.seq
  (.reg [0, 1, 2, 6, 7, 8, 9, 10, 11, 12, 28, 42, 80, 106, 138] c_garlandlaw06_JoinAll_r17 [0, 1, 2, 6, 7, 8, 9, 10, 11, 12, 28, 42, 80, 106, 138])
  .ret) .skip)))
  (.reg [0, 1, 2, 6, 7, 8, 9, 10, 11, 12, 28, 42, 80, 106, 138] c_garlandlaw06_JoinAll_r18 [0, 1, 2, 6, 7, 8, 9, 10, 11, 12, 28, 42, 80, 106, 138]))))))
  (.seq
  (.seq
  (.reg [0, 1, 2, 6, 7, 8, 9, 10, 11, 12, 28, 42, 80, 106] c_garlandlaw06_JoinAll_r19 [0, 1, 2, 6, 7, 8, 9, 10, 11, 12, 28, 42, 80, 106, 138])
  (.cond (.t 138) (.seq
  (.reg [0, 1, 2, 6, 7, 8, 9, 10, 11, 12, 28, 42, 80, 106, 138] c_garlandlaw06_JoinAll_r20 [0, 1, 2, 6, 7, 8, 9, 10, 11, 12, 28, 42, 80, 106, 138])
  .ret) .skip))
  (.seq
  (.reg [0, 1, 2, 6, 7, 8, 9, 10, 11, 12, 28, 42, 80, 106, 138] c_garlandlaw06_JoinAll_r21 [0, 1, 2, 6, 7, 8, 9, 10, 11, 12, 28, 42, 80, 106, 138])
  .ret))))))))))
def v_garlandlaw06_JoinAll : List Nat := [0, 1, 2, 6, 7, 8, 9, 10, 11, 12, 28, 42, 80, 106, 138]
abbrev n_garlandlaw06_JoinAll : Nat := 4
theorem s_garlandlaw06_JoinAll : stripF Try.prog [6] v_garlandlaw06_JoinAll Try.f4 = some (c_garlandlaw06_JoinAll, [(.tmp 6)]) := by kernel_rfl
theorem go_garlandlaw06_JoinAll {L : List (List Nat)} {args : List AVal} {h : Heap} {Q : AVal → Heap → Prop} (hl : args.length = 3) (H : Wlk Try.prog [6] Try.f4.ntmps v_garlandlaw06_JoinAll L c_garlandlaw06_JoinAll (ends L [(.tmp 6)] Q) (entry v_garlandlaw06_JoinAll args h)) : ACalls Try.prog L n_garlandlaw06_JoinAll args h Q :=
  acalls_of_strip mix Try.func4 s_garlandlaw06_JoinAll (by rw [hl]; exact Nat.le_of_ble_eq_true rfl) H


def c_garlandlaw06_JoinNil_r0 : List GOp := [(none, (.asg 4 (.c (.bool false)) true))]

def c_garlandlaw06_JoinNil_r1 : List GOp := [(none, (.asg 5 (.c (.pointer none)) true))]

def c_garlandlaw06_JoinNil_r2 : List GOp := [(none, (.call 7 (.f 7) [((.c (.int .i64 70005)), false)])),
  (none, (.asg 6 (.t 7) true))]

def c_garlandlaw06_JoinNil_r3 : List GOp := [(none, (.call 8 (.f 9) [])),
  (none, (.r (.mov 9 (.t 8)))), ((some (9, true)), (.r (.mov 10 (.t 5)))), ((some (9, true)), (.r (.mov 11 (.t 0)))), ((some (9, true)), (.r (.mov 12 (.t 1)))), ((some (9, true)), (.r (.mov 13 (.t 0)))), ((some (9, true)), (.call 14 (.f 10) [((.t 10), false), ((.t 11), false), ((.t 12), false), ((.t 13), false)])), ((some (9, true)), (.r (.notb 15 (.t 14)))),
  (none, (.r (.pick 16 (.t 9) (.t 15) (.c (.bool false))))),
  (none, (.r (.mov 17 (.t 16)))), ((some (17, true)), (.r (.mov 18 (.t 5)))), ((some (17, true)), (.r (.mov 19 (.t 0)))), ((some (17, true)), (.call 20 (.f 14) [((.t 18), false), ((.t 19), false)])), ((some (17, true)), (.r (.bin 21 .eql 0 (.t 20) (.c (.int .i64 (-(0 + 1))))))),
  (none, (.r (.pick 22 (.t 17) (.t 21) (.c (.bool false))))),
  (none, (.r (.mov 23 (.t 22)))), ((some (23, true)), (.r (.mov 24 (.t 5)))), ((some (23, true)), (.r (.mov 25 (.t 0)))), ((some (23, true)), (.call 26 (.f 16) [((.t 24), false), ((.t 25), false)])), ((some (23, true)), (.r (.bin 27 .eql 0 (.t 26) (.c (.int .i64 (-(0 + 1))))))),
  (none, (.r (.pick 28 (.t 23) (.t 27) (.c (.bool false))))),
  (none, (.r (.mov 29 (.t 28)))), ((some (29, true)), (.r (.mov 30 (.t 5)))), ((some (29, true)), (.r (.mov 31 (.t 0)))), ((some (29, true)), (.r (.mov 32 (.t 0)))), ((some (29, true)), (.call 33 (.f 20) [((.t 30), false), ((.t 31), false), ((.t 32), false)])), ((some (29, true)), (.r (.notb 34 (.t 33)))),
  (none, (.r (.pick 35 (.t 29) (.t 34) (.c (.bool false))))),
  (none, (.r (.mov 36 (.t 35)))), ((some (36, true)), (.r (.mov 37 (.t 5)))), ((some (36, true)), (.call 38 (.f 19) [((.t 37), false)])), ((some (36, true)), (.r (.len 39 (.t 38)))), ((some (36, true)), (.r (.bin 40 .eql 0 (.t 39) (.c (.int .i64 0))))),
  (none, (.r (.pick 41 (.t 36) (.t 40) (.c (.bool false))))),
  (none, (.r (.mov 42 (.t 41)))), ((some (42, true)), (.r (.mov 43 (.t 5)))), ((some (42, true)), (.call 44 (.f 12) [((.t 43), false)])), ((some (42, true)), (.r (.bin 45 .eql 0 (.t 44) (.c (.int .i64 0))))),
  (none, (.r (.pick 46 (.t 42) (.t 45) (.c (.bool false))))),
  (none, (.r (.mov 47 (.t 46)))), ((some (47, true)), (.r (.mov 48 (.t 6)))), ((some (47, true)), (.r (.bin 49 .neq 2 (.t 48) (.c (.pointer none))))),
  (none, (.r (.pick 50 (.t 47) (.t 49) (.c (.bool false))))),
  (none, (.r (.mov 51 (.t 50)))), ((some (51, true)), (.r (.mov 52 (.t 6)))), ((some (51, true)), (.call 53 (.f 12) [((.t 52), false)])), ((some (51, true)), (.r (.bin 54 .eql 0 (.t 53) (.c (.int .i64 70000))))),
  (none, (.r (.pick 55 (.t 51) (.t 54) (.c (.bool false))))),
  (none, (.r (.mov 56 (.t 55)))), ((some (56, true)), (.r (.mov 57 (.t 6)))), ((some (56, true)), (.call 58 (.f 14) [((.t 57), false), ((.c (.int .i64 70000)), false)])), ((some (56, true)), (.r (.bin 59 .eql 0 (.t 58) (.c (.int .i64 (-(0 + 1))))))),
  (none, (.r (.pick 60 (.t 56) (.t 59) (.c (.bool false))))),
  (none, (.r (.mov 61 (.t 60)))), ((some (61, true)), (.call 62 (.f 7) [((.c (.int .i64 (-(2 + 1)))), false)])), ((some (61, true)), (.call 63 (.f 12) [((.t 62), false)])), ((some (61, true)), (.r (.bin 64 .eql 0 (.t 63) (.c (.int .i64 0))))),
  (none, (.r (.pick 65 (.t 61) (.t 64) (.c (.bool false))))),
  (none, (.asg 4 (.t 65) true))]

def c_garlandlaw06_JoinNil : ACode :=
  (.seq
  (.reg [0, 1, 4, 5, 6] c_garlandlaw06_JoinNil_r0 [0, 1, 4, 5, 6])
  (.seq
  (.reg [0, 1, 4, 5, 6] c_garlandlaw06_JoinNil_r1 [0, 1, 4, 5, 6])
  (.seq
  (.reg [0, 1, 4, 5, 6] c_garlandlaw06_JoinNil_r2 [0, 1, 4, 5, 6])
  (.seq
  (.reg [0, 1, 4, 5, 6] c_garlandlaw06_JoinNil_r3 [0, 1, 4, 5, 6])
  .ret))))
def v_garlandlaw06_JoinNil : List Nat := [0, 1, 4, 5, 6]
abbrev n_garlandlaw06_JoinNil : Nat := 5
theorem s_garlandlaw06_JoinNil : stripF Try.prog [4] v_garlandlaw06_JoinNil Try.f5 = some (c_garlandlaw06_JoinNil, [(.tmp 4)]) := by kernel_rfl
theorem go_garlandlaw06_JoinNil {L : List (List Nat)} {args : List AVal} {h : Heap} {Q : AVal → Heap → Prop} (hl : args.length = 2) (H : Wlk Try.prog [4] Try.f5.ntmps v_garlandlaw06_JoinNil L c_garlandlaw06_JoinNil (ends L [(.tmp 4)] Q) (entry v_garlandlaw06_JoinNil args h)) : ACalls Try.prog L n_garlandlaw06_JoinNil args h Q :=
  acalls_of_strip mix Try.func5 s_garlandlaw06_JoinNil (by rw [hl]; exact Nat.le_of_ble_eq_true rfl) H


def c_garlandlaw06_JoinOrder_r0 : List GOp := [(none, (.asg 6 (.c (.bool false)) true))]

def c_garlandlaw06_JoinOrder_r1 : List GOp := [(none, (.r (.mov 16 (.t 0)))),
  (none, (.r (.conv 17 .u64 (.t 16)))),
  (none, (.r (.bin 18 .rem 0 (.t 17) (.c (.int .u64 40))))),
  (none, (.r (.conv 19 .i64 (.t 18)))),
  (none, (.r (.bin 20 .add 0 (.c (.int .i64 1)) (.t 19)))),
  (none, (.asg 0 (.t 20) true))]

def c_garlandlaw06_JoinOrder_r2 : List GOp := [(none, (.asg 7 (.c (.slice none 0 0)) true))]

def c_garlandlaw06_JoinOrder_r3 : List GOp := [(none, (.asg 8 (.c (.int .i64 0)) true))]

def c_garlandlaw06_JoinOrder_r4 : List GOp := [(none, (.r (.mov 21 (.t 8)))),
  (none, (.r (.mov 22 (.t 1)))),
  (none, (.r (.len 23 (.t 22)))),
  (none, (.r (.bin 24 .lss 0 (.t 21) (.t 23)))),
  (none, (.r (.mov 25 (.t 24)))), ((some (25, true)), (.r (.mov 26 (.t 8)))), ((some (25, true)), (.r (.bin 27 .lss 0 (.t 26) (.c (.int .i64 40))))),
  (none, (.r (.pick 28 (.t 25) (.t 27) (.c (.bool false)))))]

def c_garlandlaw06_JoinOrder_r5 : Tree := 
  (.take [33, 34] (none, (.r (.mov 31 (.t 7)))) 
  (.take [3, 4, 5, 6, 9, 10, 31, 32, 33, 34] (none, (.r (.mov 32 (.t 1)))) 
  (.take [3, 4, 5, 6, 9, 10, 31, 32, 33, 34] (none, (.r (.mov 33 (.t 8)))) 
  (.take [4, 5, 6, 9, 10, 31, 32, 33, 34] (none, (.r (.idxA 34 (.t 32) (.t 33) 3))) 
  (.take [5, 6, 9, 10, 31, 32, 33, 34] (none, (.r (.fldA 35 (.t 34) 0))) 
  (.take [6, 9, 10, 31, 32, 33, 34] (none, (.r (.ld 36 (.t 35) 1 false))) 
  (.take [9, 10, 31, 32, 33, 34] (none, (.r (.conv 37 .u64 (.t 36)))) 
  (.take [8, 9, 10, 31, 32, 33, 34] (none, (.r (.mov 38 (.t 0)))) 
  (.take [9, 10, 31, 32, 33, 34] (none, (.r (.conv 39 .u64 (.t 38)))) 
  (.take [10, 31, 32, 33, 34] (none, (.r (.bin 40 .rem 0 (.t 37) (.t 39)))) 
  (.take [31, 32, 33, 34] (none, (.r (.conv 41 .i64 (.t 40)))) 
  (.take [13, 14, 15, 16, 19, 20, 31, 32, 33, 34] (none, (.r (.mov 42 (.t 1)))) 
  (.take [13, 14, 15, 16, 19, 20, 31, 32, 33, 34] (none, (.r (.mov 43 (.t 8)))) 
  (.take [14, 15, 16, 19, 20, 31, 32, 33, 34] (none, (.r (.idxA 44 (.t 42) (.t 43) 3))) 
  (.take [15, 16, 19, 20, 31, 32, 33, 34] (none, (.r (.fldA 45 (.t 44) 1))) 
  (.take [16, 19, 20, 31, 32, 33, 34] (none, (.r (.ld 46 (.t 45) 1 false))) 
  (.take [19, 20, 31, 32, 33, 34] (none, (.r (.conv 47 .u64 (.t 46)))) 
  (.take [18, 19, 20, 31, 32, 33, 34] (none, (.r (.mov 48 (.t 0)))) 
  (.take [19, 20, 31, 32, 33, 34] (none, (.r (.conv 49 .u64 (.t 48)))) 
  (.take [20, 31, 32, 33, 34] (none, (.r (.bin 50 .rem 0 (.t 47) (.t 49)))) 
  (.take [31, 32, 33, 34] (none, (.r (.conv 51 .i64 (.t 50)))) 
  (.take [23, 24, 25, 26, 29, 30, 31, 32, 33, 34] (none, (.r (.mov 52 (.t 1)))) 
  (.take [23, 24, 25, 26, 29, 30, 31, 32, 33, 34] (none, (.r (.mov 53 (.t 8)))) 
  (.take [24, 25, 26, 29, 30, 31, 32, 33, 34] (none, (.r (.idxA 54 (.t 52) (.t 53) 3))) 
  (.take [25, 26, 29, 30, 31, 32, 33, 34] (none, (.r (.fldA 55 (.t 54) 2))) 
  (.take [26, 29, 30, 31, 32, 33, 34] (none, (.r (.ld 56 (.t 55) 1 false))) 
  (.take [29, 30, 31, 32, 33, 34] (none, (.r (.conv 57 .u64 (.t 56)))) 
  (.take [28, 29, 30, 31, 32, 33, 34] (none, (.r (.mov 58 (.t 0)))) 
  (.take [29, 30, 31, 32, 33, 34] (none, (.r (.conv 59 .u64 (.t 58)))) 
  (.take [30, 31, 32, 33, 34] (none, (.r (.bin 60 .rem 0 (.t 57) (.t 59)))) 
  (.take [31, 32, 33, 34] (none, (.r (.conv 61 .i64 (.t 60)))) 
  (.one 31 (none, (.bld 62 [((0, 1), ((.t 41), true)), ((1, 1), ((.t 51), true)), ((2, 1), ((.t 61), true))] [(.int .i64 0), (.int .i64 0), (.int .i64 0)])) 
  (.one 32 (none, (.blds 63 1 3 [((0, 3), ((.t 62), true))] [(.int .i64 0), (.int .i64 0), (.int .i64 0)])) 
  (.one 33 (none, (.app 64 (.t 31) (.t 63) 3 24)) 
  (.one 34 (none, (.asg 7 (.t 64) true)) .done)))))))))))))))))))))))))))))))))))

def c_garlandlaw06_JoinOrder_r6 : List GOp := [(none, (.r (.mov 29 (.t 8)))),
  (none, (.r (.bin 30 .add 0 (.t 29) (.c (.int .i64 1))))),
  (none, (.asg 8 (.t 30) true))]

def c_garlandlaw06_JoinOrder_r7 : List GOp := [(none, (.r (.mov 65 (.t 7)))),
  (none, (.app 66 (.c (.slice none 0 0)) (.t 65) 3 24)),
  (none, (.asg 9 (.t 66) true))]

def c_garlandlaw06_JoinOrder_r8 : List GOp := [(none, (.asg 10 (.c (.int .i64 0)) true))]

def c_garlandlaw06_JoinOrder_r9 : List GOp := [(none, (.r (.mov 67 (.t 10)))),
  (none, (.r (.mov 68 (.t 2)))),
  (none, (.r (.len 69 (.t 68)))),
  (none, (.r (.bin 70 .lss 0 (.t 67) (.t 69)))),
  (none, (.r (.mov 71 (.t 70)))), ((some (71, true)), (.r (.mov 72 (.t 10)))), ((some (71, true)), (.r (.bin 73 .lss 0 (.t 72) (.c (.int .i64 60))))),
  (none, (.r (.pick 74 (.t 71) (.t 73) (.c (.bool false))))),
  (none, (.r (.mov 75 (.t 74)))), ((some (75, true)), (.r (.mov 76 (.t 9)))), ((some (75, true)), (.r (.len 77 (.t 76)))), ((some (75, true)), (.r (.bin 78 .gtr 0 (.t 77) (.c (.int .i64 0))))),
  (none, (.r (.pick 79 (.t 75) (.t 78) (.c (.bool false)))))]

def c_garlandlaw06_JoinOrder_r10 : List GOp := [(none, (.r (.mov 82 (.t 2)))),
  (none, (.r (.mov 83 (.t 10)))),
  (none, (.r (.idxA 84 (.t 82) (.t 83) 1))),
  (none, (.r (.ld 85 (.t 84) 1 false))),
  (none, (.r (.conv 86 .u64 (.t 85)))),
  (none, (.r (.mov 87 (.t 9)))),
  (none, (.r (.len 88 (.t 87)))),
  (none, (.r (.conv 89 .u64 (.t 88)))),
  (none, (.r (.bin 90 .rem 0 (.t 86) (.t 89)))),
  (none, (.r (.conv 91 .i64 (.t 90)))),
  (none, (.asg 11 (.t 91) true))]

def c_garlandlaw06_JoinOrder_r11 : Tree := 
  (.take [18, 19, 20, 21] (none, (.r (.mov 92 (.t 9)))) 
  (.take [4, 18, 19, 20, 21] (none, (.r (.mov 93 (.t 10)))) 
  (.take [3, 4, 18, 19, 20, 21] (none, (.r (.mov 94 (.t 9)))) 
  (.take [4, 18, 19, 20, 21] (none, (.r (.len 95 (.t 94)))) 
  (.take [18, 19, 20, 21] (none, (.r (.bin 96 .rem 0 (.t 93) (.t 95)))) 
  (.take [20, 21] (none, (.r (.mov 97 (.t 9)))) 
  (.take [20, 21] (none, (.r (.mov 98 (.t 11)))) 
  (.take [9, 10, 18, 19, 20, 21] (none, (.r (.mov 99 (.t 9)))) 
  (.take [9, 10, 18, 19, 20, 21] (none, (.r (.mov 100 (.t 11)))) 
  (.take [10, 18, 19, 20, 21] (none, (.r (.idxA 101 (.t 99) (.t 100) 3))) 
  (.take [18, 19, 20, 21] (none, (.r (.ld 102 (.t 101) 3 true))) 
  (.take [16, 17, 18, 19, 20, 21] (none, (.r (.mov 103 (.t 9)))) 
  (.take [15, 16, 17, 18, 19, 20, 21] (none, (.r (.mov 104 (.t 10)))) 
  (.take [14, 15, 16, 17, 18, 19, 20, 21] (none, (.r (.mov 105 (.t 9)))) 
  (.take [15, 16, 17, 18, 19, 20, 21] (none, (.r (.len 106 (.t 105)))) 
  (.take [16, 17, 18, 19, 20, 21] (none, (.r (.bin 107 .rem 0 (.t 104) (.t 106)))) 
  (.take [17, 18, 19, 20, 21] (none, (.r (.idxA 108 (.t 103) (.t 107) 3))) 
  (.take [18, 19, 20, 21] (none, (.r (.ld 109 (.t 108) 3 true))) 
  (.take [19, 20, 21] (none, (.r (.idxA 110 (.t 92) (.t 96) 3))) 
  (.one 19 (none, (.st (.t 110) (.t 102) 3)) 
  (.take [21] (none, (.r (.idxA 111 (.t 97) (.t 98) 3))) 
  (.one 21 (none, (.st (.t 111) (.t 109) 3)) .done))))))))))))))))))))))

def c_garlandlaw06_JoinOrder_r12 : List GOp := [(none, (.r (.mov 80 (.t 10)))),
  (none, (.r (.bin 81 .add 0 (.t 80) (.c (.int .i64 1))))),
  (none, (.asg 10 (.t 81) true))]

def c_garlandlaw06_JoinOrder_r13 : List GOp := [(none, (.r (.mov 112 (.t 0)))),
  (none, (.call 113 (.f 7) [((.t 112), false)])),
  (none, (.r (.mov 114 (.t 0)))),
  (none, (.call 115 (.f 7) [((.t 114), false)])),
  (none, (.asg 12 (.t 113) true)),
  (none, (.asg 13 (.t 115) true))]

def c_garlandlaw06_JoinOrder_r14 : List GOp := [(none, (.asg 14 (.c (.int .i64 0)) true))]

def c_garlandlaw06_JoinOrder_r15 : List GOp := [(none, (.r (.mov 116 (.t 14)))),
  (none, (.r (.mov 117 (.t 7)))),
  (none, (.r (.len 118 (.t 117)))),
  (none, (.r (.bin 119 .lss 0 (.t 116) (.t 118))))]

def c_garlandlaw06_JoinOrder_r16 : Tree := 
  (.take [16] (none, (.r (.mov 122 (.t 12)))) 
  (.take [3, 4, 5, 16] (none, (.r (.mov 123 (.t 7)))) 
  (.take [3, 4, 5, 16] (none, (.r (.mov 124 (.t 14)))) 
  (.take [4, 5, 16] (none, (.r (.idxA 125 (.t 123) (.t 124) 3))) 
  (.take [5, 16] (none, (.r (.fldA 126 (.t 125) 0))) 
  (.take [16] (none, (.r (.ld 127 (.t 126) 1 false))) 
  (.take [8, 9, 10, 16] (none, (.r (.mov 128 (.t 7)))) 
  (.take [8, 9, 10, 16] (none, (.r (.mov 129 (.t 14)))) 
  (.take [9, 10, 16] (none, (.r (.idxA 130 (.t 128) (.t 129) 3))) 
  (.take [10, 16] (none, (.r (.fldA 131 (.t 130) 1))) 
  (.take [16] (none, (.r (.ld 132 (.t 131) 1 false))) 
  (.take [13, 14, 15, 16] (none, (.r (.mov 133 (.t 7)))) 
  (.take [13, 14, 15, 16] (none, (.r (.mov 134 (.t 14)))) 
  (.take [14, 15, 16] (none, (.r (.idxA 135 (.t 133) (.t 134) 3))) 
  (.take [15, 16] (none, (.r (.fldA 136 (.t 135) 2))) 
  (.take [16] (none, (.r (.ld 137 (.t 136) 1 false))) 
  (.one 16 (none, (.call 138 (.f 10) [((.t 122), false), ((.t 127), false), ((.t 132), false), ((.t 137), false)])) .done)))))))))))))))))

def c_garlandlaw06_JoinOrder_r17 : Tree := 
  (.take [16] (none, (.r (.mov 139 (.t 13)))) 
  (.take [3, 4, 5, 16] (none, (.r (.mov 140 (.t 9)))) 
  (.take [3, 4, 5, 16] (none, (.r (.mov 141 (.t 14)))) 
  (.take [4, 5, 16] (none, (.r (.idxA 142 (.t 140) (.t 141) 3))) 
  (.take [5, 16] (none, (.r (.fldA 143 (.t 142) 0))) 
  (.take [16] (none, (.r (.ld 144 (.t 143) 1 false))) 
  (.take [8, 9, 10, 16] (none, (.r (.mov 145 (.t 9)))) 
  (.take [8, 9, 10, 16] (none, (.r (.mov 146 (.t 14)))) 
  (.take [9, 10, 16] (none, (.r (.idxA 147 (.t 145) (.t 146) 3))) 
  (.take [10, 16] (none, (.r (.fldA 148 (.t 147) 1))) 
  (.take [16] (none, (.r (.ld 149 (.t 148) 1 false))) 
  (.take [13, 14, 15, 16] (none, (.r (.mov 150 (.t 9)))) 
  (.take [13, 14, 15, 16] (none, (.r (.mov 151 (.t 14)))) 
  (.take [14, 15, 16] (none, (.r (.idxA 152 (.t 150) (.t 151) 3))) 
  (.take [15, 16] (none, (.r (.fldA 153 (.t 152) 2))) 
  (.take [16] (none, (.r (.ld 154 (.t 153) 1 false))) 
  (.one 16 (none, (.call 155 (.f 10) [((.t 139), false), ((.t 144), false), ((.t 149), false), ((.t 154), false)])) .done)))))))))))))))))

def c_garlandlaw06_JoinOrder_r18 : List GOp := [(none, (.r (.mov 120 (.t 14)))),
  (none, (.r (.bin 121 .add 0 (.t 120) (.c (.int .i64 1))))),
  (none, (.asg 14 (.t 121) true))]

def c_garlandlaw06_JoinOrder_r19 : List GOp := [(none, (.call 156 (.f 9) [])),
  (none, (.r (.notb 157 (.t 156)))),
  (none, (.r (.mov 158 (.t 157)))), ((some (158, false)), (.r (.mov 159 (.t 12)))), ((some (158, false)), (.r (.bin 160 .eql 2 (.t 159) (.c (.pointer none))))),
  (none, (.r (.pick 161 (.t 158) (.c (.bool true)) (.t 160)))),
  (none, (.r (.mov 162 (.t 161)))), ((some (162, false)), (.r (.mov 163 (.t 13)))), ((some (162, false)), (.r (.bin 164 .eql 2 (.t 163) (.c (.pointer none))))),
  (none, (.r (.pick 165 (.t 162) (.c (.bool true)) (.t 164)))),
  (none, (.r (.mov 166 (.t 165)))), ((some (166, false)), (.r (.mov 167 (.t 12)))), ((some (166, false)), (.call 168 (.f 12) [((.t 167), false)])), ((some (166, false)), (.r (.mov 169 (.t 13)))), ((some (166, false)), (.call 170 (.f 12) [((.t 169), false)])), ((some (166, false)), (.r (.bin 171 .neq 0 (.t 168) (.t 170)))),
  (none, (.r (.pick 172 (.t 166) (.c (.bool true)) (.t 171))))]

def c_garlandlaw06_JoinOrder_r20 : List GOp := [(none, (.asg 6 (.c (.bool false)) true))]

def c_garlandlaw06_JoinOrder_r21 : List GOp := [(none, (.asg 15 (.c (.int .i64 0)) true))]

def c_garlandlaw06_JoinOrder_r22 : List GOp := [(none, (.r (.mov 173 (.t 15)))),
  (none, (.r (.mov 174 (.t 7)))),
  (none, (.r (.len 175 (.t 174)))),
  (none, (.r (.bin 176 .lss 0 (.t 173) (.t 175))))]

def c_garlandlaw06_JoinOrder_r23 : Tree := 
  (.take [11, 12, 13, 14, 15, 16, 17, 18, 19, 20, 21, 22, 23, 24, 25, 26, 27] (none, (.r (.mov 179 (.t 12)))) 
  (.take [3, 4, 5, 11, 12, 13, 14, 15, 16, 17, 18, 19, 20, 21, 22, 23, 24, 25, 26, 27] (none, (.r (.mov 180 (.t 7)))) 
  (.take [3, 4, 5, 11, 12, 13, 14, 15, 16, 17, 18, 19, 20, 21, 22, 23, 24, 25, 26, 27] (none, (.r (.mov 181 (.t 15)))) 
  (.take [4, 5, 11, 12, 13, 14, 15, 16, 17, 18, 19, 20, 21, 22, 23, 24, 25, 26, 27] (none, (.r (.idxA 182 (.t 180) (.t 181) 3))) 
  (.take [5, 11, 12, 13, 14, 15, 16, 17, 18, 19, 20, 21, 22, 23, 24, 25, 26, 27] (none, (.r (.fldA 183 (.t 182) 0))) 
  (.take [11, 12, 13, 14, 15, 16, 17, 18, 19, 20, 21, 22, 23, 24, 25, 26, 27] (none, (.r (.ld 184 (.t 183) 1 false))) 
  (.take [8, 9, 10, 11, 12, 13, 14, 15, 16, 17, 18, 19, 20, 21, 22, 23, 24, 25, 26, 27] (none, (.r (.mov 185 (.t 7)))) 
  (.take [8, 9, 10, 11, 12, 13, 14, 15, 16, 17, 18, 19, 20, 21, 22, 23, 24, 25, 26, 27] (none, (.r (.mov 186 (.t 15)))) 
  (.take [9, 10, 11, 12, 13, 14, 15, 16, 17, 18, 19, 20, 21, 22, 23, 24, 25, 26, 27] (none, (.r (.idxA 187 (.t 185) (.t 186) 3))) 
  (.take [10, 11, 12, 13, 14, 15, 16, 17, 18, 19, 20, 21, 22, 23, 24, 25, 26, 27] (none, (.r (.fldA 188 (.t 187) 1))) 
  (.take [11, 12, 13, 14, 15, 16, 17, 18, 19, 20, 21, 22, 23, 24, 25, 26, 27] (none, (.r (.ld 189 (.t 188) 1 false))) 
  (.one 11 (none, (.call 190 (.f 20) [((.t 179), false), ((.t 184), false), ((.t 189), false)])) 
  (.take [13, 14, 15, 16, 17, 18, 19, 20, 21, 22, 23, 24, 25, 26, 27] (none, (.r (.notb 191 (.t 190)))) 
  (.take [14, 15, 16, 17, 18, 19, 20, 21, 22, 23, 24, 25, 26, 27] (none, (.r (.mov 192 (.t 191)))) 
  (.take [25, 26, 27] ((some (192, false)), (.r (.mov 193 (.t 13)))) 
  (.take [17, 18, 19, 25, 26, 27] ((some (192, false)), (.r (.mov 194 (.t 7)))) 
  (.take [17, 18, 19, 25, 26, 27] ((some (192, false)), (.r (.mov 195 (.t 15)))) 
  (.take [18, 19, 25, 26, 27] ((some (192, false)), (.r (.idxA 196 (.t 194) (.t 195) 3))) 
  (.take [19, 25, 26, 27] ((some (192, false)), (.r (.fldA 197 (.t 196) 0))) 
  (.take [25, 26, 27] ((some (192, false)), (.r (.ld 198 (.t 197) 1 false))) 
  (.take [22, 23, 24, 25, 26, 27] ((some (192, false)), (.r (.mov 199 (.t 7)))) 
  (.take [22, 23, 24, 25, 26, 27] ((some (192, false)), (.r (.mov 200 (.t 15)))) 
  (.take [23, 24, 25, 26, 27] ((some (192, false)), (.r (.idxA 201 (.t 199) (.t 200) 3))) 
  (.take [24, 25, 26, 27] ((some (192, false)), (.r (.fldA 202 (.t 201) 1))) 
  (.take [25, 26, 27] ((some (192, false)), (.r (.ld 203 (.t 202) 1 false))) 
  (.one 25 ((some (192, false)), (.call 204 (.f 20) [((.t 193), false), ((.t 198), false), ((.t 203), false)])) 
  (.take [27] ((some (192, false)), (.r (.notb 205 (.t 204)))) 
  (.take [] (none, (.r (.pick 206 (.t 192) (.c (.bool true)) (.t 205)))) .done))))))))))))))))))))))))))))

def c_garlandlaw06_JoinOrder_r24 : List GOp := [(none, (.asg 6 (.c (.bool false)) true))]

def c_garlandlaw06_JoinOrder_r25 : List GOp := [(none, (.r (.mov 177 (.t 15)))),
  (none, (.r (.bin 178 .add 0 (.t 177) (.c (.int .i64 1))))),
  (none, (.asg 15 (.t 178) true))]

def c_garlandlaw06_JoinOrder_r26 : List GOp := [(none, (.r (.mov 207 (.t 12)))),
  (none, (.call 208 (.f 19) [((.t 207), false)])),
  (none, (.r (.mov 209 (.t 13)))),
  (none, (.call 210 (.f 19) [((.t 209), false)])),
  (none, (.call 211 (.f 18) [((.t 208), false), ((.t 210), false)])),
  (none, (.asg 6 (.t 211) true))]

def c_garlandlaw06_JoinOrder : ACode :=
  (.seq
  (.reg [0, 1, 2, 6, 7, 8, 9, 10, 11, 12, 13, 14, 15, 28, 79, 119, 172, 176, 206] c_garlandlaw06_JoinOrder_r0 [0, 1, 2, 6, 7, 8, 9, 10, 11, 12, 13, 14, 15, 28, 79, 119, 172, 176, 206])
  (.seq
  (.reg [0, 1, 2, 6, 7, 8, 9, 10, 11, 12, 13, 14, 15, 28, 79, 119, 172, 176, 206] c_garlandlaw06_JoinOrder_r1 [0, 1, 2, 6, 7, 8, 9, 10, 11, 12, 13, 14, 15, 28, 79, 119, 172, 176, 206])
  (.seq
  (.reg [0, 1, 2, 6, 7, 8, 9, 10, 11, 12, 13, 14, 15, 28, 79, 119, 172, 176, 206] c_garlandlaw06_JoinOrder_r2 [0, 1, 2, 6, 7, 8, 9, 10, 11, 12, 13, 14, 15, 28, 79, 119, 172, 176, 206])
  (.seq
  (.seq
  (.reg [0, 1, 2, 6, 7, 8, 9, 10, 11, 12, 13, 14, 15, 28, 79, 119, 172, 176, 206] c_garlandlaw06_JoinOrder_r3 [0, 1, 2, 6, 7, 8, 9, 10, 11, 12, 13, 14, 15, 28, 79, 119, 172, 176, 206])
  (.blk 0 (.loop (.seq
  (.seq
  (.reg [0, 1, 2, 6, 7, 8, 9, 10, 11, 12, 13, 14, 15, 79, 119, 172, 176, 206] c_garlandlaw06_JoinOrder_r4 [0, 1, 2, 6, 7, 8, 9, 10, 11, 12, 13, 14, 15, 28, 79, 119, 172, 176, 206])
  (.cond (.t 28) .skip (.exit 0)))
  (.seq
  (.blk 1 (.draw [0, 1, 2, 6, 7, 8, 9, 10, 11, 12, 13, 14, 15, 28, 79, 119, 172, 176, 206] c_garlandlaw06_JoinOrder_r5 [0, 1, 2, 6, 7, 8, 9, 10, 11, 12, 13, 14, 15, 28, 79, 119, 172, 176, 206]))
  (.reg [0, 1, 2, 6, 7, 8, 9, 10, 11, 12, 13, 14, 15, 28, 79, 119, 172, 176, 206] c_garlandlaw06_JoinOrder_r6 [0, 1, 2, 6, 7, 8, 9, 10, 11, 12, 13, 14, 15, 28, 79, 119, 172, 176, 206]))))))
  (.seq
  (.reg [0, 1, 2, 6, 7, 8, 9, 10, 11, 12, 13, 14, 15, 28, 79, 119, 172, 176, 206] c_garlandlaw06_JoinOrder_r7 [0, 1, 2, 6, 7, 8, 9, 10, 11, 12, 13, 14, 15, 28, 79, 119, 172, 176, 206])
  (.seq
  (.seq
  (.reg [0, 1, 2, 6, 7, 8, 9, 10, 11, 12, 13, 14, 15, 28, 79, 119, 172, 176, 206] c_garlandlaw06_JoinOrder_r8 [0, 1, 2, 6, 7, 8, 9, 10, 11, 12, 13, 14, 15, 28, 79, 119, 172, 176, 206])
  (.blk 2 (.loop (.seq
  (.seq
  (.reg [0, 1, 2, 6, 7, 8, 9, 10, 11, 12, 13, 14, 15, 28, 119, 172, 176, 206] c_garlandlaw06_JoinOrder_r9 [0, 1, 2, 6, 7, 8, 9, 10, 11, 12, 13, 14, 15, 28, 79, 119, 172, 176, 206])
  (.cond (.t 79) .skip (.exit 2)))
  (.seq
  (.blk 3 (.seq
  (.reg [0, 1, 2, 6, 7, 8, 9, 10, 11, 12, 13, 14, 15, 28, 79, 119, 172, 176, 206] c_garlandlaw06_JoinOrder_r10 [0, 1, 2, 6, 7, 8, 9, 10, 11, 12, 13, 14, 15, 28, 79, 119, 172, 176, 206])
  (.draw [0, 1, 2, 6, 7, 8, 9, 10, 11, 12, 13, 14, 15, 28, 79, 119, 172, 176, 206] c_garlandlaw06_JoinOrder_r11 [0, 1, 2, 6, 7, 8, 9, 10, 11, 12, 13, 14, 15, 28, 79, 119, 172, 176, 206])))
  (.reg [0, 1, 2, 6, 7, 8, 9, 10, 11, 12, 13, 14, 15, 28, 79, 119, 172, 176, 206] c_garlandlaw06_JoinOrder_r12 [0, 1, 2, 6, 7, 8, 9, 10, 11, 12, 13, 14, 15, 28, 79, 119, 172, 176, 206]))))))
  (.seq
  (.reg [0, 1, 2, 6, 7, 8, 9, 10, 11, 12, 13, 14, 15, 28, 79, 119, 172, 176, 206] c_garlandlaw06_JoinOrder_r13 [0, 1, 2, 6, 7, 8, 9, 10, 11, 12, 13, 14, 15, 28, 79, 119, 172, 176, 206])
  (.seq
  (.seq
  (.reg [0, 1, 2, 6, 7, 8, 9, 10, 11, 12, 13, 14, 15, 28, 79, 119, 172, 176, 206] c_garlandlaw06_JoinOrder_r14 [0, 1, 2, 6, 7, 8, 9, 10, 11, 12, 13, 14, 15, 28, 79, 119, 172, 176, 206])
  (.blk 4 (.loop (.seq
  (.seq
  (.reg [0, 1, 2, 6, 7, 8, 9, 10, 11, 12, 13, 14, 15, 28, 79, 172, 176, 206] c_garlandlaw06_JoinOrder_r15 [0, 1, 2, 6, 7, 8, 9, 10, 11, 12, 13, 14, 15, 28, 79, 119, 172, 176, 206])
  (.cond (.t 119) .skip (.exit 4)))
  (.seq
  (.blk 5 (.seq
  (.draw [0, 1, 2, 6, 7, 8, 9, 10, 11, 12, 13, 14, 15, 28, 79, 119, 172, 176, 206] c_garlandlaw06_JoinOrder_r16 [0, 1, 2, 6, 7, 8, 9, 10, 11, 12, 13, 14, 15, 28, 79, 119, 172, 176, 206])
  (.draw [0, 1, 2, 6, 7, 8, 9, 10, 11, 12, 13, 14, 15, 28, 79, 119, 172, 176, 206] c_garlandlaw06_JoinOrder_r17 [0, 1, 2, 6, 7, 8, 9, 10, 11, 12, 13, 14, 15, 28, 79, 119, 172, 176, 206])))
  (.reg [0, 1, 2, 6, 7, 8, 9, 10, 11, 12, 13, 14, 15, 28, 79, 119, 172, 176, 206] c_garlandlaw06_JoinOrder_r18 [0, 1, 2, 6, 7, 8, 9, 10, 11, 12, 13, 14, 15, 28, 79, 119, 172, 176, 206]))))))
  (.seq
  (.seq
  (.reg [0, 1, 2, 6, 7, 8, 9, 10, 11, 12, 13, 14, 15, 28, 79, 119, 176, 206] c_garlandlaw06_JoinOrder_r19 [0, 1, 2, 6, 7, 8, 9, 10, 11, 12, 13, 14, 15, 28, 79, 119, 172, 176, 206])
  (.cond (.t 172) (.seq
  (.reg [0, 1, 2, 6, 7, 8, 9, 10, 11, 12, 13, 14, 15, 28, 79, 119, 172, 176, 206] c_garlandlaw06_JoinOrder_r20 [0, 1, 2, 6, 7, 8, 9, 10, 11, 12, 13, 14, 15, 28, 79, 119, 172, 176, 206])
  .ret) .skip))
  (.seq
  (.seq
  (.reg [0, 1, 2, 6, 7, 8, 9, 10, 11, 12, 13, 14, 15, 28, 79, 119, 172, 176, 206] c_garlandlaw06_JoinOrder_r21 [0, 1, 2, 6, 7, 8, 9, 10, 11, 12, 13, 14, 15, 28, 79, 119, 172, 176, 206])
  (.blk 6 (.loop (.seq
  (.seq
  (.reg [0, 1, 2, 6, 7, 8, 9, 10, 11, 12, 13, 14, 15, 28, 79, 119, 172, 206] c_garlandlaw06_JoinOrder_r22 [0, 1, 2, 6, 7, 8, 9, 10, 11, 12, 13, 14, 15, 28, 79, 119, 172, 176, 206])
  (.cond (.t 176) .skip (.exit 6)))
  (.seq
  (.blk 7 (.seq
  (.draw [0, 1, 2, 6, 7, 8, 9, 10, 11, 12, 13, 14, 15, 28, 79, 119, 172, 176] c_garlandlaw06_JoinOrder_r23 [0, 1, 2, 6, 7, 8, 9, 10, 11, 12, 13, 14, 15, 28, 79, 119, 172, 176, 206])
  (.cond (.t 206) (.seq
  (.reg [0, 1, 2, 6, 7, 8, 9, 10, 11, 12, 13, 14, 15, 28, 79, 119, 172, 176, 206] c_garlandlaw06_JoinOrder_r24 [0, 1, 2, 6, 7, 8, 9, 10, 11, 12, 13, 14, 15, 28, 79, 119, 172, 176, 206])
  .ret) .skip)))
  (.reg [0, 1, 2, 6, 7, 8, 9, 10, 11, 12, 13, 14, 15, 28, 79, 119, 172, 176, 206] c_garlandlaw06_JoinOrder_r25 [0, 1, 2, 6, 7, 8, 9, 10, 11, 12, 13, 14, 15, 28, 79, 119, 172, 176, 206]))))))
  (.seq
  (.reg [0, 1, 2, 6, 7, 8, 9, 10, 11, 12, 13, 14, 15, 28, 79, 119, 172, 176, 206] c_garlandlaw06_JoinOrder_r26 [0, 1, 2, 6, 7, 8, 9, 10, 11, 12, 13, 14, 15, 28, 79, 119, 172, 176, 206])
  .ret)))))))))))
def v_garlandlaw06_JoinOrder : List Nat := [0, 1, 2, 6, 7, 8, 9, 10, 11, 12, 13, 14, 15, 28, 79, 119, 172, 176, 206]
abbrev n_garlandlaw06_JoinOrder : Nat := 6
theorem s_garlandlaw06_JoinOrder : stripF Try.prog [6] v_garlandlaw06_JoinOrder Try.f6 = some (c_garlandlaw06_JoinOrder, [(.tmp 6)]) := by kernel_rfl
theorem go_garlandlaw06_JoinOrder {L : List (List Nat)} {args : List AVal} {h : Heap} {Q : AVal → Heap → Prop} (hl : args.length = 3) (H : Wlk Try.prog [6] Try.f6.ntmps v_garlandlaw06_JoinOrder L c_garlandlaw06_JoinOrder (ends L [(.tmp 6)] Q) (entry v_garlandlaw06_JoinOrder args h)) : ACalls Try.prog L n_garlandlaw06_JoinOrder args h Q :=
  acalls_of_strip mix Try.func6 s_garlandlaw06_JoinOrder (by rw [hl]; exact Nat.le_of_ble_eq_true rfl) H


def c_join_New_r0 : List GOp := [(none, (.asg 2 (.c (.pointer none)) true))]

def c_join_New_r1 : List GOp := [(none, (.r (.mov 5 (.t 0)))),
  (none, (.r (.mm 6 true (.t 5) (.c (.int .i64 0))))),
  (none, (.r (.mm 7 false (.t 6) (.c (.int .i64 70000))))),
  (none, (.asg 0 (.t 7) true))]

def c_join_New_r2 : Tree := 
  (.take [1, 5, 6, 7] (none, (.r (.mov 8 (.t 0)))) 
  (.take [3, 5, 6, 7] (none, (.r (.mov 10 (.t 0)))) 
  (.take [5, 6, 7] (none, (.r (.mov 12 (.t 0)))) (.two 1 (none, (.mk 9 (.t 8) (.t 8) 1 8 [(.int .i64 0)])) 
  (.one 3 (none, (.mk 11 (.t 10) (.t 10) 3 24 [(.int .i64 0), (.int .i64 0), (.int .i64 0)])) 
  (.one 5 (none, (.bld 13 [((0, 1), ((.t 9), true)), ((1, 1), ((.t 11), true)), ((2, 1), ((.t 12), true))] [(.slice none 0 0), (.slice none 0 0), (.int .i64 0)])) 
  (.one 6 (none, (.box 14 (.t 13))) 
  (.one 7 (none, (.asg 3 (.t 14) true)) .done)))) 3 (none, (.mk 11 (.t 10) (.t 10) 3 24 [(.int .i64 0), (.int .i64 0), (.int .i64 0)])) 
  (.one 1 (none, (.mk 9 (.t 8) (.t 8) 1 8 [(.int .i64 0)])) 
  (.one 5 (none, (.bld 13 [((0, 1), ((.t 9), true)), ((1, 1), ((.t 11), true)), ((2, 1), ((.t 12), true))] [(.slice none 0 0), (.slice none 0 0), (.int .i64 0)])) 
  (.one 6 (none, (.box 14 (.t 13))) 
  (.one 7 (none, (.asg 3 (.t 14) true)) .done))))))))

def c_join_New_r3 : List GOp := [(none, (.r (.mov 15 (.t 0)))),
  (none, (.r (.mov 16 (.c (.int .i64 0)))))]

def c_join_New_r4 : List GOp := [(none, (.r (.bin 17 .lss 0 (.t 16) (.t 15))))]

def c_join_New_r5 : List GOp := [(none, (.r (.mov 18 (.t 16)))),
  (none, (.asg 4 (.t 18) true))]

def c_join_New_r6 : Tree := 
  (.take [1, 2, 3, 14, 15, 16, 17] (none, (.r (.mov 19 (.t 3)))) 
  (.take [2, 3, 14, 15, 16, 17] (none, (.r (.nilck 20 (.t 19)))) 
  (.take [3, 14, 15, 16, 17] (none, (.r (.fldA 21 (.t 20) 0))) 
  (.take [14, 15, 16, 17] (none, (.r (.ld 22 (.t 21) 1 false))) 
  (.take [14, 15, 16, 17] (none, (.r (.mov 23 (.t 4)))) 
  (.take [6, 7, 8, 14, 15, 16, 17] (none, (.r (.mov 24 (.t 3)))) 
  (.take [7, 8, 14, 15, 16, 17] (none, (.r (.nilck 25 (.t 24)))) 
  (.take [8, 14, 15, 16, 17] (none, (.r (.fldA 26 (.t 25) 1))) 
  (.take [14, 15, 16, 17] (none, (.r (.ld 27 (.t 26) 1 false))) 
  (.take [16, 17] (none, (.r (.mov 28 (.t 4)))) 
  (.take [14, 15, 16, 17] (none, (.r (.mov 29 (.t 4)))) 
  (.take [13, 16, 17] (none, (.r (.mov 30 (.t 4)))) 
  (.take [13, 16, 17] (none, (.r (.mov 31 (.t 4)))) 
  (.take [15, 16, 17] (none, (.r (.idxA 33 (.t 22) (.t 23) 1))) (.two 13 (none, (.bld 32 [((0, 1), ((.t 30), true)), ((1, 1), ((.t 31), true)), ((2, 1), ((.c (.int .i64 1)), true))] [(.int .i64 0), (.int .i64 0), (.int .i64 0)])) 
  (.one 15 (none, (.st (.t 33) (.t 29) 1)) 
  (.take [17] (none, (.r (.idxA 34 (.t 27) (.t 28) 3))) 
  (.one 17 (none, (.st (.t 34) (.t 32) 3)) .done))) 15 (none, (.st (.t 33) (.t 29) 1)) 
  (.one 13 (none, (.bld 32 [((0, 1), ((.t 30), true)), ((1, 1), ((.t 31), true)), ((2, 1), ((.c (.int .i64 1)), true))] [(.int .i64 0), (.int .i64 0), (.int .i64 0)])) 
  (.take [17] (none, (.r (.idxA 34 (.t 27) (.t 28) 3))) 
  (.one 17 (none, (.st (.t 34) (.t 32) 3)) .done))))))))))))))))))

def c_join_New_r7 : List GOp := [(none, (.r (.bin 35 .add 0 (.t 16) (.c (.int .i64 1))))),
  (none, (.asg 16 (.t 35) true))]

def c_join_New_r8 : List GOp := [(none, (.r (.mov 36 (.t 3)))),
  (none, (.asg 2 (.t 36) true))]

def c_join_New : ACode :=
  (.seq
  (.reg [0, 2, 3, 4, 15, 16, 17] c_join_New_r0 [0, 2, 3, 4, 15, 16, 17])
  (.seq
  (.reg [0, 2, 3, 4, 15, 16, 17] c_join_New_r1 [0, 2, 3, 4, 15, 16, 17])
  (.seq
  (.draw [0, 2, 3, 4, 15, 16, 17] c_join_New_r2 [0, 2, 3, 4, 15, 16, 17])
  (.seq
  (.seq
  (.reg [0, 2, 3, 4, 17] c_join_New_r3 [0, 2, 3, 4, 15, 16, 17])
  (.blk 0 (.loop (.seq
  (.reg [0, 2, 3, 4, 15, 16] c_join_New_r4 [0, 2, 3, 4, 15, 16, 17])
  (.seq
  (.cond (.t 17) .skip (.exit 0))
  (.seq
  (.blk 1 (.seq
  (.reg [0, 2, 3, 4, 15, 16, 17] c_join_New_r5 [0, 2, 3, 4, 15, 16, 17])
  (.draw [0, 2, 3, 4, 15, 16, 17] c_join_New_r6 [0, 2, 3, 4, 15, 16, 17])))
  (.reg [0, 2, 3, 4, 15, 16, 17] c_join_New_r7 [0, 2, 3, 4, 15, 16, 17])))))))
  (.seq
  (.reg [0, 2, 3, 4, 15, 16, 17] c_join_New_r8 [0, 2, 3, 4, 15, 16, 17])
  .ret)))))
def v_join_New : List Nat := [0, 2, 3, 4, 15, 16, 17]
abbrev n_join_New : Nat := 7
theorem s_join_New : stripF Try.prog [2] v_join_New Try.f7 = some (c_join_New, [(.tmp 2)]) := by kernel_rfl
theorem go_join_New {L : List (List Nat)} {args : List AVal} {h : Heap} {Q : AVal → Heap → Prop} (hl : args.length = 1) (H : Wlk Try.prog [2] Try.f7.ntmps v_join_New L c_join_New (ends L [(.tmp 2)] Q) (entry v_join_New args h)) : ACalls Try.prog L n_join_New args h Q :=
  acalls_of_strip mix Try.func7 s_join_New (by rw [hl]; exact Nat.le_of_ble_eq_true rfl) H


def c_garlandref06_New_r0 : List GOp := [(none, (.asg 2 (.c (.pointer none)) true))]

def c_garlandref06_New_r1 : List GOp := [(none, (.bld 5 [] [(.slice none 0 0), (.slice none 0 0)])),
  (none, (.box 6 (.t 5))),
  (none, (.asg 3 (.t 6) true))]

def c_garlandref06_New_r2 : List GOp := [(none, (.asg 4 (.c (.int .i64 0)) true))]

def c_garlandref06_New_r3 : List GOp := [(none, (.r (.mov 7 (.t 4)))),
  (none, (.r (.mov 8 (.t 0)))),
  (none, (.r (.bin 9 .lss 0 (.t 7) (.t 8))))]

def c_garlandref06_New_r4 : Tree := 
  (.take [16, 17, 18, 19, 20, 21] (none, (.r (.mov 12 (.t 3)))) 
  (.take [19, 20, 21] (none, (.r (.mov 13 (.t 3)))) 
  (.take [3, 4, 5, 8, 15, 16, 17, 18, 19, 20, 21] (none, (.r (.mov 14 (.t 3)))) 
  (.take [4, 5, 8, 15, 16, 17, 18, 19, 20, 21] (none, (.r (.nilck 15 (.t 14)))) 
  (.take [5, 8, 15, 16, 17, 18, 19, 20, 21] (none, (.r (.fldA 16 (.t 15) 0))) 
  (.take [8, 15, 16, 17, 18, 19, 20, 21] (none, (.r (.ld 17 (.t 16) 1 false))) 
  (.take [7, 8, 15, 16, 17, 18, 19, 20, 21] (none, (.r (.mov 18 (.t 4)))) 
  (.take [10, 11, 12, 15, 16, 17, 18, 19, 20, 21] (none, (.r (.mov 21 (.t 3)))) 
  (.take [11, 12, 15, 16, 17, 18, 19, 20, 21] (none, (.r (.nilck 22 (.t 21)))) 
  (.take [12, 15, 16, 17, 18, 19, 20, 21] (none, (.r (.fldA 23 (.t 22) 1))) 
  (.take [15, 16, 17, 18, 19, 20, 21] (none, (.r (.ld 24 (.t 23) 1 false))) 
  (.take [14, 15, 16, 17, 18, 19, 20, 21] (none, (.r (.mov 25 (.t 4)))) (.two 7 (none, (.blds 19 1 1 [((0, 1), ((.t 18), true))] [(.int .i64 0)])) (.two 8 (none, (.app 20 (.t 17) (.t 19) 1 8)) 
  (.one 14 (none, (.blds 26 1 1 [((0, 1), ((.t 25), true))] [(.int .i64 0)])) 
  (.one 15 (none, (.app 27 (.t 24) (.t 26) 1 8)) 
  (.take [17, 18, 19, 20, 21] (none, (.r (.nilck 28 (.t 12)))) 
  (.take [18, 19, 20, 21] (none, (.r (.fldA 29 (.t 28) 0))) 
  (.one 18 (none, (.st (.t 29) (.t 20) 1)) 
  (.take [20, 21] (none, (.r (.nilck 30 (.t 13)))) 
  (.take [21] (none, (.r (.fldA 31 (.t 30) 1))) 
  (.one 21 (none, (.st (.t 31) (.t 27) 1)) .done)))))))) 14 (none, (.blds 26 1 1 [((0, 1), ((.t 25), true))] [(.int .i64 0)])) 
  (.one 8 (none, (.app 20 (.t 17) (.t 19) 1 8)) 
  (.one 15 (none, (.app 27 (.t 24) (.t 26) 1 8)) 
  (.take [17, 18, 19, 20, 21] (none, (.r (.nilck 28 (.t 12)))) 
  (.take [18, 19, 20, 21] (none, (.r (.fldA 29 (.t 28) 0))) 
  (.one 18 (none, (.st (.t 29) (.t 20) 1)) 
  (.take [20, 21] (none, (.r (.nilck 30 (.t 13)))) 
  (.take [21] (none, (.r (.fldA 31 (.t 30) 1))) 
  (.one 21 (none, (.st (.t 31) (.t 27) 1)) .done))))))))) 14 (none, (.blds 26 1 1 [((0, 1), ((.t 25), true))] [(.int .i64 0)])) 
  (.one 7 (none, (.blds 19 1 1 [((0, 1), ((.t 18), true))] [(.int .i64 0)])) 
  (.one 8 (none, (.app 20 (.t 17) (.t 19) 1 8)) 
  (.one 15 (none, (.app 27 (.t 24) (.t 26) 1 8)) 
  (.take [17, 18, 19, 20, 21] (none, (.r (.nilck 28 (.t 12)))) 
  (.take [18, 19, 20, 21] (none, (.r (.fldA 29 (.t 28) 0))) 
  (.one 18 (none, (.st (.t 29) (.t 20) 1)) 
  (.take [20, 21] (none, (.r (.nilck 30 (.t 13)))) 
  (.take [21] (none, (.r (.fldA 31 (.t 30) 1))) 
  (.one 21 (none, (.st (.t 31) (.t 27) 1)) .done))))))))))))))))))))))

def c_garlandref06_New_r5 : List GOp := [(none, (.r (.mov 10 (.t 4)))),
  (none, (.r (.bin 11 .add 0 (.t 10) (.c (.int .i64 1))))),
  (none, (.asg 4 (.t 11) true))]

def c_garlandref06_New_r6 : List GOp := [(none, (.r (.mov 32 (.t 3)))),
  (none, (.asg 2 (.t 32) true))]

def c_garlandref06_New : ACode :=
  (.seq
  (.reg [0, 2, 3, 4, 9] c_garlandref06_New_r0 [0, 2, 3, 4, 9])
  (.seq
  (.reg [0, 2, 3, 4, 9] c_garlandref06_New_r1 [0, 2, 3, 4, 9])
  (.seq
  (.seq
  (.reg [0, 2, 3, 4, 9] c_garlandref06_New_r2 [0, 2, 3, 4, 9])
  (.blk 0 (.loop (.seq
  (.seq
  (.reg [0, 2, 3, 4] c_garlandref06_New_r3 [0, 2, 3, 4, 9])
  (.cond (.t 9) .skip (.exit 0)))
  (.seq
  (.blk 1 (.draw [0, 2, 3, 4, 9] c_garlandref06_New_r4 [0, 2, 3, 4, 9]))
  (.reg [0, 2, 3, 4, 9] c_garlandref06_New_r5 [0, 2, 3, 4, 9]))))))
  (.seq
  (.reg [0, 2, 3, 4, 9] c_garlandref06_New_r6 [0, 2, 3, 4, 9])
  .ret))))
def v_garlandref06_New : List Nat := [0, 2, 3, 4, 9]
abbrev n_garlandref06_New : Nat := 8
theorem s_garlandref06_New : stripF Try.prog [2] v_garlandref06_New Try.f8 = some (c_garlandref06_New, [(.tmp 2)]) := by kernel_rfl
theorem go_garlandref06_New {L : List (List Nat)} {args : List AVal} {h : Heap} {Q : AVal → Heap → Prop} (hl : args.length = 1) (H : Wlk Try.prog [2] Try.f8.ntmps v_garlandref06_New L c_garlandref06_New (ends L [(.tmp 2)] Q) (entry v_garlandref06_New args h)) : ACalls Try.prog L n_garlandref06_New args h Q :=
  acalls_of_strip mix Try.func8 s_garlandref06_New (by rw [hl]; exact Nat.le_of_ble_eq_true rfl) H


def c_garlandlaw06_awake_r0 : List GOp := [(none, (.asg 0 (.c (.bool false)) true))]

def c_garlandlaw06_awake_r1 : List GOp := [(none, (.call 2 (.f 7) [((.c (.int .i64 3)), false)])),
  (none, (.asg 1 (.t 2) true))]

def c_garlandlaw06_awake_r2 : List GOp := [(none, (.r (.mov 3 (.t 1)))),
  (none, (.r (.bin 4 .neq 2 (.t 3) (.c (.pointer none))))),
  (none, (.r (.mov 5 (.t 4)))), ((some (5, true)), (.r (.mov 6 (.t 1)))), ((some (5, true)), (.call 7 (.f 10) [((.t 6), false), ((.c (.int .i64 0)), false), ((.c (.int .i64 2)), false), ((.c (.int .i64 2)), false)])),
  (none, (.r (.pick 8 (.t 5) (.t 7) (.c (.bool false))))),
  (none, (.r (.mov 9 (.t 8)))), ((some (9, true)), (.r (.mov 10 (.t 1)))), ((some (9, true)), (.call 11 (.f 16) [((.t 10), false), ((.c (.int .i64 0)), false)])), ((some (9, true)), (.r (.bin 12 .eql 0 (.t 11) (.c (.int .i64 2))))),
  (none, (.r (.pick 13 (.t 9) (.t 12) (.c (.bool false))))),
  (none, (.r (.mov 14 (.t 13)))), ((some (14, true)), (.r (.mov 15 (.t 1)))), ((some (14, true)), (.call 16 (.f 14) [((.t 15), false), ((.c (.int .i64 2)), false)])), ((some (14, true)), (.r (.bin 17 .eql 0 (.t 16) (.c (.int .i64 0))))),
  (none, (.r (.pick 18 (.t 14) (.t 17) (.c (.bool false))))),
  (none, (.r (.mov 19 (.t 18)))), ((some (19, true)), (.r (.mov 20 (.t 1)))), ((some (19, true)), (.call 21 (.f 12) [((.t 20), false)])), ((some (19, true)), (.r (.bin 22 .eql 0 (.t 21) (.c (.int .i64 2))))),
  (none, (.r (.pick 23 (.t 19) (.t 22) (.c (.bool false))))),
  (none, (.asg 0 (.t 23) true))]

def c_garlandlaw06_awake : ACode :=
  (.seq
  (.reg [0, 1] c_garlandlaw06_awake_r0 [0, 1])
  (.seq
  (.reg [0, 1] c_garlandlaw06_awake_r1 [0, 1])
  (.seq
  (.reg [0, 1] c_garlandlaw06_awake_r2 [0, 1])
  .ret)))
def v_garlandlaw06_awake : List Nat := [0, 1]
abbrev n_garlandlaw06_awake : Nat := 9
theorem s_garlandlaw06_awake : stripF Try.prog [0] v_garlandlaw06_awake Try.f9 = some (c_garlandlaw06_awake, [(.tmp 0)]) := by kernel_rfl
theorem go_garlandlaw06_awake {L : List (List Nat)} {args : List AVal} {h : Heap} {Q : AVal → Heap → Prop} (hl : args.length = 0) (H : Wlk Try.prog [0] Try.f9.ntmps v_garlandlaw06_awake L c_garlandlaw06_awake (ends L [(.tmp 0)] Q) (entry v_garlandlaw06_awake args h)) : ACalls Try.prog L n_garlandlaw06_awake args h Q :=
  acalls_of_strip mix Try.func9 s_garlandlaw06_awake (by rw [hl]; exact Nat.le_of_ble_eq_true rfl) H


def c_join_Join_Unite_r0 : List GOp := [(none, (.asg 8 (.c (.bool false)) true))]

def c_join_Join_Unite_r1 : List GOp := [(none, (.r (.mov 12 (.t 0)))),
  (none, (.r (.mov 13 (.t 1)))),
  (none, (.call 14 (.f 22) [((.t 12), false), ((.t 13), false)])),
  (none, (.r (.notb 15 (.t 14)))),
  (none, (.r (.mov 16 (.t 15)))), ((some (16, false)), (.r (.mov 17 (.t 0)))), ((some (16, false)), (.r (.mov 18 (.t 2)))), ((some (16, false)), (.call 19 (.f 22) [((.t 17), false), ((.t 18), false)])), ((some (16, false)), (.r (.notb 20 (.t 19)))),
  (none, (.r (.pick 21 (.t 16) (.c (.bool true)) (.t 20)))),
  (none, (.r (.mov 22 (.t 21)))), ((some (22, false)), (.r (.mov 23 (.t 0)))), ((some (22, false)), (.r (.mov 24 (.t 3)))), ((some (22, false)), (.call 25 (.f 22) [((.t 23), false), ((.t 24), false)])), ((some (22, false)), (.r (.notb 26 (.t 25)))),
  (none, (.r (.pick 27 (.t 22) (.c (.bool true)) (.t 26)))),
  (none, (.r (.mov 28 (.t 27)))), ((some (28, false)), (.r (.mov 29 (.t 0)))), ((some (28, false)), (.r (.mov 30 (.t 1)))), ((some (28, false)), (.r (.mov 31 (.t 2)))), ((some (28, false)), (.call 32 (.f 20) [((.t 29), false), ((.t 30), false), ((.t 31), false)])),
  (none, (.r (.pick 33 (.t 28) (.c (.bool true)) (.t 32))))]

def c_join_Join_Unite_r2 : List GOp := [(none, (.asg 8 (.c (.bool false)) true))]

def c_join_Join_Unite_r3 : List GOp := [(none, (.r (.mov 34 (.t 0)))),
  (none, (.mkfn 35 (.func 23) [((.t 34), false)] [])),
  (none, (.asg 9 (.t 35) true))]

def c_join_Join_Unite_r4 : List GOp := [(none, (.r (.mov 36 (.t 9)))),
  (none, (.r (.mov 37 (.t 1)))),
  (none, (.call 38 (.t 36) [((.t 37), false)])),
  (none, (.r (.mov 39 (.t 9)))),
  (none, (.r (.mov 40 (.t 2)))),
  (none, (.call 41 (.t 39) [((.t 40), false)])),
  (none, (.asg 10 (.t 38) true)),
  (none, (.asg 11 (.t 41) true))]

def c_join_Join_Unite_r5 : Tree := 
  (.take [1, 2, 3, 5, 6, 7, 16] (none, (.r (.mov 42 (.t 0)))) 
  (.take [2, 3, 5, 6, 7, 16] (none, (.r (.nilck 43 (.t 42)))) 
  (.take [3, 5, 6, 7, 16] (none, (.r (.fldA 44 (.t 43) 1))) 
  (.take [5, 6, 7, 16] (none, (.r (.ld 45 (.t 44) 1 false))) 
  (.take [5, 6, 7, 16] (none, (.r (.mov 46 (.t 10)))) 
  (.take [6, 7, 16] (none, (.r (.idxA 47 (.t 45) (.t 46) 3))) 
  (.take [7, 16] (none, (.r (.fldA 48 (.t 47) 2))) 
  (.take [16] (none, (.r (.ld 49 (.t 48) 1 false))) 
  (.take [9, 10, 11, 13, 14, 15, 16] (none, (.r (.mov 50 (.t 0)))) 
  (.take [10, 11, 13, 14, 15, 16] (none, (.r (.nilck 51 (.t 50)))) 
  (.take [11, 13, 14, 15, 16] (none, (.r (.fldA 52 (.t 51) 1))) 
  (.take [13, 14, 15, 16] (none, (.r (.ld 53 (.t 52) 1 false))) 
  (.take [13, 14, 15, 16] (none, (.r (.mov 54 (.t 11)))) 
  (.take [14, 15, 16] (none, (.r (.idxA 55 (.t 53) (.t 54) 3))) 
  (.take [15, 16] (none, (.r (.fldA 56 (.t 55) 2))) 
  (.take [16] (none, (.r (.ld 57 (.t 56) 1 false))) 
  (.take [] (none, (.r (.bin 58 .lss 0 (.t 49) (.t 57)))) .done)))))))))))))))))

def c_join_Join_Unite_r6 : List GOp := [(none, (.r (.mov 59 (.t 11)))),
  (none, (.r (.mov 60 (.t 10)))),
  (none, (.asg 10 (.t 59) true)),
  (none, (.asg 11 (.t 60) true))]

def c_join_Join_Unite_r7 : List GOp := [(none, (.r (.mov 61 (.t 0)))),
  (none, (.r (.nilck 62 (.t 61)))),
  (none, (.r (.fldA 63 (.t 62) 0))),
  (none, (.r (.ld 64 (.t 63) 1 false))),
  (none, (.r (.mov 65 (.t 11)))),
  (none, (.r (.mov 66 (.t 10)))),
  (none, (.r (.idxA 67 (.t 64) (.t 65) 1))),
  (none, (.st (.t 67) (.t 66) 1))]

def c_join_Join_Unite_r8 : Tree := 
  (.take [1, 2, 3, 41, 42] (none, (.r (.mov 68 (.t 0)))) 
  (.take [2, 3, 41, 42] (none, (.r (.nilck 69 (.t 68)))) 
  (.take [3, 41, 42] (none, (.r (.fldA 70 (.t 69) 1))) 
  (.take [41, 42] (none, (.r (.ld 71 (.t 70) 1 false))) 
  (.take [41, 42] (none, (.r (.mov 72 (.t 10)))) 
  (.take [6, 7, 8, 10, 11, 12, 21, 40, 41, 42] (none, (.r (.mov 73 (.t 0)))) 
  (.take [7, 8, 10, 11, 12, 21, 40, 41, 42] (none, (.r (.nilck 74 (.t 73)))) 
  (.take [8, 10, 11, 12, 21, 40, 41, 42] (none, (.r (.fldA 75 (.t 74) 1))) 
  (.take [10, 11, 12, 21, 40, 41, 42] (none, (.r (.ld 76 (.t 75) 1 false))) 
  (.take [10, 11, 12, 21, 40, 41, 42] (none, (.r (.mov 77 (.t 10)))) 
  (.take [11, 12, 21, 40, 41, 42] (none, (.r (.idxA 78 (.t 76) (.t 77) 3))) 
  (.take [12, 21, 40, 41, 42] (none, (.r (.fldA 79 (.t 78) 0))) 
  (.take [21, 40, 41, 42] (none, (.r (.ld 80 (.t 79) 1 false))) 
  (.take [14, 15, 16, 18, 19, 20, 21, 40, 41, 42] (none, (.r (.mov 81 (.t 0)))) 
  (.take [15, 16, 18, 19, 20, 21, 40, 41, 42] (none, (.r (.nilck 82 (.t 81)))) 
  (.take [16, 18, 19, 20, 21, 40, 41, 42] (none, (.r (.fldA 83 (.t 82) 1))) 
  (.take [18, 19, 20, 21, 40, 41, 42] (none, (.r (.ld 84 (.t 83) 1 false))) 
  (.take [18, 19, 20, 21, 40, 41, 42] (none, (.r (.mov 85 (.t 11)))) 
  (.take [19, 20, 21, 40, 41, 42] (none, (.r (.idxA 86 (.t 84) (.t 85) 3))) 
  (.take [20, 21, 40, 41, 42] (none, (.r (.fldA 87 (.t 86) 0))) 
  (.take [21, 40, 41, 42] (none, (.r (.ld 88 (.t 87) 1 false))) 
  (.take [40, 41, 42] (none, (.r (.mm 89 false (.t 80) (.t 88)))) 
  (.take [40, 41, 42] (none, (.r (.mov 90 (.t 3)))) 
  (.take [24, 25, 26, 28, 29, 30, 39, 40, 41, 42] (none, (.r (.mov 91 (.t 0)))) 
  (.take [25, 26, 28, 29, 30, 39, 40, 41, 42] (none, (.r (.nilck 92 (.t 91)))) 
  (.take [26, 28, 29, 30, 39, 40, 41, 42] (none, (.r (.fldA 93 (.t 92) 1))) 
  (.take [28, 29, 30, 39, 40, 41, 42] (none, (.r (.ld 94 (.t 93) 1 false))) 
  (.take [28, 29, 30, 39, 40, 41, 42] (none, (.r (.mov 95 (.t 10)))) 
  (.take [29, 30, 39, 40, 41, 42] (none, (.r (.idxA 96 (.t 94) (.t 95) 3))) 
  (.take [30, 39, 40, 41, 42] (none, (.r (.fldA 97 (.t 96) 2))) 
  (.take [39, 40, 41, 42] (none, (.r (.ld 98 (.t 97) 1 false))) 
  (.take [32, 33, 34, 36, 37, 38, 39, 40, 41, 42] (none, (.r (.mov 99 (.t 0)))) 
  (.take [33, 34, 36, 37, 38, 39, 40, 41, 42] (none, (.r (.nilck 100 (.t 99)))) 
  (.take [34, 36, 37, 38, 39, 40, 41, 42] (none, (.r (.fldA 101 (.t 100) 1))) 
  (.take [36, 37, 38, 39, 40, 41, 42] (none, (.r (.ld 102 (.t 101) 1 false))) 
  (.take [36, 37, 38, 39, 40, 41, 42] (none, (.r (.mov 103 (.t 11)))) 
  (.take [37, 38, 39, 40, 41, 42] (none, (.r (.idxA 104 (.t 102) (.t 103) 3))) 
  (.take [38, 39, 40, 41, 42] (none, (.r (.fldA 105 (.t 104) 2))) 
  (.take [39, 40, 41, 42] (none, (.r (.ld 106 (.t 105) 1 false))) 
  (.take [40, 41, 42] (none, (.r (.bin 107 .add 0 (.t 98) (.t 106)))) 
  (.one 40 (none, (.bld 108 [((0, 1), ((.t 89), true)), ((1, 1), ((.t 90), true)), ((2, 1), ((.t 107), true))] [(.int .i64 0), (.int .i64 0), (.int .i64 0)])) 
  (.take [42] (none, (.r (.idxA 109 (.t 71) (.t 72) 3))) 
  (.one 42 (none, (.st (.t 109) (.t 108) 3)) .done)))))))))))))))))))))))))))))))))))))))))))

def c_join_Join_Unite_r9 : List GOp := [(none, (.r (.mov 110 (.t 0)))),
  (none, (.r (.nilck 111 (.t 110)))),
  (none, (.r (.fldA 112 (.t 111) 2))),
  (none, (.r (.ld 113 (.t 112) 1 false))),
  (none, (.r (.bin 114 .sub 0 (.t 113) (.c (.int .i64 1))))),
  (none, (.r (.nilck 115 (.t 110)))),
  (none, (.r (.fldA 116 (.t 115) 2))),
  (none, (.st (.t 116) (.t 114) 1))]

def c_join_Join_Unite_r10 : List GOp := [(none, (.asg 8 (.c (.bool true)) true))]

def c_join_Join_Unite : ACode :=
  (.seq
  (.reg [0, 1, 2, 3, 8, 9, 10, 11, 33, 58] c_join_Join_Unite_r0 [0, 1, 2, 3, 8, 9, 10, 11, 33, 58])
  (.seq
  (.seq
  (.reg [0, 1, 2, 3, 8, 9, 10, 11, 58] c_join_Join_Unite_r1 [0, 1, 2, 3, 8, 9, 10, 11, 33, 58])
  (.cond (.t 33) (.seq
  (.reg [0, 1, 2, 3, 8, 9, 10, 11, 33, 58] c_join_Join_Unite_r2 [0, 1, 2, 3, 8, 9, 10, 11, 33, 58])
  .ret) .skip))
  (.seq
  (.reg [0, 1, 2, 3, 8, 9, 10, 11, 33, 58] c_join_Join_Unite_r3 [0, 1, 2, 3, 8, 9, 10, 11, 33, 58])
  (.seq
  (.reg [0, 1, 2, 3, 8, 9, 10, 11, 33, 58] c_join_Join_Unite_r4 [0, 1, 2, 3, 8, 9, 10, 11, 33, 58])
  (.seq
  (.seq
  (.draw [0, 1, 2, 3, 8, 9, 10, 11, 33] c_join_Join_Unite_r5 [0, 1, 2, 3, 8, 9, 10, 11, 33, 58])
  (.cond (.t 58) (.reg [0, 1, 2, 3, 8, 9, 10, 11, 33, 58] c_join_Join_Unite_r6 [0, 1, 2, 3, 8, 9, 10, 11, 33, 58]) .skip))
  (.seq
  (.reg [0, 1, 2, 3, 8, 9, 10, 11, 33, 58] c_join_Join_Unite_r7 [0, 1, 2, 3, 8, 9, 10, 11, 33, 58])
  (.seq
  (.draw [0, 1, 2, 3, 8, 9, 10, 11, 33, 58] c_join_Join_Unite_r8 [0, 1, 2, 3, 8, 9, 10, 11, 33, 58])
  (.seq
  (.reg [0, 1, 2, 3, 8, 9, 10, 11, 33, 58] c_join_Join_Unite_r9 [0, 1, 2, 3, 8, 9, 10, 11, 33, 58])
  (.seq
  (.reg [0, 1, 2, 3, 8, 9, 10, 11, 33, 58] c_join_Join_Unite_r10 [0, 1, 2, 3, 8, 9, 10, 11, 33, 58])
  .ret)))))))))
def v_join_Join_Unite : List Nat := [0, 1, 2, 3, 8, 9, 10, 11, 33, 58]
abbrev n_join_Join_Unite : Nat := 10
theorem s_join_Join_Unite : stripF Try.prog [8] v_join_Join_Unite Try.f10 = some (c_join_Join_Unite, [(.tmp 8)]) := by kernel_rfl
theorem go_join_Join_Unite {L : List (List Nat)} {args : List AVal} {h : Heap} {Q : AVal → Heap → Prop} (hl : args.length = 4) (H : Wlk Try.prog [8] Try.f10.ntmps v_join_Join_Unite L c_join_Join_Unite (ends L [(.tmp 8)] Q) (entry v_join_Join_Unite args h)) : ACalls Try.prog L n_join_Join_Unite args h Q :=
  acalls_of_strip mix Try.func10 s_join_Join_Unite (by rw [hl]; exact Nat.le_of_ble_eq_true rfl) H


def c_garlandref06_Join_Unite_r0 : List GOp := [(none, (.asg 8 (.c (.bool false)) true))]

def c_garlandref06_Join_Unite_r1 : Tree := 
  (.take [2, 3, 4, 5, 6, 7, 8, 9, 10, 11, 12, 13, 14, 15, 16, 17, 18, 19, 20, 21, 22, 23, 24, 25, 26, 27, 28, 29, 30, 31, 32] (none, (.r (.mov 12 (.t 0)))) 
  (.take [2, 3, 4, 5, 6, 7, 8, 9, 10, 11, 12, 13, 14, 15, 16, 17, 18, 19, 20, 21, 22, 23, 24, 25, 26, 27, 28, 29, 30, 31, 32] (none, (.r (.mov 13 (.t 1)))) 
  (.one 2 (none, (.call 14 (.f 24) [((.t 12), false), ((.t 13), false)])) 
  (.take [4, 5, 6, 7, 8, 9, 10, 11, 12, 13, 14, 15, 16, 17, 18, 19, 20, 21, 22, 23, 24, 25, 26, 27, 28, 29, 30, 31, 32] (none, (.r (.notb 15 (.t 14)))) 
  (.take [5, 6, 7, 8, 9, 10, 11, 12, 13, 14, 15, 16, 17, 18, 19, 20, 21, 22, 23, 24, 25, 26, 27, 28, 29, 30, 31, 32] (none, (.r (.mov 16 (.t 15)))) 
  (.take [7, 8, 9, 10, 11, 12, 13, 14, 15, 16, 17, 18, 19, 20, 21, 22, 23, 24, 25, 26, 27, 28, 29, 30, 31, 32] ((some (16, false)), (.r (.mov 17 (.t 0)))) 
  (.take [7, 8, 9, 10, 11, 12, 13, 14, 15, 16, 17, 18, 19, 20, 21, 22, 23, 24, 25, 26, 27, 28, 29, 30, 31, 32] ((some (16, false)), (.r (.mov 18 (.t 2)))) 
  (.one 7 ((some (16, false)), (.call 19 (.f 24) [((.t 17), false), ((.t 18), false)])) 
  (.take [9, 10, 11, 12, 13, 14, 15, 16, 17, 18, 19, 20, 21, 22, 23, 24, 25, 26, 27, 28, 29, 30, 31, 32] ((some (16, false)), (.r (.notb 20 (.t 19)))) 
  (.take [10, 11, 12, 13, 14, 15, 16, 17, 18, 19, 20, 21, 22, 23, 24, 25, 26, 27, 28, 29, 30, 31, 32] (none, (.r (.pick 21 (.t 16) (.c (.bool true)) (.t 20)))) 
  (.take [11, 12, 13, 14, 15, 16, 17, 18, 19, 20, 21, 22, 23, 24, 25, 26, 27, 28, 29, 30, 31, 32] (none, (.r (.mov 22 (.t 21)))) 
  (.take [13, 14, 15, 16, 17, 18, 19, 20, 21, 22, 23, 24, 25, 26, 27, 28, 29, 30, 31, 32] ((some (22, false)), (.r (.mov 23 (.t 0)))) 
  (.take [13, 14, 15, 16, 17, 18, 19, 20, 21, 22, 23, 24, 25, 26, 27, 28, 29, 30, 31, 32] ((some (22, false)), (.r (.mov 24 (.t 3)))) 
  (.one 13 ((some (22, false)), (.call 25 (.f 24) [((.t 23), false), ((.t 24), false)])) 
  (.take [15, 16, 17, 18, 19, 20, 21, 22, 23, 24, 25, 26, 27, 28, 29, 30, 31, 32] ((some (22, false)), (.r (.notb 26 (.t 25)))) 
  (.take [16, 17, 18, 19, 20, 21, 22, 23, 24, 25, 26, 27, 28, 29, 30, 31, 32] (none, (.r (.pick 27 (.t 22) (.c (.bool true)) (.t 26)))) 
  (.take [17, 18, 19, 20, 21, 22, 23, 24, 25, 26, 27, 28, 29, 30, 31, 32] (none, (.r (.mov 28 (.t 27)))) 
  (.take [18, 19, 20, 22, 23, 31, 32] ((some (28, false)), (.r (.mov 29 (.t 0)))) 
  (.take [19, 20, 22, 23, 31, 32] ((some (28, false)), (.r (.nilck 30 (.t 29)))) 
  (.take [20, 22, 23, 31, 32] ((some (28, false)), (.r (.fldA 31 (.t 30) 0))) 
  (.take [22, 23, 31, 32] ((some (28, false)), (.r (.ld 32 (.t 31) 1 false))) 
  (.take [22, 23, 31, 32] ((some (28, false)), (.r (.mov 33 (.t 1)))) 
  (.take [23, 31, 32] ((some (28, false)), (.r (.idxA 34 (.t 32) (.t 33) 1))) 
  (.take [31, 32] ((some (28, false)), (.r (.ld 35 (.t 34) 1 false))) 
  (.take [25, 26, 27, 29, 30, 31, 32] ((some (28, false)), (.r (.mov 36 (.t 0)))) 
  (.take [26, 27, 29, 30, 31, 32] ((some (28, false)), (.r (.nilck 37 (.t 36)))) 
  (.take [27, 29, 30, 31, 32] ((some (28, false)), (.r (.fldA 38 (.t 37) 0))) 
  (.take [29, 30, 31, 32] ((some (28, false)), (.r (.ld 39 (.t 38) 1 false))) 
  (.take [29, 30, 31, 32] ((some (28, false)), (.r (.mov 40 (.t 2)))) 
  (.take [30, 31, 32] ((some (28, false)), (.r (.idxA 41 (.t 39) (.t 40) 1))) 
  (.take [31, 32] ((some (28, false)), (.r (.ld 42 (.t 41) 1 false))) 
  (.take [32] ((some (28, false)), (.r (.bin 43 .eql 0 (.t 35) (.t 42)))) 
  (.take [] (none, (.r (.pick 44 (.t 28) (.c (.bool true)) (.t 43)))) .done)))))))))))))))))))))))))))))))))

def c_garlandref06_Join_Unite_r2 : List GOp := [(none, (.asg 8 (.c (.bool false)) true))]

def c_garlandref06_Join_Unite_r3 : Tree := 
  (.take [1, 2, 3, 5, 6, 14, 15] (none, (.r (.mov 45 (.t 0)))) 
  (.take [2, 3, 5, 6, 14, 15] (none, (.r (.nilck 46 (.t 45)))) 
  (.take [3, 5, 6, 14, 15] (none, (.r (.fldA 47 (.t 46) 0))) 
  (.take [5, 6, 14, 15] (none, (.r (.ld 48 (.t 47) 1 false))) 
  (.take [5, 6, 14, 15] (none, (.r (.mov 49 (.t 1)))) 
  (.take [6, 14, 15] (none, (.r (.idxA 50 (.t 48) (.t 49) 1))) 
  (.take [14, 15] (none, (.r (.ld 51 (.t 50) 1 false))) 
  (.take [8, 9, 10, 12, 13, 15] (none, (.r (.mov 52 (.t 0)))) 
  (.take [9, 10, 12, 13, 15] (none, (.r (.nilck 53 (.t 52)))) 
  (.take [10, 12, 13, 15] (none, (.r (.fldA 54 (.t 53) 0))) 
  (.take [12, 13, 15] (none, (.r (.ld 55 (.t 54) 1 false))) 
  (.take [12, 13, 15] (none, (.r (.mov 56 (.t 2)))) 
  (.take [13, 15] (none, (.r (.idxA 57 (.t 55) (.t 56) 1))) 
  (.take [15] (none, (.r (.ld 58 (.t 57) 1 false))) 
  (.one 14 (none, (.asg 9 (.t 51) true)) 
  (.one 15 (none, (.asg 10 (.t 58) true)) .done))))))))))))))))

def c_garlandref06_Join_Unite_r4 : List GOp := [(none, (.asg 11 (.c (.int .i64 0)) true))]

def c_garlandref06_Join_Unite_r5 : List GOp := [(none, (.r (.mov 59 (.t 11)))),
  (none, (.r (.mov 60 (.t 0)))),
  (none, (.r (.nilck 61 (.t 60)))),
  (none, (.r (.fldA 62 (.t 61) 0))),
  (none, (.r (.ld 63 (.t 62) 1 false))),
  (none, (.r (.len 64 (.t 63)))),
  (none, (.r (.bin 65 .lss 0 (.t 59) (.t 64))))]

def c_garlandref06_Join_Unite_r6 : List GOp := [(none, (.r (.mov 68 (.t 0)))),
  (none, (.r (.nilck 69 (.t 68)))),
  (none, (.r (.fldA 70 (.t 69) 0))),
  (none, (.r (.ld 71 (.t 70) 1 false))),
  (none, (.r (.mov 72 (.t 11)))),
  (none, (.r (.idxA 73 (.t 71) (.t 72) 1))),
  (none, (.r (.ld 74 (.t 73) 1 false))),
  (none, (.r (.mov 75 (.t 9)))),
  (none, (.r (.bin 76 .eql 0 (.t 74) (.t 75)))),
  (none, (.r (.mov 77 (.t 76)))), ((some (77, false)), (.r (.mov 78 (.t 0)))), ((some (77, false)), (.r (.nilck 79 (.t 78)))), ((some (77, false)), (.r (.fldA 80 (.t 79) 0))), ((some (77, false)), (.r (.ld 81 (.t 80) 1 false))), ((some (77, false)), (.r (.mov 82 (.t 11)))), ((some (77, false)), (.r (.idxA 83 (.t 81) (.t 82) 1))), ((some (77, false)), (.r (.ld 84 (.t 83) 1 false))), ((some (77, false)), (.r (.mov 85 (.t 10)))), ((some (77, false)), (.r (.bin 86 .eql 0 (.t 84) (.t 85)))),
  (none, (.r (.pick 87 (.t 77) (.c (.bool true)) (.t 86))))]

def c_garlandref06_Join_Unite_r7 : Tree := 
  (.take [1, 2, 3, 14, 15, 16, 17] (none, (.r (.mov 88 (.t 0)))) 
  (.take [2, 3, 14, 15, 16, 17] (none, (.r (.nilck 89 (.t 88)))) 
  (.take [3, 14, 15, 16, 17] (none, (.r (.fldA 90 (.t 89) 0))) 
  (.take [14, 15, 16, 17] (none, (.r (.ld 91 (.t 90) 1 false))) 
  (.take [14, 15, 16, 17] (none, (.r (.mov 92 (.t 11)))) 
  (.take [6, 7, 8, 14, 15, 16, 17] (none, (.r (.mov 93 (.t 0)))) 
  (.take [7, 8, 14, 15, 16, 17] (none, (.r (.nilck 94 (.t 93)))) 
  (.take [8, 14, 15, 16, 17] (none, (.r (.fldA 95 (.t 94) 1))) 
  (.take [14, 15, 16, 17] (none, (.r (.ld 96 (.t 95) 1 false))) 
  (.take [16, 17] (none, (.r (.mov 97 (.t 11)))) 
  (.take [12, 14, 15, 16, 17] (none, (.r (.mov 98 (.t 9)))) 
  (.take [12, 14, 15, 16, 17] (none, (.r (.mov 99 (.t 10)))) 
  (.take [14, 15, 16, 17] (none, (.r (.mm 100 false (.t 98) (.t 99)))) 
  (.take [16, 17] (none, (.r (.mov 101 (.t 3)))) 
  (.take [15, 16, 17] (none, (.r (.idxA 102 (.t 91) (.t 92) 1))) 
  (.one 15 (none, (.st (.t 102) (.t 100) 1)) 
  (.take [17] (none, (.r (.idxA 103 (.t 96) (.t 97) 1))) 
  (.one 17 (none, (.st (.t 103) (.t 101) 1)) .done))))))))))))))))))

def c_garlandref06_Join_Unite_r8 : List GOp := [(none, (.r (.mov 66 (.t 11)))),
  (none, (.r (.bin 67 .add 0 (.t 66) (.c (.int .i64 1))))),
  (none, (.asg 11 (.t 67) true))]

def c_garlandref06_Join_Unite_r9 : List GOp := [(none, (.asg 8 (.c (.bool true)) true))]

def c_garlandref06_Join_Unite : ACode :=
  (.seq
  (.reg [0, 1, 2, 3, 8, 9, 10, 11, 44, 65, 87] c_garlandref06_Join_Unite_r0 [0, 1, 2, 3, 8, 9, 10, 11, 44, 65, 87])
  (.seq
  (.seq
  (.draw [0, 1, 2, 3, 8, 9, 10, 11, 65, 87] c_garlandref06_Join_Unite_r1 [0, 1, 2, 3, 8, 9, 10, 11, 44, 65, 87])
  (.cond (.t 44) (.seq
  (.reg [0, 1, 2, 3, 8, 9, 10, 11, 44, 65, 87] c_garlandref06_Join_Unite_r2 [0, 1, 2, 3, 8, 9, 10, 11, 44, 65, 87])
  .ret) .skip))
  (.seq
  (.draw [0, 1, 2, 3, 8, 9, 10, 11, 44, 65, 87] c_garlandref06_Join_Unite_r3 [0, 1, 2, 3, 8, 9, 10, 11, 44, 65, 87])
  (.seq
  (.seq
  (.reg [0, 1, 2, 3, 8, 9, 10, 11, 44, 65, 87] c_garlandref06_Join_Unite_r4 [0, 1, 2, 3, 8, 9, 10, 11, 44, 65, 87])
  (.blk 0 (.loop (.seq
  (.seq
  (.reg [0, 1, 2, 3, 8, 9, 10, 11, 44, 87] c_garlandref06_Join_Unite_r5 [0, 1, 2, 3, 8, 9, 10, 11, 44, 65, 87])
  (.cond (.t 65) .skip (.exit 0)))
  (.seq
  (.blk 1 (.seq
  (.reg [0, 1, 2, 3, 8, 9, 10, 11, 44, 65] c_garlandref06_Join_Unite_r6 [0, 1, 2, 3, 8, 9, 10, 11, 44, 65, 87])
  (.cond (.t 87) (.draw [0, 1, 2, 3, 8, 9, 10, 11, 44, 65, 87] c_garlandref06_Join_Unite_r7 [0, 1, 2, 3, 8, 9, 10, 11, 44, 65, 87]) .skip)))
  (.reg [0, 1, 2, 3, 8, 9, 10, 11, 44, 65, 87] c_garlandref06_Join_Unite_r8 [0, 1, 2, 3, 8, 9, 10, 11, 44, 65, 87]))))))
  (.seq
  (.reg [0, 1, 2, 3, 8, 9, 10, 11, 44, 65, 87] c_garlandref06_Join_Unite_r9 [0, 1, 2, 3, 8, 9, 10, 11, 44, 65, 87])
  .ret)))))
def v_garlandref06_Join_Unite : List Nat := [0, 1, 2, 3, 8, 9, 10, 11, 44, 65, 87]
abbrev n_garlandref06_Join_Unite : Nat := 11
theorem s_garlandref06_Join_Unite : stripF Try.prog [8] v_garlandref06_Join_Unite Try.f11 = some (c_garlandref06_Join_Unite, [(.tmp 8)]) := by kernel_rfl
theorem go_garlandref06_Join_Unite {L : List (List Nat)} {args : List AVal} {h : Heap} {Q : AVal → Heap → Prop} (hl : args.length = 4) (H : Wlk Try.prog [8] Try.f11.ntmps v_garlandref06_Join_Unite L c_garlandref06_Join_Unite (ends L [(.tmp 8)] Q) (entry v_garlandref06_Join_Unite args h)) : ACalls Try.prog L n_garlandref06_Join_Unite args h Q :=
  acalls_of_strip mix Try.func11 s_garlandref06_Join_Unite (by rw [hl]; exact Nat.le_of_ble_eq_true rfl) H


def c_join_Join_Len_r0 : List GOp := [(none, (.asg 2 (.c (.int .i64 0)) true))]

def c_join_Join_Len_r1 : List GOp := [(none, (.r (.mov 3 (.t 0)))),
  (none, (.r (.bin 4 .eql 2 (.t 3) (.c (.pointer none)))))]

def c_join_Join_Len_r2 : List GOp := [(none, (.asg 2 (.c (.int .i64 0)) true))]

def c_join_Join_Len_r3 : List GOp := [(none, (.r (.mov 5 (.t 0)))),
  (none, (.r (.nilck 6 (.t 5)))),
  (none, (.r (.fldA 7 (.t 6) 2))),
  (none, (.r (.ld 8 (.t 7) 1 false))),
  (none, (.asg 2 (.t 8) true))]

def c_join_Join_Len : ACode :=
  (.seq
  (.reg [0, 2, 4] c_join_Join_Len_r0 [0, 2, 4])
  (.seq
  (.seq
  (.reg [0, 2] c_join_Join_Len_r1 [0, 2, 4])
  (.cond (.t 4) (.seq
  (.reg [0, 2, 4] c_join_Join_Len_r2 [0, 2, 4])
  .ret) .skip))
  (.seq
  (.reg [0, 2, 4] c_join_Join_Len_r3 [0, 2, 4])
  .ret)))
def v_join_Join_Len : List Nat := [0, 2, 4]
abbrev n_join_Join_Len : Nat := 12
theorem s_join_Join_Len : stripF Try.prog [2] v_join_Join_Len Try.f12 = some (c_join_Join_Len, [(.tmp 2)]) := by kernel_rfl
theorem go_join_Join_Len {L : List (List Nat)} {args : List AVal} {h : Heap} {Q : AVal → Heap → Prop} (hl : args.length = 1) (H : Wlk Try.prog [2] Try.f12.ntmps v_join_Join_Len L c_join_Join_Len (ends L [(.tmp 2)] Q) (entry v_join_Join_Len args h)) : ACalls Try.prog L n_join_Join_Len args h Q :=
  acalls_of_strip mix Try.func12 s_join_Join_Len (by rw [hl]; exact Nat.le_of_ble_eq_true rfl) H


def c_garlandref06_Join_Sets_r0 : List GOp := [(none, (.asg 2 (.c (.slice none 0 0)) true))]

def c_garlandref06_Join_Sets_r1 : List GOp := [(none, (.asg 3 (.c (.slice none 0 0)) true))]

def c_garlandref06_Join_Sets_r2 : List GOp := [(none, (.asg 4 (.c (.int .i64 0)) true))]

def c_garlandref06_Join_Sets_r3 : List GOp := [(none, (.r (.mov 7 (.t 4)))),
  (none, (.r (.mov 8 (.t 0)))),
  (none, (.r (.nilck 9 (.t 8)))),
  (none, (.r (.fldA 10 (.t 9) 0))),
  (none, (.r (.ld 11 (.t 10) 1 false))),
  (none, (.r (.len 12 (.t 11)))),
  (none, (.r (.bin 13 .lss 0 (.t 7) (.t 12))))]

def c_garlandref06_Join_Sets_r4 : List GOp := [(none, (.r (.mov 16 (.t 0)))),
  (none, (.r (.nilck 17 (.t 16)))),
  (none, (.r (.fldA 18 (.t 17) 0))),
  (none, (.r (.ld 19 (.t 18) 1 false))),
  (none, (.r (.mov 20 (.t 4)))),
  (none, (.r (.idxA 21 (.t 19) (.t 20) 1))),
  (none, (.r (.ld 22 (.t 21) 1 false))),
  (none, (.r (.mov 23 (.t 4)))),
  (none, (.r (.bin 24 .neq 0 (.t 22) (.t 23))))]

def c_garlandref06_Join_Sets_r5 : List GOp := [(none, (.asg 5 (.c (.slice none 0 0)) true))]

def c_garlandref06_Join_Sets_r6 : List GOp := [(none, (.r (.mov 25 (.t 4)))),
  (none, (.asg 6 (.t 25) true))]

def c_garlandref06_Join_Sets_r7 : List GOp := [(none, (.r (.mov 26 (.t 6)))),
  (none, (.r (.mov 27 (.t 0)))),
  (none, (.r (.nilck 28 (.t 27)))),
  (none, (.r (.fldA 29 (.t 28) 0))),
  (none, (.r (.ld 30 (.t 29) 1 false))),
  (none, (.r (.len 31 (.t 30)))),
  (none, (.r (.bin 32 .lss 0 (.t 26) (.t 31))))]

def c_garlandref06_Join_Sets_r8 : List GOp := [(none, (.r (.mov 35 (.t 0)))),
  (none, (.r (.nilck 36 (.t 35)))),
  (none, (.r (.fldA 37 (.t 36) 0))),
  (none, (.r (.ld 38 (.t 37) 1 false))),
  (none, (.r (.mov 39 (.t 6)))),
  (none, (.r (.idxA 40 (.t 38) (.t 39) 1))),
  (none, (.r (.ld 41 (.t 40) 1 false))),
  (none, (.r (.mov 42 (.t 4)))),
  (none, (.r (.bin 43 .eql 0 (.t 41) (.t 42))))]

def c_garlandref06_Join_Sets_r9 : List GOp := [(none, (.r (.mov 44 (.t 5)))),
  (none, (.r (.mov 45 (.t 6)))),
  (none, (.blds 46 1 1 [((0, 1), ((.t 45), true))] [(.int .i64 0)])),
  (none, (.app 47 (.t 44) (.t 46) 1 8)),
  (none, (.asg 5 (.t 47) true))]

def c_garlandref06_Join_Sets_r10 : List GOp := [(none, (.r (.mov 33 (.t 6)))),
  (none, (.r (.bin 34 .add 0 (.t 33) (.c (.int .i64 1))))),
  (none, (.asg 6 (.t 34) true))]

def c_garlandref06_Join_Sets_r11 : List GOp := [(none, (.r (.mov 48 (.t 3)))),
  (none, (.r (.mov 49 (.t 5)))),
  (none, (.blds 50 1 1 [((0, 1), ((.t 49), true))] [(.slice none 0 0)])),
  (none, (.app 51 (.t 48) (.t 50) 1 24)),
  (none, (.asg 3 (.t 51) true))]

def c_garlandref06_Join_Sets_r12 : List GOp := [(none, (.r (.mov 14 (.t 4)))),
  (none, (.r (.bin 15 .add 0 (.t 14) (.c (.int .i64 1))))),
  (none, (.asg 4 (.t 15) true))]

def c_garlandref06_Join_Sets_r13 : List GOp := [(none, (.r (.mov 52 (.t 3)))),
  (none, (.asg 2 (.t 52) true))]

def c_garlandref06_Join_Sets : ACode :=
  (.seq
  (.reg [0, 2, 3, 4, 5, 6, 13, 24, 32, 43] c_garlandref06_Join_Sets_r0 [0, 2, 3, 4, 5, 6, 13, 24, 32, 43])
  (.seq
  (.reg [0, 2, 3, 4, 5, 6, 13, 24, 32, 43] c_garlandref06_Join_Sets_r1 [0, 2, 3, 4, 5, 6, 13, 24, 32, 43])
  (.seq
  (.seq
  (.reg [0, 2, 3, 4, 5, 6, 13, 24, 32, 43] c_garlandref06_Join_Sets_r2 [0, 2, 3, 4, 5, 6, 13, 24, 32, 43])
  (.blk 0 (.loop (.seq
  (.seq
  (.reg [0, 2, 3, 4, 5, 6, 24, 32, 43] c_garlandref06_Join_Sets_r3 [0, 2, 3, 4, 5, 6, 13, 24, 32, 43])
  (.cond (.t 13) .skip (.exit 0)))
  (.seq
  (.blk 1 (.seq
  (.seq
  (.reg [0, 2, 3, 4, 5, 6, 13, 32, 43] c_garlandref06_Join_Sets_r4 [0, 2, 3, 4, 5, 6, 13, 24, 32, 43])
  (.cond (.t 24) (.exit 1) .skip))
  (.seq
  (.reg [0, 2, 3, 4, 5, 6, 13, 24, 32, 43] c_garlandref06_Join_Sets_r5 [0, 2, 3, 4, 5, 6, 13, 24, 32, 43])
  (.seq
  (.seq
  (.reg [0, 2, 3, 4, 5, 6, 13, 24, 32, 43] c_garlandref06_Join_Sets_r6 [0, 2, 3, 4, 5, 6, 13, 24, 32, 43])
  (.blk 2 (.loop (.seq
  (.seq
  (.reg [0, 2, 3, 4, 5, 6, 13, 24, 43] c_garlandref06_Join_Sets_r7 [0, 2, 3, 4, 5, 6, 13, 24, 32, 43])
  (.cond (.t 32) .skip (.exit 2)))
  (.seq
  (.blk 3 (.seq
  (.reg [0, 2, 3, 4, 5, 6, 13, 24, 32] c_garlandref06_Join_Sets_r8 [0, 2, 3, 4, 5, 6, 13, 24, 32, 43])
  (.cond (.t 43) (.reg [0, 2, 3, 4, 5, 6, 13, 24, 32, 43] c_garlandref06_Join_Sets_r9 [0, 2, 3, 4, 5, 6, 13, 24, 32, 43]) .skip)))
  (.reg [0, 2, 3, 4, 5, 6, 13, 24, 32, 43] c_garlandref06_Join_Sets_r10 [0, 2, 3, 4, 5, 6, 13, 24, 32, 43]))))))
  (.reg [0, 2, 3, 4, 5, 6, 13, 24, 32, 43] c_garlandref06_Join_Sets_r11 [0, 2, 3, 4, 5, 6, 13, 24, 32, 43])))))
  (.reg [0, 2, 3, 4, 5, 6, 13, 24, 32, 43] c_garlandref06_Join_Sets_r12 [0, 2, 3, 4, 5, 6, 13, 24, 32, 43]))))))
  (.seq
  (.reg [0, 2, 3, 4, 5, 6, 13, 24, 32, 43] c_garlandref06_Join_Sets_r13 [0, 2, 3, 4, 5, 6, 13, 24, 32, 43])
  .ret))))
def v_garlandref06_Join_Sets : List Nat := [0, 2, 3, 4, 5, 6, 13, 24, 32, 43]
abbrev n_garlandref06_Join_Sets : Nat := 13
theorem s_garlandref06_Join_Sets : stripF Try.prog [2] v_garlandref06_Join_Sets Try.f13 = some (c_garlandref06_Join_Sets, [(.tmp 2)]) := by kernel_rfl
theorem go_garlandref06_Join_Sets {L : List (List Nat)} {args : List AVal} {h : Heap} {Q : AVal → Heap → Prop} (hl : args.length = 1) (H : Wlk Try.prog [2] Try.f13.ntmps v_garlandref06_Join_Sets L c_garlandref06_Join_Sets (ends L [(.tmp 2)] Q) (entry v_garlandref06_Join_Sets args h)) : ACalls Try.prog L n_garlandref06_Join_Sets args h Q :=
  acalls_of_strip mix Try.func13 s_garlandref06_Join_Sets (by rw [hl]; exact Nat.le_of_ble_eq_true rfl) H


def c_join_Join_Find_r0 : List GOp := [(none, (.asg 4 (.c (.int .i64 0)) true))]

def c_join_Join_Find_r1 : List GOp := [(none, (.r (.mov 5 (.t 0)))),
  (none, (.r (.mov 6 (.t 1)))),
  (none, (.call 7 (.f 22) [((.t 5), false), ((.t 6), false)])),
  (none, (.r (.notb 8 (.t 7))))]

def c_join_Join_Find_r2 : List GOp := [(none, (.asg 4 (.c (.int .i64 (-(0 + 1)))) true))]

def c_join_Join_Find_r3 : Tree := 
  (.take [1, 2, 3, 7, 8, 9, 10] (none, (.r (.mov 9 (.t 0)))) 
  (.take [2, 3, 7, 8, 9, 10] (none, (.r (.nilck 10 (.t 9)))) 
  (.take [3, 7, 8, 9, 10] (none, (.r (.fldA 11 (.t 10) 1))) 
  (.take [7, 8, 9, 10] (none, (.r (.ld 12 (.t 11) 1 false))) 
  (.take [6, 7, 8, 9, 10] (none, (.r (.mov 13 (.t 0)))) 
  (.take [6, 7, 8, 9, 10] (none, (.r (.mov 14 (.t 1)))) 
  (.one 6 (none, (.call 15 (.f 23) [((.t 13), false), ((.t 14), false)])) 
  (.take [8, 9, 10] (none, (.r (.idxA 16 (.t 12) (.t 15) 3))) 
  (.take [9, 10] (none, (.r (.fldA 17 (.t 16) 0))) 
  (.take [10] (none, (.r (.ld 18 (.t 17) 1 false))) 
  (.one 10 (none, (.asg 4 (.t 18) true)) .done)))))))))))

def c_join_Join_Find : ACode :=
  (.seq
  (.reg [0, 1, 4, 8] c_join_Join_Find_r0 [0, 1, 4, 8])
  (.seq
  (.seq
  (.reg [0, 1, 4] c_join_Join_Find_r1 [0, 1, 4, 8])
  (.cond (.t 8) (.seq
  (.reg [0, 1, 4, 8] c_join_Join_Find_r2 [0, 1, 4, 8])
  .ret) .skip))
  (.seq
  (.draw [0, 1, 4, 8] c_join_Join_Find_r3 [0, 1, 4, 8])
  .ret)))
def v_join_Join_Find : List Nat := [0, 1, 4, 8]
abbrev n_join_Join_Find : Nat := 14
theorem s_join_Join_Find : stripF Try.prog [4] v_join_Join_Find Try.f14 = some (c_join_Join_Find, [(.tmp 4)]) := by kernel_rfl
theorem go_join_Join_Find {L : List (List Nat)} {args : List AVal} {h : Heap} {Q : AVal → Heap → Prop} (hl : args.length = 2) (H : Wlk Try.prog [4] Try.f14.ntmps v_join_Join_Find L c_join_Join_Find (ends L [(.tmp 4)] Q) (entry v_join_Join_Find args h)) : ACalls Try.prog L n_join_Join_Find args h Q :=
  acalls_of_strip mix Try.func14 s_join_Join_Find (by rw [hl]; exact Nat.le_of_ble_eq_true rfl) H


def c_garlandref06_Join_Find_r0 : List GOp := [(none, (.asg 4 (.c (.int .i64 0)) true))]

def c_garlandref06_Join_Find_r1 : List GOp := [(none, (.r (.mov 5 (.t 0)))),
  (none, (.r (.mov 6 (.t 1)))),
  (none, (.call 7 (.f 24) [((.t 5), false), ((.t 6), false)])),
  (none, (.r (.notb 8 (.t 7))))]

def c_garlandref06_Join_Find_r2 : List GOp := [(none, (.asg 4 (.c (.int .i64 (-(0 + 1)))) true))]

def c_garlandref06_Join_Find_r3 : List GOp := [(none, (.r (.mov 9 (.t 0)))),
  (none, (.r (.nilck 10 (.t 9)))),
  (none, (.r (.fldA 11 (.t 10) 0))),
  (none, (.r (.ld 12 (.t 11) 1 false))),
  (none, (.r (.mov 13 (.t 1)))),
  (none, (.r (.idxA 14 (.t 12) (.t 13) 1))),
  (none, (.r (.ld 15 (.t 14) 1 false))),
  (none, (.asg 4 (.t 15) true))]

def c_garlandref06_Join_Find : ACode :=
  (.seq
  (.reg [0, 1, 4, 8] c_garlandref06_Join_Find_r0 [0, 1, 4, 8])
  (.seq
  (.seq
  (.reg [0, 1, 4] c_garlandref06_Join_Find_r1 [0, 1, 4, 8])
  (.cond (.t 8) (.seq
  (.reg [0, 1, 4, 8] c_garlandref06_Join_Find_r2 [0, 1, 4, 8])
  .ret) .skip))
  (.seq
  (.reg [0, 1, 4, 8] c_garlandref06_Join_Find_r3 [0, 1, 4, 8])
  .ret)))
def v_garlandref06_Join_Find : List Nat := [0, 1, 4, 8]
abbrev n_garlandref06_Join_Find : Nat := 15
theorem s_garlandref06_Join_Find : stripF Try.prog [4] v_garlandref06_Join_Find Try.f15 = some (c_garlandref06_Join_Find, [(.tmp 4)]) := by kernel_rfl
theorem go_garlandref06_Join_Find {L : List (List Nat)} {args : List AVal} {h : Heap} {Q : AVal → Heap → Prop} (hl : args.length = 2) (H : Wlk Try.prog [4] Try.f15.ntmps v_garlandref06_Join_Find L c_garlandref06_Join_Find (ends L [(.tmp 4)] Q) (entry v_garlandref06_Join_Find args h)) : ACalls Try.prog L n_garlandref06_Join_Find args h Q :=
  acalls_of_strip mix Try.func15 s_garlandref06_Join_Find (by rw [hl]; exact Nat.le_of_ble_eq_true rfl) H


def c_join_Join_Label_r0 : List GOp := [(none, (.asg 4 (.c (.int .i64 0)) true))]

def c_join_Join_Label_r1 : List GOp := [(none, (.r (.mov 5 (.t 0)))),
  (none, (.r (.mov 6 (.t 1)))),
  (none, (.call 7 (.f 22) [((.t 5), false), ((.t 6), false)])),
  (none, (.r (.notb 8 (.t 7))))]

def c_join_Join_Label_r2 : List GOp := [(none, (.asg 4 (.c (.int .i64 (-(0 + 1)))) true))]

def c_join_Join_Label_r3 : Tree := 
  (.take [1, 2, 3, 7, 8, 9, 10] (none, (.r (.mov 9 (.t 0)))) 
  (.take [2, 3, 7, 8, 9, 10] (none, (.r (.nilck 10 (.t 9)))) 
  (.take [3, 7, 8, 9, 10] (none, (.r (.fldA 11 (.t 10) 1))) 
  (.take [7, 8, 9, 10] (none, (.r (.ld 12 (.t 11) 1 false))) 
  (.take [6, 7, 8, 9, 10] (none, (.r (.mov 13 (.t 0)))) 
  (.take [6, 7, 8, 9, 10] (none, (.r (.mov 14 (.t 1)))) 
  (.one 6 (none, (.call 15 (.f 23) [((.t 13), false), ((.t 14), false)])) 
  (.take [8, 9, 10] (none, (.r (.idxA 16 (.t 12) (.t 15) 3))) 
  (.take [9, 10] (none, (.r (.fldA 17 (.t 16) 1))) 
  (.take [10] (none, (.r (.ld 18 (.t 17) 1 false))) 
  (.one 10 (none, (.asg 4 (.t 18) true)) .done)))))))))))

def c_join_Join_Label : ACode :=
  (.seq
  (.reg [0, 1, 4, 8] c_join_Join_Label_r0 [0, 1, 4, 8])
  (.seq
  (.seq
  (.reg [0, 1, 4] c_join_Join_Label_r1 [0, 1, 4, 8])
  (.cond (.t 8) (.seq
  (.reg [0, 1, 4, 8] c_join_Join_Label_r2 [0, 1, 4, 8])
  .ret) .skip))
  (.seq
  (.draw [0, 1, 4, 8] c_join_Join_Label_r3 [0, 1, 4, 8])
  .ret)))
def v_join_Join_Label : List Nat := [0, 1, 4, 8]
abbrev n_join_Join_Label : Nat := 16
theorem s_join_Join_Label : stripF Try.prog [4] v_join_Join_Label Try.f16 = some (c_join_Join_Label, [(.tmp 4)]) := by kernel_rfl
theorem go_join_Join_Label {L : List (List Nat)} {args : List AVal} {h : Heap} {Q : AVal → Heap → Prop} (hl : args.length = 2) (H : Wlk Try.prog [4] Try.f16.ntmps v_join_Join_Label L c_join_Join_Label (ends L [(.tmp 4)] Q) (entry v_join_Join_Label args h)) : ACalls Try.prog L n_join_Join_Label args h Q :=
  acalls_of_strip mix Try.func16 s_join_Join_Label (by rw [hl]; exact Nat.le_of_ble_eq_true rfl) H


def c_garlandref06_Join_Label_r0 : List GOp := [(none, (.asg 4 (.c (.int .i64 0)) true))]

def c_garlandref06_Join_Label_r1 : List GOp := [(none, (.r (.mov 5 (.t 0)))),
  (none, (.r (.mov 6 (.t 1)))),
  (none, (.call 7 (.f 24) [((.t 5), false), ((.t 6), false)])),
  (none, (.r (.notb 8 (.t 7))))]

def c_garlandref06_Join_Label_r2 : List GOp := [(none, (.asg 4 (.c (.int .i64 (-(0 + 1)))) true))]

def c_garlandref06_Join_Label_r3 : List GOp := [(none, (.r (.mov 9 (.t 0)))),
  (none, (.r (.nilck 10 (.t 9)))),
  (none, (.r (.fldA 11 (.t 10) 1))),
  (none, (.r (.ld 12 (.t 11) 1 false))),
  (none, (.r (.mov 13 (.t 1)))),
  (none, (.r (.idxA 14 (.t 12) (.t 13) 1))),
  (none, (.r (.ld 15 (.t 14) 1 false))),
  (none, (.asg 4 (.t 15) true))]

def c_garlandref06_Join_Label : ACode :=
  (.seq
  (.reg [0, 1, 4, 8] c_garlandref06_Join_Label_r0 [0, 1, 4, 8])
  (.seq
  (.seq
  (.reg [0, 1, 4] c_garlandref06_Join_Label_r1 [0, 1, 4, 8])
  (.cond (.t 8) (.seq
  (.reg [0, 1, 4, 8] c_garlandref06_Join_Label_r2 [0, 1, 4, 8])
  .ret) .skip))
  (.seq
  (.reg [0, 1, 4, 8] c_garlandref06_Join_Label_r3 [0, 1, 4, 8])
  .ret)))
def v_garlandref06_Join_Label : List Nat := [0, 1, 4, 8]
abbrev n_garlandref06_Join_Label : Nat := 17
theorem s_garlandref06_Join_Label : stripF Try.prog [4] v_garlandref06_Join_Label Try.f17 = some (c_garlandref06_Join_Label, [(.tmp 4)]) := by kernel_rfl
theorem go_garlandref06_Join_Label {L : List (List Nat)} {args : List AVal} {h : Heap} {Q : AVal → Heap → Prop} (hl : args.length = 2) (H : Wlk Try.prog [4] Try.f17.ntmps v_garlandref06_Join_Label L c_garlandref06_Join_Label (ends L [(.tmp 4)] Q) (entry v_garlandref06_Join_Label args h)) : ACalls Try.prog L n_garlandref06_Join_Label args h Q :=
  acalls_of_strip mix Try.func17 s_garlandref06_Join_Label (by rw [hl]; exact Nat.le_of_ble_eq_true rfl) H


def c_garlandhelp_Lists_r0 : List GOp := [(none, (.asg 4 (.c (.bool false)) true))]

def c_garlandhelp_Lists_r1 : List GOp := [(none, (.r (.mov 5 (.t 0)))),
  (none, (.r (.mov 6 (.t 1)))),
  (none, (.call 7 (.f 25) [((.t 5), false), ((.t 6), false), ((.f 26), false)])),
  (none, (.asg 4 (.t 7) true))]

def c_garlandhelp_Lists : ACode :=
  (.seq
  (.reg [0, 1, 4] c_garlandhelp_Lists_r0 [0, 1, 4])
  (.seq
  (.reg [0, 1, 4] c_garlandhelp_Lists_r1 [0, 1, 4])
  .ret))
def v_garlandhelp_Lists : List Nat := [0, 1, 4]
abbrev n_garlandhelp_Lists : Nat := 18
theorem s_garlandhelp_Lists : stripF Try.prog [4] v_garlandhelp_Lists Try.f18 = some (c_garlandhelp_Lists, [(.tmp 4)]) := by kernel_rfl
theorem go_garlandhelp_Lists {L : List (List Nat)} {args : List AVal} {h : Heap} {Q : AVal → Heap → Prop} (hl : args.length = 2) (H : Wlk Try.prog [4] Try.f18.ntmps v_garlandhelp_Lists L c_garlandhelp_Lists (ends L [(.tmp 4)] Q) (entry v_garlandhelp_Lists args h)) : ACalls Try.prog L n_garlandhelp_Lists args h Q :=
  acalls_of_strip mix Try.func18 s_garlandhelp_Lists (by rw [hl]; exact Nat.le_of_ble_eq_true rfl) H


def c_join_Join_Sets_r0 : List GOp := [(none, (.asg 2 (.c (.slice none 0 0)) true))]

def c_join_Join_Sets_r1 : List GOp := [(none, (.r (.mov 8 (.t 0)))),
  (none, (.r (.bin 9 .eql 2 (.t 8) (.c (.pointer none)))))]

def c_join_Join_Sets_r2 : List GOp := [(none, (.asg 2 (.c (.slice none 0 0)) true))]

def c_join_Join_Sets_r3 : List GOp := [(none, (.asg 3 (.c (.slice none 0 0)) true))]

def c_join_Join_Sets_r4 : List GOp := [(none, (.r (.mov 10 (.t 0)))),
  (none, (.r (.nilck 11 (.t 10)))),
  (none, (.r (.fldA 12 (.t 11) 0))),
  (none, (.r (.ld 13 (.t 12) 1 false))),
  (none, (.r (.len 14 (.t 13)))),
  (none, (.mk 15 (.t 14) (.t 14) 1 8 [(.int .i64 0)])),
  (none, (.asg 4 (.t 15) true))]

def c_join_Join_Sets_r5 : List GOp := [(none, (.r (.mov 16 (.t 0)))),
  (none, (.mkfn 17 (.func 14) [((.t 16), false)] [])),
  (none, (.asg 5 (.t 17) true))]

def c_join_Join_Sets_r6 : List GOp := [(none, (.r (.mov 18 (.t 0)))),
  (none, (.r (.nilck 19 (.t 18)))),
  (none, (.r (.fldA 20 (.t 19) 0))),
  (none, (.r (.ld 21 (.t 20) 1 false))),
  (none, (.r (.len 22 (.t 21)))),
  (none, (.r (.mov 23 (.c (.int .i64 0)))))]

def c_join_Join_Sets_r7 : List GOp := [(none, (.r (.bin 24 .lss 0 (.t 23) (.t 22))))]

def c_join_Join_Sets_r8 : List GOp := [(none, (.r (.mov 25 (.t 23)))),
  (none, (.asg 6 (.t 25) true))]

def c_join_Join_Sets_r9 : List GOp := [(none, (.r (.mov 26 (.t 5)))),
  (none, (.r (.mov 27 (.t 6)))),
  (none, (.call 28 (.t 26) [((.t 27), false)])),
  (none, (.asg 7 (.t 28) true))]

def c_join_Join_Sets_r10 : List GOp := [(none, (.r (.mov 29 (.t 7)))),
  (none, (.r (.mov 30 (.t 6)))),
  (none, (.r (.bin 31 .eql 0 (.t 29) (.t 30))))]

def c_join_Join_Sets_r11 : List GOp := [(none, (.r (.mov 32 (.t 4)))),
  (none, (.r (.mov 33 (.t 6)))),
  (none, (.r (.mov 34 (.t 3)))),
  (none, (.r (.len 35 (.t 34)))),
  (none, (.r (.idxA 36 (.t 32) (.t 33) 1))),
  (none, (.st (.t 36) (.t 35) 1))]

def c_join_Join_Sets_r12 : List GOp := [(none, (.r (.mov 37 (.t 3)))),
  (none, (.blds 38 1 1 [((0, 1), ((.c (.slice none 0 0)), true))] [(.slice none 0 0)])),
  (none, (.app 39 (.t 37) (.t 38) 1 24)),
  (none, (.asg 3 (.t 39) true))]

def c_join_Join_Sets_r13 : Tree := 
  (.take [15, 16] (none, (.r (.mov 40 (.t 3)))) 
  (.take [3, 4, 15, 16] (none, (.r (.mov 41 (.t 4)))) 
  (.take [3, 4, 15, 16] (none, (.r (.mov 42 (.t 7)))) 
  (.take [4, 15, 16] (none, (.r (.idxA 43 (.t 41) (.t 42) 1))) 
  (.take [15, 16] (none, (.r (.ld 44 (.t 43) 1 false))) 
  (.take [10, 11, 14, 15, 16] (none, (.r (.mov 45 (.t 3)))) 
  (.take [8, 9, 10, 11, 14, 15, 16] (none, (.r (.mov 46 (.t 4)))) 
  (.take [8, 9, 10, 11, 14, 15, 16] (none, (.r (.mov 47 (.t 7)))) 
  (.take [9, 10, 11, 14, 15, 16] (none, (.r (.idxA 48 (.t 46) (.t 47) 1))) 
  (.take [10, 11, 14, 15, 16] (none, (.r (.ld 49 (.t 48) 1 false))) 
  (.take [11, 14, 15, 16] (none, (.r (.idxA 50 (.t 45) (.t 49) 1))) 
  (.take [14, 15, 16] (none, (.r (.ld 51 (.t 50) 1 false))) 
  (.take [13, 14, 15, 16] (none, (.r (.mov 52 (.t 6)))) 
  (.one 13 (none, (.blds 53 1 1 [((0, 1), ((.t 52), true))] [(.int .i64 0)])) 
  (.one 14 (none, (.app 54 (.t 51) (.t 53) 1 8)) 
  (.take [16] (none, (.r (.idxA 55 (.t 40) (.t 44) 1))) 
  (.one 16 (none, (.st (.t 55) (.t 54) 1)) .done)))))))))))))))))

def c_join_Join_Sets_r14 : List GOp := [(none, (.r (.bin 56 .add 0 (.t 23) (.c (.int .i64 1))))),
  (none, (.asg 23 (.t 56) true))]

def c_join_Join_Sets_r15 : List GOp := [(none, (.r (.mov 57 (.t 3)))),
  (none, (.asg 2 (.t 57) true))]

def c_join_Join_Sets : ACode :=
  (.seq
  (.reg [0, 2, 3, 4, 5, 6, 7, 9, 22, 23, 24, 31] c_join_Join_Sets_r0 [0, 2, 3, 4, 5, 6, 7, 9, 22, 23, 24, 31])
  (.seq
  (.seq
  (.reg [0, 2, 3, 4, 5, 6, 7, 22, 23, 24, 31] c_join_Join_Sets_r1 [0, 2, 3, 4, 5, 6, 7, 9, 22, 23, 24, 31])
  (.cond (.t 9) (.seq
  (.reg [0, 2, 3, 4, 5, 6, 7, 9, 22, 23, 24, 31] c_join_Join_Sets_r2 [0, 2, 3, 4, 5, 6, 7, 9, 22, 23, 24, 31])
  .ret) .skip))
  (.seq
  (.reg [0, 2, 3, 4, 5, 6, 7, 9, 22, 23, 24, 31] c_join_Join_Sets_r3 [0, 2, 3, 4, 5, 6, 7, 9, 22, 23, 24, 31])
  (.seq
  (.reg [0, 2, 3, 4, 5, 6, 7, 9, 22, 23, 24, 31] c_join_Join_Sets_r4 [0, 2, 3, 4, 5, 6, 7, 9, 22, 23, 24, 31])
  (.seq
  (.reg [0, 2, 3, 4, 5, 6, 7, 9, 22, 23, 24, 31] c_join_Join_Sets_r5 [0, 2, 3, 4, 5, 6, 7, 9, 22, 23, 24, 31])
  (.seq
  (.seq
  (.reg [0, 2, 3, 4, 5, 6, 7, 9, 24, 31] c_join_Join_Sets_r6 [0, 2, 3, 4, 5, 6, 7, 9, 22, 23, 24, 31])
  (.blk 0 (.loop (.seq
  (.reg [0, 2, 3, 4, 5, 6, 7, 9, 22, 23, 31] c_join_Join_Sets_r7 [0, 2, 3, 4, 5, 6, 7, 9, 22, 23, 24, 31])
  (.seq
  (.cond (.t 24) .skip (.exit 0))
  (.seq
  (.blk 1 (.seq
  (.reg [0, 2, 3, 4, 5, 6, 7, 9, 22, 23, 24, 31] c_join_Join_Sets_r8 [0, 2, 3, 4, 5, 6, 7, 9, 22, 23, 24, 31])
  (.seq
  (.reg [0, 2, 3, 4, 5, 6, 7, 9, 22, 23, 24, 31] c_join_Join_Sets_r9 [0, 2, 3, 4, 5, 6, 7, 9, 22, 23, 24, 31])
  (.seq
  (.seq
  (.reg [0, 2, 3, 4, 5, 6, 7, 9, 22, 23, 24] c_join_Join_Sets_r10 [0, 2, 3, 4, 5, 6, 7, 9, 22, 23, 24, 31])
  (.cond (.t 31) (.seq
  (.reg [0, 2, 3, 4, 5, 6, 7, 9, 22, 23, 24, 31] c_join_Join_Sets_r11 [0, 2, 3, 4, 5, 6, 7, 9, 22, 23, 24, 31])
  (.reg [0, 2, 3, 4, 5, 6, 7, 9, 22, 23, 24, 31] c_join_Join_Sets_r12 [0, 2, 3, 4, 5, 6, 7, 9, 22, 23, 24, 31])) .skip))
  (.draw [0, 2, 3, 4, 5, 6, 7, 9, 22, 23, 24, 31] c_join_Join_Sets_r13 [0, 2, 3, 4, 5, 6, 7, 9, 22, 23, 24, 31])))))
  (.reg [0, 2, 3, 4, 5, 6, 7, 9, 22, 23, 24, 31] c_join_Join_Sets_r14 [0, 2, 3, 4, 5, 6, 7, 9, 22, 23, 24, 31])))))))
  (.seq
  (.reg [0, 2, 3, 4, 5, 6, 7, 9, 22, 23, 24, 31] c_join_Join_Sets_r15 [0, 2, 3, 4, 5, 6, 7, 9, 22, 23, 24, 31])
  .ret)))))))
def v_join_Join_Sets : List Nat := [0, 2, 3, 4, 5, 6, 7, 9, 22, 23, 24, 31]
abbrev n_join_Join_Sets : Nat := 19
theorem s_join_Join_Sets : stripF Try.prog [2] v_join_Join_Sets Try.f19 = some (c_join_Join_Sets, [(.tmp 2)]) := by kernel_rfl
theorem go_join_Join_Sets {L : List (List Nat)} {args : List AVal} {h : Heap} {Q : AVal → Heap → Prop} (hl : args.length = 1) (H : Wlk Try.prog [2] Try.f19.ntmps v_join_Join_Sets L c_join_Join_Sets (ends L [(.tmp 2)] Q) (entry v_join_Join_Sets args h)) : ACalls Try.prog L n_join_Join_Sets args h Q :=
  acalls_of_strip mix Try.func19 s_join_Join_Sets (by rw [hl]; exact Nat.le_of_ble_eq_true rfl) H


def c_join_Join_Same_r0 : List GOp := [(none, (.asg 6 (.c (.bool false)) true))]

def c_join_Join_Same_r1 : List GOp := [(none, (.r (.mov 7 (.t 0)))),
  (none, (.r (.mov 8 (.t 1)))),
  (none, (.call 9 (.f 22) [((.t 7), false), ((.t 8), false)])),
  (none, (.r (.mov 10 (.t 9)))), ((some (10, true)), (.r (.mov 11 (.t 0)))), ((some (10, true)), (.r (.mov 12 (.t 2)))), ((some (10, true)), (.call 13 (.f 22) [((.t 11), false), ((.t 12), false)])),
  (none, (.r (.pick 14 (.t 10) (.t 13) (.c (.bool false))))),
  (none, (.r (.mov 15 (.t 14)))), ((some (15, true)), (.r (.mov 16 (.t 0)))), ((some (15, true)), (.r (.mov 17 (.t 1)))), ((some (15, true)), (.call 18 (.f 23) [((.t 16), false), ((.t 17), false)])), ((some (15, true)), (.r (.mov 19 (.t 0)))), ((some (15, true)), (.r (.mov 20 (.t 2)))), ((some (15, true)), (.call 21 (.f 23) [((.t 19), false), ((.t 20), false)])), ((some (15, true)), (.r (.bin 22 .eql 0 (.t 18) (.t 21)))),
  (none, (.r (.pick 23 (.t 15) (.t 22) (.c (.bool false))))),
  (none, (.asg 6 (.t 23) true))]

def c_join_Join_Same : ACode :=
  (.seq
  (.reg [0, 1, 2, 6] c_join_Join_Same_r0 [0, 1, 2, 6])
  (.seq
  (.reg [0, 1, 2, 6] c_join_Join_Same_r1 [0, 1, 2, 6])
  .ret))
def v_join_Join_Same : List Nat := [0, 1, 2, 6]
abbrev n_join_Join_Same : Nat := 20
theorem s_join_Join_Same : stripF Try.prog [6] v_join_Join_Same Try.f20 = some (c_join_Join_Same, [(.tmp 6)]) := by kernel_rfl
theorem go_join_Join_Same {L : List (List Nat)} {args : List AVal} {h : Heap} {Q : AVal → Heap → Prop} (hl : args.length = 3) (H : Wlk Try.prog [6] Try.f20.ntmps v_join_Join_Same L c_join_Join_Same (ends L [(.tmp 6)] Q) (entry v_join_Join_Same args h)) : ACalls Try.prog L n_join_Join_Same args h Q :=
  acalls_of_strip mix Try.func20 s_join_Join_Same (by rw [hl]; exact Nat.le_of_ble_eq_true rfl) H


def c_garlandref06_Join_Same_r0 : List GOp := [(none, (.asg 6 (.c (.bool false)) true))]

def c_garlandref06_Join_Same_r1 : Tree := 
  (.take [2, 3, 4, 5, 6, 7, 8, 9, 10, 11, 12, 13, 14, 15, 16, 17, 18, 19, 20, 21, 22, 23, 24, 25] (none, (.r (.mov 7 (.t 0)))) 
  (.take [2, 3, 4, 5, 6, 7, 8, 9, 10, 11, 12, 13, 14, 15, 16, 17, 18, 19, 20, 21, 22, 23, 24, 25] (none, (.r (.mov 8 (.t 1)))) 
  (.one 2 (none, (.call 9 (.f 24) [((.t 7), false), ((.t 8), false)])) 
  (.take [4, 5, 6, 7, 8, 9, 10, 11, 12, 13, 14, 15, 16, 17, 18, 19, 20, 21, 22, 23, 24, 25] (none, (.r (.mov 10 (.t 9)))) 
  (.take [6, 7, 8, 9, 10, 11, 12, 13, 14, 15, 16, 17, 18, 19, 20, 21, 22, 23, 24, 25] ((some (10, true)), (.r (.mov 11 (.t 0)))) 
  (.take [6, 7, 8, 9, 10, 11, 12, 13, 14, 15, 16, 17, 18, 19, 20, 21, 22, 23, 24, 25] ((some (10, true)), (.r (.mov 12 (.t 2)))) 
  (.one 6 ((some (10, true)), (.call 13 (.f 24) [((.t 11), false), ((.t 12), false)])) 
  (.take [8, 9, 10, 11, 12, 13, 14, 15, 16, 17, 18, 19, 20, 21, 22, 23, 24, 25] (none, (.r (.pick 14 (.t 10) (.t 13) (.c (.bool false))))) 
  (.take [9, 10, 11, 12, 13, 14, 15, 16, 17, 18, 19, 20, 21, 22, 23, 24, 25] (none, (.r (.mov 15 (.t 14)))) 
  (.take [10, 11, 12, 14, 15, 23, 24, 25] ((some (15, true)), (.r (.mov 16 (.t 0)))) 
  (.take [11, 12, 14, 15, 23, 24, 25] ((some (15, true)), (.r (.nilck 17 (.t 16)))) 
  (.take [12, 14, 15, 23, 24, 25] ((some (15, true)), (.r (.fldA 18 (.t 17) 0))) 
  (.take [14, 15, 23, 24, 25] ((some (15, true)), (.r (.ld 19 (.t 18) 1 false))) 
  (.take [14, 15, 23, 24, 25] ((some (15, true)), (.r (.mov 20 (.t 1)))) 
  (.take [15, 23, 24, 25] ((some (15, true)), (.r (.idxA 21 (.t 19) (.t 20) 1))) 
  (.take [23, 24, 25] ((some (15, true)), (.r (.ld 22 (.t 21) 1 false))) 
  (.take [17, 18, 19, 21, 22, 23, 24, 25] ((some (15, true)), (.r (.mov 23 (.t 0)))) 
  (.take [18, 19, 21, 22, 23, 24, 25] ((some (15, true)), (.r (.nilck 24 (.t 23)))) 
  (.take [19, 21, 22, 23, 24, 25] ((some (15, true)), (.r (.fldA 25 (.t 24) 0))) 
  (.take [21, 22, 23, 24, 25] ((some (15, true)), (.r (.ld 26 (.t 25) 1 false))) 
  (.take [21, 22, 23, 24, 25] ((some (15, true)), (.r (.mov 27 (.t 2)))) 
  (.take [22, 23, 24, 25] ((some (15, true)), (.r (.idxA 28 (.t 26) (.t 27) 1))) 
  (.take [23, 24, 25] ((some (15, true)), (.r (.ld 29 (.t 28) 1 false))) 
  (.take [24, 25] ((some (15, true)), (.r (.bin 30 .eql 0 (.t 22) (.t 29)))) 
  (.take [25] (none, (.r (.pick 31 (.t 15) (.t 30) (.c (.bool false))))) 
  (.one 25 (none, (.asg 6 (.t 31) true)) .done))))))))))))))))))))))))))

def c_garlandref06_Join_Same : ACode :=
  (.seq
  (.reg [0, 1, 2, 6] c_garlandref06_Join_Same_r0 [0, 1, 2, 6])
  (.seq
  (.draw [0, 1, 2, 6] c_garlandref06_Join_Same_r1 [0, 1, 2, 6])
  .ret))
def v_garlandref06_Join_Same : List Nat := [0, 1, 2, 6]
abbrev n_garlandref06_Join_Same : Nat := 21
theorem s_garlandref06_Join_Same : stripF Try.prog [6] v_garlandref06_Join_Same Try.f21 = some (c_garlandref06_Join_Same, [(.tmp 6)]) := by kernel_rfl
theorem go_garlandref06_Join_Same {L : List (List Nat)} {args : List AVal} {h : Heap} {Q : AVal → Heap → Prop} (hl : args.length = 3) (H : Wlk Try.prog [6] Try.f21.ntmps v_garlandref06_Join_Same L c_garlandref06_Join_Same (ends L [(.tmp 6)] Q) (entry v_garlandref06_Join_Same args h)) : ACalls Try.prog L n_garlandref06_Join_Same args h Q :=
  acalls_of_strip mix Try.func21 s_garlandref06_Join_Same (by rw [hl]; exact Nat.le_of_ble_eq_true rfl) H


def c_join_Join_is_r0 : List GOp := [(none, (.asg 4 (.c (.bool false)) true))]

def c_join_Join_is_r1 : List GOp := [(none, (.r (.mov 5 (.t 0)))),
  (none, (.r (.bin 6 .neq 2 (.t 5) (.c (.pointer none))))),
  (none, (.r (.mov 7 (.t 6)))), ((some (7, true)), (.r (.mov 8 (.t 1)))), ((some (7, true)), (.r (.bin 9 .geq 0 (.t 8) (.c (.int .i64 0))))),
  (none, (.r (.pick 10 (.t 7) (.t 9) (.c (.bool false))))),
  (none, (.r (.mov 11 (.t 10)))), ((some (11, true)), (.r (.mov 12 (.t 1)))), ((some (11, true)), (.r (.mov 13 (.t 0)))), ((some (11, true)), (.r (.nilck 14 (.t 13)))), ((some (11, true)), (.r (.fldA 15 (.t 14) 0))), ((some (11, true)), (.r (.ld 16 (.t 15) 1 false))), ((some (11, true)), (.r (.len 17 (.t 16)))), ((some (11, true)), (.r (.bin 18 .lss 0 (.t 12) (.t 17)))),
  (none, (.r (.pick 19 (.t 11) (.t 18) (.c (.bool false))))),
  (none, (.asg 4 (.t 19) true))]

def c_join_Join_is : ACode :=
  (.seq
  (.reg [0, 1, 4] c_join_Join_is_r0 [0, 1, 4])
  (.seq
  (.reg [0, 1, 4] c_join_Join_is_r1 [0, 1, 4])
  .ret))
def v_join_Join_is : List Nat := [0, 1, 4]
abbrev n_join_Join_is : Nat := 22
theorem s_join_Join_is : stripF Try.prog [4] v_join_Join_is Try.f22 = some (c_join_Join_is, [(.tmp 4)]) := by kernel_rfl
theorem go_join_Join_is {L : List (List Nat)} {args : List AVal} {h : Heap} {Q : AVal → Heap → Prop} (hl : args.length = 2) (H : Wlk Try.prog [4] Try.f22.ntmps v_join_Join_is L c_join_Join_is (ends L [(.tmp 4)] Q) (entry v_join_Join_is args h)) : ACalls Try.prog L n_join_Join_is args h Q :=
  acalls_of_strip mix Try.func22 s_join_Join_is (by rw [hl]; exact Nat.le_of_ble_eq_true rfl) H


def c_join_Join_first_r0 : List GOp := [(none, (.asg 4 (.c (.int .i64 0)) true))]

def c_join_Join_first_r1 : List GOp := [(none, (.r (.mov 5 (.t 0)))),
  (none, (.r (.nilck 6 (.t 5)))),
  (none, (.r (.fldA 7 (.t 6) 0))),
  (none, (.r (.ld 8 (.t 7) 1 false))),
  (none, (.r (.mov 9 (.t 1)))),
  (none, (.r (.idxA 10 (.t 8) (.t 9) 1))),
  (none, (.r (.ld 11 (.t 10) 1 false))),
  (none, (.r (.mov 12 (.t 1)))),
  (none, (.r (.bin 13 .neq 0 (.t 11) (.t 12))))]

def c_join_Join_first_r2 : Tree := 
  (.take [1, 2, 3, 18, 19] (none, (.r (.mov 14 (.t 0)))) 
  (.take [2, 3, 18, 19] (none, (.r (.nilck 15 (.t 14)))) 
  (.take [3, 18, 19] (none, (.r (.fldA 16 (.t 15) 0))) 
  (.take [18, 19] (none, (.r (.ld 17 (.t 16) 1 false))) 
  (.take [18, 19] (none, (.r (.mov 18 (.t 1)))) 
  (.take [6, 7, 8, 16, 17, 18, 19] (none, (.r (.mov 19 (.t 0)))) 
  (.take [7, 8, 16, 17, 18, 19] (none, (.r (.nilck 20 (.t 19)))) 
  (.take [8, 16, 17, 18, 19] (none, (.r (.fldA 21 (.t 20) 0))) 
  (.take [16, 17, 18, 19] (none, (.r (.ld 22 (.t 21) 1 false))) 
  (.take [10, 11, 12, 14, 15, 16, 17, 18, 19] (none, (.r (.mov 23 (.t 0)))) 
  (.take [11, 12, 14, 15, 16, 17, 18, 19] (none, (.r (.nilck 24 (.t 23)))) 
  (.take [12, 14, 15, 16, 17, 18, 19] (none, (.r (.fldA 25 (.t 24) 0))) 
  (.take [14, 15, 16, 17, 18, 19] (none, (.r (.ld 26 (.t 25) 1 false))) 
  (.take [14, 15, 16, 17, 18, 19] (none, (.r (.mov 27 (.t 1)))) 
  (.take [15, 16, 17, 18, 19] (none, (.r (.idxA 28 (.t 26) (.t 27) 1))) 
  (.take [16, 17, 18, 19] (none, (.r (.ld 29 (.t 28) 1 false))) 
  (.take [17, 18, 19] (none, (.r (.idxA 30 (.t 22) (.t 29) 1))) 
  (.take [18, 19] (none, (.r (.ld 31 (.t 30) 1 false))) 
  (.take [19] (none, (.r (.idxA 32 (.t 17) (.t 18) 1))) 
  (.one 19 (none, (.st (.t 32) (.t 31) 1)) .done))))))))))))))))))))

def c_join_Join_first_r3 : List GOp := [(none, (.r (.mov 33 (.t 0)))),
  (none, (.r (.nilck 34 (.t 33)))),
  (none, (.r (.fldA 35 (.t 34) 0))),
  (none, (.r (.ld 36 (.t 35) 1 false))),
  (none, (.r (.mov 37 (.t 1)))),
  (none, (.r (.idxA 38 (.t 36) (.t 37) 1))),
  (none, (.r (.ld 39 (.t 38) 1 false))),
  (none, (.asg 1 (.t 39) true))]

def c_join_Join_first_r4 : List GOp := [(none, (.r (.mov 40 (.t 1)))),
  (none, (.asg 4 (.t 40) true))]

def c_join_Join_first : ACode :=
  (.seq
  (.reg [0, 1, 4, 13] c_join_Join_first_r0 [0, 1, 4, 13])
  (.seq
  (.blk 0 (.loop (.seq
  (.seq
  (.reg [0, 1, 4] c_join_Join_first_r1 [0, 1, 4, 13])
  (.cond (.t 13) .skip (.exit 0)))
  (.blk 1 (.seq
  (.draw [0, 1, 4, 13] c_join_Join_first_r2 [0, 1, 4, 13])
  (.reg [0, 1, 4, 13] c_join_Join_first_r3 [0, 1, 4, 13]))))))
  (.seq
  (.reg [0, 1, 4, 13] c_join_Join_first_r4 [0, 1, 4, 13])
  .ret)))
def v_join_Join_first : List Nat := [0, 1, 4, 13]
abbrev n_join_Join_first : Nat := 23
theorem s_join_Join_first : stripF Try.prog [4] v_join_Join_first Try.f23 = some (c_join_Join_first, [(.tmp 4)]) := by kernel_rfl
theorem go_join_Join_first {L : List (List Nat)} {args : List AVal} {h : Heap} {Q : AVal → Heap → Prop} (hl : args.length = 2) (H : Wlk Try.prog [4] Try.f23.ntmps v_join_Join_first L c_join_Join_first (ends L [(.tmp 4)] Q) (entry v_join_Join_first args h)) : ACalls Try.prog L n_join_Join_first args h Q :=
  acalls_of_strip mix Try.func23 s_join_Join_first (by rw [hl]; exact Nat.le_of_ble_eq_true rfl) H


def c_garlandref06_Join_is_r0 : List GOp := [(none, (.asg 4 (.c (.bool false)) true))]

def c_garlandref06_Join_is_r1 : List GOp := [(none, (.r (.mov 5 (.t 1)))),
  (none, (.r (.bin 6 .geq 0 (.t 5) (.c (.int .i64 0))))),
  (none, (.r (.mov 7 (.t 6)))), ((some (7, true)), (.r (.mov 8 (.t 1)))), ((some (7, true)), (.r (.mov 9 (.t 0)))), ((some (7, true)), (.r (.nilck 10 (.t 9)))), ((some (7, true)), (.r (.fldA 11 (.t 10) 0))), ((some (7, true)), (.r (.ld 12 (.t 11) 1 false))), ((some (7, true)), (.r (.len 13 (.t 12)))), ((some (7, true)), (.r (.bin 14 .lss 0 (.t 8) (.t 13)))),
  (none, (.r (.pick 15 (.t 7) (.t 14) (.c (.bool false))))),
  (none, (.asg 4 (.t 15) true))]

def c_garlandref06_Join_is : ACode :=
  (.seq
  (.reg [0, 1, 4] c_garlandref06_Join_is_r0 [0, 1, 4])
  (.seq
  (.reg [0, 1, 4] c_garlandref06_Join_is_r1 [0, 1, 4])
  .ret))
def v_garlandref06_Join_is : List Nat := [0, 1, 4]
abbrev n_garlandref06_Join_is : Nat := 24
theorem s_garlandref06_Join_is : stripF Try.prog [4] v_garlandref06_Join_is Try.f24 = some (c_garlandref06_Join_is, [(.tmp 4)]) := by kernel_rfl
theorem go_garlandref06_Join_is {L : List (List Nat)} {args : List AVal} {h : Heap} {Q : AVal → Heap → Prop} (hl : args.length = 2) (H : Wlk Try.prog [4] Try.f24.ntmps v_garlandref06_Join_is L c_garlandref06_Join_is (ends L [(.tmp 4)] Q) (entry v_garlandref06_Join_is args h)) : ACalls Try.prog L n_garlandref06_Join_is args h Q :=
  acalls_of_strip mix Try.func24 s_garlandref06_Join_is (by rw [hl]; exact Nat.le_of_ble_eq_true rfl) H


def c_garlandhelp_Same___int__r0 : List GOp := [(none, (.asg 6 (.c (.bool false)) true))]

def c_garlandhelp_Same___int__r1 : List GOp := [(none, (.r (.mov 8 (.t 0)))),
  (none, (.r (.len 9 (.t 8)))),
  (none, (.r (.mov 10 (.t 1)))),
  (none, (.r (.len 11 (.t 10)))),
  (none, (.r (.bin 12 .neq 0 (.t 9) (.t 11))))]

def c_garlandhelp_Same___int__r2 : List GOp := [(none, (.asg 6 (.c (.bool false)) true))]

def c_garlandhelp_Same___int__r3 : List GOp := [(none, (.asg 7 (.c (.int .i64 0)) true))]

def c_garlandhelp_Same___int__r4 : List GOp := [(none, (.r (.mov 13 (.t 7)))),
  (none, (.r (.mov 14 (.t 0)))),
  (none, (.r (.len 15 (.t 14)))),
  (none, (.r (.bin 16 .lss 0 (.t 13) (.t 15))))]

def c_garlandhelp_Same___int__r5 : Tree := 
  (.take [9, 10] (none, (.r (.mov 19 (.t 2)))) 
  (.take [3, 4, 9, 10] (none, (.r (.mov 20 (.t 0)))) 
  (.take [3, 4, 9, 10] (none, (.r (.mov 21 (.t 7)))) 
  (.take [4, 9, 10] (none, (.r (.idxA 22 (.t 20) (.t 21) 1))) 
  (.take [9, 10] (none, (.r (.ld 23 (.t 22) 1 false))) 
  (.take [7, 8, 9, 10] (none, (.r (.mov 24 (.t 1)))) 
  (.take [7, 8, 9, 10] (none, (.r (.mov 25 (.t 7)))) 
  (.take [8, 9, 10] (none, (.r (.idxA 26 (.t 24) (.t 25) 1))) 
  (.take [9, 10] (none, (.r (.ld 27 (.t 26) 1 false))) 
  (.one 9 (none, (.call 28 (.t 19) [((.t 23), false), ((.t 27), false)])) 
  (.take [] (none, (.r (.notb 29 (.t 28)))) .done)))))))))))

def c_garlandhelp_Same___int__r6 : List GOp := [(none, (.asg 6 (.c (.bool false)) true))]

def c_garlandhelp_Same___int__r7 : List GOp := [(none, (.r (.mov 17 (.t 7)))),
  (none, (.r (.bin 18 .add 0 (.t 17) (.c (.int .i64 1))))),
  (none, (.asg 7 (.t 18) true))]

def c_garlandhelp_Same___int__r8 : List GOp := [(none, (.asg 6 (.c (.bool true)) true))]

def c_garlandhelp_Same___int_ : ACode :=
  (.seq
  (.reg [0, 1, 2, 6, 7, 12, 16, 29] c_garlandhelp_Same___int__r0 [0, 1, 2, 6, 7, 12, 16, 29])
  (.seq
  (.seq
  (.reg [0, 1, 2, 6, 7, 16, 29] c_garlandhelp_Same___int__r1 [0, 1, 2, 6, 7, 12, 16, 29])
  (.cond (.t 12) (.seq
  (.reg [0, 1, 2, 6, 7, 12, 16, 29] c_garlandhelp_Same___int__r2 [0, 1, 2, 6, 7, 12, 16, 29])
  .ret) .skip))
  (.seq
  (.seq
  (.reg [0, 1, 2, 6, 7, 12, 16, 29] c_garlandhelp_Same___int__r3 [0, 1, 2, 6, 7, 12, 16, 29])
  (.blk 0 (.loop (.seq
  (.seq
  (.reg [0, 1, 2, 6, 7, 12, 29] c_garlandhelp_Same___int__r4 [0, 1, 2, 6, 7, 12, 16, 29])
  (.cond (.t 16) .skip (.exit 0)))
  (.seq
  (.blk 1 (.seq
  (.draw [0, 1, 2, 6, 7, 12, 16] c_garlandhelp_Same___int__r5 [0, 1, 2, 6, 7, 12, 16, 29])
  (.cond (.t 29) (.seq
  (.reg [0, 1, 2, 6, 7, 12, 16, 29] c_garlandhelp_Same___int__r6 [0, 1, 2, 6, 7, 12, 16, 29])
  .ret) .skip)))
  (.reg [0, 1, 2, 6, 7, 12, 16, 29] c_garlandhelp_Same___int__r7 [0, 1, 2, 6, 7, 12, 16, 29]))))))
  (.seq
  (.reg [0, 1, 2, 6, 7, 12, 16, 29] c_garlandhelp_Same___int__r8 [0, 1, 2, 6, 7, 12, 16, 29])
  .ret))))
def v_garlandhelp_Same___int_ : List Nat := [0, 1, 2, 6, 7, 12, 16, 29]
abbrev n_garlandhelp_Same___int_ : Nat := 25
theorem s_garlandhelp_Same___int_ : stripF Try.prog [6] v_garlandhelp_Same___int_ Try.f25 = some (c_garlandhelp_Same___int_, [(.tmp 6)]) := by kernel_rfl
theorem go_garlandhelp_Same___int_ {L : List (List Nat)} {args : List AVal} {h : Heap} {Q : AVal → Heap → Prop} (hl : args.length = 3) (H : Wlk Try.prog [6] Try.f25.ntmps v_garlandhelp_Same___int_ L c_garlandhelp_Same___int_ (ends L [(.tmp 6)] Q) (entry v_garlandhelp_Same___int_ args h)) : ACalls Try.prog L n_garlandhelp_Same___int_ args h Q :=
  acalls_of_strip mix Try.func25 s_garlandhelp_Same___int_ (by rw [hl]; exact Nat.le_of_ble_eq_true rfl) H


def c_garlandhelp_Plain_int__r0 : List GOp := [(none, (.asg 4 (.c (.bool false)) true))]

def c_garlandhelp_Plain_int__r1 : List GOp := [(none, (.r (.mov 5 (.t 0)))),
  (none, (.r (.mov 6 (.t 1)))),
  (none, (.call 7 (.f 27) [((.t 5), false), ((.t 6), false), ((.f 28), false)])),
  (none, (.asg 4 (.t 7) true))]

def c_garlandhelp_Plain_int_ : ACode :=
  (.seq
  (.reg [0, 1, 4] c_garlandhelp_Plain_int__r0 [0, 1, 4])
  (.seq
  (.reg [0, 1, 4] c_garlandhelp_Plain_int__r1 [0, 1, 4])
  .ret))
def v_garlandhelp_Plain_int_ : List Nat := [0, 1, 4]
abbrev n_garlandhelp_Plain_int_ : Nat := 26
theorem s_garlandhelp_Plain_int_ : stripF Try.prog [4] v_garlandhelp_Plain_int_ Try.f26 = some (c_garlandhelp_Plain_int_, [(.tmp 4)]) := by kernel_rfl
theorem go_garlandhelp_Plain_int_ {L : List (List Nat)} {args : List AVal} {h : Heap} {Q : AVal → Heap → Prop} (hl : args.length = 2) (H : Wlk Try.prog [4] Try.f26.ntmps v_garlandhelp_Plain_int_ L c_garlandhelp_Plain_int_ (ends L [(.tmp 4)] Q) (entry v_garlandhelp_Plain_int_ args h)) : ACalls Try.prog L n_garlandhelp_Plain_int_ args h Q :=
  acalls_of_strip mix Try.func26 s_garlandhelp_Plain_int_ (by rw [hl]; exact Nat.le_of_ble_eq_true rfl) H


def c_garlandhelp_Same_int__r0 : List GOp := [(none, (.asg 6 (.c (.bool false)) true))]

def c_garlandhelp_Same_int__r1 : List GOp := [(none, (.r (.mov 8 (.t 0)))),
  (none, (.r (.len 9 (.t 8)))),
  (none, (.r (.mov 10 (.t 1)))),
  (none, (.r (.len 11 (.t 10)))),
  (none, (.r (.bin 12 .neq 0 (.t 9) (.t 11))))]

def c_garlandhelp_Same_int__r2 : List GOp := [(none, (.asg 6 (.c (.bool false)) true))]

def c_garlandhelp_Same_int__r3 : List GOp := [(none, (.asg 7 (.c (.int .i64 0)) true))]

def c_garlandhelp_Same_int__r4 : List GOp := [(none, (.r (.mov 13 (.t 7)))),
  (none, (.r (.mov 14 (.t 0)))),
  (none, (.r (.len 15 (.t 14)))),
  (none, (.r (.bin 16 .lss 0 (.t 13) (.t 15))))]

def c_garlandhelp_Same_int__r5 : Tree := 
  (.take [9, 10] (none, (.r (.mov 19 (.t 2)))) 
  (.take [3, 4, 9, 10] (none, (.r (.mov 20 (.t 0)))) 
  (.take [3, 4, 9, 10] (none, (.r (.mov 21 (.t 7)))) 
  (.take [4, 9, 10] (none, (.r (.idxA 22 (.t 20) (.t 21) 1))) 
  (.take [9, 10] (none, (.r (.ld 23 (.t 22) 1 false))) 
  (.take [7, 8, 9, 10] (none, (.r (.mov 24 (.t 1)))) 
  (.take [7, 8, 9, 10] (none, (.r (.mov 25 (.t 7)))) 
  (.take [8, 9, 10] (none, (.r (.idxA 26 (.t 24) (.t 25) 1))) 
  (.take [9, 10] (none, (.r (.ld 27 (.t 26) 1 false))) 
  (.one 9 (none, (.call 28 (.t 19) [((.t 23), false), ((.t 27), false)])) 
  (.take [] (none, (.r (.notb 29 (.t 28)))) .done)))))))))))

def c_garlandhelp_Same_int__r6 : List GOp := [(none, (.asg 6 (.c (.bool false)) true))]

def c_garlandhelp_Same_int__r7 : List GOp := [(none, (.r (.mov 17 (.t 7)))),
  (none, (.r (.bin 18 .add 0 (.t 17) (.c (.int .i64 1))))),
  (none, (.asg 7 (.t 18) true))]

def c_garlandhelp_Same_int__r8 : List GOp := [(none, (.asg 6 (.c (.bool true)) true))]

def c_garlandhelp_Same_int_ : ACode :=
  (.seq
  (.reg [0, 1, 2, 6, 7, 12, 16, 29] c_garlandhelp_Same_int__r0 [0, 1, 2, 6, 7, 12, 16, 29])
  (.seq
  (.seq
  (.reg [0, 1, 2, 6, 7, 16, 29] c_garlandhelp_Same_int__r1 [0, 1, 2, 6, 7, 12, 16, 29])
  (.cond (.t 12) (.seq
  (.reg [0, 1, 2, 6, 7, 12, 16, 29] c_garlandhelp_Same_int__r2 [0, 1, 2, 6, 7, 12, 16, 29])
  .ret) .skip))
  (.seq
  (.seq
  (.reg [0, 1, 2, 6, 7, 12, 16, 29] c_garlandhelp_Same_int__r3 [0, 1, 2, 6, 7, 12, 16, 29])
  (.blk 0 (.loop (.seq
  (.seq
  (.reg [0, 1, 2, 6, 7, 12, 29] c_garlandhelp_Same_int__r4 [0, 1, 2, 6, 7, 12, 16, 29])
  (.cond (.t 16) .skip (.exit 0)))
  (.seq
  (.blk 1 (.seq
  (.draw [0, 1, 2, 6, 7, 12, 16] c_garlandhelp_Same_int__r5 [0, 1, 2, 6, 7, 12, 16, 29])
  (.cond (.t 29) (.seq
  (.reg [0, 1, 2, 6, 7, 12, 16, 29] c_garlandhelp_Same_int__r6 [0, 1, 2, 6, 7, 12, 16, 29])
  .ret) .skip)))
  (.reg [0, 1, 2, 6, 7, 12, 16, 29] c_garlandhelp_Same_int__r7 [0, 1, 2, 6, 7, 12, 16, 29]))))))
  (.seq
  (.reg [0, 1, 2, 6, 7, 12, 16, 29] c_garlandhelp_Same_int__r8 [0, 1, 2, 6, 7, 12, 16, 29])
  .ret))))
def v_garlandhelp_Same_int_ : List Nat := [0, 1, 2, 6, 7, 12, 16, 29]
abbrev n_garlandhelp_Same_int_ : Nat := 27
theorem s_garlandhelp_Same_int_ : stripF Try.prog [6] v_garlandhelp_Same_int_ Try.f27 = some (c_garlandhelp_Same_int_, [(.tmp 6)]) := by kernel_rfl
theorem go_garlandhelp_Same_int_ {L : List (List Nat)} {args : List AVal} {h : Heap} {Q : AVal → Heap → Prop} (hl : args.length = 3) (H : Wlk Try.prog [6] Try.f27.ntmps v_garlandhelp_Same_int_ L c_garlandhelp_Same_int_ (ends L [(.tmp 6)] Q) (entry v_garlandhelp_Same_int_ args h)) : ACalls Try.prog L n_garlandhelp_Same_int_ args h Q :=
  acalls_of_strip mix Try.func27 s_garlandhelp_Same_int_ (by rw [hl]; exact Nat.le_of_ble_eq_true rfl) H


def c_garlandhelp_Plain_int__1_r0 : List GOp := [(none, (.asg 4 (.c (.bool false)) true))]

def c_garlandhelp_Plain_int__1_r1 : List GOp := [(none, (.r (.mov 5 (.t 0)))),
  (none, (.r (.mov 6 (.t 1)))),
  (none, (.r (.bin 7 .eql 0 (.t 5) (.t 6)))),
  (none, (.asg 4 (.t 7) true))]

def c_garlandhelp_Plain_int__1 : ACode :=
  (.seq
  (.reg [0, 1, 4] c_garlandhelp_Plain_int__1_r0 [0, 1, 4])
  (.seq
  (.reg [0, 1, 4] c_garlandhelp_Plain_int__1_r1 [0, 1, 4])
  .ret))
def v_garlandhelp_Plain_int__1 : List Nat := [0, 1, 4]
abbrev n_garlandhelp_Plain_int__1 : Nat := 28
theorem s_garlandhelp_Plain_int__1 : stripF Try.prog [4] v_garlandhelp_Plain_int__1 Try.f28 = some (c_garlandhelp_Plain_int__1, [(.tmp 4)]) := by kernel_rfl
theorem go_garlandhelp_Plain_int__1 {L : List (List Nat)} {args : List AVal} {h : Heap} {Q : AVal → Heap → Prop} (hl : args.length = 2) (H : Wlk Try.prog [4] Try.f28.ntmps v_garlandhelp_Plain_int__1 L c_garlandhelp_Plain_int__1 (ends L [(.tmp 4)] Q) (entry v_garlandhelp_Plain_int__1 args h)) : ACalls Try.prog L n_garlandhelp_Plain_int__1 args h Q :=
  acalls_of_strip mix Try.func28 s_garlandhelp_Plain_int__1 (by rw [hl]; exact Nat.le_of_ble_eq_true rfl) H



end Go.Proofs.Yticfnlclbmibeaa


namespace Go.Proofs.Yticfnlclbmibeaa
open Go Go.Ga

theorem is_ok (up : List Nat) (X Y : AVal) (k : Int) :
    ACalls Try.prog [] n_join_Join_is [.ia [.imm 1 (nats up), X, Y], .sc (.int .i64 k)] [] fun r h' => r = .sc (.bool (decide (0 ≤ k ∧ k < up.length))) ∧ h' = [] := by
  refine go_join_Join_is rfl ?_
  unfold c_join_Join_is v_join_Join_is
  refine wlk_sreg fun KY hKY => ?_
  simp only [go_sem, reduceIte, Nat.reduceEqDiff, Nat.reduceBEq, reduceCtorEq, Nat.div_one, Nat.reduceLT, Nat.reduceLeDiff, Nat.reduceAdd, Nat.reduceSub, Nat.reduceMul, Nat.reduceDiv, Int.cast_ofNat_Int, Int.reduceAdd, Int.reduceNeg, Int.reduceEq, Int.reduceLT, Int.reduceLE, Int.reduceNe, decide_true, decide_false, bne_self_eq_false, Bool.not_false, Bool.not_true, c_join_Join_is_r0]
  refine hKY _ ?_
  by_cases h0 : 0 ≤ k
  · have e0 : decide (0 ≤ k) = true := decide_eq_true h0
    refine wlk_sreg fun KY hKY => ?_
    simp only [go_sem, reduceIte, Nat.reduceEqDiff, Nat.reduceBEq, reduceCtorEq, Nat.div_one, Nat.reduceLT, Nat.reduceLeDiff, Nat.reduceAdd, Nat.reduceSub, Nat.reduceMul, Nat.reduceDiv, Int.cast_ofNat_Int, Int.reduceAdd, Int.reduceNeg, Int.reduceEq, Int.reduceLT, Int.reduceLE, Int.reduceNe, decide_true, decide_false, bne_self_eq_false, Bool.not_false, Bool.not_true, c_join_Join_is_r1, e0]
    refine hKY _ ?_
    refine wlk_ret ?_
    simp only [go_sem, reduceIte, Nat.reduceEqDiff, Nat.reduceBEq, reduceCtorEq, Nat.div_one, Nat.reduceLT, Nat.reduceLeDiff, Nat.reduceAdd, Nat.reduceSub, Nat.reduceMul, Nat.reduceDiv, Int.cast_ofNat_Int, Int.reduceAdd, Int.reduceNeg, Int.reduceEq, Int.reduceLT, Int.reduceLE, Int.reduceNe, decide_true, decide_false, bne_self_eq_false, Bool.not_false, Bool.not_true]
    simp [h0]
  · have e0 : decide (0 ≤ k) = false := decide_eq_false h0
    refine wlk_sreg fun KY hKY => ?_
    simp only [go_sem, reduceIte, Nat.reduceEqDiff, Nat.reduceBEq, reduceCtorEq, Nat.div_one, Nat.reduceLT, Nat.reduceLeDiff, Nat.reduceAdd, Nat.reduceSub, Nat.reduceMul, Nat.reduceDiv, Int.cast_ofNat_Int, Int.reduceAdd, Int.reduceNeg, Int.reduceEq, Int.reduceLT, Int.reduceLE, Int.reduceNe, decide_true, decide_false, bne_self_eq_false, Bool.not_false, Bool.not_true, c_join_Join_is_r1, e0]
    refine hKY _ ?_
    refine wlk_ret ?_
    simp only [go_sem, reduceIte, Nat.reduceEqDiff, Nat.reduceBEq, reduceCtorEq, Nat.div_one, Nat.reduceLT, Nat.reduceLeDiff, Nat.reduceAdd, Nat.reduceSub, Nat.reduceMul, Nat.reduceDiv, Int.cast_ofNat_Int, Int.reduceAdd, Int.reduceNeg, Int.reduceEq, Int.reduceLT, Int.reduceLE, Int.reduceNe, decide_true, decide_false, bne_self_eq_false, Bool.not_false, Bool.not_true]
    simp [h0]
end Go.Proofs.Yticfnlclbmibeaa

/- Forests of numbers: who stands at the top. -/
namespace Go.Ga

structure For (up : List Nat) (r d : Nat → Nat) : Prop where
  lt : ∀ k, k < up.length → up.getD k 0 < up.length
  rt : ∀ k, k < up.length → r (up.getD k 0) = r k
  fix : ∀ k, k < up.length → up.getD k 0 = k → r k = k
  dec : ∀ k, k < up.length → up.getD k 0 ≠ k → d (up.getD k 0) < d k

theorem set_same {α : Type} {l : List α} {i : Nat} {x : α} (h : l[i]? = some x) : l.set i x = l := by
  apply List.ext_getElem?
  intro j
  rw [List.getElem?_set]
  split
  · rename_i e; subst e; rw [if_pos (List.getElem?_eq_some_iff.1 h).1, h]
  · rfl

theorem getD_set {up : List Nat} {k v j : Nat} : (up.set k v).getD j 0 = if k = j ∧ k < up.length then v else up.getD j 0 := by
  simp only [List.getD_eq_getElem?_getD, List.getElem?_set]
  by_cases h : k = j
  · subst h
    by_cases h2 : k < up.length
    · simp [h2]
    · simp [h2]
  · simp [h]

theorem halve {up : List Nat} {r d : Nat → Nat} (F : For up r d) {k : Nat} (hk : k < up.length) : For (up.set k (up.getD (up.getD k 0) 0)) r d := by
  have hu := F.lt k hk
  have hu2 := F.lt _ hu
  refine ⟨fun j hj => ?_, fun j hj => ?_, fun j hj he => ?_, fun j hj hne => ?_⟩ <;> rw [List.length_set] at * <;> rw [getD_set] at *
  · split
    · exact hu2
    · exact F.lt j hj
  · split
    · rename_i h; rw [F.rt _ hu, F.rt _ hk, h.1]
    · exact F.rt j hj
  · split at he
    · rename_i h
      obtain ⟨rfl, _⟩ := h
      by_cases e : up.getD k 0 = k
      · exact F.fix k hk e
      · by_cases e2 : up.getD (up.getD k 0) 0 = up.getD k 0
        · rw [e2] at he; exact absurd he e
        · have h1 := F.dec k hk e
          have h2 := F.dec _ hu e2
          rw [he] at h2
          omega
    · exact F.fix j hj he
  · split at hne
    · rename_i h
      obtain ⟨rfl, _⟩ := h
      rw [if_pos ⟨rfl, hk⟩]
      by_cases e : up.getD k 0 = k
      · rw [e, e] at hne; exact absurd rfl hne
      · have h1 := F.dec k hk e
        by_cases e2 : up.getD (up.getD k 0) 0 = up.getD k 0
        · rw [e2]; exact h1
        · exact Nat.lt_trans (F.dec _ hu e2) h1
    · rename_i h
      rw [if_neg h]
      exact F.dec j hj hne


/-- A row that is filled from the front. -/
def stepL {α : Type} (f : Nat → α) (z : α) (n k : Nat) : List α := (List.range n).map fun q => if q < k then f q else z

theorem stepL_len {α : Type} (f : Nat → α) (z : α) (n k : Nat) : (stepL f z n k).length = n := by simp [stepL]
theorem stepL_zero {α : Type} (f : Nat → α) (z : α) (n : Nat) : stepL f z n 0 = List.replicate n z := by
  simp only [stepL, Nat.not_lt_zero, if_false]
  induction n with
  | zero => rfl
  | succ n ih => rw [List.range_succ, List.map_append, ih, List.replicate_succ']; rfl
theorem stepL_full {α : Type} (f : Nat → α) (z : α) (n : Nat) : stepL f z n n = (List.range n).map f := by
  apply List.map_congr_left
  intro q hq
  rw [if_pos (List.mem_range.1 hq)]
theorem stepL_set {α : Type} (f : Nat → α) (z : α) (n k : Nat) : (stepL f z n k).set k (f k) = stepL f z n (k + 1) := by
  apply List.ext_getElem?
  intro j
  rw [List.getElem?_set, stepL_len]
  by_cases h : k = j
  · subst h
    rw [if_pos rfl]
    by_cases hk : k < n
    · rw [if_pos hk]; simp [stepL, hk]
    · rw [if_neg hk]; simp [stepL, hk]
  · rw [if_neg h]
    by_cases hj : j < n
    · simp only [stepL, List.getElem?_map, List.getElem?_range hj, Option.map_some]
      congr 1
      by_cases h1 : j < k
      · rw [if_pos h1, if_pos (by omega)]
      · rw [if_neg h1, if_neg (by omega)]
    · simp [stepL, hj]

end Go.Ga


namespace Go.Proofs.Yticfnlclbmibeaa
open Go Go.Ga

theorem first_okL (up : List Nat) (r d : Nat → Nat) (X Y : AVal) (F : For up r d) (k : Nat) (hk : k < up.length) :
    ACalls Try.prog [[1, 0]] n_join_Join_first [.ptr 0 0, .sc (.int .i64 (k : Int))] [some [.own (some 1) (nats up), X, Y]] fun x h' => x = .sc (.int .i64 (r k : Int)) ∧ ∃ up', For up' r d ∧ up'.length = up.length ∧ h' = [some [.own (some 1) (nats up'), X, Y]] := by
  refine go_join_Join_first rfl ?_
  unfold c_join_Join_first v_join_Join_first
  refine wlk_sreg fun KY hKY => ?_
  simp only [go_sem, reduceIte, Nat.reduceEqDiff, Nat.reduceBEq, reduceCtorEq, Nat.div_one, Nat.reduceLT, Nat.reduceLeDiff, Nat.reduceAdd, Nat.reduceSub, Nat.reduceMul, Nat.reduceDiv, Int.cast_ofNat_Int, Int.reduceAdd, Int.reduceNeg, Int.reduceEq, Int.reduceLT, Int.reduceLE, Int.reduceNe, decide_true, decide_false, bne_self_eq_false, Bool.not_false, Bool.not_true, c_join_Join_first_r0, arun_cons, gstep_none, BOp.quiet]
  refine hKY _ ?_
  refine wlk_seq fun X1 hn1 he1 hr1 => ?_
  refine wlk_blk fun X2 hn2 he2 hf2 hr2 => ?_
  refine wlk_loop (fun n s => ∃ up' k' A, For up' r d ∧ up'.length = up.length ∧ k' < up.length ∧ r k' = r k ∧ n = d k' ∧ s = { vs := [(0, .ptr 0 0), (1, .sc (.int .i64 ((k' : Nat) : Int))), (4, .sc (.int .i64 0)), (13, A)], ts := [], h := [some [.own (some 1) (nats up'), X, Y]] }) (d k) ⟨up, k, .dead, F, rfl, hk, rfl, rfl, ?_⟩ ?_
  · simp only [go_sem, reduceIte, Nat.reduceEqDiff, Nat.reduceBEq, reduceCtorEq, Nat.div_one, Nat.reduceLT, Nat.reduceLeDiff, Nat.reduceAdd, Nat.reduceSub, Nat.reduceMul, Nat.reduceDiv, Int.cast_ofNat_Int, Int.reduceAdd, Int.reduceNeg, Int.reduceEq, Int.reduceLT, Int.reduceLE, Int.reduceNe, decide_true, decide_false, bne_self_eq_false, Bool.not_false, Bool.not_true]
  rintro n _ ⟨up', k', A, F', hl, hk', hr', rfl, rfl⟩ X3 hn3 he3 hr3
  have hk1 : k' < up'.length := by omega
  refine wlk_seq fun X4 hn4 he4 hr4 => ?_
  refine wlk_sreg fun KY hKY => ?_
  simp only [go_sem, reduceIte, Nat.reduceEqDiff, Nat.reduceBEq, reduceCtorEq, Nat.div_one, Nat.reduceLT, Nat.reduceLeDiff, Nat.reduceAdd, Nat.reduceSub, Nat.reduceMul, Nat.reduceDiv, Int.cast_ofNat_Int, Int.reduceAdd, Int.reduceNeg, Int.reduceEq, Int.reduceLT, Int.reduceLE, Int.reduceNe, decide_true, decide_false, bne_self_eq_false, Bool.not_false, Bool.not_true, c_join_Join_first_r1, arun_cons, gstep_none, BOp.quiet, nats_get hk1, hk1]
  refine hKY _ ?_
  simp only [go_sem, reduceIte, Nat.reduceEqDiff, Nat.reduceBEq, reduceCtorEq, Nat.div_one, Nat.reduceLT, Nat.reduceLeDiff, Nat.reduceAdd, Nat.reduceSub, Nat.reduceMul, Nat.reduceDiv, Int.cast_ofNat_Int, Int.reduceAdd, Int.reduceNeg, Int.reduceEq, Int.reduceLT, Int.reduceLE, Int.reduceNe, decide_true, decide_false, bne_self_eq_false, Bool.not_false, Bool.not_true]
  refine wlk_cond (v := decide (((up'.getD k' 0 : Nat) : Int) ≠ (k' : Int))) rfl (fun hne => wlk_skip ?_) fun heq => wlk_exit ?_
  · have hne : up'.getD k' 0 ≠ k' := by have := of_decide_eq_true hne; omega
    have hu : up'.getD k' 0 < up'.length := F'.lt k' hk1
    refine hn4 _ ?_
    refine wlk_blk fun X6 hn6 he6 hf6 hr6 => ?_
    refine wlk_sdraw fun KY hKY => ?_
    simp only [go_sem, reduceIte, Nat.reduceEqDiff, Nat.reduceBEq, reduceCtorEq, Nat.div_one, Nat.reduceLT, Nat.reduceLeDiff, Nat.reduceAdd, Nat.reduceSub, Nat.reduceMul, Nat.reduceDiv, Int.cast_ofNat_Int, Int.reduceAdd, Int.reduceNeg, Int.reduceEq, Int.reduceLT, Int.reduceLE, Int.reduceNe, decide_true, decide_false, bne_self_eq_false, Bool.not_false, Bool.not_true, c_join_Join_first_r2, nats_get hk1, hk1, nats_get hu, hu]
    refine ⟨rfl, hKY _ ?_⟩
    have hk2 : k' < (up'.set k' (up'.getD (up'.getD k' 0) 0)).length := by rw [List.length_set]; exact hk1
    have hg : (up'.set k' (up'.getD (up'.getD k' 0) 0)).getD k' 0 = up'.getD (up'.getD k' 0) 0 := by simp [hk1]
    refine wlk_reg fun KY hKY => ?_
    simp only [go_sem, reduceIte, Nat.reduceEqDiff, Nat.reduceBEq, reduceCtorEq, Nat.div_one, Nat.reduceLT, Nat.reduceLeDiff, Nat.reduceAdd, Nat.reduceSub, Nat.reduceMul, Nat.reduceDiv, Int.cast_ofNat_Int, Int.reduceAdd, Int.reduceNeg, Int.reduceEq, Int.reduceLT, Int.reduceLE, Int.reduceNe, decide_true, decide_false, bne_self_eq_false, Bool.not_false, Bool.not_true, c_join_Join_first_r3, arun_cons, gstep_none, BOp.quiet, nats_get hk2, hk2, hg]
    have hu2 : up'.getD (up'.getD k' 0) 0 < up'.length := F'.lt _ hu
    refine hKY _ (hn6 _ (hn3 (d (up'.getD (up'.getD k' 0) 0)) _ ?_ ⟨up'.set k' (up'.getD (up'.getD k' 0) 0), up'.getD (up'.getD k' 0) 0, .sc (.bool (decide (((up'.getD k' 0 : Nat) : Int) ≠ (k' : Int)))), halve F' hk1, ?_, ?_, ?_, rfl, ?_⟩))
    · have h1 := F'.dec k' hk1 hne
      by_cases e : up'.getD (up'.getD k' 0) 0 = up'.getD k' 0
      · rw [e]; exact h1
      · exact Nat.lt_trans (F'.dec _ hu e) h1
    · rw [List.length_set]; exact hl
    · rw [← hl]; exact hu2
    · rw [F'.rt _ hu, F'.rt _ hk1]; exact hr'
    · simp only [go_sem, reduceIte, Nat.reduceEqDiff, Nat.reduceBEq, reduceCtorEq, Nat.div_one, Nat.reduceLT, Nat.reduceLeDiff, Nat.reduceAdd, Nat.reduceSub, Nat.reduceMul, Nat.reduceDiv, Int.cast_ofNat_Int, Int.reduceAdd, Int.reduceNeg, Int.reduceEq, Int.reduceLT, Int.reduceLE, Int.reduceNe, decide_true, decide_false, bne_self_eq_false, Bool.not_false, Bool.not_true]
  · have heq : up'.getD k' 0 = k' := by have := of_decide_eq_false heq; omega
    refine he4 _ _ (he3 _ _ (he2 _ (hn1 _ ?_)))
    refine wlk_sreg fun KY hKY => ?_
    simp only [go_sem, reduceIte, Nat.reduceEqDiff, Nat.reduceBEq, reduceCtorEq, Nat.div_one, Nat.reduceLT, Nat.reduceLeDiff, Nat.reduceAdd, Nat.reduceSub, Nat.reduceMul, Nat.reduceDiv, Int.cast_ofNat_Int, Int.reduceAdd, Int.reduceNeg, Int.reduceEq, Int.reduceLT, Int.reduceLE, Int.reduceNe, decide_true, decide_false, bne_self_eq_false, Bool.not_false, Bool.not_true, c_join_Join_first_r4, arun_cons, gstep_none, BOp.quiet]
    refine hKY _ ?_
    refine wlk_ret ?_
    simp only [go_sem, reduceIte, Nat.reduceEqDiff, Nat.reduceBEq, reduceCtorEq, Nat.div_one, Nat.reduceLT, Nat.reduceLeDiff, Nat.reduceAdd, Nat.reduceSub, Nat.reduceMul, Nat.reduceDiv, Int.cast_ofNat_Int, Int.reduceAdd, Int.reduceNeg, Int.reduceEq, Int.reduceLT, Int.reduceLE, Int.reduceNe, decide_true, decide_false, bne_self_eq_false, Bool.not_false, Bool.not_true, ends, aResQ]
    exact ⟨by rw [← hr', F'.fix k' hk1 heq], up', F', hl, rfl⟩
end Go.Proofs.Yticfnlclbmibeaa

/- Sets of numbers, by the least one of each one's set: plain. -/
namespace Go.Ga.Jn

/-- A list's number at an index; -1. -/
def atOr (l : List Nat) (k : Int) : Int := if 0 ≤ k ∧ k < l.length then (l.getD k.toNat 0 : Int) else -1

def uL (L : List Nat) (x y : Nat) : List Nat := L.map fun z => if z = x ∨ z = y then min x y else z
def uB (L B : List Nat) (x y l : Nat) : List Nat := (List.range L.length).map fun k => if L.getD k 0 = x ∨ L.getD k 0 = y then l else B.getD k 0

/-- May they be united? -/
def may (L : List Nat) (a b l : Int) : Bool := decide ((0 ≤ a ∧ a < L.length) ∧ (0 ≤ b ∧ b < L.length) ∧ (0 ≤ l ∧ l < L.length) ∧ L.getD a.toNat 0 ≠ L.getD b.toNat 0)

/-- Two sets are united, if that may be. -/
def uni (S : List Nat × List Nat) (a b l : Int) : List Nat × List Nat :=
  if may S.1 a b l = true then (uL S.1 (S.1.getD a.toNat 0) (S.1.getD b.toNat 0), uB S.1 S.2 (S.1.getD a.toNat 0) (S.1.getD b.toNat 0) l.toNat) else S

/-- Those that are the least of their sets. -/
def roots (L : List Nat) (k : Nat) : List Nat := (List.range k).filter fun q => L.getD q 0 = q
/-- The numbers below k in a set. -/
def mem (L : List Nat) (k q : Nat) : List Nat := (List.range k).filter fun m => L.getD m 0 = q
def sets (L : List Nat) : List (List Nat) := (roots L L.length).map (mem L L.length)
def cnt (L : List Nat) : Nat := (roots L L.length).length

/-- Each is the least of a set. -/
structure WF (L : List Nat) : Prop where
  le : ∀ k, k < L.length → L.getD k 0 ≤ k
  fx : ∀ k, k < L.length → L.getD (L.getD k 0) 0 = L.getD k 0

theorem uL_len (L : List Nat) (x y : Nat) : (uL L x y).length = L.length := by simp [uL]
theorem uB_len (L B : List Nat) (x y l : Nat) : (uB L B x y l).length = L.length := by simp [uB]
theorem uL_get {L : List Nat} {x y k : Nat} (h : k < L.length) : (uL L x y).getD k 0 = if L.getD k 0 = x ∨ L.getD k 0 = y then min x y else L.getD k 0 := by
  simp [uL, List.getD_eq_getElem?_getD, h]
theorem uB_get {L B : List Nat} {x y l k : Nat} (h : k < L.length) : (uB L B x y l).getD k 0 = if L.getD k 0 = x ∨ L.getD k 0 = y then l else B.getD k 0 := by
  simp [uB, List.getD_eq_getElem?_getD, h]

theorem WF.uni {L : List Nat} (W : WF L) {a b : Nat} (ha : a < L.length) (hb : b < L.length) : WF (uL L (L.getD a 0) (L.getD b 0)) := by
  have key : ∀ k, k < L.length → L.getD k 0 < L.length := fun k hk => Nat.lt_of_le_of_lt (W.le k hk) hk
  constructor
  · intro k hk
    rw [uL_len] at hk
    rw [uL_get hk]
    split
    · rename_i h
      rcases h with h | h
      · rw [← h]; have := W.le k hk; omega
      · rw [← h]; have := W.le k hk; omega
    · exact W.le k hk
  · intro k hk
    rw [uL_len] at hk
    rw [uL_get hk]
    split
    · rcases Nat.le_total (L.getD a 0) (L.getD b 0) with h | h
      · rw [Nat.min_eq_left h, uL_get (key a ha), W.fx a ha, if_pos (.inl rfl), Nat.min_eq_left h]
      · rw [Nat.min_eq_right h, uL_get (key b hb), W.fx b hb, if_pos (.inr rfl), Nat.min_eq_right h]
    · rename_i h
      rw [uL_get (key k hk), W.fx k hk, if_neg h]

theorem WF.idn (n : Nat) : WF (List.range n) := by
  have : ∀ k, k < n → (List.range n).getD k 0 = k := fun k hk => by simp [List.getD_eq_getElem?_getD, hk]
  constructor
  · intro k hk; rw [List.length_range] at hk; rw [this k hk]; exact Nat.le_refl _
  · intro k hk; rw [List.length_range] at hk; rw [this k hk, this k hk]

theorem roots_snoc (L : List Nat) (k : Nat) : roots L (k + 1) = roots L k ++ if L.getD k 0 = k then [k] else [] := by
  simp only [roots, List.range_succ, List.filter_append, List.filter_cons, List.filter_nil]
  by_cases h : L.getD k 0 = k <;> simp [h]
theorem mem_snoc (L : List Nat) (k q : Nat) : mem L (k + 1) q = mem L k q ++ if L.getD k 0 = q then [k] else [] := by
  simp only [mem, List.range_succ, List.filter_append, List.filter_cons, List.filter_nil]
  by_cases h : L.getD k 0 = q <;> simp [h]
theorem mem_roots {L : List Nat} {k q : Nat} : q ∈ roots L k ↔ q < k ∧ L.getD q 0 = q := by simp [roots]

/-- Where a root stands among the roots. -/
theorem roots_at {L : List Nat} {q : Nat} (hq : L.getD q 0 = q) : ∀ {k : Nat}, q < k → (roots L k)[(roots L q).length]? = some q
  | k + 1, h => by
    rw [roots_snoc]
    by_cases e : q = k
    · subst e
      rw [List.getElem?_append_right (Nat.le_refl _), Nat.sub_self, if_pos hq]; rfl
    · have := roots_at hq (k := k) (by omega)
      rw [List.getElem?_append_left (List.getElem?_eq_some_iff.1 this).1]
      exact this

theorem roots_nodup (L : List Nat) (k : Nat) : (roots L k).Nodup := List.Pairwise.filter _ List.nodup_range

/-- One set less. -/
theorem cnt_uni {L : List Nat} (W : WF L) {a b : Nat} (ha : a < L.length) (hb : b < L.length) (hne : L.getD a 0 ≠ L.getD b 0) : cnt (uL L (L.getD a 0) (L.getD b 0)) + 1 = cnt L := by
  have key : ∀ k, k < L.length → L.getD k 0 < L.length := fun k hk => Nat.lt_of_le_of_lt (W.le k hk) hk
  have hM : max (L.getD a 0) (L.getD b 0) < L.length := by have := key a ha; have := key b hb; omega
  have hMr : L.getD (max (L.getD a 0) (L.getD b 0)) 0 = max (L.getD a 0) (L.getD b 0) := by
    rcases Nat.le_total (L.getD a 0) (L.getD b 0) with h | h
    · rw [Nat.max_eq_right h]; exact W.fx b hb
    · rw [Nat.max_eq_left h]; exact W.fx a ha
  have hmem : ∀ q, q ∈ roots (uL L (L.getD a 0) (L.getD b 0)) (uL L (L.getD a 0) (L.getD b 0)).length ↔ q ∈ (roots L L.length).erase (max (L.getD a 0) (L.getD b 0)) := by
    intro q
    rw [List.Nodup.mem_erase_iff (roots_nodup _ _), mem_roots, mem_roots, uL_len]
    constructor
    · rintro ⟨h1, h2⟩
      rw [uL_get h1] at h2
      split at h2
      · rename_i h
        rw [← h2]
        rcases Nat.le_total (L.getD a 0) (L.getD b 0) with h' | h'
        · rw [Nat.min_eq_left h']; exact ⟨by omega, key a ha, W.fx a ha⟩
        · rw [Nat.min_eq_right h']; exact ⟨by omega, key b hb, W.fx b hb⟩
      · rename_i h
        refine ⟨fun e => h ?_, h1, h2⟩
        rw [h2, e]
        omega
    · rintro ⟨h1, h2, h3⟩
      refine ⟨h2, ?_⟩
      rw [uL_get h2]
      split
      · rename_i h
        rw [h3] at h
        omega
      · exact h3
  have hp : (roots (uL L (L.getD a 0) (L.getD b 0)) (uL L (L.getD a 0) (L.getD b 0)).length).Perm ((roots L L.length).erase (max (L.getD a 0) (L.getD b 0))) :=
    (List.perm_ext_iff_of_nodup (roots_nodup _ _) (List.Nodup.erase _ (roots_nodup _ _))).2 hmem
  have hin : max (L.getD a 0) (L.getD b 0) ∈ roots L L.length := mem_roots.2 ⟨hM, hMr⟩
  have h1 := hp.length_eq
  rw [List.length_erase_of_mem hin] at h1
  have h2 := List.length_pos_of_mem hin
  unfold cnt
  omega

end Go.Ga.Jn

/- What a Join's cells say of the sets: plain. -/
namespace Go.Ga.Jn
open Go.Ga

structure JR (up : List Nat) (of : List (Int × Int × Int)) (n : Nat) (L B : List Nat) (r d : Nat → Nat) : Prop where
  lu : up.length = n
  lo : of.length = n
  lL : L.length = n
  lB : B.length = n
  W : WF L
  F : For up r d
  rlt : ∀ k, k < n → r k < n
  at_ : ∀ k, k < n → ∃ s, of[r k]? = some ((L.getD k 0 : Int), (B.getD k 0 : Int), s)
  eqv : ∀ a b, a < n → b < n → (r a = r b ↔ L.getD a 0 = L.getD b 0)

theorem For.root {up : List Nat} {r d : Nat → Nat} (F : For up r d) : ∀ (m k : Nat), d k < m → k < up.length → r k < up.length → r (r k) = r k ∧ up.getD (r k) 0 = r k
  | 0, k, h, _, _ => by omega
  | m + 1, k, h, hk, hr => by
    by_cases e : up.getD k 0 = k
    · have := F.fix k hk e
      rw [this]; exact ⟨this, e⟩
    · have h1 := F.dec k hk e
      have h2 := F.lt k hk
      have h3 := F.rt k hk
      have := For.root F m (up.getD k 0) (by omega) h2 (by rw [h3]; exact hr)
      rw [h3] at this
      exact this

theorem JR.rr {up of n L B r d} (J : JR up of n L B r d) {k : Nat} (hk : k < n) : r (r k) = r k ∧ up.getD (r k) 0 = r k := by
  have := J.lu
  exact For.root J.F (d k + 1) k (by omega) (by omega) (by have := J.rlt k hk; omega)

theorem uL_comm (L : List Nat) (x y : Nat) : uL L x y = uL L y x := by
  unfold uL
  congr 1
  funext z
  rw [Nat.min_comm]
  simp only [Or.comm]
theorem uB_comm (L B : List Nat) (x y l : Nat) : uB L B x y l = uB L B y x l := by
  unfold uB
  congr 1
  funext k
  simp only [Or.comm]

theorem getD_set' {l : List Nat} {k v j : Nat} : (l.set k v).getD j 0 = if k = j ∧ k < l.length then v else l.getD j 0 := getD_set

theorem JR.unite {up of n L B r d} (J : JR up of n L B r d) {a b l : Nat} (ha : a < n) (hb : b < n) (hne : L.getD a 0 ≠ L.getD b 0) (s : Int) :
    JR (up.set (r b) (r a)) (of.set (r a) ((min (L.getD a 0) (L.getD b 0) : Nat), (l : Int), s)) n (uL L (L.getD a 0) (L.getD b 0)) (uB L B (L.getD a 0) (L.getD b 0) l)
      (fun k => if r k = r b then r a else r k) (fun k => if r k = r b then d k + d (r a) + 1 else d k) := by
  obtain ⟨lu, lo, lL, lB, W, F, rlt, at_, eqv⟩ := id J
  have hab : r a ≠ r b := fun e => hne ((eqv a b ha hb).1 e)
  have hra := J.rr ha
  have hrb := J.rr hb
  have lra := rlt a ha
  have lrb := rlt b hb
  have cls : ∀ k, k < n → (L.getD k 0 = L.getD a 0 ↔ r k = r a) ∧ (L.getD k 0 = L.getD b 0 ↔ r k = r b) := fun k hk => ⟨(eqv k a hk ha).symm, (eqv k b hk hb).symm⟩
  refine ⟨by rw [List.length_set]; exact lu, by rw [List.length_set]; exact lo, by rw [uL_len]; exact lL, by rw [uB_len]; exact lL, W.uni (by omega) (by omega), ?_, ?_, ?_, ?_⟩
  · refine ⟨fun k hk => ?_, fun k hk => ?_, fun k hk he => ?_, fun k hk hne' => ?_⟩
    all_goals rw [List.length_set] at *
    · rw [getD_set]
      split
      · omega
      · exact F.lt k hk
    · rw [getD_set]
      split
      · rename_i h
        obtain ⟨h1, _⟩ := h
        subst h1
        rw [hra.1, hrb.1, if_pos rfl, if_neg hab]
      · rw [F.rt k hk]
    · rw [getD_set] at he
      split at he
      · rename_i h
        exact absurd (he.trans h.1.symm) hab
      · rename_i h
        have h1 := F.fix k hk he
        split
        · rename_i h2
          rw [h1] at h2
          exact absurd ⟨h2.symm, by omega⟩ h
        · exact h1
    · rw [getD_set] at hne' ⊢
      split
      · rename_i h
        obtain ⟨h1, _⟩ := h
        subst h1
        rw [hra.1, hrb.1, if_pos rfl, if_neg hab]
        omega
      · rename_i h
        rw [if_neg h] at hne'
        have h1 := F.dec k hk hne'
        rw [F.rt k hk]
        split <;> omega
  · intro k hk
    show (if r k = r b then r a else r k) < n
    split
    · exact lra
    · exact rlt k hk
  · intro k hk
    obtain ⟨s0, hs0⟩ := at_ k hk
    rw [uL_get (by omega), uB_get (by omega)]
    by_cases h : L.getD k 0 = L.getD a 0 ∨ L.getD k 0 = L.getD b 0
    · rw [if_pos h, if_pos h]
      have e : (if r k = r b then r a else r k) = r a := by
        rcases h with h | h
        · rw [((cls k hk).1).1 h, if_neg hab]
        · rw [if_pos (((cls k hk).2).1 h)]
      refine ⟨s, ?_⟩
      show (of.set (r a) _)[if r k = r b then r a else r k]? = _
      rw [e, List.getElem?_set_self (by omega)]
    · rw [if_neg h, if_neg h]
      have h1 : r k ≠ r b := fun e => h (.inr (((cls k hk).2).2 e))
      have h2 : r k ≠ r a := fun e => h (.inl (((cls k hk).1).2 e))
      refine ⟨s0, ?_⟩
      show (of.set (r a) _)[if r k = r b then r a else r k]? = _
      rw [if_neg h1, List.getElem?_set_ne (Ne.symm h2)]
      exact hs0
  · intro p q hp hq
    rw [uL_get (by omega), uL_get (by omega)]
    show ((if r p = r b then r a else r p) = if r q = r b then r a else r q) ↔ _
    have val : ∀ k, k < n → ((if r k = r b then r a else r k) = r a ∧ (if L.getD k 0 = L.getD a 0 ∨ L.getD k 0 = L.getD b 0 then min (L.getD a 0) (L.getD b 0) else L.getD k 0) = min (L.getD a 0) (L.getD b 0)) ∨
        ((if r k = r b then r a else r k) = r k ∧ (if L.getD k 0 = L.getD a 0 ∨ L.getD k 0 = L.getD b 0 then min (L.getD a 0) (L.getD b 0) else L.getD k 0) = L.getD k 0 ∧ r k ≠ r a ∧ L.getD k 0 ≠ L.getD a 0 ∧ L.getD k 0 ≠ L.getD b 0) := by
      intro k hk
      obtain ⟨c1, c2⟩ := cls k hk
      by_cases h1 : r k = r b
      · have := c2.2 h1
        exact .inl ⟨if_pos h1, if_pos (.inr this)⟩
      · by_cases h2 : r k = r a
        · have := c1.2 h2
          exact .inl ⟨(if_neg h1).trans h2, if_pos (.inl this)⟩
        · have n1 : L.getD k 0 ≠ L.getD a 0 := fun h => h2 (c1.1 h)
          have n2 : L.getD k 0 ≠ L.getD b 0 := fun h => h1 (c2.1 h)
          exact .inr ⟨if_neg h1, if_neg (by rintro (h | h); exact n1 h; exact n2 h), h2, n1, n2⟩
    have hpq := eqv p q hp hq
    rcases val p hp with ⟨p1, p2⟩ | ⟨p1, p2, p3, p4, p5⟩ <;> rcases val q hq with ⟨q1, q2⟩ | ⟨q1, q2, q3, q4, q5⟩
    · rw [p1, p2, q1, q2]; simp
    · rw [p1, p2, q1, q2]
      exact ⟨fun e => absurd e.symm q3, fun e => by omega⟩
    · rw [p1, p2, q1, q2]
      exact ⟨fun e => absurd e p3, fun e => by omega⟩
    · rw [p1, p2, q1, q2]; exact hpq

theorem JR.unite' {up of n L B r d} (J : JR up of n L B r d) {a b l : Nat} (ha : a < n) (hb : b < n) (hne : L.getD a 0 ≠ L.getD b 0) (s : Int) :
    JR (up.set (r a) (r b)) (of.set (r b) ((min (L.getD b 0) (L.getD a 0) : Nat), (l : Int), s)) n (uL L (L.getD a 0) (L.getD b 0)) (uB L B (L.getD a 0) (L.getD b 0) l)
      (fun k => if r k = r a then r b else r k) (fun k => if r k = r a then d k + d (r b) + 1 else d k) := by
  rw [uL_comm, uB_comm]
  exact J.unite hb ha (Ne.symm hne) s

/-- Each by itself. -/
theorem JR.new (n : Nat) : JR (List.range n) ((List.range n).map fun (k : Nat) => ((k : Int), (k : Int), (1 : Int))) n (List.range n) (List.range n) (fun k => k) (fun _ => 0) := by
  have g : ∀ k, k < n → (List.range n).getD k 0 = k := fun k hk => by simp [List.getD_eq_getElem?_getD, hk]
  refine ⟨by simp, by simp, by simp, by simp, WF.idn n, ⟨fun k hk => ?_, fun k hk => ?_, fun k hk _ => rfl, fun k hk hne => ?_⟩, fun k hk => hk, fun k hk => ⟨1, ?_⟩, fun a b ha hb => ?_⟩
  · rw [List.length_range] at hk; rw [g k hk]; simpa using hk
  · rw [List.length_range] at hk; exact g k hk
  · rw [List.length_range] at hk; exact absurd (g k hk) hne
  · rw [g k hk]; simp [hk]
  · rw [g a ha, g b hb]

theorem JR.up' {up up' of n L B r d} (J : JR up of n L B r d) (F : For up' r d) (h : up'.length = up.length) : JR up' of n L B r d := ⟨h.trans J.lu, J.lo, J.lL, J.lB, J.W, F, J.rlt, J.at_, J.eqv⟩

end Go.Ga.Jn


namespace Go.Proofs.Yticfnlclbmibeaa
open Go Go.Ga Go.Ga.Jn

def joinObj (up : List Nat) (of : List (Int × Int × Int)) (len : Int) : List AVal := [.own (some 1) (nats up), .own (some 3) (tris of), .sc (.int .i64 len)]

theorem find_ok (up : List Nat) (of : List (Int × Int × Int)) (len : Int) (n : Nat) (L B : List Nat) (r d : Nat → Nat) (J : JR up of n L B r d) (k : Int) :
    ACalls Try.prog [] n_join_Join_Find [.ptr 0 0, .sc (.int .i64 k)] [some (joinObj up of len)] fun x h' => x = .sc (.int .i64 (atOr L k)) ∧ ∃ up', JR up' of n L B r d ∧ h' = [some (joinObj up' of len)] := by
  unfold joinObj
  refine go_join_Join_Find rfl ?_
  unfold c_join_Join_Find v_join_Join_Find
  refine wlk_sreg fun KY hKY => ?_
  simp only [go_sem, reduceIte, Nat.reduceEqDiff, Nat.reduceBEq, reduceCtorEq, Nat.div_one, Nat.reduceLT, Nat.reduceLeDiff, Nat.reduceAdd, Nat.reduceSub, Nat.reduceMul, Nat.reduceDiv, Int.cast_ofNat_Int, Int.reduceAdd, Int.reduceNeg, Int.reduceEq, Int.reduceLT, Int.reduceLE, Int.reduceNe, decide_true, decide_false, bne_self_eq_false, Bool.not_false, Bool.not_true, c_join_Join_Find_r0]
  refine hKY _ ?_
  refine wlk_seq fun X1 hn1 he1 hr1 => ?_
  refine wlk_sreg fun KY hKY => ?_
  simp only [go_sem, reduceIte, Nat.reduceEqDiff, Nat.reduceBEq, reduceCtorEq, Nat.div_one, Nat.reduceLT, Nat.reduceLeDiff, Nat.reduceAdd, Nat.reduceSub, Nat.reduceMul, Nat.reduceDiv, Int.cast_ofNat_Int, Int.reduceAdd, Int.reduceNeg, Int.reduceEq, Int.reduceLT, Int.reduceLE, Int.reduceNe, decide_true, decide_false, bne_self_eq_false, Bool.not_false, Bool.not_true, c_join_Join_Find_r1]
  refine call_view rfl (by simp only [go_sem, reduceIte, Nat.reduceEqDiff, Nat.reduceBEq, reduceCtorEq, Nat.div_one, Nat.reduceLT, Nat.reduceLeDiff, Nat.reduceAdd, Nat.reduceSub, Nat.reduceMul, Nat.reduceDiv, Int.cast_ofNat_Int, Int.reduceAdd, Int.reduceNeg, Int.reduceEq, Int.reduceLT, Int.reduceLE, Int.reduceNe, decide_true, decide_false, bne_self_eq_false, Bool.not_false, Bool.not_true]; rfl) ?_
  refine (is_ok up _ _ k).mono ?_
  rintro rr hh ⟨rfl, rfl⟩
  refine ⟨rfl, rfl, rfl, ?_⟩
  simp only [go_sem, reduceIte, Nat.reduceEqDiff, Nat.reduceBEq, reduceCtorEq, Nat.div_one, Nat.reduceLT, Nat.reduceLeDiff, Nat.reduceAdd, Nat.reduceSub, Nat.reduceMul, Nat.reduceDiv, Int.cast_ofNat_Int, Int.reduceAdd, Int.reduceNeg, Int.reduceEq, Int.reduceLT, Int.reduceLE, Int.reduceNe, decide_true, decide_false, bne_self_eq_false, Bool.not_false, Bool.not_true]
  refine hKY _ ?_
  simp only [go_sem, reduceIte, Nat.reduceEqDiff, Nat.reduceBEq, reduceCtorEq, Nat.div_one, Nat.reduceLT, Nat.reduceLeDiff, Nat.reduceAdd, Nat.reduceSub, Nat.reduceMul, Nat.reduceDiv, Int.cast_ofNat_Int, Int.reduceAdd, Int.reduceNeg, Int.reduceEq, Int.reduceLT, Int.reduceLE, Int.reduceNe, decide_true, decide_false, bne_self_eq_false, Bool.not_false, Bool.not_true]
  by_cases hk : 0 ≤ k ∧ k < up.length
  · refine wlk_cond0 (by simp only [hk, go_sem, reduceIte, Nat.reduceEqDiff, Nat.reduceBEq, reduceCtorEq, Nat.div_one, Nat.reduceLT, Nat.reduceLeDiff, Nat.reduceAdd, Nat.reduceSub, Nat.reduceMul, Nat.reduceDiv, Int.cast_ofNat_Int, Int.reduceAdd, Int.reduceNeg, Int.reduceEq, Int.reduceLT, Int.reduceLE, Int.reduceNe, decide_true, decide_false, bne_self_eq_false, Bool.not_false, Bool.not_true, and_self]) (wlk_skip (hn1 _ ?_))
    obtain ⟨m, rfl⟩ : ∃ m : Nat, k = m := ⟨k.toNat, by omega⟩
    have hm : m < up.length := by omega
    refine wlk_sdraw fun KY hKY => ?_
    simp only [go_sem, reduceIte, Nat.reduceEqDiff, Nat.reduceBEq, reduceCtorEq, Nat.div_one, Nat.reduceLT, Nat.reduceLeDiff, Nat.reduceAdd, Nat.reduceSub, Nat.reduceMul, Nat.reduceDiv, Int.cast_ofNat_Int, Int.reduceAdd, Int.reduceNeg, Int.reduceEq, Int.reduceLT, Int.reduceLE, Int.reduceNe, decide_true, decide_false, bne_self_eq_false, Bool.not_false, Bool.not_true, c_join_Join_Find_r3]
    refine call_gen [] [0] false none rfl (by simp only [go_sem, reduceIte, Nat.reduceEqDiff, Nat.reduceBEq, reduceCtorEq, Nat.div_one, Nat.reduceLT, Nat.reduceLeDiff, Nat.reduceAdd, Nat.reduceSub, Nat.reduceMul, Nat.reduceDiv, Int.cast_ofNat_Int, Int.reduceAdd, Int.reduceNeg, Int.reduceEq, Int.reduceLT, Int.reduceLE, Int.reduceNe, decide_true, decide_false, bne_self_eq_false, Bool.not_false, Bool.not_true]; rfl) (by simp only [go_sem, reduceIte, Nat.reduceEqDiff, Nat.reduceBEq, reduceCtorEq, Nat.div_one, Nat.reduceLT, Nat.reduceLeDiff, Nat.reduceAdd, Nat.reduceSub, Nat.reduceMul, Nat.reduceDiv, Int.cast_ofNat_Int, Int.reduceAdd, Int.reduceNeg, Int.reduceEq, Int.reduceLT, Int.reduceLE, Int.reduceNe, decide_true, decide_false, bne_self_eq_false, Bool.not_false, Bool.not_true]; rfl) rfl rfl rfl (by simp only [go_sem, reduceIte, Nat.reduceEqDiff, Nat.reduceBEq, reduceCtorEq, Nat.div_one, Nat.reduceLT, Nat.reduceLeDiff, Nat.reduceAdd, Nat.reduceSub, Nat.reduceMul, Nat.reduceDiv, Int.cast_ofNat_Int, Int.reduceAdd, Int.reduceNeg, Int.reduceEq, Int.reduceLT, Int.reduceLE, Int.reduceNe, decide_true, decide_false, bne_self_eq_false, Bool.not_false, Bool.not_true, watchIn]; rfl) (by simp only [go_sem, reduceIte, Nat.reduceEqDiff, Nat.reduceBEq, reduceCtorEq, Nat.div_one, Nat.reduceLT, Nat.reduceLeDiff, Nat.reduceAdd, Nat.reduceSub, Nat.reduceMul, Nat.reduceDiv, Int.cast_ofNat_Int, Int.reduceAdd, Int.reduceNeg, Int.reduceEq, Int.reduceLT, Int.reduceLE, Int.reduceNe, decide_true, decide_false, bne_self_eq_false, Bool.not_false, Bool.not_true]; rfl) (by simp only [go_sem, reduceIte, Nat.reduceEqDiff, Nat.reduceBEq, reduceCtorEq, Nat.div_one, Nat.reduceLT, Nat.reduceLeDiff, Nat.reduceAdd, Nat.reduceSub, Nat.reduceMul, Nat.reduceDiv, Int.cast_ofNat_Int, Int.reduceAdd, Int.reduceNeg, Int.reduceEq, Int.reduceLT, Int.reduceLE, Int.reduceNe, decide_true, decide_false, bne_self_eq_false, Bool.not_false, Bool.not_true]; rfl) ?_
    refine (first_okL up r d _ _ J.F m hm).mono ?_
    rintro _ _ ⟨rfl, up', F', hl', rfl⟩
    obtain ⟨s, hs⟩ := J.at_ m (by rw [← J.lu]; exact hm)
    have hr3 : r m * 3 + 3 ≤ of.length * 3 := by have := J.rlt m (by rw [← J.lu]; exact hm); have := J.lo; omega
    have hr4 : r m * 3 + 2 < of.length * 3 := by omega
    refine ⟨Nat.le_of_ble_eq_true rfl, (fun hh => by cases hh), ?_⟩
    simp only [go_sem, reduceIte, Nat.reduceEqDiff, Nat.reduceBEq, reduceCtorEq, Nat.div_one, Nat.reduceLT, Nat.reduceLeDiff, Nat.reduceAdd, Nat.reduceSub, Nat.reduceMul, Nat.reduceDiv, Int.cast_ofNat_Int, Int.reduceAdd, Int.reduceNeg, Int.reduceEq, Int.reduceLT, Int.reduceLE, Int.reduceNe, decide_true, decide_false, bne_self_eq_false, Bool.not_false, Bool.not_true, callOut, AState.after, tri_get0 hs, hr3, hr4]
    refine hKY _ ?_
    refine wlk_ret ?_
    simp only [go_sem, reduceIte, Nat.reduceEqDiff, Nat.reduceBEq, reduceCtorEq, Nat.div_one, Nat.reduceLT, Nat.reduceLeDiff, Nat.reduceAdd, Nat.reduceSub, Nat.reduceMul, Nat.reduceDiv, Int.cast_ofNat_Int, Int.reduceAdd, Int.reduceNeg, Int.reduceEq, Int.reduceLT, Int.reduceLE, Int.reduceNe, decide_true, decide_false, bne_self_eq_false, Bool.not_false, Bool.not_true]
    have hm' : m < n := by rw [← J.lu]; exact hm
    refine ⟨?_, up', J.up' F' hl', rfl⟩
    unfold atOr
    rw [if_pos ⟨by omega, by rw [J.lL]; omega⟩, Int.toNat_natCast]
  · refine wlk_cond1 (by simp only [hk, go_sem, reduceIte, Nat.reduceEqDiff, Nat.reduceBEq, reduceCtorEq, Nat.div_one, Nat.reduceLT, Nat.reduceLeDiff, Nat.reduceAdd, Nat.reduceSub, Nat.reduceMul, Nat.reduceDiv, Int.cast_ofNat_Int, Int.reduceAdd, Int.reduceNeg, Int.reduceEq, Int.reduceLT, Int.reduceLE, Int.reduceNe, decide_true, decide_false, bne_self_eq_false, Bool.not_false, Bool.not_true]) ?_
    refine wlk_sreg fun KY hKY => ?_
    simp only [go_sem, reduceIte, Nat.reduceEqDiff, Nat.reduceBEq, reduceCtorEq, Nat.div_one, Nat.reduceLT, Nat.reduceLeDiff, Nat.reduceAdd, Nat.reduceSub, Nat.reduceMul, Nat.reduceDiv, Int.cast_ofNat_Int, Int.reduceAdd, Int.reduceNeg, Int.reduceEq, Int.reduceLT, Int.reduceLE, Int.reduceNe, decide_true, decide_false, bne_self_eq_false, Bool.not_false, Bool.not_true, c_join_Join_Find_r2]
    refine hKY _ ?_
    refine wlk_ret (hr1 _ ?_)
    simp only [go_sem, reduceIte, Nat.reduceEqDiff, Nat.reduceBEq, reduceCtorEq, Nat.div_one, Nat.reduceLT, Nat.reduceLeDiff, Nat.reduceAdd, Nat.reduceSub, Nat.reduceMul, Nat.reduceDiv, Int.cast_ofNat_Int, Int.reduceAdd, Int.reduceNeg, Int.reduceEq, Int.reduceLT, Int.reduceLE, Int.reduceNe, decide_true, decide_false, bne_self_eq_false, Bool.not_false, Bool.not_true]
    refine ⟨?_, up, J, rfl⟩
    unfold atOr
    rw [if_neg (by rw [J.lL, ← J.lu]; exact hk)]
theorem label_ok (up : List Nat) (of : List (Int × Int × Int)) (len : Int) (n : Nat) (L B : List Nat) (r d : Nat → Nat) (J : JR up of n L B r d) (k : Int) :
    ACalls Try.prog [] n_join_Join_Label [.ptr 0 0, .sc (.int .i64 k)] [some (joinObj up of len)] fun x h' => x = .sc (.int .i64 (atOr B k)) ∧ ∃ up', JR up' of n L B r d ∧ h' = [some (joinObj up' of len)] := by
  unfold joinObj
  refine go_join_Join_Label rfl ?_
  unfold c_join_Join_Label v_join_Join_Label
  refine wlk_sreg fun KY hKY => ?_
  simp only [go_sem, reduceIte, Nat.reduceEqDiff, Nat.reduceBEq, reduceCtorEq, Nat.div_one, Nat.reduceLT, Nat.reduceLeDiff, Nat.reduceAdd, Nat.reduceSub, Nat.reduceMul, Nat.reduceDiv, Int.cast_ofNat_Int, Int.reduceAdd, Int.reduceNeg, Int.reduceEq, Int.reduceLT, Int.reduceLE, Int.reduceNe, decide_true, decide_false, bne_self_eq_false, Bool.not_false, Bool.not_true, c_join_Join_Label_r0]
  refine hKY _ ?_
  refine wlk_seq fun X1 hn1 he1 hr1 => ?_
  refine wlk_sreg fun KY hKY => ?_
  simp only [go_sem, reduceIte, Nat.reduceEqDiff, Nat.reduceBEq, reduceCtorEq, Nat.div_one, Nat.reduceLT, Nat.reduceLeDiff, Nat.reduceAdd, Nat.reduceSub, Nat.reduceMul, Nat.reduceDiv, Int.cast_ofNat_Int, Int.reduceAdd, Int.reduceNeg, Int.reduceEq, Int.reduceLT, Int.reduceLE, Int.reduceNe, decide_true, decide_false, bne_self_eq_false, Bool.not_false, Bool.not_true, c_join_Join_Label_r1]
  refine call_view rfl (by simp only [go_sem, reduceIte, Nat.reduceEqDiff, Nat.reduceBEq, reduceCtorEq, Nat.div_one, Nat.reduceLT, Nat.reduceLeDiff, Nat.reduceAdd, Nat.reduceSub, Nat.reduceMul, Nat.reduceDiv, Int.cast_ofNat_Int, Int.reduceAdd, Int.reduceNeg, Int.reduceEq, Int.reduceLT, Int.reduceLE, Int.reduceNe, decide_true, decide_false, bne_self_eq_false, Bool.not_false, Bool.not_true]; rfl) ?_
  refine (is_ok up _ _ k).mono ?_
  rintro rr hh ⟨rfl, rfl⟩
  refine ⟨rfl, rfl, rfl, ?_⟩
  simp only [go_sem, reduceIte, Nat.reduceEqDiff, Nat.reduceBEq, reduceCtorEq, Nat.div_one, Nat.reduceLT, Nat.reduceLeDiff, Nat.reduceAdd, Nat.reduceSub, Nat.reduceMul, Nat.reduceDiv, Int.cast_ofNat_Int, Int.reduceAdd, Int.reduceNeg, Int.reduceEq, Int.reduceLT, Int.reduceLE, Int.reduceNe, decide_true, decide_false, bne_self_eq_false, Bool.not_false, Bool.not_true]
  refine hKY _ ?_
  simp only [go_sem, reduceIte, Nat.reduceEqDiff, Nat.reduceBEq, reduceCtorEq, Nat.div_one, Nat.reduceLT, Nat.reduceLeDiff, Nat.reduceAdd, Nat.reduceSub, Nat.reduceMul, Nat.reduceDiv, Int.cast_ofNat_Int, Int.reduceAdd, Int.reduceNeg, Int.reduceEq, Int.reduceLT, Int.reduceLE, Int.reduceNe, decide_true, decide_false, bne_self_eq_false, Bool.not_false, Bool.not_true]
  by_cases hk : 0 ≤ k ∧ k < up.length
  · refine wlk_cond0 (by simp only [hk, go_sem, reduceIte, Nat.reduceEqDiff, Nat.reduceBEq, reduceCtorEq, Nat.div_one, Nat.reduceLT, Nat.reduceLeDiff, Nat.reduceAdd, Nat.reduceSub, Nat.reduceMul, Nat.reduceDiv, Int.cast_ofNat_Int, Int.reduceAdd, Int.reduceNeg, Int.reduceEq, Int.reduceLT, Int.reduceLE, Int.reduceNe, decide_true, decide_false, bne_self_eq_false, Bool.not_false, Bool.not_true, and_self]) (wlk_skip (hn1 _ ?_))
    obtain ⟨m, rfl⟩ : ∃ m : Nat, k = m := ⟨k.toNat, by omega⟩
    have hm : m < up.length := by omega
    refine wlk_sdraw fun KY hKY => ?_
    simp only [go_sem, reduceIte, Nat.reduceEqDiff, Nat.reduceBEq, reduceCtorEq, Nat.div_one, Nat.reduceLT, Nat.reduceLeDiff, Nat.reduceAdd, Nat.reduceSub, Nat.reduceMul, Nat.reduceDiv, Int.cast_ofNat_Int, Int.reduceAdd, Int.reduceNeg, Int.reduceEq, Int.reduceLT, Int.reduceLE, Int.reduceNe, decide_true, decide_false, bne_self_eq_false, Bool.not_false, Bool.not_true, c_join_Join_Label_r3]
    refine call_gen [] [0] false none rfl (by simp only [go_sem, reduceIte, Nat.reduceEqDiff, Nat.reduceBEq, reduceCtorEq, Nat.div_one, Nat.reduceLT, Nat.reduceLeDiff, Nat.reduceAdd, Nat.reduceSub, Nat.reduceMul, Nat.reduceDiv, Int.cast_ofNat_Int, Int.reduceAdd, Int.reduceNeg, Int.reduceEq, Int.reduceLT, Int.reduceLE, Int.reduceNe, decide_true, decide_false, bne_self_eq_false, Bool.not_false, Bool.not_true]; rfl) (by simp only [go_sem, reduceIte, Nat.reduceEqDiff, Nat.reduceBEq, reduceCtorEq, Nat.div_one, Nat.reduceLT, Nat.reduceLeDiff, Nat.reduceAdd, Nat.reduceSub, Nat.reduceMul, Nat.reduceDiv, Int.cast_ofNat_Int, Int.reduceAdd, Int.reduceNeg, Int.reduceEq, Int.reduceLT, Int.reduceLE, Int.reduceNe, decide_true, decide_false, bne_self_eq_false, Bool.not_false, Bool.not_true]; rfl) rfl rfl rfl (by simp only [go_sem, reduceIte, Nat.reduceEqDiff, Nat.reduceBEq, reduceCtorEq, Nat.div_one, Nat.reduceLT, Nat.reduceLeDiff, Nat.reduceAdd, Nat.reduceSub, Nat.reduceMul, Nat.reduceDiv, Int.cast_ofNat_Int, Int.reduceAdd, Int.reduceNeg, Int.reduceEq, Int.reduceLT, Int.reduceLE, Int.reduceNe, decide_true, decide_false, bne_self_eq_false, Bool.not_false, Bool.not_true, watchIn]; rfl) (by simp only [go_sem, reduceIte, Nat.reduceEqDiff, Nat.reduceBEq, reduceCtorEq, Nat.div_one, Nat.reduceLT, Nat.reduceLeDiff, Nat.reduceAdd, Nat.reduceSub, Nat.reduceMul, Nat.reduceDiv, Int.cast_ofNat_Int, Int.reduceAdd, Int.reduceNeg, Int.reduceEq, Int.reduceLT, Int.reduceLE, Int.reduceNe, decide_true, decide_false, bne_self_eq_false, Bool.not_false, Bool.not_true]; rfl) (by simp only [go_sem, reduceIte, Nat.reduceEqDiff, Nat.reduceBEq, reduceCtorEq, Nat.div_one, Nat.reduceLT, Nat.reduceLeDiff, Nat.reduceAdd, Nat.reduceSub, Nat.reduceMul, Nat.reduceDiv, Int.cast_ofNat_Int, Int.reduceAdd, Int.reduceNeg, Int.reduceEq, Int.reduceLT, Int.reduceLE, Int.reduceNe, decide_true, decide_false, bne_self_eq_false, Bool.not_false, Bool.not_true]; rfl) ?_
    refine (first_okL up r d _ _ J.F m hm).mono ?_
    rintro _ _ ⟨rfl, up', F', hl', rfl⟩
    obtain ⟨s, hs⟩ := J.at_ m (by rw [← J.lu]; exact hm)
    have hr3 : r m * 3 + 3 ≤ of.length * 3 := by have := J.rlt m (by rw [← J.lu]; exact hm); have := J.lo; omega
    have hr4 : r m * 3 + 2 < of.length * 3 := by omega
    refine ⟨Nat.le_of_ble_eq_true rfl, (fun hh => by cases hh), ?_⟩
    simp only [go_sem, reduceIte, Nat.reduceEqDiff, Nat.reduceBEq, reduceCtorEq, Nat.div_one, Nat.reduceLT, Nat.reduceLeDiff, Nat.reduceAdd, Nat.reduceSub, Nat.reduceMul, Nat.reduceDiv, Int.cast_ofNat_Int, Int.reduceAdd, Int.reduceNeg, Int.reduceEq, Int.reduceLT, Int.reduceLE, Int.reduceNe, decide_true, decide_false, bne_self_eq_false, Bool.not_false, Bool.not_true, callOut, AState.after, tri_get1 hs, hr3, hr4]
    refine hKY _ ?_
    refine wlk_ret ?_
    simp only [go_sem, reduceIte, Nat.reduceEqDiff, Nat.reduceBEq, reduceCtorEq, Nat.div_one, Nat.reduceLT, Nat.reduceLeDiff, Nat.reduceAdd, Nat.reduceSub, Nat.reduceMul, Nat.reduceDiv, Int.cast_ofNat_Int, Int.reduceAdd, Int.reduceNeg, Int.reduceEq, Int.reduceLT, Int.reduceLE, Int.reduceNe, decide_true, decide_false, bne_self_eq_false, Bool.not_false, Bool.not_true]
    have hm' : m < n := by rw [← J.lu]; exact hm
    refine ⟨?_, up', J.up' F' hl', rfl⟩
    unfold atOr
    rw [if_pos ⟨by omega, by rw [J.lB]; omega⟩, Int.toNat_natCast]
  · refine wlk_cond1 (by simp only [hk, go_sem, reduceIte, Nat.reduceEqDiff, Nat.reduceBEq, reduceCtorEq, Nat.div_one, Nat.reduceLT, Nat.reduceLeDiff, Nat.reduceAdd, Nat.reduceSub, Nat.reduceMul, Nat.reduceDiv, Int.cast_ofNat_Int, Int.reduceAdd, Int.reduceNeg, Int.reduceEq, Int.reduceLT, Int.reduceLE, Int.reduceNe, decide_true, decide_false, bne_self_eq_false, Bool.not_false, Bool.not_true]) ?_
    refine wlk_sreg fun KY hKY => ?_
    simp only [go_sem, reduceIte, Nat.reduceEqDiff, Nat.reduceBEq, reduceCtorEq, Nat.div_one, Nat.reduceLT, Nat.reduceLeDiff, Nat.reduceAdd, Nat.reduceSub, Nat.reduceMul, Nat.reduceDiv, Int.cast_ofNat_Int, Int.reduceAdd, Int.reduceNeg, Int.reduceEq, Int.reduceLT, Int.reduceLE, Int.reduceNe, decide_true, decide_false, bne_self_eq_false, Bool.not_false, Bool.not_true, c_join_Join_Label_r2]
    refine hKY _ ?_
    refine wlk_ret (hr1 _ ?_)
    simp only [go_sem, reduceIte, Nat.reduceEqDiff, Nat.reduceBEq, reduceCtorEq, Nat.div_one, Nat.reduceLT, Nat.reduceLeDiff, Nat.reduceAdd, Nat.reduceSub, Nat.reduceMul, Nat.reduceDiv, Int.cast_ofNat_Int, Int.reduceAdd, Int.reduceNeg, Int.reduceEq, Int.reduceLT, Int.reduceLE, Int.reduceNe, decide_true, decide_false, bne_self_eq_false, Bool.not_false, Bool.not_true]
    refine ⟨?_, up, J, rfl⟩
    unfold atOr
    rw [if_neg (by rw [J.lB, ← J.lu]; exact hk)]
end Go.Proofs.Yticfnlclbmibeaa


namespace Go.Proofs.Yticfnlclbmibeaa
open Go Go.Ga Go.Ga.Jn

theorem same_ok (up : List Nat) (of : List (Int × Int × Int)) (len : Int) (n : Nat) (L B : List Nat) (r d : Nat → Nat) (J : JR up of n L B r d) (a b : Int) :
    ACalls Try.prog [] n_join_Join_Same [.ptr 0 0, .sc (.int .i64 a), .sc (.int .i64 b)] [some (joinObj up of len)] fun x h' => x = .sc (.bool (decide ((0 ≤ a ∧ a < n) ∧ (0 ≤ b ∧ b < n) ∧ L.getD a.toNat 0 = L.getD b.toNat 0))) ∧ ∃ up', JR up' of n L B r d ∧ h' = [some (joinObj up' of len)] := by
  unfold joinObj
  have hu := J.lu
  refine go_join_Join_Same rfl ?_
  unfold c_join_Join_Same v_join_Join_Same
  refine wlk_sreg fun KY hKY => ?_
  simp only [go_sem, reduceIte, Nat.reduceEqDiff, Nat.reduceBEq, reduceCtorEq, Nat.div_one, Nat.reduceLT, Nat.reduceLeDiff, Nat.reduceAdd, Nat.reduceSub, Nat.reduceMul, Nat.reduceDiv, Int.cast_ofNat_Int, Int.reduceAdd, Int.reduceNeg, Int.reduceEq, Int.reduceLT, Int.reduceLE, Int.reduceNe, decide_true, decide_false, bne_self_eq_false, Bool.not_false, Bool.not_true, c_join_Join_Same_r0]
  refine hKY _ ?_
  by_cases ha : 0 ≤ a ∧ a < up.length
  · have ha' : decide (0 ≤ a ∧ a < up.length) = true := decide_eq_true ha
    obtain ⟨i, rfl⟩ : ∃ m : Nat, a = m := ⟨a.toNat, by omega⟩
    have hi : i < up.length := by omega
    by_cases hb : 0 ≤ b ∧ b < up.length
    · have hb' : decide (0 ≤ b ∧ b < up.length) = true := decide_eq_true hb
      obtain ⟨j, rfl⟩ : ∃ m : Nat, b = m := ⟨b.toNat, by omega⟩
      have hj : j < up.length := by omega
      refine wlk_sreg fun KY hKY => ?_
      simp only [go_sem, reduceIte, Nat.reduceEqDiff, Nat.reduceBEq, reduceCtorEq, Nat.div_one, Nat.reduceLT, Nat.reduceLeDiff, Nat.reduceAdd, Nat.reduceSub, Nat.reduceMul, Nat.reduceDiv, Int.cast_ofNat_Int, Int.reduceAdd, Int.reduceNeg, Int.reduceEq, Int.reduceLT, Int.reduceLE, Int.reduceNe, decide_true, decide_false, bne_self_eq_false, Bool.not_false, Bool.not_true, c_join_Join_Same_r1]
      refine call_view rfl (by simp only [go_sem, reduceIte, Nat.reduceEqDiff, Nat.reduceBEq, reduceCtorEq, Nat.div_one, Nat.reduceLT, Nat.reduceLeDiff, Nat.reduceAdd, Nat.reduceSub, Nat.reduceMul, Nat.reduceDiv, Int.cast_ofNat_Int, Int.reduceAdd, Int.reduceNeg, Int.reduceEq, Int.reduceLT, Int.reduceLE, Int.reduceNe, decide_true, decide_false, bne_self_eq_false, Bool.not_false, Bool.not_true]; rfl) ?_
      refine (is_ok up _ _ i).mono ?_
      rintro rr hh ⟨rfl, rfl⟩
      refine ⟨rfl, rfl, rfl, ?_⟩
      rw [ha']
      simp only [go_sem, reduceIte, Nat.reduceEqDiff, Nat.reduceBEq, reduceCtorEq, Nat.div_one, Nat.reduceLT, Nat.reduceLeDiff, Nat.reduceAdd, Nat.reduceSub, Nat.reduceMul, Nat.reduceDiv, Int.cast_ofNat_Int, Int.reduceAdd, Int.reduceNeg, Int.reduceEq, Int.reduceLT, Int.reduceLE, Int.reduceNe, decide_true, decide_false, bne_self_eq_false, Bool.not_false, Bool.not_true]
      refine call_view rfl (by simp only [go_sem, reduceIte, Nat.reduceEqDiff, Nat.reduceBEq, reduceCtorEq, Nat.div_one, Nat.reduceLT, Nat.reduceLeDiff, Nat.reduceAdd, Nat.reduceSub, Nat.reduceMul, Nat.reduceDiv, Int.cast_ofNat_Int, Int.reduceAdd, Int.reduceNeg, Int.reduceEq, Int.reduceLT, Int.reduceLE, Int.reduceNe, decide_true, decide_false, bne_self_eq_false, Bool.not_false, Bool.not_true]; rfl) ?_
      refine (is_ok up _ _ j).mono ?_
      rintro rr hh ⟨rfl, rfl⟩
      refine ⟨rfl, rfl, rfl, ?_⟩
      rw [hb']
      simp only [go_sem, reduceIte, Nat.reduceEqDiff, Nat.reduceBEq, reduceCtorEq, Nat.div_one, Nat.reduceLT, Nat.reduceLeDiff, Nat.reduceAdd, Nat.reduceSub, Nat.reduceMul, Nat.reduceDiv, Int.cast_ofNat_Int, Int.reduceAdd, Int.reduceNeg, Int.reduceEq, Int.reduceLT, Int.reduceLE, Int.reduceNe, decide_true, decide_false, bne_self_eq_false, Bool.not_false, Bool.not_true]
      refine call_gen [] [0] false none rfl (by simp only [go_sem, reduceIte, Nat.reduceEqDiff, Nat.reduceBEq, reduceCtorEq, Nat.div_one, Nat.reduceLT, Nat.reduceLeDiff, Nat.reduceAdd, Nat.reduceSub, Nat.reduceMul, Nat.reduceDiv, Int.cast_ofNat_Int, Int.reduceAdd, Int.reduceNeg, Int.reduceEq, Int.reduceLT, Int.reduceLE, Int.reduceNe, decide_true, decide_false, bne_self_eq_false, Bool.not_false, Bool.not_true]; rfl) (by simp only [go_sem, reduceIte, Nat.reduceEqDiff, Nat.reduceBEq, reduceCtorEq, Nat.div_one, Nat.reduceLT, Nat.reduceLeDiff, Nat.reduceAdd, Nat.reduceSub, Nat.reduceMul, Nat.reduceDiv, Int.cast_ofNat_Int, Int.reduceAdd, Int.reduceNeg, Int.reduceEq, Int.reduceLT, Int.reduceLE, Int.reduceNe, decide_true, decide_false, bne_self_eq_false, Bool.not_false, Bool.not_true]; rfl) rfl rfl rfl (by simp only [go_sem, reduceIte, Nat.reduceEqDiff, Nat.reduceBEq, reduceCtorEq, Nat.div_one, Nat.reduceLT, Nat.reduceLeDiff, Nat.reduceAdd, Nat.reduceSub, Nat.reduceMul, Nat.reduceDiv, Int.cast_ofNat_Int, Int.reduceAdd, Int.reduceNeg, Int.reduceEq, Int.reduceLT, Int.reduceLE, Int.reduceNe, decide_true, decide_false, bne_self_eq_false, Bool.not_false, Bool.not_true, watchIn]; rfl) (by simp only [go_sem, reduceIte, Nat.reduceEqDiff, Nat.reduceBEq, reduceCtorEq, Nat.div_one, Nat.reduceLT, Nat.reduceLeDiff, Nat.reduceAdd, Nat.reduceSub, Nat.reduceMul, Nat.reduceDiv, Int.cast_ofNat_Int, Int.reduceAdd, Int.reduceNeg, Int.reduceEq, Int.reduceLT, Int.reduceLE, Int.reduceNe, decide_true, decide_false, bne_self_eq_false, Bool.not_false, Bool.not_true]; rfl) (by simp only [go_sem, reduceIte, Nat.reduceEqDiff, Nat.reduceBEq, reduceCtorEq, Nat.div_one, Nat.reduceLT, Nat.reduceLeDiff, Nat.reduceAdd, Nat.reduceSub, Nat.reduceMul, Nat.reduceDiv, Int.cast_ofNat_Int, Int.reduceAdd, Int.reduceNeg, Int.reduceEq, Int.reduceLT, Int.reduceLE, Int.reduceNe, decide_true, decide_false, bne_self_eq_false, Bool.not_false, Bool.not_true]; rfl) ?_
      refine ((first_okL up r d _ _ J.F i hi).nil).mono ?_
      rintro _ _ ⟨rfl, up1, F1, hl1, rfl⟩
      refine ⟨Nat.le_of_ble_eq_true rfl, (fun hh => by cases hh), ?_⟩
      simp only [go_sem, reduceIte, Nat.reduceEqDiff, Nat.reduceBEq, reduceCtorEq, Nat.div_one, Nat.reduceLT, Nat.reduceLeDiff, Nat.reduceAdd, Nat.reduceSub, Nat.reduceMul, Nat.reduceDiv, Int.cast_ofNat_Int, Int.reduceAdd, Int.reduceNeg, Int.reduceEq, Int.reduceLT, Int.reduceLE, Int.reduceNe, decide_true, decide_false, bne_self_eq_false, Bool.not_false, Bool.not_true, callOut, AState.after]
      refine call_gen [] [0] false none rfl (by simp only [go_sem, reduceIte, Nat.reduceEqDiff, Nat.reduceBEq, reduceCtorEq, Nat.div_one, Nat.reduceLT, Nat.reduceLeDiff, Nat.reduceAdd, Nat.reduceSub, Nat.reduceMul, Nat.reduceDiv, Int.cast_ofNat_Int, Int.reduceAdd, Int.reduceNeg, Int.reduceEq, Int.reduceLT, Int.reduceLE, Int.reduceNe, decide_true, decide_false, bne_self_eq_false, Bool.not_false, Bool.not_true]; rfl) (by simp only [go_sem, reduceIte, Nat.reduceEqDiff, Nat.reduceBEq, reduceCtorEq, Nat.div_one, Nat.reduceLT, Nat.reduceLeDiff, Nat.reduceAdd, Nat.reduceSub, Nat.reduceMul, Nat.reduceDiv, Int.cast_ofNat_Int, Int.reduceAdd, Int.reduceNeg, Int.reduceEq, Int.reduceLT, Int.reduceLE, Int.reduceNe, decide_true, decide_false, bne_self_eq_false, Bool.not_false, Bool.not_true]; rfl) rfl rfl rfl (by simp only [go_sem, reduceIte, Nat.reduceEqDiff, Nat.reduceBEq, reduceCtorEq, Nat.div_one, Nat.reduceLT, Nat.reduceLeDiff, Nat.reduceAdd, Nat.reduceSub, Nat.reduceMul, Nat.reduceDiv, Int.cast_ofNat_Int, Int.reduceAdd, Int.reduceNeg, Int.reduceEq, Int.reduceLT, Int.reduceLE, Int.reduceNe, decide_true, decide_false, bne_self_eq_false, Bool.not_false, Bool.not_true, watchIn]; rfl) (by simp only [go_sem, reduceIte, Nat.reduceEqDiff, Nat.reduceBEq, reduceCtorEq, Nat.div_one, Nat.reduceLT, Nat.reduceLeDiff, Nat.reduceAdd, Nat.reduceSub, Nat.reduceMul, Nat.reduceDiv, Int.cast_ofNat_Int, Int.reduceAdd, Int.reduceNeg, Int.reduceEq, Int.reduceLT, Int.reduceLE, Int.reduceNe, decide_true, decide_false, bne_self_eq_false, Bool.not_false, Bool.not_true]; rfl) (by simp only [go_sem, reduceIte, Nat.reduceEqDiff, Nat.reduceBEq, reduceCtorEq, Nat.div_one, Nat.reduceLT, Nat.reduceLeDiff, Nat.reduceAdd, Nat.reduceSub, Nat.reduceMul, Nat.reduceDiv, Int.cast_ofNat_Int, Int.reduceAdd, Int.reduceNeg, Int.reduceEq, Int.reduceLT, Int.reduceLE, Int.reduceNe, decide_true, decide_false, bne_self_eq_false, Bool.not_false, Bool.not_true]; rfl) ?_
      refine ((first_okL up1 r d _ _ F1 j (by omega)).nil).mono ?_
      rintro _ _ ⟨rfl, up2, F2, hl2, rfl⟩
      refine ⟨Nat.le_of_ble_eq_true rfl, (fun hh => by cases hh), ?_⟩
      simp only [go_sem, reduceIte, Nat.reduceEqDiff, Nat.reduceBEq, reduceCtorEq, Nat.div_one, Nat.reduceLT, Nat.reduceLeDiff, Nat.reduceAdd, Nat.reduceSub, Nat.reduceMul, Nat.reduceDiv, Int.cast_ofNat_Int, Int.reduceAdd, Int.reduceNeg, Int.reduceEq, Int.reduceLT, Int.reduceLE, Int.reduceNe, decide_true, decide_false, bne_self_eq_false, Bool.not_false, Bool.not_true, callOut, AState.after]
      refine hKY _ ?_
      refine wlk_ret ?_
      simp only [go_sem, reduceIte, Nat.reduceEqDiff, Nat.reduceBEq, reduceCtorEq, Nat.div_one, Nat.reduceLT, Nat.reduceLeDiff, Nat.reduceAdd, Nat.reduceSub, Nat.reduceMul, Nat.reduceDiv, Int.cast_ofNat_Int, Int.reduceAdd, Int.reduceNeg, Int.reduceEq, Int.reduceLT, Int.reduceLE, Int.reduceNe, decide_true, decide_false, bne_self_eq_false, Bool.not_false, Bool.not_true]
      have e := J.eqv i j (by omega) (by omega)
      refine ⟨?_, up2, J.up' F2 (hl2.trans hl1), rfl⟩
      congr 2
      rw [decide_eq_decide]
      omega
    · have hb' : decide (0 ≤ b ∧ b < up.length) = false := decide_eq_false hb
      refine wlk_sreg fun KY hKY => ?_
      simp only [go_sem, reduceIte, Nat.reduceEqDiff, Nat.reduceBEq, reduceCtorEq, Nat.div_one, Nat.reduceLT, Nat.reduceLeDiff, Nat.reduceAdd, Nat.reduceSub, Nat.reduceMul, Nat.reduceDiv, Int.cast_ofNat_Int, Int.reduceAdd, Int.reduceNeg, Int.reduceEq, Int.reduceLT, Int.reduceLE, Int.reduceNe, decide_true, decide_false, bne_self_eq_false, Bool.not_false, Bool.not_true, c_join_Join_Same_r1]
      refine call_view rfl (by simp only [go_sem, reduceIte, Nat.reduceEqDiff, Nat.reduceBEq, reduceCtorEq, Nat.div_one, Nat.reduceLT, Nat.reduceLeDiff, Nat.reduceAdd, Nat.reduceSub, Nat.reduceMul, Nat.reduceDiv, Int.cast_ofNat_Int, Int.reduceAdd, Int.reduceNeg, Int.reduceEq, Int.reduceLT, Int.reduceLE, Int.reduceNe, decide_true, decide_false, bne_self_eq_false, Bool.not_false, Bool.not_true]; rfl) ?_
      refine (is_ok up _ _ i).mono ?_
      rintro rr hh ⟨rfl, rfl⟩
      refine ⟨rfl, rfl, rfl, ?_⟩
      rw [ha']
      simp only [go_sem, reduceIte, Nat.reduceEqDiff, Nat.reduceBEq, reduceCtorEq, Nat.div_one, Nat.reduceLT, Nat.reduceLeDiff, Nat.reduceAdd, Nat.reduceSub, Nat.reduceMul, Nat.reduceDiv, Int.cast_ofNat_Int, Int.reduceAdd, Int.reduceNeg, Int.reduceEq, Int.reduceLT, Int.reduceLE, Int.reduceNe, decide_true, decide_false, bne_self_eq_false, Bool.not_false, Bool.not_true]
      refine call_view rfl (by simp only [go_sem, reduceIte, Nat.reduceEqDiff, Nat.reduceBEq, reduceCtorEq, Nat.div_one, Nat.reduceLT, Nat.reduceLeDiff, Nat.reduceAdd, Nat.reduceSub, Nat.reduceMul, Nat.reduceDiv, Int.cast_ofNat_Int, Int.reduceAdd, Int.reduceNeg, Int.reduceEq, Int.reduceLT, Int.reduceLE, Int.reduceNe, decide_true, decide_false, bne_self_eq_false, Bool.not_false, Bool.not_true]; rfl) ?_
      refine (is_ok up _ _ b).mono ?_
      rintro rr hh ⟨rfl, rfl⟩
      refine ⟨rfl, rfl, rfl, ?_⟩
      rw [hb']
      simp only [go_sem, reduceIte, Nat.reduceEqDiff, Nat.reduceBEq, reduceCtorEq, Nat.div_one, Nat.reduceLT, Nat.reduceLeDiff, Nat.reduceAdd, Nat.reduceSub, Nat.reduceMul, Nat.reduceDiv, Int.cast_ofNat_Int, Int.reduceAdd, Int.reduceNeg, Int.reduceEq, Int.reduceLT, Int.reduceLE, Int.reduceNe, decide_true, decide_false, bne_self_eq_false, Bool.not_false, Bool.not_true]
      refine hKY _ ?_
      refine wlk_ret ?_
      simp only [go_sem, reduceIte, Nat.reduceEqDiff, Nat.reduceBEq, reduceCtorEq, Nat.div_one, Nat.reduceLT, Nat.reduceLeDiff, Nat.reduceAdd, Nat.reduceSub, Nat.reduceMul, Nat.reduceDiv, Int.cast_ofNat_Int, Int.reduceAdd, Int.reduceNeg, Int.reduceEq, Int.reduceLT, Int.reduceLE, Int.reduceNe, decide_true, decide_false, bne_self_eq_false, Bool.not_false, Bool.not_true]
      refine ⟨?_, up, J, rfl⟩
      congr 2
      exact (decide_eq_false (by rw [← hu]; exact fun h => hb h.2.1)).symm
  · have ha' : decide (0 ≤ a ∧ a < up.length) = false := decide_eq_false ha
    refine wlk_sreg fun KY hKY => ?_
    simp only [go_sem, reduceIte, Nat.reduceEqDiff, Nat.reduceBEq, reduceCtorEq, Nat.div_one, Nat.reduceLT, Nat.reduceLeDiff, Nat.reduceAdd, Nat.reduceSub, Nat.reduceMul, Nat.reduceDiv, Int.cast_ofNat_Int, Int.reduceAdd, Int.reduceNeg, Int.reduceEq, Int.reduceLT, Int.reduceLE, Int.reduceNe, decide_true, decide_false, bne_self_eq_false, Bool.not_false, Bool.not_true, c_join_Join_Same_r1]
    refine call_view rfl (by simp only [go_sem, reduceIte, Nat.reduceEqDiff, Nat.reduceBEq, reduceCtorEq, Nat.div_one, Nat.reduceLT, Nat.reduceLeDiff, Nat.reduceAdd, Nat.reduceSub, Nat.reduceMul, Nat.reduceDiv, Int.cast_ofNat_Int, Int.reduceAdd, Int.reduceNeg, Int.reduceEq, Int.reduceLT, Int.reduceLE, Int.reduceNe, decide_true, decide_false, bne_self_eq_false, Bool.not_false, Bool.not_true]; rfl) ?_
    refine (is_ok up _ _ a).mono ?_
    rintro rr hh ⟨rfl, rfl⟩
    refine ⟨rfl, rfl, rfl, ?_⟩
    rw [ha']
    simp only [go_sem, reduceIte, Nat.reduceEqDiff, Nat.reduceBEq, reduceCtorEq, Nat.div_one, Nat.reduceLT, Nat.reduceLeDiff, Nat.reduceAdd, Nat.reduceSub, Nat.reduceMul, Nat.reduceDiv, Int.cast_ofNat_Int, Int.reduceAdd, Int.reduceNeg, Int.reduceEq, Int.reduceLT, Int.reduceLE, Int.reduceNe, decide_true, decide_false, bne_self_eq_false, Bool.not_false, Bool.not_true]
    refine hKY _ ?_
    refine wlk_ret ?_
    simp only [go_sem, reduceIte, Nat.reduceEqDiff, Nat.reduceBEq, reduceCtorEq, Nat.div_one, Nat.reduceLT, Nat.reduceLeDiff, Nat.reduceAdd, Nat.reduceSub, Nat.reduceMul, Nat.reduceDiv, Int.cast_ofNat_Int, Int.reduceAdd, Int.reduceNeg, Int.reduceEq, Int.reduceLT, Int.reduceLE, Int.reduceNe, decide_true, decide_false, bne_self_eq_false, Bool.not_false, Bool.not_true]
    refine ⟨?_, up, J, rfl⟩
    congr 2
    exact (decide_eq_false (by rw [← hu]; exact fun h => ha h.1)).symm

theorem len_ok (up : AVal) (of : AVal) (len : Int) : ACalls Try.prog [] n_join_Join_Len [.ia [up, of, .sc (.int .i64 len)]] [] fun x h' => x = .sc (.int .i64 len) ∧ h' = [] := by
  refine go_join_Join_Len rfl ?_
  unfold c_join_Join_Len v_join_Join_Len
  refine wlk_sreg fun KY hKY => ?_
  simp only [go_sem, reduceIte, Nat.reduceEqDiff, Nat.reduceBEq, reduceCtorEq, Nat.div_one, Nat.reduceLT, Nat.reduceLeDiff, Nat.reduceAdd, Nat.reduceSub, Nat.reduceMul, Nat.reduceDiv, Int.cast_ofNat_Int, Int.reduceAdd, Int.reduceNeg, Int.reduceEq, Int.reduceLT, Int.reduceLE, Int.reduceNe, decide_true, decide_false, bne_self_eq_false, Bool.not_false, Bool.not_true, c_join_Join_Len_r0]
  refine hKY _ ?_
  refine wlk_seq fun X1 hn1 he1 hr1 => ?_
  refine wlk_sreg fun KY hKY => ?_
  simp only [go_sem, reduceIte, Nat.reduceEqDiff, Nat.reduceBEq, reduceCtorEq, Nat.div_one, Nat.reduceLT, Nat.reduceLeDiff, Nat.reduceAdd, Nat.reduceSub, Nat.reduceMul, Nat.reduceDiv, Int.cast_ofNat_Int, Int.reduceAdd, Int.reduceNeg, Int.reduceEq, Int.reduceLT, Int.reduceLE, Int.reduceNe, decide_true, decide_false, bne_self_eq_false, Bool.not_false, Bool.not_true, c_join_Join_Len_r1]
  refine hKY _ ?_
  simp only [go_sem, reduceIte, Nat.reduceEqDiff, Nat.reduceBEq, reduceCtorEq, Nat.div_one, Nat.reduceLT, Nat.reduceLeDiff, Nat.reduceAdd, Nat.reduceSub, Nat.reduceMul, Nat.reduceDiv, Int.cast_ofNat_Int, Int.reduceAdd, Int.reduceNeg, Int.reduceEq, Int.reduceLT, Int.reduceLE, Int.reduceNe, decide_true, decide_false, bne_self_eq_false, Bool.not_false, Bool.not_true]
  refine wlk_cond0 rfl (wlk_skip (hn1 _ ?_))
  refine wlk_sreg fun KY hKY => ?_
  simp only [go_sem, reduceIte, Nat.reduceEqDiff, Nat.reduceBEq, reduceCtorEq, Nat.div_one, Nat.reduceLT, Nat.reduceLeDiff, Nat.reduceAdd, Nat.reduceSub, Nat.reduceMul, Nat.reduceDiv, Int.cast_ofNat_Int, Int.reduceAdd, Int.reduceNeg, Int.reduceEq, Int.reduceLT, Int.reduceLE, Int.reduceNe, decide_true, decide_false, bne_self_eq_false, Bool.not_false, Bool.not_true, c_join_Join_Len_r3]
  refine hKY _ ?_
  refine wlk_ret ?_
  simp only [go_sem, reduceIte, Nat.reduceEqDiff, Nat.reduceBEq, reduceCtorEq, Nat.div_one, Nat.reduceLT, Nat.reduceLeDiff, Nat.reduceAdd, Nat.reduceSub, Nat.reduceMul, Nat.reduceDiv, Int.cast_ofNat_Int, Int.reduceAdd, Int.reduceNeg, Int.reduceEq, Int.reduceLT, Int.reduceLE, Int.reduceNe, decide_true, decide_false, bne_self_eq_false, Bool.not_false, Bool.not_true]

end Go.Proofs.Yticfnlclbmibeaa
